/- An abstract evaluator, proved right: one text out of 9. -/
import Derived.Test.YtmgcpfljhcahoaaRows
import Derived.WalkKit
import Derived.Test.YtmgcpfljhcahoaaHeap
import Derived.CallsIn
import Derived.RangeFuncRecord
import Derived.Laws.Tables
import Derived.Laws.BytesArg
namespace Go.Proofs.Ytmgcpfljhcahoaa
open Go

namespace Ae

inductive R (α : Type) where
  | ok (a : α)
  | err (c : Nat) (p : String)

/-! Tries -/
inductive Tr (α : Type) where
  | leaf
  | node (v : Option α) (l r : Tr α)

def Tr.get {α : Type} : Tr α → Nat → Option α
  | .leaf, _ => none
  | .node v l r, n => match n with
    | 0 => v
    | m + 1 => bif Nat.beq (m % 2) 0 then l.get (m / 2) else r.get (m / 2)

def Tr.setK {α β : Type} : (fuel : Nat) → Tr α → Nat → Option α → (Tr α → R β) → R β
  | 0, _, _, _, _ => .err 1 ""
  | f + 1, .leaf, n, x, k => match n with
    | 0 => k (.node x .leaf .leaf)
    | m + 1 => bif Nat.beq (m % 2) 0 then Tr.setK f .leaf (m / 2) x (fun l => k (.node none l .leaf)) else Tr.setK f .leaf (m / 2) x (fun r => k (.node none .leaf r))
  | f + 1, .node v l r, n, x, k => match n with
    | 0 => k (.node x l r)
    | m + 1 => bif Nat.beq (m % 2) 0 then Tr.setK f l (m / 2) x (fun l => k (.node v l r)) else Tr.setK f r (m / 2) x (fun r => k (.node v l r))

/-! States -/
inductive AObj where
  | cells (l : List Value) (e : TypeId) (op : Bool)
  | map (es : List MapEntry) (clock : Nat)
  | mapIter (m : Option Nat) (since : Nat) (seen : List Nat) (stepped : Nat)
  | loop (st : LoopState) (pending : Option Code) (fn : FuncId) (sz : Nat) (tmps : Tr Value) (params : List Tmp) (assign body : Code) (defers : Nat)
  | deferred (live : Bool)

/-- n: the next name; low: the least name that was written. -/
structure ASt where
  n : Nat
  low : Nat
  H : Tr AObj

structure AAct where
  sz : Nat
  tmps : Tr Value
  marks : List Nat

inductive AExit where
  | normal
  | exit (id : Nat)
  | ret

structure Out where
  e : AExit
  a : AAct
  v : Value
  s : ASt

inductive Task where
  | code (r : Option Nat) (fn : FuncId) (c : Code) (a : AAct)
  | call (f : FuncId) (args : List Value)
  | yield (l : Nat) (args : List Value)

def noAct : AAct := ⟨0, .leaf, []⟩

/-! Forcing -/
def natK {β : Type} (n : Nat) (k : Nat → R β) : R β := match n with
  | 0 => k 0
  | m + 1 => k (m + 1)
def intK {β : Type} (n : Int) (k : Int → R β) : R β := match n with
  | .ofNat m => natK m fun m => k (.ofNat m)
  | .negSucc m => natK m fun m => k (.negSucc m)
def boolK {β : Type} (b : Bool) (k : Bool → R β) : R β := match b with
  | true => k true
  | false => k false
def valK {β : Type} (v : Value) (k : Value → R β) : R β := match v with
  | .int i n => intK n fun n => k (.int i n)
  | .bool b => boolK b fun b => k (.bool b)
  | v => k v

/-! Values that speak of no memory -/
def plain1 : Value → Bool
  | .bool _ | .int _ _ | .string _ | .pointer none | .map none | .chan none | .nilFunc | .nilIface => true
  | .slice none _ 0 => true
  | _ => false
def plain : Value → Bool
  | .agg cs => cs.toList.all plain1
  | .tuple cs => cs.toList.all plain1
  | v => plain1 v

def opd (t : Tr Value) : Operand → R Value
  | .tmp i => match t.get i with
    | some v => .ok v
    | none => .err 2 ""
  | .const v => bif plain v then .ok v else .err 3 ""
  | .func f => .ok (.func (.func f) #[] #[])
  | .global _ => .err 4 ""

def opds (t : Tr Value) : List Operand → R (List Value)
  | [] => .ok []
  | x :: l => match opd t x with
    | .ok v => match opds t l with
      | .ok vs => .ok (v :: vs)
      | .err c p => .err c p
    | .err c p => .err c p

/-! A computation of the model's that asks nothing of the world -/
def pureRun {α : Type} (P : Program) : Sem α → Option α
  | .pure a => some a
  | .program k => pureRun P (k P)
  | _ => none

def cellsOf : Value → List Value
  | .agg cs => cs.toList
  | v => [v]

def takeK {β : Type} : (n : Nat) → List Value → (List Value → R β) → R β
  | 0, _, k => k []
  | _ + 1, [], _ => .err 5 ""
  | n + 1, v :: l, k => takeK n l fun l => k (v :: l)
def dropK {β : Type} : (n : Nat) → List Value → (List Value → R β) → R β
  | 0, l, k => k l
  | _ + 1, [], _ => .err 6 ""
  | n + 1, _ :: l, k => dropK n l k
/-- The first values of a list in the place of the others. -/
def overK {β : Type} : List Value → List Value → (List Value → R β) → R β
  | [], l, k => k l
  | _ :: _, [], _ => .err 7 ""
  | v :: vs, _ :: l, k => overK vs l fun l => k (v :: l)
def putAtK {β : Type} : (n : Nat) → List Value → List Value → (List Value → R β) → R β
  | 0, l, vs, k => overK vs l k
  | _ + 1, [], _, _ => .err 8 ""
  | n + 1, x :: l, vs, k => putAtK n l vs fun l => k (x :: l)

def oneCells : List Value → Bool
  | [] => true
  | .agg _ :: _ => false
  | .tuple _ :: _ => false
  | _ :: l => oneCells l

section
variable (P : Program)

def isAggT (t : TypeId) : Option Bool := match P.underlying t with
  | some (.struct _) => some true
  | some (.array _ _) => some true
  | some _ => some false
  | none => none
def sizeT (t : TypeId) : Option Nat := (P.info? t).map (·.size)
def bytesT (t : TypeId) : Option Nat := (P.info? t).map (·.bytes)
def zeroT (t : TypeId) : Option Value := (P.info? t).bind (·.zero)

def getCells {β : Type} (s : ASt) (b : Nat) (k : List Value → TypeId → Bool → R β) : R β := match s.H.get b with
  | some (.cells l e op) => k l e op
  | _ => .err 9 ""

def loadA (s : ASt) (t : TypeId) (a : Addr) : R Value :=
  getCells s a.block fun l _ _ => dropK a.off l fun l => match isAggT P t with
    | some true => match sizeT P t with
      | some n => takeK n l fun l => .ok (.agg l.toArray)
      | none => .err 10 ""
    | some false => match l with
      | v :: _ => .ok v
      | [] => .err 11 ""
    | none => .err 12 ""

def minK {β : Type} (a b : Nat) (k : Nat → R β) : R β := bif Nat.ble a b then k a else k b
def setObjK {β : Type} (s : ASt) (b : Nat) (o : Option AObj) (k : ASt → R β) : R β := s.H.setK 60 b o fun H => minK b s.low fun low => k ⟨s.n, low, H⟩
def newObjK {β : Type} (s : ASt) (o : AObj) (k : Nat → ASt → R β) : R β :=
  s.H.setK 60 s.n (some o) fun H => natK (s.n + 1) fun n' => k s.n ⟨n', s.low, H⟩

def storeA {β : Type} (s : ASt) (t : TypeId) (a : Addr) (v : Value) (k : ASt → R β) : R β :=
  match sizeT P t with
  | some n => bif Nat.beq (cellsOf v).length n then
      bif oneCells (cellsOf v) then getCells s a.block fun l e op => putAtK a.off l (cellsOf v) fun l => setObjK s a.block (some (.cells l e op)) k
      else .err 13 ""
    else .err 14 ""
  | none => .err 15 ""

/-! 'build' -/
def fillA {β : Type} (place : Nat → Option (Nat × Nat)) : List (Nat × Value) → List Value → (List Value → R β) → R β
  | [], l, k => k l
  | (i, v) :: r, l, k => match place i with
    | some (off, size) => bif Nat.beq (cellsOf v).length size then putAtK off l (cellsOf v) fun l => fillA place r l k else .err 16 ""
    | none => .err 17 ""

def replicateK {β : Type} : (n : Nat) → List Value → List Value → (List Value → R β) → R β
  | 0, _, acc, k => k acc
  | n + 1, z, acc, k => replicateK n z (z ++ acc) k

def opdPairs (t : Tr Value) : List (Nat × Operand) → R (List (Nat × Value))
  | [] => .ok []
  | (i, x) :: l => match opd t x with
    | .ok v => match opdPairs t l with
      | .ok vs => .ok ((i, v) :: vs)
      | .err c p => .err c p
    | .err c p => .err c p

/-- What is known of what is not known: comparisons, lengths. -/
structure Facts where
  bin : BinOp → Value → Value → Option Value
  len : Value → Option Value
  sum : FuncId → List Value → ASt → Option Out := fun _ _ _ => none
  op : BinOp → TypeId → Value → Value → Option Value := fun _ _ _ _ => none
def noFacts : Facts := { bin := fun _ _ _ => none, len := fun _ => none }

def pureV (c : Nat) (p : String) (x : Sem Value) : R Value := match pureRun P x with
  | some r => bif plain r then valK r .ok else .err c p
  | none => .err c p

/-! Comparisons of what may be a pointer -/
def eqA (t : TypeId) (u v : Value) : Option Bool := match P.underlying t, u, v with
  | some (.pointer e), .pointer (some a), .pointer (some b) => bif Nat.beq a.block b.block then match sizeT P e with
      | some (_ + 1) => some (Nat.beq a.off b.off)
      | _ => none
    else none
  | some (.pointer _), .pointer (some _), .pointer none => some false
  | some (.pointer _), .pointer none, .pointer (some _) => some false
  | some (.map _ _), .map (some _), .map none => some false
  | some (.slice _), .slice (some _) _ _, .slice none _ _ => some false
  | some (.func _ _ _), .func _ _ _, .nilFunc => some false
  | some (.interface _), .iface _ _, .nilIface => some false
  | _, _, _ => none

def intBin (op : BinOp) (k : IntKind) (a b : Int) : Option Value := match op with
  | .add => some (.int k (k.wrap (a + b)))
  | .sub => some (.int k (k.wrap (a - b)))
  | .mul => some (.int k (k.wrap (a * b)))
  | .eql => some (.bool (a == b))
  | .neq => some (.bool (a != b))
  | .lss => some (.bool (a < b))
  | .leq => some (.bool (a ≤ b))
  | .gtr => some (.bool (a > b))
  | .geq => some (.bool (a ≥ b))
  | _ => none

def isEq : BinOp → Option Bool
  | .eql => some true
  | .neq => some false
  | _ => none

def binA (F : Facts) (o : Oper) (op : BinOp) (t : TypeId) (x y : Operand) (u v : Value) : R Value :=
  let rest : R Value := bif plain u && plain v then pureV P 19 o.pos (do eqGuard op t x y u v; binOp op t u v) else match isEq op, eqA P t u v with
    | some w, some b => boolK (b == w) fun b => .ok (.bool b)
    | _, _ => match F.bin op u v with
      | some r => valK r .ok
      | none => match F.op op t u v with
        | some r => .ok r
        | none => .err 20 o.pos
  match u, v with
  | .int j a, .int k b => bif decide (j = k) then match intBin op j a b with
      | some r => valK r .ok
      | none => rest
    else rest
  | _, _ => rest

/-! Maps: the place of a key. A kind of keys is that of a number or of a string, or .pointer of a struct's type (all known). -/
def sameA (F : Facts) (kind : TypeDesc) (k k' : Value) : Option Bool := match kind with
  | .pointer kt => bif plain k && plain k' then match pureRun P (Op.equal kt k k') with
      | some true => bif sameKey k k' && Instr.sameBits 10000 k' k then some true else none
      | some false => some false
      | none => none
    else none
  | .int _ => match k, k' with
    | .int j a, .int j' b => bif decide (j = j') then some (decide (a = b)) else none
    | u, v => match F.bin .eql u v with
      | some (.bool b) => some b
      | _ => none
  | .string => match k, k' with
    | .string a, .string b => some (a.data.toList == b.data.toList)
    | _, _ => none
  | _ => none
where
  sameBytes : List UInt8 → List UInt8 → Bool
    | [], [] => true
    | a :: l, b :: m => Nat.beq a.toNat b.toNat && sameBytes l m
    | _, _ => false
  sameCells : List Value → List Value → Bool
    | [], [] => true
    | .int j a :: l, .int k b :: m => decide (j = k) && decide (a = b) && sameCells l m
    | .string a :: l, .string b :: m => sameBytes a.data.toList b.data.toList && sameCells l m
    | _, _ => false
  sameKey : Value → Value → Bool
    | .agg a, .agg b => sameCells a.toList b.toList
    | _, _ => false
def findA (F : Facts) (kind : TypeDesc) (k : Value) : List MapEntry → Nat → Option (Option (Nat × Value))
  | [], _ => some none
  | e :: es, i => match sameA P F kind k e.key with
    | some true => some (some (i, e.val))
    | some false => findA F kind k es (i + 1)
    | none => none
/-- A key of a struct's type that may be looked for. -/
def keyOk (kind : TypeDesc) (k : Value) : Bool := match kind with
  | .pointer kt => plain k && (pureRun P (Instr.checkKey true 10000 kt k)).isSome && (pureRun P (Instr.checkKey false 10000 kt k)).isSome
  | _ => true
def findK (F : Facts) (kind : TypeDesc) (k : Value) (es : List MapEntry) : Option (Option (Nat × Value)) := bif keyOk P kind k then findA P F kind k es 0 else none

def setEntryK {β : Type} : (i : Nat) → List MapEntry → (MapEntry → MapEntry) → (List MapEntry → R β) → R β
  | _, [], _, _ => .err 21 ""
  | 0, e :: es, f, k => k (f e :: es)
  | i + 1, e :: es, f, k => setEntryK i es f fun es => k (e :: es)
def pushEntryK {β : Type} : List MapEntry → MapEntry → (List MapEntry → R β) → R β
  | [], x, k => k [x]
  | e :: es, x, k => pushEntryK es x fun es => k (e :: es)
def dropEntryK {β : Type} : (i : Nat) → List MapEntry → (List MapEntry → R β) → R β
  | _, [], _ => .err 22 ""
  | 0, _ :: es, k => k es
  | i + 1, e :: es, k => dropEntryK i es fun es => k (e :: es)

def findBorn (b : Nat) : List MapEntry → Nat → Option Nat
  | [], _ => none
  | e :: es, i => bif Nat.beq e.born b then some i else findBorn b es (i + 1)

def keyKind (t : TypeId) : Option (TypeDesc × TypeId) := match P.underlying t with
  | some (.map k e) => match P.underlying k with
    | some (.int i) => some (.int i, e)
    | some .string => some (.string, e)
    | some (.struct _) => some (.pointer k, e)
    | _ => none
  | _ => none

def entriesA {β : Type} (s : ASt) (m : Value) (k : List MapEntry → Nat → R β) : R β := match m with
  | .map none => k [] 0
  | .map (some r) => match s.H.get r with
    | some (.map es c) => k es c
    | _ => .err 23 ""
  | _ => .err 24 ""

def putA {β : Type} (F : Facts) (s : ASt) (t : TypeId) (m key v : Value) (k : ASt → R β) : R β := match keyKind P t, m with
  | some (kd, _), .map (some r) => match s.H.get r with
    | some (.map es c) => match findK P F kd key es with
      | some (some (i, _)) => setEntryK i es (fun e => { e with key := key, val := v }) fun es => setObjK s r (some (.map es c)) k
      | some none => natK (c + 1) fun c' => pushEntryK es { key := key, val := v, born := c } fun es => setObjK s r (some (.map es c')) k
      | none => .err 25 ""
    | _ => .err 26 ""
  | _, _ => .err 27 ""

/-! Slices. A capacity c is laid as 2 c where it is known; as 2 l + 1 where the slice begins l elements behind the start of a row whose size is not known. -/
def isOpen (cap : Nat) : Bool := Nat.beq (cap % 2) 1

/-- The empty slice behind the end of a row whose size is not known lies at one of two places. -/
def tailM : Nat := 1048576
def natOf : Option Value → Nat → R Nat
  | none, d => .ok d
  | some (.int _ (.ofNat n)), _ => .ok n
  | _, _ => .err 28 ""

/-- How many elements an open slice of one cell each is known to have room for. -/
def roomOf (s : ASt) (t : TypeId) (x : Value) : Nat := match x with
  | .slice (some a) _ cap => bif isOpen cap then match s.H.get a.block, P.underlying t with
      | some (.cells l e true), some (.slice e') => match sizeT P e with
        | some sz => bif Nat.beq e e' && Nat.beq sz 1 then l.length - cap / 2 else 0
        | none => 0
      | _, _ => 0
    else 0
  | _ => 0
def sliceA (room : Nat) (t : TypeId) (x : Value) (lo hi mx : Option Value) : R Value :=
  match P.underlying t, x with
  | some .string, .string s => match mx with
    | some _ => .err 36 ""
    | none => match natOf hi s.size with
      | .ok h => match natOf lo 0 with
        | .ok l => bif Nat.ble h s.size && Nat.ble l h then .ok (.string ⟨((s.data.toList.drop l).take (h - l)).toArray⟩) else .err 29 ""
        | .err c p => .err c p
      | .err c p => .err c p
  | some (.slice e), .slice p len cap => match sizeT P e with
    | some sz => match natOf hi len with
      | .ok h => match natOf lo 0 with
        | .ok l => bif Nat.ble l h then match mx with
          | none => bif isOpen cap then
              bif Nat.ble h len || Nat.ble h room then match p with
                | some a => natK (h - l) fun n => natK (cap + 2 * l) fun c => natK (a.off + l * sz) fun o => bif Nat.blt l len || Nat.beq l 0 || Nat.blt l h then .ok (.slice (some ⟨a.block, o, none⟩) n c)
                  else bif Nat.blt a.off tailM && Nat.blt o tailM && Nat.blt c tailM then natK (((a.block * tailM + a.off) * tailM + o) * tailM + c) fun e => .ok (.float .f32 e) else .err 30 ""
                | none => .err 29 ""
              else .err 30 ""
            else bif Nat.ble h (cap / 2) then natK (h - l) fun n => natK (cap - 2 * l) fun c => match p with
                | none => .ok (.slice none n c)
                | some a => bif Nat.beq (cap / 2) l then .ok (.slice (some a) n c) else natK (a.off + l * sz) fun o => .ok (.slice (some ⟨a.block, o, none⟩) n c)
            else .err 31 ""
          | some m => match hi, natOf (some m) 0 with
            | some _, .ok m => bif Nat.ble h m && (bif isOpen cap then Nat.ble m len else Nat.ble m (cap / 2)) then
                natK (h - l) fun n => natK (2 * (m - l)) fun c => match p with
                  | none => .err 32 ""
                  | some a => bif Nat.beq m l then .ok (.slice (some a) n c) else natK (a.off + l * sz) fun o => .ok (.slice (some ⟨a.block, o, none⟩) n c)
              else .err 32 ""
            | _, _ => .err 32 ""
          else .err 33 ""
        | .err c p => .err c p
      | .err c p => .err c p
    | none => .err 34 ""
  | _, _ => .err 35 ""

def bytesVals (s : ByteArray) : List Value := s.data.toList.map fun b => .int .u8 b.toNat

/-- What is appended or copied: its cells. -/
def srcA {β : Type} (s : ASt) (sz : Nat) (y : Value) (k : Nat → List Value → R β) : R β := match y with
  | .slice none m _ => bif Nat.beq m 0 then k 0 [] else .err 37 ""
  | .slice (some a) m _ => getCells s a.block fun l _ _ => dropK a.off l fun l => takeK (m * sz) l fun l => bif oneCells l then k m l else .err 37 ""
  | .string b => bif Nat.beq sz 1 then k b.size (bytesVals b) else .err 38 ""
  | .float .f32 _ => k 0 []
  | _ => .err 39 ""

def appendA {β : Type} (s : ASt) (t ty : TypeId) (x y : Value) (k : Value → ASt → R β) : R β :=
  match P.underlying t, x, (match P.underlying ty with | some (.int _) => none | d => d) with
  | some (.slice e), .slice p len cap, some _ => match sizeT P e, bytesT P e, zeroT P e with
    | some sz, some bytes, some z => srcA s sz y fun m new => natK (len + m) fun need =>
      bif Nat.ble (need * (bytes + sz)) 1000000000 && Nat.ble 1 sz && plain z && Nat.beq (cellsOf z).length sz then
        bif isOpen cap then
          bif Nat.beq m 0 then k (.slice p len cap) s
          else match p with
            | some a => getCells s a.block fun l e' op => bif op && Nat.beq e' e && Nat.beq a.off (cap / 2 * sz) then
                bif Nat.ble (a.off + need * sz) l.length then putAtK (a.off + len * sz) l new fun l => setObjK s a.block (some (.cells l e' op)) fun s => k (.slice (some a) need cap) s
                else dropK a.off l fun l => takeK (len * sz) l fun old => overListK old new fun l' =>
                setObjK s a.block none fun s => newObjK s (.cells l' e true) fun b s => k (.slice (some ⟨b, 0, none⟩) need 1) s
              else .err 40 ""
            | none => .err 41 ""
        else bif Nat.ble need (cap / 2) then
          match p with
          | none => k (.slice none need cap) s
          | some a => bif Nat.beq m 0 then k (.slice (some a) need cap) s else getCells s a.block fun l e' op => putAtK (a.off + len * sz) l new fun l => setObjK s a.block (some (.cells l e' op)) fun s => k (.slice (some a) need cap) s
        else match p with
          | none => bif Nat.beq len 0 then newObjK s (.cells new e true) fun b s => k (.slice (some ⟨b, 0, none⟩) need 1) s else .err 41 ""
          | some a => getCells s a.block fun l _ _ => dropK a.off l fun l => takeK (len * sz) l fun old => overListK old new fun l' =>
              newObjK s (.cells l' e true) fun b s => k (.slice (some ⟨b, 0, none⟩) need 1) s
      else .err 42 ""
    | _, _, _ => .err 43 ""
  | _, _, _ => .err 44 ""
where
  overListK {β : Type} : List Value → List Value → (List Value → R β) → R β
    | [], l, k => k l
    | v :: vs, l, k => overListK vs l fun l => k (v :: l)

/-- append(x, make(.., m)...) where there is no room. -/
def zerosA {β : Type} (s : ASt) (t : TypeId) (x y : Value) (k : Value → ASt → R β) : R β :=
  match P.underlying t, x, y with
  | some (.slice e), .slice (some a) len cap, .int .i64 (.ofNat m) => match sizeT P e, bytesT P e, zeroT P e with
    | some sz, some bytes, some z => bif !isOpen cap && Nat.blt (cap / 2) (len + m) && Nat.ble 1 m && Nat.ble ((len + m) * (bytes + sz)) 1000000000 && Nat.ble 1 sz && plain z && Nat.beq (cellsOf z).length sz then
        replicateK m (cellsOf z) [] fun new => natK (len + m) fun need => getCells s a.block fun l _ _ => dropK a.off l fun l => takeK (len * sz) l fun old => appendA.overListK old new fun l' =>
          newObjK s (.cells l' e true) fun b s => k (.slice (some ⟨b, 0, none⟩) need 1) s
      else .err 165 ""
    | _, _, _ => .err 43 ""
  | _, _, _ => .err 44 ""

/-- append to the empty slice behind the end of a row. -/
def tailAppA {β : Type} (s : ASt) (t ty : TypeId) (x : Nat) (y : Value) (k : Value → ASt → R β) : R β :=
  match P.underlying t, (match P.underlying ty with | some (.int _) => none | d => d) with
  | some (.slice e), some _ => match sizeT P e, bytesT P e, zeroT P e with
    | some sz, some bytes, some z => srcA s sz y fun m new => natK (x / tailM / tailM / tailM) fun blk => natK (x / tailM % tailM) fun o2 => natK (x % tailM) fun c =>
      bif Nat.ble (m * (bytes + sz)) 1000000000 && Nat.ble 1 sz && plain z && Nat.beq (cellsOf z).length sz && Nat.beq o2 (c / 2 * sz) then
        bif Nat.beq m 0 then k (.float .f32 x) s
        else getCells s blk fun l e' op => bif op && Nat.beq e' e && Nat.beq l.length o2 then setObjK s blk none fun s => newObjK s (.cells new e true) fun b s => k (.slice (some ⟨b, 0, none⟩) m 1) s
          else .err 40 ""
      else .err 42 ""
    | _, _, _ => .err 43 ""
  | _, _ => .err 44 ""

def lenSrc : Value → Option Nat
  | .slice _ m _ => some m
  | .string b => some b.size
  | .float .f32 _ => some 0
  | _ => none
def cutSrc (n : Nat) : Value → Value
  | .slice q _ c => .slice q n c
  | .string b => .string ⟨(b.data.toList.take n).toArray⟩
  | v => v
def copyA {β : Type} (s : ASt) (t : TypeId) (x y : Value) (k : Value → ASt → R β) : R β :=
  match P.underlying t, x, lenSrc y with
  | some (.slice e), .slice p len _, some m => match sizeT P e with
    | some sz => minK m len fun n => srcA s sz (cutSrc n y) fun _ new => match p with
        | none => bif Nat.beq n 0 then k (.int .i64 (.ofNat n)) s else .err 45 ""
        | some a => bif Nat.beq n 0 then k (.int .i64 (.ofNat n)) s else
          getCells s a.block fun l e' op => putAtK a.off l new fun l => setObjK s a.block (some (.cells l e' op)) fun s => k (.int .i64 (.ofNat n)) s
    | none => .err 46 ""
  | _, _, _ => .err 47 ""

def lenA (F : Facts) (s : ASt) (t : TypeId) (x : Value) : R Value := match P.underlying t, x with
  | some .string, .string b => natK b.size fun n => .ok (.int .i64 (.ofNat n))
  | some (.slice _), .slice _ n _ => .ok (.int .i64 (.ofNat n))
  | some (.slice _), .float .f32 _ => .ok (.int .i64 (.ofNat 0))
  | some (.map _ _), .map none => .ok (.int .i64 (.ofNat 0))
  | some (.map _ _), .map (some r) => match s.H.get r with
    | some (.map es _) => natK es.length fun n => .ok (.int .i64 (.ofNat n))
    | _ => .err 48 ""
  | some (.array n _), _ => .ok (.int .i64 (.ofNat n))
  | some .string, u => match F.len u with
    | some r => .ok r
    | none => .err 49 ""
  | _, _ => .err 49 ""

def ofOpt {α β : Type} (c : Nat) (p : String) (x : Option α) (k : α → R β) : R β := match x with
  | some a => k a
  | none => .err c p

def clearA {β : Type} (s : ASt) (t : TypeId) (x : Value) (k : ASt → R β) : R β := match P.underlying t, x with
  | some _, .slice none _ _ => k s
  | some (.slice e), .slice (some a) n _ => bif Nat.beq n 0 then k s else match zeroT P e with
    | some z => bif plain z && oneCells (cellsOf z) && Nat.ble 1 (cellsOf z).length then replicateK n (cellsOf z) [] fun new => getCells s a.block fun l e' op => putAtK a.off l new fun l => setObjK s a.block (some (.cells l e' op)) k
      else .err 148 ""
    | none => .err 149 ""
  | _, _ => .err 150 ""

def builtinA (F : Facts) (o : Oper) (b : Builtin) (ts : List TypeId) (vs : List Value) (s : ASt) (k : Value → ASt → R Out) : R Out :=
  match b, ts, vs with
  | .len, t :: _, [x] => match lenA P F s t x with
    | .ok v => k v s
    | .err c _ => .err c o.pos
  | .copy, t :: _, [x, y] => copyA P s t x y k
  | .cap, t :: _, [.slice _ _ c] => match P.underlying t with
    | some (.slice _) => bif isOpen c then .err 50 o.pos else natK (c / 2) fun c => k (.int .i64 (.ofNat c)) s
    | _ => .err 50 o.pos
  | .append, [t, ty], [x, y] => match P.underlying ty with
    | some (.int _) => zerosA P s t x y k
    | _ => match x with
      | .float .f32 e => tailAppA P s t ty e y k
      | x => appendA P s t ty x y k
  | .delete, t :: _, [m, key] => match keyKind P t, m with
    | some (kd, _), .map none => bif keyOk P kd key then k undef s else .err 53 o.pos
    | some (kd, _), .map (some r) => match s.H.get r with
      | some (.map es c) => match findK P F kd key es with
        | some (some (i, _)) => dropEntryK i es fun es => setObjK s r (some (.map es c)) fun s => k undef s
        | some none => setObjK s r (some (.map es c)) fun s => k undef s
        | none => .err 51 o.pos
      | _ => .err 52 o.pos
    | _, _ => .err 53 o.pos
  | .clear, t :: _, [x] => clearA P s t x fun s => k undef s
  | .min, _, _ => bif vs.all plain then match pureV P 54 o.pos (Builtin.min_ ts.toArray o.type vs.toArray) with
      | .ok v => k v s
      | .err c p => .err c p
    else .err 54 o.pos
  | .max, _, _ => bif vs.all plain then match pureV P 55 o.pos (Builtin.max_ ts.toArray o.type vs.toArray) with
      | .ok v => k v s
      | .err c p => .err c p
    else .err 55 o.pos
  | _, _, _ => .err 56 o.pos

def convA (o : Oper) (src dst : TypeId) (x : Value) (s : ASt) : R Value :=
  bif plain x then pureV P 57 o.pos (convert src dst x)
  else match P.underlying src, P.underlying dst, x with
    | some (.slice e), some .string, .slice (some a) n _ => match P.underlying e with
      | some (.int .u8) => getCells s a.block fun l _ _ => dropK a.off l fun l => takeK n l fun l => match unbytes l with
        | some bs => .ok (.string ⟨bs.toArray⟩)
        | none => .err 58 o.pos
      | _ => .err 59 o.pos
    | _, _, _ => .err 60 o.pos
where
  unbytes : List Value → Option (List UInt8)
    | [] => some []
    | .int .u8 n :: l => match unbytes l with
      | some bs => some (UInt8.ofNat n.toNat :: bs)
      | none => none
    | _ :: _ => none

/-- An operation that is no call: the value that it leaves, and the state. -/
def simpleA (F : Facts) (o : Oper) (t : Tr Value) (s : ASt) (k : Value → ASt → R Out) : R Out :=
  let val (r : R Value) : R Out := match r with
    | .ok v => k v s
    | .err c p => .err c (o.pos ++ p)
  match o.op with
  | .move x => val (opd t x)
  | .assign x => val (opd t x)
  | .pick c a b => match opd t c with
    | .ok (.bool true) => val (opd t a)
    | .ok (.bool false) => val (opd t b)
    | .ok _ => .err 61 o.pos
    | .err c _ => .err c o.pos
  | .alloc e => ofOpt 62 o.pos (zeroT P e) fun z => bif plain z then newObjK s (.cells (cellsOf z) e false) fun b s => k (.pointer (some ⟨b, 0, none⟩)) s else .err 62 o.pos
  | .box e x => match opd t x with
    | .ok v => newObjK s (.cells (cellsOf v) e false) fun b s => k (.pointer (some ⟨b, 0, none⟩)) s
    | .err c _ => .err c o.pos
  | .load ty x => match opd t x with
    | .ok (.pointer (some a)) => val (loadA P s ty a)
    | .ok _ => .err 63 o.pos
    | .err c _ => .err c o.pos
  | .store ty x y => match opd t x, opd t y with
    | .ok (.pointer (some a)), .ok v => storeA P s ty a v fun s => k undef s
    | _, _ => .err 64 o.pos
  | .nilCheck x => match opd t x with
    | .ok (.pointer (some a)) => k (.pointer (some a)) s
    | .ok (.func (.func f) fi ca) => k (.func (.func f) fi ca) s
    | .ok (.func (.yield f) fi ca) => k (.func (.yield f) fi ca) s
    | .ok (.func (.via a b c d) fi ca) => k (.func (.via a b c d) fi ca) s
    | .ok _ => .err 65 o.pos
    | .err c _ => .err c o.pos
  | .fieldAddr ty x i => match P.underlying ty, opd t x with
    | some (.struct fs), .ok (.pointer (some a)) => ofOpt 66 o.pos (fs.toList[i]?) fun f => match sizeT P f.type with
      | some (_ + 1) => natK (a.off + f.offset) fun off => k (.pointer (some ⟨a.block, off, none⟩)) s
      | _ => .err 67 o.pos
    | _, _ => .err 68 o.pos
  | .field ty x i => match P.underlying ty, opd t x with
    | some (.struct fs), .ok (.agg cs) => ofOpt 69 o.pos (fs.toList[i]?) fun f => match isAggT P f.type, sizeT P f.type with
      | some true, some n => dropK f.offset cs.toList fun l => takeK n l fun l => k (.agg l.toArray) s
      | some false, some _ => dropK f.offset cs.toList fun l => match l with
        | v :: _ => k v s
        | [] => .err 70 o.pos
      | _, _ => .err 71 o.pos
    | _, _ => .err 72 o.pos
  | .indexAddr ty x i => match P.underlying ty, opd t x, opd t i with
    | some (.slice e), .ok (.slice (some a) len _), .ok (.int _ (.ofNat j)) => bif Nat.blt j len then ofOpt 73 o.pos (sizeT P e) fun sz => natK (a.off + j * sz) fun off => k (.pointer (some ⟨a.block, off, none⟩)) s else .err 74 o.pos
    | some (.array len e), .ok (.pointer (some a)), .ok (.int _ (.ofNat j)) => bif Nat.blt j len then ofOpt 75 o.pos (sizeT P e) fun sz => natK (a.off + j * sz) fun off => k (.pointer (some ⟨a.block, off, none⟩)) s else .err 76 o.pos
    | _, _, _ => .err 77 o.pos
  | .index ty x i => match opd t x, opd t i with
    | .ok u, .ok v => bif plain u && plain v then val (pureV P 78 o.pos (Instr.index ty u v)) else .err 79 o.pos
    | _, _ => .err 80 o.pos
  | .binOp op ty x y _ => match opd t x, opd t y with
    | .ok u, .ok v => val (binA P F o op ty x y u v)
    | _, _ => .err 81 o.pos
  | .unOp op _ x => match opd t x with
    | .ok u => bif plain u then val (pureV P 82 o.pos (Op.unary op u)) else .err 82 o.pos
    | .err c _ => .err c o.pos
  | .convert src dst x => match opd t x with
    | .ok u => val (convA P o src dst u s)
    | .err c _ => .err c o.pos
  | .extract x i => match opd t x with
    | .ok (.tuple vs) => ofOpt 83 o.pos (vs.toList[i]?) fun v => k v s
    | _ => .err 84 o.pos
  | .build ty ps => match opdPairs t ps.toList with
    | .ok vs => ofOpt 85 o.pos (zeroT P ty) fun z => bif plain z then match P.underlying ty with
      | some (.struct fs) => ofOpt 86 o.pos (fs.toList.mapM fun f => (P.info? f.type).map fun i => (f.offset, i.size)) fun places => fillA (fun i => places[i]?) vs (cellsOf z) fun l => k (.agg l.toArray) s
      | some (.array _ e) => ofOpt 86 o.pos (sizeT P e) fun sz => fillA (fun i => some (i * sz, sz)) vs (cellsOf z) fun l => k (.agg l.toArray) s
      | _ => .err 87 o.pos
      else .err 85 o.pos
    | .err c _ => .err c o.pos
  | .buildSlice ty n ps => match opdPairs t ps.toList with
    | .ok vs => match P.underlying ty with
      | some (.slice e) => ofOpt 88 o.pos (sizeT P e) fun sz => ofOpt 89 o.pos (zeroT P e) fun z => bif plain z && Nat.beq (cellsOf z).length sz && Nat.ble 1 sz && Nat.ble (n * sz) 100000 then
          replicateK n (cellsOf z) [] fun l => fillA (fun i => some (i * sz, sz)) vs l fun l => newObjK s (.cells l e false) fun b s => natK (2 * n) fun c => k (.slice (some ⟨b, 0, none⟩) n c) s
        else .err 90 o.pos
      | _ => .err 91 o.pos
    | .err c _ => .err c o.pos
  | .makeSlice ty x y => match P.underlying ty, opd t x, opd t y with
    | some (.slice e), .ok (.int _ (.ofNat n)), .ok (.int _ (.ofNat m)) => ofOpt 92 o.pos (sizeT P e) fun sz => ofOpt 93 o.pos (bytesT P e) fun by_ => ofOpt 94 o.pos (zeroT P e) fun z =>
        bif plain z && Nat.beq (cellsOf z).length sz && Nat.ble 1 sz && Nat.ble n m && Nat.ble (m * (sz + by_)) 1000000 then
          replicateK m (cellsOf z) [] fun l => newObjK s (.cells l e false) fun b s => natK (2 * m) fun c => k (.slice (some ⟨b, 0, none⟩) n c) s
        else .err 95 o.pos
    | _, _, _ => .err 96 o.pos
  | .slice ty x lo hi mx =>
    let opt (z : Option Operand) : R (Option Value) := match z with
      | none => .ok none
      | some z => match opd t z with
        | .ok v => .ok (some v)
        | .err c p => .err c p
    match opd t x, opt lo, opt hi, opt mx with
    | .ok v, .ok lo, .ok hi, .ok mx => val (sliceA P (roomOf P s ty v) ty v lo hi mx)
    | _, _, _, _ => .err 97 o.pos
  | .makeInterface ty x => match opd t x, P.underlying ty with
    | .ok v, some d => (match d with | .interface _ => .err 98 o.pos | _ => k (.iface ty v) s)
    | _, _ => .err 99 o.pos
  | .makeFunc fn fi ca => match opds t fi.toList, opds t ca.toList with
    | .ok fi, .ok ca => match fn with
      | .func f => k (.func (.func f) fi.toArray ca.toArray) s
      | .via a b c d => k (.func (.via a b c d) fi.toArray ca.toArray) s
      | _ => .err 100 o.pos
    | _, _ => .err 101 o.pos
  | .makeMap _ none => newObjK s (.map [] 0) fun b s => k (.map (some b)) s
  | .makeMap ty (some x) => match opd t x, P.underlying ty with
    | .ok (.int _ _), some (.map _ _) => newObjK s (.map [] 0) fun b s => k (.map (some b)) s
    | _, _ => .err 102 o.pos
  | .lookup ty x i ok => match opd t x, opd t i with
    | .ok m, .ok key => match keyKind P ty with
      | some (kd, e) => ofOpt 103 o.pos (zeroT P e) fun z => bif plain z then entriesA s m fun es _ => match findK P F kd key es with
          | some (some (_, v)) => k (bif ok then .tuple #[v, .bool true] else v) s
          | some none => k (bif ok then .tuple #[z, .bool false] else z) s
          | none => .err 104 o.pos
        else .err 103 o.pos
      | none => .err 105 o.pos
    | _, _ => .err 106 o.pos
  | .mapUpdate ty m key x => match opd t m, opd t key, opd t x with
    | .ok m, .ok key, .ok v => putA P F s ty m key v fun s => k undef s
    | _, _, _ => .err 107 o.pos
  | .insert ty m key x => match opd t m, opd t key, opd t x with
    | .ok m, .ok key, .ok v => putA P F s ty m key v fun s => k undef s
    | _, _, _ => .err 108 o.pos
  | .mapEntry ty m key => match opd t m, opd t key, keyKind P ty with
    | .ok (.map (some r)), .ok key, some (kd, e) => ofOpt 136 o.pos (zeroT P e) fun z => bif plain z then match s.H.get r with
      | some (.map es c) => match findK P F kd key es with
        | some (some (i, v)) => match es[i]? with
          | some e => setEntryK i es (fun e => { e with key := key }) fun es => setObjK s r (some (.map es c)) fun s => natK e.born fun b => k (.tuple #[v, .int .i64 (.ofNat b)]) s
          | none => .err 136 o.pos
        | some none => natK (c + 1) fun c' => pushEntryK es { key := key, val := z, born := c } fun es => setObjK s r (some (.map es c')) fun s => k (.tuple #[z, .int .i64 (.ofNat c)]) s
        | none => .err 137 o.pos
      | _ => .err 138 o.pos
      else .err 139 o.pos
    | _, _, _ => .err 140 o.pos
  | .entryStore _ m st x => match opd t m, opd t st, opd t x with
    | .ok (.map (some r)), .ok (.int _ (.ofNat b)), .ok v => match s.H.get r with
      | some (.map es c) => match findBorn b es 0 with
        | some i => setEntryK i es (fun e => { e with val := v }) fun es => setObjK s r (some (.map es c)) fun s => k undef s
        | none => .err 141 o.pos
      | _ => .err 142 o.pos
    | _, _, _ => .err 143 o.pos
  | .range ty x => match P.underlying ty, opd t x with
    | some (.map _ _), .ok (.map none) => newObjK s (.mapIter none 0 [] 0) fun b s => k (.pointer (some ⟨b, 0, none⟩)) s
    | some (.map _ _), .ok (.map (some m)) => match s.H.get m with
      | some (.map _ c) => newObjK s (.mapIter (some m) c [] c) fun b s => k (.pointer (some ⟨b, 0, none⟩)) s
      | _ => .err 151 o.pos
    | _, _ => .err 152 o.pos
  | .next x false => match opd t x with
    | .ok (.pointer (some a)) => bif Nat.beq a.off 0 then match s.H.get a.block with
      | some (.mapIter none _ _ _) => k (.tuple #[.bool false]) s
      | some (.mapIter (some m) since seen last) => match s.H.get m with
        | some (.map es c) => bif seen.isEmpty || es.isEmpty || es.any (fun e => Nat.blt e.born last) then match es.filter (fun e => !(seen.any (Nat.beq e.born))) with
          | [] => k (.tuple #[.bool false]) s
          | [e] => bif Nat.blt e.born since then setObjK s a.block (some (.mapIter (some m) since (seen ++ [e.born]) c)) fun s => k (.tuple #[.bool true, e.key, e.val]) s else .err 154 o.pos
          | _ => .err 155 o.pos
          else .err 153 o.pos
        | _ => .err 156 o.pos
      | _ => .err 157 o.pos
      else .err 157 o.pos
    | _ => .err 158 o.pos
  | .entry x => match opd t x with
    | .ok (.pointer (some a)) => bif Nat.beq a.off 0 then match s.H.get a.block with
      | some (.mapIter (some m) _ seen stepped) => match seen.getLast?, s.H.get m with
        | some stamp, some (.map es c) => bif Nat.beq c stepped then match es.find? (fun e => Nat.beq e.born stamp) with
            | some e => k (.tuple #[e.key, e.val]) s
            | none => .err 180 o.pos
          else .err 181 o.pos
        | _, _ => .err 182 o.pos
      | _ => .err 183 o.pos
      else .err 184 o.pos
    | _ => .err 185 o.pos
  | .typeAssert x _ ty false => match opd t x, P.underlying ty with
    | .ok (.iface _ _), some (.interface _) => .err 109 o.pos
    | .ok (.iface u v), some _ => bif Nat.beq u ty then k v s else .err 110 o.pos
    | _, _ => .err 111 o.pos
  | _ => .err 112 o.pos

def putT (a : AAct) (d : Option Tmp) (v : Value) (k : AAct → R Out) : R Out := match d with
  | none => k a
  | some d => bif Nat.blt d a.sz then a.tmps.setK 60 d (some v) fun t => k ⟨a.sz, t, a.marks⟩ else .err 113 ""

/-- The copy of a map, which the model does itself. -/
def isClone (g : FuncId) : Bool := match P.funcs[g]? with
  | some fn => match fn.body with
    | some _ => false
    | none => fn.name == "maps.clone" && (Extern.findNext fn).isNone
  | none => false

def callA (self : Task → ASt → R Out) (o : Oper) (f : Value) (vs : List Value) (s : ASt) (k : Value → ASt → R Out) : R Out :=
  match f with
  | .func (.func g) fi ca => bif isClone P g then (match fi.toList ++ (vs ++ ca.toList) with
      | [.iface t (.map (some r))] => match s.H.get r with
        | some (.map es c) => newObjK s (.map es c) fun b s => k (.iface t (.map (some b))) s
        | _ => .err 146 o.pos
      | _ => .err 147 o.pos)
    else match self (.call g (fi.toList ++ (vs ++ ca.toList))) s with
    | .ok o => k o.v o.s
    | .err c p => .err c p
  | .func (.yield l) fi _ => match self (.yield l (fi.toList ++ vs)) s with
    | .ok o => k o.v o.s
    | .err c p => .err c p
  | _ => .err 114 o.pos

def operA (F : Facts) (self : Task → ASt → R Out) (o : Oper) (t : Tr Value) (s : ASt) (k : Value → ASt → R Out) : R Out :=
  match o.op with
  | .call c => match opds t c.args.toList with
    | .ok vs => match c.callee with
      | .builtin b => builtinA P F o b c.argTypes.toList vs s k
      | .value f => match opd t f with
        | .ok f => callA P self o f vs s k
        | .err c _ => .err c o.pos
      | .invoke _ _ => .err 115 o.pos
    | .err c _ => .err c o.pos
  | _ => simpleA P F o t s k

def wantA (ops : Array Oper) (o : Oper) (t : Tr Value) : R Bool := match o.guard with
  | none => .ok true
  | some (j, want) => match ops.toList[j]? with
    | some oj => match oj.dst with
      | some d => match t.get d with
        | some (.bool b) => .ok (b == want)
        | some (.tuple _) => .ok false
        | _ => .err 116 o.pos
      | none => .err 117 o.pos
    | none => .err 118 o.pos

def opsA (F : Facts) (self : Task → ASt → R Out) (ops : Array Oper) : List Oper → AAct → ASt → R Out
  | [], a, s => .ok ⟨.normal, a, undef, s⟩
  | o :: l, a, s => match wantA ops o a.tmps with
    | .ok true => operA P F self o a.tmps s fun v s => putT a o.dst v fun a => opsA F self ops l a s
    | .ok false => putT a o.dst undef fun a => opsA F self ops l a s
    | .err c p => .err c p

/-! Regions that draw their order -/
def pureOp : Op → Bool
  | .move _ | .assign _ | .pick .. | .nilCheck _ | .fieldAddr .. | .field .. | .indexAddr .. | .index .. | .binOp .. | .unOp .. | .extract .. => true
  | _ => false

def namesOf (ops : Array Oper) (o : Oper) : List Nat := (o.op.operands.toList.filterMap fun | .tmp t => some t | _ => none) ++
  (match o.guard with
   | some (g, _) => (match ops.toList[g]? with | some og => og.dst.toList | none => [])
   | none => [])
def befores : List Oper → List Nat → List Nat
  | [], acc => acc
  | o :: l, acc => befores l (acc ++ [o.after.toList.foldl (fun s e => bif Region.binds .any e then Nat.lor (Nat.lor s (2 ^ e.on)) (acc.getD e.on 0) else s) 0])
/-- Operation i stands ahead of j in the text. -/
def pairOk (ops : Array Oper) (bj : Nat) (i : Nat) (oi oj : Oper) (li lj : Nat) : Bool :=
  let before := Nat.testBit bj i
  let writes (o o' : Oper) : Bool := match o.dst with
    | some d => (namesOf ops o').any (Nat.beq d)
    | none => false
  (before || !(writes oi oj || writes oj oi)) && (match oi.dst, oj.dst with | some d, some d' => !(Nat.beq d d') | _, _ => true) &&
  (match li, lj with
   | 2, 1 => false
   | 1, 2 => before
   | 2, 2 => before
   | _, _ => true)
def rowOk (ops : Array Oper) (bj : Nat) (oj : Oper) (lj : Nat) : Nat → List Oper → List Nat → Bool
  | i, oi :: l, li :: ls => pairOk ops bj i oi oj li lj && rowOk ops bj oj lj (i + 1) l ls
  | _, _, _ => true
def allOk (ops : Array Oper) (bs labs : List Nat) : Nat → List Oper → Bool
  | _, [] => true
  | j, o :: l => rowOk ops (bs.getD j 0) o (labs.getD j 0) 0 (ops.toList.take j) labs && o.after.toList.all (fun e => !Region.binds .any e || Nat.blt e.on j) && allOk ops bs labs (j + 1) l
def drawOk (ops : Array Oper) (labs : List Nat) : Bool := allOk ops (befores ops.toList []) labs 0 ops.toList

def outK (v : Value) (s : ASt) : R Out := .ok ⟨.normal, noAct, v, s⟩
/-- The same, by what is written. -/
def adEq (a b : Addr) : Bool := Nat.beq a.block b.block && Nat.beq a.off b.off && a.spot.isNone && b.spot.isNone
def sameB : List UInt8 → List UInt8 → Bool
  | [], [] => true
  | a :: l, b :: m => Nat.beq a.toNat b.toNat && sameB l m
  | _, _ => false
def same1 : Value → Value → Bool
  | .int j a, .int k b => decide (j = k) && decide (a = b)
  | .bool true, .bool true => true
  | .bool false, .bool false => true
  | .float .f64 i, .float .f64 j => Nat.beq i j
  | .float .f32 i, .float .f32 j => Nat.beq i j
  | .string a, .string b => sameB a.data.toList b.data.toList
  | .pointer none, .pointer none => true
  | .pointer (some a), .pointer (some b) => adEq a b
  | .slice none n c, .slice none m d => Nat.beq n m && Nat.beq c d
  | .slice (some a) n c, .slice (some b) m d => adEq a b && Nat.beq n m && Nat.beq c d
  | .map none, .map none => true
  | .map (some a), .map (some b) => Nat.beq a b
  | .nilFunc, .nilFunc => true
  | .nilIface, .nilIface => true
  | _, _ => false
def sameL : List Value → List Value → Bool
  | [], [] => true
  | u :: l, v :: m => same1 u v && sameL l m
  | _, _ => false
def sameV : Value → Value → Bool
  | .agg a, .agg b => sameL a.toList b.toList
  | .func (.func f) a b, .func (.func g) c d => Nat.beq f g && sameL a.toList c.toList && sameL b.toList d.toList
  | u, v => same1 u v

/-- What only reads. -/
def readOp : Op → Bool
  | .load .. | .lookup .. | .build .. | .slice .. | .convert .. | .makeInterface .. | .typeAssert .. => true
  | .call c => match c.callee with
    | .builtin .len => true
    | _ => false
  | _ => false

def quietR (s : ASt) (r : Out) : Bool := Nat.ble s.n r.s.low && (Nat.beq s.n r.s.n || plain r.v)
def stays (F : Facts) (self : Task → ASt → R Out) (o : Oper) (t : Tr Value) (v : Value) (s : ASt) : Bool := match operA P F self o t ⟨s.n, s.n, s.H⟩ outK with
  | .ok r => quietR s r && sameV r.v v
  | .err _ _ => false
/-- Operation i may come up while the operations of label 2 are done that stand ahead of m, and no others. -/
def mayRun (bs : List Nat) (i m : Nat) : Nat → List Nat → Bool
  | _, [] => true
  | j, l :: ls => (bif Nat.beq l 2 then (bif Nat.blt j m then !Nat.testBit (bs.getD j 0) i else !Nat.testBit (bs.getD i 0) j) else true) && mayRun bs i m (j + 1) ls
def staysAll (F : Facts) (self : Task → ASt → R Out) (bs labs : List Nat) (sts : List (Nat × ASt)) (rd : List (Nat × Oper × Tr Value × Value)) : Bool := match sts with
  | [_] => true
  | sts => rd.all fun (i, o, t, v) => sts.all fun (m, s) => bif mayRun bs i m 0 labs then stays P F self o t v s else true

/-- How many names there were when. -/
def stampV (sts : List (Nat × ASt)) : Value := .tuple (sts.map fun x => .slice none x.1 x.2.n).toArray
def drawA (F : Facts) (self : Task → ASt → R Out) (ops : Array Oper) : List Oper → (labs : List Nat) → (tail : Bool) → (sts : List (Nat × ASt)) → (rd : List (Nat × Oper × Tr Value × Value)) → AAct → ASt → R Out
  | [], labs, _, sts, rd, a, s => bif drawOk ops labs.reverse && staysAll P F self (befores ops.toList []) labs.reverse sts rd then .ok ⟨.normal, a, stampV sts, s⟩ else .err 135 ((ops.toList.head?.map (·.pos)).getD "")
  | o :: l, labs, tail, sts, rd, a, s => match wantA ops o a.tmps with
    | .ok true => bif pureOp o.op then match simpleA P F o a.tmps s outK with
        | .ok r => putT a o.dst r.v fun a => drawA F self ops l (0 :: labs) tail sts rd a s
        | .err c p => .err c p
      else match operA P F self o a.tmps ⟨s.n, s.n, s.H⟩ outK with
        | .ok r => bif quietR s r && readOp o.op then putT a o.dst r.v fun a' => drawA F self ops l (3 :: labs) tail sts ((labs.length, o, a.tmps, r.v) :: rd) a' s
          else bif !tail && quietR s r then putT a o.dst r.v fun a => drawA F self ops l (1 :: labs) tail sts rd a s
          else minK s.low r.s.low fun low => putT a o.dst r.v fun a => drawA F self ops l (2 :: labs) true ((labs.length + 1, ⟨r.s.n, low, r.s.H⟩) :: sts) rd a ⟨r.s.n, low, r.s.H⟩
        | .err c p => .err c p
    | .ok false => putT a o.dst undef fun a => drawA F self ops l (0 :: labs) tail sts rd a s
    | .err c p => .err c p

/-! Where what acts on memory may come up in several orders: all of them are gone through. -/
def tailish (o : Oper) : Bool := !(pureOp o.op) && !(readOp o.op)
def tailsOf : Nat → List Oper → List Nat
  | _, [] => []
  | i, o :: l => bif tailish o then i :: tailsOf (i + 1) l else tailsOf (i + 1) l
def befB (bs : List Nat) (i j : Nat) : Bool := Nat.testBit (bs.getD j 0) i
def eraseN : Nat → List Nat → List Nat
  | _, [] => []
  | x, y :: l => bif Nat.beq x y then l else y :: eraseN x l
def permsH (bs l : List Nat) (f : List Nat → List (List Nat)) : List Nat → List (List Nat)
  | [] => []
  | x :: xs => bif l.all (fun y => !befB bs y x) then (f (eraseN x l)).map (x :: ·) ++ permsH bs l f xs else permsH bs l f xs
def perms (bs : List Nat) : Nat → List Nat → List (List Nat)
  | 0, _ => [[]]
  | k + 1, l => permsH bs l (perms bs k) l
def posIn : List Nat → Nat → Nat
  | [], _ => 0
  | x :: l, i => bif Nat.beq x i then 0 else posIn l i + 1
def upTo : List Nat → Nat → List Nat
  | [], _ => []
  | x :: l, i => bif Nat.beq x i then [] else x :: upTo l i
def reOper (ord tau : List Nat) (i : Nat) (o : Oper) : Oper :=
  { o with after := ((o.after.toList.map fun e => (⟨posIn ord e.on, e.ground⟩ : Edge)) ++ (bif tailish o then (upTo tau i).map fun x => (⟨posIn ord x, .data⟩ : Edge) else [])).toArray, guard := o.guard.map fun g => (posIn ord g.1, g.2) }
def reOps (ops : List Oper) (tau ord : List Nat) : List Nat → List Oper
  | [] => []
  | i :: l => match ops[i]? with
    | some o => reOper ord tau i o :: reOps ops tau ord l
    | none => reOps ops tau ord l
def edgesOk : Nat → List Oper → Bool
  | _, [] => true
  | j, o :: l => o.after.toList.all (fun e => !Region.binds .any e || Nat.blt e.on j) && edgesOk (j + 1) l
def ordOk (n : Nat) (ops : List Oper) (ord : List Nat) : Bool :=
  Nat.beq ord.length n && (List.range n).all (fun i => Nat.blt (posIn ord i) n && Nat.beq (ord.getD (posIn ord i) n) i && Nat.blt (ord.getD i n) n && Nat.beq (posIn ord (ord.getD i n)) i) &&
    edgesOk 0 ops && ops.all (fun o => match o.guard with | some (g, _) => Nat.blt g n | none => true)
def findNext (bs tails tau : List Nat) (done : Nat) : Nat → Nat → Option Nat
  | _, 0 => none
  | i, k + 1 => bif !Nat.testBit done i && Nat.beq (Nat.land (bs.getD i 0) done) (bs.getD i 0) && (bif tails.any (Nat.beq i) then (match tau with | x :: _ => Nat.beq x i | [] => false) else true) then some i else findNext bs tails tau done (i + 1) k
def fullOrd (bs tails : List Nat) (n : Nat) : Nat → List Nat → Nat → List Nat
  | 0, _, _ => []
  | k + 1, tau, done => match findNext bs tails tau done 0 n with
    | some i => i :: fullOrd bs tails n k (bif tails.any (Nat.beq i) then tau.tail else tau) (Nat.lor done (2 ^ i))
    | none => []

/-- Which names stand for which, by the operations that made them. -/
def stampsOf : Value → List (Nat × Nat)
  | .tuple cs => cs.toList.reverse.filterMap fun | .slice none m n => some (m, n) | _ => none
  | _ => []
def madeBy (ord : List Nat) : List (Nat × Nat) → List (Nat × Nat × Nat)
  | (_, n0) :: (m, n1) :: l => (ord.getD (m - 1) 0, n0, n1 - n0) :: madeBy ord ((m, n1) :: l)
  | _ => []
def nameAs (pa pt : List (Nat × Nat × Nat)) (i : Nat) : Nat := match pa.find? (fun x => Nat.ble x.2.1 i && Nat.blt i (x.2.1 + x.2.2)) with
  | some (o, a, _) => match pt.find? (fun y => Nat.beq y.1 o) with
    | some (_, b, _) => b + (i - a)
    | none => i
  | none => i
def natsK {β : Type} : List Nat → (List Nat → R β) → R β
  | [], k => k []
  | n :: l, k => natK n fun n => natsK l fun l => k (n :: l)
def distinct : List Nat → Bool
  | [] => true
  | x :: l => !(l.any (Nat.beq x)) && distinct l
def plOk (n0 n1 : Nat) (pl : List Nat) : Bool := Nat.beq (n0 + pl.length) n1 && pl.all (fun x => Nat.ble n0 x && Nat.blt x n1) && distinct pl
def pAt (n0 : Nat) (pl : List Nat) (i : Nat) : Nat := bif Nat.blt i n0 then i else pl.getD (i - n0) i

def adP (p : Nat → Nat) (a b : Addr) : Bool := Nat.beq (p a.block) b.block && Nat.beq a.off b.off && a.spot.isNone && b.spot.isNone
def eqV1 (p : Nat → Nat) : Value → Value → Bool
  | .pointer (some a), .pointer (some b) => adP p a b
  | .slice (some a) n c, .slice (some b) m d => adP p a b && Nat.beq n m && Nat.beq c d
  | .map (some a), .map (some b) => Nat.beq (p a) b
  | .pointer none, .pointer none => true
  | .slice none n c, .slice none m d => Nat.beq n m && Nat.beq c d
  | .map none, .map none => true
  | .int j a, .int k b => decide (j = k) && decide (a = b)
  | .bool true, .bool true => true
  | .bool false, .bool false => true
  | .float .f64 i, .float .f64 j => Nat.beq i j
  | .string a, .string b => sameB a.data.toList b.data.toList
  | .nilFunc, .nilFunc => true
  | .nilIface, .nilIface => true
  | _, _ => false
def eqVl (p : Nat → Nat) : List Value → List Value → Bool
  | [], [] => true
  | u :: l, v :: m => eqV1 p u v && eqVl p l m
  | _, _ => false
def eqTl (p : Nat → Nat) : List Value → List Value → Bool
  | [], [] => true
  | .agg u :: l, .agg v :: m => eqVl p u.toList v.toList && eqTl p l m
  | u :: l, v :: m => eqV1 p u v && eqTl p l m
  | _, _ => false
def eqV (p : Nat → Nat) : Value → Value → Bool
  | .agg a, .agg b => eqVl p a.toList b.toList
  | .tuple a, .tuple b => eqTl p a.toList b.toList
  | u, v => eqV1 p u v
def eqO (p : Nat → Nat) : AObj → AObj → Bool
  | .cells l e op, .cells l' e' op' => eqVl p l l' && Nat.beq e e' && (op == op')
  | _, _ => false
def keepObj (n0 : Nat) (i : Nat) (o : AObj) (os : List (List Nat × Out)) : Bool := os.all fun x => match x.2.s.H.get (pAt n0 x.1 i) with
  | some o' => eqO (pAt n0 x.1) o o'
  | none => false
def keepVal (n0 : Nat) (d : Nat) (v : Value) (os : List (List Nat × Out)) : Bool := os.all fun x => match x.2.a.tmps.get d with
  | some v' => eqV (pAt n0 x.1) v v'
  | none => false
def joinH {β : Type} (n0 : Nat) (os : List (List Nat × Out)) (HA : Tr AObj) : Nat → Nat → Tr AObj → (Tr AObj → R β) → R β
  | 0, _, H, k => k H
  | c + 1, i, H, k => match HA.get i with
    | some o => bif keepObj n0 i o os then H.setK 60 i (some o) fun H => joinH n0 os HA c (i + 1) H k else H.setK 60 i none fun H => joinH n0 os HA c (i + 1) H k
    | none => H.setK 60 i none fun H => joinH n0 os HA c (i + 1) H k
def joinT {β : Type} (n0 : Nat) (os : List (List Nat × Out)) (TA : Tr Value) : List Oper → Tr Value → (Tr Value → R β) → R β
  | [], T, k => k T
  | o :: l, T, k => match o.dst with
    | none => joinT n0 os TA l T k
    | some d => match TA.get d with
      | some v => bif keepVal n0 d v os then T.setK 60 d (some v) fun T => joinT n0 os TA l T k else T.setK 60 d none fun T => joinT n0 os TA l T k
      | none => T.setK 60 d none fun T => joinT n0 os TA l T k
def lowOf {β : Type} : List (List Nat × Out) → Nat → (Nat → R β) → R β
  | [], m, k => k m
  | x :: l, m, k => minK x.2.s.low m fun m => lowOf l m k

def runOrds (F : Facts) (self : Task → ASt → R Out) (ops : Array Oper) (a : AAct) (s0 : ASt) (bs tails : List Nat) : List (List Nat) → (List (List Nat × Out) → R Out) → R Out
  | [], k => k []
  | tau :: l, k => natsK (fullOrd bs tails ops.size ops.size tau 0) fun ord => bif ordOk ops.size ops.toList ord then
      match drawA P F self (reOps ops.toList tau ord ord).toArray (reOps ops.toList tau ord ord) [] false [(0, s0)] [] a s0 with
      | .ok o => runOrds F self ops a s0 bs tails l fun os => k ((ord, o) :: os)
      | .err c p => .err c p
    else .err 161 ""
def named {β : Type} (n0 n1 : Nat) (pa : List (Nat × Nat × Nat)) : List (List Nat × Out) → (List (List Nat × Out) → R β) → R β
  | [], k => k []
  | (ord, o) :: l, k => natsK ((List.range (n1 - n0)).map fun i => nameAs pa (madeBy ord (stampsOf o.v)) (n0 + i)) fun pl =>
    bif plOk n0 n1 pl && Nat.beq o.s.n n1 then named n0 n1 pa l fun os => k ((pl, o) :: os) else .err 162 ""
def multiA (F : Facts) (self : Task → ASt → R Out) (ops : Array Oper) (a : AAct) (s : ASt) : R Out :=
  let bs := befores ops.toList []
  let tails := tailsOf 0 ops.toList
  bif Nat.ble tails.length 7 && Nat.ble (perms bs tails.length tails).length 12 then runOrds P F self ops a ⟨s.n, s.n, s.H⟩ bs tails (perms bs tails.length tails) fun os => match os with
    | [] => .err 163 ""
    | (ordA, oA) :: _ => named s.n oA.s.n (madeBy ordA (stampsOf oA.v)) os fun ps => lowOf ps s.n fun low =>
      joinH s.n ps oA.s.H (oA.s.n - low) low s.H fun H => joinT s.n ps oA.a.tmps ops.toList a.tmps fun T => minK low s.low fun low' => .ok ⟨.normal, ⟨a.sz, T, a.marks⟩, undef, ⟨oA.s.n, low', H⟩⟩
  else .err 164 ((ops.toList.head?.map (·.pos)).getD "")
def isCall (o : Option Oper) : Bool := match o with
  | some o => match o.op with
    | .call c => match c.callee with
      | .value _ => true
      | _ => false
    | _ => false
  | none => false
/-- A call that no edge orders with something else that acts on memory. -/
def loose (ops : Array Oper) : Bool :=
  let bs := befores ops.toList []
  let tails := tailsOf 0 ops.toList
  tails.any fun i => isCall ops.toList[i]? && tails.any fun j => !Nat.beq i j && !befB bs i j && !befB bs j i
def regionA (F : Facts) (self : Task → ASt → R Out) (ops : Array Oper) (a : AAct) (s : ASt) : R Out :=
  bif loose ops then match multiA P F self ops a s with
    | .ok o => .ok o
    | .err _ _ => drawA P F self ops ops.toList [] false [(0, s)] [] a s
  else match drawA P F self ops ops.toList [] false [(0, s)] [] a s with
  | .ok o => .ok o
  | .err c p => bif Nat.beq c 135 then multiA P F self ops a s else .err c p

def putArgs {β : Type} : Nat → List Value → Tr Value → (Tr Value → R β) → R β
  | _, [], t, k => k t
  | i, v :: l, t, k => t.setK 60 i (some v) fun t => putArgs (i + 1) l t k

def putParams {β : Type} (sz : Nat) : List Tmp → List Value → Tr Value → (Tr Value → R β) → R β
  | [], [], t, k => k t
  | i :: ps, v :: l, t, k => bif Nat.blt i sz then t.setK 60 i (some v) fun t => putParams sz ps l t k else .err 145 ""
  | _, _, _, _ => .err 119 ""

def resultsA (t : Tr Value) (s : ASt) : List ResultVar → R (List Value)
  | [] => .ok []
  | .tmp i :: l => match t.get i with
    | some v => match resultsA t s l with
      | .ok vs => .ok (v :: vs)
      | .err c p => .err c p
    | none => .err 120 ""
  | .cell i ty :: l => match t.get i with
    | some (.pointer (some a)) => match loadA P s ty a with
      | .ok v => match resultsA t s l with
        | .ok vs => .ok (v :: vs)
        | .err c p => .err c p
      | .err c p => .err c p
    | _ => .err 121 ""

def dropMarks {β : Type} (s : ASt) : List Nat → (ASt → R β) → R β
  | [], k => k s
  | d :: ds, k => match s.H.get d with
    | some (.deferred true) => setObjK s d (some (.deferred false)) fun s => dropMarks s ds k
    | _ => .err 122 ""

/-- A loop: so many rounds at the most. -/
def loopA (ev : AAct → ASt → R Out) : Nat → AAct → ASt → R Out
  | 0, _, _ => .err 144 ""
  | n + 1, a, s => match ev a s with
    | .ok o => match o.e with
      | .normal => loopA ev n o.a o.s
      | e => .ok ⟨e, o.a, undef, o.s⟩
    | .err c p => .err c p

/-! Several outcomes: where a range over a map goes on with any entry. -/
def nextsL (s : ASt) (it m since : Nat) (seen : List Nat) (c : Nat) : List MapEntry → R (List (Value × ASt))
  | [] => .ok []
  | e :: l => match (s.H.setK 60 it (some (.mapIter (some m) since (seen ++ [e.born]) c)) fun H => minK it s.low fun low => .ok (⟨s.n, low, H⟩ : ASt)) with
    | .ok s1 => match nextsL s it m since seen c l with
      | .ok r => .ok ((.tuple #[.bool true, e.key, e.val], s1) :: r)
      | .err c p => .err c p
    | .err c p => .err c p
def nextsA (s : ASt) (v : Value) : R (List (Value × ASt)) := match v with
  | .pointer (some a) => bif Nat.beq a.off 0 then match s.H.get a.block with
    | some (.mapIter (some m) since seen last) => match s.H.get m with
      | some (.map es c) => bif (seen.isEmpty || es.isEmpty || es.any (fun e => Nat.blt e.born last)) && (es.filter (fun e => !(seen.any (Nat.beq e.born)))).all (fun e => Nat.blt e.born since) && Nat.ble 2 (es.filter (fun e => !(seen.any (Nat.beq e.born)))).length then
          nextsL s a.block m since seen c (es.filter (fun e => !(seen.any (Nat.beq e.born))))
        else .err 170 ""
      | _ => .err 171 ""
    | _ => .err 172 ""
    else .err 173 ""
  | _ => .err 174 ""
def putTM {β : Type} (a : AAct) (d : Option Tmp) (v : Value) (k : AAct → R β) : R β := match d with
  | none => k a
  | some d => bif Nat.blt d a.sz then a.tmps.setK 60 d (some v) fun t => k ⟨a.sz, t, a.marks⟩ else .err 113 ""
def appK {α β : Type} : List α → List α → (List α → R β) → R β
  | [], q, k => k q
  | x :: l, q, k => appK l q fun r => k (x :: r)
def eachM {α β : Type} (f : α → R (List β)) : List α → R (List β)
  | [] => .ok []
  | x :: l => match f x with
    | .ok r => match eachM f l with
      | .ok q => appK r q .ok
      | .err c p => .err c p
    | .err c p => .err c p
def opsM (F : Facts) (self : Task → ASt → R Out) (ops : Array Oper) : List Oper → AAct → ASt → R (List Out)
  | [], a, s => .ok [⟨.normal, a, undef, s⟩]
  | o :: l, a, s => match wantA ops o a.tmps with
    | .ok true => match operA P F self o a.tmps s outK with
      | .ok r => putTM a o.dst r.v fun a => opsM F self ops l a r.s
      | .err c p => match o.op with
        | .next x false => match opd a.tmps x with
          | .ok it => match nextsA s it with
            | .ok vs => eachM (fun z => putTM a o.dst z.1 fun a => opsM F self ops l a z.2) vs
            | .err _ _ => .err c p
          | .err c p => .err c p
        | _ => .err c p
    | .ok false => putTM a o.dst undef fun a => opsM F self ops l a s
    | .err c p => .err c p
def goM (f : Out → R (List Out)) : Out → R (List Out)
  | ⟨e, a, v, s⟩ => match e with
    | .normal => f ⟨.normal, a, v, s⟩
    | e => .ok [⟨e, a, undef, s⟩]
def loopM (ev : AAct → ASt → R (List Out)) : Nat → AAct → ASt → R (List Out)
  | 0, _, _ => .err 144 ""
  | n + 1, a, s => match ev a s with
    | .ok os => eachM (goM fun o => loopM ev n o.a o.s) os
    | .err c p => .err c p
def blockM (id : Nat) : Out → Out
  | ⟨e, a, _, s⟩ => match e with
    | .exit j => bif Nat.beq j id then ⟨.normal, a, undef, s⟩ else ⟨.exit j, a, undef, s⟩
    | e => ⟨e, a, undef, s⟩
def blocksM {β : Type} (id : Nat) : List Out → (List Out → R β) → R β
  | [], k => k []
  | o :: l, k => match blockM id o with
    | ⟨e, a, v, s⟩ => blocksM id l fun q => k (⟨e, a, v, s⟩ :: q)
def codeM (F : Facts) (self : Task → ASt → R Out) (fn : FuncId) : Nat → Code → AAct → ASt → R (List Out)
  | 0, _, _, _ => .err 177 ""
  | n + 1, c, a, s => match c with
    | .seq x y => match codeM F self fn n x a s with
      | .ok os => eachM (goM fun o => codeM F self fn n y o.a o.s) os
      | .err c p => .err c p
    | .cond c x y => match opd a.tmps c with
      | .ok (.bool true) => codeM F self fn n x a s
      | .ok (.bool false) => codeM F self fn n y a s
      | .ok _ => .err 123 ""
      | .err c p => .err c p
    | .block id x => match codeM F self fn n x a s with
      | .ok os => blocksM id os .ok
      | .err c p => .err c p
    | .scope x => codeM F self fn n x a s
    | .loop x => loopM (fun a s => codeM F self fn n x a s) 100000 a s
    | .region _ ops false => opsM P F self ops ops.toList a s
    | c => match self (.code none fn c a) s with
      | .ok o => .ok [o]
      | .err c p => .err c p

def endA (fn : Func) (o : Out) : R Out :=
  let fin : R Out := dropMarks o.s o.a.marks fun s => match resultsA P o.a.tmps s fn.results.toList with
    | .ok [v] => .ok ⟨.normal, noAct, v, s⟩
    | .ok vs => .ok ⟨.normal, noAct, .tuple vs.toArray, s⟩
    | .err c p => .err c (p ++ fn.name)
  match o.e with
  | .normal => fin
  | .ret => fin
  | .exit _ => .err 130 fn.name
def endsM (fn : Func) : List Out → R (List Out)
  | [] => .ok []
  | o :: l => match endA P fn o with
    | .ok x => match endsM fn l with
      | .ok r => .ok (x :: r)
      | .err c p => .err c p
    | .err c p => .err c p
/-- What is the same after all outcomes. -/
def joinM (s : ASt) (fs : List Out) : R Out := match fs with
  | [] => .err 175 ""
  | f0 :: _ => bif plain f0.v && fs.all (fun f => Nat.ble s.n f.s.low && eqV (pAt s.n []) f0.v f.v) then .ok ⟨.normal, noAct, f0.v, s⟩
    else bif Nat.ble s.n f0.s.n && fs.all (fun f => Nat.beq f.s.n f0.s.n && eqV (pAt s.n []) f0.v f.v) then
      lowOf (fs.map fun f => ([], f)) s.n fun low => joinH s.n (fs.map fun f => ([], f)) f0.s.H (f0.s.n - low) low s.H fun H => minK low s.low fun low' => .ok ⟨.normal, noAct, f0.v, ⟨f0.s.n, low', H⟩⟩
    else .err 176 ""

def step (F : Facts) (self : Task → ASt → R Out) : Task → ASt → R Out
  | .code r fn c a, s => match c with
    | .skip => .ok ⟨.normal, a, undef, s⟩
    | .label _ => .ok ⟨.normal, a, undef, s⟩
    | .scope x => self (.code r fn x a) s
    | .seq x y => match self (.code r fn x a) s with
      | .ok o => match o.e with
        | .normal => self (.code r fn y o.a) o.s
        | e => .ok ⟨e, o.a, undef, o.s⟩
      | .err c p => .err c p
    | .cond c x y => match opd a.tmps c with
      | .ok (.bool true) => self (.code r fn x a) s
      | .ok (.bool false) => self (.code r fn y a) s
      | .ok _ => .err 123 ""
      | .err c p => .err c p
    | .block id x => match self (.code r fn x a) s with
      | .ok o => match o.e with
        | .exit j => bif Nat.beq j id then .ok ⟨.normal, o.a, undef, o.s⟩ else .ok ⟨.exit j, o.a, undef, o.s⟩
        | e => .ok ⟨e, o.a, undef, o.s⟩
      | .err c p => .err c p
    | .loop x => loopA (fun a s => self (.code r fn x a) s) 1000000 a s
    | .exit id => .ok ⟨.exit id, a, undef, s⟩
    | .ret => .ok ⟨.ret, a, undef, s⟩
    | .region _ ops false => opsA P F self ops ops.toList a s
    | .region _ ops true => regionA P F self ops a s
    | .rangeFunc f ps assign body => match opd a.tmps f with
      | .ok (.func (.func g) fi ca) => match r with
        | none => newObjK s (.deferred true) fun D s => newObjK s (.loop .ready none fn a.sz a.tmps ps.toList assign body D) fun l s =>
            match self (.call g (fi.toList ++ (.func (.yield l) #[] #[] :: ca.toList))) s with
            | .ok o => match o.s.H.get l with
              | some (.loop .busy ..) => .err 124 ""
              | some (.loop _ pend fn' sz t ps' as' bo' D') => setObjK o.s l (some (.loop .exhausted pend fn' sz t ps' as' bo' D')) fun s => match pend with
                | none => .ok ⟨.normal, ⟨a.sz, a.tmps, D :: a.marks⟩, undef, s⟩
                | some c => self (.code r fn c ⟨a.sz, a.tmps, D :: a.marks⟩) s
              | _ => .err 125 ""
            | .err c p => .err c p
        | some _ => .err 126 ""
      | .ok _ => .err 127 ""
      | .err c p => .err c p
    | _ => .err 128 ""
  | .call f args, s => match F.sum f args s with
   | some o => .ok o
   | none => ofOpt 129 "" (P.funcs[f]?) fun fn => match fn.body with
    | some c => putArgs 0 args .leaf fun t => natK (args.length + (fn.ntmps - args.length)) fun sz => match self (.code none f c ⟨sz, t, []⟩) s with
      | .ok o => endA P fn o
      | .err c0 p => bif Nat.beq c0 155 then match codeM P F self f 100000 c ⟨sz, t, []⟩ ⟨s.n, s.n, s.H⟩ with
          | .ok os => match endsM P fn os with
            | .ok fs => joinM s fs
            | .err c p => .err c p
          | .err c p => .err c p
        else .err c0 p
    | none => .err 131 fn.name
  | .yield l args, s => match s.H.get l with
    | some (.loop _ _ fn sz t ps assign bo _) => putParams sz ps args t fun t' => match self (.code (some l) fn assign ⟨sz, t', []⟩) s with
      | .ok o => match o.e, o.s.H.get l with
        | .normal, some (.loop .ready pend fn' sz t ps assign body D) => setObjK o.s l (some (.loop .busy pend fn' sz t ps assign body D)) fun s => match self (.code (some l) fn bo o.a) s with
          | .ok o => match o.s.H.get l with
            | some (.loop _ _ fn sz t ps assign body D) => match o.e with
              | .normal => setObjK o.s l (some (.loop .ready none fn sz t ps assign body D)) fun s => .ok ⟨.normal, noAct, .bool true, s⟩
              | .ret => setObjK o.s l (some (.loop .done (some .ret) fn sz t ps assign body D)) fun s => .ok ⟨.normal, noAct, .bool false, s⟩
              | .exit id => setObjK o.s l (some (.loop .done (some (.exit id)) fn sz t ps assign body D)) fun s => .ok ⟨.normal, noAct, .bool false, s⟩
            | _ => .err 132 ""
          | .err c p => .err c p
        | _, _ => .err 133 ""
      | .err c p => .err c p
    | _ => .err 134 ""

def run (F : Facts) : Nat → Task → ASt → R Out
  | 0, _, _ => .err 0 "fuel"
  | n + 1, t, s => step P F (run F n) t s
end
end Ae
end Go.Proofs.Ytmgcpfljhcahoaa
namespace Go.Proofs.Ytmgcpfljhcahoaa
open Go
namespace Ae

structure Ren where
  β : Nat → Option (Nat × Nat)
  γ : Nat → Nat
  σ : Nat → Value

def czA (ρ : Ren) (a : Addr) : Option Addr := match a.spot, ρ.β a.block with
  | none, some (b, d) => some ⟨b, a.off + d, none⟩
  | _, _ => none
def czB (ρ : Ren) (r : Nat) : Option Nat := match ρ.β r with
  | some (b, 0) => some b
  | _ => none

/-- The empty slice behind the end of a row. -/
def tailZ (ρ : Ren) (blk o1 o2 c : Nat) : Option Value := match ρ.β blk with
  | some (b, d) => bif Nat.ble (c / 2) (ρ.γ blk) then some (.slice (some ⟨b, (if ρ.γ blk = c / 2 then o1 else o2) + d, none⟩) 0 (ρ.γ blk - c / 2)) else none
  | none => none
mutual
def cz (ρ : Ren) : Value → Option Value
  | .bool b => some (.bool b)
  | .int k n => some (.int k n)
  | .string s => some (.string s)
  | .float .f64 i => some (ρ.σ i)
  | .float .f32 e => tailZ ρ (e / tailM / tailM / tailM) (e / tailM / tailM % tailM) (e / tailM % tailM) (e % tailM)
  | .pointer none => some (.pointer none)
  | .pointer (some a) => (czA ρ a).map fun a' => .pointer (some a')
  | .slice none n c => if c = 0 then some (.slice none n 0) else none
  | .slice (some a) n c => match czA ρ a with
    | some a' => bif isOpen c then (bif Nat.ble (n + c / 2) (ρ.γ a.block) then some (.slice (some a') n (ρ.γ a.block - c / 2)) else none) else some (.slice (some a') n (c / 2))
    | none => none
  | .map none => some (.map none)
  | .map (some r) => (czB ρ r).map fun r' => .map (some r')
  | .chan none => some (.chan none)
  | .nilFunc => some .nilFunc
  | .nilIface => some .nilIface
  | .func fn fi ca => match fn with
    | .func f => match cza ρ fi, cza ρ ca with
      | some fi', some ca' => some (.func (.func f) fi' ca')
      | _, _ => none
    | .via a b c d => match cza ρ fi, cza ρ ca with
      | some fi', some ca' => some (.func (.via a b c d) fi' ca')
      | _, _ => none
    | .yield l => match cza ρ fi, cza ρ ca, czB ρ l with
      | some fi', some ca', some l' => some (.func (.yield l') fi' ca')
      | _, _, _ => none
    | _ => none
  | .iface t v => (cz ρ v).map fun v' => .iface t v'
  | .agg a => (cza ρ a).map .agg
  | .tuple a => (cza ρ a).map .tuple
  | _ => none
def cza (ρ : Ren) : Array Value → Option (Array Value)
  | ⟨l⟩ => (czl ρ l).map List.toArray
def czl (ρ : Ren) : List Value → Option (List Value)
  | [] => some []
  | v :: l => match cz ρ v, czl ρ l with
    | some v', some l' => some (v' :: l')
    | _, _ => none
end

/-- ρ' knows what ρ knows. -/
structure Ext (ρ ρ' : Ren) : Prop where
  β : ∀ i x, ρ.β i = some x → ρ'.β i = some x
  γ : ∀ i x, ρ.β i = some x → ρ'.γ i = ρ.γ i
  σ : ρ'.σ = ρ.σ

theorem Ext.refl (ρ : Ren) : Ext ρ ρ := ⟨fun _ _ h => h, fun _ _ _ => rfl, rfl⟩
theorem Ext.trans {ρ ρ' ρ'' : Ren} (h : Ext ρ ρ') (k : Ext ρ' ρ'') : Ext ρ ρ'' :=
  ⟨fun i x hx => k.β i x (h.β i x hx), fun i x hx => (k.γ i x (h.β i x hx)).trans (h.γ i x hx), k.σ.trans h.σ⟩

section
variable {ρ ρ' : Ren}

theorem czA_some {a a' : Addr} : czA ρ a = some a' ↔ ∃ b d, a.spot = none ∧ ρ.β a.block = some (b, d) ∧ a' = ⟨b, a.off + d, none⟩ := by
  unfold czA
  obtain ⟨b, o, sp⟩ := a
  cases sp <;> cases h : ρ.β b <;> simp
  rename_i x
  obtain ⟨b', d⟩ := x
  simp
  constructor
  · rintro rfl; exact ⟨b', d, ⟨rfl, rfl⟩, rfl⟩
  · rintro ⟨_, _, ⟨rfl, rfl⟩, rfl⟩; rfl
theorem czB_some {r r' : Nat} : czB ρ r = some r' ↔ ρ.β r = some (r', 0) := by
  unfold czB
  split <;> simp_all

theorem czA_ext (h : Ext ρ ρ') {a a' : Addr} (ha : czA ρ a = some a') : czA ρ' a = some a' := by
  obtain ⟨b, d, h1, h2, h3⟩ := czA_some.1 ha
  exact czA_some.2 ⟨b, d, h1, h.β _ _ h2, h3⟩
theorem czB_ext (h : Ext ρ ρ') {a a' : Nat} (ha : czB ρ a = some a') : czB ρ' a = some a' := czB_some.2 (h.β _ _ (czB_some.1 ha))

theorem tailZ_some {blk o1 o2 c : Nat} {v : Value} : tailZ ρ blk o1 o2 c = some v ↔ ∃ b d, ρ.β blk = some (b, d) ∧ c / 2 ≤ ρ.γ blk ∧ v = .slice (some ⟨b, (if ρ.γ blk = c / 2 then o1 else o2) + d, none⟩) 0 (ρ.γ blk - c / 2) := by
  unfold tailZ
  cases h : ρ.β blk with
  | none => simp
  | some x =>
    obtain ⟨b, d⟩ := x
    simp only
    cases hl : Nat.ble (c / 2) (ρ.γ blk) with
    | true =>
      have := Nat.le_of_ble_eq_true hl
      constructor
      · intro e
        cases e
        exact ⟨b, d, rfl, this, rfl⟩
      · rintro ⟨b1, d1, e, _, rfl⟩
        cases e
        rfl
    | false =>
      have : ¬ c / 2 ≤ ρ.γ blk := fun g => by rw [Nat.ble_eq_true_of_le g] at hl; cases hl
      simp [this]
theorem tailZ_ext (h : Ext ρ ρ') {blk o1 o2 c : Nat} {v : Value} (hv : tailZ ρ blk o1 o2 c = some v) : tailZ ρ' blk o1 o2 c = some v := by
  obtain ⟨b, d, h1, h2, h3⟩ := tailZ_some.1 hv
  exact tailZ_some.2 ⟨b, d, h.β _ _ h1, by rw [h.γ _ _ h1]; exact h2, by rw [h.γ _ _ h1]; exact h3⟩

mutual
theorem cz_ext (h : Ext ρ ρ') : ∀ (v : Value) {v' : Value}, cz ρ v = some v' → cz ρ' v = some v'
  | .bool _, _, e => e
  | .int _ _, _, e => e
  | .string _, _, e => e
  | .float .f64 i, _, e => by simp only [cz] at e ⊢; rw [h.σ]; exact e
  | .float .f32 i, _, e => by simp only [cz] at e ⊢; exact tailZ_ext h e
  | .complex .., _, e => by simp [cz] at e
  | .pointer none, _, e => e
  | .pointer (some a), v', e => by
    simp only [cz, Option.map_eq_some_iff] at e ⊢
    obtain ⟨a', ha, rfl⟩ := e
    exact ⟨a', czA_ext h ha, rfl⟩
  | .slice none _ _, _, e => by simpa only [cz] using e
  | .slice (some a) n c, v', e => by
    simp only [cz] at e ⊢
    cases ha : czA ρ a with
    | none => simp [ha] at e
    | some a' =>
      obtain ⟨b, d, h1, h2, h3⟩ := czA_some.1 ha
      rw [czA_ext h ha, h.γ _ _ h2]
      simpa [ha] using e
  | .map none, _, e => by simpa only [cz] using e
  | .map (some r), v', e => by
    simp only [cz, Option.map_eq_some_iff] at e ⊢
    obtain ⟨a', ha, rfl⟩ := e
    exact ⟨a', czB_ext h ha, rfl⟩
  | .chan none, _, e => by simpa only [cz] using e
  | .chan (some _), _, e => by simp [cz] at e
  | .nilFunc, _, e => by simpa only [cz] using e
  | .nilIface, _, e => by simpa only [cz] using e
  | .func fn fi ca, v', e => by
    cases fn with
    | func f =>
      simp only [cz] at e ⊢
      cases h1 : cza ρ fi with
      | none => simp [h1] at e
      | some fi' => cases h2 : cza ρ ca with
        | none => simp [h1, h2] at e
        | some ca' => rw [cza_ext h fi h1, cza_ext h ca h2]; simpa [h1, h2] using e
    | via a b c d =>
      simp only [cz] at e ⊢
      cases h1 : cza ρ fi with
      | none => simp [h1] at e
      | some fi' => cases h2 : cza ρ ca with
        | none => simp [h1, h2] at e
        | some ca' => rw [cza_ext h fi h1, cza_ext h ca h2]; simpa [h1, h2] using e
    | yield l =>
      simp only [cz] at e ⊢
      cases h1 : cza ρ fi with
      | none => simp [h1] at e
      | some fi' => cases h2 : cza ρ ca with
        | none => simp [h1, h2] at e
        | some ca' => cases h3 : czB ρ l with
          | none => simp [h1, h2, h3] at e
          | some l' => rw [cza_ext h fi h1, cza_ext h ca h2, czB_ext h h3]; simpa [h1, h2, h3] using e
    | method n => simp [cz] at e
    | methodOf t n => simp [cz] at e
  | .iface t v, v', e => by
    simp only [cz, Option.map_eq_some_iff] at e ⊢
    obtain ⟨a', ha, rfl⟩ := e
    exact ⟨a', cz_ext h v ha, rfl⟩
  | .agg a, v', e => by
    simp only [cz, Option.map_eq_some_iff] at e ⊢
    obtain ⟨a', ha, rfl⟩ := e
    exact ⟨a', cza_ext h a ha, rfl⟩
  | .tuple a, v', e => by
    simp only [cz, Option.map_eq_some_iff] at e ⊢
    obtain ⟨a', ha, rfl⟩ := e
    exact ⟨a', cza_ext h a ha, rfl⟩
theorem cza_ext (h : Ext ρ ρ') : ∀ (a : Array Value) {a' : Array Value}, cza ρ a = some a' → cza ρ' a = some a'
  | ⟨l⟩, a', e => by
    simp only [cza, Option.map_eq_some_iff] at e ⊢
    obtain ⟨l', ha, rfl⟩ := e
    exact ⟨l', czl_ext h l ha, rfl⟩
theorem czl_ext (h : Ext ρ ρ') : ∀ (l : List Value) {l' : List Value}, czl ρ l = some l' → czl ρ' l = some l'
  | [], _, e => by simpa only [czl] using e
  | v :: l, l', e => by
    simp only [czl] at e ⊢
    cases h1 : cz ρ v with
    | none => simp [h1] at e
    | some v' => cases h2 : czl ρ l with
      | none => simp [h1, h2] at e
      | some l1 => rw [cz_ext h v h1, czl_ext h l h2]; simpa [h1, h2] using e
end

theorem czl_cons {v : Value} {l r : List Value} : czl ρ (v :: l) = some r ↔ ∃ v' l', cz ρ v = some v' ∧ czl ρ l = some l' ∧ r = v' :: l' := by
  simp only [czl]
  cases h1 : cz ρ v with
  | none => simp
  | some v' => cases h2 : czl ρ l with
    | none => simp
    | some l' => simp [eq_comm]
theorem czl_length : ∀ {l l' : List Value}, czl ρ l = some l' → l'.length = l.length
  | [], _, h => by simp [czl] at h; subst h; rfl
  | v :: l, _, h => by
    obtain ⟨v', l1, _, h2, rfl⟩ := czl_cons.1 h
    simp [czl_length h2]
theorem czl_append : ∀ {l m l' m' : List Value}, czl ρ l = some l' → czl ρ m = some m' → czl ρ (l ++ m) = some (l' ++ m')
  | [], _, _, _, h, h' => by simp [czl] at h; subst h; simpa using h'
  | v :: l, m, _, m', h, h' => by
    obtain ⟨v', l1, h1, h2, rfl⟩ := czl_cons.1 h
    exact czl_cons.2 ⟨v', l1 ++ m', h1, czl_append h2 h', rfl⟩
theorem czl_take : ∀ (n : Nat) {l l' : List Value}, czl ρ l = some l' → czl ρ (l.take n) = some (l'.take n)
  | 0, _, _, _ => by simp [czl]
  | n + 1, [], _, h => by simp [czl] at h; subst h; simp [czl]
  | n + 1, v :: l, _, h => by
    obtain ⟨v', l1, h1, h2, rfl⟩ := czl_cons.1 h
    exact czl_cons.2 ⟨v', _, h1, czl_take n h2, rfl⟩
theorem czl_drop : ∀ (n : Nat) {l l' : List Value}, czl ρ l = some l' → czl ρ (l.drop n) = some (l'.drop n)
  | 0, _, _, h => by simpa using h
  | n + 1, [], _, h => by simp [czl] at h; subst h; simp [czl]
  | n + 1, v :: l, _, h => by
    obtain ⟨v', l1, h1, h2, rfl⟩ := czl_cons.1 h
    simpa using czl_drop n h2
theorem czl_get : ∀ {l l' : List Value} (j : Nat) {v : Value}, czl ρ l = some l' → l[j]? = some v → ∃ v', l'[j]? = some v' ∧ cz ρ v = some v'
  | [], _, _, _, _, h => by simp at h
  | v :: l, _, 0, u, h, h' => by
    obtain ⟨v', l1, h1, h2, rfl⟩ := czl_cons.1 h
    simp at h'; subst h'
    exact ⟨v', rfl, h1⟩
  | v :: l, _, j + 1, u, h, h' => by
    obtain ⟨v', l1, h1, h2, rfl⟩ := czl_cons.1 h
    simpa using czl_get j h2 (by simpa using h')
theorem cza_toList {a a' : Array Value} : cza ρ a = some a' ↔ czl ρ a.toList = some a'.toList := by
  obtain ⟨l⟩ := a
  obtain ⟨l'⟩ := a'
  simp only [cza, Option.map_eq_some_iff]
  constructor
  · rintro ⟨x, h, e⟩; have : x = l' := by injection e
    subst this; exact h
  · intro h; exact ⟨l', h, rfl⟩

theorem cz_plain1 : ∀ {v : Value}, plain1 v = true → cz ρ v = some v := by
  intro v h
  unfold plain1 at h
  split at h <;> first | (simp [cz]; done) | cases h
theorem czl_plain1 : ∀ {l : List Value}, l.all plain1 = true → czl ρ l = some l
  | [], _ => by simp [czl]
  | v :: l, h => by
    simp only [List.all_cons, Bool.and_eq_true] at h
    exact czl_cons.2 ⟨v, l, cz_plain1 h.1, czl_plain1 h.2, rfl⟩
theorem cz_plain {v : Value} (h : plain v = true) : cz ρ v = some v := by
  unfold plain at h
  split at h
  · simp only [cz, Option.map_eq_some_iff]; exact ⟨_, cza_toList.2 (czl_plain1 h), rfl⟩
  · simp only [cz, Option.map_eq_some_iff]; exact ⟨_, cza_toList.2 (czl_plain1 h), rfl⟩
  · exact cz_plain1 h
theorem cz_one (hσ : ∀ i, (ρ.σ i).oneCell' = true) {v v' : Value} (h : cz ρ v = some v') (hv : oneCells [v] = true) : v'.oneCell' = true := by
  cases v with
  | agg a => simp [oneCells] at hv
  | tuple a => simp [oneCells] at hv
  | float k i => cases k with
    | f32 => simp only [cz] at h; obtain ⟨_, _, _, _, rfl⟩ := tailZ_some.1 h; rfl
    | f64 => simp only [cz, Option.some.injEq] at h; rw [← h]; exact hσ i
  | complex => simp [cz] at h
  | pointer a => cases a with
    | none => simp [cz] at h; subst h; rfl
    | some a => simp only [cz, Option.map_eq_some_iff] at h; obtain ⟨_, _, rfl⟩ := h; rfl
  | map a => cases a with
    | none => simp [cz] at h; subst h; rfl
    | some a => simp only [cz, Option.map_eq_some_iff] at h; obtain ⟨_, _, rfl⟩ := h; rfl
  | chan a => cases a with
    | none => simp [cz] at h; subst h; rfl
    | some a => simp [cz] at h
  | slice a n c => cases a with
    | none => simp [cz] at h; obtain ⟨_, rfl⟩ := h; rfl
    | some a =>
      simp only [cz] at h
      cases ha : czA ρ a with
      | none => simp [ha] at h
      | some a' =>
        simp only [ha] at h
        cases ho : isOpen c with
        | false => simp [ho] at h; subst h; rfl
        | true =>
          simp only [ho, cond_true] at h
          cases hl : Nat.ble (n + c / 2) (ρ.γ a.block) with
          | false => simp [hl] at h
          | true => simp [hl] at h; subst h; rfl
  | func fn fi ca =>
    cases fn <;> simp only [cz] at h
    case func f =>
      cases h1 : cza ρ fi <;> cases h2 : cza ρ ca <;> simp [h1, h2] at h
      subst h; rfl
    case via =>
      cases h1 : cza ρ fi <;> cases h2 : cza ρ ca <;> simp [h1, h2] at h
      subst h; rfl
    case yield l =>
      cases h1 : cza ρ fi <;> cases h2 : cza ρ ca <;> cases h3 : czB ρ l <;> simp [h1, h2, h3] at h
      subst h; rfl
    all_goals cases h
  | iface t x => simp only [cz, Option.map_eq_some_iff] at h; obtain ⟨_, _, rfl⟩ := h; rfl
  | _ => simp [cz] at h; subst h; rfl
theorem cells_of_one {v : Value} (h : v.oneCell' = true) : v.cells = #[v] := by cases v <;> first | rfl | cases h
theorem czl_cellsOf {v v' : Value} (hσ : ∀ i, (ρ.σ i).oneCell' = true) (h : cz ρ v = some v') : czl ρ (cellsOf v) = some v'.cells.toList := by
  have hone : ∀ {u : Value}, cellsOf v = [v] → u.cells = #[u] → v' = u → czl ρ (cellsOf v) = some v'.cells.toList := fun h1 h2 e => by
    subst e
    rw [h1, h2]
    exact czl_cons.2 ⟨_, [], h, by simp [czl], rfl⟩
  cases v with
  | agg a =>
    simp only [cz, Option.map_eq_some_iff] at h
    obtain ⟨a', ha, rfl⟩ := h
    exact cza_toList.1 ha
  | tuple a =>
    have h' := h
    simp only [cz, Option.map_eq_some_iff] at h'
    obtain ⟨a', ha, rfl⟩ := h'
    exact hone rfl rfl rfl
  | _ => exact hone rfl (cells_of_one (cz_one hσ h rfl)) rfl
theorem czl_ones (hσ : ∀ i, (ρ.σ i).oneCell' = true) : ∀ {l l' : List Value}, czl ρ l = some l' → oneCells l = true → ∀ v ∈ l', v.oneCell' = true
  | [], _, h, _ => by simp [czl] at h; subst h; simp
  | v :: l, _, h, h1 => by
    obtain ⟨v', l1, h2, h3, rfl⟩ := czl_cons.1 h
    have hv : oneCells [v] = true ∧ oneCells l = true := by cases v <;> simp_all [oneCells]
    intro u hu
    rcases List.mem_cons.1 hu with rfl | hu
    · exact cz_one hσ h2 hv.1
    · exact czl_ones hσ h3 hv.2 u hu
theorem cellsOf_length {v v' : Value} (hσ : ∀ i, (ρ.σ i).oneCell' = true) (h : cz ρ v = some v') : v'.cells.size = (cellsOf v).length := by
  have := czl_length (czl_cellsOf hσ h)
  simpa using this

/-! Tries -/
theorem get_setK {α β : Type} : ∀ (f : Nat) (t : Tr α) (n : Nat) (x : Option α) (k : Tr α → R β) (y : β), t.setK f n x k = .ok y → ∃ t', k t' = .ok y ∧ ∀ m, t'.get m = if m = n then x else t.get m := by
  intro f
  induction f with
  | zero => intro t n x k y h; simp [Tr.setK] at h
  | succ f ih =>
    intro t n x k y h
    have hdm : ∀ m : Nat, m = 2 * (m / 2) + m % 2 ∧ m % 2 < 2 := fun m => ⟨by omega, by omega⟩
    cases t with
    | leaf =>
      simp only [Tr.setK] at h
      cases n with
      | zero =>
        refine ⟨_, h, fun m => ?_⟩
        cases m with
        | zero => simp [Tr.get]
        | succ m => simp only [Tr.get]; cases Nat.beq (m % 2) 0 <;> simp
      | succ n =>
        cases hb : Nat.beq (n % 2) 0 with
        | true =>
          simp only [hb, cond_true] at h
          obtain ⟨t', h1, h2⟩ := ih _ _ _ _ _ h
          refine ⟨_, h1, fun m => ?_⟩
          cases m with
          | zero => simp [Tr.get]
          | succ m =>
            have hb' : n % 2 = 0 := by simpa using hb
            simp only [Tr.get]
            cases hm : Nat.beq (m % 2) 0 with
            | true =>
              have hm' : m % 2 = 0 := by simpa using hm
              simp only [cond_true, h2, Tr.get]
              by_cases e : m / 2 = n / 2
              · rw [if_pos e, if_pos (by omega)]
              · rw [if_neg e, if_neg (by omega)]
            | false =>
              have hm' : m % 2 ≠ 0 := fun e => by rw [e] at hm; cases hm
              simp only [cond_false]
              rw [if_neg (by omega)]
        | false =>
          simp only [hb, cond_false] at h
          obtain ⟨t', h1, h2⟩ := ih _ _ _ _ _ h
          refine ⟨_, h1, fun m => ?_⟩
          cases m with
          | zero => simp [Tr.get]
          | succ m =>
            have hb' : n % 2 ≠ 0 := fun e => by rw [e] at hb; cases hb
            simp only [Tr.get]
            cases hm : Nat.beq (m % 2) 0 with
            | false =>
              have hm' : m % 2 ≠ 0 := fun e => by rw [e] at hm; cases hm
              simp only [cond_false, h2, Tr.get]
              by_cases e : m / 2 = n / 2
              · rw [if_pos e, if_pos (by omega)]
              · rw [if_neg e, if_neg (by omega)]
            | true =>
              have hm' : m % 2 = 0 := by simpa using hm
              simp only [cond_true]
              rw [if_neg (by omega)]
    | node v l r =>
      simp only [Tr.setK] at h
      cases n with
      | zero =>
        refine ⟨_, h, fun m => ?_⟩
        cases m <;> simp [Tr.get]
      | succ n =>
        cases hb : Nat.beq (n % 2) 0 with
        | true =>
          simp only [hb, cond_true] at h
          obtain ⟨t', h1, h2⟩ := ih _ _ _ _ _ h
          refine ⟨_, h1, fun m => ?_⟩
          cases m with
          | zero => simp [Tr.get]
          | succ m =>
            have hb' : n % 2 = 0 := by simpa using hb
            simp only [Tr.get]
            cases hm : Nat.beq (m % 2) 0 with
            | true =>
              have hm' : m % 2 = 0 := by simpa using hm
              simp only [cond_true, h2]
              by_cases e : m / 2 = n / 2
              · rw [if_pos e, if_pos (by omega)]
              · rw [if_neg e, if_neg (by omega)]
            | false =>
              have hm' : m % 2 ≠ 0 := fun e => by rw [e] at hm; cases hm
              simp only [cond_false]
              rw [if_neg (by omega)]
        | false =>
          simp only [hb, cond_false] at h
          obtain ⟨t', h1, h2⟩ := ih _ _ _ _ _ h
          refine ⟨_, h1, fun m => ?_⟩
          cases m with
          | zero => simp [Tr.get]
          | succ m =>
            have hb' : n % 2 ≠ 0 := fun e => by rw [e] at hb; cases hb
            simp only [Tr.get]
            cases hm : Nat.beq (m % 2) 0 with
            | false =>
              have hm' : m % 2 ≠ 0 := fun e => by rw [e] at hm; cases hm
              simp only [cond_false, h2]
              by_cases e : m / 2 = n / 2
              · rw [if_pos e, if_pos (by omega)]
              · rw [if_neg e, if_neg (by omega)]
            | true =>
              have hm' : m % 2 = 0 := by simpa using hm
              simp only [cond_true]
              rw [if_neg (by omega)]

theorem natK_ok {β : Type} {n : Nat} {k : Nat → R β} {y : β} (h : natK n k = .ok y) : k n = .ok y := by cases n <;> exact h
theorem intK_ok {β : Type} {n : Int} {k : Int → R β} {y : β} (h : intK n k = .ok y) : k n = .ok y := by
  cases n <;> exact natK_ok (k := fun m => k _) h
theorem boolK_ok {β : Type} {n : Bool} {k : Bool → R β} {y : β} (h : boolK n k = .ok y) : k n = .ok y := by cases n <;> exact h
theorem valK_ok {β : Type} {v : Value} {k : Value → R β} {y : β} (h : valK v k = .ok y) : k v = .ok y := by
  cases v <;> first | exact intK_ok (k := fun n => k _) h | exact boolK_ok (k := fun n => k _) h | exact h
theorem takeK_ok {β : Type} : ∀ {n : Nat} {l : List Value} {k : List Value → R β} {y : β}, takeK n l k = .ok y → k (l.take n) = .ok y ∧ n ≤ l.length
  | 0, _, _, _, h => by simpa [takeK] using h
  | _ + 1, [], _, _, h => by simp [takeK] at h
  | n + 1, v :: l, _, _, h => by
    have := takeK_ok (n := n) (l := l) (k := fun l => _) h
    simpa using this
theorem dropK_ok {β : Type} : ∀ {n : Nat} {l : List Value} {k : List Value → R β} {y : β}, dropK n l k = .ok y → k (l.drop n) = .ok y ∧ n ≤ l.length
  | 0, _, _, _, h => by simpa [dropK] using h
  | _ + 1, [], _, _, h => by simp [dropK] at h
  | n + 1, v :: l, _, _, h => by
    have := dropK_ok (n := n) (l := l) h
    simpa using this
theorem overK_ok {β : Type} : ∀ {vs l : List Value} {k : List Value → R β} {y : β}, overK vs l k = .ok y → k (vs ++ l.drop vs.length) = .ok y ∧ vs.length ≤ l.length
  | [], _, _, _, h => by simpa [overK] using h
  | _ :: _, [], _, _, h => by simp [overK] at h
  | v :: vs, x :: l, _, _, h => by
    have := overK_ok (vs := vs) (l := l) (k := fun l => _) h
    simpa using this
theorem putAtK_ok {β : Type} : ∀ {n : Nat} {l vs : List Value} {k : List Value → R β} {y : β}, putAtK n l vs k = .ok y → k (l.take n ++ vs ++ l.drop (n + vs.length)) = .ok y ∧ n + vs.length ≤ l.length
  | 0, l, vs, _, _, h => by have := overK_ok h; simpa using this
  | _ + 1, [], _, _, _, h => by simp [putAtK] at h
  | n + 1, x :: l, vs, _, _, h => by
    have := putAtK_ok (n := n) (l := l) (k := fun l => _) h
    simp only [List.cons_append, List.take_succ_cons, List.length_cons]
    refine ⟨?_, by omega⟩
    rw [show n + 1 + vs.length = n + vs.length + 1 by omega, List.drop_succ_cons]
    exact this.1
theorem overListK_ok {β : Type} : ∀ {l m : List Value} {k : List Value → R β} {y : β}, appendA.overListK l m k = .ok y → k (l ++ m) = .ok y
  | [], _, _, _, h => h
  | v :: l, m, _, _, h => by
    have := overListK_ok (l := l) (k := fun l => _) h
    simpa using this
theorem minK_ok {β : Type} {a b : Nat} {k : Nat → R β} {y : β} (h : minK a b k = .ok y) : k (min a b) = .ok y := by
  unfold minK at h
  cases hb : Nat.ble a b with
  | true => rw [hb] at h; rw [Nat.min_eq_left (Nat.le_of_ble_eq_true hb)]; exact h
  | false =>
    rw [hb] at h
    have : ¬ a ≤ b := fun g => by rw [Nat.ble_eq_true_of_le g] at hb; cases hb
    rw [Nat.min_eq_right (by omega)]; exact h
theorem ofOpt_ok {α β : Type} {c : Nat} {p : String} {x : Option α} {k : α → R β} {y : β} (h : ofOpt c p x k = .ok y) : ∃ a, x = some a ∧ k a = .ok y := by
  cases x with
  | none => cases h
  | some a => exact ⟨a, rfl, h⟩
theorem bif_ok {β : Type} {b : Bool} {x : R β} {c : Nat} {p : String} {y : β} (h : (bif b then x else .err c p) = .ok y) : b = true ∧ x = .ok y := by
  cases b with
  | true => exact ⟨rfl, h⟩
  | false => cases h
end
end Ae
end Go.Proofs.Ytmgcpfljhcahoaa
namespace Go.Proofs.Ytmgcpfljhcahoaa
open Go Go.RowKit
namespace Ae

def cze (ρ : Ren) (e : MapEntry) : Option MapEntry := match cz ρ e.key, cz ρ e.val with
  | some k, some v => some ⟨k, v, e.born⟩
  | _, _ => none
def czes (ρ : Ren) : List MapEntry → Option (List MapEntry)
  | [] => some []
  | e :: es => match cze ρ e, czes ρ es with
    | some e', some es' => some (e' :: es')
    | _, _ => none

/-- The temporaries. -/
structure RelT (ρ : Ren) (sz : Nat) (t : Tr Value) (a : Array Value) : Prop where
  size : a.size = sz
  get : ∀ i v, t.get i = some v → ∃ v', cz ρ v = some v' ∧ a[i]? = some v'

/-- What block b from cell d on holds. -/
def OR (P : Program) (ρ : Ren) (i d : Nat) : AObj → Obj → Prop
  | .cells l e op, o => ∃ pre l' tail, czl ρ l = some l' ∧ o = .cells (pre ++ l' ++ tail).toArray e (0, 0) ∧ pre.length = d ∧ (op = true → ∃ sz, sizeT P e = some sz ∧ (l' ++ tail).length = ρ.γ i * sz)
  | .map es c, o => d = 0 ∧ ∃ es', czes ρ es = some es' ∧ o = .map es'.toArray c
  | .mapIter m since seen last, o => d = 0 ∧ ∃ m', (match m with | none => m' = none | some r => ∃ r', czB ρ r = some r' ∧ m' = some r') ∧ o = .mapIter m' since seen.toArray last
  | .loop st pend _ sz t ps asg bo D, o => d = 0 ∧ ∃ fn tm D', RelT ρ sz t tm ∧ czB ρ D = some D' ∧ o = .loop { state := st, pending := pend, fn := fn, tmps := tm, params := ps.toArray, assign := asg, body := bo, defers := D' }
  | .deferred live, o => d = 0 ∧ o = .deferred (if live then some [] else none)

structure Rel (P : Program) (B : Nat) (ρ : Ren) (s : ASt) (w : World) : Prop where
  obj : ∀ i o, s.H.get i = some o → ∃ b d c, ρ.β i = some (b, d) ∧ w.heap[b]? = some c ∧ OR P ρ i d o c
  inj : ∀ i j oi oj b d d', s.H.get i = some oi → s.H.get j = some oj → ρ.β i = some (b, d) → ρ.β j = some (b, d') → i = j
  dom : ∀ i, i < s.n → (ρ.β i).isSome = true
  fresh : ∀ i, s.n ≤ i → ρ.β i = none
  lt : ∀ i b d, ρ.β i = some (b, d) → B ≤ b ∧ b < w.heap.size
  sig : ∀ i, (ρ.σ i).oneCell' = true

structure Step (P : Program) (B : Nat) (s : ASt) (ρ : Ren) (w : World) (s' : ASt) (ρ' : Ren) (w' : World) : Prop where
  ext : Ext ρ ρ'
  rel : Rel P B ρ' s' w'
  n : s.n ≤ s'.n
  low : s'.low ≤ s.low
  same : ∀ i, i < s'.low → i < s.n → s'.H.get i = s.H.get i
  keep : ∀ k, k < w.heap.size → (∀ i b d, s'.low ≤ i → i < s.n → ρ.β i = some (b, d) → b ≠ k) → w'.heap[k]? = w.heap[k]?
  new : ∀ i b d, s.n ≤ i → ρ'.β i = some (b, d) → w.heap.size ≤ b ∨ ∃ j d', s'.low ≤ j ∧ j < s.n ∧ ρ.β j = some (b, d')
  size : w.heap.size ≤ w'.heap.size
  os : w'.os = w.os
  tape : w'.tape = w.tape
  output : w'.output = w.output

section
variable {P : Program} {B : Nat} {ρ ρ' ρ'' : Ren} {s s' s'' : ASt} {w w' w'' : World}

theorem Rel.lt_n (h : Rel P B ρ s w) {i : Nat} {x : Nat × Nat} (hi : ρ.β i = some x) : i < s.n := by
  rcases Nat.lt_or_ge i s.n with g | g
  · exact g
  · rw [h.fresh i g] at hi; cases hi

theorem Step.more (h : Rel P B ρ s w) (hb : Below w.heap.size w w') : Step P B s ρ w s ρ w' :=
  ⟨Ext.refl ρ, ⟨fun i o hi => (let ⟨b, d, c, h1, h2, h3⟩ := h.obj i o hi; ⟨b, d, c, h1, (hb.block b (h.lt i b d h1).2).trans h2, h3⟩), h.inj, h.dom, h.fresh, fun i b d hi => ⟨(h.lt i b d hi).1, Nat.lt_of_lt_of_le (h.lt i b d hi).2 hb.size⟩, h.sig⟩,
    Nat.le_refl _, Nat.le_refl _, fun _ _ _ => rfl, fun k hk _ => hb.block k hk, fun i b d hi hx => (by rw [h.fresh i hi] at hx; cases hx), hb.size, hb.os, hb.tape, hb.output⟩
theorem Step.refl (h : Rel P B ρ s w) : Step P B s ρ w s ρ w :=
  ⟨Ext.refl ρ, h, Nat.le_refl _, Nat.le_refl _, fun _ _ _ => rfl, fun _ _ _ => rfl, fun i b d hi hb => by have := h.lt_n hb; omega, Nat.le_refl _, rfl, rfl, rfl⟩

theorem Step.trans (h0 : Rel P B ρ s w) (h : Step P B s ρ w s' ρ' w') (k : Step P B s' ρ' w' s'' ρ'' w'') : Step P B s ρ w s'' ρ'' w'' := by
  refine ⟨h.ext.trans k.ext, k.rel, Nat.le_trans h.n k.n, Nat.le_trans k.low h.low, fun i hi hn => ?_, fun b hb hk => ?_, fun i b d hi hb => ?_, Nat.le_trans h.size k.size, k.os.trans h.os, k.tape.trans h.tape, k.output.trans h.output⟩
  · have := k.low
    exact (k.same i hi (Nat.lt_of_lt_of_le hn h.n)).trans (h.same i (by omega) hn)
  · refine (k.keep b (Nat.lt_of_lt_of_le hb h.size) fun i x d hi hn hx e => ?_).trans (h.keep b hb fun i x d hi hn hx => hk i x d (Nat.le_trans k.low hi) hn hx)
    subst e
    rcases Nat.lt_or_ge i s.n with g | g
    · obtain ⟨y, hy⟩ := Option.isSome_iff_exists.1 (h0.dom i g)
      have := h.ext.β i y hy
      rw [hx] at this
      cases this
      exact hk i x d hi g hy rfl
    · rcases h.new i x d g hx with h1 | ⟨j, d', h1, h2, h3⟩
      · omega
      · exact hk j x d' (Nat.le_trans k.low h1) h2 h3 rfl
  · rcases Nat.lt_or_ge i s'.n with g | g
    · obtain ⟨y, hy⟩ := Option.isSome_iff_exists.1 (h.rel.dom i g)
      have := k.ext.β i y hy
      rw [hb] at this
      cases this
      rcases h.new i b d hi hy with h1 | ⟨j, d', h1, h2, h3⟩
      · exact .inl h1
      · exact .inr ⟨j, d', Nat.le_trans k.low h1, h2, h3⟩
    · rcases k.new i b d g hb with h1 | ⟨j, d', h1, h2, h3⟩
      · exact .inl (Nat.le_trans h.size h1)
      · rcases Nat.lt_or_ge j s.n with g' | g'
        · obtain ⟨y, hy⟩ := Option.isSome_iff_exists.1 (h0.dom j g')
          have := h.ext.β j y hy
          rw [h3] at this
          cases this
          exact .inr ⟨j, d', h1, g', hy⟩
        · rcases h.new j b d' g' h3 with h4 | ⟨j', d'', h4, h5, h6⟩
          · exact .inl h4
          · exact .inr ⟨j', d'', Nat.le_trans k.low h4, h5, h6⟩

theorem RelT.ext (h : Ext ρ ρ') {sz : Nat} {t : Tr Value} {a : Array Value} (ht : RelT ρ sz t a) : RelT ρ' sz t a :=
  ⟨ht.size, fun i v hv => let ⟨v', h1, h2⟩ := ht.get i v hv; ⟨v', cz_ext h v h1, h2⟩⟩
theorem cze_ext (h : Ext ρ ρ') {e e' : MapEntry} (he : cze ρ e = some e') : cze ρ' e = some e' := by
  unfold cze at he ⊢
  cases h1 : cz ρ e.key with
  | none => simp [h1] at he
  | some k => cases h2 : cz ρ e.val with
    | none => simp [h1, h2] at he
    | some v => rw [cz_ext h _ h1, cz_ext h _ h2]; simpa [h1, h2] using he
theorem czes_cons {e : MapEntry} {l r : List MapEntry} : czes ρ (e :: l) = some r ↔ ∃ v' l', cze ρ e = some v' ∧ czes ρ l = some l' ∧ r = v' :: l' := by
  simp only [czes]
  cases h1 : cze ρ e with
  | none => simp
  | some v' => cases h2 : czes ρ l with
    | none => simp
    | some l' => simp [eq_comm]
theorem czes_ext (h : Ext ρ ρ') : ∀ {l l' : List MapEntry}, czes ρ l = some l' → czes ρ' l = some l'
  | [], _, e => by simpa [czes] using e
  | e :: l, _, he => by
    obtain ⟨v', l1, h1, h2, rfl⟩ := czes_cons.1 he
    exact czes_cons.2 ⟨v', l1, cze_ext h h1, czes_ext h h2, rfl⟩
theorem OR.ext (h : Ext ρ ρ') {i d : Nat} {x : Nat × Nat} (hi : ρ.β i = some x) {o : AObj} {c : Obj} (ho : OR P ρ i d o c) : OR P ρ' i d o c := by
  cases o with
  | cells l e op =>
    obtain ⟨pre, l', tail, h1, h2, h3, h4⟩ := ho
    refine ⟨pre, l', tail, czl_ext h l h1, h2, h3, fun hop => ?_⟩
    rw [h.γ i x hi]; exact h4 hop
  | map es c =>
    obtain ⟨h0, es', h1, h2⟩ := ho
    exact ⟨h0, es', czes_ext h h1, h2⟩
  | mapIter m =>
    obtain ⟨h0, m', h1, h2⟩ := ho
    refine ⟨h0, m', ?_, h2⟩
    cases m with
    | none => exact h1
    | some r => obtain ⟨r', h3, h4⟩ := h1; exact ⟨r', czB_ext h h3, h4⟩
  | loop =>
    obtain ⟨h0, fn, tm, D', h1, h2, h3⟩ := ho
    exact ⟨h0, fn, tm, D', h1.ext h, czB_ext h h2, h3⟩
  | deferred => exact ho

/-- A new block. -/
def Ren.add (ρ : Ren) (i : Nat) (x : Nat × Nat) (g : Nat) : Ren := ⟨fun j => if j = i then some x else ρ.β j, fun j => if j = i then g else ρ.γ j, ρ.σ⟩
theorem Ext.add {i : Nat} (hi : ρ.β i = none) (x : Nat × Nat) (g : Nat) : Ext ρ (ρ.add i x g) :=
  ⟨fun j y hj => by simp only [Ren.add]; rw [if_neg (fun e => by subst e; rw [hi] at hj; cases hj)]; exact hj,
   fun j y hj => by simp only [Ren.add]; rw [if_neg (fun e => by subst e; rw [hi] at hj; cases hj)], rfl⟩

theorem Step.alloc (h : Rel P B ρ s w) (hB : B ≤ w.heap.size) {o : AObj} {c : Obj} (g : Nat) {H : Tr AObj} (hH : ∀ m, H.get m = if m = s.n then some o else s.H.get m)
    (ho : OR P (ρ.add s.n (w.heap.size, 0) g) s.n 0 o c) {w' : World} (hw : ∃ d, w' = { w.alloc c with drawn := d }) : Step P B s ρ w ⟨s.n + 1, s.low, H⟩ (ρ.add s.n (w.heap.size, 0) g) w' := by
  obtain ⟨dd, rfl⟩ := hw
  have hf := h.fresh s.n (Nat.le_refl _)
  have hext := Ext.add hf (w.heap.size, 0) g
  have hnone : s.H.get s.n = none := by
    cases hg : s.H.get s.n with
    | none => rfl
    | some o => obtain ⟨b, d, c, hb, _⟩ := h.obj _ _ hg; rw [hf] at hb; cases hb
  have hβ : ∀ j, (ρ.add s.n (w.heap.size, 0) g).β j = if j = s.n then some (w.heap.size, 0) else ρ.β j := fun _ => rfl
  have hold : ∀ k, k < w.heap.size → (w.alloc c).heap[k]? = w.heap[k]? := fun k hk => Below.heap_alloc w c k hk
  refine ⟨hext, ⟨fun i oi hi => ?_, fun i j oi oj b d d' hi hj hbi hbj => ?_, fun i hi => ?_, fun i hi => ?_, fun i b d hb => ?_, h.sig⟩, Nat.le_succ _, Nat.le_refl _, fun i _ hi => ?_, fun k hk _ => hold k hk, fun i b d hi hb => ?_, ?_, rfl, rfl, rfl⟩
  · rw [hH] at hi
    by_cases e : i = s.n
    · rw [if_pos e] at hi
      cases hi
      subst e
      exact ⟨w.heap.size, 0, c, by rw [hβ, if_pos rfl], heap_alloc_new w c, ho⟩
    · rw [if_neg e] at hi
      obtain ⟨b, d, c', h1, h2, h3⟩ := h.obj i oi hi
      exact ⟨b, d, c', hext.β i _ h1, (hold b (h.lt i b d h1).2).trans h2, h3.ext hext h1⟩
  · rw [hH] at hi hj
    rw [hβ] at hbi hbj
    by_cases e : i = s.n <;> by_cases e' : j = s.n
    · rw [e, e']
    · rw [if_pos e] at hbi; rw [if_neg e'] at hbj
      cases hbi
      have := (h.lt _ _ _ hbj).2
      omega
    · rw [if_neg e] at hbi; rw [if_pos e'] at hbj
      cases hbj
      have := (h.lt _ _ _ hbi).2
      omega
    · rw [if_neg e] at hbi hi; rw [if_neg e'] at hbj hj
      exact h.inj i j oi oj b d d' hi hj hbi hbj
  · rw [hβ]
    have hi' : i < s.n + 1 := hi
    split
    · rfl
    · exact h.dom i (by omega)
  · rw [hβ]
    have hi' : s.n + 1 ≤ i := hi
    rw [if_neg (by omega)]
    exact h.fresh i (by omega)
  · rw [hβ] at hb
    show B ≤ b ∧ b < (w.alloc c).heap.size
    rw [World.size_alloc]
    split at hb
    · cases hb; exact ⟨hB, by omega⟩
    · have := h.lt i b d hb; omega
  · show H.get i = _
    rw [hH, if_neg (by omega)]
  · rw [hβ] at hb
    split at hb
    · cases hb; exact .inl (Nat.le_refl _)
    · rw [h.fresh i hi] at hb; cases hb
  · show w.heap.size ≤ (w.alloc c).heap.size
    rw [World.size_alloc]; omega

/-- A block is written. -/
theorem Step.set (h : Rel P B ρ s w) {i b d : Nat} (hi : ρ.β i = some (b, d)) (hlive : (s.H.get i).isSome = true) {o : AObj} {c : Obj} {H : Tr AObj} (hH : ∀ m, H.get m = if m = i then some o else s.H.get m)
    (ho : OR P ρ i d o c) (hb : w'.heap[b]? = some c) (hk : ∀ k, k ≠ b → w'.heap[k]? = w.heap[k]?) (hsz : w'.heap.size = w.heap.size) (h1 : w'.os = w.os) (h2 : w'.tape = w.tape) (h3 : w'.output = w.output) :
    Step P B s ρ w ⟨s.n, min i s.low, H⟩ ρ w' := by
  obtain ⟨o0, ho0⟩ := Option.isSome_iff_exists.1 hlive
  refine ⟨Ext.refl ρ, ⟨fun j oj hj => ?_, fun j k oj ok x d1 d2 hj hk' hbj hbk => ?_, h.dom, h.fresh, fun j x y hj => by rw [hsz]; exact h.lt j x y hj, h.sig⟩, Nat.le_refl _, Nat.min_le_right _ _, fun j hj _ => ?_, fun k hk' hkk => ?_, fun j x y hj hb => (by rw [h.fresh j hj] at hb; cases hb), by omega, h1, h2, h3⟩
  · rw [hH] at hj
    by_cases e : j = i
    · rw [if_pos e] at hj
      cases hj
      subst e
      exact ⟨b, d, c, hi, hb, ho⟩
    · rw [if_neg e] at hj
      obtain ⟨x, y, c', g1, g2, g3⟩ := h.obj j oj hj
      refine ⟨x, y, c', g1, (hk x fun e' => ?_).trans g2, g3⟩
      subst e'
      exact e (h.inj j i oj o0 x y d hj ho0 g1 hi)
  · rw [hH] at hj hk'
    have hj' : ∃ o, s.H.get j = some o := by split at hj; (rename_i e; exact ⟨o0, e ▸ ho0⟩); exact ⟨oj, hj⟩
    have hk'' : ∃ o, s.H.get k = some o := by split at hk'; (rename_i e; exact ⟨o0, e ▸ ho0⟩); exact ⟨ok, hk'⟩
    obtain ⟨o1, hj'⟩ := hj'
    obtain ⟨o2, hk''⟩ := hk''
    exact h.inj j k o1 o2 x d1 d2 hj' hk'' hbj hbk
  · have hj' : j < min i s.low := hj
    show H.get j = _
    rw [hH, if_neg (by omega)]
  · exact hk k fun e => hkk i b d (Nat.min_le_left _ _) (h.lt_n hi) hi e.symm

/-- A block goes over into a new name: what an append in place does. -/
theorem Step.take (h : Rel P B ρ s w) {i b d off g : Nat} (hi : ρ.β i = some (b, d)) (hlive : (s.H.get i).isSome = true) {o : AObj} {c : Obj} {H1 H : Tr AObj} (hH1 : ∀ m, H1.get m = if m = i then none else s.H.get m)
    (hH : ∀ m, H.get m = if m = s.n then some o else H1.get m) (ho : OR P (ρ.add s.n (b, d + off) g) s.n (d + off) o c) (hb : w'.heap[b]? = some c) (hk : ∀ k, k ≠ b → w'.heap[k]? = w.heap[k]?)
    (hsz : w'.heap.size = w.heap.size) (h1 : w'.os = w.os) (h2 : w'.tape = w.tape) (h3 : w'.output = w.output) : Step P B s ρ w ⟨s.n + 1, min i s.low, H⟩ (ρ.add s.n (b, d + off) g) w' := by
  obtain ⟨o0, ho0⟩ := Option.isSome_iff_exists.1 hlive
  have hf := h.fresh s.n (Nat.le_refl _)
  have hin := h.lt_n hi
  have hext := Ext.add hf (b, d + off) g
  have hβ : ∀ j, (ρ.add s.n (b, d + off) g).β j = if j = s.n then some (b, d + off) else ρ.β j := fun _ => rfl
  have hget : ∀ j oj, H.get j = some oj → (j = s.n ∧ oj = o) ∨ (j ≠ s.n ∧ j ≠ i ∧ s.H.get j = some oj) := fun j oj hj => by
    rw [hH] at hj
    by_cases e : j = s.n
    · rw [if_pos e] at hj; cases hj; exact .inl ⟨e, rfl⟩
    · rw [if_neg e, hH1] at hj
      by_cases e' : j = i
      · rw [if_pos e'] at hj; cases hj
      · rw [if_neg e'] at hj; exact .inr ⟨e, e', hj⟩
  refine ⟨hext, ⟨fun j oj hj => ?_, fun j k oj ok x d1 d2 hj hk' hbj hbk => ?_, fun j hj => ?_, fun j hj => ?_, fun j x y hj => ?_, h.sig⟩, Nat.le_succ _, Nat.min_le_right _ _, fun j hj hjn => ?_, fun k hk' hkk => ?_, fun j x y hj hx => ?_, by omega, h1, h2, h3⟩
  · rcases hget j oj hj with ⟨rfl, rfl⟩ | ⟨e, e', hj'⟩
    · exact ⟨b, d + off, c, by rw [hβ, if_pos rfl], hb, ho⟩
    · obtain ⟨x, y, c', g1, g2, g3⟩ := h.obj j oj hj'
      refine ⟨x, y, c', hext.β j _ g1, (hk x fun e'' => ?_).trans g2, g3.ext hext g1⟩
      subst e''
      exact e' (h.inj j i oj o0 x y d hj' ho0 g1 hi)
  · rw [hβ] at hbj hbk
    rcases hget j oj hj with ⟨e, _⟩ | ⟨e, e', hj'⟩ <;> rcases hget k ok hk' with ⟨f, _⟩ | ⟨f, f', hk''⟩
    · rw [e, f]
    · rw [if_pos e] at hbj; rw [if_neg f] at hbk
      cases hbj
      exact absurd (h.inj k i ok o0 _ _ _ hk'' ho0 hbk hi) f'
    · rw [if_neg e] at hbj; rw [if_pos f] at hbk
      cases hbk
      exact absurd (h.inj j i oj o0 _ _ _ hj' ho0 hbj hi) e'
    · rw [if_neg e] at hbj; rw [if_neg f] at hbk
      exact h.inj j k oj ok x d1 d2 hj' hk'' hbj hbk
  · rw [hβ]
    have hj' : j < s.n + 1 := hj
    split
    · rfl
    · exact h.dom j (by omega)
  · rw [hβ]
    have hj' : s.n + 1 ≤ j := hj
    rw [if_neg (by omega)]
    exact h.fresh j (by omega)
  · rw [hβ] at hj
    rw [hsz]
    split at hj
    · cases hj; exact h.lt i b d hi
    · exact h.lt j x y hj
  · have hj' : j < min i s.low := hj
    show H.get j = _
    rw [hH, if_neg (by omega), hH1, if_neg (by omega)]
  · exact hk k fun e => hkk i b d (Nat.min_le_left _ _) hin hi e.symm
  · rw [hβ] at hx
    split at hx
    · cases hx; exact .inr ⟨i, d, Nat.min_le_left _ _, hin, hi⟩
    · rw [h.fresh j hj] at hx; cases hx

/-- A block is given up. -/
theorem Step.drop (h : Rel P B ρ s w) {i : Nat} {H : Tr AObj} (hH : ∀ m, H.get m = if m = i then none else s.H.get m) : Step P B s ρ w ⟨s.n, min i s.low, H⟩ ρ w := by
  have hget : ∀ j oj, H.get j = some oj → s.H.get j = some oj := fun j oj hj => by
    rw [hH] at hj
    split at hj
    · cases hj
    · exact hj
  refine ⟨Ext.refl ρ, ⟨fun j oj hj => h.obj j oj (hget j oj hj), fun j k oj ok x d1 d2 hj hk' hbj hbk => h.inj j k oj ok x d1 d2 (hget j oj hj) (hget k ok hk') hbj hbk, h.dom, h.fresh, h.lt, h.sig⟩, Nat.le_refl _, Nat.min_le_right _ _,
    fun j hj _ => ?_, fun k _ _ => rfl, fun j x y hj hb => ?_, Nat.le_refl _, rfl, rfl, rfl⟩
  · have hj' : j < min i s.low := hj
    show H.get j = _
    rw [hH, if_neg (by omega)]
  · rw [h.fresh j hj] at hb; cases hb

/-! In CPS form -/
theorem setObjK_ok {β : Type} {b : Nat} {o : Option AObj} {k : ASt → R β} {y : β} (h : setObjK s b o k = .ok y) :
    ∃ H, (∀ m, H.get m = if m = b then o else s.H.get m) ∧ k ⟨s.n, min b s.low, H⟩ = .ok y := by
  unfold setObjK at h
  obtain ⟨H, h1, h2⟩ := get_setK _ _ _ _ _ _ h
  exact ⟨H, h2, minK_ok h1⟩
theorem newObjK_ok {β : Type} {o : AObj} {k : Nat → ASt → R β} {y : β} (h : newObjK s o k = .ok y) :
    ∃ H, (∀ m, H.get m = if m = s.n then some o else s.H.get m) ∧ k s.n ⟨s.n + 1, s.low, H⟩ = .ok y := by
  unfold newObjK at h
  obtain ⟨H, h1, h2⟩ := get_setK _ _ _ _ _ _ h
  exact ⟨H, h2, natK_ok (k := fun n' => k s.n ⟨n', s.low, H⟩) h1⟩
theorem getCells_ok {β : Type} {b : Nat} {k : List Value → TypeId → Bool → R β} {y : β} (h : getCells s b k = .ok y) : ∃ l e op, s.H.get b = some (.cells l e op) ∧ k l e op = .ok y := by
  unfold getCells at h
  split at h
  · rename_i l e op hg
    exact ⟨l, e, op, hg, h⟩
  · cases h

theorem opd_ok {a : Act} {sz : Nat} {t : Tr Value} (ht : RelT ρ sz t a.tmps) : ∀ {x : Operand} {v : Value}, opd t x = .ok v → cz ρ v = some (a.eval x)
  | .tmp i, v, h => by
    simp only [opd] at h
    split at h
    · rename_i v' hg
      cases h
      obtain ⟨v'', h1, h2⟩ := ht.get i v hg
      rw [h1]
      simp [Act.eval, h2]
    · cases h
  | .const c, v, h => by
    obtain ⟨h1, h2⟩ := bif_ok h
    cases h2
    exact cz_plain h1
  | .func f, v, h => by
    simp only [opd] at h
    cases h
    simp [cz, cza, czl, Act.eval]
  | .global g, v, h => by cases h
theorem opds_ok {a : Act} {sz : Nat} {t : Tr Value} (ht : RelT ρ sz t a.tmps) : ∀ {xs : List Operand} {vs : List Value}, opds t xs = .ok vs → czl ρ vs = some (xs.map a.eval)
  | [], vs, h => by cases h; simp [czl]
  | x :: xs, vs, h => by
    simp only [opds] at h
    split at h
    · rename_i v hv
      split at h
      · rename_i vs' hvs
        cases h
        exact czl_cons.2 ⟨_, _, opd_ok ht hv, opds_ok ht hvs, rfl⟩
      · cases h
    · cases h

/-- What a block's cells are in the world. -/
structure CellsAt (P : Program) (ρ : Ren) (w : World) (i b d : Nat) (l : List Value) (e : TypeId) (op : Bool) (pre l' tail : List Value) : Prop where
  β : ρ.β i = some (b, d)
  blk : w.heap[b]? = some (.cells (pre ++ l' ++ tail).toArray e (0, 0))
  pre : pre.length = d
  l : czl ρ l = some l'
  op : op = true → ∃ sz, sizeT P e = some sz ∧ (l' ++ tail).length = ρ.γ i * sz
theorem Rel.cells (h : Rel P B ρ s w) {i : Nat} {l : List Value} {e : TypeId} {op : Bool} (hi : s.H.get i = some (.cells l e op)) : ∃ b d pre l' tail, CellsAt P ρ w i b d l e op pre l' tail := by
  obtain ⟨b, d, c, h1, h2, pre, l', tail, h3, rfl, h4, h5⟩ := h.obj i _ hi
  exact ⟨b, d, pre, l', tail, h1, h2, h4, h3, h5⟩
theorem CellsAt.cell {i b d : Nat} {l : List Value} {e : TypeId} {op : Bool} {pre l' tail : List Value} (h : CellsAt P ρ w i b d l e op pre l' tail) (j : Nat) {v : Value} (hj : l'[j]? = some v) :
    w.cell? ⟨b, j + d, none⟩ = some v := by
  have hjl : j < l'.length := (List.getElem?_eq_some_iff.1 hj).1
  have := h.pre
  simp only [World.cell?, h.blk]
  simp only [Option.isSome_none, Bool.false_eq_true, if_false, List.getElem?_toArray]
  rw [List.getElem?_append_left (by simp; omega), List.getElem?_append_right (by omega), show j + d - pre.length = j by omega]
  exact hj
end
end Ae
end Go.Proofs.Ytmgcpfljhcahoaa
namespace Go.Proofs.Ytmgcpfljhcahoaa
open Go Go.RowKit
namespace Ae

def Runs (P : Program) (o : Oper) (a : Act) (w : World) (v' : Value) (w' : World) : Prop :=
  (execOp a.eval o).run P w = .ok (.value v') w' ∨ ((execOp a.eval o).run P w = .ok .skip w' ∧ v' = undef)

def Sound (P : Program) (B : Nat) (s : ASt) (ρ : Ren) (w : World) (o : Oper) (a : Act) {β : Type} (k : Value → ASt → R β) (y : β) : Prop :=
  ∃ v s1 v' ρ' w', k v s1 = .ok y ∧ Step P B s ρ w s1 ρ' w' ∧ cz ρ' v = some v' ∧ Runs P o a w v' w'

section
variable {P : Program} {B : Nat} {ρ : Ren} {s : ASt} {w : World} {o : Oper} {a : Act} {β : Type} {k : Value → ASt → R β} {y : β} {sz : Nat} {t : Tr Value}

theorem run_sizeOf {ty n : Nat} (h : sizeT P ty = some n) (w : World) : (sizeOf ty).run P w = .ok n w := by
  unfold sizeT at h
  cases hi : P.info? ty with
  | none => simp [hi] at h
  | some i => simp [hi] at h; simp [sizeOf, typeInfo, hi, h]
theorem run_zeroValue {ty : Nat} {z : Value} (h : zeroT P ty = some z) (w : World) : (zeroValue ty).run P w = .ok z w := by
  unfold zeroT at h
  cases hi : P.info? ty with
  | none => simp [hi] at h
  | some i => simp [hi] at h; simp [zeroValue, typeInfo, hi, h]
theorem run_isAgg {ty : Nat} {b : Bool} (h : isAggT P ty = some b) (w : World) : (isAgg ty).run P w = .ok b w := by
  unfold isAggT at h
  unfold isAgg
  cases hu : P.underlying ty with
  | none => simp [hu] at h
  | some d =>
    rw [Sem.run_bind, run_underlying hu w]
    cases d <;> simp_all
theorem run_typeInfo_bytes {ty n : Nat} (h : bytesT P ty = some n) : ∃ i, P.info? ty = some i ∧ i.bytes = n := by
  unfold bytesT at h
  cases hi : P.info? ty with
  | none => simp [hi] at h
  | some i => simp [hi] at h; exact ⟨i, rfl, h⟩
theorem info_of_size {ty n : Nat} (h : sizeT P ty = some n) : ∃ i, P.info? ty = some i ∧ i.size = n := by
  unfold sizeT at h
  cases hi : P.info? ty with
  | none => simp [hi] at h
  | some i => simp [hi] at h; exact ⟨i, rfl, h⟩

/-- What leaves memory alone. -/
theorem Sound.pure (hr : Rel P B ρ s w) {v v' : Value} (hk : k v s = .ok y) (hc : cz ρ v = some v') (hrun : (execOp a.eval o).run P w = .ok (.value v') w) : Sound P B s ρ w o a k y :=
  ⟨v, s, v', ρ, w, hk, Step.refl hr, hc, .inl hrun⟩

theorem pureRun_ok {α : Type} : ∀ {x : Sem α} {v : α}, pureRun P x = some v → ∀ w, x.run P w = .ok v w
  | .pure a, v, h, w => by simp only [pureRun, Option.some.injEq] at h; subst h; rfl
  | .program k, v, h, w => by simp only [pureRun] at h; simpa [Sem.run] using pureRun_ok h w
  | .load .., _, h, _ => by simp [pureRun] at h
  | .store .., _, h, _ => by simp [pureRun] at h
  | .new .., _, h, _ => by simp [pureRun] at h
  | .shape .., _, h, _ => by simp [pureRun] at h
  | .freeze .., _, h, _ => by simp [pureRun] at h
  | .frozen .., _, h, _ => by simp [pureRun] at h
  | .getObj .., _, h, _ => by simp [pureRun] at h
  | .setObj .., _, h, _ => by simp [pureRun] at h
  | .choose .., _, h, _ => by simp [pureRun] at h
  | .sys .., _, h, _ => by simp [pureRun] at h
  | .mark .., _, h, _ => by simp [pureRun] at h
  | .halt .., _, h, _ => by simp [pureRun] at h

theorem add_off (b o j : Nat) : (⟨b, o, none⟩ : Addr).add j = ⟨b, o + j, none⟩ := by unfold Addr.add; split <;> simp_all

/-! load, store -/
theorem loadA_ok (hr : Rel P B ρ s w) {ty : TypeId} {ad ad' : Addr} {v : Value} (ha : czA ρ ad = some ad') (h : loadA P s ty ad = .ok v) :
    ∃ v', cz ρ v = some v' ∧ (loadVar ty ad').run P w = .ok v' w := by
  obtain ⟨l, e, op, hg, h⟩ := getCells_ok h
  obtain ⟨b, d, pre, l', tail, hc⟩ := hr.cells hg
  obtain ⟨b', d', hsp, hb, rfl⟩ := czA_some.1 ha
  rw [hc.β] at hb
  cases hb
  obtain ⟨h, hle⟩ := dropK_ok h
  split at h
  · rename_i hagg
    split at h
    · rename_i n hn
      obtain ⟨h, hle2⟩ := takeK_ok h
      cases h
      have hl := czl_take n (czl_drop ad.off hc.l)
      refine ⟨.agg ((l'.drop ad.off).take n).toArray, ?_, ?_⟩
      · simp only [cz, Option.map_eq_some_iff]
        exact ⟨_, cza_toList.2 (by simpa using hl), rfl⟩
      · have hlen : ((l'.drop ad.off).take n).length = n := by
          have := czl_length hc.l
          simp at hle2 ⊢
          omega
        have := run_loadCells_list (P := P) w ⟨b, ad.off + d, none⟩ ((l'.drop ad.off).take n) (fun j v hj => by
          rw [add_off]
          have hj' : l'[ad.off + j]? = some v := by
            rw [List.getElem?_take] at hj
            split at hj
            · simpa [List.getElem?_drop] using hj
            · cases hj
          have := hc.cell (ad.off + j) hj'
          rwa [show ad.off + d + j = ad.off + j + d by omega])
        rw [hlen] at this
        unfold loadVar
        simp only [Sem.run_bind, run_isAgg hagg, Result.andThen_ok, if_true, run_sizeOf hn, this, Sem.run_pure]
    · cases h
  · rename_i hagg
    split at h
    · rename_i v0 l0 hl0
      cases h
      have hj : l[ad.off]? = some v := by
        have := congrArg (fun x => x[0]?) hl0
        simpa [List.getElem?_drop] using this
      obtain ⟨v', h1, h2⟩ := czl_get ad.off hc.l hj
      refine ⟨v', h2, ?_⟩
      have hcell := hc.cell ad.off h1
      unfold loadVar
      simp only [Sem.run_bind, run_isAgg hagg, Result.andThen_ok, Bool.false_eq_true, if_false, run_load, hcell]
    · cases h
  · cases h

theorem setRow_os (w : World) (g : Nat) (c : Array Value) : (w.setRow g c).os = w.os ∧ (w.setRow g c).tape = w.tape ∧ (w.setRow g c).output = w.output ∧ (w.setRow g c).heap.size = w.heap.size := by
  refine ⟨rfl, rfl, rfl, by simp⟩

theorem splice_take {α : Type} {pre l tail : List α} {d off : Nat} (h : pre.length = d) (hle : off ≤ l.length) : (pre ++ l ++ tail).take (off + d) = pre ++ l.take off := by
  rw [List.append_assoc, List.take_append, List.take_of_length_le (by omega), show off + d - pre.length = off by omega, List.take_append_of_le_length hle]
theorem splice_drop {α : Type} {pre l tail : List α} {d off n : Nat} (h : pre.length = d) (hle : off + n ≤ l.length) : (pre ++ l ++ tail).drop (off + d + n) = l.drop (off + n) ++ tail := by
  rw [List.append_assoc, List.drop_append, List.drop_eq_nil_of_le (by omega), show off + d + n - pre.length = off + n by omega, List.drop_append_of_le_length hle, List.nil_append]

/-- Cells of a block are overwritten. -/
theorem Step.put (hr : Rel P B ρ s w) {i b d off : Nat} {l vs vs' : List Value} {e : TypeId} {op : Bool} {pre l' tail : List Value} {H : Tr AObj} (hg : s.H.get i = some (.cells l e op)) (hc : CellsAt P ρ w i b d l e op pre l' tail)
    (hvs : czl ρ vs = some vs') (hle : off + vs.length ≤ l.length) (hH : ∀ m, H.get m = if m = i then some (.cells (l.take off ++ vs ++ l.drop (off + vs.length)) e op) else s.H.get m) :
    Step P B s ρ w ⟨s.n, min i s.low, H⟩ ρ (w.setRow b (((pre ++ l' ++ tail).take (off + d) ++ vs' ++ (pre ++ l' ++ tail).drop (off + d + vs'.length)).toArray)) := by
  have hlen := czl_length hc.l
  have hvl := czl_length hvs
  have hpre := hc.pre
  refine Step.set hr hc.β (by rw [hg]; rfl) hH (c := .cells (pre ++ (l'.take off ++ vs' ++ l'.drop (off + vs'.length)) ++ tail).toArray e (0, 0)) ?_ ?_ (fun k hk => setRow_other w b k _ hk) (setRow_os w b _).2.2.2 rfl rfl rfl
  · refine ⟨pre, l'.take off ++ vs' ++ l'.drop (off + vs'.length), tail, ?_, rfl, hc.pre, fun hop => ?_⟩
    · have := czl_append (czl_append (czl_take off hc.l) hvs) (czl_drop (off + vs.length) hc.l)
      rw [hvl]; exact this
    · obtain ⟨sz, h1, h2⟩ := hc.op hop
      refine ⟨sz, h1, ?_⟩
      rw [← h2]
      simp
      omega
  · rw [setRow_heap w b _ _ e _ hc.blk]
    rw [splice_take hc.pre (by omega), splice_drop hc.pre (by omega)]
    simp [List.append_assoc]

theorem storeA_ok (hr : Rel P B ρ s w) {ty : TypeId} {ad ad' : Addr} {v v' : Value} {k : ASt → R β} (ha : czA ρ ad = some ad') (hv : cz ρ v = some v') (h : storeA P s ty ad v k = .ok y) :
    ∃ s1 w', k s1 = .ok y ∧ Step P B s ρ w s1 ρ w' ∧ (storeVar ty ad' v').run P w = .ok () w' := by
  unfold storeA at h
  split at h
  · rename_i n hn
    obtain ⟨hb, h⟩ := bif_ok h
    obtain ⟨hone, h⟩ := bif_ok h
    obtain ⟨l, e, op, hg, h⟩ := getCells_ok h
    obtain ⟨h, hle⟩ := putAtK_ok h
    obtain ⟨H, hH, h⟩ := setObjK_ok h
    obtain ⟨b, d, pre, l', tail, hc⟩ := hr.cells hg
    obtain ⟨b', d', hsp, hbb, rfl⟩ := czA_some.1 ha
    rw [hc.β] at hbb
    cases hbb
    have hvs := czl_cellsOf hr.sig hv
    have hones := czl_ones hr.sig hvs hone
    have hvl := czl_length hvs
    have hlen := czl_length hc.l
    refine ⟨_, _, h, Step.put hr hg hc hvs hle hH, ?_⟩
    have hst := run_storeCells_at (P := P) b (ad.off + d) e v'.cells.toList 0 _ w hc.blk (by have := hc.pre; simp at hvl ⊢; omega) hones
    have hs : v'.cells.size = n := by rw [cellsOf_length hr.sig hv]; simpa using hb
    unfold storeVar
    simp only [Sem.run_bind, run_sizeOf hn, Result.andThen_ok, hs, ne_eq, not_true, if_false, Sem.run_ite]
    simpa using hst
  · cases h
end
end Ae
end Go.Proofs.Ytmgcpfljhcahoaa
namespace Go.Proofs.Ytmgcpfljhcahoaa
open Go Go.RowKit
namespace Ae

def CallPost (P : Program) (B : Nat) (s : ASt) (ρ : Ren) (w : World) (out : Out) (e : Ending) (w' : World) : Prop :=
  ∃ v' ρ', e = .returned v' ∧ Step P B s ρ w out.s ρ' w' ∧ cz ρ' out.v = some v'
/-- What is known is true. -/
structure FactsOk (P : Program) (F : Facts) (σ : Nat → Value) : Prop where
  bin : ∀ ρ : Ren, ρ.σ = σ → ∀ op u v r, F.bin op u v = some r → plain r = true ∧ ∃ j x y, cz ρ u = some (.int j x) ∧ cz ρ v = some (.int j y) ∧ intBin op j x y = some r
  len : ∀ ρ : Ren, ρ.σ = σ → ∀ u r, F.len u = some r → ∃ b, cz ρ u = some (.string b) ∧ cz ρ r = some (.int .i64 b.size)
  op : ∀ op ty u v r, F.op op ty u v = some r → ∀ ρ : Ren, ρ.σ = σ → ∃ u' v' r', cz ρ u = some u' ∧ cz ρ v = some v' ∧ cz ρ r = some r' ∧ ∀ x y w, (do eqGuard op ty x y u' v'; binOp op ty u' v' : Sem Value).run P w = .ok r' w

/-- What is known of calls is true, in worlds whose blocks below B are M. -/
def SumsAt (P : Program) (F : Facts) (B : Nat) (M : Nat → Option Obj) (σ : Nat → Value) : Prop := ∀ f args s out, F.sum f args s = some out → ∀ {ρ w args'}, ρ.σ = σ → Rel P B ρ s w → B ≤ w.heap.size → (∀ k, k < B → w.heap[k]? = M k) → czl ρ args = some args' →
  (∃ fn, P.funcs[f]? = some fn ∧ fn.body.isSome = true) ∧ CallsIn Fence.wide 0 P f args'.toArray w (CallPost P B s ρ w out)
structure FactsAt (P : Program) (F : Facts) (B : Nat) (ρ : Ren) (w : World) : Prop where
  ok : FactsOk P F ρ.σ
  mem : ∃ M : Nat → Option Obj, (∀ k, k < B → w.heap[k]? = M k) ∧ SumsAt P F B M ρ.σ
theorem FactsAt.sum {P : Program} {F : Facts} {B : Nat} {ρ : Ren} {w : World} (h : FactsAt P F B ρ w) {f : FuncId} {args args' : List Value} {s : ASt} {out : Out} (ho : F.sum f args s = some out) (hr : Rel P B ρ s w) (hB : B ≤ w.heap.size) (hc : czl ρ args = some args') :
    (∃ fn, P.funcs[f]? = some fn ∧ fn.body.isSome = true) ∧ CallsIn Fence.wide 0 P f args'.toArray w (CallPost P B s ρ w out) := by
  obtain ⟨M, h1, h2⟩ := h.mem
  exact h2 f args s out ho rfl hr hB h1 hc
theorem FactsAt.step {P : Program} {F : Facts} {B : Nat} {ρ ρ' : Ren} {s s' : ASt} {w w' : World} (hr : Rel P B ρ s w) (hB : B ≤ w.heap.size) (hs : Step P B s ρ w s' ρ' w') (h : FactsAt P F B ρ w) : FactsAt P F B ρ' w' := by
  obtain ⟨M, h1, h2⟩ := h.mem
  refine ⟨by rw [hs.ext.σ]; exact h.ok, M, fun k hk => ?_, by rw [hs.ext.σ]; exact h2⟩
  rw [← h1 k hk]
  exact hs.keep k (Nat.lt_of_lt_of_le hk hB) fun i b d _ _ hb e => by
    have := (hr.lt i b d hb).1
    omega

def OpdOk (ρ : Ren) (t : Tr Value) (a : Act) (x : Operand) : Prop := ∀ v, opd t x = .ok v → cz ρ v = some (a.eval x)

section
variable {P : Program} {B : Nat} {ρ : Ren} {s : ASt} {w : World} {o : Oper} {a : Act} {β : Type} {k : Value → ASt → R Out} {y : Out} {sz : Nat} {t : Tr Value} {F : Facts}

theorem pureV_ok {c : Nat} {p : String} {x : Sem Value} {r : Value} (h : pureV P c p x = .ok r) : plain r = true ∧ ∀ w, x.run P w = .ok r w := by
  unfold pureV at h
  split at h
  · rename_i r' hr
    obtain ⟨h1, h2⟩ := bif_ok h
    have := valK_ok (k := R.ok) h2
    cases this
    exact ⟨h1, fun w => pureRun_ok hr w⟩
  · cases h

theorem plain_eq {u u' : Value} (h : plain u = true) (hu : cz ρ u = some u') : u' = u := by
  rw [cz_plain h] at hu
  exact (Option.some.inj hu).symm

theorem run_eqGuard_else {op : BinOp} {ty : TypeId} {x y : Operand} {u v : Value} (h1 : ∀ a b, ¬ (u = .agg a ∧ v = .agg b)) (h2 : ¬ (u = .nilIface ∧ v = .nilIface)) (w : World) :
    (eqGuard op ty x y u v).run P w = .ok () w := by
  cases op <;> cases u <;> first
    | rfl
    | (cases v <;> first | rfl | exact absurd ⟨rfl, rfl⟩ h2 | exact absurd ⟨rfl, rfl⟩ (h1 _ _))

theorem run_intBin {op : BinOp} {ty : TypeId} {j : IntKind} {a b : Int} {r : Value} (h : intBin op j a b = some r) (w : World) : (binOp op ty (.int j a) (.int j b)).run P w = .ok r w := by
  cases op <;> simp only [intBin, Option.some.injEq] at h <;> first
    | (subst h; simp [binOp, Op.intArith, Op.intCmp])
    | cases h
theorem intBin_plain {op : BinOp} {j : IntKind} {a b : Int} {r : Value} (h : intBin op j a b = some r) : plain r = true := by
  cases op <;> simp only [intBin, Option.some.injEq] at h <;> first
    | (subst h; rfl)
    | cases h

theorem eqA_ok {ty : TypeId} {u v u' v' : Value} {b : Bool} (h : eqA P ty u v = some b) (hu : cz ρ u = some u') (hv : cz ρ v = some v') (w : World) :
    (Op.equal ty u' v').run P w = .ok b w ∧ (∀ a b, ¬ (u' = .agg a ∧ v' = .agg b)) ∧ ¬ (u' = .nilIface ∧ v' = .nilIface) ∧
      (∀ j a, u' ≠ .int j a) ∧ (∀ s, u' ≠ .string s) ∧ (∀ j x, u' ≠ .float j x) ∧ (∀ j x z, u' ≠ .complex j x z) := by
  unfold eqA at h
  split at h
  · rename_i e a1 a2 hd
    cases hb : Nat.beq a1.block a2.block with
    | false => simp [hb] at h
    | true =>
      simp only [hb, cond_true] at h
      split at h
      · rename_i n hs
        cases h
        simp only [cz, Option.map_eq_some_iff] at hu hv
        obtain ⟨x1, hx1, rfl⟩ := hu
        obtain ⟨x2, hx2, rfl⟩ := hv
        obtain ⟨b1, d1, _, h1, rfl⟩ := czA_some.1 hx1
        obtain ⟨b2, d2, _, h2, rfl⟩ := czA_some.1 hx2
        have hbb : a1.block = a2.block := by simpa using hb
        rw [hbb, h2] at h1
        cases h1
        refine ⟨?_, by simp, by simp, by simp, by simp, by simp, by simp⟩
        unfold Op.equal Op.maxDepth Op.equalIn
        simp only [Sem.run_bind, run_underlying hd, Result.andThen_ok, run_sizeOf hs]
        simp [sameAddr]
        rw [Bool.eq_iff_iff]
        simp
      · cases h
  · rename_i e a1 hd
    cases h
    simp only [cz, Option.map_eq_some_iff] at hu
    simp only [cz, Option.some.injEq] at hv
    obtain ⟨x1, hx1, rfl⟩ := hu
    subst hv
    refine ⟨?_, by simp, by simp, by simp, by simp, by simp, by simp⟩
    unfold Op.equal Op.maxDepth Op.equalIn
    simp only [Sem.run_bind, run_underlying hd, Result.andThen_ok]
    rfl
  · rename_i e a1 hd
    cases h
    simp only [cz, Option.map_eq_some_iff] at hv
    simp only [cz, Option.some.injEq] at hu
    obtain ⟨x1, hx1, rfl⟩ := hv
    subst hu
    refine ⟨?_, by simp, by simp, by simp, by simp, by simp, by simp⟩
    unfold Op.equal Op.maxDepth Op.equalIn
    simp only [Sem.run_bind, run_underlying hd, Result.andThen_ok]
    rfl
  · rename_i k e r hd
    cases h
    simp only [cz, Option.map_eq_some_iff] at hu
    simp only [cz, Option.some.injEq] at hv
    obtain ⟨x1, hx1, rfl⟩ := hu
    subst hv
    refine ⟨?_, by simp, by simp, by simp, by simp, by simp, by simp⟩
    unfold Op.equal Op.maxDepth Op.equalIn
    simp only [Sem.run_bind, run_underlying hd, Result.andThen_ok]
    rfl
  · rename_i e a1 n1 c1 n2 c2 hd
    cases h
    have hv' : v' = .slice none n2 0 := by simp [cz] at hv; obtain ⟨rfl, rfl⟩ := hv; rfl
    subst hv'
    have hu' : ∃ x n c, u' = .slice (some x) n c := by
      simp only [cz] at hu
      cases ha : czA ρ a1 with
      | none => simp [ha] at hu
      | some a' =>
        simp only [ha] at hu
        cases ho : isOpen c1 with
        | false => simp [ho] at hu; exact ⟨_, _, _, hu.symm⟩
        | true =>
          simp only [ho, cond_true] at hu
          cases hl : Nat.ble (n1 + c1 / 2) (ρ.γ a1.block) with
          | false => simp [hl] at hu
          | true => simp [hl] at hu; exact ⟨_, _, _, hu.symm⟩
    obtain ⟨x, n, c, rfl⟩ := hu'
    refine ⟨?_, by simp, by simp, by simp, by simp, by simp, by simp⟩
    unfold Op.equal Op.maxDepth Op.equalIn
    simp only [Sem.run_bind, run_underlying hd, Result.andThen_ok]
    rfl
  · rename_i ps rs vr fn fi ca hd
    cases h
    simp only [cz, Option.some.injEq] at hv
    subst hv
    have hu' : ∃ x n c, u' = .func x n c := by
      cases fn <;> simp only [cz] at hu
      case func f => cases h1 : cza ρ fi <;> cases h2 : cza ρ ca <;> simp [h1, h2] at hu; exact ⟨_, _, _, hu.symm⟩
      case via => cases h1 : cza ρ fi <;> cases h2 : cza ρ ca <;> simp [h1, h2] at hu; exact ⟨_, _, _, hu.symm⟩
      case yield l => cases h1 : cza ρ fi <;> cases h2 : cza ρ ca <;> cases h3 : czB ρ l <;> simp [h1, h2, h3] at hu; exact ⟨_, _, _, hu.symm⟩
      all_goals cases hu
    obtain ⟨x, n, c, rfl⟩ := hu'
    refine ⟨?_, by simp, by simp, by simp, by simp, by simp, by simp⟩
    unfold Op.equal Op.maxDepth Op.equalIn
    simp only [Sem.run_bind, run_underlying hd, Result.andThen_ok]
    rfl
  · rename_i ms t1 x1 hd
    cases h
    simp only [cz, Option.map_eq_some_iff] at hu
    simp only [cz, Option.some.injEq] at hv
    obtain ⟨x1, hx1, rfl⟩ := hu
    subst hv
    refine ⟨?_, by simp, by simp, by simp, by simp, by simp, by simp⟩
    unfold Op.equal Op.maxDepth Op.equalIn
    simp only [Sem.run_bind, run_underlying hd, Result.andThen_ok]
    rfl
  · cases h

theorem run_eqlOp {op : BinOp} {ty : TypeId} {u v : Value} {wb b : Bool} (hop : isEq op = some wb) (he : (Op.equal ty u v).run P w = .ok b w)
    (h1 : ∀ j a, u ≠ .int j a) (h2 : ∀ s, u ≠ .string s) (h3 : ∀ j x, u ≠ .float j x) (h4 : ∀ j x z, u ≠ .complex j x z) : (binOp op ty u v).run P w = .ok (.bool (b == wb)) w := by
  cases op <;> simp only [isEq, Option.some.injEq] at hop <;> first
    | cases hop; done
    | skip
  · subst hop
    have : binOp .eql ty u v = (do pure (.bool (← Op.equal ty u v))) := by
      cases u <;> first | exact absurd rfl (h1 _ _) | exact absurd rfl (h2 _) | exact absurd rfl (h3 _ _) | exact absurd rfl (h4 _ _ _) | (cases v <;> rfl)
    rw [this]
    simp [he]
  · subst hop
    have : binOp .neq ty u v = (do pure (.bool (!(← Op.equal ty u v)))) := by
      cases u <;> first | exact absurd rfl (h1 _ _) | exact absurd rfl (h2 _) | exact absurd rfl (h3 _ _) | exact absurd rfl (h4 _ _ _) | (cases v <;> rfl)
    rw [this]
    simp [he]

theorem binA_ok (hF : FactsOk P F ρ.σ) {op : BinOp} {ty : TypeId} {x y : Operand} {u v u' v' r : Value} (hu : cz ρ u = some u') (hv : cz ρ v = some v') (h : binA P F o op ty x y u v = .ok r) :
    ∃ r', cz ρ r = some r' ∧ ∀ w, (do eqGuard op ty x y u' v'; binOp op ty u' v' : Sem Value).run P w = .ok r' w := by
  have hrest : (bif plain u && plain v then pureV P 19 o.pos (do eqGuard op ty x y u v; binOp op ty u v) else match isEq op, eqA P ty u v with
    | some w, some b => boolK (b == w) fun b => .ok (.bool b)
    | _, _ => match F.bin op u v with
      | some r => valK r .ok
      | none => match F.op op ty u v with
        | some r => .ok r
        | none => .err 20 o.pos) = R.ok r → ∃ r', cz ρ r = some r' ∧ ∀ w, (do eqGuard op ty x y u' v'; binOp op ty u' v' : Sem Value).run P w = .ok r' w := by
    intro h
    cases hp : plain u && plain v with
    | true =>
      rw [hp, cond_true] at h
      obtain ⟨h1, h2⟩ := pureV_ok h
      simp only [Bool.and_eq_true] at hp
      rw [plain_eq hp.1 hu, plain_eq hp.2 hv]
      exact ⟨r, cz_plain h1, h2⟩
    | false =>
      rw [hp, cond_false] at h
      split at h
      · rename_i wb b hop he
        have h' := boolK_ok (k := fun b => R.ok (Value.bool b)) h
        cases h'
        refine ⟨.bool (b == wb), by simp [cz], fun w => ?_⟩
        obtain ⟨e1, e2, e3, e4, e5, e6, e7⟩ := eqA_ok (P := P) he hu hv w
        simp only [Sem.run_bind, run_eqGuard_else e2 e3, Result.andThen_ok]
        exact run_eqlOp hop e1 e4 e5 e6 e7
      · split at h
        · rename_i r' hr'
          have h' := valK_ok (k := R.ok) h
          cases h'
          obtain ⟨h1, j, p, q, h2, h3, h4⟩ := hF.bin ρ rfl op u v r hr'
          rw [hu] at h2
          rw [hv] at h3
          cases h2
          cases h3
          refine ⟨r, cz_plain h1, fun w => ?_⟩
          have e : (eqGuard op ty x y (.int j p) (.int j q)).run P w = .ok () w := run_eqGuard_else (by simp) (by simp) w
          simp only [Sem.run_bind, e, Result.andThen_ok]
          exact run_intBin h4 w
        · split at h
          · rename_i r' hr'
            cases h
            obtain ⟨p, q, r2, h2, h3, h4, h5⟩ := hF.op op ty u v r hr' ρ rfl
            rw [hu] at h2
            rw [hv] at h3
            cases h2
            cases h3
            exact ⟨r2, h4, fun w => h5 x y w⟩
          · cases h
  unfold binA at h
  dsimp only at h
  split at h
  · rename_i j p j' q
    cases hj : decide (j = j') with
    | true =>
      rw [hj, cond_true] at h
      have hj' : j = j' := by simpa using hj
      subst hj'
      split at h
      · rename_i r' hr'
        have h' := valK_ok (k := R.ok) h
        cases h'
        simp only [cz, Option.some.injEq] at hu hv
        subst hu hv
        refine ⟨r, cz_plain (intBin_plain hr'), fun w => ?_⟩
        have e : (eqGuard op ty x y (.int j p) (.int j q)).run P w = .ok () w := run_eqGuard_else (by simp) (by simp) w
        simp only [Sem.run_bind, e, Result.andThen_ok]
        exact run_intBin hr' w
      · exact hrest h
    | false =>
      rw [hj, cond_false] at h
      exact hrest h
  · exact hrest h

/-- A pure operation, in whatever world. -/
def PureOk (P : Program) (ρ : Ren) (o : Oper) (a : Act) (k : Value → ASt → R Out) (s : ASt) (y : Out) : Prop :=
  ∃ v v', k v s = .ok y ∧ cz ρ v = some v' ∧ ∀ w, (execOp a.eval o).run P w = .ok (.value v') w

theorem blt_lt {i n : Nat} (h : Nat.blt i n = true) : i < n := Nat.le_of_ble_eq_true h
theorem val_ok {r : R Value} {p : String} (h : (match r with | .ok v => k v s | .err c q => .err c (p ++ q)) = .ok y) : ∃ v, r = .ok v ∧ k v s = .ok y := by
  cases r with
  | ok v => exact ⟨v, rfl, h⟩
  | err c q => cases h

theorem run_part {ty : TypeId} {cs : Array Value} {off : Nat} {v : Value} (w : World)
    (h : (∃ n, isAggT P ty = some true ∧ sizeT P ty = some n ∧ v = .agg (cs.extract off (off + n))) ∨ (isAggT P ty = some false ∧ cs[off]? = some v)) : (part ty cs off).run P w = .ok v w := by
  rcases h with ⟨n, h1, h2, rfl⟩ | ⟨h1, h2⟩
  · unfold part; simp [run_isAgg h1, run_sizeOf h2]
  · unfold part; simp [run_isAgg h1, h2]

theorem pure_ok (hF : FactsOk P F ρ.σ) (hp : pureOp o.op = true) (hx : ∀ x ∈ o.op.operands, OpdOk ρ t a x) (h : simpleA P F o t s k = .ok y) : PureOk P ρ o a k s y := by
  cases hop : o.op <;> rw [hop] at hp hx <;> simp only [pureOp, Bool.false_eq_true] at hp <;> simp only [simpleA, hop] at h <;> simp only [Op.operands] at hx
  case move x =>
    obtain ⟨v, h1, h2⟩ := val_ok h
    exact ⟨v, _, h2, hx x (by simp) v h1, fun w => by simp [execOp, hop]⟩
  case assign x =>
    obtain ⟨v, h1, h2⟩ := val_ok h
    exact ⟨v, _, h2, hx x (by simp) v h1, fun w => by simp [execOp, hop]⟩
  case pick c x z =>
    split at h
    · rename_i hc
      obtain ⟨v, h1, h2⟩ := val_ok h
      have := hx c (by simp) _ hc
      simp only [cz, Option.some.injEq] at this
      exact ⟨v, _, h2, hx x (by simp) v h1, fun w => by simp [execOp, hop, ← this, asBool]⟩
    · rename_i hc
      obtain ⟨v, h1, h2⟩ := val_ok h
      have := hx c (by simp) _ hc
      simp only [cz, Option.some.injEq] at this
      exact ⟨v, _, h2, hx z (by simp) v h1, fun w => by simp [execOp, hop, ← this, asBool]⟩
    · cases h
    · cases h
  case nilCheck x =>
    split at h <;> try (cases h; done)
    · rename_i ad hc
      have hcz := hx x (by simp) _ hc
      have hcz' := hcz
      simp only [cz, Option.map_eq_some_iff] at hcz'
      obtain ⟨ad', _, e⟩ := hcz'
      exact ⟨_, _, h, hcz, fun w => by simp [execOp, hop, ← e]⟩
    · rename_i f fi ca hc
      have hcz := hx x (by simp) _ hc
      have hcz' := hcz
      simp only [cz] at hcz'
      cases h1 : cza ρ fi <;> cases h2 : cza ρ ca <;> simp [h1, h2] at hcz'
      exact ⟨_, _, h, hcz, fun w => by simp [execOp, hop, ← hcz']⟩
    · rename_i f fi ca hc
      have hcz := hx x (by simp) _ hc
      have hcz' := hcz
      simp only [cz] at hcz'
      cases h1 : cza ρ fi <;> cases h2 : cza ρ ca <;> cases h3 : czB ρ f <;> simp [h1, h2, h3] at hcz'
      exact ⟨_, _, h, hcz, fun w => by simp [execOp, hop, ← hcz']⟩
    · rename_i f1 f2 f3 f4 fi ca hc
      have hcz := hx x (by simp) _ hc
      have hcz' := hcz
      simp only [cz] at hcz'
      cases h1 : cza ρ fi <;> cases h2 : cza ρ ca <;> simp [h1, h2] at hcz'
      exact ⟨_, _, h, hcz, fun w => by simp [execOp, hop, ← hcz']⟩
  case binOp op ty x z zt =>
    split at h
    · rename_i u v hu hv
      obtain ⟨r, h1, h2⟩ := val_ok h
      obtain ⟨r', h3, h4⟩ := binA_ok (P := P) hF (hx x (by simp) _ hu) (hx z (by simp) _ hv) h1
      refine ⟨r, r', h2, h3, fun w => ?_⟩
      have := h4 w
      simp only [execOp, hop, Sem.run_bind] at this ⊢
      rw [this]
      rfl
    · cases h
  case unOp op ty x =>
    split at h
    · rename_i u hu
      obtain ⟨hpl, h⟩ := bif_ok h
      obtain ⟨r, h1, h2⟩ := val_ok h
      obtain ⟨h3, h4⟩ := pureV_ok h1
      refine ⟨r, r, h2, cz_plain h3, fun w => ?_⟩
      have := h4 w
      simp only [execOp, hop, Sem.run_bind, plain_eq hpl (hx x (by simp) _ hu)]
      rw [this]
      rfl
    · cases h
  case index ty x i =>
    split at h
    · rename_i u v hu hv
      obtain ⟨hpl, h⟩ := bif_ok h
      simp only [Bool.and_eq_true] at hpl
      obtain ⟨r, h1, h2⟩ := val_ok h
      obtain ⟨h3, h4⟩ := pureV_ok h1
      refine ⟨r, r, h2, cz_plain h3, fun w => ?_⟩
      have := h4 w
      simp only [execOp, hop, Sem.run_bind, plain_eq hpl.1 (hx x (by simp) _ hu), plain_eq hpl.2 (hx i (by simp) _ hv)]
      rw [this]
      rfl
    · cases h
  case extract x i =>
    split at h
    · rename_i vs hu
      obtain ⟨v, h1, h2⟩ := ofOpt_ok h
      have hcz := hx x (by simp) _ hu
      simp only [cz, Option.map_eq_some_iff] at hcz
      obtain ⟨vs', hvs, e⟩ := hcz
      obtain ⟨v', h3, h4⟩ := czl_get i (cza_toList.1 hvs) h1
      have h3' : vs'[i]? = some v' := by simpa using h3
      exact ⟨v, v', h2, h4, fun w => by simp [execOp, hop, ← e, Instr.extract, h3']⟩
    · cases h
  case fieldAddr ty x i =>
    split at h
    · rename_i fs ad hd hu
      obtain ⟨f, h1, h⟩ := ofOpt_ok h
      split at h
      · rename_i n hn
        have h := natK_ok h
        have hcz := hx x (by simp) _ hu
        simp only [cz, Option.map_eq_some_iff] at hcz
        obtain ⟨ad', had, e⟩ := hcz
        obtain ⟨b, d, hsp, hb, rfl⟩ := czA_some.1 had
        have h1' : fs[i]? = some f := by simpa using h1
        refine ⟨_, .pointer (some ⟨b, ad.off + f.offset + d, none⟩), h, ?_, fun w => ?_⟩
        · simp only [cz, Option.map_eq_some_iff]
          exact ⟨_, czA_some.2 ⟨b, d, rfl, hb, rfl⟩, rfl⟩
        · simp only [execOp, hop, ← e, Instr.fieldAt, Sem.run_bind, run_underlying hd, Result.andThen_ok, h1', Instr.sureAddr, Sem.run_pure, fieldPlace, run_sizeOf hn]
          simp [add_off]
          try omega
      · cases h
    · cases h
  case field ty x i =>
    split at h
    · rename_i fs cs hd hu
      obtain ⟨f, h1, h⟩ := ofOpt_ok h
      have hcz := hx x (by simp) _ hu
      simp only [cz, Option.map_eq_some_iff] at hcz
      obtain ⟨cs', hcs, e⟩ := hcz
      have hl := cza_toList.1 hcs
      have h1' : fs[i]? = some f := by simpa using h1
      split at h
      · rename_i n hagg hn
        obtain ⟨h, hle⟩ := dropK_ok h
        obtain ⟨h, hle2⟩ := takeK_ok h
        refine ⟨_, .agg (cs'.extract f.offset (f.offset + n)), h, ?_, fun w => ?_⟩
        · simp only [cz, Option.map_eq_some_iff]
          refine ⟨_, cza_toList.2 (by simpa using czl_take n (czl_drop f.offset hl)), ?_⟩
          congr 1
          apply Array.ext'
          simp
        · simp only [execOp, hop, ← e, Instr.field, Sem.run_bind, run_underlying hd, Result.andThen_ok, h1', asAgg, Sem.run_pure, run_part (P := P) w (.inl ⟨n, hagg, hn, rfl⟩)]
      · rename_i n hagg hn
        obtain ⟨h, hle⟩ := dropK_ok h
        split at h
        · rename_i v l0 hl0
          have hj : cs.toList[f.offset]? = some v := by
            have := congrArg (fun x => x[0]?) hl0
            simpa [List.getElem?_drop] using this
          obtain ⟨v', h3, h4⟩ := czl_get f.offset hl hj
          have h3' : cs'[f.offset]? = some v' := by simpa using h3
          exact ⟨v, v', h, h4, fun w => by simp only [execOp, hop, ← e, Instr.field, Sem.run_bind, run_underlying hd, Result.andThen_ok, h1', asAgg, Sem.run_pure, run_part (P := P) w (.inr ⟨hagg, h3'⟩)]⟩
        · cases h
      · cases h
    · cases h
  case indexAddr ty x i =>
    split at h
    · rename_i e ad len cap jk j hd hu hi
      obtain ⟨hlt, h⟩ := bif_ok h
      obtain ⟨n, hn, h⟩ := ofOpt_ok h
      have h := natK_ok h
      have hcz := hx x (by simp) _ hu
      have hci := hx i (by simp) _ hi
      simp only [cz, Option.some.injEq] at hci
      have hlt' : j < len := blt_lt hlt
      simp only [cz] at hcz
      cases had : czA ρ ad with
      | none => simp [had] at hcz
      | some ad' =>
        obtain ⟨b, d, hsp, hb, rfl⟩ := czA_some.1 had
        have he : ∃ c, a.eval x = .slice (some ⟨b, ad.off + d, none⟩) len c := by
          simp only [had] at hcz
          cases ho : isOpen cap with
          | false => simp [ho] at hcz; exact ⟨_, hcz.symm⟩
          | true =>
            simp only [ho, cond_true] at hcz
            cases hl : Nat.ble (len + cap / 2) (ρ.γ ad.block) with
            | false => simp [hl] at hcz
            | true => simp [hl] at hcz; exact ⟨_, hcz.symm⟩
        obtain ⟨c, he⟩ := he
        refine ⟨_, .pointer (some ⟨b, ad.off + j * n + d, none⟩), h, ?_, fun w => ?_⟩
        · simp only [cz, Option.map_eq_some_iff]
          exact ⟨_, czA_some.2 ⟨b, d, rfl, hb, rfl⟩, rfl⟩
        · simp only [execOp, hop, he, ← hci, Instr.indexAt, asIntOf, Sem.run_bind, Sem.run_pure, run_underlying hd, Result.andThen_ok]
          simp [hlt', run_sizeOf hn, add_off]
          try omega
    · rename_i len e ad jk j hd hu hi
      obtain ⟨hlt, h⟩ := bif_ok h
      obtain ⟨n, hn, h⟩ := ofOpt_ok h
      have h := natK_ok h
      have hcz := hx x (by simp) _ hu
      have hci := hx i (by simp) _ hi
      simp only [cz, Option.some.injEq] at hci
      have hlt' : j < len := blt_lt hlt
      simp only [cz, Option.map_eq_some_iff] at hcz
      obtain ⟨ad', had, he⟩ := hcz
      obtain ⟨b, d, hsp, hb, rfl⟩ := czA_some.1 had
      refine ⟨_, .pointer (some ⟨b, ad.off + j * n + d, none⟩), h, ?_, fun w => ?_⟩
      · simp only [cz, Option.map_eq_some_iff]
        exact ⟨_, czA_some.2 ⟨b, d, rfl, hb, rfl⟩, rfl⟩
      · simp only [execOp, hop, ← he, ← hci, Instr.indexAt, asIntOf, Sem.run_bind, Sem.run_pure, run_underlying hd, Result.andThen_ok]
        simp [hlt', run_sizeOf hn, add_off, Instr.sureAddr]
        try omega
    · cases h
end
end Ae
end Go.Proofs.Ytmgcpfljhcahoaa
namespace Go.Proofs.Ytmgcpfljhcahoaa
open Go Go.RowKit
namespace Ae

section
variable {P : Program} {B : Nat} {ρ : Ren} {s : ASt} {w : World} {o : Oper} {a : Act} {β : Type} {k : Value → ASt → R Out} {y : Out} {sz : Nat} {t : Tr Value} {F : Facts}

theorem setEntryK_ok {β : Type} {f : MapEntry → MapEntry} {y : β} : ∀ {i : Nat} {l : List MapEntry} {k : List MapEntry → R β}, setEntryK i l f k = .ok y → k (l.modify i f) = .ok y ∧ i < l.length
  | _, [], _, h => by cases ‹Nat› <;> simp [setEntryK] at h
  | 0, e :: l, _, h => by simpa [setEntryK] using h
  | i + 1, e :: l, k, h => by
    have := setEntryK_ok (i := i) (l := l) (k := fun l => k (e :: l)) h
    simpa [List.modify] using this
theorem pushEntryK_ok {β : Type} {x : MapEntry} {y : β} : ∀ {l : List MapEntry} {k : List MapEntry → R β}, pushEntryK l x k = .ok y → k (l ++ [x]) = .ok y
  | [], _, h => h
  | e :: l, k, h => pushEntryK_ok (l := l) (k := fun l => k (e :: l)) h
theorem dropEntryK_ok {β : Type} {y : β} : ∀ {i : Nat} {l : List MapEntry} {k : List MapEntry → R β}, dropEntryK i l k = .ok y → k (l.eraseIdx i) = .ok y ∧ i < l.length
  | _, [], _, h => by cases ‹Nat› <;> simp [dropEntryK] at h
  | 0, e :: l, _, h => by simpa [dropEntryK] using h
  | i + 1, e :: l, k, h => by
    have := dropEntryK_ok (i := i) (l := l) (k := fun l => k (e :: l)) h
    simpa using this

theorem cze_ok {e e' : MapEntry} : cze ρ e = some e' ↔ cz ρ e.key = some e'.key ∧ cz ρ e.val = some e'.val ∧ e'.born = e.born := by
  unfold cze
  obtain ⟨k', v', b'⟩ := e'
  cases h1 : cz ρ e.key with
  | none => simp
  | some k => cases h2 : cz ρ e.val with
    | none => simp
    | some v => simp; intro _ _; exact eq_comm
theorem czes_length : ∀ {l l' : List MapEntry}, czes ρ l = some l' → l'.length = l.length
  | [], _, h => by simp [czes] at h; subst h; rfl
  | v :: l, _, h => by
    obtain ⟨v', l1, _, h2, rfl⟩ := czes_cons.1 h
    simp [czes_length h2]
theorem czes_get : ∀ {l l' : List MapEntry} (j : Nat) {v : MapEntry}, czes ρ l = some l' → l[j]? = some v → ∃ v', l'[j]? = some v' ∧ cze ρ v = some v'
  | [], _, _, _, _, h => by simp at h
  | v :: l, _, 0, u, h, h' => by
    obtain ⟨v', l1, h1, h2, rfl⟩ := czes_cons.1 h
    simp at h'; subst h'
    exact ⟨v', rfl, h1⟩
  | v :: l, _, j + 1, u, h, h' => by
    obtain ⟨v', l1, h1, h2, rfl⟩ := czes_cons.1 h
    simpa using czes_get j h2 (by simpa using h')
theorem czes_modify {f f' : MapEntry → MapEntry} (hf : ∀ e e', cze ρ e = some e' → cze ρ (f e) = some (f' e')) : ∀ (i : Nat) {l l' : List MapEntry}, czes ρ l = some l' → czes ρ (l.modify i f) = some (l'.modify i f')
  | _, [], _, h => by simp [czes] at h; subst h; simp [czes]
  | 0, v :: l, _, h => by
    obtain ⟨v', l1, h1, h2, rfl⟩ := czes_cons.1 h
    simpa using czes_cons.2 ⟨_, _, hf v v' h1, h2, rfl⟩
  | i + 1, v :: l, _, h => by
    obtain ⟨v', l1, h1, h2, rfl⟩ := czes_cons.1 h
    simpa using czes_cons.2 ⟨_, _, h1, czes_modify hf i h2, rfl⟩
theorem czes_push : ∀ {l l' : List MapEntry} {x x' : MapEntry}, czes ρ l = some l' → cze ρ x = some x' → czes ρ (l ++ [x]) = some (l' ++ [x'])
  | [], _, _, _, h, hx => by simp [czes] at h; subst h; exact czes_cons.2 ⟨_, [], hx, by simp [czes], rfl⟩
  | v :: l, _, _, _, h, hx => by
    obtain ⟨v', l1, h1, h2, rfl⟩ := czes_cons.1 h
    exact czes_cons.2 ⟨_, _, h1, czes_push h2 hx, rfl⟩
theorem czes_erase : ∀ (i : Nat) {l l' : List MapEntry}, czes ρ l = some l' → czes ρ (l.eraseIdx i) = some (l'.eraseIdx i)
  | _, [], _, h => by simp [czes] at h; subst h; simp [czes]
  | 0, v :: l, _, h => by
    obtain ⟨v', l1, h1, h2, rfl⟩ := czes_cons.1 h
    simpa using h2
  | i + 1, v :: l, _, h => by
    obtain ⟨v', l1, h1, h2, rfl⟩ := czes_cons.1 h
    simpa using czes_cons.2 ⟨_, _, h1, czes_erase i h2, rfl⟩

theorem bytes_beq (a b : ByteArray) : (a == b) = (a.data.toList == b.data.toList) := by
  rw [show (a == b) = (a.data == b.data) from rfl, Bool.eq_iff_iff, beq_iff_eq, beq_iff_eq, Array.toList_inj]
theorem bytes_eq_of {a b : ByteArray} (h : (a == b) = true) : a = b := by
  have : a.data = b.data := by rw [show (a == b) = (a.data == b.data) from rfl] at h; simpa using h
  cases a; cases b; simp at this; rw [this]
theorem bytes_self (a : ByteArray) : (a == a) = true := by rw [show (a == a) = (a.data == a.data) from rfl]; simp

theorem sameBytes_eq : ∀ {l m : List UInt8}, sameA.sameBytes l m = true → l = m
  | [], [], _ => rfl
  | a :: l, b :: m, h => by
    simp only [sameA.sameBytes, Bool.and_eq_true] at h
    rw [UInt8.toNat_inj.1 (Nat.eq_of_beq_eq_true h.1), sameBytes_eq h.2]
  | [], _ :: _, h => by cases h
  | _ :: _, [], h => by cases h
theorem sameCells_eq : ∀ {l m : List Value}, sameA.sameCells l m = true → l = m := by
  intro l
  induction l with
  | nil =>
    intro m h
    cases m with
    | nil => rfl
    | cons _ _ => simp [sameA.sameCells] at h
  | cons u l ih =>
    intro m h
    cases m with
    | nil => cases u <;> simp [sameA.sameCells] at h
    | cons v m =>
      unfold sameA.sameCells at h
      split at h
      · rename_i e _; cases e
      · rename_i e1 e2
        cases e1; cases e2
        simp only [Bool.and_eq_true, decide_eq_true_eq] at h
        rw [h.1.1, h.1.2, ih h.2]
      · rename_i a l' b m' e1 e2
        cases e1; cases e2
        simp only [Bool.and_eq_true] at h
        have := sameBytes_eq h.1
        have hab : a = b := ByteArray.ext (Array.toList_inj.1 this)
        rw [hab, ih h.2]
      · cases h
theorem sameKey_eq {u v : Value} (h : sameA.sameKey u v = true) : u = v := by
  unfold sameA.sameKey at h
  split at h
  · congr 1; exact Array.toList_inj.1 (sameCells_eq h)
  · cases h

/-- What is said of a kind of keys. -/
def KindOk (P : Program) (kt : TypeId) (kd : TypeDesc) : Prop := (P.underlying kt = some kd ∧ ((∃ i, kd = .int i) ∨ kd = .string)) ∨ (kd = .pointer kt ∧ ∃ fs, P.underlying kt = some (.struct fs))
def EqlOk (P : Program) (kd : TypeDesc) (u v : Value) (b : Bool) : Prop := match kd with
  | .pointer kt => ∀ w, (Op.equal kt u v).run P w = .ok b w
  | kd => Instr.sameNow kd u v = some b

theorem sameA_ok (hF : FactsOk P F ρ.σ) {kd : TypeDesc} {u v u' v' : Value} {b : Bool} (h : sameA P F kd u v = some b) (hu : cz ρ u = some u') (hv : cz ρ v = some v') :
    EqlOk P kd u' v' b ∧ (b = true → v' = u' ∧ Instr.sameBits 10000 v' u' = true) := by
  unfold sameA at h
  split at h
  · rename_i kt
    cases hp : plain u && plain v with
    | false => rw [hp, cond_false] at h; cases h
    | true =>
      rw [hp, cond_true] at h
      simp only [Bool.and_eq_true] at hp
      rw [cz_plain hp.1] at hu
      rw [cz_plain hp.2] at hv
      cases hu
      cases hv
      split at h
      · rename_i hq
        cases hs : sameA.sameKey u v && Instr.sameBits 10000 v u with
        | false => rw [hs, cond_false] at h; cases h
        | true =>
          rw [hs, cond_true] at h
          cases h
          simp only [Bool.and_eq_true] at hs
          exact ⟨fun w => pureRun_ok hq w, fun _ => ⟨(sameKey_eq hs.1).symm, hs.2⟩⟩
      · rename_i hq
        cases h
        exact ⟨fun w => pureRun_ok hq w, fun e => by cases e⟩
      · cases h
  · rename_i kk
    split at h
    · rename_i j p j' q
      cases hj : decide (j = j') with
      | false => simp [hj] at h
      | true =>
        have hj' : j = j' := by simpa using hj
        subst hj'
        simp at h
        simp only [cz, Option.some.injEq] at hu hv
        subst hu hv
        refine ⟨?_, fun hb => ?_⟩
        · show Instr.sameNow _ _ _ = _
          simp only [Instr.sameNow, if_true]
          rw [← h]
          congr 1
        · subst hb
          have : p = q := by simpa using h
          subst this
          exact ⟨rfl, by simp [Instr.sameBits]⟩
    · split at h
      · rename_i r hr
        obtain ⟨_, j, p, q, h2, h3, h4⟩ := hF.bin ρ rfl _ _ _ _ hr
        rw [hu] at h2
        rw [hv] at h3
        cases h2
        cases h3
        simp only [intBin, Option.some.injEq, Value.bool.injEq] at h4
        cases h
        refine ⟨by show Instr.sameNow _ _ _ = _; simp only [Instr.sameNow, if_true]; rw [h4], fun hb => ?_⟩
        subst hb
        have : p = q := by simpa using h4
        subst this
        exact ⟨rfl, by simp [Instr.sameBits]⟩
      · cases h
  · split at h
    · rename_i p q
      simp only [cz, Option.some.injEq] at hu hv h
      subst hu hv
      refine ⟨?_, fun hb => ?_⟩
      · show Instr.sameNow _ _ _ = _
        simp only [Instr.sameNow, bytes_beq]
        rw [h]
      · rw [hb, ← bytes_beq] at h
        have : p = q := bytes_eq_of h
        subst this
        exact ⟨rfl, by simp [Instr.sameBits, bytes_self]⟩
    · cases h
  · cases h

/-- What a search finds. -/
def Found (ρ : Ren) (es es' : List MapEntry) (k' : Value) (i : Nat) : Option (Nat × Value) → Option (Nat × Value) → Prop
  | none, none => True
  | some (j, v), some (j', v') => j = j' ∧ i ≤ j ∧ cz ρ v = some v' ∧ ∃ e e', es[j - i]? = some e ∧ es'[j - i]? = some e' ∧ e.val = v ∧ e'.val = v' ∧ e'.key = k' ∧ Instr.sameBits 10000 e'.key k' = true
  | _, _ => False
def FindOk (P : Program) (kt : TypeId) (kd : TypeDesc) (u : Value) (es : List MapEntry) (i : Nat) (r : Option (Nat × Value)) : Prop := match kd with
  | .pointer _ => ∀ w, (Instr.findAsking kt u es i).run P w = .ok r w
  | kd => Instr.findNow kd u es i = some r
theorem findA_ok (hF : FactsOk P F ρ.σ) {kt : TypeId} {kd : TypeDesc} (hk : KindOk P kt kd) {u u' : Value} (hu : cz ρ u = some u') : ∀ {es es' : List MapEntry} {i : Nat} {r : Option (Nat × Value)}, findA P F kd u es i = some r → czes ρ es = some es' →
    ∃ r', FindOk P kt kd u' es' i r' ∧ Found ρ es es' u' i r r'
  | [], _, i, r, h, he => by
    simp [czes] at he
    subst he
    simp [findA] at h
    subst h
    refine ⟨none, ?_, trivial⟩
    unfold FindOk
    split
    · intro w; simp [Instr.findAsking]
    · rfl
  | e :: es, _, i, r, h, he => by
    obtain ⟨e', es', h1, h2, rfl⟩ := czes_cons.1 he
    obtain ⟨hkk, hv, _⟩ := cze_ok.1 h1
    simp only [findA] at h
    cases hs : sameA P F kd u e.key with
    | none => simp [hs] at h
    | some b =>
      obtain ⟨h3, h4⟩ := sameA_ok hF hs hu hkk
      rw [hs] at h
      have step : ∀ r', (b = true → r' = some (i, e'.val)) → (b = false → FindOk P kt kd u' es' (i + 1) r') → FindOk P kt kd u' (e' :: es') i r' := fun r' ht hf => by
        rcases hk with ⟨_, hkd⟩ | ⟨rfl, _⟩
        · have e1 : FindOk P kt kd u' (e' :: es') i r' = (Instr.findNow kd u' (e' :: es') i = some r') := by rcases hkd with ⟨_, rfl⟩ | rfl <;> rfl
          have e2 : FindOk P kt kd u' es' (i + 1) r' = (Instr.findNow kd u' es' (i + 1) = some r') := by rcases hkd with ⟨_, rfl⟩ | rfl <;> rfl
          have e3 : EqlOk P kd u' e'.key b = (Instr.sameNow kd u' e'.key = some b) := by rcases hkd with ⟨_, rfl⟩ | rfl <;> rfl
          rw [e3] at h3
          rw [e2] at hf
          rw [e1]
          simp only [Instr.findNow, h3]
          cases b with
          | true => simp [ht rfl]
          | false => exact hf rfl
        · intro w
          have h3 : ∀ w, (Op.equal kt u' e'.key).run P w = .ok b w := h3
          simp only [Instr.findAsking, Sem.run_bind, h3 w, Result.andThen_ok]
          cases b with
          | true => simp [ht rfl]
          | false => simpa using hf rfl w
      cases b with
      | true =>
        simp only [Option.some.injEq] at h
        subst h
        obtain ⟨h5, h6⟩ := h4 rfl
        exact ⟨_, step _ (fun _ => rfl) (fun e => by cases e), rfl, Nat.le_refl _, hv, e, e', by simp, by simp, rfl, rfl, h5, h6⟩
      | false =>
        obtain ⟨r', h5, h6⟩ := findA_ok hF hk hu h h2
        refine ⟨r', step _ (fun e => by cases e) (fun _ => h5), ?_⟩
        cases r with
        | none => cases r' with
          | none => trivial
          | some x => exact h6
        | some x => cases r' with
          | none => exact h6
          | some x' =>
            obtain ⟨j, v⟩ := x
            obtain ⟨j', v'⟩ := x'
            obtain ⟨rfl, g2, g3, e1, e1', g4, g5, g6, g7, g8, g9⟩ := h6
            refine ⟨rfl, by omega, g3, e1, e1', ?_, ?_, g6, g7, g8, g9⟩
            · rw [show j - i = j - (i + 1) + 1 by omega]; simpa using g4
            · rw [show j - i = j - (i + 1) + 1 by omega]; simpa using g5

theorem keyKind_ok {ty : TypeId} {kd : TypeDesc} {e : TypeId} (h : keyKind P ty = some (kd, e)) : ∃ kt, P.underlying ty = some (.map kt e) ∧ KindOk P kt kd := by
  unfold keyKind at h
  split at h
  · rename_i kt e' hu
    split at h
    · rename_i i hk
      simp at h
      obtain ⟨rfl, rfl⟩ := h
      exact ⟨kt, hu, .inl ⟨hk, .inl ⟨i, rfl⟩⟩⟩
    · rename_i hk
      simp at h
      obtain ⟨rfl, rfl⟩ := h
      exact ⟨kt, hu, .inl ⟨hk, .inr rfl⟩⟩
    · rename_i fs hk
      simp at h
      obtain ⟨rfl, rfl⟩ := h
      exact ⟨kt, hu, .inr ⟨rfl, fs, hk⟩⟩
    · cases h
  · cases h

theorem check_ok {kt : TypeId} {kd : TypeDesc} (h : KindOk P kt kd) {u u' : Value} (hko : keyOk P kd u = true) (hu : cz ρ u = some u') (b : Bool) (w : World) : (Instr.checkKey b 10000 kt u').run P w = .ok () w := by
  rcases h with ⟨h, hk⟩ | ⟨rfl, _⟩
  · show (Instr.checkKey b (9999 + 1) kt u').run P w = _
    unfold Instr.checkKey
    rw [Sem.run_bind, run_underlying h]
    rcases hk with ⟨i, rfl⟩ | rfl <;> rfl
  · simp only [keyOk, Bool.and_eq_true] at hko
    rw [cz_plain hko.1.1] at hu
    cases hu
    obtain ⟨x1, h1⟩ := Option.isSome_iff_exists.1 hko.1.2
    obtain ⟨x2, h2⟩ := Option.isSome_iff_exists.1 hko.2
    cases b with
    | true => exact pureRun_ok h1 w
    | false => exact pureRun_ok h2 w
theorem findK_ok (hF : FactsOk P F ρ.σ) {kt : TypeId} {kd : TypeDesc} (hk : KindOk P kt kd) {u u' : Value} (hu : cz ρ u = some u') {es es' : List MapEntry} {r : Option (Nat × Value)} (h : findK P F kd u es = some r) (he : czes ρ es = some es') :
    (∀ b w, (Instr.checkKey b 10000 kt u').run P w = .ok () w) ∧ ∃ r', FindOk P kt kd u' es' 0 r' ∧ Found ρ es es' u' 0 r r' := by
  unfold findK at h
  cases hko : keyOk P kd u with
  | false => rw [hko, cond_false] at h; cases h
  | true =>
    rw [hko, cond_true] at h
    exact ⟨fun b w => check_ok hk hko hu b w, findA_ok hF hk hu h he⟩
theorem run_findKey {kt : TypeId} {kd : TypeDesc} (h : KindOk P kt kd) {u : Value} {es : List MapEntry} {r : Option (Nat × Value)} (hf : FindOk P kt kd u es 0 r) (w : World) :
    (Instr.findKey kt u es).run P w = .ok r w := by
  unfold Instr.findKey
  rcases h with ⟨h, hk⟩ | ⟨rfl, fs, h⟩
  · have e1 : FindOk P kt kd u es 0 r = (Instr.findNow kd u es 0 = some r) := by rcases hk with ⟨_, rfl⟩ | rfl <;> rfl
    rw [e1] at hf
    rw [Sem.run_bind, run_underlying h]
    simp [hf]
  · rw [Sem.run_bind, run_underlying h]
    have hf : ∀ w, (Instr.findAsking kt u es 0).run P w = .ok r w := hf
    cases es with
    | nil =>
      have := hf w
      simp [Instr.findAsking] at this
      subst this
      simp [Instr.findNow]
    | cons e es =>
      have : Instr.findNow (.struct fs) u (e :: es) 0 = none := by simp [Instr.findNow, Instr.sameNow]
      simp only [Result.andThen_ok, this]
      exact hf w
theorem run_getMap {r : Nat} {es : Array MapEntry} {c : Nat} (h : w.heap[r]? = some (.map es c)) : (getObj r).run P w = .ok (.map es c) w := by simp [getObj, Sem.run, h]
theorem run_setMap {r : Nat} {es : Array MapEntry} {c : Nat} (h : w.heap[r]? = some (.map es c)) (o : Obj) : (setObj r o).run P w = .ok () (w.putObj r o) := by simp [setObj, Sem.run, h, World.putObj]

/-- A map in memory. -/
theorem Rel.map (h : Rel P B ρ s w) {i : Nat} {es : List MapEntry} {c : Nat} (hi : s.H.get i = some (.map es c)) : ∃ b es', ρ.β i = some (b, 0) ∧ w.heap[b]? = some (.map es'.toArray c) ∧ czes ρ es = some es' := by
  obtain ⟨b, d, x, h1, h2, rfl, es', h3, rfl⟩ := h.obj i _ hi
  exact ⟨b, es', h1, h2, h3⟩
theorem Step.setMap (hr : Rel P B ρ s w) {i b : Nat} {es es1 es1' : List MapEntry} {c c' : Nat} {H : Tr AObj} (hg : s.H.get i = some (.map es c)) (hb : ρ.β i = some (b, 0)) (hlt : b < w.heap.size) (he : czes ρ es1 = some es1')
    (hH : ∀ m, H.get m = if m = i then some (.map es1 c') else s.H.get m) : Step P B s ρ w ⟨s.n, min i s.low, H⟩ ρ (w.putObj b (.map es1'.toArray c')) :=
  Step.set hr hb (by rw [hg]; rfl) hH (c := .map es1'.toArray c') ⟨rfl, es1', he, rfl⟩ (World.putObj_heap_same hlt) (fun _ hk => World.putObj_heap_other hk) World.putObj_size rfl rfl rfl

theorem entriesA_ok {β : Type} (hr : Rel P B ρ s w) {m m' : Value} {k : List MapEntry → Nat → R β} {y : β} (hm : cz ρ m = some m') (h : entriesA s m k = .ok y) :
    ∃ es c es', k es c = .ok y ∧ czes ρ es = some es' ∧ ((m' = .map none ∧ es' = []) ∨ ∃ r c', m' = .map (some r) ∧ w.heap[r]? = some (.map es'.toArray c')) := by
  unfold entriesA at h
  split at h
  · simp only [cz, Option.some.injEq] at hm
    exact ⟨[], 0, [], h, by simp [czes], .inl ⟨hm.symm, rfl⟩⟩
  · rename_i r
    simp only [cz, Option.map_eq_some_iff] at hm
    obtain ⟨r', hr', rfl⟩ := hm
    split at h
    · rename_i es c hg
      obtain ⟨b, es', h1, h2, h3⟩ := hr.map hg
      have := czB_some.1 hr'
      rw [h1] at this
      cases this
      exact ⟨es, c, es', h, h3, .inr ⟨_, c, rfl, h2⟩⟩
    · cases h
  · cases h

theorem lookup_ok (hr : Rel P B ρ s w) (hF : FactsOk P F ρ.σ) {ty : TypeId} {x i : Operand} {ok : Bool} (hop : o.op = .lookup ty x i ok) (hx : OpdOk ρ t a x) (hi : OpdOk ρ t a i) (h : simpleA P F o t s k = .ok y) : Sound P B s ρ w o a k y := by
  simp only [simpleA, hop] at h
  split at h
  · rename_i m key hm hkey
    split at h
    · rename_i kd e hkk
      obtain ⟨kt, hu, hk⟩ := keyKind_ok hkk
      obtain ⟨z, hz, h⟩ := ofOpt_ok h
      obtain ⟨hpz, h⟩ := bif_ok h
      obtain ⟨es, c, es', h, hes, hm'⟩ := entriesA_ok hr (hx _ hm) h
      have hzc : cz ρ z = some z := cz_plain hpz
      have hrun : ∀ (f : Option (Nat × Value)), (∀ b w, (Instr.checkKey b 10000 kt (a.eval i)).run P w = .ok () w) → FindOk P kt kd (a.eval i) es' 0 f →
          (execOp a.eval o).run P w = .ok (.value (let p : Value × Bool := match f with | some (_, v) => (v, true) | none => (z, false); if ok then .tuple #[p.1, .bool p.2] else p.1)) w := by
        intro f hck hf
        simp only [execOp, hop, Instr.lookup, Sem.run_bind, run_underlying hu, Result.andThen_ok]
        rcases hm' with ⟨e1, e2⟩ | ⟨r, c', e1, e2⟩
        · subst e2
          have hf' := run_findKey (P := P) hk hf w
          simp only [e1, Sem.run_pure, Result.andThen_ok, hck, hf', Sem.run_bind]
          cases f with
          | none => simp [run_zeroValue hz]
          | some p => simp
        · simp only [e1, Sem.run_bind, run_getMap (P := P) e2, Sem.run_pure, Result.andThen_ok, hck, run_findKey (P := P) hk hf w]
          cases f with
          | none => simp [run_zeroValue hz]
          | some p => simp
      split at h
      · rename_i j v hfa
        obtain ⟨hck, r', h1, h2⟩ := findK_ok hF hk (hi _ hkey) hfa hes
        cases r' with
        | none => exact h2.elim
        | some p =>
          obtain ⟨j', v'⟩ := p
          obtain ⟨_, _, hv, _⟩ := h2
          cases ok with
          | false => exact .pure hr h hv (by simpa using hrun _ hck h1)
          | true => exact .pure hr h (v' := .tuple #[v', .bool true]) (by simp [cz, cza, czl, hv]) (by simpa using hrun _ hck h1)
      · rename_i hfa
        obtain ⟨hck, r', h1, h2⟩ := findK_ok hF hk (hi _ hkey) hfa hes
        cases r' with
        | some p => exact h2.elim
        | none =>
          cases ok with
          | false => exact .pure hr h hzc (by simpa using hrun _ hck h1)
          | true => exact .pure hr h (v' := .tuple #[z, .bool false]) (by simp [cz, cza, czl, hzc]) (by simpa using hrun _ hck h1)
      · cases h
    · cases h
  · cases h

theorem putA_ok {β : Type} (hr : Rel P B ρ s w) (hF : FactsOk P F ρ.σ) {ty : TypeId} {m key v m' key' v' : Value} {k : ASt → R β} {y : β} (hm : cz ρ m = some m') (hkey : cz ρ key = some key') (hv : cz ρ v = some v') (h : putA P F s ty m key v k = .ok y) :
    ∃ s1 w', k s1 = .ok y ∧ Step P B s ρ w s1 ρ w' ∧ (Instr.mapUpdate ty m' key' v').run P w = .ok () w' := by
  unfold putA at h
  split at h
  · rename_i kd e r hkk
    obtain ⟨kt, hu, hk⟩ := keyKind_ok hkk
    split at h
    · rename_i es c hg
      obtain ⟨b, es', h1, h2, h3⟩ := hr.map hg
      simp only [cz, Option.map_eq_some_iff] at hm
      obtain ⟨r', hr', rfl⟩ := hm
      have := czB_some.1 hr'
      rw [h1] at this
      cases this
      have hlt := (hr.lt _ _ _ h1).2
      split at h
      · rename_i j v0 hfa
        obtain ⟨hck, f, g1, g2⟩ := findK_ok hF hk hkey hfa h3
        cases f with
        | none => exact g2.elim
        | some p =>
          obtain ⟨j', v1⟩ := p
          obtain ⟨rfl, _, _, e0, e0', q1, q2, q3, q4, q5, q6⟩ := g2
          obtain ⟨h, hj⟩ := setEntryK_ok h
          obtain ⟨H, hH, h⟩ := setObjK_ok h
          have hmod := czes_modify (ρ := ρ) (f := fun e => { e with key := key, val := v }) (f' := fun e => { e with key := key', val := v' })
            (fun x x' hx => cze_ok.2 ⟨hkey, hv, (cze_ok.1 hx).2.2⟩) j h3
          refine ⟨_, _, h, Step.setMap hr hg h1 hlt hmod hH, ?_⟩
          have q2' : es'[j]? = some e0' := by simpa using q2
          simp only [Instr.mapUpdate, Sem.run_bind, run_underlying hu, Result.andThen_ok, run_getMap (P := P) h2, hck, run_findKey (P := P) hk g1 w]
          simp only [List.getElem?_toArray, q2', Option.map_some, Option.getD_some, Instr.keyThatStays, q6, if_true, Sem.run_pure, Result.andThen_ok, run_setMap (P := P) h2]
          congr 2
          simp [List.modify_toArray]
      · rename_i hfa
        obtain ⟨hck, f, g1, g2⟩ := findK_ok hF hk hkey hfa h3
        cases f with
        | some p => exact g2.elim
        | none =>
          have h := natK_ok h
          have h := pushEntryK_ok h
          obtain ⟨H, hH, h⟩ := setObjK_ok h
          have hpush := czes_push h3 (x := ⟨key, v, c⟩) (x' := ⟨key', v', c⟩) (cze_ok.2 ⟨hkey, hv, rfl⟩)
          refine ⟨_, _, h, Step.setMap hr hg h1 hlt hpush hH, ?_⟩
          simp only [Instr.mapUpdate, Sem.run_bind, run_underlying hu, Result.andThen_ok, run_getMap (P := P) h2, hck, run_findKey (P := P) hk g1 w, run_setMap (P := P) h2]
          congr 2
          simp
      · cases h
    · cases h
  · cases h
end
end Ae
end Go.Proofs.Ytmgcpfljhcahoaa
namespace Go.Proofs.Ytmgcpfljhcahoaa
open Go Go.RowKit
namespace Ae

section
variable {P : Program} {B : Nat} {ρ : Ren} {s : ASt} {w : World} {o : Oper} {a : Act} {β : Type} {k : Value → ASt → R Out} {y : Out} {sz : Nat} {t : Tr Value} {F : Facts}

theorem newOr {l l' : List Value} {e : TypeId} (g : Nat) (h : czl ρ l = some l') (hf : ρ.β s.n = none) : OR P (ρ.add s.n (w.heap.size, 0) g) s.n 0 (.cells l e false) (.cells l'.toArray e) :=
  ⟨[], l', [], czl_ext (Ext.add hf _ _) _ h, by simp, rfl, fun h => by cases h⟩
theorem ptr_new {g : Nat} : cz (ρ.add s.n (w.heap.size, 0) g) (.pointer (some ⟨s.n, 0, none⟩)) = some (.pointer (some ⟨w.heap.size, 0, none⟩)) := by
  simp only [cz, Option.map_eq_some_iff]
  exact ⟨_, czA_some.2 ⟨w.heap.size, 0, rfl, by simp [Ren.add], rfl⟩, rfl⟩

theorem new_sound (hr : Rel P B ρ s w) (hB : B ≤ w.heap.size) {l l' : List Value} {e : TypeId} {H : Tr AObj} {v v' : Value} (hl : czl ρ l = some l') (hH : ∀ m, H.get m = if m = s.n then some (.cells l e false) else s.H.get m)
    (hk : k v ⟨s.n + 1, s.low, H⟩ = .ok y) (hv : cz (ρ.add s.n (w.heap.size, 0) 0) v = some v') (hrun : (execOp a.eval o).run P w = .ok (.value v') (w.alloc (.cells l'.toArray e))) : Sound P B s ρ w o a k y :=
  ⟨v, _, v', _, _, hk, Step.alloc hr hB 0 hH (newOr 0 hl (hr.fresh _ (Nat.le_refl _))) ⟨w.drawn, rfl⟩, hv, .inl hrun⟩

theorem arr_list (a : Array Value) : a = a.toList.toArray := by simp

theorem alloc_ok (hr : Rel P B ρ s w) (hB : B ≤ w.heap.size) {e : TypeId} (hop : o.op = .alloc e) (h : simpleA P F o t s k = .ok y) : Sound P B s ρ w o a k y := by
  simp only [simpleA, hop] at h
  obtain ⟨z, hz, h⟩ := ofOpt_ok h
  obtain ⟨hp, h⟩ := bif_ok h
  obtain ⟨H, hH, h⟩ := newObjK_ok h
  have hcz : cz ρ z = some z := cz_plain hp
  refine new_sound hr hB (czl_cellsOf hr.sig hcz) hH h ptr_new ?_
  simp only [execOp, hop, Instr.alloc, Sem.run_bind, run_zeroValue hz, Result.andThen_ok, newVar, newRow, run_newObj_alloc, Sem.run_pure]
theorem box_ok (hr : Rel P B ρ s w) (hB : B ≤ w.heap.size) {e : TypeId} {x : Operand} (hop : o.op = .box e x) (hx : OpdOk ρ t a x) (h : simpleA P F o t s k = .ok y) : Sound P B s ρ w o a k y := by
  simp only [simpleA, hop] at h
  split at h
  · rename_i v hv
    obtain ⟨H, hH, h⟩ := newObjK_ok h
    refine new_sound hr hB (czl_cellsOf hr.sig (hx _ hv)) hH h ptr_new ?_
    simp only [execOp, hop, Instr.box, Sem.run_bind, newVar, newRow, run_newObj_alloc, Sem.run_pure, Result.andThen_ok]
  · cases h
theorem load_ok (hr : Rel P B ρ s w) {ty : TypeId} {x : Operand} (hop : o.op = .load ty x) (hx : OpdOk ρ t a x) (h : simpleA P F o t s k = .ok y) : Sound P B s ρ w o a k y := by
  simp only [simpleA, hop] at h
  split at h
  · rename_i ad hv
    obtain ⟨v, h1, h2⟩ := val_ok h
    have hcz := hx _ hv
    simp only [cz, Option.map_eq_some_iff] at hcz
    obtain ⟨ad', had, e⟩ := hcz
    obtain ⟨v', h3, h4⟩ := loadA_ok hr had h1
    refine .pure hr h2 h3 ?_
    simp only [execOp, hop, ← e, Instr.loadAt, Instr.sureAddr, Sem.run_bind, Sem.run_pure, Result.andThen_ok, h4]
  · cases h
  · cases h
theorem store_ok (hr : Rel P B ρ s w) {ty : TypeId} {x z : Operand} (hop : o.op = .store ty x z) (hx : OpdOk ρ t a x) (hz : OpdOk ρ t a z) (h : simpleA P F o t s k = .ok y) : Sound P B s ρ w o a k y := by
  simp only [simpleA, hop] at h
  split at h
  · rename_i ad v hv hv2
    have hcz := hx _ hv
    simp only [cz, Option.map_eq_some_iff] at hcz
    obtain ⟨ad', had, e⟩ := hcz
    obtain ⟨s1, w', h1, h2, h3⟩ := storeA_ok hr had (hz _ hv2) h
    refine ⟨undef, s1, undef, ρ, w', h1, h2, by simp [undef, cz, cza, czl], .inr ⟨?_, rfl⟩⟩
    simp only [execOp, hop, ← e, Instr.storeAt, Instr.sureAddr, Sem.run_bind, Sem.run_pure, Result.andThen_ok, h3]
  · cases h
theorem makeMap_ok (hr : Rel P B ρ s w) (hB : B ≤ w.heap.size) {ty : TypeId} {x : Option Operand} (hop : o.op = .makeMap ty x) (hx : ∀ x', x = some x' → OpdOk ρ t a x') (h : simpleA P F o t s k = .ok y) : Sound P B s ρ w o a k y := by
  have key : ∀ H : Tr AObj, (∀ m, H.get m = if m = s.n then some (.map [] 0) else s.H.get m) → k (.map (some s.n)) ⟨s.n + 1, s.low, H⟩ = .ok y →
      (execOp a.eval o).run P w = .ok (.value (.map (some w.heap.size))) (w.alloc (.map #[] 0)) → Sound P B s ρ w o a k y := fun H hH h hrun =>
    ⟨_, _, .map (some w.heap.size), _, _, h, Step.alloc hr hB 0 hH (c := .map #[] 0) ⟨rfl, [], by simp [czes], rfl⟩ ⟨w.drawn, rfl⟩, by
      simp only [cz, Option.map_eq_some_iff]
      exact ⟨_, czB_some.2 (by simp [Ren.add]), rfl⟩, .inl hrun⟩
  cases x with
  | none =>
    simp only [simpleA, hop] at h
    obtain ⟨H, hH, h⟩ := newObjK_ok h
    refine key H hH h ?_
    simp [execOp, hop, Instr.makeMap]
  | some x =>
    simp only [simpleA, hop] at h
    split at h
    · rename_i kk n kt e hv hu
      obtain ⟨H, hH, h⟩ := newObjK_ok h
      have hcz := hx x rfl _ hv
      simp only [cz, Option.some.injEq] at hcz
      refine key H hH h ?_
      simp [execOp, hop, Instr.makeMap, ← hcz, run_underlying hu, asInt, asIntOf]
    · cases h
theorem mapUpdate_ok (hr : Rel P B ρ s w) (hF : FactsOk P F ρ.σ) {ty : TypeId} {x i z : Operand} (hop : o.op = .mapUpdate ty x i z ∨ o.op = .insert ty x i z) (hx : OpdOk ρ t a x) (hi : OpdOk ρ t a i) (hz : OpdOk ρ t a z)
    (h : simpleA P F o t s k = .ok y) : Sound P B s ρ w o a k y := by
  rcases hop with hop | hop <;> simp only [simpleA, hop] at h
  all_goals
    split at h
    · rename_i m key v hm hk hv
      obtain ⟨s1, w', h1, h2, h3⟩ := putA_ok hr hF (hx _ hm) (hi _ hk) (hz _ hv) h
      refine ⟨undef, s1, undef, ρ, w', h1, h2, by simp [undef, cz, cza, czl], .inr ⟨?_, rfl⟩⟩
      simp only [execOp, hop, Sem.run_bind, h3, Result.andThen_ok, Sem.run_pure]
    · cases h
theorem makeFunc_ok (hr : Rel P B ρ s w) {fn : Fn} {fi ca : Array Operand} (hop : o.op = .makeFunc fn fi ca) (hx : ∀ x ∈ fi.toList ++ ca.toList, OpdOk ρ t a x) (h : simpleA P F o t s k = .ok y) : Sound P B s ρ w o a k y := by
  have hl : ∀ (xs : List Operand), (∀ x ∈ xs, OpdOk ρ t a x) → ∀ vs, opds t xs = .ok vs → czl ρ vs = some (xs.map a.eval) := by
    intro xs
    induction xs with
    | nil => intro _ vs hv; cases hv; simp [czl]
    | cons x xs ih =>
      intro hxs vs hv
      simp only [opds] at hv
      split at hv
      · rename_i v hv1
        split at hv
        · rename_i vs' hvs
          cases hv
          exact czl_cons.2 ⟨_, _, hxs x (by simp) _ hv1, ih (fun x hx => hxs x (by simp [hx])) _ hvs, rfl⟩
        · cases hv
      · cases hv
  simp only [simpleA, hop] at h
  split at h
  · rename_i fi' ca' h1 h2
    have g1 := hl _ (fun x hx' => hx x (List.mem_append_left _ hx')) _ h1
    have g2 := hl _ (fun x hx' => hx x (List.mem_append_right _ hx')) _ h2
    have e1 : cza ρ fi'.toArray = some (fi.map a.eval) := cza_toList.2 (by simpa using g1)
    have e2 : cza ρ ca'.toArray = some (ca.map a.eval) := cza_toList.2 (by simpa using g2)
    split at h
    · rename_i f
      refine .pure hr h (v' := .func (.func f) (fi.map a.eval) (ca.map a.eval)) (by simp only [cz, e1, e2]) ?_
      simp [execOp, hop, Instr.makeFunc]
    · rename_i f1 f2 f3 f4
      refine .pure hr h (v' := .func (.via f1 f2 f3 f4) (fi.map a.eval) (ca.map a.eval)) (by simp only [cz, e1, e2]) ?_
      simp [execOp, hop, Instr.makeFunc]
    · cases h
  · cases h
theorem makeInterface_ok (hr : Rel P B ρ s w) {ty : TypeId} {x : Operand} (hop : o.op = .makeInterface ty x) (hx : OpdOk ρ t a x) (h : simpleA P F o t s k = .ok y) : Sound P B s ρ w o a k y := by
  simp only [simpleA, hop] at h
  split at h
  · rename_i v d hv hd
    have hcz := hx _ hv
    have hne : (∀ ms, d ≠ .interface ms) ∧ k (.iface ty v) s = .ok y := by
      split at h
      · cases h
      · rename_i hno; exact ⟨fun ms e => hno ms e, h⟩
    refine .pure hr hne.2 (v' := .iface ty (a.eval x)) (by simp [cz, hcz]) ?_
    simp only [execOp, hop, Instr.makeInterface, Sem.run_bind, run_underlying hd, Result.andThen_ok]
    cases d <;> first | rfl | exact absurd rfl (hne.1 _)
  · cases h
theorem typeAssert_ok (hr : Rel P B ρ s w) {xt ty : TypeId} {x : Operand} (hop : o.op = .typeAssert x xt ty false) (hx : OpdOk ρ t a x) (h : simpleA P F o t s k = .ok y) : Sound P B s ρ w o a k y := by
  simp only [simpleA, hop] at h
  split at h
  · cases h
  · rename_i u v d hno hv hd
    obtain ⟨hb, h⟩ := bif_ok h
    have hcz := hx _ hv
    simp only [cz, Option.map_eq_some_iff] at hcz
    obtain ⟨v', hv', e⟩ := hcz
    have hb' : u = ty := by simpa using hb
    refine .pure hr h hv' ?_
    simp only [execOp, hop, ← e, Instr.typeAssert, Sem.run_bind, run_underlying hd, Result.andThen_ok]
    cases d <;> first | (simp [hb']; done) | exact absurd rfl (hno _ _)
  · cases h

/-! build -/
theorem opdPairs_ok : ∀ {xs : List (Nat × Operand)} {vs : List (Nat × Value)}, (∀ x ∈ xs, OpdOk ρ t a x.2) → opdPairs t xs = .ok vs →
    ∃ vs' : List (Nat × Value), (xs.map fun p => (p.1, a.eval p.2)) = vs' ∧ vs'.map (·.1) = vs.map (·.1) ∧ czl ρ (vs.map (·.2)) = some (vs'.map (·.2))
  | [], vs, _, h => by cases h; exact ⟨[], rfl, rfl, by simp [czl]⟩
  | (i, x) :: xs, vs, hx, h => by
    simp only [opdPairs] at h
    split at h
    · rename_i v hv
      split at h
      · rename_i vs1 hvs
        cases h
        obtain ⟨vs', h1, h2, h3⟩ := opdPairs_ok (fun x hx' => hx x (by simp [hx'])) hvs
        refine ⟨(i, a.eval x) :: vs', by simp [h1], by simp [h2], ?_⟩
        exact czl_cons.2 ⟨_, _, hx (i, x) (by simp) v hv, h3, rfl⟩
      · cases h
    · cases h
theorem take_set_succ {α : Type} (v : α) : ∀ (n : Nat) (l : List α), n < l.length → (l.set n v).take (n + 1) = l.take n ++ [v]
  | _, [], h => by simp at h
  | 0, x :: l, _ => by simp
  | n + 1, x :: l, h => by simpa using take_set_succ v n l (by simpa using h)
theorem foldl_set (off : Nat) : ∀ (vs : List Value) (j : Nat) (cs : Array Value), off + j + vs.length ≤ cs.size →
    (vs.zipIdx j).foldl (fun (cs : Array Value) (p : Value × Nat) => cs.setIfInBounds (off + p.2) p.1) cs = (cs.toList.take (off + j) ++ vs ++ cs.toList.drop (off + j + vs.length)).toArray
  | [], j, cs, _ => by simp
  | v :: vs, j, cs, h => by
    simp only [List.zipIdx_cons, List.foldl_cons, List.length_cons] at h ⊢
    rw [foldl_set off vs (j + 1) _ (by simp; omega)]
    apply Array.ext'
    simp only [Array.toList_setIfInBounds]
    rw [show off + (j + 1) = off + j + 1 by omega, take_set_succ _ _ _ (by simp; omega), List.drop_set_of_lt (by omega), show off + j + 1 + vs.length = off + j + (vs.length + 1) by omega]
    simp
theorem fillA_ok {place place' : Nat → Option (Nat × Nat)} (hp : ∀ i x, place i = some x → place' i = some x) (hσ : ∀ i, (ρ.σ i).oneCell' = true) : ∀ {vs vs' : List (Nat × Value)} {l l' : List Value} {k : List Value → R Out} {y : Out},
    vs'.map (·.1) = vs.map (·.1) → czl ρ (vs.map (·.2)) = some (vs'.map (·.2)) → czl ρ l = some l' → fillA place vs l k = .ok y → ∃ r r', k r = .ok y ∧ czl ρ r = some r' ∧ r.length = l.length ∧ Instr.fill place' l'.toArray vs' = some r'.toArray
  | [], [], l, l', k, y, _, _, hl, h => ⟨l, l', h, hl, rfl, rfl⟩
  | [], _ :: _, _, _, _, _, h, _, _, _ => by simp at h
  | (i, v) :: vs, [], _, _, _, _, h, _, _, _ => by simp at h
  | (i, v) :: vs, (i', v') :: vs', l, l', k, y, h1, h2, hl, h => by
    simp only [List.map_cons, List.cons.injEq] at h1
    obtain ⟨rfl, h1⟩ := h1
    obtain ⟨u, us, g1, g2, e⟩ := czl_cons.1 h2
    simp only [List.map_cons, List.cons.injEq] at e
    obtain ⟨rfl, rfl⟩ := e
    simp only [fillA] at h
    split at h
    · rename_i off size hpl
      obtain ⟨hb, h⟩ := bif_ok h
      obtain ⟨h, hle⟩ := putAtK_ok h
      have hc := czl_cellsOf hσ g1
      have hlen := czl_length hc
      have hll := czl_length hl
      have hs : v'.cells.size = size := by rw [cellsOf_length hσ g1]; simpa using hb
      have hl2 := czl_append (czl_append (czl_take off hl) hc) (czl_drop (off + (cellsOf v).length) hl)
      obtain ⟨r, r', q1, q2, q3, q4⟩ := fillA_ok hp hσ h1 g2 hl2 h
      refine ⟨r, r', q1, q2, by rw [q3]; simp; omega, ?_⟩
      simp only [Instr.fill, hp _ _ hpl]
      rw [if_neg (by simp at hlen ⊢; omega)]
      have hf := foldl_set off v'.cells.toList 0 l'.toArray (by simp at hlen ⊢; omega)
      have hz : v'.cells.zipIdx.foldl (fun cs (p : Value × Nat) => cs.setIfInBounds (off + p.2) p.1) l'.toArray = ((v'.cells.toList.zipIdx).foldl (fun (cs : Array Value) (p : Value × Nat) => cs.setIfInBounds (off + p.2) p.1) l'.toArray) := by
        rw [← Array.foldl_toList]
        simp
      simp only [Nat.add_zero] at hf
      rw [← hlen] at q4
      exact (congrArg (fun x => Instr.fill place' x vs') (hz.trans hf)).trans q4
    · cases h
end
end Ae
end Go.Proofs.Ytmgcpfljhcahoaa
namespace Go.Proofs.Ytmgcpfljhcahoaa
open Go Go.RowKit
namespace Ae

section
variable {P : Program} {B : Nat} {ρ : Ren} {s : ASt} {w : World} {o : Oper} {a : Act} {β : Type} {k : Value → ASt → R Out} {y : Out} {sz : Nat} {t : Tr Value} {F : Facts}

theorem zero_info {ty : TypeId} {z : Value} (h : zeroT P ty = some z) : ∃ i, P.info? ty = some i ∧ i.zero = some z := by
  unfold zeroT at h
  cases hi : P.info? ty with
  | none => simp [hi] at h
  | some i => simp [hi] at h; exact ⟨i, rfl, h⟩

theorem build_ok (hr : Rel P B ρ s w) {ty : TypeId} {ps : Array (Nat × Operand)} (hop : o.op = .build ty ps) (hx : ∀ x ∈ ps.toList, OpdOk ρ t a x.2) (h : simpleA P F o t s k = .ok y) : Sound P B s ρ w o a k y := by
  simp only [simpleA, hop] at h
  split at h
  · rename_i vs hvs
    obtain ⟨z, hz, h⟩ := ofOpt_ok h
    obtain ⟨hpz, h⟩ := bif_ok h
    obtain ⟨vs', e, h1, h2⟩ := opdPairs_ok hx hvs
    have hzc := czl_cellsOf hr.sig (cz_plain (ρ := ρ) hpz)
    obtain ⟨it, hit, hzz⟩ := zero_info hz
    have hparts : (ps.map fun (i, x) => (i, a.eval x)).toList = vs' := by rw [← e]; simp
    have fin : ∀ (r r' : List Value), k (.agg r.toArray) s = .ok y → czl ρ r = some r' → P.built ty vs' = some r'.toArray → Sound P B s ρ w o a k y := fun r r' hk hrr hb => by
      refine .pure hr hk (v' := .agg r'.toArray) ?_ ?_
      · simp only [cz, Option.map_eq_some_iff]
        exact ⟨_, cza_toList.2 (by simpa using hrr), rfl⟩
      · simp only [execOp, hop, Sem.run_bind, run_build (P := P) w ty _ r'.toArray (by rw [hparts]; exact hb), Result.andThen_ok, Sem.run_pure]
    split at h
    · rename_i fs hd
      obtain ⟨places, hpl, h⟩ := ofOpt_ok h
      obtain ⟨r, r', q1, q2, _, q4⟩ := fillA_ok (place' := (places.toArray[·]?)) (fun i x hx' => by simpa using hx') hr.sig h1 h2 hzc h
      refine fin r r' q1 q2 ?_
      unfold Program.built
      simp only [hit, hd, hzz, hpl]
      simpa using q4
    · rename_i n e' hd
      obtain ⟨n', hn', h⟩ := ofOpt_ok h
      obtain ⟨ie, hie, hsz⟩ := info_of_size hn'
      obtain ⟨r, r', q1, q2, _, q4⟩ := fillA_ok (place' := fun i => some (i * n', n')) (fun i x hx' => hx') hr.sig h1 h2 hzc h
      refine fin r r' q1 q2 ?_
      unfold Program.built
      simp only [hit, hd, hzz, hie, hsz]
      simpa using q4
    · cases h
  · cases h

theorem replicateK_ok {β : Type} {z : List Value} {y : β} : ∀ {n : Nat} {acc : List Value} {k : List Value → R β}, replicateK n z acc k = .ok y → k ((List.replicate n z).flatten ++ acc) = .ok y
  | 0, acc, k, h => by simpa [replicateK] using h
  | n + 1, acc, k, h => by
    have := replicateK_ok (n := n) (acc := z ++ acc) h
    rw [List.replicate_succ', List.flatten_append]
    simpa [List.append_assoc] using this
theorem flatten_get {z : List Value} : ∀ (n j : Nat), j < n * z.length → ((List.replicate n z).flatten)[j]? = z[j % z.length]?
  | 0, j, h => by simp at h
  | n + 1, j, h => by
    rw [List.replicate_succ, List.flatten_cons]
    by_cases hj : j < z.length
    · rw [List.getElem?_append_left hj, Nat.mod_eq_of_lt hj]
    · rw [Nat.succ_mul] at h
      rw [List.getElem?_append_right (by omega), flatten_get n (j - z.length) (by omega), Nat.mod_eq_sub_mod (a := j) (by omega)]
theorem zeros_eq {z : Array Value} {n : Nat} (hz : 0 < z.size) : (Array.range (n * z.size)).map (fun j => z[j % z.size]!) = ((List.replicate n z.toList).flatten).toArray := by
  apply Array.ext_getElem?
  intro j
  have hl : ((List.replicate n z.toList).flatten).length = n * z.size := by simp
  by_cases hj : j < n * z.size
  · have := flatten_get (z := z.toList) n j (by simpa using hj)
    simp only [List.getElem?_toArray, this]
    have hm : j % z.size < z.size := Nat.mod_lt _ hz
    simp [hj, hm]
  · rw [Array.getElem?_eq_none (by simp; omega), Array.getElem?_eq_none (by simp; omega)]

theorem open_even (n : Nat) : isOpen (2 * n) = false := by
  unfold isOpen
  rw [show 2 * n % 2 = 0 by omega]
  rfl
theorem buildSlice_ok (hr : Rel P B ρ s w) (hB : B ≤ w.heap.size) {ty : TypeId} {n : Nat} {ps : Array (Nat × Operand)} (hop : o.op = .buildSlice ty n ps) (hx : ∀ x ∈ ps.toList, OpdOk ρ t a x.2) (h : simpleA P F o t s k = .ok y) : Sound P B s ρ w o a k y := by
  simp only [simpleA, hop] at h
  split at h
  · rename_i vs hvs
    split at h
    · rename_i e hd
      obtain ⟨n', hn', h⟩ := ofOpt_ok h
      obtain ⟨z, hz, h⟩ := ofOpt_ok h
      obtain ⟨hb, h⟩ := bif_ok h
      simp only [Bool.and_eq_true] at hb
      obtain ⟨⟨⟨hpz, hlen⟩, hpos⟩, hbig⟩ := hb
      have hlen' : (cellsOf z).length = n' := by simpa using hlen
      have hpos' : 1 ≤ n' := Nat.le_of_ble_eq_true hpos
      have hbig' : n * n' ≤ 100000 := Nat.le_of_ble_eq_true hbig
      obtain ⟨vs', e', h1, h2⟩ := opdPairs_ok hx hvs
      have h := replicateK_ok h
      rw [List.append_nil] at h
      have hzc := czl_cellsOf hr.sig (cz_plain (ρ := ρ) hpz)
      have hzl : z.cells.size = n' := by rw [cellsOf_length hr.sig (cz_plain (ρ := ρ) hpz)]; exact hlen'
      have hcell : cellsOf z = z.cells.toList := by cases z <;> rfl
      have hrep : ∀ m, czl ρ ((List.replicate m (cellsOf z)).flatten) = some ((List.replicate m z.cells.toList).flatten) := by
        intro m
        induction m with
        | zero => simp [czl]
        | succ m ih => rw [List.replicate_succ, List.flatten_cons, List.replicate_succ, List.flatten_cons]; exact czl_append hzc ih
      obtain ⟨r, r', q1, q2, _, q4⟩ := fillA_ok (place' := fun i => some (i * n', n')) (fun i x hx' => hx') hr.sig h1 h2 (hrep n) h
      obtain ⟨H, hH, q1⟩ := newObjK_ok q1
      have q1 := natK_ok (k := fun c => k (.slice (some ⟨s.n, 0, none⟩) n c) _) q1
      have hparts : (ps.map fun (i, x) => (i, a.eval x)).toList = vs' := by rw [← e']; simp
      refine new_sound hr hB q2 hH q1 (v' := .slice (some ⟨w.heap.size, 0, none⟩) n n) ?_ ?_
      · have hczA : czA (ρ.add s.n (w.heap.size, 0) 0) ⟨s.n, 0, none⟩ = some ⟨w.heap.size, 0, none⟩ := czA_some.2 ⟨w.heap.size, 0, rfl, by simp [Ren.add], rfl⟩
        have hio := open_even n
        simp only [cz, hczA, hio, cond_false]
        rw [show 2 * n / 2 = n by omega]
      · have hnot : ¬ n * n' > 2 ^ 24 := by omega
        by_cases h0 : n * n' = 0
        · have hn0 : n = 0 := by
            rcases Nat.mul_eq_zero.1 h0 with g | g
            · exact g
            · omega
          subst hn0
          have q4' : Instr.fill (fun i => some (i * n', n')) #[] vs' = some r'.toArray := by simpa using q4
          have hr0 : (Array.map (fun _ => (default : Value)) (Array.range 0)) = #[] := Array.eq_empty_of_size_eq_zero (by simp)
          simp [execOp, hop, Instr.buildSlice, run_underlying hd, run_sizeOf hn', e', newRow, hr0, q4']
        · have hcells : (Array.range (n * n')).map (fun j => z.cells[j % z.cells.size]!) = ((List.replicate n z.cells.toList).flatten).toArray := by
            rw [← hzl]
            exact zeros_eq (by omega)
          simp only [execOp, hop, Instr.buildSlice, Sem.run_bind, run_underlying hd, Result.andThen_ok, run_sizeOf hn', hnot, if_false, if_neg h0, run_zeroValue hz, Sem.run_pure, hcells, hparts, q4, newRow, run_newObj_alloc]
    · cases h
  · cases h

theorem makeSlice_ok (hr : Rel P B ρ s w) (hB : B ≤ w.heap.size) {ty : TypeId} {x1 x2 : Operand} (hop : o.op = .makeSlice ty x1 x2) (hx1 : OpdOk ρ t a x1) (hx2 : OpdOk ρ t a x2) (h : simpleA P F o t s k = .ok y) : Sound P B s ρ w o a k y := by
  simp only [simpleA, hop] at h
  split at h
  · rename_i e k1 n k2 m hd h1 h2
    obtain ⟨n', hn', h⟩ := ofOpt_ok h
    obtain ⟨by_, hby, h⟩ := ofOpt_ok h
    obtain ⟨z, hz, h⟩ := ofOpt_ok h
    obtain ⟨hb, h⟩ := bif_ok h
    simp only [Bool.and_eq_true] at hb
    obtain ⟨⟨⟨⟨hpz, hlen⟩, hpos⟩, hnm⟩, hbig⟩ := hb
    have hlen' : (cellsOf z).length = n' := by simpa using hlen
    have hpos' : 1 ≤ n' := Nat.le_of_ble_eq_true hpos
    have hnm' : n ≤ m := Nat.le_of_ble_eq_true hnm
    have hbig' : m * (n' + by_) ≤ 1000000 := Nat.le_of_ble_eq_true hbig
    rw [Nat.mul_add] at hbig'
    have h := replicateK_ok h
    rw [List.append_nil] at h
    have e1 := hx1 _ h1
    have e2 := hx2 _ h2
    simp only [cz, Option.some.injEq] at e1 e2
    have hzc := czl_cellsOf hr.sig (cz_plain (ρ := ρ) hpz)
    have hzl : z.cells.size = n' := by rw [cellsOf_length hr.sig (cz_plain (ρ := ρ) hpz)]; exact hlen'
    have hrep : ∀ m, czl ρ ((List.replicate m (cellsOf z)).flatten) = some ((List.replicate m z.cells.toList).flatten) := by
      intro m
      induction m with
      | zero => simp [czl]
      | succ m ih => rw [List.replicate_succ, List.flatten_cons, List.replicate_succ, List.flatten_cons]; exact czl_append hzc ih
    obtain ⟨H, hH, q1⟩ := newObjK_ok h
    have q1 := natK_ok (k := fun c => k (.slice (some ⟨s.n, 0, none⟩) n c) _) q1
    have hmm : m * 1 ≤ m * n' := Nat.mul_le_mul_left m hpos'
    refine new_sound hr hB (hrep m) hH q1 (v' := .slice (some ⟨w.heap.size, 0, none⟩) n m) ?_ ?_
    · have hczA : czA (ρ.add s.n (w.heap.size, 0) 0) ⟨s.n, 0, none⟩ = some ⟨w.heap.size, 0, none⟩ := czA_some.2 ⟨w.heap.size, 0, rfl, by simp [Ren.add], rfl⟩
      have hio := open_even m
      simp only [cz, hczA, hio, cond_false]
      rw [show 2 * m / 2 = m by omega]
    · have hwn : IntKind.i64.wrap (Int.ofNat n) = (n : Int) := IntWalk.i64_in _ (by constructor <;> (simp only [Int.ofNat_eq_natCast]; omega))
      have hwm : IntKind.i64.wrap (Int.ofNat m) = (m : Int) := IntWalk.i64_in _ (by constructor <;> (simp only [Int.ofNat_eq_natCast]; omega))
      simp only [bytesT, Option.map_eq_some_iff] at hby
      obtain ⟨ie, hie, hbe⟩ := hby
      have hmb : ((m * by_ : Nat) : Int) = (by_ : Int) * (m : Int) := by rw [Nat.mul_comm]; exact Int.natCast_mul by_ m
      have hnot : ¬ ((by_ : Int) * (m : Int) > 2 ^ 48) := by rw [← hmb]; omega
      have hm0 : ¬ ((m : Int) < 0) := by omega
      have hn0 : ¬ ((n : Int) < 0) := by omega
      have hgt : ¬ ((n : Int) > (m : Int)) := by omega
      have hti : (typeInfo e).run P w = .ok ie w := by simp [typeInfo, hie]
      by_cases h0 : m * n' = 0
      · have hm0' : m = 0 := by
          rcases Nat.mul_eq_zero.1 h0 with g | g
          · exact g
          · omega
        subst hm0'
        have hn0' : n = 0 := by omega
        subst hn0'
        have hr0 : ∀ z : Array Value, Array.map (fun x => z[x % z.size]!) (Array.range 0) = #[] := fun z => Array.eq_empty_of_size_eq_zero (by simp)
        simp only [execOp, hop, Instr.makeSlice, Sem.run_bind, run_underlying hd, Result.andThen_ok, ← e1, ← e2, asInt, asIntOf, Sem.run_pure, hti, hwn, hbe, hm0, hgt, hnot, decide_false, Bool.or_self, Bool.false_eq_true, if_false,
          run_askRoom, run_sizeOf hn', Int.toNat_natCast, Nat.zero_mul, if_true, hr0, newRow, run_newObj_alloc, List.replicate_zero, List.flatten_nil]
      · have hcells : (Array.range (m * n')).map (fun j => z.cells[j % z.cells.size]!) = ((List.replicate m z.cells.toList).flatten).toArray := by
          rw [← hzl]
          exact zeros_eq (by omega)
        simp only [execOp, hop, Instr.makeSlice, Sem.run_bind, run_underlying hd, Result.andThen_ok, ← e1, ← e2, asInt, asIntOf, Sem.run_pure, hti, hwn, hwm, hbe, hm0, hn0, hgt, hnot, decide_false, Bool.or_self, Bool.false_eq_true, if_false,
          run_askRoom, run_sizeOf hn', Int.toNat_natCast, if_neg h0, run_zeroValue hz, hcells, newRow, run_newObj_alloc]
  · cases h

theorem unbytes_ok : ∀ {l : List Value} {bs : List UInt8}, convA.unbytes l = some bs → ∃ xs : List Int, l = xs.map (Value.int .u8) ∧ bs = xs.map fun n => UInt8.ofNat n.toNat
  | [], bs, h => by cases h; exact ⟨[], rfl, rfl⟩
  | v :: l, bs, h => by
    unfold convA.unbytes at h
    split at h
    · rename_i e; cases e
    · rename_i n l1 e
      cases e
      split at h
      · rename_i bs' hb
        cases h
        obtain ⟨xs, rfl, rfl⟩ := unbytes_ok hb
        exact ⟨n :: xs, rfl, rfl⟩
      · cases h
    · cases h
theorem convert_ok (hr : Rel P B ρ s w) {src dst : TypeId} {x : Operand} (hop : o.op = .convert src dst x) (hx : OpdOk ρ t a x) (h : simpleA P F o t s k = .ok y) : Sound P B s ρ w o a k y := by
  simp only [simpleA, hop] at h
  split at h
  · rename_i u hu
    obtain ⟨v, h1, h2⟩ := val_ok h
    unfold convA at h1
    cases hp : plain u with
    | true =>
      rw [hp, cond_true] at h1
      obtain ⟨h3, h4⟩ := pureV_ok h1
      refine .pure hr h2 (cz_plain h3) ?_
      simp only [execOp, hop, Sem.run_bind, plain_eq hp (hx _ hu), h4 w, Result.andThen_ok, Sem.run_pure]
    | false =>
      rw [hp, cond_false] at h1
      split at h1
      · rename_i e ad n c hs hd
        split at h1
        · rename_i he
          obtain ⟨l, e', op, hg, h1⟩ := getCells_ok h1
          obtain ⟨h1, g1⟩ := dropK_ok h1
          obtain ⟨h1, g2⟩ := takeK_ok h1
          split at h1
          · rename_i bs hbs
            cases h1
            obtain ⟨xs, e1, rfl⟩ := unbytes_ok hbs
            have hcz := hx _ hu
            simp only [cz] at hcz
            cases had : czA ρ ad with
            | none => simp [had] at hcz
            | some ad' =>
              obtain ⟨b, d, hsp, hb, rfl⟩ := czA_some.1 had
              have hev : ∃ c, a.eval x = .slice (some ⟨b, ad.off + d, none⟩) n c := by
                simp only [had] at hcz
                cases ho : isOpen c with
                | false => simp [ho] at hcz; exact ⟨_, hcz.symm⟩
                | true =>
                  simp only [ho, cond_true] at hcz
                  cases hl : Nat.ble (n + c / 2) (ρ.γ ad.block) with
                  | false => simp [hl] at hcz
                  | true => simp [hl] at hcz; exact ⟨_, hcz.symm⟩
              obtain ⟨c', hev⟩ := hev
              obtain ⟨b2, d2, pre, l', tail, hc⟩ := hr.cells hg
              have hbb := hc.β
              rw [hb] at hbb
              simp only [Option.some.injEq, Prod.mk.injEq] at hbb
              obtain ⟨rfl, rfl⟩ := hbb
              have hl := czl_take n (czl_drop ad.off hc.l)
              rw [e1, czl_plain1 (by rw [List.all_eq_true]; intro v hv; rw [List.mem_map] at hv; obtain ⟨_, _, rfl⟩ := hv; rfl)] at hl
              have hl := Option.some.inj hl
              have hxl : xs.length = n := by
                have := congrArg List.length e1
                simp at this g2
                omega
              refine .pure hr h2 (v' := .string (strOfNums xs)) (by simp only [cz]; rfl) ?_
              have hrun := run_convert_bytes_arg (P := P) w src e hs he b (ad.off + d) n c' xs hxl (fun i hi => by
                have hg3 : ((l'.drop ad.off).take n)[i]? = some (.int .u8 (xs.getD i 0)) := by
                  rw [← hl]
                  simp [List.getElem?_eq_getElem (show i < xs.length by omega)]
                have hj : l'[ad.off + i]? = some (.int .u8 (xs.getD i 0)) := by
                  rw [List.getElem?_take, if_pos hi, List.getElem?_drop] at hg3
                  exact hg3
                have := hc.cell (ad.off + i) hj
                rwa [show ad.off + d + i = ad.off + i + d by omega]) dst hd
              simp only [execOp, hop, Sem.run_bind, hev, hrun, Result.andThen_ok, Sem.run_pure]
          · cases h1
        · cases h1
      · cases h1
  · cases h

theorem range_ok (hr : Rel P B ρ s w) (hB : B ≤ w.heap.size) {ty : TypeId} {x : Operand} (hop : o.op = .range ty x) (hx : OpdOk ρ t a x) (h : simpleA P F o t s k = .ok y) : Sound P B s ρ w o a k y := by
  simp only [simpleA, hop] at h
  split at h
  · rename_i kt e hd hu
    obtain ⟨H, hH, h⟩ := newObjK_ok h
    have hcz := hx _ hu
    simp only [cz, Option.some.injEq] at hcz
    refine ⟨_, _, _, _, _, h, Step.alloc hr hB 0 hH (c := .mapIter none 0 #[] 0) ⟨rfl, none, rfl, rfl⟩ (w' := w.alloc (.mapIter none 0 #[] 0)) ⟨w.drawn, rfl⟩, ptr_new, .inl ?_⟩
    simp [execOp, hop, ← hcz, Instr.range, run_underlying hd]
  · rename_i kt e r hd hu
    split at h
    · rename_i es c hg
      obtain ⟨H, hH, h⟩ := newObjK_ok h
      have hcz := hx _ hu
      simp only [cz, Option.map_eq_some_iff] at hcz
      obtain ⟨r', hr', hev⟩ := hcz
      obtain ⟨b, es', h1, h2, h3⟩ := hr.map hg
      have := czB_some.1 hr'
      rw [h1] at this
      cases this
      have hf := hr.fresh _ (Nat.le_refl s.n)
      refine ⟨_, _, _, _, _, h, Step.alloc hr hB 0 hH (c := .mapIter (some r') c #[] c) ⟨rfl, some r', ⟨r', czB_ext (Ext.add hf _ _) hr', rfl⟩, rfl⟩ (w' := w.alloc (.mapIter (some r') c #[] c)) ⟨w.drawn, rfl⟩, ptr_new, .inl ?_⟩
      simp [execOp, hop, ← hev, Instr.range, run_underlying hd, run_getMap (P := P) h2]
    · cases h
  · cases h

theorem czes_filter (p : Nat → Bool) : ∀ {l l' : List MapEntry}, czes ρ l = some l' → czes ρ (l.filter fun e => p e.born) = some (l'.filter fun e => p e.born)
  | [], _, h => by simp [czes] at h; subst h; simp [czes]
  | e :: l, _, h => by
    obtain ⟨e', l1, h1, h2, rfl⟩ := czes_cons.1 h
    have hb := (cze_ok.1 h1).2.2
    have ih := czes_filter p h2
    cases hp : p e.born with
    | true =>
      rw [List.filter_cons_of_pos (by simpa using hp), List.filter_cons_of_pos (by rw [hb]; simpa using hp)]
      exact czes_cons.2 ⟨_, _, h1, ih, rfl⟩
    | false =>
      rw [List.filter_cons_of_neg (by simp [hp]), List.filter_cons_of_neg (by rw [hb]; simp [hp])]
      exact ih
theorem czes_any (p : Nat → Bool) : ∀ {l l' : List MapEntry}, czes ρ l = some l' → (l'.any fun e => p e.born) = l.any fun e => p e.born
  | [], _, h => by simp [czes] at h; subst h; rfl
  | e :: l, _, h => by
    obtain ⟨e', l1, h1, h2, rfl⟩ := czes_cons.1 h
    have hb := (cze_ok.1 h1).2.2
    simp only [List.any_cons, hb, czes_any p h2]

theorem run_mapIter {r : Nat} {m : Option Nat} {a b : Nat} {c : Array Nat} (h : w.heap[r]? = some (.mapIter m a c b)) : (getObj r).run P w = .ok (.mapIter m a c b) w := by simp [getObj, Sem.run, h]
theorem run_setIter {r : Nat} {m : Option Nat} {a b : Nat} {c : Array Nat} (h : w.heap[r]? = some (.mapIter m a c b)) (o : Obj) : (setObj r o).run P w = .ok () (w.putObj r o) := by simp [setObj, Sem.run, h, World.putObj]

theorem next_ok (hr : Rel P B ρ s w) {x : Operand} (hop : o.op = .next x false) (hx : OpdOk ρ t a x) (h : simpleA P F o t s k = .ok y) : Sound P B s ρ w o a k y := by
  simp only [simpleA, hop] at h
  split at h
  · rename_i ad hu
    obtain ⟨hoff, h⟩ := bif_ok h
    have hoff' : ad.off = 0 := by simpa using hoff
    have hcz := hx _ hu
    simp only [cz, Option.map_eq_some_iff] at hcz
    obtain ⟨ad', had, hev⟩ := hcz
    obtain ⟨b, d, hsp, hb, rfl⟩ := czA_some.1 had
    have hover : cz ρ (.tuple #[.bool false]) = some (.tuple #[.bool false]) := by simp [cz, cza, czl]
    split at h
    · rename_i s1 s2 s3 hg
      obtain ⟨b', d', c, q1, q2, q3⟩ := hr.obj _ _ hg
      rw [hb] at q1
      cases q1
      obtain ⟨rfl, m', rfl, rfl⟩ := q3
      refine .pure hr h hover ?_
      simp [execOp, hop, ← hev, hoff', Instr.next, run_mapIter (P := P) q2]
    · rename_i m since seen last hg
      obtain ⟨b', d', c, q1, q2, q3⟩ := hr.obj _ _ hg
      rw [hb] at q1
      cases q1
      obtain ⟨rfl, m', ⟨r', hr', rfl⟩, rfl⟩ := q3
      split at h
      · rename_i es cl hgm
        obtain ⟨bm, es', h1, h2, h3⟩ := hr.map hgm
        have := czB_some.1 hr'
        rw [h1] at this
        cases this
        obtain ⟨hne, h⟩ := bif_ok h
        have hlen := czes_length h3
        have hany := czes_any (fun n => Nat.blt n last) h3
        have hfil := czes_filter (fun n => !(seen.any (Nat.beq n))) h3
        have hseen : ∀ n, seen.toArray.contains n = seen.any (Nat.beq n) := fun n => by
          rw [Array.contains_eq_any_beq]
          simp only [List.any_toArray]
          congr 1
          funext a
          rw [Bool.eq_iff_iff]
          simp
        have hun : (!seen.toArray.isEmpty && !es'.toArray.isEmpty && es'.toArray.all (fun e => decide (e.born ≥ last))) = false := by
          have e1 : seen.toArray.isEmpty = seen.isEmpty := by simp
          have e2 : es'.toArray.isEmpty = es.isEmpty := by
            cases es with
            | nil => cases es' with
              | nil => rfl
              | cons _ _ => simp at hlen
            | cons _ _ => cases es' with
              | nil => simp at hlen
              | cons _ _ => rfl
          rw [e1, e2]
          simp only [Bool.or_eq_true] at hne
          rcases hne with (g | g) | g
          · simp [g]
          · simp [g]
          · have : es'.toArray.all (fun e => decide (e.born ≥ last)) = false := by
              rw [← hany] at g
              rw [Bool.eq_false_iff]
              intro g2
              rw [List.any_eq_true] at g
              obtain ⟨e, he, hl⟩ := g
              have := blt_lt hl
              rw [Array.all_eq_true_iff_forall_mem] at g2
              have := g2 e (by simpa using he)
              simp at this
              omega
            rw [this]
            simp
        have hleft : es'.toArray.filter (fun e => !seen.toArray.contains e.born) = (es'.filter fun e => !(seen.any (Nat.beq e.born))).toArray := by
          rw [← List.filter_toArray]
          congr 1
          funext e
          rw [hseen]
        split at h
        · rename_i hnil
          rw [hnil] at hfil
          simp only [czes, Option.some.injEq] at hfil
          refine .pure hr h hover ?_
          simp only [execOp, hop, ← hev, hoff', Nat.zero_add, Instr.next, Sem.run_bind, run_mapIter (P := P) q2, run_getMap (P := P) h2, Result.andThen_ok, hun, Bool.false_eq_true, if_false, hleft, ← hfil, Sem.run_pure]
          simp [Question.forced]
        · rename_i e hone
          rw [hone] at hfil
          obtain ⟨e', l1, g1, g2, g3⟩ := czes_cons.1 hfil.symm.symm
          simp only [czes, Option.some.injEq] at g2
          subst g2
          obtain ⟨k1, k2, k3⟩ := cze_ok.1 g1
          obtain ⟨hold, h⟩ := bif_ok h
          have hold' : e'.born < since := by rw [k3]; exact blt_lt hold
          obtain ⟨H, hH, h⟩ := setObjK_ok h
          have hlt := (hr.lt _ _ _ hb).2
          refine ⟨_, _, .tuple #[.bool true, e'.key, e'.val], ρ, w.putObj b (.mapIter (some r') since (seen ++ [e.born]).toArray cl), h,
            Step.set hr hb (by rw [hg]; rfl) hH (c := .mapIter (some r') since (seen ++ [e.born]).toArray cl) ⟨rfl, some r', ⟨r', hr', rfl⟩, rfl⟩ (World.putObj_heap_same hlt) (fun _ hk => World.putObj_heap_other hk) World.putObj_size rfl rfl rfl, by simp [cz, cza, czl, k1, k2], .inl ?_⟩
          simp only [execOp, hop, ← hev, hoff', Nat.zero_add, Instr.next, Sem.run_bind, run_mapIter (P := P) q2, run_getMap (P := P) h2, Result.andThen_ok, hun, Bool.false_eq_true, if_false, hleft, g3, Sem.run_pure]
          have hold2 : e.born < since := blt_lt hold
          have hns : ¬ since ≤ e.born := by omega
          simp [k3, hold2, hns, Question.forced, run_setIter (P := P) q2]
        · cases h
      · cases h
    · cases h
  · cases h

theorem czes_find (p : Nat → Bool) : ∀ {l l' : List MapEntry} {e : MapEntry}, czes ρ l = some l' → l.find? (fun e => p e.born) = some e → ∃ e', l'.find? (fun e => p e.born) = some e' ∧ cze ρ e = some e'
  | [], _, _, _, h => by simp at h
  | e0 :: l, _, e, hc, h => by
    obtain ⟨e', l1, h1, h2, rfl⟩ := czes_cons.1 hc
    have hb := (cze_ok.1 h1).2.2
    rw [List.find?_cons] at h
    rw [List.find?_cons, hb]
    cases hp : p e0.born with
    | true =>
      rw [hp] at h
      simp only [Option.some.injEq] at h
      subst h
      exact ⟨e', rfl, h1⟩
    | false =>
      rw [hp] at h
      exact czes_find p h2 h

theorem entry_ok (hr : Rel P B ρ s w) {x : Operand} (hop : o.op = .entry x) (hx : OpdOk ρ t a x) (h : simpleA P F o t s k = .ok y) : Sound P B s ρ w o a k y := by
  simp only [simpleA, hop] at h
  split at h
  · rename_i ad hu
    obtain ⟨hoff, h⟩ := bif_ok h
    have hoff' : ad.off = 0 := by simpa using hoff
    have hcz := hx _ hu
    simp only [cz, Option.map_eq_some_iff] at hcz
    obtain ⟨ad', had, hev⟩ := hcz
    obtain ⟨b, d, hsp, hb, rfl⟩ := czA_some.1 had
    split at h
    · rename_i m since seen last hg
      obtain ⟨b', d', c, q1, q2, q3⟩ := hr.obj _ _ hg
      rw [hb] at q1
      cases q1
      obtain ⟨rfl, m', ⟨r', hr', rfl⟩, rfl⟩ := q3
      split at h
      · rename_i stamp es cl hst hgm
        obtain ⟨bm, es', h1, h2, h3⟩ := hr.map hgm
        have := czB_some.1 hr'
        rw [h1] at this
        cases this
        obtain ⟨hcl, h⟩ := bif_ok h
        have hcl' : cl = last := by simpa using hcl
        split at h
        · rename_i e he
          obtain ⟨e', g1, g2⟩ := czes_find (fun n => Nat.beq n stamp) h3 he
          obtain ⟨k1, k2, _⟩ := cze_ok.1 g2
          have g1' : es'.find? (fun e => e.born == stamp) = some e' := by
            rw [← g1]
            congr 1
            funext z
            rw [Bool.eq_iff_iff]
            simp
          refine .pure hr h (v' := .tuple #[e'.key, e'.val]) (by simp [cz, cza, czl, k1, k2]) ?_
          simp [execOp, hop, ← hev, hoff', Instr.entry, run_mapIter (P := P) q2, run_getMap (P := P) h2, hst, g1', hcl']
        · cases h
      · cases h
    · cases h
  · cases h

theorem findBorn_ok {b : Nat} : ∀ {es es' : List MapEntry} {i j : Nat}, czes ρ es = some es' → findBorn b es i = some j → i ≤ j ∧ j - i < es.length ∧ es'.findIdx? (fun e => (e.born : Int) == (b : Int)) = some (j - i)
  | [], _, _, _, _, h => by simp [findBorn] at h
  | e :: es, _, i, j, hc, h => by
    obtain ⟨e', es', h1, h2, rfl⟩ := czes_cons.1 hc
    have hbo := (cze_ok.1 h1).2.2
    simp only [findBorn] at h
    cases hb : Nat.beq e.born b with
    | true =>
      rw [hb] at h
      simp at h
      subst h
      have : e.born = b := by simpa using hb
      refine ⟨Nat.le_refl _, by simp, ?_⟩
      simp [List.findIdx?_cons, hbo, this]
    | false =>
      rw [hb] at h
      simp at h
      obtain ⟨g1, g2, g3⟩ := findBorn_ok h2 h
      have hne : ¬ e.born = b := fun e1 => by subst e1; simp at hb
      refine ⟨by omega, by simp; omega, ?_⟩
      rw [List.findIdx?_cons, hbo]
      have : ((e.born : Int) == (b : Int)) = false := by simp; omega
      rw [this, g3]
      simp
      omega

theorem mapEntry_ok (hr : Rel P B ρ s w) (hF : FactsOk P F ρ.σ) {ty : TypeId} {x i : Operand} (hop : o.op = .mapEntry ty x i) (hx : OpdOk ρ t a x) (hi : OpdOk ρ t a i) (h : simpleA P F o t s k = .ok y) : Sound P B s ρ w o a k y := by
  simp only [simpleA, hop] at h
  split at h
  · rename_i r key kd e hm hkey hkk
    obtain ⟨kt, hu, hk⟩ := keyKind_ok hkk
    obtain ⟨z, hz, h⟩ := ofOpt_ok h
    obtain ⟨hpz, h⟩ := bif_ok h
    split at h
    · rename_i es c hg
      obtain ⟨b, es', h1, h2, h3⟩ := hr.map hg
      have hmv := hx _ hm
      simp only [cz, Option.map_eq_some_iff] at hmv
      obtain ⟨r', hr', em⟩ := hmv
      have := czB_some.1 hr'
      rw [h1] at this
      cases this
      have hlt := (hr.lt _ _ _ h1).2
      have hkc := hi _ hkey
      split at h
      · rename_i j v0 hfa
        obtain ⟨hck, f, g1, g2⟩ := findK_ok hF hk hkc hfa h3
        cases f with
        | none => exact g2.elim
        | some p =>
          obtain ⟨j', v1⟩ := p
          obtain ⟨rfl, _, hv, e0, e0', q1, q2, q3, q4, q5, q6⟩ := g2
          simp only [Nat.sub_zero] at q1 q2
          rw [q1] at h
          obtain ⟨h, hj⟩ := setEntryK_ok h
          obtain ⟨H, hH, h⟩ := setObjK_ok h
          have h := natK_ok (k := fun b => k (.tuple #[v0, .int .i64 (.ofNat b)]) _) h
          have hmod := czes_modify (ρ := ρ) (f := fun e => { e with key := key }) (f' := fun e => { e with key := a.eval i })
            (fun x x' hx => cze_ok.2 ⟨hkc, (cze_ok.1 hx).2.1, (cze_ok.1 hx).2.2⟩) j h3
          have hborn : e0'.born = e0.born := by
            obtain ⟨u, u1, u2⟩ := czes_get j h3 q1
            rw [q2] at u1
            cases u1
            exact (cze_ok.1 u2).2.2
          refine ⟨_, _, .tuple #[v1, .int .i64 e0.born], ρ, _, h, Step.setMap hr hg h1 hlt hmod hH, by simp [cz, cza, czl, hv], .inl ?_⟩
          simp only [execOp, hop, ← em, Instr.mapEntry, Sem.run_bind, run_underlying hu, Result.andThen_ok, run_getMap (P := P) h2, hck, run_findKey (P := P) hk g1 w]
          simp only [List.getElem?_toArray, q2, Option.map_some, Option.getD_some, Instr.keyThatStays, q6, if_true, Sem.run_pure, Result.andThen_ok, run_setMap (P := P) h2, hborn, goInt]
          congr 3
          simp [List.modify_toArray]
      · rename_i hfa
        obtain ⟨hck, f, g1, g2⟩ := findK_ok hF hk hkc hfa h3
        cases f with
        | some p => exact g2.elim
        | none =>
          have h := natK_ok h
          have h := pushEntryK_ok h
          obtain ⟨H, hH, h⟩ := setObjK_ok h
          have hpush := czes_push h3 (x := ⟨key, z, c⟩) (x' := ⟨a.eval i, z, c⟩) (cze_ok.2 ⟨hkc, cz_plain hpz, rfl⟩)
          refine ⟨_, _, .tuple #[z, .int .i64 c], ρ, _, h, Step.setMap hr hg h1 hlt hpush hH, by simp [cz, cza, czl, cz_plain hpz], .inl ?_⟩
          simp only [execOp, hop, ← em, Instr.mapEntry, Sem.run_bind, run_underlying hu, Result.andThen_ok, run_getMap (P := P) h2, hck, run_findKey (P := P) hk g1 w, run_zeroValue hz, run_setMap (P := P) h2, Sem.run_pure, goInt]
          congr 3
          simp
      · cases h
    · cases h
  · cases h

theorem entryStore_ok (hr : Rel P B ρ s w) {ty : TypeId} {x i z : Operand} (hop : o.op = .entryStore ty x i z) (hx : OpdOk ρ t a x) (hi : OpdOk ρ t a i) (hz : OpdOk ρ t a z) (h : simpleA P F o t s k = .ok y) : Sound P B s ρ w o a k y := by
  simp only [simpleA, hop] at h
  split at h
  · rename_i r kk bn v hm hb hv
    split at h
    · rename_i es c hg
      obtain ⟨b, es', h1, h2, h3⟩ := hr.map hg
      have hmv := hx _ hm
      simp only [cz, Option.map_eq_some_iff] at hmv
      obtain ⟨r', hr', em⟩ := hmv
      have := czB_some.1 hr'
      rw [h1] at this
      cases this
      have hlt := (hr.lt _ _ _ h1).2
      have hbc := hi _ hb
      simp only [cz, Option.some.injEq] at hbc
      split at h
      · rename_i j hfb
        obtain ⟨_, q2, q3⟩ := findBorn_ok h3 hfb
        simp only [Nat.sub_zero] at q2 q3
        obtain ⟨h, hj⟩ := setEntryK_ok h
        obtain ⟨H, hH, h⟩ := setObjK_ok h
        have hmod := czes_modify (ρ := ρ) (f := fun e => { e with val := v }) (f' := fun e => { e with val := a.eval z })
          (fun x x' hx' => cze_ok.2 ⟨(cze_ok.1 hx').1, hz _ hv, (cze_ok.1 hx').2.2⟩) j h3
        refine ⟨_, _, undef, ρ, _, h, Step.setMap hr hg h1 hlt hmod hH, by simp [undef, cz, cza, czl], .inr ⟨?_, rfl⟩⟩
        have q3' : es'.toArray.findIdx? (fun e => (e.born : Int) == Int.ofNat bn) = some j := by simpa using q3
        simp only [execOp, hop, ← em, ← hbc, Instr.entryStore, Sem.run_bind, run_getMap (P := P) h2, Result.andThen_ok, asInt, asIntOf, Sem.run_pure, q3', run_setMap (P := P) h2]
        congr 3
        simp [List.modify_toArray]
      · cases h
    · cases h
  · cases h
end
end Ae
end Go.Proofs.Ytmgcpfljhcahoaa
namespace Go.Proofs.Ytmgcpfljhcahoaa
open Go Go.RowKit
namespace Ae

section
variable {P : Program} {B : Nat} {ρ : Ren} {s : ASt} {w : World} {o : Oper} {a : Act} {β : Type} {k : Value → ASt → R Out} {y : Out} {sz : Nat} {t : Tr Value} {F : Facts}

theorem slice_cz {p : Option Addr} {n c : Nat} {v' : Value} (h : cz ρ (.slice p n c) = some v') :
    (p = none ∧ c = 0 ∧ v' = .slice none n 0) ∨ ∃ ad b d c', p = some ad ∧ ad.spot = none ∧ ρ.β ad.block = some (b, d) ∧ v' = .slice (some ⟨b, ad.off + d, none⟩) n c' ∧
      ((isOpen c = false ∧ c' = c / 2) ∨ (isOpen c = true ∧ n + c / 2 ≤ ρ.γ ad.block ∧ c' = ρ.γ ad.block - c / 2)) := by
  cases p with
  | none =>
    simp [cz] at h
    exact .inl ⟨rfl, h.1, h.2.symm⟩
  | some ad =>
    simp only [cz] at h
    cases ha : czA ρ ad with
    | none => simp [ha] at h
    | some a' =>
      obtain ⟨b, d, h1, h2, rfl⟩ := czA_some.1 ha
      simp only [ha] at h
      cases ho : isOpen c with
      | false => simp [ho] at h; exact .inr ⟨ad, b, d, _, rfl, h1, h2, h.symm, .inl ⟨rfl, rfl⟩⟩
      | true =>
        simp only [ho, cond_true] at h
        cases hl : Nat.ble (n + c / 2) (ρ.γ ad.block) with
        | false => simp [hl] at h
        | true => simp [hl] at h; exact .inr ⟨ad, b, d, _, rfl, h1, h2, h.symm, .inr ⟨rfl, Nat.le_of_ble_eq_true hl, rfl⟩⟩
theorem slice_len {p : Option Addr} {n c : Nat} {v' : Value} (h : cz ρ (.slice p n c) = some v') : ∃ q c', v' = .slice q n c' := by
  rcases slice_cz h with ⟨_, _, rfl⟩ | ⟨_, _, _, _, _, _, _, rfl, _⟩ <;> exact ⟨_, _, rfl⟩
theorem slice_mk {b off i d : Nat} {n c c' : Nat} (hb : ρ.β i = some (b, d)) (hc : (isOpen c = false ∧ c' = c / 2) ∨ (isOpen c = true ∧ n + c / 2 ≤ ρ.γ i ∧ c' = ρ.γ i - c / 2)) :
    cz ρ (.slice (some ⟨i, off, none⟩) n c) = some (.slice (some ⟨b, off + d, none⟩) n c') := by
  have ha : czA ρ ⟨i, off, none⟩ = some ⟨b, off + d, none⟩ := czA_some.2 ⟨b, d, rfl, hb, rfl⟩
  rcases hc with ⟨h1, rfl⟩ | ⟨h1, h2, rfl⟩
  · simp [cz, ha, h1]
  · simp only [cz, ha, h1, cond_true, Nat.ble_eq_true_of_le h2]

theorem lenA_ok (hr : Rel P B ρ s w) (hF : FactsOk P F ρ.σ) {ty : TypeId} {ts : Array TypeId} {T : TypeId} {u u' v : Value} (hu : cz ρ u = some u') (h : lenA P F s ty u = .ok v) (hts : ts[0]? = some ty) :
    ∃ v', cz ρ v = some v' ∧ (Builtin.len_ ts T #[u']).run P w = .ok v' w := by
  unfold lenA at h
  split at h
  · rename_i b hd
    have h := natK_ok (k := fun n => R.ok (Value.int .i64 (.ofNat n))) h
    cases h
    simp only [cz, Option.some.injEq] at hu
    subst hu
    exact ⟨.int .i64 b.size, by simp [cz], by simp [Builtin.len_, hts, run_underlying hd, goInt]⟩
  · rename_i e p n c hd
    cases h
    obtain ⟨q, c', rfl⟩ := slice_len hu
    exact ⟨.int .i64 n, by simp [cz], by simp [Builtin.len_, hts, run_underlying hd, goInt]⟩
  · rename_i e c hd
    cases h
    simp only [cz] at hu
    obtain ⟨_, _, _, _, rfl⟩ := tailZ_some.1 hu
    exact ⟨.int .i64 0, by simp [cz], by simp [Builtin.len_, hts, run_underlying hd, goInt]⟩
  · rename_i kt e hd
    cases h
    simp only [cz, Option.some.injEq] at hu
    subst hu
    exact ⟨.int .i64 0, by simp [cz], by simp [Builtin.len_, hts, run_underlying hd, goInt]⟩
  · rename_i kt e r hd
    split at h
    · rename_i es c hg
      have h := natK_ok (k := fun n => R.ok (Value.int .i64 (.ofNat n))) h
      cases h
      simp only [cz, Option.map_eq_some_iff] at hu
      obtain ⟨r', hr', rfl⟩ := hu
      obtain ⟨b, es', h1, h2, h3⟩ := hr.map hg
      have := czB_some.1 hr'
      rw [h1] at this
      cases this
      have hl := czes_length h3
      exact ⟨.int .i64 es.length, by simp [cz], by simp [Builtin.len_, hts, run_underlying hd, goInt, run_getMap (P := P) h2, hl]⟩
    · cases h
  · rename_i n e hd
    cases h
    exact ⟨.int .i64 n, by simp [cz], by simp [Builtin.len_, hts, run_underlying hd, goInt]⟩
  · rename_i hd hno
    split at h
    · rename_i r hl
      cases h
      obtain ⟨b, h1, h2⟩ := hF.len ρ rfl _ _ hl
      rw [hu] at h1
      cases h1
      exact ⟨_, h2, by simp [Builtin.len_, hts, run_underlying hd, goInt]⟩
    · cases h
  · cases h

/-! append -/
theorem srcA_ok (hr : Rel P B ρ s w) {yv yv' : Value} {k : Nat → List Value → R Out} {out : Out} (hy : cz ρ yv = some yv') (h : srcA s sz yv k = .ok out) :
    ∃ m l l', k m l = .ok out ∧ czl ρ l = some l' ∧ l.length = m * sz ∧ (Builtin.lenOf yv').run P w = .ok m w ∧ (∀ W : World, W.heap = w.heap → (Builtin.firstCells sz m yv').run P W = .ok l'.toArray W) ∧ (∀ v ∈ l', v.oneCell' = true) := by
  unfold srcA at h
  split at h
  · rename_i m c
    obtain ⟨hb, h⟩ := bif_ok h
    have hm : m = 0 := by simpa using hb
    subst hm
    rcases slice_cz hy with ⟨_, _, rfl⟩ | ⟨ad, _, _, _, e, _⟩
    · exact ⟨0, [], [], h, by simp [czl], by simp, rfl, fun _ _ => rfl, by simp⟩
    · cases e
  · rename_i ad m c
    obtain ⟨l, e, op, hg, h⟩ := getCells_ok h
    obtain ⟨h, h1⟩ := dropK_ok h
    obtain ⟨h, h2⟩ := takeK_ok h
    obtain ⟨hone, h⟩ := bif_ok h
    rcases slice_cz hy with ⟨e, _⟩ | ⟨ad', b, d, c', e, hsp, hb, rfl, _⟩
    · cases e
    · cases e
      obtain ⟨b2, d2, pre, l', tail, hc⟩ := hr.cells hg
      have hbb := hc.β
      rw [hb] at hbb
      simp only [Option.some.injEq, Prod.mk.injEq] at hbb
      obtain ⟨rfl, rfl⟩ := hbb
      have hl := czl_take (m * sz) (czl_drop ad.off hc.l)
      have hlen : ((l'.drop ad.off).take (m * sz)).length = m * sz := by
        have := czl_length hc.l
        simp at h2 ⊢
        omega
      refine ⟨m, _, _, h, hl, by simp at h2 ⊢; omega, rfl, fun W hW => ?_, czl_ones hr.sig hl hone⟩
      have hWc : ∀ x, W.cell? x = w.cell? x := fun x => by unfold World.cell?; rw [hW]
      have := run_loadCells_list (P := P) W ⟨b, ad.off + d, none⟩ ((l'.drop ad.off).take (m * sz)) (fun j v hj => by
        rw [add_off, hWc]
        have hj' : l'[ad.off + j]? = some v := by
          rw [List.getElem?_take] at hj
          split at hj
          · simpa [List.getElem?_drop] using hj
          · cases hj
        have := hc.cell (ad.off + j) hj'
        rwa [show ad.off + d + j = ad.off + j + d by omega])
      rw [hlen] at this
      exact this
  · rename_i b
    obtain ⟨hb, h⟩ := bif_ok h
    have hs : sz = 1 := by simpa using hb
    subst hs
    simp only [cz, Option.some.injEq] at hy
    subst hy
    have hp : (bytesVals b).all plain1 = true := by rw [List.all_eq_true]; intro v hv; simp only [bytesVals, List.mem_map] at hv; obtain ⟨_, _, rfl⟩ := hv; rfl
    refine ⟨b.size, bytesVals b, bytesVals b, h, czl_plain1 hp, by simp [bytesVals], rfl, fun W _ => ?_, ?_⟩
    · simp only [Builtin.firstCells, Sem.run_pure]
      congr 1
      apply Array.ext'
      simp [bytesVals]
    · intro v hv
      simp only [bytesVals, List.mem_map] at hv
      obtain ⟨_, _, rfl⟩ := hv
      rfl
  · rename_i c
    simp only [cz] at hy
    obtain ⟨b, d, _, _, rfl⟩ := tailZ_some.1 hy
    refine ⟨0, [], [], h, by simp [czl], by simp, rfl, fun W _ => ?_, by simp⟩
    have key : ∀ ad : Addr, (loadCells ad 0).run P W = .ok #[] W := fun ad => run_loadCells_list (P := P) W ad [] (fun j v hj => by simp at hj)
    simp only [Builtin.firstCells, Nat.zero_mul]
    exact key _
  · cases h

theorem cutSrc_ok {n m : Nat} {yv yv' : Value} (hy : cz ρ yv = some yv') (hm : lenSrc yv = some m) (hn : n ≤ m) :
    ∃ y2, cz ρ (cutSrc n yv) = some y2 ∧ (∀ w, (Builtin.lenOf yv').run P w = .ok m w) ∧ (∀ w, (Builtin.lenOf y2).run P w = .ok n w) ∧ ∀ sz w, (Builtin.firstCells sz n yv').run P w = (Builtin.firstCells sz n y2).run P w := by
  unfold lenSrc at hm
  split at hm
  · rename_i p m' c
    cases hm
    rcases slice_cz hy with ⟨rfl, rfl, rfl⟩ | ⟨ad, b, d, c', rfl, hsp, hb, rfl, hc⟩
    · exact ⟨.slice none n 0, by simp [cutSrc, cz], fun _ => rfl, fun _ => rfl, fun _ _ => rfl⟩
    · have hadb : (⟨ad.block, ad.off, none⟩ : Addr) = ad := by obtain ⟨x1, x2, x3⟩ := ad; simp at hsp; subst hsp; rfl
      refine ⟨.slice (some ⟨b, ad.off + d, none⟩) n c', ?_, fun _ => rfl, fun _ => rfl, fun _ _ => rfl⟩
      have := slice_mk (off := ad.off) (n := n) (c := c) (c' := c') hb (hc.imp_right fun g => ⟨g.1, by omega, g.2.2⟩)
      rw [hadb] at this
      exact this
  · rename_i b
    cases hm
    simp only [cz, Option.some.injEq] at hy
    subst hy
    refine ⟨.string ⟨(b.data.toList.take n).toArray⟩, by simp [cutSrc, cz], fun _ => rfl, fun w => ?_, fun sz w => ?_⟩
    · have : (⟨(b.data.toList.take n).toArray⟩ : ByteArray).size = n := by
        show ((b.data.toList.take n).toArray).size = n
        simp
        exact Nat.min_eq_left hn
      simp [Builtin.lenOf, this]
    · simp only [Builtin.firstCells]
      congr 2
      have : (b.extract 0 n) = (⟨(b.data.toList.take n).toArray⟩ : ByteArray).extract 0 n := by
        apply ByteArray.ext
        rw [ByteArray.data_extract, ByteArray.data_extract]
        apply Array.ext'
        simp [List.take_take]
      rw [this]
  · rename_i e
    cases hm
    have hy' := hy
    simp only [cz] at hy'
    obtain ⟨b, d, _, _, rfl⟩ := tailZ_some.1 hy'
    have : n = 0 := by omega
    subst this
    exact ⟨_, hy, fun _ => rfl, fun _ => rfl, fun _ _ => rfl⟩
  · cases hm

theorem copy_ok (hr : Rel P B ρ s w) {ty T : TypeId} {ts : Array TypeId} {u v u' v' : Value} {k : Value → ASt → R Out} {out : Out} (hts : ts[0]? = some ty) (hu : cz ρ u = some u') (hv : cz ρ v = some v') (h : copyA P s ty u v k = .ok out) :
    ∃ r s1 r' w', k r s1 = .ok out ∧ Step P B s ρ w s1 ρ w' ∧ cz ρ r = some r' ∧ (Builtin.copy_ ts T #[u', v']).run P w = .ok r' w' := by
  unfold copyA at h
  split at h
  · rename_i e p len c0 m hd hm
    split at h
    · rename_i sz hs
      have h := minK_ok (k := fun n => srcA s sz (cutSrc n v) fun _ new => match p with
        | none => bif Nat.beq n 0 then k (.int .i64 (.ofNat n)) s else .err 45 ""
        | some a => bif Nat.beq n 0 then k (.int .i64 (.ofNat n)) s else
          getCells s a.block fun l e' op => putAtK a.off l new fun l => setObjK s a.block (some (.cells l e' op)) fun s => k (.int .i64 (.ofNat n)) s) h
      obtain ⟨y2, hy2, hl1, hl2, hf⟩ := cutSrc_ok (P := P) hv hm (Nat.min_le_left m len)
      obtain ⟨m2, new, new', h, hnew, hnl, hlen2, hfirst, hones⟩ := srcA_ok hr hy2 h
      have hm2 : m2 = min m len := by
        have := hl2 w
        rw [hlen2] at this
        cases this
        rfl
      subst hm2
      have hfst := hfirst w rfl
      have hcnt : cz ρ (.int .i64 (.ofNat (min m len))) = some (.int .i64 (.ofNat (min m len))) := by simp [cz]
      have hmin : Nat.min m len = min m len := rfl
      rcases slice_cz hu with ⟨rfl, rfl, rfl⟩ | ⟨ad, b, d, c', rfl, hsp, hb, rfl, hc⟩
      · obtain ⟨hn0, h⟩ := bif_ok h
        refine ⟨_, s, _, w, h, Step.refl hr, hcnt, ?_⟩
        simp [Builtin.copy_, hts, run_underlying hd, hl1 w, run_sizeOf hs, hf, hmin, hfst, goInt]
      · cases hn0 : Nat.beq (min m len) 0 with
        | true =>
          simp only [hn0, cond_true] at h
          have hz : min m len = 0 := by simpa using hn0
          have hnew0 : new' = [] := List.eq_nil_of_length_eq_zero (by rw [czl_length hnew, hnl, hz, Nat.zero_mul])
          refine ⟨_, s, _, w, h, Step.refl hr, hcnt, ?_⟩
          simp [Builtin.copy_, hts, run_underlying hd, hl1 w, run_sizeOf hs, hf, hmin, hfst, goInt, hnew0, storeCells]
        | false =>
          simp only [hn0, cond_false] at h
          obtain ⟨l0, e', op, hg, h⟩ := getCells_ok h
          obtain ⟨h, hle1⟩ := putAtK_ok h
          obtain ⟨H, hH, h⟩ := setObjK_ok h
          obtain ⟨b2, d2, pre, l', tail, hcells⟩ := hr.cells hg
          have hbb := hcells.β
          rw [hb] at hbb
          simp only [Option.some.injEq, Prod.mk.injEq] at hbb
          obtain ⟨rfl, rfl⟩ := hbb
          have hll' := czl_length hcells.l
          have hpre := hcells.pre
          have hnl' := czl_length hnew
          refine ⟨_, _, _, _, h, Step.put hr hg hcells hnew hle1 hH, hcnt, ?_⟩
          have hst := run_storeCells_at (P := P) b (ad.off + d) e' new' 0 _ w hcells.blk (by simp; omega) hones
          simp only [Nat.add_zero] at hst
          simp only [Builtin.copy_, hts, List.getElem?_toArray, List.getElem?_cons_zero, List.getElem?_cons_succ, Sem.run_bind, run_underlying hd, Result.andThen_ok, hl1 w, run_sizeOf hs, hf, hmin, hfst, hst, Sem.run_pure, goInt]
          rfl
    · cases h
  · cases h

theorem growBy_le (n : Nat) : ∀ (r c : Nat), c ≤ 2 * n + 768 → Builtin.growBy n r c ≤ 2 * n + 768
  | 0, c, h => h
  | r + 1, c, h => by
    unfold Builtin.growBy
    split
    · exact h
    · exact growBy_le n r _ (by omega)
theorem nextslicecap_le {n c : Nat} (h : c < n) : Builtin.nextslicecap n c ≤ 2 * n + 768 := by
  unfold Builtin.nextslicecap
  split
  · omega
  · split
    · omega
    · exact growBy_le n 4 c (by omega)

section
variable {ty ty2 T e : TypeId} {bytes m len cap' : Nat} {z u' v' : Value} {new : List Value} {p' : Option Addr}
theorem run_append_eq (hd : P.underlying ty = some (.slice e)) (h2 : ∃ d2, P.underlying ty2 = some d2 ∧ ∀ k, d2 ≠ .int k) (hs : sizeT P e = some sz) (hl : (Builtin.lenOf v').run P w = .ok m w) (hn : (Builtin.firstCells sz m v').run P w = .ok new.toArray w)
    (hle : len + m ≤ cap') : (Builtin.append_ #[ty, ty2] T #[.slice p' len cap', v']).run P w =
      match p' with
      | some a => ((storeCells (a.add (len * sz)) new).run P w).andThen fun _ w' => .ok (.slice p' (len + m) cap') w'
      | none => .ok (.slice none (len + m) cap') w := by
  obtain ⟨d2, h3, h4⟩ := h2
  unfold Builtin.append_
  cases d2 <;> (first | exact absurd rfl (h4 _) | skip) <;>
  simp only [List.getElem?_toArray, List.getElem?_cons_zero, List.getElem?_cons_succ, Sem.run_bind, run_underlying hd, Result.andThen_ok, run_sizeOf hs, run_underlying h3, Sem.run_pure, Bool.false_eq_true, if_false, hl, Sem.run_ite, if_pos hle, Bool.not_false, if_true, hn] <;>
  cases p' <;> simp
theorem run_append_more (hd : P.underlying ty = some (.slice e)) (h2 : ∃ d2, P.underlying ty2 = some d2 ∧ ∀ k, d2 ≠ .int k) (hs : sizeT P e = some sz) (hby : bytesT P e = some bytes) (hz : zeroT P e = some z) (hl : (Builtin.lenOf v').run P w = .ok m w)
    {old : List Value} (hle : cap' < len + m) (hbig : (len + m) * (bytes + sz) ≤ 1000000000) (hpos : 1 ≤ sz) (hzs : z.cells.size = sz)
    (ho : ∀ W : World, W.heap = w.heap → (Builtin.firstCells sz len (.slice p' len cap')).run P W = .ok old.toArray W) (hn : ∀ W : World, W.heap = w.heap → (Builtin.firstCells sz m v').run P W = .ok new.toArray W) :
    ∃ newCap rest, len + m ≤ newCap ∧ rest.length = (newCap - (len + m)) * sz ∧ (Builtin.append_ #[ty, ty2] T #[.slice p' len cap', v']).run P w =
      .ok (.slice (some ⟨w.heap.size, 0, none⟩) (len + m) newCap) { w.alloc (.cells (old ++ new ++ rest).toArray e) with drawn := w.drawn + 1 } := by
  obtain ⟨d2, h3, h4⟩ := h2
  obtain ⟨i, hi, hib⟩ := run_typeInfo_bytes hby
  have hpos2 : 1 ≤ bytes + sz := by omega
  have hneed : len + m ≤ 1000000000 := Nat.le_trans (Nat.le_mul_of_pos_right _ hpos2) hbig
  have hbyt : bytes ≤ 1000000000 := by
    have : 1 * (bytes + sz) ≤ (len + m) * (bytes + sz) := Nat.mul_le_mul_right _ (by omega)
    omega
  have hnb : (len + m) * bytes ≤ 1000000000 := Nat.le_trans (Nat.mul_le_mul_left _ (by omega)) hbig
  have hcap : ¬ Builtin.nextslicecap (len + m) cap' * bytes > 2 ^ 48 := by
    have h1 := Nat.mul_le_mul_right bytes (nextslicecap_le hle)
    rw [Nat.add_mul, Nat.mul_assoc] at h1
    omega
  have hmax : ¬ (((len + m : Nat) : Int) > IntKind.i64.max) := by
    have : IntKind.i64.max = 9223372036854775807 := by decide
    rw [this]
    omega
  refine ⟨Question.cut (.appendCap (len + m) cap' e) (w.tape w.drawn (.appendCap (len + m) cap' e)), (Builtin.zeroCells z.cells (Question.cut (.appendCap (len + m) cap' e) (w.tape w.drawn (.appendCap (len + m) cap' e)) - (len + m))).toList, Nat.le_add_right _ _, ?_, ?_⟩
  · simp [Builtin.zeroCells, hzs, Question.cut]
  · unfold Builtin.append_
    have hnle : ¬ len + m ≤ cap' := by omega
    have hfo : (Question.appendCap (len + m) cap' e).forced = false := rfl
    cases d2 <;> (first | exact absurd rfl (h4 _) | skip) <;>
    (simp only [List.getElem?_toArray, List.getElem?_cons_zero, List.getElem?_cons_succ, Sem.run_bind, run_underlying hd, Result.andThen_ok, run_sizeOf hs, run_underlying h3, Sem.run_pure, Bool.false_eq_true, if_false, hl, Sem.run_ite, if_neg hnle, Bool.not_false, if_true, typeInfo, run_program, hi]
     simp only [hmax, false_and, if_false, hib, hcap, run_choose, hfo, Bool.false_eq_true, Result.andThen_ok, run_askRoom]
     rw [ho { w with drawn := w.drawn + 1 } rfl]
     simp only [Result.andThen_ok]
     rw [hn { w with drawn := w.drawn + 1 } rfl]
     simp only [Result.andThen_ok, run_zeroValue hz, newRow, Sem.run_bind, run_newObj_alloc, Sem.run_pure]
     refine congrArg (fun c => Result.ok (Value.slice (some ⟨w.heap.size, 0, none⟩) (len + m) _) ({ heap := w.heap.push (.cells c e), tape := w.tape, drawn := w.drawn + 1, os := w.os, output := w.output } : World)) ?_
     simp)
end

section
variable {ty ty2 T e : TypeId} {bytes m len cap' : Nat} {z : Value} {p' : Option Addr}
theorem run_append_zeros {kk : IntKind} (hd : P.underlying ty = some (.slice e)) (h2 : P.underlying ty2 = some (.int kk)) (hs : sizeT P e = some sz) (hby : bytesT P e = some bytes) (hz : zeroT P e = some z)
    {old : List Value} (hle : cap' < len + m) (hm : 1 ≤ m) (hbig : (len + m) * (bytes + sz) ≤ 1000000000) (hpos : 1 ≤ sz) (hzs : z.cells.size = sz)
    (ho : ∀ W : World, W.heap = w.heap → (Builtin.firstCells sz len (.slice p' len cap')).run P W = .ok old.toArray W) :
    ∃ newCap rest, len + m ≤ newCap ∧ rest.length = (newCap - (len + m)) * sz ∧ (Builtin.append_ #[ty, ty2] T #[.slice p' len cap', .int .i64 (m : Int)]).run P w =
      .ok (.slice (some ⟨w.heap.size, 0, none⟩) (len + m) newCap) { w.alloc (.cells (old ++ (List.replicate m z.cells.toList).flatten ++ rest).toArray e) with drawn := w.drawn + 1 } := by
  obtain ⟨i, hi, hib⟩ := run_typeInfo_bytes hby
  have hpos2 : 1 ≤ bytes + sz := by omega
  have hneed : len + m ≤ 1000000000 := Nat.le_trans (Nat.le_mul_of_pos_right _ hpos2) hbig
  have hbyt : bytes ≤ 1000000000 := by
    have : 1 * (bytes + sz) ≤ (len + m) * (bytes + sz) := Nat.mul_le_mul_right _ (by omega)
    omega
  have hnb : (len + m) * bytes ≤ 1000000000 := Nat.le_trans (Nat.mul_le_mul_left _ (by omega)) hbig
  have hmb : m * bytes ≤ 1000000000 := Nat.le_trans (Nat.mul_le_mul_right _ (by omega)) hnb
  have hmb' : ¬ ((m : Int) * (bytes : Int) > 2 ^ 48) := by
    have : ((m * bytes : Nat) : Int) = (m : Int) * (bytes : Int) := Int.natCast_mul m bytes
    rw [← this]; omega
  have hcap : ¬ Builtin.nextslicecap (len + m) cap' * bytes > 2 ^ 48 := by
    have h1 := Nat.mul_le_mul_right bytes (nextslicecap_le hle)
    rw [Nat.add_mul, Nat.mul_assoc] at h1
    omega
  have hmax : ¬ (((len + m : Nat) : Int) > IntKind.i64.max) := by
    have : IntKind.i64.max = 9223372036854775807 := by decide
    rw [this]
    omega
  have hwm : IntKind.i64.wrap (m : Int) = (m : Int) := IntWalk.i64_in _ (by constructor <;> omega)
  have hm0 : ¬ ((m : Int) < 0) := by omega
  have hms : ¬ (m * sz = 0) := fun h => by rcases Nat.mul_eq_zero.1 h with g | g <;> omega
  have hzc : Builtin.zeroCells z.cells m = ((List.replicate m z.cells.toList).flatten).toArray := zeros_eq (by omega)
  refine ⟨Question.cut (.appendCap (len + m) cap' e) (w.tape w.drawn (.appendCap (len + m) cap' e)), (Builtin.zeroCells z.cells (Question.cut (.appendCap (len + m) cap' e) (w.tape w.drawn (.appendCap (len + m) cap' e)) - (len + m))).toList, Nat.le_add_right _ _, ?_, ?_⟩
  · simp [Builtin.zeroCells, hzs, Question.cut]
  · unfold Builtin.append_
    have hnle : ¬ len + m ≤ cap' := by omega
    have hfo : (Question.appendCap (len + m) cap' e).forced = false := rfl
    simp only [List.getElem?_toArray, List.getElem?_cons_zero, List.getElem?_cons_succ, Sem.run_bind, run_underlying hd, Result.andThen_ok, run_sizeOf hs, run_underlying h2, Sem.run_pure, if_true, asInt, asIntOf, hwm, hm0, if_false, typeInfo, run_program, hi, hib, hmb', Int.toNat_natCast, Sem.run_ite, if_neg hnle, Bool.not_true, Bool.false_eq_true]
    simp only [hmax, false_and, if_false, hcap, run_choose, hfo, Bool.false_eq_true, Result.andThen_ok, run_askRoom]
    rw [ho { w with drawn := w.drawn + 1 } rfl]
    simp only [Result.andThen_ok, if_neg hms, Sem.run_bind, run_zeroValue hz, Sem.run_pure, newRow, run_newObj_alloc, hzc]
    refine congrArg (fun c => Result.ok (Value.slice (some ⟨w.heap.size, 0, none⟩) (len + m) _) ({ heap := w.heap.push (.cells c e), tape := w.tape, drawn := w.drawn + 1, os := w.os, output := w.output } : World)) ?_
    simp

end

theorem zeros_ok (hr : Rel P B ρ s w) (hB : B ≤ w.heap.size) {ty ty2 T : TypeId} {kk : IntKind} (h2 : P.underlying ty2 = some (.int kk)) {u v u' v' : Value} {k : Value → ASt → R Out} {out : Out} (hu : cz ρ u = some u') (hv : cz ρ v = some v') (h : zerosA P s ty u v k = .ok out) :
    ∃ r s1 r' ρ' w', k r s1 = .ok out ∧ Step P B s ρ w s1 ρ' w' ∧ cz ρ' r = some r' ∧ (Builtin.append_ #[ty, ty2] T #[u', v']).run P w = .ok r' w' := by
  unfold zerosA at h
  split at h
  · rename_i e ad len cap m hd
    split at h
    · rename_i sz bytes z hs hby hz
      obtain ⟨hb, h⟩ := bif_ok h
      simp only [Bool.and_eq_true, Bool.not_eq_true'] at hb
      obtain ⟨⟨⟨⟨⟨⟨hop, hnfit⟩, hm1⟩, hbig⟩, hpos⟩, hpz⟩, hzl⟩ := hb
      have hnfit := blt_lt hnfit
      have hm1 := Nat.le_of_ble_eq_true hm1
      have hbig' := Nat.le_of_ble_eq_true hbig
      have hpos' : 1 ≤ sz := Nat.le_of_ble_eq_true hpos
      have hzl0 : (cellsOf z).length = sz := by simpa using hzl
      have hzl' : z.cells.size = sz := by rw [cellsOf_length hr.sig (cz_plain (ρ := ρ) hpz)]; exact hzl0
      have h := replicateK_ok h
      rw [List.append_nil] at h
      have h := natK_ok h
      obtain ⟨l0, e', op, hg, h⟩ := getCells_ok h
      obtain ⟨h, hle1⟩ := dropK_ok h
      obtain ⟨h, hle2⟩ := takeK_ok h
      have h := overListK_ok h
      obtain ⟨H, hH, h⟩ := newObjK_ok h
      have hv1 : v' = .int .i64 (m : Int) := by simpa [cz] using hv.symm
      have hzc := czl_cellsOf hr.sig (cz_plain (ρ := ρ) hpz)
      have hrep : ∀ m, czl ρ ((List.replicate m (cellsOf z)).flatten) = some ((List.replicate m z.cells.toList).flatten) := by
        intro m
        induction m with
        | zero => simp [czl]
        | succ m ih => rw [List.replicate_succ, List.flatten_cons, List.replicate_succ, List.flatten_cons]; exact czl_append hzc ih
      rcases slice_cz hu with ⟨e1, e2, e3⟩ | ⟨ad', b, d, cap', e1, hsp, hb3, hu', hc⟩
      · cases e1
      · cases e1
        rcases hc with ⟨_, hc⟩ | ⟨hc, _⟩
        · subst hc
          obtain ⟨b2, d2, pre, l', tail, hcells⟩ := hr.cells hg
          have hbb := hcells.β
          rw [hb3] at hbb
          simp only [Option.some.injEq, Prod.mk.injEq] at hbb
          obtain ⟨rfl, rfl⟩ := hbb
          have hold := czl_take (len * sz) (czl_drop ad.off hcells.l)
          have hol : ((l0.drop ad.off).take (len * sz)).length = len * sz := by simp at hle2 ⊢; omega
          have hol' : ((l'.drop ad.off).take (len * sz)).length = len * sz := by rw [czl_length hold, hol]
          have hrl : ((List.replicate m z.cells.toList).flatten).length = m * sz := by simp [hzl']
          obtain ⟨newCap, rest, g1, g2, g3⟩ := run_append_zeros (T := T) (w := w) (p' := some ⟨b, ad.off + d, none⟩) (len := len) (cap' := cap / 2) (m := m) hd h2 hs hby hz hnfit hm1 hbig' hpos' hzl' (fun W hW => by
            have hWc : ∀ x, W.cell? x = w.cell? x := fun x => by unfold World.cell?; rw [hW]
            have := run_loadCells_list (P := P) W ⟨b, ad.off + d, none⟩ ((l'.drop ad.off).take (len * sz)) (fun j v hj => by
              rw [add_off, hWc]
              have hj' : l'[ad.off + j]? = some v := by
                rw [List.getElem?_take] at hj
                split at hj
                · simpa [List.getElem?_drop] using hj
                · cases hj
              have := hcells.cell (ad.off + j) hj'
              rwa [show ad.off + d + j = ad.off + j + d by omega])
            rw [hol'] at this
            exact this)
          have hf := hr.fresh _ (Nat.le_refl s.n)
          have hoc := czl_length hold
          refine ⟨_, _, .slice (some ⟨w.heap.size, 0, none⟩) (len + m) newCap, _, _, h, Step.alloc hr hB newCap hH (c := .cells ((l'.drop ad.off).take (len * sz) ++ (List.replicate m z.cells.toList).flatten ++ rest).toArray e) ?_ ⟨w.drawn + 1, rfl⟩, ?_, ?_⟩
          · refine ⟨[], (l'.drop ad.off).take (len * sz) ++ (List.replicate m z.cells.toList).flatten, rest, czl_append (czl_ext (Ext.add hf _ _) _ hold) (czl_ext (Ext.add hf _ _) _ (hrep m)), by simp, rfl, fun _ => ⟨sz, hs, ?_⟩⟩
            have hg : (ρ.add s.n (w.heap.size, 0) newCap).γ s.n = newCap := by simp [Ren.add]
            rw [hg, List.length_append, List.length_append, hol', hrl, g2, ← Nat.add_mul, ← Nat.add_mul]
            congr 1
            omega
          · have hg : (ρ.add s.n (w.heap.size, 0) newCap).γ s.n = newCap := by simp [Ren.add]
            have := slice_mk (ρ := ρ.add s.n (w.heap.size, 0) newCap) (b := w.heap.size) (off := 0) (i := s.n) (d := 0) (n := len + m) (c := 1) (c' := newCap) (by simp [Ren.add]) (.inr ⟨rfl, by rw [hg]; simpa using g1, by rw [hg]; simp⟩)
            simpa using this
          · rw [hu', hv1]
            exact g3
        · rw [hop] at hc; cases hc
    · cases h
  · cases h

theorem tail_append_ok (hr : Rel P B ρ s w) (hB : B ≤ w.heap.size) {ty ty2 T : TypeId} {x : Nat} {v u' v' : Value} {k : Value → ASt → R Out} {out : Out} (hu : cz ρ (.float .f32 x) = some u') (hv : cz ρ v = some v') (h : tailAppA P s ty ty2 x v k = .ok out) :
    ∃ r s1 r' ρ' w', k r s1 = .ok out ∧ Step P B s ρ w s1 ρ' w' ∧ cz ρ' r = some r' ∧ (Builtin.append_ #[ty, ty2] T #[u', v']).run P w = .ok r' w' := by
  unfold tailAppA at h
  split at h
  · rename_i e d2 hd hd2
    have h2 : ∃ d2, P.underlying ty2 = some d2 ∧ ∀ k, d2 ≠ .int k := by
      revert hd2
      cases hq : P.underlying ty2 with
      | none => intro hd2; cases hd2
      | some q => intro hd2; exact ⟨q, rfl, fun k e => by subst e; cases hd2⟩
    split at h
    · rename_i sz bytes z hs hby hz
      obtain ⟨m, l, new, h, hnew, hll, hlen, hfirst', hones⟩ := srcA_ok hr hv h
      have hfirst := hfirst' w rfl
      have hcu := hu
      simp only [cz] at hu
      generalize hblk0 : x / tailM / tailM / tailM = blk at h hu
      generalize ho1 : x / tailM / tailM % tailM = o1 at hu
      generalize ho2 : x / tailM % tailM = o2 at h hu
      generalize hcc0 : x % tailM = c at h hu
      have h := natK_ok h
      have h := natK_ok h
      have h := natK_ok h
      obtain ⟨hb, h⟩ := bif_ok h
      simp only [Bool.and_eq_true] at hb
      obtain ⟨⟨⟨⟨hbig, hpos⟩, hpz⟩, hzl⟩, hoff⟩ := hb
      have hbig' : (0 + m) * (bytes + sz) ≤ 1000000000 := by rw [Nat.zero_add]; exact Nat.le_of_ble_eq_true hbig
      have hpos' : 1 ≤ sz := Nat.le_of_ble_eq_true hpos
      have hzl' : z.cells.size = sz := by rw [cellsOf_length hr.sig (cz_plain (ρ := ρ) hpz)]; simpa using hzl
      have hoff' : o2 = c / 2 * sz := by simpa using hoff
      have hnl := czl_length hnew
      obtain ⟨b, d, hb3, hle, rfl⟩ := tailZ_some.1 hu
      cases hm0 : Nat.beq m 0 with
      | true =>
        rw [hm0, cond_true] at h
        have hm : m = 0 := by simpa using hm0
        have hn0 : new = [] := List.eq_nil_of_length_eq_zero (by rw [hnl, hll, hm, Nat.zero_mul])
        refine ⟨_, s, _, ρ, w, h, Step.refl hr, hcu, ?_⟩
        rw [run_append_eq (T := T) hd h2 hs hlen hfirst (by omega), hn0, hm]
        simp [storeCells]
      | false =>
        rw [hm0, cond_false] at h
        have hm1 : 1 ≤ m := by
          rcases Nat.eq_zero_or_pos m with g | g
          · subst g; cases hm0
          · exact g
        obtain ⟨l0, e', op, hg, h⟩ := getCells_ok h
        obtain ⟨hb2, h⟩ := bif_ok h
        simp only [Bool.and_eq_true] at hb2
        obtain ⟨⟨hop2, hee⟩, hl0⟩ := hb2
        have hee' : e' = e := by simpa using hee
        subst hee'
        have hl0' : l0.length = o2 := by simpa using hl0
        obtain ⟨H1, hH1, h⟩ := setObjK_ok h
        obtain ⟨H, hH, h⟩ := newObjK_ok h
        obtain ⟨b2, d2', pre, l', tail, hcells⟩ := hr.cells hg
        have hbb := hcells.β
        rw [hb3] at hbb
        simp only [Option.some.injEq, Prod.mk.injEq] at hbb
        obtain ⟨rfl, rfl⟩ := hbb
        obtain ⟨sz', hsz', hγ⟩ := hcells.op hop2
        rw [hs] at hsz'
        cases hsz'
        have hpre := hcells.pre
        have hll' := czl_length hcells.l
        have hlive : (s.H.get blk).isSome = true := by rw [hg]; rfl
        have hf := hr.fresh _ (Nat.le_refl s.n)
        by_cases hfit : m ≤ ρ.γ blk - c / 2
        · -- in place
          have hne : ¬ ρ.γ blk = c / 2 := by omega
          rw [if_neg hne]
          have hroom : o2 + m * sz ≤ ρ.γ blk * sz := by
            rw [hoff', ← Nat.add_mul]
            exact Nat.mul_le_mul_right _ (by omega)
          have hrow : (pre ++ l' ++ tail).length = d + ρ.γ blk * sz := by
            rw [List.append_assoc, List.length_append, hγ, hpre]
          have hst := run_storeCells_at (P := P) b (o2 + d) e' new 0 _ w hcells.blk (by rw [List.size_toArray, hrow, hnl, hll]; omega) hones
          simp only [Nat.add_zero] at hst
          have htake : (pre ++ l' ++ tail).take (o2 + d) = pre ++ l' := by
            have : o2 + d = (pre ++ l').length := by rw [List.length_append, hpre, hll', hl0']; omega
            rw [this, List.take_left']
            rfl
          refine ⟨_, _, .slice (some ⟨b, o2 + d, none⟩) m (ρ.γ blk - c / 2), _, _, h, Step.take hr (off := o2) (g := ρ.γ blk - c / 2) hb3 hlive hH1 hH (c := .cells ((pre ++ l' ++ tail).take (o2 + d) ++ new ++ (pre ++ l' ++ tail).drop (o2 + d + new.length)).toArray e' (0, 0))
            ?_ (setRow_heap w b _ _ e' _ hcells.blk) (fun k hk => setRow_other w b k _ hk) (by simp) rfl rfl rfl, ?_, ?_⟩
          · refine ⟨pre ++ l', new, (pre ++ l' ++ tail).drop (o2 + d + new.length), czl_ext (Ext.add hf _ _) _ hnew, ?_, ?_, fun _ => ⟨sz, hs, ?_⟩⟩
            · rw [htake]
            · rw [List.length_append, hpre, hll', hl0']
            · have hg2 : (ρ.add s.n (b, d + o2) (ρ.γ blk - c / 2)).γ s.n = ρ.γ blk - c / 2 := by simp [Ren.add]
              rw [hg2, List.length_append, List.length_drop, hrow, hnl, hll, Nat.sub_mul, ← hoff']
              omega
          · have hg2 : (ρ.add s.n (b, d + o2) (ρ.γ blk - c / 2)).γ s.n = ρ.γ blk - c / 2 := by simp [Ren.add]
            have := slice_mk (ρ := ρ.add s.n (b, d + o2) (ρ.γ blk - c / 2)) (b := b) (off := 0) (i := s.n) (d := d + o2) (n := m) (c := 1) (c' := ρ.γ blk - c / 2) (by simp [Ren.add]) (.inr ⟨rfl, by rw [hg2]; simpa using hfit, by rw [hg2]; simp⟩)
            rw [this]
            simp
            try omega
          · rw [run_append_eq (T := T) hd h2 hs hlen hfirst (by omega)]
            simp only [Nat.zero_mul, Nat.zero_add, add_off, Nat.add_zero, hst, Result.andThen_ok]
        · -- a new row
          obtain ⟨newCap, rest, g1, g2, g3⟩ := run_append_more (T := T) (p' := some ⟨b, (if ρ.γ blk = c / 2 then o1 else o2) + d, none⟩) (len := 0) (cap' := ρ.γ blk - c / 2) (old := []) hd h2 hs hby hz hlen (by omega) hbig' hpos' hzl' (fun W hW => by
            have := run_loadCells_list (P := P) W ⟨b, (if ρ.γ blk = c / 2 then o1 else o2) + d, none⟩ [] (fun j v hj => by simp at hj)
            simpa [Builtin.firstCells] using this) hfirst'
          have st1 := Step.drop hr hH1
          have st2 := Step.alloc st1.rel hB (o := .cells l e' true) (c := .cells ([] ++ new ++ rest).toArray e') newCap (H := H) hH
            ⟨[], new, rest, czl_ext (Ext.add hf _ _) _ hnew, by simp, rfl, fun _ => ⟨sz, hs, by
              have hg3 : (ρ.add s.n (w.heap.size, 0) newCap).γ s.n = newCap := by simp [Ren.add]
              show _ = (ρ.add s.n (w.heap.size, 0) newCap).γ s.n * sz
              rw [hg3, List.length_append, hnl, hll, g2, ← Nat.add_mul]
              congr 1
              omega⟩⟩ (w' := { w.alloc (.cells ([] ++ new ++ rest).toArray e') with drawn := w.drawn + 1 }) ⟨w.drawn + 1, rfl⟩
          rw [Nat.zero_add] at g1 g3
          refine ⟨_, _, .slice (some ⟨w.heap.size, 0, none⟩) m newCap, _, _, h, Step.trans hr st1 st2, ?_, g3⟩
          have hg3 : (ρ.add s.n (w.heap.size, 0) newCap).γ s.n = newCap := by simp [Ren.add]
          have := slice_mk (ρ := ρ.add s.n (w.heap.size, 0) newCap) (b := w.heap.size) (off := 0) (i := s.n) (d := 0) (n := m) (c := 1) (c' := newCap) (by simp [Ren.add]) (.inr ⟨rfl, by rw [hg3]; simpa using g1, by rw [hg3]; simp⟩)
          simpa using this
    · cases h
  · cases h

theorem append_ok (hr : Rel P B ρ s w) (hB : B ≤ w.heap.size) {ty ty2 T : TypeId} {u v u' v' : Value} {k : Value → ASt → R Out} {out : Out} (hu : cz ρ u = some u') (hv : cz ρ v = some v') (h : appendA P s ty ty2 u v k = .ok out) :
    ∃ r s1 r' ρ' w', k r s1 = .ok out ∧ Step P B s ρ w s1 ρ' w' ∧ cz ρ' r = some r' ∧ (Builtin.append_ #[ty, ty2] T #[u', v']).run P w = .ok r' w' := by
  unfold appendA at h
  split at h
  · rename_i e p len cap d2 hd hd2
    have h2 : ∃ d2, P.underlying ty2 = some d2 ∧ ∀ k, d2 ≠ .int k := by
      revert hd2
      cases hq : P.underlying ty2 with
      | none => intro hd2; cases hd2
      | some q => intro hd2; exact ⟨q, rfl, fun k e => by subst e; cases hd2⟩
    split at h
    · rename_i sz bytes z hs hby hz
      obtain ⟨m, l, new, h, hnew, hll, hlen, hfirst', hones⟩ := srcA_ok hr hv h
      have hfirst := hfirst' w rfl
      have h := natK_ok h
      obtain ⟨hb, h⟩ := bif_ok h
      simp only [Bool.and_eq_true] at hb
      obtain ⟨⟨⟨hbig, hpos⟩, hpz⟩, hzl⟩ := hb
      have hbig' := Nat.le_of_ble_eq_true hbig
      have hpos' : 1 ≤ sz := Nat.le_of_ble_eq_true hpos
      have hzl' : z.cells.size = sz := by rw [cellsOf_length hr.sig (cz_plain (ρ := ρ) hpz)]; simpa using hzl
      have hnl := czl_length hnew
      have hnew0 : m = 0 → new = [] := fun e => List.eq_nil_of_length_eq_zero (by rw [hnl, hll, e, Nat.zero_mul])
      -- a new block
      have grow : ∀ {p' : Option Addr} {cap' : Nat} {old0 old : List Value}, czl ρ old0 = some old → old0.length = len * sz → cap' < len + m →
          (∀ W : World, W.heap = w.heap → (Builtin.firstCells sz len (.slice p' len cap')).run P W = .ok old.toArray W) → u' = .slice p' len cap' → newObjK s (.cells (old0 ++ l) e true) (fun b s => k (.slice (some ⟨b, 0, none⟩) (len + m) 1) s) = .ok out →
          ∃ r s1 r' ρ' w', k r s1 = .ok out ∧ Step P B s ρ w s1 ρ' w' ∧ cz ρ' r = some r' ∧ (Builtin.append_ #[ty, ty2] T #[u', v']).run P w = .ok r' w' := by
        intro p' cap' old0 old hold hol hlt hfo hu' h
        subst hu'
        obtain ⟨newCap, rest, g1, g2, g3⟩ := run_append_more (T := T) hd h2 hs hby hz hlen hlt hbig' hpos' hzl' hfo hfirst'
        obtain ⟨H, hH, h⟩ := newObjK_ok h
        have hf := hr.fresh _ (Nat.le_refl s.n)
        have hoc := czl_length hold
        refine ⟨_, _, .slice (some ⟨w.heap.size, 0, none⟩) (len + m) newCap, _, _, h, Step.alloc hr hB newCap hH (c := .cells (old ++ new ++ rest).toArray e) ?_ ⟨w.drawn + 1, rfl⟩, ?_, g3⟩
        · refine ⟨[], old ++ new, rest, czl_append (czl_ext (Ext.add hf _ _) _ hold) (czl_ext (Ext.add hf _ _) _ hnew), by simp, rfl, fun _ => ⟨sz, hs, ?_⟩⟩
          have hg : (ρ.add s.n (w.heap.size, 0) newCap).γ s.n = newCap := by simp [Ren.add]
          rw [hg, List.length_append, List.length_append, hoc, hol, hnl, hll, g2, ← Nat.add_mul, ← Nat.add_mul]
          congr 1
          omega
        · have hg : (ρ.add s.n (w.heap.size, 0) newCap).γ s.n = newCap := by simp [Ren.add]
          have := slice_mk (ρ := ρ.add s.n (w.heap.size, 0) newCap) (b := w.heap.size) (off := 0) (i := s.n) (d := 0) (n := len + m) (c := 1) (c' := newCap) (by simp [Ren.add]) (.inr ⟨rfl, by rw [hg]; simpa using g1, by rw [hg]; simp⟩)
          simpa using this
      -- nothing is stored
      have fits : ∀ {p' : Option Addr} {cap' : Nat}, u' = .slice p' len cap' → len + m ≤ cap' → (p' = none ∨ m = 0) → (Builtin.append_ #[ty, ty2] T #[u', v']).run P w = .ok (.slice p' (len + m) cap') w := by
        intro p' cap' hq hle hor
        rw [hq, run_append_eq (T := T) hd h2 hs hlen hfirst hle]
        cases p' with
        | none => rfl
        | some x =>
          have hm : m = 0 := by simpa using hor
          rw [hnew0 hm]
          simp [storeCells]
      cases hop : isOpen cap with
      | true =>
        rw [hop, cond_true] at h
        cases hm0 : Nat.beq m 0 with
        | true =>
          rw [hm0, cond_true] at h
          have hm : m = 0 := by simpa using hm0
          rcases slice_cz hu with ⟨e1, e2, e3⟩ | ⟨ad', b, d, cap', e1, hsp, hb3, hu', hc⟩
          · subst e2; cases hop
          · rcases hc with ⟨hc, _⟩ | ⟨_, hc1, hc2⟩
            · rw [hop] at hc; cases hc
            · refine ⟨_, s, u', ρ, w, h, Step.refl hr, hu, ?_⟩
              rw [fits hu' (by omega) (.inr hm), hu', hm]
              rfl
        | false =>
          rw [hm0, cond_false] at h
          cases p with
          | none => cases h
          | some ad =>
            obtain ⟨l0, e', op, hg, h⟩ := getCells_ok h
            obtain ⟨hb2, h⟩ := bif_ok h
            simp only [Bool.and_eq_true] at hb2
            obtain ⟨⟨hop2, hee⟩, hoff⟩ := hb2
            have hee' : e' = e := by simpa using hee
            subst hee'
            have hoff' : ad.off = cap / 2 * sz := by simpa using hoff
            cases hkn : Nat.ble (ad.off + (len + m) * sz) l0.length with
            | true =>
              rw [hkn, cond_true] at h
              have hkn' := Nat.le_of_ble_eq_true hkn
              obtain ⟨h, hle1⟩ := putAtK_ok h
              obtain ⟨H, hH, h⟩ := setObjK_ok h
              rcases slice_cz hu with ⟨e1, _⟩ | ⟨ad', b, d, cap', e1, hsp, hb3, hu', hc⟩
              · cases e1
              · cases e1
                rcases hc with ⟨hc, _⟩ | ⟨_, hc1, hc2⟩
                · rw [hop] at hc; cases hc
                · obtain ⟨b2, d2, pre, l', tail, hcells⟩ := hr.cells hg
                  have hbb := hcells.β
                  rw [hb3] at hbb
                  simp only [Option.some.injEq, Prod.mk.injEq] at hbb
                  obtain ⟨rfl, rfl⟩ := hbb
                  obtain ⟨sz', hsz', hγ⟩ := hcells.op hop2
                  rw [hs] at hsz'
                  cases hsz'
                  have hll' := czl_length hcells.l
                  have hpre := hcells.pre
                  have hge : cap / 2 + (len + m) ≤ ρ.γ ad.block := by
                    rw [List.length_append] at hγ
                    have h1 : (cap / 2 + (len + m)) * sz ≤ ρ.γ ad.block * sz := by rw [Nat.add_mul, ← hoff']; omega
                    exact Nat.le_of_mul_le_mul_right h1 hpos'
                  have hfit' : len + m ≤ cap' := by omega
                  have hadb : (⟨ad.block, ad.off, none⟩ : Addr) = ad := by obtain ⟨x1, x2, x3⟩ := ad; simp at hsp; subst hsp; rfl
                  have hres : cz ρ (.slice (some ad) (len + m) cap) = some (.slice (some ⟨b, ad.off + d, none⟩) (len + m) cap') := by
                    have := slice_mk (off := ad.off) (n := len + m) (c' := cap') hb3 (.inr ⟨hop, by omega, hc2⟩)
                    rwa [hadb] at this
                  refine ⟨_, _, _, ρ, _, h, Step.put hr hg hcells hnew hle1 hH, hres, ?_⟩
                  rw [hu', run_append_eq (T := T) hd h2 hs hlen hfirst hfit']
                  have hst := run_storeCells_at (P := P) b (ad.off + len * sz + d) e' new 0 _ w hcells.blk (by simp; omega) hones
                  simp only [Nat.add_zero] at hst
                  simp only [add_off, show ad.off + d + len * sz = ad.off + len * sz + d by omega, hst, Result.andThen_ok]
            | false =>
            rw [hkn, cond_false] at h
            obtain ⟨h, hle1⟩ := dropK_ok h
            obtain ⟨h, hle2⟩ := takeK_ok h
            have h := overListK_ok h
            obtain ⟨H1, hH1, h⟩ := setObjK_ok h
            obtain ⟨H, hH, h⟩ := newObjK_ok h
            rcases slice_cz hu with ⟨e1, _⟩ | ⟨ad', b, d, cap', e1, hsp, hb3, hu', hc⟩
            · cases e1
            · cases e1
              rcases hc with ⟨hc, _⟩ | ⟨_, hc1, hc2⟩
              · rw [hop] at hc; cases hc
              · obtain ⟨b2, d2, pre, l', tail, hcells⟩ := hr.cells hg
                have hbb := hcells.β
                rw [hb3] at hbb
                simp only [Option.some.injEq, Prod.mk.injEq] at hbb
                obtain ⟨rfl, rfl⟩ := hbb
                obtain ⟨sz', hsz', hγ⟩ := hcells.op hop2
                rw [hs] at hsz'
                cases hsz'
                have hpre := hcells.pre
                have hll' := czl_length hcells.l
                have hlive : (s.H.get ad.block).isSome = true := by rw [hg]; rfl
                have hf := hr.fresh _ (Nat.le_refl s.n)
                have hold := czl_take (len * sz) (czl_drop ad.off hcells.l)
                have hol : ((l0.drop ad.off).take (len * sz)).length = len * sz := by simp at hle2 ⊢; omega
                have hol' : ((l'.drop ad.off).take (len * sz)).length = len * sz := by rw [czl_length hold, hol]
                simp only [List.length_drop] at hle2
                by_cases hfit : len + m ≤ cap'
                · -- in place
                  have hroom : ad.off + len * sz + m * sz ≤ ρ.γ ad.block * sz := by
                    rw [hoff', ← Nat.add_mul, ← Nat.add_mul]
                    exact Nat.mul_le_mul_right _ (by omega)
                  have hrow : (pre ++ l' ++ tail).length = d + ρ.γ ad.block * sz := by
                    rw [List.append_assoc, List.length_append, hγ, hpre]
                  have hst := run_storeCells_at (P := P) b (ad.off + d + len * sz) e' new 0 _ w hcells.blk (by rw [List.size_toArray, hrow, hnl, hll]; omega) hones
                  simp only [Nat.add_zero] at hst
                  have htake : (pre ++ l' ++ tail).take (ad.off + d + len * sz) = (pre ++ l'.take ad.off) ++ (l'.drop ad.off).take (len * sz) := by
                    rw [show ad.off + d + len * sz = ad.off + len * sz + d by omega, splice_take hpre (by omega), List.append_assoc, ← List.take_add]
                  refine ⟨_, _, .slice (some ⟨b, ad.off + d, none⟩) (len + m) cap', _, _, h, Step.take hr (off := ad.off) (g := cap') hb3 hlive hH1 hH (c := .cells ((pre ++ l' ++ tail).take (ad.off + d + len * sz) ++ new ++ (pre ++ l' ++ tail).drop (ad.off + d + len * sz + new.length)).toArray e' (0, 0))
                    ?_ (setRow_heap w b _ _ e' _ hcells.blk) (fun k hk => setRow_other w b k _ hk) (by simp) rfl rfl rfl, ?_, ?_⟩
                  · refine ⟨pre ++ l'.take ad.off, (l'.drop ad.off).take (len * sz) ++ new, (pre ++ l' ++ tail).drop (ad.off + d + len * sz + new.length), czl_append (czl_ext (Ext.add hf _ _) _ hold) (czl_ext (Ext.add hf _ _) _ hnew), ?_, ?_, fun _ => ⟨sz, hs, ?_⟩⟩
                    · rw [htake]; simp [List.append_assoc]
                    · simp [hpre]; omega
                    · have hg2 : (ρ.add s.n (b, d + ad.off) cap').γ s.n = cap' := by simp [Ren.add]
                      rw [hg2, List.length_append, List.length_append, hol', List.length_drop, hrow, hnl, hll, hc2, Nat.sub_mul, ← hoff']
                      omega
                  · have hg2 : (ρ.add s.n (b, d + ad.off) cap').γ s.n = cap' := by simp [Ren.add]
                    have := slice_mk (ρ := ρ.add s.n (b, d + ad.off) cap') (b := b) (off := 0) (i := s.n) (d := d + ad.off) (n := len + m) (c := 1) (c' := cap') (by simp [Ren.add]) (.inr ⟨rfl, by rw [hg2]; simpa using hfit, by rw [hg2]; simp⟩)
                    rw [this]
                    simp
                    try omega
                  · rw [hu', run_append_eq (T := T) hd h2 hs hlen hfirst hfit]
                    simp only [add_off, hst, Result.andThen_ok]
                · -- a new row
                  obtain ⟨newCap, rest, g1, g2, g3⟩ := run_append_more (T := T) (p' := some ⟨b, ad.off + d, none⟩) (len := len) (cap' := cap') (old := (l'.drop ad.off).take (len * sz)) hd h2 hs hby hz hlen (by omega) hbig' hpos' hzl' (fun W hW => by
                    have hWc : ∀ x, W.cell? x = w.cell? x := fun x => by unfold World.cell?; rw [hW]
                    have := run_loadCells_list (P := P) W ⟨b, ad.off + d, none⟩ ((l'.drop ad.off).take (len * sz)) (fun j v hj => by
                      rw [add_off, hWc]
                      have hj' : l'[ad.off + j]? = some v := by
                        rw [List.getElem?_take] at hj
                        split at hj
                        · simpa [List.getElem?_drop] using hj
                        · cases hj
                      have := hcells.cell (ad.off + j) hj'
                      rwa [show ad.off + d + j = ad.off + j + d by omega])
                    rw [hol'] at this
                    exact this) hfirst'
                  -- first the old block is given up, then the new one laid
                  have st1 := Step.drop hr hH1
                  have hoc := czl_length hold
                  have st2 := Step.alloc st1.rel hB (o := .cells (List.take (len * sz) (List.drop ad.off l0) ++ l) e' true) (c := .cells ((l'.drop ad.off).take (len * sz) ++ new ++ rest).toArray e') newCap (H := H) hH
                    ⟨[], (l'.drop ad.off).take (len * sz) ++ new, rest, czl_append (czl_ext (Ext.add hf _ _) _ hold) (czl_ext (Ext.add hf _ _) _ hnew), by simp, rfl, fun _ => ⟨sz, hs, by
                      have hg3 : (ρ.add s.n (w.heap.size, 0) newCap).γ s.n = newCap := by simp [Ren.add]
                      show _ = (ρ.add s.n (w.heap.size, 0) newCap).γ s.n * sz
                      rw [hg3, List.length_append, List.length_append, hol', hnl, hll, g2, ← Nat.add_mul, ← Nat.add_mul]
                      congr 1
                      omega⟩⟩ (w' := { w.alloc (.cells ((l'.drop ad.off).take (len * sz) ++ new ++ rest).toArray e') with drawn := w.drawn + 1 }) ⟨w.drawn + 1, rfl⟩
                  refine ⟨_, _, .slice (some ⟨w.heap.size, 0, none⟩) (len + m) newCap, _, _, h, Step.trans hr st1 st2, ?_, ?_⟩
                  · have hg3 : (ρ.add s.n (w.heap.size, 0) newCap).γ s.n = newCap := by simp [Ren.add]
                    have := slice_mk (ρ := ρ.add s.n (w.heap.size, 0) newCap) (b := w.heap.size) (off := 0) (i := s.n) (d := 0) (n := len + m) (c := 1) (c' := newCap) (by simp [Ren.add]) (.inr ⟨rfl, by rw [hg3]; simpa using g1, by rw [hg3]; simp⟩)
                    simpa using this
                  · rw [hu']
                    exact g3
      | false =>
        rw [hop, cond_false] at h
        cases hfit : Nat.ble (len + m) (cap / 2) with
        | true =>
          rw [hfit, cond_true] at h
          have hfit' := Nat.le_of_ble_eq_true hfit
          cases p with
          | none =>
            rcases slice_cz hu with ⟨e1, e2, e3⟩ | ⟨ad', b, d, cap', e1, _⟩
            · subst e2
              exact ⟨_, s, .slice none (len + m) 0, ρ, w, h, Step.refl hr, by simp [cz], fits e3 (by simpa using hfit') (.inl rfl)⟩
            · cases e1
          | some ad =>
            rcases slice_cz hu with ⟨e1, e2, e3⟩ | ⟨ad', b, d, cap', e1, hsp, hb3, hu', hc⟩
            · cases e1
            · cases e1
              rcases hc with ⟨_, hc⟩ | ⟨hc, _⟩
              · subst hc
                have hadb : (⟨ad.block, ad.off, none⟩ : Addr) = ad := by obtain ⟨x1, x2, x3⟩ := ad; simp at hsp; subst hsp; rfl
                have hres : ∀ {n : Nat}, cz ρ (.slice (some ad) n cap) = some (.slice (some ⟨b, ad.off + d, none⟩) n (cap / 2)) := fun {n} => by
                  have := slice_mk (off := ad.off) (n := n) hb3 (.inl ⟨hop, rfl⟩)
                  rwa [hadb] at this
                cases hm0 : Nat.beq m 0 with
                | true =>
                  simp only [hm0, cond_true] at h
                  exact ⟨_, s, _, ρ, w, h, Step.refl hr, hres, fits hu' hfit' (.inr (by simpa using hm0))⟩
                | false =>
                  simp only [hm0, cond_false] at h
                  obtain ⟨l0, e', op, hg, h⟩ := getCells_ok h
                  obtain ⟨h, hle1⟩ := putAtK_ok h
                  obtain ⟨H, hH, h⟩ := setObjK_ok h
                  obtain ⟨b2, d2, pre, l', tail, hcells⟩ := hr.cells hg
                  have hbb := hcells.β
                  rw [hb3] at hbb
                  simp only [Option.some.injEq, Prod.mk.injEq] at hbb
                  obtain ⟨rfl, rfl⟩ := hbb
                  have hll' := czl_length hcells.l
                  have hpre := hcells.pre
                  refine ⟨_, _, _, ρ, _, h, Step.put hr hg hcells hnew hle1 hH, hres, ?_⟩
                  rw [hu', run_append_eq (T := T) hd h2 hs hlen hfirst hfit']
                  have hst := run_storeCells_at (P := P) b (ad.off + len * sz + d) e' new 0 _ w hcells.blk (by simp; omega) hones
                  simp only [Nat.add_zero] at hst
                  simp only [add_off, show ad.off + d + len * sz = ad.off + len * sz + d by omega, hst, Result.andThen_ok]
              · rw [hop] at hc; cases hc
        | false =>
          rw [hfit, cond_false] at h
          have hnfit : cap / 2 < len + m := by
            have : ¬ len + m ≤ cap / 2 := fun g => by rw [Nat.ble_eq_true_of_le g] at hfit; cases hfit
            omega
          cases p with
          | none =>
            obtain ⟨hl0, hk9⟩ := bif_ok h
            have hl0' : len = 0 := by simpa using hl0
            rcases slice_cz hu with ⟨e1, e2, e3⟩ | ⟨ad', b, d, cap', e1, _⟩
            · rw [e2] at hnfit
              exact grow (old0 := []) (old := []) (by simp [czl]) (by simp [hl0']) (by simpa using hnfit) (fun W _ => rfl) e3 hk9
            · cases e1
          | some ad =>
            rcases slice_cz hu with ⟨e1, e2, e3⟩ | ⟨ad', b, d, cap', e1, hsp, hb3, hu', hc⟩
            · cases e1
            · cases e1
              rcases hc with ⟨_, hc⟩ | ⟨hc, _⟩
              · subst hc
                obtain ⟨l0, e', op, hg, h⟩ := getCells_ok h
                obtain ⟨h, hle1⟩ := dropK_ok h
                obtain ⟨h, hle2⟩ := takeK_ok h
                have h := overListK_ok h
                obtain ⟨b2, d2, pre, l', tail, hcells⟩ := hr.cells hg
                have hbb := hcells.β
                rw [hb3] at hbb
                simp only [Option.some.injEq, Prod.mk.injEq] at hbb
                obtain ⟨rfl, rfl⟩ := hbb
                have hold := czl_take (len * sz) (czl_drop ad.off hcells.l)
                have hol : ((l0.drop ad.off).take (len * sz)).length = len * sz := by simp at hle2 ⊢; omega
                have hol' : ((l'.drop ad.off).take (len * sz)).length = len * sz := by rw [czl_length hold, hol]
                exact grow hold hol hnfit (fun W hW => by
                  have hWc : ∀ x, W.cell? x = w.cell? x := fun x => by unfold World.cell?; rw [hW]
                  have := run_loadCells_list (P := P) W ⟨b, ad.off + d, none⟩ ((l'.drop ad.off).take (len * sz)) (fun j v hj => by
                    rw [add_off, hWc]
                    have hj' : l'[ad.off + j]? = some v := by
                      rw [List.getElem?_take] at hj
                      split at hj
                      · simpa [List.getElem?_drop] using hj
                      · cases hj
                    have := hcells.cell (ad.off + j) hj'
                    rwa [show ad.off + d + j = ad.off + j + d by omega])
                  rw [hol'] at this
                  exact this) hu' h
              · rw [hop] at hc; cases hc
    · cases h
  · cases h
end
end Ae
end Go.Proofs.Ytmgcpfljhcahoaa
