/- An abstract evaluator of the model's code, for runs on known data (and a few unknown ones that are only handed on): definitions alone. -/
import Derived.Test.YtollflfkgcgdkaaRows
import Derived.WalkKit
namespace Go.Proofs.Ytollflfkgcgdkaa
open Go

namespace Ae

inductive R (α : Type) where
  | ok (a : α)
  | err (c : Nat) (p : String)

/-! Tries -/
inductive Tr (α : Type) where
  | leaf
  | node (v : Option α) (l r : Tr α)

def Tr.get {α : Type} : Tr α → Nat → Option α
  | .leaf, _ => none
  | .node v l r, n => match n with
    | 0 => v
    | m + 1 => bif Nat.beq (m % 2) 0 then l.get (m / 2) else r.get (m / 2)

def Tr.setK {α β : Type} : (fuel : Nat) → Tr α → Nat → Option α → (Tr α → R β) → R β
  | 0, _, _, _, _ => .err 1 ""
  | f + 1, .leaf, n, x, k => match n with
    | 0 => k (.node x .leaf .leaf)
    | m + 1 => bif Nat.beq (m % 2) 0 then Tr.setK f .leaf (m / 2) x (fun l => k (.node none l .leaf)) else Tr.setK f .leaf (m / 2) x (fun r => k (.node none .leaf r))
  | f + 1, .node v l r, n, x, k => match n with
    | 0 => k (.node x l r)
    | m + 1 => bif Nat.beq (m % 2) 0 then Tr.setK f l (m / 2) x (fun l => k (.node v l r)) else Tr.setK f r (m / 2) x (fun r => k (.node v l r))

/-! States -/
inductive AObj where
  | cells (l : List Value) (e : TypeId) (op : Bool)
  | map (es : List MapEntry) (clock : Nat)
  | mapIter (m : Option Nat) (since : Nat) (seen : List Nat) (stepped : Nat)
  | loop (st : LoopState) (pending : Option Code) (fn : FuncId) (sz : Nat) (tmps : Tr Value) (params : List Tmp) (assign body : Code) (defers : Nat)
  | deferred (live : Bool)

/-- n: the next name; low: the least name that was written. -/
structure ASt where
  n : Nat
  low : Nat
  H : Tr AObj

structure AAct where
  sz : Nat
  tmps : Tr Value
  marks : List Nat

inductive AExit where
  | normal
  | exit (id : Nat)
  | ret

structure Out where
  e : AExit
  a : AAct
  v : Value
  s : ASt

inductive Task where
  | code (r : Option Nat) (fn : FuncId) (c : Code) (a : AAct)
  | call (f : FuncId) (args : List Value)
  | yield (l : Nat) (args : List Value)

def noAct : AAct := ⟨0, .leaf, []⟩

/-! Forcing -/
def natK {β : Type} (n : Nat) (k : Nat → R β) : R β := match n with
  | 0 => k 0
  | m + 1 => k (m + 1)
def intK {β : Type} (n : Int) (k : Int → R β) : R β := match n with
  | .ofNat m => natK m fun m => k (.ofNat m)
  | .negSucc m => natK m fun m => k (.negSucc m)
def boolK {β : Type} (b : Bool) (k : Bool → R β) : R β := match b with
  | true => k true
  | false => k false
def valK {β : Type} (v : Value) (k : Value → R β) : R β := match v with
  | .int i n => intK n fun n => k (.int i n)
  | .bool b => boolK b fun b => k (.bool b)
  | v => k v

/-! Values that speak of no memory -/
def plain1 : Value → Bool
  | .bool _ | .int _ _ | .string _ | .pointer none | .map none | .chan none | .nilFunc | .nilIface => true
  | .slice none _ 0 => true
  | _ => false
def plain : Value → Bool
  | .agg cs => cs.toList.all plain1
  | .tuple cs => cs.toList.all plain1
  | v => plain1 v

def opd (t : Tr Value) : Operand → R Value
  | .tmp i => match t.get i with
    | some v => .ok v
    | none => .err 2 ""
  | .const v => bif plain v then .ok v else .err 3 ""
  | .func f => .ok (.func (.func f) #[] #[])
  | .global _ => .err 4 ""

def opds (t : Tr Value) : List Operand → R (List Value)
  | [] => .ok []
  | x :: l => match opd t x with
    | .ok v => match opds t l with
      | .ok vs => .ok (v :: vs)
      | .err c p => .err c p
    | .err c p => .err c p

/-! A computation of the model's that asks nothing of the world -/
def pureRun {α : Type} (P : Program) : Sem α → Option α
  | .pure a => some a
  | .program k => pureRun P (k P)
  | _ => none

def cellsOf : Value → List Value
  | .agg cs => cs.toList
  | v => [v]

def takeK {β : Type} : (n : Nat) → List Value → (List Value → R β) → R β
  | 0, _, k => k []
  | _ + 1, [], _ => .err 5 ""
  | n + 1, v :: l, k => takeK n l fun l => k (v :: l)
def dropK {β : Type} : (n : Nat) → List Value → (List Value → R β) → R β
  | 0, l, k => k l
  | _ + 1, [], _ => .err 6 ""
  | n + 1, _ :: l, k => dropK n l k
/-- The first values of a list in the place of the others. -/
def overK {β : Type} : List Value → List Value → (List Value → R β) → R β
  | [], l, k => k l
  | _ :: _, [], _ => .err 7 ""
  | v :: vs, _ :: l, k => overK vs l fun l => k (v :: l)
def putAtK {β : Type} : (n : Nat) → List Value → List Value → (List Value → R β) → R β
  | 0, l, vs, k => overK vs l k
  | _ + 1, [], _, _ => .err 8 ""
  | n + 1, x :: l, vs, k => putAtK n l vs fun l => k (x :: l)

def oneCells : List Value → Bool
  | [] => true
  | .agg _ :: _ => false
  | .tuple _ :: _ => false
  | _ :: l => oneCells l

section
variable (P : Program)

def isAggT (t : TypeId) : Option Bool := match P.underlying t with
  | some (.struct _) => some true
  | some (.array _ _) => some true
  | some _ => some false
  | none => none
def sizeT (t : TypeId) : Option Nat := (P.info? t).map (·.size)
def bytesT (t : TypeId) : Option Nat := (P.info? t).map (·.bytes)
def zeroT (t : TypeId) : Option Value := (P.info? t).bind (·.zero)

def getCells {β : Type} (s : ASt) (b : Nat) (k : List Value → TypeId → Bool → R β) : R β := match s.H.get b with
  | some (.cells l e op) => k l e op
  | _ => .err 9 ""

def loadA (s : ASt) (t : TypeId) (a : Addr) : R Value :=
  getCells s a.block fun l _ _ => dropK a.off l fun l => match isAggT P t with
    | some true => match sizeT P t with
      | some n => takeK n l fun l => .ok (.agg l.toArray)
      | none => .err 10 ""
    | some false => match l with
      | v :: _ => .ok v
      | [] => .err 11 ""
    | none => .err 12 ""

def minK {β : Type} (a b : Nat) (k : Nat → R β) : R β := bif Nat.ble a b then k a else k b
def setObjK {β : Type} (s : ASt) (b : Nat) (o : Option AObj) (k : ASt → R β) : R β := s.H.setK 60 b o fun H => minK b s.low fun low => k ⟨s.n, low, H⟩
def newObjK {β : Type} (s : ASt) (o : AObj) (k : Nat → ASt → R β) : R β :=
  s.H.setK 60 s.n (some o) fun H => natK (s.n + 1) fun n' => k s.n ⟨n', s.low, H⟩

def storeA {β : Type} (s : ASt) (t : TypeId) (a : Addr) (v : Value) (k : ASt → R β) : R β :=
  match sizeT P t with
  | some n => bif Nat.beq (cellsOf v).length n then
      bif oneCells (cellsOf v) then getCells s a.block fun l e op => putAtK a.off l (cellsOf v) fun l => setObjK s a.block (some (.cells l e op)) k
      else .err 13 ""
    else .err 14 ""
  | none => .err 15 ""

/-! 'build' -/
def fillA {β : Type} (place : Nat → Option (Nat × Nat)) : List (Nat × Value) → List Value → (List Value → R β) → R β
  | [], l, k => k l
  | (i, v) :: r, l, k => match place i with
    | some (off, size) => bif Nat.beq (cellsOf v).length size then putAtK off l (cellsOf v) fun l => fillA place r l k else .err 16 ""
    | none => .err 17 ""

def replicateK {β : Type} : (n : Nat) → List Value → List Value → (List Value → R β) → R β
  | 0, _, acc, k => k acc
  | n + 1, z, acc, k => replicateK n z (z ++ acc) k

def opdPairs (t : Tr Value) : List (Nat × Operand) → R (List (Nat × Value))
  | [] => .ok []
  | (i, x) :: l => match opd t x with
    | .ok v => match opdPairs t l with
      | .ok vs => .ok ((i, v) :: vs)
      | .err c p => .err c p
    | .err c p => .err c p

/-- What is known of what is not known: comparisons, lengths. -/
structure Facts where
  bin : BinOp → Value → Value → Option Value
  len : Value → Option Value
  sum : FuncId → List Value → ASt → Option Out := fun _ _ _ => none
  op : BinOp → TypeId → Value → Value → Option Value := fun _ _ _ _ => none
def noFacts : Facts := { bin := fun _ _ _ => none, len := fun _ => none }

def pureV (c : Nat) (p : String) (x : Sem Value) : R Value := match pureRun P x with
  | some r => bif plain r then valK r .ok else .err c p
  | none => .err c p

/-! Comparisons of what may be a pointer -/
def eqA (t : TypeId) (u v : Value) : Option Bool := match P.underlying t, u, v with
  | some (.pointer e), .pointer (some a), .pointer (some b) => bif Nat.beq a.block b.block then match sizeT P e with
      | some (_ + 1) => some (Nat.beq a.off b.off)
      | _ => none
    else none
  | some (.pointer _), .pointer (some _), .pointer none => some false
  | some (.pointer _), .pointer none, .pointer (some _) => some false
  | some (.map _ _), .map (some _), .map none => some false
  | some (.slice _), .slice (some _) _ _, .slice none _ _ => some false
  | some (.func _ _ _), .func _ _ _, .nilFunc => some false
  | some (.interface _), .iface _ _, .nilIface => some false
  | _, _, _ => none

def intBin (op : BinOp) (k : IntKind) (a b : Int) : Option Value := match op with
  | .add => some (.int k (k.wrap (a + b)))
  | .sub => some (.int k (k.wrap (a - b)))
  | .mul => some (.int k (k.wrap (a * b)))
  | .eql => some (.bool (a == b))
  | .neq => some (.bool (a != b))
  | .lss => some (.bool (a < b))
  | .leq => some (.bool (a ≤ b))
  | .gtr => some (.bool (a > b))
  | .geq => some (.bool (a ≥ b))
  | _ => none

def isEq : BinOp → Option Bool
  | .eql => some true
  | .neq => some false
  | _ => none

def binA (F : Facts) (o : Oper) (op : BinOp) (t : TypeId) (x y : Operand) (u v : Value) : R Value :=
  let rest : R Value := bif plain u && plain v then pureV P 19 o.pos (do eqGuard op t x y u v; binOp op t u v) else match isEq op, eqA P t u v with
    | some w, some b => boolK (b == w) fun b => .ok (.bool b)
    | _, _ => match F.bin op u v with
      | some r => valK r .ok
      | none => match F.op op t u v with
        | some r => .ok r
        | none => .err 20 o.pos
  match u, v with
  | .int j a, .int k b => bif decide (j = k) then match intBin op j a b with
      | some r => valK r .ok
      | none => rest
    else rest
  | _, _ => rest

/-! Maps: the place of a key. A kind of keys is that of a number or of a string, or .pointer of a struct's type (all known). -/
def sameA (F : Facts) (kind : TypeDesc) (k k' : Value) : Option Bool := match kind with
  | .pointer kt => bif plain k && plain k' then match pureRun P (Op.equal kt k k') with
      | some true => bif sameKey k k' && Instr.sameBits 10000 k' k then some true else none
      | some false => some false
      | none => none
    else none
  | .int _ => match k, k' with
    | .int j a, .int j' b => bif decide (j = j') then some (decide (a = b)) else none
    | u, v => match F.bin .eql u v with
      | some (.bool b) => some b
      | _ => none
  | .string => match k, k' with
    | .string a, .string b => some (a.data.toList == b.data.toList)
    | _, _ => none
  | _ => none
where
  sameBytes : List UInt8 → List UInt8 → Bool
    | [], [] => true
    | a :: l, b :: m => Nat.beq a.toNat b.toNat && sameBytes l m
    | _, _ => false
  sameCells : List Value → List Value → Bool
    | [], [] => true
    | .int j a :: l, .int k b :: m => decide (j = k) && decide (a = b) && sameCells l m
    | .string a :: l, .string b :: m => sameBytes a.data.toList b.data.toList && sameCells l m
    | _, _ => false
  sameKey : Value → Value → Bool
    | .agg a, .agg b => sameCells a.toList b.toList
    | _, _ => false
def findA (F : Facts) (kind : TypeDesc) (k : Value) : List MapEntry → Nat → Option (Option (Nat × Value))
  | [], _ => some none
  | e :: es, i => match sameA P F kind k e.key with
    | some true => some (some (i, e.val))
    | some false => findA F kind k es (i + 1)
    | none => none
/-- A key of a struct's type that may be looked for. -/
def keyOk (kind : TypeDesc) (k : Value) : Bool := match kind with
  | .pointer kt => plain k && (pureRun P (Instr.checkKey true 10000 kt k)).isSome && (pureRun P (Instr.checkKey false 10000 kt k)).isSome
  | _ => true
def findK (F : Facts) (kind : TypeDesc) (k : Value) (es : List MapEntry) : Option (Option (Nat × Value)) := bif keyOk P kind k then findA P F kind k es 0 else none

def setEntryK {β : Type} : (i : Nat) → List MapEntry → (MapEntry → MapEntry) → (List MapEntry → R β) → R β
  | _, [], _, _ => .err 21 ""
  | 0, e :: es, f, k => k (f e :: es)
  | i + 1, e :: es, f, k => setEntryK i es f fun es => k (e :: es)
def pushEntryK {β : Type} : List MapEntry → MapEntry → (List MapEntry → R β) → R β
  | [], x, k => k [x]
  | e :: es, x, k => pushEntryK es x fun es => k (e :: es)
def dropEntryK {β : Type} : (i : Nat) → List MapEntry → (List MapEntry → R β) → R β
  | _, [], _ => .err 22 ""
  | 0, _ :: es, k => k es
  | i + 1, e :: es, k => dropEntryK i es fun es => k (e :: es)

def findBorn (b : Nat) : List MapEntry → Nat → Option Nat
  | [], _ => none
  | e :: es, i => bif Nat.beq e.born b then some i else findBorn b es (i + 1)

def keyKind (t : TypeId) : Option (TypeDesc × TypeId) := match P.underlying t with
  | some (.map k e) => match P.underlying k with
    | some (.int i) => some (.int i, e)
    | some .string => some (.string, e)
    | some (.struct _) => some (.pointer k, e)
    | _ => none
  | _ => none

def entriesA {β : Type} (s : ASt) (m : Value) (k : List MapEntry → Nat → R β) : R β := match m with
  | .map none => k [] 0
  | .map (some r) => match s.H.get r with
    | some (.map es c) => k es c
    | _ => .err 23 ""
  | _ => .err 24 ""

def putA {β : Type} (F : Facts) (s : ASt) (t : TypeId) (m key v : Value) (k : ASt → R β) : R β := match keyKind P t, m with
  | some (kd, _), .map (some r) => match s.H.get r with
    | some (.map es c) => match findK P F kd key es with
      | some (some (i, _)) => setEntryK i es (fun e => { e with key := key, val := v }) fun es => setObjK s r (some (.map es c)) k
      | some none => natK (c + 1) fun c' => pushEntryK es { key := key, val := v, born := c } fun es => setObjK s r (some (.map es c')) k
      | none => .err 25 ""
    | _ => .err 26 ""
  | _, _ => .err 27 ""

/-! Slices. A capacity c is laid as 2 c where it is known; as 2 l + 1 where the slice begins l elements behind the start of a row whose size is not known. -/
def isOpen (cap : Nat) : Bool := Nat.beq (cap % 2) 1

/-- The empty slice behind the end of a row whose size is not known lies at one of two places. -/
def tailM : Nat := 1048576
def natOf : Option Value → Nat → R Nat
  | none, d => .ok d
  | some (.int _ (.ofNat n)), _ => .ok n
  | _, _ => .err 28 ""

/-- How many elements an open slice of one cell each is known to have room for. -/
def roomOf (s : ASt) (t : TypeId) (x : Value) : Nat := match x with
  | .slice (some a) _ cap => bif isOpen cap then match s.H.get a.block, P.underlying t with
      | some (.cells l e true), some (.slice e') => match sizeT P e with
        | some sz => bif Nat.beq e e' && Nat.beq sz 1 then l.length - cap / 2 else 0
        | none => 0
      | _, _ => 0
    else 0
  | _ => 0
def sliceA (room : Nat) (t : TypeId) (x : Value) (lo hi mx : Option Value) : R Value :=
  match P.underlying t, x with
  | some .string, .string s => match mx with
    | some _ => .err 36 ""
    | none => match natOf hi s.size with
      | .ok h => match natOf lo 0 with
        | .ok l => bif Nat.ble h s.size && Nat.ble l h then .ok (.string ⟨((s.data.toList.drop l).take (h - l)).toArray⟩) else .err 29 ""
        | .err c p => .err c p
      | .err c p => .err c p
  | some (.slice e), .slice p len cap => match sizeT P e with
    | some sz => match natOf hi len with
      | .ok h => match natOf lo 0 with
        | .ok l => bif Nat.ble l h then match mx with
          | none => bif isOpen cap then
              bif Nat.ble h len || Nat.ble h room then match p with
                | some a => natK (h - l) fun n => natK (cap + 2 * l) fun c => natK (a.off + l * sz) fun o => bif Nat.blt l len || Nat.beq l 0 || Nat.blt l h then .ok (.slice (some ⟨a.block, o, none⟩) n c)
                  else bif Nat.blt a.off tailM && Nat.blt o tailM && Nat.blt c tailM then natK (((a.block * tailM + a.off) * tailM + o) * tailM + c) fun e => .ok (.float .f32 e) else .err 30 ""
                | none => .err 29 ""
              else .err 30 ""
            else bif Nat.ble h (cap / 2) then natK (h - l) fun n => natK (cap - 2 * l) fun c => match p with
                | none => .ok (.slice none n c)
                | some a => bif Nat.beq (cap / 2) l then .ok (.slice (some a) n c) else natK (a.off + l * sz) fun o => .ok (.slice (some ⟨a.block, o, none⟩) n c)
            else .err 31 ""
          | some m => match hi, natOf (some m) 0 with
            | some _, .ok m => bif Nat.ble h m && (bif isOpen cap then Nat.ble m len else Nat.ble m (cap / 2)) then
                natK (h - l) fun n => natK (2 * (m - l)) fun c => match p with
                  | none => .err 32 ""
                  | some a => bif Nat.beq m l then .ok (.slice (some a) n c) else natK (a.off + l * sz) fun o => .ok (.slice (some ⟨a.block, o, none⟩) n c)
              else .err 32 ""
            | _, _ => .err 32 ""
          else .err 33 ""
        | .err c p => .err c p
      | .err c p => .err c p
    | none => .err 34 ""
  | _, _ => .err 35 ""

def bytesVals (s : ByteArray) : List Value := s.data.toList.map fun b => .int .u8 b.toNat

/-- What is appended or copied: its cells. -/
def srcA {β : Type} (s : ASt) (sz : Nat) (y : Value) (k : Nat → List Value → R β) : R β := match y with
  | .slice none m _ => bif Nat.beq m 0 then k 0 [] else .err 37 ""
  | .slice (some a) m _ => getCells s a.block fun l _ _ => dropK a.off l fun l => takeK (m * sz) l fun l => bif oneCells l then k m l else .err 37 ""
  | .string b => bif Nat.beq sz 1 then k b.size (bytesVals b) else .err 38 ""
  | .float .f32 _ => k 0 []
  | _ => .err 39 ""

def appendA {β : Type} (s : ASt) (t ty : TypeId) (x y : Value) (k : Value → ASt → R β) : R β :=
  match P.underlying t, x, (match P.underlying ty with | some (.int _) => none | d => d) with
  | some (.slice e), .slice p len cap, some _ => match sizeT P e, bytesT P e, zeroT P e with
    | some sz, some bytes, some z => srcA s sz y fun m new => natK (len + m) fun need =>
      bif Nat.ble (need * (bytes + sz)) 1000000000 && Nat.ble 1 sz && plain z && Nat.beq (cellsOf z).length sz then
        bif isOpen cap then
          bif Nat.beq m 0 then k (.slice p len cap) s
          else match p with
            | some a => getCells s a.block fun l e' op => bif op && Nat.beq e' e && Nat.beq a.off (cap / 2 * sz) then
                bif Nat.ble (a.off + need * sz) l.length then putAtK (a.off + len * sz) l new fun l => setObjK s a.block (some (.cells l e' op)) fun s => k (.slice (some a) need cap) s
                else dropK a.off l fun l => takeK (len * sz) l fun old => overListK old new fun l' =>
                setObjK s a.block none fun s => newObjK s (.cells l' e true) fun b s => k (.slice (some ⟨b, 0, none⟩) need 1) s
              else .err 40 ""
            | none => .err 41 ""
        else bif Nat.ble need (cap / 2) then
          match p with
          | none => k (.slice none need cap) s
          | some a => bif Nat.beq m 0 then k (.slice (some a) need cap) s else getCells s a.block fun l e' op => putAtK (a.off + len * sz) l new fun l => setObjK s a.block (some (.cells l e' op)) fun s => k (.slice (some a) need cap) s
        else match p with
          | none => bif Nat.beq len 0 then newObjK s (.cells new e true) fun b s => k (.slice (some ⟨b, 0, none⟩) need 1) s else .err 41 ""
          | some a => getCells s a.block fun l _ _ => dropK a.off l fun l => takeK (len * sz) l fun old => overListK old new fun l' =>
              newObjK s (.cells l' e true) fun b s => k (.slice (some ⟨b, 0, none⟩) need 1) s
      else .err 42 ""
    | _, _, _ => .err 43 ""
  | _, _, _ => .err 44 ""
where
  overListK {β : Type} : List Value → List Value → (List Value → R β) → R β
    | [], l, k => k l
    | v :: vs, l, k => overListK vs l fun l => k (v :: l)

/-- append(x, make(.., m)...) where there is no room. -/
def zerosA {β : Type} (s : ASt) (t : TypeId) (x y : Value) (k : Value → ASt → R β) : R β :=
  match P.underlying t, x, y with
  | some (.slice e), .slice (some a) len cap, .int .i64 (.ofNat m) => match sizeT P e, bytesT P e, zeroT P e with
    | some sz, some bytes, some z => bif !isOpen cap && Nat.blt (cap / 2) (len + m) && Nat.ble 1 m && Nat.ble ((len + m) * (bytes + sz)) 1000000000 && Nat.ble 1 sz && plain z && Nat.beq (cellsOf z).length sz then
        replicateK m (cellsOf z) [] fun new => natK (len + m) fun need => getCells s a.block fun l _ _ => dropK a.off l fun l => takeK (len * sz) l fun old => appendA.overListK old new fun l' =>
          newObjK s (.cells l' e true) fun b s => k (.slice (some ⟨b, 0, none⟩) need 1) s
      else .err 165 ""
    | _, _, _ => .err 43 ""
  | _, _, _ => .err 44 ""

/-- append to the empty slice behind the end of a row. -/
def tailAppA {β : Type} (s : ASt) (t ty : TypeId) (x : Nat) (y : Value) (k : Value → ASt → R β) : R β :=
  match P.underlying t, (match P.underlying ty with | some (.int _) => none | d => d) with
  | some (.slice e), some _ => match sizeT P e, bytesT P e, zeroT P e with
    | some sz, some bytes, some z => srcA s sz y fun m new => natK (x / tailM / tailM / tailM) fun blk => natK (x / tailM % tailM) fun o2 => natK (x % tailM) fun c =>
      bif Nat.ble (m * (bytes + sz)) 1000000000 && Nat.ble 1 sz && plain z && Nat.beq (cellsOf z).length sz && Nat.beq o2 (c / 2 * sz) then
        bif Nat.beq m 0 then k (.float .f32 x) s
        else getCells s blk fun l e' op => bif op && Nat.beq e' e && Nat.beq l.length o2 then setObjK s blk none fun s => newObjK s (.cells new e true) fun b s => k (.slice (some ⟨b, 0, none⟩) m 1) s
          else .err 40 ""
      else .err 42 ""
    | _, _, _ => .err 43 ""
  | _, _ => .err 44 ""

def lenSrc : Value → Option Nat
  | .slice _ m _ => some m
  | .string b => some b.size
  | .float .f32 _ => some 0
  | _ => none
def cutSrc (n : Nat) : Value → Value
  | .slice q _ c => .slice q n c
  | .string b => .string ⟨(b.data.toList.take n).toArray⟩
  | v => v
def copyA {β : Type} (s : ASt) (t : TypeId) (x y : Value) (k : Value → ASt → R β) : R β :=
  match P.underlying t, x, lenSrc y with
  | some (.slice e), .slice p len _, some m => match sizeT P e with
    | some sz => minK m len fun n => srcA s sz (cutSrc n y) fun _ new => match p with
        | none => bif Nat.beq n 0 then k (.int .i64 (.ofNat n)) s else .err 45 ""
        | some a => bif Nat.beq n 0 then k (.int .i64 (.ofNat n)) s else
          getCells s a.block fun l e' op => putAtK a.off l new fun l => setObjK s a.block (some (.cells l e' op)) fun s => k (.int .i64 (.ofNat n)) s
    | none => .err 46 ""
  | _, _, _ => .err 47 ""

def lenA (F : Facts) (s : ASt) (t : TypeId) (x : Value) : R Value := match P.underlying t, x with
  | some .string, .string b => natK b.size fun n => .ok (.int .i64 (.ofNat n))
  | some (.slice _), .slice _ n _ => .ok (.int .i64 (.ofNat n))
  | some (.slice _), .float .f32 _ => .ok (.int .i64 (.ofNat 0))
  | some (.map _ _), .map none => .ok (.int .i64 (.ofNat 0))
  | some (.map _ _), .map (some r) => match s.H.get r with
    | some (.map es _) => natK es.length fun n => .ok (.int .i64 (.ofNat n))
    | _ => .err 48 ""
  | some (.array n _), _ => .ok (.int .i64 (.ofNat n))
  | some .string, u => match F.len u with
    | some r => .ok r
    | none => .err 49 ""
  | _, _ => .err 49 ""

def ofOpt {α β : Type} (c : Nat) (p : String) (x : Option α) (k : α → R β) : R β := match x with
  | some a => k a
  | none => .err c p

def clearA {β : Type} (s : ASt) (t : TypeId) (x : Value) (k : ASt → R β) : R β := match P.underlying t, x with
  | some _, .slice none _ _ => k s
  | some (.slice e), .slice (some a) n _ => bif Nat.beq n 0 then k s else match zeroT P e with
    | some z => bif plain z && oneCells (cellsOf z) && Nat.ble 1 (cellsOf z).length then replicateK n (cellsOf z) [] fun new => getCells s a.block fun l e' op => putAtK a.off l new fun l => setObjK s a.block (some (.cells l e' op)) k
      else .err 148 ""
    | none => .err 149 ""
  | _, _ => .err 150 ""

def builtinA (F : Facts) (o : Oper) (b : Builtin) (ts : List TypeId) (vs : List Value) (s : ASt) (k : Value → ASt → R Out) : R Out :=
  match b, ts, vs with
  | .len, t :: _, [x] => match lenA P F s t x with
    | .ok v => k v s
    | .err c _ => .err c o.pos
  | .copy, t :: _, [x, y] => copyA P s t x y k
  | .cap, t :: _, [.slice _ _ c] => match P.underlying t with
    | some (.slice _) => bif isOpen c then .err 50 o.pos else natK (c / 2) fun c => k (.int .i64 (.ofNat c)) s
    | _ => .err 50 o.pos
  | .append, [t, ty], [x, y] => match P.underlying ty with
    | some (.int _) => zerosA P s t x y k
    | _ => match x with
      | .float .f32 e => tailAppA P s t ty e y k
      | x => appendA P s t ty x y k
  | .delete, t :: _, [m, key] => match keyKind P t, m with
    | some (kd, _), .map none => bif keyOk P kd key then k undef s else .err 53 o.pos
    | some (kd, _), .map (some r) => match s.H.get r with
      | some (.map es c) => match findK P F kd key es with
        | some (some (i, _)) => dropEntryK i es fun es => setObjK s r (some (.map es c)) fun s => k undef s
        | some none => setObjK s r (some (.map es c)) fun s => k undef s
        | none => .err 51 o.pos
      | _ => .err 52 o.pos
    | _, _ => .err 53 o.pos
  | .clear, t :: _, [x] => clearA P s t x fun s => k undef s
  | .min, _, _ => bif vs.all plain then match pureV P 54 o.pos (Builtin.min_ ts.toArray o.type vs.toArray) with
      | .ok v => k v s
      | .err c p => .err c p
    else .err 54 o.pos
  | .max, _, _ => bif vs.all plain then match pureV P 55 o.pos (Builtin.max_ ts.toArray o.type vs.toArray) with
      | .ok v => k v s
      | .err c p => .err c p
    else .err 55 o.pos
  | _, _, _ => .err 56 o.pos

def convA (o : Oper) (src dst : TypeId) (x : Value) (s : ASt) : R Value :=
  bif plain x then pureV P 57 o.pos (convert src dst x)
  else match P.underlying src, P.underlying dst, x with
    | some (.slice e), some .string, .slice (some a) n _ => match P.underlying e with
      | some (.int .u8) => getCells s a.block fun l _ _ => dropK a.off l fun l => takeK n l fun l => match unbytes l with
        | some bs => .ok (.string ⟨bs.toArray⟩)
        | none => .err 58 o.pos
      | _ => .err 59 o.pos
    | _, _, _ => .err 60 o.pos
where
  unbytes : List Value → Option (List UInt8)
    | [] => some []
    | .int .u8 n :: l => match unbytes l with
      | some bs => some (UInt8.ofNat n.toNat :: bs)
      | none => none
    | _ :: _ => none

/-- An operation that is no call: the value that it leaves, and the state. -/
def simpleA (F : Facts) (o : Oper) (t : Tr Value) (s : ASt) (k : Value → ASt → R Out) : R Out :=
  let val (r : R Value) : R Out := match r with
    | .ok v => k v s
    | .err c p => .err c (o.pos ++ p)
  match o.op with
  | .move x => val (opd t x)
  | .assign x => val (opd t x)
  | .pick c a b => match opd t c with
    | .ok (.bool true) => val (opd t a)
    | .ok (.bool false) => val (opd t b)
    | .ok _ => .err 61 o.pos
    | .err c _ => .err c o.pos
  | .alloc e => ofOpt 62 o.pos (zeroT P e) fun z => bif plain z then newObjK s (.cells (cellsOf z) e false) fun b s => k (.pointer (some ⟨b, 0, none⟩)) s else .err 62 o.pos
  | .box e x => match opd t x with
    | .ok v => newObjK s (.cells (cellsOf v) e false) fun b s => k (.pointer (some ⟨b, 0, none⟩)) s
    | .err c _ => .err c o.pos
  | .load ty x => match opd t x with
    | .ok (.pointer (some a)) => val (loadA P s ty a)
    | .ok _ => .err 63 o.pos
    | .err c _ => .err c o.pos
  | .store ty x y => match opd t x, opd t y with
    | .ok (.pointer (some a)), .ok v => storeA P s ty a v fun s => k undef s
    | _, _ => .err 64 o.pos
  | .nilCheck x => match opd t x with
    | .ok (.pointer (some a)) => k (.pointer (some a)) s
    | .ok (.func (.func f) fi ca) => k (.func (.func f) fi ca) s
    | .ok (.func (.yield f) fi ca) => k (.func (.yield f) fi ca) s
    | .ok (.func (.via a b c d) fi ca) => k (.func (.via a b c d) fi ca) s
    | .ok _ => .err 65 o.pos
    | .err c _ => .err c o.pos
  | .fieldAddr ty x i => match P.underlying ty, opd t x with
    | some (.struct fs), .ok (.pointer (some a)) => ofOpt 66 o.pos (fs.toList[i]?) fun f => match sizeT P f.type with
      | some (_ + 1) => natK (a.off + f.offset) fun off => k (.pointer (some ⟨a.block, off, none⟩)) s
      | _ => .err 67 o.pos
    | _, _ => .err 68 o.pos
  | .field ty x i => match P.underlying ty, opd t x with
    | some (.struct fs), .ok (.agg cs) => ofOpt 69 o.pos (fs.toList[i]?) fun f => match isAggT P f.type, sizeT P f.type with
      | some true, some n => dropK f.offset cs.toList fun l => takeK n l fun l => k (.agg l.toArray) s
      | some false, some _ => dropK f.offset cs.toList fun l => match l with
        | v :: _ => k v s
        | [] => .err 70 o.pos
      | _, _ => .err 71 o.pos
    | _, _ => .err 72 o.pos
  | .indexAddr ty x i => match P.underlying ty, opd t x, opd t i with
    | some (.slice e), .ok (.slice (some a) len _), .ok (.int _ (.ofNat j)) => bif Nat.blt j len then ofOpt 73 o.pos (sizeT P e) fun sz => natK (a.off + j * sz) fun off => k (.pointer (some ⟨a.block, off, none⟩)) s else .err 74 o.pos
    | some (.array len e), .ok (.pointer (some a)), .ok (.int _ (.ofNat j)) => bif Nat.blt j len then ofOpt 75 o.pos (sizeT P e) fun sz => natK (a.off + j * sz) fun off => k (.pointer (some ⟨a.block, off, none⟩)) s else .err 76 o.pos
    | _, _, _ => .err 77 o.pos
  | .index ty x i => match opd t x, opd t i with
    | .ok u, .ok v => bif plain u && plain v then val (pureV P 78 o.pos (Instr.index ty u v)) else .err 79 o.pos
    | _, _ => .err 80 o.pos
  | .binOp op ty x y _ => match opd t x, opd t y with
    | .ok u, .ok v => val (binA P F o op ty x y u v)
    | _, _ => .err 81 o.pos
  | .unOp op _ x => match opd t x with
    | .ok u => bif plain u then val (pureV P 82 o.pos (Op.unary op u)) else .err 82 o.pos
    | .err c _ => .err c o.pos
  | .convert src dst x => match opd t x with
    | .ok u => val (convA P o src dst u s)
    | .err c _ => .err c o.pos
  | .extract x i => match opd t x with
    | .ok (.tuple vs) => ofOpt 83 o.pos (vs.toList[i]?) fun v => k v s
    | _ => .err 84 o.pos
  | .build ty ps => match opdPairs t ps.toList with
    | .ok vs => ofOpt 85 o.pos (zeroT P ty) fun z => bif plain z then match P.underlying ty with
      | some (.struct fs) => ofOpt 86 o.pos (fs.toList.mapM fun f => (P.info? f.type).map fun i => (f.offset, i.size)) fun places => fillA (fun i => places[i]?) vs (cellsOf z) fun l => k (.agg l.toArray) s
      | some (.array _ e) => ofOpt 86 o.pos (sizeT P e) fun sz => fillA (fun i => some (i * sz, sz)) vs (cellsOf z) fun l => k (.agg l.toArray) s
      | _ => .err 87 o.pos
      else .err 85 o.pos
    | .err c _ => .err c o.pos
  | .buildSlice ty n ps => match opdPairs t ps.toList with
    | .ok vs => match P.underlying ty with
      | some (.slice e) => ofOpt 88 o.pos (sizeT P e) fun sz => ofOpt 89 o.pos (zeroT P e) fun z => bif plain z && Nat.beq (cellsOf z).length sz && Nat.ble 1 sz && Nat.ble (n * sz) 100000 then
          replicateK n (cellsOf z) [] fun l => fillA (fun i => some (i * sz, sz)) vs l fun l => newObjK s (.cells l e false) fun b s => natK (2 * n) fun c => k (.slice (some ⟨b, 0, none⟩) n c) s
        else .err 90 o.pos
      | _ => .err 91 o.pos
    | .err c _ => .err c o.pos
  | .makeSlice ty x y => match P.underlying ty, opd t x, opd t y with
    | some (.slice e), .ok (.int _ (.ofNat n)), .ok (.int _ (.ofNat m)) => ofOpt 92 o.pos (sizeT P e) fun sz => ofOpt 93 o.pos (bytesT P e) fun by_ => ofOpt 94 o.pos (zeroT P e) fun z =>
        bif plain z && Nat.beq (cellsOf z).length sz && Nat.ble 1 sz && Nat.ble n m && Nat.ble (m * (sz + by_)) 1000000 then
          replicateK m (cellsOf z) [] fun l => newObjK s (.cells l e false) fun b s => natK (2 * m) fun c => k (.slice (some ⟨b, 0, none⟩) n c) s
        else .err 95 o.pos
    | _, _, _ => .err 96 o.pos
  | .slice ty x lo hi mx =>
    let opt (z : Option Operand) : R (Option Value) := match z with
      | none => .ok none
      | some z => match opd t z with
        | .ok v => .ok (some v)
        | .err c p => .err c p
    match opd t x, opt lo, opt hi, opt mx with
    | .ok v, .ok lo, .ok hi, .ok mx => val (sliceA P (roomOf P s ty v) ty v lo hi mx)
    | _, _, _, _ => .err 97 o.pos
  | .makeInterface ty x => match opd t x, P.underlying ty with
    | .ok v, some d => (match d with | .interface _ => .err 98 o.pos | _ => k (.iface ty v) s)
    | _, _ => .err 99 o.pos
  | .makeFunc fn fi ca => match opds t fi.toList, opds t ca.toList with
    | .ok fi, .ok ca => match fn with
      | .func f => k (.func (.func f) fi.toArray ca.toArray) s
      | .via a b c d => k (.func (.via a b c d) fi.toArray ca.toArray) s
      | _ => .err 100 o.pos
    | _, _ => .err 101 o.pos
  | .makeMap _ none => newObjK s (.map [] 0) fun b s => k (.map (some b)) s
  | .makeMap ty (some x) => match opd t x, P.underlying ty with
    | .ok (.int _ _), some (.map _ _) => newObjK s (.map [] 0) fun b s => k (.map (some b)) s
    | _, _ => .err 102 o.pos
  | .lookup ty x i ok => match opd t x, opd t i with
    | .ok m, .ok key => match keyKind P ty with
      | some (kd, e) => ofOpt 103 o.pos (zeroT P e) fun z => bif plain z then entriesA s m fun es _ => match findK P F kd key es with
          | some (some (_, v)) => k (bif ok then .tuple #[v, .bool true] else v) s
          | some none => k (bif ok then .tuple #[z, .bool false] else z) s
          | none => .err 104 o.pos
        else .err 103 o.pos
      | none => .err 105 o.pos
    | _, _ => .err 106 o.pos
  | .mapUpdate ty m key x => match opd t m, opd t key, opd t x with
    | .ok m, .ok key, .ok v => putA P F s ty m key v fun s => k undef s
    | _, _, _ => .err 107 o.pos
  | .insert ty m key x => match opd t m, opd t key, opd t x with
    | .ok m, .ok key, .ok v => putA P F s ty m key v fun s => k undef s
    | _, _, _ => .err 108 o.pos
  | .mapEntry ty m key => match opd t m, opd t key, keyKind P ty with
    | .ok (.map (some r)), .ok key, some (kd, e) => ofOpt 136 o.pos (zeroT P e) fun z => bif plain z then match s.H.get r with
      | some (.map es c) => match findK P F kd key es with
        | some (some (i, v)) => match es[i]? with
          | some e => setEntryK i es (fun e => { e with key := key }) fun es => setObjK s r (some (.map es c)) fun s => natK e.born fun b => k (.tuple #[v, .int .i64 (.ofNat b)]) s
          | none => .err 136 o.pos
        | some none => natK (c + 1) fun c' => pushEntryK es { key := key, val := z, born := c } fun es => setObjK s r (some (.map es c')) fun s => k (.tuple #[z, .int .i64 (.ofNat c)]) s
        | none => .err 137 o.pos
      | _ => .err 138 o.pos
      else .err 139 o.pos
    | _, _, _ => .err 140 o.pos
  | .entryStore _ m st x => match opd t m, opd t st, opd t x with
    | .ok (.map (some r)), .ok (.int _ (.ofNat b)), .ok v => match s.H.get r with
      | some (.map es c) => match findBorn b es 0 with
        | some i => setEntryK i es (fun e => { e with val := v }) fun es => setObjK s r (some (.map es c)) fun s => k undef s
        | none => .err 141 o.pos
      | _ => .err 142 o.pos
    | _, _, _ => .err 143 o.pos
  | .range ty x => match P.underlying ty, opd t x with
    | some (.map _ _), .ok (.map none) => newObjK s (.mapIter none 0 [] 0) fun b s => k (.pointer (some ⟨b, 0, none⟩)) s
    | some (.map _ _), .ok (.map (some m)) => match s.H.get m with
      | some (.map _ c) => newObjK s (.mapIter (some m) c [] c) fun b s => k (.pointer (some ⟨b, 0, none⟩)) s
      | _ => .err 151 o.pos
    | _, _ => .err 152 o.pos
  | .next x false => match opd t x with
    | .ok (.pointer (some a)) => bif Nat.beq a.off 0 then match s.H.get a.block with
      | some (.mapIter none _ _ _) => k (.tuple #[.bool false]) s
      | some (.mapIter (some m) since seen last) => match s.H.get m with
        | some (.map es c) => bif seen.isEmpty || es.isEmpty || es.any (fun e => Nat.blt e.born last) then match es.filter (fun e => !(seen.any (Nat.beq e.born))) with
          | [] => k (.tuple #[.bool false]) s
          | [e] => bif Nat.blt e.born since then setObjK s a.block (some (.mapIter (some m) since (seen ++ [e.born]) c)) fun s => k (.tuple #[.bool true, e.key, e.val]) s else .err 154 o.pos
          | _ => .err 155 o.pos
          else .err 153 o.pos
        | _ => .err 156 o.pos
      | _ => .err 157 o.pos
      else .err 157 o.pos
    | _ => .err 158 o.pos
  | .entry x => match opd t x with
    | .ok (.pointer (some a)) => bif Nat.beq a.off 0 then match s.H.get a.block with
      | some (.mapIter (some m) _ seen stepped) => match seen.getLast?, s.H.get m with
        | some stamp, some (.map es c) => bif Nat.beq c stepped then match es.find? (fun e => Nat.beq e.born stamp) with
            | some e => k (.tuple #[e.key, e.val]) s
            | none => .err 180 o.pos
          else .err 181 o.pos
        | _, _ => .err 182 o.pos
      | _ => .err 183 o.pos
      else .err 184 o.pos
    | _ => .err 185 o.pos
  | .typeAssert x _ ty false => match opd t x, P.underlying ty with
    | .ok (.iface _ _), some (.interface _) => .err 109 o.pos
    | .ok (.iface u v), some _ => bif Nat.beq u ty then k v s else .err 110 o.pos
    | _, _ => .err 111 o.pos
  | _ => .err 112 o.pos

def putT (a : AAct) (d : Option Tmp) (v : Value) (k : AAct → R Out) : R Out := match d with
  | none => k a
  | some d => bif Nat.blt d a.sz then a.tmps.setK 60 d (some v) fun t => k ⟨a.sz, t, a.marks⟩ else .err 113 ""

/-- The copy of a map, which the model does itself. -/
def isClone (g : FuncId) : Bool := match P.funcs[g]? with
  | some fn => match fn.body with
    | some _ => false
    | none => fn.name == "maps.clone" && (Extern.findNext fn).isNone
  | none => false

def callA (self : Task → ASt → R Out) (o : Oper) (f : Value) (vs : List Value) (s : ASt) (k : Value → ASt → R Out) : R Out :=
  match f with
  | .func (.func g) fi ca => bif isClone P g then (match fi.toList ++ (vs ++ ca.toList) with
      | [.iface t (.map (some r))] => match s.H.get r with
        | some (.map es c) => newObjK s (.map es c) fun b s => k (.iface t (.map (some b))) s
        | _ => .err 146 o.pos
      | _ => .err 147 o.pos)
    else match self (.call g (fi.toList ++ (vs ++ ca.toList))) s with
    | .ok o => k o.v o.s
    | .err c p => .err c p
  | .func (.yield l) fi _ => match self (.yield l (fi.toList ++ vs)) s with
    | .ok o => k o.v o.s
    | .err c p => .err c p
  | _ => .err 114 o.pos

def operA (F : Facts) (self : Task → ASt → R Out) (o : Oper) (t : Tr Value) (s : ASt) (k : Value → ASt → R Out) : R Out :=
  match o.op with
  | .call c => match opds t c.args.toList with
    | .ok vs => match c.callee with
      | .builtin b => builtinA P F o b c.argTypes.toList vs s k
      | .value f => match opd t f with
        | .ok f => callA P self o f vs s k
        | .err c _ => .err c o.pos
      | .invoke _ _ => .err 115 o.pos
    | .err c _ => .err c o.pos
  | _ => simpleA P F o t s k

def wantA (ops : Array Oper) (o : Oper) (t : Tr Value) : R Bool := match o.guard with
  | none => .ok true
  | some (j, want) => match ops.toList[j]? with
    | some oj => match oj.dst with
      | some d => match t.get d with
        | some (.bool b) => .ok (b == want)
        | some (.tuple _) => .ok false
        | _ => .err 116 o.pos
      | none => .err 117 o.pos
    | none => .err 118 o.pos

def opsA (F : Facts) (self : Task → ASt → R Out) (ops : Array Oper) : List Oper → AAct → ASt → R Out
  | [], a, s => .ok ⟨.normal, a, undef, s⟩
  | o :: l, a, s => match wantA ops o a.tmps with
    | .ok true => operA P F self o a.tmps s fun v s => putT a o.dst v fun a => opsA F self ops l a s
    | .ok false => putT a o.dst undef fun a => opsA F self ops l a s
    | .err c p => .err c p

/-! Regions that draw their order -/
def pureOp : Op → Bool
  | .move _ | .assign _ | .pick .. | .nilCheck _ | .fieldAddr .. | .field .. | .indexAddr .. | .index .. | .binOp .. | .unOp .. | .extract .. => true
  | _ => false

def namesOf (ops : Array Oper) (o : Oper) : List Nat := (o.op.operands.toList.filterMap fun | .tmp t => some t | _ => none) ++
  (match o.guard with
   | some (g, _) => (match ops.toList[g]? with | some og => og.dst.toList | none => [])
   | none => [])
def befores : List Oper → List Nat → List Nat
  | [], acc => acc
  | o :: l, acc => befores l (acc ++ [o.after.toList.foldl (fun s e => bif Region.binds .any e then Nat.lor (Nat.lor s (2 ^ e.on)) (acc.getD e.on 0) else s) 0])
/-- Operation i stands ahead of j in the text. -/
def pairOk (ops : Array Oper) (bj : Nat) (i : Nat) (oi oj : Oper) (li lj : Nat) : Bool :=
  let before := Nat.testBit bj i
  let writes (o o' : Oper) : Bool := match o.dst with
    | some d => (namesOf ops o').any (Nat.beq d)
    | none => false
  (before || !(writes oi oj || writes oj oi)) && (match oi.dst, oj.dst with | some d, some d' => !(Nat.beq d d') | _, _ => true) &&
  (match li, lj with
   | 2, 1 => false
   | 1, 2 => before
   | 2, 2 => before
   | _, _ => true)
def rowOk (ops : Array Oper) (bj : Nat) (oj : Oper) (lj : Nat) : Nat → List Oper → List Nat → Bool
  | i, oi :: l, li :: ls => pairOk ops bj i oi oj li lj && rowOk ops bj oj lj (i + 1) l ls
  | _, _, _ => true
def allOk (ops : Array Oper) (bs labs : List Nat) : Nat → List Oper → Bool
  | _, [] => true
  | j, o :: l => rowOk ops (bs.getD j 0) o (labs.getD j 0) 0 (ops.toList.take j) labs && o.after.toList.all (fun e => !Region.binds .any e || Nat.blt e.on j) && allOk ops bs labs (j + 1) l
def drawOk (ops : Array Oper) (labs : List Nat) : Bool := allOk ops (befores ops.toList []) labs 0 ops.toList

def outK (v : Value) (s : ASt) : R Out := .ok ⟨.normal, noAct, v, s⟩
/-- The same, by what is written. -/
def adEq (a b : Addr) : Bool := Nat.beq a.block b.block && Nat.beq a.off b.off && a.spot.isNone && b.spot.isNone
def sameB : List UInt8 → List UInt8 → Bool
  | [], [] => true
  | a :: l, b :: m => Nat.beq a.toNat b.toNat && sameB l m
  | _, _ => false
def same1 : Value → Value → Bool
  | .int j a, .int k b => decide (j = k) && decide (a = b)
  | .bool true, .bool true => true
  | .bool false, .bool false => true
  | .float .f64 i, .float .f64 j => Nat.beq i j
  | .float .f32 i, .float .f32 j => Nat.beq i j
  | .string a, .string b => sameB a.data.toList b.data.toList
  | .pointer none, .pointer none => true
  | .pointer (some a), .pointer (some b) => adEq a b
  | .slice none n c, .slice none m d => Nat.beq n m && Nat.beq c d
  | .slice (some a) n c, .slice (some b) m d => adEq a b && Nat.beq n m && Nat.beq c d
  | .map none, .map none => true
  | .map (some a), .map (some b) => Nat.beq a b
  | .nilFunc, .nilFunc => true
  | .nilIface, .nilIface => true
  | _, _ => false
def sameL : List Value → List Value → Bool
  | [], [] => true
  | u :: l, v :: m => same1 u v && sameL l m
  | _, _ => false
def sameV : Value → Value → Bool
  | .agg a, .agg b => sameL a.toList b.toList
  | .func (.func f) a b, .func (.func g) c d => Nat.beq f g && sameL a.toList c.toList && sameL b.toList d.toList
  | u, v => same1 u v

/-- What only reads. -/
def readOp : Op → Bool
  | .load .. | .lookup .. | .build .. | .slice .. | .convert .. | .makeInterface .. | .typeAssert .. => true
  | .call c => match c.callee with
    | .builtin .len => true
    | _ => false
  | _ => false

def quietR (s : ASt) (r : Out) : Bool := Nat.ble s.n r.s.low && (Nat.beq s.n r.s.n || plain r.v)
def stays (F : Facts) (self : Task → ASt → R Out) (o : Oper) (t : Tr Value) (v : Value) (s : ASt) : Bool := match operA P F self o t ⟨s.n, s.n, s.H⟩ outK with
  | .ok r => quietR s r && sameV r.v v
  | .err _ _ => false
/-- Operation i may come up while the operations of label 2 are done that stand ahead of m, and no others. -/
def mayRun (bs : List Nat) (i m : Nat) : Nat → List Nat → Bool
  | _, [] => true
  | j, l :: ls => (bif Nat.beq l 2 then (bif Nat.blt j m then !Nat.testBit (bs.getD j 0) i else !Nat.testBit (bs.getD i 0) j) else true) && mayRun bs i m (j + 1) ls
def staysAll (F : Facts) (self : Task → ASt → R Out) (bs labs : List Nat) (sts : List (Nat × ASt)) (rd : List (Nat × Oper × Tr Value × Value)) : Bool := match sts with
  | [_] => true
  | sts => rd.all fun (i, o, t, v) => sts.all fun (m, s) => bif mayRun bs i m 0 labs then stays P F self o t v s else true

/-- How many names there were when. -/
def stampV (sts : List (Nat × ASt)) : Value := .tuple (sts.map fun x => .slice none x.1 x.2.n).toArray
def drawA (F : Facts) (self : Task → ASt → R Out) (ops : Array Oper) : List Oper → (labs : List Nat) → (tail : Bool) → (sts : List (Nat × ASt)) → (rd : List (Nat × Oper × Tr Value × Value)) → AAct → ASt → R Out
  | [], labs, _, sts, rd, a, s => bif drawOk ops labs.reverse && staysAll P F self (befores ops.toList []) labs.reverse sts rd then .ok ⟨.normal, a, stampV sts, s⟩ else .err 135 ((ops.toList.head?.map (·.pos)).getD "")
  | o :: l, labs, tail, sts, rd, a, s => match wantA ops o a.tmps with
    | .ok true => bif pureOp o.op then match simpleA P F o a.tmps s outK with
        | .ok r => putT a o.dst r.v fun a => drawA F self ops l (0 :: labs) tail sts rd a s
        | .err c p => .err c p
      else match operA P F self o a.tmps ⟨s.n, s.n, s.H⟩ outK with
        | .ok r => bif quietR s r && readOp o.op then putT a o.dst r.v fun a' => drawA F self ops l (3 :: labs) tail sts ((labs.length, o, a.tmps, r.v) :: rd) a' s
          else bif !tail && quietR s r then putT a o.dst r.v fun a => drawA F self ops l (1 :: labs) tail sts rd a s
          else minK s.low r.s.low fun low => putT a o.dst r.v fun a => drawA F self ops l (2 :: labs) true ((labs.length + 1, ⟨r.s.n, low, r.s.H⟩) :: sts) rd a ⟨r.s.n, low, r.s.H⟩
        | .err c p => .err c p
    | .ok false => putT a o.dst undef fun a => drawA F self ops l (0 :: labs) tail sts rd a s
    | .err c p => .err c p

/-! Where what acts on memory may come up in several orders: all of them are gone through. -/
def tailish (o : Oper) : Bool := !(pureOp o.op) && !(readOp o.op)
def tailsOf : Nat → List Oper → List Nat
  | _, [] => []
  | i, o :: l => bif tailish o then i :: tailsOf (i + 1) l else tailsOf (i + 1) l
def befB (bs : List Nat) (i j : Nat) : Bool := Nat.testBit (bs.getD j 0) i
def eraseN : Nat → List Nat → List Nat
  | _, [] => []
  | x, y :: l => bif Nat.beq x y then l else y :: eraseN x l
def permsH (bs l : List Nat) (f : List Nat → List (List Nat)) : List Nat → List (List Nat)
  | [] => []
  | x :: xs => bif l.all (fun y => !befB bs y x) then (f (eraseN x l)).map (x :: ·) ++ permsH bs l f xs else permsH bs l f xs
def perms (bs : List Nat) : Nat → List Nat → List (List Nat)
  | 0, _ => [[]]
  | k + 1, l => permsH bs l (perms bs k) l
def posIn : List Nat → Nat → Nat
  | [], _ => 0
  | x :: l, i => bif Nat.beq x i then 0 else posIn l i + 1
def upTo : List Nat → Nat → List Nat
  | [], _ => []
  | x :: l, i => bif Nat.beq x i then [] else x :: upTo l i
def reOper (ord tau : List Nat) (i : Nat) (o : Oper) : Oper :=
  { o with after := ((o.after.toList.map fun e => (⟨posIn ord e.on, e.ground⟩ : Edge)) ++ (bif tailish o then (upTo tau i).map fun x => (⟨posIn ord x, .data⟩ : Edge) else [])).toArray, guard := o.guard.map fun g => (posIn ord g.1, g.2) }
def reOps (ops : List Oper) (tau ord : List Nat) : List Nat → List Oper
  | [] => []
  | i :: l => match ops[i]? with
    | some o => reOper ord tau i o :: reOps ops tau ord l
    | none => reOps ops tau ord l
def edgesOk : Nat → List Oper → Bool
  | _, [] => true
  | j, o :: l => o.after.toList.all (fun e => !Region.binds .any e || Nat.blt e.on j) && edgesOk (j + 1) l
def ordOk (n : Nat) (ops : List Oper) (ord : List Nat) : Bool :=
  Nat.beq ord.length n && (List.range n).all (fun i => Nat.blt (posIn ord i) n && Nat.beq (ord.getD (posIn ord i) n) i && Nat.blt (ord.getD i n) n && Nat.beq (posIn ord (ord.getD i n)) i) &&
    edgesOk 0 ops && ops.all (fun o => match o.guard with | some (g, _) => Nat.blt g n | none => true)
def findNext (bs tails tau : List Nat) (done : Nat) : Nat → Nat → Option Nat
  | _, 0 => none
  | i, k + 1 => bif !Nat.testBit done i && Nat.beq (Nat.land (bs.getD i 0) done) (bs.getD i 0) && (bif tails.any (Nat.beq i) then (match tau with | x :: _ => Nat.beq x i | [] => false) else true) then some i else findNext bs tails tau done (i + 1) k
def fullOrd (bs tails : List Nat) (n : Nat) : Nat → List Nat → Nat → List Nat
  | 0, _, _ => []
  | k + 1, tau, done => match findNext bs tails tau done 0 n with
    | some i => i :: fullOrd bs tails n k (bif tails.any (Nat.beq i) then tau.tail else tau) (Nat.lor done (2 ^ i))
    | none => []

/-- Which names stand for which, by the operations that made them. -/
def stampsOf : Value → List (Nat × Nat)
  | .tuple cs => cs.toList.reverse.filterMap fun | .slice none m n => some (m, n) | _ => none
  | _ => []
def madeBy (ord : List Nat) : List (Nat × Nat) → List (Nat × Nat × Nat)
  | (_, n0) :: (m, n1) :: l => (ord.getD (m - 1) 0, n0, n1 - n0) :: madeBy ord ((m, n1) :: l)
  | _ => []
def nameAs (pa pt : List (Nat × Nat × Nat)) (i : Nat) : Nat := match pa.find? (fun x => Nat.ble x.2.1 i && Nat.blt i (x.2.1 + x.2.2)) with
  | some (o, a, _) => match pt.find? (fun y => Nat.beq y.1 o) with
    | some (_, b, _) => b + (i - a)
    | none => i
  | none => i
def natsK {β : Type} : List Nat → (List Nat → R β) → R β
  | [], k => k []
  | n :: l, k => natK n fun n => natsK l fun l => k (n :: l)
def distinct : List Nat → Bool
  | [] => true
  | x :: l => !(l.any (Nat.beq x)) && distinct l
def plOk (n0 n1 : Nat) (pl : List Nat) : Bool := Nat.beq (n0 + pl.length) n1 && pl.all (fun x => Nat.ble n0 x && Nat.blt x n1) && distinct pl
def pAt (n0 : Nat) (pl : List Nat) (i : Nat) : Nat := bif Nat.blt i n0 then i else pl.getD (i - n0) i

def adP (p : Nat → Nat) (a b : Addr) : Bool := Nat.beq (p a.block) b.block && Nat.beq a.off b.off && a.spot.isNone && b.spot.isNone
def eqV1 (p : Nat → Nat) : Value → Value → Bool
  | .pointer (some a), .pointer (some b) => adP p a b
  | .slice (some a) n c, .slice (some b) m d => adP p a b && Nat.beq n m && Nat.beq c d
  | .map (some a), .map (some b) => Nat.beq (p a) b
  | .pointer none, .pointer none => true
  | .slice none n c, .slice none m d => Nat.beq n m && Nat.beq c d
  | .map none, .map none => true
  | .int j a, .int k b => decide (j = k) && decide (a = b)
  | .bool true, .bool true => true
  | .bool false, .bool false => true
  | .float .f64 i, .float .f64 j => Nat.beq i j
  | .string a, .string b => sameB a.data.toList b.data.toList
  | .nilFunc, .nilFunc => true
  | .nilIface, .nilIface => true
  | _, _ => false
def eqVl (p : Nat → Nat) : List Value → List Value → Bool
  | [], [] => true
  | u :: l, v :: m => eqV1 p u v && eqVl p l m
  | _, _ => false
def eqTl (p : Nat → Nat) : List Value → List Value → Bool
  | [], [] => true
  | .agg u :: l, .agg v :: m => eqVl p u.toList v.toList && eqTl p l m
  | u :: l, v :: m => eqV1 p u v && eqTl p l m
  | _, _ => false
def eqV (p : Nat → Nat) : Value → Value → Bool
  | .agg a, .agg b => eqVl p a.toList b.toList
  | .tuple a, .tuple b => eqTl p a.toList b.toList
  | u, v => eqV1 p u v
def eqO (p : Nat → Nat) : AObj → AObj → Bool
  | .cells l e op, .cells l' e' op' => eqVl p l l' && Nat.beq e e' && (op == op')
  | _, _ => false
def keepObj (n0 : Nat) (i : Nat) (o : AObj) (os : List (List Nat × Out)) : Bool := os.all fun x => match x.2.s.H.get (pAt n0 x.1 i) with
  | some o' => eqO (pAt n0 x.1) o o'
  | none => false
def keepVal (n0 : Nat) (d : Nat) (v : Value) (os : List (List Nat × Out)) : Bool := os.all fun x => match x.2.a.tmps.get d with
  | some v' => eqV (pAt n0 x.1) v v'
  | none => false
def joinH {β : Type} (n0 : Nat) (os : List (List Nat × Out)) (HA : Tr AObj) : Nat → Nat → Tr AObj → (Tr AObj → R β) → R β
  | 0, _, H, k => k H
  | c + 1, i, H, k => match HA.get i with
    | some o => bif keepObj n0 i o os then H.setK 60 i (some o) fun H => joinH n0 os HA c (i + 1) H k else H.setK 60 i none fun H => joinH n0 os HA c (i + 1) H k
    | none => H.setK 60 i none fun H => joinH n0 os HA c (i + 1) H k
def joinT {β : Type} (n0 : Nat) (os : List (List Nat × Out)) (TA : Tr Value) : List Oper → Tr Value → (Tr Value → R β) → R β
  | [], T, k => k T
  | o :: l, T, k => match o.dst with
    | none => joinT n0 os TA l T k
    | some d => match TA.get d with
      | some v => bif keepVal n0 d v os then T.setK 60 d (some v) fun T => joinT n0 os TA l T k else T.setK 60 d none fun T => joinT n0 os TA l T k
      | none => T.setK 60 d none fun T => joinT n0 os TA l T k
def lowOf {β : Type} : List (List Nat × Out) → Nat → (Nat → R β) → R β
  | [], m, k => k m
  | x :: l, m, k => minK x.2.s.low m fun m => lowOf l m k

def runOrds (F : Facts) (self : Task → ASt → R Out) (ops : Array Oper) (a : AAct) (s0 : ASt) (bs tails : List Nat) : List (List Nat) → (List (List Nat × Out) → R Out) → R Out
  | [], k => k []
  | tau :: l, k => natsK (fullOrd bs tails ops.size ops.size tau 0) fun ord => bif ordOk ops.size ops.toList ord then
      match drawA P F self (reOps ops.toList tau ord ord).toArray (reOps ops.toList tau ord ord) [] false [(0, s0)] [] a s0 with
      | .ok o => runOrds F self ops a s0 bs tails l fun os => k ((ord, o) :: os)
      | .err c p => .err c p
    else .err 161 ""
def named {β : Type} (n0 n1 : Nat) (pa : List (Nat × Nat × Nat)) : List (List Nat × Out) → (List (List Nat × Out) → R β) → R β
  | [], k => k []
  | (ord, o) :: l, k => natsK ((List.range (n1 - n0)).map fun i => nameAs pa (madeBy ord (stampsOf o.v)) (n0 + i)) fun pl =>
    bif plOk n0 n1 pl && Nat.beq o.s.n n1 then named n0 n1 pa l fun os => k ((pl, o) :: os) else .err 162 ""
def multiA (F : Facts) (self : Task → ASt → R Out) (ops : Array Oper) (a : AAct) (s : ASt) : R Out :=
  let bs := befores ops.toList []
  let tails := tailsOf 0 ops.toList
  bif Nat.ble tails.length 7 && Nat.ble (perms bs tails.length tails).length 12 then runOrds P F self ops a ⟨s.n, s.n, s.H⟩ bs tails (perms bs tails.length tails) fun os => match os with
    | [] => .err 163 ""
    | (ordA, oA) :: _ => named s.n oA.s.n (madeBy ordA (stampsOf oA.v)) os fun ps => lowOf ps s.n fun low =>
      joinH s.n ps oA.s.H (oA.s.n - low) low s.H fun H => joinT s.n ps oA.a.tmps ops.toList a.tmps fun T => minK low s.low fun low' => .ok ⟨.normal, ⟨a.sz, T, a.marks⟩, undef, ⟨oA.s.n, low', H⟩⟩
  else .err 164 ((ops.toList.head?.map (·.pos)).getD "")
def isCall (o : Option Oper) : Bool := match o with
  | some o => match o.op with
    | .call c => match c.callee with
      | .value _ => true
      | _ => false
    | _ => false
  | none => false
/-- A call that no edge orders with something else that acts on memory. -/
def loose (ops : Array Oper) : Bool :=
  let bs := befores ops.toList []
  let tails := tailsOf 0 ops.toList
  tails.any fun i => isCall ops.toList[i]? && tails.any fun j => !Nat.beq i j && !befB bs i j && !befB bs j i
def regionA (F : Facts) (self : Task → ASt → R Out) (ops : Array Oper) (a : AAct) (s : ASt) : R Out :=
  bif loose ops then match multiA P F self ops a s with
    | .ok o => .ok o
    | .err _ _ => drawA P F self ops ops.toList [] false [(0, s)] [] a s
  else match drawA P F self ops ops.toList [] false [(0, s)] [] a s with
  | .ok o => .ok o
  | .err c p => bif Nat.beq c 135 then multiA P F self ops a s else .err c p

def putArgs {β : Type} : Nat → List Value → Tr Value → (Tr Value → R β) → R β
  | _, [], t, k => k t
  | i, v :: l, t, k => t.setK 60 i (some v) fun t => putArgs (i + 1) l t k

def putParams {β : Type} (sz : Nat) : List Tmp → List Value → Tr Value → (Tr Value → R β) → R β
  | [], [], t, k => k t
  | i :: ps, v :: l, t, k => bif Nat.blt i sz then t.setK 60 i (some v) fun t => putParams sz ps l t k else .err 145 ""
  | _, _, _, _ => .err 119 ""

def resultsA (t : Tr Value) (s : ASt) : List ResultVar → R (List Value)
  | [] => .ok []
  | .tmp i :: l => match t.get i with
    | some v => match resultsA t s l with
      | .ok vs => .ok (v :: vs)
      | .err c p => .err c p
    | none => .err 120 ""
  | .cell i ty :: l => match t.get i with
    | some (.pointer (some a)) => match loadA P s ty a with
      | .ok v => match resultsA t s l with
        | .ok vs => .ok (v :: vs)
        | .err c p => .err c p
      | .err c p => .err c p
    | _ => .err 121 ""

def dropMarks {β : Type} (s : ASt) : List Nat → (ASt → R β) → R β
  | [], k => k s
  | d :: ds, k => match s.H.get d with
    | some (.deferred true) => setObjK s d (some (.deferred false)) fun s => dropMarks s ds k
    | _ => .err 122 ""

/-- A loop: so many rounds at the most. -/
def loopA (ev : AAct → ASt → R Out) : Nat → AAct → ASt → R Out
  | 0, _, _ => .err 144 ""
  | n + 1, a, s => match ev a s with
    | .ok o => match o.e with
      | .normal => loopA ev n o.a o.s
      | e => .ok ⟨e, o.a, undef, o.s⟩
    | .err c p => .err c p

/-! Several outcomes: where a range over a map goes on with any entry. -/
def nextsL (s : ASt) (it m since : Nat) (seen : List Nat) (c : Nat) : List MapEntry → R (List (Value × ASt))
  | [] => .ok []
  | e :: l => match (s.H.setK 60 it (some (.mapIter (some m) since (seen ++ [e.born]) c)) fun H => minK it s.low fun low => .ok (⟨s.n, low, H⟩ : ASt)) with
    | .ok s1 => match nextsL s it m since seen c l with
      | .ok r => .ok ((.tuple #[.bool true, e.key, e.val], s1) :: r)
      | .err c p => .err c p
    | .err c p => .err c p
def nextsA (s : ASt) (v : Value) : R (List (Value × ASt)) := match v with
  | .pointer (some a) => bif Nat.beq a.off 0 then match s.H.get a.block with
    | some (.mapIter (some m) since seen last) => match s.H.get m with
      | some (.map es c) => bif (seen.isEmpty || es.isEmpty || es.any (fun e => Nat.blt e.born last)) && (es.filter (fun e => !(seen.any (Nat.beq e.born)))).all (fun e => Nat.blt e.born since) && Nat.ble 2 (es.filter (fun e => !(seen.any (Nat.beq e.born)))).length then
          nextsL s a.block m since seen c (es.filter (fun e => !(seen.any (Nat.beq e.born))))
        else .err 170 ""
      | _ => .err 171 ""
    | _ => .err 172 ""
    else .err 173 ""
  | _ => .err 174 ""
def putTM {β : Type} (a : AAct) (d : Option Tmp) (v : Value) (k : AAct → R β) : R β := match d with
  | none => k a
  | some d => bif Nat.blt d a.sz then a.tmps.setK 60 d (some v) fun t => k ⟨a.sz, t, a.marks⟩ else .err 113 ""
def appK {α β : Type} : List α → List α → (List α → R β) → R β
  | [], q, k => k q
  | x :: l, q, k => appK l q fun r => k (x :: r)
def eachM {α β : Type} (f : α → R (List β)) : List α → R (List β)
  | [] => .ok []
  | x :: l => match f x with
    | .ok r => match eachM f l with
      | .ok q => appK r q .ok
      | .err c p => .err c p
    | .err c p => .err c p
def opsM (F : Facts) (self : Task → ASt → R Out) (ops : Array Oper) : List Oper → AAct → ASt → R (List Out)
  | [], a, s => .ok [⟨.normal, a, undef, s⟩]
  | o :: l, a, s => match wantA ops o a.tmps with
    | .ok true => match operA P F self o a.tmps s outK with
      | .ok r => putTM a o.dst r.v fun a => opsM F self ops l a r.s
      | .err c p => match o.op with
        | .next x false => match opd a.tmps x with
          | .ok it => match nextsA s it with
            | .ok vs => eachM (fun z => putTM a o.dst z.1 fun a => opsM F self ops l a z.2) vs
            | .err _ _ => .err c p
          | .err c p => .err c p
        | _ => .err c p
    | .ok false => putTM a o.dst undef fun a => opsM F self ops l a s
    | .err c p => .err c p
def goM (f : Out → R (List Out)) : Out → R (List Out)
  | ⟨e, a, v, s⟩ => match e with
    | .normal => f ⟨.normal, a, v, s⟩
    | e => .ok [⟨e, a, undef, s⟩]
def loopM (ev : AAct → ASt → R (List Out)) : Nat → AAct → ASt → R (List Out)
  | 0, _, _ => .err 144 ""
  | n + 1, a, s => match ev a s with
    | .ok os => eachM (goM fun o => loopM ev n o.a o.s) os
    | .err c p => .err c p
def blockM (id : Nat) : Out → Out
  | ⟨e, a, _, s⟩ => match e with
    | .exit j => bif Nat.beq j id then ⟨.normal, a, undef, s⟩ else ⟨.exit j, a, undef, s⟩
    | e => ⟨e, a, undef, s⟩
def blocksM {β : Type} (id : Nat) : List Out → (List Out → R β) → R β
  | [], k => k []
  | o :: l, k => match blockM id o with
    | ⟨e, a, v, s⟩ => blocksM id l fun q => k (⟨e, a, v, s⟩ :: q)
def codeM (F : Facts) (self : Task → ASt → R Out) (fn : FuncId) : Nat → Code → AAct → ASt → R (List Out)
  | 0, _, _, _ => .err 177 ""
  | n + 1, c, a, s => match c with
    | .seq x y => match codeM F self fn n x a s with
      | .ok os => eachM (goM fun o => codeM F self fn n y o.a o.s) os
      | .err c p => .err c p
    | .cond c x y => match opd a.tmps c with
      | .ok (.bool true) => codeM F self fn n x a s
      | .ok (.bool false) => codeM F self fn n y a s
      | .ok _ => .err 123 ""
      | .err c p => .err c p
    | .block id x => match codeM F self fn n x a s with
      | .ok os => blocksM id os .ok
      | .err c p => .err c p
    | .scope x => codeM F self fn n x a s
    | .loop x => loopM (fun a s => codeM F self fn n x a s) 100000 a s
    | .region _ ops false => opsM P F self ops ops.toList a s
    | c => match self (.code none fn c a) s with
      | .ok o => .ok [o]
      | .err c p => .err c p

def endA (fn : Func) (o : Out) : R Out :=
  let fin : R Out := dropMarks o.s o.a.marks fun s => match resultsA P o.a.tmps s fn.results.toList with
    | .ok [v] => .ok ⟨.normal, noAct, v, s⟩
    | .ok vs => .ok ⟨.normal, noAct, .tuple vs.toArray, s⟩
    | .err c p => .err c (p ++ fn.name)
  match o.e with
  | .normal => fin
  | .ret => fin
  | .exit _ => .err 130 fn.name
def endsM (fn : Func) : List Out → R (List Out)
  | [] => .ok []
  | o :: l => match endA P fn o with
    | .ok x => match endsM fn l with
      | .ok r => .ok (x :: r)
      | .err c p => .err c p
    | .err c p => .err c p
/-- What is the same after all outcomes. -/
def joinM (s : ASt) (fs : List Out) : R Out := match fs with
  | [] => .err 175 ""
  | f0 :: _ => bif plain f0.v && fs.all (fun f => Nat.ble s.n f.s.low && eqV (pAt s.n []) f0.v f.v) then .ok ⟨.normal, noAct, f0.v, s⟩
    else bif Nat.ble s.n f0.s.n && fs.all (fun f => Nat.beq f.s.n f0.s.n && eqV (pAt s.n []) f0.v f.v) then
      lowOf (fs.map fun f => ([], f)) s.n fun low => joinH s.n (fs.map fun f => ([], f)) f0.s.H (f0.s.n - low) low s.H fun H => minK low s.low fun low' => .ok ⟨.normal, noAct, f0.v, ⟨f0.s.n, low', H⟩⟩
    else .err 176 ""

def step (F : Facts) (self : Task → ASt → R Out) : Task → ASt → R Out
  | .code r fn c a, s => match c with
    | .skip => .ok ⟨.normal, a, undef, s⟩
    | .label _ => .ok ⟨.normal, a, undef, s⟩
    | .scope x => self (.code r fn x a) s
    | .seq x y => match self (.code r fn x a) s with
      | .ok o => match o.e with
        | .normal => self (.code r fn y o.a) o.s
        | e => .ok ⟨e, o.a, undef, o.s⟩
      | .err c p => .err c p
    | .cond c x y => match opd a.tmps c with
      | .ok (.bool true) => self (.code r fn x a) s
      | .ok (.bool false) => self (.code r fn y a) s
      | .ok _ => .err 123 ""
      | .err c p => .err c p
    | .block id x => match self (.code r fn x a) s with
      | .ok o => match o.e with
        | .exit j => bif Nat.beq j id then .ok ⟨.normal, o.a, undef, o.s⟩ else .ok ⟨.exit j, o.a, undef, o.s⟩
        | e => .ok ⟨e, o.a, undef, o.s⟩
      | .err c p => .err c p
    | .loop x => loopA (fun a s => self (.code r fn x a) s) 1000000 a s
    | .exit id => .ok ⟨.exit id, a, undef, s⟩
    | .ret => .ok ⟨.ret, a, undef, s⟩
    | .region _ ops false => opsA P F self ops ops.toList a s
    | .region _ ops true => regionA P F self ops a s
    | .rangeFunc f ps assign body => match opd a.tmps f with
      | .ok (.func (.func g) fi ca) => match r with
        | none => newObjK s (.deferred true) fun D s => newObjK s (.loop .ready none fn a.sz a.tmps ps.toList assign body D) fun l s =>
            match self (.call g (fi.toList ++ (.func (.yield l) #[] #[] :: ca.toList))) s with
            | .ok o => match o.s.H.get l with
              | some (.loop .busy ..) => .err 124 ""
              | some (.loop _ pend fn' sz t ps' as' bo' D') => setObjK o.s l (some (.loop .exhausted pend fn' sz t ps' as' bo' D')) fun s => match pend with
                | none => .ok ⟨.normal, ⟨a.sz, a.tmps, D :: a.marks⟩, undef, s⟩
                | some c => self (.code r fn c ⟨a.sz, a.tmps, D :: a.marks⟩) s
              | _ => .err 125 ""
            | .err c p => .err c p
        | some _ => .err 126 ""
      | .ok _ => .err 127 ""
      | .err c p => .err c p
    | _ => .err 128 ""
  | .call f args, s => match F.sum f args s with
   | some o => .ok o
   | none => ofOpt 129 "" (P.funcs[f]?) fun fn => match fn.body with
    | some c => putArgs 0 args .leaf fun t => natK (args.length + (fn.ntmps - args.length)) fun sz => match self (.code none f c ⟨sz, t, []⟩) s with
      | .ok o => endA P fn o
      | .err c0 p => bif Nat.beq c0 155 then match codeM P F self f 100000 c ⟨sz, t, []⟩ ⟨s.n, s.n, s.H⟩ with
          | .ok os => match endsM P fn os with
            | .ok fs => joinM s fs
            | .err c p => .err c p
          | .err c p => .err c p
        else .err c0 p
    | none => .err 131 fn.name
  | .yield l args, s => match s.H.get l with
    | some (.loop _ _ fn sz t ps assign bo _) => putParams sz ps args t fun t' => match self (.code (some l) fn assign ⟨sz, t', []⟩) s with
      | .ok o => match o.e, o.s.H.get l with
        | .normal, some (.loop .ready pend fn' sz t ps assign body D) => setObjK o.s l (some (.loop .busy pend fn' sz t ps assign body D)) fun s => match self (.code (some l) fn bo o.a) s with
          | .ok o => match o.s.H.get l with
            | some (.loop _ _ fn sz t ps assign body D) => match o.e with
              | .normal => setObjK o.s l (some (.loop .ready none fn sz t ps assign body D)) fun s => .ok ⟨.normal, noAct, .bool true, s⟩
              | .ret => setObjK o.s l (some (.loop .done (some .ret) fn sz t ps assign body D)) fun s => .ok ⟨.normal, noAct, .bool false, s⟩
              | .exit id => setObjK o.s l (some (.loop .done (some (.exit id)) fn sz t ps assign body D)) fun s => .ok ⟨.normal, noAct, .bool false, s⟩
            | _ => .err 132 ""
          | .err c p => .err c p
        | _, _ => .err 133 ""
      | .err c p => .err c p
    | _ => .err 134 ""

def run (F : Facts) : Nat → Task → ASt → R Out
  | 0, _, _ => .err 0 "fuel"
  | n + 1, t, s => step P F (run F n) t s
end
end Ae
end Go.Proofs.Ytollflfkgcgdkaa
