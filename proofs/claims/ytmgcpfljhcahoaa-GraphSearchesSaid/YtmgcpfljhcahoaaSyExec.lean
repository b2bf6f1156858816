/- Symbolic states: what is to be shown of a code: definitions. -/
import Derived.Test.YtmgcpfljhcahoaaSyBytes
import Derived.Test.YtmgcpfljhcahoaaSyRange
import Derived.Test.YtmgcpfljhcahoaaSyFam
namespace Go.Proofs.Ytmgcpfljhcahoaa
open Go Go.RowKit
namespace Sy
variable {md : Bool}

abbrev Con := FuncId → List V → St → (V → St → Prop) → Prop
abbrev Yld := Nat → List V → St → (V → St → Prop) → Prop
def noYld : Yld := fun _ _ _ _ => False

inductive Ex where
  | normal
  | exit (id : Nat)
  | ret

/-! Operations -/
/-- What asks memory for nothing but to be read. -/
def isNon : Op → Bool
  | .move _ | .assign _ | .pick .. | .nilCheck _ | .fieldAddr .. | .field .. | .indexAddr .. | .index .. | .binOp .. | .unOp .. | .extract .. | .convert .. | .slice .. | .makeInterface .. | .makeFunc .. | .typeAssert .. | .load .. | .build .. | .lookup .. => true
  | .call c => match c.callee with
    | .builtin .len => true
    | .builtin .min => true
    | .builtin .max => true
    | _ => false
  | _ => false
/-- The least, or the greatest one. -/
def mmI (lo : Bool) (a b : Int) : Int := if lo = true then (if b < a then b else a) else if a < b then b else a
def mmP (lo : Bool) (t : Tr V) (c : Call) (K : V → Prop) : Prop := match c.args.toList with
  | [x, y] => withO (opd t x) fun u => withO (opd t y) fun v => match u, v with
    | .int k a, .int _ b => K (.int k (mmI lo a b))
    | _, _ => False
  | _ => False
/-- The value, and the objects that were read. -/
def nonP (P : Program) (o : Oper) (t : Tr V) (s : St) (K : V → List Nat → Prop) : Prop := match o.op with
  | .load ty x => withO (opd t x) fun u => match u with
    | .ptr i off => loadP P s ty (.ptr i off) fun v => K v [i]
    | .ep i j sz fo => loadP P s ty (.ep i j sz fo) fun v => K v [i]
    | .ap i b off => loadP P s ty (.ap i b off) fun v => K v [i]
    | .ae i b j sz fo => loadP P s ty (.ae i b j sz fo) fun v => K v [i]
    | _ => False
  | .call c => match c.callee with
    | .builtin .len => match c.argTypes.toList, c.args.toList with
      | ty :: _, [x] => withO (opd t x) fun u => match u with
        | .mp i => match P.underlying ty with
          | some (.map _ _) => withO (s.H.get i) fun o => match o with
            | .map _ E => K (.int .i64 E.length) [i]
            | .mapb _ E _ => K (.int .i64 E.length) [i]
            | _ => False
          | _ => False
        | u => lenP P ty u fun v => K v []
      | _, _ => False
    | .builtin .min => mmP true t c fun v => K v []
    | .builtin .max => mmP false t c fun v => K v []
    | _ => False
  | .build ty ps => buildP P t ty ps.toList fun v => K v []
  | .lookup ty x y ok => withO (opd t x) fun m => withO (opd t y) fun key => lookP P s ty m key ok K
  | .convert src dst x => withO (opd t x) fun u => match u with
    | .sl i lo sz n _ => bytesP P s src dst i lo sz n K
    | _ => pureP P o t fun v => K v []
  | _ => pureP P o t fun v => K v []
def tailP (P : Program) (Φ : Con) (Y : Yld) (o : Oper) (t : Tr V) (s : St) (K : V → St → Prop) : Prop := match o.op with
  | .store ty x y => withO (opd t x) fun u => withO (opd t y) fun v => match u with
    | .ep i j sz fo => ∃ fv, storeP P s ty (.ep i j sz fo) v fv fun s => K (.tup []) s
    | u => storeP P s ty u v none fun s => K (.tup []) s
  | .alloc e => withO (zeroT P e) fun z => withO (ofV z) fun zv => allocP s e (cellsOf zv) K
  | .box e x => withO (opd t x) fun v => allocP s e (cellsOf v) K
  | .call c => withO (opds t c.args.toList) fun vs => match c.callee with
    | .builtin .append => match c.argTypes.toList, vs with
      | [ty, ty2], [x, y] => match x with
        | .asl i p sz n c => appendAP P s ty ty2 i p sz n c y K
        | x => ∃ fv, appendP P s ty ty2 x y fv K
      | _, _ => False
    | .builtin .delete => match c.argTypes.toList, vs with
      | ty :: _, [m, key] => mapDelP P s ty m key fun s => K (.tup []) s
      | _, _ => False
    | .builtin .clear => match c.argTypes.toList, vs with
      | ty :: _, [.asl i p sz n _] => clearAP P s ty i p sz n K
      | _, _ => False
    | .value f => withO (opd t f) fun f => match f with
      | .fn (.func g) fi ca => Φ g (fi ++ (vs ++ ca)) s K
      | .yl l => Y l vs s K
      | _ => False
    | _ => False
  | .buildSlice ty n ps => buildSliceP P t s ty n ps.toList K
  | .makeSlice ty x y => withO (opd t x) fun u => withO (opd t y) fun v => makeSliceP P s ty u v K
  | .makeMap ty x => makeMapP P t s ty x K
  | .mapUpdate ty m key x => withO (opd t m) fun m => withO (opd t key) fun key => withO (opd t x) fun v => mapSetP P s ty m key v fun s => K (.tup []) s
  | .insert ty m key x => withO (opd t m) fun m => withO (opd t key) fun key => withO (opd t x) fun v => mapSetP P s ty m key v fun s => K (.tup []) s
  | .range ty x => withO (opd t x) fun m => rangeP P s ty m K
  | .next x str => withO (opd t x) fun it => need (!str) (nextP s it K)
  | .entry x => withO (opd t x) fun it => entryP s it K
  | .mapEntry ty m key => withO (opd t m) fun m => withO (opd t key) fun key => mapEntP P s ty m key K
  | .entryStore _ m st x => withO (opd t m) fun m => withO (opd t st) fun st => withO (opd t x) fun v => entSetP s m st v fun s => K (.tup []) s
  | _ => False
def operP (P : Program) (Φ : Con) (Y : Yld) (o : Oper) (t : Tr V) (s : St) (K : V → St → Prop) : Prop := match isNon o.op with
  | true => nonP P o t s fun v _ => K v s
  | false => tailP P Φ Y o t s K

/-- Where a guard is not known, both ways; it is known on each. -/
def wantP (ops : List Oper) (o : Oper) (t : Tr V) (K : Bool → Tr V → Prop) : Prop := match o.guard with
  | none => K true t
  | some (j, want) => withO (ops[j]?) fun oj => withO oj.dst fun d => withO (t.get d) fun v => match v with
    | .bool b => match b == want with
      | true => K true t
      | false => K false t
    | .sb b => (b = want → t.put 60 d (some (.bool want)) fun t => K true t) ∧ (b = !want → t.put 60 d (some (.bool !want)) fun t => K false t)
    | .tup _ => K false t
    | _ => False
def putT (sz : Nat) (t : Tr V) (d : Option Tmp) (v : V) (K : Tr V → Prop) : Prop := match d with
  | none => K t
  | some d => need (Nat.blt d sz) (t.put 60 d (some v) K)
abbrev KTS := Tr V → St → Prop
def opsS (P : Program) (Φ : Con) (Y : Yld) (sz : Nat) (all : List Oper) (o : Oper) (rest : Tr V → St → KTS → Prop) (t : Tr V) (s : St) (K : KTS) : Prop := wantP all o t fun b t => match b with
  | true => operP P Φ Y o t s fun v s => putT sz t o.dst v fun t => rest t s K
  | false => putT sz t o.dst (.tup []) fun t => rest t s K
/-- By the recursor itself: so that what is left of a run is written alike wherever it is reckoned. -/
def opsP (P : Program) (Φ : Con) (Y : Yld) (sz : Nat) (all : List Oper) (l : List Oper) : Tr V → St → KTS → Prop :=
  List.rec (motive := fun _ => Tr V → St → KTS → Prop) (fun t s K => K t s) (fun o _ ih => opsS P Φ Y sz all o ih) l

/-! Regions that draw their order -/
def doneB (done i : Nat) : Bool := Nat.testBit done i
def readyB (done : Nat) (o : Oper) : Bool := o.after.toList.all fun e => !(Region.binds .any e) || doneB done e.on
def nextNon (done : Nat) : Nat → List Oper → Option (Nat × Oper)
  | _, [] => none
  | i, o :: l => bif !doneB done i && isNon o.op && readyB done o then some (i, o) else nextNon done (i + 1) l
def nextTails (done : Nat) : Nat → List Oper → List (Nat × Oper)
  | _, [] => []
  | i, o :: l => bif !doneB done i && !isNon o.op && readyB done o then (i, o) :: nextTails done (i + 1) l else nextTails done (i + 1) l
def befores : List Oper → List Nat → List Nat
  | [], acc => acc
  | o :: l, acc => befores l (acc ++ [o.after.toList.foldl (fun s e => bif Region.binds .any e then Nat.lor (Nat.lor s (2 ^ e.on)) (acc.getD e.on 0) else s) 0])
def befB (all : List Oper) (i j : Nat) : Bool := Nat.testBit ((befores all []).getD j 0) i
def sameH (s s' : St) (l : List Nat) : Prop → Prop := List.rec (motive := fun _ => Prop → Prop) (fun K => K) (fun x _ ih K => s'.H.get x = s.H.get x ∧ ih K) l
def pendP (all : List Oper) (q : Nat) (s s' : St) (l : List (Nat × List Nat)) : Prop → Prop :=
  List.rec (motive := fun _ => Prop → Prop) (fun K => K) (fun p _ ih K => bif befB all p.1 q then ih K else sameH s s' p.2 (ih K)) l
def addPend (i : Nat) (xs : List Nat) (pend : List (Nat × List Nat)) (K : List (Nat × List Nat) → Prop) : Prop := match xs with
  | [] => K pend
  | xs => K ((i, xs) :: pend)
def allTails (f : Nat → Oper → Prop) (l : List (Nat × Oper)) : Prop := List.rec (motive := fun _ => Prop) True (fun p l ih => match l with | [] => f p.1 p.2 | _ => f p.1 p.2 ∧ ih) l
def setDone (done i : Nat) (K : Nat → Prop) : Prop := match Nat.lor done (2 ^ i) with
  | 0 => K 0
  | m + 1 => K (m + 1)
abbrev Draw := (done : Nat) → (pend : List (Nat × List Nat)) → Tr V → St → KTS → Prop
def drawS (P : Program) (Φ : Con) (Y : Yld) (sz : Nat) (all : List Oper) (self : Draw) : Draw := fun done pend t s K => match nextNon done 0 all with
  | some (i, o) => wantP all o t fun b t => match b with
    | true => nonP P o t s fun v xs => putT sz t o.dst v fun t => setDone done i fun done => addPend i xs pend fun pend => self done pend t s K
    | false => putT sz t o.dst (.tup []) fun t => setDone done i fun done => self done pend t s K
  | none => match nextTails done 0 all with
    | [] => K t s
    | q :: qs => allTails (fun i o => wantP all o t fun b t => match b with
      | true => tailP P Φ Y o t s fun v s' => pendP all i s s' pend (putT sz t o.dst v fun t => setDone done i fun done => self done pend t s' K)
      | false => putT sz t o.dst (.tup []) fun t => setDone done i fun done => self done pend t s K) (q :: qs)
def drawP (P : Program) (Φ : Con) (Y : Yld) (sz : Nat) (all : List Oper) (n : Nat) : Draw := Nat.rec (motive := fun _ => Draw) (fun _ _ _ _ _ => False) (fun _ self => drawS P Φ Y sz all self) n

/-! The static check -/
def namesOf (ops : List Oper) (o : Oper) : List Nat := (o.op.operands.toList.filterMap fun | .tmp t => some t | _ => none) ++
  (match o.guard with
   | some (g, _) => (match ops[g]? with | some og => og.dst.toList | none => [])
   | none => [])
def writesB (ops : List Oper) (o o' : Oper) : Bool := match o.dst with
  | some d => (namesOf ops o').any (Nat.beq d)
  | none => false
def pairS (ops : List Oper) (bs : List Nat) (i j : Nat) (oi oj : Oper) : Bool :=
  (Nat.testBit (bs.getD j 0) i || !(writesB ops oi oj || writesB ops oj oi)) && (match oi.dst, oj.dst with | some d, some d' => !(Nat.beq d d') | _, _ => true)
def rowS (ops : List Oper) (bs : List Nat) (j : Nat) (oj : Oper) : Nat → List Oper → Bool
  | _, [] => true
  | i, oi :: l => pairS ops bs i j oi oj && rowS ops bs j oj (i + 1) l
def allS (ops : List Oper) (bs : List Nat) : Nat → List Oper → Bool
  | _, [] => true
  | j, o :: l => rowS ops bs j o 0 (ops.take j) && o.after.toList.all (fun e => !Region.binds .any e || Nat.blt e.on j) && (match o.guard with | some (g, _) => Nat.blt g j | none => true) && allS ops bs (j + 1) l
def staticS (ops : List Oper) : Bool := allS ops (befores ops []) 0 ops
def codeS : Code → Bool
  | .seq x y => codeS x && codeS y
  | .cond _ x y => codeS x && codeS y
  | .block _ x => codeS x
  | .loop x => codeS x
  | .scope x => codeS x
  | .region _ ops true => staticS ops.toList
  | .rangeFunc _ _ asg body => codeS asg && codeS body
  | _ => true

/-! Functions -/
def putArgs : Nat → List V → Tr V → (Tr V → Prop) → Prop
  | _, [], t, k => k t
  | i, v :: l, t, k => t.put 60 i (some v) fun t => putArgs (i + 1) l t k
def putParams (sz : Nat) : List Tmp → List V → Tr V → (Tr V → Prop) → Prop
  | [], [], t, k => k t
  | i :: ps, v :: l, t, k => need (Nat.blt i sz) (t.put 60 i (some v) fun t => putParams sz ps l t k)
  | _, _, _, _ => False
def resultsP (P : Program) (t : Tr V) (s : St) : List ResultVar → (List V → Prop) → Prop
  | [], K => K []
  | .tmp i :: l, K => withO (t.get i) fun v => resultsP P t s l fun vs => K (v :: vs)
  | .cell i ty :: l, K => withO (t.get i) fun u => loadP P s ty u fun v => resultsP P t s l fun vs => K (v :: vs)
/-- What the end of a function collects. -/
def marksP : List Nat → St → (St → Prop) → Prop
  | [], s, K => K s
  | D :: ms, s, K => withO (s.H.get D) fun o => match o with
    | .mark => setP s D none fun s => marksP ms s K
    | _ => False
def endP (P : Program) (fn : Func) (ms : List Nat) (t : Tr V) (s : St) (K : V → St → Prop) : Prop := marksP ms s fun s => resultsP P t s fn.results.toList fun vs => match vs with
  | [v] => K v s
  | vs => K (.tup vs) s

/-! Code -/
abbrev Kont := Ex → List Nat → Tr V → St → Prop
abbrev Body := List Nat → Tr V → St → Kont → Prop
/-- From pr on names may be given anew. -/
def loopP (pr : Nat) (body : Body) (ms : List Nat) (t : Tr V) (s : St) (K : Kont) : Prop := match ms with
  | [] => ∃ (X : Type) (T : X → List (Nat × V)) (S : X → List (Option SObj)) (m : X → Nat) (G : X → Prop) (k : Nat), (∃ x L, G x ∧ castL pr L t s (T x) (S x)) ∧ (∀ x, Nat.beq (S x).length k = true) ∧
      ∀ x, G x → body [] (tOf (T x)) ⟨k, Tr.ofLO 0 (S x) .leaf⟩ fun e ms t s => match e with
        | .normal => match ms with
          | [] => ∃ x' L, m x' < m x ∧ G x' ∧ castL pr L t s (T x') (S x')
          | _ => False
        | .exit i => K (.exit i) ms t s
        | .ret => K .ret ms t s
  | _ => False
/-- One round more of the loop at l. -/
def yieldP (run : Nat → Nat → Code → Body) (l0 : Nat) : Yld := fun l args s K => need (Nat.beq l l0) (match s with | ⟨n, H⟩ => withO (H.get l) fun o => match o with
  | .loop _ _ sz t ps asg bo _ => need (codeS asg && codeS bo) (putParams sz ps args t fun t => run n sz asg [] t ⟨n, H⟩ fun e ms t s1 => match e, ms with
    | .normal, [] => withO (s1.H.get l) fun o => match o with
      | .loop .ready pend sz2 t2 ps2 asg2 bo2 D2 => need (Nat.beq sz sz2) (setP s1 l (some (.loop .busy pend sz2 t2 ps2 asg2 bo2 D2)) fun s1 => run n sz bo [] t s1 fun e _ _ s2 => withO (s2.H.get l) fun o => match o with
        | .loop _ _ sz3 t3 ps3 asg3 bo3 D3 => match e with
          | .normal => setP s2 l (some (.loop .ready none sz3 t3 ps3 asg3 bo3 D3)) fun s => K (.bool true) s
          | .ret => setP s2 l (some (.loop .done (some .ret) sz3 t3 ps3 asg3 bo3 D3)) fun s => K (.bool false) s
          | .exit id => setP s2 l (some (.loop .done (some (.exit id)) sz3 t3 ps3 asg3 bo3 D3)) fun s => K (.bool false) s
        | _ => False)
      | _ => False
    | _, _ => False)
  | _ => False)
/-- The first region that is run. -/
def firstR : Code → Option Nat
  | .region id _ _ => some id
  | .seq x y => match firstR x with
    | some i => some i
    | none => firstR y
  | .scope x => firstR x
  | .block _ x => firstR x
  | .loop x => firstR x
  | _ => none
/-- 1: a cut; 2 (the region's number and 1000): one that keeps what the function's end collects. -/
def cutK (C : List Nat) (y : Code) : Nat := match C with
  | [] => 0
  | C => match firstR y with
    | some i => bif C.any (Nat.beq i) then 1 else bif C.any (Nat.beq (i + 1000)) then 2 else 0
    | none => 0
def marksC (φ : Nat → Option Nat) : List Nat → List Nat → Prop
  | [], [] => True
  | i :: l, j :: m => (match φ i with | some i' => Nat.beq i' j = true | none => False) ∧ marksC φ l m
  | _, _ => False
def cutM (pr : Nat) (bx bY : Body) (ms : List Nat) (t : Tr V) (s : St) (K : Kont) : Prop :=
  ∃ (X : Type) (T : X → List (Nat × V)) (S : X → List (Option SObj)) (M : X → List Nat) (G : X → Prop) (k : Nat), (∀ x, Nat.beq (S x).length k = true) ∧
    (bx ms t s fun e ms t s => match e with
      | .normal => ∃ x L, G x ∧ castL pr L t s (T x) (S x) ∧ marksC (phi pr s.n L) (M x) ms
      | .exit i => K (.exit i) ms t s
      | .ret => K .ret ms t s) ∧
    ∀ x, G x → bY (M x) (tOf (T x)) ⟨k, Tr.ofLO 0 (S x) .leaf⟩ K
/-- Whatever way x took: y from a state that is said. -/
def cutP (pr : Nat) (bx bY : Body) (ms : List Nat) (t : Tr V) (s : St) (K : Kont) : Prop :=
  ∃ (X : Type) (T : X → List (Nat × V)) (S : X → List (Option SObj)) (G : X → Prop) (k : Nat), (∀ x, Nat.beq (S x).length k = true) ∧
    (bx ms t s fun e ms t s => match e with
      | .normal => match ms with
        | [] => ∃ x L, G x ∧ castL pr L t s (T x) (S x)
        | _ => False
      | .exit i => K (.exit i) ms t s
      | .ret => K .ret ms t s) ∧
    ∀ x, G x → bY [] (tOf (T x)) ⟨k, Tr.ofLO 0 (S x) .leaf⟩ K
abbrev Self := (Y : Yld) → (rd : Bool) → (pr sz : Nat) → Code → Body
def codeF (P : Program) (Φ : Con) (C : List Nat) (self : Self) : Self := fun Y rd pr sz c ms t s K => match c with
    | .skip => K .normal ms t s
    | .label _ => K .normal ms t s
    | .scope x => self Y rd pr sz x ms t s K
    | .seq x y => match cutK C y with
      | 1 => cutP pr (self Y rd pr sz x) (self Y rd pr sz y) ms t s K
      | 2 => cutM pr (self Y rd pr sz x) (self Y rd pr sz y) ms t s K
      | _ => self Y rd pr sz x ms t s fun e ms t s => match e with
        | .normal => self Y rd pr sz y ms t s K
        | .exit i => K (.exit i) ms t s
        | .ret => K .ret ms t s
    | .cond c x y => withO (opd t c) fun v => match v with
      | .bool true => self Y rd pr sz x ms t s K
      | .bool false => self Y rd pr sz y ms t s K
      | .sb b => (b = true → self Y rd pr sz x ms t s K) ∧ (b = false → self Y rd pr sz y ms t s K)
      | _ => False
    | .block id x => self Y rd pr sz x ms t s fun e ms t s => match e with
      | .exit j => match Nat.beq j id with
        | true => K .normal ms t s
        | false => K (.exit j) ms t s
      | .normal => K .normal ms t s
      | .ret => K .ret ms t s
    | .loop x => loopP pr (self Y rd pr sz x) ms t s K ∨ self Y rd pr sz x ms t s fun e ms t s => match e with
      | .normal => self Y rd pr sz (.loop x) ms t s K
      | .exit i => K (.exit i) ms t s
      | .ret => K .ret ms t s
    | .exit id => K (.exit id) ms t s
    | .ret => K .ret ms t s
    | .region _ ops false => opsP P Φ Y sz ops.toList ops.toList t s fun t s => K .normal ms t s
    | .region _ ops true => drawP P Φ Y sz ops.toList 10000 0 [] t s fun t s => K .normal ms t s
    | .rangeFunc f ps asg body => match rd with
      | true => False
      | false => withO (opd t f) fun v => match v with
        | .fn (.func g) fi ca => withO (P.funcs[g]?) fun fn => withO fn.body fun c => need (codeS c) (newP s .mark fun D s => newP s (.loop .ready none sz t ps.toList asg body D) fun l s =>
            putArgs 0 (fi ++ (.yl l :: ca)) .leaf fun tg => lenK (fi ++ (.yl l :: ca)) 0 fun k => natP (k + (fn.ntmps - k)) fun sz' => match s with | ⟨n, H⟩ => self (yieldP (fun pr sz c => self Y true pr sz c) l) false n sz' c [] tg ⟨n, H⟩ fun e mg tg sg => match e with
              | .exit _ => False
              | _ => endP P fn mg tg sg fun _ s => withO (s.H.get l) fun o => match o with
                | .loop .busy _ _ _ _ _ _ _ => False
                | .loop _ pend sz' t' ps' asg' bo' D' => setP s l (some (.loop .exhausted pend sz' t' ps' asg' bo' D')) fun s => match pend with
                  | none => K .normal (D :: ms) t s
                  | some c => need (codeS c) (self Y rd pr sz c (D :: ms) t s K)
                | _ => False)
        | _ => False
    | _ => False
def codeP (P : Program) (Φ : Con) (C : List Nat) (n : Nat) : Self := Nat.rec (motive := fun _ => Self) (fun _ _ _ _ _ _ _ _ _ => False) (fun _ self => codeF P Φ C self) n
/-- C: the regions ahead of which the ways are joined. -/
def bodyP (P : Program) (Φ : Con) (C : List Nat) (fn : Func) (c : Code) (args : List V) (s : St) (K : V → St → Prop) : Prop :=
  putArgs 0 args .leaf fun t => lenK args 0 fun k => natP (k + (fn.ntmps - k)) fun sz => match s with | ⟨n, H⟩ => codeP P Φ C 100000 noYld false n sz c [] t ⟨n, H⟩ fun e ms t s => match e with
    | .exit _ => False
    | _ => endP P fn ms t s K

end Sy
end Go.Proofs.Ytmgcpfljhcahoaa
