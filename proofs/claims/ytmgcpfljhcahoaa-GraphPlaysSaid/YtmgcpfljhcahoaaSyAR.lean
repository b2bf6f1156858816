/- One text out of 7. -/
import Derived.Test.YtmgcpfljhcahoaaK1GraphPlays
import Derived.CallsIn
import Derived.Laws.Tables
import Derived.Laws.BytesArg
import Derived.TacticsIn
import Derived.Laws.StructEq
section
namespace Go.Proofs.Ytmgcpfljhcahoaa
open Go
namespace Sy
variable {md : Bool}

/-! Tries, forced as they are laid -/
inductive Tr (α : Type) where
  | leaf
  | node (v : Option α) (l r : Tr α)
def Tr.get {α : Type} : Tr α → Nat → Option α
  | .leaf, _ => none
  | .node v l r, n => match n with
    | 0 => v
    | m + 1 => bif Nat.beq (m % 2) 0 then l.get (m / 2) else r.get (m / 2)
def Tr.put {α : Type} : (fuel : Nat) → Tr α → Nat → Option α → (Tr α → Prop) → Prop
  | 0, _, _, _, _ => False
  | f + 1, .leaf, n, x, k => match n with
    | 0 => k (.node x .leaf .leaf)
    | m + 1 => bif Nat.beq (m % 2) 0 then Tr.put f .leaf (m / 2) x (fun l => k (.node none l .leaf)) else Tr.put f .leaf (m / 2) x (fun r => k (.node none .leaf r))
  | f + 1, .node v l r, n, x, k => match n with
    | 0 => k (.node x l r)
    | m + 1 => bif Nat.beq (m % 2) 0 then Tr.put f l (m / 2) x (fun l => k (.node v l r)) else Tr.put f r (m / 2) x (fun r => k (.node v l r))
/-- Not forced: for the statements. -/
def Tr.set {α : Type} : (fuel : Nat) → Tr α → Nat → Option α → Tr α
  | 0, t, _, _ => t
  | f + 1, .leaf, n, x => match n with
    | 0 => .node x .leaf .leaf
    | m + 1 => bif Nat.beq (m % 2) 0 then .node none (Tr.set f .leaf (m / 2) x) .leaf else .node none .leaf (Tr.set f .leaf (m / 2) x)
  | f + 1, .node v l r, n, x => match n with
    | 0 => .node x l r
    | m + 1 => bif Nat.beq (m % 2) 0 then .node v (Tr.set f l (m / 2) x) r else .node v l (Tr.set f r (m / 2) x)
def Tr.ofL {α : Type} : Nat → List α → Tr α → Tr α
  | _, [], t => t
  | i, x :: l, t => Tr.ofL (i + 1) l (Tr.set 60 t i (some x))

theorem Tr.put_get {α : Type} : ∀ (f : Nat) (t : Tr α) (n : Nat) (x : Option α) (k : Tr α → Prop), t.put f n x k → ∃ t', k t' ∧ ∀ m, t'.get m = if m = n then x else t.get m := by
  intro f
  induction f with
  | zero => intro t n x k h; exact h.elim
  | succ f ih =>
    intro t n x k h
    cases t with
    | leaf =>
      simp only [Tr.put] at h
      cases n with
      | zero => exact ⟨_, h, fun m => by cases m with
        | zero => simp [Tr.get]
        | succ m => simp only [Tr.get]; cases Nat.beq (m % 2) 0 <;> simp⟩
      | succ n =>
        cases hb : Nat.beq (n % 2) 0 with
        | true =>
          simp only [hb, cond_true] at h
          obtain ⟨t', h1, h2⟩ := ih _ _ _ _ h
          refine ⟨_, h1, fun m => ?_⟩
          cases m with
          | zero => simp [Tr.get]
          | succ m =>
            have hb' : n % 2 = 0 := by simpa using hb
            simp only [Tr.get]
            cases hm : Nat.beq (m % 2) 0 with
            | true =>
              have hm' : m % 2 = 0 := by simpa using hm
              simp only [cond_true, h2, Tr.get]
              by_cases e : m / 2 = n / 2
              · rw [if_pos e, if_pos (by omega)]
              · rw [if_neg e, if_neg (by omega)]
            | false =>
              have hm' : m % 2 ≠ 0 := fun e => by rw [e] at hm; cases hm
              simp only [cond_false]
              rw [if_neg (by omega)]
        | false =>
          simp only [hb, cond_false] at h
          obtain ⟨t', h1, h2⟩ := ih _ _ _ _ h
          refine ⟨_, h1, fun m => ?_⟩
          cases m with
          | zero => simp [Tr.get]
          | succ m =>
            have hb' : n % 2 ≠ 0 := fun e => by rw [e] at hb; cases hb
            simp only [Tr.get]
            cases hm : Nat.beq (m % 2) 0 with
            | false =>
              have hm' : m % 2 ≠ 0 := fun e => by rw [e] at hm; cases hm
              simp only [cond_false, h2, Tr.get]
              by_cases e : m / 2 = n / 2
              · rw [if_pos e, if_pos (by omega)]
              · rw [if_neg e, if_neg (by omega)]
            | true =>
              have hm' : m % 2 = 0 := by simpa using hm
              simp only [cond_true]
              rw [if_neg (by omega)]
    | node v l r =>
      simp only [Tr.put] at h
      cases n with
      | zero => exact ⟨_, h, fun m => by cases m <;> simp [Tr.get]⟩
      | succ n =>
        cases hb : Nat.beq (n % 2) 0 with
        | true =>
          simp only [hb, cond_true] at h
          obtain ⟨t', h1, h2⟩ := ih _ _ _ _ h
          refine ⟨_, h1, fun m => ?_⟩
          cases m with
          | zero => simp [Tr.get]
          | succ m =>
            have hb' : n % 2 = 0 := by simpa using hb
            simp only [Tr.get]
            cases hm : Nat.beq (m % 2) 0 with
            | true =>
              have hm' : m % 2 = 0 := by simpa using hm
              simp only [cond_true, h2]
              by_cases e : m / 2 = n / 2
              · rw [if_pos e, if_pos (by omega)]
              · rw [if_neg e, if_neg (by omega)]
            | false =>
              have hm' : m % 2 ≠ 0 := fun e => by rw [e] at hm; cases hm
              simp only [cond_false]
              rw [if_neg (by omega)]
        | false =>
          simp only [hb, cond_false] at h
          obtain ⟨t', h1, h2⟩ := ih _ _ _ _ h
          refine ⟨_, h1, fun m => ?_⟩
          cases m with
          | zero => simp [Tr.get]
          | succ m =>
            have hb' : n % 2 ≠ 0 := fun e => by rw [e] at hb; cases hb
            simp only [Tr.get]
            cases hm : Nat.beq (m % 2) 0 with
            | false =>
              have hm' : m % 2 ≠ 0 := fun e => by rw [e] at hm; cases hm
              simp only [cond_false, h2]
              by_cases e : m / 2 = n / 2
              · rw [if_pos e, if_pos (by omega)]
              · rw [if_neg e, if_neg (by omega)]
            | true =>
              have hm' : m % 2 = 0 := by simpa using hm
              simp only [cond_true]
              rw [if_neg (by omega)]

/-! Values -/
inductive V where
  | int (k : IntKind) (n : Int)
  /-- Known. -/
  | bool (b : Bool)
  /-- Not known. -/
  | sb (b : Bool)
  | str (s : ByteArray)
  /-- Something unknown, or the handle of an object that only its owner knows. -/
  | tok (i : Nat)
  | nilp
  /-- A cell of a block. -/
  | ptr (i off : Nat)
  /-- Cell fo of element j of a row with sz cells for each element. -/
  | ep (i j sz fo : Nat)
  | nils
  /-- n elements of a row from element lo on; full: no room behind. -/
  | sl (i lo sz n : Nat) (full : Bool)
  /-- No element, behind the n that a slice from the row's beginning has. -/
  | sle (i sz n : Nat)
  | nilm
  /-- A map. -/
  | mp (i : Nat)
  | nilf
  /-- What a range over a function hands on. -/
  | yl (i : Nat)
  | nili
  | fn (f : Fn) (fi ca : List V)
  | iface (t : TypeId) (v : V)
  | agg (l : List V)
  | tup (l : List V)
  /-- Cell off of block b, which object i holds. -/
  | ap (i b off : Nat)
  /-- Cell fo of element j of the row in block b, which object i holds. -/
  | ae (i b j sz fo : Nat)
  /-- n elements of a row, room for c, from an element of a block on; or none of none. -/
  | asl (i : Nat) (p : Option (Nat × Nat)) (sz n c : Nat)
  /-- The same of memory that is only read: from a cell of a block on. -/
  | zsl (i : Nat) (p : Option (Nat × Nat)) (sz n c : Nat)

structure Ren where
  β : Nat → Option Nat
  δ : Nat → Nat
  γ : Nat → Nat
  ν : Nat → Bool
  σ : Nat → Option Value
  fp : Nat → Nat → Prop

def fnOk : Fn → Bool
  | .func _ => true
  | .via .. => true
  | _ => false
mutual
def cz (ρ : Ren) : V → Option Value
  | .int k n => some (.int k n)
  | .bool b => some (.bool b)
  | .sb b => some (.bool b)
  | .str s => some (.string s)
  | .tok i => ρ.σ i
  | .nilp => some (.pointer none)
  | .ptr i off => (ρ.β i).map fun b => .pointer (some ⟨b, off, none⟩)
  | .ep i j sz fo => (ρ.β i).map fun b => .pointer (some ⟨b, ρ.δ i + j * sz + fo, none⟩)
  | .nils => some (.slice none 0 0)
  | .sl i lo sz n full => match ρ.β i with
    | some b => if full = true then some (.slice (some ⟨b, ρ.δ i + lo * sz, none⟩) n n) else if lo + n ≤ ρ.γ i then some (.slice (some ⟨b, ρ.δ i + lo * sz, none⟩) n (ρ.γ i - lo)) else none
    | none => if ρ.ν i = true ∧ n = 0 ∧ lo = 0 then some (.slice none 0 0) else none
  | .sle i sz n => match ρ.β i with
    | some b => if n ≤ ρ.γ i then some (.slice (some ⟨b, ρ.δ i + (if ρ.γ i = n then 0 else n * sz), none⟩) 0 (ρ.γ i - n)) else none
    | none => none
  | .nilm => some (.map none)
  | .mp i => (ρ.β i).map fun b => .map (some b)
  | .nilf => some .nilFunc
  | .yl i => (ρ.β i).map fun b => .func (.yield b) #[] #[]
  | .nili => some .nilIface
  | .fn f fi ca => if fnOk f = true then match czl ρ fi, czl ρ ca with
      | some fi', some ca' => some (.func f fi'.toArray ca'.toArray)
      | _, _ => none
    else none
  | .iface t v => (cz ρ v).map fun v' => .iface t v'
  | .agg l => (czl ρ l).map fun l' => .agg l'.toArray
  | .tup l => (czl ρ l).map fun l' => .tuple l'.toArray
  | .ap _ b off => some (.pointer (some ⟨b, off, none⟩))
  | .ae _ b j sz fo => some (.pointer (some ⟨b, j * sz + fo, none⟩))
  | .asl _ p sz n c => some (.slice (p.map fun q => ⟨q.1, q.2 * sz, none⟩) n c)
  | .zsl _ p _ n c => some (.slice (p.map fun q => ⟨q.1, q.2, none⟩) n c)
def czl (ρ : Ren) : List V → Option (List Value)
  | [] => some []
  | v :: l => match cz ρ v, czl ρ l with
    | some v', some l' => some (v' :: l')
    | _, _ => none
end

/-! Objects -/
/-- Keys of maps: numbers of a kind, strings. -/
inductive KT where
  | i (k : IntKind)
  | s
inductive Key where
  | i (n : Int)
  | s (b : ByteArray)
  deriving DecidableEq
def kval : KT → Key → Option Value
  | .i k, .i n => some (.int k n)
  | .s, .s b => some (.string b)
  | _, _ => none
inductive SObj where
  | cells (l : List V) (e : TypeId)
  /-- n elements, of sz cells each; perhaps room behind; of none: perhaps no block. -/
  | row (n : Nat) (f : Nat → List V) (e : TypeId) (sz : Nat)
  /-- A row that is only read, in a block that is known whole. -/
  | ro (c : Obj) (n : Nat) (f : Nat → List V) (e : TypeId) (sz : Nat)
  /-- What a function's end collects. -/
  | mark
  /-- A range over a function that is under way. -/
  | loop (st : LoopState) (pend : Option Code) (sz : Nat) (t : Tr V) (ps : List Tmp) (asg bo : Code) (D : Nat)
  /-- A map: its entries. -/
  | map (κ : KT) (E : List (Key × V))
  /-- A map whose entries' numbers and clock are known. -/
  | mapb (κ : KT) (E : List (Key × V × Nat)) (c : Nat)
  /-- A range over the map m that is under way. -/
  | iter (m since : Nat) (arr : List Nat) (c : Nat)
  /-- Blocks of cells, by their numbers. -/
  | memc (T : TypeId) (M : Nat → Option (List V))
  /-- Rows, by the numbers of their blocks: so many elements are known, so many there are. -/
  | memr (e : TypeId) (sz : Nat) (M : Nat → Option (Nat × Nat × (Nat → List V)))
  /-- Blocks that are only read. -/
  | fz (Z : Nat → Option Obj)
  /-- What only its owner knows. kd: 1 a pointer that is not nil, 2 a map that is not nil, 0 something. -/
  | own (kd : Nat) (I : Value → World → (Nat → Prop) → Prop)

structure St where
  n : Nat
  H : Tr SObj

def oneCells : List V → Bool
  | [] => true
  | .agg _ :: _ => false
  | .tup _ :: _ => false
  | _ :: l => oneCells l
/-- Each element has sz cells, none of them a struct. -/
def RowOk (n : Nat) (f : Nat → List V) (sz : Nat) : Prop := ∀ j, j < n → (f j).length = sz ∧ oneCells (f j) = true
def rowL (f : Nat → List V) (n : Nat) : List V := (List.range n).flatMap f

def czE (ρ : Ren) (κ : KT) : List (Key × V) → List MapEntry → Prop
  | [], [] => True
  | (k, v) :: E, e :: es => kval κ k = some e.key ∧ cz ρ v = some e.val ∧ czE ρ κ E es
  | _, _ => False
def Borns (es : List MapEntry) (c : Nat) : Prop := (∀ e ∈ es, e.born < c) ∧ es.Pairwise fun a b => a.born ≠ b.born

def KdOk : Nat → Value → Prop
  | 1, .pointer (some _) => True
  | 1, _ => False
  | 2, .map (some _) => True
  | 2, _ => False
  | _, _ => True

def sizeT (P : Program) (t : TypeId) : Option Nat := (P.info? t).map (·.size)
def bytesT (P : Program) (t : TypeId) : Option Nat := (P.info? t).map (·.bytes)
def zeroT (P : Program) (t : TypeId) : Option Value := (P.info? t).bind (·.zero)
def isAggT (P : Program) (t : TypeId) : Option Bool := match P.underlying t with
  | some (.struct _) => some true
  | some (.array _ _) => some true
  | some _ => some false
  | none => none

structure TmpsAre (ρ : Ren) (sz : Nat) (t : Tr V) (a : Array Value) : Prop where
  size : a.size = sz
  get : ∀ i v, t.get i = some v → ∃ v', cz ρ v = some v' ∧ a[i]? = some v'

/-- A row of no cells: nil, or somewhere. -/
def NilR (ρ : Ren) (i : Nat) : Prop := (ρ.β i = none ∧ ρ.ν i = true) ∨ ∃ b, ρ.β i = some b ∧ ρ.γ i = 0
def OR (ρ : Ren) (w : World) (i : Nat) : SObj → Prop
  | .cells l e => ∃ b l', ρ.β i = some b ∧ czl ρ l = some l' ∧ w.heap[b]? = some (.cells l'.toArray e (0, 0)) ∧ ∀ k, ρ.fp i k ↔ k = b
  | .row n f e sz => (NilR ρ i ∧ n = 0 ∧ ∀ k, ¬ ρ.fp i k) ∨
      ∃ b pre l' tail, ρ.β i = some b ∧ czl ρ (rowL f n) = some l' ∧ w.heap[b]? = some (.cells (pre ++ l' ++ tail).toArray e (0, 0)) ∧ pre.length = ρ.δ i ∧ (l' ++ tail).length = ρ.γ i * sz ∧ RowOk n f sz ∧ 1 ≤ sz ∧ ∀ k, ρ.fp i k ↔ k = b
  | .ro c n f e sz => (n = 0 ∧ ∀ k, ¬ ρ.fp i k) ∨ ∃ b pre l' tail, ρ.β i = some b ∧ czl ρ (rowL f n) = some l' ∧ w.heap[b]? = some c ∧ (∃ fr, c = .cells (pre ++ l' ++ tail).toArray e fr) ∧ pre.length = ρ.δ i ∧ RowOk n f sz ∧ 1 ≤ sz ∧ ∀ k, ρ.fp i k ↔ k = b
  | .mark => ∃ b, ρ.β i = some b ∧ w.heap[b]? = some (.deferred (some [])) ∧ ∀ k, ρ.fp i k ↔ k = b
  | .loop st pend sz t ps asg bo D => ∃ b fn tm D', ρ.β i = some b ∧ TmpsAre ρ sz t tm ∧ ρ.β D = some D' ∧ w.heap[b]? = some (.loop { state := st, pending := pend, fn := fn, tmps := tm, params := ps.toArray, assign := asg, body := bo, defers := D' }) ∧ ∀ k, ρ.fp i k ↔ k = b
  | .map κ E => ∃ b es c, ρ.β i = some b ∧ w.heap[b]? = some (.map es.toArray c) ∧ czE ρ κ E es ∧ Borns es c ∧ ∀ k, ρ.fp i k ↔ k = b
  | .mapb κ E c => ∃ b es, ρ.β i = some b ∧ w.heap[b]? = some (.map es.toArray c) ∧ czE ρ κ (E.map fun p => (p.1, p.2.1)) es ∧ es.map (·.born) = E.map (fun p => p.2.2) ∧ Borns es c ∧ ∀ k, ρ.fp i k ↔ k = b
  | .iter m since arr c => ∃ b r, ρ.β i = some b ∧ ρ.β m = some r ∧ w.heap[b]? = some (.mapIter (some r) since arr.toArray c) ∧ ∀ k, ρ.fp i k ↔ k = b
  | .memc T M => ∀ b l, M b = some l → ρ.fp i b ∧ ∃ l', czl ρ l = some l' ∧ w.heap[b]? = some (.cells l'.toArray T (0, 0))
  | .memr e sz M => ∀ b N C f, M b = some (N, C, f) → ρ.fp i b ∧ 1 ≤ sz ∧ ∃ l' tail, czl ρ (rowL f N) = some l' ∧ w.heap[b]? = some (.cells (l' ++ tail).toArray e (0, 0)) ∧ (l' ++ tail).length = C * sz ∧ RowOk N f sz
  | .fz Z => ∀ b c, Z b = some c → ρ.fp i b ∧ w.heap[b]? = some c
  | .own kd I => ∃ v, ρ.σ i = some v ∧ KdOk kd v ∧ ∀ w', (∀ k, ρ.fp i k → w'.heap[k]? = w.heap[k]?) → I v w' (ρ.fp i)

def Unb (ρ : Ren) (i : Nat) : Prop := ρ.β i = none ∧ ρ.ν i = false ∧ ρ.σ i = none

structure Rel (ρ : Ren) (s : St) (w : World) : Prop where
  obj : ∀ i o, s.H.get i = some o → OR ρ w i o
  dis : ∀ i j oi oj k, s.H.get i = some oi → s.H.get j = some oj → ρ.fp i k → ρ.fp j k → i = j
  flt : ∀ i o k, s.H.get i = some o → ρ.fp i k → k < w.heap.size
  fresh : ∀ i, s.n ≤ i → Unb ρ i
  live : ∀ i o, s.H.get i = some o → i < s.n
  sig : ∀ i v, ρ.σ i = some v → v.oneCell' = true
  blt : ∀ i b, ρ.β i = some b → b < w.heap.size

structure Agree (ρ ρ' : Ren) (i : Nat) : Prop where
  β : ρ'.β i = ρ.β i
  δ : ρ'.δ i = ρ.δ i
  γ : ρ'.γ i = ρ.γ i
  ν : ρ'.ν i = ρ.ν i
  σ : ρ'.σ i = ρ.σ i
theorem Agree.refl (ρ : Ren) (i : Nat) : Agree ρ ρ i := ⟨rfl, rfl, rfl, rfl, rfl⟩
theorem Agree.trans {ρ ρ' ρ'' : Ren} {i : Nat} (h : Agree ρ ρ' i) (k : Agree ρ' ρ'' i) : Agree ρ ρ'' i := ⟨k.β.trans h.β, k.δ.trans h.δ, k.γ.trans h.γ, k.ν.trans h.ν, k.σ.trans h.σ⟩

/-- pr: so many names mean what they meant. -/
structure Step (md : Bool) (pr : Nat) (s : St) (ρ : Ren) (w : World) (s' : St) (ρ' : Ren) (w' : World) : Prop where
  agree : ∀ i, i < pr → Agree ρ ρ' i
  rel : Rel ρ' s' w'
  keep : ∀ k, k < w.heap.size → (∀ i o, s.H.get i = some o → ¬ ρ.fp i k) → w'.heap[k]? = w.heap[k]?
  new : ∀ i o k, s'.H.get i = some o → ρ'.fp i k → w.heap.size ≤ k ∨ ∃ j oj, s.H.get j = some oj ∧ ρ.fp j k
  size : w.heap.size ≤ w'.heap.size
  os : w'.os = w.os
  tape : w'.tape = w.tape
  output : w'.output = w.output
  le : min pr s.n ≤ s'.n
  drawn : md = true → w.drawn ≤ w'.drawn

section
variable {ρ ρ' ρ'' : Ren} {s s' s'' : St} {w w' w'' : World} {pr pr' : Nat}

theorem Step.refl (h : Rel ρ s w) : Step md pr s ρ w s ρ w := ⟨fun i _ => Agree.refl ρ i, h, fun _ _ _ => rfl, fun i o _ hi hk => .inr ⟨i, o, hi, hk⟩, Nat.le_refl _, rfl, rfl, rfl, Nat.min_le_right .., fun _ => Nat.le_refl _⟩
theorem Step.less (h : Step md pr s ρ w s' ρ' w') (hp : pr' ≤ pr) : Step md pr' s ρ w s' ρ' w' := { h with agree := fun i hi => h.agree i (Nat.lt_of_lt_of_le hi hp), le := by have := h.le; omega }
theorem Step.trans (h : Step md pr s ρ w s' ρ' w') (k : Step md pr s' ρ' w' s'' ρ'' w'') : Step md pr s ρ w s'' ρ'' w'' := by
  refine ⟨fun i hi => (h.agree i hi).trans (k.agree i hi), k.rel, fun b hb hn => ?_, fun i o b hi hb => ?_, Nat.le_trans h.size k.size, k.os.trans h.os, k.tape.trans h.tape, k.output.trans h.output, by have := h.le; have := k.le; omega, fun hm => Nat.le_trans (h.drawn hm) (k.drawn hm)⟩
  · refine (k.keep b (Nat.lt_of_lt_of_le hb h.size) fun i o hi hf => ?_).trans (h.keep b hb hn)
    rcases h.new i o b hi hf with g | ⟨j, oj, g1, g2⟩
    · omega
    · exact hn j oj g1 g2
  · rcases k.new i o b hi hb with g | ⟨j, oj, g1, g2⟩
    · exact .inl (Nat.le_trans h.size g)
    · exact h.new j oj b g1 g2

theorem Step.mono (h : Step md s.n s ρ w s' ρ' w') : s.n ≤ s'.n := by have := h.le; omega

/-! Values and names -/
theorem czl_cons {v : V} {l : List V} {r : List Value} : czl ρ (v :: l) = some r ↔ ∃ v' l', cz ρ v = some v' ∧ czl ρ l = some l' ∧ r = v' :: l' := by
  simp only [czl]
  cases h1 : cz ρ v with
  | none => simp
  | some v' => cases h2 : czl ρ l with
    | none => simp
    | some l' => simp [eq_comm]
theorem czl_nil {r : List Value} : czl ρ [] = some r ↔ r = [] := by simp [czl, eq_comm]
theorem czl_length : ∀ {l : List V} {l' : List Value}, czl ρ l = some l' → l'.length = l.length
  | [], _, h => by rw [czl_nil.1 h]; rfl
  | v :: l, _, h => by
    obtain ⟨v', l1, _, h2, rfl⟩ := czl_cons.1 h
    simp [czl_length h2]
theorem czl_append : ∀ {l m : List V} {l' m' : List Value}, czl ρ l = some l' → czl ρ m = some m' → czl ρ (l ++ m) = some (l' ++ m')
  | [], _, _, _, h, h' => by rw [czl_nil.1 h]; simpa using h'
  | v :: l, m, _, m', h, h' => by
    obtain ⟨v', l1, h1, h2, rfl⟩ := czl_cons.1 h
    exact czl_cons.2 ⟨v', l1 ++ m', h1, czl_append h2 h', rfl⟩
theorem czl_split : ∀ {l m : List V} {r : List Value}, czl ρ (l ++ m) = some r → ∃ l' m', czl ρ l = some l' ∧ czl ρ m = some m' ∧ r = l' ++ m'
  | [], m, r, h => ⟨[], r, by simp [czl], h, rfl⟩
  | v :: l, m, r, h => by
    obtain ⟨v', l1, h1, h2, rfl⟩ := czl_cons.1 h
    obtain ⟨l', m', g1, g2, rfl⟩ := czl_split h2
    exact ⟨v' :: l', m', czl_cons.2 ⟨v', l', h1, g1, rfl⟩, g2, rfl⟩
theorem czl_take : ∀ (n : Nat) {l : List V} {l' : List Value}, czl ρ l = some l' → czl ρ (l.take n) = some (l'.take n)
  | 0, _, _, _ => by simp [czl]
  | n + 1, [], _, h => by rw [czl_nil.1 h]; simp [czl]
  | n + 1, v :: l, _, h => by
    obtain ⟨v', l1, h1, h2, rfl⟩ := czl_cons.1 h
    exact czl_cons.2 ⟨v', _, h1, czl_take n h2, rfl⟩
theorem czl_drop : ∀ (n : Nat) {l : List V} {l' : List Value}, czl ρ l = some l' → czl ρ (l.drop n) = some (l'.drop n)
  | 0, _, _, h => by simpa using h
  | n + 1, [], _, h => by rw [czl_nil.1 h]; simp [czl]
  | n + 1, v :: l, _, h => by
    obtain ⟨v', l1, h1, h2, rfl⟩ := czl_cons.1 h
    simpa using czl_drop n h2
theorem czl_get : ∀ {l : List V} {l' : List Value} (j : Nat) {v : V}, czl ρ l = some l' → l[j]? = some v → ∃ v', l'[j]? = some v' ∧ cz ρ v = some v'
  | [], _, _, _, _, h => by simp at h
  | v :: l, _, 0, u, h, h' => by
    obtain ⟨v', l1, h1, h2, rfl⟩ := czl_cons.1 h
    simp at h'; subst h'
    exact ⟨v', rfl, h1⟩
  | v :: l, _, j + 1, u, h, h' => by
    obtain ⟨v', l1, h1, h2, rfl⟩ := czl_cons.1 h
    simpa using czl_get j h2 (by simpa using h')

/-- Two renamings agree where the first one knows something. -/
def Ext (ρ ρ' : Ren) : Prop := ∀ i, Unb ρ i ∨ Agree ρ ρ' i
theorem Step.ext (hr : Rel ρ s w) (h : Step md pr s ρ w s' ρ' w') (hp : s.n ≤ pr) : Ext ρ ρ' := fun i => by
  rcases Nat.lt_or_ge i s.n with g | g
  · exact .inr (h.agree i (Nat.lt_of_lt_of_le g hp))
  · exact .inl (hr.fresh i g)
theorem ext_of (hr : Rel ρ s w) (h : ∀ i, i < s.n → Agree ρ ρ' i) : Ext ρ ρ' := fun i => by
  rcases Nat.lt_or_ge i s.n with g | g
  · exact .inr (h i g)
  · exact .inl (hr.fresh i g)

mutual
theorem cz_ext (h : Ext ρ ρ') : ∀ (v : V) {v' : Value}, cz ρ v = some v' → cz ρ' v = some v'
  | .int _ _, _, e => e
  | .bool _, _, e => e
  | .sb _, _, e => e
  | .str _, _, e => e
  | .tok i, v', e => by
    simp only [cz] at e ⊢
    rcases h i with g | g
    · rw [g.2.2] at e; cases e
    · rw [g.σ]; exact e
  | .nilp, _, e => e
  | .ptr i off, v', e => by
    simp only [cz] at e ⊢
    rcases h i with g | g
    · rw [g.1] at e; cases e
    · rw [g.β]; exact e
  | .ep i j sz fo, v', e => by
    simp only [cz] at e ⊢
    rcases h i with g | g
    · rw [g.1] at e; cases e
    · rw [g.β, g.δ]; exact e
  | .nils, _, e => e
  | .sl i lo sz n full, v', e => by
    simp only [cz] at e ⊢
    rcases h i with g | g
    · rw [g.1, g.2.1] at e; simp at e
    · rw [g.β, g.δ, g.γ, g.ν]; exact e
  | .sle i sz n, v', e => by
    simp only [cz] at e ⊢
    rcases h i with g | g
    · rw [g.1] at e; cases e
    · rw [g.β, g.δ, g.γ]; exact e
  | .nilm, _, e => e
  | .mp i, v', e => by
    simp only [cz] at e ⊢
    rcases h i with g | g
    · rw [g.1] at e; cases e
    · rw [g.β]; exact e
  | .nilf, _, e => e
  | .yl i, v', e => by
    simp only [cz] at e ⊢
    rcases h i with g | g
    · rw [g.1] at e; cases e
    · rw [g.β]; exact e
  | .nili, _, e => e
  | .fn f fi ca, v', e => by
    simp only [cz] at e ⊢
    split at e
    · rename_i hf
      rw [if_pos hf]
      cases h1 : czl ρ fi with
      | none => simp [h1] at e
      | some fi' => cases h2 : czl ρ ca with
        | none => simp [h1, h2] at e
        | some ca' => rw [czl_ext h fi h1, czl_ext h ca h2]; simpa [h1, h2] using e
    · cases e
  | .iface t v, v', e => by
    simp only [cz, Option.map_eq_some_iff] at e ⊢
    obtain ⟨a', ha, rfl⟩ := e
    exact ⟨a', cz_ext h v ha, rfl⟩
  | .agg a, v', e => by
    simp only [cz, Option.map_eq_some_iff] at e ⊢
    obtain ⟨a', ha, rfl⟩ := e
    exact ⟨a', czl_ext h a ha, rfl⟩
  | .tup a, v', e => by
    simp only [cz, Option.map_eq_some_iff] at e ⊢
    obtain ⟨a', ha, rfl⟩ := e
    exact ⟨a', czl_ext h a ha, rfl⟩
  | .ap _ _ _, _, e => e
  | .ae _ _ _ _ _, _, e => e
  | .asl _ _ _ _ _, _, e => e
  | .zsl _ _ _ _ _, _, e => e
theorem czl_ext (h : Ext ρ ρ') : ∀ (l : List V) {l' : List Value}, czl ρ l = some l' → czl ρ' l = some l'
  | [], _, e => by simpa only [czl] using e
  | v :: l, l', e => by
    simp only [czl] at e ⊢
    cases h1 : cz ρ v with
    | none => simp [h1] at e
    | some v' => cases h2 : czl ρ l with
      | none => simp [h1, h2] at e
      | some l1 => rw [cz_ext h v h1, czl_ext h l h2]; simpa [h1, h2] using e
end
theorem TmpsAre.ext (h : Ext ρ ρ') {sz : Nat} {t : Tr V} {a : Array Value} (ht : TmpsAre ρ sz t a) : TmpsAre ρ' sz t a :=
  ⟨ht.size, fun i v hv => let ⟨v', h1, h2⟩ := ht.get i v hv; ⟨v', cz_ext h v h1, h2⟩⟩
theorem β_ext (h : Ext ρ ρ') {i b : Nat} (hi : ρ.β i = some b) : ρ'.β i = some b := by
  rcases h i with g | g
  · rw [g.1] at hi; cases hi
  · rw [g.β]; exact hi
theorem czE_ext (h : Ext ρ ρ') {κ : KT} : ∀ {E : List (Key × V)} {es : List MapEntry}, czE ρ κ E es → czE ρ' κ E es
  | [], [], _ => trivial
  | (_, _) :: _, _ :: _, ⟨h1, h2, h3⟩ => ⟨h1, cz_ext h _ h2, czE_ext h h3⟩
  | [], _ :: _, h => h.elim
  | _ :: _, [], h => h.elim
end
end Sy
end Go.Proofs.Ytmgcpfljhcahoaa
end
section
namespace Go.Proofs.Ytmgcpfljhcahoaa
open Go Go.RowKit
namespace Sy
variable {md : Bool}

def Ren.add (ρ : Ren) (i : Nat) (b : Option Nat) (d g : Nat) (nu : Bool) (v : Option Value) (F : Nat → Prop) : Ren :=
  ⟨fun j => if j = i then b else ρ.β j, fun j => if j = i then d else ρ.δ j, fun j => if j = i then g else ρ.γ j, fun j => if j = i then nu else ρ.ν j, fun j => if j = i then v else ρ.σ j, fun j => if j = i then F else ρ.fp j⟩
def Ren.foot (ρ : Ren) (i : Nat) (F : Nat → Prop) : Ren := { ρ with fp := fun j => if j = i then F else ρ.fp j }

section
variable {ρ ρ' ρ'' : Ren} {s s' s'' : St} {w w' w'' : World} {pr pr' : Nat}

theorem add_agree {i j : Nat} (h : j ≠ i) (b : Option Nat) (d g : Nat) (nu : Bool) (v : Option Value) (F : Nat → Prop) : Agree ρ (ρ.add i b d g nu v F) j :=
  ⟨if_neg h, if_neg h, if_neg h, if_neg h, if_neg h⟩
theorem add_fp {i j : Nat} (h : j ≠ i) (b : Option Nat) (d g : Nat) (nu : Bool) (v : Option Value) (F : Nat → Prop) : (ρ.add i b d g nu v F).fp j = ρ.fp j := if_neg h
theorem add_ext {i : Nat} (h : Unb ρ i) (b : Option Nat) (d g : Nat) (nu : Bool) (v : Option Value) (F : Nat → Prop) : Ext ρ (ρ.add i b d g nu v F) := fun j => by
  by_cases e : j = i
  · exact .inl (e ▸ h)
  · exact .inr (add_agree e ..)
theorem Ext.refl (ρ : Ren) : Ext ρ ρ := fun i => .inr (Agree.refl ρ i)
theorem Ext.foot (ρ : Ren) (i : Nat) (F : Nat → Prop) : Ext ρ (ρ.foot i F) := fun _ => .inr ⟨rfl, rfl, rfl, rfl, rfl⟩

theorem OR.keep {i : Nat} {o : SObj} (h : OR ρ w i o) (hk : ∀ k, ρ.fp i k → w'.heap[k]? = w.heap[k]?) : OR ρ w' i o := by
  cases o with
  | cells l e =>
    obtain ⟨b, l', h1, h2, h3, h4⟩ := h
    exact ⟨b, l', h1, h2, (hk b ((h4 b).2 rfl)).trans h3, h4⟩
  | row n f e sz =>
    rcases h with h | ⟨b, pre, l', tail, h1, h2, h3, h8, h4, h5, h6, h7⟩
    · exact .inl h
    · exact .inr ⟨b, pre, l', tail, h1, h2, (hk b ((h7 b).2 rfl)).trans h3, h8, h4, h5, h6, h7⟩
  | ro c n f e sz =>
    rcases h with h | ⟨b, pre, l', tail, h1, h2, h3, h4, h8, h5, h6, h7⟩
    · exact .inl h
    · exact .inr ⟨b, pre, l', tail, h1, h2, (hk b ((h7 b).2 rfl)).trans h3, h4, h8, h5, h6, h7⟩
  | mark =>
    obtain ⟨b, h1, h2, h3⟩ := h
    exact ⟨b, h1, (hk b ((h3 b).2 rfl)).trans h2, h3⟩
  | loop st pend sz t ps asg bo D =>
    obtain ⟨b, fn, tm, D', h1, h2, h3, h4, h5⟩ := h
    exact ⟨b, fn, tm, D', h1, h2, h3, (hk b ((h5 b).2 rfl)).trans h4, h5⟩
  | map κ E =>
    obtain ⟨b, es, c, h1, h2, h3, h4, h5⟩ := h
    exact ⟨b, es, c, h1, (hk b ((h5 b).2 rfl)).trans h2, h3, h4, h5⟩
  | mapb κ E c =>
    obtain ⟨b, es, h1, h2, h3, h6, h4, h5⟩ := h
    exact ⟨b, es, h1, (hk b ((h5 b).2 rfl)).trans h2, h3, h6, h4, h5⟩
  | iter m since arr c =>
    obtain ⟨b, r, h1, h2, h3, h5⟩ := h
    exact ⟨b, r, h1, h2, (hk b ((h5 b).2 rfl)).trans h3, h5⟩
  | memc T M =>
    exact fun b l hb => let ⟨g0, l', g1, g2⟩ := h b l hb; ⟨g0, l', g1, (hk b g0).trans g2⟩
  | memr e sz M =>
    exact fun b N C f hb => let ⟨g0, h0, l', tail, g1, g2, g3⟩ := h b N C f hb; ⟨g0, h0, l', tail, g1, (hk b g0).trans g2, g3⟩
  | fz Z => exact fun b c hb => let ⟨g0, g1⟩ := h b c hb; ⟨g0, (hk b g0).trans g1⟩
  | own kd I =>
    obtain ⟨v, h1, h2, h3⟩ := h
    exact ⟨v, h1, h2, fun w2 hw => h3 w2 fun k hf => (hw k hf).trans (hk k hf)⟩
theorem OR.ext (hE : Ext ρ ρ') {i : Nat} (ha : Agree ρ ρ' i) (hf : ρ'.fp i = ρ.fp i) {o : SObj} (h : OR ρ w i o) : OR ρ' w i o := by
  cases o with
  | cells l e =>
    obtain ⟨b, l', h1, h2, h3, h4⟩ := h
    exact ⟨b, l', ha.β.trans h1, czl_ext hE _ h2, h3, by rw [hf]; exact h4⟩
  | row n f e sz =>
    rcases h with ⟨h1, h3, h4⟩ | ⟨b, pre, l', tail, h1, h2, h3, h8, h4, h5, h6, h7⟩
    · refine .inl ⟨?_, h3, by rw [hf]; exact h4⟩
      rcases h1 with ⟨h1, h2⟩ | ⟨b, h1, h2⟩
      · exact .inl ⟨ha.β.trans h1, ha.ν.trans h2⟩
      · exact .inr ⟨b, ha.β.trans h1, ha.γ.trans h2⟩
    · exact .inr ⟨b, pre, l', tail, ha.β.trans h1, czl_ext hE _ h2, h3, by rw [ha.δ]; exact h8, by rw [ha.γ]; exact h4, h5, h6, by rw [hf]; exact h7⟩
  | ro c n f e sz =>
    rcases h with ⟨h3, h4⟩ | ⟨b, pre, l', tail, h1, h2, h3, h4, h8, h5, h6, h7⟩
    · exact .inl ⟨h3, by rw [hf]; exact h4⟩
    · exact .inr ⟨b, pre, l', tail, ha.β.trans h1, czl_ext hE _ h2, h3, h4, by rw [ha.δ]; exact h8, h5, h6, by rw [hf]; exact h7⟩
  | mark =>
    obtain ⟨b, h1, h2, h3⟩ := h
    exact ⟨b, ha.β.trans h1, h2, by rw [hf]; exact h3⟩
  | loop st pend sz t ps asg bo D =>
    obtain ⟨b, fn, tm, D', h1, h2, h3, h4, h5⟩ := h
    exact ⟨b, fn, tm, D', ha.β.trans h1, h2.ext hE, β_ext hE h3, h4, by rw [hf]; exact h5⟩
  | map κ E =>
    obtain ⟨b, es, c, h1, h2, h3, h4, h5⟩ := h
    exact ⟨b, es, c, ha.β.trans h1, h2, czE_ext hE h3, h4, by rw [hf]; exact h5⟩
  | mapb κ E c =>
    obtain ⟨b, es, h1, h2, h3, h6, h4, h5⟩ := h
    exact ⟨b, es, ha.β.trans h1, h2, czE_ext hE h3, h6, h4, by rw [hf]; exact h5⟩
  | iter m since arr c =>
    obtain ⟨b, r, h1, h2, h3, h5⟩ := h
    exact ⟨b, r, ha.β.trans h1, β_ext hE h2, h3, by rw [hf]; exact h5⟩
  | memc T M =>
    exact fun b l hb => let ⟨g0, l', g1, g2⟩ := h b l hb; ⟨by rw [hf]; exact g0, l', czl_ext hE _ g1, g2⟩
  | memr e sz M =>
    exact fun b N C f hb => let ⟨g0, h0, l', tail, g1, g2, g3⟩ := h b N C f hb; ⟨by rw [hf]; exact g0, h0, l', tail, czl_ext hE _ g1, g2, g3⟩
  | fz Z => exact fun b c hb => let ⟨g0, g1⟩ := h b c hb; ⟨by rw [hf]; exact g0, g1⟩
  | own kd I =>
    obtain ⟨v, h1, h2, h3⟩ := h
    exact ⟨v, ha.σ.trans h1, h2, by rw [hf]; exact h3⟩

theorem Rel.none (h : Rel ρ s w) : s.H.get s.n = .none := by
  cases hg : s.H.get s.n with
  | none => rfl
  | some o => exact absurd (h.live _ _ hg) (Nat.lt_irrefl _)

/-- A new name. -/
theorem Step.new1 (h : Rel ρ s w) {b : Option Nat} {d g : Nat} {nu : Bool} {v : Option Value} {F : Nat → Prop} {o : SObj} {H : Tr SObj} (hH : ∀ m, H.get m = if m = s.n then some o else s.H.get m)
    (ho : OR (ρ.add s.n b d g nu v F) w' s.n o) (hold : ∀ k, k < w.heap.size → w'.heap[k]? = w.heap[k]?) (hF : ∀ k, F k → w.heap.size ≤ k ∧ k < w'.heap.size) (hb : ∀ x, b = some x → x < w'.heap.size)
    (hv : ∀ x, v = some x → x.oneCell' = true) (hs : w.heap.size ≤ w'.heap.size) (h1 : w'.os = w.os) (h2 : w'.tape = w.tape) (h3 : w'.output = w.output) (hdr : w.drawn ≤ w'.drawn := by first | exact Nat.le_refl _ | exact Nat.le_succ _ | assumption) :
    Step md s.n s ρ w ⟨s.n + 1, H⟩ (ρ.add s.n b d g nu v F) w' := by
  have hne : ∀ {i}, i < s.n → i ≠ s.n := fun h => Nat.ne_of_lt h
  have hext := add_ext (h.fresh s.n (Nat.le_refl _)) b d g nu v F
  have hfn : (ρ.add s.n b d g nu v F).fp s.n = F := if_pos rfl
  have hg : ∀ i oi, H.get i = some oi → (i = s.n ∧ oi = o) ∨ (i < s.n ∧ i ≠ s.n ∧ s.H.get i = some oi) := fun i oi hi => by
    rw [hH] at hi
    split at hi
    · rename_i e; cases hi; exact .inl ⟨e, rfl⟩
    · exact .inr ⟨h.live _ _ hi, by assumption, hi⟩
  refine ⟨fun i hi => add_agree (hne hi) .., ⟨fun i oi hi => ?_, fun i j oi oj k hi hj hfi hfj => ?_, fun i oi k hi hf => ?_, fun i hi => ?_, fun i oi hi => ?_, fun i x hx => ?_, fun i x hx => ?_⟩, fun k hk _ => hold k hk, fun i oi k hi hf => ?_, hs, h1, h2, h3, by show min _ _ ≤ s.n + 1; omega, fun _ => hdr⟩
  · rcases hg i oi hi with ⟨rfl, rfl⟩ | ⟨hlt, hn, hi⟩
    · exact ho
    · exact ((h.obj i oi hi).keep fun k hk => hold k (h.flt i oi k hi hk)).ext hext (add_agree hn ..) (add_fp hn ..)
  · rcases hg i oi hi with ⟨rfl, rfl⟩ | ⟨hlt, hn, hi⟩ <;> rcases hg j oj hj with ⟨rfl, rfl⟩ | ⟨hlt', hn', hj⟩
    · rfl
    · rw [hfn] at hfi
      rw [add_fp hn'] at hfj
      have := h.flt j oj k hj hfj
      have := (hF k hfi).1
      omega
    · rw [hfn] at hfj
      rw [add_fp hn] at hfi
      have := h.flt i oi k hi hfi
      have := (hF k hfj).1
      omega
    · rw [add_fp hn] at hfi
      rw [add_fp hn'] at hfj
      exact h.dis i j oi oj k hi hj hfi hfj
  · rcases hg i oi hi with ⟨rfl, rfl⟩ | ⟨hlt, hn, hi⟩
    · rw [hfn] at hf; exact (hF k hf).2
    · rw [add_fp hn] at hf; exact Nat.lt_of_lt_of_le (h.flt i oi k hi hf) hs
  · have hi' : s.n + 1 ≤ i := hi
    have a := add_agree (ρ := ρ) (i := s.n) (j := i) (by omega) b d g nu v F
    have u := h.fresh i (by omega)
    exact ⟨a.β.trans u.1, a.ν.trans u.2.1, a.σ.trans u.2.2⟩
  · rcases hg i oi hi with ⟨rfl, rfl⟩ | ⟨hlt, hn, hi⟩
    · exact Nat.lt_succ_self _
    · exact Nat.lt_succ_of_lt hlt
  · by_cases e : i = s.n
    · subst e; exact hv x (by simpa [Ren.add] using hx)
    · exact h.sig i x ((add_agree (ρ := ρ) e b d g nu v F).σ ▸ hx)
  · by_cases e : i = s.n
    · subst e; exact hb x (by simpa [Ren.add] using hx)
    · exact Nat.lt_of_lt_of_le (h.blt i x ((add_agree (ρ := ρ) e b d g nu v F).β ▸ hx)) hs
  · rcases hg i oi hi with ⟨rfl, rfl⟩ | ⟨hlt, hn, hi⟩
    · rw [hfn] at hf; exact .inl (hF k hf).1
    · rw [add_fp hn] at hf; exact .inr ⟨i, oi, hi, hf⟩

/-- An object turns, in its own blocks. -/
theorem Step.set (h : Rel ρ s w) {i : Nat} {o0 o : SObj} (hi : s.H.get i = some o0) {H : Tr SObj} (hH : ∀ m, H.get m = if m = i then some o else s.H.get m) (ho : OR ρ w' i o)
    (hk : ∀ k, ¬ ρ.fp i k → w'.heap[k]? = w.heap[k]?) (hsz : w'.heap.size = w.heap.size) (h1 : w'.os = w.os) (h2 : w'.tape = w.tape) (h3 : w'.output = w.output) (hdr : w.drawn ≤ w'.drawn := by first | exact Nat.le_refl _ | exact Nat.le_succ _ | assumption) :
    Step md s.n s ρ w ⟨s.n, H⟩ ρ w' := by
  have hg : ∀ j oj, H.get j = some oj → (j = i ∧ oj = o) ∨ (j ≠ i ∧ s.H.get j = some oj) := fun j oj hj => by
    rw [hH] at hj
    split at hj
    · rename_i e; cases hj; exact .inl ⟨e, rfl⟩
    · exact .inr ⟨by assumption, hj⟩
  have hg' : ∀ j oj, H.get j = some oj → ∃ oj', s.H.get j = some oj' := fun j oj hj => by
    rcases hg j oj hj with ⟨rfl, _⟩ | ⟨_, hj⟩
    · exact ⟨_, hi⟩
    · exact ⟨_, hj⟩
  refine ⟨fun j _ => Agree.refl ρ j, ⟨fun j oj hj => ?_, fun j k oj ok x hj hk' hx hy => ?_, fun j oj k hj hf => ?_, h.fresh, fun j oj hj => ?_, h.sig, fun j b hb => by rw [hsz]; exact h.blt j b hb⟩, fun k _ hn => hk k (hn i o0 hi), fun j oj k hj hf => ?_, by omega, h1, h2, h3, by show min _ _ ≤ s.n; omega, fun _ => hdr⟩
  · rcases hg j oj hj with ⟨rfl, rfl⟩ | ⟨hn, hj⟩
    · exact ho
    · exact (h.obj j oj hj).keep fun k hf => hk k fun g => hn (h.dis j i oj o0 k hj hi hf g)
  · obtain ⟨o1, hj⟩ := hg' j oj hj
    obtain ⟨o2, hk'⟩ := hg' k ok hk'
    exact h.dis j k o1 o2 x hj hk' hx hy
  · obtain ⟨o1, hj⟩ := hg' j oj hj
    rw [hsz]; exact h.flt j o1 k hj hf
  · obtain ⟨o1, hj⟩ := hg' j oj hj
    exact h.live j o1 hj
  · obtain ⟨o1, hj⟩ := hg' j oj hj
    exact .inr ⟨j, o1, hj, hf⟩

/-- An object's blocks go over to a new name, and may turn. -/
theorem Step.move (h : Rel ρ s w) {i : Nat} {o0 o : SObj} (hi : s.H.get i = some o0) {b : Option Nat} {d g : Nat} {nu : Bool} {v : Option Value} {H1 H : Tr SObj} (hH1 : ∀ m, H1.get m = if m = i then none else s.H.get m)
    (hH : ∀ m, H.get m = if m = s.n then some o else H1.get m) (ho : OR (ρ.add s.n b d g nu v (ρ.fp i)) w' s.n o) (hk : ∀ k, ¬ ρ.fp i k → w'.heap[k]? = w.heap[k]?) (hb : ∀ x, b = some x → x < w'.heap.size)
    (hv : ∀ x, v = some x → x.oneCell' = true) (hsz : w'.heap.size = w.heap.size) (h1 : w'.os = w.os) (h2 : w'.tape = w.tape) (h3 : w'.output = w.output) (hdr : w.drawn ≤ w'.drawn := by first | exact Nat.le_refl _ | exact Nat.le_succ _ | assumption) :
    Step md s.n s ρ w ⟨s.n + 1, H⟩ (ρ.add s.n b d g nu v (ρ.fp i)) w' := by
  have hin := h.live i o0 hi
  have hext := add_ext (h.fresh s.n (Nat.le_refl _)) b d g nu v (ρ.fp i)
  have hfn : (ρ.add s.n b d g nu v (ρ.fp i)).fp s.n = ρ.fp i := if_pos rfl
  have hg : ∀ j oj, H.get j = some oj → (j = s.n ∧ oj = o) ∨ (j < s.n ∧ j ≠ s.n ∧ j ≠ i ∧ s.H.get j = some oj) := fun j oj hj => by
    rw [hH] at hj
    split at hj
    · rename_i e; cases hj; exact .inl ⟨e, rfl⟩
    · rename_i hn
      rw [hH1] at hj
      split at hj
      · cases hj
      · exact .inr ⟨h.live _ _ hj, hn, by assumption, hj⟩
  refine ⟨fun j hj => add_agree (Nat.ne_of_lt hj) .., ⟨fun j oj hj => ?_, fun j k oj ok x hj hk' hx hy => ?_, fun j oj k hj hf => ?_, fun j hj => ?_, fun j oj hj => ?_, fun j x hx => ?_, fun j x hx => ?_⟩, fun k _ hn => hk k (hn i o0 hi), fun j oj k hj hf => ?_, by omega, h1, h2, h3, by show min _ _ ≤ s.n + 1; omega, fun _ => hdr⟩
  · rcases hg j oj hj with ⟨rfl, rfl⟩ | ⟨hlt, hn, hni, hj⟩
    · exact ho
    · exact ((h.obj j oj hj).keep fun k hf => hk k fun g => hni (h.dis j i oj o0 k hj hi hf g)).ext hext (add_agree hn ..) (add_fp hn ..)
  · rcases hg j oj hj with ⟨rfl, rfl⟩ | ⟨hlt, hn, hni, hj⟩ <;> rcases hg k ok hk' with ⟨rfl, rfl⟩ | ⟨hlt', hn', hni', hk'⟩
    · rfl
    · rw [hfn] at hx
      rw [add_fp hn'] at hy
      exact absurd (h.dis k i ok o0 x hk' hi hy hx) hni'
    · rw [hfn] at hy
      rw [add_fp hn] at hx
      exact absurd (h.dis j i oj o0 x hj hi hx hy) hni
    · rw [add_fp hn] at hx
      rw [add_fp hn'] at hy
      exact h.dis j k oj ok x hj hk' hx hy
  · rw [hsz]
    rcases hg j oj hj with ⟨rfl, rfl⟩ | ⟨hlt, hn, hni, hj⟩
    · rw [hfn] at hf; exact h.flt i o0 k hi hf
    · rw [add_fp hn] at hf; exact h.flt j oj k hj hf
  · have hj' : s.n + 1 ≤ j := hj
    have a := add_agree (ρ := ρ) (i := s.n) (j := j) (by omega) b d g nu v (ρ.fp i)
    have u := h.fresh j (by omega)
    exact ⟨a.β.trans u.1, a.ν.trans u.2.1, a.σ.trans u.2.2⟩
  · rcases hg j oj hj with ⟨rfl, rfl⟩ | ⟨hlt, hn, hni, hj⟩
    · exact Nat.lt_succ_self _
    · exact Nat.lt_succ_of_lt hlt
  · by_cases e : j = s.n
    · subst e; exact hv x (by simpa [Ren.add] using hx)
    · exact h.sig j x ((add_agree (ρ := ρ) e b d g nu v (ρ.fp i)).σ ▸ hx)
  · by_cases e : j = s.n
    · subst e; exact hb x (by simpa [Ren.add] using hx)
    · rw [hsz]; exact h.blt j x ((add_agree (ρ := ρ) e b d g nu v (ρ.fp i)).β ▸ hx)
  · rcases hg j oj hj with ⟨rfl, rfl⟩ | ⟨hlt, hn, hni, hj⟩
    · rw [hfn] at hf; exact .inr ⟨i, o0, hi, hf⟩
    · rw [add_fp hn] at hf; exact .inr ⟨j, oj, hj, hf⟩

/-- An object is given up. -/
theorem Step.drop (h : Rel ρ s w) {i : Nat} {H : Tr SObj} (hH : ∀ m, H.get m = if m = i then none else s.H.get m) : Step md s.n s ρ w ⟨s.n, H⟩ ρ w := by
  have hg : ∀ j oj, H.get j = some oj → s.H.get j = some oj := fun j oj hj => by
    rw [hH] at hj
    split at hj
    · cases hj
    · exact hj
  exact ⟨fun j _ => Agree.refl ρ j, ⟨fun j oj hj => h.obj j oj (hg j oj hj), fun j k oj ok x hj hk => h.dis j k oj ok x (hg j oj hj) (hg k ok hk), fun j oj k hj => h.flt j oj k (hg j oj hj), h.fresh, fun j oj hj => h.live j oj (hg j oj hj), h.sig, h.blt⟩,
    fun _ _ _ => rfl, fun j oj _ hj hf => .inr ⟨j, oj, hg j oj hj, hf⟩, Nat.le_refl _, rfl, rfl, rfl, by show min _ _ ≤ s.n; omega, fun _ => Nat.le_refl _⟩

/-- Only new memory that has no name. -/
theorem Step.more (h : Rel ρ s w) (hb : Below w.heap.size w w') (hdr : md = true → w.drawn ≤ w'.drawn := by first | exact fun _ => Nat.le_refl _ | exact fun _ => Nat.le_succ _ | assumption) : Step md s.n s ρ w s ρ w' :=
  ⟨fun j _ => Agree.refl ρ j, ⟨fun j oj hj => (h.obj j oj hj).keep fun k hf => hb.block k (h.flt j oj k hj hf), h.dis, fun j oj k hj hf => Nat.lt_of_lt_of_le (h.flt j oj k hj hf) hb.size, h.fresh, h.live, h.sig, fun j b hj => Nat.lt_of_lt_of_le (h.blt j b hj) hb.size⟩,
    fun k hk _ => hb.block k hk, fun j oj _ hj hf => .inr ⟨j, oj, hj, hf⟩, hb.size, hb.os, hb.tape, hb.output, Nat.min_le_right .., hdr⟩

/-- A new block of cells. -/
theorem Step.cells (h : Rel ρ s w) {l : List V} {l' : List Value} {e : TypeId} (hl : czl ρ l = some l') {H : Tr SObj} (hH : ∀ m, H.get m = if m = s.n then some (.cells l e) else s.H.get m) {d : Nat} (hdr : w.drawn ≤ d := by first | exact Nat.le_refl _ | exact Nat.le_succ _ | assumption) :
    Step md s.n s ρ w ⟨s.n + 1, H⟩ (ρ.add s.n (some w.heap.size) 0 0 false none (· = w.heap.size)) { w.alloc (.cells l'.toArray e) with drawn := d } := by
  refine Step.new1 h hH ⟨w.heap.size, l', by simp [Ren.add], czl_ext (add_ext (h.fresh _ (Nat.le_refl _)) _ _ _ _ _ _) _ hl, heap_alloc_new w _, fun k => by simp [Ren.add]⟩ (fun k hk => Below.heap_alloc w _ k hk) (fun k hk => ?_) (fun x hx => ?_) (fun x hx => by cases hx) ?_ rfl rfl rfl
  · subst hk; exact ⟨Nat.le_refl _, by show _ < (w.alloc _).heap.size; rw [World.size_alloc]; omega⟩
  · cases hx; show _ < (w.alloc _).heap.size; rw [World.size_alloc]; omega
  · show _ ≤ (w.alloc _).heap.size; rw [World.size_alloc]; omega
theorem cz_ptr_new {g : Nat} {F : Nat → Prop} {b : Nat} (i : Nat) : cz (ρ.add i (some b) 0 g false none F) (.ptr i 0) = some (.pointer (some ⟨b, 0, none⟩)) := by simp [cz, Ren.add]

/-- A new row. -/
theorem Step.row (h : Rel ρ s w) {n m : Nat} {f : Nat → List V} {l' tail : List Value} {e : TypeId} {sz : Nat} (hl : czl ρ (rowL f n) = some l') (hf : RowOk n f sz) (hsz : 1 ≤ sz) (hm : (l' ++ tail).length = m * sz) {H : Tr SObj} (hH : ∀ m, H.get m = if m = s.n then some (.row n f e sz) else s.H.get m) {d : Nat} (hdr : w.drawn ≤ d := by first | exact Nat.le_refl _ | exact Nat.le_succ _ | assumption) :
    Step md s.n s ρ w ⟨s.n + 1, H⟩ (ρ.add s.n (some w.heap.size) 0 m false none (· = w.heap.size)) { w.alloc (.cells (l' ++ tail).toArray e) with drawn := d } := by
  refine Step.new1 h hH (.inr ⟨w.heap.size, [], l', tail, by simp [Ren.add], czl_ext (add_ext (h.fresh _ (Nat.le_refl _)) _ _ _ _ _ _) _ hl, heap_alloc_new w _, by simp [Ren.add], by simpa [Ren.add] using hm, hf, hsz, fun k => by simp [Ren.add]⟩) (fun k hk => Below.heap_alloc w _ k hk) (fun k hk => ?_) (fun x hx => ?_) (fun x hx => by cases hx) ?_ rfl rfl rfl
  · subst hk; exact ⟨Nat.le_refl _, by show _ < (w.alloc _).heap.size; rw [World.size_alloc]; omega⟩
  · cases hx; show _ < (w.alloc _).heap.size; rw [World.size_alloc]; omega
  · show _ ≤ (w.alloc _).heap.size; rw [World.size_alloc]; omega

/-! Rows -/
theorem rowL_succ (f : Nat → List V) (n : Nat) : rowL f (n + 1) = rowL f n ++ f n := by simp [rowL, List.range_succ]
theorem rowL_length {f : Nat → List V} {sz : Nat} : ∀ {n : Nat}, (∀ j, j < n → (f j).length = sz) → (rowL f n).length = n * sz
  | 0, _ => by simp [rowL]
  | n + 1, h => by rw [rowL_succ, List.length_append, rowL_length fun j hj => h j (by omega), h n (by omega), Nat.succ_mul]
theorem RowOk.len {n : Nat} {f : Nat → List V} {sz : Nat} (h : RowOk n f sz) : ∀ j, j < n → (f j).length = sz := fun j hj => (h j hj).1
theorem oneCells_append : ∀ {l m : List V}, oneCells (l ++ m) = (oneCells l && oneCells m)
  | [], m => by simp [oneCells]
  | v :: l, m => by cases v <;> simp [oneCells, oneCells_append (l := l) (m := m)]
theorem oneCells_take : ∀ (n : Nat) {l : List V}, oneCells l = true → oneCells (l.take n) = true
  | 0, _, _ => by simp [oneCells]
  | n + 1, [], _ => by simp [oneCells]
  | n + 1, v :: l, h => by cases v <;> simp_all [oneCells, oneCells_take n (l := l)]
theorem oneCells_drop : ∀ (n : Nat) {l : List V}, oneCells l = true → oneCells (l.drop n) = true
  | 0, _, h => by simpa using h
  | n + 1, [], _ => by simp [oneCells]
  | n + 1, v :: l, h => by
    have : oneCells l = true := by cases v <;> simp_all [oneCells]
    simpa using oneCells_drop n this
theorem oneCells_rowL {f : Nat → List V} {sz : Nat} : ∀ {n : Nat}, RowOk n f sz → oneCells (rowL f n) = true
  | 0, _ => by simp [rowL, oneCells]
  | n + 1, h => by rw [rowL_succ, oneCells_append, oneCells_rowL fun j hj => h j (by omega), (h n (by omega)).2]; rfl
theorem rowL_congr {f g : Nat → List V} : ∀ {n : Nat}, (∀ j, j < n → f j = g j) → rowL f n = rowL g n
  | 0, _ => rfl
  | n + 1, h => by rw [rowL_succ, rowL_succ, rowL_congr fun j hj => h j (by omega), h n (by omega)]
theorem rowL_split (f : Nat → List V) (m : Nat) : ∀ k, rowL f (m + k) = rowL f m ++ rowL (fun j => f (m + j)) k
  | 0 => by simp [rowL]
  | k + 1 => by rw [← Nat.add_assoc, rowL_succ, rowL_split f m k, rowL_succ, List.append_assoc]
/-- Element j among the cells. -/
theorem rowL_at {f : Nat → List V} {sz : Nat} {n : Nat} (h : ∀ j, j < n → (f j).length = sz) {j : Nat} (hj : j < n) : ∃ A B, rowL f n = A ++ f j ++ B ∧ A.length = j * sz := by
  refine ⟨rowL f j, rowL (fun i => f (j + 1 + i)) (n - (j + 1)), ?_, rowL_length fun i hi => h i (by omega)⟩
  have := rowL_split f (j + 1) (n - (j + 1))
  rw [show j + 1 + (n - (j + 1)) = n by omega, rowL_succ] at this
  exact this
end
end Sy
end Go.Proofs.Ytmgcpfljhcahoaa
end
section
namespace Go.Proofs.Ytmgcpfljhcahoaa
open Go Go.RowKit
namespace Sy
variable {md : Bool}

def withO {α : Type} (x : Option α) (k : α → Prop) : Prop := match x with
  | some a => k a
  | none => False
theorem withO_ok {α : Type} {x : Option α} {k : α → Prop} (h : withO x k) : ∃ a, x = some a ∧ k a := by
  cases x with
  | none => exact h.elim
  | some a => exact ⟨a, rfl, h⟩
def need (b : Bool) (k : Prop) : Prop := bif b then k else False
theorem need_ok {b : Bool} {k : Prop} (h : need b k) : b = true ∧ k := by
  cases b with
  | true => exact ⟨rfl, h⟩
  | false => exact h.elim

/-! Constants -/
def ofV1 : Value → Option V
  | .bool b => some (.bool b)
  | .int k n => some (.int k n)
  | .string s => some (.str s)
  | .pointer none => some .nilp
  | .map none => some .nilm
  | .nilFunc => some .nilf
  | .nilIface => some .nili
  | .slice none 0 0 => some .nils
  | _ => none
def ofVl : List Value → Option (List V)
  | [] => some []
  | v :: l => match ofV1 v, ofVl l with
    | some u, some m => some (u :: m)
    | _, _ => none
def ofV : Value → Option V
  | .agg cs => (ofVl cs.toList).map .agg
  | .tuple cs => (ofVl cs.toList).map .tup
  | v => ofV1 v
theorem cz_ofV1 {ρ : Ren} {v : Value} {u : V} (h : ofV1 v = some u) : cz ρ u = some v := by
  unfold ofV1 at h
  split at h <;> first | (cases h; simp [cz]; done) | cases h
theorem czl_ofVl {ρ : Ren} : ∀ {l : List Value} {m : List V}, ofVl l = some m → czl ρ m = some l
  | [], m, h => by cases h; simp [czl]
  | v :: l, m, h => by
    simp only [ofVl] at h
    split at h
    · rename_i u m' h1 h2
      cases h
      exact czl_cons.2 ⟨v, l, cz_ofV1 h1, czl_ofVl h2, rfl⟩
    · cases h
theorem cz_ofV {ρ : Ren} {v : Value} {u : V} (h : ofV v = some u) : cz ρ u = some v := by
  unfold ofV at h
  split at h
  · rename_i cs
    simp only [Option.map_eq_some_iff] at h
    obtain ⟨m, h1, rfl⟩ := h
    simp [cz, czl_ofVl (ρ := ρ) h1]
  · rename_i cs
    simp only [Option.map_eq_some_iff] at h
    obtain ⟨m, h1, rfl⟩ := h
    simp [cz, czl_ofVl (ρ := ρ) h1]
  · exact cz_ofV1 h

def opd (t : Tr V) : Operand → Option V
  | .tmp i => t.get i
  | .const v => ofV v
  | .func f => some (.fn (.func f) [] [])
  | .global _ => none
def opds (t : Tr V) : List Operand → Option (List V)
  | [] => some []
  | x :: l => match opd t x, opds t l with
    | some v, some vs => some (v :: vs)
    | _, _ => none

def OpdOk (ρ : Ren) (t : Tr V) (a : Act) (x : Operand) : Prop := ∀ v, opd t x = some v → cz ρ v = some (a.eval x)

abbrev RelT := TmpsAre
theorem RelT.ext {ρ ρ' : Ren} (h : Ext ρ ρ') {sz : Nat} {t : Tr V} {a : Array Value} (ht : RelT ρ sz t a) : RelT ρ' sz t a := TmpsAre.ext h ht

theorem cz_fn {ρ : Ren} (f : FuncId) : cz ρ (.fn (.func f) [] []) = some (.func (.func f) #[] #[]) := by simp [cz, czl, fnOk]
theorem opd_ok {ρ : Ren} {a : Act} {sz : Nat} {t : Tr V} (ht : RelT ρ sz t a.tmps) (x : Operand) : OpdOk ρ t a x := by
  intro v h
  cases x with
  | tmp i =>
    obtain ⟨v', h1, h2⟩ := ht.get i v h
    rw [h1]; simp [Act.eval, h2]
  | const c => exact cz_ofV h
  | func f => cases h; exact cz_fn f
  | global g => cases h
theorem opds_ok {ρ : Ren} {a : Act} {t : Tr V} : ∀ {xs : List Operand} {vs : List V}, (∀ x ∈ xs, OpdOk ρ t a x) → opds t xs = some vs → czl ρ vs = some (xs.map a.eval)
  | [], vs, _, h => by cases h; simp [czl]
  | x :: xs, vs, hx, h => by
    simp only [opds] at h
    split at h
    · rename_i v vs' h1 h2
      cases h
      exact czl_cons.2 ⟨_, _, hx x (by simp) v h1, opds_ok (fun y hy => hx y (by simp [hy])) h2, rfl⟩
    · cases h

def cellsOf : V → List V
  | .agg l => l
  | v => [v]

section
variable {P : Program} {ρ ρ' : Ren} {s s' : St} {w w' : World} {o : Oper} {a act : Act} {t : Tr V}

theorem cz_one (hσ : ∀ i v, ρ.σ i = some v → v.oneCell' = true) {v : V} {v' : Value} (h : cz ρ v = some v') (hv : oneCells [v] = true) : v'.oneCell' = true := by
  cases v with
  | agg a => simp [oneCells] at hv
  | tup a => simp [oneCells] at hv
  | tok i => exact hσ i v' h
  | ptr i off => simp only [cz, Option.map_eq_some_iff] at h; obtain ⟨_, _, rfl⟩ := h; rfl
  | ep i j sz fo => simp only [cz, Option.map_eq_some_iff] at h; obtain ⟨_, _, rfl⟩ := h; rfl
  | mp i => simp only [cz, Option.map_eq_some_iff] at h; obtain ⟨_, _, rfl⟩ := h; rfl
  | yl i => simp only [cz, Option.map_eq_some_iff] at h; obtain ⟨_, _, rfl⟩ := h; rfl
  | sl i lo sz n full =>
    simp only [cz] at h
    split at h
    · split at h
      · cases h; rfl
      · split at h
        · cases h; rfl
        · cases h
    · split at h
      · cases h; rfl
      · cases h
  | sle i sz n =>
    simp only [cz] at h
    split at h
    · split at h
      · cases h; rfl
      · cases h
    · cases h
  | fn f fi ca =>
    simp only [cz] at h
    split at h
    · split at h
      · cases h; rfl
      · cases h
    · cases h
  | iface t x => simp only [cz, Option.map_eq_some_iff] at h; obtain ⟨_, _, rfl⟩ := h; rfl
  | _ => simp [cz] at h; subst h; rfl
theorem cells_of_one {v : Value} (h : v.oneCell' = true) : v.cells = #[v] := by cases v <;> first | rfl | cases h
theorem czl_cellsOf (hσ : ∀ i v, ρ.σ i = some v → v.oneCell' = true) {v : V} {v' : Value} (h : cz ρ v = some v') : czl ρ (cellsOf v) = some v'.cells.toList := by
  have hone : oneCells [v] = true → cellsOf v = [v] → czl ρ (cellsOf v) = some v'.cells.toList := fun h1 h2 => by
    rw [h2, cells_of_one (cz_one hσ h h1)]
    exact czl_cons.2 ⟨_, [], h, by simp [czl], rfl⟩
  cases v with
  | agg l =>
    simp only [cz, Option.map_eq_some_iff] at h
    obtain ⟨l', hl, rfl⟩ := h
    simpa [cellsOf, Value.cells] using hl
  | tup l =>
    have h' := h
    simp only [cz, Option.map_eq_some_iff] at h'
    obtain ⟨l', hl, rfl⟩ := h'
    exact czl_cons.2 ⟨_, [], h, by simp [czl], rfl⟩
  | _ => exact hone rfl rfl
theorem czl_ones (hσ : ∀ i v, ρ.σ i = some v → v.oneCell' = true) : ∀ {l : List V} {l' : List Value}, czl ρ l = some l' → oneCells l = true → ∀ v ∈ l', v.oneCell' = true
  | [], _, h, _ => by rw [czl_nil.1 h]; simp
  | v :: l, _, h, h1 => by
    obtain ⟨v', l1, h2, h3, rfl⟩ := czl_cons.1 h
    have hv : oneCells [v] = true ∧ oneCells l = true := by cases v <;> simp_all [oneCells]
    intro u hu
    rcases List.mem_cons.1 hu with rfl | hu
    · exact cz_one hσ h2 hv.1
    · exact czl_ones hσ h3 hv.2 u hu

/-! A run of an operation -/
def Runs (P : Program) (o : Oper) (a : Act) (w : World) (v' : Value) (w' : World) : Prop :=
  (execOp a.eval o).run P w = .ok (.value v') w' ∨ ((execOp a.eval o).run P w = .ok .skip w' ∧ v' = undef)

/-- No fence, in a round or in none. -/
def FW (r : Option Nat) : Fence := { Fence.wide with round := r }

/-- What an operation does to a state, in whatever world. -/
def OpF (md : Bool) (P : Program) (o : Oper) (t : Tr V) (s : St) (v : V) (s' : St) : Prop := ∀ {ρ : Ren} {w : World} {act : Act}, Rel ρ s w → (∀ z ∈ o.op.operands, OpdOk ρ t act z) →
  ∀ {r' : Option Nat} {Q : Exit → Act → World → Prop} {K : Act → World → Prop}, (∀ ρ' w' v', Step md s.n s ρ w s' ρ' w' → cz ρ' v = some v' → K (act.put o.dst v') w') → o.wpIn (FW r') 0 P act w K Q

theorem wpIn_of_run {r' : Option Nat} {Q : Exit → Act → World → Prop} {K : Act → World → Prop} (hnd : ∀ c, o.op ≠ .defer c) (h : o.uponIn (FW r') 0 P act K Q ((execOp act.eval o).run P w)) : o.wpIn (FW r') 0 P act w K Q :=
  ⟨fun _ _ => trivial, by rw [Oper.semAt_eq _ _ _ hnd]; exact h⟩
theorem OpF.of_run {v : V} (hnd : ∀ c, o.op ≠ .defer c) (h : ∀ {ρ : Ren} {w : World} {act : Act}, Rel ρ s w → (∀ z ∈ o.op.operands, OpdOk ρ t act z) → ∃ ρ' w' v', Step md s.n s ρ w s' ρ' w' ∧ cz ρ' v = some v' ∧ Runs P o act w v' w') : OpF md P o t s v s' := by
  intro ρ w act hr hx r' Q K hK
  obtain ⟨ρ', w', v', h1, h2, h3⟩ := h hr hx
  refine wpIn_of_run hnd ?_
  rcases h3 with h3 | ⟨h3, rfl⟩
  · rw [h3]; exact hK _ _ _ h1 h2
  · rw [h3]; exact hK _ _ _ h1 h2

/-- An operation that asks nothing of memory. -/
def PureF (P : Program) (o : Oper) (t : Tr V) (v : V) : Prop := ∀ {ρ : Ren} {act : Act}, (∀ z ∈ o.op.operands, OpdOk ρ t act z) → ∃ v', cz ρ v = some v' ∧ ∀ w, (execOp act.eval o).run P w = .ok (.value v') w
theorem PureF.op {v : V} (hnd : ∀ c, o.op ≠ .defer c) (h : PureF P o t v) : OpF md P o t s v s :=
  OpF.of_run hnd fun {ρ w _} hr hx => let ⟨v', h1, h2⟩ := h hx; ⟨ρ, w, v', Step.refl hr, h1, .inl (h2 w)⟩

/-! Numbers, strings -/
def bitsOp (op : BinOp) (k : IntKind) (a b : Int) : Int :=
  let x := BitVec.ofInt k.bits a
  let y := BitVec.ofInt k.bits b
  match op with
  | .and => k.wrap (x &&& y).toNat
  | .or => k.wrap (x ||| y).toNat
  | .xor => k.wrap (x ^^^ y).toNat
  | _ => k.wrap (x &&& ~~~y).toNat
def shlI (k : IntKind) (a b : Int) : Int := k.wrap (a * 2 ^ (min b.toNat k.bits))
def shrI (k : IntKind) (a b : Int) : Int := a.fdiv (2 ^ (min b.toNat k.bits))
def strLt (a b : ByteArray) : Bool := Op.bytesLess a.toList b.toList

def intP (op : BinOp) (k : IntKind) (a b : Int) (K : V → Prop) : Prop := match op with
  | .add => K (.int k (k.wrap (a + b)))
  | .sub => K (.int k (k.wrap (a - b)))
  | .mul => K (.int k (k.wrap (a * b)))
  | .quo => b ≠ 0 ∧ K (.int k (k.wrap (a.tdiv b)))
  | .rem => b ≠ 0 ∧ K (.int k (a.tmod b))
  | .and => K (.int k (bitsOp .and k a b))
  | .or => K (.int k (bitsOp .or k a b))
  | .xor => K (.int k (bitsOp .xor k a b))
  | .andNot => K (.int k (bitsOp .andNot k a b))
  | .shl => 0 ≤ b ∧ K (.int k (shlI k a b))
  | .shr => 0 ≤ b ∧ K (.int k (shrI k a b))
  | .eql => K (.sb (decide (a = b)))
  | .neq => K (.sb (!decide (a = b)))
  | .lss => K (.sb (decide (a < b)))
  | .leq => K (.sb (decide (a ≤ b)))
  | .gtr => K (.sb (decide (b < a)))
  | .geq => K (.sb (decide (b ≤ a)))
def strP (op : BinOp) (a b : ByteArray) (K : V → Prop) : Prop := match op with
  | .add => a.size + b.size ≤ 9223372036854775807 ∧ K (.str (a ++ b))
  | .eql => K (.sb (decide (a = b)))
  | .neq => K (.sb (!decide (a = b)))
  | .lss => K (.sb (strLt a b))
  | .leq => K (.sb (!strLt b a))
  | .gtr => K (.sb (strLt b a))
  | .geq => K (.sb (!strLt a b))
  | _ => False

theorem bytesLess_tri : ∀ l m : List UInt8, (Op.bytesLess l m || l == m) = !Op.bytesLess m l
  | [], [] => rfl
  | [], _ :: _ => rfl
  | _ :: _, [] => rfl
  | a :: l, b :: m => by
    have ih := bytesLess_tri l m
    simp only [Op.bytesLess]
    by_cases h1 : a < b
    · have h2 : ¬ b < a := by simp only [UInt8.lt_iff_toNat_lt] at *; omega
      have h3 : (b == a) = false := by simp; rintro rfl; exact h2 h1
      simp [h1, h2, h3]
    · by_cases h2 : b < a
      · have h3 : (a == b) = false := by simp; rintro rfl; exact h1 h2
        have h4 : ¬ a = b := by simpa using h3
        simp [h1, h2, h4]
      · have h3 : a = b := by
          apply UInt8.toNat_inj.1
          simp only [UInt8.lt_iff_toNat_lt] at *; omega
        subst h3
        simpa [h1, h2] using ih
theorem toList_inj {a b : ByteArray} : a.toList = b.toList ↔ a = b := by
  rw [ByteArray.toList_eq, ByteArray.toList_eq]
  exact ⟨fun h => ByteArray.ext (Array.toList_inj.1 h), fun h => by rw [h]⟩

theorem run_eqGuard_else {op : BinOp} {ty : TypeId} {x y : Operand} {u v : Value} (h1 : ∀ a b, ¬ (u = .agg a ∧ v = .agg b)) (h2 : ¬ (u = .nilIface ∧ v = .nilIface)) (w : World) :
    (eqGuard op ty x y u v).run P w = .ok () w := by
  cases op <;> cases u <;> first
    | rfl
    | (cases v <;> first | rfl | exact absurd ⟨rfl, rfl⟩ h2 | exact absurd ⟨rfl, rfl⟩ (h1 _ _))

theorem run_shl {k : IntKind} {a b : Int} (h : 0 ≤ b) (ty : TypeId) (w : World) : (binOp .shl ty (.int k a) (.int k b)).run P w = .ok (.int k (shlI k a b)) w := by
  have e : binOp .shl ty (.int k a) (.int k b) = Op.shift .shl k a k b := rfl
  rw [e]
  unfold Op.shift
  rw [if_neg (Int.not_lt.2 h)]
  rfl
theorem run_shr {k : IntKind} {a b : Int} (h : 0 ≤ b) (ty : TypeId) (w : World) : (binOp .shr ty (.int k a) (.int k b)).run P w = .ok (.int k (shrI k a b)) w := by
  have e : binOp .shr ty (.int k a) (.int k b) = Op.shift .shr k a k b := rfl
  rw [e]
  unfold Op.shift
  rw [if_neg (Int.not_lt.2 h)]
  rfl
theorem intP_ok {op : BinOp} {k : IntKind} {a b : Int} {K : V → Prop} (h : intP op k a b K) (ty : TypeId) : ∃ v v', K v ∧ (∀ ρ, cz ρ v = some v') ∧ ∀ w, (binOp op ty (.int k a) (.int k b)).run P w = .ok v' w := by
  have e1 : ∀ x y : Int, (x == y) = decide (x = y) := fun x y => by rw [Bool.eq_iff_iff]; simp
  have e2 : ∀ x y : Int, (x != y) = !decide (x = y) := fun x y => by rw [bne, e1]
  cases op
  case shl => exact ⟨_, _, h.2, fun _ => rfl, fun w => run_shl h.1 ty w⟩
  case shr => exact ⟨_, _, h.2, fun _ => rfl, fun w => run_shr h.1 ty w⟩
  all_goals simp only [intP] at h
  all_goals first
    | (obtain ⟨h0, h⟩ := h; exact ⟨_, _, h, fun _ => rfl, fun w => by simp [binOp, Op.intDiv, h0]⟩)
    | exact ⟨_, _, h, fun _ => rfl, fun w => by simp [binOp, Op.intArith, Op.intCmp, Op.intBits, bitsOp, e1, e2]⟩
theorem strP_ok {op : BinOp} {a b : ByteArray} {K : V → Prop} (h : strP op a b K) (ty : TypeId) : ∃ v v', K v ∧ (∀ ρ, cz ρ v = some v') ∧ ∀ w, (binOp op ty (.string a) (.string b)).run P w = .ok v' w := by
  have e1 : (a.toList == b.toList) = decide (a = b) := by rw [Bool.eq_iff_iff]; simp [toList_inj]
  have e2 := bytesLess_tri a.toList b.toList
  have e3 : Op.bytesLess a.toList b.toList = strLt a b := rfl
  have e4 : Op.bytesLess b.toList a.toList = strLt b a := rfl
  have e5 : strLt b a = !(strLt a b || decide (a = b)) := by rw [e4, e3, e1] at e2; rw [e2]; simp
  rw [e3, e4, e1] at e2
  cases op <;> simp only [strP] at h <;> first
    | exact h.elim
    | (obtain ⟨h0, h⟩ := h
       refine ⟨_, _, h, fun _ => rfl, fun w => ?_⟩
       have : ¬ (((a.size + b.size : Nat) : Int) > IntKind.i64.max) := by simp only [IntKind.max, IntKind.signed, IntKind.bits]; omega
       have hb : binOp .add ty (.string a) (.string b) = Op.stringOp .add a b := rfl
       rw [hb]
       unfold Op.stringOp
       simp only [if_neg this]
       rfl)
    | (refine ⟨_, _, h, fun _ => rfl, fun w => ?_⟩
       simp only [binOp, Op.stringOp, e1, e3]
       first
         | rfl
         | (rw [e2]; rfl)
         | (rw [e5]; rfl))

/-- Byte k of a string. -/
def byteAt (s : ByteArray) (k : Nat) : Int := (s.data.toList.getD k 0).toNat
def substr (s : ByteArray) (l h : Nat) : ByteArray := s.extract l h
end
end Sy
end Go.Proofs.Ytmgcpfljhcahoaa
end
section
namespace Go.Proofs.Ytmgcpfljhcahoaa
open Go Go.RowKit
namespace Sy
variable {md : Bool}

def pickP (c a b : V) (K : V → Prop) : Prop :=
  let go (d : Bool) : Prop := match a, b with
    | .int k x, .int k' y => need (decide (k = k')) (K (.int k (bif d then x else y)))
    | .sb x, .sb y => K (.sb (bif d then x else y))
    | .sb x, .bool y => K (.sb (bif d then x else y))
    | .bool x, .sb y => K (.sb (bif d then x else y))
    | .bool x, .bool y => K (.sb (bif d then x else y))
    | .str x, .str y => K (.str (bif d then x else y))
    | _, _ => False
  match c with
  | .bool true => K a
  | .bool false => K b
  | .sb d => go d
  | _ => False

def isEq : BinOp → Option Bool
  | .eql => some true
  | .neq => some false
  | _ => none
/-- Comparisons with nil. -/
def eqK (P : Program) (ty : TypeId) (u v : V) : Option Bool := match P.underlying ty, u, v with
  | some (.pointer _), .nilp, .nilp => some true
  | some (.pointer _), .ptr _ _, .nilp => some false
  | some (.pointer _), .nilp, .ptr _ _ => some false
  | some (.pointer _), .ep .., .nilp => some false
  | some (.map _ _), .nilm, .nilm => some true
  | some (.map _ _), .mp _, .nilm => some false
  | some (.slice _), .nils, .nils => some true
  | some (.func _ _ _), .nilf, .nilf => some true
  | some (.func _ _ _), .fn .., .nilf => some false
  | some (.interface _), .iface _ _, .nili => some false
  | some (.slice _), .sle _ _ _, .nils => some false
  | some (.pointer _), .ap _ _ _, .nilp => some false
  | some (.pointer _), .ae _ _ _ _ _, .nilp => some false
  | _, _, _ => none
def eq1 : V → V → Bool
  | .int _ a, .int _ b => decide (a = b)
  | .bool a, .bool b => a == b
  | .sb a, .bool b => a == b
  | .bool a, .sb b => a == b
  | .sb a, .sb b => a == b
  | .str a, .str b => decide (a = b)
  | _, _ => false
def eqL : List V → List V → Bool
  | [], [] => true
  | u :: l, v :: m => eq1 u v && eqL l m
  | _, _ => false
/-- The order of the fields of structs of this type does not matter: they are compared by their cells. -/
def EqOk (P : Program) (ty : TypeId) (l m : List V) : Prop := ∀ ρ l' m', czl ρ l = some l' → czl ρ m = some m' → ∀ w, (Op.equal ty (.agg l'.toArray) (.agg m'.toArray)).run P w = .ok (eqL l m) w

def binP (P : Program) (op : BinOp) (ty : TypeId) (u v : V) (K : V → Prop) : Prop := match u, v with
  | .int j a, .int k b => need (decide (j = k)) (intP op j a b K)
  | .str a, .str b => strP op a b K
  | .agg l, .agg m => match isEq op with
    | some w => P.eqGuardType P.depth ty = false ∧ EqOk P ty l m ∧ K (.sb (bif w then eqL l m else !eqL l m))
    | none => False
  | .sl _ _ _ n _, .nils => match isEq op, P.underlying ty with
    | some w, some (.slice _) => 0 < n ∧ K (.bool (false == w))
    | _, _ => False
  | .asl _ p _ _ _, .nils => match isEq op, P.underlying ty with
    | some w, some (.slice _) => K (.sb (p.isNone == w))
    | _, _ => False
  | u, v => match isEq op, eqK P ty u v with
    | some w, some b => K (.bool (b == w))
    | some w, none => match P.underlying ty with
      | some .bool => boolsP w u v K
      | _ => False
    | _, _ => False
where
  boolsP (w : Bool) : V → V → (V → Prop) → Prop
  | .sb a, .sb b, K => K (.sb ((a == b) == w))
  | .sb a, .bool b, K => K (.sb ((a == b) == w))
  | .bool a, .sb b, K => K (.sb ((a == b) == w))
  | .bool a, .bool b, K => K (.bool ((a == b) == w))
  | _, _, _ => False

def unP (op : UnOp) (u : V) (K : V → Prop) : Prop := match op, u with
  | .neg, .int k n => K (.int k (k.wrap (0 - n)))
  | .xor, .int k n => K (.int k (bitsOp .xor k (if k.signed then -1 else k.max) n))
  | .not, .bool b => K (.bool (!b))
  | .not, .sb b => K (.sb (!b))
  | _, _ => False

def posSz (P : Program) (t : TypeId) : Bool := match sizeT P t with
  | some (_ + 1) => true
  | _ => false
def partV (P : Program) (ty : TypeId) (cs : List V) (off : Nat) (K : V → Prop) : Prop := match isAggT P ty with
  | some true => withO (sizeT P ty) fun n => need (Nat.ble (off + n) cs.length) (K (.agg ((cs.drop off).take n)))
  | some false => withO (cs[off]?) K
  | none => False

def boundO (t : Tr V) (x : Option Operand) (d : Nat) (K : Nat → Prop) : Prop := match x with
  | none => K d
  | some x => withO (opd t x) fun v => match v with
    | .int _ n => 0 ≤ n ∧ K n.toNat
    | _ => False
def sliceP (P : Program) (t : Tr V) (ty : TypeId) (v : V) (lo hi mx : Option Operand) (K : V → Prop) : Prop := match P.underlying ty, v with
  | some .string, .str s => need mx.isNone (boundO t hi s.size fun h => boundO t lo 0 fun l => l ≤ h ∧ h ≤ s.size ∧ K (.str (substr s l h)))
  | some (.slice e), .sl i o sz n full => withO (sizeT P e) fun sz' => need (Nat.beq sz sz') (match mx with
    | none => boundO t hi n fun h => boundO t lo 0 fun l => (l ≤ h ∧ h ≤ n ∧ (l < n ∨ l = 0) ∧ (full = true → h = n) ∧ K (.sl i (o + l) sz (h - l) full)) ∨ (0 < n ∧ l = n ∧ h = n ∧ o = 0 ∧ full = false ∧ K (.sle i sz n))
    | some mx => need hi.isSome (boundO t hi n fun h => boundO t lo 0 fun l => boundO t (some mx) 0 fun m => l ≤ h ∧ h ≤ m ∧ m ≤ n ∧ h = m ∧ (l < m ∨ l = 0) ∧ K (.sl i (o + l) sz (h - l) true)))
  | some (.slice e), .asl i p sz n c => withO (sizeT P e) fun sz' => need (Nat.beq sz sz') (match mx with
    | none => boundO t hi n fun h => boundO t lo 0 fun l => l ≤ h ∧ h ≤ c ∧ K (.asl i (if c = l then p else p.map fun q => (q.1, q.2 + l)) sz (h - l) (c - l))
    | some mx => need hi.isSome (boundO t hi n fun h => boundO t lo 0 fun l => boundO t (some mx) 0 fun m => l ≤ h ∧ h ≤ m ∧ m ≤ c ∧ K (.asl i (if m = l then p else p.map fun q => (q.1, q.2 + l)) sz (h - l) (m - l))))
  | some (.slice e), .zsl i p sz n c => withO (sizeT P e) fun sz' => need (Nat.beq sz sz' && mx.isNone) (boundO t hi n fun h => boundO t lo 0 fun l => l ≤ h ∧ h ≤ c ∧ K (.zsl i (if c = l then p else p.map fun q => (q.1, q.2 + l * sz)) sz (h - l) (c - l)))
  | some (.slice e), .nils => withO (sizeT P e) fun _ => need mx.isNone (boundO t hi 0 fun h => boundO t lo 0 fun l => l ≤ h ∧ h ≤ 0 ∧ K .nils)
  | _, _ => False

def pureP (P : Program) (o : Oper) (t : Tr V) (K : V → Prop) : Prop := match o.op with
  | .move x => withO (opd t x) K
  | .assign x => withO (opd t x) K
  | .pick c a b => withO (opd t c) fun c => withO (opd t a) fun a => withO (opd t b) fun b => pickP c a b K
  | .nilCheck x => withO (opd t x) fun v => match v with
    | .ptr i off => K (.ptr i off)
    | .ep i j sz fo => K (.ep i j sz fo)
    | .fn f fi ca => K (.fn f fi ca)
    | .ap i b off => K (.ap i b off)
    | .ae i b j sz fo => K (.ae i b j sz fo)
    | _ => False
  | .fieldAddr ty x i => match P.underlying ty with
    | some (.struct fs) => withO (fs.toList[i]?) fun f => need (posSz P f.type) (withO (opd t x) fun v => match v with
      | .ptr j off => K (.ptr j (off + f.offset))
      | .ep j k sz fo => K (.ep j k sz (fo + f.offset))
      | .ap j b off => K (.ap j b (off + f.offset))
      | .ae j b k sz fo => K (.ae j b k sz (fo + f.offset))
      | _ => False)
    | _ => False
  | .field ty x i => match P.underlying ty with
    | some (.struct fs) => withO (fs.toList[i]?) fun f => withO (opd t x) fun v => match v with
      | .agg cs => partV P f.type cs f.offset K
      | _ => False
    | _ => False
  | .indexAddr ty x i => withO (opd t x) fun u => withO (opd t i) fun v => match P.underlying ty, u, v with
    | some (.slice e), .sl j lo sz n _, .int _ k => withO (sizeT P e) fun sz' => need (Nat.beq sz sz') (0 ≤ k ∧ k < n ∧ K (.ep j (lo + k.toNat) sz 0))
    | some (.array len e), .ptr j off, .int _ (.ofNat k) => withO (sizeT P e) fun sz => need (Nat.blt k len) (K (.ptr j (off + k * sz)))
    | some (.array len e), .ep j m sz fo, .int _ (.ofNat k) => withO (sizeT P e) fun sz' => need (Nat.blt k len) (K (.ep j m sz (fo + k * sz')))
    | some (.slice e), .asl j p sz n _, .int _ k => withO (sizeT P e) fun sz' => need (Nat.beq sz sz') (0 ≤ k ∧ k < n ∧ ∃ b lo, p = some (b, lo) ∧ K (.ae j b (lo + k.toNat) sz 0))
    | some (.slice e), .zsl j p sz n _, .int _ k => withO (sizeT P e) fun sz' => need (Nat.beq sz sz') (0 ≤ k ∧ k < n ∧ ∃ b off, p = some (b, off) ∧ K (.ap j b (off + k.toNat * sz)))
    | some (.array len e), .ap j b off, .int _ (.ofNat k) => withO (sizeT P e) fun sz => need (Nat.blt k len) (K (.ap j b (off + k * sz)))
    | some (.array len e), .ae j b m sz fo, .int _ (.ofNat k) => withO (sizeT P e) fun sz' => need (Nat.blt k len) (K (.ae j b m sz (fo + k * sz')))
    | _, _, _ => False
  | .index ty x i => withO (opd t x) fun u => withO (opd t i) fun v => match P.underlying ty, u, v with
    | some .string, .str s, .int _ k => 0 ≤ k ∧ k.toNat < s.size ∧ K (.int .u8 (byteAt s k.toNat))
    | some (.array len e), .agg cs, .int _ (.ofNat k) => withO (sizeT P e) fun sz => need (Nat.blt k len) (partV P e cs (k * sz) K)
    | _, _, _ => False
  | .binOp op ty x y _ => withO (opd t x) fun u => withO (opd t y) fun v => binP P op ty u v K
  | .unOp op _ x => withO (opd t x) fun u => unP op u K
  | .convert src dst x => withO (opd t x) fun u => match P.underlying src, P.underlying dst, u with
    | some _, some (.int k), .int _ n => K (.int k (k.wrap n))
    | some _, some .string, .str s => K (.str s)
    | _, _, _ => False
  | .extract x i => withO (opd t x) fun u => match u with
    | .tup l => withO (l[i]?) K
    | _ => False
  | .makeFunc f fi ca => need (fnOk f) (withO (opds t fi.toList) fun fi => withO (opds t ca.toList) fun ca => K (.fn f fi ca))
  | .makeInterface ty x => withO (opd t x) fun v => match P.underlying ty with
    | some (.interface _) => False
    | some _ => K (.iface ty v)
    | none => False
  | .typeAssert x _ ty false => withO (opd t x) fun u => match u, P.underlying ty with
    | .iface _ _, some (.interface _) => False
    | .iface u v, some _ => need (Nat.beq u ty) (K v)
    | _, _ => False
  | .slice ty x lo hi mx => withO (opd t x) fun v => sliceP P t ty v lo hi mx K
  | _ => False

section
variable {P : Program} {ρ ρ' : Ren} {s s' : St} {w w' : World} {o : Oper} {a act : Act} {t : Tr V} {K : V → Prop}

theorem run_sizeOf {ty n : Nat} (h : sizeT P ty = some n) (w : World) : (sizeOf ty).run P w = .ok n w := by
  unfold sizeT at h
  cases hi : P.info? ty with
  | none => simp [hi] at h
  | some i => simp [hi] at h; simp [sizeOf, typeInfo, hi, h]
theorem run_zeroValue {ty : Nat} {z : Value} (h : zeroT P ty = some z) (w : World) : (zeroValue ty).run P w = .ok z w := by
  unfold zeroT at h
  cases hi : P.info? ty with
  | none => simp [hi] at h
  | some i => simp [hi] at h; simp [zeroValue, typeInfo, hi, h]
theorem run_isAgg {ty : Nat} {b : Bool} (h : isAggT P ty = some b) (w : World) : (isAgg ty).run P w = .ok b w := by
  unfold isAggT at h
  unfold isAgg
  cases hu : P.underlying ty with
  | none => simp [hu] at h
  | some d =>
    rw [Sem.run_bind, run_underlying hu w]
    cases d <;> simp_all
theorem run_part {ty : TypeId} {cs : Array Value} {off : Nat} {v : Value} (w : World)
    (h : (∃ n, isAggT P ty = some true ∧ sizeT P ty = some n ∧ v = .agg (cs.extract off (off + n))) ∨ (isAggT P ty = some false ∧ cs[off]? = some v)) : (part ty cs off).run P w = .ok v w := by
  rcases h with ⟨n, h1, h2, rfl⟩ | ⟨h1, h2⟩
  · unfold part; simp [run_isAgg h1, run_sizeOf h2]
  · unfold part; simp [run_isAgg h1, h2]
theorem partV_ok {ty : TypeId} {cs : List V} {off : Nat} (h : partV P ty cs off K) : ∃ v, K v ∧ ∀ ρ cs', czl ρ cs = some cs' → ∃ v', cz ρ v = some v' ∧ ∀ w, (part ty cs'.toArray off).run P w = .ok v' w := by
  unfold partV at h
  split at h
  · rename_i ha
    obtain ⟨n, hn, h⟩ := withO_ok h
    obtain ⟨hle, h⟩ := need_ok h
    refine ⟨_, h, fun ρ cs' hc => ⟨.agg (cs'.toArray.extract off (off + n)), ?_, fun w => run_part w (.inl ⟨n, ha, hn, rfl⟩)⟩⟩
    simp only [cz, Option.map_eq_some_iff]
    refine ⟨_, czl_take n (czl_drop off hc), ?_⟩
    congr 1
    apply Array.ext'
    simp
  · rename_i ha
    obtain ⟨v, hv, h⟩ := withO_ok h
    refine ⟨v, h, fun ρ cs' hc => ?_⟩
    obtain ⟨v', h1, h2⟩ := czl_get off hc hv
    exact ⟨v', h2, fun w => run_part w (.inr ⟨ha, by simpa using h1⟩)⟩
  · exact h.elim
theorem add_off (b o j : Nat) : (⟨b, o, none⟩ : Addr).add j = ⟨b, o + j, none⟩ := by unfold Addr.add; split <;> simp_all

/-! Comparisons -/
theorem run_eqlOp {op : BinOp} {ty : TypeId} {u v : Value} {wb b : Bool} (hop : isEq op = some wb) (he : (Op.equal ty u v).run P w = .ok b w)
    (h1 : ∀ j a, u ≠ .int j a) (h2 : ∀ s, u ≠ .string s) (h3 : ∀ j x, u ≠ .float j x) (h4 : ∀ j x z, u ≠ .complex j x z) : (binOp op ty u v).run P w = .ok (.bool (b == wb)) w := by
  cases op <;> simp only [isEq, Option.some.injEq] at hop <;> first
    | cases hop; done
    | skip
  · subst hop
    have : binOp .eql ty u v = (do pure (.bool (← Op.equal ty u v))) := by
      cases u <;> first | exact absurd rfl (h1 _ _) | exact absurd rfl (h2 _) | exact absurd rfl (h3 _ _) | exact absurd rfl (h4 _ _ _) | (cases v <;> rfl)
    rw [this]
    simp [he]
  · subst hop
    have : binOp .neq ty u v = (do pure (.bool (!(← Op.equal ty u v)))) := by
      cases u <;> first | exact absurd rfl (h1 _ _) | exact absurd rfl (h2 _) | exact absurd rfl (h3 _ _) | exact absurd rfl (h4 _ _ _) | (cases v <;> rfl)
    rw [this]
    simp [he]

theorem eqK_ok {ty : TypeId} {u v : V} {b : Bool} (h : eqK P ty u v = some b) {u' v' : Value} (hu : cz ρ u = some u') (hv : cz ρ v = some v') (w : World) :
    (Op.equal ty u' v').run P w = .ok b w ∧ (∀ a b, ¬ (u' = .agg a ∧ v' = .agg b)) ∧ ¬ (u' = .nilIface ∧ v' = .nilIface) ∧
      (∀ j a, u' ≠ .int j a) ∧ (∀ s, u' ≠ .string s) ∧ (∀ j x, u' ≠ .float j x) ∧ (∀ j x z, u' ≠ .complex j x z) := by
  have fin : ∀ d, P.underlying ty = some d → ∀ x y : Value, u' = x → v' = y → (∀ d w, (Op.equalIn (d + 1) ty x y).run P w = .ok b w) → (∀ a b, ¬ (x = .agg a ∧ y = .agg b)) ∧ ¬ (x = .nilIface ∧ y = .nilIface) ∧
      (∀ j a, x ≠ .int j a) ∧ (∀ s, x ≠ .string s) ∧ (∀ j z, x ≠ .float j z) ∧ (∀ j z q, x ≠ .complex j z q) → (Op.equal ty u' v').run P w = .ok b w ∧ (∀ a b, ¬ (u' = .agg a ∧ v' = .agg b)) ∧ ¬ (u' = .nilIface ∧ v' = .nilIface) ∧
      (∀ j a, u' ≠ .int j a) ∧ (∀ s, u' ≠ .string s) ∧ (∀ j x, u' ≠ .float j x) ∧ (∀ j x z, u' ≠ .complex j x z) := by
    intro d _ x y e1 e2 h1 h2
    subst e1 e2
    exact ⟨h1 9999 w, h2⟩
  unfold eqK at h
  split at h <;> try (cases h; done)
  all_goals
    rename_i hd
    cases h
    simp only [cz, Option.map_eq_some_iff, Option.some.injEq] at hu hv
  case h_9 =>
    split at hu
    · split at hu
      · cases hu
        subst hv
        refine fin _ hd _ _ rfl rfl (fun dd w => ?_) (by simp)
        simp only [Op.equalIn, Sem.run_bind, run_underlying hd, Result.andThen_ok]
        rfl
      · cases hu
    · cases hu
  case h_11 =>
    split at hu
    · split at hu
      · cases hu
        subst hv
        refine fin _ hd _ _ rfl rfl (fun dd w => ?_) (by simp)
        simp only [Op.equalIn, Sem.run_bind, run_underlying hd, Result.andThen_ok]
        rfl
      · cases hu
    · cases hu
  all_goals first
    | (obtain ⟨_, _, rfl⟩ := hu; subst hv; refine fin _ hd _ _ rfl rfl (fun dd w => ?_) (by simp); simp only [Op.equalIn, Sem.run_bind, run_underlying hd, Result.andThen_ok]; rfl)
    | (obtain ⟨_, _, rfl⟩ := hv; subst hu; refine fin _ hd _ _ rfl rfl (fun dd w => ?_) (by simp); simp only [Op.equalIn, Sem.run_bind, run_underlying hd, Result.andThen_ok]; rfl)
    | (subst hu; subst hv; refine fin _ hd _ _ rfl rfl (fun dd w => ?_) (by simp); simp only [Op.equalIn, Sem.run_bind, run_underlying hd, Result.andThen_ok]; rfl)

theorem run_equal_bool {ty : TypeId} (hd : P.underlying ty = some .bool) (a b : Bool) (w : World) : (Op.equal ty (.bool a) (.bool b)).run P w = .ok (a == b) w := by
  have : ∀ d, (Op.equalIn (d + 1) ty (.bool a) (.bool b)).run P w = .ok (a == b) w := fun d => by
    simp only [Op.equalIn, Sem.run_bind, run_underlying hd, Result.andThen_ok]
    rfl
  exact this 9999

theorem binP_ok {op : BinOp} {ty : TypeId} {u v : V} (h : binP P op ty u v K) : ∃ r, K r ∧ ∀ ρ u' v', cz ρ u = some u' → cz ρ v = some v' → ∃ r', cz ρ r = some r' ∧ ∀ x y w, (do eqGuard op ty x y u' v'; binOp op ty u' v' : Sem Value).run P w = .ok r' w := by
  have rest : ∀ u v : V, (match isEq op, eqK P ty u v with
    | some w, some b => K (.bool (b == w))
    | some w, none => match P.underlying ty with
      | some .bool => binP.boolsP w u v K
      | _ => False
    | _, _ => False) → ∃ r, K r ∧ ∀ ρ u' v', cz ρ u = some u' → cz ρ v = some v' → ∃ r', cz ρ r = some r' ∧ ∀ x y w, (do eqGuard op ty x y u' v'; binOp op ty u' v' : Sem Value).run P w = .ok r' w := by
    intro u v h
    split at h
    · rename_i wb b hop he
      refine ⟨_, h, fun ρ u' v' hu hv => ⟨_, rfl, fun x y w => ?_⟩⟩
      obtain ⟨e1, e2, e3, e4, e5, e6, e7⟩ := eqK_ok (P := P) he hu hv w
      simp only [Sem.run_bind, run_eqGuard_else e2 e3, Result.andThen_ok]
      exact run_eqlOp hop e1 e4 e5 e6 e7
    · rename_i wb hop he
      split at h
      · rename_i hd
        have key : ∀ a b : Bool, ∀ x y w, (do eqGuard op ty x y (.bool a) (.bool b); binOp op ty (.bool a) (.bool b) : Sem Value).run P w = .ok (.bool ((a == b) == wb)) w := fun a b x y w => by
          simp only [Sem.run_bind, run_eqGuard_else (op := op) (ty := ty) (x := x) (y := y) (u := .bool a) (v := .bool b) (by simp) (by simp), Result.andThen_ok]
          exact run_eqlOp hop (run_equal_bool hd a b w) (by simp) (by simp) (by simp) (by simp)
        unfold binP.boolsP at h
        split at h <;> first
          | exact h.elim
          | (refine ⟨_, h, fun ρ u' v' hu hv => ⟨_, rfl, ?_⟩⟩
             simp only [cz, Option.some.injEq] at hu hv
             subst hu hv
             exact key _ _)
      · exact h.elim
    · exact h.elim
  unfold binP at h
  split at h
  · rename_i j a k b
    obtain ⟨hk, g⟩ := need_ok h
    have hk : j = k := by simpa using hk
    subst hk
    obtain ⟨r, r', h1, h2, h3⟩ := intP_ok (P := P) g ty
    refine ⟨r, h1, fun ρ u' v' hu hv => ⟨r', h2 ρ, fun x y w => ?_⟩⟩
    simp only [cz, Option.some.injEq] at hu hv
    subst hu hv
    simp only [Sem.run_bind, run_eqGuard_else (op := op) (ty := ty) (x := x) (y := y) (u := .int j a) (v := .int j b) (by simp) (by simp), Result.andThen_ok]
    exact h3 w
  · rename_i a b
    obtain ⟨r, r', h1, h2, h3⟩ := strP_ok (P := P) h ty
    refine ⟨r, h1, fun ρ u' v' hu hv => ⟨r', h2 ρ, fun x y w => ?_⟩⟩
    simp only [cz, Option.some.injEq] at hu hv
    subst hu hv
    simp only [Sem.run_bind, run_eqGuard_else (op := op) (ty := ty) (x := x) (y := y) (u := .string a) (v := .string b) (by simp) (by simp), Result.andThen_ok]
    exact h3 w
  · rename_i l m
    split at h
    · rename_i wb hop
      obtain ⟨hg, he, h⟩ := h
      refine ⟨_, h, fun ρ u' v' hu hv => ⟨_, rfl, fun x y w => ?_⟩⟩
      simp only [cz, Option.map_eq_some_iff] at hu hv
      obtain ⟨l', hl, rfl⟩ := hu
      obtain ⟨m', hm, rfl⟩ := hv
      have e0 : (eqGuard op ty x y (.agg l'.toArray) (.agg m'.toArray)).run P w = .ok () w := by
        cases op <;> simp only [isEq, reduceCtorEq] at hop <;> simp [eqGuard, hg]
      simp only [Sem.run_bind, e0, Result.andThen_ok]
      rw [run_eqlOp hop (he ρ l' m' hl hm w) (by simp) (by simp) (by simp) (by simp)]
      cases wb <;> simp
    · exact h.elim
  · rename_i i lo sz n full
    split at h
    · rename_i wb e hop hd
      obtain ⟨hn, h⟩ := h
      refine ⟨_, h, fun ρ u' v' hu hv => ⟨_, rfl, fun x y w => ?_⟩⟩
      simp only [cz, Option.some.injEq] at hu hv
      subst hv
      obtain ⟨a, l, c, rfl⟩ : ∃ a l c, u' = .slice (some a) l c := by
        split at hu
        · split at hu
          · cases hu; exact ⟨_, _, _, rfl⟩
          · split at hu
            · cases hu; exact ⟨_, _, _, rfl⟩
            · cases hu
        · rename_i hb
          rw [if_neg (by omega)] at hu
          cases hu
      have he : (Op.equal ty (.slice (some a) l c) (.slice none 0 0)).run P w = .ok false w := by
        have : ∀ d, (Op.equalIn (d + 1) ty (.slice (some a) l c) (.slice none 0 0)).run P w = .ok false w := fun d => by
          simp only [Op.equalIn, Sem.run_bind, run_underlying hd, Result.andThen_ok]
          rfl
        exact this 9999
      simp only [Sem.run_bind, run_eqGuard_else (op := op) (ty := ty) (x := x) (y := y) (u := .slice (some a) l c) (v := .slice none 0 0) (by simp) (by simp), Result.andThen_ok]
      exact run_eqlOp hop he (by simp) (by simp) (by simp) (by simp)
    · exact h.elim
  · rename_i i p sz n c
    split at h
    · rename_i wb e hop hd
      refine ⟨_, h, fun ρ u' v' hu hv => ⟨_, rfl, fun x y w => ?_⟩⟩
      simp only [cz, Option.some.injEq] at hu hv
      subst hu hv
      have he : (Op.equal ty (.slice (p.map fun q => (⟨q.1, q.2 * sz, none⟩ : Addr)) n c) (.slice none 0 0)).run P w = .ok p.isNone w := by
        have : ∀ d, (Op.equalIn (d + 1) ty (.slice (p.map fun q => (⟨q.1, q.2 * sz, none⟩ : Addr)) n c) (.slice none 0 0)).run P w = .ok p.isNone w := fun d => by
          simp only [Op.equalIn, Sem.run_bind, run_underlying hd, Result.andThen_ok]
          cases p <;> rfl
        exact this 9999
      simp only [Sem.run_bind, run_eqGuard_else (op := op) (ty := ty) (x := x) (y := y) (u := .slice (p.map fun q => (⟨q.1, q.2 * sz, none⟩ : Addr)) n c) (v := .slice none 0 0) (by simp) (by simp), Result.andThen_ok]
      exact run_eqlOp hop he (by simp) (by simp) (by simp) (by simp)
    · exact h.elim
  · exact rest _ _ h

theorem unP_ok {op : UnOp} {u : V} (h : unP op u K) : ∃ r, K r ∧ ∀ ρ u', cz ρ u = some u' → ∃ r', cz ρ r = some r' ∧ ∀ w, (Op.unary op u').run P w = .ok r' w := by
  unfold unP at h
  split at h <;> first
    | exact h.elim
    | (refine ⟨_, h, fun ρ u' hu => ⟨_, rfl, fun w => ?_⟩⟩
       simp only [cz, Option.some.injEq] at hu
       subst hu
       rfl)

theorem pickP_ok {c a b : V} (h : pickP c a b K) : ∃ r, K r ∧ ∀ ρ c' a' b', cz ρ c = some c' → cz ρ a = some a' → cz ρ b = some b' → ∃ d, c' = .bool d ∧ cz ρ r = some (if d = true then a' else b') := by
  unfold pickP at h
  dsimp only at h
  split at h
  · exact ⟨a, h, fun ρ c' a' b' hc ha hb => ⟨true, by simpa [cz] using hc.symm, by simpa using ha⟩⟩
  · exact ⟨b, h, fun ρ c' a' b' hc ha hb => ⟨false, by simpa [cz] using hc.symm, by simpa using hb⟩⟩
  · rename_i d
    split at h <;> first
      | exact h.elim
      | (refine ⟨_, h, fun ρ c' a' b' hc ha hb => ⟨d, by simpa [cz] using hc.symm, ?_⟩⟩
         simp only [cz, Option.some.injEq] at ha hb ⊢
         subst ha hb
         cases d <;> rfl)
      | (obtain ⟨hk, g⟩ := need_ok h
         have hk := of_decide_eq_true hk
         subst hk
         refine ⟨_, g, fun ρ c' a' b' hc ha hb => ⟨d, by simpa [cz] using hc.symm, ?_⟩⟩
         simp only [cz, Option.some.injEq] at ha hb ⊢
         subst ha hb
         cases d <;> rfl)
  · exact h.elim
end
end Sy
end Go.Proofs.Ytmgcpfljhcahoaa
end
section
namespace Go.Proofs.Ytmgcpfljhcahoaa
open Go Go.RowKit
namespace Sy
variable {md : Bool}

section
variable {P : Program} {ρ ρ' : Ren} {s s' : St} {w w' : World} {o : Oper} {a act : Act} {t : Tr V} {K : V → Prop}

theorem run_sliceBound {kk : IntKind} {n : Int} {b : Nat} (h0 : 0 ≤ n) (h : n.toNat ≤ b) (c : BoundsCode) (w : World) : (Instr.sliceBound (.int kk n) b c).run P w = .ok n.toNat w := by
  unfold Instr.sliceBound
  simp only [asIntOf, Sem.run_bind, Sem.run_pure, Result.andThen_ok]
  rw [if_pos ⟨h0, by omega⟩]
  simp
/-- What one bound asks. -/
def BoundIs (x : Option Value) (d n : Nat) : Prop := (x = none ∧ n = d) ∨ ∃ kk m, x = some (.int kk m) ∧ 0 ≤ m ∧ n = m.toNat
theorem run_sliceBounds {lo hi : Option Value} {len cap l h : Nat} (hl : BoundIs lo 0 l) (hh : BoundIs hi len h) (h1 : l ≤ h) (h2 : hi ≠ none → h ≤ cap) (b : Bool) (w : World) :
    (Instr.sliceBounds b len cap lo hi none).run P w = .ok (l, h, cap) w := by
  unfold Instr.sliceBounds
  rcases hh with ⟨rfl, rfl⟩ | ⟨kk, m, rfl, hm, rfl⟩ <;> rcases hl with ⟨rfl, rfl⟩ | ⟨kk', m', rfl, hm', rfl⟩
  · simp
  · simp [run_sliceBound hm' h1]
  · simp [run_sliceBound hm (h2 (by simp))]
  · simp [run_sliceBound hm (h2 (by simp)), run_sliceBound hm' h1]
theorem run_sliceBounds3 {lo hi mx : Option Value} {len cap l h m : Nat} (hl : BoundIs lo 0 l) (hh : BoundIs hi len h) (hs : hi ≠ none) (hm : BoundIs mx 0 m) (hs' : mx ≠ none) (h1 : l ≤ h) (h2 : h ≤ m) (h3 : m ≤ cap) (b : Bool) (w : World) :
    (Instr.sliceBounds b len cap lo hi mx).run P w = .ok (l, h, m) w := by
  unfold Instr.sliceBounds
  rcases hh with ⟨rfl, _⟩ | ⟨kk, mm, rfl, hmm, rfl⟩
  · exact absurd rfl hs
  rcases hm with ⟨rfl, _⟩ | ⟨k3, m3, rfl, hm3, rfl⟩
  · exact absurd rfl hs'
  rcases hl with ⟨rfl, rfl⟩ | ⟨kk', m', rfl, hm', rfl⟩
  · simp [run_sliceBound hm3 h3, run_sliceBound hmm h2]
  · simp [run_sliceBound hm3 h3, run_sliceBound hmm h2, run_sliceBound hm' h1]
theorem boundO_ok {x : Option Operand} {d : Nat} {K : Nat → Prop} (h : boundO t x d K) : ∃ n, K n ∧ ∀ ρ act, (∀ z, x = some z → OpdOk ρ t act z) → BoundIs (x.map act.eval) d n := by
  cases x with
  | none => exact ⟨d, h, fun _ _ _ => .inl ⟨rfl, rfl⟩⟩
  | some z =>
    simp only [boundO] at h
    replace h := withO_ok h; obtain ⟨v, hv, h⟩ := h
    split at h
    · rename_i k n
      refine ⟨n.toNat, h.2, fun ρ act hz => .inr ⟨k, n, ?_, h.1, rfl⟩⟩
      have := hz z rfl _ hv
      simp only [cz, Option.some.injEq] at this
      simp [← this]
    · exact h.elim

theorem cz_sl {i lo sz n : Nat} {full : Bool} {v : Value} (h : cz ρ (.sl i lo sz n full) = some v) :
    (∃ b c, ρ.β i = some b ∧ v = .slice (some ⟨b, ρ.δ i + lo * sz, none⟩) n c ∧ n ≤ c ∧ (full = true → c = n) ∧ (full = false → lo + c = ρ.γ i ∧ lo + n ≤ ρ.γ i)) ∨ (ρ.β i = none ∧ ρ.ν i = true ∧ n = 0 ∧ lo = 0 ∧ v = .slice none 0 0) := by
  simp only [cz] at h
  split at h
  · rename_i b hb
    split at h
    · rename_i hf
      cases h
      exact .inl ⟨b, n, hb, rfl, Nat.le_refl _, fun _ => rfl, fun e => by rw [hf] at e; cases e⟩
    · rename_i hf
      split at h
      · rename_i hle
        cases h
        exact .inl ⟨b, _, hb, rfl, by omega, fun e => absurd e hf, fun _ => ⟨by omega, hle⟩⟩
      · cases h
  · rename_i hb
    split at h
    · rename_i hc
      cases h
      exact .inr ⟨hb, hc.1, hc.2.1, hc.2.2, rfl⟩
    · cases h

theorem sliceP_ok {ty : TypeId} {v : V} {lo hi mx : Option Operand} (h : sliceP P t ty v lo hi mx K) : ∃ r, K r ∧ ∀ ρ act v', cz ρ v = some v' → (∀ z, lo = some z ∨ hi = some z ∨ mx = some z → OpdOk ρ t act z) →
    ∃ r', cz ρ r = some r' ∧ ∀ w, (Instr.sliceAt ty v' (lo.map act.eval) (hi.map act.eval) (mx.map act.eval)).run P w = .ok r' w := by
  unfold sliceP at h
  split at h
  · rename_i s hd
    replace h := need_ok h; obtain ⟨hm, h⟩ := h
    obtain rfl : mx = none := by simpa using hm
    replace h := boundO_ok h; obtain ⟨hh, h, bh⟩ := h
    replace h := boundO_ok h; obtain ⟨ll, h, bl⟩ := h
    obtain ⟨h1, h2, h⟩ := h
    refine ⟨_, h, fun ρ act v' hv hz => ⟨_, rfl, fun w => ?_⟩⟩
    simp only [cz, Option.some.injEq] at hv
    subst hv
    have bl := bl ρ act fun z e => hz z (.inl e)
    have bh := bh ρ act fun z e => hz z (.inr (.inl e))
    unfold Instr.sliceAt
    simp only [Sem.run_bind, run_underlying hd, Result.andThen_ok]
    unfold Instr.slice
    simp only [Sem.run_bind, run_underlying hd, Result.andThen_ok]
    simp [run_sliceBounds (P := P) bl bh h1 (fun _ => h2), substr]
  · rename_i e i o sz n full hd
    replace h := withO_ok h; obtain ⟨sz', hs, h⟩ := h
    replace h := need_ok h; obtain ⟨hb, h⟩ := h
    obtain rfl : sz = sz' := by simpa using hb
    have hrun : ∀ {q : Option Addr} {c l h m : Nat} {lo' hi' mx' : Option Value} (w : World), (Instr.sliceBounds true n c lo' hi' mx').run P w = .ok (l, h, m) w →
        (Instr.sliceAt ty (.slice q n c) lo' hi' mx').run P w = .ok (.slice (if m = l then q else q.map (·.add (l * sz))) (h - l) (m - l)) w := fun {q c l h m lo' hi' mx'} w hbd => by
      unfold Instr.sliceAt
      simp only [Sem.run_bind, run_underlying hd, Result.andThen_ok]
      unfold Instr.slice
      simp only [Sem.run_bind, run_underlying hd, Result.andThen_ok, hbd, run_sizeOf hs, Sem.run_pure]
    split at h
    · replace h := boundO_ok h; obtain ⟨hh, h, bh⟩ := h
      replace h := boundO_ok h; obtain ⟨ll, h, bl⟩ := h
      rcases h with ⟨h1, h2, h3, h4, h⟩ | ⟨h0, rfl, rfl, rfl, rfl, h⟩
      rotate_left
      · refine ⟨_, h, fun ρ act v' hv hz => ?_⟩
        have bl := bl ρ act fun z e => hz z (.inl e)
        have bh := bh ρ act fun z e => hz z (.inr (.inl e))
        rcases cz_sl hv with ⟨b, c, g1, rfl, g2, g3, g4⟩ | ⟨_, _, g3, _, _⟩
        · obtain ⟨e1, e2⟩ := g4 rfl
          refine ⟨.slice (some ⟨b, ρ.δ i + (if ρ.γ i = hh then 0 else hh * sz), none⟩) 0 (ρ.γ i - hh), ?_, fun w => ?_⟩
          · simp only [cz, g1]
            rw [if_pos (by omega)]
          · simp only [Option.map_none]
            rw [hrun w (run_sliceBounds (P := P) bl bh (Nat.le_refl _) (fun _ => by omega) _ w)]
            have e3 : c = ρ.γ i := by omega
            subst e3
            by_cases hc : ρ.γ i = hh
            · simp [hc]
            · simp [hc, add_off]
        · omega
      refine ⟨_, h, fun ρ act v' hv hz => ?_⟩
      have bl := bl ρ act fun z e => hz z (.inl e)
      have bh := bh ρ act fun z e => hz z (.inr (.inl e))
      rcases cz_sl hv with ⟨b, c, g1, rfl, g2, g3, g4⟩ | ⟨g1, g2, g3, g4, rfl⟩
      · refine ⟨.slice (some ⟨b, ρ.δ i + (o + ll) * sz, none⟩) (hh - ll) (c - ll), ?_, fun w => ?_⟩
        · cases hf : full with
          | true =>
            have e1 := g3 hf
            have e2 := h4 hf
            subst e1 e2
            simp [cz, g1]
          | false =>
            obtain ⟨e1, e2⟩ := g4 hf
            simp only [cz, g1, Bool.false_eq_true, if_false]
            rw [if_pos (by omega)]
            simp only [Option.some.injEq, Value.slice.injEq, true_and]
            omega
        · simp only [Option.map_none]
          rw [hrun w (run_sliceBounds (P := P) bl bh h1 (fun _ => by omega) _ w)]
          have : (if c = ll then some (⟨b, ρ.δ i + o * sz, none⟩ : Addr) else (some (⟨b, ρ.δ i + o * sz, none⟩ : Addr)).map (·.add (ll * sz))) = some ⟨b, ρ.δ i + (o + ll) * sz, none⟩ := by
            by_cases hc : c = ll
            · have : ll = 0 := by omega
              subst this
              rw [if_pos hc]
              simp
            · rw [if_neg hc]
              simp [add_off, Nat.add_mul, Nat.add_assoc]
          rw [this]
      · subst g3 g4
        have e1 : hh = 0 := by omega
        have e2 : ll = 0 := by omega
        subst e1 e2
        refine ⟨.slice none 0 0, by simp [cz, g1, g2], fun w => ?_⟩
        simp only [Option.map_none]
        rw [hrun w (run_sliceBounds (P := P) bl bh h1 (fun _ => by omega) _ w)]
        simp
    · rename_i mx
      replace h := need_ok h; obtain ⟨hs1, h⟩ := h
      replace h := boundO_ok h; obtain ⟨hh, h, bh⟩ := h
      replace h := boundO_ok h; obtain ⟨ll, h, bl⟩ := h
      replace h := boundO_ok h; obtain ⟨mm, h, bm⟩ := h
      obtain ⟨h1, h2, h3, h4, h5, h⟩ := h
      refine ⟨_, h, fun ρ act v' hv hz => ?_⟩
      have bl := bl ρ act fun z e => hz z (.inl e)
      have bh := bh ρ act fun z e => hz z (.inr (.inl e))
      have bm := bm ρ act fun z e => hz z (.inr (.inr e))
      have hs2 : hi.map act.eval ≠ none := by cases hi <;> simp at hs1 ⊢
      subst h4
      rcases cz_sl hv with ⟨b, c, g1, rfl, g2, g3, g4⟩ | ⟨g1, g2, g3, g4, rfl⟩
      · refine ⟨.slice (some ⟨b, ρ.δ i + (o + ll) * sz, none⟩) (hh - ll) (hh - ll), by simp [cz, g1], fun w => ?_⟩
        rw [hrun w (run_sliceBounds3 (P := P) bl bh hs2 bm (by simp) h1 h2 (by omega) _ w)]
        have : (if hh = ll then some (⟨b, ρ.δ i + o * sz, none⟩ : Addr) else (some (⟨b, ρ.δ i + o * sz, none⟩ : Addr)).map (·.add (ll * sz))) = some ⟨b, ρ.δ i + (o + ll) * sz, none⟩ := by
          by_cases hc : hh = ll
          · have : ll = 0 := by omega
            subst this
            rw [if_pos hc]
            simp
          · rw [if_neg hc]
            simp [add_off, Nat.add_mul, Nat.add_assoc]
        rw [this]
      · subst g3 g4
        have e1 : hh = 0 := by omega
        have e2 : ll = 0 := by omega
        subst e1 e2
        refine ⟨.slice none 0 0, by simp [cz, g1, g2], fun w => ?_⟩
        rw [hrun w (run_sliceBounds3 (P := P) bl bh hs2 bm (by simp) h1 h2 (by omega) _ w)]
        simp
  · rename_i e i p sz n c hd
    replace h := withO_ok h; obtain ⟨sz', hs, h⟩ := h
    replace h := need_ok h; obtain ⟨hb, h⟩ := h
    obtain rfl : sz = sz' := by simpa using hb
    have hrun : ∀ {q : Option Addr} {l h m : Nat} {lo' hi' mx' : Option Value} (w : World), (Instr.sliceBounds true n c lo' hi' mx').run P w = .ok (l, h, m) w →
        (Instr.sliceAt ty (.slice q n c) lo' hi' mx').run P w = .ok (.slice (if m = l then q else q.map (·.add (l * sz))) (h - l) (m - l)) w := fun {q l h m lo' hi' mx'} w hbd => by
      unfold Instr.sliceAt
      simp only [Sem.run_bind, run_underlying hd, Result.andThen_ok]
      unfold Instr.slice
      simp only [Sem.run_bind, run_underlying hd, Result.andThen_ok, hbd, run_sizeOf hs, Sem.run_pure]
    have hadr : ∀ m l : Nat, (if m = l then (p.map fun q => (⟨q.1, q.2 * sz, none⟩ : Addr)) else (p.map fun q => (⟨q.1, q.2 * sz, none⟩ : Addr)).map (·.add (l * sz))) = (if m = l then p else p.map fun q => (q.1, q.2 + l)).map fun q => (⟨q.1, q.2 * sz, none⟩ : Addr) := fun m l => by
      by_cases e : m = l
      · rw [if_pos e, if_pos e]
      · rw [if_neg e, if_neg e]
        cases p with
        | none => rfl
        | some q => simp [add_off, Nat.add_mul]
    split at h
    · replace h := boundO_ok h; obtain ⟨hh, h, bh⟩ := h
      replace h := boundO_ok h; obtain ⟨ll, h, bl⟩ := h
      obtain ⟨h1, h2, h⟩ := h
      refine ⟨_, h, fun ρ act v' hv hz => ⟨_, rfl, fun w => ?_⟩⟩
      simp only [cz, Option.some.injEq] at hv
      subst hv
      have bl := bl ρ act fun z e => hz z (.inl e)
      have bh := bh ρ act fun z e => hz z (.inr (.inl e))
      simp only [Option.map_none]
      rw [hrun w (run_sliceBounds (P := P) bl bh h1 (fun _ => h2) _ w), hadr]
    · rename_i mx
      replace h := need_ok h; obtain ⟨hs1, h⟩ := h
      replace h := boundO_ok h; obtain ⟨hh, h, bh⟩ := h
      replace h := boundO_ok h; obtain ⟨ll, h, bl⟩ := h
      replace h := boundO_ok h; obtain ⟨mm, h, bm⟩ := h
      obtain ⟨h1, h2, h3, h⟩ := h
      refine ⟨_, h, fun ρ act v' hv hz => ⟨_, rfl, fun w => ?_⟩⟩
      simp only [cz, Option.some.injEq] at hv
      subst hv
      have bl := bl ρ act fun z e => hz z (.inl e)
      have bh := bh ρ act fun z e => hz z (.inr (.inl e))
      have bm := bm ρ act fun z e => hz z (.inr (.inr e))
      have hs2 : hi.map act.eval ≠ none := by cases hi <;> simp at hs1 ⊢
      rw [hrun w (run_sliceBounds3 (P := P) bl bh hs2 bm (by simp) h1 h2 h3 _ w), hadr]
  · rename_i e i p sz n c hd
    replace h := withO_ok h; obtain ⟨sz', hs, h⟩ := h
    replace h := need_ok h; obtain ⟨hb, h⟩ := h
    simp only [Bool.and_eq_true] at hb
    obtain rfl : sz = sz' := by simpa using hb.1
    obtain rfl : mx = none := by simpa using hb.2
    have hrun : ∀ {q : Option Addr} {l h m : Nat} {lo' hi' mx' : Option Value} (w : World), (Instr.sliceBounds true n c lo' hi' mx').run P w = .ok (l, h, m) w →
        (Instr.sliceAt ty (.slice q n c) lo' hi' mx').run P w = .ok (.slice (if m = l then q else q.map (·.add (l * sz))) (h - l) (m - l)) w := fun {q l h m lo' hi' mx'} w hbd => by
      unfold Instr.sliceAt
      simp only [Sem.run_bind, run_underlying hd, Result.andThen_ok]
      unfold Instr.slice
      simp only [Sem.run_bind, run_underlying hd, Result.andThen_ok, hbd, run_sizeOf hs, Sem.run_pure]
    have hadr : ∀ m l : Nat, (if m = l then (p.map fun q => (⟨q.1, q.2, none⟩ : Addr)) else (p.map fun q => (⟨q.1, q.2, none⟩ : Addr)).map (·.add (l * sz))) = (if m = l then p else p.map fun q => (q.1, q.2 + l * sz)).map fun q => (⟨q.1, q.2, none⟩ : Addr) := fun m l => by
      by_cases e : m = l
      · rw [if_pos e, if_pos e]
      · rw [if_neg e, if_neg e]
        cases p with
        | none => rfl
        | some q => simp [add_off]
    replace h := boundO_ok h; obtain ⟨hh, h, bh⟩ := h
    replace h := boundO_ok h; obtain ⟨ll, h, bl⟩ := h
    obtain ⟨h1, h2, h⟩ := h
    refine ⟨_, h, fun ρ act v' hv hz => ⟨_, rfl, fun w => ?_⟩⟩
    simp only [cz, Option.some.injEq] at hv
    subst hv
    have bl := bl ρ act fun z e => hz z (.inl e)
    have bh := bh ρ act fun z e => hz z (.inr (.inl e))
    simp only [Option.map_none]
    rw [hrun w (run_sliceBounds (P := P) bl bh h1 (fun _ => h2) _ w), hadr]
  · rename_i e hd
    replace h := withO_ok h; obtain ⟨sz, hs, h⟩ := h
    replace h := need_ok h; obtain ⟨hm, h⟩ := h
    obtain rfl : mx = none := by simpa using hm
    replace h := boundO_ok h; obtain ⟨hh, h, bh⟩ := h
    replace h := boundO_ok h; obtain ⟨ll, h, bl⟩ := h
    obtain ⟨h1, h2, h⟩ := h
    refine ⟨_, h, fun ρ act v' hv hz => ⟨_, rfl, fun w => ?_⟩⟩
    simp only [cz, Option.some.injEq] at hv
    subst hv
    have bl := bl ρ act fun z e => hz z (.inl e)
    have bh := bh ρ act fun z e => hz z (.inr (.inl e))
    have e1 : hh = 0 := by omega
    have e2 : ll = 0 := by omega
    subst e1 e2
    unfold Instr.sliceAt
    simp only [Sem.run_bind, run_underlying hd, Result.andThen_ok]
    unfold Instr.slice
    simp only [Sem.run_bind, run_underlying hd, Result.andThen_ok, Option.map_none]
    simp [run_sliceBounds (P := P) bl bh (Nat.le_refl 0) (fun _ => Nat.le_refl 0), run_sizeOf hs]
  · exact h.elim

theorem pureP_ok (h : pureP P o t K) : ∃ v, K v ∧ (∀ c, o.op ≠ .defer c) ∧ PureF P o t v := by
  unfold pureP at h
  split at h
  all_goals try exact h.elim
  · rename_i x hop
    replace h := withO_ok h; obtain ⟨v, hv, h⟩ := h
    exact ⟨v, h, (fun c e => by rw [hop] at e; cases e), fun {ρ act} hx => ⟨_, hx x (by rw [hop]; simp [Op.operands]) v hv, fun w => by simp [execOp, hop]⟩⟩
  · rename_i x hop
    replace h := withO_ok h; obtain ⟨v, hv, h⟩ := h
    exact ⟨v, h, (fun c e => by rw [hop] at e; cases e), fun {ρ act} hx => ⟨_, hx x (by rw [hop]; simp [Op.operands]) v hv, fun w => by simp [execOp, hop]⟩⟩
  · rename_i c x z hop
    replace h := withO_ok h; obtain ⟨vc, hvc, h⟩ := h
    replace h := withO_ok h; obtain ⟨vx, hvx, h⟩ := h
    replace h := withO_ok h; obtain ⟨vz, hvz, h⟩ := h
    obtain ⟨r, hr, hk⟩ := pickP_ok h
    refine ⟨r, hr, (fun c e => by rw [hop] at e; cases e), fun {ρ act} hx => ?_⟩
    rw [hop] at hx
    simp only [Op.operands] at hx
    obtain ⟨d, e, g⟩ := hk ρ _ _ _ (hx c (by simp) _ hvc) (hx x (by simp) _ hvx) (hx z (by simp) _ hvz)
    refine ⟨_, g, fun w => ?_⟩
    simp [execOp, hop, e, asBool]
  · rename_i x hop
    replace h := withO_ok h; obtain ⟨v, hv, h⟩ := h
    have hnd : ∀ c, o.op ≠ .defer c := fun c e => by rw [hop] at e; cases e
    split at h
    · refine ⟨_, h, hnd, fun {ρ act} hx => ?_⟩
      have hcz := hx x (by rw [hop]; simp [Op.operands]) _ hv
      refine ⟨_, hcz, fun w => ?_⟩
      simp only [cz, Option.map_eq_some_iff] at hcz
      obtain ⟨b, _, e⟩ := hcz
      simp [execOp, hop, ← e]
    · refine ⟨_, h, hnd, fun {ρ act} hx => ?_⟩
      have hcz := hx x (by rw [hop]; simp [Op.operands]) _ hv
      refine ⟨_, hcz, fun w => ?_⟩
      simp only [cz, Option.map_eq_some_iff] at hcz
      obtain ⟨b, _, e⟩ := hcz
      simp [execOp, hop, ← e]
    · rename_i f fi ca
      refine ⟨_, h, hnd, fun {ρ act} hx => ?_⟩
      have hcz := hx x (by rw [hop]; simp [Op.operands]) _ hv
      refine ⟨_, hcz, fun w => ?_⟩
      simp only [cz] at hcz
      split at hcz
      · rename_i hf
        split at hcz
        · have e := Option.some.inj hcz
          cases f <;> simp only [fnOk, Bool.false_eq_true] at hf <;> simp [execOp, hop, ← e]
        · cases hcz
      · cases hcz
    · refine ⟨_, h, hnd, fun {ρ act} hx => ?_⟩
      have hcz := hx x (by rw [hop]; simp [Op.operands]) _ hv
      refine ⟨_, hcz, fun w => ?_⟩
      simp only [cz, Option.some.injEq] at hcz
      simp [execOp, hop, ← hcz]
    · refine ⟨_, h, hnd, fun {ρ act} hx => ?_⟩
      have hcz := hx x (by rw [hop]; simp [Op.operands]) _ hv
      refine ⟨_, hcz, fun w => ?_⟩
      simp only [cz, Option.some.injEq] at hcz
      simp [execOp, hop, ← hcz]
    · exact h.elim
  · rename_i ty x i hop
    have hnd : ∀ c, o.op ≠ .defer c := fun c e => by rw [hop] at e; cases e
    split at h
    · rename_i fs hd
      replace h := withO_ok h; obtain ⟨f, hf, h⟩ := h
      replace h := need_ok h; obtain ⟨hp, h⟩ := h
      replace h := withO_ok h; obtain ⟨v, hv, h⟩ := h
      have hn : ∃ n, sizeT P f.type = some (n + 1) := by
        unfold posSz at hp
        split at hp
        · exact ⟨_, by assumption⟩
        · cases hp
      obtain ⟨n, hn⟩ := hn
      have hf' : fs[i]? = some f := by simpa using hf
      split at h
      · rename_i j off
        refine ⟨_, h, hnd, fun {ρ act} hx => ?_⟩
        have hcz := hx x (by rw [hop]; simp [Op.operands]) _ hv
        simp only [cz, Option.map_eq_some_iff] at hcz
        obtain ⟨b, hb, e⟩ := hcz
        refine ⟨.pointer (some ⟨b, off + f.offset, none⟩), by simp [cz, hb], fun w => ?_⟩
        simp only [execOp, hop, ← e, Instr.fieldAt, Sem.run_bind, run_underlying hd, Result.andThen_ok, hf', Instr.sureAddr, Sem.run_pure, fieldPlace, run_sizeOf hn]
        simp [add_off]
      · rename_i j k sz fo
        refine ⟨_, h, hnd, fun {ρ act} hx => ?_⟩
        have hcz := hx x (by rw [hop]; simp [Op.operands]) _ hv
        simp only [cz, Option.map_eq_some_iff] at hcz
        obtain ⟨b, hb, e⟩ := hcz
        refine ⟨.pointer (some ⟨b, ρ.δ j + k * sz + (fo + f.offset), none⟩), by simp [cz, hb], fun w => ?_⟩
        simp only [execOp, hop, ← e, Instr.fieldAt, Sem.run_bind, run_underlying hd, Result.andThen_ok, hf', Instr.sureAddr, Sem.run_pure, fieldPlace, run_sizeOf hn]
        simp [add_off, Nat.add_assoc]
      · rename_i j b off
        refine ⟨_, h, hnd, fun {ρ act} hx => ⟨_, rfl, fun w => ?_⟩⟩
        have hcz := hx x (by rw [hop]; simp [Op.operands]) _ hv
        simp only [cz, Option.some.injEq] at hcz
        simp only [execOp, hop, ← hcz, Instr.fieldAt, Sem.run_bind, run_underlying hd, Result.andThen_ok, hf', Instr.sureAddr, Sem.run_pure, fieldPlace, run_sizeOf hn]
        simp [add_off]
      · rename_i j b k sz fo
        refine ⟨_, h, hnd, fun {ρ act} hx => ⟨_, rfl, fun w => ?_⟩⟩
        have hcz := hx x (by rw [hop]; simp [Op.operands]) _ hv
        simp only [cz, Option.some.injEq] at hcz
        simp only [execOp, hop, ← hcz, Instr.fieldAt, Sem.run_bind, run_underlying hd, Result.andThen_ok, hf', Instr.sureAddr, Sem.run_pure, fieldPlace, run_sizeOf hn]
        simp [add_off, Nat.add_assoc]
      · exact h.elim
    · exact h.elim
  · rename_i ty x i hop
    have hnd : ∀ c, o.op ≠ .defer c := fun c e => by rw [hop] at e; cases e
    split at h
    · rename_i fs hd
      replace h := withO_ok h; obtain ⟨f, hf, h⟩ := h
      replace h := withO_ok h; obtain ⟨v, hv, h⟩ := h
      have hf' : fs[i]? = some f := by simpa using hf
      split at h
      · rename_i cs
        obtain ⟨r, hr, hk⟩ := partV_ok h
        refine ⟨r, hr, hnd, fun {ρ act} hx => ?_⟩
        have hcz := hx x (by rw [hop]; simp [Op.operands]) _ hv
        simp only [cz, Option.map_eq_some_iff] at hcz
        obtain ⟨cs', hc, e⟩ := hcz
        obtain ⟨r', g1, g2⟩ := hk ρ cs' hc
        refine ⟨r', g1, fun w => ?_⟩
        simp only [execOp, hop, ← e, Instr.field, Sem.run_bind, run_underlying hd, Result.andThen_ok, hf', asAgg, Sem.run_pure, g2 w]
      · exact h.elim
    · exact h.elim
  · rename_i ty x i hop
    have hnd : ∀ c, o.op ≠ .defer c := fun c e => by rw [hop] at e; cases e
    replace h := withO_ok h; obtain ⟨u, hu, h⟩ := h
    replace h := withO_ok h; obtain ⟨v, hv, h⟩ := h
    split at h
    · rename_i e j lo sz n full kk k hd
      replace h := withO_ok h; obtain ⟨sz', hs, h⟩ := h
      replace h := need_ok h; obtain ⟨hb, h⟩ := h
      obtain rfl : sz = sz' := by simpa using hb
      obtain ⟨h0, h1, h⟩ := h
      refine ⟨_, h, hnd, fun {ρ act} hx => ?_⟩
      have hcz := hx x (by rw [hop]; simp [Op.operands]) _ hu
      have hci := hx i (by rw [hop]; simp [Op.operands]) _ hv
      simp only [cz, Option.some.injEq] at hci
      rcases cz_sl hcz with ⟨b, c, g1, e1, g2, g3, g4⟩ | ⟨g1, g2, g3, g4, e1⟩
      · refine ⟨.pointer (some ⟨b, ρ.δ j + (lo + k.toNat) * sz + 0, none⟩), by simp [cz, g1], fun w => ?_⟩
        simp only [execOp, hop, e1, ← hci, Instr.indexAt, asIntOf, Sem.run_bind, Sem.run_pure, run_underlying hd, Result.andThen_ok]
        simp [h0, h1, run_sizeOf hs, add_off, Nat.add_mul, Nat.add_assoc]
      · omega
    · rename_i len e j off kk k hd
      replace h := withO_ok h; obtain ⟨sz, hs, h⟩ := h
      replace h := need_ok h; obtain ⟨hb, h⟩ := h
      have hlt : k < len := Nat.le_of_ble_eq_true hb
      refine ⟨_, h, hnd, fun {ρ act} hx => ?_⟩
      have hcz := hx x (by rw [hop]; simp [Op.operands]) _ hu
      have hci := hx i (by rw [hop]; simp [Op.operands]) _ hv
      simp only [cz, Option.some.injEq] at hci
      simp only [cz, Option.map_eq_some_iff] at hcz
      obtain ⟨b, hb, e⟩ := hcz
      refine ⟨.pointer (some ⟨b, off + k * sz, none⟩), by simp [cz, hb], fun w => ?_⟩
      simp only [execOp, hop, ← e, ← hci, Instr.indexAt, asIntOf, Sem.run_bind, Sem.run_pure, run_underlying hd, Result.andThen_ok]
      simp [hlt, run_sizeOf hs, add_off, Instr.sureAddr]
    · rename_i len e j m sz fo kk k hd
      replace h := withO_ok h; obtain ⟨sz', hs, h⟩ := h
      replace h := need_ok h; obtain ⟨hb, h⟩ := h
      have hlt : k < len := Nat.le_of_ble_eq_true hb
      refine ⟨_, h, hnd, fun {ρ act} hx => ?_⟩
      have hcz := hx x (by rw [hop]; simp [Op.operands]) _ hu
      have hci := hx i (by rw [hop]; simp [Op.operands]) _ hv
      simp only [cz, Option.some.injEq] at hci
      simp only [cz, Option.map_eq_some_iff] at hcz
      obtain ⟨b, hb, e⟩ := hcz
      refine ⟨.pointer (some ⟨b, ρ.δ j + m * sz + (fo + k * sz'), none⟩), by simp [cz, hb], fun w => ?_⟩
      simp only [execOp, hop, ← e, ← hci, Instr.indexAt, asIntOf, Sem.run_bind, Sem.run_pure, run_underlying hd, Result.andThen_ok]
      simp [hlt, run_sizeOf hs, add_off, Instr.sureAddr, Nat.add_assoc]
    · rename_i e j p sz n c kk k hd
      replace h := withO_ok h; obtain ⟨sz', hs, h⟩ := h
      replace h := need_ok h; obtain ⟨hb, h⟩ := h
      obtain rfl : sz = sz' := by simpa using hb
      obtain ⟨h0, h1, b, lo, rfl, h⟩ := h
      refine ⟨_, h, hnd, fun {ρ act} hx => ⟨_, rfl, fun w => ?_⟩⟩
      have hcz := hx x (by rw [hop]; simp [Op.operands]) _ hu
      have hci := hx i (by rw [hop]; simp [Op.operands]) _ hv
      simp only [cz, Option.some.injEq, Option.map_some] at hci hcz
      simp only [execOp, hop, ← hcz, ← hci, Instr.indexAt, asIntOf, Sem.run_bind, Sem.run_pure, run_underlying hd, Result.andThen_ok]
      simp [h0, h1, run_sizeOf hs, add_off, Nat.add_mul]
    · rename_i e j p sz n c kk k hd
      replace h := withO_ok h; obtain ⟨sz', hs, h⟩ := h
      replace h := need_ok h; obtain ⟨hb, h⟩ := h
      obtain rfl : sz = sz' := by simpa using hb
      obtain ⟨h0, h1, b, off, rfl, h⟩ := h
      refine ⟨_, h, hnd, fun {ρ act} hx => ⟨_, rfl, fun w => ?_⟩⟩
      have hcz := hx x (by rw [hop]; simp [Op.operands]) _ hu
      have hci := hx i (by rw [hop]; simp [Op.operands]) _ hv
      simp only [cz, Option.some.injEq, Option.map_some] at hci hcz
      simp only [execOp, hop, ← hcz, ← hci, Instr.indexAt, asIntOf, Sem.run_bind, Sem.run_pure, run_underlying hd, Result.andThen_ok]
      simp [h0, h1, run_sizeOf hs, add_off]
    · rename_i len e j b off kk k hd
      replace h := withO_ok h; obtain ⟨sz, hs, h⟩ := h
      replace h := need_ok h; obtain ⟨hb, h⟩ := h
      have hlt : k < len := Nat.le_of_ble_eq_true hb
      refine ⟨_, h, hnd, fun {ρ act} hx => ⟨_, rfl, fun w => ?_⟩⟩
      have hcz := hx x (by rw [hop]; simp [Op.operands]) _ hu
      have hci := hx i (by rw [hop]; simp [Op.operands]) _ hv
      simp only [cz, Option.some.injEq] at hci hcz
      simp only [execOp, hop, ← hcz, ← hci, Instr.indexAt, asIntOf, Sem.run_bind, Sem.run_pure, run_underlying hd, Result.andThen_ok]
      simp [hlt, run_sizeOf hs, add_off, Instr.sureAddr]
    · rename_i len e j b m sz fo kk k hd
      replace h := withO_ok h; obtain ⟨sz', hs, h⟩ := h
      replace h := need_ok h; obtain ⟨hb, h⟩ := h
      have hlt : k < len := Nat.le_of_ble_eq_true hb
      refine ⟨_, h, hnd, fun {ρ act} hx => ⟨_, rfl, fun w => ?_⟩⟩
      have hcz := hx x (by rw [hop]; simp [Op.operands]) _ hu
      have hci := hx i (by rw [hop]; simp [Op.operands]) _ hv
      simp only [cz, Option.some.injEq] at hci hcz
      simp only [execOp, hop, ← hcz, ← hci, Instr.indexAt, asIntOf, Sem.run_bind, Sem.run_pure, run_underlying hd, Result.andThen_ok]
      simp [hlt, run_sizeOf hs, add_off, Instr.sureAddr, Nat.add_assoc]
    · exact h.elim
  · rename_i ty x i hop
    have hnd : ∀ c, o.op ≠ .defer c := fun c e => by rw [hop] at e; cases e
    replace h := withO_ok h; obtain ⟨u, hu, h⟩ := h
    replace h := withO_ok h; obtain ⟨v, hv, h⟩ := h
    split at h
    · rename_i s kk k hd
      obtain ⟨h0, h1, h⟩ := h
      refine ⟨_, h, hnd, fun {ρ act} hx => ⟨_, rfl, fun w => ?_⟩⟩
      have hcz := hx x (by rw [hop]; simp [Op.operands]) _ hu
      have hci := hx i (by rw [hop]; simp [Op.operands]) _ hv
      simp only [cz, Option.some.injEq] at hci hcz
      have hb : s[k.toNat]? = some (s.data.toList.getD k.toNat 0) := by
        have h1' : k.toNat < s.data.size := h1
        rw [getElem?_pos s k.toNat h1]
        show some s.data[k.toNat] = _
        rw [List.getD_eq_getElem?_getD, Array.getElem?_toList, Array.getElem?_eq_getElem h1']
        rfl
      simp only [execOp, hop, ← hcz, ← hci, Instr.index, asIntOf, Sem.run_bind, Sem.run_pure, run_underlying hd, Result.andThen_ok]
      rw [if_pos h0, hb]
      rfl
    · rename_i len e cs kk k hd
      replace h := withO_ok h; obtain ⟨sz, hs, h⟩ := h
      replace h := need_ok h; obtain ⟨hb, h⟩ := h
      have hlt : k < len := Nat.le_of_ble_eq_true hb
      obtain ⟨r, hr, hk⟩ := partV_ok h
      refine ⟨r, hr, hnd, fun {ρ act} hx => ?_⟩
      have hcz := hx x (by rw [hop]; simp [Op.operands]) _ hu
      have hci := hx i (by rw [hop]; simp [Op.operands]) _ hv
      simp only [cz, Option.some.injEq] at hci
      simp only [cz, Option.map_eq_some_iff] at hcz
      obtain ⟨cs', hc, e⟩ := hcz
      obtain ⟨r', g1, g2⟩ := hk ρ cs' hc
      refine ⟨r', g1, fun w => ?_⟩
      simp only [execOp, hop, ← e, ← hci, Instr.index, asIntOf, Sem.run_bind, Sem.run_pure, run_underlying hd, Result.andThen_ok]
      have : (0 ≤ Int.ofNat k ∧ Int.ofNat k < (len : Int)) := by simp only [Int.ofNat_eq_natCast]; omega
      rw [if_pos this]
      simp [run_sizeOf hs, g2 w]
    · exact h.elim
  · rename_i op ty x y z hop
    have hnd : ∀ c, o.op ≠ .defer c := fun c e => by rw [hop] at e; cases e
    replace h := withO_ok h; obtain ⟨u, hu, h⟩ := h
    replace h := withO_ok h; obtain ⟨v, hv, h⟩ := h
    obtain ⟨r, hr, hk⟩ := binP_ok h
    refine ⟨r, hr, hnd, fun {ρ act} hx => ?_⟩
    obtain ⟨r', g1, g2⟩ := hk ρ _ _ (hx x (by rw [hop]; simp [Op.operands]) _ hu) (hx y (by rw [hop]; simp [Op.operands]) _ hv)
    refine ⟨r', g1, fun w => ?_⟩
    have := g2 x y w
    simp only [execOp, hop, Sem.run_bind] at this ⊢
    rw [this]
    rfl
  · rename_i op ty x hop
    have hnd : ∀ c, o.op ≠ .defer c := fun c e => by rw [hop] at e; cases e
    replace h := withO_ok h; obtain ⟨u, hu, h⟩ := h
    obtain ⟨r, hr, hk⟩ := unP_ok (P := P) h
    refine ⟨r, hr, hnd, fun {ρ act} hx => ?_⟩
    obtain ⟨r', g1, g2⟩ := hk ρ _ (hx x (by rw [hop]; simp [Op.operands]) _ hu)
    refine ⟨r', g1, fun w => ?_⟩
    simp only [execOp, hop, Sem.run_bind, g2 w]
    rfl
  · rename_i src dst x hop
    have hnd : ∀ c, o.op ≠ .defer c := fun c e => by rw [hop] at e; cases e
    replace h := withO_ok h; obtain ⟨u, hu, h⟩ := h
    split at h
    · rename_i d k kk n hs hd
      refine ⟨_, h, hnd, fun {ρ act} hx => ⟨_, rfl, fun w => ?_⟩⟩
      have hcz := hx x (by rw [hop]; simp [Op.operands]) _ hu
      simp only [cz, Option.some.injEq] at hcz
      simp only [execOp, hop, ← hcz, convert, Sem.run_bind, run_underlying hs, run_underlying hd, Result.andThen_ok]
      rfl
    · rename_i d s hs hd
      refine ⟨_, h, hnd, fun {ρ act} hx => ⟨_, rfl, fun w => ?_⟩⟩
      have hcz := hx x (by rw [hop]; simp [Op.operands]) _ hu
      simp only [cz, Option.some.injEq] at hcz
      simp only [execOp, hop, ← hcz, convert, Sem.run_bind, run_underlying hs, run_underlying hd, Result.andThen_ok]
      rfl
    · exact h.elim
  · rename_i x i hop
    have hnd : ∀ c, o.op ≠ .defer c := fun c e => by rw [hop] at e; cases e
    replace h := withO_ok h; obtain ⟨u, hu, h⟩ := h
    split at h
    · rename_i l
      replace h := withO_ok h; obtain ⟨v, hv, h⟩ := h
      refine ⟨_, h, hnd, fun {ρ act} hx => ?_⟩
      have hcz := hx x (by rw [hop]; simp [Op.operands]) _ hu
      simp only [cz, Option.map_eq_some_iff] at hcz
      obtain ⟨l', hl, e⟩ := hcz
      obtain ⟨v', g1, g2⟩ := czl_get i hl hv
      refine ⟨v', g2, fun w => ?_⟩
      have g1' : l'.toArray[i]? = some v' := by simpa using g1
      simp [execOp, hop, ← e, Instr.extract, g1]
    · exact h.elim
  · rename_i f fi ca hop
    have hnd : ∀ c, o.op ≠ .defer c := fun c e => by rw [hop] at e; cases e
    replace h := need_ok h; obtain ⟨hf, h⟩ := h
    replace h := withO_ok h; obtain ⟨fi', h1, h⟩ := h
    replace h := withO_ok h; obtain ⟨ca', h2, h⟩ := h
    refine ⟨_, h, hnd, fun {ρ act} hx => ?_⟩
    rw [hop] at hx
    simp only [Op.operands] at hx
    have g1 := opds_ok (fun y hy => hx y (by simp at hy; simp [hy])) h1
    have g2 := opds_ok (fun y hy => hx y (by simp at hy; simp [hy])) h2
    refine ⟨.func f (fi.map act.eval) (ca.map act.eval), ?_, fun w => ?_⟩
    · simp only [cz, hf, if_true, g1, g2]
      congr 2 <;> (apply Array.toList_inj.1; simp)
    · simp [execOp, hop, Instr.makeFunc]
  · rename_i ty x hop
    have hnd : ∀ c, o.op ≠ .defer c := fun c e => by rw [hop] at e; cases e
    replace h := withO_ok h; obtain ⟨v, hv, h⟩ := h
    split at h
    · exact h.elim
    · rename_i d hno hd
      refine ⟨_, h, hnd, fun {ρ act} hx => ?_⟩
      have hcz := hx x (by rw [hop]; simp [Op.operands]) _ hv
      refine ⟨.iface ty (act.eval x), by simp [cz, hcz], fun w => ?_⟩
      simp only [execOp, hop, Instr.makeInterface, Sem.run_bind, run_underlying hd, Result.andThen_ok]
      cases d <;> first | rfl | exact absurd rfl (hno _)
    · exact h.elim
  · rename_i x xt ty hop
    have hnd : ∀ c, o.op ≠ .defer c := fun c e => by rw [hop] at e; cases e
    replace h := withO_ok h; obtain ⟨u, hu, h⟩ := h
    split at h
    · exact h.elim
    · rename_i u v d hno hd
      replace h := need_ok h; obtain ⟨hb, h⟩ := h
      have hb' : u = ty := by simpa using hb
      refine ⟨_, h, hnd, fun {ρ act} hx => ?_⟩
      have hcz := hx x (by rw [hop]; simp [Op.operands]) _ hu
      simp only [cz, Option.map_eq_some_iff] at hcz
      obtain ⟨v', hv', e⟩ := hcz
      refine ⟨v', hv', fun w => ?_⟩
      simp only [execOp, hop, ← e, Instr.typeAssert, Sem.run_bind, run_underlying hd, Result.andThen_ok]
      cases d <;> first | (simp [hb']; done) | exact absurd rfl (hno _ _)
    · exact h.elim
  · rename_i ty x lo hi mx hop
    have hnd : ∀ c, o.op ≠ .defer c := fun c e => by rw [hop] at e; cases e
    replace h := withO_ok h; obtain ⟨v, hv, h⟩ := h
    obtain ⟨r, hr, hk⟩ := sliceP_ok h
    refine ⟨r, hr, hnd, fun {ρ act} hx => ?_⟩
    rw [hop] at hx
    simp only [Op.operands] at hx
    obtain ⟨r', g1, g2⟩ := hk ρ act _ (hx x (by simp) _ hv) (fun z hz => hx z (by rcases hz with rfl | rfl | rfl <;> simp))
    exact ⟨r', g1, fun w => by simp only [execOp, hop, Sem.run_bind, g2 w, Result.andThen_ok, Sem.run_pure]⟩
end
end Sy
end Go.Proofs.Ytmgcpfljhcahoaa
end
section
namespace Go.Proofs.Ytmgcpfljhcahoaa
open Go Go.RowKit
namespace Sy
variable {md : Bool}

def natP (n : Nat) (k : Nat → Prop) : Prop := match n with
  | 0 => k 0
  | m + 1 => k (m + 1)
theorem natP_ok {n : Nat} {k : Nat → Prop} (h : natP n k) : k n := by cases n <;> exact h
/-- How many there are, reckoned. -/
def lenK {α : Type} (l : List α) (n : Nat) (K : Nat → Prop) : Prop := List.rec (motive := fun _ => Nat → Prop) (fun n => K n) (fun _ _ ih n => natP (n + 1) ih) l n
theorem lenK_ok {α : Type} {K : Nat → Prop} : ∀ {l : List α} {n : Nat}, lenK l n K → K (n + l.length)
  | [], _, h => h
  | _ :: l, n, h => by
    have h : natP (n + 1) fun n => lenK l n K := h
    have := lenK_ok (natP_ok h)
    rw [show n + 1 + l.length = n + (l.length + 1) by omega] at this
    exact this
def newP (s : St) (o : SObj) (K : Nat → St → Prop) : Prop := match s with
  | ⟨n, H⟩ => H.put 60 n (some o) fun H => natP (n + 1) fun n' => K n ⟨n', H⟩
def setP (s : St) (i : Nat) (o : Option SObj) (K : St → Prop) : Prop := match s with
  | ⟨n, H⟩ => H.put 60 i o fun H => K ⟨n, H⟩
theorem newP_ok {s : St} {o : SObj} {K : Nat → St → Prop} (h : newP s o K) : ∃ H, (∀ m, H.get m = if m = s.n then some o else s.H.get m) ∧ K s.n ⟨s.n + 1, H⟩ := by
  obtain ⟨H, h1, h2⟩ := Tr.put_get _ _ _ _ _ h
  exact ⟨H, h2, natP_ok (k := fun n' => K s.n ⟨n', H⟩) h1⟩
theorem setP_ok {s : St} {i : Nat} {o : Option SObj} {K : St → Prop} (h : setP s i o K) : ∃ H, (∀ m, H.get m = if m = i then o else s.H.get m) ∧ K ⟨s.n, H⟩ := by
  obtain ⟨H, h1, h2⟩ := Tr.put_get _ _ _ _ _ h
  exact ⟨H, h2, h1⟩

def putD (off : Nat) (l vs : List V) : List V := l.take off ++ vs ++ l.drop (off + vs.length)
def overLP : List V → List V → (List V → Prop) → Prop
  | [], l, k => k l
  | _ :: _, [], _ => False
  | v :: vs, _ :: l, k => overLP vs l fun l => k (v :: l)
def putLP : Nat → List V → List V → (List V → Prop) → Prop
  | 0, l, vs, k => overLP vs l k
  | _ + 1, [], _, _ => False
  | n + 1, x :: l, vs, k => putLP n l vs fun l => k (x :: l)
theorem overLP_ok : ∀ {vs l : List V} {k : List V → Prop}, overLP vs l k → k (vs ++ l.drop vs.length) ∧ vs.length ≤ l.length
  | [], _, _, h => by simpa [overLP] using h
  | _ :: _, [], _, h => h.elim
  | v :: vs, x :: l, k, h => by
    have := overLP_ok (vs := vs) (l := l) (k := fun l => k (v :: l)) h
    simpa using this
theorem putLP_ok : ∀ {n : Nat} {l vs : List V} {k : List V → Prop}, putLP n l vs k → k (putD n l vs) ∧ n + vs.length ≤ l.length
  | 0, l, vs, k, h => by have := overLP_ok h; simpa [putD] using this
  | _ + 1, [], _, _, h => h.elim
  | n + 1, x :: l, vs, k, h => by
    have := putLP_ok (n := n) (l := l) (k := fun l => k (x :: l)) h
    unfold putD at *
    simp only [List.take_succ_cons, List.length_cons, List.cons_append]
    refine ⟨?_, by omega⟩
    rw [show n + 1 + vs.length = n + vs.length + 1 by omega, List.drop_succ_cons]
    exact this.1
theorem putD_length {off : Nat} {l vs : List V} (h : off + vs.length ≤ l.length) : (putD off l vs).length = l.length := by simp [putD]; omega

def viewP (fv : Option (Nat → List V)) (m : Nat) (f : Nat → List V) (K : (Nat → List V) → Prop) : Prop := match fv with
  | none => K f
  | some g => (∀ q, q < m → g q = f q) ∧ K g
theorem viewP_ok {fv : Option (Nat → List V)} {m : Nat} {f : Nat → List V} {K : (Nat → List V) → Prop} (h : viewP fv m f K) : ∃ g, (∀ q, q < m → g q = f q) ∧ K g := by
  cases fv with
  | none => exact ⟨f, fun _ _ => rfl, h⟩
  | some g => exact ⟨g, h⟩

/-- What lies in memory that is only read, from a cell on. -/
def FzAt (Z : Nat → Option Obj) (b off : Nat) (cs : List V) : Prop := ∃ pre mid tail T fr, Z b = some (.cells (pre ++ mid ++ tail).toArray T fr) ∧ pre.length = off ∧ ∀ ρ, czl ρ cs = some mid
def FzRow (Z : Nat → Option Obj) (p : Option (Nat × Nat)) (sz : Nat) (g : Nat → List V) (m : Nat) : Prop := RowOk m g sz ∧ (m = 0 ∨ ∃ b off, p = some (b, off) ∧ FzAt Z b off (rowL g m))
def loadP (P : Program) (s : St) (ty : TypeId) (v : V) (K : V → Prop) : Prop := match v with
  | .ptr i off => withO (s.H.get i) fun o => match o with
    | .cells l _ => partV P ty l off K
    | _ => False
  | .ep i j sz fo => withO (s.H.get i) fun o => match o with
    | .row n f _ sz' => need (Nat.beq sz sz') (j < n ∧ partV P ty (f j) fo K)
    | .ro _ n f _ sz' => need (Nat.beq sz sz') (j < n ∧ partV P ty (f j) fo K)
    | _ => False
  | .ap i b off => withO (s.H.get i) fun o => match o with
    | .memc _ M => ∃ l, M b = some l ∧ partV P ty l off K
    | .fz Z => ∃ cs, FzAt Z b off cs ∧ partV P ty cs 0 K
    | _ => False
  | .ae i b j sz fo => withO (s.H.get i) fun o => match o with
    | .memr _ sz' M => need (Nat.beq sz sz') (∃ N C f, M b = some (N, C, f) ∧ j < N ∧ partV P ty (f j) fo K)
    | _ => False
  | _ => False
def storeP (P : Program) (s : St) (ty : TypeId) (u v : V) (fv : Option (Nat → List V)) (K : St → Prop) : Prop :=
  withO (sizeT P ty) fun n => need (Nat.beq (cellsOf v).length n && oneCells (cellsOf v)) (match u with
  | .ptr i off => withO (s.H.get i) fun o => match o with
    | .cells l e => putLP off l (cellsOf v) fun l => setP s i (some (.cells l e)) K
    | _ => False
  | .ep i j sz fo => withO (s.H.get i) fun o => match o with
    | .row m f e sz' => need (Nat.beq sz sz' && Nat.ble (fo + n) sz) (j < m ∧ viewP fv m (fun q => bif Nat.beq q j then putD fo (f q) (cellsOf v) else f q) fun f' => setP s i (some (.row m f' e sz')) K)
    | _ => False
  | .ap i b off => withO (s.H.get i) fun o => match o with
    | .memc T M => ∃ l, M b = some l ∧ putLP off l (cellsOf v) fun l' => ∃ M', (M' b = some l' ∧ ∀ x, x ≠ b → M' x = M x) ∧ setP s i (some (.memc T M')) K
    | _ => False
  | .ae i b j sz fo => withO (s.H.get i) fun o => match o with
    | .memr e sz' M => need (Nat.beq sz sz' && Nat.ble (fo + n) sz) (∃ N C f, M b = some (N, C, f) ∧ j < N ∧ ∃ f' M', (∀ q, q < N → f' q = bif Nat.beq q j then putD fo (f q) (cellsOf v) else f q) ∧ (M' b = some (N, C, f') ∧ ∀ x, x ≠ b → M' x = M x) ∧ setP s i (some (.memr e sz' M')) K)
    | _ => False
  | _ => False)

section
variable {P : Program} {ρ ρ' : Ren} {s s' : St} {w w' : World} {o : Oper} {a act : Act} {t : Tr V}

/-- What is read off a block's cells. -/
theorem run_loadVar {ty : TypeId} {C l' pre tail : List Value} {b q : Nat} {cs : List V} {fo : Nat} (hb : ∀ j v, C[j]? = some v → w.cell? ⟨b, j, none⟩ = some v) (hC : C = pre ++ l' ++ tail) (hq : q = pre.length + fo) (hl : czl ρ cs = some l') {v : V}
    (hv : partV P ty cs fo (· = v)) : ∃ v', cz ρ v = some v' ∧ (loadVar ty ⟨b, q, none⟩).run P w = .ok v' w := by
  subst hC hq
  unfold partV at hv
  have hlen := czl_length hl
  split at hv
  · rename_i ha
    obtain ⟨n, hn, hv⟩ := withO_ok hv
    obtain ⟨hle, hv⟩ := need_ok hv
    subst hv
    have hle := Nat.le_of_ble_eq_true hle
    have hd := czl_take n (czl_drop fo hl)
    refine ⟨.agg ((l'.drop fo).take n).toArray, by simp only [cz, hd, Option.map_some], ?_⟩
    have := run_loadCells_list (P := P) w ⟨b, pre.length + fo, none⟩ ((l'.drop fo).take n) (fun j u hj => by
      rw [add_off]
      apply hb
      have hj' : l'[fo + j]? = some u := by
        rw [List.getElem?_take] at hj
        split at hj
        · simpa [List.getElem?_drop] using hj
        · cases hj
      have hlt : fo + j < l'.length := (List.getElem?_eq_some_iff.1 hj').1
      rw [List.append_assoc, List.getElem?_append_right (by omega), List.getElem?_append_left (by omega), show pre.length + fo + j - pre.length = fo + j by omega]
      exact hj')
    rw [show ((l'.drop fo).take n).length = n by simp; omega] at this
    unfold loadVar
    simp only [Sem.run_bind, run_isAgg ha, Result.andThen_ok, if_true, run_sizeOf hn, this, Sem.run_pure]
  · rename_i ha
    obtain ⟨u, hu, hv⟩ := withO_ok hv
    subst hv
    obtain ⟨v', h1, h2⟩ := czl_get fo hl hu
    refine ⟨v', h2, ?_⟩
    have hlt : fo < l'.length := (List.getElem?_eq_some_iff.1 h1).1
    have := hb (pre.length + fo) v' (by
      rw [List.append_assoc, List.getElem?_append_right (by omega), List.getElem?_append_left (by omega), show pre.length + fo - pre.length = fo by omega]
      exact h1)
    unfold loadVar
    simp only [Sem.run_bind, run_isAgg ha, Result.andThen_ok, Bool.false_eq_true, if_false, run_load, this]
  · exact hv.elim
theorem partV_some {ty : TypeId} {cs : List V} {fo : Nat} {K : V → Prop} (h : partV P ty cs fo K) : ∃ v, K v ∧ partV P ty cs fo (· = v) := by
  unfold partV at h ⊢
  split at h
  · obtain ⟨n, hn, h⟩ := withO_ok h
    obtain ⟨hle, h⟩ := need_ok h
    exact ⟨_, h, by simp [hn, withO, need, hle]⟩
  · obtain ⟨v, hv, h⟩ := withO_ok h
    exact ⟨v, h, by simp [hv, withO]⟩
  · exact h.elim

theorem cell_of_list {b : Nat} {C : List Value} {e : TypeId} {fr : Nat × Nat} (h : w.heap[b]? = some (.cells C.toArray e fr)) (j : Nat) (v : Value) (hj : C[j]? = some v) : w.cell? ⟨b, j, none⟩ = some v := by
  simp [World.cell?, h, hj]

theorem loadP_ok {ty : TypeId} {u : V} {K : V → Prop} (h : loadP P s ty u K) : ∃ v, K v ∧ ∀ {ρ : Ren} {w : World} {u' : Value}, Rel ρ s w → cz ρ u = some u' → ∃ b q v', u' = .pointer (some ⟨b, q, none⟩) ∧ cz ρ v = some v' ∧ (loadVar ty ⟨b, q, none⟩).run P w = .ok v' w := by
  unfold loadP at h
  split at h
  · rename_i i off
    replace h := withO_ok h; obtain ⟨ob, ho, h⟩ := h
    split at h
    · rename_i l e
      obtain ⟨v, h1, h2⟩ := partV_some h
      refine ⟨v, h1, fun {ρ w u'} hr hu => ?_⟩
      simp only [cz, Option.map_eq_some_iff] at hu
      obtain ⟨b, hb, rfl⟩ := hu
      obtain ⟨b', l', g1, g2, g3, g4⟩ := hr.obj i _ ho
      rw [hb] at g1
      cases g1
      obtain ⟨v', q1, q2⟩ := run_loadVar (P := P) (ρ := ρ) (w := w) (b := b) (q := off) (C := l') (pre := []) (l' := l') (tail := []) (cell_of_list g3) (by simp) (by simp) g2 h2
      exact ⟨b, off, v', rfl, q1, q2⟩
    · exact h.elim
  · rename_i i j sz fo
    replace h := withO_ok h; obtain ⟨ob, ho, h⟩ := h
    have key : ∀ {n : Nat} {f : Nat → List V}, j < n → RowOk n f sz → ∀ {v : V}, partV P ty (f j) fo (· = v) → ∀ {ρ : Ren} {w : World} {b : Nat} {e : TypeId} {fr : Nat × Nat} {pre l' tail : List Value}, pre.length = ρ.δ i →
        czl ρ (rowL f n) = some l' → w.heap[b]? = some (.cells (pre ++ l' ++ tail).toArray e fr) → ∃ v', cz ρ v = some v' ∧ (loadVar ty ⟨b, ρ.δ i + j * sz + fo, none⟩).run P w = .ok v' w := by
      intro n f hj hf v hv ρ w b e fr pre l' tail hpre hl hbk
      obtain ⟨A, B, e1, e2⟩ := rowL_at hf.len hj
      rw [e1] at hl
      obtain ⟨x1, x2, k1, k2, rfl⟩ := czl_split hl
      obtain ⟨x3, x4, k3, k4, rfl⟩ := czl_split k1
      have hA := czl_length k3
      exact run_loadVar (P := P) (ρ := ρ) (w := w) (b := b) (C := pre ++ (x3 ++ x4 ++ x2) ++ tail) (pre := pre ++ x3) (l' := x4) (tail := x2 ++ tail) (cell_of_list hbk) (by simp) (by rw [List.length_append]; omega) k4 hv
    split at h
    · rename_i n f e sz'
      replace h := need_ok h; obtain ⟨hb, hj, h⟩ := h
      obtain rfl : sz = sz' := by simpa using hb
      obtain ⟨v, h1, h2⟩ := partV_some h
      refine ⟨v, h1, fun {ρ w u'} hr hu => ?_⟩
      simp only [cz, Option.map_eq_some_iff] at hu
      obtain ⟨b, hb, rfl⟩ := hu
      rcases hr.obj i _ ho with ⟨_, g3, _⟩ | ⟨b', pre, l', tail, g1, g2, g3, g4, g5, g6, g7, g8⟩
      · omega
      · rw [hb] at g1
        cases g1
        obtain ⟨v', q1, q2⟩ := key hj g6 h2 g4 g2 g3
        exact ⟨b, _, v', rfl, q1, q2⟩
    · rename_i c n f e sz'
      replace h := need_ok h; obtain ⟨hb, hj, h⟩ := h
      obtain rfl : sz = sz' := by simpa using hb
      obtain ⟨v, h1, h2⟩ := partV_some h
      refine ⟨v, h1, fun {ρ w u'} hr hu => ?_⟩
      simp only [cz, Option.map_eq_some_iff] at hu
      obtain ⟨b, hb, rfl⟩ := hu
      rcases hr.obj i _ ho with ⟨g1, _⟩ | ⟨b', pre, l', tail, g1, g2, g3, ⟨fr, g4⟩, g5, g6, g7, g8⟩
      · omega
      · rw [hb] at g1
        cases g1
        rw [g4] at g3
        obtain ⟨v', q1, q2⟩ := key hj g6 h2 g5 g2 g3
        exact ⟨b, _, v', rfl, q1, q2⟩
    · exact h.elim
  · rename_i i b off
    replace h := withO_ok h; obtain ⟨ob, ho, h⟩ := h
    split at h
    · rename_i T M
      obtain ⟨l, hM, h⟩ := h
      obtain ⟨v, h1, h2⟩ := partV_some h
      refine ⟨v, h1, fun {ρ w u'} hr hu => ?_⟩
      simp only [cz, Option.some.injEq] at hu
      obtain ⟨_, l', g2, g3⟩ := hr.obj i _ ho b l hM
      obtain ⟨v', q1, q2⟩ := run_loadVar (P := P) (ρ := ρ) (w := w) (b := b) (q := off) (C := l') (pre := []) (l' := l') (tail := []) (cell_of_list g3) (by simp) (by simp) g2 h2
      exact ⟨b, off, v', hu.symm, q1, q2⟩
    · rename_i Z
      obtain ⟨cs, ⟨pre, mid, tail, T, fr, hZ, hp, hc⟩, h⟩ := h
      obtain ⟨v, h1, h2⟩ := partV_some h
      refine ⟨v, h1, fun {ρ w u'} hr hu => ?_⟩
      simp only [cz, Option.some.injEq] at hu
      obtain ⟨_, g3⟩ := hr.obj i _ ho b _ hZ
      obtain ⟨v', q1, q2⟩ := run_loadVar (P := P) (ρ := ρ) (w := w) (b := b) (q := off) (C := pre ++ mid ++ tail) (pre := pre) (l' := mid) (tail := tail) (cell_of_list g3) rfl (by rw [hp]; rfl) (hc ρ) h2
      exact ⟨b, off, v', hu.symm, q1, q2⟩
    · exact h.elim
  · rename_i i b j sz fo
    replace h := withO_ok h; obtain ⟨ob, ho, h⟩ := h
    split at h
    · rename_i e sz' M
      replace h := need_ok h; obtain ⟨hb, N, C, f, hM, hj, h⟩ := h
      obtain rfl : sz = sz' := by simpa using hb
      obtain ⟨v, h1, h2⟩ := partV_some h
      refine ⟨v, h1, fun {ρ w u'} hr hu => ?_⟩
      simp only [cz, Option.some.injEq] at hu
      obtain ⟨_, _, l', tail, g2, g3, _, g5⟩ := hr.obj i _ ho b N C f hM
      obtain ⟨A, B, e1, e2⟩ := rowL_at g5.len hj
      rw [e1] at g2
      obtain ⟨x1, x2, k1, k2, rfl⟩ := czl_split g2
      obtain ⟨x3, x4, k3, k4, rfl⟩ := czl_split k1
      have hA := czl_length k3
      obtain ⟨v', q1, q2⟩ := run_loadVar (P := P) (ρ := ρ) (w := w) (b := b) (q := j * sz + fo) (C := x3 ++ x4 ++ x2 ++ tail) (pre := x3) (l' := x4) (tail := x2 ++ tail) (cell_of_list g3) (by simp) (by omega) k4 h2
      exact ⟨b, _, v', hu.symm, q1, q2⟩
    · exact h.elim
  · exact h.elim

theorem run_storeVar {ty n : TypeId} {b q : Nat} {C : List Value} {e : TypeId} {v : Value} (hn : sizeT P ty = some n) (hb : w.heap[b]? = some (.cells C.toArray e (0, 0))) (hs : v.cells.size = n) (hq : q + n ≤ C.length) (h1 : ∀ x ∈ v.cells.toList, x.oneCell' = true) :
    (storeVar ty ⟨b, q, none⟩ v).run P w = .ok () (w.setRow b ((C.take q ++ v.cells.toList ++ C.drop (q + v.cells.toList.length)).toArray)) := by
  have hst := run_storeCells_at (P := P) b q e v.cells.toList 0 C.toArray w hb (by simp; omega) h1
  unfold storeVar
  simp only [Sem.run_bind, run_sizeOf hn, Result.andThen_ok, hs, ne_eq, not_true, if_false, Sem.run_ite]
  simpa using hst

theorem storeP_ok {ty : TypeId} {u v : V} {fv : Option (Nat → List V)} {K : St → Prop} (h : storeP P s ty u v fv K) : ∃ s', K s' ∧ ∀ {ρ : Ren} {w : World} {u' v' : Value}, Rel ρ s w → cz ρ u = some u' → cz ρ v = some v' →
    ∃ b q w', u' = .pointer (some ⟨b, q, none⟩) ∧ Step md s.n s ρ w s' ρ w' ∧ (storeVar ty ⟨b, q, none⟩ v').run P w = .ok () w' := by
  unfold storeP at h
  replace h := withO_ok h; obtain ⟨n, hn, h⟩ := h
  replace h := need_ok h; obtain ⟨hb, h⟩ := h
  simp only [Bool.and_eq_true] at hb
  have hlen : (cellsOf v).length = n := by simpa using hb.1
  have hone := hb.2
  have hrow : ∀ (w : World) (b : Nat) (c : Array Value), (w.setRow b c).os = w.os ∧ (w.setRow b c).tape = w.tape ∧ (w.setRow b c).output = w.output ∧ (w.setRow b c).heap.size = w.heap.size := fun w b c => ⟨rfl, rfl, rfl, by simp⟩
  split at h
  · rename_i i off
    replace h := withO_ok h; obtain ⟨ob, ho, h⟩ := h
    split at h
    · rename_i l e
      replace h := putLP_ok h; obtain ⟨h, hle⟩ := h
      replace h := setP_ok h; obtain ⟨H, hH, h⟩ := h
      refine ⟨_, h, fun {ρ w u' v'} hr hu hv => ?_⟩
      simp only [cz, Option.map_eq_some_iff] at hu
      obtain ⟨b, hb, rfl⟩ := hu
      obtain ⟨b', l', g1, g2, g3, g4⟩ := hr.obj i _ ho
      rw [hb] at g1
      cases g1
      have hvs := czl_cellsOf hr.sig hv
      have hones := czl_ones hr.sig hvs hone
      have hvl := czl_length hvs
      have hll := czl_length g2
      have hsz : v'.cells.size = n := by simpa [hlen] using hvl
      have hrun := run_storeVar (P := P) (q := off) hn g3 hsz (by omega) hones
      refine ⟨b, off, _, rfl, Step.set hr ho hH ⟨b, l'.take off ++ v'.cells.toList ++ l'.drop (off + v'.cells.toList.length), hb, ?_, ?_, g4⟩ (fun k hk => setRow_other w b k _ (fun e => hk ((g4 k).2 e))) (hrow w b _).2.2.2 rfl rfl rfl, hrun⟩
      · exact czl_append (czl_append (czl_take off g2) hvs) (by rw [← hvl]; exact czl_drop _ g2)
      · rw [setRow_heap w b _ _ e _ g3]
    · exact h.elim
  · rename_i i j sz fo
    replace h := withO_ok h; obtain ⟨ob, ho, h⟩ := h
    split at h
    · rename_i m f e sz'
      replace h := need_ok h; obtain ⟨hb2, hj, h⟩ := h
      simp only [Bool.and_eq_true] at hb2
      obtain rfl : sz = sz' := by simpa using hb2.1
      have hfo : fo + n ≤ sz := Nat.le_of_ble_eq_true hb2.2
      replace h := viewP_ok h; obtain ⟨f', hf', h⟩ := h
      replace h := setP_ok h; obtain ⟨H, hH, h⟩ := h
      refine ⟨_, h, fun {ρ w u' v'} hr hu hv => ?_⟩
      simp only [cz, Option.map_eq_some_iff] at hu
      obtain ⟨b, hb, rfl⟩ := hu
      rcases hr.obj i _ ho with ⟨_, g3, _⟩ | ⟨b', pre, l', tail, g1, g2, g3, g4, g5, g6, g7, g8⟩
      · omega
      rw [hb] at g1
      cases g1
      have hvs := czl_cellsOf hr.sig hv
      have hones := czl_ones hr.sig hvs hone
      have hvl := czl_length hvs
      have hsz : v'.cells.size = n := by simpa [hlen] using hvl
      obtain ⟨A, B, e1, e2⟩ := rowL_at g6.len hj
      have hflen := g6.len j hj
      have ef : ∀ q, q < m → f' q = if q = j then putD fo (f j) (cellsOf v) else f q := fun q hq => by
        rw [hf' q hq]
        by_cases e : q = j
        · subst e; simp
        · have : Nat.beq q j = false := by cases hq2 : Nat.beq q j with | false => rfl | true => exact absurd (Nat.eq_of_beq_eq_true hq2) e
          rw [this, if_neg e]; rfl
      have e3 : rowL f' m = A ++ putD fo (f j) (cellsOf v) ++ B := by
        have hs1 := rowL_split f' (j + 1) (m - (j + 1))
        have hs2 := rowL_split f (j + 1) (m - (j + 1))
        rw [show j + 1 + (m - (j + 1)) = m by omega, rowL_succ] at hs1 hs2
        have c1 : rowL f' j = rowL f j := rowL_congr fun q hq => by rw [ef q (by omega), if_neg (by omega)]
        have c2 : rowL (fun q => f' (j + 1 + q)) (m - (j + 1)) = rowL (fun q => f (j + 1 + q)) (m - (j + 1)) := rowL_congr fun q hq => by rw [ef _ (by omega), if_neg (by omega)]
        have hlA : (rowL f j).length = A.length := by rw [rowL_length fun q hq => g6.len q (by omega), e2]
        rw [hs2] at e1
        have e1' := e1
        rw [List.append_assoc, List.append_assoc] at e1'
        obtain ⟨k1, k2⟩ := List.append_inj e1' hlA
        have k3 := List.append_cancel_left k2
        rw [hs1, c1, c2, k1, ef j hj, if_pos rfl, k3]
      rw [e1] at g2
      obtain ⟨x1, x2, k1, k2, rfl⟩ := czl_split g2
      obtain ⟨x3, x4, k3, k4, rfl⟩ := czl_split k1
      have l3 := czl_length k3
      have l4 := czl_length k4
      have hput : czl ρ (putD fo (f j) (cellsOf v)) = some (x4.take fo ++ v'.cells.toList ++ x4.drop (fo + v'.cells.toList.length)) :=
        czl_append (czl_append (czl_take fo k4) hvs) (by rw [← hvl]; exact czl_drop _ k4)
      have hrun := run_storeVar (P := P) (q := ρ.δ i + j * sz + fo) hn g3 hsz (by simp only [List.length_append]; omega) hones
      refine ⟨b, _, _, rfl, Step.set hr ho hH (.inr ⟨b, pre, x3 ++ (x4.take fo ++ v'.cells.toList ++ x4.drop (fo + v'.cells.toList.length)) ++ x2, tail, hb, ?_, ?_, g4, ?_, ?_, g7, g8⟩) (fun k hk => setRow_other w b k _ (fun e => hk ((g8 k).2 e))) (hrow w b _).2.2.2 rfl rfl rfl, hrun⟩
      · rw [e3]
        exact czl_append (czl_append k3 hput) k2
      · rw [setRow_heap w b _ _ e _ g3]
        congr 3
        have hq : ρ.δ i + j * sz + fo = (pre ++ x3).length + fo := by rw [List.length_append]; omega
        have hC : pre ++ (x3 ++ x4 ++ x2) ++ tail = (pre ++ x3) ++ (x4 ++ (x2 ++ tail)) := by simp
        rw [hq, hC, List.take_append, List.drop_append]
        have t1 : List.take ((pre ++ x3).length + fo) (pre ++ x3) = pre ++ x3 := List.take_of_length_le (by omega)
        have t2 : List.drop ((pre ++ x3).length + fo + v'.cells.toList.length) (pre ++ x3) = [] := List.drop_eq_nil_of_le (by omega)
        have v0 : v'.cells.toList.length = n := by simpa using hsz
        rw [t1, t2, show (pre ++ x3).length + fo - (pre ++ x3).length = fo by omega, show (pre ++ x3).length + fo + v'.cells.toList.length - (pre ++ x3).length = fo + v'.cells.toList.length by omega,
          List.take_append_of_le_length (by omega), List.drop_append_of_le_length (by omega)]
        simp
      · rw [← g5]
        have v0 : v'.cells.toList.length = n := by simpa using hsz
        simp only [List.length_append, List.length_take, List.length_drop]
        omega
      · intro q hq
        rw [ef q hq]
        split
        · refine ⟨by rw [putD_length (by omega)]; exact hflen, ?_⟩
          unfold putD
          rw [oneCells_append, oneCells_append, oneCells_take _ (g6 j hj).2, oneCells_drop _ (g6 j hj).2, hone]
          rfl
        · exact g6 q hq
    · exact h.elim
  · rename_i i b off
    replace h := withO_ok h; obtain ⟨ob, ho, h⟩ := h
    split at h
    · rename_i T M
      obtain ⟨l, hM, h⟩ := h
      replace h := putLP_ok h; obtain ⟨⟨M', ⟨hM1, hM2⟩, h⟩, hle⟩ := h
      replace h := setP_ok h; obtain ⟨H, hH, h⟩ := h
      refine ⟨_, h, fun {ρ w u' v'} hr hu hv => ?_⟩
      simp only [cz, Option.some.injEq] at hu
      have hob := hr.obj i _ ho
      obtain ⟨g1, l', g2, g3⟩ := hob b l hM
      have hvs := czl_cellsOf hr.sig hv
      have hones := czl_ones hr.sig hvs hone
      have hvl := czl_length hvs
      have hll := czl_length g2
      have hsz : v'.cells.size = n := by simpa [hlen] using hvl
      have hrun := run_storeVar (P := P) (q := off) hn g3 hsz (by omega) hones
      refine ⟨b, off, _, hu.symm, Step.set hr ho hH (fun x lx hx => ?_) (fun k hk => setRow_other w b k _ (fun e => hk (e ▸ g1))) (hrow w b _).2.2.2 rfl rfl rfl, hrun⟩
      by_cases e : x = b
      · subst e
        rw [hM1] at hx
        cases hx
        refine ⟨g1, l'.take off ++ v'.cells.toList ++ l'.drop (off + v'.cells.toList.length), ?_, ?_⟩
        · exact czl_append (czl_append (czl_take off g2) hvs) (by rw [← hvl]; exact czl_drop _ g2)
        · rw [setRow_heap w x _ _ T _ g3]
      · rw [hM2 x e] at hx
        obtain ⟨k1, l2, k2, k3⟩ := hob x lx hx
        exact ⟨k1, l2, k2, (setRow_other w b x _ e).trans k3⟩
    · exact h.elim
  · rename_i i b j sz fo
    replace h := withO_ok h; obtain ⟨ob, ho, h⟩ := h
    split at h
    · rename_i e sz' M
      replace h := need_ok h; obtain ⟨hb2, N, C, f, hM, hj, f', M', hf', ⟨hM1, hM2⟩, h⟩ := h
      simp only [Bool.and_eq_true] at hb2
      obtain rfl : sz = sz' := by simpa using hb2.1
      have hfo : fo + n ≤ sz := Nat.le_of_ble_eq_true hb2.2
      replace h := setP_ok h; obtain ⟨H, hH, h⟩ := h
      refine ⟨_, h, fun {ρ w u' v'} hr hu hv => ?_⟩
      simp only [cz, Option.some.injEq] at hu
      have hob := hr.obj i _ ho
      obtain ⟨g0, gsz, l', tail, g2, g3, g5, g6⟩ := hob b N C f hM
      have hvs := czl_cellsOf hr.sig hv
      have hones := czl_ones hr.sig hvs hone
      have hvl := czl_length hvs
      have hsz : v'.cells.size = n := by simpa [hlen] using hvl
      obtain ⟨A, B, e1, e2⟩ := rowL_at g6.len hj
      have hflen := g6.len j hj
      have ef : ∀ q, q < N → f' q = if q = j then putD fo (f j) (cellsOf v) else f q := fun q hq => by
        rw [hf' q hq]
        by_cases e : q = j
        · subst e; simp
        · have : Nat.beq q j = false := by cases hq2 : Nat.beq q j with | false => rfl | true => exact absurd (Nat.eq_of_beq_eq_true hq2) e
          rw [this, if_neg e]; rfl
      have e3 : rowL f' N = A ++ putD fo (f j) (cellsOf v) ++ B := by
        have hs1 := rowL_split f' (j + 1) (N - (j + 1))
        have hs2 := rowL_split f (j + 1) (N - (j + 1))
        rw [show j + 1 + (N - (j + 1)) = N by omega, rowL_succ] at hs1 hs2
        have c1 : rowL f' j = rowL f j := rowL_congr fun q hq => by rw [ef q (by omega), if_neg (by omega)]
        have c2 : rowL (fun q => f' (j + 1 + q)) (N - (j + 1)) = rowL (fun q => f (j + 1 + q)) (N - (j + 1)) := rowL_congr fun q hq => by rw [ef _ (by omega), if_neg (by omega)]
        have hlA : (rowL f j).length = A.length := by rw [rowL_length fun q hq => g6.len q (by omega), e2]
        rw [hs2] at e1
        have e1' := e1
        rw [List.append_assoc, List.append_assoc] at e1'
        obtain ⟨k1, k2⟩ := List.append_inj e1' hlA
        have k3 := List.append_cancel_left k2
        rw [hs1, c1, c2, k1, ef j hj, if_pos rfl, k3]
      rw [e1] at g2
      obtain ⟨x1, x2, k1, k2, rfl⟩ := czl_split g2
      obtain ⟨x3, x4, k3, k4, rfl⟩ := czl_split k1
      have l3 := czl_length k3
      have l4 := czl_length k4
      have hput : czl ρ (putD fo (f j) (cellsOf v)) = some (x4.take fo ++ v'.cells.toList ++ x4.drop (fo + v'.cells.toList.length)) :=
        czl_append (czl_append (czl_take fo k4) hvs) (by rw [← hvl]; exact czl_drop _ k4)
      have hrun := run_storeVar (P := P) (q := j * sz + fo) hn g3 hsz (by simp only [List.length_append]; omega) hones
      refine ⟨b, _, _, hu.symm, Step.set hr ho hH (fun x N2 C2 f2 hx => ?_) (fun k hk => setRow_other w b k _ (fun e => hk (e ▸ g0))) (hrow w b _).2.2.2 rfl rfl rfl, hrun⟩
      by_cases ex : x = b
      · subst ex
        rw [hM1] at hx
        cases hx
        refine ⟨g0, gsz, x3 ++ (x4.take fo ++ v'.cells.toList ++ x4.drop (fo + v'.cells.toList.length)) ++ x2, tail, ?_, ?_, ?_, ?_⟩
        · rw [e3]
          exact czl_append (czl_append k3 hput) k2
        · rw [setRow_heap w x _ _ e _ g3]
          congr 3
          have hq : j * sz + fo = x3.length + fo := by omega
          have hC : x3 ++ x4 ++ x2 ++ tail = x3 ++ (x4 ++ (x2 ++ tail)) := by simp
          rw [hq, hC, List.take_append, List.drop_append]
          have t1 : List.take (x3.length + fo) x3 = x3 := List.take_of_length_le (by omega)
          have t2 : List.drop (x3.length + fo + v'.cells.toList.length) x3 = [] := List.drop_eq_nil_of_le (by omega)
          have v0 : v'.cells.toList.length = n := by simpa using hsz
          rw [t1, t2, show x3.length + fo - x3.length = fo by omega, show x3.length + fo + v'.cells.toList.length - x3.length = fo + v'.cells.toList.length by omega,
            List.take_append_of_le_length (by omega), List.drop_append_of_le_length (by omega)]
          simp
        · rw [← g5]
          have v0 : v'.cells.toList.length = n := by simpa using hsz
          simp only [List.length_append, List.length_take, List.length_drop]
          omega
        · intro q hq
          rw [ef q hq]
          split
          · refine ⟨by rw [putD_length (by omega)]; exact hflen, ?_⟩
            unfold putD
            rw [oneCells_append, oneCells_append, oneCells_take _ (g6 j hj).2, oneCells_drop _ (g6 j hj).2, hone]
            rfl
          · exact g6 q hq
      · rw [hM2 x ex] at hx
        obtain ⟨q1, q2, l2, tail2, q3, q4, q5⟩ := hob x N2 C2 f2 hx
        exact ⟨q1, q2, l2, tail2, q3, (setRow_other w b x _ ex).trans q4, q5⟩
    · exact h.elim
  · exact h.elim
end
end Sy
end Go.Proofs.Ytmgcpfljhcahoaa
end
section
namespace Go.Proofs.Ytmgcpfljhcahoaa
open Go Go.RowKit
namespace Sy
variable {md : Bool}

def srcP (s : St) (sz : Nat) (y : V) (K : Nat → (Nat → List V) → Prop) : Prop := match y with
  | .nils => K 0 (fun _ => [])
  | .sle _ _ _ => K 0 (fun _ => [])
  | .sl j lo sz' m _ => need (Nat.beq sz sz') (withO (s.H.get j) fun o => match o with
    | .row n f _ sz'' => need (Nat.beq sz sz'') (lo + m ≤ n ∧ K m (fun q => f (lo + q)))
    | .ro _ n f _ sz'' => need (Nat.beq sz sz'') (lo + m ≤ n ∧ K m (fun q => f (lo + q)))
    | _ => False)
  | .asl j p sz' m _ => need (Nat.beq sz sz') (withO (s.H.get j) fun o => match o with
    | .memr _ sz'' M => need (Nat.beq sz sz'') (∃ g, (m = 0 ∨ ∃ b lo N C f, p = some (b, lo) ∧ M b = some (N, C, f) ∧ lo + m ≤ N ∧ ∀ q, q < m → g q = f (lo + q)) ∧ K m g)
    | _ => False)
  | .zsl j p sz' m _ => need (Nat.beq sz sz') (withO (s.H.get j) fun o => match o with
    | .fz Z => ∃ g, FzRow Z p sz g m ∧ K m g
    | _ => False)
  | .str b => need (Nat.beq sz 1) (K b.size (fun q => [.int .u8 (byteAt b q)]))
  | _ => False
def appF (n : Nat) (f g : Nat → List V) (q : Nat) : List V := bif Nat.blt q n then f q else g (q - n)
def appendP (P : Program) (s : St) (ty ty2 : TypeId) (x y : V) (fv : Option (Nat → List V)) (K : V → St → Prop) : Prop :=
  match P.underlying ty, (match P.underlying ty2 with | some (.int _) => none | d => d) with
  | some (.slice e), some _ => withO (sizeT P e) fun sz => withO (bytesT P e) fun by_ => withO (zeroT P e) fun z => withO (ofV z) fun zv => need (Nat.ble 1 sz && Nat.beq (cellsOf zv).length sz) (srcP s sz y fun m g => match x with
    | .nils => m * (by_ + sz) ≤ 1000000000 ∧ viewP fv m g fun f' => newP s (.row m f' e sz) fun b s => K (.sl b 0 sz m false) s
    | .sl i lo sz' n full => need (Nat.beq sz sz') (withO (s.H.get i) fun o => match o with
      | .row N f e' sz'' => need (Nat.beq sz sz'' && Nat.beq e e') (lo + n ≤ N ∧ (n + m) * (by_ + sz) ≤ 1000000000 ∧ viewP fv (n + m) (appF n (fun q => f (lo + q)) g) fun f' => match full with
        | true => (0 < m ∧ newP s (.row (n + m) f' e sz) fun b s => K (.sl b 0 sz (n + m) false) s) ∨ (m = 0 ∧ n = 0 ∧ newP s (.row 0 f' e sz) fun b s => K (.sl b 0 sz 0 false) s)
        | false => setP s i none fun s => newP s (.row (n + m) f' e sz) fun b s => K (.sl b 0 sz (n + m) false) s)
      | .ro _ N f e' sz'' => need (Nat.beq sz sz'' && Nat.beq e e' && full) (lo + n ≤ N ∧ (n + m) * (by_ + sz) ≤ 1000000000 ∧ 0 < m ∧ viewP fv (n + m) (appF n (fun q => f (lo + q)) g) fun f' =>
          newP s (.row (n + m) f' e sz) fun b s => K (.sl b 0 sz (n + m) false) s)
      | _ => False)
    | .sle i sz' n => need (Nat.beq sz sz') (withO (s.H.get i) fun o => match o with
      | .row N _ e' sz'' => need (Nat.beq sz sz'' && Nat.beq e e') (n ≤ N ∧ m * (by_ + sz) ≤ 1000000000 ∧ viewP fv m g fun f' => setP s i none fun s => newP s (.row m f' e sz) fun b s => K (.sl b 0 sz m false) s)
      | _ => False)
    | _ => False)
  | _, _ => False
def lenP (P : Program) (ty : TypeId) (x : V) (K : V → Prop) : Prop := match P.underlying ty, x with
  | some .string, .str b => K (.int .i64 b.size)
  | some (.slice _), .sl _ _ _ n _ => K (.int .i64 n)
  | some (.slice _), .nils => K (.int .i64 0)
  | some (.slice _), .sle _ _ _ => K (.int .i64 0)
  | some (.slice _), .asl _ _ _ n _ => K (.int .i64 n)
  | some (.slice _), .zsl _ _ _ n _ => K (.int .i64 n)
  | some (.map _ _), .nilm => K (.int .i64 0)
  | some (.array n _), _ => K (.int .i64 n)
  | _, _ => False

section
variable {P : Program} {ρ ρ' : Ren} {s s' : St} {w w' : World} {o : Oper} {a act : Act} {t : Tr V}


theorem run_typeInfo_bytes {ty n : Nat} (h : bytesT P ty = some n) : ∃ i, P.info? ty = some i ∧ i.bytes = n := by
  unfold bytesT at h
  cases hi : P.info? ty with
  | none => simp [hi] at h
  | some i => simp [hi] at h; exact ⟨i, rfl, h⟩
theorem growBy_le (n : Nat) : ∀ (r c : Nat), c ≤ 2 * n + 768 → Builtin.growBy n r c ≤ 2 * n + 768
  | 0, c, h => h
  | r + 1, c, h => by
    unfold Builtin.growBy
    split
    · exact h
    · exact growBy_le n r _ (by omega)
theorem nextslicecap_le {n c : Nat} (h : c < n) : Builtin.nextslicecap n c ≤ 2 * n + 768 := by
  unfold Builtin.nextslicecap
  split
  · omega
  · split
    · omega
    · exact growBy_le n 4 c (by omega)

section
variable {ty ty2 T e : TypeId} {bytes m len cap' sz : Nat} {z u' v' : Value} {new : List Value} {p' : Option Addr}
theorem run_append_eq (hd : P.underlying ty = some (.slice e)) (h2 : ∃ d2, P.underlying ty2 = some d2 ∧ ∀ k, d2 ≠ .int k) (hs : sizeT P e = some sz) (hl : (Builtin.lenOf v').run P w = .ok m w) (hn : (Builtin.firstCells sz m v').run P w = .ok new.toArray w)
    (hle : len + m ≤ cap') : (Builtin.append_ #[ty, ty2] T #[.slice p' len cap', v']).run P w =
      match p' with
      | some a => ((storeCells (a.add (len * sz)) new).run P w).andThen fun _ w' => .ok (.slice p' (len + m) cap') w'
      | none => .ok (.slice none (len + m) cap') w := by
  obtain ⟨d2, h3, h4⟩ := h2
  unfold Builtin.append_
  cases d2 <;> (first | exact absurd rfl (h4 _) | skip) <;>
  simp only [List.getElem?_toArray, List.getElem?_cons_zero, List.getElem?_cons_succ, Sem.run_bind, run_underlying hd, Result.andThen_ok, run_sizeOf hs, run_underlying h3, Sem.run_pure, Bool.false_eq_true, if_false, hl, Sem.run_ite, if_pos hle, Bool.not_false, if_true, hn] <;>
  cases p' <;> simp
theorem run_append_more (hd : P.underlying ty = some (.slice e)) (h2 : ∃ d2, P.underlying ty2 = some d2 ∧ ∀ k, d2 ≠ .int k) (hs : sizeT P e = some sz) (hby : bytesT P e = some bytes) (hz : zeroT P e = some z) (hl : (Builtin.lenOf v').run P w = .ok m w)
    {old : List Value} (hle : cap' < len + m) (hbig : (len + m) * (bytes + sz) ≤ 1000000000) (hpos : 1 ≤ sz) (hzs : z.cells.size = sz)
    (ho : ∀ W : World, W.heap = w.heap → (Builtin.firstCells sz len (.slice p' len cap')).run P W = .ok old.toArray W) (hn : ∀ W : World, W.heap = w.heap → (Builtin.firstCells sz m v').run P W = .ok new.toArray W) :
    ∃ newCap rest, len + m ≤ newCap ∧ rest.length = (newCap - (len + m)) * sz ∧ (Builtin.append_ #[ty, ty2] T #[.slice p' len cap', v']).run P w =
      .ok (.slice (some ⟨w.heap.size, 0, none⟩) (len + m) newCap) { w.alloc (.cells (old ++ new ++ rest).toArray e) with drawn := w.drawn + 1 } := by
  obtain ⟨d2, h3, h4⟩ := h2
  obtain ⟨i, hi, hib⟩ := run_typeInfo_bytes hby
  have hpos2 : 1 ≤ bytes + sz := by omega
  have hneed : len + m ≤ 1000000000 := Nat.le_trans (Nat.le_mul_of_pos_right _ hpos2) hbig
  have hbyt : bytes ≤ 1000000000 := by
    have : 1 * (bytes + sz) ≤ (len + m) * (bytes + sz) := Nat.mul_le_mul_right _ (by omega)
    omega
  have hnb : (len + m) * bytes ≤ 1000000000 := Nat.le_trans (Nat.mul_le_mul_left _ (by omega)) hbig
  have hcap : ¬ Builtin.nextslicecap (len + m) cap' * bytes > 2 ^ 48 := by
    have h1 := Nat.mul_le_mul_right bytes (nextslicecap_le hle)
    rw [Nat.add_mul, Nat.mul_assoc] at h1
    omega
  have hmax : ¬ (((len + m : Nat) : Int) > IntKind.i64.max) := by
    have : IntKind.i64.max = 9223372036854775807 := by decide
    rw [this]
    omega
  refine ⟨Question.cut (.appendCap (len + m) cap' e) (w.tape w.drawn (.appendCap (len + m) cap' e)), (Builtin.zeroCells z.cells (Question.cut (.appendCap (len + m) cap' e) (w.tape w.drawn (.appendCap (len + m) cap' e)) - (len + m))).toList, Nat.le_add_right _ _, ?_, ?_⟩
  · simp [Builtin.zeroCells, hzs, Question.cut]
  · unfold Builtin.append_
    have hnle : ¬ len + m ≤ cap' := by omega
    have hfo : (Question.appendCap (len + m) cap' e).forced = false := rfl
    cases d2 <;> (first | exact absurd rfl (h4 _) | skip) <;>
    (simp only [List.getElem?_toArray, List.getElem?_cons_zero, List.getElem?_cons_succ, Sem.run_bind, run_underlying hd, Result.andThen_ok, run_sizeOf hs, run_underlying h3, Sem.run_pure, Bool.false_eq_true, if_false, hl, Sem.run_ite, if_neg hnle, Bool.not_false, if_true, typeInfo, run_program, hi]
     simp only [hmax, false_and, if_false, hib, hcap, run_choose, hfo, Bool.false_eq_true, Result.andThen_ok, run_askRoom]
     rw [ho { w with drawn := w.drawn + 1 } rfl]
     simp only [Result.andThen_ok]
     rw [hn { w with drawn := w.drawn + 1 } rfl]
     simp only [Result.andThen_ok, run_zeroValue hz, newRow, Sem.run_bind, run_newObj_alloc, Sem.run_pure]
     refine congrArg (fun c => Result.ok (Value.slice (some ⟨w.heap.size, 0, none⟩) (len + m) _) ({ heap := w.heap.push (.cells c e), tape := w.tape, drawn := w.drawn + 1, os := w.os, output := w.output } : World)) ?_
     simp)
end


theorem lenP_ok {ty : TypeId} {ts : Array TypeId} {T : TypeId} {u : V} {K : V → Prop} (h : lenP P ty u K) (hts : ts[0]? = some ty) :
    ∃ v, K v ∧ ∀ {ρ : Ren} {u' : Value}, cz ρ u = some u' → ∃ v', cz ρ v = some v' ∧ ∀ w, (Builtin.len_ ts T #[u']).run P w = .ok v' w := by
  unfold lenP at h
  split at h <;> try exact h.elim
  · rename_i b hd
    refine ⟨_, h, fun {ρ u'} hu => ⟨_, rfl, fun w => ?_⟩⟩
    simp only [cz, Option.some.injEq] at hu
    subst hu
    simp [Builtin.len_, hts, run_underlying hd, goInt]
  · rename_i e i lo sz n full hd
    refine ⟨_, h, fun {ρ u'} hu => ⟨_, rfl, fun w => ?_⟩⟩
    rcases cz_sl hu with ⟨b, c, _, rfl, _⟩ | ⟨_, _, rfl, _, rfl⟩
    · simp [Builtin.len_, hts, run_underlying hd, goInt]
    · simp [Builtin.len_, hts, run_underlying hd, goInt]
  · rename_i e hd
    refine ⟨_, h, fun {ρ u'} hu => ⟨_, rfl, fun w => ?_⟩⟩
    simp only [cz, Option.some.injEq] at hu
    subst hu
    simp [Builtin.len_, hts, run_underlying hd, goInt]
  · rename_i e i sz n hd
    refine ⟨_, h, fun {ρ u'} hu => ⟨_, rfl, fun w => ?_⟩⟩
    simp only [cz] at hu
    split at hu
    · split at hu
      · cases hu
        simp [Builtin.len_, hts, run_underlying hd, goInt]
      · cases hu
    · cases hu
  · rename_i e i p sz n c hd
    refine ⟨_, h, fun {ρ u'} hu => ⟨_, rfl, fun w => ?_⟩⟩
    simp only [cz, Option.some.injEq] at hu
    subst hu
    simp [Builtin.len_, hts, run_underlying hd, goInt]
  · rename_i e i p sz n c hd
    refine ⟨_, h, fun {ρ u'} hu => ⟨_, rfl, fun w => ?_⟩⟩
    simp only [cz, Option.some.injEq] at hu
    subst hu
    simp [Builtin.len_, hts, run_underlying hd, goInt]
  · rename_i kt e hd
    refine ⟨_, h, fun {ρ u'} hu => ⟨_, rfl, fun w => ?_⟩⟩
    simp only [cz, Option.some.injEq] at hu
    subst hu
    simp [Builtin.len_, hts, run_underlying hd, goInt]
  · rename_i n e hd
    refine ⟨_, h, fun {ρ u'} hu => ⟨_, rfl, fun w => ?_⟩⟩
    simp [Builtin.len_, hts, run_underlying hd, goInt]

/-- Cells of a row, from element lo on. -/
theorem row_cells {lo sz n N : Nat} {f : Nat → List V} (hf : RowOk N f sz) {l' : List Value} (hl : czl ρ (rowL f N) = some l') (hle : lo + n ≤ N) :
    ∃ A B C, l' = A ++ B ++ C ∧ A.length = lo * sz ∧ B.length = n * sz ∧ czl ρ (rowL f lo) = some A ∧ czl ρ (rowL (fun q => f (lo + q)) n) = some B := by
  have h1 := rowL_split f (lo + n) (N - (lo + n))
  rw [show lo + n + (N - (lo + n)) = N by omega, rowL_split f lo n] at h1
  rw [h1] at hl
  obtain ⟨x1, x2, k1, k2, rfl⟩ := czl_split hl
  obtain ⟨x3, x4, k3, k4, rfl⟩ := czl_split k1
  refine ⟨x3, x4, x2, rfl, ?_, ?_, k3, k4⟩
  · rw [czl_length k3, rowL_length fun q hq => (hf q (by omega)).1]
  · rw [czl_length k4, rowL_length fun q hq => (hf (lo + q) (by omega)).1]
theorem RowOk.sub {N lo n sz : Nat} {f : Nat → List V} (h : RowOk N f sz) (hle : lo + n ≤ N) : RowOk n (fun q => f (lo + q)) sz := fun q hq => h (lo + q) (by omega)
theorem RowOk.app {n m sz : Nat} {f g : Nat → List V} (h : RowOk n f sz) (h' : RowOk m g sz) : RowOk (n + m) (appF n f g) sz := fun q hq => by
  unfold appF
  cases hb : Nat.blt q n with
  | true => exact h q (Nat.le_of_ble_eq_true hb)
  | false =>
    have : ¬ q < n := fun e => by rw [show Nat.blt q n = true from Nat.ble_eq_true_of_le e] at hb; cases hb
    exact h' (q - n) (by omega)
theorem RowOk.congr {n sz : Nat} {f g : Nat → List V} (h : RowOk n f sz) (e : ∀ q, q < n → g q = f q) : RowOk n g sz := fun q hq => by rw [e q hq]; exact h q hq
theorem rowL_app {f g : Nat → List V} (n m : Nat) : rowL (appF n f g) (n + m) = rowL f n ++ rowL g m := by
  rw [rowL_split]
  congr 1
  · exact rowL_congr fun q hq => by unfold appF; rw [show Nat.blt q n = true from Nat.ble_eq_true_of_le hq]; rfl
  · refine rowL_congr fun q hq => ?_
    unfold appF
    cases hb : Nat.blt (n + q) n with
    | true => have := Nat.le_of_ble_eq_true hb; omega
    | false => simp

theorem cell_off {b : Nat} {C : List Value} {e : TypeId} {fr : Nat × Nat} {W : World} (h : w.heap[b]? = some (.cells C.toArray e fr)) (hW : W.heap = w.heap) (j : Nat) (v : Value) (hj : C[j]? = some v) : W.cell? ⟨b, j, none⟩ = some v := by
  simp [World.cell?, hW, h, hj]
/-- Cells of a block, loaded. -/
theorem run_cells {b q : Nat} {A B C : List Value} {e : TypeId} {fr : Nat × Nat} (h : w.heap[b]? = some (.cells (A ++ B ++ C).toArray e fr)) (hq : q = A.length) {W : World} (hW : W.heap = w.heap) {m : Nat} (hm : m = B.length) :
    (loadCells ⟨b, q, none⟩ m).run P W = .ok B.toArray W := by
  subst hq hm
  exact run_loadCells_list (P := P) W ⟨b, A.length, none⟩ B (fun j v hj => by
    rw [add_off]
    refine cell_off h hW _ v ?_
    have hlt := (List.getElem?_eq_some_iff.1 hj).1
    rw [List.append_assoc, List.getElem?_append_right (by omega), List.getElem?_append_left (by omega), show A.length + j - A.length = j by omega]
    exact hj)

theorem bytes_row (b : ByteArray) : rowL (fun q => [V.int .u8 (byteAt b q)]) b.size = (b.data.toList.map fun c => V.int .u8 c.toNat) := by
  have : ∀ n, n ≤ b.size → rowL (fun q => [V.int .u8 (byteAt b q)]) n = ((b.data.toList.take n).map fun c => V.int .u8 c.toNat) := by
    intro n
    induction n with
    | zero => intro _; simp [rowL]
    | succ n ih =>
      intro hn
      have hlt : n < b.data.toList.length := by simp; exact hn
      rw [rowL_succ, ih (by omega), List.take_succ_eq_append_getElem hlt, List.map_append]
      congr 1
      simp only [List.map_cons, List.map_nil]
      unfold byteAt
      rw [List.getD_eq_getElem?_getD, List.getElem?_eq_getElem hlt]
      rfl
  have h := this b.size (Nat.le_refl _)
  rwa [List.take_of_length_le (by simp)] at h
theorem czl_bytes (l : List UInt8) : czl ρ (l.map fun c => V.int .u8 c.toNat) = some (l.map fun c => Value.int .u8 c.toNat) := by
  induction l with
  | nil => simp [czl]
  | cons c l ih => exact czl_cons.2 ⟨_, _, rfl, ih, rfl⟩

theorem run_none {sz c : Nat} (W : World) (a : Addr) : (Builtin.firstCells sz 0 (.slice (some a) 0 c)).run P W = .ok ([] : List Value).toArray W := by
  have := run_loadCells_list (P := P) W a [] (fun j v h => by simp at h)
  simpa [Builtin.firstCells] using this
theorem srcP_ok {sz : Nat} {y : V} {K : Nat → (Nat → List V) → Prop} (h : srcP s sz y K) : ∃ m g, K m g ∧ ∀ {ρ : Ren} {w : World} {y' : Value}, Rel ρ s w → cz ρ y = some y' →
    ∃ l', czl ρ (rowL g m) = some l' ∧ RowOk m g sz ∧ l'.length = m * sz ∧ (∀ W, (Builtin.lenOf y').run P W = .ok m W) ∧ (∀ W : World, W.heap = w.heap → (Builtin.firstCells sz m y').run P W = .ok l'.toArray W) ∧ ∀ v ∈ l', v.oneCell' = true := by
  unfold srcP at h
  split at h
  · refine ⟨_, _, h, fun {ρ w y'} hr hy => ?_⟩
    simp only [cz, Option.some.injEq] at hy
    subst hy
    exact ⟨[], by simp [rowL, czl], fun j hj => by omega, by simp, fun _ => rfl, fun _ _ => rfl, by simp⟩
  · refine ⟨_, _, h, fun {ρ w y'} hr hy => ?_⟩
    simp only [cz] at hy
    split at hy
    · split at hy
      · cases hy
        exact ⟨[], by simp [rowL, czl], fun j hj => by omega, by simp, fun _ => rfl, fun W _ => run_none W _, by simp⟩
      · cases hy
    · cases hy
  · rename_i j lo sz' m full
    replace h := need_ok h; obtain ⟨hb, h⟩ := h
    obtain rfl : sz = sz' := by simpa using hb
    replace h := withO_ok h; obtain ⟨ob, ho, h⟩ := h
    have key : ∀ {N : Nat} {f : Nat → List V} {ρ : Ren} {w : World} {b c : Nat} {e : TypeId} {fr : Nat × Nat} {pre l' tail : List Value}, Rel ρ s w → RowOk N f sz → lo + m ≤ N → czl ρ (rowL f N) = some l' → w.heap[b]? = some (.cells (pre ++ l' ++ tail).toArray e fr) → pre.length = ρ.δ j →
        ∃ l', czl ρ (rowL (fun q => f (lo + q)) m) = some l' ∧ RowOk m (fun q => f (lo + q)) sz ∧ l'.length = m * sz ∧ (∀ W, (Builtin.lenOf (.slice (some ⟨b, ρ.δ j + lo * sz, none⟩) m c)).run P W = .ok m W) ∧
          (∀ W : World, W.heap = w.heap → (Builtin.firstCells sz m (.slice (some ⟨b, ρ.δ j + lo * sz, none⟩) m c)).run P W = .ok l'.toArray W) ∧ ∀ v ∈ l', v.oneCell' = true := by
      intro N f ρ w b c e fr pre l' tail hr hf hle hl hbk hpre
      obtain ⟨A, B, C, rfl, hA, hB, _, hB2⟩ := row_cells hf hl hle
      have hok := hf.sub hle
      refine ⟨B, hB2, hok, hB, fun _ => rfl, fun W hW => ?_, czl_ones hr.sig hB2 (oneCells_rowL hok)⟩
      have := run_cells (P := P) (w := w) (b := b) (q := ρ.δ j + lo * sz) (A := pre ++ A) (B := B) (C := C ++ tail) (e := e) (fr := fr) (by rw [hbk]; simp) (by rw [List.length_append]; omega) hW (m := m * sz) hB.symm
      exact this
    split at h
    · rename_i N f e sz'
      replace h := need_ok h; obtain ⟨hb, hle, h⟩ := h
      obtain rfl : sz = sz' := by simpa using hb
      refine ⟨_, _, h, fun {ρ w y'} hr hy => ?_⟩
      rcases hr.obj j _ ho with ⟨_, q3, q4⟩ | ⟨b, pre, l', tail, g1, g2, g3, g4, g5, g6, g7, g8⟩
      · subst q3
        have : m = 0 := by omega
        subst this
        rcases cz_sl hy with ⟨b, c, g1, rfl, _⟩ | ⟨_, _, _, _, rfl⟩
        · refine ⟨[], by simp [rowL, czl], fun j hj => by omega, by simp, fun _ => rfl, fun W _ => ?_, by simp⟩
          exact run_none W _
        · exact ⟨[], by simp [rowL, czl], fun j hj => by omega, by simp, fun _ => rfl, fun _ _ => rfl, by simp⟩
      · rcases cz_sl hy with ⟨b2, c, q1, rfl, _⟩ | ⟨q1, _⟩
        · rw [g1] at q1
          cases q1
          exact key hr g6 hle g2 g3 g4
        · rw [g1] at q1; cases q1
    · rename_i co N f e sz'
      replace h := need_ok h; obtain ⟨hb, hle, h⟩ := h
      obtain rfl : sz = sz' := by simpa using hb
      refine ⟨_, _, h, fun {ρ w y'} hr hy => ?_⟩
      rcases hr.obj j _ ho with ⟨q3, q4⟩ | ⟨b, pre, l', tail, g1, g2, g3, ⟨fr, g4⟩, g5, g6, g7, g8⟩
      · subst q3
        have : m = 0 := by omega
        subst this
        rcases cz_sl hy with ⟨b, c, g1, rfl, _⟩ | ⟨_, _, _, _, rfl⟩
        · refine ⟨[], by simp [rowL, czl], fun j hj => by omega, by simp, fun _ => rfl, fun W _ => ?_, by simp⟩
          exact run_none W _
        · exact ⟨[], by simp [rowL, czl], fun j hj => by omega, by simp, fun _ => rfl, fun _ _ => rfl, by simp⟩
      · rcases cz_sl hy with ⟨b2, c, q1, rfl, _⟩ | ⟨q1, _⟩
        · rw [g1] at q1
          cases q1
          rw [g4] at g3
          exact key hr g6 hle g2 g3 g5
        · rw [g1] at q1; cases q1
    · exact h.elim
  · rename_i j p sz' m c
    replace h := need_ok h; obtain ⟨hb, h⟩ := h
    obtain rfl : sz = sz' := by simpa using hb
    replace h := withO_ok h; obtain ⟨ob, ho, h⟩ := h
    split at h
    · rename_i e sz' M
      replace h := need_ok h; obtain ⟨hb, g, hg, h⟩ := h
      obtain rfl : sz = sz' := by simpa using hb
      refine ⟨_, _, h, fun {ρ w y'} hr hy => ?_⟩
      simp only [cz, Option.some.injEq] at hy
      subst hy
      rcases hg with rfl | ⟨b, lo, N, C, f, rfl, hM, hle, hg⟩
      · refine ⟨[], by simp [rowL, czl], fun j hj => by omega, by simp, fun _ => rfl, fun W _ => ?_, by simp⟩
        cases p with
        | none => rfl
        | some q => exact run_none W _
      · obtain ⟨_, _, l', tail, g2, g3, _, g6⟩ := hr.obj j _ ho b N C f hM
        obtain ⟨A, B, C', rfl, hA, hB, _, hB2⟩ := row_cells g6 g2 hle
        have hok := g6.sub hle
        rw [← rowL_congr hg] at hB2
        refine ⟨B, hB2, hok.congr hg, hB, fun _ => rfl, fun W hW => ?_, czl_ones hr.sig hB2 (oneCells_rowL (hok.congr hg))⟩
        have := run_cells (P := P) (w := w) (b := b) (q := lo * sz) (A := A) (B := B) (C := C' ++ tail) (e := e) (fr := (0, 0)) (by rw [g3]; simp) hA.symm hW (m := m * sz) hB.symm
        exact this
    · exact h.elim
  · rename_i j p sz' m c
    replace h := need_ok h; obtain ⟨hb, h⟩ := h
    obtain rfl : sz = sz' := by simpa using hb
    replace h := withO_ok h; obtain ⟨ob, ho, h⟩ := h
    split at h
    · rename_i Z
      obtain ⟨g, ⟨hok, hg⟩, h⟩ := h
      refine ⟨_, _, h, fun {ρ w y'} hr hy => ?_⟩
      simp only [cz, Option.some.injEq] at hy
      subst hy
      rcases hg with rfl | ⟨b, off, rfl, pre, mid, tail, T, fr, hZ, hpre, hc⟩
      · refine ⟨[], by simp [rowL, czl], fun j hj => by omega, by simp, fun _ => rfl, fun W _ => ?_, by simp⟩
        cases p with
        | none => rfl
        | some q => exact run_none W _
      · obtain ⟨_, g3⟩ := hr.obj j _ ho b _ hZ
        have hl : mid.length = m * sz := by rw [czl_length (hc ρ), rowL_length fun q hq => hok.len q hq]
        refine ⟨mid, hc ρ, hok, hl, fun _ => rfl, fun W hW => ?_, czl_ones hr.sig (hc ρ) (oneCells_rowL hok)⟩
        exact run_cells (P := P) (w := w) (b := b) (q := off) (A := pre) (B := mid) (C := tail) (e := T) (fr := fr) g3 hpre.symm hW (m := m * sz) hl.symm
    · exact h.elim
  · rename_i b
    replace h := need_ok h; obtain ⟨hb, h⟩ := h
    obtain rfl : sz = 1 := by simpa using hb
    refine ⟨_, _, h, fun {ρ w y'} hr hy => ?_⟩
    simp only [cz, Option.some.injEq] at hy
    subst hy
    refine ⟨b.data.toList.map fun c => Value.int .u8 c.toNat, by rw [bytes_row]; exact czl_bytes _, fun j hj => ⟨rfl, rfl⟩, by simp, fun _ => rfl, fun W _ => ?_, fun v hv => ?_⟩
    · simp only [Builtin.firstCells, Sem.run_pure]
      congr 1
      apply Array.ext'
      simp
    · obtain ⟨_, _, rfl⟩ := List.mem_map.1 hv
      rfl
  · exact h.elim

/-- A row of n elements, of none perhaps without a block. -/
theorem Step.nilrow (h : Rel ρ s w) {f : Nat → List V} {e : TypeId} {sz : Nat} {H : Tr SObj} (hH : ∀ m, H.get m = if m = s.n then some (.row 0 f e sz) else s.H.get m) : Step md s.n s ρ w ⟨s.n + 1, H⟩ (ρ.add s.n none 0 0 true none (fun _ => False)) w :=
  Step.new1 h hH (.inl ⟨.inl ⟨by simp [Ren.add], by simp [Ren.add]⟩, rfl, fun k => by simp [Ren.add]⟩) (fun _ _ => rfl) (fun k hk => hk.elim) (fun x hx => by cases hx) (fun x hx => by cases hx) (Nat.le_refl _) rfl rfl rfl

theorem run_storeNil (a : Addr) (w : World) : (storeCells a []).run P w = .ok () w := rfl
/-- A row of no cells, somewhere. -/
theorem Step.someRow (h : Rel ρ s w) {b : Nat} (hb : b < w.heap.size) (d : Nat) {f : Nat → List V} {e : TypeId} {sz : Nat} {H : Tr SObj} (hH : ∀ m, H.get m = if m = s.n then some (.row 0 f e sz) else s.H.get m) : Step md s.n s ρ w ⟨s.n + 1, H⟩ (ρ.add s.n (some b) d 0 false none (fun _ => False)) w :=
  Step.new1 h hH (.inl ⟨.inr ⟨b, by simp [Ren.add], by simp [Ren.add]⟩, rfl, fun k => by simp [Ren.add]⟩) (fun _ _ => rfl) (fun k hk => hk.elim) (fun x hx => by cases hx; exact hb) (fun x hx => by cases hx) (Nat.le_refl _) rfl rfl rfl
theorem appendP_ok {ty ty2 T : TypeId} {x y : V} {fv : Option (Nat → List V)} {K : V → St → Prop} (h : appendP P s ty ty2 x y fv K) : ∃ v s', K v s' ∧ ∀ {ρ : Ren} {w : World} {x' y' : Value}, Rel ρ s w → cz ρ x = some x' → cz ρ y = some y' →
    ∃ ρ' w' v', Step md s.n s ρ w s' ρ' w' ∧ cz ρ' v = some v' ∧ (Builtin.append_ #[ty, ty2] T #[x', y']).run P w = .ok v' w' := by
  unfold appendP at h
  split at h
  · rename_i e d2 hd hd2
    have h2 : ∃ d2, P.underlying ty2 = some d2 ∧ ∀ k, d2 ≠ .int k := by
      revert hd2
      cases hq : P.underlying ty2 with
      | none => intro hd2; cases hd2
      | some q => intro hd2; exact ⟨q, rfl, fun k e => by subst e; cases hd2⟩
    replace h := withO_ok h; obtain ⟨sz, hs, h⟩ := h
    replace h := withO_ok h; obtain ⟨bytes, hby, h⟩ := h
    replace h := withO_ok h; obtain ⟨z, hz, h⟩ := h
    replace h := withO_ok h; obtain ⟨zv, hzv, h⟩ := h
    replace h := need_ok h; obtain ⟨hb, h⟩ := h
    simp only [Bool.and_eq_true] at hb
    have hpos : 1 ≤ sz := Nat.le_of_ble_eq_true hb.1
    have hzl : (cellsOf zv).length = sz := by simpa using hb.2
    replace h := srcP_ok (P := P) h; obtain ⟨m, g, h, hsrc⟩ := h
    -- a new block
    have grow : ∀ {n : Nat} {fo f' : Nat → List V} {H : Tr SObj} {ρ : Ren} {w : World} {p' : Option Addr} {cap' : Nat} {old new : List Value} {y' : Value}, Rel ρ s w → czl ρ (rowL fo n) = some old → czl ρ (rowL g m) = some new → RowOk n fo sz → RowOk m g sz → old.length = n * sz → new.length = m * sz →
        (∀ q, q < n + m → f' q = appF n fo g q) → cap' < n + m → (n + m) * (bytes + sz) ≤ 1000000000 → (∀ W, (Builtin.lenOf y').run P W = .ok m W) →
        (∀ W : World, W.heap = w.heap → (Builtin.firstCells sz n (.slice p' n cap')).run P W = .ok old.toArray W) → (∀ W : World, W.heap = w.heap → (Builtin.firstCells sz m y').run P W = .ok new.toArray W) →
        (∀ m', H.get m' = if m' = s.n then some (.row (n + m) f' e sz) else s.H.get m') →
        ∃ ρ' w' v', Step md s.n s ρ w ⟨s.n + 1, H⟩ ρ' w' ∧ cz ρ' (.sl s.n 0 sz (n + m) false) = some v' ∧ (Builtin.append_ #[ty, ty2] T #[.slice p' n cap', y']).run P w = .ok v' w' := by
      intro n fo f' H ρ w p' cap' old new y' hr hold hnew hfo hg hol hnl hf' hlt hbig hlen hfold hfnew hH
      have hzs : z.cells.size = sz := by
        have := czl_length (czl_cellsOf hr.sig (cz_ofV (ρ := ρ) hzv))
        simpa [hzl] using this
      obtain ⟨newCap, rest, g1, g2, g3⟩ := run_append_more (T := T) hd h2 hs hby hz (hlen w) hlt hbig hpos hzs hfold hfnew
      have hrow : czl ρ (rowL f' (n + m)) = some (old ++ new) := by
        rw [rowL_congr hf', rowL_app]
        exact czl_append hold hnew
      refine ⟨_, _, .slice (some ⟨w.heap.size, 0, none⟩) (n + m) newCap, Step.row hr hrow ((hfo.app hg).congr hf') hpos (tail := rest) (m := newCap) ?_ hH (d := w.drawn + 1), ?_, g3⟩
      · rw [List.length_append, List.length_append, hol, hnl, g2, ← Nat.add_mul, ← Nat.add_mul]
        congr 1
        omega
      · simp [cz, Ren.add, g1]
    -- a new block, and the old one is given up
    have fresh : ∀ {i : Nat} {H1 H : Tr SObj} {n : Nat} {fo f' : Nat → List V} {ρ : Ren} {w : World} {new : List Value} {y' : Value} {p' : Option Addr} {cap' : Nat} {old : List Value}, Rel ρ s w → (∀ m, H1.get m = if m = i then none else s.H.get m) → (∀ m', H.get m' = if m' = s.n then some (.row (n + m) f' e sz) else H1.get m') →
        (n + m) * (bytes + sz) ≤ 1000000000 → (∀ q, q < n + m → f' q = appF n fo g q) → czl ρ (rowL g m) = some new → RowOk m g sz → new.length = m * sz → (∀ W, (Builtin.lenOf y').run P W = .ok m W) → (∀ W : World, W.heap = w.heap → (Builtin.firstCells sz m y').run P W = .ok new.toArray W) →
        czl ρ (rowL fo n) = some old → RowOk n fo sz → old.length = n * sz → cap' < n + m →
        (∀ W : World, W.heap = w.heap → (Builtin.firstCells sz n (.slice p' n cap')).run P W = .ok old.toArray W) →
        ∃ ρ' w' v', Step md s.n s ρ w ⟨s.n + 1, H⟩ ρ' w' ∧ cz ρ' (.sl s.n 0 sz (n + m) false) = some v' ∧ (Builtin.append_ #[ty, ty2] T #[.slice p' n cap', y']).run P w = .ok v' w' := by
      intro i H1 H n fo f' ρ w new y' p' cap' old hr hH1 hH hbig hf' k1 k2 k3 k4 k5 hold hfo hol hlt hfold
      have hzs : z.cells.size = sz := by
        have := czl_length (czl_cellsOf hr.sig (cz_ofV (ρ := ρ) hzv))
        simpa [hzl] using this
      obtain ⟨newCap, rest, g1, g2, g3⟩ := run_append_more (T := T) hd h2 hs hby hz (k4 w) hlt hbig hpos hzs hfold k5
      have hrow : czl ρ (rowL f' (n + m)) = some (old ++ new) := by
        rw [rowL_congr hf', rowL_app]
        exact czl_append hold k1
      have st1 := Step.drop (md := md) hr hH1
      refine ⟨_, _, .slice (some ⟨w.heap.size, 0, none⟩) (n + m) newCap, Step.trans st1 (Step.row (s := ⟨s.n, H1⟩) st1.rel hrow ((hfo.app k2).congr hf') hpos (tail := rest) (m := newCap) ?_ hH (d := w.drawn + 1)), ?_, g3⟩
      · rw [List.length_append, List.length_append, hol, k3, g2, ← Nat.add_mul, ← Nat.add_mul]
        congr 1
        omega
      · simp [cz, Ren.add, g1]
    have slF : ∀ {i lo N n : Nat} {f f' : Nat → List V} {H1 H : Tr SObj}, s.H.get i = some (.row N f e sz) → lo + n ≤ N → (n + m) * (bytes + sz) ≤ 1000000000 → (∀ q, q < n + m → f' q = appF n (fun q => f (lo + q)) g q) → (∀ m, H1.get m = if m = i then none else s.H.get m) → (∀ m', H.get m' = if m' = s.n then some (.row (n + m) f' e sz) else H1.get m') →
        ∀ {ρ : Ren} {w : World} {x' y' : Value}, Rel ρ s w → cz ρ (.sl i lo sz n false) = some x' → cz ρ y = some y' → ∃ ρ' w' v', Step md s.n s ρ w ⟨s.n + 1, H⟩ ρ' w' ∧ cz ρ' (.sl s.n 0 sz (n + m) false) = some v' ∧ (Builtin.append_ #[ty, ty2] T #[x', y']).run P w = .ok v' w' := by
      intro i lo N n f f' H1 H ho hle hbig hf' hH1 hH ρ w x' y' hr hx hy
      obtain ⟨new, k1, k2, k3, k4, k5, k6⟩ := hsrc hr hy
      rcases cz_sl hx with ⟨b, c, q1, rfl, q2, q3, q4⟩ | ⟨q1, q2, rfl, rfl, rfl⟩
      · rcases hr.obj i _ ho with ⟨g1, g2, _⟩ | ⟨b', pre, l', tail, g1, g2, g3, g4, g5, g6, g7, g8⟩
        · obtain rfl : n = 0 := by omega
          have hγ : ρ.γ i = 0 := by
            rcases g1 with ⟨g1, _⟩ | ⟨_, _, g1⟩
            · rw [q1] at g1; cases g1
            · exact g1
          obtain ⟨e1, e2⟩ := q4 rfl
          obtain rfl : c = 0 := by omega
          by_cases hm : m = 0
          · subst hm
            have hn0 : new = [] := List.eq_nil_of_length_eq_zero (by rw [k3, Nat.zero_mul])
            subst hn0
            have st1 := Step.drop (md := md) hr hH1
            refine ⟨_, w, .slice (some ⟨b, ρ.δ i + lo * sz, none⟩) 0 0, Step.trans st1 (Step.someRow (s := ⟨s.n, H1⟩) st1.rel (hr.blt i b q1) (ρ.δ i + lo * sz) hH), by simp [cz, Ren.add], ?_⟩
            rw [run_append_eq (T := T) hd h2 hs (k4 w) (k5 w rfl) (Nat.le_refl 0)]
            simp only [run_storeNil]
            rfl
          · exact fresh hr hH1 hH hbig hf' k1 k2 k3 k4 k5 (by simp [rowL, czl]) (fun j hj => by omega) (by simp) (by omega) (fun W hW => run_none W _)
        rw [q1] at g1
        cases g1
        obtain ⟨A, B, C, rfl, hA, hB, hA2, hB2⟩ := row_cells g6 g2 hle
        have hbk : w.heap[b]? = some (.cells ((pre ++ A) ++ B ++ (C ++ tail)).toArray e (0, 0)) := by rw [g3]; simp
        have hq : ρ.δ i + lo * sz = (pre ++ A).length := by rw [List.length_append]; omega
        obtain ⟨e1, e2⟩ := q4 rfl
        by_cases hfit : n + m ≤ c
        · have hext := add_ext (hr.fresh s.n (Nat.le_refl _)) (some b) (ρ.δ i + lo * sz) c false none (ρ.fp i)
          have hroom : n * sz + m * sz ≤ c * sz := by rw [← Nat.add_mul]; exact Nat.mul_le_mul_right _ hfit
          have hγ : c * sz + lo * sz = ρ.γ i * sz := by rw [← Nat.add_mul]; congr 1; omega
          have hlen : (B ++ (C ++ tail)).length = c * sz := by
            have := g5
            simp only [List.length_append] at this ⊢
            omega
          have hst := run_storeCells_at (P := P) b ((pre ++ A).length + n * sz) e new 0 _ w hbk (by simp only [List.size_toArray, List.length_append] at hlen ⊢; omega) k6
          simp only [Nat.add_zero] at hst
          refine ⟨_, w.setRow b (((pre ++ A ++ B ++ (C ++ tail)).take ((pre ++ A).length + n * sz) ++ new ++ (pre ++ A ++ B ++ (C ++ tail)).drop ((pre ++ A).length + n * sz + new.length)).toArray), .slice (some ⟨b, ρ.δ i + lo * sz, none⟩) (n + m) c, Step.move hr ho hH1 hH (b := some b) (d := ρ.δ i + lo * sz) (g := c) (nu := false) (v := none) (.inr ⟨b, pre ++ A, B ++ new, (B ++ (C ++ tail)).drop (n * sz + new.length), by simp [Ren.add], ?_, ?_, ?_, ?_, (g6.sub hle |>.app k2).congr hf', hpos, ?_⟩)
            (fun k hk => setRow_other w b k _ (fun e => hk ((g8 k).2 e))) (fun x hx => by cases hx; rw [setRow_size]; exact hr.blt i b q1) (fun x hx => by cases hx) (setRow_size w b _) rfl rfl rfl, ?_, ?_⟩
          · rw [rowL_congr hf', rowL_app]
            exact czl_ext hext _ (czl_append hB2 k1)
          · rw [setRow_heap w b _ _ e _ hbk]
            congr 3
            rw [List.append_assoc (pre ++ A), List.take_append, List.drop_append, List.take_of_length_le (by omega), @List.drop_eq_nil_of_le _ (pre ++ A) _ (by omega)]
            rw [show (pre ++ A).length + n * sz - (pre ++ A).length = n * sz by omega, show (pre ++ A).length + n * sz + new.length - (pre ++ A).length = n * sz + new.length by omega, List.take_append_of_le_length (by omega), List.take_of_length_le (by omega)]
            simp
          · simp [Ren.add, hq]
          · simp only [Ren.add, if_true]
            rw [List.length_append, List.length_append, List.length_drop, hlen, hB, k3]
            omega
          · intro k
            simp only [Ren.add, if_true]
            exact g8 k
          · simp only [cz, Ren.add, if_true, Bool.false_eq_true, if_false]
            rw [if_pos (by omega)]
            simp
          · rw [run_append_eq (T := T) hd h2 hs (k4 w) (k5 w rfl) hfit]
            simp only [add_off, hq, hst, Result.andThen_ok]
        · exact fresh hr hH1 hH hbig hf' k1 k2 k3 k4 k5 hB2 (g6.sub hle) hB (by omega) (fun W hW => run_cells (P := P) (w := w) hbk hq hW hB.symm)
      · by_cases hm : m = 0
        · subst hm
          have hn0 : new = [] := List.eq_nil_of_length_eq_zero (by rw [k3, Nat.zero_mul])
          subst hn0
          have st1 := Step.drop (md := md) hr hH1
          refine ⟨_, w, .slice none 0 0, Step.trans st1 (Step.nilrow (s := ⟨s.n, H1⟩) st1.rel hH), by simp [cz, Ren.add], ?_⟩
          rw [run_append_eq (T := T) hd h2 hs (k4 w) (k5 w rfl) (Nat.le_refl 0)]
        · exact fresh hr hH1 hH hbig hf' k1 k2 k3 k4 k5 (by simp [rowL, czl]) (fun j hj => by omega) (by simp) (by omega) (fun _ _ => rfl)
    -- in the place
    split at h
    · obtain ⟨hbig, h⟩ := h
      replace h := viewP_ok h; obtain ⟨f', hf', h⟩ := h
      replace h := newP_ok h; obtain ⟨H, hH, h⟩ := h
      refine ⟨_, _, h, fun {ρ w x' y'} hr hx hy => ?_⟩
      simp only [cz, Option.some.injEq] at hx
      subst hx
      obtain ⟨new, k1, k2, k3, k4, k5, k6⟩ := hsrc hr hy
      by_cases hm : m = 0
      · subst hm
        have hn0 : new = [] := List.eq_nil_of_length_eq_zero (by rw [k3, Nat.zero_mul])
        subst hn0
        refine ⟨_, w, .slice none 0 0, Step.nilrow hr hH, by simp [cz, Ren.add], ?_⟩
        rw [run_append_eq (T := T) hd h2 hs (k4 w) (k5 w rfl) (Nat.le_refl 0)]
      · have := grow (n := 0) (fo := fun _ => []) (f' := f') (H := H) (p' := none) (cap' := 0) (old := []) hr (by simp [rowL, czl]) k1 (fun j hj => by omega) k2 (by simp) k3 (fun q hq => by rw [hf' q (by omega)]; rfl) (by omega) (by rw [Nat.zero_add]; exact hbig) k4 (fun _ _ => rfl) k5 (by rw [Nat.zero_add]; exact hH)
        rw [Nat.zero_add] at this
        exact this
    · rename_i i lo sz' n full
      replace h := need_ok h; obtain ⟨hb2, h⟩ := h
      obtain rfl : sz = sz' := by simpa using hb2
      replace h := withO_ok h; obtain ⟨ob, ho, h⟩ := h
      split at h
      · rename_i N f e' sz''
        replace h := need_ok h; obtain ⟨hb3, hle, hbig, h⟩ := h
        simp only [Bool.and_eq_true] at hb3
        obtain rfl : sz = sz'' := by simpa using hb3.1
        obtain rfl : e = e' := by simpa using hb3.2
        replace h := viewP_ok h; obtain ⟨f', hf', h⟩ := h
        cases full with
        | true =>
          rcases h with ⟨hm0, h⟩ | ⟨rfl, rfl, h⟩
          rotate_left
          · replace h := newP_ok h; obtain ⟨H, hH, h⟩ := h
            refine ⟨_, _, h, fun {ρ w x' y'} hr hx hy => ?_⟩
            obtain ⟨new, k1, k2, k3, k4, k5, k6⟩ := hsrc hr hy
            have hn0 : new = [] := List.eq_nil_of_length_eq_zero (by rw [k3, Nat.zero_mul])
            subst hn0
            rcases cz_sl hx with ⟨b, c, q1, rfl, q2, q3, q4⟩ | ⟨q1, q2, _, rfl, rfl⟩
            · have hc := q3 rfl
              subst hc
              refine ⟨_, w, .slice (some ⟨b, ρ.δ i + lo * sz, none⟩) 0 0, Step.someRow hr (hr.blt i b q1) (ρ.δ i + lo * sz) hH, by simp [cz, Ren.add], ?_⟩
              rw [run_append_eq (T := T) hd h2 hs (k4 w) (k5 w rfl) (Nat.le_refl 0)]
              simp only [run_storeNil]
              rfl
            · refine ⟨_, w, .slice none 0 0, Step.nilrow hr hH, by simp [cz, Ren.add], ?_⟩
              rw [run_append_eq (T := T) hd h2 hs (k4 w) (k5 w rfl) (Nat.le_refl 0)]
          replace h := newP_ok h; obtain ⟨H, hH, h⟩ := h
          refine ⟨_, _, h, fun {ρ w x' y'} hr hx hy => ?_⟩
          obtain ⟨new, k1, k2, k3, k4, k5, k6⟩ := hsrc hr hy
          rcases cz_sl hx with ⟨b, c, q1, rfl, q2, q3, q4⟩ | ⟨q1, q2, rfl, rfl, rfl⟩
          · rcases hr.obj i _ ho with ⟨_, g2, _⟩ | ⟨b', pre, l', tail, g1, g2, g3, g4, g5, g6, g7, g8⟩
            · obtain rfl : n = 0 := by omega
              have hc := q3 rfl
              subst hc
              exact grow (n := 0) (fo := fun q => f (lo + q)) (old := []) hr (by simp [rowL, czl]) k1 (fun j hj => by omega) k2 (by simp) k3 hf' (by omega) hbig k4 (fun W hW => run_none W _) k5 hH
            rw [q1] at g1
            cases g1
            obtain ⟨A, B, C, rfl, hA, hB, _, hB2⟩ := row_cells g6 g2 hle
            have hc := q3 rfl
            subst hc
            exact grow hr hB2 k1 (g6.sub hle) k2 hB k3 hf' (by omega) hbig k4 (fun W hW => run_cells (P := P) (w := w) (A := pre ++ A) (B := B) (C := C ++ tail) (e := e) (fr := (0, 0)) (by rw [g3]; simp) (by rw [List.length_append]; omega) hW hB.symm) k5 hH
          · have := grow (n := 0) (fo := fun q => f (0 + q)) (f' := f') (H := H) (p' := none) (cap' := 0) (old := []) hr (by simp [rowL, czl]) k1 (fun j hj => by omega) k2 (by simp) k3 hf' (by omega) hbig k4 (fun _ _ => rfl) k5 hH
            exact this
        | false =>
          replace h := setP_ok h; obtain ⟨H1, hH1, h⟩ := h
          replace h := newP_ok h; obtain ⟨H, hH, h⟩ := h
          exact ⟨_, _, h, fun {ρ w x' y'} hr hx hy => slF ho hle hbig hf' hH1 hH hr hx hy⟩
      · rename_i co N f e' sz''
        replace h := need_ok h; obtain ⟨hb3, hle, hbig, hm0, h⟩ := h
        simp only [Bool.and_eq_true] at hb3
        obtain rfl : sz = sz'' := by simpa using hb3.1.1
        obtain rfl : e = e' := by simpa using hb3.1.2
        replace h := viewP_ok h; obtain ⟨f', hf', h⟩ := h
        replace h := newP_ok h; obtain ⟨H, hH, h⟩ := h
        refine ⟨_, _, h, fun {ρ w x' y'} hr hx hy => ?_⟩
        obtain ⟨new, k1, k2, k3, k4, k5, k6⟩ := hsrc hr hy
        rcases cz_sl hx with ⟨b, c, q1, rfl, q2, q3, q4⟩ | ⟨q1, q2, rfl, rfl, rfl⟩
        · rcases hr.obj i _ ho with ⟨g1, _⟩ | ⟨b', pre, l', tail, g1, g2, g3, ⟨fr, g4⟩, g5, g6, g7, g8⟩
          · obtain rfl : n = 0 := by omega
            have hc := q3 hb3.2
            subst hc
            exact grow (n := 0) (fo := fun q => f (lo + q)) (old := []) hr (by simp [rowL, czl]) k1 (fun j hj => by omega) k2 (by simp) k3 hf' (by omega) hbig k4 (fun W hW => run_none W _) k5 hH
          rw [q1] at g1
          cases g1
          rw [g4] at g3
          obtain ⟨A, B, C, rfl, hA, hB, _, hB2⟩ := row_cells g6 g2 hle
          have hc := q3 hb3.2
          subst hc
          exact grow hr hB2 k1 (g6.sub hle) k2 hB k3 hf' (by omega) hbig k4 (fun W hW => run_cells (P := P) (w := w) (A := pre ++ A) (B := B) (C := C ++ tail) (e := e) (fr := fr) (by rw [g3]; simp) (by rw [List.length_append]; omega) hW hB.symm) k5 hH
        · have := grow (n := 0) (fo := fun q => f (0 + q)) (f' := f') (H := H) (p' := none) (cap' := 0) (old := []) hr (by simp [rowL, czl]) k1 (fun j hj => by omega) k2 (by simp) k3 hf' (by omega) hbig k4 (fun _ _ => rfl) k5 hH
          exact this
      · exact h.elim
    · rename_i i sz' n
      replace h := need_ok h; obtain ⟨hb2, h⟩ := h
      obtain rfl : sz = sz' := by simpa using hb2
      replace h := withO_ok h; obtain ⟨ob, ho, h⟩ := h
      split at h
      · rename_i N f e' sz''
        replace h := need_ok h; obtain ⟨hb3, hle, hbig, h⟩ := h
        simp only [Bool.and_eq_true] at hb3
        obtain rfl : sz = sz'' := by simpa using hb3.1
        obtain rfl : e = e' := by simpa using hb3.2
        replace h := viewP_ok h; obtain ⟨f', hf', h⟩ := h
        replace h := setP_ok h; obtain ⟨H1, hH1, h⟩ := h
        replace h := newP_ok h; obtain ⟨H, hH, h⟩ := h
        refine ⟨_, _, h, fun {ρ w x' y'} hr hx hy => ?_⟩
        have hbig0 : (0 + m) * (bytes + sz) ≤ 1000000000 := by rw [Nat.zero_add]; exact hbig
        have hf0 : ∀ q, q < 0 + m → f' q = appF 0 (fun q => f (n + q)) g q := fun q hq => by rw [hf' q (by omega)]; rfl
        have hH0 : ∀ m', H.get m' = if m' = s.n then some (.row (0 + m) f' e sz) else H1.get m' := by rw [Nat.zero_add]; exact hH
        have hx0 := hx
        simp only [cz] at hx0
        cases hb : ρ.β i with
        | none => rw [hb] at hx0; cases hx0
        | some b =>
          rw [hb] at hx0
          simp only at hx0
          by_cases hn : n ≤ ρ.γ i
          · rw [if_pos hn] at hx0
            by_cases he : ρ.γ i = n
            · rw [if_pos he, he, Nat.sub_self] at hx0
              cases hx0
              obtain ⟨new, k1, k2, k3, k4, k5, k6⟩ := hsrc hr hy
              by_cases hm : m = 0
              · subst hm
                have hn0 : new = [] := List.eq_nil_of_length_eq_zero (by rw [k3, Nat.zero_mul])
                subst hn0
                have st1 := Step.drop (md := md) hr hH1
                refine ⟨_, w, .slice (some ⟨b, ρ.δ i + 0, none⟩) 0 0, Step.trans st1 (Step.someRow (s := ⟨s.n, H1⟩) st1.rel (hr.blt i b hb) (ρ.δ i + 0) hH), by simp [cz, Ren.add], ?_⟩
                rw [run_append_eq (T := T) hd h2 hs (k4 w) (k5 w rfl) (Nat.le_refl 0)]
                simp only [run_storeNil]
                rfl
              · have := fresh (p' := some ⟨b, ρ.δ i + 0, none⟩) (cap' := 0) (old := []) (n := 0) hr hH1 hH0 hbig0 hf0 k1 k2 k3 k4 k5 (by simp [rowL, czl]) (fun j hj => by omega) (by simp) (by omega) (fun W hW => run_none W _)
                rw [Nat.zero_add] at this
                exact this
            · have hx1 : cz ρ (.sl i n sz 0 false) = some x' := by
                rw [if_neg he] at hx0
                simp only [cz, hb, Bool.false_eq_true, if_false, Nat.add_zero, if_pos hn]
                exact hx0
              have := slF (n := 0) ho hle hbig0 hf0 hH1 hH0 hr hx1 hy
              rw [Nat.zero_add] at this
              exact this
          · rw [if_neg hn] at hx0; cases hx0
      · exact h.elim
    · exact h.elim
  · exact h.elim
end
end Sy
end Go.Proofs.Ytmgcpfljhcahoaa
end
