/- Symbolic states: values, objects, and what they say of a world. -/
import Derived.Test.YtmgcpfljhcahoaaHeap
namespace Go.Proofs.Ytmgcpfljhcahoaa
open Go
namespace Sy
variable {md : Bool}

/-! Tries, forced as they are laid -/
inductive Tr (α : Type) where
  | leaf
  | node (v : Option α) (l r : Tr α)
def Tr.get {α : Type} : Tr α → Nat → Option α
  | .leaf, _ => none
  | .node v l r, n => match n with
    | 0 => v
    | m + 1 => bif Nat.beq (m % 2) 0 then l.get (m / 2) else r.get (m / 2)
def Tr.put {α : Type} : (fuel : Nat) → Tr α → Nat → Option α → (Tr α → Prop) → Prop
  | 0, _, _, _, _ => False
  | f + 1, .leaf, n, x, k => match n with
    | 0 => k (.node x .leaf .leaf)
    | m + 1 => bif Nat.beq (m % 2) 0 then Tr.put f .leaf (m / 2) x (fun l => k (.node none l .leaf)) else Tr.put f .leaf (m / 2) x (fun r => k (.node none .leaf r))
  | f + 1, .node v l r, n, x, k => match n with
    | 0 => k (.node x l r)
    | m + 1 => bif Nat.beq (m % 2) 0 then Tr.put f l (m / 2) x (fun l => k (.node v l r)) else Tr.put f r (m / 2) x (fun r => k (.node v l r))
/-- Not forced: for the statements. -/
def Tr.set {α : Type} : (fuel : Nat) → Tr α → Nat → Option α → Tr α
  | 0, t, _, _ => t
  | f + 1, .leaf, n, x => match n with
    | 0 => .node x .leaf .leaf
    | m + 1 => bif Nat.beq (m % 2) 0 then .node none (Tr.set f .leaf (m / 2) x) .leaf else .node none .leaf (Tr.set f .leaf (m / 2) x)
  | f + 1, .node v l r, n, x => match n with
    | 0 => .node x l r
    | m + 1 => bif Nat.beq (m % 2) 0 then .node v (Tr.set f l (m / 2) x) r else .node v l (Tr.set f r (m / 2) x)
def Tr.ofL {α : Type} : Nat → List α → Tr α → Tr α
  | _, [], t => t
  | i, x :: l, t => Tr.ofL (i + 1) l (Tr.set 60 t i (some x))

theorem Tr.put_get {α : Type} : ∀ (f : Nat) (t : Tr α) (n : Nat) (x : Option α) (k : Tr α → Prop), t.put f n x k → ∃ t', k t' ∧ ∀ m, t'.get m = if m = n then x else t.get m := by
  intro f
  induction f with
  | zero => intro t n x k h; exact h.elim
  | succ f ih =>
    intro t n x k h
    cases t with
    | leaf =>
      simp only [Tr.put] at h
      cases n with
      | zero => exact ⟨_, h, fun m => by cases m with
        | zero => simp [Tr.get]
        | succ m => simp only [Tr.get]; cases Nat.beq (m % 2) 0 <;> simp⟩
      | succ n =>
        cases hb : Nat.beq (n % 2) 0 with
        | true =>
          simp only [hb, cond_true] at h
          obtain ⟨t', h1, h2⟩ := ih _ _ _ _ h
          refine ⟨_, h1, fun m => ?_⟩
          cases m with
          | zero => simp [Tr.get]
          | succ m =>
            have hb' : n % 2 = 0 := by simpa using hb
            simp only [Tr.get]
            cases hm : Nat.beq (m % 2) 0 with
            | true =>
              have hm' : m % 2 = 0 := by simpa using hm
              simp only [cond_true, h2, Tr.get]
              by_cases e : m / 2 = n / 2
              · rw [if_pos e, if_pos (by omega)]
              · rw [if_neg e, if_neg (by omega)]
            | false =>
              have hm' : m % 2 ≠ 0 := fun e => by rw [e] at hm; cases hm
              simp only [cond_false]
              rw [if_neg (by omega)]
        | false =>
          simp only [hb, cond_false] at h
          obtain ⟨t', h1, h2⟩ := ih _ _ _ _ h
          refine ⟨_, h1, fun m => ?_⟩
          cases m with
          | zero => simp [Tr.get]
          | succ m =>
            have hb' : n % 2 ≠ 0 := fun e => by rw [e] at hb; cases hb
            simp only [Tr.get]
            cases hm : Nat.beq (m % 2) 0 with
            | false =>
              have hm' : m % 2 ≠ 0 := fun e => by rw [e] at hm; cases hm
              simp only [cond_false, h2, Tr.get]
              by_cases e : m / 2 = n / 2
              · rw [if_pos e, if_pos (by omega)]
              · rw [if_neg e, if_neg (by omega)]
            | true =>
              have hm' : m % 2 = 0 := by simpa using hm
              simp only [cond_true]
              rw [if_neg (by omega)]
    | node v l r =>
      simp only [Tr.put] at h
      cases n with
      | zero => exact ⟨_, h, fun m => by cases m <;> simp [Tr.get]⟩
      | succ n =>
        cases hb : Nat.beq (n % 2) 0 with
        | true =>
          simp only [hb, cond_true] at h
          obtain ⟨t', h1, h2⟩ := ih _ _ _ _ h
          refine ⟨_, h1, fun m => ?_⟩
          cases m with
          | zero => simp [Tr.get]
          | succ m =>
            have hb' : n % 2 = 0 := by simpa using hb
            simp only [Tr.get]
            cases hm : Nat.beq (m % 2) 0 with
            | true =>
              have hm' : m % 2 = 0 := by simpa using hm
              simp only [cond_true, h2]
              by_cases e : m / 2 = n / 2
              · rw [if_pos e, if_pos (by omega)]
              · rw [if_neg e, if_neg (by omega)]
            | false =>
              have hm' : m % 2 ≠ 0 := fun e => by rw [e] at hm; cases hm
              simp only [cond_false]
              rw [if_neg (by omega)]
        | false =>
          simp only [hb, cond_false] at h
          obtain ⟨t', h1, h2⟩ := ih _ _ _ _ h
          refine ⟨_, h1, fun m => ?_⟩
          cases m with
          | zero => simp [Tr.get]
          | succ m =>
            have hb' : n % 2 ≠ 0 := fun e => by rw [e] at hb; cases hb
            simp only [Tr.get]
            cases hm : Nat.beq (m % 2) 0 with
            | false =>
              have hm' : m % 2 ≠ 0 := fun e => by rw [e] at hm; cases hm
              simp only [cond_false, h2]
              by_cases e : m / 2 = n / 2
              · rw [if_pos e, if_pos (by omega)]
              · rw [if_neg e, if_neg (by omega)]
            | true =>
              have hm' : m % 2 = 0 := by simpa using hm
              simp only [cond_true]
              rw [if_neg (by omega)]

/-! Values -/
inductive V where
  | int (k : IntKind) (n : Int)
  /-- Known. -/
  | bool (b : Bool)
  /-- Not known. -/
  | sb (b : Bool)
  | str (s : ByteArray)
  /-- Something unknown, or the handle of an object that only its owner knows. -/
  | tok (i : Nat)
  | nilp
  /-- A cell of a block. -/
  | ptr (i off : Nat)
  /-- Cell fo of element j of a row with sz cells for each element. -/
  | ep (i j sz fo : Nat)
  | nils
  /-- n elements of a row from element lo on; full: no room behind. -/
  | sl (i lo sz n : Nat) (full : Bool)
  /-- No element, behind the n that a slice from the row's beginning has. -/
  | sle (i sz n : Nat)
  | nilm
  /-- A map. -/
  | mp (i : Nat)
  | nilf
  /-- What a range over a function hands on. -/
  | yl (i : Nat)
  | nili
  | fn (f : Fn) (fi ca : List V)
  | iface (t : TypeId) (v : V)
  | agg (l : List V)
  | tup (l : List V)
  /-- Cell off of block b, which object i holds. -/
  | ap (i b off : Nat)
  /-- Cell fo of element j of the row in block b, which object i holds. -/
  | ae (i b j sz fo : Nat)
  /-- n elements of a row, room for c, from an element of a block on; or none of none. -/
  | asl (i : Nat) (p : Option (Nat × Nat)) (sz n c : Nat)

structure Ren where
  β : Nat → Option Nat
  δ : Nat → Nat
  γ : Nat → Nat
  ν : Nat → Bool
  σ : Nat → Option Value
  fp : Nat → Nat → Prop

def fnOk : Fn → Bool
  | .func _ => true
  | .via .. => true
  | _ => false
mutual
def cz (ρ : Ren) : V → Option Value
  | .int k n => some (.int k n)
  | .bool b => some (.bool b)
  | .sb b => some (.bool b)
  | .str s => some (.string s)
  | .tok i => ρ.σ i
  | .nilp => some (.pointer none)
  | .ptr i off => (ρ.β i).map fun b => .pointer (some ⟨b, off, none⟩)
  | .ep i j sz fo => (ρ.β i).map fun b => .pointer (some ⟨b, ρ.δ i + j * sz + fo, none⟩)
  | .nils => some (.slice none 0 0)
  | .sl i lo sz n full => match ρ.β i with
    | some b => if full = true then some (.slice (some ⟨b, ρ.δ i + lo * sz, none⟩) n n) else if lo + n ≤ ρ.γ i then some (.slice (some ⟨b, ρ.δ i + lo * sz, none⟩) n (ρ.γ i - lo)) else none
    | none => if ρ.ν i = true ∧ n = 0 ∧ lo = 0 then some (.slice none 0 0) else none
  | .sle i sz n => match ρ.β i with
    | some b => if n ≤ ρ.γ i then some (.slice (some ⟨b, ρ.δ i + (if ρ.γ i = n then 0 else n * sz), none⟩) 0 (ρ.γ i - n)) else none
    | none => none
  | .nilm => some (.map none)
  | .mp i => (ρ.β i).map fun b => .map (some b)
  | .nilf => some .nilFunc
  | .yl i => (ρ.β i).map fun b => .func (.yield b) #[] #[]
  | .nili => some .nilIface
  | .fn f fi ca => if fnOk f = true then match czl ρ fi, czl ρ ca with
      | some fi', some ca' => some (.func f fi'.toArray ca'.toArray)
      | _, _ => none
    else none
  | .iface t v => (cz ρ v).map fun v' => .iface t v'
  | .agg l => (czl ρ l).map fun l' => .agg l'.toArray
  | .tup l => (czl ρ l).map fun l' => .tuple l'.toArray
  | .ap _ b off => some (.pointer (some ⟨b, off, none⟩))
  | .ae _ b j sz fo => some (.pointer (some ⟨b, j * sz + fo, none⟩))
  | .asl _ p sz n c => some (.slice (p.map fun q => ⟨q.1, q.2 * sz, none⟩) n c)
def czl (ρ : Ren) : List V → Option (List Value)
  | [] => some []
  | v :: l => match cz ρ v, czl ρ l with
    | some v', some l' => some (v' :: l')
    | _, _ => none
end

/-! Objects -/
/-- Keys of maps: numbers of a kind, strings. -/
inductive KT where
  | i (k : IntKind)
  | s
inductive Key where
  | i (n : Int)
  | s (b : ByteArray)
  deriving DecidableEq
def kval : KT → Key → Option Value
  | .i k, .i n => some (.int k n)
  | .s, .s b => some (.string b)
  | _, _ => none
inductive SObj where
  | cells (l : List V) (e : TypeId)
  /-- n elements, of sz cells each; perhaps room behind; of none: perhaps no block. -/
  | row (n : Nat) (f : Nat → List V) (e : TypeId) (sz : Nat)
  /-- A row that is only read, in a block that is known whole. -/
  | ro (c : Obj) (n : Nat) (f : Nat → List V) (e : TypeId) (sz : Nat)
  /-- What a function's end collects. -/
  | mark
  /-- A range over a function that is under way. -/
  | loop (st : LoopState) (pend : Option Code) (sz : Nat) (t : Tr V) (ps : List Tmp) (asg bo : Code) (D : Nat)
  /-- A map: its entries. -/
  | map (κ : KT) (E : List (Key × V))
  /-- A map whose entries' numbers and clock are known. -/
  | mapb (κ : KT) (E : List (Key × V × Nat)) (c : Nat)
  /-- A range over the map m that is under way. -/
  | iter (m since : Nat) (arr : List Nat) (c : Nat)
  /-- Blocks of cells, by their numbers. -/
  | memc (T : TypeId) (M : Nat → Option (List V))
  /-- Rows, by the numbers of their blocks: so many elements are known, so many there are. -/
  | memr (e : TypeId) (sz : Nat) (M : Nat → Option (Nat × Nat × (Nat → List V)))
  /-- What only its owner knows. kd: 1 a pointer that is not nil, 2 a map that is not nil, 0 something. -/
  | own (kd : Nat) (I : Value → World → (Nat → Prop) → Prop)

structure St where
  n : Nat
  H : Tr SObj

def oneCells : List V → Bool
  | [] => true
  | .agg _ :: _ => false
  | .tup _ :: _ => false
  | _ :: l => oneCells l
/-- Each element has sz cells, none of them a struct. -/
def RowOk (n : Nat) (f : Nat → List V) (sz : Nat) : Prop := ∀ j, j < n → (f j).length = sz ∧ oneCells (f j) = true
def rowL (f : Nat → List V) (n : Nat) : List V := (List.range n).flatMap f

def czE (ρ : Ren) (κ : KT) : List (Key × V) → List MapEntry → Prop
  | [], [] => True
  | (k, v) :: E, e :: es => kval κ k = some e.key ∧ cz ρ v = some e.val ∧ czE ρ κ E es
  | _, _ => False
def Borns (es : List MapEntry) (c : Nat) : Prop := (∀ e ∈ es, e.born < c) ∧ es.Pairwise fun a b => a.born ≠ b.born

def KdOk : Nat → Value → Prop
  | 1, .pointer (some _) => True
  | 1, _ => False
  | 2, .map (some _) => True
  | 2, _ => False
  | _, _ => True

def sizeT (P : Program) (t : TypeId) : Option Nat := (P.info? t).map (·.size)
def bytesT (P : Program) (t : TypeId) : Option Nat := (P.info? t).map (·.bytes)
def zeroT (P : Program) (t : TypeId) : Option Value := (P.info? t).bind (·.zero)
def isAggT (P : Program) (t : TypeId) : Option Bool := match P.underlying t with
  | some (.struct _) => some true
  | some (.array _ _) => some true
  | some _ => some false
  | none => none

structure TmpsAre (ρ : Ren) (sz : Nat) (t : Tr V) (a : Array Value) : Prop where
  size : a.size = sz
  get : ∀ i v, t.get i = some v → ∃ v', cz ρ v = some v' ∧ a[i]? = some v'

/-- A row of no cells: nil, or somewhere. -/
def NilR (ρ : Ren) (i : Nat) : Prop := (ρ.β i = none ∧ ρ.ν i = true) ∨ ∃ b, ρ.β i = some b ∧ ρ.γ i = 0
def OR (ρ : Ren) (w : World) (i : Nat) : SObj → Prop
  | .cells l e => ∃ b l', ρ.β i = some b ∧ czl ρ l = some l' ∧ w.heap[b]? = some (.cells l'.toArray e (0, 0)) ∧ ∀ k, ρ.fp i k ↔ k = b
  | .row n f e sz => (NilR ρ i ∧ n = 0 ∧ ∀ k, ¬ ρ.fp i k) ∨
      ∃ b pre l' tail, ρ.β i = some b ∧ czl ρ (rowL f n) = some l' ∧ w.heap[b]? = some (.cells (pre ++ l' ++ tail).toArray e (0, 0)) ∧ pre.length = ρ.δ i ∧ (l' ++ tail).length = ρ.γ i * sz ∧ RowOk n f sz ∧ 1 ≤ sz ∧ ∀ k, ρ.fp i k ↔ k = b
  | .ro c n f e sz => (n = 0 ∧ ∀ k, ¬ ρ.fp i k) ∨ ∃ b pre l' tail, ρ.β i = some b ∧ czl ρ (rowL f n) = some l' ∧ w.heap[b]? = some c ∧ (∃ fr, c = .cells (pre ++ l' ++ tail).toArray e fr) ∧ pre.length = ρ.δ i ∧ RowOk n f sz ∧ 1 ≤ sz ∧ ∀ k, ρ.fp i k ↔ k = b
  | .mark => ∃ b, ρ.β i = some b ∧ w.heap[b]? = some (.deferred (some [])) ∧ ∀ k, ρ.fp i k ↔ k = b
  | .loop st pend sz t ps asg bo D => ∃ b fn tm D', ρ.β i = some b ∧ TmpsAre ρ sz t tm ∧ ρ.β D = some D' ∧ w.heap[b]? = some (.loop { state := st, pending := pend, fn := fn, tmps := tm, params := ps.toArray, assign := asg, body := bo, defers := D' }) ∧ ∀ k, ρ.fp i k ↔ k = b
  | .map κ E => ∃ b es c, ρ.β i = some b ∧ w.heap[b]? = some (.map es.toArray c) ∧ czE ρ κ E es ∧ Borns es c ∧ ∀ k, ρ.fp i k ↔ k = b
  | .mapb κ E c => ∃ b es, ρ.β i = some b ∧ w.heap[b]? = some (.map es.toArray c) ∧ czE ρ κ (E.map fun p => (p.1, p.2.1)) es ∧ es.map (·.born) = E.map (fun p => p.2.2) ∧ Borns es c ∧ ∀ k, ρ.fp i k ↔ k = b
  | .iter m since arr c => ∃ b r, ρ.β i = some b ∧ ρ.β m = some r ∧ w.heap[b]? = some (.mapIter (some r) since arr.toArray c) ∧ ∀ k, ρ.fp i k ↔ k = b
  | .memc T M => ∀ b l, M b = some l → ρ.fp i b ∧ ∃ l', czl ρ l = some l' ∧ w.heap[b]? = some (.cells l'.toArray T (0, 0))
  | .memr e sz M => ∀ b N C f, M b = some (N, C, f) → ρ.fp i b ∧ 1 ≤ sz ∧ ∃ l' tail, czl ρ (rowL f N) = some l' ∧ w.heap[b]? = some (.cells (l' ++ tail).toArray e (0, 0)) ∧ (l' ++ tail).length = C * sz ∧ RowOk N f sz
  | .own kd I => ∃ v, ρ.σ i = some v ∧ KdOk kd v ∧ ∀ w', (∀ k, ρ.fp i k → w'.heap[k]? = w.heap[k]?) → I v w' (ρ.fp i)

def Unb (ρ : Ren) (i : Nat) : Prop := ρ.β i = none ∧ ρ.ν i = false ∧ ρ.σ i = none

structure Rel (ρ : Ren) (s : St) (w : World) : Prop where
  obj : ∀ i o, s.H.get i = some o → OR ρ w i o
  dis : ∀ i j oi oj k, s.H.get i = some oi → s.H.get j = some oj → ρ.fp i k → ρ.fp j k → i = j
  flt : ∀ i o k, s.H.get i = some o → ρ.fp i k → k < w.heap.size
  fresh : ∀ i, s.n ≤ i → Unb ρ i
  live : ∀ i o, s.H.get i = some o → i < s.n
  sig : ∀ i v, ρ.σ i = some v → v.oneCell' = true
  blt : ∀ i b, ρ.β i = some b → b < w.heap.size

structure Agree (ρ ρ' : Ren) (i : Nat) : Prop where
  β : ρ'.β i = ρ.β i
  δ : ρ'.δ i = ρ.δ i
  γ : ρ'.γ i = ρ.γ i
  ν : ρ'.ν i = ρ.ν i
  σ : ρ'.σ i = ρ.σ i
theorem Agree.refl (ρ : Ren) (i : Nat) : Agree ρ ρ i := ⟨rfl, rfl, rfl, rfl, rfl⟩
theorem Agree.trans {ρ ρ' ρ'' : Ren} {i : Nat} (h : Agree ρ ρ' i) (k : Agree ρ' ρ'' i) : Agree ρ ρ'' i := ⟨k.β.trans h.β, k.δ.trans h.δ, k.γ.trans h.γ, k.ν.trans h.ν, k.σ.trans h.σ⟩

/-- pr: so many names mean what they meant. -/
structure Step (md : Bool) (pr : Nat) (s : St) (ρ : Ren) (w : World) (s' : St) (ρ' : Ren) (w' : World) : Prop where
  agree : ∀ i, i < pr → Agree ρ ρ' i
  rel : Rel ρ' s' w'
  keep : ∀ k, k < w.heap.size → (∀ i o, s.H.get i = some o → ¬ ρ.fp i k) → w'.heap[k]? = w.heap[k]?
  new : ∀ i o k, s'.H.get i = some o → ρ'.fp i k → w.heap.size ≤ k ∨ ∃ j oj, s.H.get j = some oj ∧ ρ.fp j k
  size : w.heap.size ≤ w'.heap.size
  os : w'.os = w.os
  tape : w'.tape = w.tape
  output : w'.output = w.output
  le : min pr s.n ≤ s'.n
  drawn : md = true → w.drawn ≤ w'.drawn

section
variable {ρ ρ' ρ'' : Ren} {s s' s'' : St} {w w' w'' : World} {pr pr' : Nat}

theorem Step.refl (h : Rel ρ s w) : Step md pr s ρ w s ρ w := ⟨fun i _ => Agree.refl ρ i, h, fun _ _ _ => rfl, fun i o _ hi hk => .inr ⟨i, o, hi, hk⟩, Nat.le_refl _, rfl, rfl, rfl, Nat.min_le_right .., fun _ => Nat.le_refl _⟩
theorem Step.less (h : Step md pr s ρ w s' ρ' w') (hp : pr' ≤ pr) : Step md pr' s ρ w s' ρ' w' := { h with agree := fun i hi => h.agree i (Nat.lt_of_lt_of_le hi hp), le := by have := h.le; omega }
theorem Step.trans (h : Step md pr s ρ w s' ρ' w') (k : Step md pr s' ρ' w' s'' ρ'' w'') : Step md pr s ρ w s'' ρ'' w'' := by
  refine ⟨fun i hi => (h.agree i hi).trans (k.agree i hi), k.rel, fun b hb hn => ?_, fun i o b hi hb => ?_, Nat.le_trans h.size k.size, k.os.trans h.os, k.tape.trans h.tape, k.output.trans h.output, by have := h.le; have := k.le; omega, fun hm => Nat.le_trans (h.drawn hm) (k.drawn hm)⟩
  · refine (k.keep b (Nat.lt_of_lt_of_le hb h.size) fun i o hi hf => ?_).trans (h.keep b hb hn)
    rcases h.new i o b hi hf with g | ⟨j, oj, g1, g2⟩
    · omega
    · exact hn j oj g1 g2
  · rcases k.new i o b hi hb with g | ⟨j, oj, g1, g2⟩
    · exact .inl (Nat.le_trans h.size g)
    · exact h.new j oj b g1 g2

theorem Step.mono (h : Step md s.n s ρ w s' ρ' w') : s.n ≤ s'.n := by have := h.le; omega

/-! Values and names -/
theorem czl_cons {v : V} {l : List V} {r : List Value} : czl ρ (v :: l) = some r ↔ ∃ v' l', cz ρ v = some v' ∧ czl ρ l = some l' ∧ r = v' :: l' := by
  simp only [czl]
  cases h1 : cz ρ v with
  | none => simp
  | some v' => cases h2 : czl ρ l with
    | none => simp
    | some l' => simp [eq_comm]
theorem czl_nil {r : List Value} : czl ρ [] = some r ↔ r = [] := by simp [czl, eq_comm]
theorem czl_length : ∀ {l : List V} {l' : List Value}, czl ρ l = some l' → l'.length = l.length
  | [], _, h => by rw [czl_nil.1 h]; rfl
  | v :: l, _, h => by
    obtain ⟨v', l1, _, h2, rfl⟩ := czl_cons.1 h
    simp [czl_length h2]
theorem czl_append : ∀ {l m : List V} {l' m' : List Value}, czl ρ l = some l' → czl ρ m = some m' → czl ρ (l ++ m) = some (l' ++ m')
  | [], _, _, _, h, h' => by rw [czl_nil.1 h]; simpa using h'
  | v :: l, m, _, m', h, h' => by
    obtain ⟨v', l1, h1, h2, rfl⟩ := czl_cons.1 h
    exact czl_cons.2 ⟨v', l1 ++ m', h1, czl_append h2 h', rfl⟩
theorem czl_split : ∀ {l m : List V} {r : List Value}, czl ρ (l ++ m) = some r → ∃ l' m', czl ρ l = some l' ∧ czl ρ m = some m' ∧ r = l' ++ m'
  | [], m, r, h => ⟨[], r, by simp [czl], h, rfl⟩
  | v :: l, m, r, h => by
    obtain ⟨v', l1, h1, h2, rfl⟩ := czl_cons.1 h
    obtain ⟨l', m', g1, g2, rfl⟩ := czl_split h2
    exact ⟨v' :: l', m', czl_cons.2 ⟨v', l', h1, g1, rfl⟩, g2, rfl⟩
theorem czl_take : ∀ (n : Nat) {l : List V} {l' : List Value}, czl ρ l = some l' → czl ρ (l.take n) = some (l'.take n)
  | 0, _, _, _ => by simp [czl]
  | n + 1, [], _, h => by rw [czl_nil.1 h]; simp [czl]
  | n + 1, v :: l, _, h => by
    obtain ⟨v', l1, h1, h2, rfl⟩ := czl_cons.1 h
    exact czl_cons.2 ⟨v', _, h1, czl_take n h2, rfl⟩
theorem czl_drop : ∀ (n : Nat) {l : List V} {l' : List Value}, czl ρ l = some l' → czl ρ (l.drop n) = some (l'.drop n)
  | 0, _, _, h => by simpa using h
  | n + 1, [], _, h => by rw [czl_nil.1 h]; simp [czl]
  | n + 1, v :: l, _, h => by
    obtain ⟨v', l1, h1, h2, rfl⟩ := czl_cons.1 h
    simpa using czl_drop n h2
theorem czl_get : ∀ {l : List V} {l' : List Value} (j : Nat) {v : V}, czl ρ l = some l' → l[j]? = some v → ∃ v', l'[j]? = some v' ∧ cz ρ v = some v'
  | [], _, _, _, _, h => by simp at h
  | v :: l, _, 0, u, h, h' => by
    obtain ⟨v', l1, h1, h2, rfl⟩ := czl_cons.1 h
    simp at h'; subst h'
    exact ⟨v', rfl, h1⟩
  | v :: l, _, j + 1, u, h, h' => by
    obtain ⟨v', l1, h1, h2, rfl⟩ := czl_cons.1 h
    simpa using czl_get j h2 (by simpa using h')

/-- Two renamings agree where the first one knows something. -/
def Ext (ρ ρ' : Ren) : Prop := ∀ i, Unb ρ i ∨ Agree ρ ρ' i
theorem Step.ext (hr : Rel ρ s w) (h : Step md pr s ρ w s' ρ' w') (hp : s.n ≤ pr) : Ext ρ ρ' := fun i => by
  rcases Nat.lt_or_ge i s.n with g | g
  · exact .inr (h.agree i (Nat.lt_of_lt_of_le g hp))
  · exact .inl (hr.fresh i g)
theorem ext_of (hr : Rel ρ s w) (h : ∀ i, i < s.n → Agree ρ ρ' i) : Ext ρ ρ' := fun i => by
  rcases Nat.lt_or_ge i s.n with g | g
  · exact .inr (h i g)
  · exact .inl (hr.fresh i g)

mutual
theorem cz_ext (h : Ext ρ ρ') : ∀ (v : V) {v' : Value}, cz ρ v = some v' → cz ρ' v = some v'
  | .int _ _, _, e => e
  | .bool _, _, e => e
  | .sb _, _, e => e
  | .str _, _, e => e
  | .tok i, v', e => by
    simp only [cz] at e ⊢
    rcases h i with g | g
    · rw [g.2.2] at e; cases e
    · rw [g.σ]; exact e
  | .nilp, _, e => e
  | .ptr i off, v', e => by
    simp only [cz] at e ⊢
    rcases h i with g | g
    · rw [g.1] at e; cases e
    · rw [g.β]; exact e
  | .ep i j sz fo, v', e => by
    simp only [cz] at e ⊢
    rcases h i with g | g
    · rw [g.1] at e; cases e
    · rw [g.β, g.δ]; exact e
  | .nils, _, e => e
  | .sl i lo sz n full, v', e => by
    simp only [cz] at e ⊢
    rcases h i with g | g
    · rw [g.1, g.2.1] at e; simp at e
    · rw [g.β, g.δ, g.γ, g.ν]; exact e
  | .sle i sz n, v', e => by
    simp only [cz] at e ⊢
    rcases h i with g | g
    · rw [g.1] at e; cases e
    · rw [g.β, g.δ, g.γ]; exact e
  | .nilm, _, e => e
  | .mp i, v', e => by
    simp only [cz] at e ⊢
    rcases h i with g | g
    · rw [g.1] at e; cases e
    · rw [g.β]; exact e
  | .nilf, _, e => e
  | .yl i, v', e => by
    simp only [cz] at e ⊢
    rcases h i with g | g
    · rw [g.1] at e; cases e
    · rw [g.β]; exact e
  | .nili, _, e => e
  | .fn f fi ca, v', e => by
    simp only [cz] at e ⊢
    split at e
    · rename_i hf
      rw [if_pos hf]
      cases h1 : czl ρ fi with
      | none => simp [h1] at e
      | some fi' => cases h2 : czl ρ ca with
        | none => simp [h1, h2] at e
        | some ca' => rw [czl_ext h fi h1, czl_ext h ca h2]; simpa [h1, h2] using e
    · cases e
  | .iface t v, v', e => by
    simp only [cz, Option.map_eq_some_iff] at e ⊢
    obtain ⟨a', ha, rfl⟩ := e
    exact ⟨a', cz_ext h v ha, rfl⟩
  | .agg a, v', e => by
    simp only [cz, Option.map_eq_some_iff] at e ⊢
    obtain ⟨a', ha, rfl⟩ := e
    exact ⟨a', czl_ext h a ha, rfl⟩
  | .tup a, v', e => by
    simp only [cz, Option.map_eq_some_iff] at e ⊢
    obtain ⟨a', ha, rfl⟩ := e
    exact ⟨a', czl_ext h a ha, rfl⟩
  | .ap _ _ _, _, e => e
  | .ae _ _ _ _ _, _, e => e
  | .asl _ _ _ _ _, _, e => e
theorem czl_ext (h : Ext ρ ρ') : ∀ (l : List V) {l' : List Value}, czl ρ l = some l' → czl ρ' l = some l'
  | [], _, e => by simpa only [czl] using e
  | v :: l, l', e => by
    simp only [czl] at e ⊢
    cases h1 : cz ρ v with
    | none => simp [h1] at e
    | some v' => cases h2 : czl ρ l with
      | none => simp [h1, h2] at e
      | some l1 => rw [cz_ext h v h1, czl_ext h l h2]; simpa [h1, h2] using e
end
theorem TmpsAre.ext (h : Ext ρ ρ') {sz : Nat} {t : Tr V} {a : Array Value} (ht : TmpsAre ρ sz t a) : TmpsAre ρ' sz t a :=
  ⟨ht.size, fun i v hv => let ⟨v', h1, h2⟩ := ht.get i v hv; ⟨v', cz_ext h v h1, h2⟩⟩
theorem β_ext (h : Ext ρ ρ') {i b : Nat} (hi : ρ.β i = some b) : ρ'.β i = some b := by
  rcases h i with g | g
  · rw [g.1] at hi; cases hi
  · rw [g.β]; exact hi
theorem czE_ext (h : Ext ρ ρ') {κ : KT} : ∀ {E : List (Key × V)} {es : List MapEntry}, czE ρ κ E es → czE ρ' κ E es
  | [], [], _ => trivial
  | (_, _) :: _, _ :: _, ⟨h1, h2, h3⟩ => ⟨h1, cz_ext h _ h2, czE_ext h h3⟩
  | [], _ :: _, h => h.elim
  | _ :: _, [], h => h.elim
end
end Sy
end Go.Proofs.Ytmgcpfljhcahoaa
