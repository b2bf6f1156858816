/- Symbolic states: operations that leave memory alone. -/
import Derived.Test.YtmgcpfljhcahoaaSyMem
import Derived.CallsIn
import Derived.Laws.Tables
import Derived.Laws.BytesArg
import Derived.TacticsIn
namespace Go.Proofs.Ytmgcpfljhcahoaa
open Go Go.RowKit
namespace Sy
variable {md : Bool}

def withO {α : Type} (x : Option α) (k : α → Prop) : Prop := match x with
  | some a => k a
  | none => False
theorem withO_ok {α : Type} {x : Option α} {k : α → Prop} (h : withO x k) : ∃ a, x = some a ∧ k a := by
  cases x with
  | none => exact h.elim
  | some a => exact ⟨a, rfl, h⟩
def need (b : Bool) (k : Prop) : Prop := bif b then k else False
theorem need_ok {b : Bool} {k : Prop} (h : need b k) : b = true ∧ k := by
  cases b with
  | true => exact ⟨rfl, h⟩
  | false => exact h.elim

/-! Constants -/
def ofV1 : Value → Option V
  | .bool b => some (.bool b)
  | .int k n => some (.int k n)
  | .string s => some (.str s)
  | .pointer none => some .nilp
  | .map none => some .nilm
  | .nilFunc => some .nilf
  | .nilIface => some .nili
  | .slice none 0 0 => some .nils
  | _ => none
def ofVl : List Value → Option (List V)
  | [] => some []
  | v :: l => match ofV1 v, ofVl l with
    | some u, some m => some (u :: m)
    | _, _ => none
def ofV : Value → Option V
  | .agg cs => (ofVl cs.toList).map .agg
  | .tuple cs => (ofVl cs.toList).map .tup
  | v => ofV1 v
theorem cz_ofV1 {ρ : Ren} {v : Value} {u : V} (h : ofV1 v = some u) : cz ρ u = some v := by
  unfold ofV1 at h
  split at h <;> first | (cases h; simp [cz]; done) | cases h
theorem czl_ofVl {ρ : Ren} : ∀ {l : List Value} {m : List V}, ofVl l = some m → czl ρ m = some l
  | [], m, h => by cases h; simp [czl]
  | v :: l, m, h => by
    simp only [ofVl] at h
    split at h
    · rename_i u m' h1 h2
      cases h
      exact czl_cons.2 ⟨v, l, cz_ofV1 h1, czl_ofVl h2, rfl⟩
    · cases h
theorem cz_ofV {ρ : Ren} {v : Value} {u : V} (h : ofV v = some u) : cz ρ u = some v := by
  unfold ofV at h
  split at h
  · rename_i cs
    simp only [Option.map_eq_some_iff] at h
    obtain ⟨m, h1, rfl⟩ := h
    simp [cz, czl_ofVl (ρ := ρ) h1]
  · rename_i cs
    simp only [Option.map_eq_some_iff] at h
    obtain ⟨m, h1, rfl⟩ := h
    simp [cz, czl_ofVl (ρ := ρ) h1]
  · exact cz_ofV1 h

def opd (t : Tr V) : Operand → Option V
  | .tmp i => t.get i
  | .const v => ofV v
  | .func f => some (.fn (.func f) [] [])
  | .global _ => none
def opds (t : Tr V) : List Operand → Option (List V)
  | [] => some []
  | x :: l => match opd t x, opds t l with
    | some v, some vs => some (v :: vs)
    | _, _ => none

def OpdOk (ρ : Ren) (t : Tr V) (a : Act) (x : Operand) : Prop := ∀ v, opd t x = some v → cz ρ v = some (a.eval x)

abbrev RelT := TmpsAre
theorem RelT.ext {ρ ρ' : Ren} (h : Ext ρ ρ') {sz : Nat} {t : Tr V} {a : Array Value} (ht : RelT ρ sz t a) : RelT ρ' sz t a := TmpsAre.ext h ht

theorem cz_fn {ρ : Ren} (f : FuncId) : cz ρ (.fn (.func f) [] []) = some (.func (.func f) #[] #[]) := by simp [cz, czl, fnOk]
theorem opd_ok {ρ : Ren} {a : Act} {sz : Nat} {t : Tr V} (ht : RelT ρ sz t a.tmps) (x : Operand) : OpdOk ρ t a x := by
  intro v h
  cases x with
  | tmp i =>
    obtain ⟨v', h1, h2⟩ := ht.get i v h
    rw [h1]; simp [Act.eval, h2]
  | const c => exact cz_ofV h
  | func f => cases h; exact cz_fn f
  | global g => cases h
theorem opds_ok {ρ : Ren} {a : Act} {t : Tr V} : ∀ {xs : List Operand} {vs : List V}, (∀ x ∈ xs, OpdOk ρ t a x) → opds t xs = some vs → czl ρ vs = some (xs.map a.eval)
  | [], vs, _, h => by cases h; simp [czl]
  | x :: xs, vs, hx, h => by
    simp only [opds] at h
    split at h
    · rename_i v vs' h1 h2
      cases h
      exact czl_cons.2 ⟨_, _, hx x (by simp) v h1, opds_ok (fun y hy => hx y (by simp [hy])) h2, rfl⟩
    · cases h

def cellsOf : V → List V
  | .agg l => l
  | v => [v]

section
variable {P : Program} {ρ ρ' : Ren} {s s' : St} {w w' : World} {o : Oper} {a act : Act} {t : Tr V}

theorem cz_one (hσ : ∀ i v, ρ.σ i = some v → v.oneCell' = true) {v : V} {v' : Value} (h : cz ρ v = some v') (hv : oneCells [v] = true) : v'.oneCell' = true := by
  cases v with
  | agg a => simp [oneCells] at hv
  | tup a => simp [oneCells] at hv
  | tok i => exact hσ i v' h
  | ptr i off => simp only [cz, Option.map_eq_some_iff] at h; obtain ⟨_, _, rfl⟩ := h; rfl
  | ep i j sz fo => simp only [cz, Option.map_eq_some_iff] at h; obtain ⟨_, _, rfl⟩ := h; rfl
  | mp i => simp only [cz, Option.map_eq_some_iff] at h; obtain ⟨_, _, rfl⟩ := h; rfl
  | yl i => simp only [cz, Option.map_eq_some_iff] at h; obtain ⟨_, _, rfl⟩ := h; rfl
  | sl i lo sz n full =>
    simp only [cz] at h
    split at h
    · split at h
      · cases h; rfl
      · split at h
        · cases h; rfl
        · cases h
    · split at h
      · cases h; rfl
      · cases h
  | sle i sz n =>
    simp only [cz] at h
    split at h
    · split at h
      · cases h; rfl
      · cases h
    · cases h
  | fn f fi ca =>
    simp only [cz] at h
    split at h
    · split at h
      · cases h; rfl
      · cases h
    · cases h
  | iface t x => simp only [cz, Option.map_eq_some_iff] at h; obtain ⟨_, _, rfl⟩ := h; rfl
  | _ => simp [cz] at h; subst h; rfl
theorem cells_of_one {v : Value} (h : v.oneCell' = true) : v.cells = #[v] := by cases v <;> first | rfl | cases h
theorem czl_cellsOf (hσ : ∀ i v, ρ.σ i = some v → v.oneCell' = true) {v : V} {v' : Value} (h : cz ρ v = some v') : czl ρ (cellsOf v) = some v'.cells.toList := by
  have hone : oneCells [v] = true → cellsOf v = [v] → czl ρ (cellsOf v) = some v'.cells.toList := fun h1 h2 => by
    rw [h2, cells_of_one (cz_one hσ h h1)]
    exact czl_cons.2 ⟨_, [], h, by simp [czl], rfl⟩
  cases v with
  | agg l =>
    simp only [cz, Option.map_eq_some_iff] at h
    obtain ⟨l', hl, rfl⟩ := h
    simpa [cellsOf, Value.cells] using hl
  | tup l =>
    have h' := h
    simp only [cz, Option.map_eq_some_iff] at h'
    obtain ⟨l', hl, rfl⟩ := h'
    exact czl_cons.2 ⟨_, [], h, by simp [czl], rfl⟩
  | _ => exact hone rfl rfl
theorem czl_ones (hσ : ∀ i v, ρ.σ i = some v → v.oneCell' = true) : ∀ {l : List V} {l' : List Value}, czl ρ l = some l' → oneCells l = true → ∀ v ∈ l', v.oneCell' = true
  | [], _, h, _ => by rw [czl_nil.1 h]; simp
  | v :: l, _, h, h1 => by
    obtain ⟨v', l1, h2, h3, rfl⟩ := czl_cons.1 h
    have hv : oneCells [v] = true ∧ oneCells l = true := by cases v <;> simp_all [oneCells]
    intro u hu
    rcases List.mem_cons.1 hu with rfl | hu
    · exact cz_one hσ h2 hv.1
    · exact czl_ones hσ h3 hv.2 u hu

/-! A run of an operation -/
def Runs (P : Program) (o : Oper) (a : Act) (w : World) (v' : Value) (w' : World) : Prop :=
  (execOp a.eval o).run P w = .ok (.value v') w' ∨ ((execOp a.eval o).run P w = .ok .skip w' ∧ v' = undef)

/-- No fence, in a round or in none. -/
def FW (r : Option Nat) : Fence := { Fence.wide with round := r }

/-- What an operation does to a state, in whatever world. -/
def OpF (md : Bool) (P : Program) (o : Oper) (t : Tr V) (s : St) (v : V) (s' : St) : Prop := ∀ {ρ : Ren} {w : World} {act : Act}, Rel ρ s w → (∀ z ∈ o.op.operands, OpdOk ρ t act z) →
  ∀ {r' : Option Nat} {Q : Exit → Act → World → Prop} {K : Act → World → Prop}, (∀ ρ' w' v', Step md s.n s ρ w s' ρ' w' → cz ρ' v = some v' → K (act.put o.dst v') w') → o.wpIn (FW r') 0 P act w K Q

theorem wpIn_of_run {r' : Option Nat} {Q : Exit → Act → World → Prop} {K : Act → World → Prop} (hnd : ∀ c, o.op ≠ .defer c) (h : o.uponIn (FW r') 0 P act K Q ((execOp act.eval o).run P w)) : o.wpIn (FW r') 0 P act w K Q :=
  ⟨fun _ _ => trivial, by rw [Oper.semAt_eq _ _ _ hnd]; exact h⟩
theorem OpF.of_run {v : V} (hnd : ∀ c, o.op ≠ .defer c) (h : ∀ {ρ : Ren} {w : World} {act : Act}, Rel ρ s w → (∀ z ∈ o.op.operands, OpdOk ρ t act z) → ∃ ρ' w' v', Step md s.n s ρ w s' ρ' w' ∧ cz ρ' v = some v' ∧ Runs P o act w v' w') : OpF md P o t s v s' := by
  intro ρ w act hr hx r' Q K hK
  obtain ⟨ρ', w', v', h1, h2, h3⟩ := h hr hx
  refine wpIn_of_run hnd ?_
  rcases h3 with h3 | ⟨h3, rfl⟩
  · rw [h3]; exact hK _ _ _ h1 h2
  · rw [h3]; exact hK _ _ _ h1 h2

/-- An operation that asks nothing of memory. -/
def PureF (P : Program) (o : Oper) (t : Tr V) (v : V) : Prop := ∀ {ρ : Ren} {act : Act}, (∀ z ∈ o.op.operands, OpdOk ρ t act z) → ∃ v', cz ρ v = some v' ∧ ∀ w, (execOp act.eval o).run P w = .ok (.value v') w
theorem PureF.op {v : V} (hnd : ∀ c, o.op ≠ .defer c) (h : PureF P o t v) : OpF md P o t s v s :=
  OpF.of_run hnd fun {ρ w _} hr hx => let ⟨v', h1, h2⟩ := h hx; ⟨ρ, w, v', Step.refl hr, h1, .inl (h2 w)⟩

/-! Numbers, strings -/
def bitsOp (op : BinOp) (k : IntKind) (a b : Int) : Int :=
  let x := BitVec.ofInt k.bits a
  let y := BitVec.ofInt k.bits b
  match op with
  | .and => k.wrap (x &&& y).toNat
  | .or => k.wrap (x ||| y).toNat
  | .xor => k.wrap (x ^^^ y).toNat
  | _ => k.wrap (x &&& ~~~y).toNat
def shlI (k : IntKind) (a b : Int) : Int := k.wrap (a * 2 ^ (min b.toNat k.bits))
def shrI (k : IntKind) (a b : Int) : Int := a.fdiv (2 ^ (min b.toNat k.bits))
def strLt (a b : ByteArray) : Bool := Op.bytesLess a.toList b.toList

def intP (op : BinOp) (k : IntKind) (a b : Int) (K : V → Prop) : Prop := match op with
  | .add => K (.int k (k.wrap (a + b)))
  | .sub => K (.int k (k.wrap (a - b)))
  | .mul => K (.int k (k.wrap (a * b)))
  | .quo => b ≠ 0 ∧ K (.int k (k.wrap (a.tdiv b)))
  | .rem => b ≠ 0 ∧ K (.int k (a.tmod b))
  | .and => K (.int k (bitsOp .and k a b))
  | .or => K (.int k (bitsOp .or k a b))
  | .xor => K (.int k (bitsOp .xor k a b))
  | .andNot => K (.int k (bitsOp .andNot k a b))
  | .eql => K (.sb (decide (a = b)))
  | .neq => K (.sb (!decide (a = b)))
  | .lss => K (.sb (decide (a < b)))
  | .leq => K (.sb (decide (a ≤ b)))
  | .gtr => K (.sb (decide (b < a)))
  | .geq => K (.sb (decide (b ≤ a)))
  | _ => False
def strP (op : BinOp) (a b : ByteArray) (K : V → Prop) : Prop := match op with
  | .add => a.size + b.size ≤ 9223372036854775807 ∧ K (.str (a ++ b))
  | .eql => K (.sb (decide (a = b)))
  | .neq => K (.sb (!decide (a = b)))
  | .lss => K (.sb (strLt a b))
  | .leq => K (.sb (!strLt b a))
  | .gtr => K (.sb (strLt b a))
  | .geq => K (.sb (!strLt a b))
  | _ => False

theorem bytesLess_irrefl : ∀ l : List UInt8, Op.bytesLess l l = false
  | [] => rfl
  | a :: l => by simp [Op.bytesLess, bytesLess_irrefl l]
theorem bytesLess_tri : ∀ l m : List UInt8, (Op.bytesLess l m || l == m) = !Op.bytesLess m l
  | [], [] => rfl
  | [], _ :: _ => rfl
  | _ :: _, [] => rfl
  | a :: l, b :: m => by
    have ih := bytesLess_tri l m
    simp only [Op.bytesLess]
    by_cases h1 : a < b
    · have h2 : ¬ b < a := by simp only [UInt8.lt_iff_toNat_lt] at *; omega
      have h3 : (b == a) = false := by simp; rintro rfl; exact h2 h1
      simp [h1, h2, h3]
    · by_cases h2 : b < a
      · have h3 : (a == b) = false := by simp; rintro rfl; exact h1 h2
        have h4 : ¬ a = b := by simpa using h3
        simp [h1, h2, h4]
      · have h3 : a = b := by
          apply UInt8.toNat_inj.1
          simp only [UInt8.lt_iff_toNat_lt] at *; omega
        subst h3
        simpa [h1, h2] using ih
theorem toList_inj {a b : ByteArray} : a.toList = b.toList ↔ a = b := by
  rw [ByteArray.toList_eq, ByteArray.toList_eq]
  exact ⟨fun h => ByteArray.ext (Array.toList_inj.1 h), fun h => by rw [h]⟩

theorem run_eqGuard_else {op : BinOp} {ty : TypeId} {x y : Operand} {u v : Value} (h1 : ∀ a b, ¬ (u = .agg a ∧ v = .agg b)) (h2 : ¬ (u = .nilIface ∧ v = .nilIface)) (w : World) :
    (eqGuard op ty x y u v).run P w = .ok () w := by
  cases op <;> cases u <;> first
    | rfl
    | (cases v <;> first | rfl | exact absurd ⟨rfl, rfl⟩ h2 | exact absurd ⟨rfl, rfl⟩ (h1 _ _))

def kindNe (op : BinOp) : Bool := match op with
  | .shl | .shr => false
  | _ => true
theorem intP_ok {op : BinOp} {k : IntKind} {a b : Int} {K : V → Prop} (h : intP op k a b K) (ty : TypeId) : ∃ v v', K v ∧ (∀ ρ, cz ρ v = some v') ∧ ∀ w, (binOp op ty (.int k a) (.int k b)).run P w = .ok v' w := by
  have e1 : ∀ x y : Int, (x == y) = decide (x = y) := fun x y => by rw [Bool.eq_iff_iff]; simp
  have e2 : ∀ x y : Int, (x != y) = !decide (x = y) := fun x y => by rw [bne, e1]
  cases op <;> simp only [intP] at h <;> first
    | exact h.elim
    | (obtain ⟨h0, h⟩ := h; exact ⟨_, _, h, fun _ => rfl, fun w => by simp [binOp, Op.intDiv, h0]⟩)
    | exact ⟨_, _, h, fun _ => rfl, fun w => by simp [binOp, Op.intArith, Op.intCmp, Op.intBits, bitsOp, e1, e2]⟩
theorem strP_ok {op : BinOp} {a b : ByteArray} {K : V → Prop} (h : strP op a b K) (ty : TypeId) : ∃ v v', K v ∧ (∀ ρ, cz ρ v = some v') ∧ ∀ w, (binOp op ty (.string a) (.string b)).run P w = .ok v' w := by
  have e1 : (a.toList == b.toList) = decide (a = b) := by rw [Bool.eq_iff_iff]; simp [toList_inj]
  have e2 := bytesLess_tri a.toList b.toList
  have e3 : Op.bytesLess a.toList b.toList = strLt a b := rfl
  have e4 : Op.bytesLess b.toList a.toList = strLt b a := rfl
  have e5 : strLt b a = !(strLt a b || decide (a = b)) := by rw [e4, e3, e1] at e2; rw [e2]; simp
  rw [e3, e4, e1] at e2
  cases op <;> simp only [strP] at h <;> first
    | exact h.elim
    | (obtain ⟨h0, h⟩ := h
       refine ⟨_, _, h, fun _ => rfl, fun w => ?_⟩
       have : ¬ (((a.size + b.size : Nat) : Int) > IntKind.i64.max) := by simp only [IntKind.max, IntKind.signed, IntKind.bits]; omega
       have hb : binOp .add ty (.string a) (.string b) = Op.stringOp .add a b := rfl
       rw [hb]
       unfold Op.stringOp
       simp only [if_neg this]
       rfl)
    | (refine ⟨_, _, h, fun _ => rfl, fun w => ?_⟩
       simp only [binOp, Op.stringOp, e1, e3]
       first
         | rfl
         | (rw [e2]; rfl)
         | (rw [e5]; rfl))

/-- Byte k of a string. -/
def byteAt (s : ByteArray) (k : Nat) : Int := (s.data.toList.getD k 0).toNat
def substr (s : ByteArray) (l h : Nat) : ByteArray := s.extract l h
end
end Sy
end Go.Proofs.Ytmgcpfljhcahoaa
