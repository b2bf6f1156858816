/- One text out of 8. -/
import Derived.Test.YtmgcpfljhcahoaaSyAR
import Derived.RangeFuncRecord
import Derived.Maps.RangeRun
import Derived.Laws.BytesString
section
namespace Go.Proofs.Ytmgcpfljhcahoaa
open Go Go.RowKit
namespace Sy
variable {md : Bool}

/-- append(nil, make([]T, m)...). -/
def appendZP (P : Program) (s : St) (ty ty2 : TypeId) (x : V) (m : Int) (K : V → St → Prop) : Prop := match P.underlying ty, P.underlying ty2, x with
  | some (.slice e), some (.int _), .nils => withO (sizeT P e) fun sz => withO (bytesT P e) fun by_ => withO (zeroT P e) fun z => withO (ofV z) fun zv => need (Nat.ble 1 sz && Nat.beq (cellsOf zv).length sz && oneCells (cellsOf zv))
      (0 < m ∧ m.toNat * (by_ + sz) ≤ 1000000000 ∧ newP s (.row m.toNat (fun _ => cellsOf zv) e sz) fun b s => K (.sl b 0 sz m.toNat false) s)
  | _, _, _ => False
/-- The method of a pointer behind an interface. -/
def methP (P : Program) (ty : TypeId) (name : String) : Option FuncId := match P.info? ty with
  | some i => match i.methods.find? (fun m => m.name == name) with
    | some m => match m.path.toList, m.func, P.underlying ty with
      | [], some (f, true), some (.pointer _) => some f
      | _, _, _ => none
    | none => none
  | none => none

section
variable {P : Program} {ρ : Ren} {s : St} {w : World}
theorem flatten_getZ {z : List Value} : ∀ (n j : Nat), j < n * z.length → ((List.replicate n z).flatten)[j]? = z[j % z.length]?
  | 0, j, h => by omega
  | n + 1, j, h => by
    rw [List.replicate_succ, List.flatten_cons]
    by_cases hj : j < z.length
    · rw [List.getElem?_append_left hj, Nat.mod_eq_of_lt hj]
    · rw [Nat.succ_mul] at h
      rw [List.getElem?_append_right (by omega), flatten_getZ n (j - z.length) (by omega), Nat.mod_eq_sub_mod (a := j) (by omega)]
theorem zeros_eqZ {z : Array Value} {n : Nat} (hz : 0 < z.size) : (Array.range (n * z.size)).map (fun j => z[j % z.size]!) = ((List.replicate n z.toList).flatten).toArray := by
  apply Array.ext_getElem?
  intro j
  have hl : ((List.replicate n z.toList).flatten).length = n * z.size := by simp
  by_cases hj : j < n * z.size
  · have := flatten_getZ (z := z.toList) n j (by simpa using hj)
    simp only [List.getElem?_toArray, this]
    have hm : j % z.size < z.size := Nat.mod_lt _ hz
    simp [hj, hm]
  · rw [Array.getElem?_eq_none (by simp; omega), Array.getElem?_eq_none (by simp; omega)]
theorem run_append_zeros {ty ty2 T e : TypeId} {bytes m sz : Nat} {z : Value} {kk : IntKind} (hd : P.underlying ty = some (.slice e)) (h2 : P.underlying ty2 = some (.int kk)) (hs : sizeT P e = some sz) (hby : bytesT P e = some bytes) (hz : zeroT P e = some z)
    (hm : 1 ≤ m) (hbig : m * (bytes + sz) ≤ 1000000000) (hpos : 1 ≤ sz) (hzs : z.cells.size = sz) :
    ∃ newCap rest, m ≤ newCap ∧ rest.length = (newCap - m) * sz ∧ (Builtin.append_ #[ty, ty2] T #[.slice none 0 0, .int .i64 (m : Int)]).run P w =
      .ok (.slice (some ⟨w.heap.size, 0, none⟩) m newCap) { w.alloc (.cells ((List.replicate m z.cells.toList).flatten ++ rest).toArray e) with drawn := w.drawn + 1 } := by
  obtain ⟨i, hi, hib⟩ := run_typeInfo_bytes hby
  have hpos2 : 1 ≤ bytes + sz := by omega
  have hneed : m ≤ 1000000000 := Nat.le_trans (Nat.le_mul_of_pos_right _ hpos2) hbig
  have hbyt : bytes ≤ 1000000000 := by
    have : 1 * (bytes + sz) ≤ m * (bytes + sz) := Nat.mul_le_mul_right _ (by omega)
    omega
  have hmb : m * bytes ≤ 1000000000 := Nat.le_trans (Nat.mul_le_mul_left _ (by omega)) hbig
  have hmb' : ¬ ((m : Int) * (bytes : Int) > 2 ^ 48) := by
    have : ((m * bytes : Nat) : Int) = (m : Int) * (bytes : Int) := Int.natCast_mul m bytes
    rw [← this]; omega
  have hcap : ¬ Builtin.nextslicecap (0 + m) 0 * bytes > 2 ^ 48 := by
    have h1 := Nat.mul_le_mul_right bytes (nextslicecap_le (n := 0 + m) (c := 0) (by omega))
    rw [Nat.add_mul, Nat.mul_assoc, Nat.zero_add] at h1
    rw [Nat.zero_add]
    omega
  have hmax : ¬ (((0 + m : Nat) : Int) > IntKind.i64.max) := by
    have : IntKind.i64.max = 9223372036854775807 := by decide
    rw [this]
    omega
  have hwm : IntKind.i64.wrap (m : Int) = (m : Int) := IntWalk.i64_in _ (by constructor <;> omega)
  have hm0 : ¬ ((m : Int) < 0) := by omega
  have hms : ¬ (m * sz = 0) := fun h => by rcases Nat.mul_eq_zero.1 h with g | g <;> omega
  have hzc : Builtin.zeroCells z.cells m = ((List.replicate m z.cells.toList).flatten).toArray := zeros_eqZ (by omega)
  refine ⟨Question.cut (.appendCap (0 + m) 0 e) (w.tape w.drawn (.appendCap (0 + m) 0 e)), (Builtin.zeroCells z.cells (Question.cut (.appendCap (0 + m) 0 e) (w.tape w.drawn (.appendCap (0 + m) 0 e)) - (0 + m))).toList, by simp [Question.cut], ?_, ?_⟩
  · simp [Builtin.zeroCells, hzs, Question.cut]
  · unfold Builtin.append_
    have hnle : ¬ 0 + m ≤ 0 := by omega
    have hfo : (Question.appendCap (0 + m) 0 e).forced = false := rfl
    have ho : ∀ W : World, (Builtin.firstCells sz 0 (.slice none 0 0)).run P W = .ok ([] : List Value).toArray W := fun _ => rfl
    simp only [List.getElem?_toArray, List.getElem?_cons_zero, List.getElem?_cons_succ, Sem.run_bind, run_underlying hd, Result.andThen_ok, run_sizeOf hs, run_underlying h2, Sem.run_pure, if_true, asInt, asIntOf, hwm, hm0, if_false, typeInfo, run_program, hi, hib, hmb', Int.toNat_natCast, Sem.run_ite, if_neg hnle, Bool.not_true, Bool.false_eq_true]
    simp only [hmax, false_and, if_false, hcap, run_choose, hfo, Bool.false_eq_true, Result.andThen_ok, run_askRoom]
    rw [ho { w with drawn := w.drawn + 1 }]
    simp only [Result.andThen_ok, if_neg hms, Sem.run_bind, run_zeroValue hz, Sem.run_pure, newRow, run_newObj_alloc, hzc]
    rw [Nat.zero_add]
    refine congrArg (fun c => Result.ok (Value.slice (some ⟨w.heap.size, 0, none⟩) m _) ({ heap := w.heap.push (.cells c e), tape := w.tape, drawn := w.drawn + 1, os := w.os, output := w.output } : World)) ?_
    simp
theorem run_append_zeros_more {ty ty2 T e : TypeId} {bytes m sz n cc : Nat} {z : Value} {kk : IntKind} {p' : Option Addr} {old : List Value} (hd : P.underlying ty = some (.slice e)) (h2 : P.underlying ty2 = some (.int kk)) (hs : sizeT P e = some sz) (hby : bytesT P e = some bytes) (hz : zeroT P e = some z)
    (hm : 1 ≤ m) (hcc : cc < n + m) (ho : ∀ W : World, W.heap = w.heap → (Builtin.firstCells sz n (.slice p' n cc)).run P W = .ok old.toArray W) (hbig : (n + m) * (bytes + sz) ≤ 1000000000) (hpos : 1 ≤ sz) (hzs : z.cells.size = sz) :
    ∃ newCap rest, n + m ≤ newCap ∧ rest.length = (newCap - (n + m)) * sz ∧ (Builtin.append_ #[ty, ty2] T #[.slice p' n cc, .int .i64 (m : Int)]).run P w =
      .ok (.slice (some ⟨w.heap.size, 0, none⟩) (n + m) newCap) { w.alloc (.cells (old ++ (List.replicate m z.cells.toList).flatten ++ rest).toArray e) with drawn := w.drawn + 1 } := by
  obtain ⟨i, hi, hib⟩ := run_typeInfo_bytes hby
  have hpos2 : 1 ≤ bytes + sz := by omega
  have hneed : n + m ≤ 1000000000 := Nat.le_trans (Nat.le_mul_of_pos_right _ hpos2) hbig
  have hbyt : bytes ≤ 1000000000 := by
    have : 1 * (bytes + sz) ≤ (n + m) * (bytes + sz) := Nat.mul_le_mul_right _ (by omega)
    omega
  have hnb : (n + m) * bytes ≤ 1000000000 := Nat.le_trans (Nat.mul_le_mul_left _ (by omega)) hbig
  have hmb : m * bytes ≤ 1000000000 := Nat.le_trans (Nat.mul_le_mul_right _ (by omega)) hnb
  have hmb' : ¬ ((m : Int) * (bytes : Int) > 2 ^ 48) := by
    have : ((m * bytes : Nat) : Int) = (m : Int) * (bytes : Int) := Int.natCast_mul m bytes
    rw [← this]; omega
  have hcap : ¬ Builtin.nextslicecap (n + m) cc * bytes > 2 ^ 48 := by
    have h1 := Nat.mul_le_mul_right bytes (nextslicecap_le hcc)
    rw [Nat.add_mul, Nat.mul_assoc] at h1
    omega
  have hmax : ¬ (((n + m : Nat) : Int) > IntKind.i64.max) := by
    have : IntKind.i64.max = 9223372036854775807 := by decide
    rw [this]
    omega
  have hwm : IntKind.i64.wrap (m : Int) = (m : Int) := IntWalk.i64_in _ (by constructor <;> omega)
  have hm0 : ¬ ((m : Int) < 0) := by omega
  have hms : ¬ (m * sz = 0) := fun h => by rcases Nat.mul_eq_zero.1 h with g | g <;> omega
  have hzc : Builtin.zeroCells z.cells m = ((List.replicate m z.cells.toList).flatten).toArray := zeros_eqZ (by omega)
  refine ⟨Question.cut (.appendCap (n + m) cc e) (w.tape w.drawn (.appendCap (n + m) cc e)), (Builtin.zeroCells z.cells (Question.cut (.appendCap (n + m) cc e) (w.tape w.drawn (.appendCap (n + m) cc e)) - (n + m))).toList, Nat.le_add_right _ _, ?_, ?_⟩
  · simp [Builtin.zeroCells, hzs, Question.cut]
  · unfold Builtin.append_
    have hnle : ¬ n + m ≤ cc := by omega
    have hfo : (Question.appendCap (n + m) cc e).forced = false := rfl
    simp only [List.getElem?_toArray, List.getElem?_cons_zero, List.getElem?_cons_succ, Sem.run_bind, run_underlying hd, Result.andThen_ok, run_sizeOf hs, run_underlying h2, Sem.run_pure, if_true, asInt, asIntOf, hwm, hm0, if_false, typeInfo, run_program, hi, hib, hmb', Int.toNat_natCast, Sem.run_ite, if_neg hnle, Bool.not_true, Bool.false_eq_true]
    simp only [hmax, false_and, if_false, hcap, run_choose, hfo, Bool.false_eq_true, Result.andThen_ok, run_askRoom]
    rw [ho { w with drawn := w.drawn + 1 } rfl]
    simp only [Result.andThen_ok, if_neg hms, Sem.run_bind, run_zeroValue hz, Sem.run_pure, newRow, run_newObj_alloc, hzc]
    refine congrArg (fun c => Result.ok (Value.slice (some ⟨w.heap.size, 0, none⟩) (n + m) _) ({ heap := w.heap.push (.cells c e), tape := w.tape, drawn := w.drawn + 1, os := w.os, output := w.output } : World)) ?_
    simp
theorem rowL_repZ (c : List V) : ∀ n, rowL (fun _ => c) n = (List.replicate n c).flatten
  | 0 => rfl
  | n + 1 => by
    rw [rowL_succ, rowL_repZ c n, List.replicate_succ', List.flatten_append]
    simp
theorem czl_repZ {ρ : Ren} {c : List V} {l : List Value} (h : czl ρ c = some l) : ∀ n, czl ρ ((List.replicate n c).flatten) = some ((List.replicate n l).flatten)
  | 0 => rfl
  | n + 1 => by
    rw [List.replicate_succ, List.flatten_cons, List.replicate_succ, List.flatten_cons]
    exact czl_append h (czl_repZ h n)
theorem appendZP_ok {ty ty2 T : TypeId} {x : V} {m : Int} {K : V → St → Prop} (h : appendZP P s ty ty2 x m K) : ∃ v s', K v s' ∧ ∀ {ρ : Ren} {w : World} {x' : Value}, Rel ρ s w → cz ρ x = some x' →
    ∃ ρ' w' v', Step md s.n s ρ w s' ρ' w' ∧ cz ρ' v = some v' ∧ (Builtin.append_ #[ty, ty2] T #[x', .int .i64 m]).run P w = .ok v' w' := by
  unfold appendZP at h
  split at h
  · rename_i e kk hd h2
    replace h := withO_ok h; obtain ⟨sz, hs, h⟩ := h
    replace h := withO_ok h; obtain ⟨bytes, hby, h⟩ := h
    replace h := withO_ok h; obtain ⟨z, hz, h⟩ := h
    replace h := withO_ok h; obtain ⟨zv, hzv, h⟩ := h
    replace h := need_ok h; obtain ⟨hb, hm, hbig, h⟩ := h
    simp only [Bool.and_eq_true] at hb
    have hpos : 1 ≤ sz := Nat.le_of_ble_eq_true hb.1.1
    have hzl : (cellsOf zv).length = sz := by simpa using hb.1.2
    have hone : oneCells (cellsOf zv) = true := hb.2
    replace h := newP_ok h; obtain ⟨H, hH, h⟩ := h
    refine ⟨_, _, h, fun {ρ w x'} hr hx => ?_⟩
    simp only [cz, Option.some.injEq] at hx
    subst hx
    have hcz := czl_cellsOf hr.sig (cz_ofV (ρ := ρ) hzv)
    have hzs : z.cells.size = sz := by
      have := czl_length hcz
      simpa [hzl] using this
    obtain ⟨k, rfl⟩ : ∃ k : Nat, m = k := ⟨m.toNat, by omega⟩
    rw [Int.toNat_natCast] at hbig hH ⊢
    obtain ⟨newCap, rest, g1, g2, g3⟩ := run_append_zeros (T := T) (w := w) (m := k) hd h2 hs hby hz (by omega) hbig hpos hzs
    have hrow : czl ρ (rowL (fun _ => cellsOf zv) k) = some ((List.replicate k z.cells.toList).flatten) := by
      rw [rowL_repZ]
      exact czl_repZ hcz k
    refine ⟨_, _, .slice (some ⟨w.heap.size, 0, none⟩) k newCap, Step.row hr hrow (fun _ _ => ⟨hzl, hone⟩) hpos (tail := rest) (m := newCap) ?_ hH (d := w.drawn + 1), ?_, g3⟩
    · have e1 : ((List.replicate k z.cells.toList).flatten).length = k * sz := by simp [hzs]
      rw [List.length_append, e1, g2, ← Nat.add_mul]
      congr 1
      omega
    · simp [cz, Ren.add, g1]
  · exact h.elim
theorem run_method {ty : TypeId} {name : String} {f : FuncId} (h : methP P ty name = some f) (v : Value) (w : World) : ∀ k, (method (k + 1) ty v name).run P w = .ok (f, v) w := by
  intro k
  unfold methP at h
  split at h
  · rename_i i hi
    split at h
    · rename_i m hm
      split at h
      · rename_i e hp hf hu
        cases h
        have ht : (typeInfo ty).run P w = .ok i w := by simp [typeInfo, hi]
        unfold method
        simp only [Sem.run_bind, ht, Result.andThen_ok, hm, hp, follow, Sem.run_pure, hf, receiverAt, run_underlying hu, Place.get]
      · cases h
    · cases h
  · cases h
theorem run_callMethod {ty : TypeId} {name : String} {f : FuncId} (h : methP P ty name = some f) (v : Value) (args : Array Value) (w : World) : (callMethod (.iface ty v) name args).run P w = (callFunc f (#[v] ++ args)).run P w := by
  unfold callMethod
  simp only [Sem.run_bind, run_program, Result.andThen_ok]
  rw [show P.types.size + Made.depth = (P.types.size + 99) + 1 from rfl, run_method h v w]
  rfl
end
end Sy
end Go.Proofs.Ytmgcpfljhcahoaa
end
section
namespace Go.Proofs.Ytmgcpfljhcahoaa
open Go Go.RowKit
namespace Sy
variable {md : Bool}

/-- A value as it may be held. -/
def nilEq : V → V → Prop
  | .nils, .asl _ none _ 0 0 => True
  | v, v2 => v = v2
def nilEqL : List V → List V → Prop
  | [], [] => True
  | v :: l, u :: m => nilEq v u ∧ nilEqL l m
  | _, _ => False
def famC (e : TypeId) : Tr SObj → Bool
  | .leaf => false
  | .node v l r => (match v with | some (.memc T _) => Nat.beq T e | _ => false) || (famC e l || famC e r)
/-- A new block of cells, in a family. -/
def allocC (s : St) (i : Nat) (e : TypeId) (l : List V) (K : V → St → Prop) : Prop := withO (s.H.get i) fun o => match o with
  | .memc T M => need (Nat.beq T e) (∀ b, M b = none → ∃ M', (M' b = some l ∧ ∀ x, x ≠ b → M' x = M x) ∧ setP s i (some (.memc T M')) fun s => K (.ap i b 0) s)
  | _ => False
def famR (e : TypeId) : Tr SObj → Bool
  | .leaf => false
  | .node v l r => (match v with | some (.memr T _ _) => Nat.beq T e | _ => false) || (famR e l || famR e r)
/-- A new row, in a family. -/
def famRowC (s : St) (i : Nat) (e : TypeId) (sz n : Nat) (f : Nat → List V) (K : V → St → Prop) : Prop := withO (s.H.get i) fun o => match o with
  | .memr e' sz' M => need (Nat.beq e e' && Nat.beq sz sz') (∀ b C, n ≤ C → M b = none → ∃ M' f', (M' b = some (n, C, f') ∧ (∀ q, q < n → f' q = f q) ∧ ∀ x, x ≠ b → M' x = M x) ∧ setP s i (some (.memr e' sz' M')) fun s => K (.asl i (some (b, 0)) sz n C) s)
  | _ => False
/-- A new row: named, or in a family where there is one. -/
def newRowP (s : St) (n : Nat) (f : Nat → List V) (e : TypeId) (sz : Nat) (K : V → St → Prop) : Prop := match s with
  | ⟨k, H⟩ => match famR e H with
    | false => newP ⟨k, H⟩ (.row n f e sz) fun b s => K (.sl b 0 sz n false) s
    | true => (newP ⟨k, H⟩ (.row n f e sz) fun b s => K (.sl b 0 sz n false) s) ∨ ∃ i, famRowC ⟨k, H⟩ i e sz n f K
def famTy (P : Program) (ty : TypeId) (s : St) : Bool := match P.underlying ty with
  | some (.slice e) => famR e s.H
  | _ => false
def allocP (s : St) (e : TypeId) (l : List V) (K : V → St → Prop) : Prop := match s with
  | ⟨n, H⟩ => match famC e H with
    | false => newP ⟨n, H⟩ (.cells l e) fun b s => K (.ptr b 0) s
    | true => ∃ i l2, nilEqL l l2 ∧ allocC ⟨n, H⟩ i e l2 K
/-- append to a slice of a family. -/
def appendAP (P : Program) (s : St) (ty ty2 : TypeId) (i : Nat) (p : Option (Nat × Nat)) (sz n c : Nat) (y : V) (K : V → St → Prop) : Prop :=
  match P.underlying ty, (match P.underlying ty2 with | some (.int _) => none | d => d) with
  | some (.slice e), some _ => withO (sizeT P e) fun sz' => withO (bytesT P e) fun by_ => withO (zeroT P e) fun z => withO (ofV z) fun zv => need (Nat.ble 1 sz && Nat.beq (cellsOf zv).length sz && Nat.beq sz sz') (srcP s sz y fun m g =>
    (n + m) * (by_ + sz) ≤ 1000000000 ∧ n ≤ c ∧ ∃ (i' : Nat) (F : Nat → List V), withO (s.H.get i') fun o => match o with
      | .memr e' sz'' M => need (Nat.beq sz sz'' && Nat.beq e e') (
          ((n = 0 ∧ c = 0) ∨ (i' = i ∧ ∃ b N C f, p = some (b, 0) ∧ M b = some (N, C, f) ∧ n ≤ N ∧ c ≤ C ∧ ∀ q, q < n → F q = f q)) ∧ (∀ q, q < m → F (n + q) = g q) ∧
          (m = 0 → K (.asl i' p sz n c) s) ∧
          (0 < m → ∀ b c' C', n + m ≤ c' → c' ≤ C' → ((M b = none ∧ c < n + m) ∨ (i' = i ∧ p = some (b, 0) ∧ c' = c ∧ n + m ≤ c)) → ∃ M', (M' b = some (n + m, C', F) ∧ ∀ x, x ≠ b → M' x = M x) ∧ setP s i' (some (.memr e' sz'' M')) fun s => K (.asl i' (some (b, 0)) sz (n + m) c') s))
      | _ => False)
  | _, _ => False

theorem appOld {A B C D E F : Prop} (h : (A ∧ B) ∨ (C ∧ D ∧ E ∧ F)) : A ∨ (C ∧ D ∧ E) := h.imp And.left fun q => ⟨q.1, q.2.1, q.2.2.1⟩
/-- append(x, make([]T, m)...) to a slice of a family, where there is no room. -/
def appendAZP (P : Program) (s : St) (ty ty2 : TypeId) (i : Nat) (p : Option (Nat × Nat)) (sz n c : Nat) (m : Int) (K : V → St → Prop) : Prop := match P.underlying ty, P.underlying ty2 with
  | some (.slice e), some (.int _) => withO (sizeT P e) fun sz' => withO (bytesT P e) fun by_ => withO (zeroT P e) fun z => withO (ofV z) fun zv => need (Nat.ble 1 sz && Nat.beq (cellsOf zv).length sz && Nat.beq sz sz' && oneCells (cellsOf zv))
      (0 < m ∧ c < n + m.toNat ∧ (n + m.toNat) * (by_ + sz) ≤ 1000000000 ∧ ∃ (F : Nat → List V), withO (s.H.get i) fun o => match o with
      | .memr e' sz'' M => need (Nat.beq sz sz'' && Nat.beq e e') (
          (n = 0 ∨ (∃ b N C f, p = some (b, 0) ∧ M b = some (N, C, f) ∧ n ≤ N ∧ ∀ q, q < n → F q = f q)) ∧ (∀ q, q < m.toNat → F (n + q) = cellsOf zv) ∧
          ∀ b C', n + m.toNat ≤ C' → M b = none → ∃ M', (M' b = some (n + m.toNat, C', F) ∧ ∀ x, x ≠ b → M' x = M x) ∧ setP s i (some (.memr e' sz'' M')) fun s => K (.asl i (some (b, 0)) sz (n + m.toNat) C') s)
      | _ => False)
  | _, _ => False

/-- clear of a slice of a family: the row is known up to it. -/
def clearAP (P : Program) (s : St) (ty : TypeId) (i : Nat) (p : Option (Nat × Nat)) (sz n : Nat) (K : V → St → Prop) : Prop := match P.underlying ty with
  | some (.slice e) => withO (sizeT P e) fun sz' => withO (zeroT P e) fun z => withO (ofV z) fun zv => need (Nat.beq (cellsOf zv).length sz && Nat.beq sz sz' && oneCells (cellsOf zv)) (withO (s.H.get i) fun o => match o with
    | .memr e' sz'' M => need (Nat.beq sz sz'' && Nat.beq e e') (∃ M', ((n = 0 ∧ ∀ x, M' x = M x) ∨ ∃ b lo N C f f', p = some (b, lo) ∧ M b = some (N, C, f) ∧ lo ≤ N ∧ lo + n ≤ C ∧ (∀ q, q < lo → f' q = f q) ∧ M' b = some (lo, C, f') ∧ ∀ x, x ≠ b → M' x = M x) ∧ setP s i (some (.memr e' sz'' M')) fun s => K (.tup []) s)
    | _ => False)
  | _ => False

/-- copy into a slice of a family: k elements. -/
def copyB (s : St) (e : TypeId) (i : Nat) (p : Option (Nat × Nat)) (sz n k : Nat) (g : Nat → List V) (K : V → St → Prop) : Prop := withO (s.H.get i) fun o => match o with
  | .memr e' sz'' M => need (Nat.beq sz sz'' && Nat.beq e e') (∃ (N' : Nat) (f' : Nat → List V) (M' : Nat → Option (Nat × Nat × (Nat → List V))), ((k = 0 ∧ ∀ x, M' x = M x) ∨ ∃ b lo N C f, p = some (b, lo) ∧ M b = some (N, C, f) ∧ lo ≤ N ∧ lo + n ≤ C ∧ (N' ≤ N ∨ N' ≤ lo + k) ∧ (∀ q, q < N' → f' q = if q < lo then f q else if q < lo + k then g (q - lo) else f q) ∧ M' b = some (N', C, f') ∧ ∀ x, x ≠ b → M' x = M x) ∧ setP s i (some (.memr e' sz'' M')) fun s => K (.int .i64 k) s)
  | _ => False
def copyAP (P : Program) (s : St) (ty : TypeId) (i : Nat) (p : Option (Nat × Nat)) (sz n : Nat) (y : V) (K : V → St → Prop) : Prop := match P.underlying ty with
  | some (.slice e) => withO (sizeT P e) fun sz' => need (Nat.ble 1 sz && Nat.beq sz sz') (match y with
    | .asl j q sz2 m c => ∃ k, k = Nat.min m n ∧ srcP s sz (.asl j q sz2 k c) fun k g => copyB s e i p sz n k g K
    | .sl j lo sz2 m full => m ≤ n ∧ srcP s sz (.sl j lo sz2 m full) fun k g => copyB s e i p sz n k g K
    | _ => False)
  | _ => False

/-- clear of a slice of a row: the row is known up to it. -/
def clearP (P : Program) (s : St) (ty : TypeId) (i lo sz n : Nat) (K : V → St → Prop) : Prop := match P.underlying ty with
  | some (.slice e) => withO (sizeT P e) fun sz' => withO (zeroT P e) fun z => withO (ofV z) fun zv => need (Nat.beq (cellsOf zv).length sz && Nat.beq sz sz' && oneCells (cellsOf zv)) (withO (s.H.get i) fun o => match o with
    | .row N f e' sz'' => need (Nat.beq sz sz'' && Nat.beq e e') (lo + n ≤ N ∧ setP s i (some (.row lo f e' sz'')) fun s => K (.tup []) s)
    | _ => False)
  | _ => False

section
variable {P : Program} {ρ ρ' : Ren} {s s' : St} {w w' : World} {o : Oper} {a act : Act} {t : Tr V}

theorem nilEq_cz {v u : V} (h : nilEq v u) {x : Value} (hx : cz ρ v = some x) : cz ρ u = some x := by
  unfold nilEq at h
  split at h
  · simpa [cz] using hx
  · subst h; exact hx
theorem nilEqL_cz : ∀ {l m : List V} {x : List Value}, nilEqL l m → czl ρ l = some x → czl ρ m = some x
  | [], [], _, _, h => h
  | [], _ :: _, _, h, _ => h.elim
  | _ :: _, [], _, h, _ => h.elim
  | v :: l, u :: m, x, ⟨h1, h2⟩, h => by
    obtain ⟨v', m', g1, g2, rfl⟩ := czl_cons.1 h
    exact czl_cons.2 ⟨v', m', nilEq_cz h1 g1, nilEqL_cz h2 g2, rfl⟩

/-- An object turns, and gets blocks more. -/
theorem Step.gain (h : Rel ρ s w) {i : Nat} {o0 o : SObj} (hi : s.H.get i = some o0) {H : Tr SObj} (hH : ∀ m, H.get m = if m = i then some o else s.H.get m) {F : Nat → Prop} (ho : OR (ρ.foot i F) w' i o)
    (hF : ∀ k, F k → ρ.fp i k ∨ (w.heap.size ≤ k ∧ k < w'.heap.size)) (hk : ∀ k, k < w.heap.size → ¬ ρ.fp i k → w'.heap[k]? = w.heap[k]?) (hsz : w.heap.size ≤ w'.heap.size) (h1 : w'.os = w.os) (h2 : w'.tape = w.tape) (h3 : w'.output = w.output)
    (hdr : w.drawn ≤ w'.drawn := by first | exact Nat.le_refl _ | exact Nat.le_succ _ | assumption) : Step md s.n s ρ w ⟨s.n, H⟩ (ρ.foot i F) w' := by
  have hfi : (ρ.foot i F).fp i = F := if_pos rfl
  have hfn : ∀ {j}, j ≠ i → (ρ.foot i F).fp j = ρ.fp j := fun h => if_neg h
  have hg : ∀ j oj, H.get j = some oj → (j = i ∧ oj = o) ∨ (j ≠ i ∧ s.H.get j = some oj) := fun j oj hj => by
    rw [hH] at hj
    split at hj
    · rename_i e; cases hj; exact .inl ⟨e, rfl⟩
    · exact .inr ⟨by assumption, hj⟩
  have hag : ∀ j, Agree ρ (ρ.foot i F) j := fun _ => ⟨rfl, rfl, rfl, rfl, rfl⟩
  have hother : ∀ j oj k, j ≠ i → s.H.get j = some oj → ρ.fp j k → w'.heap[k]? = w.heap[k]? := fun j oj k hn hj hf => hk k (h.flt j oj k hj hf) fun g => hn (h.dis j i oj o0 k hj hi hf g)
  refine ⟨fun j _ => hag j, ⟨fun j oj hj => ?_, fun j k oj ok x hj hk' hx hy => ?_, fun j oj k hj hf => ?_, h.fresh, fun j oj hj => ?_, h.sig, fun j b hb => Nat.lt_of_lt_of_le (h.blt j b hb) hsz⟩, fun k hk' hn => hk k hk' (hn i o0 hi), fun j oj k hj hf => ?_, hsz, h1, h2, h3, by show min _ _ ≤ s.n; omega, fun _ => hdr⟩
  · rcases hg j oj hj with ⟨rfl, rfl⟩ | ⟨hn, hj⟩
    · exact ho
    · exact ((h.obj j oj hj).keep fun k hf => hother j oj k hn hj hf).ext (Ext.foot ρ i F) (hag j) (hfn hn)
  · rcases hg j oj hj with ⟨rfl, rfl⟩ | ⟨hn, hj⟩ <;> rcases hg k ok hk' with ⟨rfl, rfl⟩ | ⟨hn', hk'⟩
    · rfl
    · rw [hfi] at hx
      rw [hfn hn'] at hy
      rcases hF x hx with g | g
      · exact absurd (h.dis k j ok o0 x hk' hi hy g) hn'
      · have := h.flt k ok x hk' hy; omega
    · rw [hfi] at hy
      rw [hfn hn] at hx
      rcases hF x hy with g | g
      · exact absurd (h.dis j k oj o0 x hj hi hx g) hn
      · have := h.flt j oj x hj hx; omega
    · rw [hfn hn] at hx
      rw [hfn hn'] at hy
      exact h.dis j k oj ok x hj hk' hx hy
  · rcases hg j oj hj with ⟨rfl, rfl⟩ | ⟨hn, hj⟩
    · rw [hfi] at hf
      rcases hF k hf with g | g
      · exact Nat.lt_of_lt_of_le (h.flt j o0 k hi g) hsz
      · exact g.2
    · rw [hfn hn] at hf
      exact Nat.lt_of_lt_of_le (h.flt j oj k hj hf) hsz
  · rcases hg j oj hj with ⟨rfl, rfl⟩ | ⟨hn, hj⟩
    · exact h.live j o0 hi
    · exact h.live j oj hj
  · rcases hg j oj hj with ⟨rfl, rfl⟩ | ⟨hn, hj⟩
    · rw [hfi] at hf
      rcases hF k hf with g | g
      · exact .inr ⟨j, o0, hi, g⟩
      · exact .inl g.1
    · rw [hfn hn] at hf
      exact .inr ⟨j, oj, hj, hf⟩

theorem allocC_ok {i : Nat} {e : TypeId} {l : List V} {K : V → St → Prop} (h : allocC s i e l K) (hr : Rel ρ s w) {l' : List Value} (hl : czl ρ l = some l') :
    ∃ b s' ρ', K (.ap i b 0) s' ∧ Step md s.n s ρ w s' ρ' (w.alloc (.cells l'.toArray e)) ∧ b = w.heap.size := by
  unfold allocC at h
  replace h := withO_ok h; obtain ⟨ob, ho, h⟩ := h
  split at h
  · rename_i T M
    replace h := need_ok h; obtain ⟨hb, h⟩ := h
    obtain rfl : T = e := by simpa using hb
    have hob := hr.obj i _ ho
    have hnone : M w.heap.size = none := by
      cases hM : M w.heap.size with
      | none => rfl
      | some l0 => have := hr.flt i _ _ ho (hob _ _ hM).1; omega
    obtain ⟨M', ⟨hM1, hM2⟩, h⟩ := h w.heap.size hnone
    obtain ⟨H, hH, h⟩ := setP_ok h
    have hs2 : (w.alloc (.cells l'.toArray T)).heap.size = w.heap.size + 1 := World.size_alloc ..
    have hold : ∀ k, k < w.heap.size → (w.alloc (.cells l'.toArray T)).heap[k]? = w.heap[k]? := fun k hk => Below.heap_alloc w _ k hk
    refine ⟨_, _, _, h, Step.gain (F := fun k => ρ.fp i k ∨ k = w.heap.size) hr ho hH (fun x lx hx => ?_) (fun k hk => ?_) (fun k hk _ => hold k hk) (by omega) rfl rfl rfl, rfl⟩
    · have ef : (ρ.foot i fun k => ρ.fp i k ∨ k = w.heap.size).fp i = fun k => ρ.fp i k ∨ k = w.heap.size := if_pos rfl
      rw [ef]
      by_cases e : x = w.heap.size
      · subst e
        rw [hM1] at hx
        cases hx
        exact ⟨.inr rfl, l', czl_ext (Ext.foot ρ i _) _ hl, heap_alloc_new w _⟩
      · rw [hM2 x e] at hx
        obtain ⟨k1, l2, k2, k3⟩ := hob x lx hx
        exact ⟨.inl k1, l2, czl_ext (Ext.foot ρ i _) _ k2, (hold x (hr.flt i _ _ ho k1)).trans k3⟩
    · rcases hk with hk | rfl
      · exact .inl hk
      · exact .inr ⟨Nat.le_refl _, by omega⟩
  · exact h.elim
theorem newRowP_ok {n : Nat} {f : Nat → List V} {e : TypeId} {sz : Nat} {K : V → St → Prop} (h : newRowP s n f e sz K) (hr : Rel ρ s w) {l rest : List Value} (hrow : czl ρ (rowL f n) = some l) (hok : RowOk n f sz) (hpos : 1 ≤ sz) {C : Nat} (hC : n ≤ C) (hlen : (l ++ rest).length = C * sz) {d : Nat} (hd : w.drawn ≤ d) :
    ∃ v s' ρ', K v s' ∧ Step md s.n s ρ w s' ρ' { w.alloc (.cells (l ++ rest).toArray e) with drawn := d } ∧ cz ρ' v = some (.slice (some ⟨w.heap.size, 0, none⟩) n C) := by
  unfold newRowP at h
  split at h
  rename_i k H
  have named : (newP ⟨k, H⟩ (.row n f e sz) fun b s => K (.sl b 0 sz n false) s) → ∃ v s' ρ', K v s' ∧ Step md k ⟨k, H⟩ ρ w s' ρ' { w.alloc (.cells (l ++ rest).toArray e) with drawn := d } ∧ cz ρ' v = some (.slice (some ⟨w.heap.size, 0, none⟩) n C) := fun h => by
    obtain ⟨H', hH, h⟩ := newP_ok h
    exact ⟨_, _, _, h, Step.row hr hrow hok hpos (tail := rest) (m := C) hlen hH (d := d), by simp [cz, Ren.add, hC]⟩
  split at h
  · exact named h
  · rcases h with h | ⟨i, h⟩
    · exact named h
    · unfold famRowC at h
      replace h := withO_ok h; obtain ⟨ob, ho, h⟩ := h
      split at h
      · rename_i e' sz' M
        replace h := need_ok h; obtain ⟨hb, h⟩ := h
        simp only [Bool.and_eq_true] at hb
        obtain rfl : e = e' := by simpa using hb.1
        obtain rfl : sz = sz' := by simpa using hb.2
        have hob := hr.obj i _ ho
        have hnone : M w.heap.size = none := by
          cases hM : M w.heap.size with
          | none => rfl
          | some x0 => obtain ⟨N0, C0, f0⟩ := x0; have := hr.flt i _ _ ho (hob _ _ _ _ hM).1; omega
        obtain ⟨M', f', ⟨hM1, hf, hM2⟩, h⟩ := h w.heap.size C hC hnone
        obtain ⟨H', hH, h⟩ := setP_ok h
        have hs2 : (w.alloc (.cells (l ++ rest).toArray e)).heap.size = w.heap.size + 1 := World.size_alloc ..
        have hold' : ∀ k, k < w.heap.size → (w.alloc (.cells (l ++ rest).toArray e)).heap[k]? = w.heap[k]? := fun k hk => Below.heap_alloc w _ k hk
        refine ⟨_, _, _, h, Step.gain (F := fun k => ρ.fp i k ∨ k = w.heap.size) (w' := { w.alloc (.cells (l ++ rest).toArray e) with drawn := d }) hr ho hH (fun x N2 C2 f2 hx => ?_) (fun k hk => ?_) (fun k hk _ => hold' k hk) (by show w.heap.size ≤ (w.alloc _).heap.size; omega) rfl rfl rfl, by simp [cz]⟩
        · have ef : (ρ.foot i fun k => ρ.fp i k ∨ k = w.heap.size).fp i = fun k => ρ.fp i k ∨ k = w.heap.size := if_pos rfl
          rw [ef]
          by_cases ex : x = w.heap.size
          · subst ex
            rw [hM1] at hx
            cases hx
            exact ⟨.inr rfl, hpos, l, rest, czl_ext (Ext.foot ρ i _) _ (by rw [rowL_congr hf]; exact hrow), heap_alloc_new w _, hlen, hok.congr hf⟩
          · rw [hM2 x ex] at hx
            obtain ⟨a1, a2, l2, tail2, a3, a4, a5⟩ := hob x N2 C2 f2 hx
            exact ⟨.inl a1, a2, l2, tail2, czl_ext (Ext.foot ρ i _) _ a3, (hold' x (hr.flt i _ _ ho a1)).trans a4, a5⟩
        · rcases hk with hk | rfl
          · exact .inl hk
          · exact .inr ⟨Nat.le_refl _, by show w.heap.size < (w.alloc _).heap.size; omega⟩
      · exact h.elim
theorem allocP_ok {e : TypeId} {l : List V} {K : V → St → Prop} (h : allocP s e l K) (hr : Rel ρ s w) {l' : List Value} (hl : czl ρ l = some l') :
    ∃ v s' ρ', K v s' ∧ Step md s.n s ρ w s' ρ' (w.alloc (.cells l'.toArray e)) ∧ cz ρ' v = some (.pointer (some ⟨w.heap.size, 0, none⟩)) := by
  unfold allocP at h
  split at h
  rename_i n H
  split at h
  · obtain ⟨H', hH, h⟩ := newP_ok h
    exact ⟨_, _, _, h, Step.cells hr hl hH (d := w.drawn), cz_ptr_new _⟩
  · obtain ⟨i, l2, h1, h⟩ := h
    obtain ⟨b, s', ρ', g1, g2, rfl⟩ := allocC_ok (md := md) h hr (nilEqL_cz h1 hl)
    exact ⟨_, s', ρ', g1, g2, rfl⟩

theorem appendAP_ok {ty ty2 T : TypeId} {i : Nat} {p : Option (Nat × Nat)} {sz n c : Nat} {y : V} {K : V → St → Prop} (h : appendAP P s ty ty2 i p sz n c y K) (hr : Rel ρ s w) {x' y' : Value} (hx : cz ρ (.asl i p sz n c) = some x') (hy : cz ρ y = some y') :
    ∃ v s' ρ' w' v', K v s' ∧ Step md s.n s ρ w s' ρ' w' ∧ cz ρ' v = some v' ∧ (Builtin.append_ #[ty, ty2] T #[x', y']).run P w = .ok v' w' := by
  unfold appendAP at h
  split at h
  · rename_i e d2 hd hd2
    have h2 : ∃ d2, P.underlying ty2 = some d2 ∧ ∀ k, d2 ≠ .int k := by
      revert hd2
      cases hq : P.underlying ty2 with
      | none => intro hd2; cases hd2
      | some q => intro hd2; exact ⟨q, rfl, fun k e => by subst e; cases hd2⟩
    replace h := withO_ok h; obtain ⟨sz', hs, h⟩ := h
    replace h := withO_ok h; obtain ⟨bytes, hby, h⟩ := h
    replace h := withO_ok h; obtain ⟨z, hz, h⟩ := h
    replace h := withO_ok h; obtain ⟨zv, hzv, h⟩ := h
    replace h := need_ok h; obtain ⟨hb, h⟩ := h
    simp only [Bool.and_eq_true] at hb
    have hpos : 1 ≤ sz := Nat.le_of_ble_eq_true hb.1.1
    have hzl : (cellsOf zv).length = sz := by simpa using hb.1.2
    obtain rfl : sz = sz' := by simpa using hb.2
    replace h := srcP_ok (P := P) h; obtain ⟨m, g, h, hsrc⟩ := h
    obtain ⟨hbig, hnc, i', F, h⟩ := h
    replace h := withO_ok h; obtain ⟨ob, ho, h⟩ := h
    split at h
    · rename_i e' sz'' M
      replace h := need_ok h; obtain ⟨hb2, hold, hFm, h0, h1⟩ := h
      simp only [Bool.and_eq_true] at hb2
      obtain rfl : sz = sz'' := by simpa using hb2.1
      obtain rfl : e = e' := by simpa using hb2.2
      obtain ⟨new, k1, k2, k3, k4, k5, k6⟩ := hsrc hr hy
      simp only [cz, Option.some.injEq] at hx
      subst hx
      have hob := hr.obj i' _ ho
      have hzs : z.cells.size = sz := by
        have := czl_length (czl_cellsOf hr.sig (cz_ofV (ρ := ρ) hzv))
        simpa [hzl] using this
      by_cases hm : m = 0
      · subst hm
        have hn0 : new = [] := List.eq_nil_of_length_eq_zero (by rw [k3, Nat.zero_mul])
        subst hn0
        refine ⟨_, s, ρ, w, _, h0 rfl, Step.refl hr, rfl, ?_⟩
        rw [run_append_eq (T := T) hd h2 hs (k4 w) (k5 w rfl) (by omega)]
        cases p with
        | none => rfl
        | some q =>
          simp only [Option.map_some, run_storeNil]
          rfl
      · have hm : 0 < m := Nat.pos_of_ne_zero hm
        -- the old elements
        obtain ⟨old, q1, q2, q3, q4, q5⟩ : ∃ old, czl ρ (rowL F n) = some old ∧ RowOk n F sz ∧ old.length = n * sz ∧ (∀ W : World, W.heap = w.heap → (Builtin.firstCells sz n (.slice (p.map fun q => (⟨q.1, q.2 * sz, none⟩ : Addr)) n c)).run P W = .ok old.toArray W) ∧
            (n = 0 ∧ c = 0 ∨ i' = i ∧ ∃ b N C f rest, p = some (b, 0) ∧ M b = some (N, C, f) ∧ n ≤ N ∧ c ≤ C ∧ w.heap[b]? = some (.cells (old ++ rest).toArray e (0, 0)) ∧ (old ++ rest).length = C * sz ∧ ρ.fp i' b) := by
          rcases hold with ⟨rfl, rfl⟩ | ⟨rfl, b, N, C, f, rfl, hM, hnN, hcC, hF⟩
          · refine ⟨[], by simp [rowL, czl], fun j hj => by omega, by simp, fun W _ => ?_, .inl ⟨rfl, rfl⟩⟩
            cases p with
            | none => rfl
            | some q => exact run_none W _
          · obtain ⟨g0, _, l', tail, g2, g3, g5, g6⟩ := hob b N C f hM
            obtain ⟨A, B, C', rfl, hA, hB, hA2, hB2⟩ := row_cells (lo := 0) (n := n) g6 g2 (by omega)
            obtain rfl : A = [] := List.eq_nil_of_length_eq_zero (by omega)
            have hBF : czl ρ (rowL F n) = some B := by
              rw [rowL_congr (g := fun q => f (0 + q)) fun j hj => by rw [hF j hj, Nat.zero_add]]
              exact hB2
            have hok : RowOk n F sz := fun j hj => by rw [hF j hj]; exact g6 j (by omega)
            refine ⟨B, hBF, hok, hB, fun W hW => ?_, .inr ⟨rfl, b, N, C, f, C' ++ tail, rfl, hM, hnN, hcC, by rw [g3]; simp, by rw [← g5]; simp, g0⟩⟩
            have := run_cells (P := P) (w := w) (b := b) (q := 0 * sz) (A := []) (B := B) (C := C' ++ tail) (e := e) (fr := (0, 0)) (by rw [g3]; simp) (by simp) hW (m := n * sz) hB.symm
            exact this
        have hrow : czl ρ (rowL F (n + m)) = some (old ++ new) := by
          rw [rowL_split]
          refine czl_append q1 ?_
          rw [rowL_congr hFm]
          exact k1
        have hokF : RowOk (n + m) F sz := fun j hj => by
          by_cases e : j < n
          · exact q2 j e
          · have := hFm (j - n) (by omega)
            rw [show n + (j - n) = j by omega] at this
            rw [this]
            exact k2 (j - n) (by omega)
        by_cases hfit : n + m ≤ c
        · rcases q5 with ⟨_, rfl⟩ | ⟨rfl, b, N, C, f, rest, rfl, hM, hnN, hcC, hbk, hlen, hfp⟩
          · omega
          obtain ⟨M', ⟨hM1, hM2⟩, h⟩ := h1 hm b c C hfit hcC (.inr ⟨rfl, rfl, rfl, hfit⟩)
          obtain ⟨H, hH, h⟩ := setP_ok h
          have hroom : n * sz + m * sz ≤ C * sz := by rw [← Nat.add_mul]; exact Nat.mul_le_mul_right _ (by omega)
          have hbk' : w.heap[b]? = some (.cells (old ++ rest).toArray e (0, 0)) := hbk
          have hst := run_storeCells_at (P := P) b (n * sz) e new 0 _ w hbk' (by simp only [List.size_toArray]; omega) k6
          simp only [Nat.add_zero] at hst
          refine ⟨_, _, ρ, w.setRow b (((old ++ rest).take (n * sz) ++ new ++ (old ++ rest).drop (n * sz + new.length)).toArray), .slice (some ⟨b, 0 * sz, none⟩) (n + m) c, h, Step.set hr ho hH (fun x N2 C2 f2 hx => ?_) (fun k hk => setRow_other w b k _ (fun e => hk (e ▸ hfp))) (setRow_size w b _) rfl rfl rfl, rfl, ?_⟩
          · by_cases ex : x = b
            · subst ex
              rw [hM1] at hx
              cases hx
              refine ⟨hfp, hpos, old ++ new, (old ++ rest).drop (n * sz + new.length), hrow, ?_, ?_, hokF⟩
              · rw [setRow_heap w x _ _ e _ hbk']
                congr 3
                rw [← q3, List.take_left' rfl]
              · rw [List.length_append, List.length_append, List.length_drop, hlen, q3, k3]
                omega
            · rw [hM2 x ex] at hx
              obtain ⟨a1, a2, l2, tail2, a3, a4, a5⟩ := hob x N2 C2 f2 hx
              exact ⟨a1, a2, l2, tail2, a3, (setRow_other w b x _ ex).trans a4, a5⟩
          · rw [run_append_eq (T := T) hd h2 hs (k4 w) (k5 w rfl) hfit]
            simp only [Option.map_some, add_off, Nat.zero_mul, Nat.zero_add, hst, Result.andThen_ok]
        · obtain ⟨newCap, rest, g1, g2, g3⟩ := run_append_more (T := T) hd h2 hs hby hz (k4 w) (show c < n + m by omega) hbig hpos hzs q4 k5
          have hnone : M w.heap.size = none := by
            cases hM : M w.heap.size with
            | none => rfl
            | some x0 => obtain ⟨N0, C0, f0⟩ := x0; have := hr.flt i' _ _ ho (hob _ _ _ _ hM).1; omega
          obtain ⟨M', ⟨hM1, hM2⟩, h⟩ := h1 hm w.heap.size newCap newCap g1 (Nat.le_refl _) (.inl ⟨hnone, by omega⟩)
          obtain ⟨H, hH, h⟩ := setP_ok h
          have hs2 : (w.alloc (.cells (old ++ new ++ rest).toArray e)).heap.size = w.heap.size + 1 := World.size_alloc ..
          have hold' : ∀ k, k < w.heap.size → (w.alloc (.cells (old ++ new ++ rest).toArray e)).heap[k]? = w.heap[k]? := fun k hk => Below.heap_alloc w _ k hk
          refine ⟨_, _, _, _, .slice (some ⟨w.heap.size, 0, none⟩) (n + m) newCap, h, Step.gain (F := fun k => ρ.fp i' k ∨ k = w.heap.size) (w' := { w.alloc (.cells (old ++ new ++ rest).toArray e) with drawn := w.drawn + 1 }) hr ho hH (fun x N2 C2 f2 hx => ?_) (fun k hk => ?_) (fun k hk _ => hold' k hk) (by show w.heap.size ≤ (w.alloc _).heap.size; omega) rfl rfl rfl, ?_, g3⟩
          · have ef : (ρ.foot i' fun k => ρ.fp i' k ∨ k = w.heap.size).fp i' = fun k => ρ.fp i' k ∨ k = w.heap.size := if_pos rfl
            rw [ef]
            by_cases ex : x = w.heap.size
            · subst ex
              rw [hM1] at hx
              cases hx
              refine ⟨.inr rfl, hpos, old ++ new, rest, czl_ext (Ext.foot ρ i' _) _ hrow, heap_alloc_new w _, ?_, hokF⟩
              rw [List.length_append, List.length_append, q3, k3, g2, ← Nat.add_mul, ← Nat.add_mul]
              congr 1
              omega
            · rw [hM2 x ex] at hx
              obtain ⟨a1, a2, l2, tail2, a3, a4, a5⟩ := hob x N2 C2 f2 hx
              exact ⟨.inl a1, a2, l2, tail2, czl_ext (Ext.foot ρ i' _) _ a3, (hold' x (hr.flt i' _ _ ho a1)).trans a4, a5⟩
          · rcases hk with hk | rfl
            · exact .inl hk
            · exact .inr ⟨Nat.le_refl _, by show w.heap.size < (w.alloc _).heap.size; omega⟩
          · simp [cz]
    · exact h.elim
  · exact h.elim

theorem appendAZP_ok {ty ty2 T : TypeId} {i : Nat} {p : Option (Nat × Nat)} {sz n c : Nat} {m : Int} {K : V → St → Prop} (h : appendAZP P s ty ty2 i p sz n c m K) (hr : Rel ρ s w) {x' : Value} (hx : cz ρ (.asl i p sz n c) = some x') :
    ∃ v s' ρ' w' v', K v s' ∧ Step md s.n s ρ w s' ρ' w' ∧ cz ρ' v = some v' ∧ (Builtin.append_ #[ty, ty2] T #[x', .int .i64 m]).run P w = .ok v' w' := by
  unfold appendAZP at h
  split at h
  · rename_i e kk hd h2
    replace h := withO_ok h; obtain ⟨sz', hs, h⟩ := h
    replace h := withO_ok h; obtain ⟨bytes, hby, h⟩ := h
    replace h := withO_ok h; obtain ⟨z, hz, h⟩ := h
    replace h := withO_ok h; obtain ⟨zv, hzv, h⟩ := h
    replace h := need_ok h; obtain ⟨hb, hm, hcc, hbig, F, h⟩ := h
    simp only [Bool.and_eq_true] at hb
    have hpos : 1 ≤ sz := Nat.le_of_ble_eq_true hb.1.1.1
    have hzl : (cellsOf zv).length = sz := by simpa using hb.1.1.2
    obtain rfl : sz = sz' := by simpa using hb.1.2
    have hone : oneCells (cellsOf zv) = true := hb.2
    replace h := withO_ok h; obtain ⟨ob, ho, h⟩ := h
    split at h
    · rename_i e' sz'' M
      replace h := need_ok h; obtain ⟨hb2, hold, hFm, h⟩ := h
      simp only [Bool.and_eq_true] at hb2
      obtain rfl : sz = sz'' := by simpa using hb2.1
      obtain rfl : e = e' := by simpa using hb2.2
      simp only [cz, Option.some.injEq] at hx
      subst hx
      have hob := hr.obj i _ ho
      have hcz := czl_cellsOf hr.sig (cz_ofV (ρ := ρ) hzv)
      have hzs : z.cells.size = sz := by
        have := czl_length hcz
        simpa [hzl] using this
      obtain ⟨k, rfl⟩ : ∃ k : Nat, m = k := ⟨m.toNat, (Int.toNat_of_nonneg (Int.le_of_lt hm)).symm⟩
      simp only [Int.toNat_natCast] at hbig hcc hFm h
      have hk : 1 ≤ k := by omega
      obtain ⟨old, q1, q2, q3, q4⟩ : ∃ old, czl ρ (rowL F n) = some old ∧ RowOk n F sz ∧ old.length = n * sz ∧ (∀ W : World, W.heap = w.heap → (Builtin.firstCells sz n (.slice (p.map fun q => (⟨q.1, q.2 * sz, none⟩ : Addr)) n c)).run P W = .ok old.toArray W) := by
        rcases hold with rfl | ⟨b, N, C, f, rfl, hM, hnN, hF⟩
        · refine ⟨[], by simp [rowL, czl], fun j hj => by omega, by simp, fun W _ => ?_⟩
          cases p with
          | none => rfl
          | some q => exact run_none W _
        · obtain ⟨g0, _, l', tail, g2, g3, g5, g6⟩ := hob b N C f hM
          obtain ⟨A, B, C', rfl, hA, hB, hA2, hB2⟩ := row_cells (lo := 0) (n := n) g6 g2 (by omega)
          obtain rfl : A = [] := List.eq_nil_of_length_eq_zero (by omega)
          have hBF : czl ρ (rowL F n) = some B := by
            rw [rowL_congr (g := fun q => f (0 + q)) fun j hj => by rw [hF j hj, Nat.zero_add]]
            exact hB2
          have hok : RowOk n F sz := fun j hj => by rw [hF j hj]; exact g6 j (by omega)
          refine ⟨B, hBF, hok, hB, fun W hW => ?_⟩
          have := run_cells (P := P) (w := w) (b := b) (q := 0 * sz) (A := []) (B := B) (C := C' ++ tail) (e := e) (fr := (0, 0)) (by rw [g3]; simp) (by simp) hW (m := n * sz) hB.symm
          exact this
      obtain ⟨new, hnew⟩ : ∃ new, new = (List.replicate k z.cells.toList).flatten := ⟨_, rfl⟩
      have hnl : new.length = k * sz := by rw [hnew]; simp [hzs]
      have hnc : czl ρ (rowL (fun q => F (n + q)) k) = some new := by
        rw [rowL_congr (g := fun _ => cellsOf zv) hFm, rowL_repZ, hnew]
        exact czl_repZ hcz k
      have hrow : czl ρ (rowL F (n + k)) = some (old ++ new) := by
        rw [rowL_split]
        exact czl_append q1 hnc
      have hokF : RowOk (n + k) F sz := fun j hj => by
        by_cases e : j < n
        · exact q2 j e
        · have := hFm (j - n) (by omega)
          rw [show n + (j - n) = j by omega] at this
          rw [this]
          exact ⟨hzl, hone⟩
      obtain ⟨newCap, rest, g1, g2, g3⟩ := run_append_zeros_more (T := T) (w := w) (m := k) hd h2 hs hby hz hk hcc q4 hbig hpos hzs
      rw [← hnew] at g3
      have hnone : M w.heap.size = none := by
        cases hM : M w.heap.size with
        | none => rfl
        | some x0 => obtain ⟨N0, C0, f0⟩ := x0; have := hr.flt i _ _ ho (hob _ _ _ _ hM).1; omega
      obtain ⟨M', ⟨hM1, hM2⟩, h⟩ := h w.heap.size newCap g1 hnone
      obtain ⟨H, hH, h⟩ := setP_ok h
      have hs2 : (w.alloc (.cells (old ++ new ++ rest).toArray e)).heap.size = w.heap.size + 1 := World.size_alloc ..
      have hold' : ∀ k, k < w.heap.size → (w.alloc (.cells (old ++ new ++ rest).toArray e)).heap[k]? = w.heap[k]? := fun k hk => Below.heap_alloc w _ k hk
      refine ⟨_, _, _, _, .slice (some ⟨w.heap.size, 0, none⟩) (n + k) newCap, h, Step.gain (F := fun k => ρ.fp i k ∨ k = w.heap.size) (w' := { w.alloc (.cells (old ++ new ++ rest).toArray e) with drawn := w.drawn + 1 }) hr ho hH (fun x N2 C2 f2 hx => ?_) (fun k hk => ?_) (fun k hk _ => hold' k hk) (by show w.heap.size ≤ (w.alloc _).heap.size; omega) rfl rfl rfl, ?_, g3⟩
      · have ef : (ρ.foot i fun k => ρ.fp i k ∨ k = w.heap.size).fp i = fun k => ρ.fp i k ∨ k = w.heap.size := if_pos rfl
        rw [ef]
        by_cases ex : x = w.heap.size
        · subst ex
          rw [hM1] at hx
          cases hx
          refine ⟨.inr rfl, hpos, old ++ new, rest, czl_ext (Ext.foot ρ i _) _ hrow, heap_alloc_new w _, ?_, hokF⟩
          rw [List.length_append, List.length_append, q3, hnl, g2, ← Nat.add_mul, ← Nat.add_mul]
          congr 1
          omega
        · rw [hM2 x ex] at hx
          obtain ⟨a1, a2, l2, tail2, a3, a4, a5⟩ := hob x N2 C2 f2 hx
          exact ⟨.inl a1, a2, l2, tail2, czl_ext (Ext.foot ρ i _) _ a3, (hold' x (hr.flt i _ _ ho a1)).trans a4, a5⟩
      · rcases hk with hk | rfl
        · exact .inl hk
        · exact .inr ⟨Nat.le_refl _, by show w.heap.size < (w.alloc _).heap.size; omega⟩
      · simp [cz]
    · exact h.elim
  · exact h.elim

theorem zeros_one {z : Array Value} (h : ∀ v ∈ z.toList, v.oneCell' = true) : ∀ n, ∀ v ∈ (Builtin.zeroCells z n).toList, v.oneCell' = true := fun n v hv => by
  unfold Builtin.zeroCells at hv
  rw [Array.toList_map, List.mem_map] at hv
  obtain ⟨i, hi, rfl⟩ := hv
  have hi : i < n * z.size := by simpa using hi
  have hz : 0 < z.size := by
    rcases Nat.eq_zero_or_pos z.size with g | g
    · rw [g, Nat.mul_zero] at hi; omega
    · exact g
  have hlt := Nat.mod_lt i hz
  rw [getElem!_pos z _ hlt]
  exact h _ (by simp)
theorem clearAP_ok {ty T : TypeId} {i : Nat} {p : Option (Nat × Nat)} {sz n c : Nat} {K : V → St → Prop} {ts : Array TypeId} (hts : ts[0]? = some ty) (h : clearAP P s ty i p sz n K) (hr : Rel ρ s w) {x' : Value} (hx : cz ρ (.asl i p sz n c) = some x') :
    ∃ s' w', K (.tup []) s' ∧ Step md s.n s ρ w s' ρ w' ∧ (Builtin.clear_ ts T #[x']).run P w = .ok (.tuple #[]) w' := by
  unfold clearAP at h
  split at h
  · rename_i e hd
    replace h := withO_ok h; obtain ⟨sz', hs, h⟩ := h
    replace h := withO_ok h; obtain ⟨z, hz, h⟩ := h
    replace h := withO_ok h; obtain ⟨zv, hzv, h⟩ := h
    replace h := need_ok h; obtain ⟨hb, h⟩ := h
    simp only [Bool.and_eq_true] at hb
    have hzl : (cellsOf zv).length = sz := by simpa using hb.1.1
    obtain rfl : sz = sz' := by simpa using hb.1.2
    replace h := withO_ok h; obtain ⟨ob, ho, h⟩ := h
    split at h
    · rename_i e' sz'' M
      replace h := need_ok h; obtain ⟨hb2, M', hM', h⟩ := h
      simp only [Bool.and_eq_true] at hb2
      obtain rfl : sz = sz'' := by simpa using hb2.1
      obtain rfl : e = e' := by simpa using hb2.2
      obtain ⟨H, hH, h⟩ := setP_ok h
      simp only [cz, Option.some.injEq] at hx
      subst hx
      have hob := hr.obj i _ ho
      have hzc := czl_cellsOf hr.sig (cz_ofV (ρ := ρ) hzv)
      have hzs : z.cells.size = sz := by have := czl_length hzc; simpa [hzl] using this
      have hzo := czl_ones hr.sig hzc hb.2
      rcases hM' with ⟨rfl, hM'⟩ | ⟨b, lo, N, C, f, f', rfl, hM, hlN, hlC, hff, hM1, hM2⟩
      · have hob' : OR ρ w i (.memr e sz M') := fun b N C f hb => hob b N C f (by rw [← hM' b]; exact hb)
        refine ⟨_, w, h, Step.set hr ho hH hob' (fun _ _ => rfl) rfl rfl rfl rfl, ?_⟩
        unfold Builtin.clear_
        cases p <;> simp [hts, run_underlying hd]
      · obtain ⟨g0, gsz, l', tail, g2, g3, g5, g6⟩ := hob b N C f hM
        obtain ⟨A, B, C', rfl, hA, hB, hA2, _⟩ := row_cells (lo := lo) (n := N - lo) g6 g2 (by omega)
        rw [← rowL_congr hff] at hA2
        have g6' : RowOk lo f' sz := fun q hq => by rw [hff q hq]; exact g6 q (by omega)
        have hzl2 : (Builtin.zeroCells z.cells n).toList.length = n * sz := by simp [Builtin.zeroCells, hzs]
        have hroom : lo * sz + n * sz ≤ C * sz := by rw [← Nat.add_mul]; exact Nat.mul_le_mul_right _ hlC
        have hst := run_storeCells_at (P := P) b (lo * sz) e (Builtin.zeroCells z.cells n).toList 0 (A ++ B ++ C' ++ tail).toArray w g3 (by simp only [List.size_toArray]; omega) (zeros_one hzo n)
        simp only [Nat.add_zero] at hst
        by_cases hn : n = 0
        · subst hn
          have hob' : OR ρ w i (.memr e sz M') := fun x N2 C2 f2 hx => by
            by_cases ex : x = b
            · subst ex
              rw [hM1] at hx
              cases hx
              exact ⟨g0, gsz, A, B ++ C' ++ tail, hA2, by rw [g3]; simp, by rw [← g5]; simp, g6'⟩
            · rw [hM2 x ex] at hx
              exact hob x N2 C2 f2 hx
          refine ⟨_, w, h, Step.set hr ho hH hob' (fun _ _ => rfl) rfl rfl rfl rfl, ?_⟩
          unfold Builtin.clear_
          simp [hts, run_underlying hd]
        · refine ⟨_, w.setRow b (((A ++ B ++ C' ++ tail).take (lo * sz) ++ (Builtin.zeroCells z.cells n).toList ++ (A ++ B ++ C' ++ tail).drop (lo * sz + (Builtin.zeroCells z.cells n).toList.length)).toArray), h, Step.set hr ho hH (fun x N2 C2 f2 hx => ?_) (fun k hk => setRow_other w b k _ (fun e => hk (e ▸ g0))) (setRow_size w b _) rfl rfl rfl, ?_⟩
          · by_cases ex : x = b
            · subst ex
              rw [hM1] at hx
              cases hx
              refine ⟨g0, gsz, A, (Builtin.zeroCells z.cells n).toList ++ (A ++ B ++ C' ++ tail).drop (lo * sz + (Builtin.zeroCells z.cells n).toList.length), hA2, ?_, ?_, g6'⟩
              · rw [setRow_heap w x _ _ e _ g3]
                congr 3
                have ht : (A ++ B ++ C' ++ tail).take (lo * sz) = A := by rw [← hA, show A ++ B ++ C' ++ tail = A ++ (B ++ C' ++ tail) by simp, List.take_left' rfl]
                rw [ht, List.append_assoc]
              · rw [List.length_append, List.length_append, List.length_drop, g5, hzl2, hA]
                omega
            · rw [hM2 x ex] at hx
              obtain ⟨a1, a2, l2, tail2, a3, a4, a5⟩ := hob x N2 C2 f2 hx
              exact ⟨a1, a2, l2, tail2, a3, (setRow_other w b x _ ex).trans a4, a5⟩
          · unfold Builtin.clear_
            obtain ⟨n', rfl⟩ : ∃ n', n = n' + 1 := ⟨n - 1, by omega⟩
            simp only [List.getElem?_toArray, List.getElem?_cons_zero, Sem.run_bind, Option.map_some, hts, run_underlying hd, Result.andThen_ok, run_zeroValue hz, Sem.run_pure, hst]
    · exact h.elim
  · exact h.elim
theorem copyB_ok {e : TypeId} {i : Nat} {p : Option (Nat × Nat)} {sz n k : Nat} {g : Nat → List V} {K : V → St → Prop} (h : copyB s e i p sz n k g K) (hr : Rel ρ s w) (hkn : k ≤ n) {new : List Value} (k1 : czl ρ (rowL g k) = some new) (k2 : RowOk k g sz) (k3 : new.length = k * sz) (k6 : ∀ v ∈ new, v.oneCell' = true) :
    ∃ s' w', K (.int .i64 k) s' ∧ Step md s.n s ρ w s' ρ w' ∧ (∀ b lo, p = some (b, lo) → (storeCells ⟨b, lo * sz, none⟩ new).run P w = .ok () w') ∧ (p = none → w' = w) := by
  unfold copyB at h
  replace h := withO_ok h; obtain ⟨ob, ho, h⟩ := h
  split at h
  · rename_i e' sz'' M
    replace h := need_ok h; obtain ⟨hb2, N', f', M', hM', h⟩ := h
    simp only [Bool.and_eq_true] at hb2
    obtain rfl : sz = sz'' := by simpa using hb2.1
    obtain rfl : e = e' := by simpa using hb2.2
    obtain ⟨H, hH, h⟩ := setP_ok h
    have hob := hr.obj i _ ho
    rcases hM' with ⟨rfl, hM'⟩ | ⟨b, lo, N, C, f, rfl, hM, hlN, hlC, hN', hff, hM1, hM2⟩
    · have hob' : OR ρ w i (.memr e sz M') := fun b N C f hb => hob b N C f (by rw [← hM' b]; exact hb)
      refine ⟨_, w, h, Step.set hr ho hH hob' (fun _ _ => rfl) rfl rfl rfl rfl, fun b lo _ => ?_, fun _ => rfl⟩
      obtain rfl : new = [] := List.eq_nil_of_length_eq_zero (by rw [k3, Nat.zero_mul])
      exact run_storeNil _ _
    · obtain ⟨g0, gsz, l', tail, g2, g3, g5, g6⟩ := hob b N C f hM
      obtain ⟨N2, hN2⟩ : ∃ N2, N2 = Nat.max N (lo + k) := ⟨_, rfl⟩
      have hN2a : lo + k ≤ N2 := by rw [hN2]; exact Nat.le_max_right ..
      have hN2b : N ≤ N2 := by rw [hN2]; exact Nat.le_max_left ..
      have hN2c : N2 = N ∨ N2 = lo + k := by rw [hN2]; show max N (lo + k) = N ∨ max N (lo + k) = lo + k; omega
      obtain ⟨F, hF⟩ : ∃ F : Nat → List V, F = fun q => if q < lo then f q else if q < lo + k then g (q - lo) else f q := ⟨_, rfl⟩
      have hroom : (lo + k) * sz ≤ C * sz := Nat.mul_le_mul_right _ (by omega)
      have hlok : (lo + k) * sz = lo * sz + k * sz := Nat.add_mul ..
      -- the new row
      obtain ⟨A, D, tl, hA, hA2, hD2, hT⟩ : ∃ A D tl : List Value, A.length = lo * sz ∧ czl ρ (rowL f lo) = some A ∧ czl ρ (rowL (fun q => f (lo + k + q)) (N2 - (lo + k))) = some D ∧ (l' ++ tail).take (lo * sz) ++ new ++ (l' ++ tail).drop (lo * sz + new.length) = (A ++ new ++ D) ++ tl := by
        rcases Nat.lt_or_ge N (lo + k) with hlt | hge
        · obtain ⟨A, B, C', e0, hA, hB, hA2, _⟩ := row_cells (lo := lo) (n := N - lo) g6 g2 (by omega)
          refine ⟨A, [], (l' ++ tail).drop (lo * sz + new.length), hA, hA2, by rw [show N2 - (lo + k) = 0 by omega]; simp [rowL, czl], ?_⟩
          have ht : (l' ++ tail).take (lo * sz) = A := by rw [e0, ← hA, show A ++ B ++ C' ++ tail = A ++ (B ++ C' ++ tail) by simp, List.take_left' rfl]
          rw [ht, List.append_nil]
        · obtain ⟨A0, D, C', e0, hA0, hD, _, hD2⟩ := row_cells (lo := lo + k) (n := N - (lo + k)) g6 g2 (by omega)
          obtain ⟨A, B, C2, e1, hA, hB, hA2, _⟩ := row_cells (lo := lo) (n := k) g6 g2 (by omega)
          refine ⟨A, D, C' ++ tail, hA, hA2, by rw [show N2 - (lo + k) = N - (lo + k) by omega]; exact hD2, ?_⟩
          have ht : (l' ++ tail).take (lo * sz) = A := by rw [e1, ← hA, show A ++ B ++ C2 ++ tail = A ++ (B ++ C2 ++ tail) by simp, List.take_left' rfl]
          have hd : (l' ++ tail).drop (lo * sz + new.length) = D ++ (C' ++ tail) := by rw [e0, k3, ← hlok, ← hA0, show A0 ++ D ++ C' ++ tail = A0 ++ (D ++ (C' ++ tail)) by simp, List.drop_left' rfl]
          rw [ht, hd]
          simp
      have hrowF : czl ρ (rowL F N2) = some (A ++ new ++ D) := by
        rw [show N2 = lo + k + (N2 - (lo + k)) by omega, rowL_split, rowL_split]
        refine czl_append (czl_append ?_ ?_) ?_
        · rw [rowL_congr (g := f) fun q hq => by rw [hF]; exact if_pos hq]
          exact hA2
        · rw [rowL_congr (g := g) fun q hq => by rw [hF]; show (if lo + q < lo then _ else if lo + q < lo + k then g (lo + q - lo) else _) = _; rw [if_neg (by omega), if_pos (by omega), show lo + q - lo = q by omega]]
          exact k1
        · rw [rowL_congr (g := fun q => f (lo + k + q)) fun q hq => by rw [hF]; show (if lo + k + q < lo then _ else if lo + k + q < lo + k then _ else f (lo + k + q)) = _; rw [if_neg (by omega), if_neg (by omega)]]
          exact hD2
      have hokF : RowOk N2 F sz := fun q hq => by
        rw [hF]
        show List.length (if q < lo then f q else if q < lo + k then g (q - lo) else f q) = sz ∧ oneCells (if q < lo then f q else if q < lo + k then g (q - lo) else f q) = true
        by_cases q1 : q < lo
        · rw [if_pos q1]; exact g6 q (by omega)
        · rw [if_neg q1]
          by_cases q2 : q < lo + k
          · rw [if_pos q2]; exact k2 _ (by omega)
          · rw [if_neg q2]; exact g6 q (by omega)
      have hle' : N' ≤ N2 := by omega
      obtain ⟨A1, B1, C1, e1, hA1, hB1, _, hB12⟩ := row_cells (lo := 0) (n := N') hokF hrowF (by omega)
      obtain rfl : A1 = [] := List.eq_nil_of_length_eq_zero (by omega)
      have hff' : ∀ q, q < N' → f' q = F q := fun q hq => by rw [hff q hq, hF]
      have hB1F : czl ρ (rowL f' N') = some B1 := by
        rw [rowL_congr (g := fun q => F (0 + q)) fun q hq => by rw [hff' q hq, Nat.zero_add]]
        exact hB12
      have hok' : RowOk N' f' sz := fun q hq => by rw [hff' q hq]; exact hokF q (by omega)
      have hst := run_storeCells_at (P := P) b (lo * sz) e new 0 (l' ++ tail).toArray w g3 (by simp only [List.size_toArray]; omega) k6
      simp only [Nat.add_zero] at hst
      refine ⟨_, w.setRow b (((l' ++ tail).take (lo * sz) ++ new ++ (l' ++ tail).drop (lo * sz + new.length)).toArray), h, Step.set hr ho hH (fun x N2 C2 f2 hx => ?_) (fun k hk => setRow_other w b k _ (fun e => hk (e ▸ g0))) (setRow_size w b _) rfl rfl rfl, fun b' lo' e => ?_, fun e => by cases e⟩
      · by_cases ex : x = b
        · subst ex
          rw [hM1] at hx
          cases hx
          refine ⟨g0, gsz, B1, C1 ++ tl, hB1F, ?_, ?_, hok'⟩
          · rw [setRow_heap w x _ _ e _ g3]
            congr 3
            rw [hT, e1]
            simp
          · have : ((l' ++ tail).take (lo * sz) ++ new ++ (l' ++ tail).drop (lo * sz + new.length)).length = C * sz := by
              rw [List.length_append, List.length_append, List.length_take, List.length_drop, g5]
              omega
            rw [hT, e1] at this
            rw [← this]
            simp
        · rw [hM2 x ex] at hx
          obtain ⟨a1, a2, l2, tail2, a3, a4, a5⟩ := hob x N2 C2 f2 hx
          exact ⟨a1, a2, l2, tail2, a3, (setRow_other w b x _ ex).trans a4, a5⟩
      · cases e
        exact hst
  · exact h.elim
theorem copyAP_ok {ty T : TypeId} {i : Nat} {p : Option (Nat × Nat)} {sz n c : Nat} {y : V} {K : V → St → Prop} {ts : Array TypeId} (hts : ts[0]? = some ty) (h : copyAP P s ty i p sz n y K) (hr : Rel ρ s w) {x' y' : Value} (hx : cz ρ (.asl i p sz n c) = some x') (hy : cz ρ y = some y') :
    ∃ v v' s' w', K v s' ∧ Step md s.n s ρ w s' ρ w' ∧ cz ρ v = some v' ∧ (Builtin.copy_ ts T #[x', y']).run P w = .ok v' w' := by
  unfold copyAP at h
  split at h
  · rename_i e hd
    replace h := withO_ok h; obtain ⟨sz', hs, h⟩ := h
    replace h := need_ok h; obtain ⟨hb, h⟩ := h
    simp only [Bool.and_eq_true] at hb
    obtain rfl : sz = sz' := by simpa using hb.2
    simp only [cz, Option.some.injEq] at hx
    subst hx
    split at h
    · rename_i j q sz2 m c2
      obtain ⟨k, hk, h⟩ := h
      have hkm : k ≤ m ∧ k ≤ n := by rw [hk]; exact ⟨Nat.min_le_left .., Nat.min_le_right ..⟩
      replace h := srcP_ok (P := P) h; obtain ⟨k', g, h, hsrc⟩ := h
      obtain ⟨new, k1, k2, k3, k4, k5, k6⟩ := hsrc hr (show cz ρ (.asl j q sz2 k c2) = _ from rfl)
      simp only [cz, Option.some.injEq] at hy
      subst hy
      have hkk : k' = k := by
        have := k4 w
        cases q <;> (simp [Builtin.lenOf] at this; exact this.symm)
      subst hkk
      obtain ⟨s', w', g1, g2, g3⟩ := copyB_ok (md := md) (P := P) h hr hkm.2 k1 k2 k3 k6
      refine ⟨_, _, s', w', g1, g2, rfl, ?_⟩
      have hl : (Builtin.lenOf (.slice (q.map fun q => (⟨q.1, q.2 * sz2, none⟩ : Addr)) m c2)).run P w = .ok m w := by cases q <;> rfl
      have h5 := k5 w rfl
      have hf : (Builtin.firstCells sz k' (.slice (q.map fun q => (⟨q.1, q.2 * sz2, none⟩ : Addr)) m c2)).run P w = .ok new.toArray w := by
        cases q <;> exact h5
      unfold Builtin.copy_
      cases p with
      | none => simp only [List.getElem?_toArray, List.getElem?_cons_zero, List.getElem?_cons_succ, Sem.run_bind, Option.map_none, hts, run_underlying hd, Result.andThen_ok, hl, run_sizeOf hs, ← hk, hf, Sem.run_pure]; rw [g3.2 rfl]; rfl
      | some p => simp only [List.getElem?_toArray, List.getElem?_cons_zero, List.getElem?_cons_succ, Sem.run_bind, Option.map_some, hts, run_underlying hd, Result.andThen_ok, hl, run_sizeOf hs, ← hk, hf, g3.1 p.1 p.2 rfl, Sem.run_pure]; rfl
    · rename_i j lo sz2 m full
      obtain ⟨hmn, h⟩ := h
      replace h := srcP_ok (P := P) h; obtain ⟨k', g, h, hsrc⟩ := h
      obtain ⟨new, k1, k2, k3, k4, k5, k6⟩ := hsrc hr hy
      have hl := k4 w
      have hkk : k' = m := by
        rcases cz_sl hy with ⟨_, _, _, rfl, _⟩ | ⟨_, _, h0, _, rfl⟩
        · simp [Builtin.lenOf] at hl; exact hl.symm
        · simp [Builtin.lenOf] at hl; omega
      subst hkk
      obtain ⟨s', w', g1, g2, g3⟩ := copyB_ok (md := md) (P := P) h hr hmn k1 k2 k3 k6
      refine ⟨_, _, s', w', g1, g2, rfl, ?_⟩
      have hf := k5 w rfl
      have hmin : Nat.min k' n = k' := Nat.min_eq_left hmn
      unfold Builtin.copy_
      cases p with
      | none => simp only [List.getElem?_toArray, List.getElem?_cons_zero, List.getElem?_cons_succ, Sem.run_bind, Option.map_none, hts, run_underlying hd, Result.andThen_ok, hl, run_sizeOf hs, hmin, hf, Sem.run_pure]; rw [g3.2 rfl]; rfl
      | some p => simp only [List.getElem?_toArray, List.getElem?_cons_zero, List.getElem?_cons_succ, Sem.run_bind, Option.map_some, hts, run_underlying hd, Result.andThen_ok, hl, run_sizeOf hs, hmin, hf, g3.1 p.1 p.2 rfl, Sem.run_pure]; rfl
    · exact h.elim
  · exact h.elim
theorem sl_cz {i lo sz n : Nat} {full : Bool} {x' : Value} (hx : cz ρ (.sl i lo sz n full) = some x') : ∃ q c, x' = .slice q n c ∧ ∀ b, ρ.β i = some b → q = some ⟨b, ρ.δ i + lo * sz, none⟩ := by
  simp only [cz] at hx
  split at hx
  · rename_i b hb
    split at hx
    · cases hx
      exact ⟨_, _, rfl, fun b' h => by rw [hb] at h; cases h; rfl⟩
    · split at hx
      · cases hx
        exact ⟨_, _, rfl, fun b' h => by rw [hb] at h; cases h; rfl⟩
      · cases hx
  · rename_i hb
    split at hx
    · rename_i g
      cases hx
      exact ⟨none, 0, by rw [g.2.1], fun b' h => by rw [hb] at h; cases h⟩
    · cases hx
theorem clearP_ok {ty T : TypeId} {i lo sz n : Nat} {full : Bool} {K : V → St → Prop} {ts : Array TypeId} (hts : ts[0]? = some ty) (h : clearP P s ty i lo sz n K) (hr : Rel ρ s w) {x' : Value} (hx : cz ρ (.sl i lo sz n full) = some x') :
    ∃ s' w', K (.tup []) s' ∧ Step md s.n s ρ w s' ρ w' ∧ (Builtin.clear_ ts T #[x']).run P w = .ok (.tuple #[]) w' := by
  unfold clearP at h
  split at h
  · rename_i e hd
    replace h := withO_ok h; obtain ⟨sz', hs, h⟩ := h
    replace h := withO_ok h; obtain ⟨z, hz, h⟩ := h
    replace h := withO_ok h; obtain ⟨zv, hzv, h⟩ := h
    replace h := need_ok h; obtain ⟨hb, h⟩ := h
    simp only [Bool.and_eq_true] at hb
    have hzl : (cellsOf zv).length = sz := by simpa using hb.1.1
    obtain rfl : sz = sz' := by simpa using hb.1.2
    replace h := withO_ok h; obtain ⟨ob, ho, h⟩ := h
    split at h
    · rename_i N f e' sz''
      replace h := need_ok h; obtain ⟨hb2, hle, h⟩ := h
      simp only [Bool.and_eq_true] at hb2
      obtain rfl : sz = sz'' := by simpa using hb2.1
      obtain rfl : e = e' := by simpa using hb2.2
      replace h := setP_ok h; obtain ⟨H, hH, h⟩ := h
      obtain ⟨q, c, rfl, hq⟩ := sl_cz hx
      have hob := hr.obj i _ ho
      have hzc := czl_cellsOf hr.sig (cz_ofV (ρ := ρ) hzv)
      have hzs : z.cells.size = sz := by have := czl_length hzc; simpa [hzl] using this
      have hzo := czl_ones hr.sig hzc hb.2
      rcases hob with ⟨hn, rfl, hfp⟩ | ⟨b, pre, l', tail, hbi, g2, g3, hpre, g5, g6, gsz, hfp⟩
      · obtain rfl : lo = 0 := by omega
        obtain rfl : n = 0 := by omega
        refine ⟨_, w, h, Step.set hr ho hH (.inl ⟨hn, rfl, hfp⟩) (fun _ _ => rfl) rfl rfl rfl rfl, ?_⟩
        unfold Builtin.clear_
        cases q <;> simp [hts, run_underlying hd]
      · obtain rfl := hq b hbi
        obtain ⟨A, B, C', rfl, hA, hB, hA2, _⟩ := row_cells (lo := lo) (n := n) g6 g2 hle
        have g6' : RowOk lo f sz := fun q hq => g6 q (by omega)
        have hzl2 : (Builtin.zeroCells z.cells n).toList.length = n * sz := by simp [Builtin.zeroCells, hzs]
        have hst := run_storeCells_at (P := P) b (ρ.δ i + lo * sz) e (Builtin.zeroCells z.cells n).toList 0 (pre ++ (A ++ B ++ C') ++ tail).toArray w g3 (by simp only [List.size_toArray, List.length_append]; rw [hpre, hA, hB, hzl2]; omega) (zeros_one hzo n)
        simp only [Nat.add_zero] at hst
        have fpb : ρ.fp i b := (hfp b).2 rfl
        by_cases hn : n = 0
        · subst hn
          refine ⟨_, w, h, Step.set hr ho hH (.inr ⟨b, pre, A, B ++ C' ++ tail, hbi, hA2, by rw [g3]; simp, hpre, by rw [← g5]; simp, g6', gsz, hfp⟩) (fun _ _ => rfl) rfl rfl rfl rfl, ?_⟩
          unfold Builtin.clear_
          simp [hts, run_underlying hd]
        · refine ⟨_, w.setRow b (((pre ++ (A ++ B ++ C') ++ tail).take (ρ.δ i + lo * sz) ++ (Builtin.zeroCells z.cells n).toList ++ (pre ++ (A ++ B ++ C') ++ tail).drop (ρ.δ i + lo * sz + (Builtin.zeroCells z.cells n).toList.length)).toArray), h,
            Step.set hr ho hH (.inr ⟨b, pre, A, (Builtin.zeroCells z.cells n).toList ++ (pre ++ (A ++ B ++ C') ++ tail).drop (ρ.δ i + lo * sz + (Builtin.zeroCells z.cells n).toList.length), hbi, hA2, ?_, hpre, ?_, g6', gsz, hfp⟩) (fun k hk => setRow_other w b k _ (fun e => hk (e ▸ fpb))) (setRow_size w b _) rfl rfl rfl, ?_⟩
          · rw [setRow_heap w b _ _ e _ g3]
            congr 3
            have ht : (pre ++ (A ++ B ++ C') ++ tail).take (ρ.δ i + lo * sz) = pre ++ A := by
              rw [← hA, ← hpre, ← List.length_append, show pre ++ (A ++ B ++ C') ++ tail = (pre ++ A) ++ (B ++ C' ++ tail) by simp, List.take_left' rfl]
            rw [ht]
            simp only [List.append_assoc]
          · simp only [List.length_append, List.length_drop] at g5 ⊢
            rw [hzl2, hA, hB, hpre] at *
            omega
          · unfold Builtin.clear_
            obtain ⟨n', rfl⟩ : ∃ n', n = n' + 1 := ⟨n - 1, by omega⟩
            simp only [List.getElem?_toArray, List.getElem?_cons_zero, Sem.run_bind, hts, run_underlying hd, Result.andThen_ok, run_zeroValue hz, Sem.run_pure, hst]
    · exact h.elim
  · exact h.elim
end
end Sy
end Go.Proofs.Ytmgcpfljhcahoaa
end
section
namespace Go.Proofs.Ytmgcpfljhcahoaa
open Go Go.RowKit
namespace Sy
variable {md : Bool}

def opdPairs (t : Tr V) : List (Nat × Operand) → (List (Nat × V) → Prop) → Prop
  | [], K => K []
  | (i, x) :: l, K => withO (opd t x) fun v => opdPairs t l fun vs => K ((i, v) :: vs)
def fillP (place : Nat → Option (Nat × Nat)) : List (Nat × V) → List V → (List V → Prop) → Prop
  | [], l, K => K l
  | (i, v) :: r, l, K => withO (place i) fun p => need (Nat.beq (cellsOf v).length p.2) (putLP p.1 l (cellsOf v) fun l => fillP place r l K)
def placesP (P : Program) (ty : TypeId) (K : (Nat → Option (Nat × Nat)) → Prop) : Prop := match P.underlying ty with
  | some (.struct fs) => withO (fs.toList.mapM fun f => (P.info? f.type).map fun i => (f.offset, i.size)) fun places => K fun i => places[i]?
  | some (.array _ e) => withO (sizeT P e) fun sz => K fun i => some (i * sz, sz)
  | _ => False
def buildP (P : Program) (t : Tr V) (ty : TypeId) (ps : List (Nat × Operand)) (K : V → Prop) : Prop :=
  opdPairs t ps fun vs => withO (zeroT P ty) fun z => withO (ofV z) fun zv => placesP P ty fun place => fillP place vs (cellsOf zv) fun l => K (.agg l)
def repP : Nat → List V → List V → (List V → Prop) → Prop
  | 0, _, acc, K => K acc
  | n + 1, z, acc, K => repP n z (z ++ acc) K
def chunk (l : List V) (sz j : Nat) : List V := (l.drop (j * sz)).take sz
def buildSliceP (P : Program) (t : Tr V) (s : St) (ty : TypeId) (n : Nat) (ps : List (Nat × Operand)) (K : V → St → Prop) : Prop := match P.underlying ty with
  | some (.slice e) => opdPairs t ps fun vs => withO (sizeT P e) fun sz => withO (zeroT P e) fun z => withO (ofV z) fun zv => need (Nat.beq (cellsOf zv).length sz && Nat.ble 1 sz && Nat.ble (n * sz) 100000)
      (repP n (cellsOf zv) [] fun l => fillP (fun i => some (i * sz, sz)) vs l fun l => need (oneCells l && Nat.beq l.length (n * sz)) (newRowP s n (chunk l sz) e sz K))
  | _ => False
def makeSliceP (P : Program) (s : St) (ty : TypeId) (x y : V) (K : V → St → Prop) : Prop := match P.underlying ty, x, y with
  | some (.slice e), .int _ a, .int _ b => withO (sizeT P e) fun sz => withO (bytesT P e) fun by_ => withO (zeroT P e) fun z => withO (ofV z) fun zv => need (Nat.beq (cellsOf zv).length sz && Nat.ble 1 sz && oneCells (cellsOf zv))
      (0 ≤ a ∧ a ≤ b ∧ b * (sz + by_) ≤ 1000000 ∧ newP s (.row a.toNat (fun _ => cellsOf zv) e sz) fun i s => K (.sl i 0 sz a.toNat false) s)
  | _, _, _ => False

section
variable {P : Program} {ρ ρ' : Ren} {s s' : St} {w w' : World} {o : Oper} {a act : Act} {t : Tr V}

theorem info_of_size {ty n : Nat} (h : sizeT P ty = some n) : ∃ i, P.info? ty = some i ∧ i.size = n := by
  unfold sizeT at h
  cases hi : P.info? ty with
  | none => simp [hi] at h
  | some i => simp [hi] at h; exact ⟨i, rfl, h⟩
theorem zero_info {ty : TypeId} {z : Value} (h : zeroT P ty = some z) : ∃ i, P.info? ty = some i ∧ i.zero = some z := by
  unfold zeroT at h
  cases hi : P.info? ty with
  | none => simp [hi] at h
  | some i => simp [hi] at h; exact ⟨i, rfl, h⟩
theorem cellsOf_length (hσ : ∀ i v, ρ.σ i = some v → v.oneCell' = true) {v : V} {v' : Value} (h : cz ρ v = some v') : v'.cells.size = (cellsOf v).length := by
  have := czl_length (czl_cellsOf hσ h)
  simpa using this
theorem opdPairs_ok : ∀ {xs : List (Nat × Operand)} {K : List (Nat × V) → Prop}, opdPairs t xs K → ∃ vs, K vs ∧ ∀ {ρ : Ren} {act : Act}, (∀ x ∈ xs, OpdOk ρ t act x.2) →
    ∃ vs' : List (Nat × Value), (xs.map fun p => (p.1, act.eval p.2)) = vs' ∧ vs'.map (·.1) = vs.map (·.1) ∧ czl ρ (vs.map (·.2)) = some (vs'.map (·.2))
  | [], K, h => ⟨[], h, fun _ => ⟨[], rfl, rfl, by simp [czl]⟩⟩
  | (i, x) :: xs, K, h => by
    simp only [opdPairs] at h
    replace h := withO_ok h; obtain ⟨v, hv, h⟩ := h
    obtain ⟨vs, h1, h2⟩ := opdPairs_ok h
    refine ⟨_, h1, fun {ρ act} hx => ?_⟩
    obtain ⟨vs', g1, g2, g3⟩ := h2 (ρ := ρ) (act := act) (fun x hx' => hx x (by simp [hx']))
    refine ⟨(i, act.eval x) :: vs', by simp [g1], by simp [g2], ?_⟩
    exact czl_cons.2 ⟨_, _, hx (i, x) (by simp) v hv, g3, rfl⟩
theorem take_set_succ {α : Type} (v : α) : ∀ (n : Nat) (l : List α), n < l.length → (l.set n v).take (n + 1) = l.take n ++ [v]
  | _, [], h => by simp at h
  | 0, x :: l, _ => by simp
  | n + 1, x :: l, h => by simpa using take_set_succ v n l (by simpa using h)
theorem foldl_set (off : Nat) : ∀ (vs : List Value) (j : Nat) (arr : Array Value), off + j + vs.length ≤ arr.size →
    (vs.zipIdx j).foldl (fun cs (p : Value × Nat) => cs.setIfInBounds (off + p.2) p.1) arr = (arr.toList.take (off + j) ++ vs ++ arr.toList.drop (off + j + vs.length)).toArray
  | [], j, arr, _ => by simp
  | v :: vs, j, arr, h => by
    simp only [List.length_cons] at h
    rw [List.zipIdx_cons, List.foldl_cons, foldl_set off vs (j + 1) _ (by simp; omega)]
    apply Array.toList_inj.1
    simp only [Array.toList_setIfInBounds]
    rw [show off + (j + 1) = off + j + 1 by omega, take_set_succ v _ _ (by simp; omega), List.drop_set_of_lt (by omega)]
    simp [show off + j + 1 + vs.length = off + j + (vs.length + 1) by omega]
theorem fillP_ok {place : Nat → Option (Nat × Nat)} : ∀ {vs : List (Nat × V)} {l : List V} {K : List V → Prop}, fillP place vs l K → ∃ r, K r ∧ r.length = l.length ∧ ∀ {ρ : Ren} {vs' : List (Nat × Value)} {l' : List Value}, (∀ i v, ρ.σ i = some v → v.oneCell' = true) →
    vs'.map (·.1) = vs.map (·.1) → czl ρ (vs.map (·.2)) = some (vs'.map (·.2)) → czl ρ l = some l' → ∃ r', czl ρ r = some r' ∧ Instr.fill place l'.toArray vs' = some r'.toArray
  | [], l, K, h => ⟨l, h, rfl, fun {ρ vs' l'} _ h1 _ hl => by
    have : vs' = [] := by simpa using h1
    subst this
    exact ⟨l', hl, rfl⟩⟩
  | (i, v) :: vs, l, K, h => by
    simp only [fillP] at h
    replace h := withO_ok h; obtain ⟨p, hpl, h⟩ := h
    obtain ⟨hb, h⟩ := need_ok h
    obtain ⟨h, hle⟩ := putLP_ok h
    obtain ⟨r, h1, h2, h3⟩ := fillP_ok h
    refine ⟨r, h1, by rw [h2, putD_length hle], fun {ρ vs' l'} hσ e1 e2 hl => ?_⟩
    cases vs' with
    | nil => simp at e1
    | cons q vs' =>
      obtain ⟨i', v'⟩ := q
      simp only [List.map_cons, List.cons.injEq] at e1
      obtain ⟨rfl, e1⟩ := e1
      obtain ⟨u, us, g1, g2, e⟩ := czl_cons.1 e2
      simp only [List.map_cons, List.cons.injEq] at e
      obtain ⟨rfl, rfl⟩ := e
      have hc := czl_cellsOf hσ g1
      have hlen := czl_length hc
      have hll := czl_length hl
      have hs : v'.cells.size = p.2 := by rw [cellsOf_length hσ g1]; simpa using hb
      have hl2 := czl_append (czl_append (czl_take p.1 hl) hc) (czl_drop (p.1 + (cellsOf v).length) hl)
      obtain ⟨r', q2, q4⟩ := h3 hσ e1 g2 hl2
      refine ⟨r', q2, ?_⟩
      have hp' : place i' = some (p.1, p.2) := hpl
      simp only [Instr.fill, hp']
      rw [if_neg (by simp at hlen ⊢; omega)]
      have hf := foldl_set p.1 v'.cells.toList 0 l'.toArray (by simp at hlen ⊢; omega)
      have hz : v'.cells.zipIdx.foldl (fun cs (q : Value × Nat) => cs.setIfInBounds (p.1 + q.2) q.1) l'.toArray = ((v'.cells.toList.zipIdx).foldl (fun (cs : Array Value) (q : Value × Nat) => cs.setIfInBounds (p.1 + q.2) q.1) l'.toArray) := by
        rw [← Array.foldl_toList]
        simp
      simp only [Nat.add_zero] at hf
      rw [← hlen] at q4
      exact (congrArg (fun x => Instr.fill place x vs') (hz.trans hf)).trans q4

theorem buildP_ok {ty : TypeId} {ps : Array (Nat × Operand)} {K : V → Prop} (hop : o.op = .build ty ps) (h : buildP P t ty ps.toList K) : ∃ v, K v ∧ ∀ {ρ : Ren} {act : Act}, (∀ i v, ρ.σ i = some v → v.oneCell' = true) → (∀ z ∈ o.op.operands, OpdOk ρ t act z) →
    ∃ v', cz ρ v = some v' ∧ ∀ w, (execOp act.eval o).run P w = .ok (.value v') w := by
  unfold buildP at h
  obtain ⟨vs, h, hvs⟩ := opdPairs_ok h
  replace h := withO_ok h; obtain ⟨z, hz, h⟩ := h
  replace h := withO_ok h; obtain ⟨zv, hzv, h⟩ := h
  obtain ⟨it, hit, hzz⟩ := zero_info hz
  have fin : ∀ {place : Nat → Option (Nat × Nat)}, fillP place vs (cellsOf zv) (fun l => K (.agg l)) → (∀ (vs' : List (Nat × Value)) (r' : Array Value), Instr.fill place z.cells vs' = some r' → P.built ty vs' = some r') → ∃ v, K v ∧ ∀ {ρ : Ren} {act : Act}, (∀ i v, ρ.σ i = some v → v.oneCell' = true) → (∀ z ∈ o.op.operands, OpdOk ρ t act z) →
      ∃ v', cz ρ v = some v' ∧ ∀ w, (execOp act.eval o).run P w = .ok (.value v') w := by
    intro place h hb
    obtain ⟨r, h1, h2, h3⟩ := fillP_ok h
    refine ⟨_, h1, fun {ρ act} hσ hx => ?_⟩
    obtain ⟨vs', e, e1, e2⟩ := hvs (ρ := ρ) (act := act) fun x hx' => hx x.2 (by rw [hop]; simp [Op.operands]; exact ⟨x.1, by simpa using hx'⟩)
    have hzc := czl_cellsOf hσ (cz_ofV (ρ := ρ) hzv)
    obtain ⟨r', q2, q4⟩ := h3 hσ e1 e2 hzc
    rw [Array.toArray_toList] at q4
    have hparts : (ps.map fun (i, x) => (i, act.eval x)).toList = vs' := by rw [← e]; simp
    refine ⟨.agg r'.toArray, by simp only [cz, q2, Option.map_some], fun w => ?_⟩
    simp only [execOp, hop, Sem.run_bind, run_build (P := P) w ty _ r'.toArray (by rw [hparts]; exact hb _ _ q4), Result.andThen_ok, Sem.run_pure]
  unfold placesP at h
  split at h
  · rename_i fs hd
    replace h := withO_ok h; obtain ⟨places, hpl, h⟩ := h
    refine fin h fun vs' r' hf => ?_
    unfold Program.built
    simp only [hit, hd, hzz, hpl]
    have : (fun (i : Nat) => places[i]?) = (fun (i : Nat) => places.toArray[i]?) := by funext i; simp
    rw [this] at hf
    exact hf
  · rename_i n e' hd
    replace h := withO_ok h; obtain ⟨n', hn', h⟩ := h
    obtain ⟨ie, hie, hsz⟩ := info_of_size hn'
    refine fin h fun vs' r' hf => ?_
    unfold Program.built
    simp only [hit, hd, hzz, hie, hsz]
    exact hf
  · exact h.elim

theorem repP_ok {z : List V} : ∀ {n : Nat} {acc : List V} {K : List V → Prop}, repP n z acc K → K ((List.replicate n z).flatten ++ acc)
  | 0, acc, K, h => by simpa [repP] using h
  | n + 1, acc, K, h => by
    have := repP_ok (n := n) (acc := z ++ acc) h
    rw [List.replicate_succ', List.flatten_append]
    simpa [List.append_assoc] using this
theorem flatten_get {z : List Value} : ∀ (n j : Nat), j < n * z.length → ((List.replicate n z).flatten)[j]? = z[j % z.length]?
  | 0, j, h => by simp at h
  | n + 1, j, h => by
    rw [List.replicate_succ, List.flatten_cons]
    by_cases hj : j < z.length
    · rw [List.getElem?_append_left hj, Nat.mod_eq_of_lt hj]
    · rw [Nat.succ_mul] at h
      rw [List.getElem?_append_right (by omega), flatten_get n (j - z.length) (by omega), Nat.mod_eq_sub_mod (a := j) (by omega)]
theorem zeros_eq {z : Array Value} {n : Nat} (hz : 0 < z.size) : (Array.range (n * z.size)).map (fun j => z[j % z.size]!) = ((List.replicate n z.toList).flatten).toArray := by
  apply Array.ext_getElem?
  intro j
  have hl : ((List.replicate n z.toList).flatten).length = n * z.size := by simp
  by_cases hj : j < n * z.size
  · have := flatten_get (z := z.toList) n j (by simpa using hj)
    simp only [List.getElem?_toArray, this]
    have hm : j % z.size < z.size := Nat.mod_lt _ hz
    simp [hj, hm]
  · rw [Array.getElem?_eq_none (by simp; omega), Array.getElem?_eq_none (by simp; omega)]
theorem czl_rep {z : List V} {z' : List Value} (h : czl ρ z = some z') : ∀ n, czl ρ ((List.replicate n z).flatten) = some ((List.replicate n z').flatten)
  | 0 => by simp [czl]
  | n + 1 => by rw [List.replicate_succ, List.flatten_cons, List.replicate_succ, List.flatten_cons]; exact czl_append h (czl_rep h n)
theorem rowL_const (z : List V) : ∀ n, rowL (fun _ => z) n = (List.replicate n z).flatten
  | 0 => rfl
  | n + 1 => by rw [rowL_succ, rowL_const z n, List.replicate_succ', List.flatten_append]; simp
theorem rowL_chunk {sz : Nat} : ∀ {n : Nat} {l : List V}, l.length = n * sz → rowL (chunk l sz) n = l
  | 0, l, h => by
    have : l = [] := List.eq_nil_of_length_eq_zero (by omega)
    subst this; rfl
  | n + 1, l, h => by
    rw [Nat.succ_mul] at h
    have ih := rowL_chunk (sz := sz) (n := n) (l := l.take (n * sz)) (by rw [List.length_take]; omega)
    have e : rowL (chunk (l.take (n * sz)) sz) n = rowL (chunk l sz) n := rowL_congr fun j hj => by
      unfold chunk
      have : (j + 1) * sz ≤ n * sz := Nat.mul_le_mul_right _ hj
      rw [Nat.succ_mul] at this
      rw [List.drop_take, List.take_take, Nat.min_eq_left (by omega)]
    rw [rowL_succ, ← e, ih]
    unfold chunk
    rw [List.take_of_length_le (l := l.drop (n * sz)) (by rw [List.length_drop]; omega), List.take_append_drop]
theorem oneCells_sub {l : List V} (h : oneCells l = true) (a b : Nat) : oneCells ((l.drop a).take b) = true := by
  have h1 : ∀ (l : List V) (n : Nat), oneCells l = true → oneCells (l.drop n) = true := fun l => by
    induction l with
    | nil => intro n h; simpa using h
    | cons v l ih =>
      intro n h
      have : oneCells l = true := by cases v <;> simp_all [oneCells]
      cases n with
      | zero => simpa using h
      | succ n => simpa using ih n this
  have h2 : ∀ (l : List V) (n : Nat), oneCells l = true → oneCells (l.take n) = true := fun l => by
    induction l with
    | nil => intro n h; simpa using h
    | cons v l ih =>
      intro n h
      cases n with
      | zero => simp [oneCells]
      | succ n =>
        rw [List.take_succ_cons]
        have : oneCells l = true := by cases v <;> simp_all [oneCells]
        have := ih n this
        cases v <;> simp_all [oneCells]
  exact h2 _ _ (h1 _ _ h)

theorem buildSliceP_ok {ty : TypeId} {n : Nat} {ps : Array (Nat × Operand)} {K : V → St → Prop} (hop : o.op = .buildSlice ty n ps) (h : buildSliceP P t s ty n ps.toList K) (hr : Rel ρ s w) (hx : ∀ z ∈ o.op.operands, OpdOk ρ t act z) :
    ∃ v s' ρ' w' v', K v s' ∧ Step md s.n s ρ w s' ρ' w' ∧ cz ρ' v = some v' ∧ (execOp act.eval o).run P w = .ok (.value v') w' := by
  unfold buildSliceP at h
  split at h
  · rename_i e hd
    obtain ⟨vs, h, hvs⟩ := opdPairs_ok h
    replace h := withO_ok h; obtain ⟨n', hn', h⟩ := h
    replace h := withO_ok h; obtain ⟨z, hz, h⟩ := h
    replace h := withO_ok h; obtain ⟨zv, hzv, h⟩ := h
    obtain ⟨hb, h⟩ := need_ok h
    simp only [Bool.and_eq_true] at hb
    obtain ⟨⟨hlen, hpos⟩, hbig⟩ := hb
    have hlen' : (cellsOf zv).length = n' := by simpa using hlen
    have hpos' : 1 ≤ n' := Nat.le_of_ble_eq_true hpos
    have hbig' : n * n' ≤ 100000 := Nat.le_of_ble_eq_true hbig
    have h := repP_ok h
    rw [List.append_nil] at h
    obtain ⟨r, h, hrl, hfill⟩ := fillP_ok h
    obtain ⟨hb, h⟩ := need_ok h
    simp only [Bool.and_eq_true] at hb
    have hrlen : r.length = n * n' := by simpa using hb.2
    obtain ⟨vs', e', h1, h2⟩ := hvs (ρ := ρ) (act := act) fun x hx' => hx x.2 (by rw [hop]; simp [Op.operands]; exact ⟨x.1, by simpa using hx'⟩)
    have hcz := cz_ofV (ρ := ρ) hzv
    have hzc := czl_cellsOf hr.sig hcz
    have hzl : z.cells.size = n' := by rw [cellsOf_length hr.sig hcz]; exact hlen'
    obtain ⟨r', q2, q4⟩ := hfill hr.sig h1 h2 (czl_rep hzc n)
    have hrow : czl ρ (rowL (chunk r n') n) = some r' := by rw [rowL_chunk hrlen]; exact q2
    have hok : RowOk n (chunk r n') n' := fun j hj => by
      refine ⟨?_, oneCells_sub hb.1 _ _⟩
      unfold chunk
      have : (j + 1) * n' ≤ n * n' := Nat.mul_le_mul_right _ hj
      rw [Nat.succ_mul] at this
      rw [List.length_take, List.length_drop]
      omega
    have hr'l := czl_length q2
    obtain ⟨v, s', ρ', h, st, hcv⟩ := newRowP_ok (md := md) h hr hrow hok hpos' (rest := []) (Nat.le_refl n) (by rw [List.append_nil]; omega) (Nat.le_refl w.drawn)
    rw [List.append_nil] at st
    refine ⟨v, s', ρ', _, .slice (some ⟨w.heap.size, 0, none⟩) n n, h, st, hcv, ?_⟩
    have hparts : (ps.map fun (i, x) => (i, act.eval x)).toList = vs' := by rw [← e']; simp
    have hnot : ¬ n * n' > 2 ^ 24 := by omega
    by_cases h0 : n * n' = 0
    · have hn0 : n = 0 := by
        rcases Nat.mul_eq_zero.1 h0 with g | g
        · exact g
        · omega
      subst hn0
      have q4' : Instr.fill (fun i => some (i * n', n')) #[] vs' = some r'.toArray := by simpa using q4
      have hr0 : (Array.map (fun _ => (default : Value)) (Array.range 0)) = #[] := Array.eq_empty_of_size_eq_zero (by simp)
      simp [execOp, hop, Instr.buildSlice, run_underlying hd, run_sizeOf hn', e', newRow, hr0, q4']
      rfl
    · have hcells : (Array.range (n * n')).map (fun j => z.cells[j % z.cells.size]!) = ((List.replicate n z.cells.toList).flatten).toArray := by
        rw [← hzl]
        exact zeros_eq (by omega)
      simp only [execOp, hop, Instr.buildSlice, Sem.run_bind, run_underlying hd, Result.andThen_ok, run_sizeOf hn', hnot, if_false, if_neg h0, run_zeroValue hz, Sem.run_pure, hcells, hparts, q4, newRow, run_newObj_alloc]
      rfl
  · exact h.elim

set_option maxRecDepth 10000 in
theorem makeSliceP_ok {ty : TypeId} {x y : Operand} {u v : V} {K : V → St → Prop} (hop : o.op = .makeSlice ty x y) (hu : cz ρ u = some (act.eval x)) (hv : cz ρ v = some (act.eval y)) (h : makeSliceP P s ty u v K) (hr : Rel ρ s w) :
    ∃ v s' ρ' w' v', K v s' ∧ Step md s.n s ρ w s' ρ' w' ∧ cz ρ' v = some v' ∧ (execOp act.eval o).run P w = .ok (.value v') w' := by
  unfold makeSliceP at h
  split at h
  · rename_i e k1 n0 k2 m0 hd
    replace h := withO_ok h; obtain ⟨n', hn', h⟩ := h
    replace h := withO_ok h; obtain ⟨by_, hby, h⟩ := h
    replace h := withO_ok h; obtain ⟨z, hz, h⟩ := h
    replace h := withO_ok h; obtain ⟨zv, hzv, h⟩ := h
    obtain ⟨hb, h⟩ := need_ok h
    simp only [Bool.and_eq_true] at hb
    obtain ⟨⟨hlen, hpos⟩, hone⟩ := hb
    have hlen' : (cellsOf zv).length = n' := by simpa using hlen
    have hpos' : 1 ≤ n' := Nat.le_of_ble_eq_true hpos
    obtain ⟨hn0, hnm, hbig, h⟩ := h
    replace h := newP_ok h; obtain ⟨H, hH, h⟩ := h
    simp only [cz, Option.some.injEq] at hu hv
    generalize hq : K = K' at h
    obtain ⟨n, rfl⟩ : ∃ n : Nat, n0 = n := ⟨n0.toNat, by omega⟩
    obtain ⟨m, rfl⟩ : ∃ m : Nat, m0 = m := ⟨m0.toNat, by omega⟩
    subst hq
    have hnm : n ≤ m := by omega
    have hcz := cz_ofV (ρ := ρ) hzv
    have hzc := czl_cellsOf hr.sig hcz
    have hzl : z.cells.size = n' := by rw [cellsOf_length hr.sig hcz]; exact hlen'
    have hbig' : m * (n' + by_) ≤ 1000000 := by
      have e : ((m * (n' + by_) : Nat) : Int) = (m : Int) * ((n' : Int) + (by_ : Int)) := by rw [Int.natCast_mul, Int.natCast_add]
      omega
    rw [Nat.mul_add] at hbig'
    have hrow : czl ρ (rowL (fun _ => cellsOf zv) n) = some ((List.replicate n z.cells.toList).flatten) := by rw [rowL_const]; exact czl_rep hzc n
    have hsplit : (List.replicate m z.cells.toList).flatten = (List.replicate n z.cells.toList).flatten ++ (List.replicate (m - n) z.cells.toList).flatten := by
      rw [← List.flatten_append, List.replicate_append_replicate, show n + (m - n) = m by omega]
    simp only [Int.toNat_natCast] at h hH
    have st := Step.row (md := md) hr hrow (fun j hj => ⟨hlen', hone⟩) hpos' (tail := (List.replicate (m - n) z.cells.toList).flatten) (m := m) (by rw [← hsplit]; simp [hzl]) hH (d := w.drawn) (e := e)
    rw [← hsplit] at st
    refine ⟨_, _, _, _, .slice (some ⟨w.heap.size, 0, none⟩) n m, h, st, by simp [cz, Ren.add, hnm], ?_⟩
    have hmm : m * 1 ≤ m * n' := Nat.mul_le_mul_left m hpos'
    have hwn : IntKind.i64.wrap (n : Int) = (n : Int) := IntWalk.i64_in _ (by constructor <;> omega)
    have hwm : IntKind.i64.wrap (m : Int) = (m : Int) := IntWalk.i64_in _ (by constructor <;> omega)
    simp only [bytesT, Option.map_eq_some_iff] at hby
    obtain ⟨ie, hie, hbe⟩ := hby
    have hmb : ((m * by_ : Nat) : Int) = (by_ : Int) * (m : Int) := by rw [Nat.mul_comm]; exact Int.natCast_mul by_ m
    have hnot : ¬ ((by_ : Int) * (m : Int) > 2 ^ 48) := by rw [← hmb]; omega
    have hm0 : ¬ ((m : Int) < 0) := by omega
    have hn0 : ¬ ((n : Int) < 0) := by omega
    have hgt : ¬ ((n : Int) > (m : Int)) := by omega
    have hti : (typeInfo e).run P w = .ok ie w := by simp [typeInfo, hie]
    by_cases h0 : m * n' = 0
    · have hm0' : m = 0 := by
        rcases Nat.mul_eq_zero.1 h0 with g | g
        · exact g
        · omega
      subst hm0'
      have hn0' : n = 0 := by omega
      subst hn0'
      have hr0 : ∀ z : Array Value, Array.map (fun x => z[x % z.size]!) (Array.range 0) = #[] := fun z => Array.eq_empty_of_size_eq_zero (by simp)
      simp only [execOp, hop, Instr.makeSlice, Sem.run_bind, run_underlying hd, Result.andThen_ok, ← hu, ← hv, asInt, asIntOf, Sem.run_pure, hti, hwn, hbe, hm0, hgt, hnot, decide_false, Bool.or_self, Bool.false_eq_true, if_false,
        run_askRoom, run_sizeOf hn', Int.toNat_natCast, Nat.zero_mul, if_true, hr0, newRow, run_newObj_alloc, List.replicate_zero, List.flatten_nil]
      rfl
    · have hcells : (Array.range (m * n')).map (fun j => z.cells[j % z.cells.size]!) = ((List.replicate m z.cells.toList).flatten).toArray := by
        rw [← hzl]
        exact zeros_eq (by omega)
      simp only [execOp, hop, Instr.makeSlice, Sem.run_bind, run_underlying hd, Result.andThen_ok, ← hu, ← hv, asInt, asIntOf, Sem.run_pure, hti, hwn, hwm, hbe, hm0, hn0, hgt, hnot, decide_false, Bool.or_self, Bool.false_eq_true, if_false,
        run_askRoom, run_sizeOf hn', Int.toNat_natCast, if_neg h0, run_zeroValue hz, hcells, newRow, run_newObj_alloc]
      rfl
  · exact h.elim
end
end Sy
end Go.Proofs.Ytmgcpfljhcahoaa
end
section
namespace Go.Proofs.Ytmgcpfljhcahoaa
open Go Go.RowKit
namespace Sy
variable {md : Bool}

def getE (k : Key) : List (Key × V) → Option V
  | [] => none
  | p :: l => if p.1 = k then some p.2 else getE k l
def setE (k : Key) (v : V) : List (Key × V) → List (Key × V)
  | [] => [(k, v)]
  | p :: l => if p.1 = k then (k, v) :: l else p :: setE k v l
def delE (k : Key) : List (Key × V) → List (Key × V)
  | [] => []
  | p :: l => if p.1 = k then l else p :: delE k l
def keyOf : KT → V → Option Key
  | .i k, .int k' n => if k = k' then some (.i n) else none
  | .s, .str b => some (.s b)
  | _, _ => none
def keyK (P : Program) (ty : TypeId) : Option (KT × TypeId) := match P.underlying ty with
  | some (.map k e) => match P.underlying k with
    | some (.int i) => some (.i i, e)
    | some .string => some (.s, e)
    | _ => none
  | _ => none
def ktEq : KT → KT → Bool
  | .i a, .i b => decide (a = b)
  | .s, .s => true
  | _, _ => false
def lookP (P : Program) (s : St) (ty : TypeId) (m key : V) (ok : Bool) (K : V → List Nat → Prop) : Prop :=
  withO (keyK P ty) fun q => withO (keyOf q.1 key) fun k => withO (zeroT P q.2) fun z => withO (ofV z) fun zv => match m with
    | .nilm => match ok with
      | true => K (.tup [zv, .bool false]) []
      | false => K zv []
    | .mp i => withO (s.H.get i) fun o => match o with
      | .map κ E => need (ktEq κ q.1) ((∀ v, getE k E = some v → match ok with
          | true => K (.tup [v, .bool true]) [i]
          | false => K v [i]) ∧ (getE k E = none → match ok with
          | true => K (.tup [zv, .bool false]) [i]
          | false => K zv [i]))
      | _ => False
    | _ => False
def mapSetP (P : Program) (s : St) (ty : TypeId) (m key v : V) (K : St → Prop) : Prop :=
  withO (keyK P ty) fun q => withO (keyOf q.1 key) fun k => match m with
    | .mp i => withO (s.H.get i) fun o => match o with
      | .map κ E => need (ktEq κ q.1) (∃ E', E' = setE k v E ∧ setP s i (some (.map κ E')) K)
      | _ => False
    | _ => False
def mapDelP (P : Program) (s : St) (ty : TypeId) (m key : V) (K : St → Prop) : Prop :=
  withO (keyK P ty) fun q => withO (keyOf q.1 key) fun k => match m with
    | .nilm => K s
    | .mp i => withO (s.H.get i) fun o => match o with
      | .map κ E => need (ktEq κ q.1) (∃ E', E' = delE k E ∧ setP s i (some (.map κ E')) K)
      | _ => False
    | _ => False
def makeMapP (P : Program) (t : Tr V) (s : St) (ty : TypeId) (x : Option Operand) (K : V → St → Prop) : Prop :=
  withO (keyK P ty) fun q => (match x with
    | none => newP s (.map q.1 []) fun b s => K (.mp b) s
    | some x => withO (opd t x) fun v => match v with
      | .int _ _ => newP s (.map q.1 []) fun b s => K (.mp b) s
      | _ => False)

section
variable {P : Program} {ρ ρ' : Ren} {s s' : St} {w w' : World} {o : Oper} {a act : Act} {t : Tr V}

theorem ktEq_ok {a b : KT} (h : ktEq a b = true) : a = b := by
  cases a <;> cases b <;> simp_all [ktEq]
/-- What is said of a kind of keys. -/
def KindOk (P : Program) (kt : TypeId) : KT → Prop
  | .i k => P.underlying kt = some (.int k)
  | .s => P.underlying kt = some .string
theorem keyK_ok {ty e : TypeId} {κ : KT} (h : keyK P ty = some (κ, e)) : ∃ kt, P.underlying ty = some (.map kt e) ∧ KindOk P kt κ := by
  unfold keyK at h
  split at h
  · rename_i kt e' hu
    split at h
    · rename_i i hk
      simp at h
      obtain ⟨rfl, rfl⟩ := h
      exact ⟨kt, hu, hk⟩
    · rename_i hk
      simp at h
      obtain ⟨rfl, rfl⟩ := h
      exact ⟨kt, hu, hk⟩
    · cases h
  · cases h
theorem keyOf_ok {κ : KT} {v : V} {k : Key} (h : keyOf κ v = some k) {v' : Value} (hv : cz ρ v = some v') : kval κ k = some v' := by
  unfold keyOf at h
  split at h
  · split at h
    · rename_i e
      subst e
      cases h
      simpa [cz, kval] using hv
    · cases h
  · cases h
    simpa [cz, kval] using hv
  · cases h
theorem check_ok {kt : TypeId} {κ : KT} (h : KindOk P kt κ) (u : Value) (b : Bool) (w : World) : (Instr.checkKey b 10000 kt u).run P w = .ok () w := by
  show (Instr.checkKey b (9999 + 1) kt u).run P w = _
  unfold Instr.checkKey
  cases κ with
  | i k => rw [Sem.run_bind, run_underlying h]; rfl
  | s => rw [Sem.run_bind, run_underlying h]; rfl
theorem bytes_beq (a b : ByteArray) : (a == b) = decide (a = b) := by
  rw [show (a == b) = (a.data == b.data) from rfl, Bool.eq_iff_iff, beq_iff_eq]
  simp only [decide_eq_true_eq]
  exact ⟨fun h => ByteArray.ext h, fun h => by rw [h]⟩
def descOf : KT → TypeDesc
  | .i k => .int k
  | .s => .string
theorem same_ok {κ : KT} {k k' : Key} {u v : Value} (hu : kval κ k = some u) (hv : kval κ k' = some v) : Instr.sameNow (descOf κ) u v = some (decide (k' = k)) ∧ (k' = k → v = u ∧ Instr.sameBits 10000 v u = true) := by
  cases κ with
  | i kk =>
    cases k <;> cases k' <;> simp only [kval, Option.some.injEq, reduceCtorEq] at hu hv
    rename_i n n'
    subst hu hv
    refine ⟨?_, fun e => ?_⟩
    · simp only [descOf, Instr.sameNow, if_true]
      congr 1
      rw [Bool.eq_iff_iff]
      simp only [beq_iff_eq, decide_eq_true_eq, Key.i.injEq]
      exact eq_comm
    · cases e
      exact ⟨rfl, by simp [Instr.sameBits]⟩
  | s =>
    cases k <;> cases k' <;> simp only [kval, Option.some.injEq, reduceCtorEq] at hu hv
    rename_i n n'
    subst hu hv
    refine ⟨?_, fun e => ?_⟩
    · simp only [descOf, Instr.sameNow, bytes_beq]
      congr 1
      rw [Bool.eq_iff_iff]
      simp only [decide_eq_true_eq, Key.s.injEq]
      exact eq_comm
    · cases e
      exact ⟨rfl, by simp [Instr.sameBits, bytes_beq]⟩
/-- What a search finds. -/
theorem find_ok {κ : KT} {k : Key} {u : Value} (hu : kval κ k = some u) : ∀ {E : List (Key × V)} {es : List MapEntry} {i : Nat}, czE ρ κ E es →
    (getE k E = none ∧ Instr.findNow (descOf κ) u es i = some none ∧ delE k E = E ∧ ∀ v, setE k v E = E ++ [(k, v)]) ∨
    ∃ j v e, getE k E = some v ∧ cz ρ v = some e.val ∧ Instr.findNow (descOf κ) u es i = some (some (i + j, e.val)) ∧ es[j]? = some e ∧ e.key = u ∧ Instr.sameBits 10000 e.key u = true ∧ delE k E = E.eraseIdx j ∧ (∀ v, setE k v E = E.set j (k, v)) ∧ j < E.length
  | [], [], i, _ => .inl ⟨rfl, rfl, rfl, fun _ => rfl⟩
  | (k', v') :: E, e :: es, i, ⟨h1, h2, h3⟩ => by
    obtain ⟨g1, g2⟩ := same_ok hu h1
    by_cases hk : k' = k
    · right
      obtain ⟨g3, g4⟩ := g2 hk
      refine ⟨0, v', e, by simp [getE, hk], h2, ?_, rfl, g3, g4, by simp [delE, hk], fun v => by simp [setE, hk], by simp⟩
      simp only [Instr.findNow, g1, hk, decide_true, Nat.add_zero]
    · have hf : Instr.findNow (descOf κ) u (e :: es) i = Instr.findNow (descOf κ) u es (i + 1) := by simp only [Instr.findNow, g1, hk, decide_false]
      rcases find_ok hu (i := i + 1) h3 with ⟨q1, q2, q3, q4⟩ | ⟨j, v, e', q1, q2, q3, q4, q5, q6, q7, q8, q9⟩
      · exact .inl ⟨by simp [getE, hk, q1], hf.trans q2, by simp [delE, hk, q3], fun v => by simp [setE, hk, q4]⟩
      · exact .inr ⟨j + 1, v, e', by simp [getE, hk, q1], q2, by rw [hf, q3]; congr 3; omega, by simpa using q4, q5, q6, by simp [delE, hk, q7], fun v => by simp [setE, hk, q8], by simpa using q9⟩
  | [], _ :: _, _, h => h.elim
  | _ :: _, [], _, h => h.elim
theorem run_findKey {kt : TypeId} {κ : KT} (h : KindOk P kt κ) {u : Value} {es : List MapEntry} {r : Option (Nat × Value)} (hf : Instr.findNow (descOf κ) u es 0 = some r) (w : World) : (Instr.findKey kt u es).run P w = .ok r w := by
  unfold Instr.findKey
  cases κ with
  | i k => rw [Sem.run_bind, run_underlying h]; simp only [descOf] at hf; simp [hf]
  | s => rw [Sem.run_bind, run_underlying h]; simp only [descOf] at hf; simp [hf]
theorem run_getMap {r : Nat} {es : Array MapEntry} {c : Nat} (h : w.heap[r]? = some (.map es c)) : (getObj r).run P w = .ok (.map es c) w := by simp [getObj, Sem.run, h]
theorem run_setMap {r : Nat} {es : Array MapEntry} {c : Nat} (h : w.heap[r]? = some (.map es c)) (o : Obj) : (setObj r o).run P w = .ok () (w.putObj r o) := by simp [setObj, Sem.run, h, World.putObj]

theorem czE_length {κ : KT} : ∀ {E : List (Key × V)} {es : List MapEntry}, czE ρ κ E es → es.length = E.length
  | [], [], _ => rfl
  | (_, _) :: E, _ :: es, ⟨_, _, h⟩ => by simp [czE_length h]
  | [], _ :: _, h => h.elim
  | _ :: _, [], h => h.elim
theorem czE_push {κ : KT} {k : Key} {v : V} {e : MapEntry} (h1 : kval κ k = some e.key) (h2 : cz ρ v = some e.val) : ∀ {E : List (Key × V)} {es : List MapEntry}, czE ρ κ E es → czE ρ κ (E ++ [(k, v)]) (es ++ [e])
  | [], [], _ => ⟨h1, h2, trivial⟩
  | (_, _) :: _, _ :: _, ⟨a, b, c⟩ => ⟨a, b, czE_push h1 h2 c⟩
  | [], _ :: _, h => h.elim
  | _ :: _, [], h => h.elim
theorem czE_set {κ : KT} {k : Key} {v : V} {f : MapEntry → MapEntry} (h1 : ∀ e, kval κ k = some (f e).key) (h2 : ∀ e, cz ρ v = some (f e).val) : ∀ (j : Nat) {E : List (Key × V)} {es : List MapEntry}, czE ρ κ E es → czE ρ κ (E.set j (k, v)) (es.modify j f)
  | _, [], [], _ => by simp [czE]
  | 0, (_, _) :: _, e :: _, ⟨a, b, c⟩ => by simpa [czE] using ⟨h1 e, h2 e, c⟩
  | j + 1, (_, _) :: _, _ :: _, ⟨a, b, c⟩ => by simpa [czE] using ⟨a, b, czE_set h1 h2 j c⟩
  | _, [], _ :: _, h => h.elim
  | _, _ :: _, [], h => h.elim
theorem czE_erase {κ : KT} : ∀ (j : Nat) {E : List (Key × V)} {es : List MapEntry}, czE ρ κ E es → czE ρ κ (E.eraseIdx j) (es.eraseIdx j)
  | _, [], [], _ => by simp [czE]
  | 0, (_, _) :: _, e :: _, ⟨a, b, c⟩ => by simpa using c
  | j + 1, (_, _) :: _, _ :: _, ⟨a, b, c⟩ => by simpa [czE] using ⟨a, b, czE_erase j c⟩
  | _, [], _ :: _, h => h.elim
  | _, _ :: _, [], h => h.elim
theorem Borns.erase {es : List MapEntry} {c : Nat} (h : Borns es c) (j : Nat) : Borns (es.eraseIdx j) c :=
  ⟨fun e he => h.1 e ((List.eraseIdx_sublist es j).subset he), h.2.sublist (List.eraseIdx_sublist es j)⟩
theorem Borns.push {es : List MapEntry} {c : Nat} (h : Borns es c) {e : MapEntry} (he : e.born = c) : Borns (es ++ [e]) (c + 1) := by
  refine ⟨fun x hx => ?_, List.pairwise_append.2 ⟨h.2, by simp, fun x hx y hy => ?_⟩⟩
  · rcases List.mem_append.1 hx with hx | hx
    · have := h.1 x hx; omega
    · rw [List.mem_singleton.1 hx, he]; omega
  · rw [List.mem_singleton.1 hy, he]
    have := h.1 x hx; omega
theorem Borns.modify {es : List MapEntry} {c : Nat} (h : Borns es c) {f : MapEntry → MapEntry} (hf : ∀ e, (f e).born = e.born) (j : Nat) : Borns (es.modify j f) c := by
  have e : ∀ (es : List MapEntry) (j : Nat), (es.modify j f).map (·.born) = es.map (·.born) := fun es => by
    induction es with
    | nil => intro j; simp
    | cons x l ih =>
      intro j
      cases j with
      | zero => simp [hf]
      | succ j => simpa using ih j
  have h1 : ∀ es : List MapEntry, (es.Pairwise fun a b => a.born ≠ b.born) ↔ (es.map (·.born)).Pairwise (· ≠ ·) := fun es => by rw [List.pairwise_map]
  refine ⟨fun x hx => ?_, (h1 _).2 (by rw [e]; exact (h1 _).1 h.2)⟩
  have : x.born ∈ (es.modify j f).map (·.born) := List.mem_map_of_mem hx
  rw [e] at this
  obtain ⟨y, hy, hb⟩ := List.mem_map.1 this
  rw [← hb]
  exact h.1 y hy

theorem Step.setMap (hr : Rel ρ s w) {i b : Nat} {κ : KT} {E E' : List (Key × V)} {es' : List MapEntry} {c' : Nat} {H : Tr SObj} (hg : s.H.get i = some (.map κ E)) (hb : ρ.β i = some b) (hf : ∀ k, ρ.fp i k ↔ k = b) (hlt : b < w.heap.size) (hE : czE ρ κ E' es') (hB : Borns es' c')
    (hH : ∀ m, H.get m = if m = i then some (.map κ E') else s.H.get m) : Step md s.n s ρ w ⟨s.n, H⟩ ρ (w.putObj b (.map es'.toArray c')) :=
  Step.set hr hg hH ⟨b, es', c', hb, World.putObj_heap_same hlt, hE, hB, hf⟩ (fun k hk => World.putObj_heap_other fun e => hk ((hf k).2 e)) World.putObj_size rfl rfl rfl

/-- A look at a map. -/
theorem lookP_ok {ty : TypeId} {m key : V} {ok : Bool} {K : V → List Nat → Prop} {x y : Operand} (hop : o.op = .lookup ty x y ok) (h : lookP P s ty m key ok K) : ∃ v xs, K v xs ∧ ∀ {ρ : Ren} {act : Act} {w : World} {s' : St}, Rel ρ s' w → (∀ x ∈ xs, s'.H.get x = s.H.get x) →
    cz ρ m = some (act.eval x) → cz ρ key = some (act.eval y) → ∃ v', cz ρ v = some v' ∧ (execOp act.eval o).run P w = .ok (.value v') w := by
  unfold lookP at h
  replace h := withO_ok h; obtain ⟨⟨κ, e⟩, hq, h⟩ := h
  replace h := withO_ok h; obtain ⟨k, hk, h⟩ := h
  replace h := withO_ok h; obtain ⟨z, hz, h⟩ := h
  replace h := withO_ok h; obtain ⟨zv, hzv, h⟩ := h
  obtain ⟨kt, hu, hko⟩ := keyK_ok hq
  have hck := fun (u : Value) b w => check_ok (P := P) hko u b w
  split at h
  · have hrun : ∀ {act : Act} {w : World}, Value.map none = act.eval x → (execOp act.eval o).run P w = .ok (.value (if ok then .tuple #[z, .bool false] else z)) w := by
      intro act w e
      simp only [execOp, hop, Instr.lookup, Sem.run_bind, run_underlying hu, Result.andThen_ok, ← e, Sem.run_pure, hck]
      have hf : (Instr.findKey kt (act.eval y) []).run P w = .ok none w := run_findKey hko rfl w
      simp [hf, run_zeroValue hz]
    cases ok with
    | true =>
      refine ⟨_, _, h, fun {ρ act w s'} hr hs hm hkey => ⟨.tuple #[z, .bool false], by simp [cz, czl, cz_ofV (ρ := ρ) hzv], ?_⟩⟩
      simp only [cz, Option.some.injEq] at hm
      rw [hrun hm]; rfl
    | false =>
      refine ⟨_, _, h, fun {ρ act w s'} hr hs hm hkey => ⟨z, cz_ofV hzv, ?_⟩⟩
      simp only [cz, Option.some.injEq] at hm
      rw [hrun hm]; rfl
  · rename_i i
    replace h := withO_ok h; obtain ⟨ob, ho, h⟩ := h
    split at h
    · rename_i κ' E
      obtain ⟨hb, h1, h2⟩ := need_ok h
      have := ktEq_ok hb
      subst this
      have hrun : ∀ {ρ : Ren} {act : Act} {w : World} {s' : St}, Rel ρ s' w → (∀ x ∈ [i], s'.H.get x = s.H.get x) → cz ρ (.mp i) = some (act.eval x) → cz ρ key = some (act.eval y) →
          (getE k E = none ∧ (execOp act.eval o).run P w = .ok (.value (if ok then .tuple #[z, .bool false] else z)) w) ∨ ∃ v v', getE k E = some v ∧ cz ρ v = some v' ∧ (execOp act.eval o).run P w = .ok (.value (if ok then .tuple #[v', .bool true] else v')) w := by
        intro ρ act w s' hr hs hm hkey
        obtain ⟨b, es, c, g1, g2, g3, g4, g5⟩ := hr.obj i _ ((hs i (by simp)).trans ho)
        simp only [cz, g1, Option.map_some, Option.some.injEq] at hm
        rcases find_ok (keyOf_ok hk hkey) (i := 0) g3 with ⟨q1, q2, _⟩ | ⟨j, v, e', q1, q2, q3, _⟩
        · refine .inl ⟨q1, ?_⟩
          simp only [execOp, hop, Instr.lookup, Sem.run_bind, run_underlying hu, Result.andThen_ok, ← hm, run_getMap (P := P) g2, Sem.run_pure, hck, run_findKey (P := P) hko q2 w]
          simp [run_zeroValue hz]
        · refine .inr ⟨v, e'.val, q1, q2, ?_⟩
          simp only [execOp, hop, Instr.lookup, Sem.run_bind, run_underlying hu, Result.andThen_ok, ← hm, run_getMap (P := P) g2, Sem.run_pure, hck, run_findKey (P := P) hko q3 w]
      cases hg : getE k E with
      | none =>
        have h2 := h2 hg
        cases ok with
        | true =>
          refine ⟨_, _, h2, fun {ρ act w s'} hr hs hm hkey => ⟨.tuple #[z, .bool false], by simp [cz, czl, cz_ofV (ρ := ρ) hzv], ?_⟩⟩
          rcases hrun hr hs hm hkey with ⟨_, q⟩ | ⟨v, v', q, _⟩
          · rw [q]; rfl
          · rw [hg] at q; cases q
        | false =>
          refine ⟨_, _, h2, fun {ρ act w s'} hr hs hm hkey => ⟨z, cz_ofV hzv, ?_⟩⟩
          rcases hrun hr hs hm hkey with ⟨_, q⟩ | ⟨v, v', q, _⟩
          · rw [q]; rfl
          · rw [hg] at q; cases q
      | some v0 =>
        have h1 := h1 v0 hg
        cases ok with
        | true =>
          refine ⟨_, _, h1, fun {ρ act w s'} hr hs hm hkey => ?_⟩
          rcases hrun hr hs hm hkey with ⟨q, _⟩ | ⟨v, v', q, q2, q3⟩
          · rw [hg] at q; cases q
          · rw [hg] at q; cases q
            exact ⟨.tuple #[v', .bool true], by simp [cz, czl, q2], by rw [q3]; rfl⟩
        | false =>
          refine ⟨_, _, h1, fun {ρ act w s'} hr hs hm hkey => ?_⟩
          rcases hrun hr hs hm hkey with ⟨q, _⟩ | ⟨v, v', q, q2, q3⟩
          · rw [hg] at q; cases q
          · rw [hg] at q; cases q
            exact ⟨v', q2, by rw [q3]; rfl⟩
    · exact h.elim
  · exact h.elim

theorem mapSetP_ok {ty : TypeId} {m key v : V} {K : St → Prop} (h : mapSetP P s ty m key v K) (hr : Rel ρ s w) {m' key' v' : Value} (hm : cz ρ m = some m') (hkey : cz ρ key = some key') (hv : cz ρ v = some v') :
    ∃ s' w', K s' ∧ Step md s.n s ρ w s' ρ w' ∧ (Instr.mapUpdate ty m' key' v').run P w = .ok () w' := by
  unfold mapSetP at h
  replace h := withO_ok h; obtain ⟨⟨κ, e⟩, hq, h⟩ := h
  replace h := withO_ok h; obtain ⟨k, hk, h⟩ := h
  obtain ⟨kt, hu, hko⟩ := keyK_ok hq
  have hck := fun (u : Value) b w => check_ok (P := P) hko u b w
  split at h
  · rename_i i
    replace h := withO_ok h; obtain ⟨ob, ho, h⟩ := h
    split at h
    · rename_i κ' E
      obtain ⟨hb, E', hE', h⟩ := need_ok h
      have := ktEq_ok hb
      subst this
      subst hE'
      replace h := setP_ok h; obtain ⟨H, hH, h⟩ := h
      obtain ⟨b, es, c, g1, g2, g3, g4, g5⟩ := hr.obj i _ ho
      simp only [cz, g1, Option.map_some, Option.some.injEq] at hm
      subst hm
      have hlt := hr.blt i b g1
      have hkv := keyOf_ok hk hkey
      rcases find_ok hkv (i := 0) g3 with ⟨q1, q2, q3, q4⟩ | ⟨j, v0, e', q1, q2, q3, q4, q5, q6, q7, q8, q9⟩
      · rw [q4] at hH
        have hE2 := czE_push (e := ⟨key', v', c⟩) hkv hv g3
        refine ⟨_, _, h, Step.setMap hr ho g1 g5 hlt hE2 (g4.push (e := ⟨key', v', c⟩) rfl) hH, ?_⟩
        simp only [Instr.mapUpdate, Sem.run_bind, run_underlying hu, Result.andThen_ok, run_getMap (P := P) g2, hck, run_findKey (P := P) hko q2 w, run_setMap (P := P) g2]
        congr 2
        simp
      · rw [q8] at hH
        have hE2 := czE_set (f := fun e => { e with key := key', val := v' }) (fun _ => hkv) (fun _ => hv) j g3
        refine ⟨_, _, h, Step.setMap hr ho g1 g5 hlt hE2 (g4.modify (f := fun e => { e with key := key', val := v' }) (fun _ => rfl) j) hH, ?_⟩
        rw [Nat.zero_add] at q3
        simp only [Instr.mapUpdate, Sem.run_bind, run_underlying hu, Result.andThen_ok, run_getMap (P := P) g2, hck, run_findKey (P := P) hko q3 w]
        simp only [List.getElem?_toArray, q4, Option.map_some, Option.getD_some, Instr.keyThatStays, q6, if_true, Sem.run_pure, Result.andThen_ok, run_setMap (P := P) g2]
        congr 2
        simp [List.modify_toArray]
    · exact h.elim
  · exact h.elim

theorem mapDelP_ok {ty T : TypeId} {ts : Array TypeId} (hts : ts[0]? = some ty) {m key : V} {K : St → Prop} (h : mapDelP P s ty m key K) (hr : Rel ρ s w) {m' key' : Value} (hm : cz ρ m = some m') (hkey : cz ρ key = some key') :
    ∃ s' w', K s' ∧ Step md s.n s ρ w s' ρ w' ∧ (Builtin.delete_ ts T #[m', key']).run P w = .ok (.tuple #[]) w' := by
  unfold mapDelP at h
  replace h := withO_ok h; obtain ⟨⟨κ, e⟩, hq, h⟩ := h
  replace h := withO_ok h; obtain ⟨k, hk, h⟩ := h
  obtain ⟨kt, hu, hko⟩ := keyK_ok hq
  have hck := fun (u : Value) b w => check_ok (P := P) hko u b w
  split at h
  · simp only [cz, Option.some.injEq] at hm
    subst hm
    exact ⟨s, w, h, Step.refl hr, by simp [Builtin.delete_, hts, run_underlying hu, hck]⟩
  · rename_i i
    replace h := withO_ok h; obtain ⟨ob, ho, h⟩ := h
    split at h
    · rename_i κ' E
      obtain ⟨hb, E', hE', h⟩ := need_ok h
      have := ktEq_ok hb
      subst this
      subst hE'
      replace h := setP_ok h; obtain ⟨H, hH, h⟩ := h
      obtain ⟨b, es, c, g1, g2, g3, g4, g5⟩ := hr.obj i _ ho
      simp only [cz, g1, Option.map_some, Option.some.injEq] at hm
      subst hm
      have hlt := hr.blt i b g1
      have hkv := keyOf_ok hk hkey
      rcases find_ok hkv (i := 0) g3 with ⟨q1, q2, q3, q4⟩ | ⟨j, v0, e', q1, q2, q3, q4, q5, q6, q7, q8, q9⟩
      · rw [q3] at hH
        refine ⟨_, _, h, Step.setMap hr ho g1 g5 hlt g3 g4 hH, ?_⟩
        simp [Builtin.delete_, hts, run_underlying hu, hck, run_getMap (P := P) g2, run_findKey (P := P) hko q2 w, run_setMap (P := P) g2]
      · rw [q7] at hH
        refine ⟨_, _, h, Step.setMap hr ho g1 g5 hlt (czE_erase j g3) (g4.erase j) hH, ?_⟩
        rw [Nat.zero_add] at q3
        have hjl : j < es.length := by rw [czE_length g3]; exact q9
        simp [Builtin.delete_, hts, run_underlying hu, hck, run_getMap (P := P) g2, run_findKey (P := P) hko q3 w, run_setMap (P := P) g2, Array.eraseIdxIfInBounds, hjl]
    · exact h.elim
  · exact h.elim

theorem makeMapP_ok {ty : TypeId} {x : Option Operand} {K : V → St → Prop} (hop : o.op = .makeMap ty x) (h : makeMapP P t s ty x K) (hr : Rel ρ s w) (hx : ∀ z ∈ o.op.operands, OpdOk ρ t act z) :
    ∃ v s' ρ' w' v', K v s' ∧ Step md s.n s ρ w s' ρ' w' ∧ cz ρ' v = some v' ∧ (execOp act.eval o).run P w = .ok (.value v') w' := by
  unfold makeMapP at h
  replace h := withO_ok h; obtain ⟨⟨κ, e⟩, hq, h⟩ := h
  obtain ⟨kt, hu, hko⟩ := keyK_ok hq
  have key : (newP s (.map κ []) fun b s => K (.mp b) s) → (execOp act.eval o).run P w = .ok (.value (.map (some w.heap.size))) (w.alloc (.map #[] 0)) → ∃ v s' ρ' w' v', K v s' ∧ Step md s.n s ρ w s' ρ' w' ∧ cz ρ' v = some v' ∧ (execOp act.eval o).run P w = .ok (.value v') w' := fun h hrun => by
    replace h := newP_ok h; obtain ⟨H, hH, h⟩ := h
    refine ⟨_, _, ρ.add s.n (some w.heap.size) 0 0 false none (· = w.heap.size), _, _, h, Step.new1 hr hH ⟨w.heap.size, [], 0, by simp [Ren.add], heap_alloc_new w _, trivial, ⟨by simp, List.Pairwise.nil⟩, fun k => by simp [Ren.add]⟩ (fun k hk => Below.heap_alloc w _ k hk) (fun k hk => ?_) (fun x hx => ?_) (fun x hx => by cases hx) ?_ rfl rfl rfl, by simp [cz, Ren.add], hrun⟩
    · subst hk; exact ⟨Nat.le_refl _, by rw [World.size_alloc]; omega⟩
    · cases hx; rw [World.size_alloc]; omega
    · rw [World.size_alloc]; omega
  split at h
  · exact key h (by simp [execOp, hop, Instr.makeMap])
  · rename_i x
    replace h := withO_ok h; obtain ⟨v, hv, h⟩ := h
    split at h
    · have hcz := hx x (by rw [hop]; simp [Op.operands]) _ hv
      simp only [cz, Option.some.injEq] at hcz
      exact key h (by simp [execOp, hop, Instr.makeMap, ← hcz, run_underlying hu, asInt, asIntOf])
    · exact h.elim
end
end Sy
end Go.Proofs.Ytmgcpfljhcahoaa
end
section
namespace Go.Proofs.Ytmgcpfljhcahoaa
open Go Go.RowKit
namespace Sy
variable {md : Bool}

def zipB : List (Key × V) → List Nat → List (Key × V × Nat)
  | p :: E, b :: B => (p.1, p.2, b) :: zipB E B
  | _, _ => []
def keyV : Key → KT → V
  | .i n, .i k => .int k n
  | .i n, .s => .int .i64 n
  | .s b, _ => .str b
/-- The entries' numbers and the clock of a map, laid open. -/
def exposeP (s : St) (i : Nat) (κ : KT) (E : List (Key × V)) (K : Nat → List (Key × V × Nat) → St → Prop) : Prop :=
  ∀ (B : List Nat) (c : Nat), B.length = E.length → B.Nodup → (∀ b ∈ B, b < c) → setP s i (some (.mapb κ (zipB E B) c)) fun s => K c (zipB E B) s
/-- A range over a map begins. -/
def rangeP (P : Program) (s : St) (ty : TypeId) (m : V) (K : V → St → Prop) : Prop := match P.underlying ty, m with
  | some (.map _ _), .mp i => withO (s.H.get i) fun o => match o with
    | .map κ E => exposeP s i κ E fun c _ s => newP s (.iter i c [] c) fun j s => K (.ptr j 0) s
    | .mapb _ _ c => newP s (.iter i c [] c) fun j s => K (.ptr j 0) s
    | _ => False
  | _, _ => False
/-- The next entry: whichever is left. -/
def nextP (s : St) (it : V) (K : V → St → Prop) : Prop := match it with
  | .ptr j 0 => withO (s.H.get j) fun o => match o with
    | .iter m since arr c => withO (s.H.get m) fun o => match o with
      | .mapb κ E c' => (∀ p ∈ E, p.2.2 < since) ∧ since ≤ c ∧ ((∀ p ∈ E, p.2.2 ∈ arr) → K (.tup [.bool false]) s) ∧ ∀ p, p ∈ E → p.2.2 ∉ arr → setP s j (some (.iter m since (arr ++ [p.2.2]) c')) fun s => K (.tup [.bool true, keyV p.1 κ, p.2.1]) s
      | _ => False
    | _ => False
  | _ => False
/-- The entry that came out last, read again. -/
def entryP (s : St) (it : V) (K : V → St → Prop) : Prop := match it with
  | .ptr j 0 => withO (s.H.get j) fun o => match o with
    | .iter m _ arr c => withO (s.H.get m) fun o => match o with
      | .mapb κ E c' => c = c' ∧ ∃ p arr', arr = arr' ++ [p.2.2] ∧ p ∈ E ∧ K (.tup [keyV p.1 κ, p.2.1]) s
      | _ => False
    | _ => False
  | _ => False
/-- The entry of a key, and its number: made where there is none. -/
def getB (k : Key) : List (Key × V × Nat) → Option (V × Nat)
  | [] => none
  | p :: l => if p.1 = k then some p.2 else getB k l
def entP (P : Program) (s : St) (i : Nat) (κ : KT) (c : Nat) (E : List (Key × V × Nat)) (k : Key) (e : TypeId) (K : V → St → Prop) : Prop :=
  withO (zeroT P e) fun z => withO (ofV z) fun zv => (∀ v b, getB k E = some (v, b) → K (.tup [v, .int .i64 b]) s) ∧ (getB k E = none → setP s i (some (.mapb κ (E ++ [(k, zv, c)]) (c + 1))) fun s => K (.tup [zv, .int .i64 c]) s)
def mapEntP (P : Program) (s : St) (ty : TypeId) (m key : V) (K : V → St → Prop) : Prop :=
  withO (keyK P ty) fun q => withO (keyOf q.1 key) fun k => match m with
    | .mp i => withO (s.H.get i) fun o => match o with
      | .map κ E => need (ktEq κ q.1) (exposeP s i κ E fun c E s => entP P s i κ c E k q.2 K)
      | .mapb κ E c => need (ktEq κ q.1) (entP P s i κ c E k q.2 K)
      | _ => False
    | _ => False
/-- The entry of a number gets a value. -/
def entSetP (s : St) (m stamp v : V) (K : St → Prop) : Prop := match m, stamp with
  | .mp i, .int _ n => withO (s.H.get i) fun o => match o with
    | .mapb κ E c => (∃ p ∈ E, (p.2.2 : Int) = n) ∧ ∃ E', E' = (E.map fun p => if (p.2.2 : Int) = n then (p.1, v, p.2.2) else p) ∧ setP s i (some (.mapb κ E' c)) K
    | _ => False
  | _, _ => False

section
variable {P : Program} {ρ ρ' : Ren} {s s' : St} {w w' : World} {o : Oper} {a act : Act} {t : Tr V}

theorem zipB_fst : ∀ {E : List (Key × V)} {B : List Nat}, B.length = E.length → ((zipB E B).map fun p => (p.1, p.2.1)) = E
  | [], [], _ => rfl
  | (_, _) :: E, _ :: B, h => by simp only [zipB, List.map_cons]; rw [zipB_fst (E := E) (B := B) (by simpa using h)]
theorem zipB_snd : ∀ {E : List (Key × V)} {B : List Nat}, B.length = E.length → ((zipB E B).map fun p => p.2.2) = B
  | [], [], _ => rfl
  | (_, _) :: E, _ :: B, h => by simp only [zipB, List.map_cons]; rw [zipB_snd (E := E) (B := B) (by simpa using h)]
theorem exposeP_ok {i : Nat} {κ : KT} {E : List (Key × V)} {K : Nat → List (Key × V × Nat) → St → Prop} (h : exposeP s i κ E K) (hr : Rel ρ s w) (ho : s.H.get i = some (.map κ E)) :
    ∃ c E' H, K c E' ⟨s.n, H⟩ ∧ Step md s.n s ρ w ⟨s.n, H⟩ ρ w ∧ H.get i = some (.mapb κ E' c) := by
  obtain ⟨b, es, c, g1, g2, g3, g4, g5⟩ := hr.obj i _ ho
  have hl : (es.map (·.born)).length = E.length := by rw [List.length_map]; exact czE_length g3
  have hp := h (es.map (·.born)) c hl (List.pairwise_map.2 g4.2) (fun x hx => by obtain ⟨e, he, rfl⟩ := List.mem_map.1 hx; exact g4.1 e he)
  obtain ⟨H, hH, hp⟩ := setP_ok hp
  refine ⟨c, _, H, hp, Step.set hr ho hH ⟨b, es, g1, g2, by rw [zipB_fst hl]; exact g3, by rw [zipB_snd hl], g4, g5⟩ (fun _ _ => rfl) rfl rfl rfl rfl, by rw [hH, if_pos rfl]⟩
theorem Step.iter (h : Rel ρ s w) {i b c : Nat} (hi : i < s.n) (hb : ρ.β i = some b) {H : Tr SObj} (hH : ∀ m, H.get m = if m = s.n then some (.iter i c [] c) else s.H.get m) :
    Step md s.n s ρ w ⟨s.n + 1, H⟩ (ρ.add s.n (some w.heap.size) 0 0 false none (· = w.heap.size)) (w.alloc (.mapIter (some b) c #[] c)) := by
  refine Step.new1 h hH ⟨w.heap.size, b, by simp [Ren.add], ?_, heap_alloc_new w _, fun k => by simp [Ren.add]⟩ (fun k hk => Below.heap_alloc w _ k hk) (fun k hk => ?_) (fun x hx => ?_) (fun x hx => by cases hx) ?_ rfl rfl rfl
  · have : (ρ.add s.n (some w.heap.size) 0 0 false none (· = w.heap.size)).β i = ρ.β i := if_neg (Nat.ne_of_lt hi)
    rw [this]; exact hb
  · subst hk; exact ⟨Nat.le_refl _, by show _ < (w.alloc _).heap.size; rw [World.size_alloc]; omega⟩
  · cases hx; show _ < (w.alloc _).heap.size; rw [World.size_alloc]; omega
  · show _ ≤ (w.alloc _).heap.size; rw [World.size_alloc]; omega
theorem rangeP_ok {ty : TypeId} {m : V} {K : V → St → Prop} (h : rangeP P s ty m K) (hr : Rel ρ s w) {m' : Value} (hm : cz ρ m = some m') :
    ∃ v s' ρ' w' v', K v s' ∧ Step md s.n s ρ w s' ρ' w' ∧ cz ρ' v = some v' ∧ (Instr.range ty m').run P w = .ok v' w' := by
  unfold rangeP at h
  split at h
  · rename_i kt e i hu
    replace h := withO_ok h; obtain ⟨ob, ho, h⟩ := h
    have hi := hr.live i _ ho
    split at h
    · rename_i κ E
      obtain ⟨c, E', H, h, st, hg⟩ := exposeP_ok h hr ho
      obtain ⟨H2, hH2, h⟩ := newP_ok h
      obtain ⟨b, es, g1, g2, g3, g6, g4, g5⟩ := st.rel.obj i _ hg
      simp only [cz, g1, Option.map_some, Option.some.injEq] at hm
      subst hm
      exact ⟨_, _, _, _, _, h, st.trans (Step.iter st.rel hi g1 hH2), cz_ptr_new _, run_range_map w ty kt e b es.toArray c hu g2⟩
    · rename_i κ E c
      obtain ⟨H2, hH2, h⟩ := newP_ok h
      obtain ⟨b, es, g1, g2, g3, g6, g4, g5⟩ := hr.obj i _ ho
      simp only [cz, g1, Option.map_some, Option.some.injEq] at hm
      subst hm
      exact ⟨_, _, _, _, _, h, Step.iter hr hi g1 hH2, cz_ptr_new _, run_range_map w ty kt e b es.toArray c hu g2⟩
    · exact h.elim
  · exact h.elim
theorem keyV_ok {κ : KT} {k : Key} {v : Value} (h : kval κ k = some v) : cz ρ (keyV k κ) = some v := by
  cases κ <;> cases k <;> simp_all [kval, keyV, cz]
theorem czE_mem {κ : KT} : ∀ {E : List (Key × V × Nat)} {es : List MapEntry}, czE ρ κ (E.map fun p => (p.1, p.2.1)) es → es.map (·.born) = (E.map fun p => p.2.2) → ∀ e ∈ es, ∃ p ∈ E, kval κ p.1 = some e.key ∧ cz ρ p.2.1 = some e.val ∧ p.2.2 = e.born
  | [], [], _, _, e, he => by cases he
  | [], _ :: _, h, _, _, _ => h.elim
  | _ :: _, [], h, _, _, _ => h.elim
  | p :: E, e0 :: es, h, hb, e, he => by
    obtain ⟨h1, h2, h3⟩ := h
    simp only [List.map_cons, List.cons.injEq] at hb
    rcases List.mem_cons.1 he with rfl | he
    · exact ⟨p, List.mem_cons_self .., h1, h2, hb.1.symm⟩
    · obtain ⟨q, hq, g⟩ := czE_mem h3 hb.2 e he
      exact ⟨q, List.mem_cons_of_mem _ hq, g⟩
theorem nextP_ok {ty : TypeId} {it : V} {K : V → St → Prop} (h : nextP s it K) (hr : Rel ρ s w) {it' : Value} (hm : cz ρ it = some it') :
    ∃ v s' w' v', K v s' ∧ Step md s.n s ρ w s' ρ w' ∧ cz ρ v = some v' ∧ (Instr.next it' false ty).run P w = .ok v' w' := by
  unfold nextP at h
  split at h
  · rename_i j
    replace h := withO_ok h; obtain ⟨ob, ho, h⟩ := h
    split at h
    · rename_i m since arr c
      replace h := withO_ok h; obtain ⟨ob2, ho2, h⟩ := h
      split at h
      · rename_i κ E c'
        obtain ⟨hlt, hsc, hend, hgo⟩ := h
        obtain ⟨b, r, q1, q2, q3, q4⟩ := hr.obj j _ ho
        obtain ⟨b2, es, g1, g2, g3, g6, g4, g5⟩ := hr.obj m _ ho2
        rw [q2] at g1
        cases g1
        simp only [cz, q1, Option.map_some, Option.some.injEq] at hm
        subst hm
        have hold : ∀ x ∈ es.toArray.toList, x.born < since := fun x hx => by
          obtain ⟨p, hp, _, _, e⟩ := czE_mem g3 g6 x (by simpa using hx)
          rw [← e]; exact hlt p hp
        rcases run_next_at (P := P) w ty b r since c arr.toArray es.toArray c' q3 g2 hold hsc with ⟨h0, hn⟩ | ⟨e, he, w1, hw1, hn⟩
        · refine ⟨_, _, _, _, hend fun p hp => ?_, Step.refl hr, rfl, hn⟩
          have : p.2.2 ∈ es.map (·.born) := by rw [g6]; exact List.mem_map_of_mem hp
          obtain ⟨x, hx, ex⟩ := List.mem_map.1 this
          rw [← ex]
          refine Decidable.byContradiction fun hno => ?_
          have : x ∈ leftOf es.toArray arr.toArray := by unfold leftOf; simp [hx, hno]
          have h1 := Array.eq_empty_of_size_eq_zero h0
          rw [h1] at this
          simp at this
        · have hmem : e ∈ es ∧ e.born ∉ arr := by unfold leftOf at he; simpa using he
          obtain ⟨p, hp, k1, k2, k3⟩ := czE_mem g3 g6 e hmem.1
          obtain ⟨H, hH, h⟩ := setP_ok (hgo p hp (by rw [k3]; exact hmem.2))
          have hblt := hr.blt j b q1
          refine ⟨_, _, _, _, h, Step.set hr ho hH ⟨b, r, q1, q2, ?_, q4⟩ (fun k hk => ?_) ?_ ?_ ?_ ?_ (by rcases hw1 with rfl | rfl <;> first | exact Nat.le_refl _ | exact Nat.le_succ _), ?_, hn⟩
          · have hh : w1.heap = w.heap := by rcases hw1 with rfl | rfl <;> rfl
            simp [ChangeMaps.setBlock, hh, hblt, k3]
          · have hh : w1.heap = w.heap := by rcases hw1 with rfl | rfl <;> rfl
            have hne : b ≠ k := fun e => hk ((q4 k).2 e.symm)
            simp [ChangeMaps.setBlock, hh, hne]
          · have hh : w1.heap = w.heap := by rcases hw1 with rfl | rfl <;> rfl
            simp [ChangeMaps.setBlock, hh]
          · rcases hw1 with rfl | rfl <;> rfl
          · rcases hw1 with rfl | rfl <;> rfl
          · rcases hw1 with rfl | rfl <;> rfl
          · simp [cz, czl, keyV_ok k1, k2]
      · exact h.elim
    · exact h.elim
  · exact h.elim
theorem czE_mem2 {κ : KT} : ∀ {E : List (Key × V × Nat)} {es : List MapEntry}, czE ρ κ (E.map fun p => (p.1, p.2.1)) es → es.map (·.born) = (E.map fun p => p.2.2) → ∀ p ∈ E, ∃ e ∈ es, kval κ p.1 = some e.key ∧ cz ρ p.2.1 = some e.val ∧ p.2.2 = e.born
  | [], [], _, _, p, hp => by cases hp
  | [], _ :: _, h, _, _, _ => h.elim
  | _ :: _, [], h, _, _, _ => h.elim
  | q :: E, e0 :: es, h, hb, p, hp => by
    obtain ⟨h1, h2, h3⟩ := h
    simp only [List.map_cons, List.cons.injEq] at hb
    rcases List.mem_cons.1 hp with rfl | hp
    · exact ⟨e0, List.mem_cons_self .., h1, h2, hb.1.symm⟩
    · obtain ⟨e, he, g⟩ := czE_mem2 h3 hb.2 p hp
      exact ⟨e, List.mem_cons_of_mem _ he, g⟩
theorem entryP_ok {it : V} {K : V → St → Prop} (h : entryP s it K) (hr : Rel ρ s w) {it' : Value} (hm : cz ρ it = some it') :
    ∃ v v', K v s ∧ cz ρ v = some v' ∧ (Instr.entry it').run P w = .ok v' w := by
  unfold entryP at h
  split at h
  · rename_i j
    replace h := withO_ok h; obtain ⟨ob, ho, h⟩ := h
    split at h
    · rename_i m since arr c
      replace h := withO_ok h; obtain ⟨ob2, ho2, h⟩ := h
      split at h
      · rename_i κ E c'
        obtain ⟨rfl, p, arr', rfl, hp, h⟩ := h
        obtain ⟨b, r, q1, q2, q3, q4⟩ := hr.obj j _ ho
        obtain ⟨b2, es, g1, g2, g3, g6, g4, g5⟩ := hr.obj m _ ho2
        rw [q2] at g1
        cases g1
        simp only [cz, q1, Option.map_some, Option.some.injEq] at hm
        subst hm
        obtain ⟨e, he, k1, k2, k3⟩ := czE_mem2 g3 g6 p hp
        rw [k3] at q3
        refine ⟨_, .tuple #[e.key, e.val], h, by simp [cz, czl, keyV_ok k1, k2], run_entry_at w b r since arr'.toArray es.toArray c e (by rw [q3]; simp) g2 (by simpa using he) ?_⟩
        exact List.pairwise_map.2 g4.2
      · exact h.elim
    · exact h.elim
  · exact h.elim
/-- What a search finds, with the number. -/
theorem findB_ok {κ : KT} {k : Key} {u : Value} (hu : kval κ k = some u) : ∀ {E : List (Key × V × Nat)} {es : List MapEntry} {i : Nat}, czE ρ κ (E.map fun p => (p.1, p.2.1)) es → es.map (·.born) = (E.map fun p => p.2.2) →
    (getB k E = none ∧ Instr.findNow (descOf κ) u es i = some none) ∨
    ∃ j v e, getB k E = some (v, e.born) ∧ cz ρ v = some e.val ∧ Instr.findNow (descOf κ) u es i = some (some (i + j, e.val)) ∧ es[j]? = some e ∧ e.key = u ∧ Instr.sameBits 10000 e.key u = true
  | [], [], i, _, _ => .inl ⟨rfl, rfl⟩
  | (k', v', b') :: E, e :: es, i, ⟨h1, h2, h3⟩, hb => by
    simp only [List.map_cons, List.cons.injEq] at hb
    obtain ⟨g1, g2⟩ := same_ok hu h1
    by_cases hk : k' = k
    · right
      obtain ⟨g3, g4⟩ := g2 hk
      refine ⟨0, v', e, by simp [getB, hk, hb.1], h2, ?_, rfl, g3, g4⟩
      simp only [Instr.findNow, g1, hk, decide_true, Nat.add_zero]
    · have hf : Instr.findNow (descOf κ) u (e :: es) i = Instr.findNow (descOf κ) u es (i + 1) := by simp only [Instr.findNow, g1, hk, decide_false]
      rcases findB_ok hu (i := i + 1) h3 hb.2 with ⟨q1, q2⟩ | ⟨j, v, e', q1, q2, q3, q4, q5, q6⟩
      · exact .inl ⟨by simp [getB, hk, q1], hf.trans q2⟩
      · exact .inr ⟨j + 1, v, e', by simp [getB, hk, q1], q2, by rw [hf, q3]; congr 3; omega, by simpa using q4, q5, q6⟩
  | [], _ :: _, _, h, _ => h.elim
  | _ :: _, [], _, h, _ => h.elim
theorem modify_same {f : MapEntry → MapEntry} : ∀ (j : Nat) {es : List MapEntry}, (∀ e, es[j]? = some e → f e = e) → es.modify j f = es
  | _, [], _ => by simp
  | 0, e :: es, h => by simp [h e (by simp)]
  | j + 1, e :: es, h => by simpa using modify_same j fun x hx => h x (by simpa using hx)
theorem entP_ok {ty e kt : TypeId} {i : Nat} {κ : KT} {c : Nat} {E : List (Key × V × Nat)} {k : Key} {K : V → St → Prop} (h : entP P s i κ c E k e K) (hr : Rel ρ s w) (ho : s.H.get i = some (.mapb κ E c)) (hu : P.underlying ty = some (.map kt e)) (hko : KindOk P kt κ)
    {m' key' : Value} (hm : cz ρ (.mp i) = some m') (hkv : kval κ k = some key') :
    ∃ v s' w' v', K v s' ∧ Step md s.n s ρ w s' ρ w' ∧ cz ρ v = some v' ∧ (Instr.mapEntry ty m' key').run P w = .ok v' w' := by
  unfold entP at h
  replace h := withO_ok h; obtain ⟨z, hz, h⟩ := h
  replace h := withO_ok h; obtain ⟨zv, hzv, h1, h2⟩ := h
  have hck := fun (u : Value) b w => check_ok (P := P) hko u b w
  obtain ⟨b, es, g1, g2, g3, g6, g4, g5⟩ := hr.obj i _ ho
  simp only [cz, g1, Option.map_some, Option.some.injEq] at hm
  subst hm
  have hlt := hr.blt i b g1
  rcases findB_ok hkv (i := 0) g3 g6 with ⟨q1, q2⟩ | ⟨j, v0, e', q1, q2, q3, q4, q5, q6⟩
  · obtain ⟨H, hH, h⟩ := setP_ok (h2 q1)
    have hE2 := czE_push (e := ⟨key', z, c⟩) hkv (cz_ofV (ρ := ρ) hzv) g3
    refine ⟨_, _, _, .tuple #[z, .int .i64 c], h, Step.set hr ho hH ⟨b, es ++ [⟨key', z, c⟩], g1, World.putObj_heap_same hlt, by simpa using hE2, by simp [g6], g4.push (e := ⟨key', z, c⟩) rfl, g5⟩ (fun k hk => World.putObj_heap_other fun e => hk ((g5 k).2 e)) World.putObj_size rfl rfl rfl, by simp [cz, czl, cz_ofV (ρ := ρ) hzv], ?_⟩
    simp only [Instr.mapEntry, Sem.run_bind, run_underlying hu, Result.andThen_ok, run_getMap (P := P) g2, hck, run_findKey (P := P) hko q2 w, run_zeroValue hz, run_setMap (P := P) g2, Sem.run_pure, goInt]
    simp
  · have hg := h1 _ _ q1
    have hmod : es.modify j (fun e => { e with key := key' }) = es := modify_same j fun x hx => by
      rw [q4] at hx; cases hx; cases e'; simp only at q5; simp [q5]
    refine ⟨_, s, w.putObj b (.map es.toArray c), .tuple #[e'.val, .int .i64 e'.born], hg, ?_, by simp [cz, czl, q2], ?_⟩
    · have st : Step md s.n s ρ w ⟨s.n, s.H⟩ ρ (w.putObj b (.map es.toArray c)) := Step.set hr ho (o := .mapb κ E c) (fun m => by by_cases e : m = i <;> simp [e, ho]) ⟨b, es, g1, World.putObj_heap_same hlt, g3, g6, g4, g5⟩ (fun k hk => World.putObj_heap_other fun e => hk ((g5 k).2 e)) World.putObj_size rfl rfl rfl
      exact st
    · rw [Nat.zero_add] at q3
      simp only [Instr.mapEntry, Sem.run_bind, run_underlying hu, Result.andThen_ok, run_getMap (P := P) g2, hck, run_findKey (P := P) hko q3 w]
      simp only [List.getElem?_toArray, q4, Option.map_some, Option.getD_some, Instr.keyThatStays, q6, if_true, Sem.run_pure, Result.andThen_ok, run_setMap (P := P) g2, goInt, List.modify_toArray, hmod]
theorem mapEntP_ok {ty : TypeId} {m key : V} {K : V → St → Prop} (h : mapEntP P s ty m key K) (hr : Rel ρ s w) {m' key' : Value} (hm : cz ρ m = some m') (hkey : cz ρ key = some key') :
    ∃ v s' w' v', K v s' ∧ Step md s.n s ρ w s' ρ w' ∧ cz ρ v = some v' ∧ (Instr.mapEntry ty m' key').run P w = .ok v' w' := by
  unfold mapEntP at h
  replace h := withO_ok h; obtain ⟨⟨κ, e⟩, hq, h⟩ := h
  replace h := withO_ok h; obtain ⟨k, hk, h⟩ := h
  obtain ⟨kt, hu, hko⟩ := keyK_ok hq
  split at h
  · rename_i i
    replace h := withO_ok h; obtain ⟨ob, ho, h⟩ := h
    split at h
    · rename_i κ' E
      obtain ⟨hb, h⟩ := need_ok h
      have := ktEq_ok hb
      subst this
      obtain ⟨c, E', H, h, st, hg⟩ := exposeP_ok h hr ho
      obtain ⟨v, s2, w2, v', h1, h2, h3, h4⟩ := entP_ok h st.rel hg hu hko hm (keyOf_ok hk hkey)
      exact ⟨v, s2, w2, v', h1, st.trans h2, h3, h4⟩
    · rename_i κ' E c
      obtain ⟨hb, h⟩ := need_ok h
      have := ktEq_ok hb
      subst this
      exact entP_ok h hr ho hu hko hm (keyOf_ok hk hkey)
    · exact h.elim
  · exact h.elim
theorem mapE_id {v : V} {n : Int} : ∀ {E : List (Key × V × Nat)}, (∀ p ∈ E, (p.2.2 : Int) ≠ n) → (E.map fun p => if (p.2.2 : Int) = n then (p.1, v, p.2.2) else p) = E
  | [], _ => rfl
  | p :: E, h => by
    simp only [List.map_cons]
    rw [if_neg (h p (List.mem_cons_self ..)), mapE_id fun q hq => h q (List.mem_cons_of_mem _ hq)]
theorem findE_ok {κ : KT} {v : V} {v' : Value} {n : Int} (hv : cz ρ v = some v') : ∀ {E : List (Key × V × Nat)} {es : List MapEntry}, czE ρ κ (E.map fun p => (p.1, p.2.1)) es → es.map (·.born) = (E.map fun p => p.2.2) → (es.Pairwise fun a b => a.born ≠ b.born) → (∃ p ∈ E, (p.2.2 : Int) = n) →
    ∃ j, es.findIdx? (fun e => (e.born : Int) == n) = some j ∧ czE ρ κ ((E.map fun p => if (p.2.2 : Int) = n then (p.1, v, p.2.2) else p).map fun p => (p.1, p.2.1)) (es.modify j fun e => { e with val := v' })
  | [], _, _, _, _, h => by obtain ⟨p, hp, _⟩ := h; cases hp
  | _ :: _, [], h, _, _, _ => h.elim
  | (k, v0, b) :: E, e :: es, ⟨h1, h2, h3⟩, hb, hn, h => by
    simp only [List.map_cons, List.cons.injEq] at hb
    by_cases hk : (b : Int) = n
    · refine ⟨0, by simp [List.findIdx?_cons, hb.1, hk], ?_⟩
      have : ∀ p ∈ E, (p.2.2 : Int) ≠ n := fun p hp e' => by
        obtain ⟨x, hx, _, _, ex⟩ := czE_mem2 h3 hb.2 p hp
        refine (List.pairwise_cons.1 hn).1 x hx ?_
        omega
      simp only [List.map_cons, hk, if_true]
      rw [mapE_id this]
      exact ⟨h1, hv, h3⟩
    · obtain ⟨p, hp, ep⟩ := h
      obtain ⟨j, q1, q2⟩ := findE_ok hv h3 hb.2 (List.pairwise_cons.1 hn).2 ⟨p, (List.mem_cons.1 hp).resolve_left (fun e' => hk (by rw [← ep, e'])), ep⟩
      refine ⟨j + 1, by simp [List.findIdx?_cons, hb.1, hk, q1], ?_⟩
      rw [List.modify_succ_cons]
      simp only [List.map_cons, if_neg hk]
      exact ⟨h1, h2, q2⟩
theorem entSetP_ok {ty : TypeId} {m stamp v : V} {K : St → Prop} (h : entSetP s m stamp v K) (hr : Rel ρ s w) {m' stamp' v' : Value} (hm : cz ρ m = some m') (hst : cz ρ stamp = some stamp') (hv : cz ρ v = some v') :
    ∃ s' w', K s' ∧ Step md s.n s ρ w s' ρ w' ∧ (Instr.entryStore ty m' stamp' v').run P w = .ok () w' := by
  unfold entSetP at h
  split at h
  · rename_i i k n
    replace h := withO_ok h; obtain ⟨ob, ho, h⟩ := h
    split at h
    · rename_i κ E c
      obtain ⟨hex, E', rfl, h⟩ := h
      obtain ⟨H, hH, h⟩ := setP_ok h
      obtain ⟨b, es, g1, g2, g3, g6, g4, g5⟩ := hr.obj i _ ho
      simp only [cz, g1, Option.map_some, Option.some.injEq] at hm hst
      subst hm hst
      have hlt := hr.blt i b g1
      obtain ⟨j, q1, q2⟩ := findE_ok hv g3 g6 g4.2 hex
      have hmb : ∀ (es : List MapEntry) (j : Nat), (es.modify j fun e => { e with val := v' }).map (·.born) = es.map (·.born) := fun es => by
        induction es with
        | nil => intro j; simp
        | cons x l ih =>
          intro j
          cases j with
          | zero => simp
          | succ j => simpa using ih j
      refine ⟨_, w.putObj b (.map (es.modify j fun e => { e with val := v' }).toArray c), h, Step.set hr ho hH ⟨b, es.modify j fun e => { e with val := v' }, g1, World.putObj_heap_same hlt, q2, ?_, g4.modify (f := fun e => { e with val := v' }) (fun _ => rfl) j, g5⟩ (fun k hk => World.putObj_heap_other fun e => hk ((g5 k).2 e)) World.putObj_size rfl rfl rfl, ?_⟩
      · rw [hmb, g6, List.map_map]
        apply List.map_congr_left
        intro p hp
        simp only [Function.comp]
        split <;> rfl
      · simp only [Instr.entryStore, Sem.run_bind, Result.andThen_ok, run_getMap (P := P) g2, Sem.run_pure, asInt, asIntOf, List.findIdx?_toArray, q1, run_setMap (P := P) g2, List.modify_toArray]
    · exact h.elim
  · exact h.elim
end
end Sy
end Go.Proofs.Ytmgcpfljhcahoaa
end
section
namespace Go.Proofs.Ytmgcpfljhcahoaa
open Go Go.RowKit
namespace Sy
variable {md : Bool}

/-- A value that stands for nothing. -/
def badV : V := .fn (.yield 0) [] []
mutual
def V.mapN (φ : Nat → Option Nat) : V → V
  | .tok i => match φ i with
    | some j => .tok j
    | none => badV
  | .ptr i off => match φ i with
    | some j => .ptr j off
    | none => badV
  | .ep i j sz fo => match φ i with
    | some i' => .ep i' j sz fo
    | none => badV
  | .mp i => match φ i with
    | some j => .mp j
    | none => badV
  | .yl i => match φ i with
    | some j => .yl j
    | none => badV
  | .sl i lo sz n full => match φ i with
    | some j => .sl j lo sz n full
    | none => bif Nat.beq lo 0 && Nat.beq n 0 then .nils else badV
  | .sle i sz n => match φ i with
    | some j => .sle j sz n
    | none => badV
  | .fn f fi ca => .fn f (mapNl φ fi) (mapNl φ ca)
  | .iface t v => .iface t (V.mapN φ v)
  | .agg l => .agg (mapNl φ l)
  | .tup l => .tup (mapNl φ l)
  | .ap i b off => match φ i with
    | some j => .ap j b off
    | none => badV
  | .ae i b j sz fo => match φ i with
    | some i' => .ae i' b j sz fo
    | none => badV
  | .asl i p sz n c => match φ i with
    | some j => .asl j p sz n c
    | none => badV
  | .zsl i p sz n c => match φ i with
    | some j => .zsl j p sz n c
    | none => badV
  | v => v
def mapNl (φ : Nat → Option Nat) : List V → List V
  | [] => []
  | v :: l => V.mapN φ v :: mapNl φ l
end

def Ren.comp (ρ : Ren) (φ : Nat → Option Nat) : Ren :=
  ⟨fun i => (φ i).bind ρ.β, fun i => match φ i with | some j => ρ.δ j | none => 0, fun i => match φ i with | some j => ρ.γ j | none => 0,
   fun i => match φ i with | some j => ρ.ν j | none => true, fun i => (φ i).bind ρ.σ, fun i => match φ i with | some j => ρ.fp j | none => fun _ => False⟩

section
variable {ρ ρ' ρ'' : Ren} {s s' s'' s1 : St} {w w' w'' : World} {pr pr' : Nat} {φ : Nat → Option Nat}

theorem cz_bad : cz ρ badV = none := by simp [badV, cz, fnOk]
mutual
theorem cz_map : ∀ (v : V) {v' : Value}, cz ρ (v.mapN φ) = some v' → cz (ρ.comp φ) v = some v'
  | .int _ _, _, e => e
  | .bool _, _, e => e
  | .sb _, _, e => e
  | .str _, _, e => e
  | .tok i, v', e => by
    simp only [V.mapN] at e
    split at e
    · rename_i j hj; simpa [cz, Ren.comp, hj] using e
    · rw [cz_bad] at e; cases e
  | .nilp, _, e => e
  | .ptr i off, v', e => by
    simp only [V.mapN] at e
    split at e
    · rename_i j hj; simpa [cz, Ren.comp, hj] using e
    · rw [cz_bad] at e; cases e
  | .ep i j sz fo, v', e => by
    simp only [V.mapN] at e
    split at e
    · rename_i j hj; simpa [cz, Ren.comp, hj] using e
    · rw [cz_bad] at e; cases e
  | .nils, _, e => e
  | .sl i lo sz n full, v', e => by
    simp only [V.mapN] at e
    split at e
    · rename_i j hj; simpa [cz, Ren.comp, hj] using e
    · rename_i hj
      cases hb : Nat.beq lo 0 && Nat.beq n 0 with
      | true =>
        rw [hb, cond_true] at e
        simp only [Bool.and_eq_true] at hb
        have h1 : lo = 0 := by simpa using hb.1
        have h2 : n = 0 := by simpa using hb.2
        simpa [cz, Ren.comp, hj, h1, h2] using e
      | false =>
        rw [hb, cond_false, cz_bad] at e; cases e
  | .sle i sz n, v', e => by
    simp only [V.mapN] at e
    split at e
    · rename_i j hj; simpa [cz, Ren.comp, hj] using e
    · rw [cz_bad] at e; cases e
  | .nilm, _, e => e
  | .mp i, v', e => by
    simp only [V.mapN] at e
    split at e
    · rename_i j hj; simpa [cz, Ren.comp, hj] using e
    · rw [cz_bad] at e; cases e
  | .nilf, _, e => e
  | .yl i, v', e => by
    simp only [V.mapN] at e
    split at e
    · rename_i j hj; simpa [cz, Ren.comp, hj] using e
    · rw [cz_bad] at e; cases e
  | .nili, _, e => e
  | .fn f fi ca, v', e => by
    simp only [V.mapN, cz] at e ⊢
    split at e
    · rename_i hf
      rw [if_pos hf]
      cases h1 : czl ρ (mapNl φ fi) with
      | none => simp [h1] at e
      | some fi' => cases h2 : czl ρ (mapNl φ ca) with
        | none => simp [h1, h2] at e
        | some ca' => rw [czl_map fi h1, czl_map ca h2]; simpa [h1, h2] using e
    · cases e
  | .iface t v, v', e => by
    simp only [V.mapN, cz, Option.map_eq_some_iff] at e ⊢
    obtain ⟨a', ha, rfl⟩ := e
    exact ⟨a', cz_map v ha, rfl⟩
  | .agg a, v', e => by
    simp only [V.mapN, cz, Option.map_eq_some_iff] at e ⊢
    obtain ⟨a', ha, rfl⟩ := e
    exact ⟨a', czl_map a ha, rfl⟩
  | .tup a, v', e => by
    simp only [V.mapN, cz, Option.map_eq_some_iff] at e ⊢
    obtain ⟨a', ha, rfl⟩ := e
    exact ⟨a', czl_map a ha, rfl⟩
  | .ap i b off, v', e => by
    simp only [V.mapN] at e
    split at e
    · simpa [cz] using e
    · rw [cz_bad] at e; cases e
  | .ae i b j sz fo, v', e => by
    simp only [V.mapN] at e
    split at e
    · simpa [cz] using e
    · rw [cz_bad] at e; cases e
  | .asl i p sz n c, v', e => by
    simp only [V.mapN] at e
    split at e
    · simpa [cz] using e
    · rw [cz_bad] at e; cases e
  | .zsl i p sz n c, v', e => by
    simp only [V.mapN] at e
    split at e
    · simpa [cz] using e
    · rw [cz_bad] at e; cases e
theorem czl_map : ∀ (l : List V) {l' : List Value}, czl ρ (mapNl φ l) = some l' → czl (ρ.comp φ) l = some l'
  | [], _, e => by simpa only [mapNl, czl] using e
  | v :: l, l', e => by
    simp only [mapNl, czl] at e ⊢
    cases h1 : cz ρ (v.mapN φ) with
    | none => simp [h1] at e
    | some v' => cases h2 : czl ρ (mapNl φ l) with
      | none => simp [h1, h2] at e
      | some l1 => rw [cz_map v h1, czl_map l h2]; simpa [h1, h2] using e
end
theorem mapNl_append : ∀ (l m : List V), mapNl φ (l ++ m) = mapNl φ l ++ mapNl φ m
  | [], _ => rfl
  | v :: l, m => by simp [mapNl, mapNl_append l m]
theorem rowL_map (f : Nat → List V) : ∀ n, rowL (fun j => mapNl φ (f j)) n = mapNl φ (rowL f n)
  | 0 => rfl
  | n + 1 => by rw [rowL_succ, rowL_succ, rowL_map f n, mapNl_append]
theorem mapNl_length : ∀ l : List V, (mapNl φ l).length = l.length
  | [] => rfl
  | _ :: l => by simp [mapNl, mapNl_length l]
theorem oneCells_map : ∀ {l : List V}, oneCells (mapNl φ l) = true → oneCells l = true
  | [], _ => rfl
  | v :: l, h => by
    have ih : oneCells (mapNl φ l) = true → oneCells l = true := oneCells_map
    cases v <;> simp_all [mapNl, V.mapN, oneCells]
    all_goals (apply ih; revert h; split <;> simp [badV, oneCells])
    cases hb : Nat.beq _ 0 && Nat.beq _ 0 <;> simp [oneCells]

/-! Matching -/
def Tr.allV {α : Type} (C : α → Prop) : Tr α → Prop
  | .leaf => True
  | .node v l r => (match v with | some o => C o | none => True) ∧ l.allV C ∧ r.allV C
theorem Tr.allV_ok {α : Type} {C : α → Prop} : ∀ {t : Tr α}, t.allV C → ∀ i v, t.get i = some v → C v
  | .leaf, _, i, v, h => by simp [Tr.get] at h
  | .node u l r, ⟨h1, h2, h3⟩, i, v, hv => by
    cases i with
    | zero =>
      simp only [Tr.get] at hv
      subst hv
      exact h1
    | succ m =>
      simp only [Tr.get] at hv
      cases hb : Nat.beq (m % 2) 0 with
      | true => rw [hb, cond_true] at hv; exact Tr.allV_ok h2 _ v hv
      | false => rw [hb, cond_false] at hv; exact Tr.allV_ok h3 _ v hv
def matchV1 (φ : Nat → Option Nat) : V → V → Prop
  | .int k n, .int k' n' => k = k' ∧ n = n'
  | .sb b, .bool b' => b = b'
  | .sb b, .sb b' => b = b'
  | .sl i lo sz n full, .sl j lo' sz' n' full' => φ i = some j ∧ lo = lo' ∧ sz = sz' ∧ n = n' ∧ full = full'
  | .ap i b off, .ap j b' off' => φ i = some j ∧ b = b' ∧ off = off'
  | .asl i p sz n c, .asl j p' sz' n' c' => φ i = some j ∧ p = p' ∧ sz = sz' ∧ n = n' ∧ c = c'
  | .zsl i p sz n c, .zsl j p' sz' n' c' => φ i = some j ∧ p = p' ∧ sz = sz' ∧ n = n' ∧ c = c'
  | .asl _ p _ n c, .nils => p = none ∧ n = 0 ∧ c = 0
  | v1, v => v1.mapN φ = v
def matchL (φ : Nat → Option Nat) (l : List V) : List V → Prop := List.rec (motive := fun _ => List V → Prop) (fun m => match m with | [] => True | _ => False) (fun v _ ih m => match m with | u :: m => matchV1 φ v u ∧ ih m | [] => False) l
def matchV (φ : Nat → Option Nat) : V → V → Prop
  | .tup l, .tup m => matchL φ l m
  | .agg l, .agg m => matchL φ l m
  | v1, v => matchV1 φ v1 v
theorem matchV1_cz {v1 v : V} (h : matchV1 φ v1 v) {v' : Value} (hv : cz ρ v = some v') : cz (ρ.comp φ) v1 = some v' := by
  unfold matchV1 at h
  split at h
  · obtain ⟨rfl, rfl⟩ := h; exact hv
  · subst h; exact hv
  · subst h; exact hv
  · obtain ⟨h1, rfl, rfl, rfl, rfl⟩ := h
    exact cz_map _ (by simpa [V.mapN, h1] using hv)
  · obtain ⟨h1, rfl, rfl⟩ := h
    exact cz_map _ (by simpa [V.mapN, h1] using hv)
  · obtain ⟨h1, rfl, rfl, rfl, rfl⟩ := h
    exact cz_map _ (by simpa [V.mapN, h1] using hv)
  · obtain ⟨h1, rfl, rfl, rfl, rfl⟩ := h
    exact cz_map _ (by simpa [V.mapN, h1] using hv)
  · obtain ⟨rfl, rfl, rfl⟩ := h
    simpa [cz] using hv
  · subst h; exact cz_map _ hv
theorem matchL_cz : ∀ {l m : List V} {x : List Value}, matchL φ l m → czl ρ m = some x → czl (ρ.comp φ) l = some x
  | [], [], _, _, h => by rw [czl_nil.1 h]; simp [czl]
  | [], _ :: _, _, h, _ => h.elim
  | _ :: _, [], _, h, _ => h.elim
  | v :: l, u :: m, x, h0, h => by
    obtain ⟨h1, h2⟩ : matchV1 φ v u ∧ matchL φ l m := h0
    obtain ⟨u', m', g1, g2, rfl⟩ := czl_cons.1 h
    exact czl_cons.2 ⟨u', m', matchV1_cz h1 g1, matchL_cz h2 g2, rfl⟩
theorem matchV_cz {v1 v : V} (h : matchV φ v1 v) {v' : Value} (hv : cz ρ v = some v') : cz (ρ.comp φ) v1 = some v' := by
  unfold matchV at h
  split at h
  · simp only [cz, Option.map_eq_some_iff] at hv ⊢
    obtain ⟨x, hx, rfl⟩ := hv
    exact ⟨x, matchL_cz h hx, rfl⟩
  · simp only [cz, Option.map_eq_some_iff] at hv ⊢
    obtain ⟨x, hx, rfl⟩ := hv
    exact ⟨x, matchL_cz h hx, rfl⟩
  · exact matchV1_cz h hv

/-- o1, its names put through φ, is o. -/
def ObjM (φ : Nat → Option Nat) : SObj → SObj → Prop
  | .cells l e, .cells l' e' => matchL φ l l' ∧ e = e'
  | .row n f e sz, .row n' f' e' sz' => n = n' ∧ e = e' ∧ sz = sz' ∧ ∀ j, j < n → mapNl φ (f j) = f' j
  | .ro c n f e sz, .ro c' n' f' e' sz' => c = c' ∧ n = n' ∧ e = e' ∧ sz = sz' ∧ ∀ j, j < n → mapNl φ (f j) = f' j
  | .mark, .mark => True
  | .loop st pend sz t ps asg bo D, .loop st' pend' sz' t' ps' asg' bo' D' => st = st' ∧ pend = pend' ∧ sz = sz' ∧ t = t' ∧ ps = ps' ∧ asg = asg' ∧ bo = bo' ∧ φ D = some D' ∧ Tr.allV (fun v => v.mapN φ = v) t
  | .map κ E, .map κ' E' => κ = κ' ∧ E = E' ∧ ∀ p ∈ E, p.2.mapN φ = p.2
  | .map κ E, .mapb κ' E' _ => κ = κ' ∧ E = (E'.map fun p => (p.1, p.2.1)) ∧ ∀ p ∈ E, p.2.mapN φ = p.2
  | .mapb κ E c, .mapb κ' E' c' => κ = κ' ∧ E = E' ∧ c = c' ∧ ∀ p ∈ E, p.2.1.mapN φ = p.2.1
  | .iter m since arr c, .iter m' since' arr' c' => φ m = some m' ∧ since = since' ∧ arr = arr' ∧ c = c'
  | .memc T M, .memc T' M' => T = T' ∧ ∀ b l, M b = some l → M' b = some (mapNl φ l)
  | .memr e sz M, .memr e' sz' M' => e = e' ∧ sz = sz' ∧ ∀ b N C f, M b = some (N, C, f) → ∃ f', M' b = some (N, C, f') ∧ ∀ q, q < N → mapNl φ (f q) = f' q
  | .fz Z, .fz Z' => Z = Z'
  | .own kd I, .own kd' I' => kd = kd' ∧ I = I'
  | _, _ => False
/-- What φ makes of a value that is new: a row that is nil. -/
def NilM : SObj → Prop
  | .row n _ _ _ => n = 0
  | .memc _ M => ∀ b, M b = none
  | .memr _ _ M => ∀ b, M b = none
  | _ => False
theorem czE_map {κ : KT} : ∀ {E : List (Key × V)} {es : List MapEntry}, (∀ p ∈ E, p.2.mapN φ = p.2) → czE ρ κ E es → czE (ρ.comp φ) κ E es
  | [], [], _, _ => trivial
  | [], _ :: _, _, h => h.elim
  | _ :: _, [], _, h => h.elim
  | (k, v) :: E, e :: es, hv, h => by
    obtain ⟨h1, h2, h3⟩ := h
    exact ⟨h1, cz_map v (by rw [hv (k, v) (List.mem_cons_self ..)]; exact h2), czE_map (fun p hp => hv p (List.mem_cons_of_mem _ hp)) h3⟩
theorem OR.map {i j : Nat} (hj : φ i = some j) {o1 o : SObj} (hm : ObjM φ o1 o) (h : OR ρ w j o) : OR (ρ.comp φ) w i o1 := by
  have eβ : (ρ.comp φ).β i = ρ.β j := by simp [Ren.comp, hj]
  have eδ : (ρ.comp φ).δ i = ρ.δ j := by simp [Ren.comp, hj]
  have eγ : (ρ.comp φ).γ i = ρ.γ j := by simp [Ren.comp, hj]
  have eν : (ρ.comp φ).ν i = ρ.ν j := by simp [Ren.comp, hj]
  have eσ : (ρ.comp φ).σ i = ρ.σ j := by simp [Ren.comp, hj]
  have ef : (ρ.comp φ).fp i = ρ.fp j := by simp [Ren.comp, hj]
  have hrow : ∀ {n : Nat} {f f' : Nat → List V} {l' : List Value}, (∀ j, j < n → mapNl φ (f j) = f' j) → czl ρ (rowL f' n) = some l' → czl (ρ.comp φ) (rowL f n) = some l' := fun hp h => by
    apply czl_map
    rw [← rowL_map]
    rwa [rowL_congr hp]
  have hok : ∀ {n sz : Nat} {f f' : Nat → List V}, (∀ j, j < n → mapNl φ (f j) = f' j) → RowOk n f' sz → RowOk n f sz := fun hp h q hq => by
    have := h q hq
    rw [← hp q hq, mapNl_length] at this
    exact ⟨this.1, oneCells_map this.2⟩
  unfold ObjM at hm
  split at hm
  · obtain ⟨hm, rfl⟩ := hm
    obtain ⟨b, l', h1, h2, h3, h4⟩ := h
    exact ⟨b, l', eβ.trans h1, matchL_cz hm h2, h3, by rw [ef]; exact h4⟩
  · obtain ⟨rfl, rfl, rfl, hp⟩ := hm
    rcases h with ⟨h1, h3, h4⟩ | ⟨b, pre, l', tail, h1, h2, h3, h8, h4, h5, h6, h7⟩
    · refine .inl ⟨?_, h3, by rw [ef]; exact h4⟩
      rcases h1 with ⟨h1, h2⟩ | ⟨b, h1, h2⟩
      · exact .inl ⟨eβ.trans h1, eν.trans h2⟩
      · exact .inr ⟨b, eβ.trans h1, eγ.trans h2⟩
    · exact .inr ⟨b, pre, l', tail, eβ.trans h1, hrow hp h2, h3, by rw [eδ]; exact h8, by rw [eγ]; exact h4, hok hp h5, h6, by rw [ef]; exact h7⟩
  · obtain ⟨rfl, rfl, rfl, rfl, hp⟩ := hm
    rcases h with ⟨h3, h4⟩ | ⟨b, pre, l', tail, h1, h2, h3, h4, h8, h5, h6, h7⟩
    · exact .inl ⟨h3, by rw [ef]; exact h4⟩
    · exact .inr ⟨b, pre, l', tail, eβ.trans h1, hrow hp h2, h3, h4, by rw [eδ]; exact h8, hok hp h5, h6, by rw [ef]; exact h7⟩
  · obtain ⟨b, h1, h2, h3⟩ := h
    exact ⟨b, eβ.trans h1, h2, by rw [ef]; exact h3⟩
  · obtain ⟨rfl, rfl, rfl, rfl, rfl, rfl, rfl, hD, hv⟩ := hm
    obtain ⟨b, fn, tm, D', h1, h2, h3, h4, h5⟩ := h
    exact ⟨b, fn, tm, D', eβ.trans h1, ⟨h2.size, fun i v hi => let ⟨v', g1, g2⟩ := h2.get i v hi; ⟨v', cz_map v (by rw [Tr.allV_ok hv i v hi]; exact g1), g2⟩⟩, by simp [Ren.comp, hD, h3], h4, by rw [ef]; exact h5⟩
  · obtain ⟨rfl, rfl, hv⟩ := hm
    obtain ⟨b, es, c, h1, h2, h3, h4, h5⟩ := h
    exact ⟨b, es, c, eβ.trans h1, h2, czE_map hv h3, h4, by rw [ef]; exact h5⟩
  · obtain ⟨rfl, rfl, hv⟩ := hm
    obtain ⟨b, es, h1, h2, h3, h6, h4, h5⟩ := h
    exact ⟨b, es, _, eβ.trans h1, h2, czE_map hv h3, h4, by rw [ef]; exact h5⟩
  · obtain ⟨rfl, rfl, rfl, hv⟩ := hm
    obtain ⟨b, es, h1, h2, h3, h6, h4, h5⟩ := h
    exact ⟨b, es, eβ.trans h1, h2, czE_map (fun p hp => by obtain ⟨q, hq, rfl⟩ := List.mem_map.1 hp; exact hv q hq) h3, h6, h4, by rw [ef]; exact h5⟩
  · obtain ⟨hφ, rfl, rfl, rfl⟩ := hm
    obtain ⟨b, r, h1, h2, h3, h5⟩ := h
    exact ⟨b, r, eβ.trans h1, by simp [Ren.comp, hφ, h2], h3, by rw [ef]; exact h5⟩
  · obtain ⟨rfl, hp⟩ := hm
    intro b l hb
    obtain ⟨g0, l', g1, g2⟩ := h b _ (hp b l hb)
    exact ⟨by rw [ef]; exact g0, l', czl_map l g1, g2⟩
  · obtain ⟨rfl, rfl, hp⟩ := hm
    intro b N C f hb
    obtain ⟨f', hb', hf⟩ := hp b N C f hb
    obtain ⟨g0, h0, l', tail, g1, g2, g3, g4⟩ := h b _ _ _ hb'
    exact ⟨by rw [ef]; exact g0, h0, l', tail, hrow hf g1, g2, g3, hok hf g4⟩
  · subst hm
    intro b c hb
    obtain ⟨g0, g1⟩ := h b c hb
    exact ⟨by rw [ef]; exact g0, g1⟩
  · obtain ⟨rfl, rfl⟩ := hm
    obtain ⟨v, h1, h2, h3⟩ := h
    exact ⟨v, eσ.trans h1, h2, by rw [ef]; exact h3⟩
  · exact hm.elim

def phi (pr n : Nat) (L : List (Option Nat)) (i : Nat) : Option Nat := bif Nat.blt i pr then some i else match L[i - pr]? with
  | some x => x
  | none => some (n + i)
def okL : List (Option Nat) → Bool
  | [] => true
  | none :: l => okL l
  | some j :: l => l.all (fun x => match x with | some k => !Nat.beq j k | none => true) && okL l
theorem okL_inj : ∀ {L : List (Option Nat)} {i i' j : Nat}, okL L = true → L[i]? = some (some j) → L[i']? = some (some j) → i = i'
  | none :: l, i, i', j, h, hi, hi' => by
    cases i with
    | zero => simp at hi
    | succ i => cases i' with
      | zero => simp at hi'
      | succ i' => exact congrArg (· + 1) (okL_inj (L := l) (i := i) (i' := i') (j := j) h (by simpa using hi) (by simpa using hi'))
  | some j' :: l, i, i', j, h, hi, hi' => by
    simp only [okL, Bool.and_eq_true] at h
    have hne : ∀ k, l[k]? = some (some j) → j' = j → False := fun k hk e => by
      have := List.all_eq_true.1 h.1 _ (List.mem_of_getElem? hk)
      simp [e] at this
    cases i with
    | zero => cases i' with
      | zero => rfl
      | succ i' => exact (hne i' (by simpa using hi') (by simpa using hi)).elim
    | succ i => cases i' with
      | zero => exact (hne i (by simpa using hi) (by simpa using hi')).elim
      | succ i' => exact congrArg (· + 1) (okL_inj (L := l) (i := i) (i' := i') (j := j) h.2 (by simpa using hi) (by simpa using hi'))
  | [], i, _, j, _, hi, _ => by simp at hi

def locS (l : List SObj) : St := ⟨l.length, Tr.ofL 0 l .leaf⟩
def Tr.ofLO {α : Type} : Nat → List (Option α) → Tr α → Tr α
  | _, [], t => t
  | i, x :: l, t => Tr.ofLO (i + 1) l (Tr.set 60 t i x)
def locSO (l : List (Option SObj)) : St := ⟨l.length, Tr.ofLO 0 l .leaf⟩
theorem Tr.set_get {α : Type} : ∀ (f : Nat) (t : Tr α) (n : Nat) (x : Option α), n < f → ∀ m, (t.set f n x).get m = if m = n then x else t.get m := by
  intro f
  induction f with
  | zero => intro t n x h; omega
  | succ f ih =>
    intro t n x hf m
    have key : ∀ (u : Option α) (l r : Tr α), (if m = n then x else (Tr.node u l r).get m) = (match n with | 0 => Tr.node x l r | k + 1 => bif Nat.beq (k % 2) 0 then .node u (l.set f (k / 2) x) r else .node u l (r.set f (k / 2) x)).get m := fun u l r => by
      cases n with
      | zero => cases m <;> simp [Tr.get]
      | succ k =>
        have hk : k / 2 < f := by omega
        cases m with
        | zero => cases hb : Nat.beq (k % 2) 0 <;> simp [Tr.get, hb]
        | succ m =>
          cases hb : Nat.beq (k % 2) 0 with
          | true =>
            have hb' : k % 2 = 0 := by simpa using hb
            simp only [hb, Tr.get, cond_true]
            cases hm : Nat.beq (m % 2) 0 with
            | true =>
              have hm' : m % 2 = 0 := by simpa using hm
              simp only [cond_true, ih l (k / 2) x hk]
              by_cases e : m / 2 = k / 2
              · rw [if_pos e, if_pos (by omega)]
              · rw [if_neg e, if_neg (by omega)]
            | false =>
              have hm' : m % 2 ≠ 0 := fun e => by rw [e] at hm; cases hm
              simp only [cond_false]
              rw [if_neg (by omega)]
          | false =>
            have hb' : k % 2 ≠ 0 := fun e => by rw [e] at hb; cases hb
            simp only [hb, Tr.get, cond_false]
            cases hm : Nat.beq (m % 2) 0 with
            | false =>
              have hm' : m % 2 ≠ 0 := fun e => by rw [e] at hm; cases hm
              simp only [cond_false, ih r (k / 2) x hk]
              by_cases e : m / 2 = k / 2
              · rw [if_pos e, if_pos (by omega)]
              · rw [if_neg e, if_neg (by omega)]
            | true =>
              have hm' : m % 2 = 0 := by simpa using hm
              simp only [cond_true]
              rw [if_neg (by omega)]
    cases t with
    | leaf =>
      have := key none .leaf .leaf
      have e : (Tr.node none .leaf .leaf : Tr α).get m = (Tr.leaf : Tr α).get m := by
        cases m with
        | zero => rfl
        | succ m => simp only [Tr.get]; cases Nat.beq (m % 2) 0 <;> rfl
      rw [e] at this
      rw [this]
      simp only [Tr.set]
      cases n <;> rfl
    | node u l r =>
      rw [key]
      simp only [Tr.set]
      cases n <;> rfl
theorem Tr.ofL_get {α : Type} : ∀ (l : List α) (i : Nat) (t : Tr α), i + l.length ≤ 60 → ∀ m, (Tr.ofL i l t).get m = if i ≤ m ∧ m < i + l.length then l[m - i]? else t.get m
  | [], i, t, _, m => by simp only [Tr.ofL, List.length_nil]; rw [if_neg (by omega)]
  | x :: l, i, t, h, m => by
    simp only [List.length_cons] at h
    rw [Tr.ofL, Tr.ofL_get l (i + 1) _ (by omega), Tr.set_get _ _ _ _ (by omega)]
    simp only [List.length_cons]
    by_cases e : m = i
    · subst e
      rw [if_neg (by omega), if_pos rfl, if_pos (by omega)]
      simp
    · by_cases e2 : i + 1 ≤ m ∧ m < i + 1 + l.length
      · rw [if_pos e2, if_pos (by omega), show m - i = (m - (i + 1)) + 1 by omega]
        simp
      · rw [if_neg e2, if_neg e, if_neg (by omega)]
theorem Tr.ofLO_get {α : Type} : ∀ (l : List (Option α)) (i : Nat) (t : Tr α), i + l.length ≤ 60 → ∀ m, (Tr.ofLO i l t).get m = if i ≤ m ∧ m < i + l.length then (l[m - i]?).bind id else t.get m
  | [], i, t, _, m => by simp only [Tr.ofLO, List.length_nil]; rw [if_neg (by omega)]
  | x :: l, i, t, h, m => by
    simp only [List.length_cons] at h
    rw [Tr.ofLO, Tr.ofLO_get l (i + 1) _ (by omega), Tr.set_get _ _ _ _ (by omega)]
    simp only [List.length_cons]
    by_cases e : m = i
    · subst e
      rw [if_neg (by omega), if_pos rfl, if_pos (by omega)]
      simp
    · by_cases e2 : i + 1 ≤ m ∧ m < i + 1 + l.length
      · rw [if_pos e2, if_pos (by omega), show m - i = (m - (i + 1)) + 1 by omega]
        simp
      · rw [if_neg e2, if_neg e, if_neg (by omega)]
/-- The state s1 says no more than s does, under names L from pr on. -/
def CastS (pr : Nat) (L : List (Option Nat)) (s s1 : St) : Prop :=
  Nat.beq s1.n (pr + L.length) = true ∧ Nat.ble pr s.n = true ∧ (okL L = true ∧ ∀ (i j : Nat), L[i]? = some (some j) → pr ≤ j ∨ s1.H.get j = none) ∧ L.all (fun x => match x with | some j => Nat.blt j s.n | none => true) = true ∧
    ∀ i o1, s1.H.get i = some o1 → Nat.blt i s1.n = true ∧ match phi pr s.n L i with
      | some j => withO (s.H.get j) fun o => ObjM (phi pr s.n L) o1 o
      | none => NilM o1
theorem blt_lt {a b : Nat} (h : Nat.blt a b = true) : a < b := Nat.le_of_ble_eq_true h
theorem Step.cast {s0 : St} {ρ0 : Ren} {w0 : World} {L : List (Option Nat)} (h : Step md pr s0 ρ0 w0 s ρ w) (hc : CastS pr L s s1) : Step md pr s0 ρ0 w0 s1 (ρ.comp (phi pr s.n L)) w := by
  obtain ⟨c1, c2, ⟨c3, c6⟩, c4, c5⟩ := hc
  have c1 : s1.n = pr + L.length := by simpa using c1
  have c2 := Nat.le_of_ble_eq_true c2
  have hlt : ∀ i, i < pr → phi pr s.n L i = some i := fun i hi => by
    have : Nat.blt i pr = true := Nat.ble_eq_true_of_le hi
    simp [phi, this]
  have hge : ∀ i, ¬ i < pr → phi pr s.n L i = match L[i - pr]? with | some x => x | none => some (s.n + i) := fun i hi => by
    cases hb : Nat.blt i pr with
    | true => exact absurd (blt_lt hb) hi
    | false => simp [phi, hb]
  have hobj : ∀ i o1, s1.H.get i = some o1 → i < s1.n ∧ ((∃ j o, phi pr s.n L i = some j ∧ s.H.get j = some o ∧ ObjM (phi pr s.n L) o1 o) ∨ (phi pr s.n L i = none ∧ NilM o1)) := fun i o1 hi => by
    obtain ⟨g1, g2⟩ := c5 i o1 hi
    refine ⟨blt_lt g1, ?_⟩
    split at g2
    · rename_i j hj
      replace g2 := withO_ok g2; obtain ⟨o, g3, g4⟩ := g2
      exact .inl ⟨j, o, hj, g3, g4⟩
    · rename_i hj
      exact .inr ⟨hj, g2⟩
  have hfp : ∀ i o1 k, s1.H.get i = some o1 → (ρ.comp (phi pr s.n L)).fp i k → ∃ j o, phi pr s.n L i = some j ∧ s.H.get j = some o ∧ ρ.fp j k := fun i o1 k hi hk => by
    rcases (hobj i o1 hi).2 with ⟨j, o, g1, g2, _⟩ | ⟨g1, _⟩
    · exact ⟨j, o, g1, g2, by simpa [Ren.comp, g1] using hk⟩
    · simp [Ren.comp, g1] at hk
  refine ⟨fun i hi => ?_, ⟨fun i o1 hi => ?_, fun i i' oi oj k hi hi' hk hk' => ?_, fun i o1 k hi hk => ?_, fun i hi => ?_, fun i o1 hi => (hobj i o1 hi).1, fun i v hv => ?_, fun i b hb => ?_⟩, h.keep, fun i o1 k hi hk => ?_, h.size, h.os, h.tape, h.output, by omega, h.drawn⟩
  · have e := hlt i hi
    refine Agree.trans (h.agree i hi) ⟨?_, ?_, ?_, ?_, ?_⟩ <;> simp [Ren.comp, e]
  · rcases (hobj i o1 hi).2 with ⟨j, o, g1, g2, g3⟩ | ⟨g1, g2⟩
    · exact OR.map g1 g3 (h.rel.obj j o g2)
    · cases o1 with
      | row n f e sz => exact .inl ⟨.inl ⟨by simp [Ren.comp, g1], by simp [Ren.comp, g1]⟩, g2, by simp [Ren.comp, g1]⟩
      | memc T M => exact fun b l hb => by have := g2 b; rw [hb] at this; cases this
      | memr e sz M => exact fun b N C f hb => by have := g2 b; rw [hb] at this; cases this
      | _ => exact g2.elim
  · obtain ⟨j, o, g1, g2, g3⟩ := hfp i oi k hi hk
    obtain ⟨j', o', g1', g2', g3'⟩ := hfp i' oj k hi' hk'
    have ej := h.rel.dis j j' o o' k g2 g2' g3 g3'
    subst ej
    have hjn := h.rel.live j o g2
    by_cases a : i < pr <;> by_cases a' : i' < pr
    · rw [hlt i a] at g1; rw [hlt i' a'] at g1'
      cases g1; cases g1'; rfl
    · rw [hlt i a] at g1; rw [hge i' a'] at g1'
      cases g1
      split at g1'
      · rename_i x hx
        subst g1'
        rcases c6 _ _ hx with q | q
        · omega
        · rw [q] at hi; cases hi
      · have := Option.some.inj g1'; omega
    · rw [hge i a] at g1; rw [hlt i' a'] at g1'
      cases g1'
      split at g1
      · rename_i x hx
        subst g1
        rcases c6 _ _ hx with q | q
        · omega
        · rw [q] at hi'; cases hi'
      · have := Option.some.inj g1; omega
    · rw [hge i a] at g1; rw [hge i' a'] at g1'
      split at g1
      · rename_i x hx
        subst g1
        split at g1'
        · rename_i x' hx'
          subst g1'
          have := okL_inj c3 hx hx'
          omega
        · have := Option.some.inj g1'; omega
      · have := Option.some.inj g1; omega
  · obtain ⟨j, o, g1, g2, g3⟩ := hfp i o1 k hi hk
    exact h.rel.flt j o k g2 g3
  · have hL : L[i - pr]? = none := by rw [List.getElem?_eq_none]; omega
    have e : phi pr s.n L i = some (s.n + i) := by rw [hge i (by omega), hL]
    have u := h.rel.fresh (s.n + i) (by omega)
    exact ⟨by simp [Ren.comp, e, u.1], by simp [Ren.comp, e, u.2.1], by simp [Ren.comp, e, u.2.2]⟩
  · cases hp : phi pr s.n L i with
    | none => simp [Ren.comp, hp] at hv
    | some j => exact h.rel.sig j v (by simpa [Ren.comp, hp] using hv)
  · cases hp : phi pr s.n L i with
    | none => simp [Ren.comp, hp] at hb
    | some j => exact h.rel.blt j b (by simpa [Ren.comp, hp] using hb)
  · obtain ⟨j, o, g1, g2, g3⟩ := hfp i o1 k hi hk
    exact h.new j o k g2 g3

/-- The temporaries t1 say no more than t do. -/
def CastT (φ : Nat → Option Nat) (t t1 : Tr V) : Prop := ∀ i v1, t1.get i = some v1 → withO (t.get i) fun v => matchV φ v1 v
theorem RelT.cast {sz : Nat} {t t1 : Tr V} {a : Array Value} (h : RelT ρ sz t a) (hc : CastT φ t t1) : RelT (ρ.comp φ) sz t1 a := by
  refine ⟨h.size, fun i v1 hv => ?_⟩
  have g := hc i v1 hv
  replace g := withO_ok g; obtain ⟨v, g1, g2⟩ := g
  obtain ⟨v', g3, g4⟩ := h.get i v g1
  exact ⟨v', matchV_cz g2 g3, g4⟩
/-! As lists -/
def tOf (l : List (Nat × V)) : Tr V := l.foldr (fun p t => Tr.set 100000 t p.1 (some p.2)) .leaf
theorem tOf_get : ∀ {l : List (Nat × V)} {i : Nat} {v : V}, l.all (fun p => Nat.blt p.1 100000) = true → (tOf l).get i = some v → (i, v) ∈ l
  | [], i, v, _, h => by simp [tOf, Tr.get] at h
  | p :: l, i, v, ha, h => by
    simp only [List.all_cons, Bool.and_eq_true] at ha
    have e : tOf (p :: l) = Tr.set 100000 (tOf l) p.1 (some p.2) := rfl
    rw [e, Tr.set_get _ _ _ _ (blt_lt ha.1)] at h
    by_cases hp : i = p.1
    · rw [if_pos hp] at h
      cases h
      subst hp
      exact List.mem_cons_self ..
    · rw [if_neg hp] at h
      exact List.mem_cons_of_mem _ (tOf_get ha.2 h)
def castB (pr n : Nat) (L : List (Option Nat)) (T : List (Nat × V)) (S : List (Option SObj)) : Bool :=
  Nat.beq S.length (pr + L.length) && Nat.ble pr n && (okL L && L.all (fun x => match x with | some j => Nat.ble pr j || (match S[j]? with | some (some _) => false | _ => true) | none => true)) && L.all (fun x => match x with | some j => Nat.blt j n | none => true) && Nat.ble S.length 60 && T.all (fun p => Nat.blt p.1 100000)
def objsC (φ : Nat → Option Nat) (s : St) (i : Nat) (l : List (Option SObj)) : Prop :=
  List.rec (motive := fun _ => Nat → Prop) (fun _ => True) (fun o1 _ ih i => match o1 with
    | none => ih (i + 1)
    | some o1 => (match φ i with
      | some j => withO (s.H.get j) fun o => ObjM φ o1 o
      | none => NilM o1) ∧ ih (i + 1)) l i
def tmpsC (φ : Nat → Option Nat) (t : Tr V) (l : List (Nat × V)) : Prop := List.rec (motive := fun _ => Prop) True (fun p _ ih => (withO (t.get p.1) fun u => matchV φ p.2 u) ∧ ih) l
/-- State and temporaries, as lists, say no more than they do, under names L from pr on. -/
def castL (pr : Nat) (L : List (Option Nat)) (t : Tr V) (s : St) (T : List (Nat × V)) (S : List (Option SObj)) : Prop := match s with
  | ⟨n, H⟩ => castB pr n L T S = true ∧ objsC (phi pr n L) ⟨n, H⟩ 0 S ∧ tmpsC (phi pr n L) t T
theorem objsC_ok : ∀ {l : List (Option SObj)} {i0 : Nat}, objsC φ s i0 l → ∀ (k : Nat) o1, (l[k]?).bind id = some o1 → match φ (i0 + k) with
    | some j => withO (s.H.get j) fun o => ObjM φ o1 o
    | none => NilM o1
  | [], _, _, k, o1, h => by simp at h
  | none :: l, i0, h, k, o1, hk => by
    cases k with
    | zero => simp at hk
    | succ k =>
      have := objsC_ok (l := l) h k o1 (by simpa using hk)
      rw [show i0 + (k + 1) = i0 + 1 + k by omega]
      exact this
  | some o :: l, i0, h, k, o1, hk => by
    cases k with
    | zero =>
      simp only [List.getElem?_cons_zero, Option.bind_some, id, Option.some.injEq] at hk
      subst hk
      exact h.1
    | succ k =>
      have := objsC_ok (l := l) h.2 k o1 (by simpa using hk)
      rw [show i0 + (k + 1) = i0 + 1 + k by omega]
      exact this
theorem tmpsC_ok {t : Tr V} : ∀ {l : List (Nat × V)}, tmpsC φ t l → ∀ p ∈ l, withO (t.get p.1) fun u => matchV φ p.2 u
  | [], _, p, hp => by cases hp
  | q :: l, h, p, hp => by
    rcases List.mem_cons.1 hp with rfl | hp
    · exact h.1
    · exact tmpsC_ok h.2 p hp
theorem castL_ok {L : List (Option Nat)} {t : Tr V} {T : List (Nat × V)} {S : List (Option SObj)} (h : castL pr L t s T S) : CastS pr L s (locSO S) ∧ CastT (phi pr s.n L) t (tOf T) := by
  obtain ⟨h1, h2, h3⟩ := h
  simp only [castB, Bool.and_eq_true] at h1
  obtain ⟨⟨⟨⟨⟨a1, a2⟩, a3⟩, a4⟩, a5⟩, a6⟩ := h1
  have a5 := Nat.le_of_ble_eq_true a5
  have e : ∀ i, (locSO S).H.get i = (if 0 ≤ i ∧ i < 0 + S.length then (S[i - 0]?).bind id else (Tr.leaf : Tr SObj).get i) := fun i => Tr.ofLO_get S 0 .leaf (by omega) i
  refine ⟨⟨a1, a2, ⟨a3.1, fun i j hij => ?_⟩, a4, fun i o1 hi => ?_⟩, fun i v1 hi => tmpsC_ok h3 (i, v1) (tOf_get a6 hi)⟩
  · have := List.all_eq_true.1 a3.2 _ (List.mem_of_getElem? hij)
    simp only [Bool.or_eq_true] at this
    rcases this with g | g
    · exact .inl (Nat.le_of_ble_eq_true g)
    · right
      rw [e]
      split
      · rw [Nat.sub_zero]
        split at g
        · cases g
        · rename_i hne
          cases hq : S[j]? with
          | none => rfl
          | some x => cases x with
            | none => rfl
            | some o => exact absurd hq (hne o)
      · rfl
  rw [e] at hi
  by_cases hlt : i < S.length
  · rw [if_pos (by omega), Nat.sub_zero] at hi
    have := objsC_ok h2 i o1 hi
    rw [Nat.zero_add] at this
    exact ⟨Nat.ble_eq_true_of_le hlt, this⟩
  · rw [if_neg (by omega)] at hi
    simp [Tr.get] at hi
end
end Sy
end Go.Proofs.Ytmgcpfljhcahoaa
end
section
namespace Go.Proofs.Ytmgcpfljhcahoaa
open Go Go.RowKit
namespace Sy
variable {md : Bool}

def strB (l : List Int) : ByteArray := l.foldl (fun r n => r.push (UInt8.ofNat n.toNat)) ByteArray.empty
def bytesP (P : Program) (s : St) (src dst : TypeId) (i lo sz n : Nat) (K : V → List Nat → Prop) : Prop := match P.underlying src, P.underlying dst with
  | some (.slice e), some .string => match P.underlying e with
    | some (.int .u8) => withO (s.H.get i) fun o => match o with
      | .row m f _ sz' => need (Nat.beq sz 1 && Nat.beq sz' 1) (lo + n ≤ m ∧ ∃ l : List Int, l.length = n ∧ (∀ j, j < n → f (lo + j) = [.int .u8 (l.getD j 0)]) ∧ K (.str (strB l)) [i])
      | .ro _ m f _ sz' => need (Nat.beq sz 1 && Nat.beq sz' 1) (lo + n ≤ m ∧ ∃ l : List Int, l.length = n ∧ (∀ j, j < n → f (lo + j) = [.int .u8 (l.getD j 0)]) ∧ K (.str (strB l)) [i])
      | _ => False
    | _ => False
  | _, _ => False

section
variable {P : Program} {ρ : Ren} {s s' : St} {w : World}
theorem rowL_ints : ∀ {n : Nat} {g : Nat → List V} {l : List Int}, l.length = n → (∀ j, j < n → g j = [.int .u8 (l.getD j 0)]) → rowL g n = l.map (V.int .u8) := by
  intro n g l hl hg
  have key : ∀ k, k ≤ n → rowL g k = (l.take k).map (V.int .u8) := by
    intro k
    induction k with
    | zero => intro _; simp [rowL]
    | succ k ih =>
      intro hk
      have hlt : k < l.length := by omega
      rw [rowL_succ, ih (by omega), hg k (by omega), List.take_succ_eq_append_getElem hlt, List.map_append]
      simp [List.getD_eq_getElem?_getD, List.getElem?_eq_getElem hlt]
  have h := key n (Nat.le_refl _)
  rwa [List.take_of_length_le (by omega)] at h
theorem czl_ints (l : List Int) : czl ρ (l.map (V.int .u8)) = some (l.map (Value.int .u8)) := by
  induction l with
  | nil => simp [czl]
  | cons c l ih => exact czl_cons.2 ⟨_, _, rfl, ih, rfl⟩
theorem bytes_cells {f : Nat → List V} {m lo n : Nat} {l : List Int} {l' pre tail : List Value} {b q : Nat} {e : TypeId} {fr : Nat × Nat} (hf : RowOk m f 1) (hm : lo + n ≤ m) (hl : l.length = n) (hg : ∀ j, j < n → f (lo + j) = [.int .u8 (l.getD j 0)])
    (hc : czl ρ (rowL f m) = some l') (hw : w.heap[b]? = some (.cells (pre ++ l' ++ tail).toArray e fr)) (hq : q = pre.length + lo) : (loadCells ⟨b, q, none⟩ n).run P w = .ok (l.map (Value.int .u8)).toArray w := by
  obtain ⟨k, rfl⟩ : ∃ k, m = lo + n + k := ⟨m - (lo + n), by omega⟩
  rw [rowL_split, rowL_split, rowL_ints hl hg] at hc
  obtain ⟨x1, x2, h1, h2, rfl⟩ := czl_split hc
  obtain ⟨x3, x4, h3, h4, rfl⟩ := czl_split h1
  rw [czl_ints] at h4
  cases h4
  have hA := czl_length h3
  rw [rowL_length fun j hj => hf.len j (by omega)] at hA
  have hw2 : w.heap[b]? = some (.cells ((pre ++ x3) ++ l.map (Value.int .u8) ++ (x2 ++ tail)).toArray e fr) := by rw [hw]; simp
  exact run_cells (P := P) hw2 (by rw [List.length_append]; omega) rfl (by simp [hl])
theorem bytesP_ok {src dst : TypeId} {i lo sz n : Nat} {K : V → List Nat → Prop} (h : bytesP P s src dst i lo sz n K) : ∃ l : List Int, K (.str (strB l)) [i] ∧ ∀ {ρ : Ren} {w : World} {s' : St} {full : Bool} {y' : Value}, Rel ρ s' w → s'.H.get i = s.H.get i →
    cz ρ (.sl i lo sz n full) = some y' → (convert src dst y').run P w = .ok (.string (strB l)) w := by
  unfold bytesP at h
  split at h
  · rename_i e hs hd
    split at h
    · rename_i he
      replace h := withO_ok h; obtain ⟨ob, ho, h⟩ := h
      have nul : ∀ {l : List Int} {w : World}, l.length = 0 → (convert src dst (.slice none 0 0)).run P w = .ok (.string (strB l)) w := by
        intro l w hl
        obtain rfl := List.eq_nil_of_length_eq_zero hl
        rw [run_convert_bytes_string w src dst e none 0 0 hs he hd]
        rfl
      have val : ∀ {ρ : Ren} {b : Nat} {full : Bool} {y' : Value}, ρ.β i = some b → cz ρ (.sl i lo 1 n full) = some y' → ∃ c, y' = .slice (some ⟨b, ρ.δ i + lo, none⟩) n c := by
        intro ρ b full y' hb hy
        simp only [cz, hb] at hy
        split at hy
        · simp at hy; exact ⟨_, hy.symm⟩
        · split at hy
          · simp at hy; exact ⟨_, hy.symm⟩
          · cases hy
      have some_ok : ∀ {ρ : Ren} {w : World} {m : Nat} {f : Nat → List V} {l : List Int} {l' pre tail : List Value} {b : Nat} {e' : TypeId} {fr : Nat × Nat} {full : Bool} {y' : Value}, RowOk m f 1 → lo + n ≤ m → l.length = n → (∀ j, j < n → f (lo + j) = [.int .u8 (l.getD j 0)]) → czl ρ (rowL f m) = some l' →
          w.heap[b]? = some (.cells (pre ++ l' ++ tail).toArray e' fr) → pre.length = ρ.δ i → ρ.β i = some b → cz ρ (.sl i lo 1 n full) = some y' → (convert src dst y').run P w = .ok (.string (strB l)) w := by
        intro ρ w m f l l' pre tail b e' fr full y' hf hm hl hg hc hw hp hb hy
        obtain ⟨c, rfl⟩ := val hb hy
        rw [run_convert_bytes_string w src dst e _ n c hs he hd]
        exact run_bytesToString w _ n c l (bytes_cells hf hm hl hg hc hw (by rw [hp]))
      split at h
      · rename_i m f e' sz'
        replace h := need_ok h; obtain ⟨hb, hm, l, hl, hg, h⟩ := h
        obtain ⟨rfl, rfl⟩ : sz = 1 ∧ sz' = 1 := by simpa using hb
        refine ⟨l, h, fun {ρ w s' full y'} hr hss hy => ?_⟩
        rcases hr.obj i _ (hss.trans ho) with ⟨g1, g3, _⟩ | ⟨b, pre, l', tail, g1, g2, g3, g4, g5, g6, g7, g8⟩
        · have hn : n = 0 := by omega
          have hlo : lo = 0 := by omega
          subst hn hlo
          obtain rfl := List.eq_nil_of_length_eq_zero hl
          have : ∃ a c, y' = .slice a 0 c := by
            simp only [cz] at hy
            repeat' split at hy
            all_goals first | (cases hy; exact ⟨_, _, rfl⟩) | cases hy
          obtain ⟨a, c2, rfl⟩ := this
          rw [run_convert_bytes_string w src dst e _ 0 c2 hs he hd]
          cases a with
          | none => rfl
          | some a => exact run_bytesToString w a 0 c2 [] (run_loadCells_list (P := P) w a [] (fun j v h => by simp at h))
        · exact some_ok g6 hm hl hg g2 g3 g4 g1 hy
      · rename_i c m f e' sz'
        replace h := need_ok h; obtain ⟨hb, hm, l, hl, hg, h⟩ := h
        obtain ⟨rfl, rfl⟩ : sz = 1 ∧ sz' = 1 := by simpa using hb
        refine ⟨l, h, fun {ρ w s' full y'} hr hss hy => ?_⟩
        rcases hr.obj i _ (hss.trans ho) with ⟨g1, _⟩ | ⟨b, pre, l', tail, g1, g2, g3, ⟨fr, g4⟩, g5, g6, g7, g8⟩
        · have hn : n = 0 := by omega
          have hlo : lo = 0 := by omega
          subst hn hlo
          obtain rfl := List.eq_nil_of_length_eq_zero hl
          have : ∃ a c, y' = .slice a 0 c := by
            simp only [cz] at hy
            repeat' split at hy
            all_goals first | (cases hy; exact ⟨_, _, rfl⟩) | cases hy
          obtain ⟨a, c2, rfl⟩ := this
          rw [run_convert_bytes_string w src dst e _ 0 c2 hs he hd]
          cases a with
          | none => rfl
          | some a => exact run_bytesToString w a 0 c2 [] (run_loadCells_list (P := P) w a [] (fun j v h => by simp at h))
        · rw [g4] at g3
          exact some_ok g6 hm hl hg g2 g3 g5 g1 hy
      · exact h.elim
    · exact h.elim
  · exact h.elim
end
end Sy
end Go.Proofs.Ytmgcpfljhcahoaa
end
section
namespace Go.Proofs.Ytmgcpfljhcahoaa
open Go Go.RowKit
namespace Sy
variable {md : Bool}

abbrev Con := FuncId → List V → St → (V → St → Prop) → Prop
abbrev Yld := Nat → List V → St → (V → St → Prop) → Prop
def noYld : Yld := fun _ _ _ _ => False

inductive Ex where
  | normal
  | exit (id : Nat)
  | ret

/-! Operations -/
/-- What asks memory for nothing but to be read. -/
def isNon : Op → Bool
  | .move _ | .assign _ | .pick .. | .nilCheck _ | .fieldAddr .. | .field .. | .indexAddr .. | .index .. | .binOp .. | .unOp .. | .extract .. | .convert .. | .slice .. | .makeInterface .. | .makeFunc .. | .typeAssert .. | .load .. | .build .. | .lookup .. => true
  | .call c => match c.callee with
    | .builtin .len => true
    | .builtin .cap => true
    | .builtin .min => true
    | .builtin .max => true
    | _ => false
  | _ => false
/-- The least, or the greatest one. -/
def mmI (lo : Bool) (a b : Int) : Int := if lo = true then (if b < a then b else a) else if a < b then b else a
def mmP (lo : Bool) (t : Tr V) (c : Call) (K : V → Prop) : Prop := match c.args.toList with
  | [x, y] => withO (opd t x) fun u => withO (opd t y) fun v => match u, v with
    | .int k a, .int _ b => K (.int k (mmI lo a b))
    | _, _ => False
  | _ => False
/-- The value, and the objects that were read. -/
def nonP (P : Program) (o : Oper) (t : Tr V) (s : St) (K : V → List Nat → Prop) : Prop := match o.op with
  | .load ty x => withO (opd t x) fun u => match u with
    | .ptr i off => loadP P s ty (.ptr i off) fun v => K v [i]
    | .ep i j sz fo => loadP P s ty (.ep i j sz fo) fun v => K v [i]
    | .ap i b off => loadP P s ty (.ap i b off) fun v => K v [i]
    | .ae i b j sz fo => loadP P s ty (.ae i b j sz fo) fun v => K v [i]
    | _ => False
  | .call c => match c.callee with
    | .builtin .len => match c.argTypes.toList, c.args.toList with
      | ty :: _, [x] => withO (opd t x) fun u => match u with
        | .mp i => match P.underlying ty with
          | some (.map _ _) => withO (s.H.get i) fun o => match o with
            | .map _ E => K (.int .i64 E.length) [i]
            | .mapb _ E _ => K (.int .i64 E.length) [i]
            | _ => False
          | _ => False
        | u => lenP P ty u fun v => K v []
      | _, _ => False
    | .builtin .cap => match c.argTypes.toList, c.args.toList with
      | ty :: _, [x] => withO (opd t x) fun u => match u, P.underlying ty with
        | .nils, some (.slice _) => K (.int .i64 0) []
        | .asl _ _ _ _ cc, some (.slice _) => K (.int .i64 cc) []
        | _, _ => False
      | _, _ => False
    | .builtin .min => mmP true t c fun v => K v []
    | .builtin .max => mmP false t c fun v => K v []
    | _ => False
  | .build ty ps => buildP P t ty ps.toList fun v => K v []
  | .lookup ty x y ok => withO (opd t x) fun m => withO (opd t y) fun key => lookP P s ty m key ok K
  | .convert src dst x => withO (opd t x) fun u => match u with
    | .sl i lo sz n _ => bytesP P s src dst i lo sz n K
    | _ => pureP P o t fun v => K v []
  | _ => pureP P o t fun v => K v []
def tailP (P : Program) (Φ : Con) (Y : Yld) (o : Oper) (t : Tr V) (s : St) (K : V → St → Prop) : Prop := match o.op with
  | .store ty x y => withO (opd t x) fun u => withO (opd t y) fun v => match u with
    | .ep i j sz fo => ∃ fv, storeP P s ty (.ep i j sz fo) v fv fun s => K (.tup []) s
    | u => storeP P s ty u v none fun s => K (.tup []) s
  | .alloc e => withO (zeroT P e) fun z => withO (ofV z) fun zv => allocP s e (cellsOf zv) K
  | .box e x => withO (opd t x) fun v => allocP s e (cellsOf v) K
  | .call c => withO (opds t c.args.toList) fun vs => match c.callee with
    | .builtin .append => match c.argTypes.toList, vs with
      | [ty, ty2], [x, y] => match x with
        | .asl i p sz n c => match y with
          | .int .i64 m => appendAZP P s ty ty2 i p sz n c m K
          | y => appendAP P s ty ty2 i p sz n c y K
        | x => match y with
          | .int .i64 m => appendZP P s ty ty2 x m K
          | y => match x with
            | .nils => match famTy P ty s with
              | true => (∃ fv, appendP P s ty ty2 .nils y fv K) ∨ ∃ i sz, appendAP P s ty ty2 i none sz 0 0 y K
              | false => ∃ fv, appendP P s ty ty2 .nils y fv K
            | x => ∃ fv, appendP P s ty ty2 x y fv K
      | _, _ => False
    | .builtin .delete => match c.argTypes.toList, vs with
      | ty :: _, [m, key] => mapDelP P s ty m key fun s => K (.tup []) s
      | _, _ => False
    | .builtin .copy => match c.argTypes.toList, vs with
      | ty :: _, [.asl i p sz n _, y] => copyAP P s ty i p sz n y K
      | _, _ => False
    | .builtin .clear => match c.argTypes.toList, vs with
      | ty :: _, [.asl i p sz n _] => clearAP P s ty i p sz n K
      | ty :: _, [.sl i lo sz n _] => clearP P s ty i lo sz n K
      | _, _ => False
    | .value f => withO (opd t f) fun f => match f with
      | .fn (.func g) fi ca => Φ g (fi ++ (vs ++ ca)) s K
      | .yl l => Y l vs s K
      | _ => False
    | .invoke recv name => withO (opd t recv) fun f => match f with
      | .iface ty v => ∃ g, methP P ty name = some g ∧ Φ g (v :: vs) s K
      | _ => False
    | _ => False
  | .buildSlice ty n ps => buildSliceP P t s ty n ps.toList K
  | .makeSlice ty x y => withO (opd t x) fun u => withO (opd t y) fun v => makeSliceP P s ty u v K
  | .makeMap ty x => makeMapP P t s ty x K
  | .mapUpdate ty m key x => withO (opd t m) fun m => withO (opd t key) fun key => withO (opd t x) fun v => mapSetP P s ty m key v fun s => K (.tup []) s
  | .insert ty m key x => withO (opd t m) fun m => withO (opd t key) fun key => withO (opd t x) fun v => mapSetP P s ty m key v fun s => K (.tup []) s
  | .range ty x => withO (opd t x) fun m => rangeP P s ty m K
  | .next x str => withO (opd t x) fun it => need (!str) (nextP s it K)
  | .entry x => withO (opd t x) fun it => entryP s it K
  | .mapEntry ty m key => withO (opd t m) fun m => withO (opd t key) fun key => mapEntP P s ty m key K
  | .entryStore _ m st x => withO (opd t m) fun m => withO (opd t st) fun st => withO (opd t x) fun v => entSetP s m st v fun s => K (.tup []) s
  | _ => False
def operP (P : Program) (Φ : Con) (Y : Yld) (o : Oper) (t : Tr V) (s : St) (K : V → St → Prop) : Prop := match isNon o.op with
  | true => nonP P o t s fun v _ => K v s
  | false => tailP P Φ Y o t s K

/-- Where a guard is not known, both ways; it is known on each. -/
def wantP (ops : List Oper) (o : Oper) (t : Tr V) (K : Bool → Tr V → Prop) : Prop := match o.guard with
  | none => K true t
  | some (j, want) => withO (ops[j]?) fun oj => withO oj.dst fun d => withO (t.get d) fun v => match v with
    | .bool b => match b == want with
      | true => K true t
      | false => K false t
    | .sb b => (b = want → t.put 60 d (some (.bool want)) fun t => K true t) ∧ (b = !want → t.put 60 d (some (.bool !want)) fun t => K false t)
    | .tup _ => K false t
    | _ => False
def putT (sz : Nat) (t : Tr V) (d : Option Tmp) (v : V) (K : Tr V → Prop) : Prop := match d with
  | none => K t
  | some d => need (Nat.blt d sz) (t.put 60 d (some v) K)
abbrev KTS := Tr V → St → Prop
def opsS (P : Program) (Φ : Con) (Y : Yld) (sz : Nat) (all : List Oper) (o : Oper) (rest : Tr V → St → KTS → Prop) (t : Tr V) (s : St) (K : KTS) : Prop := wantP all o t fun b t => match b with
  | true => operP P Φ Y o t s fun v s => putT sz t o.dst v fun t => rest t s K
  | false => putT sz t o.dst (.tup []) fun t => rest t s K
/-- By the recursor itself: so that what is left of a run is written alike wherever it is reckoned. -/
def opsP (P : Program) (Φ : Con) (Y : Yld) (sz : Nat) (all : List Oper) (l : List Oper) : Tr V → St → KTS → Prop :=
  List.rec (motive := fun _ => Tr V → St → KTS → Prop) (fun t s K => K t s) (fun o _ ih => opsS P Φ Y sz all o ih) l

/-! Regions that draw their order -/
def doneB (done i : Nat) : Bool := Nat.testBit done i
def readyB (done : Nat) (o : Oper) : Bool := o.after.toList.all fun e => !(Region.binds .any e) || doneB done e.on
def nextNon (done : Nat) : Nat → List Oper → Option (Nat × Oper)
  | _, [] => none
  | i, o :: l => bif !doneB done i && isNon o.op && readyB done o then some (i, o) else nextNon done (i + 1) l
def nextTails (done : Nat) : Nat → List Oper → List (Nat × Oper)
  | _, [] => []
  | i, o :: l => bif !doneB done i && !isNon o.op && readyB done o then (i, o) :: nextTails done (i + 1) l else nextTails done (i + 1) l
def befores : List Oper → List Nat → List Nat
  | [], acc => acc
  | o :: l, acc => befores l (acc ++ [o.after.toList.foldl (fun s e => bif Region.binds .any e then Nat.lor (Nat.lor s (2 ^ e.on)) (acc.getD e.on 0) else s) 0])
def befB (all : List Oper) (i j : Nat) : Bool := Nat.testBit ((befores all []).getD j 0) i
def sameH (s s' : St) (l : List Nat) : Prop → Prop := List.rec (motive := fun _ => Prop → Prop) (fun K => K) (fun x _ ih K => s'.H.get x = s.H.get x ∧ ih K) l
def pendP (all : List Oper) (q : Nat) (s s' : St) (l : List (Nat × List Nat)) : Prop → Prop :=
  List.rec (motive := fun _ => Prop → Prop) (fun K => K) (fun p _ ih K => bif befB all p.1 q then ih K else sameH s s' p.2 (ih K)) l
def addPend (i : Nat) (xs : List Nat) (pend : List (Nat × List Nat)) (K : List (Nat × List Nat) → Prop) : Prop := match xs with
  | [] => K pend
  | xs => K ((i, xs) :: pend)
def allTails (f : Nat → Oper → Prop) (l : List (Nat × Oper)) : Prop := List.rec (motive := fun _ => Prop) True (fun p l ih => match l with | [] => f p.1 p.2 | _ => f p.1 p.2 ∧ ih) l
def setDone (done i : Nat) (K : Nat → Prop) : Prop := match Nat.lor done (2 ^ i) with
  | 0 => K 0
  | m + 1 => K (m + 1)
abbrev Draw := (done : Nat) → (pend : List (Nat × List Nat)) → Tr V → St → KTS → Prop
def drawS (P : Program) (Φ : Con) (Y : Yld) (sz : Nat) (all : List Oper) (self : Draw) : Draw := fun done pend t s K => match nextNon done 0 all with
  | some (i, o) => wantP all o t fun b t => match b with
    | true => nonP P o t s fun v xs => putT sz t o.dst v fun t => setDone done i fun done => addPend i xs pend fun pend => self done pend t s K
    | false => putT sz t o.dst (.tup []) fun t => setDone done i fun done => self done pend t s K
  | none => match nextTails done 0 all with
    | [] => K t s
    | q :: qs => allTails (fun i o => wantP all o t fun b t => match b with
      | true => tailP P Φ Y o t s fun v s' => pendP all i s s' pend (putT sz t o.dst v fun t => setDone done i fun done => self done pend t s' K)
      | false => putT sz t o.dst (.tup []) fun t => setDone done i fun done => self done pend t s K) (q :: qs)
def drawP (P : Program) (Φ : Con) (Y : Yld) (sz : Nat) (all : List Oper) (n : Nat) : Draw := Nat.rec (motive := fun _ => Draw) (fun _ _ _ _ _ => False) (fun _ self => drawS P Φ Y sz all self) n

/-! The static check -/
def namesOf (ops : List Oper) (o : Oper) : List Nat := (o.op.operands.toList.filterMap fun | .tmp t => some t | _ => none) ++
  (match o.guard with
   | some (g, _) => (match ops[g]? with | some og => og.dst.toList | none => [])
   | none => [])
def writesB (ops : List Oper) (o o' : Oper) : Bool := match o.dst with
  | some d => (namesOf ops o').any (Nat.beq d)
  | none => false
def pairS (ops : List Oper) (bs : List Nat) (i j : Nat) (oi oj : Oper) : Bool :=
  (Nat.testBit (bs.getD j 0) i || !(writesB ops oi oj || writesB ops oj oi)) && (match oi.dst, oj.dst with | some d, some d' => !(Nat.beq d d') | _, _ => true)
def rowS (ops : List Oper) (bs : List Nat) (j : Nat) (oj : Oper) : Nat → List Oper → Bool
  | _, [] => true
  | i, oi :: l => pairS ops bs i j oi oj && rowS ops bs j oj (i + 1) l
def allS (ops : List Oper) (bs : List Nat) : Nat → List Oper → Bool
  | _, [] => true
  | j, o :: l => rowS ops bs j o 0 (ops.take j) && o.after.toList.all (fun e => !Region.binds .any e || Nat.blt e.on j) && (match o.guard with | some (g, _) => Nat.blt g j | none => true) && allS ops bs (j + 1) l
def staticS (ops : List Oper) : Bool := allS ops (befores ops []) 0 ops
def codeS : Code → Bool
  | .seq x y => codeS x && codeS y
  | .cond _ x y => codeS x && codeS y
  | .block _ x => codeS x
  | .loop x => codeS x
  | .scope x => codeS x
  | .region _ ops true => staticS ops.toList
  | .rangeFunc _ _ asg body => codeS asg && codeS body
  | _ => true

/-! Functions -/
def putArgs : Nat → List V → Tr V → (Tr V → Prop) → Prop
  | _, [], t, k => k t
  | i, v :: l, t, k => t.put 60 i (some v) fun t => putArgs (i + 1) l t k
def putParams (sz : Nat) : List Tmp → List V → Tr V → (Tr V → Prop) → Prop
  | [], [], t, k => k t
  | i :: ps, v :: l, t, k => need (Nat.blt i sz) (t.put 60 i (some v) fun t => putParams sz ps l t k)
  | _, _, _, _ => False
def resultsP (P : Program) (t : Tr V) (s : St) : List ResultVar → (List V → Prop) → Prop
  | [], K => K []
  | .tmp i :: l, K => withO (t.get i) fun v => resultsP P t s l fun vs => K (v :: vs)
  | .cell i ty :: l, K => withO (t.get i) fun u => loadP P s ty u fun v => resultsP P t s l fun vs => K (v :: vs)
/-- What the end of a function collects. -/
def marksP : List Nat → St → (St → Prop) → Prop
  | [], s, K => K s
  | D :: ms, s, K => withO (s.H.get D) fun o => match o with
    | .mark => setP s D none fun s => marksP ms s K
    | _ => False
def endP (P : Program) (fn : Func) (ms : List Nat) (t : Tr V) (s : St) (K : V → St → Prop) : Prop := marksP ms s fun s => resultsP P t s fn.results.toList fun vs => match vs with
  | [v] => K v s
  | vs => K (.tup vs) s

/-! Code -/
abbrev Kont := Ex → List Nat → Tr V → St → Prop
abbrev Body := List Nat → Tr V → St → Kont → Prop
/-- From pr on names may be given anew. -/
def loopP (pr : Nat) (body : Body) (ms : List Nat) (t : Tr V) (s : St) (K : Kont) : Prop := match ms with
  | [] => ∃ (X : Type) (T : X → List (Nat × V)) (S : X → List (Option SObj)) (m : X → Nat) (G : X → Prop) (k : Nat), (∃ x L, G x ∧ castL pr L t s (T x) (S x)) ∧ (∀ x, Nat.beq (S x).length k = true) ∧
      ∀ x, G x → body [] (tOf (T x)) ⟨k, Tr.ofLO 0 (S x) .leaf⟩ fun e ms t s => match e with
        | .normal => match ms with
          | [] => ∃ x' L, m x' < m x ∧ G x' ∧ castL pr L t s (T x') (S x')
          | _ => False
        | .exit i => K (.exit i) ms t s
        | .ret => K .ret ms t s
  | _ => False
/-- One round more of the loop at l. -/
def yieldP (run : Nat → Nat → Code → Body) (l0 : Nat) : Yld := fun l args s K => need (Nat.beq l l0) (match s with | ⟨n, H⟩ => withO (H.get l) fun o => match o with
  | .loop _ _ sz t ps asg bo _ => need (codeS asg && codeS bo) (putParams sz ps args t fun t => run n sz asg [] t ⟨n, H⟩ fun e ms t s1 => match e, ms with
    | .normal, [] => withO (s1.H.get l) fun o => match o with
      | .loop .ready pend sz2 t2 ps2 asg2 bo2 D2 => need (Nat.beq sz sz2) (setP s1 l (some (.loop .busy pend sz2 t2 ps2 asg2 bo2 D2)) fun s1 => run n sz bo [] t s1 fun e _ _ s2 => withO (s2.H.get l) fun o => match o with
        | .loop _ _ sz3 t3 ps3 asg3 bo3 D3 => match e with
          | .normal => setP s2 l (some (.loop .ready none sz3 t3 ps3 asg3 bo3 D3)) fun s => K (.bool true) s
          | .ret => setP s2 l (some (.loop .done (some .ret) sz3 t3 ps3 asg3 bo3 D3)) fun s => K (.bool false) s
          | .exit id => setP s2 l (some (.loop .done (some (.exit id)) sz3 t3 ps3 asg3 bo3 D3)) fun s => K (.bool false) s
        | _ => False)
      | _ => False
    | _, _ => False)
  | _ => False)
/-- The first region that is run. -/
def firstR : Code → Option Nat
  | .region id _ _ => some id
  | .seq x y => match firstR x with
    | some i => some i
    | none => firstR y
  | .scope x => firstR x
  | .block _ x => firstR x
  | .loop x => firstR x
  | _ => none
/-- 1: a cut; 2 (the region's number and 1000): one that keeps what the function's end collects. -/
def cutK (C : List Nat) (y : Code) : Nat := match C with
  | [] => 0
  | C => match firstR y with
    | some i => bif C.any (Nat.beq i) then 1 else bif C.any (Nat.beq (i + 1000)) then 2 else 0
    | none => 0
def marksC (φ : Nat → Option Nat) : List Nat → List Nat → Prop
  | [], [] => True
  | i :: l, j :: m => (match φ i with | some i' => Nat.beq i' j = true | none => False) ∧ marksC φ l m
  | _, _ => False
def cutM (pr : Nat) (bx bY : Body) (ms : List Nat) (t : Tr V) (s : St) (K : Kont) : Prop :=
  ∃ (X : Type) (T : X → List (Nat × V)) (S : X → List (Option SObj)) (M : X → List Nat) (G : X → Prop) (k : Nat), (∀ x, Nat.beq (S x).length k = true) ∧
    (bx ms t s fun e ms t s => match e with
      | .normal => ∃ x L, G x ∧ castL pr L t s (T x) (S x) ∧ marksC (phi pr s.n L) (M x) ms
      | .exit i => K (.exit i) ms t s
      | .ret => K .ret ms t s) ∧
    ∀ x, G x → bY (M x) (tOf (T x)) ⟨k, Tr.ofLO 0 (S x) .leaf⟩ K
/-- Whatever way x took: y from a state that is said. -/
def cutP (pr : Nat) (bx bY : Body) (ms : List Nat) (t : Tr V) (s : St) (K : Kont) : Prop :=
  ∃ (X : Type) (T : X → List (Nat × V)) (S : X → List (Option SObj)) (G : X → Prop) (k : Nat), (∀ x, Nat.beq (S x).length k = true) ∧
    (bx ms t s fun e ms t s => match e with
      | .normal => match ms with
        | [] => ∃ x L, G x ∧ castL pr L t s (T x) (S x)
        | _ => False
      | .exit i => K (.exit i) ms t s
      | .ret => K .ret ms t s) ∧
    ∀ x, G x → bY [] (tOf (T x)) ⟨k, Tr.ofLO 0 (S x) .leaf⟩ K
abbrev Self := (Y : Yld) → (rd : Bool) → (pr sz : Nat) → Code → Body
def codeF (P : Program) (Φ : Con) (C : List Nat) (self : Self) : Self := fun Y rd pr sz c ms t s K => match c with
    | .skip => K .normal ms t s
    | .label _ => K .normal ms t s
    | .scope x => self Y rd pr sz x ms t s K
    | .seq x y => match cutK C y with
      | 1 => cutP pr (self Y rd pr sz x) (self Y rd pr sz y) ms t s K
      | 2 => cutM pr (self Y rd pr sz x) (self Y rd pr sz y) ms t s K
      | _ => self Y rd pr sz x ms t s fun e ms t s => match e with
        | .normal => self Y rd pr sz y ms t s K
        | .exit i => K (.exit i) ms t s
        | .ret => K .ret ms t s
    | .cond c x y => withO (opd t c) fun v => match v with
      | .bool true => self Y rd pr sz x ms t s K
      | .bool false => self Y rd pr sz y ms t s K
      | .sb b => (b = true → self Y rd pr sz x ms t s K) ∧ (b = false → self Y rd pr sz y ms t s K)
      | _ => False
    | .block id x => self Y rd pr sz x ms t s fun e ms t s => match e with
      | .exit j => match Nat.beq j id with
        | true => K .normal ms t s
        | false => K (.exit j) ms t s
      | .normal => K .normal ms t s
      | .ret => K .ret ms t s
    | .loop x => loopP pr (self Y rd pr sz x) ms t s K ∨ self Y rd pr sz x ms t s fun e ms t s => match e with
      | .normal => self Y rd pr sz (.loop x) ms t s K
      | .exit i => K (.exit i) ms t s
      | .ret => K .ret ms t s
    | .exit id => K (.exit id) ms t s
    | .ret => K .ret ms t s
    | .region _ ops false => opsP P Φ Y sz ops.toList ops.toList t s fun t s => K .normal ms t s
    | .region _ ops true => drawP P Φ Y sz ops.toList 10000 0 [] t s fun t s => K .normal ms t s
    | .rangeFunc f ps asg body => match rd with
      | true => False
      | false => withO (opd t f) fun v => match v with
        | .fn (.func g) fi ca => withO (P.funcs[g]?) fun fn => withO fn.body fun c => need (codeS c) (newP s .mark fun D s => newP s (.loop .ready none sz t ps.toList asg body D) fun l s =>
            putArgs 0 (fi ++ (.yl l :: ca)) .leaf fun tg => lenK (fi ++ (.yl l :: ca)) 0 fun k => natP (k + (fn.ntmps - k)) fun sz' => match s with | ⟨n, H⟩ => self (yieldP (fun pr sz c => self Y true pr sz c) l) false n sz' c [] tg ⟨n, H⟩ fun e mg tg sg => match e with
              | .exit _ => False
              | _ => endP P fn mg tg sg fun _ s => withO (s.H.get l) fun o => match o with
                | .loop .busy _ _ _ _ _ _ _ => False
                | .loop _ pend sz' t' ps' asg' bo' D' => setP s l (some (.loop .exhausted pend sz' t' ps' asg' bo' D')) fun s => match pend with
                  | none => K .normal (D :: ms) t s
                  | some c => need (codeS c) (self Y rd pr sz c (D :: ms) t s K)
                | _ => False)
        | _ => False
    | _ => False
def codeP (P : Program) (Φ : Con) (C : List Nat) (n : Nat) : Self := Nat.rec (motive := fun _ => Self) (fun _ _ _ _ _ _ _ _ _ => False) (fun _ self => codeF P Φ C self) n
/-- C: the regions ahead of which the ways are joined. -/
def bodyP (P : Program) (Φ : Con) (C : List Nat) (fn : Func) (c : Code) (args : List V) (s : St) (K : V → St → Prop) : Prop :=
  putArgs 0 args .leaf fun t => lenK args 0 fun k => natP (k + (fn.ntmps - k)) fun sz => match s with | ⟨n, H⟩ => codeP P Φ C 100000 noYld false n sz c [] t ⟨n, H⟩ fun e ms t s => match e with
    | .exit _ => False
    | _ => endP P fn ms t s K

end Sy
end Go.Proofs.Ytmgcpfljhcahoaa
end
