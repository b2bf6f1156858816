/- Symbolic states: structs, rows and maps that are built. -/
import Derived.Test.YtmgcpfljhcahoaaSyGrow
import Derived.RangeFuncRecord
namespace Go.Proofs.Ytmgcpfljhcahoaa
open Go Go.RowKit
namespace Sy
variable {md : Bool}

def opdPairs (t : Tr V) : List (Nat × Operand) → (List (Nat × V) → Prop) → Prop
  | [], K => K []
  | (i, x) :: l, K => withO (opd t x) fun v => opdPairs t l fun vs => K ((i, v) :: vs)
def fillP (place : Nat → Option (Nat × Nat)) : List (Nat × V) → List V → (List V → Prop) → Prop
  | [], l, K => K l
  | (i, v) :: r, l, K => withO (place i) fun p => need (Nat.beq (cellsOf v).length p.2) (putLP p.1 l (cellsOf v) fun l => fillP place r l K)
def placesP (P : Program) (ty : TypeId) (K : (Nat → Option (Nat × Nat)) → Prop) : Prop := match P.underlying ty with
  | some (.struct fs) => withO (fs.toList.mapM fun f => (P.info? f.type).map fun i => (f.offset, i.size)) fun places => K fun i => places[i]?
  | some (.array _ e) => withO (sizeT P e) fun sz => K fun i => some (i * sz, sz)
  | _ => False
def buildP (P : Program) (t : Tr V) (ty : TypeId) (ps : List (Nat × Operand)) (K : V → Prop) : Prop :=
  opdPairs t ps fun vs => withO (zeroT P ty) fun z => withO (ofV z) fun zv => placesP P ty fun place => fillP place vs (cellsOf zv) fun l => K (.agg l)
def repP : Nat → List V → List V → (List V → Prop) → Prop
  | 0, _, acc, K => K acc
  | n + 1, z, acc, K => repP n z (z ++ acc) K
def chunk (l : List V) (sz j : Nat) : List V := (l.drop (j * sz)).take sz
def buildSliceP (P : Program) (t : Tr V) (s : St) (ty : TypeId) (n : Nat) (ps : List (Nat × Operand)) (K : V → St → Prop) : Prop := match P.underlying ty with
  | some (.slice e) => opdPairs t ps fun vs => withO (sizeT P e) fun sz => withO (zeroT P e) fun z => withO (ofV z) fun zv => need (Nat.beq (cellsOf zv).length sz && Nat.ble 1 sz && Nat.ble (n * sz) 100000)
      (repP n (cellsOf zv) [] fun l => fillP (fun i => some (i * sz, sz)) vs l fun l => need (oneCells l && Nat.beq l.length (n * sz)) (newP s (.row n (chunk l sz) e sz) fun b s => K (.sl b 0 sz n false) s))
  | _ => False
def makeSliceP (P : Program) (s : St) (ty : TypeId) (x y : V) (K : V → St → Prop) : Prop := match P.underlying ty, x, y with
  | some (.slice e), .int _ a, .int _ b => withO (sizeT P e) fun sz => withO (bytesT P e) fun by_ => withO (zeroT P e) fun z => withO (ofV z) fun zv => need (Nat.beq (cellsOf zv).length sz && Nat.ble 1 sz && oneCells (cellsOf zv))
      (0 ≤ a ∧ a ≤ b ∧ b * (sz + by_) ≤ 1000000 ∧ newP s (.row a.toNat (fun _ => cellsOf zv) e sz) fun i s => K (.sl i 0 sz a.toNat false) s)
  | _, _, _ => False

section
variable {P : Program} {ρ ρ' : Ren} {s s' : St} {w w' : World} {o : Oper} {a act : Act} {t : Tr V}

theorem info_of_size {ty n : Nat} (h : sizeT P ty = some n) : ∃ i, P.info? ty = some i ∧ i.size = n := by
  unfold sizeT at h
  cases hi : P.info? ty with
  | none => simp [hi] at h
  | some i => simp [hi] at h; exact ⟨i, rfl, h⟩
theorem zero_info {ty : TypeId} {z : Value} (h : zeroT P ty = some z) : ∃ i, P.info? ty = some i ∧ i.zero = some z := by
  unfold zeroT at h
  cases hi : P.info? ty with
  | none => simp [hi] at h
  | some i => simp [hi] at h; exact ⟨i, rfl, h⟩
theorem cellsOf_length (hσ : ∀ i v, ρ.σ i = some v → v.oneCell' = true) {v : V} {v' : Value} (h : cz ρ v = some v') : v'.cells.size = (cellsOf v).length := by
  have := czl_length (czl_cellsOf hσ h)
  simpa using this
theorem opdPairs_ok : ∀ {xs : List (Nat × Operand)} {K : List (Nat × V) → Prop}, opdPairs t xs K → ∃ vs, K vs ∧ ∀ {ρ : Ren} {act : Act}, (∀ x ∈ xs, OpdOk ρ t act x.2) →
    ∃ vs' : List (Nat × Value), (xs.map fun p => (p.1, act.eval p.2)) = vs' ∧ vs'.map (·.1) = vs.map (·.1) ∧ czl ρ (vs.map (·.2)) = some (vs'.map (·.2))
  | [], K, h => ⟨[], h, fun _ => ⟨[], rfl, rfl, by simp [czl]⟩⟩
  | (i, x) :: xs, K, h => by
    simp only [opdPairs] at h
    replace h := withO_ok h; obtain ⟨v, hv, h⟩ := h
    obtain ⟨vs, h1, h2⟩ := opdPairs_ok h
    refine ⟨_, h1, fun {ρ act} hx => ?_⟩
    obtain ⟨vs', g1, g2, g3⟩ := h2 (ρ := ρ) (act := act) (fun x hx' => hx x (by simp [hx']))
    refine ⟨(i, act.eval x) :: vs', by simp [g1], by simp [g2], ?_⟩
    exact czl_cons.2 ⟨_, _, hx (i, x) (by simp) v hv, g3, rfl⟩
theorem take_set_succ {α : Type} (v : α) : ∀ (n : Nat) (l : List α), n < l.length → (l.set n v).take (n + 1) = l.take n ++ [v]
  | _, [], h => by simp at h
  | 0, x :: l, _ => by simp
  | n + 1, x :: l, h => by simpa using take_set_succ v n l (by simpa using h)
theorem foldl_set (off : Nat) : ∀ (vs : List Value) (j : Nat) (arr : Array Value), off + j + vs.length ≤ arr.size →
    (vs.zipIdx j).foldl (fun cs (p : Value × Nat) => cs.setIfInBounds (off + p.2) p.1) arr = (arr.toList.take (off + j) ++ vs ++ arr.toList.drop (off + j + vs.length)).toArray
  | [], j, arr, _ => by simp
  | v :: vs, j, arr, h => by
    simp only [List.length_cons] at h
    rw [List.zipIdx_cons, List.foldl_cons, foldl_set off vs (j + 1) _ (by simp; omega)]
    apply Array.toList_inj.1
    simp only [Array.toList_setIfInBounds]
    rw [show off + (j + 1) = off + j + 1 by omega, take_set_succ v _ _ (by simp; omega), List.drop_set_of_lt (by omega)]
    simp [show off + j + 1 + vs.length = off + j + (vs.length + 1) by omega]
theorem fillP_ok {place : Nat → Option (Nat × Nat)} : ∀ {vs : List (Nat × V)} {l : List V} {K : List V → Prop}, fillP place vs l K → ∃ r, K r ∧ r.length = l.length ∧ ∀ {ρ : Ren} {vs' : List (Nat × Value)} {l' : List Value}, (∀ i v, ρ.σ i = some v → v.oneCell' = true) →
    vs'.map (·.1) = vs.map (·.1) → czl ρ (vs.map (·.2)) = some (vs'.map (·.2)) → czl ρ l = some l' → ∃ r', czl ρ r = some r' ∧ Instr.fill place l'.toArray vs' = some r'.toArray
  | [], l, K, h => ⟨l, h, rfl, fun {ρ vs' l'} _ h1 _ hl => by
    have : vs' = [] := by simpa using h1
    subst this
    exact ⟨l', hl, rfl⟩⟩
  | (i, v) :: vs, l, K, h => by
    simp only [fillP] at h
    replace h := withO_ok h; obtain ⟨p, hpl, h⟩ := h
    obtain ⟨hb, h⟩ := need_ok h
    obtain ⟨h, hle⟩ := putLP_ok h
    obtain ⟨r, h1, h2, h3⟩ := fillP_ok h
    refine ⟨r, h1, by rw [h2, putD_length hle], fun {ρ vs' l'} hσ e1 e2 hl => ?_⟩
    cases vs' with
    | nil => simp at e1
    | cons q vs' =>
      obtain ⟨i', v'⟩ := q
      simp only [List.map_cons, List.cons.injEq] at e1
      obtain ⟨rfl, e1⟩ := e1
      obtain ⟨u, us, g1, g2, e⟩ := czl_cons.1 e2
      simp only [List.map_cons, List.cons.injEq] at e
      obtain ⟨rfl, rfl⟩ := e
      have hc := czl_cellsOf hσ g1
      have hlen := czl_length hc
      have hll := czl_length hl
      have hs : v'.cells.size = p.2 := by rw [cellsOf_length hσ g1]; simpa using hb
      have hl2 := czl_append (czl_append (czl_take p.1 hl) hc) (czl_drop (p.1 + (cellsOf v).length) hl)
      obtain ⟨r', q2, q4⟩ := h3 hσ e1 g2 hl2
      refine ⟨r', q2, ?_⟩
      have hp' : place i' = some (p.1, p.2) := hpl
      simp only [Instr.fill, hp']
      rw [if_neg (by simp at hlen ⊢; omega)]
      have hf := foldl_set p.1 v'.cells.toList 0 l'.toArray (by simp at hlen ⊢; omega)
      have hz : v'.cells.zipIdx.foldl (fun cs (q : Value × Nat) => cs.setIfInBounds (p.1 + q.2) q.1) l'.toArray = ((v'.cells.toList.zipIdx).foldl (fun (cs : Array Value) (q : Value × Nat) => cs.setIfInBounds (p.1 + q.2) q.1) l'.toArray) := by
        rw [← Array.foldl_toList]
        simp
      simp only [Nat.add_zero] at hf
      rw [← hlen] at q4
      exact (congrArg (fun x => Instr.fill place x vs') (hz.trans hf)).trans q4

theorem buildP_ok {ty : TypeId} {ps : Array (Nat × Operand)} {K : V → Prop} (hop : o.op = .build ty ps) (h : buildP P t ty ps.toList K) : ∃ v, K v ∧ ∀ {ρ : Ren} {act : Act}, (∀ i v, ρ.σ i = some v → v.oneCell' = true) → (∀ z ∈ o.op.operands, OpdOk ρ t act z) →
    ∃ v', cz ρ v = some v' ∧ ∀ w, (execOp act.eval o).run P w = .ok (.value v') w := by
  unfold buildP at h
  obtain ⟨vs, h, hvs⟩ := opdPairs_ok h
  replace h := withO_ok h; obtain ⟨z, hz, h⟩ := h
  replace h := withO_ok h; obtain ⟨zv, hzv, h⟩ := h
  obtain ⟨it, hit, hzz⟩ := zero_info hz
  have fin : ∀ {place : Nat → Option (Nat × Nat)}, fillP place vs (cellsOf zv) (fun l => K (.agg l)) → (∀ (vs' : List (Nat × Value)) (r' : Array Value), Instr.fill place z.cells vs' = some r' → P.built ty vs' = some r') → ∃ v, K v ∧ ∀ {ρ : Ren} {act : Act}, (∀ i v, ρ.σ i = some v → v.oneCell' = true) → (∀ z ∈ o.op.operands, OpdOk ρ t act z) →
      ∃ v', cz ρ v = some v' ∧ ∀ w, (execOp act.eval o).run P w = .ok (.value v') w := by
    intro place h hb
    obtain ⟨r, h1, h2, h3⟩ := fillP_ok h
    refine ⟨_, h1, fun {ρ act} hσ hx => ?_⟩
    obtain ⟨vs', e, e1, e2⟩ := hvs (ρ := ρ) (act := act) fun x hx' => hx x.2 (by rw [hop]; simp [Op.operands]; exact ⟨x.1, by simpa using hx'⟩)
    have hzc := czl_cellsOf hσ (cz_ofV (ρ := ρ) hzv)
    obtain ⟨r', q2, q4⟩ := h3 hσ e1 e2 hzc
    rw [Array.toArray_toList] at q4
    have hparts : (ps.map fun (i, x) => (i, act.eval x)).toList = vs' := by rw [← e]; simp
    refine ⟨.agg r'.toArray, by simp only [cz, q2, Option.map_some], fun w => ?_⟩
    simp only [execOp, hop, Sem.run_bind, run_build (P := P) w ty _ r'.toArray (by rw [hparts]; exact hb _ _ q4), Result.andThen_ok, Sem.run_pure]
  unfold placesP at h
  split at h
  · rename_i fs hd
    replace h := withO_ok h; obtain ⟨places, hpl, h⟩ := h
    refine fin h fun vs' r' hf => ?_
    unfold Program.built
    simp only [hit, hd, hzz, hpl]
    have : (fun (i : Nat) => places[i]?) = (fun (i : Nat) => places.toArray[i]?) := by funext i; simp
    rw [this] at hf
    exact hf
  · rename_i n e' hd
    replace h := withO_ok h; obtain ⟨n', hn', h⟩ := h
    obtain ⟨ie, hie, hsz⟩ := info_of_size hn'
    refine fin h fun vs' r' hf => ?_
    unfold Program.built
    simp only [hit, hd, hzz, hie, hsz]
    exact hf
  · exact h.elim

theorem repP_ok {z : List V} : ∀ {n : Nat} {acc : List V} {K : List V → Prop}, repP n z acc K → K ((List.replicate n z).flatten ++ acc)
  | 0, acc, K, h => by simpa [repP] using h
  | n + 1, acc, K, h => by
    have := repP_ok (n := n) (acc := z ++ acc) h
    rw [List.replicate_succ', List.flatten_append]
    simpa [List.append_assoc] using this
theorem flatten_get {z : List Value} : ∀ (n j : Nat), j < n * z.length → ((List.replicate n z).flatten)[j]? = z[j % z.length]?
  | 0, j, h => by simp at h
  | n + 1, j, h => by
    rw [List.replicate_succ, List.flatten_cons]
    by_cases hj : j < z.length
    · rw [List.getElem?_append_left hj, Nat.mod_eq_of_lt hj]
    · rw [Nat.succ_mul] at h
      rw [List.getElem?_append_right (by omega), flatten_get n (j - z.length) (by omega), Nat.mod_eq_sub_mod (a := j) (by omega)]
theorem zeros_eq {z : Array Value} {n : Nat} (hz : 0 < z.size) : (Array.range (n * z.size)).map (fun j => z[j % z.size]!) = ((List.replicate n z.toList).flatten).toArray := by
  apply Array.ext_getElem?
  intro j
  have hl : ((List.replicate n z.toList).flatten).length = n * z.size := by simp
  by_cases hj : j < n * z.size
  · have := flatten_get (z := z.toList) n j (by simpa using hj)
    simp only [List.getElem?_toArray, this]
    have hm : j % z.size < z.size := Nat.mod_lt _ hz
    simp [hj, hm]
  · rw [Array.getElem?_eq_none (by simp; omega), Array.getElem?_eq_none (by simp; omega)]
theorem czl_rep {z : List V} {z' : List Value} (h : czl ρ z = some z') : ∀ n, czl ρ ((List.replicate n z).flatten) = some ((List.replicate n z').flatten)
  | 0 => by simp [czl]
  | n + 1 => by rw [List.replicate_succ, List.flatten_cons, List.replicate_succ, List.flatten_cons]; exact czl_append h (czl_rep h n)
theorem rowL_const (z : List V) : ∀ n, rowL (fun _ => z) n = (List.replicate n z).flatten
  | 0 => rfl
  | n + 1 => by rw [rowL_succ, rowL_const z n, List.replicate_succ', List.flatten_append]; simp
theorem rowL_chunk {sz : Nat} : ∀ {n : Nat} {l : List V}, l.length = n * sz → rowL (chunk l sz) n = l
  | 0, l, h => by
    have : l = [] := List.eq_nil_of_length_eq_zero (by omega)
    subst this; rfl
  | n + 1, l, h => by
    rw [Nat.succ_mul] at h
    have ih := rowL_chunk (sz := sz) (n := n) (l := l.take (n * sz)) (by rw [List.length_take]; omega)
    have e : rowL (chunk (l.take (n * sz)) sz) n = rowL (chunk l sz) n := rowL_congr fun j hj => by
      unfold chunk
      have : (j + 1) * sz ≤ n * sz := Nat.mul_le_mul_right _ hj
      rw [Nat.succ_mul] at this
      rw [List.drop_take, List.take_take, Nat.min_eq_left (by omega)]
    rw [rowL_succ, ← e, ih]
    unfold chunk
    rw [List.take_of_length_le (l := l.drop (n * sz)) (by rw [List.length_drop]; omega), List.take_append_drop]
theorem oneCells_sub {l : List V} (h : oneCells l = true) (a b : Nat) : oneCells ((l.drop a).take b) = true := by
  have h1 : ∀ (l : List V) (n : Nat), oneCells l = true → oneCells (l.drop n) = true := fun l => by
    induction l with
    | nil => intro n h; simpa using h
    | cons v l ih =>
      intro n h
      have : oneCells l = true := by cases v <;> simp_all [oneCells]
      cases n with
      | zero => simpa using h
      | succ n => simpa using ih n this
  have h2 : ∀ (l : List V) (n : Nat), oneCells l = true → oneCells (l.take n) = true := fun l => by
    induction l with
    | nil => intro n h; simpa using h
    | cons v l ih =>
      intro n h
      cases n with
      | zero => simp [oneCells]
      | succ n =>
        rw [List.take_succ_cons]
        have : oneCells l = true := by cases v <;> simp_all [oneCells]
        have := ih n this
        cases v <;> simp_all [oneCells]
  exact h2 _ _ (h1 _ _ h)

theorem buildSliceP_ok {ty : TypeId} {n : Nat} {ps : Array (Nat × Operand)} {K : V → St → Prop} (hop : o.op = .buildSlice ty n ps) (h : buildSliceP P t s ty n ps.toList K) (hr : Rel ρ s w) (hx : ∀ z ∈ o.op.operands, OpdOk ρ t act z) :
    ∃ v s' ρ' w' v', K v s' ∧ Step md s.n s ρ w s' ρ' w' ∧ cz ρ' v = some v' ∧ (execOp act.eval o).run P w = .ok (.value v') w' := by
  unfold buildSliceP at h
  split at h
  · rename_i e hd
    obtain ⟨vs, h, hvs⟩ := opdPairs_ok h
    replace h := withO_ok h; obtain ⟨n', hn', h⟩ := h
    replace h := withO_ok h; obtain ⟨z, hz, h⟩ := h
    replace h := withO_ok h; obtain ⟨zv, hzv, h⟩ := h
    obtain ⟨hb, h⟩ := need_ok h
    simp only [Bool.and_eq_true] at hb
    obtain ⟨⟨hlen, hpos⟩, hbig⟩ := hb
    have hlen' : (cellsOf zv).length = n' := by simpa using hlen
    have hpos' : 1 ≤ n' := Nat.le_of_ble_eq_true hpos
    have hbig' : n * n' ≤ 100000 := Nat.le_of_ble_eq_true hbig
    have h := repP_ok h
    rw [List.append_nil] at h
    obtain ⟨r, h, hrl, hfill⟩ := fillP_ok h
    obtain ⟨hb, h⟩ := need_ok h
    simp only [Bool.and_eq_true] at hb
    have hrlen : r.length = n * n' := by simpa using hb.2
    replace h := newP_ok h; obtain ⟨H, hH, h⟩ := h
    obtain ⟨vs', e', h1, h2⟩ := hvs (ρ := ρ) (act := act) fun x hx' => hx x.2 (by rw [hop]; simp [Op.operands]; exact ⟨x.1, by simpa using hx'⟩)
    have hcz := cz_ofV (ρ := ρ) hzv
    have hzc := czl_cellsOf hr.sig hcz
    have hzl : z.cells.size = n' := by rw [cellsOf_length hr.sig hcz]; exact hlen'
    obtain ⟨r', q2, q4⟩ := hfill hr.sig h1 h2 (czl_rep hzc n)
    have hrow : czl ρ (rowL (chunk r n') n) = some r' := by rw [rowL_chunk hrlen]; exact q2
    have hok : RowOk n (chunk r n') n' := fun j hj => by
      refine ⟨?_, oneCells_sub hb.1 _ _⟩
      unfold chunk
      have : (j + 1) * n' ≤ n * n' := Nat.mul_le_mul_right _ hj
      rw [Nat.succ_mul] at this
      rw [List.length_take, List.length_drop]
      omega
    have hr'l := czl_length q2
    have st := Step.row (md := md) hr hrow hok hpos' (tail := []) (m := n) (by rw [List.append_nil]; omega) hH (d := w.drawn) (e := e)
    rw [List.append_nil] at st
    refine ⟨_, _, _, _, .slice (some ⟨w.heap.size, 0, none⟩) n n, h, st, by simp [cz, Ren.add], ?_⟩
    have hparts : (ps.map fun (i, x) => (i, act.eval x)).toList = vs' := by rw [← e']; simp
    have hnot : ¬ n * n' > 2 ^ 24 := by omega
    by_cases h0 : n * n' = 0
    · have hn0 : n = 0 := by
        rcases Nat.mul_eq_zero.1 h0 with g | g
        · exact g
        · omega
      subst hn0
      have q4' : Instr.fill (fun i => some (i * n', n')) #[] vs' = some r'.toArray := by simpa using q4
      have hr0 : (Array.map (fun _ => (default : Value)) (Array.range 0)) = #[] := Array.eq_empty_of_size_eq_zero (by simp)
      simp [execOp, hop, Instr.buildSlice, run_underlying hd, run_sizeOf hn', e', newRow, hr0, q4']
      rfl
    · have hcells : (Array.range (n * n')).map (fun j => z.cells[j % z.cells.size]!) = ((List.replicate n z.cells.toList).flatten).toArray := by
        rw [← hzl]
        exact zeros_eq (by omega)
      simp only [execOp, hop, Instr.buildSlice, Sem.run_bind, run_underlying hd, Result.andThen_ok, run_sizeOf hn', hnot, if_false, if_neg h0, run_zeroValue hz, Sem.run_pure, hcells, hparts, q4, newRow, run_newObj_alloc]
      rfl
  · exact h.elim

set_option maxRecDepth 10000 in
theorem makeSliceP_ok {ty : TypeId} {x y : Operand} {u v : V} {K : V → St → Prop} (hop : o.op = .makeSlice ty x y) (hu : cz ρ u = some (act.eval x)) (hv : cz ρ v = some (act.eval y)) (h : makeSliceP P s ty u v K) (hr : Rel ρ s w) :
    ∃ v s' ρ' w' v', K v s' ∧ Step md s.n s ρ w s' ρ' w' ∧ cz ρ' v = some v' ∧ (execOp act.eval o).run P w = .ok (.value v') w' := by
  unfold makeSliceP at h
  split at h
  · rename_i e k1 n0 k2 m0 hd
    replace h := withO_ok h; obtain ⟨n', hn', h⟩ := h
    replace h := withO_ok h; obtain ⟨by_, hby, h⟩ := h
    replace h := withO_ok h; obtain ⟨z, hz, h⟩ := h
    replace h := withO_ok h; obtain ⟨zv, hzv, h⟩ := h
    obtain ⟨hb, h⟩ := need_ok h
    simp only [Bool.and_eq_true] at hb
    obtain ⟨⟨hlen, hpos⟩, hone⟩ := hb
    have hlen' : (cellsOf zv).length = n' := by simpa using hlen
    have hpos' : 1 ≤ n' := Nat.le_of_ble_eq_true hpos
    obtain ⟨hn0, hnm, hbig, h⟩ := h
    replace h := newP_ok h; obtain ⟨H, hH, h⟩ := h
    simp only [cz, Option.some.injEq] at hu hv
    generalize hq : K = K' at h
    obtain ⟨n, rfl⟩ : ∃ n : Nat, n0 = n := ⟨n0.toNat, by omega⟩
    obtain ⟨m, rfl⟩ : ∃ m : Nat, m0 = m := ⟨m0.toNat, by omega⟩
    subst hq
    have hnm : n ≤ m := by omega
    have hcz := cz_ofV (ρ := ρ) hzv
    have hzc := czl_cellsOf hr.sig hcz
    have hzl : z.cells.size = n' := by rw [cellsOf_length hr.sig hcz]; exact hlen'
    have hbig' : m * (n' + by_) ≤ 1000000 := by
      have e : ((m * (n' + by_) : Nat) : Int) = (m : Int) * ((n' : Int) + (by_ : Int)) := by rw [Int.natCast_mul, Int.natCast_add]
      omega
    rw [Nat.mul_add] at hbig'
    have hrow : czl ρ (rowL (fun _ => cellsOf zv) n) = some ((List.replicate n z.cells.toList).flatten) := by rw [rowL_const]; exact czl_rep hzc n
    have hsplit : (List.replicate m z.cells.toList).flatten = (List.replicate n z.cells.toList).flatten ++ (List.replicate (m - n) z.cells.toList).flatten := by
      rw [← List.flatten_append, List.replicate_append_replicate, show n + (m - n) = m by omega]
    simp only [Int.toNat_natCast] at h hH
    have st := Step.row (md := md) hr hrow (fun j hj => ⟨hlen', hone⟩) hpos' (tail := (List.replicate (m - n) z.cells.toList).flatten) (m := m) (by rw [← hsplit]; simp [hzl]) hH (d := w.drawn) (e := e)
    rw [← hsplit] at st
    refine ⟨_, _, _, _, .slice (some ⟨w.heap.size, 0, none⟩) n m, h, st, by simp [cz, Ren.add, hnm], ?_⟩
    have hmm : m * 1 ≤ m * n' := Nat.mul_le_mul_left m hpos'
    have hwn : IntKind.i64.wrap (n : Int) = (n : Int) := IntWalk.i64_in _ (by constructor <;> omega)
    have hwm : IntKind.i64.wrap (m : Int) = (m : Int) := IntWalk.i64_in _ (by constructor <;> omega)
    simp only [bytesT, Option.map_eq_some_iff] at hby
    obtain ⟨ie, hie, hbe⟩ := hby
    have hmb : ((m * by_ : Nat) : Int) = (by_ : Int) * (m : Int) := by rw [Nat.mul_comm]; exact Int.natCast_mul by_ m
    have hnot : ¬ ((by_ : Int) * (m : Int) > 2 ^ 48) := by rw [← hmb]; omega
    have hm0 : ¬ ((m : Int) < 0) := by omega
    have hn0 : ¬ ((n : Int) < 0) := by omega
    have hgt : ¬ ((n : Int) > (m : Int)) := by omega
    have hti : (typeInfo e).run P w = .ok ie w := by simp [typeInfo, hie]
    by_cases h0 : m * n' = 0
    · have hm0' : m = 0 := by
        rcases Nat.mul_eq_zero.1 h0 with g | g
        · exact g
        · omega
      subst hm0'
      have hn0' : n = 0 := by omega
      subst hn0'
      have hr0 : ∀ z : Array Value, Array.map (fun x => z[x % z.size]!) (Array.range 0) = #[] := fun z => Array.eq_empty_of_size_eq_zero (by simp)
      simp only [execOp, hop, Instr.makeSlice, Sem.run_bind, run_underlying hd, Result.andThen_ok, ← hu, ← hv, asInt, asIntOf, Sem.run_pure, hti, hwn, hbe, hm0, hgt, hnot, decide_false, Bool.or_self, Bool.false_eq_true, if_false,
        run_askRoom, run_sizeOf hn', Int.toNat_natCast, Nat.zero_mul, if_true, hr0, newRow, run_newObj_alloc, List.replicate_zero, List.flatten_nil]
      rfl
    · have hcells : (Array.range (m * n')).map (fun j => z.cells[j % z.cells.size]!) = ((List.replicate m z.cells.toList).flatten).toArray := by
        rw [← hzl]
        exact zeros_eq (by omega)
      simp only [execOp, hop, Instr.makeSlice, Sem.run_bind, run_underlying hd, Result.andThen_ok, ← hu, ← hv, asInt, asIntOf, Sem.run_pure, hti, hwn, hwm, hbe, hm0, hn0, hgt, hnot, decide_false, Bool.or_self, Bool.false_eq_true, if_false,
        run_askRoom, run_sizeOf hn', Int.toNat_natCast, if_neg h0, run_zeroValue hz, hcells, newRow, run_newObj_alloc]
      rfl
  · exact h.elim
end
end Sy
end Go.Proofs.Ytmgcpfljhcahoaa
