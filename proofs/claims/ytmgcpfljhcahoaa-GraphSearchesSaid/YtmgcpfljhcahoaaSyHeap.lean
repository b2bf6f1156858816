/- Symbolic states: reading, writing and making memory. -/
import Derived.Test.YtmgcpfljhcahoaaSyPure2
namespace Go.Proofs.Ytmgcpfljhcahoaa
open Go Go.RowKit
namespace Sy
variable {md : Bool}

def natP (n : Nat) (k : Nat → Prop) : Prop := match n with
  | 0 => k 0
  | m + 1 => k (m + 1)
theorem natP_ok {n : Nat} {k : Nat → Prop} (h : natP n k) : k n := by cases n <;> exact h
/-- How many there are, reckoned. -/
def lenK {α : Type} (l : List α) (n : Nat) (K : Nat → Prop) : Prop := List.rec (motive := fun _ => Nat → Prop) (fun n => K n) (fun _ _ ih n => natP (n + 1) ih) l n
theorem lenK_ok {α : Type} {K : Nat → Prop} : ∀ {l : List α} {n : Nat}, lenK l n K → K (n + l.length)
  | [], _, h => h
  | _ :: l, n, h => by
    have h : natP (n + 1) fun n => lenK l n K := h
    have := lenK_ok (natP_ok h)
    rw [show n + 1 + l.length = n + (l.length + 1) by omega] at this
    exact this
def newP (s : St) (o : SObj) (K : Nat → St → Prop) : Prop := match s with
  | ⟨n, H⟩ => H.put 60 n (some o) fun H => natP (n + 1) fun n' => K n ⟨n', H⟩
def setP (s : St) (i : Nat) (o : Option SObj) (K : St → Prop) : Prop := match s with
  | ⟨n, H⟩ => H.put 60 i o fun H => K ⟨n, H⟩
theorem newP_ok {s : St} {o : SObj} {K : Nat → St → Prop} (h : newP s o K) : ∃ H, (∀ m, H.get m = if m = s.n then some o else s.H.get m) ∧ K s.n ⟨s.n + 1, H⟩ := by
  obtain ⟨H, h1, h2⟩ := Tr.put_get _ _ _ _ _ h
  exact ⟨H, h2, natP_ok (k := fun n' => K s.n ⟨n', H⟩) h1⟩
theorem setP_ok {s : St} {i : Nat} {o : Option SObj} {K : St → Prop} (h : setP s i o K) : ∃ H, (∀ m, H.get m = if m = i then o else s.H.get m) ∧ K ⟨s.n, H⟩ := by
  obtain ⟨H, h1, h2⟩ := Tr.put_get _ _ _ _ _ h
  exact ⟨H, h2, h1⟩

def putD (off : Nat) (l vs : List V) : List V := l.take off ++ vs ++ l.drop (off + vs.length)
def overLP : List V → List V → (List V → Prop) → Prop
  | [], l, k => k l
  | _ :: _, [], _ => False
  | v :: vs, _ :: l, k => overLP vs l fun l => k (v :: l)
def putLP : Nat → List V → List V → (List V → Prop) → Prop
  | 0, l, vs, k => overLP vs l k
  | _ + 1, [], _, _ => False
  | n + 1, x :: l, vs, k => putLP n l vs fun l => k (x :: l)
theorem overLP_ok : ∀ {vs l : List V} {k : List V → Prop}, overLP vs l k → k (vs ++ l.drop vs.length) ∧ vs.length ≤ l.length
  | [], _, _, h => by simpa [overLP] using h
  | _ :: _, [], _, h => h.elim
  | v :: vs, x :: l, k, h => by
    have := overLP_ok (vs := vs) (l := l) (k := fun l => k (v :: l)) h
    simpa using this
theorem putLP_ok : ∀ {n : Nat} {l vs : List V} {k : List V → Prop}, putLP n l vs k → k (putD n l vs) ∧ n + vs.length ≤ l.length
  | 0, l, vs, k, h => by have := overLP_ok h; simpa [putD] using this
  | _ + 1, [], _, _, h => h.elim
  | n + 1, x :: l, vs, k, h => by
    have := putLP_ok (n := n) (l := l) (k := fun l => k (x :: l)) h
    unfold putD at *
    simp only [List.take_succ_cons, List.length_cons, List.cons_append]
    refine ⟨?_, by omega⟩
    rw [show n + 1 + vs.length = n + vs.length + 1 by omega, List.drop_succ_cons]
    exact this.1
theorem putD_length {off : Nat} {l vs : List V} (h : off + vs.length ≤ l.length) : (putD off l vs).length = l.length := by simp [putD]; omega

def viewP (fv : Option (Nat → List V)) (m : Nat) (f : Nat → List V) (K : (Nat → List V) → Prop) : Prop := match fv with
  | none => K f
  | some g => (∀ q, q < m → g q = f q) ∧ K g
theorem viewP_ok {fv : Option (Nat → List V)} {m : Nat} {f : Nat → List V} {K : (Nat → List V) → Prop} (h : viewP fv m f K) : ∃ g, (∀ q, q < m → g q = f q) ∧ K g := by
  cases fv with
  | none => exact ⟨f, fun _ _ => rfl, h⟩
  | some g => exact ⟨g, h⟩

def loadP (P : Program) (s : St) (ty : TypeId) (v : V) (K : V → Prop) : Prop := match v with
  | .ptr i off => withO (s.H.get i) fun o => match o with
    | .cells l _ => partV P ty l off K
    | _ => False
  | .ep i j sz fo => withO (s.H.get i) fun o => match o with
    | .row n f _ sz' => need (Nat.beq sz sz') (j < n ∧ partV P ty (f j) fo K)
    | .ro _ n f _ sz' => need (Nat.beq sz sz') (j < n ∧ partV P ty (f j) fo K)
    | _ => False
  | .ap i b off => withO (s.H.get i) fun o => match o with
    | .memc _ M => ∃ l, M b = some l ∧ partV P ty l off K
    | _ => False
  | .ae i b j sz fo => withO (s.H.get i) fun o => match o with
    | .memr _ sz' M => need (Nat.beq sz sz') (∃ N C f, M b = some (N, C, f) ∧ j < N ∧ partV P ty (f j) fo K)
    | _ => False
  | _ => False
def storeP (P : Program) (s : St) (ty : TypeId) (u v : V) (fv : Option (Nat → List V)) (K : St → Prop) : Prop :=
  withO (sizeT P ty) fun n => need (Nat.beq (cellsOf v).length n && oneCells (cellsOf v)) (match u with
  | .ptr i off => withO (s.H.get i) fun o => match o with
    | .cells l e => putLP off l (cellsOf v) fun l => setP s i (some (.cells l e)) K
    | _ => False
  | .ep i j sz fo => withO (s.H.get i) fun o => match o with
    | .row m f e sz' => need (Nat.beq sz sz' && Nat.ble (fo + n) sz) (j < m ∧ viewP fv m (fun q => bif Nat.beq q j then putD fo (f q) (cellsOf v) else f q) fun f' => setP s i (some (.row m f' e sz')) K)
    | _ => False
  | .ap i b off => withO (s.H.get i) fun o => match o with
    | .memc T M => ∃ l, M b = some l ∧ putLP off l (cellsOf v) fun l' => ∃ M', (M' b = some l' ∧ ∀ x, x ≠ b → M' x = M x) ∧ setP s i (some (.memc T M')) K
    | _ => False
  | .ae i b j sz fo => withO (s.H.get i) fun o => match o with
    | .memr e sz' M => need (Nat.beq sz sz' && Nat.ble (fo + n) sz) (∃ N C f, M b = some (N, C, f) ∧ j < N ∧ ∃ f' M', (∀ q, q < N → f' q = bif Nat.beq q j then putD fo (f q) (cellsOf v) else f q) ∧ (M' b = some (N, C, f') ∧ ∀ x, x ≠ b → M' x = M x) ∧ setP s i (some (.memr e sz' M')) K)
    | _ => False
  | _ => False)

section
variable {P : Program} {ρ ρ' : Ren} {s s' : St} {w w' : World} {o : Oper} {a act : Act} {t : Tr V}

/-- What is read off a block's cells. -/
theorem run_loadVar {ty : TypeId} {C l' pre tail : List Value} {b q : Nat} {cs : List V} {fo : Nat} (hb : ∀ j v, C[j]? = some v → w.cell? ⟨b, j, none⟩ = some v) (hC : C = pre ++ l' ++ tail) (hq : q = pre.length + fo) (hl : czl ρ cs = some l') {v : V}
    (hv : partV P ty cs fo (· = v)) : ∃ v', cz ρ v = some v' ∧ (loadVar ty ⟨b, q, none⟩).run P w = .ok v' w := by
  subst hC hq
  unfold partV at hv
  have hlen := czl_length hl
  split at hv
  · rename_i ha
    obtain ⟨n, hn, hv⟩ := withO_ok hv
    obtain ⟨hle, hv⟩ := need_ok hv
    subst hv
    have hle := Nat.le_of_ble_eq_true hle
    have hd := czl_take n (czl_drop fo hl)
    refine ⟨.agg ((l'.drop fo).take n).toArray, by simp only [cz, hd, Option.map_some], ?_⟩
    have := run_loadCells_list (P := P) w ⟨b, pre.length + fo, none⟩ ((l'.drop fo).take n) (fun j u hj => by
      rw [add_off]
      apply hb
      have hj' : l'[fo + j]? = some u := by
        rw [List.getElem?_take] at hj
        split at hj
        · simpa [List.getElem?_drop] using hj
        · cases hj
      have hlt : fo + j < l'.length := (List.getElem?_eq_some_iff.1 hj').1
      rw [List.append_assoc, List.getElem?_append_right (by omega), List.getElem?_append_left (by omega), show pre.length + fo + j - pre.length = fo + j by omega]
      exact hj')
    rw [show ((l'.drop fo).take n).length = n by simp; omega] at this
    unfold loadVar
    simp only [Sem.run_bind, run_isAgg ha, Result.andThen_ok, if_true, run_sizeOf hn, this, Sem.run_pure]
  · rename_i ha
    obtain ⟨u, hu, hv⟩ := withO_ok hv
    subst hv
    obtain ⟨v', h1, h2⟩ := czl_get fo hl hu
    refine ⟨v', h2, ?_⟩
    have hlt : fo < l'.length := (List.getElem?_eq_some_iff.1 h1).1
    have := hb (pre.length + fo) v' (by
      rw [List.append_assoc, List.getElem?_append_right (by omega), List.getElem?_append_left (by omega), show pre.length + fo - pre.length = fo by omega]
      exact h1)
    unfold loadVar
    simp only [Sem.run_bind, run_isAgg ha, Result.andThen_ok, Bool.false_eq_true, if_false, run_load, this]
  · exact hv.elim
theorem partV_some {ty : TypeId} {cs : List V} {fo : Nat} {K : V → Prop} (h : partV P ty cs fo K) : ∃ v, K v ∧ partV P ty cs fo (· = v) := by
  unfold partV at h ⊢
  split at h
  · obtain ⟨n, hn, h⟩ := withO_ok h
    obtain ⟨hle, h⟩ := need_ok h
    exact ⟨_, h, by simp [hn, withO, need, hle]⟩
  · obtain ⟨v, hv, h⟩ := withO_ok h
    exact ⟨v, h, by simp [hv, withO]⟩
  · exact h.elim

theorem cell_of_list {b : Nat} {C : List Value} {e : TypeId} {fr : Nat × Nat} (h : w.heap[b]? = some (.cells C.toArray e fr)) (j : Nat) (v : Value) (hj : C[j]? = some v) : w.cell? ⟨b, j, none⟩ = some v := by
  simp [World.cell?, h, hj]

theorem loadP_ok {ty : TypeId} {u : V} {K : V → Prop} (h : loadP P s ty u K) : ∃ v, K v ∧ ∀ {ρ : Ren} {w : World} {u' : Value}, Rel ρ s w → cz ρ u = some u' → ∃ b q v', u' = .pointer (some ⟨b, q, none⟩) ∧ cz ρ v = some v' ∧ (loadVar ty ⟨b, q, none⟩).run P w = .ok v' w := by
  unfold loadP at h
  split at h
  · rename_i i off
    replace h := withO_ok h; obtain ⟨ob, ho, h⟩ := h
    split at h
    · rename_i l e
      obtain ⟨v, h1, h2⟩ := partV_some h
      refine ⟨v, h1, fun {ρ w u'} hr hu => ?_⟩
      simp only [cz, Option.map_eq_some_iff] at hu
      obtain ⟨b, hb, rfl⟩ := hu
      obtain ⟨b', l', g1, g2, g3, g4⟩ := hr.obj i _ ho
      rw [hb] at g1
      cases g1
      obtain ⟨v', q1, q2⟩ := run_loadVar (P := P) (ρ := ρ) (w := w) (b := b) (q := off) (C := l') (pre := []) (l' := l') (tail := []) (cell_of_list g3) (by simp) (by simp) g2 h2
      exact ⟨b, off, v', rfl, q1, q2⟩
    · exact h.elim
  · rename_i i j sz fo
    replace h := withO_ok h; obtain ⟨ob, ho, h⟩ := h
    have key : ∀ {n : Nat} {f : Nat → List V}, j < n → RowOk n f sz → ∀ {v : V}, partV P ty (f j) fo (· = v) → ∀ {ρ : Ren} {w : World} {b : Nat} {e : TypeId} {fr : Nat × Nat} {pre l' tail : List Value}, pre.length = ρ.δ i →
        czl ρ (rowL f n) = some l' → w.heap[b]? = some (.cells (pre ++ l' ++ tail).toArray e fr) → ∃ v', cz ρ v = some v' ∧ (loadVar ty ⟨b, ρ.δ i + j * sz + fo, none⟩).run P w = .ok v' w := by
      intro n f hj hf v hv ρ w b e fr pre l' tail hpre hl hbk
      obtain ⟨A, B, e1, e2⟩ := rowL_at hf.len hj
      rw [e1] at hl
      obtain ⟨x1, x2, k1, k2, rfl⟩ := czl_split hl
      obtain ⟨x3, x4, k3, k4, rfl⟩ := czl_split k1
      have hA := czl_length k3
      exact run_loadVar (P := P) (ρ := ρ) (w := w) (b := b) (C := pre ++ (x3 ++ x4 ++ x2) ++ tail) (pre := pre ++ x3) (l' := x4) (tail := x2 ++ tail) (cell_of_list hbk) (by simp) (by rw [List.length_append]; omega) k4 hv
    split at h
    · rename_i n f e sz'
      replace h := need_ok h; obtain ⟨hb, hj, h⟩ := h
      obtain rfl : sz = sz' := by simpa using hb
      obtain ⟨v, h1, h2⟩ := partV_some h
      refine ⟨v, h1, fun {ρ w u'} hr hu => ?_⟩
      simp only [cz, Option.map_eq_some_iff] at hu
      obtain ⟨b, hb, rfl⟩ := hu
      rcases hr.obj i _ ho with ⟨_, g3, _⟩ | ⟨b', pre, l', tail, g1, g2, g3, g4, g5, g6, g7, g8⟩
      · omega
      · rw [hb] at g1
        cases g1
        obtain ⟨v', q1, q2⟩ := key hj g6 h2 g4 g2 g3
        exact ⟨b, _, v', rfl, q1, q2⟩
    · rename_i c n f e sz'
      replace h := need_ok h; obtain ⟨hb, hj, h⟩ := h
      obtain rfl : sz = sz' := by simpa using hb
      obtain ⟨v, h1, h2⟩ := partV_some h
      refine ⟨v, h1, fun {ρ w u'} hr hu => ?_⟩
      simp only [cz, Option.map_eq_some_iff] at hu
      obtain ⟨b, hb, rfl⟩ := hu
      rcases hr.obj i _ ho with ⟨g1, _⟩ | ⟨b', pre, l', tail, g1, g2, g3, ⟨fr, g4⟩, g5, g6, g7, g8⟩
      · omega
      · rw [hb] at g1
        cases g1
        rw [g4] at g3
        obtain ⟨v', q1, q2⟩ := key hj g6 h2 g5 g2 g3
        exact ⟨b, _, v', rfl, q1, q2⟩
    · exact h.elim
  · rename_i i b off
    replace h := withO_ok h; obtain ⟨ob, ho, h⟩ := h
    split at h
    · rename_i T M
      obtain ⟨l, hM, h⟩ := h
      obtain ⟨v, h1, h2⟩ := partV_some h
      refine ⟨v, h1, fun {ρ w u'} hr hu => ?_⟩
      simp only [cz, Option.some.injEq] at hu
      obtain ⟨_, l', g2, g3⟩ := hr.obj i _ ho b l hM
      obtain ⟨v', q1, q2⟩ := run_loadVar (P := P) (ρ := ρ) (w := w) (b := b) (q := off) (C := l') (pre := []) (l' := l') (tail := []) (cell_of_list g3) (by simp) (by simp) g2 h2
      exact ⟨b, off, v', hu.symm, q1, q2⟩
    · exact h.elim
  · rename_i i b j sz fo
    replace h := withO_ok h; obtain ⟨ob, ho, h⟩ := h
    split at h
    · rename_i e sz' M
      replace h := need_ok h; obtain ⟨hb, N, C, f, hM, hj, h⟩ := h
      obtain rfl : sz = sz' := by simpa using hb
      obtain ⟨v, h1, h2⟩ := partV_some h
      refine ⟨v, h1, fun {ρ w u'} hr hu => ?_⟩
      simp only [cz, Option.some.injEq] at hu
      obtain ⟨_, _, l', tail, g2, g3, _, g5⟩ := hr.obj i _ ho b N C f hM
      obtain ⟨A, B, e1, e2⟩ := rowL_at g5.len hj
      rw [e1] at g2
      obtain ⟨x1, x2, k1, k2, rfl⟩ := czl_split g2
      obtain ⟨x3, x4, k3, k4, rfl⟩ := czl_split k1
      have hA := czl_length k3
      obtain ⟨v', q1, q2⟩ := run_loadVar (P := P) (ρ := ρ) (w := w) (b := b) (q := j * sz + fo) (C := x3 ++ x4 ++ x2 ++ tail) (pre := x3) (l' := x4) (tail := x2 ++ tail) (cell_of_list g3) (by simp) (by omega) k4 h2
      exact ⟨b, _, v', hu.symm, q1, q2⟩
    · exact h.elim
  · exact h.elim

theorem run_storeVar {ty n : TypeId} {b q : Nat} {C : List Value} {e : TypeId} {v : Value} (hn : sizeT P ty = some n) (hb : w.heap[b]? = some (.cells C.toArray e (0, 0))) (hs : v.cells.size = n) (hq : q + n ≤ C.length) (h1 : ∀ x ∈ v.cells.toList, x.oneCell' = true) :
    (storeVar ty ⟨b, q, none⟩ v).run P w = .ok () (w.setRow b ((C.take q ++ v.cells.toList ++ C.drop (q + v.cells.toList.length)).toArray)) := by
  have hst := run_storeCells_at (P := P) b q e v.cells.toList 0 C.toArray w hb (by simp; omega) h1
  unfold storeVar
  simp only [Sem.run_bind, run_sizeOf hn, Result.andThen_ok, hs, ne_eq, not_true, if_false, Sem.run_ite]
  simpa using hst

theorem storeP_ok {ty : TypeId} {u v : V} {fv : Option (Nat → List V)} {K : St → Prop} (h : storeP P s ty u v fv K) : ∃ s', K s' ∧ ∀ {ρ : Ren} {w : World} {u' v' : Value}, Rel ρ s w → cz ρ u = some u' → cz ρ v = some v' →
    ∃ b q w', u' = .pointer (some ⟨b, q, none⟩) ∧ Step md s.n s ρ w s' ρ w' ∧ (storeVar ty ⟨b, q, none⟩ v').run P w = .ok () w' := by
  unfold storeP at h
  replace h := withO_ok h; obtain ⟨n, hn, h⟩ := h
  replace h := need_ok h; obtain ⟨hb, h⟩ := h
  simp only [Bool.and_eq_true] at hb
  have hlen : (cellsOf v).length = n := by simpa using hb.1
  have hone := hb.2
  have hrow : ∀ (w : World) (b : Nat) (c : Array Value), (w.setRow b c).os = w.os ∧ (w.setRow b c).tape = w.tape ∧ (w.setRow b c).output = w.output ∧ (w.setRow b c).heap.size = w.heap.size := fun w b c => ⟨rfl, rfl, rfl, by simp⟩
  split at h
  · rename_i i off
    replace h := withO_ok h; obtain ⟨ob, ho, h⟩ := h
    split at h
    · rename_i l e
      replace h := putLP_ok h; obtain ⟨h, hle⟩ := h
      replace h := setP_ok h; obtain ⟨H, hH, h⟩ := h
      refine ⟨_, h, fun {ρ w u' v'} hr hu hv => ?_⟩
      simp only [cz, Option.map_eq_some_iff] at hu
      obtain ⟨b, hb, rfl⟩ := hu
      obtain ⟨b', l', g1, g2, g3, g4⟩ := hr.obj i _ ho
      rw [hb] at g1
      cases g1
      have hvs := czl_cellsOf hr.sig hv
      have hones := czl_ones hr.sig hvs hone
      have hvl := czl_length hvs
      have hll := czl_length g2
      have hsz : v'.cells.size = n := by simpa [hlen] using hvl
      have hrun := run_storeVar (P := P) (q := off) hn g3 hsz (by omega) hones
      refine ⟨b, off, _, rfl, Step.set hr ho hH ⟨b, l'.take off ++ v'.cells.toList ++ l'.drop (off + v'.cells.toList.length), hb, ?_, ?_, g4⟩ (fun k hk => setRow_other w b k _ (fun e => hk ((g4 k).2 e))) (hrow w b _).2.2.2 rfl rfl rfl, hrun⟩
      · exact czl_append (czl_append (czl_take off g2) hvs) (by rw [← hvl]; exact czl_drop _ g2)
      · rw [setRow_heap w b _ _ e _ g3]
    · exact h.elim
  · rename_i i j sz fo
    replace h := withO_ok h; obtain ⟨ob, ho, h⟩ := h
    split at h
    · rename_i m f e sz'
      replace h := need_ok h; obtain ⟨hb2, hj, h⟩ := h
      simp only [Bool.and_eq_true] at hb2
      obtain rfl : sz = sz' := by simpa using hb2.1
      have hfo : fo + n ≤ sz := Nat.le_of_ble_eq_true hb2.2
      replace h := viewP_ok h; obtain ⟨f', hf', h⟩ := h
      replace h := setP_ok h; obtain ⟨H, hH, h⟩ := h
      refine ⟨_, h, fun {ρ w u' v'} hr hu hv => ?_⟩
      simp only [cz, Option.map_eq_some_iff] at hu
      obtain ⟨b, hb, rfl⟩ := hu
      rcases hr.obj i _ ho with ⟨_, g3, _⟩ | ⟨b', pre, l', tail, g1, g2, g3, g4, g5, g6, g7, g8⟩
      · omega
      rw [hb] at g1
      cases g1
      have hvs := czl_cellsOf hr.sig hv
      have hones := czl_ones hr.sig hvs hone
      have hvl := czl_length hvs
      have hsz : v'.cells.size = n := by simpa [hlen] using hvl
      obtain ⟨A, B, e1, e2⟩ := rowL_at g6.len hj
      have hflen := g6.len j hj
      have ef : ∀ q, q < m → f' q = if q = j then putD fo (f j) (cellsOf v) else f q := fun q hq => by
        rw [hf' q hq]
        by_cases e : q = j
        · subst e; simp
        · have : Nat.beq q j = false := by cases hq2 : Nat.beq q j with | false => rfl | true => exact absurd (Nat.eq_of_beq_eq_true hq2) e
          rw [this, if_neg e]; rfl
      have e3 : rowL f' m = A ++ putD fo (f j) (cellsOf v) ++ B := by
        have hs1 := rowL_split f' (j + 1) (m - (j + 1))
        have hs2 := rowL_split f (j + 1) (m - (j + 1))
        rw [show j + 1 + (m - (j + 1)) = m by omega, rowL_succ] at hs1 hs2
        have c1 : rowL f' j = rowL f j := rowL_congr fun q hq => by rw [ef q (by omega), if_neg (by omega)]
        have c2 : rowL (fun q => f' (j + 1 + q)) (m - (j + 1)) = rowL (fun q => f (j + 1 + q)) (m - (j + 1)) := rowL_congr fun q hq => by rw [ef _ (by omega), if_neg (by omega)]
        have hlA : (rowL f j).length = A.length := by rw [rowL_length fun q hq => g6.len q (by omega), e2]
        rw [hs2] at e1
        have e1' := e1
        rw [List.append_assoc, List.append_assoc] at e1'
        obtain ⟨k1, k2⟩ := List.append_inj e1' hlA
        have k3 := List.append_cancel_left k2
        rw [hs1, c1, c2, k1, ef j hj, if_pos rfl, k3]
      rw [e1] at g2
      obtain ⟨x1, x2, k1, k2, rfl⟩ := czl_split g2
      obtain ⟨x3, x4, k3, k4, rfl⟩ := czl_split k1
      have l3 := czl_length k3
      have l4 := czl_length k4
      have hput : czl ρ (putD fo (f j) (cellsOf v)) = some (x4.take fo ++ v'.cells.toList ++ x4.drop (fo + v'.cells.toList.length)) :=
        czl_append (czl_append (czl_take fo k4) hvs) (by rw [← hvl]; exact czl_drop _ k4)
      have hrun := run_storeVar (P := P) (q := ρ.δ i + j * sz + fo) hn g3 hsz (by simp only [List.length_append]; omega) hones
      refine ⟨b, _, _, rfl, Step.set hr ho hH (.inr ⟨b, pre, x3 ++ (x4.take fo ++ v'.cells.toList ++ x4.drop (fo + v'.cells.toList.length)) ++ x2, tail, hb, ?_, ?_, g4, ?_, ?_, g7, g8⟩) (fun k hk => setRow_other w b k _ (fun e => hk ((g8 k).2 e))) (hrow w b _).2.2.2 rfl rfl rfl, hrun⟩
      · rw [e3]
        exact czl_append (czl_append k3 hput) k2
      · rw [setRow_heap w b _ _ e _ g3]
        congr 3
        have hq : ρ.δ i + j * sz + fo = (pre ++ x3).length + fo := by rw [List.length_append]; omega
        have hC : pre ++ (x3 ++ x4 ++ x2) ++ tail = (pre ++ x3) ++ (x4 ++ (x2 ++ tail)) := by simp
        rw [hq, hC, List.take_append, List.drop_append]
        have t1 : List.take ((pre ++ x3).length + fo) (pre ++ x3) = pre ++ x3 := List.take_of_length_le (by omega)
        have t2 : List.drop ((pre ++ x3).length + fo + v'.cells.toList.length) (pre ++ x3) = [] := List.drop_eq_nil_of_le (by omega)
        have v0 : v'.cells.toList.length = n := by simpa using hsz
        rw [t1, t2, show (pre ++ x3).length + fo - (pre ++ x3).length = fo by omega, show (pre ++ x3).length + fo + v'.cells.toList.length - (pre ++ x3).length = fo + v'.cells.toList.length by omega,
          List.take_append_of_le_length (by omega), List.drop_append_of_le_length (by omega)]
        simp
      · rw [← g5]
        have v0 : v'.cells.toList.length = n := by simpa using hsz
        simp only [List.length_append, List.length_take, List.length_drop]
        omega
      · intro q hq
        rw [ef q hq]
        split
        · refine ⟨by rw [putD_length (by omega)]; exact hflen, ?_⟩
          unfold putD
          rw [oneCells_append, oneCells_append, oneCells_take _ (g6 j hj).2, oneCells_drop _ (g6 j hj).2, hone]
          rfl
        · exact g6 q hq
    · exact h.elim
  · rename_i i b off
    replace h := withO_ok h; obtain ⟨ob, ho, h⟩ := h
    split at h
    · rename_i T M
      obtain ⟨l, hM, h⟩ := h
      replace h := putLP_ok h; obtain ⟨⟨M', ⟨hM1, hM2⟩, h⟩, hle⟩ := h
      replace h := setP_ok h; obtain ⟨H, hH, h⟩ := h
      refine ⟨_, h, fun {ρ w u' v'} hr hu hv => ?_⟩
      simp only [cz, Option.some.injEq] at hu
      have hob := hr.obj i _ ho
      obtain ⟨g1, l', g2, g3⟩ := hob b l hM
      have hvs := czl_cellsOf hr.sig hv
      have hones := czl_ones hr.sig hvs hone
      have hvl := czl_length hvs
      have hll := czl_length g2
      have hsz : v'.cells.size = n := by simpa [hlen] using hvl
      have hrun := run_storeVar (P := P) (q := off) hn g3 hsz (by omega) hones
      refine ⟨b, off, _, hu.symm, Step.set hr ho hH (fun x lx hx => ?_) (fun k hk => setRow_other w b k _ (fun e => hk (e ▸ g1))) (hrow w b _).2.2.2 rfl rfl rfl, hrun⟩
      by_cases e : x = b
      · subst e
        rw [hM1] at hx
        cases hx
        refine ⟨g1, l'.take off ++ v'.cells.toList ++ l'.drop (off + v'.cells.toList.length), ?_, ?_⟩
        · exact czl_append (czl_append (czl_take off g2) hvs) (by rw [← hvl]; exact czl_drop _ g2)
        · rw [setRow_heap w x _ _ T _ g3]
      · rw [hM2 x e] at hx
        obtain ⟨k1, l2, k2, k3⟩ := hob x lx hx
        exact ⟨k1, l2, k2, (setRow_other w b x _ e).trans k3⟩
    · exact h.elim
  · rename_i i b j sz fo
    replace h := withO_ok h; obtain ⟨ob, ho, h⟩ := h
    split at h
    · rename_i e sz' M
      replace h := need_ok h; obtain ⟨hb2, N, C, f, hM, hj, f', M', hf', ⟨hM1, hM2⟩, h⟩ := h
      simp only [Bool.and_eq_true] at hb2
      obtain rfl : sz = sz' := by simpa using hb2.1
      have hfo : fo + n ≤ sz := Nat.le_of_ble_eq_true hb2.2
      replace h := setP_ok h; obtain ⟨H, hH, h⟩ := h
      refine ⟨_, h, fun {ρ w u' v'} hr hu hv => ?_⟩
      simp only [cz, Option.some.injEq] at hu
      have hob := hr.obj i _ ho
      obtain ⟨g0, gsz, l', tail, g2, g3, g5, g6⟩ := hob b N C f hM
      have hvs := czl_cellsOf hr.sig hv
      have hones := czl_ones hr.sig hvs hone
      have hvl := czl_length hvs
      have hsz : v'.cells.size = n := by simpa [hlen] using hvl
      obtain ⟨A, B, e1, e2⟩ := rowL_at g6.len hj
      have hflen := g6.len j hj
      have ef : ∀ q, q < N → f' q = if q = j then putD fo (f j) (cellsOf v) else f q := fun q hq => by
        rw [hf' q hq]
        by_cases e : q = j
        · subst e; simp
        · have : Nat.beq q j = false := by cases hq2 : Nat.beq q j with | false => rfl | true => exact absurd (Nat.eq_of_beq_eq_true hq2) e
          rw [this, if_neg e]; rfl
      have e3 : rowL f' N = A ++ putD fo (f j) (cellsOf v) ++ B := by
        have hs1 := rowL_split f' (j + 1) (N - (j + 1))
        have hs2 := rowL_split f (j + 1) (N - (j + 1))
        rw [show j + 1 + (N - (j + 1)) = N by omega, rowL_succ] at hs1 hs2
        have c1 : rowL f' j = rowL f j := rowL_congr fun q hq => by rw [ef q (by omega), if_neg (by omega)]
        have c2 : rowL (fun q => f' (j + 1 + q)) (N - (j + 1)) = rowL (fun q => f (j + 1 + q)) (N - (j + 1)) := rowL_congr fun q hq => by rw [ef _ (by omega), if_neg (by omega)]
        have hlA : (rowL f j).length = A.length := by rw [rowL_length fun q hq => g6.len q (by omega), e2]
        rw [hs2] at e1
        have e1' := e1
        rw [List.append_assoc, List.append_assoc] at e1'
        obtain ⟨k1, k2⟩ := List.append_inj e1' hlA
        have k3 := List.append_cancel_left k2
        rw [hs1, c1, c2, k1, ef j hj, if_pos rfl, k3]
      rw [e1] at g2
      obtain ⟨x1, x2, k1, k2, rfl⟩ := czl_split g2
      obtain ⟨x3, x4, k3, k4, rfl⟩ := czl_split k1
      have l3 := czl_length k3
      have l4 := czl_length k4
      have hput : czl ρ (putD fo (f j) (cellsOf v)) = some (x4.take fo ++ v'.cells.toList ++ x4.drop (fo + v'.cells.toList.length)) :=
        czl_append (czl_append (czl_take fo k4) hvs) (by rw [← hvl]; exact czl_drop _ k4)
      have hrun := run_storeVar (P := P) (q := j * sz + fo) hn g3 hsz (by simp only [List.length_append]; omega) hones
      refine ⟨b, _, _, hu.symm, Step.set hr ho hH (fun x N2 C2 f2 hx => ?_) (fun k hk => setRow_other w b k _ (fun e => hk (e ▸ g0))) (hrow w b _).2.2.2 rfl rfl rfl, hrun⟩
      by_cases ex : x = b
      · subst ex
        rw [hM1] at hx
        cases hx
        refine ⟨g0, gsz, x3 ++ (x4.take fo ++ v'.cells.toList ++ x4.drop (fo + v'.cells.toList.length)) ++ x2, tail, ?_, ?_, ?_, ?_⟩
        · rw [e3]
          exact czl_append (czl_append k3 hput) k2
        · rw [setRow_heap w x _ _ e _ g3]
          congr 3
          have hq : j * sz + fo = x3.length + fo := by omega
          have hC : x3 ++ x4 ++ x2 ++ tail = x3 ++ (x4 ++ (x2 ++ tail)) := by simp
          rw [hq, hC, List.take_append, List.drop_append]
          have t1 : List.take (x3.length + fo) x3 = x3 := List.take_of_length_le (by omega)
          have t2 : List.drop (x3.length + fo + v'.cells.toList.length) x3 = [] := List.drop_eq_nil_of_le (by omega)
          have v0 : v'.cells.toList.length = n := by simpa using hsz
          rw [t1, t2, show x3.length + fo - x3.length = fo by omega, show x3.length + fo + v'.cells.toList.length - x3.length = fo + v'.cells.toList.length by omega,
            List.take_append_of_le_length (by omega), List.drop_append_of_le_length (by omega)]
          simp
        · rw [← g5]
          have v0 : v'.cells.toList.length = n := by simpa using hsz
          simp only [List.length_append, List.length_take, List.length_drop]
          omega
        · intro q hq
          rw [ef q hq]
          split
          · refine ⟨by rw [putD_length (by omega)]; exact hflen, ?_⟩
            unfold putD
            rw [oneCells_append, oneCells_append, oneCells_take _ (g6 j hj).2, oneCells_drop _ (g6 j hj).2, hone]
            rfl
          · exact g6 q hq
      · rw [hM2 x ex] at hx
        obtain ⟨q1, q2, l2, tail2, q3, q4, q5⟩ := hob x N2 C2 f2 hx
        exact ⟨q1, q2, l2, tail2, q3, (setRow_other w b x _ ex).trans q4, q5⟩
    · exact h.elim
  · exact h.elim
end
end Sy
end Go.Proofs.Ytmgcpfljhcahoaa
