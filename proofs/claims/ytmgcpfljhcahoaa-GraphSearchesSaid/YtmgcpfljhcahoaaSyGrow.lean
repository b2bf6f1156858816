/- Symbolic states: len and append. -/
import Derived.Test.YtmgcpfljhcahoaaSyHeap
namespace Go.Proofs.Ytmgcpfljhcahoaa
open Go Go.RowKit
namespace Sy
variable {md : Bool}

def srcP (s : St) (sz : Nat) (y : V) (K : Nat → (Nat → List V) → Prop) : Prop := match y with
  | .nils => K 0 (fun _ => [])
  | .sle _ _ _ => K 0 (fun _ => [])
  | .sl j lo sz' m _ => need (Nat.beq sz sz') (withO (s.H.get j) fun o => match o with
    | .row n f _ sz'' => need (Nat.beq sz sz'') (lo + m ≤ n ∧ K m (fun q => f (lo + q)))
    | .ro _ n f _ sz'' => need (Nat.beq sz sz'') (lo + m ≤ n ∧ K m (fun q => f (lo + q)))
    | _ => False)
  | .asl j p sz' m _ => need (Nat.beq sz sz') (withO (s.H.get j) fun o => match o with
    | .memr _ sz'' M => need (Nat.beq sz sz'') (∃ g, (m = 0 ∨ ∃ b lo N C f, p = some (b, lo) ∧ M b = some (N, C, f) ∧ lo + m ≤ N ∧ ∀ q, q < m → g q = f (lo + q)) ∧ K m g)
    | _ => False)
  | .str b => need (Nat.beq sz 1) (K b.size (fun q => [.int .u8 (byteAt b q)]))
  | _ => False
def appF (n : Nat) (f g : Nat → List V) (q : Nat) : List V := bif Nat.blt q n then f q else g (q - n)
def appendP (P : Program) (s : St) (ty ty2 : TypeId) (x y : V) (fv : Option (Nat → List V)) (K : V → St → Prop) : Prop :=
  match P.underlying ty, (match P.underlying ty2 with | some (.int _) => none | d => d) with
  | some (.slice e), some _ => withO (sizeT P e) fun sz => withO (bytesT P e) fun by_ => withO (zeroT P e) fun z => withO (ofV z) fun zv => need (Nat.ble 1 sz && Nat.beq (cellsOf zv).length sz) (srcP s sz y fun m g => match x with
    | .nils => m * (by_ + sz) ≤ 1000000000 ∧ viewP fv m g fun f' => newP s (.row m f' e sz) fun b s => K (.sl b 0 sz m false) s
    | .sl i lo sz' n full => need (Nat.beq sz sz') (withO (s.H.get i) fun o => match o with
      | .row N f e' sz'' => need (Nat.beq sz sz'' && Nat.beq e e') (lo + n ≤ N ∧ (n + m) * (by_ + sz) ≤ 1000000000 ∧ viewP fv (n + m) (appF n (fun q => f (lo + q)) g) fun f' => match full with
        | true => (0 < m ∧ newP s (.row (n + m) f' e sz) fun b s => K (.sl b 0 sz (n + m) false) s) ∨ (m = 0 ∧ n = 0 ∧ newP s (.row 0 f' e sz) fun b s => K (.sl b 0 sz 0 false) s)
        | false => setP s i none fun s => newP s (.row (n + m) f' e sz) fun b s => K (.sl b 0 sz (n + m) false) s)
      | .ro _ N f e' sz'' => need (Nat.beq sz sz'' && Nat.beq e e' && full) (lo + n ≤ N ∧ (n + m) * (by_ + sz) ≤ 1000000000 ∧ 0 < m ∧ viewP fv (n + m) (appF n (fun q => f (lo + q)) g) fun f' =>
          newP s (.row (n + m) f' e sz) fun b s => K (.sl b 0 sz (n + m) false) s)
      | _ => False)
    | _ => False)
  | _, _ => False
def lenP (P : Program) (ty : TypeId) (x : V) (K : V → Prop) : Prop := match P.underlying ty, x with
  | some .string, .str b => K (.int .i64 b.size)
  | some (.slice _), .sl _ _ _ n _ => K (.int .i64 n)
  | some (.slice _), .nils => K (.int .i64 0)
  | some (.slice _), .sle _ _ _ => K (.int .i64 0)
  | some (.slice _), .asl _ _ _ n _ => K (.int .i64 n)
  | some (.map _ _), .nilm => K (.int .i64 0)
  | some (.array n _), _ => K (.int .i64 n)
  | _, _ => False

section
variable {P : Program} {ρ ρ' : Ren} {s s' : St} {w w' : World} {o : Oper} {a act : Act} {t : Tr V}


theorem run_typeInfo_bytes {ty n : Nat} (h : bytesT P ty = some n) : ∃ i, P.info? ty = some i ∧ i.bytes = n := by
  unfold bytesT at h
  cases hi : P.info? ty with
  | none => simp [hi] at h
  | some i => simp [hi] at h; exact ⟨i, rfl, h⟩
theorem growBy_le (n : Nat) : ∀ (r c : Nat), c ≤ 2 * n + 768 → Builtin.growBy n r c ≤ 2 * n + 768
  | 0, c, h => h
  | r + 1, c, h => by
    unfold Builtin.growBy
    split
    · exact h
    · exact growBy_le n r _ (by omega)
theorem nextslicecap_le {n c : Nat} (h : c < n) : Builtin.nextslicecap n c ≤ 2 * n + 768 := by
  unfold Builtin.nextslicecap
  split
  · omega
  · split
    · omega
    · exact growBy_le n 4 c (by omega)

section
variable {ty ty2 T e : TypeId} {bytes m len cap' sz : Nat} {z u' v' : Value} {new : List Value} {p' : Option Addr}
theorem run_append_eq (hd : P.underlying ty = some (.slice e)) (h2 : ∃ d2, P.underlying ty2 = some d2 ∧ ∀ k, d2 ≠ .int k) (hs : sizeT P e = some sz) (hl : (Builtin.lenOf v').run P w = .ok m w) (hn : (Builtin.firstCells sz m v').run P w = .ok new.toArray w)
    (hle : len + m ≤ cap') : (Builtin.append_ #[ty, ty2] T #[.slice p' len cap', v']).run P w =
      match p' with
      | some a => ((storeCells (a.add (len * sz)) new).run P w).andThen fun _ w' => .ok (.slice p' (len + m) cap') w'
      | none => .ok (.slice none (len + m) cap') w := by
  obtain ⟨d2, h3, h4⟩ := h2
  unfold Builtin.append_
  cases d2 <;> (first | exact absurd rfl (h4 _) | skip) <;>
  simp only [List.getElem?_toArray, List.getElem?_cons_zero, List.getElem?_cons_succ, Sem.run_bind, run_underlying hd, Result.andThen_ok, run_sizeOf hs, run_underlying h3, Sem.run_pure, Bool.false_eq_true, if_false, hl, Sem.run_ite, if_pos hle, Bool.not_false, if_true, hn] <;>
  cases p' <;> simp
theorem run_append_more (hd : P.underlying ty = some (.slice e)) (h2 : ∃ d2, P.underlying ty2 = some d2 ∧ ∀ k, d2 ≠ .int k) (hs : sizeT P e = some sz) (hby : bytesT P e = some bytes) (hz : zeroT P e = some z) (hl : (Builtin.lenOf v').run P w = .ok m w)
    {old : List Value} (hle : cap' < len + m) (hbig : (len + m) * (bytes + sz) ≤ 1000000000) (hpos : 1 ≤ sz) (hzs : z.cells.size = sz)
    (ho : ∀ W : World, W.heap = w.heap → (Builtin.firstCells sz len (.slice p' len cap')).run P W = .ok old.toArray W) (hn : ∀ W : World, W.heap = w.heap → (Builtin.firstCells sz m v').run P W = .ok new.toArray W) :
    ∃ newCap rest, len + m ≤ newCap ∧ rest.length = (newCap - (len + m)) * sz ∧ (Builtin.append_ #[ty, ty2] T #[.slice p' len cap', v']).run P w =
      .ok (.slice (some ⟨w.heap.size, 0, none⟩) (len + m) newCap) { w.alloc (.cells (old ++ new ++ rest).toArray e) with drawn := w.drawn + 1 } := by
  obtain ⟨d2, h3, h4⟩ := h2
  obtain ⟨i, hi, hib⟩ := run_typeInfo_bytes hby
  have hpos2 : 1 ≤ bytes + sz := by omega
  have hneed : len + m ≤ 1000000000 := Nat.le_trans (Nat.le_mul_of_pos_right _ hpos2) hbig
  have hbyt : bytes ≤ 1000000000 := by
    have : 1 * (bytes + sz) ≤ (len + m) * (bytes + sz) := Nat.mul_le_mul_right _ (by omega)
    omega
  have hnb : (len + m) * bytes ≤ 1000000000 := Nat.le_trans (Nat.mul_le_mul_left _ (by omega)) hbig
  have hcap : ¬ Builtin.nextslicecap (len + m) cap' * bytes > 2 ^ 48 := by
    have h1 := Nat.mul_le_mul_right bytes (nextslicecap_le hle)
    rw [Nat.add_mul, Nat.mul_assoc] at h1
    omega
  have hmax : ¬ (((len + m : Nat) : Int) > IntKind.i64.max) := by
    have : IntKind.i64.max = 9223372036854775807 := by decide
    rw [this]
    omega
  refine ⟨Question.cut (.appendCap (len + m) cap' e) (w.tape w.drawn (.appendCap (len + m) cap' e)), (Builtin.zeroCells z.cells (Question.cut (.appendCap (len + m) cap' e) (w.tape w.drawn (.appendCap (len + m) cap' e)) - (len + m))).toList, Nat.le_add_right _ _, ?_, ?_⟩
  · simp [Builtin.zeroCells, hzs, Question.cut]
  · unfold Builtin.append_
    have hnle : ¬ len + m ≤ cap' := by omega
    have hfo : (Question.appendCap (len + m) cap' e).forced = false := rfl
    cases d2 <;> (first | exact absurd rfl (h4 _) | skip) <;>
    (simp only [List.getElem?_toArray, List.getElem?_cons_zero, List.getElem?_cons_succ, Sem.run_bind, run_underlying hd, Result.andThen_ok, run_sizeOf hs, run_underlying h3, Sem.run_pure, Bool.false_eq_true, if_false, hl, Sem.run_ite, if_neg hnle, Bool.not_false, if_true, typeInfo, run_program, hi]
     simp only [hmax, false_and, if_false, hib, hcap, run_choose, hfo, Bool.false_eq_true, Result.andThen_ok, run_askRoom]
     rw [ho { w with drawn := w.drawn + 1 } rfl]
     simp only [Result.andThen_ok]
     rw [hn { w with drawn := w.drawn + 1 } rfl]
     simp only [Result.andThen_ok, run_zeroValue hz, newRow, Sem.run_bind, run_newObj_alloc, Sem.run_pure]
     refine congrArg (fun c => Result.ok (Value.slice (some ⟨w.heap.size, 0, none⟩) (len + m) _) ({ heap := w.heap.push (.cells c e), tape := w.tape, drawn := w.drawn + 1, os := w.os, output := w.output } : World)) ?_
     simp)
end


theorem lenP_ok {ty : TypeId} {ts : Array TypeId} {T : TypeId} {u : V} {K : V → Prop} (h : lenP P ty u K) (hts : ts[0]? = some ty) :
    ∃ v, K v ∧ ∀ {ρ : Ren} {u' : Value}, cz ρ u = some u' → ∃ v', cz ρ v = some v' ∧ ∀ w, (Builtin.len_ ts T #[u']).run P w = .ok v' w := by
  unfold lenP at h
  split at h <;> try exact h.elim
  · rename_i b hd
    refine ⟨_, h, fun {ρ u'} hu => ⟨_, rfl, fun w => ?_⟩⟩
    simp only [cz, Option.some.injEq] at hu
    subst hu
    simp [Builtin.len_, hts, run_underlying hd, goInt]
  · rename_i e i lo sz n full hd
    refine ⟨_, h, fun {ρ u'} hu => ⟨_, rfl, fun w => ?_⟩⟩
    rcases cz_sl hu with ⟨b, c, _, rfl, _⟩ | ⟨_, _, rfl, _, rfl⟩
    · simp [Builtin.len_, hts, run_underlying hd, goInt]
    · simp [Builtin.len_, hts, run_underlying hd, goInt]
  · rename_i e hd
    refine ⟨_, h, fun {ρ u'} hu => ⟨_, rfl, fun w => ?_⟩⟩
    simp only [cz, Option.some.injEq] at hu
    subst hu
    simp [Builtin.len_, hts, run_underlying hd, goInt]
  · rename_i e i sz n hd
    refine ⟨_, h, fun {ρ u'} hu => ⟨_, rfl, fun w => ?_⟩⟩
    simp only [cz] at hu
    split at hu
    · split at hu
      · cases hu
        simp [Builtin.len_, hts, run_underlying hd, goInt]
      · cases hu
    · cases hu
  · rename_i e i p sz n c hd
    refine ⟨_, h, fun {ρ u'} hu => ⟨_, rfl, fun w => ?_⟩⟩
    simp only [cz, Option.some.injEq] at hu
    subst hu
    simp [Builtin.len_, hts, run_underlying hd, goInt]
  · rename_i kt e hd
    refine ⟨_, h, fun {ρ u'} hu => ⟨_, rfl, fun w => ?_⟩⟩
    simp only [cz, Option.some.injEq] at hu
    subst hu
    simp [Builtin.len_, hts, run_underlying hd, goInt]
  · rename_i n e hd
    refine ⟨_, h, fun {ρ u'} hu => ⟨_, rfl, fun w => ?_⟩⟩
    simp [Builtin.len_, hts, run_underlying hd, goInt]

/-- Cells of a row, from element lo on. -/
theorem row_cells {lo sz n N : Nat} {f : Nat → List V} (hf : RowOk N f sz) {l' : List Value} (hl : czl ρ (rowL f N) = some l') (hle : lo + n ≤ N) :
    ∃ A B C, l' = A ++ B ++ C ∧ A.length = lo * sz ∧ B.length = n * sz ∧ czl ρ (rowL f lo) = some A ∧ czl ρ (rowL (fun q => f (lo + q)) n) = some B := by
  have h1 := rowL_split f (lo + n) (N - (lo + n))
  rw [show lo + n + (N - (lo + n)) = N by omega, rowL_split f lo n] at h1
  rw [h1] at hl
  obtain ⟨x1, x2, k1, k2, rfl⟩ := czl_split hl
  obtain ⟨x3, x4, k3, k4, rfl⟩ := czl_split k1
  refine ⟨x3, x4, x2, rfl, ?_, ?_, k3, k4⟩
  · rw [czl_length k3, rowL_length fun q hq => (hf q (by omega)).1]
  · rw [czl_length k4, rowL_length fun q hq => (hf (lo + q) (by omega)).1]
theorem RowOk.sub {N lo n sz : Nat} {f : Nat → List V} (h : RowOk N f sz) (hle : lo + n ≤ N) : RowOk n (fun q => f (lo + q)) sz := fun q hq => h (lo + q) (by omega)
theorem RowOk.app {n m sz : Nat} {f g : Nat → List V} (h : RowOk n f sz) (h' : RowOk m g sz) : RowOk (n + m) (appF n f g) sz := fun q hq => by
  unfold appF
  cases hb : Nat.blt q n with
  | true => exact h q (Nat.le_of_ble_eq_true hb)
  | false =>
    have : ¬ q < n := fun e => by rw [show Nat.blt q n = true from Nat.ble_eq_true_of_le e] at hb; cases hb
    exact h' (q - n) (by omega)
theorem RowOk.congr {n sz : Nat} {f g : Nat → List V} (h : RowOk n f sz) (e : ∀ q, q < n → g q = f q) : RowOk n g sz := fun q hq => by rw [e q hq]; exact h q hq
theorem rowL_app {f g : Nat → List V} (n m : Nat) : rowL (appF n f g) (n + m) = rowL f n ++ rowL g m := by
  rw [rowL_split]
  congr 1
  · exact rowL_congr fun q hq => by unfold appF; rw [show Nat.blt q n = true from Nat.ble_eq_true_of_le hq]; rfl
  · refine rowL_congr fun q hq => ?_
    unfold appF
    cases hb : Nat.blt (n + q) n with
    | true => have := Nat.le_of_ble_eq_true hb; omega
    | false => simp

theorem cell_off {b : Nat} {C : List Value} {e : TypeId} {fr : Nat × Nat} {W : World} (h : w.heap[b]? = some (.cells C.toArray e fr)) (hW : W.heap = w.heap) (j : Nat) (v : Value) (hj : C[j]? = some v) : W.cell? ⟨b, j, none⟩ = some v := by
  simp [World.cell?, hW, h, hj]
/-- Cells of a block, loaded. -/
theorem run_cells {b q : Nat} {A B C : List Value} {e : TypeId} {fr : Nat × Nat} (h : w.heap[b]? = some (.cells (A ++ B ++ C).toArray e fr)) (hq : q = A.length) {W : World} (hW : W.heap = w.heap) {m : Nat} (hm : m = B.length) :
    (loadCells ⟨b, q, none⟩ m).run P W = .ok B.toArray W := by
  subst hq hm
  exact run_loadCells_list (P := P) W ⟨b, A.length, none⟩ B (fun j v hj => by
    rw [add_off]
    refine cell_off h hW _ v ?_
    have hlt := (List.getElem?_eq_some_iff.1 hj).1
    rw [List.append_assoc, List.getElem?_append_right (by omega), List.getElem?_append_left (by omega), show A.length + j - A.length = j by omega]
    exact hj)

theorem bytes_row (b : ByteArray) : rowL (fun q => [V.int .u8 (byteAt b q)]) b.size = (b.data.toList.map fun c => V.int .u8 c.toNat) := by
  have : ∀ n, n ≤ b.size → rowL (fun q => [V.int .u8 (byteAt b q)]) n = ((b.data.toList.take n).map fun c => V.int .u8 c.toNat) := by
    intro n
    induction n with
    | zero => intro _; simp [rowL]
    | succ n ih =>
      intro hn
      have hlt : n < b.data.toList.length := by simp; exact hn
      rw [rowL_succ, ih (by omega), List.take_succ_eq_append_getElem hlt, List.map_append]
      congr 1
      simp only [List.map_cons, List.map_nil]
      unfold byteAt
      rw [List.getD_eq_getElem?_getD, List.getElem?_eq_getElem hlt]
      rfl
  have h := this b.size (Nat.le_refl _)
  rwa [List.take_of_length_le (by simp)] at h
theorem czl_bytes (l : List UInt8) : czl ρ (l.map fun c => V.int .u8 c.toNat) = some (l.map fun c => Value.int .u8 c.toNat) := by
  induction l with
  | nil => simp [czl]
  | cons c l ih => exact czl_cons.2 ⟨_, _, rfl, ih, rfl⟩

theorem run_none {sz c : Nat} (W : World) (a : Addr) : (Builtin.firstCells sz 0 (.slice (some a) 0 c)).run P W = .ok ([] : List Value).toArray W := by
  have := run_loadCells_list (P := P) W a [] (fun j v h => by simp at h)
  simpa [Builtin.firstCells] using this
theorem srcP_ok {sz : Nat} {y : V} {K : Nat → (Nat → List V) → Prop} (h : srcP s sz y K) : ∃ m g, K m g ∧ ∀ {ρ : Ren} {w : World} {y' : Value}, Rel ρ s w → cz ρ y = some y' →
    ∃ l', czl ρ (rowL g m) = some l' ∧ RowOk m g sz ∧ l'.length = m * sz ∧ (∀ W, (Builtin.lenOf y').run P W = .ok m W) ∧ (∀ W : World, W.heap = w.heap → (Builtin.firstCells sz m y').run P W = .ok l'.toArray W) ∧ ∀ v ∈ l', v.oneCell' = true := by
  unfold srcP at h
  split at h
  · refine ⟨_, _, h, fun {ρ w y'} hr hy => ?_⟩
    simp only [cz, Option.some.injEq] at hy
    subst hy
    exact ⟨[], by simp [rowL, czl], fun j hj => by omega, by simp, fun _ => rfl, fun _ _ => rfl, by simp⟩
  · refine ⟨_, _, h, fun {ρ w y'} hr hy => ?_⟩
    simp only [cz] at hy
    split at hy
    · split at hy
      · cases hy
        exact ⟨[], by simp [rowL, czl], fun j hj => by omega, by simp, fun _ => rfl, fun W _ => run_none W _, by simp⟩
      · cases hy
    · cases hy
  · rename_i j lo sz' m full
    replace h := need_ok h; obtain ⟨hb, h⟩ := h
    obtain rfl : sz = sz' := by simpa using hb
    replace h := withO_ok h; obtain ⟨ob, ho, h⟩ := h
    have key : ∀ {N : Nat} {f : Nat → List V} {ρ : Ren} {w : World} {b c : Nat} {e : TypeId} {fr : Nat × Nat} {pre l' tail : List Value}, Rel ρ s w → RowOk N f sz → lo + m ≤ N → czl ρ (rowL f N) = some l' → w.heap[b]? = some (.cells (pre ++ l' ++ tail).toArray e fr) → pre.length = ρ.δ j →
        ∃ l', czl ρ (rowL (fun q => f (lo + q)) m) = some l' ∧ RowOk m (fun q => f (lo + q)) sz ∧ l'.length = m * sz ∧ (∀ W, (Builtin.lenOf (.slice (some ⟨b, ρ.δ j + lo * sz, none⟩) m c)).run P W = .ok m W) ∧
          (∀ W : World, W.heap = w.heap → (Builtin.firstCells sz m (.slice (some ⟨b, ρ.δ j + lo * sz, none⟩) m c)).run P W = .ok l'.toArray W) ∧ ∀ v ∈ l', v.oneCell' = true := by
      intro N f ρ w b c e fr pre l' tail hr hf hle hl hbk hpre
      obtain ⟨A, B, C, rfl, hA, hB, _, hB2⟩ := row_cells hf hl hle
      have hok := hf.sub hle
      refine ⟨B, hB2, hok, hB, fun _ => rfl, fun W hW => ?_, czl_ones hr.sig hB2 (oneCells_rowL hok)⟩
      have := run_cells (P := P) (w := w) (b := b) (q := ρ.δ j + lo * sz) (A := pre ++ A) (B := B) (C := C ++ tail) (e := e) (fr := fr) (by rw [hbk]; simp) (by rw [List.length_append]; omega) hW (m := m * sz) hB.symm
      exact this
    split at h
    · rename_i N f e sz'
      replace h := need_ok h; obtain ⟨hb, hle, h⟩ := h
      obtain rfl : sz = sz' := by simpa using hb
      refine ⟨_, _, h, fun {ρ w y'} hr hy => ?_⟩
      rcases hr.obj j _ ho with ⟨_, q3, q4⟩ | ⟨b, pre, l', tail, g1, g2, g3, g4, g5, g6, g7, g8⟩
      · subst q3
        have : m = 0 := by omega
        subst this
        rcases cz_sl hy with ⟨b, c, g1, rfl, _⟩ | ⟨_, _, _, _, rfl⟩
        · refine ⟨[], by simp [rowL, czl], fun j hj => by omega, by simp, fun _ => rfl, fun W _ => ?_, by simp⟩
          exact run_none W _
        · exact ⟨[], by simp [rowL, czl], fun j hj => by omega, by simp, fun _ => rfl, fun _ _ => rfl, by simp⟩
      · rcases cz_sl hy with ⟨b2, c, q1, rfl, _⟩ | ⟨q1, _⟩
        · rw [g1] at q1
          cases q1
          exact key hr g6 hle g2 g3 g4
        · rw [g1] at q1; cases q1
    · rename_i co N f e sz'
      replace h := need_ok h; obtain ⟨hb, hle, h⟩ := h
      obtain rfl : sz = sz' := by simpa using hb
      refine ⟨_, _, h, fun {ρ w y'} hr hy => ?_⟩
      rcases hr.obj j _ ho with ⟨q3, q4⟩ | ⟨b, pre, l', tail, g1, g2, g3, ⟨fr, g4⟩, g5, g6, g7, g8⟩
      · subst q3
        have : m = 0 := by omega
        subst this
        rcases cz_sl hy with ⟨b, c, g1, rfl, _⟩ | ⟨_, _, _, _, rfl⟩
        · refine ⟨[], by simp [rowL, czl], fun j hj => by omega, by simp, fun _ => rfl, fun W _ => ?_, by simp⟩
          exact run_none W _
        · exact ⟨[], by simp [rowL, czl], fun j hj => by omega, by simp, fun _ => rfl, fun _ _ => rfl, by simp⟩
      · rcases cz_sl hy with ⟨b2, c, q1, rfl, _⟩ | ⟨q1, _⟩
        · rw [g1] at q1
          cases q1
          rw [g4] at g3
          exact key hr g6 hle g2 g3 g5
        · rw [g1] at q1; cases q1
    · exact h.elim
  · rename_i j p sz' m c
    replace h := need_ok h; obtain ⟨hb, h⟩ := h
    obtain rfl : sz = sz' := by simpa using hb
    replace h := withO_ok h; obtain ⟨ob, ho, h⟩ := h
    split at h
    · rename_i e sz' M
      replace h := need_ok h; obtain ⟨hb, g, hg, h⟩ := h
      obtain rfl : sz = sz' := by simpa using hb
      refine ⟨_, _, h, fun {ρ w y'} hr hy => ?_⟩
      simp only [cz, Option.some.injEq] at hy
      subst hy
      rcases hg with rfl | ⟨b, lo, N, C, f, rfl, hM, hle, hg⟩
      · refine ⟨[], by simp [rowL, czl], fun j hj => by omega, by simp, fun _ => rfl, fun W _ => ?_, by simp⟩
        cases p with
        | none => rfl
        | some q => exact run_none W _
      · obtain ⟨_, _, l', tail, g2, g3, _, g6⟩ := hr.obj j _ ho b N C f hM
        obtain ⟨A, B, C', rfl, hA, hB, _, hB2⟩ := row_cells g6 g2 hle
        have hok := g6.sub hle
        rw [← rowL_congr hg] at hB2
        refine ⟨B, hB2, hok.congr hg, hB, fun _ => rfl, fun W hW => ?_, czl_ones hr.sig hB2 (oneCells_rowL (hok.congr hg))⟩
        have := run_cells (P := P) (w := w) (b := b) (q := lo * sz) (A := A) (B := B) (C := C' ++ tail) (e := e) (fr := (0, 0)) (by rw [g3]; simp) hA.symm hW (m := m * sz) hB.symm
        exact this
    · exact h.elim
  · rename_i b
    replace h := need_ok h; obtain ⟨hb, h⟩ := h
    obtain rfl : sz = 1 := by simpa using hb
    refine ⟨_, _, h, fun {ρ w y'} hr hy => ?_⟩
    simp only [cz, Option.some.injEq] at hy
    subst hy
    refine ⟨b.data.toList.map fun c => Value.int .u8 c.toNat, by rw [bytes_row]; exact czl_bytes _, fun j hj => ⟨rfl, rfl⟩, by simp, fun _ => rfl, fun W _ => ?_, fun v hv => ?_⟩
    · simp only [Builtin.firstCells, Sem.run_pure]
      congr 1
      apply Array.ext'
      simp
    · obtain ⟨_, _, rfl⟩ := List.mem_map.1 hv
      rfl
  · exact h.elim

/-- A row of n elements, of none perhaps without a block. -/
theorem Step.nilrow (h : Rel ρ s w) {f : Nat → List V} {e : TypeId} {sz : Nat} {H : Tr SObj} (hH : ∀ m, H.get m = if m = s.n then some (.row 0 f e sz) else s.H.get m) : Step md s.n s ρ w ⟨s.n + 1, H⟩ (ρ.add s.n none 0 0 true none (fun _ => False)) w :=
  Step.new1 h hH (.inl ⟨.inl ⟨by simp [Ren.add], by simp [Ren.add]⟩, rfl, fun k => by simp [Ren.add]⟩) (fun _ _ => rfl) (fun k hk => hk.elim) (fun x hx => by cases hx) (fun x hx => by cases hx) (Nat.le_refl _) rfl rfl rfl

theorem run_storeNil (a : Addr) (w : World) : (storeCells a []).run P w = .ok () w := rfl
/-- A row of no cells, somewhere. -/
theorem Step.someRow (h : Rel ρ s w) {b : Nat} (hb : b < w.heap.size) (d : Nat) {f : Nat → List V} {e : TypeId} {sz : Nat} {H : Tr SObj} (hH : ∀ m, H.get m = if m = s.n then some (.row 0 f e sz) else s.H.get m) : Step md s.n s ρ w ⟨s.n + 1, H⟩ (ρ.add s.n (some b) d 0 false none (fun _ => False)) w :=
  Step.new1 h hH (.inl ⟨.inr ⟨b, by simp [Ren.add], by simp [Ren.add]⟩, rfl, fun k => by simp [Ren.add]⟩) (fun _ _ => rfl) (fun k hk => hk.elim) (fun x hx => by cases hx; exact hb) (fun x hx => by cases hx) (Nat.le_refl _) rfl rfl rfl
theorem appendP_ok {ty ty2 T : TypeId} {x y : V} {fv : Option (Nat → List V)} {K : V → St → Prop} (h : appendP P s ty ty2 x y fv K) : ∃ v s', K v s' ∧ ∀ {ρ : Ren} {w : World} {x' y' : Value}, Rel ρ s w → cz ρ x = some x' → cz ρ y = some y' →
    ∃ ρ' w' v', Step md s.n s ρ w s' ρ' w' ∧ cz ρ' v = some v' ∧ (Builtin.append_ #[ty, ty2] T #[x', y']).run P w = .ok v' w' := by
  unfold appendP at h
  split at h
  · rename_i e d2 hd hd2
    have h2 : ∃ d2, P.underlying ty2 = some d2 ∧ ∀ k, d2 ≠ .int k := by
      revert hd2
      cases hq : P.underlying ty2 with
      | none => intro hd2; cases hd2
      | some q => intro hd2; exact ⟨q, rfl, fun k e => by subst e; cases hd2⟩
    replace h := withO_ok h; obtain ⟨sz, hs, h⟩ := h
    replace h := withO_ok h; obtain ⟨bytes, hby, h⟩ := h
    replace h := withO_ok h; obtain ⟨z, hz, h⟩ := h
    replace h := withO_ok h; obtain ⟨zv, hzv, h⟩ := h
    replace h := need_ok h; obtain ⟨hb, h⟩ := h
    simp only [Bool.and_eq_true] at hb
    have hpos : 1 ≤ sz := Nat.le_of_ble_eq_true hb.1
    have hzl : (cellsOf zv).length = sz := by simpa using hb.2
    replace h := srcP_ok (P := P) h; obtain ⟨m, g, h, hsrc⟩ := h
    -- a new block
    have grow : ∀ {n : Nat} {fo f' : Nat → List V} {H : Tr SObj} {ρ : Ren} {w : World} {p' : Option Addr} {cap' : Nat} {old new : List Value} {y' : Value}, Rel ρ s w → czl ρ (rowL fo n) = some old → czl ρ (rowL g m) = some new → RowOk n fo sz → RowOk m g sz → old.length = n * sz → new.length = m * sz →
        (∀ q, q < n + m → f' q = appF n fo g q) → cap' < n + m → (n + m) * (bytes + sz) ≤ 1000000000 → (∀ W, (Builtin.lenOf y').run P W = .ok m W) →
        (∀ W : World, W.heap = w.heap → (Builtin.firstCells sz n (.slice p' n cap')).run P W = .ok old.toArray W) → (∀ W : World, W.heap = w.heap → (Builtin.firstCells sz m y').run P W = .ok new.toArray W) →
        (∀ m', H.get m' = if m' = s.n then some (.row (n + m) f' e sz) else s.H.get m') →
        ∃ ρ' w' v', Step md s.n s ρ w ⟨s.n + 1, H⟩ ρ' w' ∧ cz ρ' (.sl s.n 0 sz (n + m) false) = some v' ∧ (Builtin.append_ #[ty, ty2] T #[.slice p' n cap', y']).run P w = .ok v' w' := by
      intro n fo f' H ρ w p' cap' old new y' hr hold hnew hfo hg hol hnl hf' hlt hbig hlen hfold hfnew hH
      have hzs : z.cells.size = sz := by
        have := czl_length (czl_cellsOf hr.sig (cz_ofV (ρ := ρ) hzv))
        simpa [hzl] using this
      obtain ⟨newCap, rest, g1, g2, g3⟩ := run_append_more (T := T) hd h2 hs hby hz (hlen w) hlt hbig hpos hzs hfold hfnew
      have hrow : czl ρ (rowL f' (n + m)) = some (old ++ new) := by
        rw [rowL_congr hf', rowL_app]
        exact czl_append hold hnew
      refine ⟨_, _, .slice (some ⟨w.heap.size, 0, none⟩) (n + m) newCap, Step.row hr hrow ((hfo.app hg).congr hf') hpos (tail := rest) (m := newCap) ?_ hH (d := w.drawn + 1), ?_, g3⟩
      · rw [List.length_append, List.length_append, hol, hnl, g2, ← Nat.add_mul, ← Nat.add_mul]
        congr 1
        omega
      · simp [cz, Ren.add, g1]
    -- in the place
    split at h
    · obtain ⟨hbig, h⟩ := h
      replace h := viewP_ok h; obtain ⟨f', hf', h⟩ := h
      replace h := newP_ok h; obtain ⟨H, hH, h⟩ := h
      refine ⟨_, _, h, fun {ρ w x' y'} hr hx hy => ?_⟩
      simp only [cz, Option.some.injEq] at hx
      subst hx
      obtain ⟨new, k1, k2, k3, k4, k5, k6⟩ := hsrc hr hy
      by_cases hm : m = 0
      · subst hm
        have hn0 : new = [] := List.eq_nil_of_length_eq_zero (by rw [k3, Nat.zero_mul])
        subst hn0
        refine ⟨_, w, .slice none 0 0, Step.nilrow hr hH, by simp [cz, Ren.add], ?_⟩
        rw [run_append_eq (T := T) hd h2 hs (k4 w) (k5 w rfl) (Nat.le_refl 0)]
      · have := grow (n := 0) (fo := fun _ => []) (f' := f') (H := H) (p' := none) (cap' := 0) (old := []) hr (by simp [rowL, czl]) k1 (fun j hj => by omega) k2 (by simp) k3 (fun q hq => by rw [hf' q (by omega)]; rfl) (by omega) (by rw [Nat.zero_add]; exact hbig) k4 (fun _ _ => rfl) k5 (by rw [Nat.zero_add]; exact hH)
        rw [Nat.zero_add] at this
        exact this
    · rename_i i lo sz' n full
      replace h := need_ok h; obtain ⟨hb2, h⟩ := h
      obtain rfl : sz = sz' := by simpa using hb2
      replace h := withO_ok h; obtain ⟨ob, ho, h⟩ := h
      split at h
      · rename_i N f e' sz''
        replace h := need_ok h; obtain ⟨hb3, hle, hbig, h⟩ := h
        simp only [Bool.and_eq_true] at hb3
        obtain rfl : sz = sz'' := by simpa using hb3.1
        obtain rfl : e = e' := by simpa using hb3.2
        replace h := viewP_ok h; obtain ⟨f', hf', h⟩ := h
        cases full with
        | true =>
          rcases h with ⟨hm0, h⟩ | ⟨rfl, rfl, h⟩
          rotate_left
          · replace h := newP_ok h; obtain ⟨H, hH, h⟩ := h
            refine ⟨_, _, h, fun {ρ w x' y'} hr hx hy => ?_⟩
            obtain ⟨new, k1, k2, k3, k4, k5, k6⟩ := hsrc hr hy
            have hn0 : new = [] := List.eq_nil_of_length_eq_zero (by rw [k3, Nat.zero_mul])
            subst hn0
            rcases cz_sl hx with ⟨b, c, q1, rfl, q2, q3, q4⟩ | ⟨q1, q2, _, rfl, rfl⟩
            · have hc := q3 rfl
              subst hc
              refine ⟨_, w, .slice (some ⟨b, ρ.δ i + lo * sz, none⟩) 0 0, Step.someRow hr (hr.blt i b q1) (ρ.δ i + lo * sz) hH, by simp [cz, Ren.add], ?_⟩
              rw [run_append_eq (T := T) hd h2 hs (k4 w) (k5 w rfl) (Nat.le_refl 0)]
              simp only [run_storeNil]
              rfl
            · refine ⟨_, w, .slice none 0 0, Step.nilrow hr hH, by simp [cz, Ren.add], ?_⟩
              rw [run_append_eq (T := T) hd h2 hs (k4 w) (k5 w rfl) (Nat.le_refl 0)]
          replace h := newP_ok h; obtain ⟨H, hH, h⟩ := h
          refine ⟨_, _, h, fun {ρ w x' y'} hr hx hy => ?_⟩
          obtain ⟨new, k1, k2, k3, k4, k5, k6⟩ := hsrc hr hy
          rcases cz_sl hx with ⟨b, c, q1, rfl, q2, q3, q4⟩ | ⟨q1, q2, rfl, rfl, rfl⟩
          · rcases hr.obj i _ ho with ⟨_, g2, _⟩ | ⟨b', pre, l', tail, g1, g2, g3, g4, g5, g6, g7, g8⟩
            · obtain rfl : n = 0 := by omega
              have hc := q3 rfl
              subst hc
              exact grow (n := 0) (fo := fun q => f (lo + q)) (old := []) hr (by simp [rowL, czl]) k1 (fun j hj => by omega) k2 (by simp) k3 hf' (by omega) hbig k4 (fun W hW => run_none W _) k5 hH
            rw [q1] at g1
            cases g1
            obtain ⟨A, B, C, rfl, hA, hB, _, hB2⟩ := row_cells g6 g2 hle
            have hc := q3 rfl
            subst hc
            exact grow hr hB2 k1 (g6.sub hle) k2 hB k3 hf' (by omega) hbig k4 (fun W hW => run_cells (P := P) (w := w) (A := pre ++ A) (B := B) (C := C ++ tail) (e := e) (fr := (0, 0)) (by rw [g3]; simp) (by rw [List.length_append]; omega) hW hB.symm) k5 hH
          · have := grow (n := 0) (fo := fun q => f (0 + q)) (f' := f') (H := H) (p' := none) (cap' := 0) (old := []) hr (by simp [rowL, czl]) k1 (fun j hj => by omega) k2 (by simp) k3 hf' (by omega) hbig k4 (fun _ _ => rfl) k5 hH
            exact this
        | false =>
          replace h := setP_ok h; obtain ⟨H1, hH1, h⟩ := h
          replace h := newP_ok h; obtain ⟨H, hH, h⟩ := h
          refine ⟨_, _, h, fun {ρ w x' y'} hr hx hy => ?_⟩
          obtain ⟨new, k1, k2, k3, k4, k5, k6⟩ := hsrc hr hy
          -- a new block, and the old one is given up
          have fresh : ∀ {p' : Option Addr} {cap' : Nat} {old : List Value}, czl ρ (rowL (fun q => f (lo + q)) n) = some old → RowOk n (fun q => f (lo + q)) sz → old.length = n * sz → cap' < n + m →
              (∀ W : World, W.heap = w.heap → (Builtin.firstCells sz n (.slice p' n cap')).run P W = .ok old.toArray W) →
              ∃ ρ' w' v', Step md s.n s ρ w ⟨s.n + 1, H⟩ ρ' w' ∧ cz ρ' (.sl s.n 0 sz (n + m) false) = some v' ∧ (Builtin.append_ #[ty, ty2] T #[.slice p' n cap', y']).run P w = .ok v' w' := by
            intro p' cap' old hold hfo hol hlt hfold
            have hzs : z.cells.size = sz := by
              have := czl_length (czl_cellsOf hr.sig (cz_ofV (ρ := ρ) hzv))
              simpa [hzl] using this
            obtain ⟨newCap, rest, g1, g2, g3⟩ := run_append_more (T := T) hd h2 hs hby hz (k4 w) hlt hbig hpos hzs hfold k5
            have hrow : czl ρ (rowL f' (n + m)) = some (old ++ new) := by
              rw [rowL_congr hf', rowL_app]
              exact czl_append hold k1
            have st1 := Step.drop (md := md) hr hH1
            refine ⟨_, _, .slice (some ⟨w.heap.size, 0, none⟩) (n + m) newCap, Step.trans st1 (Step.row (s := ⟨s.n, H1⟩) st1.rel hrow ((hfo.app k2).congr hf') hpos (tail := rest) (m := newCap) ?_ hH (d := w.drawn + 1)), ?_, g3⟩
            · rw [List.length_append, List.length_append, hol, k3, g2, ← Nat.add_mul, ← Nat.add_mul]
              congr 1
              omega
            · simp [cz, Ren.add, g1]
          rcases cz_sl hx with ⟨b, c, q1, rfl, q2, q3, q4⟩ | ⟨q1, q2, rfl, rfl, rfl⟩
          · rcases hr.obj i _ ho with ⟨g1, g2, _⟩ | ⟨b', pre, l', tail, g1, g2, g3, g4, g5, g6, g7, g8⟩
            · obtain rfl : n = 0 := by omega
              have hγ : ρ.γ i = 0 := by
                rcases g1 with ⟨g1, _⟩ | ⟨_, _, g1⟩
                · rw [q1] at g1; cases g1
                · exact g1
              obtain ⟨e1, e2⟩ := q4 rfl
              obtain rfl : c = 0 := by omega
              by_cases hm : m = 0
              · subst hm
                have hn0 : new = [] := List.eq_nil_of_length_eq_zero (by rw [k3, Nat.zero_mul])
                subst hn0
                have st1 := Step.drop (md := md) hr hH1
                refine ⟨_, w, .slice (some ⟨b, ρ.δ i + lo * sz, none⟩) 0 0, Step.trans st1 (Step.someRow (s := ⟨s.n, H1⟩) st1.rel (hr.blt i b q1) (ρ.δ i + lo * sz) hH), by simp [cz, Ren.add], ?_⟩
                rw [run_append_eq (T := T) hd h2 hs (k4 w) (k5 w rfl) (Nat.le_refl 0)]
                simp only [run_storeNil]
                rfl
              · exact fresh (by simp [rowL, czl]) (fun j hj => by omega) (by simp) (by omega) (fun W hW => run_none W _)
            rw [q1] at g1
            cases g1
            obtain ⟨A, B, C, rfl, hA, hB, hA2, hB2⟩ := row_cells g6 g2 hle
            have hbk : w.heap[b]? = some (.cells ((pre ++ A) ++ B ++ (C ++ tail)).toArray e (0, 0)) := by rw [g3]; simp
            have hq : ρ.δ i + lo * sz = (pre ++ A).length := by rw [List.length_append]; omega
            obtain ⟨e1, e2⟩ := q4 rfl
            by_cases hfit : n + m ≤ c
            · have hext := add_ext (hr.fresh s.n (Nat.le_refl _)) (some b) (ρ.δ i + lo * sz) c false none (ρ.fp i)
              have hroom : n * sz + m * sz ≤ c * sz := by rw [← Nat.add_mul]; exact Nat.mul_le_mul_right _ hfit
              have hγ : c * sz + lo * sz = ρ.γ i * sz := by rw [← Nat.add_mul]; congr 1; omega
              have hlen : (B ++ (C ++ tail)).length = c * sz := by
                have := g5
                simp only [List.length_append] at this ⊢
                omega
              have hst := run_storeCells_at (P := P) b ((pre ++ A).length + n * sz) e new 0 _ w hbk (by simp only [List.size_toArray, List.length_append] at hlen ⊢; omega) k6
              simp only [Nat.add_zero] at hst
              refine ⟨_, w.setRow b (((pre ++ A ++ B ++ (C ++ tail)).take ((pre ++ A).length + n * sz) ++ new ++ (pre ++ A ++ B ++ (C ++ tail)).drop ((pre ++ A).length + n * sz + new.length)).toArray), .slice (some ⟨b, ρ.δ i + lo * sz, none⟩) (n + m) c, Step.move hr ho hH1 hH (b := some b) (d := ρ.δ i + lo * sz) (g := c) (nu := false) (v := none) (.inr ⟨b, pre ++ A, B ++ new, (B ++ (C ++ tail)).drop (n * sz + new.length), by simp [Ren.add], ?_, ?_, ?_, ?_, (g6.sub hle |>.app k2).congr hf', hpos, ?_⟩)
                (fun k hk => setRow_other w b k _ (fun e => hk ((g8 k).2 e))) (fun x hx => by cases hx; rw [setRow_size]; exact hr.blt i b q1) (fun x hx => by cases hx) (setRow_size w b _) rfl rfl rfl, ?_, ?_⟩
              · rw [rowL_congr hf', rowL_app]
                exact czl_ext hext _ (czl_append hB2 k1)
              · rw [setRow_heap w b _ _ e _ hbk]
                congr 3
                rw [List.append_assoc (pre ++ A), List.take_append, List.drop_append, List.take_of_length_le (by omega), @List.drop_eq_nil_of_le _ (pre ++ A) _ (by omega)]
                rw [show (pre ++ A).length + n * sz - (pre ++ A).length = n * sz by omega, show (pre ++ A).length + n * sz + new.length - (pre ++ A).length = n * sz + new.length by omega, List.take_append_of_le_length (by omega), List.take_of_length_le (by omega)]
                simp
              · simp [Ren.add, hq]
              · simp only [Ren.add, if_true]
                rw [List.length_append, List.length_append, List.length_drop, hlen, hB, k3]
                omega
              · intro k
                simp only [Ren.add, if_true]
                exact g8 k
              · simp only [cz, Ren.add, if_true, Bool.false_eq_true, if_false]
                rw [if_pos (by omega)]
                simp
              · rw [run_append_eq (T := T) hd h2 hs (k4 w) (k5 w rfl) hfit]
                simp only [add_off, hq, hst, Result.andThen_ok]
            · exact fresh hB2 (g6.sub hle) hB (by omega) (fun W hW => run_cells (P := P) (w := w) hbk hq hW hB.symm)
          · by_cases hm : m = 0
            · subst hm
              have hn0 : new = [] := List.eq_nil_of_length_eq_zero (by rw [k3, Nat.zero_mul])
              subst hn0
              have st1 := Step.drop (md := md) hr hH1
              refine ⟨_, w, .slice none 0 0, Step.trans st1 (Step.nilrow (s := ⟨s.n, H1⟩) st1.rel hH), by simp [cz, Ren.add], ?_⟩
              rw [run_append_eq (T := T) hd h2 hs (k4 w) (k5 w rfl) (Nat.le_refl 0)]
            · exact fresh (by simp [rowL, czl]) (fun j hj => by omega) (by simp) (by omega) (fun _ _ => rfl)
      · rename_i co N f e' sz''
        replace h := need_ok h; obtain ⟨hb3, hle, hbig, hm0, h⟩ := h
        simp only [Bool.and_eq_true] at hb3
        obtain rfl : sz = sz'' := by simpa using hb3.1.1
        obtain rfl : e = e' := by simpa using hb3.1.2
        replace h := viewP_ok h; obtain ⟨f', hf', h⟩ := h
        replace h := newP_ok h; obtain ⟨H, hH, h⟩ := h
        refine ⟨_, _, h, fun {ρ w x' y'} hr hx hy => ?_⟩
        obtain ⟨new, k1, k2, k3, k4, k5, k6⟩ := hsrc hr hy
        rcases cz_sl hx with ⟨b, c, q1, rfl, q2, q3, q4⟩ | ⟨q1, q2, rfl, rfl, rfl⟩
        · rcases hr.obj i _ ho with ⟨g1, _⟩ | ⟨b', pre, l', tail, g1, g2, g3, ⟨fr, g4⟩, g5, g6, g7, g8⟩
          · obtain rfl : n = 0 := by omega
            have hc := q3 hb3.2
            subst hc
            exact grow (n := 0) (fo := fun q => f (lo + q)) (old := []) hr (by simp [rowL, czl]) k1 (fun j hj => by omega) k2 (by simp) k3 hf' (by omega) hbig k4 (fun W hW => run_none W _) k5 hH
          rw [q1] at g1
          cases g1
          rw [g4] at g3
          obtain ⟨A, B, C, rfl, hA, hB, _, hB2⟩ := row_cells g6 g2 hle
          have hc := q3 hb3.2
          subst hc
          exact grow hr hB2 k1 (g6.sub hle) k2 hB k3 hf' (by omega) hbig k4 (fun W hW => run_cells (P := P) (w := w) (A := pre ++ A) (B := B) (C := C ++ tail) (e := e) (fr := fr) (by rw [g3]; simp) (by rw [List.length_append]; omega) hW hB.symm) k5 hH
        · have := grow (n := 0) (fo := fun q => f (0 + q)) (f' := f') (H := H) (p' := none) (cap' := 0) (old := []) hr (by simp [rowL, czl]) k1 (fun j hj => by omega) k2 (by simp) k3 hf' (by omega) hbig k4 (fun _ _ => rfl) k5 hH
          exact this
      · exact h.elim
    · exact h.elim
  · exact h.elim
end
end Sy
end Go.Proofs.Ytmgcpfljhcahoaa
