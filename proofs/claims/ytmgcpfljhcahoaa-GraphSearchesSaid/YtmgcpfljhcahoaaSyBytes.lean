/- Symbolic states: bytes made a string. -/
import Derived.Test.YtmgcpfljhcahoaaSyCast
import Derived.Laws.BytesString
namespace Go.Proofs.Ytmgcpfljhcahoaa
open Go Go.RowKit
namespace Sy
variable {md : Bool}

def strB (l : List Int) : ByteArray := l.foldl (fun r n => r.push (UInt8.ofNat n.toNat)) ByteArray.empty
def bytesP (P : Program) (s : St) (src dst : TypeId) (i lo sz n : Nat) (K : V → List Nat → Prop) : Prop := match P.underlying src, P.underlying dst with
  | some (.slice e), some .string => match P.underlying e with
    | some (.int .u8) => withO (s.H.get i) fun o => match o with
      | .row m f _ sz' => need (Nat.beq sz 1 && Nat.beq sz' 1) (lo + n ≤ m ∧ ∃ l : List Int, l.length = n ∧ (∀ j, j < n → f (lo + j) = [.int .u8 (l.getD j 0)]) ∧ K (.str (strB l)) [i])
      | .ro _ m f _ sz' => need (Nat.beq sz 1 && Nat.beq sz' 1) (lo + n ≤ m ∧ ∃ l : List Int, l.length = n ∧ (∀ j, j < n → f (lo + j) = [.int .u8 (l.getD j 0)]) ∧ K (.str (strB l)) [i])
      | _ => False
    | _ => False
  | _, _ => False

section
variable {P : Program} {ρ : Ren} {s s' : St} {w : World}
theorem rowL_ints : ∀ {n : Nat} {g : Nat → List V} {l : List Int}, l.length = n → (∀ j, j < n → g j = [.int .u8 (l.getD j 0)]) → rowL g n = l.map (V.int .u8) := by
  intro n g l hl hg
  have key : ∀ k, k ≤ n → rowL g k = (l.take k).map (V.int .u8) := by
    intro k
    induction k with
    | zero => intro _; simp [rowL]
    | succ k ih =>
      intro hk
      have hlt : k < l.length := by omega
      rw [rowL_succ, ih (by omega), hg k (by omega), List.take_succ_eq_append_getElem hlt, List.map_append]
      simp [List.getD_eq_getElem?_getD, List.getElem?_eq_getElem hlt]
  have h := key n (Nat.le_refl _)
  rwa [List.take_of_length_le (by omega)] at h
theorem czl_ints (l : List Int) : czl ρ (l.map (V.int .u8)) = some (l.map (Value.int .u8)) := by
  induction l with
  | nil => simp [czl]
  | cons c l ih => exact czl_cons.2 ⟨_, _, rfl, ih, rfl⟩
theorem bytes_cells {f : Nat → List V} {m lo n : Nat} {l : List Int} {l' pre tail : List Value} {b q : Nat} {e : TypeId} {fr : Nat × Nat} (hf : RowOk m f 1) (hm : lo + n ≤ m) (hl : l.length = n) (hg : ∀ j, j < n → f (lo + j) = [.int .u8 (l.getD j 0)])
    (hc : czl ρ (rowL f m) = some l') (hw : w.heap[b]? = some (.cells (pre ++ l' ++ tail).toArray e fr)) (hq : q = pre.length + lo) : (loadCells ⟨b, q, none⟩ n).run P w = .ok (l.map (Value.int .u8)).toArray w := by
  obtain ⟨k, rfl⟩ : ∃ k, m = lo + n + k := ⟨m - (lo + n), by omega⟩
  rw [rowL_split, rowL_split, rowL_ints hl hg] at hc
  obtain ⟨x1, x2, h1, h2, rfl⟩ := czl_split hc
  obtain ⟨x3, x4, h3, h4, rfl⟩ := czl_split h1
  rw [czl_ints] at h4
  cases h4
  have hA := czl_length h3
  rw [rowL_length fun j hj => hf.len j (by omega)] at hA
  have hw2 : w.heap[b]? = some (.cells ((pre ++ x3) ++ l.map (Value.int .u8) ++ (x2 ++ tail)).toArray e fr) := by rw [hw]; simp
  exact run_cells (P := P) hw2 (by rw [List.length_append]; omega) rfl (by simp [hl])
theorem bytesP_ok {src dst : TypeId} {i lo sz n : Nat} {K : V → List Nat → Prop} (h : bytesP P s src dst i lo sz n K) : ∃ l : List Int, K (.str (strB l)) [i] ∧ ∀ {ρ : Ren} {w : World} {s' : St} {full : Bool} {y' : Value}, Rel ρ s' w → s'.H.get i = s.H.get i →
    cz ρ (.sl i lo sz n full) = some y' → (convert src dst y').run P w = .ok (.string (strB l)) w := by
  unfold bytesP at h
  split at h
  · rename_i e hs hd
    split at h
    · rename_i he
      replace h := withO_ok h; obtain ⟨ob, ho, h⟩ := h
      have nul : ∀ {l : List Int} {w : World}, l.length = 0 → (convert src dst (.slice none 0 0)).run P w = .ok (.string (strB l)) w := by
        intro l w hl
        obtain rfl := List.eq_nil_of_length_eq_zero hl
        rw [run_convert_bytes_string w src dst e none 0 0 hs he hd]
        rfl
      have val : ∀ {ρ : Ren} {b : Nat} {full : Bool} {y' : Value}, ρ.β i = some b → cz ρ (.sl i lo 1 n full) = some y' → ∃ c, y' = .slice (some ⟨b, ρ.δ i + lo, none⟩) n c := by
        intro ρ b full y' hb hy
        simp only [cz, hb] at hy
        split at hy
        · simp at hy; exact ⟨_, hy.symm⟩
        · split at hy
          · simp at hy; exact ⟨_, hy.symm⟩
          · cases hy
      have some_ok : ∀ {ρ : Ren} {w : World} {m : Nat} {f : Nat → List V} {l : List Int} {l' pre tail : List Value} {b : Nat} {e' : TypeId} {fr : Nat × Nat} {full : Bool} {y' : Value}, RowOk m f 1 → lo + n ≤ m → l.length = n → (∀ j, j < n → f (lo + j) = [.int .u8 (l.getD j 0)]) → czl ρ (rowL f m) = some l' →
          w.heap[b]? = some (.cells (pre ++ l' ++ tail).toArray e' fr) → pre.length = ρ.δ i → ρ.β i = some b → cz ρ (.sl i lo 1 n full) = some y' → (convert src dst y').run P w = .ok (.string (strB l)) w := by
        intro ρ w m f l l' pre tail b e' fr full y' hf hm hl hg hc hw hp hb hy
        obtain ⟨c, rfl⟩ := val hb hy
        rw [run_convert_bytes_string w src dst e _ n c hs he hd]
        exact run_bytesToString w _ n c l (bytes_cells hf hm hl hg hc hw (by rw [hp]))
      split at h
      · rename_i m f e' sz'
        replace h := need_ok h; obtain ⟨hb, hm, l, hl, hg, h⟩ := h
        obtain ⟨rfl, rfl⟩ : sz = 1 ∧ sz' = 1 := by simpa using hb
        refine ⟨l, h, fun {ρ w s' full y'} hr hss hy => ?_⟩
        rcases hr.obj i _ (hss.trans ho) with ⟨g1, g3, _⟩ | ⟨b, pre, l', tail, g1, g2, g3, g4, g5, g6, g7, g8⟩
        · have hn : n = 0 := by omega
          have hlo : lo = 0 := by omega
          subst hn hlo
          obtain rfl := List.eq_nil_of_length_eq_zero hl
          have : ∃ a c, y' = .slice a 0 c := by
            simp only [cz] at hy
            repeat' split at hy
            all_goals first | (cases hy; exact ⟨_, _, rfl⟩) | cases hy
          obtain ⟨a, c2, rfl⟩ := this
          rw [run_convert_bytes_string w src dst e _ 0 c2 hs he hd]
          cases a with
          | none => rfl
          | some a => exact run_bytesToString w a 0 c2 [] (run_loadCells_list (P := P) w a [] (fun j v h => by simp at h))
        · exact some_ok g6 hm hl hg g2 g3 g4 g1 hy
      · rename_i c m f e' sz'
        replace h := need_ok h; obtain ⟨hb, hm, l, hl, hg, h⟩ := h
        obtain ⟨rfl, rfl⟩ : sz = 1 ∧ sz' = 1 := by simpa using hb
        refine ⟨l, h, fun {ρ w s' full y'} hr hss hy => ?_⟩
        rcases hr.obj i _ (hss.trans ho) with ⟨g1, _⟩ | ⟨b, pre, l', tail, g1, g2, g3, ⟨fr, g4⟩, g5, g6, g7, g8⟩
        · have hn : n = 0 := by omega
          have hlo : lo = 0 := by omega
          subst hn hlo
          obtain rfl := List.eq_nil_of_length_eq_zero hl
          have : ∃ a c, y' = .slice a 0 c := by
            simp only [cz] at hy
            repeat' split at hy
            all_goals first | (cases hy; exact ⟨_, _, rfl⟩) | cases hy
          obtain ⟨a, c2, rfl⟩ := this
          rw [run_convert_bytes_string w src dst e _ 0 c2 hs he hd]
          cases a with
          | none => rfl
          | some a => exact run_bytesToString w a 0 c2 [] (run_loadCells_list (P := P) w a [] (fun j v h => by simp at h))
        · rw [g4] at g3
          exact some_ok g6 hm hl hg g2 g3 g5 g1 hy
      · exact h.elim
    · exact h.elim
  · exact h.elim
end
end Sy
end Go.Proofs.Ytmgcpfljhcahoaa
