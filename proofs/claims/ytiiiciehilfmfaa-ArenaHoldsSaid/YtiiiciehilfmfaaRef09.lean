/- Contracts of package tagcacheref09: Same. -/
import Derived.Test.YtiiiciehilfmfaaArena7
namespace Go.Proofs.Ytiiiciehilfmfaa
open Go.RowKit

theorem refCells_get (l : List (Int × Int)) : ∀ (j : Nat), j < l.length → (refCells l)[j * 2]? = some (.int .i64 (l.getD j (0, 0)).1) ∧ (refCells l)[j * 2 + 1]? = some (.int .i64 (l.getD j (0, 0)).2) := by
  induction l with
  | nil => intro j h; simp at h
  | cons x l ih =>
    intro j hj
    cases j with
    | zero => simp [refCells]
    | succ j =>
      have := ih j (by simpa using hj)
      have e : refCells (x :: l) = .int .i64 x.1 :: .int .i64 x.2 :: refCells l := by simp [refCells]
      rw [e, show (j + 1) * 2 = j * 2 + 1 + 1 by omega, show j * 2 + 1 + 1 + 1 = j * 2 + 1 + 1 + 1 from rfl]
      simpa using this

/-- A list of references that can be read. -/
def RdRefs (w : World) (v : Value) (l : List (Int × Int)) : Prop := ∃ q cap, v = .slice q l.length cap ∧ l.length ≤ 9223372036854775807 ∧
  ∀ j, j < l.length → ∃ g, q = some ⟨g, 0, none⟩ ∧ g < w.heap.size ∧ w.cell? ⟨g, j * 2, none⟩ = some (.int .i64 (l.getD j (0, 0)).1) ∧ w.cell? ⟨g, j * 2 + 1, none⟩ = some (.int .i64 (l.getD j (0, 0)).2)

theorem RdRefs.of_own {w : World} {q : Option Addr} {cap : Nat} {l : List (Int × Int)} (h : w.ownsRow 0 30 2 (.slice q l.length cap) l.length (refCells l)) : RdRefs w (.slice q l.length cap) l := by
  refine ⟨q, cap, rfl, own_len_le h, fun j hj => ?_⟩
  obtain ⟨g, cap', e, _, _, hg⟩ := own_some h (by omega)
  cases e
  refine ⟨g, rfl, hg, ?_, ?_⟩
  · rw [h.cellAt _ (by omega)]; exact (refCells_get l j hj).1
  · rw [h.cellAt _ (by omega)]; exact (refCells_get l j hj).2

theorem RdRefs.later {w w' : World} {v : Value} {l : List (Int × Int)} (h : RdRefs w v l) (hb : Below w.heap.size w w') : RdRefs w' v l := by
  obtain ⟨q, cap, e, hl, h⟩ := h
  refine ⟨q, cap, e, hl, fun j hj => ?_⟩
  obtain ⟨g, e, hg, h1, h2⟩ := h j hj
  exact ⟨g, e, Nat.lt_of_lt_of_le hg hb.size, (hb.cell (p := ⟨g, _, none⟩) hg).trans h1, (hb.cell (p := ⟨g, _, none⟩) hg).trans h2⟩

def SameP (w : World) (b : Bool) (e : Ending) (w' : World) : Prop := e = .returned (.bool b) ∧ Below w.heap.size w w'

theorem take_snoc_eq (l m : List (Int × Int)) (k : Nat) (d : Int × Int) (h1 : k < l.length) (h2 : k < m.length) : l.take (k + 1) = m.take (k + 1) ↔ l.take k = m.take k ∧ l.getD k d = m.getD k d := by
  rw [List.take_succ_eq_append_getElem h1, List.take_succ_eq_append_getElem h2]
  have e1 : l.getD k d = l[k] := by simp [h1]
  have e2 : m.getD k d = m[k] := by simp [h2]
  rw [e1, e2]
  constructor
  · intro h
    have := List.append_inj h (by simp; omega)
    exact ⟨this.1, by simpa using this.2⟩
  · rintro ⟨a, b⟩; rw [a, b]
theorem getD_ne (l m : List (Int × Int)) (k : Nat) (d : Int × Int) (h : l.getD k d ≠ m.getD k d) : ¬ l = m := fun e => h (by rw [e])

theorem same_any (w : World) (u v : Value) (l m : List (Int × Int)) (hu : RdRefs w u l) (hv : RdRefs w v m) :
    Calls Try.prog 23 #[u, v] w (SameP w (decide (l = m))) := by
  obtain ⟨q, cap, rfl, hl, h1⟩ := hu
  obtain ⟨q2, cap2, rfl, hm, h2⟩ := hv
  have H1 := Lib.hid h1; have H2 := Lib.hid h2; clear h1 h2
  by_cases hlm : l.length = m.length
  · have hd : ((l.length : Int) != m.length) = false := by simp [hlm]
    have HL := Lib.hid hlm; clear hlm
    go_enter Try.func23, Try.ntmps23
    go_wp2_with fail
    go_loopw [5] (fun i wr => ∃ k : Nat, k ≤ l.length ∧ i = .int .i64 k ∧ l.take k = m.take k ∧ Below w.heap.size w wr) (fun i _ => l.length - (intOf i).toNat)
    case atStart => exact ⟨0, Nat.zero_le _, rfl, rfl, Below.refl _ _⟩
    case round =>
      obtain ⟨k, hk, rfl, ht, hB⟩ := hrel
      have HT := Lib.hid ht; have HBl := Lib.hid hB; clear ht
      by_cases hlt : k < l.length
      · have hlm : k < m.length := by have := HL.out; omega
        obtain ⟨g1, rfl, hg1, a0, a1⟩ := H1.out k hlt
        obtain ⟨g2, rfl, hg2, b0, b1⟩ := H2.out k hlm
        have a0' := (hB.cell (p := ⟨g1, k * 2, none⟩) hg1).trans a0
        have a1' := (hB.cell (p := ⟨g1, k * 2 + 1, none⟩) hg1).trans a1
        have b0' := (hB.cell (p := ⟨g2, k * 2, none⟩) hg2).trans b0
        have b1' := (hB.cell (p := ⟨g2, k * 2 + 1, none⟩) hg2).trans b1
        clear a0 a1 b0 b1 hB
        have HS := Lib.hid (take_snoc_eq l m k (0, 0) hlt hlm)
        have HX := Lib.hid (getD_ne l m k (0, 0))
        generalize l.getD k (0, 0) = x at *
        generalize m.getD k (0, 0) = y at *
        obtain ⟨x1, x2⟩ := x
        obtain ⟨y1, y2⟩ := y
        by_cases e1 : x1 = y1
        · by_cases e2 : x2 = y2
          · subst e1 e2
            go_wp2_with fail
            go_region
            go_wp2_with fail
            go_roundw
            case rel => exact ⟨k + 1, by omega, by go_num, (HS.out.2 ⟨HT.out, by trivial⟩), HBl.out.drew⟩
            case measure => simp [intOf]; omega
          · have t2 : (x2 != y2) = true := by simp [e2]
            have t2' : (x2 == y2) = false := by simp [e2]
            have HN := Lib.hid (show decide (l = m) = false from by simp; exact HX.out (by simp [e2]))
            subst e1
            go_wp2_with fail
            go_region
            go_wp2_with fail
            go_ret
            exact ⟨by rw [HN.out]; rfl, HBl.out.drew⟩
        · have t1 : (x1 != y1) = true := by simp [e1]
          have t1' : (x1 == y1) = false := by simp [e1]
          have HN := Lib.hid (show decide (l = m) = false from by simp; exact HX.out (by simp [e1]))
          go_wp2_with fail
          go_region
          go_wp2_with fail
          go_ret
          exact ⟨by rw [HN.out]; rfl, HBl.out.drew⟩
      · have hkl : k = l.length := by omega
        have HN := Lib.hid (show decide (l = m) = true from by
          have := HT.out
          rw [hkl] at this
          simp only [List.take_length] at this
          rw [show l.length = m.length from HL.out, List.take_length] at this
          simp [this])
        clear hB
        go_wp2_with fail
        go_ret
        exact ⟨by rw [HN.out]; rfl, HBl.out⟩
  · have hd : ((l.length : Int) != m.length) = true := by simp; omega
    have HE := Lib.hid (show decide (l = m) = false from by simp; intro e; exact hlm (by rw [e]))
    clear hlm
    go_enter Try.func23, Try.ntmps23
    go_wp2_with fail
    go_ret
    exact ⟨by rw [HE.out]; rfl, Below.refl _ _⟩
end Go.Proofs.Ytiiiciehilfmfaa
