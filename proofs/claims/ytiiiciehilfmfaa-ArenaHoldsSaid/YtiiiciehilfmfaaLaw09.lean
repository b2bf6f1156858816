/- The helpers of package tagcachelaw09: takes, at. -/
import Derived.Test.YtiiiciehilfmfaaArenaK
namespace Go.Proofs.Ytiiiciehilfmfaa
open Go.RowKit

section
variable {w0 : World} {p : Nat} {A : AA} {C : List (Nat × Obj)} {w : World}

theorem takes_K (h : KA w0 p A C w) {B : Int} (ok : A.Ok B) (hB : B < 9223372036854775807) (n g e : Int) :
    Calls Try.prog 10 #[.pointer (some ⟨p, 0, none⟩), .agg #[.int .i64 n, .int .i64 g], .int .i64 e] w (KP w0 p A.take.2 C (.returned (.bool (((A.take.1.1 == n) && (A.take.1.2.1 == g)) && (A.take.1.2.2 == e))))) := by
  have hT := take_K (h.local (.cells #[.int .i64 n, .int .i64 g] 30)) ok hB
  have HT := Lib.hid hT; clear hT h ok
  generalize A.take = r at *
  obtain ⟨⟨r1, r2, r3⟩, A'⟩ := r
  go_enter Try.func10, Try.ntmps10
  go_wp2_with fail
  refine HT.out.mono ?_
  rintro e w1 ⟨rfl, k1⟩
  unfold RefE
  have c0 := k1.cell (List.mem_cons_self ..) 0
  have c1 := k1.cell (List.mem_cons_self ..) 1
  have hlt := block_lt_of_cell c0
  have K := Lib.hid k1; clear k1
  simp only at hlt
  by_cases e1 : r1 = n
  · by_cases e2 : r2 = g
    · subst e1 e2
      go_wp2_with fail
      go_ret
      exact ⟨by simp, (K.out.alloc _).drop⟩
    · have t1 : (r2 == g) = false := by simp [e2]
      subst e1
      go_wp2_with fail
      go_ret
      exact ⟨by simp [e2], (K.out.alloc _).drop⟩
  · have t1 : (r1 == n) = false := by simp [e1]
    go_wp2_with fail
    go_ret
    exact ⟨by simp [e1], (K.out.alloc _).drop⟩

theorem ats_K (h : KA w0 p A C w) (hm : A.most ≠ 0) (k n g e : Int) :
    Calls Try.prog 14 #[.pointer (some ⟨p, 0, none⟩), .int .i64 k, .agg #[.int .i64 n, .int .i64 g], .int .i64 e] w (KP w0 p A C (.returned (.bool ((((atA A.gens k).1 == n) && ((atA A.gens k).2.1 == g)) && ((atA A.gens k).2.2 == e))))) := by
  have hT := at_K (h.local (.cells #[.int .i64 n, .int .i64 g] 30)) hm k
  have HT := Lib.hid hT; clear hT h
  generalize atA A.gens k = r at *
  obtain ⟨r1, r2, r3⟩ := r
  go_enter Try.func14, Try.ntmps14
  go_wp2_with fail
  refine HT.out.mono ?_
  rintro e w1 ⟨rfl, k1⟩
  unfold RefE
  have c0 := k1.cell (List.mem_cons_self ..) 0
  have c1 := k1.cell (List.mem_cons_self ..) 1
  have hlt := block_lt_of_cell c0
  have K := Lib.hid k1; clear k1
  simp only at hlt
  by_cases e1 : r1 = n
  · by_cases e2 : r2 = g
    · subst e1 e2
      go_wp2_with fail
      go_ret
      exact ⟨by simp, (K.out.alloc _).drop⟩
    · have t1 : (r2 == g) = false := by simp [e2]
      subst e1
      go_wp2_with fail
      go_ret
      exact ⟨by simp [e2], (K.out.alloc _).drop⟩
  · have t1 : (r1 == n) = false := by simp [e1]
    go_wp2_with fail
    go_ret
    exact ⟨by simp [e1], (K.out.alloc _).drop⟩

theorem KA.pair (h : KA w0 p A C w) {b : Nat} {x y : Value} {t : TypeId} {fr : Nat × Nat} (hx : (b, .cells #[x, y] t fr) ∈ C) : w.cell? ⟨b, 0, none⟩ = some x ∧ w.cell? ⟨b, 1, none⟩ = some y := ⟨h.cell hx 0, h.cell hx 1⟩
theorem ok_of (A : AA) (h : A.most ≠ 0 ∧ A.most ≤ 1048576 ∧ A.gens.length ≤ 1048576 ∧ A.free.length ≤ 1048575 ∧ (∀ n ∈ A.free, 0 ≤ n ∧ n < A.gens.length) ∧ (∀ x ∈ A.gens, -100 ≤ x ∧ x ≤ 100)) : A.Ok 100 := by
  obtain ⟨a, b, c, d, e, f⟩ := h
  refine ⟨a, b, c, d, e, fun k => ?_⟩
  rw [List.getD_eq_getElem?_getD]
  cases hk : A.gens[k]? with
  | none => simp
  | some x => exact f x (List.mem_of_getElem? hk)

theorem takes_true (h : KA w0 p A C w) (ok : A.Ok 100) {n g e : Int} {A' : AA} (ht : A.take = ((n, g, e), A')) : Calls Try.prog 10 #[.pointer (some ⟨p, 0, none⟩), .agg #[.int .i64 n, .int .i64 g], .int .i64 e] w (KP w0 p A' C (.returned (.bool true))) := by
  have := takes_K h ok (by omega) n g e
  rw [ht] at this
  simpa using this
theorem ats_true (h : KA w0 p A C w) (hm : A.most ≠ 0) {k n g e : Int} (ht : atA A.gens k = (n, g, e)) : Calls Try.prog 14 #[.pointer (some ⟨p, 0, none⟩), .int .i64 k, .agg #[.int .i64 n, .int .i64 g], .int .i64 e] w (KP w0 p A C (.returned (.bool true))) := by
  have := ats_K h hm k n g e
  rw [ht] at this
  simpa using this
theorem rel_true (h : KA w0 p A C w) (ok : A.Ok 100) {n g e : Int} {A' : AA} (ht : A.rel n g = (e, A')) : Calls Try.prog 13 #[.pointer (some ⟨p, 0, none⟩), .agg #[.int .i64 n, .int .i64 g]] w (KP w0 p A' C (.returned (.int .i64 e))) := by
  have := rel_K h ok (by omega) n g
  rw [ht] at this
  exact this
theorem has_true (h : KA w0 p A C w) (hm : A.most ≠ 0) {n g : Int} {b : Bool} (ht : hasA A.gens n g = b) : Calls Try.prog 17 #[.pointer (some ⟨p, 0, none⟩), .agg #[.int .i64 n, .int .i64 g]] w (KP w0 p A C (.returned (.bool b))) := by
  have := has_K h hm n g
  rw [ht] at this
  exact this
end
end Go.Proofs.Ytiiiciehilfmfaa
