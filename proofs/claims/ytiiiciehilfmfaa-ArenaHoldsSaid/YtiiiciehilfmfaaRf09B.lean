/- Contracts of package tagcacheref09: New, At, Has. -/
import Derived.Test.YtiiiciehilfmfaaRf09
namespace Go.Proofs.Ytiiiciehilfmfaa
open Go.RowKit

def atR (gens : List Int) (taken : List Bool) (n : Int) : Int × Int × Int :=
  if 0 ≤ n ∧ n < gens.length ∧ taken.getD n.toNat false = true then (n, gens.getD n.toNat 0, 0) else (0, 0, 9)
def hasR (gens : List Int) (taken : List Bool) (n g : Int) : Bool := (atR gens taken n).2.2 == 0 && ((atR gens taken n).1 == n && (atR gens taken n).2.1 == g)

theorem own_boolc {w : World} {base : Nat} {e : TypeId} {g cap n : Nat} {l : List Bool} (h : w.ownsRow base e 1 (.slice (some ⟨g, 0, none⟩) n cap) n (l.map Value.bool)) (j : Nat) (hj : j < n) :
    w.cell? ⟨g, j, none⟩ = some (.bool (l.getD j false)) := by
  have hl : l.length = n := by have := h.1; simpa using this
  rw [h.cellAt j (by omega)]
  have : j < l.length := by omega
  simp [this]

theorem newr_no (w : World) (most : Int) (h : most < 1 ∨ 1048576 < most) : Calls Try.prog 18 #[.int .i64 most] w fun e w' => e = .returned (.tuple #[.agg #[.int .i64 0, .slice none 0 0, .slice none 0 0, .slice none 0 0], .int .i64 2]) ∧ Below w.heap.size w w' := by
  have hbel := (Below.refl w.heap.size w).alloc (Nat.le_refl _)
  have HB := Lib.hid hbel; clear hbel
  rcases h with h | h
  · go_enter Try.func18, Try.ntmps18
    go_wp2_with fail
    exact bodyPost_ret (v := .tuple #[.agg #[.int .i64 0, .slice none 0 0, .slice none 0 0, .slice none 0 0], .int .i64 2]) (by simp [results, Try.results18, go_sem]) rfl ⟨rfl, HB.out _⟩
  · have h' : ¬ most < 1 := by omega
    go_enter Try.func18, Try.ntmps18
    go_wp2_with fail
    exact bodyPost_ret (v := .tuple #[.agg #[.int .i64 0, .slice none 0 0, .slice none 0 0, .slice none 0 0], .int .i64 2]) (by simp [results, Try.results18, go_sem]) rfl ⟨rfl, HB.out _⟩
theorem newr_yes (w : World) (most : Int) (h : 1 ≤ most ∧ most ≤ 1048576) : Calls Try.prog 18 #[.int .i64 most] w fun e w' => e = .returned (.tuple #[.agg #[.int .i64 most, .slice none 0 0, .slice none 0 0, .slice none 0 0], .int .i64 0]) ∧ Below w.heap.size w w' := by
  have hbel := (Below.refl w.heap.size w).alloc (Nat.le_refl _)
  have HB := Lib.hid hbel; clear hbel
  obtain ⟨h1, h2⟩ := h
  go_enter Try.func18, Try.ntmps18
  go_wp2_with fail
  exact bodyPost_ret (v := .tuple #[.agg #[.int .i64 most, .slice none 0 0, .slice none 0 0, .slice none 0 0], .int .i64 0]) (by simp [results, Try.results18, go_sem]) rfl ⟨rfl, HB.out _⟩

def BPr (w : World) (r : Ending) (e : Ending) (w' : World) : Prop := e = r ∧ Below w.heap.size w w'

theorem atr_any (w : World) (most : Int) (gv tv fv : Value) (gens : List Int) (taken : List Bool) (free : List Int) (n : Int) (h : RfV w 0 gv tv fv gens taken free) (hl : taken.length = gens.length) :
    Calls Try.prog 26 #[.agg #[.int .i64 most, gv, tv, fv], .int .i64 n] w (BPr w (RefE (atR gens taken n))) := by
  have hlen := own_len_le h.hg
  have hbel := fun (a b : Obj) => ((Below.refl w.heap.size w).alloc (Nat.le_refl _) a).alloc (by simp) b
  have HB := Lib.hid hbel; clear hbel
  obtain ⟨qf, cf, rfl, _, _⟩ := own_view h.hf
  have hlt2 := own_len_le h.ht
  rw [hl] at hlt2
  by_cases h1 : n < 0
  · have HA := Lib.hid (show atR gens taken n = (0, 0, 9) from if_neg (by omega))
    obtain ⟨qg, cg, rfl, _, _⟩ := own_view h.hg
    obtain ⟨qt, ct, rfl, _, _⟩ := own_view h.ht
    clear h hl
    go_enter Try.func26, Try.ntmps26
    go_wp2_with fail
    exact bodyPost_ret (v := .tuple #[.agg #[.int .i64 0, .int .i64 0], .int .i64 9]) (by simp [results, Try.results26, go_sem]) rfl ⟨by rw [HA.out]; rfl, HB.out _ _⟩
  · obtain ⟨k, rfl⟩ := Int.eq_ofNat_of_zero_le (show 0 ≤ n by omega)
    by_cases h2 : gens.length ≤ k
    · have HA := Lib.hid (show atR gens taken k = (0, 0, 9) from if_neg (by omega))
      obtain ⟨qg, cg, rfl, _, _⟩ := own_view h.hg
      obtain ⟨qt, ct, rfl, _, _⟩ := own_view h.ht
      clear h hl
      go_enter Try.func26, Try.ntmps26
      go_wp2_with fail
      exact bodyPost_ret (v := .tuple #[.agg #[.int .i64 0, .int .i64 0], .int .i64 9]) (by simp [results, Try.results26, go_sem]) rfl ⟨by rw [HA.out]; rfl, HB.out _ _⟩
    · obtain ⟨g, cg, rfl, _, _, hgl⟩ := own_some h.hg (by omega)
      obtain ⟨t, ct, rfl, _, _, htl⟩ := own_some h.ht (by omega)
      have cg0 := own_int h.hg k (by omega)
      have ct0 := own_boolc h.ht k (by omega)
      cases h3 : taken.getD k false with
      | false =>
        have HA := Lib.hid (show atR gens taken k = (0, 0, 9) from if_neg (by rw [Int.toNat_natCast, h3]; simp))
        rw [h3] at ct0
        generalize gens.getD k 0 = v at *
        clear h h3
        rw [hl]
        have htk : (k : Int) < gens.length := by omega
        clear hl
        go_enter Try.func26, Try.ntmps26
        go_wp2_with fail
        exact bodyPost_ret (v := .tuple #[.agg #[.int .i64 0, .int .i64 0], .int .i64 9]) (by simp [results, Try.results26, go_sem]) rfl ⟨by rw [HA.out]; rfl, HB.out _ _⟩
      | true =>
        have HA := Lib.hid (show atR gens taken k = ((k : Int), gens.getD k 0, 0) from by
          unfold atR
          rw [Int.toNat_natCast]
          exact if_pos ⟨by omega, by omega, h3⟩)
        rw [h3] at ct0
        generalize gens.getD k 0 = v at *
        clear h h3
        rw [hl]
        have htk : (k : Int) < gens.length := by omega
        clear hl
        go_enter Try.func26, Try.ntmps26
        go_wp2_with fail
        exact bodyPost_ret (v := .tuple #[.agg #[.int .i64 k, .int .i64 v], .int .i64 0]) (by simp [results, Try.results26, go_sem]) rfl ⟨by rw [HA.out]; rfl, HB.out _ _⟩

theorem hasr_any (w : World) (most : Int) (gv tv fv : Value) (gens : List Int) (taken : List Bool) (free : List Int) (n g : Int) (h : RfV w 0 gv tv fv gens taken free) (hl : taken.length = gens.length) :
    Calls Try.prog 28 #[.agg #[.int .i64 most, gv, tv, fv], .agg #[.int .i64 n, .int .i64 g]] w (BPr w (.returned (.bool (hasR gens taken n g)))) := by
  have HH := Lib.hid (show hasR gens taken n g = ((atR gens taken n).2.2 == 0 && ((atR gens taken n).1 == n && (atR gens taken n).2.1 == g)) from rfl)
  obtain ⟨qg, cg, rfl, _, _⟩ := own_view h.hg
  obtain ⟨qt, ct, rfl, _, _⟩ := own_view h.ht
  obtain ⟨qf, cf, rfl, _, _⟩ := own_view h.hf
  have H := Lib.hid h; clear h
  have HL := Lib.hid hl; clear hl
  go_enter Try.func28, Try.ntmps28
  go_wp2_with fail
  have hb0 := ((Below.refl w.heap.size w).alloc (Nat.le_refl _) (.cells #[.int .i64 most, .slice qg gens.length cg, .slice qt taken.length ct, .slice qf free.length cf] 48)).alloc (by simp) (.cells #[.int .i64 n, .int .i64 g] 30)
  refine (atr_any _ most _ _ _ gens taken free n (H.out.later hb0) HL.out).mono ?_
  rintro e w1 ⟨rfl, hb⟩
  unfold RefE
  have hsz := hb.size
  simp only [World.size_alloc] at hsz
  have hlt : w.heap.size < w1.heap.size := by omega
  have hlt1 : w.heap.size + 1 < w1.heap.size := by omega
  have d0 : w1.cell? ⟨w.heap.size + 1, 0, none⟩ = some (.int .i64 n) := (hb.cell (p := ⟨w.heap.size + 1, 0, none⟩) (by simp)).trans (by go_simp)
  have d1 : w1.cell? ⟨w.heap.size + 1, 1, none⟩ = some (.int .i64 g) := (hb.cell (p := ⟨w.heap.size + 1, 1, none⟩) (by simp)).trans (by go_simp)
  have hB := Lib.hid (hb0.trans (hb.mono (by simp; omega)))
  clear hb hb0 hsz
  generalize atR gens taken n = r at *
  obtain ⟨r1, r2, r3⟩ := r
  by_cases h3 : r3 = 0
  · subst h3
    go_wp2_with fail
    all_goals
      go_ret
      refine ⟨?_, (hB.out.alloc (by omega) _)⟩
      rw [HH.out]
      clear hB HH H HL d0 d1
      simp_all
  · have h3' : (r3 == 0) = false := by simp [h3]
    clear h3
    go_wp2_with fail
    go_ret
    refine ⟨?_, (hB.out.alloc (by omega) _)⟩
    rw [HH.out, h3']
    rfl
end Go.Proofs.Ytiiiciehilfmfaa
