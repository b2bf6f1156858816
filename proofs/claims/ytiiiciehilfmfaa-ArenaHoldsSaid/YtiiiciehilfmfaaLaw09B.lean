/- ArenaLast and ArenaNil. -/
import Derived.Test.YtiiiciehilfmfaaKnown09
namespace Go.Proofs.Ytiiiciehilfmfaa
open Go.RowKit

def Law (B : Nat) (w : World) (e : Ending) (w' : World) : Prop := e = .returned (.bool true) ∧ Below B w w'

theorem lLast (x : Int) (w : World) : Calls Try.prog 4 #[.int .i64 x] w (Law w.heap.size w) := by
  by_cases h1 : x < -2
  · go_enter Try.func4, Try.ntmps4
    go_wp2_with fail
    refine (known_any _).mono ?_
    rintro e w' ⟨rfl, hb⟩
    go_wp2_with fail
    go_ret
    exact ⟨rfl, hb⟩
  by_cases h2 : 2 < x
  · go_enter Try.func4, Try.ntmps4
    go_wp2_with fail
    refine (known_any _).mono ?_
    rintro e w' ⟨rfl, hb⟩
    go_wp2_with fail
    go_ret
    exact ⟨rfl, hb⟩
  by_cases h3 : x < 0
  · go_enter Try.func4, Try.ntmps4
    go_wp2_with fail
    refine (new_no _ _ (by omega)).mono ?_
    rintro e w' ⟨rfl, rfl⟩
    go_wp2_with fail
    refine (known_any _).mono ?_
    rintro e w' ⟨rfl, hb⟩
    go_wp2_with fail
    go_ret
    exact ⟨rfl, hb⟩
  · go_enter Try.func4, Try.ntmps4
    go_wp2_with fail
    refine (new_yes _ (1048576 - x) (by omega)).mono ?_
    rintro e w1 ⟨rfl, rfl⟩
    have K := Lib.hid (KA.new (1048576 - x) (Below.refl _ w))
    have HT := Lib.hid (show AA.take ⟨1048576 - x, [], []⟩ = ((0, 1, 0), ⟨1048576 - x, [1], []⟩) from by
      have : ¬ (1048576 - x ≤ 0) := by omega
      simp [AA.take, this])
    have HO := Lib.hid (ok_of ⟨1048576 - x, [], []⟩ ⟨by simp; omega, by simp; omega, by simp, by simp, by simp, by simp⟩)
    have HM := Lib.hid (show (⟨1048576 - x, [1], []⟩ : AA).most ≠ 0 from by simp; omega)
    go_wp2_with fail
    refine (takes_true K.out HO.out HT.out).mono ?_
    rintro e w1 ⟨rfl, k1⟩
    clear K
    have K := Lib.hid k1; clear k1
    go_wp2_with fail
    refine (ats_true K.out HM.out (show atA [1] 1048575 = (0, 0, 9) from rfl)).mono ?_
    rintro e w1 ⟨rfl, k1⟩
    clear K
    have hb0 := k1.below; clear k1
    have HB := Lib.hid hb0; clear hb0
    go_wp2_with fail
    refine (known_any _).mono ?_
    rintro e w' ⟨rfl, hb⟩
    go_wp2_with fail
    go_ret
    exact ⟨rfl, HB.out.trans (hb.mono HB.out.size)⟩

/-- No arena, or a zero one. -/
def Zr (w : World) (a : Value) : Prop := a = .pointer none ∨ ∃ p, a = .pointer (some ⟨p, 0, none⟩) ∧ w.cell? ⟨p, 0, none⟩ = some (.int .i64 0)
theorem Zr.later {w w' : World} {a : Value} (h : Zr w a) (hb : Below w.heap.size w w') : Zr w' a := by
  rcases h with h | ⟨p, h, c⟩
  · exact .inl h
  · exact .inr ⟨p, h, (hb.cell (p := ⟨p, 0, none⟩) (block_lt_of_cell c)).trans c⟩

def BP (w : World) (r : Ending) (e : Ending) (w' : World) : Prop := e = r ∧ Below w.heap.size w w'

theorem take_none (w : World) : Calls Try.prog 15 #[.pointer none] w (BP w (RefE (0, 0, 1))) := by
  go_enter Try.func15, Try.ntmps15
  go_wp2_with fail
  refine (zero_nil _).mono ?_
  rintro e w' ⟨rfl, rfl⟩
  go_wp2_with fail
  exact bodyPost_ret (v := .tuple #[.agg #[.int .i64 0, .int .i64 0], .int .i64 1]) (by simp [results, Try.results15, go_sem]) rfl ⟨rfl, (Below.refl _ _).alloc (Nat.le_refl _) _⟩
theorem take_zero (w : World) (p : Nat) (c0 : w.cell? ⟨p, 0, none⟩ = some (.int .i64 0)) : Calls Try.prog 15 #[.pointer (some ⟨p, 0, none⟩)] w (BP w (RefE (0, 0, 1))) := by
  have hp := block_lt_of_cell c0
  go_enter Try.func15, Try.ntmps15
  go_wp2_with fail
  refine (zero_at _ p 0 (by go_simp)).mono ?_
  rintro e w' ⟨rfl, rfl⟩
  go_wp2_with fail
  exact bodyPost_ret (v := .tuple #[.agg #[.int .i64 0, .int .i64 0], .int .i64 1]) (by simp [results, Try.results15, go_sem]) rfl ⟨rfl, (Below.refl _ _).alloc (Nat.le_refl _) _⟩

section
variable {w : World} {a : Value}
theorem take_Z (h : Zr w a) : Calls Try.prog 15 #[a] w (BP w (RefE (0, 0, 1))) := by
  rcases h with rfl | ⟨p, rfl, c⟩
  · exact take_none w
  · exact take_zero w p c
theorem at_Z (h : Zr w a) (n : Int) : Calls Try.prog 16 #[a, .int .i64 n] w (BP w (RefE (0, 0, 1))) := by
  rcases h with rfl | ⟨p, rfl, c⟩
  · exact at_none w n
  · exact at_zero w p n c
theorem has_Z (h : Zr w a) (n g : Int) : Calls Try.prog 17 #[a, .agg #[.int .i64 n, .int .i64 g]] w (BP w (.returned (.bool false))) := by
  rcases h with rfl | ⟨p, rfl, c⟩
  · exact has_none w n g
  · exact has_zero w p n g c
theorem rel_Z (h : Zr w a) (n g : Int) : Calls Try.prog 13 #[a, .agg #[.int .i64 n, .int .i64 g]] w (BP w (.returned (.int .i64 1))) := by
  rcases h with rfl | ⟨p, rfl, c⟩
  · exact free_none w n g
  · exact free_zero w p n g c
theorem len_Z (h : Zr w a) : Calls Try.prog 11 #[a] w (fun e w' => e = .returned (.int .i64 0) ∧ w = w') := by
  rcases h with rfl | ⟨p, rfl, c⟩
  · exact len_none w
  · exact len_zero w p c
theorem made_Z (h : Zr w a) : Calls Try.prog 12 #[a] w (fun e w' => e = .returned (.int .i64 0) ∧ w = w') := by
  rcases h with rfl | ⟨p, rfl, c⟩
  · exact made_none w
  · exact made_zero w p c
theorem refs_Z (h : Zr w a) : Calls Try.prog 21 #[a] w (fun e w' => e = .returned (.slice none 0 0) ∧ w = w') := by
  rcases h with rfl | ⟨p, rfl, c⟩
  · exact refs_none w
  · exact refs_zero w p c
theorem copy_Z (h : Zr w a) : Calls Try.prog 22 #[a] w (fun e w' => e = .returned (.pointer none) ∧ w = w') := by
  rcases h with rfl | ⟨p, rfl, c⟩
  · exact copy_none w
  · exact copy_zero w p c

theorem takes_Z (h : Zr w a) : Calls Try.prog 10 #[a, .agg #[.int .i64 0, .int .i64 0], .int .i64 1] w (BP w (.returned (.bool true))) := by
  have HZ := Lib.hid (h.later ((Below.refl _ _).alloc (Nat.le_refl _) (.cells #[.int .i64 0, .int .i64 0] 30))); clear h
  go_enter Try.func10, Try.ntmps10
  go_wp2_with fail
  refine (take_Z HZ.out).mono ?_
  rintro e w1 ⟨rfl, hb⟩
  unfold RefE
  have HB := Lib.hid hb
  obtain ⟨hc, hf⟩ := bcell hb
  have hs := hb.size
  simp only [World.size_alloc] at hs hc hf
  have a0 := hc w.heap.size 0 (by omega)
  have a1 := hc w.heap.size 1 (by omega)
  have hlt : w.heap.size < w1.heap.size := by omega
  clear hb hc hf
  go_wp2_with fail
  go_ret
  exact ⟨rfl, (((Below.refl _ _).alloc (Nat.le_refl _) _).trans (HB.out.mono (by simp))).alloc (by omega) _⟩
theorem ats_Z (h : Zr w a) (n : Int) : Calls Try.prog 14 #[a, .int .i64 n, .agg #[.int .i64 0, .int .i64 0], .int .i64 1] w (BP w (.returned (.bool true))) := by
  have HZ := Lib.hid (h.later ((Below.refl _ _).alloc (Nat.le_refl _) (.cells #[.int .i64 0, .int .i64 0] 30))); clear h
  go_enter Try.func14, Try.ntmps14
  go_wp2_with fail
  refine (at_Z HZ.out n).mono ?_
  rintro e w1 ⟨rfl, hb⟩
  unfold RefE
  have HB := Lib.hid hb
  obtain ⟨hc, hf⟩ := bcell hb
  have hs := hb.size
  simp only [World.size_alloc] at hs hc hf
  have a0 := hc w.heap.size 0 (by omega)
  have a1 := hc w.heap.size 1 (by omega)
  have hlt : w.heap.size < w1.heap.size := by omega
  clear hb hc hf
  go_wp2_with fail
  go_ret
  exact ⟨rfl, (((Below.refl _ _).alloc (Nat.le_refl _) _).trans (HB.out.mono (by simp))).alloc (by omega) _⟩
end
end Go.Proofs.Ytiiiciehilfmfaa
