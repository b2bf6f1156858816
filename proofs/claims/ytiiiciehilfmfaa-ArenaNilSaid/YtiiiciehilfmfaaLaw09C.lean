/- ArenaNil. -/
import Derived.Test.YtiiiciehilfmfaaLaw09B
namespace Go.Proofs.Ytiiiciehilfmfaa
open Go.RowKit

set_option maxHeartbeats 1000000 in
theorem lNil (n g : Int) (w : World) : Calls Try.prog 7 #[.agg #[.int .i64 n, .int .i64 g]] w (Law w.heap.size w) := by
  go_enter Try.func7, Try.ntmps7
  go_wp2_with fail
  have c0 : (((w.alloc (.cells #[.int .i64 n, .int .i64 g] 30)).alloc (.cells #[.int .i64 0, .slice none 0 0, .slice none 0 0] 55)).alloc (.cells #[.pointer none, .pointer (some ⟨w.heap.size + 1, 0, none⟩)] 23)).cell? ⟨w.heap.size, 0, none⟩ = some (.int .i64 n) := by go_simp
  have c1 : (((w.alloc (.cells #[.int .i64 n, .int .i64 g] 30)).alloc (.cells #[.int .i64 0, .slice none 0 0, .slice none 0 0] 55)).alloc (.cells #[.pointer none, .pointer (some ⟨w.heap.size + 1, 0, none⟩)] 23)).cell? ⟨w.heap.size, 1, none⟩ = some (.int .i64 g) := by go_simp
  have c2 : (((w.alloc (.cells #[.int .i64 n, .int .i64 g] 30)).alloc (.cells #[.int .i64 0, .slice none 0 0, .slice none 0 0] 55)).alloc (.cells #[.pointer none, .pointer (some ⟨w.heap.size + 1, 0, none⟩)] 23)).cell? ⟨w.heap.size + 1, 0, none⟩ = some (.int .i64 0) := by go_simp
  have c3 : (((w.alloc (.cells #[.int .i64 n, .int .i64 g] 30)).alloc (.cells #[.int .i64 0, .slice none 0 0, .slice none 0 0] 55)).alloc (.cells #[.pointer none, .pointer (some ⟨w.heap.size + 1, 0, none⟩)] 23)).cell? ⟨w.heap.size + 2, 0, none⟩ = some (.pointer none) := by go_simp
  have c4 : (((w.alloc (.cells #[.int .i64 n, .int .i64 g] 30)).alloc (.cells #[.int .i64 0, .slice none 0 0, .slice none 0 0] 55)).alloc (.cells #[.pointer none, .pointer (some ⟨w.heap.size + 1, 0, none⟩)] 23)).cell? ⟨w.heap.size + 2, 1, none⟩ = some (.pointer (some ⟨w.heap.size + 1, 0, none⟩)) := by go_simp
  have hbw : Below w.heap.size w (((w.alloc (.cells #[.int .i64 n, .int .i64 g] 30)).alloc (.cells #[.int .i64 0, .slice none 0 0, .slice none 0 0] 55)).alloc (.cells #[.pointer none, .pointer (some ⟨w.heap.size + 1, 0, none⟩)] 23)) :=
    (((Below.refl _ _).alloc (Nat.le_refl _) _).alloc (by simp) _).alloc (by simp; omega) _
  have hsz : (((w.alloc (.cells #[.int .i64 n, .int .i64 g] 30)).alloc (.cells #[.int .i64 0, .slice none 0 0, .slice none 0 0] 55)).alloc (.cells #[.pointer none, .pointer (some ⟨w.heap.size + 1, 0, none⟩)] 23)).heap.size = w.heap.size + 3 := by simp
  generalize ((w.alloc (.cells #[.int .i64 n, .int .i64 g] 30)).alloc (.cells #[.int .i64 0, .slice none 0 0, .slice none 0 0] 55)).alloc (.cells #[.pointer none, .pointer (some ⟨w.heap.size + 1, 0, none⟩)] 23) = W at *
  have HW := Lib.hid hbw; have HS := Lib.hid hsz; clear hbw hsz
  go_loopw [11] (fun i wr => ∃ k : Nat, k ≤ 2 ∧ i = .int .i64 k ∧ Below W.heap.size W wr) (fun i _ => 2 - (intOf i).toNat)
  case atStart => exact ⟨0, Nat.zero_le _, rfl, Below.refl _ _⟩
  case round =>
    obtain ⟨k, hk, rfl, hB⟩ := hrel
    have HB := Lib.hid hB
    have hs := HS.out
    have d0 : wr.cell? ⟨w.heap.size, 0, none⟩ = some (.int .i64 n) := (hB.cell (p := ⟨w.heap.size, 0, none⟩) (by show w.heap.size < _; omega)).trans c0
    have d1 : wr.cell? ⟨w.heap.size, 1, none⟩ = some (.int .i64 g) := (hB.cell (p := ⟨w.heap.size, 1, none⟩) (by show w.heap.size < _; omega)).trans c1
    have d2 : wr.cell? ⟨w.heap.size + 1, 0, none⟩ = some (.int .i64 0) := (hB.cell (p := ⟨w.heap.size + 1, 0, none⟩) (by show w.heap.size + 1 < _; omega)).trans c2
    have d3 : wr.cell? ⟨w.heap.size + 2, 0, none⟩ = some (.pointer none) := (hB.cell (p := ⟨w.heap.size + 2, 0, none⟩) (by show w.heap.size + 2 < _; omega)).trans c3
    have d4 : wr.cell? ⟨w.heap.size + 2, 1, none⟩ = some (.pointer (some ⟨w.heap.size + 1, 0, none⟩)) := (hB.cell (p := ⟨w.heap.size + 2, 1, none⟩) (by show w.heap.size + 2 < _; omega)).trans c4
    clear c0 c1 c2 c3 c4 hs hB
    by_cases h2 : k < 2
    · have hz : ∃ a, Zr wr a ∧ wr.cell? ⟨w.heap.size + 2, k, none⟩ = some a := by
        rcases (show k = 0 ∨ k = 1 by omega) with rfl | rfl
        · exact ⟨_, .inl rfl, d3⟩
        · exact ⟨_, .inr ⟨_, rfl, d2⟩, d4⟩
      obtain ⟨a, hz, d5⟩ := hz
      have hav : ∃ o, a = .pointer o := by
        rcases hz with h | ⟨_, h, _⟩
        · exact ⟨_, h⟩
        · exact ⟨_, h⟩
      obtain ⟨o, rfl⟩ := hav
      have HZ := Lib.hid hz
      clear hz d2 d3 d4
      go_wp2_with fail
      refine (takes_Z HZ.out).mono ?_
      rintro e w1 ⟨rfl, hb⟩
      have HZ1 := Lib.hid (HZ.out.later hb)
      have HB1 := Lib.hid (HB.out.trans (hb.mono HB.out.size))
      have e0 := (hb.cell (p := ⟨w.heap.size, 0, none⟩) (block_lt_of_cell d0)).trans d0
      have e1 := (hb.cell (p := ⟨w.heap.size, 1, none⟩) (block_lt_of_cell d1)).trans d1
      clear hb d0 d1 d5 HZ HB
      go_wp2_with fail
      refine (rel_Z HZ1.out n g).mono ?_
      rintro e w2 ⟨rfl, hb⟩
      have HZ2 := Lib.hid (HZ1.out.later hb)
      have HB2 := Lib.hid (HB1.out.trans (hb.mono HB1.out.size))
      have f0 := (hb.cell (p := ⟨w.heap.size, 0, none⟩) (block_lt_of_cell e0)).trans e0
      have f1 := (hb.cell (p := ⟨w.heap.size, 1, none⟩) (block_lt_of_cell e1)).trans e1
      clear hb e0 e1 HZ1 HB1
      go_wp2_with fail
      refine (has_Z HZ2.out n g).mono ?_
      rintro e w3 ⟨rfl, hb⟩
      have HZ3 := Lib.hid (HZ2.out.later hb)
      have HB3 := Lib.hid (HB2.out.trans (hb.mono HB2.out.size))
      have g0 := (hb.cell (p := ⟨w.heap.size, 0, none⟩) (block_lt_of_cell f0)).trans f0
      have g1 := (hb.cell (p := ⟨w.heap.size, 1, none⟩) (block_lt_of_cell f1)).trans f1
      clear hb f0 f1 HZ2 HB2
      go_wp2_with fail
      refine (ats_Z HZ3.out n).mono ?_
      rintro e w4 ⟨rfl, hb⟩
      have HZ4 := Lib.hid (HZ3.out.later hb)
      have HB4 := Lib.hid (HB3.out.trans (hb.mono HB3.out.size))
      clear hb g0 g1 HZ3 HB3
      go_wp2_with fail
      refine (len_Z HZ4.out).mono ?_
      rintro e w5 ⟨rfl, rfl⟩
      go_wp2_with fail
      refine (made_Z HZ4.out).mono ?_
      rintro e w5 ⟨rfl, rfl⟩
      go_wp2_with fail
      refine (refs_Z HZ4.out).mono ?_
      rintro e w5 ⟨rfl, rfl⟩
      go_wp2_with fail
      refine (copy_Z HZ4.out).mono ?_
      rintro e w5 ⟨rfl, rfl⟩
      go_wp2_with fail
      go_roundw
      case rel => exact ⟨k + 1, by omega, by go_num, HB4.out⟩
      case measure => simp [intOf]; omega
    · clear d0 d1 d2 d3 d4
      go_wp2_with fail
      refine (known_any _).mono ?_
      rintro e w' ⟨rfl, hb⟩
      go_wp2_with fail
      go_ret
      exact ⟨rfl, HW.out.trans ((HB.out.trans (hb.mono HB.out.size)).mono HW.out.size)⟩
end Go.Proofs.Ytiiiciehilfmfaa
