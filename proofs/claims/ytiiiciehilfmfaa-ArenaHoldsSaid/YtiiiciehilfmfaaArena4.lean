/- Contracts of package arena: New, Len, Made, Free. -/
import Derived.Test.YtiiiciehilfmfaaArena3
import Derived.Deep.RegionLaw
namespace Go.Proofs.Ytiiiciehilfmfaa
open Go.RowKit

theorem new_no (w : World) (most : Int) (h : most < 1 ∨ 1048576 < most) : Calls Try.prog 9 #[.int .i64 most] w fun e w' => e = .returned (.tuple #[.pointer none, .int .i64 2]) ∧ w = w' := by
  rcases h with h | h
  · go_enter Try.func9, Try.ntmps9
    go_wp2
    go_ret2
    exact ⟨rfl, rfl⟩
  · have h' : ¬ most < 1 := by omega
    go_enter Try.func9, Try.ntmps9
    go_wp2
    go_ret2
    exact ⟨rfl, rfl⟩

def NewPost (w : World) (most : Int) (e : Ending) (w' : World) : Prop :=
  e = .returned (.tuple #[.pointer (some ⟨w.heap.size, 0, none⟩), .int .i64 0]) ∧ w' = w.alloc (.cells #[.int .i64 most, .slice none 0 0, .slice none 0 0] 55)
theorem new_yes (w : World) (most : Int) (h : 1 ≤ most ∧ most ≤ 1048576) : Calls Try.prog 9 #[.int .i64 most] w (NewPost w most) := by
  obtain ⟨h1, h2⟩ := h
  go_enter Try.func9, Try.ntmps9
  go_wp2
  go_ret2
  exact ⟨rfl, rfl⟩
theorem new_at (w : World) (most : Int) : ArAt (w.alloc (.cells #[.int .i64 most, .slice none 0 0, .slice none 0 0] 55)) w.heap.size (.slice none 0 0) (.slice none 0 0) most [] [] :=
  ⟨heap_alloc_new _ _, World.ownsRow_nil _ _ _ _, World.ownsRow_nil _ _ _ _, (fun e => by cases e), (fun e => by cases e), .inl rfl⟩

theorem len_any (w : World) (p : Nat) (gv fv : Value) (most : Int) (gens free : List Int) (hm : most ≠ 0) (h : ArAt w p gv fv most gens free) :
    Calls Try.prog 11 #[.pointer (some ⟨p, 0, none⟩)] w fun e w' => e = .returned (.int .i64 (gens.length - free.length)) ∧ Below w.heap.size w w' := by
  have hz : (most == 0) = false := by simp [hm]
  have hp := lt_of_block h.hp
  have c0 : w.cell? ⟨p, 0, none⟩ = some (.int .i64 most) := cell_of_row _ _ _ _ _ _ h.hp
  have c1 : w.cell? ⟨p, 1, none⟩ = some gv := cell_of_row _ _ _ _ _ _ h.hp
  have c2 : w.cell? ⟨p, 2, none⟩ = some fv := cell_of_row _ _ _ _ _ _ h.hp
  have hlen := own_len_le h.hg
  have hlen2 := own_len_le h.hf
  obtain ⟨q, cap, rfl, hc1, hc2⟩ := own_view h.hg
  obtain ⟨q2, cap2, rfl, hd1, hd2⟩ := own_view h.hf
  clear h hm
  go_enter Try.func11, Try.ntmps11
  go_wp2_with fail
  refine (zero_at _ p most (by go_simp)).mono ?_
  rintro e w' ⟨rfl, rfl⟩
  go_wp2_with fail
  go_region
  go_wp2_with fail
  go_ret
  exact ⟨rfl, (Below.refl _ _).drew⟩
theorem len_none (w : World) : Calls Try.prog 11 #[.pointer none] w fun e w' => e = .returned (.int .i64 0) ∧ w = w' := by
  go_enter Try.func11, Try.ntmps11
  go_wp2_with fail
  refine (zero_nil _).mono ?_
  rintro e w' ⟨rfl, rfl⟩
  go_wp2_with fail
  go_ret
  exact ⟨rfl, rfl⟩
theorem len_zero (w : World) (p : Nat) (c0 : w.cell? ⟨p, 0, none⟩ = some (.int .i64 0)) : Calls Try.prog 11 #[.pointer (some ⟨p, 0, none⟩)] w fun e w' => e = .returned (.int .i64 0) ∧ w = w' := by
  go_enter Try.func11, Try.ntmps11
  go_wp2_with fail
  refine (zero_at _ p 0 c0).mono ?_
  rintro e w' ⟨rfl, rfl⟩
  go_wp2_with fail
  go_ret
  exact ⟨rfl, rfl⟩

theorem made_any (w : World) (p : Nat) (gv fv : Value) (most : Int) (gens free : List Int) (hm : most ≠ 0) (h : ArAt w p gv fv most gens free) :
    Calls Try.prog 12 #[.pointer (some ⟨p, 0, none⟩)] w fun e w' => e = .returned (.int .i64 gens.length) ∧ w = w' := by
  have hz : (most == 0) = false := by simp [hm]
  have hp := lt_of_block h.hp
  have c0 : w.cell? ⟨p, 0, none⟩ = some (.int .i64 most) := cell_of_row _ _ _ _ _ _ h.hp
  have c1 : w.cell? ⟨p, 1, none⟩ = some gv := cell_of_row _ _ _ _ _ _ h.hp
  have hlen := own_len_le h.hg
  obtain ⟨q, cap, rfl, hc1, hc2⟩ := own_view h.hg
  clear h hm
  go_enter Try.func12, Try.ntmps12
  go_wp2_with fail
  refine (zero_at _ p most c0).mono ?_
  rintro e w' ⟨rfl, rfl⟩
  go_wp2_with fail
  go_ret
  exact ⟨rfl, rfl⟩
theorem made_none (w : World) : Calls Try.prog 12 #[.pointer none] w fun e w' => e = .returned (.int .i64 0) ∧ w = w' := by
  go_enter Try.func12, Try.ntmps12
  go_wp2_with fail
  refine (zero_nil _).mono ?_
  rintro e w' ⟨rfl, rfl⟩
  go_wp2_with fail
  go_ret
  exact ⟨rfl, rfl⟩
theorem made_zero (w : World) (p : Nat) (c0 : w.cell? ⟨p, 0, none⟩ = some (.int .i64 0)) : Calls Try.prog 12 #[.pointer (some ⟨p, 0, none⟩)] w fun e w' => e = .returned (.int .i64 0) ∧ w = w' := by
  go_enter Try.func12, Try.ntmps12
  go_wp2_with fail
  refine (zero_at _ p 0 c0).mono ?_
  rintro e w' ⟨rfl, rfl⟩
  go_wp2_with fail
  go_ret
  exact ⟨rfl, rfl⟩

theorem has_none (w : World) (n g : Int) :
    Calls Try.prog 17 #[.pointer none, .agg #[.int .i64 n, .int .i64 g]] w fun e w' => e = .returned (.bool false) ∧ Below w.heap.size w w' := by
  go_enter Try.func17, Try.ntmps17
  go_wp2_with fail
  refine (at_none _ n).mono ?_
  rintro e w1 ⟨rfl, hb⟩
  unfold RefE
  have hB := Lib.hid (((Below.refl w.heap.size w).alloc (Nat.le_refl _) _).trans (hb.mono (by simp)))
  have hsz := hb.size
  simp only [World.size_alloc] at hsz
  clear hb
  go_wp2_with fail
  go_ret
  exact ⟨rfl, (hB.out.alloc (by omega) _)⟩
theorem has_zero (w : World) (p : Nat) (n g : Int) (c0 : w.cell? ⟨p, 0, none⟩ = some (.int .i64 0)) :
    Calls Try.prog 17 #[.pointer (some ⟨p, 0, none⟩), .agg #[.int .i64 n, .int .i64 g]] w fun e w' => e = .returned (.bool false) ∧ Below w.heap.size w w' := by
  have hp := block_lt_of_cell c0
  go_enter Try.func17, Try.ntmps17
  go_wp2_with fail
  refine (at_zero _ p n (by go_simp)).mono ?_
  rintro e w1 ⟨rfl, hb⟩
  unfold RefE
  have hB := Lib.hid (((Below.refl w.heap.size w).alloc (Nat.le_refl _) _).trans (hb.mono (by simp)))
  have hsz := hb.size
  simp only [World.size_alloc] at hsz
  clear hb
  go_wp2_with fail
  go_ret
  exact ⟨rfl, (hB.out.alloc (by omega) _)⟩

theorem free_none (w : World) (n g : Int) :
    Calls Try.prog 13 #[.pointer none, .agg #[.int .i64 n, .int .i64 g]] w fun e w' => e = .returned (.int .i64 1) ∧ Below w.heap.size w w' := by
  go_enter Try.func13, Try.ntmps13
  go_wp2_with fail
  refine (zero_nil _).mono ?_
  rintro e w1 ⟨rfl, rfl⟩
  go_wp2_with fail
  go_ret
  exact ⟨rfl, (Below.refl _ _).alloc (Nat.le_refl _) _⟩
theorem free_zero (w : World) (p : Nat) (n g : Int) (c0 : w.cell? ⟨p, 0, none⟩ = some (.int .i64 0)) :
    Calls Try.prog 13 #[.pointer (some ⟨p, 0, none⟩), .agg #[.int .i64 n, .int .i64 g]] w fun e w' => e = .returned (.int .i64 1) ∧ Below w.heap.size w w' := by
  have hp := block_lt_of_cell c0
  go_enter Try.func13, Try.ntmps13
  go_wp2_with fail
  refine (zero_at _ p 0 (by go_simp)).mono ?_
  rintro e w1 ⟨rfl, rfl⟩
  go_wp2_with fail
  go_ret
  exact ⟨rfl, (Below.refl _ _).alloc (Nat.le_refl _) _⟩

theorem free_no (w : World) (p : Nat) (gv fv : Value) (most : Int) (gens free : List Int) (n g : Int) (hm : most ≠ 0) (h : ArAt w p gv fv most gens free) (hh : hasA gens n g = false) :
    Calls Try.prog 13 #[.pointer (some ⟨p, 0, none⟩), .agg #[.int .i64 n, .int .i64 g]] w fun e w' => e = .returned (.int .i64 9) ∧ Below w.heap.size w w' := by
  have hz : (most == 0) = false := by simp [hm]
  have hp := lt_of_block h.hp
  have c0 : w.cell? ⟨p, 0, none⟩ = some (.int .i64 most) := cell_of_row _ _ _ _ _ _ h.hp
  go_enter Try.func13, Try.ntmps13
  go_wp2_with fail
  refine (zero_at _ p most (by go_simp)).mono ?_
  rintro e w1 ⟨rfl, rfl⟩
  clear c0
  go_wp2_with fail
  refine (has_any _ p gv fv most gens free n g hm (h.alloc _)).mono ?_
  rintro e w1 ⟨rfl, hb⟩
  rw [hh]
  have hB := Lib.hid (((Below.refl w.heap.size w).alloc (Nat.le_refl _) (.cells #[.int .i64 n, .int .i64 g] 30)).trans (hb.mono (by simp)))
  clear hb h hh hm
  go_wp2_with fail
  go_ret
  exact ⟨rfl, hB.out⟩
end Go.Proofs.Ytiiiciehilfmfaa
