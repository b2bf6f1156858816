/- The example of the chapter: known. -/
import Derived.Test.YtiiiciehilfmfaaLaw09
namespace Go.Proofs.Ytiiiciehilfmfaa
open Go.RowKit

abbrev R0 : Obj := .cells #[.int .i64 0, .int .i64 0] 30
abbrev R1 : Obj := .cells #[.int .i64 0, .int .i64 1] 30

/-- A literal list of one reference. -/
theorem rd_lit (w : World) (a b : Int) (c : Nat) : RdRefs (w.alloc (.cells #[.int .i64 a, .int .i64 b] 30)) (.slice (some ⟨w.heap.size, 0, none⟩) 1 c) [(a, b)] := by
  refine ⟨_, c, rfl, by simp, fun j hj => ⟨w.heap.size, rfl, by simp, ?_⟩⟩
  have : j = 0 := by simpa using hj
  subst this
  exact ⟨cell_alloc_new _ _ _ _ _, cell_alloc_new _ _ _ _ _⟩

set_option maxHeartbeats 2000000 in
theorem known_any (w : World) : Calls Try.prog 8 #[] w fun e w' => e = .returned (.bool true) ∧ Below w.heap.size w w' := by
  go_enter Try.func8, Try.ntmps8
  go_wp2_with fail
  refine (new_yes _ 2 (by omega)).mono ?_
  rintro e w1 ⟨rfl, rfl⟩
  have k0 := (KA.new 2 (Below.refl _ w)).local R0
  simp only [World.size_alloc] at k0
  have K := Lib.hid k0; clear k0
  go_wp2_with fail
  refine (takes_true (A' := ⟨2, [1], []⟩) K.out (ok_of _ (by decide)) rfl).mono ?_
  rintro e w1 ⟨rfl, k1⟩
  clear K
  have K := Lib.hid k1
  obtain ⟨a0, a1⟩ := k1.pair (b := w.heap.size + 1) (List.mem_cons_self ..)
  clear k1
  go_wp2_with fail
  refine (takes_true (A' := ⟨2, [1, 1], []⟩) K.out (ok_of _ (by decide)) rfl).mono ?_
  rintro e w1 ⟨rfl, k1⟩
  clear K
  have K := Lib.hid k1
  clear a0 a1
  obtain ⟨a0, a1⟩ := k1.pair (b := w.heap.size + 1) (List.mem_cons_self ..)
  clear k1
  go_wp2_with fail
  refine (takes_true (A' := ⟨2, [1, 1], []⟩) K.out (ok_of _ (by decide)) rfl).mono ?_
  rintro e w1 ⟨rfl, k1⟩
  clear K
  have K := Lib.hid k1
  clear a0 a1
  obtain ⟨a0, a1⟩ := k1.pair (b := w.heap.size + 1) (List.mem_cons_self ..)
  clear k1
  go_wp2_with fail
  refine (len_K K.out (by decide)).mono ?_
  rintro e w1 ⟨rfl, k1⟩
  clear K
  have K := Lib.hid k1
  clear a0 a1
  obtain ⟨a0, a1⟩ := k1.pair (b := w.heap.size + 1) (List.mem_cons_self ..)
  clear k1
  go_wp2_with fail
  refine (made_K K.out (by decide)).mono ?_
  rintro e w1 ⟨rfl, k1⟩
  clear K
  have K := Lib.hid k1
  clear a0 a1
  obtain ⟨a0, a1⟩ := k1.pair (b := w.heap.size + 1) (List.mem_cons_self ..)
  clear k1
  have k2 := K.out.local R1
  obtain ⟨bb, hbb⟩ : ∃ bb, bb = w1.heap.size := ⟨_, rfl⟩
  rw [← hbb] at k2
  clear K
  have K := Lib.hid k2; clear k2
  have HBB := Lib.hid hbb; clear hbb
  go_wp2_with fail
  rw [← HBB.out]
  refine (rel_true (A' := ⟨2, [-2, 1], [0]⟩) K.out (ok_of _ (by decide)) rfl).mono ?_
  rintro e w1 ⟨rfl, k1⟩
  clear K
  have K := Lib.hid k1
  clear a0 a1
  obtain ⟨a0, a1⟩ := k1.pair (b := w.heap.size + 1) (List.mem_cons_of_mem _ (List.mem_cons_self ..))
  obtain ⟨b0, b1⟩ := k1.pair (b := bb) (List.mem_cons_self ..)
  clear k1
  go_wp2_with fail
  refine (rel_true (A' := ⟨2, [-2, 1], [0]⟩) K.out (ok_of _ (by decide)) rfl).mono ?_
  rintro e w1 ⟨rfl, k1⟩
  clear K
  have K := Lib.hid k1
  clear a0 a1
  obtain ⟨a0, a1⟩ := k1.pair (b := w.heap.size + 1) (List.mem_cons_of_mem _ (List.mem_cons_self ..))
  clear b0 b1
  obtain ⟨b0, b1⟩ := k1.pair (b := bb) (List.mem_cons_self ..)
  clear k1
  go_wp2_with fail
  refine (has_true (b := false) K.out (by decide) rfl).mono ?_
  rintro e w1 ⟨rfl, k1⟩
  clear K
  have K := Lib.hid k1
  clear a0 a1
  obtain ⟨a0, a1⟩ := k1.pair (b := w.heap.size + 1) (List.mem_cons_of_mem _ (List.mem_cons_self ..))
  clear b0 b1
  obtain ⟨b0, b1⟩ := k1.pair (b := bb) (List.mem_cons_self ..)
  clear k1
  go_wp2_with fail
  refine (ats_true K.out (by decide) rfl).mono ?_
  rintro e w1 ⟨rfl, k1⟩
  clear K
  have K := Lib.hid k1
  clear a0 a1
  obtain ⟨a0, a1⟩ := k1.pair (b := w.heap.size + 1) (List.mem_cons_of_mem _ (List.mem_cons_self ..))
  clear b0 b1
  obtain ⟨b0, b1⟩ := k1.pair (b := bb) (List.mem_cons_self ..)
  clear k1
  go_wp2_with fail
  refine (ats_true K.out (by decide) rfl).mono ?_
  rintro e w1 ⟨rfl, k1⟩
  clear K
  have K := Lib.hid k1
  clear a0 a1
  obtain ⟨a0, a1⟩ := k1.pair (b := w.heap.size + 1) (List.mem_cons_of_mem _ (List.mem_cons_self ..))
  clear b0 b1
  obtain ⟨b0, b1⟩ := k1.pair (b := bb) (List.mem_cons_self ..)
  clear k1
  go_wp2_with fail
  refine (refs_K K.out (by decide) (by decide)).mono ?_
  rintro e w1 ⟨v, rfl, hv, k1⟩
  clear K
  have K := Lib.hid k1
  clear a0 a1
  obtain ⟨a0, a1⟩ := k1.pair (b := w.heap.size + 1) (List.mem_cons_of_mem _ (List.mem_cons_self ..))
  clear b0 b1
  obtain ⟨b0, b1⟩ := k1.pair (b := bb) (List.mem_cons_self ..)
  clear k1
  have hr : refsUpto [-2, 1] 2 = [(1, 1)] := by decide
  simp only [List.length_cons, List.length_nil, Nat.zero_add, Nat.reduceAdd] at hv
  rw [hr] at hv
  obtain ⟨q, cap, rfl, hv1, _⟩ := hv
  have HV := Lib.hid ((RdRefs.of_own hv1).later ((Below.refl _ _).alloc (Nat.le_refl _) (.cells #[.int .i64 1, .int .i64 1] 30)))
  have HW := Lib.hid (rd_lit w1 1 1 1)
  clear hv1 hr
  have k2 := Lib.hid (K.out.alloc (.cells #[.int .i64 1, .int .i64 1] 30))
  clear K
  have K := k2; clear k2
  go_wp2_with fail
  refine (same_any _ _ _ [(1, 1)] [(1, 1)] HV.out HW.out).mono ?_
  rintro e w2 ⟨rfl, hb⟩
  have k1 := K.out.later hb
  clear K hb a0 a1 b0 b1
  have K := Lib.hid k1
  obtain ⟨a0, a1⟩ := k1.pair (b := w.heap.size + 1) (List.mem_cons_of_mem _ (List.mem_cons_self ..))
  obtain ⟨b0, b1⟩ := k1.pair (b := bb) (List.mem_cons_self ..)
  clear k1
  go_wp2_with fail
  refine (takes_true (A' := ⟨2, [2, 1], []⟩) K.out (ok_of _ (by decide)) rfl).mono ?_
  rintro e w1 ⟨rfl, k1⟩
  clear K
  have K := Lib.hid k1
  clear a0 a1
  obtain ⟨a0, a1⟩ := k1.pair (b := w.heap.size + 1) (List.mem_cons_of_mem _ (List.mem_cons_self ..))
  clear b0 b1
  obtain ⟨b0, b1⟩ := k1.pair (b := bb) (List.mem_cons_self ..)
  clear k1
  go_wp2_with fail
  refine (has_true (b := false) K.out (by decide) rfl).mono ?_
  rintro e w1 ⟨rfl, k1⟩
  clear K
  have K := Lib.hid k1
  clear a0 a1
  obtain ⟨a0, a1⟩ := k1.pair (b := w.heap.size + 1) (List.mem_cons_of_mem _ (List.mem_cons_self ..))
  clear b0 b1
  obtain ⟨b0, b1⟩ := k1.pair (b := bb) (List.mem_cons_self ..)
  clear k1
  go_wp2_with fail
  refine (has_true (b := true) K.out (by decide) rfl).mono ?_
  rintro e w1 ⟨rfl, k1⟩
  clear K
  have K := Lib.hid k1
  clear a0 a1
  obtain ⟨a0, a1⟩ := k1.pair (b := w.heap.size + 1) (List.mem_cons_of_mem _ (List.mem_cons_self ..))
  clear b0 b1
  obtain ⟨b0, b1⟩ := k1.pair (b := bb) (List.mem_cons_self ..)
  clear k1
  go_wp2_with fail
  refine (rel_true (A' := ⟨2, [2, -2], [1]⟩) K.out (ok_of _ (by decide)) rfl).mono ?_
  rintro e w1 ⟨rfl, k1⟩
  clear K
  have K := Lib.hid k1
  clear a0 a1
  obtain ⟨a0, a1⟩ := k1.pair (b := w.heap.size + 1) (List.mem_cons_of_mem _ (List.mem_cons_self ..))
  clear b0 b1
  obtain ⟨b0, b1⟩ := k1.pair (b := bb) (List.mem_cons_self ..)
  clear k1
  go_wp2_with fail
  refine (rel_true (A' := ⟨2, [-3, -2], [1, 0]⟩) K.out (ok_of _ (by decide)) rfl).mono ?_
  rintro e w1 ⟨rfl, k1⟩
  clear K
  have K := Lib.hid k1
  clear a0 a1
  obtain ⟨a0, a1⟩ := k1.pair (b := w.heap.size + 1) (List.mem_cons_of_mem _ (List.mem_cons_self ..))
  clear b0 b1
  obtain ⟨b0, b1⟩ := k1.pair (b := bb) (List.mem_cons_self ..)
  clear k1
  go_wp2_with fail
  refine (takes_true (A' := ⟨2, [3, -2], [1]⟩) K.out (ok_of _ (by decide)) rfl).mono ?_
  rintro e w1 ⟨rfl, k1⟩
  clear K
  have K := Lib.hid k1
  clear a0 a1
  obtain ⟨a0, a1⟩ := k1.pair (b := w.heap.size + 1) (List.mem_cons_of_mem _ (List.mem_cons_self ..))
  clear b0 b1
  obtain ⟨b0, b1⟩ := k1.pair (b := bb) (List.mem_cons_self ..)
  clear k1
  go_wp2_with fail
  refine (takes_true (A' := ⟨2, [3, 2], []⟩) K.out (ok_of _ (by decide)) rfl).mono ?_
  rintro e w1 ⟨rfl, k1⟩
  clear K
  have K := Lib.hid k1
  clear a0 a1
  obtain ⟨a0, a1⟩ := k1.pair (b := w.heap.size + 1) (List.mem_cons_of_mem _ (List.mem_cons_self ..))
  clear b0 b1
  obtain ⟨b0, b1⟩ := k1.pair (b := bb) (List.mem_cons_self ..)
  clear k1
  go_wp2_with fail
  refine (new_no _ 0 (by omega)).mono ?_
  rintro e w2 ⟨rfl, rfl⟩
  go_wp2_with fail
  refine (new_no _ 1048577 (by omega)).mono ?_
  rintro e w2 ⟨rfl, rfl⟩
  go_wp2_with fail
  refine (ats_true K.out (by decide) rfl).mono ?_
  rintro e w1 ⟨rfl, k1⟩
  clear K
  have K := Lib.hid k1
  clear k1
  go_wp2_with fail
  go_ret
  exact ⟨rfl, K.out.below⟩
end Go.Proofs.Ytiiiciehilfmfaa
