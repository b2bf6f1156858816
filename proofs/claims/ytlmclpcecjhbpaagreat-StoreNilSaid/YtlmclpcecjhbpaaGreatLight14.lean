/- Whether an entry is light: the result, wherever the entry's tags can be read. -/
import Derived.Test.YtlmclpcecjhbpaaGreatBase
import Derived.Test.YtlmclpcecjhbpaaGreatHeap
import Derived.Lib.Hide
import Derived.Deep.RegionHeld
namespace Go.Proofs.YtlmclpcecjhbpaaGreat
open Go.RowKit

def lightB (ks n1 n : Nat) (ss : List ByteArray) : Bool := ((List.range (min n 21)).all fun j => decide ((ss.getD j ByteArray.empty).size ≤ 300)) && decide (n ≤ 20) && decide (ks ≤ 300) && decide (n1 ≤ 300)

theorem lightB_all {ks n1 n : Nat} {ss : List ByteArray} (h : ∀ j, j < n → j < 21 → (ss.getD j ByteArray.empty).size ≤ 300) : lightB ks n1 n ss = (decide (n ≤ 20) && decide (ks ≤ 300) && decide (n1 ≤ 300)) := by
  unfold lightB
  rw [show ((List.range (min n 21)).all fun j => decide ((ss.getD j ByteArray.empty).size ≤ 300)) = true from List.all_eq_true.2 fun j hj => by
    have := List.mem_range.1 hj
    exact decide_eq_true (h j (by omega) (by omega))]
  simp
theorem lightB_bad {ks n1 n j : Nat} {ss : List ByteArray} (h1 : j < n) (h2 : j < 21) (h : 300 < (ss.getD j ByteArray.empty).size) : lightB ks n1 n ss = false := by
  unfold lightB
  rw [show ((List.range (min n 21)).all fun j => decide ((ss.getD j ByteArray.empty).size ≤ 300)) = false from by
    rw [Bool.eq_false_iff]
    intro hc
    have := of_decide_eq_true (List.all_eq_true.1 hc j (List.mem_range.2 (by omega)))
    omega]
  simp

set_option maxRecDepth 100000 in
theorem light_some (key : ByteArray) (p1 : Option Addr) (n1 c1 : Nat) (a : Addr) (n c : Nat) (ss : List ByteArray) (x3 x4 x5 : Int) (w : World) (hn : n ≤ ss.length) (hnm : n ≤ maxLen)
    (hcell : ∀ i, i < ss.length → w.cell? (a.add i) = some (.string (ss.getD i ByteArray.empty))) (hsz : ∀ s ∈ ss, s.size ≤ maxLen) (hk : key.size ≤ maxLen) (hn1 : n1 ≤ maxLen) :
    Calls Tryz.prog 15 #[.agg #[.string key, .slice p1 n1 c1, .slice (some a) n c, .int .u64 x3, .int .u64 x4, .int .u64 x5]] w fun e w' => e = .returned (.bool (lightB key.size n1 n ss)) ∧ Below w.heap.size w w' := by
  unfold maxLen at *
  go_enter Tryz.func15, Tryz.ntmps15
  go_wp2
  have hb0 := (Below.refl w.heap.size w).alloc (Nat.le_refl _) (Obj.cells #[.string key, .slice p1 n1 c1, .slice (some a) n c, .int .u64 x3, .int .u64 x4, .int .u64 x5] 40)
  have f0 : (w.alloc (.cells #[.string key, .slice p1 n1 c1, .slice (some a) n c, .int .u64 x3, .int .u64 x4, .int .u64 x5] 40)).cell? ⟨w.heap.size, 0, none⟩ = some (.string key) := by rw [World.cell?_alloc_at _ _ _ _ rfl]; rfl
  have f1 : (w.alloc (.cells #[.string key, .slice p1 n1 c1, .slice (some a) n c, .int .u64 x3, .int .u64 x4, .int .u64 x5] 40)).cell? ⟨w.heap.size, 1, none⟩ = some (.slice p1 n1 c1) := by rw [World.cell?_alloc_at _ _ _ _ rfl]; rfl
  have f2 : (w.alloc (.cells #[.string key, .slice p1 n1 c1, .slice (some a) n c, .int .u64 x3, .int .u64 x4, .int .u64 x5] 40)).cell? ⟨w.heap.size, 2, none⟩ = some (.slice (some a) n c) := by rw [World.cell?_alloc_at _ _ _ _ rfl]; rfl
  have hc1 : ∀ i, i < ss.length → (w.alloc (.cells #[.string key, .slice p1 n1 c1, .slice (some a) n c, .int .u64 x3, .int .u64 x4, .int .u64 x5] 40)).cell? (a.add i) = some (.string (ss.getD i ByteArray.empty)) := fun i hi => by
    exact (World.cell?_alloc_some w _ _ (by rw [hcell i hi]; rfl)).trans (hcell i hi)
  generalize hW : w.alloc (.cells #[.string key, .slice p1 n1 c1, .slice (some a) n c, .int .u64 x3, .int .u64 x4, .int .u64 x5] 40) = W1 at *
  have HC := Lib.hid hc1
  have HS := Lib.hid hsz
  clear hW hcell hc1 hsz
  go_loop [3] (fun i => ∃ k : Nat, k ≤ n ∧ k ≤ 21 ∧ i = .int .i64 k ∧ ∀ j, j < k → (ss.getD j ByteArray.empty).size ≤ 300) (fun i => n - (intOf i).toNat)
  case atStart => exact ⟨0, Nat.zero_le _, by omega, rfl, fun j hj => by omega⟩
  case round =>
    obtain ⟨k, hk1, hk2, rfl, hall⟩ := hrel
    have HA := Lib.hid hall
    clear hall
    by_cases hlt2 : k < n
    · by_cases h21 : k < 21
      · obtain ⟨sk, hske⟩ : ∃ sk, sk = ss.getD k ByteArray.empty := ⟨_, rfl⟩
        have hcell := HC.out k (by omega)
        rw [← hske] at hcell
        have hsk : sk.size ≤ 2 ^ 63 - 1 := by
          have : sk ∈ ss := by rw [hske, List.getD_eq_getElem?_getD, List.getElem?_eq_getElem (by omega)]; simp
          exact HS.out _ this
        have HE := Lib.hid hske
        clear hske
        go_wp2
        · rename_i _ hgt
          go_ret
          refine ⟨?_, hb0⟩
          rw [lightB_bad hlt2 h21 (by rw [← HE.out]; omega)]
          rfl
        · rename_i _ hle
          refine ⟨⟨k + 1, by omega, by omega, by go_num, fun j hj => ?_⟩, by simp [intOf]; omega⟩
          rcases Nat.lt_succ_iff_lt_or_eq.1 hj with g | g
          · exact HA.out j g
          · rw [g, ← HE.out]; omega
      · have HL := Lib.hid (lightB_all (ks := key.size) (n1 := n1) (n := n) (ss := ss) fun j _ h2 => HA.out j (by omega))
        go_wp2
        all_goals first | (exfalso; omega) | (go_ret; refine ⟨?_, hb0⟩; rw [HL.out]; congr 1; simp; try omega)
    · have HL := Lib.hid (lightB_all (ks := key.size) (n1 := n1) (n := n) (ss := ss) fun j h1 _ => HA.out j (by omega))
      go_wp2
      all_goals first
        | (exfalso; omega)
        | (go_ret; refine ⟨?_, hb0⟩; rw [HL.out]; congr 1; simp; omega)
        | (go_ret; refine ⟨?_, hb0⟩; rw [HL.out]; congr 1; have e1 : n ≤ 20 := (by omega); have e2 : key.size ≤ 300 := (by omega); rw [decide_eq_true e1, decide_eq_true e2]; simp; omega)

set_option maxRecDepth 100000 in
theorem light_none (key : ByteArray) (p1 : Option Addr) (n1 c1 : Nat) (x3 x4 x5 : Int) (w : World) (hk : key.size ≤ maxLen) (hn1 : n1 ≤ maxLen) :
    Calls Tryz.prog 15 #[.agg #[.string key, .slice p1 n1 c1, .slice none 0 0, .int .u64 x3, .int .u64 x4, .int .u64 x5]] w fun e w' => e = .returned (.bool (lightB key.size n1 0 [])) ∧ Below w.heap.size w w' := by
  unfold maxLen at *
  go_enter Tryz.func15, Tryz.ntmps15
  go_wp2
  have hb0 := (Below.refl w.heap.size w).alloc (Nat.le_refl _) (Obj.cells #[.string key, .slice p1 n1 c1, .slice none 0 0, .int .u64 x3, .int .u64 x4, .int .u64 x5] 40)
  have f0 : (w.alloc (.cells #[.string key, .slice p1 n1 c1, .slice none 0 0, .int .u64 x3, .int .u64 x4, .int .u64 x5] 40)).cell? ⟨w.heap.size, 0, none⟩ = some (.string key) := by rw [World.cell?_alloc_at _ _ _ _ rfl]; rfl
  have f1 : (w.alloc (.cells #[.string key, .slice p1 n1 c1, .slice none 0 0, .int .u64 x3, .int .u64 x4, .int .u64 x5] 40)).cell? ⟨w.heap.size, 1, none⟩ = some (.slice p1 n1 c1) := by rw [World.cell?_alloc_at _ _ _ _ rfl]; rfl
  have f2 : (w.alloc (.cells #[.string key, .slice p1 n1 c1, .slice none 0 0, .int .u64 x3, .int .u64 x4, .int .u64 x5] 40)).cell? ⟨w.heap.size, 2, none⟩ = some (.slice none 0 0) := by rw [World.cell?_alloc_at _ _ _ _ rfl]; rfl
  generalize hW : w.alloc (.cells #[.string key, .slice p1 n1 c1, .slice none 0 0, .int .u64 x3, .int .u64 x4, .int .u64 x5] 40) = W1 at *
  clear hW
  have HL := Lib.hid (lightB_all (ks := key.size) (n1 := n1) (n := 0) (ss := []) fun j h1 _ => absurd h1 (Nat.not_lt_zero j))
  go_loop [3] (fun i => i = .int .i64 0) (fun _ => 0)
  case atStart => rfl
  case round =>
    subst hrel
    go_wp2
    all_goals first
      | (go_ret; refine ⟨?_, hb0⟩; rw [HL.out]; congr 1; simp; omega)
      | (go_ret; refine ⟨?_, hb0⟩; rw [HL.out]; congr 1; have e2 : key.size ≤ 300 := (by omega); rw [decide_eq_true e2]; simp; omega)
end Go.Proofs.YtlmclpcecjhbpaaGreat
