/- Whether a call is light: the result, wherever its lists can be read. -/
import Derived.Test.YtaejmajjhhkhbaaBase
import Derived.Test.YtaejmajjhhkhbaaHeap
import Derived.Lib.Hide
import Derived.Deep.RegionHeld
namespace Go.Proofs.Ytaejmajjhhkhbaa
open Go.RowKit

set_option maxRecDepth 100000 in
theorem light_any (x0 x2 : Int) (pl : Option Addr) (nl cl : Nat) (name : ByteArray) (pt : Option Addr) (nt ct : Nat) (x5 x6 : Int) (nm tg : Nat → ByteArray) (b : Bool) (w : World) (hnl : nl ≤ maxLen) (hnt : nt ≤ maxLen) (hname : name.size ≤ maxLen)
    (hL : ∀ i, i < nl → ∃ a, pl = some a ∧ w.cell? ⟨(a.add (i * 4)).block, (a.add (i * 4)).off + 1, none⟩ = some (.string (nm i)) ∧ (nm i).size ≤ maxLen) (hT : ∀ i, i < nt → ∃ a, pt = some a ∧ w.cell? (a.add i) = some (.string (tg i)) ∧ (tg i).size ≤ maxLen)
    (hb : b = true ↔ nl ≤ 20 ∧ nt ≤ 20 ∧ name.size ≤ 300 ∧ (∀ i, i < nl → (nm i).size ≤ 300) ∧ (∀ i, i < nt → (tg i).size ≤ 300)) :
    Calls Try.prog 18 #[.agg #[.int .i64 x0, .slice pl nl cl, .int .i64 x2, .string name, .slice pt nt ct, .int .u64 x5, .int .i64 x6]] w fun e w' => e = .returned (.bool b) ∧ Below w.heap.size w w' := by
  unfold maxLen at *
  have HL := Lib.hid hL
  have HT := Lib.hid hT
  have HB := Lib.hid hb
  clear hL hT hb
  go_enter Try.func18, Try.ntmps18
  have hb0 := (Below.refl w.heap.size w).alloc (Nat.le_refl _) (Obj.cells #[.int .i64 x0, .slice pl nl cl, .int .i64 x2, .string name, .slice pt nt ct, .int .u64 x5, .int .i64 x6] 47)
  have no : (nl ≤ 20 → nt ≤ 20 → name.size ≤ 300 → False) → b = false := fun h => by
    cases hb : b with
    | false => rfl
    | true =>
      obtain ⟨h1, h2, h3, _⟩ := HB.out.1 hb
      exact (h h1 h2 h3).elim
  have NO := Lib.hid no
  clear no
  go_wp2
  · go_ret
    exact ⟨by rw [NO.out (by omega)]; rfl, hb0⟩
  · have f1 : (w.alloc (.cells #[.int .i64 x0, .slice pl nl cl, .int .i64 x2, .string name, .slice pt nt ct, .int .u64 x5, .int .i64 x6] 47)).cell? ⟨w.heap.size, 1, none⟩ = some (.slice pl nl cl) := by rw [World.cell?_alloc_at _ _ _ _ rfl]; rfl
    have f4 : (w.alloc (.cells #[.int .i64 x0, .slice pl nl cl, .int .i64 x2, .string name, .slice pt nt ct, .int .u64 x5, .int .i64 x6] 47)).cell? ⟨w.heap.size, 4, none⟩ = some (.slice pt nt ct) := by rw [World.cell?_alloc_at _ _ _ _ rfl]; rfl
    have hL1 : ∀ i, i < nl → ∃ a, pl = some a ∧ (w.alloc (.cells #[.int .i64 x0, .slice pl nl cl, .int .i64 x2, .string name, .slice pt nt ct, .int .u64 x5, .int .i64 x6] 47)).cell? ⟨(a.add (i * 4)).block, (a.add (i * 4)).off + 1, none⟩ = some (.string (nm i)) ∧ (nm i).size ≤ 2 ^ 63 - 1 := fun i hi => by
      obtain ⟨a, h1, h2, h3⟩ := HL.out i hi
      exact ⟨a, h1, (World.cell?_alloc_some w _ _ (by rw [h2]; rfl)).trans h2, h3⟩
    have hT1 : ∀ i, i < nt → ∃ a, pt = some a ∧ (w.alloc (.cells #[.int .i64 x0, .slice pl nl cl, .int .i64 x2, .string name, .slice pt nt ct, .int .u64 x5, .int .i64 x6] 47)).cell? (a.add i) = some (.string (tg i)) ∧ (tg i).size ≤ 2 ^ 63 - 1 := fun i hi => by
      obtain ⟨a, h1, h2, h3⟩ := HT.out i hi
      exact ⟨a, h1, (World.cell?_alloc_some w _ _ (by rw [h2]; rfl)).trans h2, h3⟩
    generalize hW : w.alloc (.cells #[.int .i64 x0, .slice pl nl cl, .int .i64 x2, .string name, .slice pt nt ct, .int .u64 x5, .int .i64 x6] 47) = W1 at *
    have HL1 := Lib.hid hL1
    have HT1 := Lib.hid hT1
    clear hW hL1 hT1 HL HT
    go_loop [3] (fun i => ∃ k : Nat, k ≤ nl ∧ i = .int .i64 k ∧ ∀ j, j < k → (nm j).size ≤ 300) (fun i => nl - (intOf i).toNat)
    case atStart => exact ⟨0, Nat.zero_le _, rfl, fun j hj => by omega⟩
    case round =>
      obtain ⟨k, hk1, rfl, hall⟩ := hrel
      have HA := Lib.hid hall
      clear hall
      by_cases hlt2 : k < nl
      · obtain ⟨a, hpa, hcell, hsk⟩ := HL1.out k hlt2
        subst hpa
        go_wp2
        · rename_i _ hgt
          go_ret
          refine ⟨?_, hb0⟩
          rw [show b = false from by
            cases hbb : b with
            | false => rfl
            | true =>
              obtain ⟨_, _, _, h4, _⟩ := HB.out.1 hbb
              have := h4 k hlt2
              omega]
          rfl
        · refine ⟨⟨k + 1, by omega, by go_num, fun j hj => ?_⟩, by simp [intOf]; omega⟩
          rcases Nat.lt_succ_iff_lt_or_eq.1 hj with g | g
          · exact HA.out j g
          · rw [g]; omega
      · have hall2 : ∀ j, j < nl → (nm j).size ≤ 300 := fun j hj => HA.out j (by omega)
        have HA2 := Lib.hid hall2
        clear hall2
        go_wp2
        go_loop [4] (fun i => ∃ k : Nat, k ≤ nt ∧ i = .int .i64 k ∧ ∀ j, j < k → (tg j).size ≤ 300) (fun i => nt - (intOf i).toNat)
        case atStart => exact ⟨0, Nat.zero_le _, rfl, fun j hj => by omega⟩
        case round =>
          obtain ⟨k2, hk2, rfl, hallt⟩ := hrel
          have HAt := Lib.hid hallt
          clear hallt
          by_cases hlt3 : k2 < nt
          · obtain ⟨a, hpa, hcell, hsk⟩ := HT1.out k2 hlt3
            subst hpa
            go_wp2
            · rename_i _ hgt
              go_ret
              refine ⟨?_, hb0⟩
              rw [show b = false from by
                cases hbb : b with
                | false => rfl
                | true =>
                  obtain ⟨_, _, _, _, h5⟩ := HB.out.1 hbb
                  have := h5 k2 hlt3
                  omega]
              rfl
            · refine ⟨⟨k2 + 1, by omega, by go_num, fun j hj => ?_⟩, by simp [intOf]; omega⟩
              rcases Nat.lt_succ_iff_lt_or_eq.1 hj with g | g
              · exact HAt.out j g
              · rw [g]; omega
          · go_wp2
            go_ret
            refine ⟨?_, hb0⟩
            rw [show b = true from HB.out.2 ⟨by omega, by omega, by omega, HA2.out, fun j hj => HAt.out j (by omega)⟩]
            rfl
  · go_ret
    exact ⟨by rw [NO.out (by omega)]; rfl, hb0⟩
  · go_ret
    exact ⟨by rw [NO.out (by omega)]; rfl, hb0⟩
end Go.Proofs.Ytaejmajjhhkhbaa
