/- slices.Insert of one node into a row of nodes, where there is room: in place. -/
import Derived.Test.YtagpkejbbmpcgaaAeIns
import Derived.Shelf.Spec.SlicesInsert
import Derived.Lib.Hide
namespace Go.Proofs.Ytagpkejbbmpcgaa
open Go.RowKit Go.Proofs

set_option maxHeartbeats 4000000 in
set_option maxRecDepth 100000 in
theorem ins_room : Ae.InsRoom Try.prog 47 := by
  intro w b off n c i vb voff vc row vrow e e2 x cs hblk hvblk hvb hi hn1000 hroom hfit hcs hcl hx h1c h1x
  have hsz : (Try.prog.info? 77).map (·.size) = some 1 := by kernel_rfl
  have hz9 : ∀ w, (Go.sizeOf 77).run Try.prog w = .ok 1 w := fun w => Ae.run_sizeOf (by unfold Ae.sizeT; kernel_rfl) w
  have hrs : 0 < row.size := by omega
  have hov : ∀ lb cb, (callFunc 65 #[.slice (some ⟨vb, voff, none⟩) 1 vc, .slice (some ⟨b, off + (i + 1), none⟩) lb cb]).run Try.prog w = .ok (.value (.bool false)) w := fun lb cb => by
    rw [run_callFunc_extern Try.func65 (by kernel_rfl) (by kernel_rfl) (by kernel_rfl) (e := Extern.SlicesOverlaps.overlaps #[78, 78] #[4]) (by kernel_rfl),
      Lib.run_overlaps_apart w 78 4 77 Try.underlying78 1 hz9 ⟨vb, voff, none⟩ ⟨b, off + (i + 1), none⟩ 1 vc lb cb hvb e2 e vrow.size row.size (by simp [World.shape?, hvblk]) (by simp [World.shape?, hblk]) (by omega) (by simp [World.frozen?, hvblk]) (by simp [World.frozen?, hvblk])]
    rfl
  have hdl : (cs.drop i).length = n - i := by rw [List.length_drop, hcl]
  have mixed : Try.prog.follows .mixedOrders = true := by kernel_rfl
  have hw1 : IntKind.i64.wrap ((i : Int) + 1) = (i : Int) + 1 := by rw [IntKind.wrap_i64]; omega
  have hw2 : IntKind.i64.wrap ((n : Int) + 1) = (n : Int) + 1 := by rw [IntKind.wrap_i64]; omega
  have hb1 : (0 : Int) ≤ (i : Int) + 1 := by omega
  have hin : i ≤ n := by omega
  have htn : ((i : Int) + 1).toNat = i + 1 := by omega
  have hz2 : ¬ ((i : Int) = (n : Int)) := by omega
  have hb2 : ¬ (c = i + 1) := by omega
  have hb3 : (i : Int) ≤ (n : Int) + 1 := by omega
  have hb4 : ¬ (c = i) := by omega
  have hb5 : ¬ ((c : Int) < (n : Int) + 1) := by omega
  obtain ⟨R1, hR1⟩ : ∃ R1, R1 = (row.toList.take (off + (i + 1)) ++ cs.drop i ++ row.toList.drop (off + (i + 1) + (cs.drop i).length)).toArray := ⟨_, rfl⟩
  have hcp1 : ∀ ty dc sc, (Builtin.copy_ #[78, 78] ty #[.slice (some ⟨b, off + (i + 1), none⟩) (n - i) dc, .slice (some ⟨b, off + i, none⟩) (n + 1 - i) sc]).run Try.prog w.drew = .ok (goInt (cs.drop i).length) (w.drew.setRow b R1) := fun ty dc sc => by
    rw [hR1]
    exact run_copy_row Try.prog w.drew _ _ ty 77 b (off + (i + 1)) (n - i) dc ⟨b, off + i, none⟩ (n + 1 - i) sc row e (cs.drop i) Try.underlying78 hsz hblk (by rw [hdl]; simp only [Nat.min_def]; split <;> omega)
      (fun j v hj => by
        rw [Addr.add_lit, Nat.add_assoc]
        have := hcs (i + j) v (by rwa [List.getElem?_drop] at hj)
        have e0 : ∀ a, w.drew.cell? a = w.cell? a := fun _ => rfl
        rw [e0]
        simp [World.cell?, hblk, this])
      (by rw [hdl]; omega) (fun v hv => h1c v (List.mem_of_mem_drop hv))
  obtain ⟨W1, hW1⟩ : ∃ W1, W1 = w.drew.setRow b R1 := ⟨_, rfl⟩
  have hblk1 : W1.heap[b]? = some (.cells R1 e (0, 0)) := by rw [hW1]; exact setRow_heap w.drew b _ _ e _ hblk
  have hR1s : R1.size = row.size := by rw [hR1]; simp [hdl]; omega
  have hcp2 : ∀ ty dc, (Builtin.copy_ #[78, 78] ty #[.slice (some ⟨b, off + i, none⟩) (n + 1 - i) dc, .slice (some ⟨vb, voff, none⟩) 1 vc]).run Try.prog W1 = .ok (goInt 1) (W1.setRow b (R1.toList.take (off + i) ++ [x] ++ R1.toList.drop (off + i + 1)).toArray) := fun ty dc =>
    run_copy_row Try.prog W1 _ _ ty 77 b (off + i) (n + 1 - i) dc ⟨vb, voff, none⟩ 1 vc R1 e [x] Try.underlying78 hsz hblk1 (by simp only [Nat.min_def, List.length_singleton]; split <;> omega)
      (fun j v hj => by
        have hj0 : j = 0 := by have := (List.getElem?_eq_some_iff.1 hj).1; simp at this; exact this
        subst hj0
        have : w.heap[vb]? = W1.heap[vb]? := by rw [hW1]; exact (setRow_other w.drew b vb _ hvb).symm
        rw [Addr.add_lit, Nat.add_zero]
        simp [World.cell?, ← this, hvblk, hx]
        simpa using hj)
      (by simp; omega) (fun v hv => by simp at hv; subst hv; exact h1x)
  rw [← hW1] at hcp1
  have HR := Lib.hid hR1
  clear hR1
  have HW := Lib.hid hW1
  clear hW1
  go_enter Try.func47, Try.ntmps47
  go_wp2_with (simp only [hov])
  go_region_law_o (refine step_copy_runI rfl _ _ 78 78 rfl _ _ (by simp [Act.eval, Act.put]) (by simp [Act.eval, Act.put]) (hcp1 _ _ _) ?_)
  go_wp2_with (at_builtin; refine wpList_copy_runI _ rfl _ _ 78 78 rfl _ _ rfl rfl (hcp2 _ _) ?_)
  go_ret
  have hR1 := HR.out
  have hW1 := HW.out
  refine ⟨rfl, w.drawn + 1, ?_⟩
  have hseg : (row.toList.drop off).take n = cs := by
    apply List.ext_getElem?
    intro j
    rcases Nat.lt_or_ge j n with g | g
    · have hj : cs[j]? = some cs[j] := List.getElem?_eq_getElem (by omega)
      rw [List.getElem?_take, if_pos g, List.getElem?_drop, hj, ← hcs j _ hj]
      simp
    · rw [List.getElem?_eq_none (by simp; omega), List.getElem?_eq_none (by omega)]
  have hl1 : (row.toList.take (off + (i + 1))).length = off + i + 1 := by simp; omega
  have hR2 : R1.toList.take (off + i) ++ [x] ++ R1.toList.drop (off + i + 1) = row.toList.take off ++ Ae.insI i x cs ++ row.toList.drop (off + (n + 1)) := by
    have t0 : R1.toList = row.toList.take (off + (i + 1)) ++ (cs.drop i ++ row.toList.drop (off + (n + 1))) := by
      rw [hR1, hdl, show off + (i + 1) + (n - i) = off + (n + 1) by omega]
      simp
    have t1 : R1.toList.take (off + i) = row.toList.take off ++ cs.take i := by
      rw [t0, List.take_append_of_le_length (by omega), List.take_take, Nat.min_eq_left (by omega), List.take_add, ← hseg, List.take_take, Nat.min_eq_left (by omega)]
    have t2 : R1.toList.drop (off + i + 1) = cs.drop i ++ row.toList.drop (off + (n + 1)) := by
      rw [t0, List.drop_left' hl1]
    rw [t1, t2]
    simp [Ae.insI]
  have hR3 : R1.toList.take (off + i) ++ x :: R1.toList.drop (off + i + 1) = row.toList.take off ++ Ae.insI i x cs ++ row.toList.drop (off + (n + 1)) := by
    rw [← hR2]; simp
  rw [hW1, hR3]
  rw [setRow_setRow]
  rfl
end Go.Proofs.Ytagpkejbbmpcgaa
