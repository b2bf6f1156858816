/- Contracts of package arena: Free of a slot that is there. -/
import Derived.Test.YtiiiciehilfmfaaArena4
namespace Go.Proofs.Ytiiiciehilfmfaa
open Go.RowKit

theorem hasA_iff {gens : List Int} {n g : Int} : hasA gens n g = true ↔ 0 ≤ n ∧ n < gens.length ∧ 0 ≤ gens.getD n.toNat 0 ∧ g = gens.getD n.toNat 0 := by
  unfold hasA atA
  split
  · rename_i h
    simp only [Bool.and_eq_true, beq_iff_eq, true_and]
    constructor
    · intro e; exact ⟨h.1, h.2.1, h.2.2, e.symm⟩
    · intro e; exact e.2.2.2.symm
  · rename_i h
    simp only [Bool.and_eq_true, beq_iff_eq]
    constructor
    · rintro ⟨e, _⟩; omega
    · rintro ⟨a, b, c, d⟩; exact absurd ⟨a, b, c⟩ h

theorem free_yes (w : World) (p : Nat) (gv fv : Value) (most : Int) (gens free : List Int) (n : Nat) (g : Int) (hm : most ≠ 0) (h : ArAt w p gv fv most gens free) (hh : hasA gens n g = true)
    (hg1 : 0 ≤ g ∧ g < 9223372036854775807) (hfl : free.length < 1048576) :
    Calls Try.prog 13 #[.pointer (some ⟨p, 0, none⟩), .agg #[.int .i64 n, .int .i64 g]] w fun e w' =>
      ∃ fv', e = .returned (.int .i64 0) ∧ ArAt w' p gv fv' most (gens.set n (-(g + 1))) (free ++ [(n : Int)]) ∧ Stp (arOwn p gv fv) (arOwn p gv fv') w w' := by
  have hz : (most == 0) = false := by simp [hm]
  have hp := lt_of_block h.hp
  have c0 : w.cell? ⟨p, 0, none⟩ = some (.int .i64 most) := cell_of_row _ _ _ _ _ _ h.hp
  have hi := (hasA_iff.1 hh).2.1
  go_enter Try.func13, Try.ntmps13
  go_wp2_with fail
  refine (zero_at _ p most (by go_simp)).mono ?_
  rintro e w1 ⟨rfl, rfl⟩
  clear c0
  go_wp2_with fail
  refine (has_any _ p gv fv most gens free n g hm (h.alloc _)).mono ?_
  rintro e w1 ⟨rfl, hb⟩
  rw [hh]
  have hB := Lib.hid (((Below.refl w.heap.size w).alloc (Nat.le_refl _) (.cells #[.int .i64 n, .int .i64 g] 30)).trans (hb.mono (by simp)))
  have h1 := (h.alloc (.cells #[.int .i64 n, .int .i64 g] 30)).below hb
  have n4 : ∀ k, k = p ∨ gv.ownBlock = some k ∨ fv.ownBlock = some k → k ≠ w.heap.size := fun k hk => by have := h.lt k hk; omega
  have N4 := Lib.hid n4; clear n4
  obtain ⟨hc, hf⟩ := bcell hb
  have hsz := hb.size
  simp only [World.size_alloc] at hsz
  have d0 : w1.cell? ⟨w.heap.size, 0, none⟩ = some (.int .i64 n) := (hc _ _ (by simp)).trans (by go_simp)
  have d1 : w1.cell? ⟨w.heap.size, 1, none⟩ = some (.int .i64 g) := (hc _ _ (by simp)).trans (by go_simp)
  clear hb h hh hm hc hf
  have HH := Lib.hid h1
  have hp1 := lt_of_block h1.hp
  have c1 : w1.cell? ⟨p, 1, none⟩ = some gv := cell_of_row _ _ _ _ _ _ h1.hp
  have c2 : w1.cell? ⟨p, 2, none⟩ = some fv := cell_of_row _ _ _ _ _ _ h1.hp
  have f2 : w1.frozen? ⟨p, 2, none⟩ = false := frozen_of_row _ _ _ _ _ h1.hp
  obtain ⟨gb, cap1, rfl, hc1, hc2, hgl⟩ := own_some h1.hg (by omega)
  obtain ⟨q2, cap2, rfl, hd1, hd2⟩ := own_view h1.hf
  have cg := own_int h1.hg n (by omega)
  have fg : w1.frozen? ⟨gb, n, none⟩ = false := h1.hg.frozenAt n
  have HF := Lib.hid h1.hf
  clear h1
  have n1 : ¬ gb = p := fun e => HH.out.pg (by rw [e]; rfl)
  have n1' : ¬ p = gb := fun e => n1 e.symm
  have HF2 := Lib.hid (ownsRow_setCell_other HF.out (a := ⟨gb, n, none⟩) (fun e => by rcases HH.out.gf with g | g; cases g; exact g e.symm) (.int .i64 (-(g + 1))))
  have HA : free.length + 1 ≤ maxLen := by unfold maxLen; omega
  have HBy : (free.length + 1) * 8 ≤ 140737488355328 := by omega
  have n5 : ¬ p = w.heap.size := by omega
  have n5' : ¬ w.heap.size = p := by omega
  go_wp2_with fail
  have n6 : ¬ gb = w.heap.size := N4.out gb (.inr (.inl rfl))
  have n6' : ¬ w.heap.size = gb := fun e => n6 e.symm
  go_region
  go_wp2_with fail
  go_region_law (refine step_app (v := .slice q2 free.length cap2) (n := free.length) (m := 1) rfl _ _ rfl elem_int rfl rfl (by first | exact own_drew (own_drew (HF2.out.alloc _)) | exact own_drew (HF2.out.alloc _)) (src_one (size := 1) #[.int .i64 n] _ _ (by simp) rfl (by simp [Value.oneCell'])) HA HBy ?_; intro q' cap' w2 hown2 happ _; have e1 : w2.cell? ⟨p, 2, none⟩ = some (.slice q2 free.length cap2) := (happ.cell p 2 (by simp; omega) HH.out.pf).trans (by go_simp); have e2 : w2.frozen? ⟨p, 2, none⟩ = false := (happ.frozen p 2 (by simp; omega) HH.out.pf).trans (by go_simp); have HAPP := Lib.hid happ; have HOWN := Lib.hid hown2; clear happ hown2)
  all_goals
    go_wp2_with fail
    go_ret
    have happ := HAPP.out
    have h1 := HH.out
    have hs2 := happ.size
    simp only [World.size_drew, World.size_alloc, hset_size] at hs2
    have hbb := hB.out.size
    have hkp : ∀ k, k < w1.heap.size → (Value.slice q2 free.length cap2).ownBlock ≠ some k → w2.heap[k]? = (w1.setCell ⟨gb, n, none⟩ (.int .i64 (-(g + 1)))).heap[k]? := fun k g1 g2 =>
      (happ.keep k (by simp; omega) g2).trans (hall_old _ _ _ (by simpa [hset_size] using g1))
    have hnf : ∀ k, (Value.slice q' (free.length + 1) cap').ownBlock = some k → (Value.slice q2 free.length cap2).ownBlock = some k ∨ w1.heap.size ≤ k := fun k e => by
      rcases happ.blk k e with g | g
      · exact .inl g
      · right; simp at g; omega
    have hgf : (Value.slice q2 free.length cap2).ownBlock ≠ some gb := fun e => by rcases h1.gf with g | g; cases g; exact g e.symm
    have hpf' : (Value.slice q' (free.length + 1) cap').ownBlock ≠ some p := fun e => by
      rcases hnf p e with g | g
      · exact h1.pf g
      · omega
    refine ⟨rfl, .slice q' (free.length + 1) cap', ⟨?_, ?_, ?_, h1.pg, hpf', .inr fun e => ?_⟩, ⟨?_, ?_, ?_, ?_, fun k hk hF => ?_, fun k hk => ?_⟩⟩
    · refine hset_eq (cs := #[.int .i64 most, .slice (some ⟨gb, 0, none⟩) gens.length cap1, .slice q2 free.length cap2]) ?_ 2 _
      rw [hkp p hp1 h1.pf, hset_ne _ _ _ _ _ n1']
      exact h1.hp
    · have := (h1.hg.stored n (.int .i64 (-(g + 1)))).1
      rw [← List.map_set] at this
      simp only [List.length_set]
      exact ownsRow_block this fun k e => by
        cases e
        rw [hset_ne _ _ _ _ _ n1, hkp gb hgl hgf]
    · simp only [List.map_append, List.map_cons, List.map_nil, List.length_append, List.length_cons, List.length_nil]
      exact ownsRow_block HOWN.out fun k e => hset_ne _ _ _ _ _ (fun e' => hpf' (e' ▸ e))
    · rcases hnf gb e.symm with g | g
      · exact hgf g
      · omega
    · exact happ.os.trans hB.out.os
    · exact happ.tape.trans hB.out.tape
    · exact happ.output.trans hB.out.output
    · rw [hset_size]; omega
    · have g1 : k ≠ p := fun e => hF (.inl e)
      have g2 : k ≠ gb := fun e => hF (.inr (.inl (by rw [e]; rfl)))
      have g3 : (Value.slice q2 free.length cap2).ownBlock ≠ some k := fun e => hF (.inr (.inr e))
      rw [hset_ne _ _ _ _ _ g1, hkp k (by omega) g3, hset_ne _ _ _ _ _ g2]
      exact hB.out.block k hk
    · rcases hk with h | h | h
      · exact .inl (.inl h)
      · exact .inl (.inr (.inl h))
      · rcases hnf k h with g | g
        · exact .inl (.inr (.inr g))
        · right; omega
end Go.Proofs.Ytiiiciehilfmfaa
