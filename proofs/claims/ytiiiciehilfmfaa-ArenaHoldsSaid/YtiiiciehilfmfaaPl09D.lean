/- ArenaPlays: do 1. -/
import Derived.Test.YtiiiciehilfmfaaPl09C
namespace Go.Proofs.Ytiiiciehilfmfaa
open Go.RowKit

section
variable {w0 w : World} {p : Nat} {L : Nat → Prop} {gv tv fv : Value} {R : RA} {i : Nat} {most : Int}

/-- Six cells: an arena, and a reference elsewhere. -/
def C6' (w : World) (b c : Nat) (a0 a1 a2 a3 x0 x1 : Value) : Prop :=
  w.cell? ⟨b, 0, none⟩ = some a0 ∧ w.cell? ⟨b, 1, none⟩ = some a1 ∧ w.cell? ⟨b, 2, none⟩ = some a2 ∧ w.cell? ⟨b, 3, none⟩ = some a3 ∧ w.cell? ⟨c, 0, none⟩ = some x0 ∧ w.cell? ⟨c, 1, none⟩ = some x1
theorem c6'_of {w : World} {b c : Nat} {a0 a1 a2 a3 x0 x1 : Value} (h1 : w.heap[b]? = some (.cells #[a0, a1, a2, a3] 48 (0, 0))) (h2 : w.heap[c]? = some (.cells #[x0, x1] 30 (0, 0))) : C6' w b c a0 a1 a2 a3 x0 x1 :=
  ⟨cell_of_row _ _ 0 _ _ _ h1, cell_of_row _ _ 1 _ _ _ h1, cell_of_row _ _ 2 _ _ _ h1, cell_of_row _ _ 3 _ _ _ h1, cell_of_row _ _ 0 _ _ _ h2, cell_of_row _ _ 1 _ _ _ h2⟩

set_option maxHeartbeats 2000000 in
theorem do_1 (h : Gd (arI p (R.enc most)) w0 L w) (hr : RfIn w L gv tv fv R) (ok : R.Ok i) (hi : i ≤ 199) (hm : (R.gens.length : Int) ≤ most) (h1 : 1 ≤ most) (h2 : most ≤ 1048576) (n g : Int) :
    Calls Try.prog 19 #[.pointer (some ⟨p, 0, none⟩), .agg #[.int .i64 most, gv, tv, fv], .agg #[.int .i64 1, .int .i64 n, .int .i64 g]] w (DoP w0 L w most i) := by
  obtain ⟨qg, cg, rfl, _, _⟩ := own_view hr.rf.hg
  obtain ⟨qt, ct, rfl, _, _⟩ := own_view hr.rf.ht
  obtain ⟨qf, cf, rfl, _, _⟩ := own_view hr.rf.hf
  have HI := Lib.hid (arI_framed p (R.enc most))
  have HOK := Lib.hid ok
  have HA := Lib.hid (ok.enc h1 h2 (by omega))
  have hlc := loc_new w most (.slice qg R.gens.length cg) (.slice qt R.taken.length ct) (.slice qf R.free.length cf) 1 n g
  have hbw := ((((Below.refl w.heap.size w).alloc (Nat.le_refl _) (.cells #[.int .i64 most, .slice qg R.gens.length cg, .slice qt R.taken.length ct, .slice qf R.free.length cf] 48)).alloc (by simp) (.cells #[.int .i64 1, .int .i64 n, .int .i64 g] 39)).alloc (by simp; omega) (.cells #[.int .i64 0, .slice none 0 0, .slice none 0 0, .slice none 0 0] 48)).alloc (by simp; omega) (.cells #[.int .i64 n, .int .i64 g] 30)
  have HLt := Lib.hid (fun k (hk : L k) => h.lt k hk)
  have HW0 := Lib.hid h.below.size
  have HTE := Lib.hid (ok.rel most n g)
  have HTL := Lib.hid (RA.rel_le (n := n) (g := g) hm)
  obtain ⟨L0, l1, l2, hG0⟩ := h.later HI.out hbw
  have HG := Lib.hid hG0
  have HR := Lib.hid ((hr.later hbw).mono l1)
  have HL1 := Lib.hid l1
  have HL2 := Lib.hid l2
  clear h hr ok l1 l2 hG0
  go_enter Try.func19, Try.ntmps19
  go_wp2_with fail
  generalize (((w.alloc (.cells #[.int .i64 most, .slice qg R.gens.length cg, .slice qt R.taken.length ct, .slice qf R.free.length cf] 48)).alloc (.cells #[.int .i64 1, .int .i64 n, .int .i64 g] 39)).alloc (.cells #[.int .i64 0, .slice none 0 0, .slice none 0 0, .slice none 0 0] 48)).alloc (.cells #[.int .i64 n, .int .i64 g] 30) = W at *
  have HLC := Lib.hid hlc; have HW := Lib.hid hbw
  clear hlc hbw
  refine (relr_G HI.out HG.out HR.out HOK.out (by omega) n g).mono ?_
  rintro e w1 ⟨gv', tv', fv', L1, rfl, l1, l2, hG1, hr1, hb1⟩
  simp only [List.append_toArray, List.cons_append, List.nil_append]
  generalize R.rel n g = T at *
  obtain ⟨t3, R'⟩ := T
  simp only at hr1
  obtain ⟨qg', cg', rfl, _, _⟩ := own_view hr1.rf.hg
  obtain ⟨qt', ct', rfl, _, _⟩ := own_view hr1.rf.ht
  obtain ⟨qf', cf', rfl, _, _⟩ := own_view hr1.rf.hf
  have HR1 := Lib.hid hr1; have HG1 := Lib.hid hG1
  have HL1b := Lib.hid l1
  have HWs := Lib.hid (lt_of_block HLC.out.r3)
  have hlc1 := HLC.out.keep (W' := w1) fun k h1 h2 => hb1.block k (by have := HWs.out; omega)
  have HLC1 := Lib.hid hlc1
  have HB1 := Lib.hid hb1
  clear hr1 hG1 l1 l2 hlc1 hb1
  go_wp2_with fail
  have hvr : (w1.alloc (.cells #[.int .i64 most, .slice qg' R'.gens.length cg', .slice qt' R'.taken.length ct', .slice qf' R'.free.length cf'] 48)).heap[w1.heap.size]? = some (.cells #[.int .i64 most, .slice qg' R'.gens.length cg', .slice qt' R'.taken.length ct', .slice qf' R'.free.length cf'] 48 (0, 0)) := heap_alloc_new _ _
  have hb2 := (Below.refl w1.heap.size w1).alloc (Nat.le_refl _) (.cells #[.int .i64 most, .slice qg' R'.gens.length cg', .slice qt' R'.taken.length ct', .slice qf' R'.free.length cf'] 48)
  obtain ⟨L2, l1, l2, hG2⟩ := HG1.out.later HI.out hb2
  have HL2b := Lib.hid l1
  have HL2c := Lib.hid l2
  have HG2 := Lib.hid (hG2.drew HI.out)
  have HR2 := Lib.hid ((HR1.out.later hb2).mono l1)
  have HLC2 := Lib.hid (HLC1.out.keep (W' := w1.alloc (.cells #[.int .i64 most, .slice qg' R'.gens.length cg', .slice qt' R'.taken.length ct', .slice qf' R'.free.length cf'] 48)) fun k h1 h2 => hb2.block k (by have := lt_of_block HLC1.out.r3; omega))
  generalize w1.alloc (.cells #[.int .i64 most, .slice qg' R'.gens.length cg', .slice qt' R'.taken.length ct', .slice qf' R'.free.length cf'] 48) = W2 at *
  have k0 := c6'_of hvr HLC2.out.r3
  have HVR := Lib.hid hvr; have HB2 := Lib.hid hb2
  have hvb : w.heap.size + 4 ≤ w1.heap.size := by have := lt_of_block HLC1.out.r3; omega
  have HVB := Lib.hid hvb
  have HTK := Lib.hid (show Calls Try.prog 13 #[.pointer (some ⟨p, 0, none⟩), .agg #[.int .i64 n, .int .i64 g]] W2.drew (GdP (arI p (R'.enc most)) w0 L2 W2.drew (.returned (.int .i64 t3))) from by
    have := rel_G HG2.out HA.out (by omega) n g
    rw [HTE.out.1] at this
    exact this)
  clear hvr hb2 l1 l2 hG2
  have n0 : ¬ (w1.heap.size = w.heap.size + 1 + 1) := by omega
  have n2 : ¬ (w.heap.size + 1 + 1 = w1.heap.size) := by omega
  clear hvb
  go_region_held3 (fun w' => w'.cell? ⟨w1.heap.size, 0, none⟩ = some (.int .i64 most) ∧ w'.cell? ⟨w1.heap.size, 1, none⟩ = some (.slice qg' R'.gens.length cg') ∧ w'.cell? ⟨w1.heap.size, 2, none⟩ = some (.slice qt' R'.taken.length ct') ∧ w'.cell? ⟨w1.heap.size, 3, none⟩ = some (.slice qf' R'.free.length cf') ∧ w'.cell? ⟨w.heap.size + 1 + 1 + 1, 0, none⟩ = some (.int .i64 n) ∧ w'.cell? ⟨w.heap.size + 1 + 1 + 1, 1, none⟩ = some (.int .i64 g))
    (first | exact k0 | exact k3 | (obtain ⟨z0, z1, z2, z3, z4, z5⟩ := k3; exact ⟨by go_simp, by go_simp, by go_simp, by go_simp, by go_simp, by go_simp⟩))
    (first
      | (go_at_call 13; (with_reducible refine HTK.out.mono ?_); rintro e w3 ⟨rfl, hG3, hK3⟩
         have hlc3 := HLC2.out.keep (W' := w3) fun k h1 h2 => (hK3.blk k (HL2b.out k (HL1b.out k (HL2.out k h1 (by have := HWs.out; omega))))).trans rfl
         have HG3 := Lib.hid hG3; have HK3 := Lib.hid hK3; have HLC3 := Lib.hid hlc3
         have hv3 := (hK3.blk w1.heap.size (HL2c.out _ (Nat.le_refl _) (lt_of_block HVR.out))).trans HVR.out
         have k3 := c6'_of hv3 hlc3.r3
         have s0 := cell_of_row _ _ 0 _ _ _ hlc3.r2; have s1 := cell_of_row _ _ 1 _ _ _ hlc3.r2; have s2 := cell_of_row _ _ 2 _ _ _ hlc3.r2; have s3 := cell_of_row _ _ 3 _ _ _ hlc3.r2
         have f3 := fun j => frozen_of_row _ _ j _ _ hlc3.r2
         clear hG3 hK3 hlc3 hv3 k0))
  clear k3
  go_wp2_with fail
  refine bodyPost_ret (v := .tuple #[.pointer (some ⟨p, 0, none⟩), .agg #[.int .i64 most, .slice qg' R'.gens.length cg', .slice qt' R'.taken.length ct', .slice qf' R'.free.length cf'], .bool true]) (by simp [results, Try.results19, go_sem, s0, s1, s2, s3]) rfl ?_
  refine do_end HG3.out (HR2.out.kept ⟨HK3.out.blk⟩) HLC3.out.r2 (HL2b.out _ (HL1b.out _ (HL2.out _ (by omega) (by have := HWs.out; omega)))) (by omega) HW0.out HLt.out (fun k hk => HL2b.out _ (HL1b.out _ (HL1.out _ hk))) ⟨fun k hk => ?_⟩ HTE.out.2 HTL.out _ _ _ _
  have h0 := HLt.out k hk
  exact (HK3.out.blk k (HL2b.out _ (HL1b.out _ (HL1.out _ hk)))).trans ((HB2.out.block k (by have := HVB.out; omega)).trans ((HB1.out.block k (by have := HW.out.size; omega)).trans (HW.out.block k h0)))
end
end Go.Proofs.Ytiiiciehilfmfaa
