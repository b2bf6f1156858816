/- ArenaPlays: do 2. -/
import Derived.Test.YtiiiciehilfmfaaPl09D
namespace Go.Proofs.Ytiiiciehilfmfaa
open Go.RowKit

section
variable {w0 w : World} {p : Nat} {L : Nat → Prop} {gv tv fv : Value} {R : RA} {i : Nat} {most : Int}

theorem RfIn.set (h : RfIn w L gv tv fv R) {b : Nat} {cs : Array Value} {fr : Nat × Nat} (hr : w.heap[b]? = some (.cells cs 30 fr)) (o : Nat) (v : Value) : RfIn (w.setCell ⟨b, o, none⟩ v) L gv tv fv R := by
  have hint : 3 ≠ 30 := by decide
  have hbool : 4 ≠ 30 := by decide
  refine ⟨⟨?_, ?_, ?_⟩, h.lg, h.lt, h.lf⟩
  · exact ownsRow_block h.rf.hg fun k e => hset_ne _ _ _ _ _ (fun e2 => own_type_ne h.rf.hg hr hint (e2 ▸ e))
  · exact ownsRow_block h.rf.ht fun k e => hset_ne _ _ _ _ _ (fun e2 => own_type_ne h.rf.ht hr hbool (e2 ▸ e))
  · exact ownsRow_block h.rf.hf fun k e => hset_ne _ _ _ _ _ (fun e2 => own_type_ne h.rf.hf hr hint (e2 ▸ e))
theorem loc_set {wh n g : Int} {b : Nat} (h : Loc w b most gv tv fv wh n g) (n' g' : Int) (o : Obj) : Loc (((w.setCell ⟨b + 1 + 1 + 1, 0, none⟩ (.int .i64 n')).setCell ⟨b + 1 + 1 + 1, 1, none⟩ (.int .i64 g')).alloc o) b most gv tv fv wh n' g' := by
  have hs := lt_of_block h.r3
  have hk : ∀ k, k ≠ b + 1 + 1 + 1 → k < w.heap.size → (((w.setCell ⟨b + 1 + 1 + 1, 0, none⟩ (.int .i64 n')).setCell ⟨b + 1 + 1 + 1, 1, none⟩ (.int .i64 g')).alloc o).heap[k]? = w.heap[k]? := fun k h1 h2 => by
    rw [hall_old _ _ _ (by simp only [hset_size]; exact h2), hset_ne _ _ _ _ _ h1, hset_ne _ _ _ _ _ h1]
  refine ⟨(hk _ (by omega) (by omega)).trans h.r0, h.r1.imp fun _ q => q.imp fun _ q => (hk _ (by omega) (by omega)).trans q, (hk _ (by omega) (by omega)).trans h.r2, ?_⟩
  rw [hall_old _ _ _ (by simp only [hset_size]; exact hs)]
  exact hset_eq (hset_eq h.r3 0 _) 1 _

set_option maxHeartbeats 4000000 in
theorem do_2 (h : Gd (arI p (R.enc most)) w0 L w) (hr : RfIn w L gv tv fv R) (ok : R.Ok i) (hi : i ≤ 199) (hm : (R.gens.length : Int) ≤ most) (h1 : 1 ≤ most) (h2 : most ≤ 1048576) (n g : Int) :
    Calls Try.prog 19 #[.pointer (some ⟨p, 0, none⟩), .agg #[.int .i64 most, gv, tv, fv], .agg #[.int .i64 2, .int .i64 n, .int .i64 g]] w (DoP w0 L w most i) := by
  obtain ⟨qg, cg, rfl, _, _⟩ := own_view hr.rf.hg
  obtain ⟨qt, ct, rfl, _, _⟩ := own_view hr.rf.ht
  obtain ⟨qf, cf, rfl, _, _⟩ := own_view hr.rf.hf
  have HI := Lib.hid (arI_framed p (R.enc most))
  have HOK := Lib.hid ok
  have HA := Lib.hid (ok.enc h1 h2 (by omega))
  have hlc := loc_new w most (.slice qg R.gens.length cg) (.slice qt R.taken.length ct) (.slice qf R.free.length cf) 2 n g
  have hbw := ((((Below.refl w.heap.size w).alloc (Nat.le_refl _) (.cells #[.int .i64 most, .slice qg R.gens.length cg, .slice qt R.taken.length ct, .slice qf R.free.length cf] 48)).alloc (by simp) (.cells #[.int .i64 2, .int .i64 n, .int .i64 g] 39)).alloc (by simp; omega) (.cells #[.int .i64 0, .slice none 0 0, .slice none 0 0, .slice none 0 0] 48)).alloc (by simp; omega) (.cells #[.int .i64 n, .int .i64 g] 30)
  have HLt := Lib.hid (fun k (hk : L k) => h.lt k hk)
  have HW0 := Lib.hid h.below.size
  obtain ⟨L0, l1, l2, hG0⟩ := h.later HI.out hbw
  have HG := Lib.hid hG0
  have HR := Lib.hid ((hr.later hbw).mono l1)
  have HL1 := Lib.hid l1
  have HL2 := Lib.hid l2
  clear h hr ok l1 l2 hG0
  go_enter Try.func19, Try.ntmps19
  go_wp2_with fail
  generalize (((w.alloc (.cells #[.int .i64 most, .slice qg R.gens.length cg, .slice qt R.taken.length ct, .slice qf R.free.length cf] 48)).alloc (.cells #[.int .i64 2, .int .i64 n, .int .i64 g] 39)).alloc (.cells #[.int .i64 0, .slice none 0 0, .slice none 0 0, .slice none 0 0] 48)).alloc (.cells #[.int .i64 n, .int .i64 g] 30) = W at *
  have HLC := Lib.hid hlc; have HW := Lib.hid hbw
  clear hlc hbw
  have HL2' := Lib.hid (show ∀ k, w.heap.size ≤ k → k < w.heap.size + 4 → L0 k from fun k h1 h2 => HL2.out k h1 (by have := lt_of_block HLC.out.r3; omega))
  clear HL2
  have HL2 := HL2'
  clear HL2'
  refine (atr_B HR.out HOK.out n).mono ?_
  rintro e wa ⟨rfl, hba⟩
  unfold RefE
  have hsz := lt_of_block HLC.out.r3
  have hlca := HLC.out.keep (W' := wa) fun k h1 h2 => hba.block k (by omega)
  have e0 := cell_of_row _ _ 0 _ _ _ hlca.r0
  have e1 := cell_of_row _ _ 1 _ _ _ hlca.r0
  have e2 := cell_of_row _ _ 2 _ _ _ hlca.r0
  have e3 := cell_of_row _ _ 3 _ _ _ hlca.r0
  have s3 := cell_of_row _ _ 0 _ _ _ hlca.r3
  have s4 := cell_of_row _ _ 1 _ _ _ hlca.r3
  have f3 := fun j => frozen_of_row _ _ j _ _ hlca.r3
  have HLCa := Lib.hid hlca
  have HBa := Lib.hid hba
  have hws : w.heap.size + 4 ≤ wa.heap.size := by have := hba.size; omega
  have n0 : ¬ (wa.heap.size = w.heap.size + 1 + 1 + 1) := by omega
  have n1 : ¬ (w.heap.size + 1 + 1 + 1 = wa.heap.size) := by omega
  have n2 : ¬ (w.heap.size = w.heap.size + 1 + 1 + 1) := by omega
  have m0 : w.heap.size + 1 + 1 + 1 < wa.heap.size := by omega
  have m1 : w.heap.size < wa.heap.size := by omega
  have HWSZ := Lib.hid hws
  have HRa := Lib.hid (HR.out.later hba)
  have HGa := Lib.hid (HG.out.new HI.out hba)
  have HWa := Lib.hid (HW.out.trans (hba.mono HW.out.size))
  clear hlca hba hsz hws HR HG HW HLC HBa
  by_cases hc : 0 ≤ n ∧ n < R.gens.length ∧ R.taken.getD n.toNat false = true
  · have HAt := Lib.hid (show atR R.gens R.taken n = (n, R.gens.getD n.toNat 0, 0) from if_pos hc)
    rw [HAt.out]
    clear hc
    generalize R.gens.getD n.toNat 0 = g2 at *
    have HTE := Lib.hid (HOK.out.rel most n g2)
    have HTL := Lib.hid (RA.rel_le (n := n) (g := g2) hm)
    go_wp2_with fail
    clear e0 e1 e2 e3 s3 s4 f3 n0 n1 n2 m0 m1
    have hl3 : L0 (w.heap.size + 1 + 1 + 1) := HL2.out _ (by omega) (by omega)
    have hr3 := HRa.out.set (HLCa.out.r3) 0 (.int .i64 n)
    have hr4 := (hr3.set (hset_eq HLCa.out.r3 0 (.int .i64 n)) 1 (.int .i64 g2)).later ((Below.refl _ _).alloc (Nat.le_refl _) (.cells #[.int .i64 n, .int .i64 g2] 30))
    have hg4 := ((HGa.out.set HI.out hl3 (by have := HW0.out; omega) 0 (.int .i64 n)).set HI.out hl3 (by have := HW0.out; omega) 1 (.int .i64 g2)).new HI.out ((Below.refl _ _).alloc (Nat.le_refl _) (.cells #[.int .i64 n, .int .i64 g2] 30))
    have hlc4 := loc_set HLCa.out n g2 (.cells #[.int .i64 n, .int .i64 g2] 30)
    have hw4 := ((HWa.out.setCell (p := ⟨w.heap.size + 1 + 1 + 1, 0, none⟩) (show w.heap.size ≤ w.heap.size + 1 + 1 + 1 by omega) (.int .i64 n)).setCell (p := ⟨w.heap.size + 1 + 1 + 1, 1, none⟩) (show w.heap.size ≤ w.heap.size + 1 + 1 + 1 by omega) (.int .i64 g2)).alloc (by simp only [hset_size]; have := HWSZ.out; omega) (.cells #[.int .i64 n, .int .i64 g2] 30)
    clear hr3 HRa HGa HLCa HWa HWSZ hl3
    generalize ((wa.setCell ⟨w.heap.size + 1 + 1 + 1, 0, none⟩ (.int .i64 n)).setCell ⟨w.heap.size + 1 + 1 + 1, 1, none⟩ (.int .i64 g2)).alloc (.cells #[.int .i64 n, .int .i64 g2] 30) = Wn at *
    have HR := Lib.hid hr4; have HG := Lib.hid hg4; have HLC := Lib.hid hlc4; have HW := Lib.hid hw4
    clear hr4 hg4 hlc4 hw4
    refine (relr_G HI.out HG.out HR.out HOK.out (by omega) n g2).mono ?_
    rintro e w1 ⟨gv', tv', fv', L1, rfl, l1, l2, hG1, hr1, hb1⟩
    simp only [List.append_toArray, List.cons_append, List.nil_append]
    generalize R.rel n g2 = T at *
    obtain ⟨t3, R'⟩ := T
    simp only at hr1
    obtain ⟨qg', cg', rfl, _, _⟩ := own_view hr1.rf.hg
    obtain ⟨qt', ct', rfl, _, _⟩ := own_view hr1.rf.ht
    obtain ⟨qf', cf', rfl, _, _⟩ := own_view hr1.rf.hf
    have HR1 := Lib.hid hr1; have HG1 := Lib.hid hG1
    have HL1b := Lib.hid l1
    have HWs := Lib.hid (lt_of_block HLC.out.r3)
    have hlc1 := HLC.out.keep (W' := w1) fun k h1 h2 => hb1.block k (by have := HWs.out; omega)
    have HLC1 := Lib.hid hlc1
    have HB1 := Lib.hid hb1
    clear hr1 hG1 l1 l2 hlc1 hb1
    go_wp2_with fail
    have hvr : (w1.alloc (.cells #[.int .i64 most, .slice qg' R'.gens.length cg', .slice qt' R'.taken.length ct', .slice qf' R'.free.length cf'] 48)).heap[w1.heap.size]? = some (.cells #[.int .i64 most, .slice qg' R'.gens.length cg', .slice qt' R'.taken.length ct', .slice qf' R'.free.length cf'] 48 (0, 0)) := heap_alloc_new _ _
    have hb2 := (Below.refl w1.heap.size w1).alloc (Nat.le_refl _) (.cells #[.int .i64 most, .slice qg' R'.gens.length cg', .slice qt' R'.taken.length ct', .slice qf' R'.free.length cf'] 48)
    obtain ⟨L2, l1, l2, hG2⟩ := HG1.out.later HI.out hb2
    have HL2b := Lib.hid l1
    have HL2c := Lib.hid l2
    have HG2 := Lib.hid (hG2.drew HI.out)
    have HR2 := Lib.hid ((HR1.out.later hb2).mono l1)
    have HLC2 := Lib.hid (HLC1.out.keep (W' := w1.alloc (.cells #[.int .i64 most, .slice qg' R'.gens.length cg', .slice qt' R'.taken.length ct', .slice qf' R'.free.length cf'] 48)) fun k h1 h2 => hb2.block k (by have := lt_of_block HLC1.out.r3; omega))
    generalize w1.alloc (.cells #[.int .i64 most, .slice qg' R'.gens.length cg', .slice qt' R'.taken.length ct', .slice qf' R'.free.length cf'] 48) = W2 at *
    have k0 := c6'_of hvr HLC2.out.r3
    have HVR := Lib.hid hvr; have HB2 := Lib.hid hb2
    have hvb : w.heap.size + 4 ≤ w1.heap.size := by have := lt_of_block HLC1.out.r3; omega
    have HVB := Lib.hid hvb
    have HTK := Lib.hid (show Calls Try.prog 13 #[.pointer (some ⟨p, 0, none⟩), .agg #[.int .i64 n, .int .i64 g2]] W2.drew (GdP (arI p (R'.enc most)) w0 L2 W2.drew (.returned (.int .i64 t3))) from by
      have := rel_G HG2.out HA.out (by omega) n g2
      rw [HTE.out.1] at this
      exact this)
    clear hvr hb2 l1 l2 hG2
    have n0 : ¬ (w1.heap.size = w.heap.size + 1 + 1) := by omega
    have n2 : ¬ (w.heap.size + 1 + 1 = w1.heap.size) := by omega
    clear hvb
    go_region_held3 (fun w' => w'.cell? ⟨w1.heap.size, 0, none⟩ = some (.int .i64 most) ∧ w'.cell? ⟨w1.heap.size, 1, none⟩ = some (.slice qg' R'.gens.length cg') ∧ w'.cell? ⟨w1.heap.size, 2, none⟩ = some (.slice qt' R'.taken.length ct') ∧ w'.cell? ⟨w1.heap.size, 3, none⟩ = some (.slice qf' R'.free.length cf') ∧ w'.cell? ⟨w.heap.size + 1 + 1 + 1, 0, none⟩ = some (.int .i64 n) ∧ w'.cell? ⟨w.heap.size + 1 + 1 + 1, 1, none⟩ = some (.int .i64 g2))
      (first | exact k0 | exact k3 | (obtain ⟨z0, z1, z2, z3, z4, z5⟩ := k3; exact ⟨by go_simp, by go_simp, by go_simp, by go_simp, by go_simp, by go_simp⟩))
      (first
        | (go_at_call 13; (with_reducible refine HTK.out.mono ?_); rintro e w3 ⟨rfl, hG3, hK3⟩
           have hlc3 := HLC2.out.keep (W' := w3) fun k h1 h2 => (hK3.blk k (HL2b.out k (HL1b.out k (HL2.out k h1 (by have := HWs.out; omega))))).trans rfl
           have HG3 := Lib.hid hG3; have HK3 := Lib.hid hK3; have HLC3 := Lib.hid hlc3
           have hv3 := (hK3.blk w1.heap.size (HL2c.out _ (Nat.le_refl _) (lt_of_block HVR.out))).trans HVR.out
           have k3 := c6'_of hv3 hlc3.r3
           have s0 := cell_of_row _ _ 0 _ _ _ hlc3.r2; have s1 := cell_of_row _ _ 1 _ _ _ hlc3.r2; have s2 := cell_of_row _ _ 2 _ _ _ hlc3.r2; have s3 := cell_of_row _ _ 3 _ _ _ hlc3.r2
           have f3 := fun j => frozen_of_row _ _ j _ _ hlc3.r2
           clear hG3 hK3 hlc3 hv3 k0))
    clear k3
    go_wp2_with fail
    refine bodyPost_ret (v := .tuple #[.pointer (some ⟨p, 0, none⟩), .agg #[.int .i64 most, .slice qg' R'.gens.length cg', .slice qt' R'.taken.length ct', .slice qf' R'.free.length cf'], .bool true]) (by simp [results, Try.results19, go_sem, s0, s1, s2, s3]) rfl ?_
    refine do_end HG3.out (HR2.out.kept ⟨HK3.out.blk⟩) HLC3.out.r2 (HL2b.out _ (HL1b.out _ (HL2.out _ (by omega) (by have := HWs.out; omega)))) (by omega) HW0.out HLt.out (fun k hk => HL2b.out _ (HL1b.out _ (HL1.out _ hk))) ⟨fun k hk => ?_⟩ HTE.out.2 HTL.out _ _ _ _
    have h0 := HLt.out k hk
    exact (HK3.out.blk k (HL2b.out _ (HL1b.out _ (HL1.out _ hk)))).trans ((HB2.out.block k (by have := HVB.out; omega)).trans ((HB1.out.block k (by have := HW.out.size; omega)).trans (HW.out.block k h0)))
  · have HAt := Lib.hid (show atR R.gens R.taken n = (0, 0, 9) from if_neg hc)
    rw [HAt.out]
    clear hc
    have HTE := Lib.hid (HOK.out.rel most n g)
    have HTL := Lib.hid (RA.rel_le (n := n) (g := g) hm)
    go_wp2_with fail
    clear e0 e1 e2 e3 s3 s4 f3 n0 n1 n2 m0 m1
    have hbn := (Below.refl wa.heap.size wa).alloc (Nat.le_refl _) (.cells #[.int .i64 0, .int .i64 0] 30)
    have hr4 := HRa.out.later hbn
    have hg4 := HGa.out.new HI.out hbn
    have hlc4 := HLCa.out.keep (W' := wa.alloc (.cells #[.int .i64 0, .int .i64 0] 30)) fun k h1 h2 => hbn.block k (by have := HWSZ.out; omega)
    have hw4 := HWa.out.trans (hbn.mono HWa.out.size)
    clear HRa HGa HLCa HWa HWSZ hbn
    generalize wa.alloc (.cells #[.int .i64 0, .int .i64 0] 30) = Wn at *
    have HR := Lib.hid hr4; have HG := Lib.hid hg4; have HLC := Lib.hid hlc4; have HW := Lib.hid hw4
    clear hr4 hg4 hlc4 hw4
    refine (relr_G HI.out HG.out HR.out HOK.out (by omega) n g).mono ?_
    rintro e w1 ⟨gv', tv', fv', L1, rfl, l1, l2, hG1, hr1, hb1⟩
    simp only [List.append_toArray, List.cons_append, List.nil_append]
    generalize R.rel n g = T at *
    obtain ⟨t3, R'⟩ := T
    simp only at hr1
    obtain ⟨qg', cg', rfl, _, _⟩ := own_view hr1.rf.hg
    obtain ⟨qt', ct', rfl, _, _⟩ := own_view hr1.rf.ht
    obtain ⟨qf', cf', rfl, _, _⟩ := own_view hr1.rf.hf
    have HR1 := Lib.hid hr1; have HG1 := Lib.hid hG1
    have HL1b := Lib.hid l1
    have HWs := Lib.hid (lt_of_block HLC.out.r3)
    have hlc1 := HLC.out.keep (W' := w1) fun k h1 h2 => hb1.block k (by have := HWs.out; omega)
    have HLC1 := Lib.hid hlc1
    have HB1 := Lib.hid hb1
    clear hr1 hG1 l1 l2 hlc1 hb1
    go_wp2_with fail
    have hvr : (w1.alloc (.cells #[.int .i64 most, .slice qg' R'.gens.length cg', .slice qt' R'.taken.length ct', .slice qf' R'.free.length cf'] 48)).heap[w1.heap.size]? = some (.cells #[.int .i64 most, .slice qg' R'.gens.length cg', .slice qt' R'.taken.length ct', .slice qf' R'.free.length cf'] 48 (0, 0)) := heap_alloc_new _ _
    have hb2 := (Below.refl w1.heap.size w1).alloc (Nat.le_refl _) (.cells #[.int .i64 most, .slice qg' R'.gens.length cg', .slice qt' R'.taken.length ct', .slice qf' R'.free.length cf'] 48)
    obtain ⟨L2, l1, l2, hG2⟩ := HG1.out.later HI.out hb2
    have HL2b := Lib.hid l1
    have HL2c := Lib.hid l2
    have HG2 := Lib.hid (hG2.drew HI.out)
    have HR2 := Lib.hid ((HR1.out.later hb2).mono l1)
    have HLC2 := Lib.hid (HLC1.out.keep (W' := w1.alloc (.cells #[.int .i64 most, .slice qg' R'.gens.length cg', .slice qt' R'.taken.length ct', .slice qf' R'.free.length cf'] 48)) fun k h1 h2 => hb2.block k (by have := lt_of_block HLC1.out.r3; omega))
    generalize w1.alloc (.cells #[.int .i64 most, .slice qg' R'.gens.length cg', .slice qt' R'.taken.length ct', .slice qf' R'.free.length cf'] 48) = W2 at *
    have k0 := c6'_of hvr HLC2.out.r3
    have HVR := Lib.hid hvr; have HB2 := Lib.hid hb2
    have hvb : w.heap.size + 4 ≤ w1.heap.size := by have := lt_of_block HLC1.out.r3; omega
    have HVB := Lib.hid hvb
    have HTK := Lib.hid (show Calls Try.prog 13 #[.pointer (some ⟨p, 0, none⟩), .agg #[.int .i64 n, .int .i64 g]] W2.drew (GdP (arI p (R'.enc most)) w0 L2 W2.drew (.returned (.int .i64 t3))) from by
      have := rel_G HG2.out HA.out (by omega) n g
      rw [HTE.out.1] at this
      exact this)
    clear hvr hb2 l1 l2 hG2
    have n0 : ¬ (w1.heap.size = w.heap.size + 1 + 1) := by omega
    have n2 : ¬ (w.heap.size + 1 + 1 = w1.heap.size) := by omega
    clear hvb
    go_region_held3 (fun w' => w'.cell? ⟨w1.heap.size, 0, none⟩ = some (.int .i64 most) ∧ w'.cell? ⟨w1.heap.size, 1, none⟩ = some (.slice qg' R'.gens.length cg') ∧ w'.cell? ⟨w1.heap.size, 2, none⟩ = some (.slice qt' R'.taken.length ct') ∧ w'.cell? ⟨w1.heap.size, 3, none⟩ = some (.slice qf' R'.free.length cf') ∧ w'.cell? ⟨w.heap.size + 1 + 1 + 1, 0, none⟩ = some (.int .i64 n) ∧ w'.cell? ⟨w.heap.size + 1 + 1 + 1, 1, none⟩ = some (.int .i64 g))
      (first | exact k0 | exact k3 | (obtain ⟨z0, z1, z2, z3, z4, z5⟩ := k3; exact ⟨by go_simp, by go_simp, by go_simp, by go_simp, by go_simp, by go_simp⟩))
      (first
        | (go_at_call 13; (with_reducible refine HTK.out.mono ?_); rintro e w3 ⟨rfl, hG3, hK3⟩
           have hlc3 := HLC2.out.keep (W' := w3) fun k h1 h2 => (hK3.blk k (HL2b.out k (HL1b.out k (HL2.out k h1 (by have := HWs.out; omega))))).trans rfl
           have HG3 := Lib.hid hG3; have HK3 := Lib.hid hK3; have HLC3 := Lib.hid hlc3
           have hv3 := (hK3.blk w1.heap.size (HL2c.out _ (Nat.le_refl _) (lt_of_block HVR.out))).trans HVR.out
           have k3 := c6'_of hv3 hlc3.r3
           have s0 := cell_of_row _ _ 0 _ _ _ hlc3.r2; have s1 := cell_of_row _ _ 1 _ _ _ hlc3.r2; have s2 := cell_of_row _ _ 2 _ _ _ hlc3.r2; have s3 := cell_of_row _ _ 3 _ _ _ hlc3.r2
           have f3 := fun j => frozen_of_row _ _ j _ _ hlc3.r2
           clear hG3 hK3 hlc3 hv3 k0))
    clear k3
    go_wp2_with fail
    refine bodyPost_ret (v := .tuple #[.pointer (some ⟨p, 0, none⟩), .agg #[.int .i64 most, .slice qg' R'.gens.length cg', .slice qt' R'.taken.length ct', .slice qf' R'.free.length cf'], .bool true]) (by simp [results, Try.results19, go_sem, s0, s1, s2, s3]) rfl ?_
    refine do_end HG3.out (HR2.out.kept ⟨HK3.out.blk⟩) HLC3.out.r2 (HL2b.out _ (HL1b.out _ (HL2.out _ (by omega) (by have := HWs.out; omega)))) (by omega) HW0.out HLt.out (fun k hk => HL2b.out _ (HL1b.out _ (HL1.out _ hk))) ⟨fun k hk => ?_⟩ HTE.out.2 HTL.out _ _ _ _
    have h0 := HLt.out k hk
    exact (HK3.out.blk k (HL2b.out _ (HL1b.out _ (HL1.out _ hk)))).trans ((HB2.out.block k (by have := HVB.out; omega)).trans ((HB1.out.block k (by have := HW.out.size; omega)).trans (HW.out.block k h0)))
end
end Go.Proofs.Ytiiiciehilfmfaa
