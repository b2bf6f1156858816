/- ArenaPlays: do 3. -/
import Derived.Test.YtiiiciehilfmfaaPl09C
namespace Go.Proofs.Ytiiiciehilfmfaa
open Go.RowKit

section
variable {w0 w : World} {p : Nat} {L : Nat → Prop} {gv tv fv : Value} {R : RA} {i : Nat} {most : Int}

/-- Eight cells: an arena, and two references. -/
def C8 (w : World) (b c d : Nat) (a0 a1 a2 a3 x0 x1 y0 y1 : Value) : Prop :=
  w.cell? ⟨b, 0, none⟩ = some a0 ∧ w.cell? ⟨b, 1, none⟩ = some a1 ∧ w.cell? ⟨b, 2, none⟩ = some a2 ∧ w.cell? ⟨b, 3, none⟩ = some a3 ∧ w.cell? ⟨c, 0, none⟩ = some x0 ∧ w.cell? ⟨c, 1, none⟩ = some x1 ∧ w.cell? ⟨d, 0, none⟩ = some y0 ∧ w.cell? ⟨d, 1, none⟩ = some y1
theorem c8_of {w : World} {b c d : Nat} {a0 a1 a2 a3 x0 x1 y0 y1 : Value} (h1 : w.heap[b]? = some (.cells #[a0, a1, a2, a3] 48 (0, 0))) (h2 : w.heap[c]? = some (.cells #[x0, x1] 30 (0, 0))) (h3 : w.heap[d]? = some (.cells #[y0, y1] 30 (0, 0))) : C8 w b c d a0 a1 a2 a3 x0 x1 y0 y1 :=
  ⟨cell_of_row _ _ 0 _ _ _ h1, cell_of_row _ _ 1 _ _ _ h1, cell_of_row _ _ 2 _ _ _ h1, cell_of_row _ _ 3 _ _ _ h1, cell_of_row _ _ 0 _ _ _ h2, cell_of_row _ _ 1 _ _ _ h2, cell_of_row _ _ 0 _ _ _ h3, cell_of_row _ _ 1 _ _ _ h3⟩

set_option maxHeartbeats 4000000 in
theorem do_3 (h : Gd (arI p (R.enc most)) w0 L w) (hr : RfIn w L gv tv fv R) (ok : R.Ok i) (hi : i ≤ 199) (hm : (R.gens.length : Int) ≤ most) (h1 : 1 ≤ most) (h2 : most ≤ 1048576) (n g : Int) :
    Calls Try.prog 19 #[.pointer (some ⟨p, 0, none⟩), .agg #[.int .i64 most, gv, tv, fv], .agg #[.int .i64 3, .int .i64 n, .int .i64 g]] w (DoP w0 L w most i) := by
  obtain ⟨qg, cg, rfl, _, _⟩ := own_view hr.rf.hg
  obtain ⟨qt, ct, rfl, _, _⟩ := own_view hr.rf.ht
  obtain ⟨qf, cf, rfl, _, _⟩ := own_view hr.rf.hf
  have HI := Lib.hid (arI_framed p (R.enc most))
  have HOK := Lib.hid ok
  have HA := Lib.hid (ok.enc h1 h2 (by omega))
  have hlc := loc_new w most (.slice qg R.gens.length cg) (.slice qt R.taken.length ct) (.slice qf R.free.length cf) 3 n g
  have hbw := ((((Below.refl w.heap.size w).alloc (Nat.le_refl _) (.cells #[.int .i64 most, .slice qg R.gens.length cg, .slice qt R.taken.length ct, .slice qf R.free.length cf] 48)).alloc (by simp) (.cells #[.int .i64 3, .int .i64 n, .int .i64 g] 39)).alloc (by simp; omega) (.cells #[.int .i64 0, .slice none 0 0, .slice none 0 0, .slice none 0 0] 48)).alloc (by simp; omega) (.cells #[.int .i64 n, .int .i64 g] 30)
  have HLt := Lib.hid (fun k (hk : L k) => h.lt k hk)
  have HW0 := Lib.hid h.below.size
  obtain ⟨L0, l1, l2, hG0⟩ := h.later HI.out hbw
  have HG := Lib.hid hG0
  have HR := Lib.hid ((hr.later hbw).mono l1)
  have HL1 := Lib.hid l1
  have HL2 := Lib.hid l2
  clear h hr ok l1 l2 hG0
  go_enter Try.func19, Try.ntmps19
  go_wp2_with fail
  generalize (((w.alloc (.cells #[.int .i64 most, .slice qg R.gens.length cg, .slice qt R.taken.length ct, .slice qf R.free.length cf] 48)).alloc (.cells #[.int .i64 3, .int .i64 n, .int .i64 g] 39)).alloc (.cells #[.int .i64 0, .slice none 0 0, .slice none 0 0, .slice none 0 0] 48)).alloc (.cells #[.int .i64 n, .int .i64 g] 30) = W at *
  have HLC := Lib.hid hlc; have HW := Lib.hid hbw
  clear hlc hbw
  have hsz := lt_of_block HLC.out.r3
  have HAT := Lib.hid (HOK.out.at n)
  have HHS := Lib.hid (HOK.out.has n g)
  refine (atr_B HR.out HOK.out n).mono ?_
  rintro e wa ⟨rfl, hba⟩
  unfold RefE
  have hlca := HLC.out.keep (W' := wa) fun k h1 h2 => hba.block k (by omega)
  have e0 := cell_of_row _ _ 0 _ _ _ hlca.r0
  have e1 := cell_of_row _ _ 1 _ _ _ hlca.r0
  have e2 := cell_of_row _ _ 2 _ _ _ hlca.r0
  have e3 := cell_of_row _ _ 3 _ _ _ hlca.r0
  have HLCa := Lib.hid hlca
  have hws : w.heap.size + 4 ≤ wa.heap.size := by have := hba.size; omega
  have HWSZ := Lib.hid hws
  have HRa := Lib.hid (HR.out.later hba)
  have HGa := Lib.hid (HG.out.new HI.out hba)
  have HWa := Lib.hid (HW.out.trans (hba.mono HW.out.size))
  generalize atR R.gens R.taken n = rr at *
  obtain ⟨r1, r2, r3⟩ := rr
  have HWs := Lib.hid hsz
  clear hlca hba hsz hws HR HG HW HLC
  go_wp2_with fail
  have hwr : (wa.alloc (.cells #[.int .i64 r1, .int .i64 r2] 30)).heap[wa.heap.size]? = some (.cells #[.int .i64 r1, .int .i64 r2] 30 (0, 0)) := heap_alloc_new _ _
  have hb2 := (Below.refl wa.heap.size wa).alloc (Nat.le_refl _) (.cells #[.int .i64 r1, .int .i64 r2] 30)
  obtain ⟨L2, l1, l2, hG2⟩ := HGa.out.later HI.out hb2
  have HL2b := Lib.hid l1
  have HL2c := Lib.hid l2
  have HG2 := Lib.hid (hG2.drew HI.out)
  have HR2 := Lib.hid ((HRa.out.later hb2).mono l1)
  have HLC2 := Lib.hid (HLCa.out.keep (W' := wa.alloc (.cells #[.int .i64 r1, .int .i64 r2] 30)) fun k h1 h2 => hb2.block k (by have := HWSZ.out; omega))
  have HW2 := Lib.hid (HWa.out.trans (hb2.mono HWa.out.size))
  generalize wa.alloc (.cells #[.int .i64 r1, .int .i64 r2] 30) = W2 at *
  have k0 := c8_of HLC2.out.r0 HLC2.out.r3 hwr
  have HVR := Lib.hid hwr
  have hvb := HWSZ.out
  have HTK := Lib.hid (show Calls Try.prog 14 #[.pointer (some ⟨p, 0, none⟩), .int .i64 n, .agg #[.int .i64 r1, .int .i64 r2], .int .i64 r3] W2.drew (GdP (arI p (R.enc most)) w0 L2 W2.drew (.returned (.bool true))) from by
    have := ats_G HG2.out HA.out.m0 n r1 r2 r3
    rw [show atA (R.enc most).gens n = (r1, r2, r3) from HAT.out] at this
    simpa using this)
  have HHA := Lib.hid (show ∀ w', Gd (arI p (R.enc most)) w0 L2 w' → Calls Try.prog 17 #[.pointer (some ⟨p, 0, none⟩), .agg #[.int .i64 n, .int .i64 g]] w' (BPr w' (.returned (.bool (hasR R.gens R.taken n g)))) from fun w' h => by
    have := has_B h HA.out.m0 n g
    rwa [show hasA (R.enc most).gens n g = hasR R.gens R.taken n g from HHS.out] at this)
  have HHR := Lib.hid (show ∀ w', RfIn w' L2 (.slice qg R.gens.length cg) (.slice qt R.taken.length ct) (.slice qf R.free.length cf) R → Calls Try.prog 28 #[.agg #[.int .i64 most, .slice qg R.gens.length cg, .slice qt R.taken.length ct, .slice qf R.free.length cf], .agg #[.int .i64 n, .int .i64 g]] w' (BPr w' (.returned (.bool (hasR R.gens R.taken n g)))) from fun w' h => hasr_B h HOK.out n g)
  clear HHS HAT
  generalize hasR R.gens R.taken n g = bb at *
  clear hwr hb2 l1 l2 hG2 HGa HRa HLCa
  have n0 : ¬ (wa.heap.size = w.heap.size + 1 + 1) := by omega
  have n1 : ¬ (w.heap.size + 1 + 1 = wa.heap.size) := by omega
  have n2 : ¬ (w.heap.size = w.heap.size + 1 + 1) := by omega
  have n3 : ¬ (w.heap.size + 1 + 1 = w.heap.size) := by omega
  have n4 : ¬ (w.heap.size + 1 + 1 + 1 = w.heap.size + 1 + 1) := by omega
  have n5 : ¬ (w.heap.size + 1 + 1 = w.heap.size + 1 + 1 + 1) := by omega
  clear hvb
  go_region_held3 (fun w' => w'.cell? ⟨w.heap.size, 0, none⟩ = some (.int .i64 most) ∧ w'.cell? ⟨w.heap.size, 1, none⟩ = some (.slice qg R.gens.length cg) ∧ w'.cell? ⟨w.heap.size, 2, none⟩ = some (.slice qt R.taken.length ct) ∧ w'.cell? ⟨w.heap.size, 3, none⟩ = some (.slice qf R.free.length cf) ∧ w'.cell? ⟨w.heap.size + 1 + 1 + 1, 0, none⟩ = some (.int .i64 n) ∧ w'.cell? ⟨w.heap.size + 1 + 1 + 1, 1, none⟩ = some (.int .i64 g) ∧ w'.cell? ⟨wa.heap.size, 0, none⟩ = some (.int .i64 r1) ∧ w'.cell? ⟨wa.heap.size, 1, none⟩ = some (.int .i64 r2))
    (first | exact k0 | exact k3 | exact k4 | exact k5 | (obtain ⟨z0, z1, z2, z3, z4, z5, z6, z7⟩ := k5; exact ⟨by go_simp, by go_simp, by go_simp, by go_simp, by go_simp, by go_simp, by go_simp, by go_simp⟩))
    (first
      | (go_at_call 14; (with_reducible refine HTK.out.mono ?_); rintro e w3 ⟨rfl, hG3, hK3⟩
         have hlc3 := HLC2.out.keep (W' := w3) fun k h1 h2 => (hK3.blk k (HL2b.out k (HL2.out k h1 (by have := HWs.out; omega)))).trans rfl
         have hv3 := (hK3.blk wa.heap.size (HL2c.out _ (Nat.le_refl _) (lt_of_block HVR.out))).trans HVR.out
         have k3 := c8_of hlc3.r0 hlc3.r3 hv3
         have HG3 := Lib.hid hG3; have HLC3 := Lib.hid hlc3; have HV3 := Lib.hid hv3
         have HR3 := Lib.hid (HR2.out.kept (w' := w3) ⟨hK3.blk⟩)
         have HKK3 := Lib.hid (show ∀ k, k < w.heap.size → L2 k → w3.heap[k]? = w.heap[k]? from fun k hk hl => (hK3.blk k hl).trans (HW2.out.block k hk))
         clear hG3 hK3 hlc3 hv3 k0)
      | (go_at_call 17; (with_reducible refine (HHA.out _ HG3.out).mono ?_); rintro e w4 ⟨rfl, b4⟩
         have hlc4 := HLC3.out.keep (W' := w4) fun k h1 h2 => b4.block k (by have := lt_of_block HLC3.out.r3; omega)
         have hv4 := heap_later HV3.out b4
         have k4 := c8_of hlc4.r0 hlc4.r3 hv4
         have HG4 := Lib.hid (HG3.out.new HI.out b4); have HLC4 := Lib.hid hlc4; have HV4 := Lib.hid hv4
         have HR4 := Lib.hid (HR3.out.later b4)
         have HKK4 := Lib.hid (show ∀ k, k < w.heap.size → L2 k → w4.heap[k]? = w.heap[k]? from fun k hk hl => (b4.block k (by have := lt_of_block HLC3.out.r3; omega)).trans (HKK3.out k hk hl))
         clear b4 hlc4 hv4 k3)
      | (go_at_call 28; (with_reducible refine (HHR.out _ HR4.out).mono ?_); rintro e w5 ⟨rfl, b5⟩
         have hlc5 := HLC4.out.keep (W' := w5) fun k h1 h2 => b5.block k (by have := lt_of_block HLC4.out.r3; omega)
         have hv5 := heap_later HV4.out b5
         have k5 := c8_of hlc5.r0 hlc5.r3 hv5
         have HG5 := Lib.hid (HG4.out.new HI.out b5); have HLC5 := Lib.hid hlc5
         have HR5 := Lib.hid (HR4.out.later b5)
         have HKK5 := Lib.hid (show ∀ k, k < w.heap.size → L2 k → w5.heap[k]? = w.heap[k]? from fun k hk hl => (b5.block k (by have := lt_of_block HLC4.out.r3; omega)).trans (HKK4.out k hk hl))
         have s0 := cell_of_row _ _ 0 _ _ _ hlc5.r2; have s1 := cell_of_row _ _ 1 _ _ _ hlc5.r2; have s2 := cell_of_row _ _ 2 _ _ _ hlc5.r2; have s3 := cell_of_row _ _ 3 _ _ _ hlc5.r2
         have f3 := fun j => frozen_of_row _ _ j _ _ hlc5.r2
         clear b5 hlc5 hv5 k4))
  clear k5
  go_wp2_with fail
  refine bodyPost_ret (v := .tuple #[.pointer (some ⟨p, 0, none⟩), .agg #[.int .i64 most, .slice qg R.gens.length cg, .slice qt R.taken.length ct, .slice qf R.free.length cf], .bool true]) (by simp [results, Try.results19, go_sem, s0, s1, s2, s3]) rfl ?_
  refine do_end HG5.out HR5.out HLC5.out.r2 (HL2b.out _ (HL2.out _ (by omega) (by have := HWs.out; omega))) (by omega) HW0.out HLt.out (fun k hk => HL2b.out _ (HL1.out _ hk)) ⟨fun k hk => HKK5.out k (HLt.out k hk) (HL2b.out _ (HL1.out _ hk))⟩ (HOK.out.mono (by omega)) hm _ _ _ _
end
end Go.Proofs.Ytiiiciehilfmfaa
