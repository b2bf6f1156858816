/- ArenaPlays: do 4. -/
import Derived.Test.YtiiiciehilfmfaaPl09E
import Derived.Test.YtiiiciehilfmfaaPl09F
namespace Go.Proofs.Ytiiiciehilfmfaa
open Go.RowKit

section
variable {w0 w : World} {p : Nat} {L : Nat → Prop} {gv tv fv : Value} {R : RA} {i : Nat} {most : Int}

theorem DoP.drew {e : Ending} {w' : World} (h : DoP w0 L w most i e w') : DoP w0 L w most i e w'.drew := by
  obtain ⟨p', R', gv', tv', fv', L', h1, h2, h3, h4, h5, h6, h7⟩ := h
  exact ⟨p', R', gv', tv', fv', L', h1, h2, h3.drew (arI_framed _ _), h4.later (Below.refl _ _).drew, h5, h6, ⟨h7.blk⟩⟩

set_option maxHeartbeats 2000000 in
theorem do_4 (h : Gd (arI p (R.enc most)) w0 L w) (hr : RfIn w L gv tv fv R) (ok : R.Ok i) (hi : i ≤ 199) (hm : (R.gens.length : Int) ≤ most) (h1 : 1 ≤ most) (h2 : most ≤ 1048576) (wh n g : Int) (hw0 : wh ≠ 0) (hw1 : wh ≠ 1) (hw2 : wh ≠ 2) (hw3 : wh ≠ 3) :
    Calls Try.prog 19 #[.pointer (some ⟨p, 0, none⟩), .agg #[.int .i64 most, gv, tv, fv], .agg #[.int .i64 wh, .int .i64 n, .int .i64 g]] w (DoP w0 L w most i) := by
  obtain ⟨qg, cg, rfl, _, _⟩ := own_view hr.rf.hg
  obtain ⟨qt, ct, rfl, _, _⟩ := own_view hr.rf.ht
  obtain ⟨qf, cf, rfl, _, _⟩ := own_view hr.rf.hf
  have HI := Lib.hid (arI_framed p (R.enc most))
  have HOK := Lib.hid ok
  have HA := Lib.hid (ok.enc h1 h2 (by omega))
  have hlc := loc_new w most (.slice qg R.gens.length cg) (.slice qt R.taken.length ct) (.slice qf R.free.length cf) wh n g
  have hbw := ((((Below.refl w.heap.size w).alloc (Nat.le_refl _) (.cells #[.int .i64 most, .slice qg R.gens.length cg, .slice qt R.taken.length ct, .slice qf R.free.length cf] 48)).alloc (by simp) (.cells #[.int .i64 wh, .int .i64 n, .int .i64 g] 39)).alloc (by simp; omega) (.cells #[.int .i64 0, .slice none 0 0, .slice none 0 0, .slice none 0 0] 48)).alloc (by simp; omega) (.cells #[.int .i64 n, .int .i64 g] 30)
  have HLt := Lib.hid (fun k (hk : L k) => h.lt k hk)
  have HW0 := Lib.hid h.below.size
  obtain ⟨L0, l1, l2, hG0⟩ := h.later HI.out hbw
  have HG := Lib.hid hG0
  have HR := Lib.hid ((hr.later hbw).mono l1)
  have HL1 := Lib.hid l1
  have HL2 := Lib.hid l2
  clear h hr ok l1 l2 hG0
  have q0 : (wh == 0) = false := by simp [hw0]
  have q1 : (wh == 1) = false := by simp [hw1]
  have q2 : (wh == 2) = false := by simp [hw2]
  have q3 : (wh == 3) = false := by simp [hw3]
  go_enter Try.func19, Try.ntmps19
  go_wp2_with fail
  generalize (((w.alloc (.cells #[.int .i64 most, .slice qg R.gens.length cg, .slice qt R.taken.length ct, .slice qf R.free.length cf] 48)).alloc (.cells #[.int .i64 wh, .int .i64 n, .int .i64 g] 39)).alloc (.cells #[.int .i64 0, .slice none 0 0, .slice none 0 0, .slice none 0 0] 48)).alloc (.cells #[.int .i64 n, .int .i64 g] 30) = W at *
  have HLC := Lib.hid hlc; have HW := Lib.hid hbw
  clear hlc hbw
  have hsz := lt_of_block HLC.out.r3
  refine (copy_G HG.out HA.out.m0 HA.out.gl (by have := HA.out.fl; omega)).mono ?_
  rintro e wa ⟨p', rfl, F, La, hF, hF1, hF2, hla, hGa, hba⟩
  have hlca := HLC.out.keep (W' := wa) fun k h1 h2 => hba.block k (by omega)
  have e0 := cell_of_row _ _ 0 _ _ _ hlca.r0
  have HLCa := Lib.hid hlca
  have HRa := Lib.hid (HR.out.later hba)
  have HLT0 := Lib.hid (fun k (hk : L0 k) => HG.out.lt k hk)
  have HWZ := Lib.hid HG.out.below.size
  have HGa := Lib.hid hGa
  have HWa := Lib.hid (HW.out.trans (hba.mono HW.out.size))
  have HF := Lib.hid hF; have HF1 := Lib.hid hF1; have HF2 := Lib.hid hF2
  have HLa := Lib.hid hla
  have HSZ := Lib.hid hsz
  clear hlca hba hsz e0 hF hF1 hF2 hla hGa HG
  have hTE := HOK.out.take most
  have HA1 := Lib.hid (hTE.2.enc h1 h2 (by omega))
  have hT := take_G HGa.out HA.out (by omega)
  rw [hTE.1] at hT
  have HT := Lib.hid hT
  clear hTE hT
  go_wp2_with fail
  refine HT.out.mono ?_
  rintro e w1 ⟨rfl, hg1, hk1⟩
  unfold RefE
  have HG1 := Lib.hid hg1; have HK1 := Lib.hid hk1
  clear hg1 hk1
  go_wp2_with fail
  refine (rel_G HG1.out HA1.out (by omega) 0 1).mono ?_
  rintro e w2 ⟨rfl, hg2, hk2⟩
  have hk := HK1.out.trans hk2
  have hlc2 := HLCa.out.keep (W' := w2) fun k h1 h2 => hk.blk k (HLa.out k (HL2.out k h1 (by have := HSZ.out; omega)))
  have hF2 := (arI_framed p' (R.enc most)).keep HF.out (fun k g => hk.blk k (HF2.out k g))
  have HGE := Lib.hid (hg2.turn HWZ.out hF2 HF1.out HLa.out HLT0.out)
  have HRE := Lib.hid (HRa.out.kept (hk.mono HLa.out))
  have HKE := Lib.hid (show ∀ k, k < w.heap.size → L k → w2.heap[k]? = w.heap[k]? from fun k hk1 hl => (hk.blk k (HLa.out k (HL1.out k hl))).trans (HWa.out.block k hk1))
  have e0 := cell_of_row _ _ 0 _ _ _ hlc2.r0
  have e1 := cell_of_row _ _ 1 _ _ _ hlc2.r0
  have e2 := cell_of_row _ _ 2 _ _ _ hlc2.r0
  have e3 := cell_of_row _ _ 3 _ _ _ hlc2.r0
  have s0 := cell_of_row _ _ 0 _ _ _ hlc2.r2
  have s1 := cell_of_row _ _ 1 _ _ _ hlc2.r2
  have s2 := cell_of_row _ _ 2 _ _ _ hlc2.r2
  have s3 := cell_of_row _ _ 3 _ _ _ hlc2.r2
  have f3 := fun j => frozen_of_row _ _ j _ _ hlc2.r2
  have HLCE := Lib.hid hlc2
  have n2 : ¬ (w.heap.size = w.heap.size + 1 + 1) := by omega
  have n3 : ¬ (w.heap.size + 1 + 1 = w.heap.size) := by omega
  clear hg2 hk2 hk hlc2 hF2 HG1 HK1 HLCa HRa HWa HF HF1 HF2
  go_wp2_with fail
  go_region
  go_wp2_with fail
  refine bodyPost_ret (v := .tuple #[.pointer (some ⟨p', 0, none⟩), .agg #[.int .i64 most, .slice qg R.gens.length cg, .slice qt R.taken.length ct, .slice qf R.free.length cf], .bool true]) (by simp [results, Try.results19, go_sem, s0, s1, s2, s3]) rfl ?_
  refine DoP.drew (do_end (i := i) HGE.out HRE.out HLCE.out.r2 (HL2.out _ (by omega) (by have := HSZ.out; omega)) (by omega) HW0.out HLt.out HL1.out ⟨fun k hk => HKE.out k (HLt.out k hk) hk⟩ (HOK.out.mono (Nat.le_succ i)) hm _ _ _ _)

theorem do_G (h : Gd (arI p (R.enc most)) w0 L w) (hr : RfIn w L gv tv fv R) (ok : R.Ok i) (hi : i ≤ 199) (hm : (R.gens.length : Int) ≤ most) (h1 : 1 ≤ most) (h2 : most ≤ 1048576) (wh n g : Int) :
    Calls Try.prog 19 #[.pointer (some ⟨p, 0, none⟩), .agg #[.int .i64 most, gv, tv, fv], .agg #[.int .i64 wh, .int .i64 n, .int .i64 g]] w (DoP w0 L w most i) := by
  by_cases hw0 : wh = 0
  · subst hw0; exact do_0 h hr ok hi hm h1 h2 n g
  by_cases hw1 : wh = 1
  · subst hw1; exact do_1 h hr ok hi hm h1 h2 n g
  by_cases hw2 : wh = 2
  · subst hw2; exact do_2 h hr ok hi hm h1 h2 n g
  by_cases hw3 : wh = 3
  · subst hw3; exact do_3 h hr ok hi hm h1 h2 n g
  exact do_4 h hr ok hi hm h1 h2 wh n g hw0 hw1 hw2 hw3
end
end Go.Proofs.Ytiiiciehilfmfaa
