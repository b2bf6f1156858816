/- ArenaPlays. -/
import Derived.Test.YtiiiciehilfmfaaLaw09B
import Derived.Test.YtiiiciehilfmfaaPl09B
import Derived.Test.YtiiiciehilfmfaaPl09G
import Derived.Test.YtiiiciehilfmfaaPl09Z
namespace Go.Proofs.Ytiiiciehilfmfaa
open Go.RowKit

theorem cell_agree9 {w w' : World} (hB : ∀ k, k < w.heap.size → w'.heap[k]? = w.heap[k]?) {a : Addr} {v : Value} (h : w.cell? a = some v) : w'.cell? a = some v := by
  by_cases hlt : a.block < w.heap.size
  · unfold World.cell? at h ⊢
    rw [hB _ hlt]
    exact h
  · unfold World.cell? at h
    rw [Array.getElem?_eq_none (by omega)] at h
    cases h
theorem act_cells {w : World} {A : Addr} {x y z : Value} (h : w.cells? 0 A 3 = some [x, y, z]) : w.cell? A = some x ∧ w.cell? ⟨A.block, A.off + 1, none⟩ = some y ∧ w.cell? ⟨A.block, A.off + 2, none⟩ = some z := by
  unfold World.cells? at h
  rw [if_pos (Nat.zero_le _)] at h
  have g0 := mapM_some_get h 0 0 (by simp)
  have g1 := mapM_some_get h 1 1 (by simp)
  have g2 := mapM_some_get h 2 2 (by simp)
  exact ⟨by simpa [Addr.add] using g0, by simpa [Addr.add] using g1, by simpa [Addr.add] using g2⟩

section
variable {w0 w : World} {p : Nat} {L : Nat → Prop} {gv tv fv : Value} {R : RA}
theorem RfIn.out4 (h : RfIn w L gv tv fv R) {b : Nat} {cs : Array Value} {fr : Nat × Nat} (hr : w.heap[b]? = some (.cells cs 48 fr)) (x0 x1 x2 x3 : Value) : RfIn ((((w.setCell ⟨b, 0, none⟩ x0).setCell ⟨b, 1, none⟩ x1).setCell ⟨b, 2, none⟩ x2).setCell ⟨b, 3, none⟩ x3) L gv tv fv R := by
  have hint : 3 ≠ 48 := by decide
  have hbool : 4 ≠ 48 := by decide
  refine ⟨⟨?_, ?_, ?_⟩, h.lg, h.lt, h.lf⟩
  · exact ownsRow_block h.rf.hg fun k e => out4_old _ _ _ _ _ _ _ (fun e2 => own_type_ne h.rf.hg hr hint (e2 ▸ e))
  · exact ownsRow_block h.rf.ht fun k e => out4_old _ _ _ _ _ _ _ (fun e2 => own_type_ne h.rf.ht hr hbool (e2 ▸ e))
  · exact ownsRow_block h.rf.hf fun k e => out4_old _ _ _ _ _ _ _ (fun e2 => own_type_ne h.rf.hf hr hint (e2 ▸ e))
theorem Gd.out4 {I : Inv} (hI : Framed I) (h : Gd I w0 L w) {b : Nat} (hb : L b) (hB : w0.heap.size ≤ b) (x0 x1 x2 x3 : Value) : Gd I w0 L ((((w.setCell ⟨b, 0, none⟩ x0).setCell ⟨b, 1, none⟩ x1).setCell ⟨b, 2, none⟩ x2).setCell ⟨b, 3, none⟩ x3) :=
  (((h.set hI hb hB _ _).set hI hb hB _ _).set hI hb hB _ _).set hI hb hB _ _
theorem row_out4 {b : Nat} {y0 y1 y2 y3 : Value} {t : TypeId} (hr : w.heap[b]? = some (.cells #[y0, y1, y2, y3] t (0, 0))) (x0 x1 x2 x3 : Value) : ((((w.setCell ⟨b, 0, none⟩ x0).setCell ⟨b, 1, none⟩ x1).setCell ⟨b, 2, none⟩ x2).setCell ⟨b, 3, none⟩ x3).heap[b]? = some (.cells #[x0, x1, x2, x3] t (0, 0)) :=
  hset_eq (hset_eq (hset_eq (hset_eq hr 0 _) 1 _) 2 _) 3 _

/-- The state of the loop. -/
def PlAt (w0 : World) (most : Int) (b : Nat) (k : Nat) (a : Value) (w : World) : Prop :=
  ∃ p R gv tv fv L, a = .pointer (some ⟨p, 0, none⟩) ∧ L b ∧ Gd (arI p (RA.enc R most)) w0 L w ∧ RfIn w L gv tv fv R ∧ R.Ok k ∧ (R.gens.length : Int) ≤ most ∧ w.heap[b]? = some (.cells #[.int .i64 most, gv, tv, fv] 48 (0, 0))
end

theorem pl_start (w w1 : World) (most : Int) (hm : 1 ≤ most) (hb : Below (w.alloc (.cells #[.int .i64 most, .slice none 0 0, .slice none 0 0] 55)).heap.size (w.alloc (.cells #[.int .i64 most, .slice none 0 0, .slice none 0 0] 55)) w1) :
    PlAt w most w1.heap.size 0 (.pointer (some ⟨w.heap.size, 0, none⟩)) (w1.alloc (.cells #[.int .i64 most, .slice none 0 0, .slice none 0 0, .slice none 0 0] 48)) := by
  have hI := arI_framed w.heap.size (RA.enc ⟨[], [], []⟩ most)
  have h0 : Gd (arI w.heap.size (RA.enc ⟨[], [], []⟩ most)) w (fun _ => False) (w.alloc (.cells #[.int .i64 most, .slice none 0 0, .slice none 0 0] 55)) :=
    ⟨⟨_, ⟨_, _, new_at w most, rfl⟩, fun k hk => hk.elim, fun k hk => by
      rcases hk with rfl | hk | hk
      · exact Nat.le_refl _
      · cases hk
      · cases hk⟩, fun k hk => hk.elim, (Below.refl _ _).alloc (Nat.le_refl _) _⟩
  have hb2 := hb.alloc hb.size (.cells #[.int .i64 most, .slice none 0 0, .slice none 0 0, .slice none 0 0] 48)
  obtain ⟨L, _, l2, hG⟩ := h0.later hI hb2
  refine ⟨w.heap.size, ⟨[], [], []⟩, .slice none 0 0, .slice none 0 0, .slice none 0 0, L, rfl, l2 _ hb.size (by simp), hG, ⟨⟨World.ownsRow_nil _ _ _ _, World.ownsRow_nil _ _ _ _, World.ownsRow_nil _ _ _ _⟩, (fun k e => by cases e), (fun k e => by cases e), (fun k e => by cases e)⟩, ?_, by simp; omega, heap_alloc_new _ _⟩
  exact ⟨rfl, Nat.le_refl _, fun k hk => absurd hk (Nat.not_lt_zero k), List.nodup_nil, (fun m hm => by cases hm), rfl⟩

theorem plays_no (most : Int) (pl : Option Addr) (nl cl : Nat) (w : World) (h0 : nl ≤ 100) (h : most < 1 ∨ 1048576 < most) : Calls Try.prog 6 #[.int .i64 most, .slice pl nl cl] w (Law w.heap.size w) := by
  have h' := h
  go_enter Try.func6, Try.ntmps6
  go_wp2_with fail
  refine (new_no _ _ h').mono ?_
  rintro e w1 ⟨rfl, rfl⟩
  go_wp2_with fail
  refine (newr_no _ _ h').mono ?_
  rintro e w1 ⟨rfl, hb⟩
  have HB := Lib.hid hb
  clear hb
  go_wp2_with fail
  refine (known_any _).mono ?_
  rintro e w' ⟨rfl, hb2⟩
  go_wp2_with fail
  go_ret
  exact ⟨rfl, (HB.out.alloc HB.out.size _).trans (hb2.mono (by simp; have := HB.out.size; omega))⟩

theorem plays_long (most : Int) (pl : Option Addr) (nl cl : Nat) (w : World) (h0 : 100 < nl) : Calls Try.prog 6 #[.int .i64 most, .slice pl nl cl] w (Law w.heap.size w) := by
  go_enter Try.func6, Try.ntmps6
  go_wp2_with fail
  refine (known_any _).mono ?_
  rintro e w' ⟨rfl, hb2⟩
  go_wp2_with fail
  go_ret
  exact ⟨rfl, hb2⟩

set_option maxHeartbeats 4000000 in
theorem plays_yes (most : Int) (pl : Option Addr) (nl cl : Nat) (aw an ag : Nat → Int) (w : World) (h0 : nl ≤ 100) (hm1 : 1 ≤ most) (hm2 : most ≤ 1048576) (hA : ActsAt w nl pl aw an ag) :
    Calls Try.prog 6 #[.int .i64 most, .slice pl nl cl] w (Law w.heap.size w) := by
  have HACT := Lib.hid hA
  clear hA
  go_enter Try.func6, Try.ntmps6
  go_wp2_with fail
  refine (new_yes _ most ⟨hm1, hm2⟩).mono ?_
  rintro e w1 ⟨rfl, rfl⟩
  go_wp2_with fail
  refine (newr_yes _ most ⟨hm1, hm2⟩).mono ?_
  rintro e w1 ⟨rfl, hb⟩
  have HST := Lib.hid (pl_start w w1 most hm1 hb)
  have HBS := Lib.hid (show w.heap.size ≤ w1.heap.size from by have := hb.size; simp at this; omega)
  clear hb
  go_wp2_with fail
  go_loopw [5, 41] (fun a i wr => ∃ k : Nat, k ≤ nl ∧ i = .int .i64 k ∧ PlAt w most w1.heap.size k a wr) (fun _ i _ => nl - (intOf i).toNat)
  case atStart => exact ⟨0, Nat.zero_le _, rfl, HST.out⟩
  case round =>
    obtain ⟨k, hk, rfl, p, R, gv, tv, fv, L, rfl, hLb, hG, hR, hOk, hle, hrow⟩ := hrel
    by_cases hlt : k < nl
    · obtain ⟨A, rfl, hA⟩ := HACT.out k hlt
      obtain ⟨c0, c1, c2⟩ := act_cells hA
      have c0 := cell_agree9 hG.below.block c0
      have c1 := cell_agree9 hG.below.block c1
      have c2 := cell_agree9 hG.below.block c2
      obtain ⟨qg, cg, rfl, _, _⟩ := own_view hR.rf.hg
      obtain ⟨qt, ct, rfl, _, _⟩ := own_view hR.rf.ht
      obtain ⟨qf, cf, rfl, _, _⟩ := own_view hR.rf.hf
      have v0 := cell_of_row _ _ 0 _ _ _ hrow
      have v1 := cell_of_row _ _ 1 _ _ _ hrow
      have v2 := cell_of_row _ _ 2 _ _ _ hrow
      have v3 := cell_of_row _ _ 3 _ _ _ hrow
      have hvl := lt_of_block hrow
      have hbn := (Below.refl wr.heap.size wr).alloc (Nat.le_refl _) (.cells #[.int .i64 (aw k), .int .i64 (an k), .int .i64 (ag k)] 39)
      obtain ⟨L1, l1, l2, hG1⟩ := hG.later (arI_framed p (R.enc most)) hbn
      have hR1 := (hR.later hbn).mono l1
      have hrow1 := heap_later hrow hbn
      have HG1 := Lib.hid hG1; have HR1 := Lib.hid hR1; have HRow1 := Lib.hid hrow1; have HL1 := Lib.hid l1
      have HOk := Lib.hid hOk; have HLE := Lib.hid hle
      have HLb := Lib.hid (l1 _ hLb)
      clear hA hbn hG hR hrow hOk hle l1 l2 hG1 hR1 hrow1 hLb
      go_wp2_with fail
      refine (do_G HG1.out HR1.out HOk.out (by omega) HLE.out hm1 hm2 _ _ _).mono ?_
      rintro e w2 ⟨p', R', gv', tv', fv', L2, rfl, l2, hG2, hR2, hOk2, hle2, hK2⟩
      have hrow2 := (hK2.blk _ HLb.out).trans HRow1.out
      obtain ⟨qg', cg', rfl, _, _⟩ := own_view hR2.rf.hg
      obtain ⟨qt', ct', rfl, _, _⟩ := own_view hR2.rf.ht
      obtain ⟨qf', cf', rfl, _, _⟩ := own_view hR2.rf.hf
      have t0 := cell_of_row _ _ 0 _ _ _ hrow2
      have t1 := cell_of_row _ _ 1 _ _ _ hrow2
      have t2 := cell_of_row _ _ 2 _ _ _ hrow2
      have t3 := cell_of_row _ _ 3 _ _ _ hrow2
      have f3 := fun j => frozen_of_row _ _ j _ _ hrow2
      have HLb2 := Lib.hid (l2 _ HLb.out)
      have HRow3 := Lib.hid (row_out4 hrow2 (.int .i64 most) (.slice qg' R'.gens.length cg') (.slice qt' R'.taken.length ct') (.slice qf' R'.free.length cf'))
      have HG3 := Lib.hid (hG2.out4 (arI_framed _ _) HLb2.out HBS.out (.int .i64 most) (.slice qg' R'.gens.length cg') (.slice qt' R'.taken.length ct') (.slice qf' R'.free.length cf'))
      have HR3 := Lib.hid (hR2.out4 hrow2 (.int .i64 most) (.slice qg' R'.gens.length cg') (.slice qt' R'.taken.length ct') (.slice qf' R'.free.length cf'))
      have HOk2 := Lib.hid hOk2; have HLE2 := Lib.hid hle2
      clear c0 c1 c2 v0 v1 v2 v3 hvl hrow2 hG2 hR2 hOk2 hle2 hK2 l2 HG1 HR1 HRow1 HL1 HOk HLE
      go_wp2_with fail
      refine (looks_G HG3.out HR3.out HOk2.out (by omega) hm1 hm2).mono ?_
      rintro e w4 ⟨rfl, hG4, hK4⟩
      have HRow4 := Lib.hid ((hK4.blk _ HLb2.out).trans HRow3.out)
      have HG4 := Lib.hid hG4
      have HR4 := Lib.hid (HR3.out.kept hK4)
      clear hG4 hK4 HG3 HR3 HRow3 t0 t1 t2 t3 f3
      go_wp2_with fail
      go_roundw
      case rel => exact ⟨k + 1, by omega, by go_num, p', R', _, _, _, L2, rfl, HLb2.out, HG4.out, HR4.out, HOk2.out, HLE2.out, HRow4.out⟩
      case measure => simp [intOf]; omega
    · have HB2 := Lib.hid hG.below
      clear hG hR hOk hrow
      go_wp2_with fail
      refine (known_any _).mono ?_
      rintro e w' ⟨rfl, hb2⟩
      go_wp2_with fail
      go_ret
      exact ⟨rfl, HB2.out.trans (hb2.mono HB2.out.size)⟩
theorem lPlays (most : Int) (pl : Option Addr) (nl cl : Nat) (aw an ag : Nat → Int) (w : World) (hA : ActsAt w nl pl aw an ag) :
    Calls Try.prog 6 #[.int .i64 most, .slice pl nl cl] w (Law w.heap.size w) := by
  by_cases h0 : nl ≤ 100
  · by_cases h1 : 1 ≤ most ∧ most ≤ 1048576
    · exact plays_yes most pl nl cl aw an ag w h0 h1.1 h1.2 hA
    · exact plays_no most pl nl cl w h0 (by omega)
  · exact plays_long most pl nl cl w (by omega)
end Go.Proofs.Ytiiiciehilfmfaa
