/- ArenaPlays: do. -/
import Derived.Test.YtiiiciehilfmfaaPl09
namespace Go.Proofs.Ytiiiciehilfmfaa
open Go.RowKit

theorem RA.take_le {R : RA} {most : Int} (h : (R.gens.length : Int) ≤ most) : (((R.take most).2.gens.length : Nat) : Int) ≤ most := by
  unfold RA.take
  split
  · exact h
  · split
    · exact h
    · simp only [List.length_append, List.length_cons, List.length_nil]
      omega
theorem RA.rel_le {R : RA} {most n g : Int} (h : (R.gens.length : Int) ≤ most) : (((R.rel n g).2.gens.length : Nat) : Int) ≤ most := by
  unfold RA.rel
  split
  · simpa using h
  · exact h

def DoP (w0 : World) (L : Nat → Prop) (w : World) (most : Int) (i : Nat) (e : Ending) (w' : World) : Prop :=
  ∃ p' R' gv' tv' fv' L', e = .returned (.tuple #[.pointer (some ⟨p', 0, none⟩), .agg #[.int .i64 most, gv', tv', fv'], .bool true]) ∧ (∀ k, L k → L' k) ∧ Gd (arI p' (RA.enc R' most)) w0 L' w' ∧ RfIn w' L' gv' tv' fv' R' ∧ R'.Ok (i + 1) ∧ (R'.gens.length : Int) ≤ most ∧ Kept L w w'

section
variable {w0 w : World} {p : Nat} {L : Nat → Prop} {gv tv fv : Value} {R : RA} {i : Nat} {most : Int}

/-- The four locals that do lays. -/
structure Loc (W : World) (b : Nat) (most : Int) (gv tv fv : Value) (wh n g : Int) : Prop where
  r0 : W.heap[b]? = some (.cells #[.int .i64 most, gv, tv, fv] 48 (0, 0))
  r1 : ∃ x y, W.heap[b + 1]? = some (.cells #[.int .i64 wh, .int .i64 x, .int .i64 y] 39 (0, 0))
  r2 : W.heap[b + 1 + 1]? = some (.cells #[.int .i64 0, .slice none 0 0, .slice none 0 0, .slice none 0 0] 48 (0, 0))
  r3 : W.heap[b + 1 + 1 + 1]? = some (.cells #[.int .i64 n, .int .i64 g] 30 (0, 0))
theorem Loc.keep {W W' : World} {b : Nat} {gv tv fv : Value} {most wh n g : Int} (h : Loc W b most gv tv fv wh n g) (hk : ∀ k, b ≤ k → k < b + 4 → W'.heap[k]? = W.heap[k]?) : Loc W' b most gv tv fv wh n g :=
  ⟨(hk _ (by omega) (by omega)).trans h.r0, h.r1.imp fun _ h => h.imp fun _ h => (hk _ (by omega) (by omega)).trans h, (hk _ (by omega) (by omega)).trans h.r2, (hk _ (by omega) (by omega)).trans h.r3⟩
theorem loc_new (w : World) (most : Int) (gv tv fv : Value) (wh n g : Int) :
    Loc ((((w.alloc (.cells #[.int .i64 most, gv, tv, fv] 48)).alloc (.cells #[.int .i64 wh, .int .i64 n, .int .i64 g] 39)).alloc (.cells #[.int .i64 0, .slice none 0 0, .slice none 0 0, .slice none 0 0] 48)).alloc (.cells #[.int .i64 n, .int .i64 g] 30)) w.heap.size most gv tv fv wh n g := by
  refine ⟨?_, ⟨n, g, ?_⟩, ?_, ?_⟩
  · rw [hall_old _ _ _ (by simp <;> omega), hall_old _ _ _ (by simp <;> omega), hall_old _ _ _ (by simp)]
    exact heap_alloc_new _ _
  · rw [hall_old _ _ _ (by simp <;> omega), hall_old _ _ _ (by simp)]
    exact heap_alloc_at (by simp) _
  · rw [hall_old _ _ _ (by simp)]
    exact heap_alloc_at (by simp) _
  · exact heap_alloc_at (by simp) _

theorem own_type_ne {u : World} {base : Nat} {e t : TypeId} {size : Nat} {v : Value} {m : Nat} {xs : List Value} (h : u.ownsRow base e size v m xs) {b : Nat} {cs : Array Value} {fr : Nat × Nat} (hr : u.heap[b]? = some (.cells cs t fr)) (ht : e ≠ t) : v.ownBlock ≠ some b := by
  intro hk
  rcases h.2 with ⟨rfl, _⟩ | ⟨g, cap, cur, rfl, _, r, _⟩
  · cases hk
  · obtain rfl : g = b := Option.some.inj hk
    rw [hr] at r
    simp at r
    exact ht r.2.1.symm

/-- The end of do: the results are laid. -/
theorem do_end {w3 : World} {p' b : Nat} {L2 : Nat → Prop} {R' : RA} {gv' tv' fv' : Value} {cs : Array Value} (hG : Gd (arI p' (R'.enc most)) w0 L2 w3) (hR : RfIn w3 L2 gv' tv' fv' R')
    (hrow : w3.heap[b]? = some (.cells cs 48 (0, 0))) (hl : L2 b) (hb : w.heap.size ≤ b) (hw0 : w0.heap.size ≤ w.heap.size) (hLt : ∀ k, L k → k < w.heap.size) (hL : ∀ k, L k → L2 k) (hK : Kept L w w3) (ok : R'.Ok (i + 1)) (hle : (R'.gens.length : Int) ≤ most) (x0 x1 x2 x3 : Value) :
    DoP w0 L w most i (.returned (.tuple #[.pointer (some ⟨p', 0, none⟩), .agg #[.int .i64 most, gv', tv', fv'], .bool true])) ((((w3.setCell ⟨b, 0, none⟩ x0).setCell ⟨b, 1, none⟩ x1).setCell ⟨b, 2, none⟩ x2).setCell ⟨b, 3, none⟩ x3) := by
  have hI := arI_framed p' (R'.enc most)
  have hb0 : w0.heap.size ≤ b := by omega
  have hint : 3 ≠ 48 := by decide
  have hbool : 4 ≠ 48 := by decide
  refine ⟨p', R', gv', tv', fv', L2, rfl, hL, (((hG.set hI hl hb0 _ _).set hI hl hb0 _ _).set hI hl hb0 _ _).set hI hl hb0 _ _, ⟨⟨?_, ?_, ?_⟩, hR.lg, hR.lt, hR.lf⟩, ok, hle, hK.trans ⟨fun k hk => out4_old _ _ _ _ _ _ _ (by have := hLt k hk; omega)⟩⟩
  · exact ownsRow_block hR.rf.hg fun k e => out4_old _ _ _ _ _ _ _ (fun e2 => own_type_ne hR.rf.hg hrow hint (e2 ▸ e))
  · exact ownsRow_block hR.rf.ht fun k e => out4_old _ _ _ _ _ _ _ (fun e2 => own_type_ne hR.rf.ht hrow hbool (e2 ▸ e))
  · exact ownsRow_block hR.rf.hf fun k e => out4_old _ _ _ _ _ _ _ (fun e2 => own_type_ne hR.rf.hf hrow hint (e2 ▸ e))

/-- Six cells: an arena and a reference. -/
def C6 (w : World) (b : Nat) (a0 a1 a2 a3 x0 x1 : Value) : Prop :=
  w.cell? ⟨b, 0, none⟩ = some a0 ∧ w.cell? ⟨b, 1, none⟩ = some a1 ∧ w.cell? ⟨b, 2, none⟩ = some a2 ∧ w.cell? ⟨b, 3, none⟩ = some a3 ∧ w.cell? ⟨b + 1, 0, none⟩ = some x0 ∧ w.cell? ⟨b + 1, 1, none⟩ = some x1
theorem c6_of {w : World} {b : Nat} {a0 a1 a2 a3 x0 x1 : Value} (h1 : w.heap[b]? = some (.cells #[a0, a1, a2, a3] 48 (0, 0))) (h2 : w.heap[b + 1]? = some (.cells #[x0, x1] 30 (0, 0))) : C6 w b a0 a1 a2 a3 x0 x1 :=
  ⟨cell_of_row _ _ 0 _ _ _ h1, cell_of_row _ _ 1 _ _ _ h1, cell_of_row _ _ 2 _ _ _ h1, cell_of_row _ _ 3 _ _ _ h1, cell_of_row _ _ 0 _ _ _ h2, cell_of_row _ _ 1 _ _ _ h2⟩

set_option maxHeartbeats 2000000 in
theorem do_0 (h : Gd (arI p (R.enc most)) w0 L w) (hr : RfIn w L gv tv fv R) (ok : R.Ok i) (hi : i ≤ 199) (hm : (R.gens.length : Int) ≤ most) (h1 : 1 ≤ most) (h2 : most ≤ 1048576) (n g : Int) :
    Calls Try.prog 19 #[.pointer (some ⟨p, 0, none⟩), .agg #[.int .i64 most, gv, tv, fv], .agg #[.int .i64 0, .int .i64 n, .int .i64 g]] w (DoP w0 L w most i) := by
  obtain ⟨qg, cg, rfl, _, _⟩ := own_view hr.rf.hg
  obtain ⟨qt, ct, rfl, _, _⟩ := own_view hr.rf.ht
  obtain ⟨qf, cf, rfl, _, _⟩ := own_view hr.rf.hf
  have HI := Lib.hid (arI_framed p (R.enc most))
  have HOK := Lib.hid ok
  have HA := Lib.hid (ok.enc h1 h2 (by omega))
  have hlc := loc_new w most (.slice qg R.gens.length cg) (.slice qt R.taken.length ct) (.slice qf R.free.length cf) 0 n g
  have hbw := ((((Below.refl w.heap.size w).alloc (Nat.le_refl _) (.cells #[.int .i64 most, .slice qg R.gens.length cg, .slice qt R.taken.length ct, .slice qf R.free.length cf] 48)).alloc (by simp) (.cells #[.int .i64 0, .int .i64 n, .int .i64 g] 39)).alloc (by simp; omega) (.cells #[.int .i64 0, .slice none 0 0, .slice none 0 0, .slice none 0 0] 48)).alloc (by simp; omega) (.cells #[.int .i64 n, .int .i64 g] 30)
  have HLt := Lib.hid (fun k (hk : L k) => h.lt k hk)
  have HW0 := Lib.hid h.below.size
  have HTE := Lib.hid (ok.take most)
  have HTL := Lib.hid (RA.take_le hm)
  obtain ⟨L0, l1, l2, hG0⟩ := h.later HI.out hbw
  have HG := Lib.hid hG0
  have HR := Lib.hid ((hr.later hbw).mono l1)
  have HL1 := Lib.hid l1
  have HL2 := Lib.hid l2
  clear h hr ok l1 l2 hG0
  go_enter Try.func19, Try.ntmps19
  go_wp2_with fail
  generalize (((w.alloc (.cells #[.int .i64 most, .slice qg R.gens.length cg, .slice qt R.taken.length ct, .slice qf R.free.length cf] 48)).alloc (.cells #[.int .i64 0, .int .i64 n, .int .i64 g] 39)).alloc (.cells #[.int .i64 0, .slice none 0 0, .slice none 0 0, .slice none 0 0] 48)).alloc (.cells #[.int .i64 n, .int .i64 g] 30) = W at *
  have HLC := Lib.hid hlc; have HW := Lib.hid hbw
  clear hlc hbw
  refine (taker_G HI.out HG.out HR.out HOK.out (by omega) hm h2).mono ?_
  rintro e w1 ⟨gv', tv', fv', L1, rfl, l1, l2, hG1, hr1, hb1⟩
  simp only [List.append_toArray, List.cons_append, List.nil_append]
  generalize R.take most = T at *
  obtain ⟨⟨t1, t2, t3⟩, R'⟩ := T
  simp only at hr1
  obtain ⟨qg', cg', rfl, _, _⟩ := own_view hr1.rf.hg
  obtain ⟨qt', ct', rfl, _, _⟩ := own_view hr1.rf.ht
  obtain ⟨qf', cf', rfl, _, _⟩ := own_view hr1.rf.hf
  have HR1 := Lib.hid hr1; have HG1 := Lib.hid hG1
  have HL1b := Lib.hid l1
  have HWs := Lib.hid (lt_of_block HLC.out.r3)
  have hlc1 := HLC.out.keep (W' := w1) fun k h1 h2 => hb1.block k (by have := HWs.out; omega)
  have HLC1 := Lib.hid hlc1
  have HB1 := Lib.hid hb1
  clear hr1 hG1 l1 l2 hlc1 hb1
  go_wp2_with fail
  have hvr : ((w1.alloc (.cells #[.int .i64 most, .slice qg' R'.gens.length cg', .slice qt' R'.taken.length ct', .slice qf' R'.free.length cf'] 48)).alloc (.cells #[.int .i64 t1, .int .i64 t2] 30)).heap[w1.heap.size]? = some (.cells #[.int .i64 most, .slice qg' R'.gens.length cg', .slice qt' R'.taken.length ct', .slice qf' R'.free.length cf'] 48 (0, 0)) := by
    rw [hall_old _ _ _ (by simp)]; exact heap_alloc_new _ _
  have hwr : ((w1.alloc (.cells #[.int .i64 most, .slice qg' R'.gens.length cg', .slice qt' R'.taken.length ct', .slice qf' R'.free.length cf'] 48)).alloc (.cells #[.int .i64 t1, .int .i64 t2] 30)).heap[w1.heap.size + 1]? = some (.cells #[.int .i64 t1, .int .i64 t2] 30 (0, 0)) := heap_alloc_at (by simp) _
  have hb2 := ((Below.refl w1.heap.size w1).alloc (Nat.le_refl _) (.cells #[.int .i64 most, .slice qg' R'.gens.length cg', .slice qt' R'.taken.length ct', .slice qf' R'.free.length cf'] 48)).alloc (by simp) (.cells #[.int .i64 t1, .int .i64 t2] 30)
  obtain ⟨L2, l1, l2, hG2⟩ := HG1.out.later HI.out hb2
  have HL2b := Lib.hid l1
  have HL2c := Lib.hid l2
  have HG2 := Lib.hid (hG2.drew HI.out)
  have HR2 := Lib.hid ((HR1.out.later hb2).mono l1)
  have HLC2 := Lib.hid (HLC1.out.keep (W' := (w1.alloc (.cells #[.int .i64 most, .slice qg' R'.gens.length cg', .slice qt' R'.taken.length ct', .slice qf' R'.free.length cf'] 48)).alloc (.cells #[.int .i64 t1, .int .i64 t2] 30)) fun k h1 h2 => hb2.block k (by have := lt_of_block HLC1.out.r3; omega))
  generalize (w1.alloc (.cells #[.int .i64 most, .slice qg' R'.gens.length cg', .slice qt' R'.taken.length ct', .slice qf' R'.free.length cf'] 48)).alloc (.cells #[.int .i64 t1, .int .i64 t2] 30) = W2 at *
  have k0 := c6_of hvr hwr
  have HVR := Lib.hid hvr; have HWR := Lib.hid hwr; have HB2 := Lib.hid hb2
  have hvb : w.heap.size + 4 ≤ w1.heap.size := by have := lt_of_block HLC1.out.r3; omega
  have HVB := Lib.hid hvb
  have HTK := Lib.hid (show Calls Try.prog 10 #[.pointer (some ⟨p, 0, none⟩), .agg #[.int .i64 t1, .int .i64 t2], .int .i64 t3] W2.drew (GdP (arI p (R'.enc most)) w0 L2 W2.drew (.returned (.bool true))) from by
    have := takes_G HG2.out HA.out (by omega) t1 t2 t3
    rw [HTE.out.1] at this
    simpa using this)
  clear hvr hwr hb2 l1 l2 hG2
  have n0 : ¬ (w1.heap.size = w.heap.size + 1 + 1) := by omega
  have n1 : ¬ (w1.heap.size + 1 = w.heap.size + 1 + 1) := by omega
  have n2 : ¬ (w.heap.size + 1 + 1 = w1.heap.size) := by omega
  have n3 : ¬ (w.heap.size + 1 + 1 = w1.heap.size + 1) := by omega
  clear hvb
  go_region_held3 (fun w' => w'.cell? ⟨w1.heap.size, 0, none⟩ = some (.int .i64 most) ∧ w'.cell? ⟨w1.heap.size, 1, none⟩ = some (.slice qg' R'.gens.length cg') ∧ w'.cell? ⟨w1.heap.size, 2, none⟩ = some (.slice qt' R'.taken.length ct') ∧ w'.cell? ⟨w1.heap.size, 3, none⟩ = some (.slice qf' R'.free.length cf') ∧ w'.cell? ⟨w1.heap.size + 1, 0, none⟩ = some (.int .i64 t1) ∧ w'.cell? ⟨w1.heap.size + 1, 1, none⟩ = some (.int .i64 t2))
    (first | exact k0 | exact k3 | (obtain ⟨z0, z1, z2, z3, z4, z5⟩ := k3; exact ⟨by go_simp, by go_simp, by go_simp, by go_simp, by go_simp, by go_simp⟩))
    (first
      | (go_at_call 10; (with_reducible refine HTK.out.mono ?_); rintro e w3 ⟨rfl, hG3, hK3⟩
         have hlc3 := HLC2.out.keep (W' := w3) fun k h1 h2 => (hK3.blk k (HL2b.out k (HL1b.out k (HL2.out k h1 (by have := HWs.out; omega))))).trans rfl
         have HG3 := Lib.hid hG3; have HK3 := Lib.hid hK3; have HLC3 := Lib.hid hlc3
         have hv3 := (hK3.blk w1.heap.size (HL2c.out _ (Nat.le_refl _) (lt_of_block HVR.out))).trans HVR.out
         have hw3 := (hK3.blk (w1.heap.size + 1) (HL2c.out _ (by omega) (lt_of_block HWR.out))).trans HWR.out
         have k3 := c6_of hv3 hw3
         have s0 := cell_of_row _ _ 0 _ _ _ hlc3.r2; have s1 := cell_of_row _ _ 1 _ _ _ hlc3.r2; have s2 := cell_of_row _ _ 2 _ _ _ hlc3.r2; have s3 := cell_of_row _ _ 3 _ _ _ hlc3.r2
         have f3 := fun j => frozen_of_row _ _ j _ _ hlc3.r2
         clear hG3 hK3 hlc3 hv3 hw3 k0))
  clear k3
  go_wp2_with fail
  refine bodyPost_ret (v := .tuple #[.pointer (some ⟨p, 0, none⟩), .agg #[.int .i64 most, .slice qg' R'.gens.length cg', .slice qt' R'.taken.length ct', .slice qf' R'.free.length cf'], .bool true]) (by simp [results, Try.results19, go_sem, s0, s1, s2, s3]) rfl ?_
  refine do_end HG3.out (HR2.out.kept ⟨HK3.out.blk⟩) HLC3.out.r2 (HL2b.out _ (HL1b.out _ (HL2.out _ (by omega) (by have := HWs.out; omega)))) (by omega) HW0.out HLt.out (fun k hk => HL2b.out _ (HL1b.out _ (HL1.out _ hk))) ⟨fun k hk => ?_⟩ HTE.out.2 HTL.out _ _ _ _
  have h0 := HLt.out k hk
  exact (HK3.out.blk k (HL2b.out _ (HL1b.out _ (HL1.out _ hk)))).trans ((HB2.out.block k (by have := HVB.out; omega)).trans ((HB1.out.block k (by have := HW.out.size; omega)).trans (HW.out.block k h0)))
end
end Go.Proofs.Ytiiiciehilfmfaa
