/- Contracts of package tagcacheref09: Take, no free slot. -/
import Derived.Test.YtiiiciehilfmfaaRf09C
namespace Go.Proofs.Ytiiiciehilfmfaa
open Go.RowKit

theorem outs_below' {B : Nat} {w0 w : World} (hb : Below B w0 w) (a b : Nat) (x0 x1 x2 x3 y0 y1 : Value) (h1 : B ≤ a) (h2 : B ≤ b) :
    Below B w0 ((((((w.setCell ⟨a, 0, none⟩ x0).setCell ⟨a, 1, none⟩ x1).setCell ⟨a, 2, none⟩ x2).setCell ⟨a, 3, none⟩ x3).setCell ⟨b, 0, none⟩ y0).setCell ⟨b, 1, none⟩ y1) :=
  ((((((hb.setCell (p := ⟨a, 0, none⟩) h1 x0).setCell (p := ⟨a, 1, none⟩) h1 x1).setCell (p := ⟨a, 2, none⟩) h1 x2).setCell (p := ⟨a, 3, none⟩) h1 x3).setCell (p := ⟨b, 0, none⟩) h2 y0).setCell (p := ⟨b, 1, none⟩) h2 y1)

set_option maxHeartbeats 1000000 in
theorem taker_full (w : World) (gv tv fv : Value) (gens : List Int) (taken : List Bool) (h : RfV w 0 gv tv fv gens taken []) (hl : taken.length = gens.length)
    (h1 : gens.length ≤ 1048576) :
    Calls Try.prog 25 #[.agg #[.int .i64 gens.length, gv, tv, fv]] w (TakeR w gens.length gv tv fv gens taken [] (0, 0, 7)) := by
  obtain ⟨qg, cg, rfl, _, _⟩ := own_view h.hg
  obtain ⟨qt, ct, rfl, _, _⟩ := own_view h.ht
  obtain ⟨qf, cf, rfl, _, _⟩ := own_view h.hf
  have H := Lib.hid h; clear h
  have HL := Lib.hid hl
  have hb0 := (((Below.refl w.heap.size w).alloc (Nat.le_refl _) (.cells #[.int .i64 gens.length, .slice qg gens.length cg, .slice qt taken.length ct, .slice qf 0 cf] 48)).alloc (by simp) (.cells #[.int .i64 0, .slice none 0 0, .slice none 0 0, .slice none 0 0] 48)).alloc (by simp; omega) (.cells #[.int .i64 0, .int .i64 0] 30)
  have HB0 := Lib.hid hb0; clear hb0
  have HC := Lib.hid (copyr_any _ gens.length _ _ _ gens taken [] (H.out.later HB0.out) h1 (by omega) (by simp))
  clear hl
  go_enter Try.func25, Try.ntmps25
  go_wp2_with fail
  refine HC.out.mono ?_
  rintro e w1 ⟨gv', tv', fv', rfl, hr, hb, d1, d2, d3⟩
  have hb1 := HB0.out.trans (hb.mono (by simp; omega))
  obtain ⟨hc, hf⟩ := bcell hb
  have hsz := hb.size
  simp only [World.size_alloc] at hsz hc hf
  obtain ⟨qg', cg', rfl, _, _⟩ := own_view hr.hg
  obtain ⟨qt', ct', rfl, _, _⟩ := own_view hr.ht
  obtain ⟨qf', cf', rfl, _, _⟩ := own_view hr.hf
  have HBb := Lib.hid hb1
  have k0 : w.heap.size < w1.heap.size := by omega
  have k1 : w.heap.size + 1 < w1.heap.size := by omega
  have k2 : w.heap.size + 2 < w1.heap.size := by omega
  clear hb hb1 hr d1 d2 d3
  go_wp2_with fail
  have hb := HBb.out
  refine bodyPost_ret (v := .tuple #[.agg #[.int .i64 gens.length, .slice qg gens.length cg, .slice qt taken.length ct, .slice qf 0 cf], .agg #[.int .i64 0, .int .i64 0], .int .i64 7]) (by simp [results, Try.results25, go_sem, hc, k1, k2]) rfl
    ⟨_, _, _, rfl, ?_, ?_, fun k e => .inl e, fun k e => .inl e, fun k e => .inl e⟩
  · exact H.out.later ((outs_below' hb _ _ _ _ _ _ _ _ (by omega) (by omega)).alloc (by simp only [hset_size]; omega) _)
  · exact (outs_below' hb _ _ _ _ _ _ _ _ (by omega) (by omega)).alloc (by simp only [hset_size]; omega) _
end Go.Proofs.Ytiiiciehilfmfaa
