/- Contracts of package tagcacheref09: Take. -/
import Derived.Test.YtiiiciehilfmfaaRf09B
namespace Go.Proofs.Ytiiiciehilfmfaa
open Go.RowKit

def NewOr (w : World) (u v : Value) : Prop := ∀ k, v.ownBlock = some k → u.ownBlock = some k ∨ w.heap.size ≤ k
def TakeR (w : World) (most : Int) (gv tv fv : Value) (gens : List Int) (taken : List Bool) (free : List Int) (r : Int × Int × Int) (e : Ending) (w' : World) : Prop :=
  ∃ gv' tv' fv', e = .returned (.tuple #[.agg #[.int .i64 most, gv', tv', fv'], .agg #[.int .i64 r.1, .int .i64 r.2.1], .int .i64 r.2.2]) ∧ RfV w' 0 gv' tv' fv' gens taken free ∧ Below w.heap.size w w' ∧
    NewOr w gv gv' ∧ NewOr w tv tv' ∧ NewOr w fv fv'

theorem outs_old (w : World) (a b k : Nat) (x0 x1 x2 x3 y0 y1 : Value) (o : Obj) (h1 : k ≠ a) (h2 : k ≠ b) (h : k < w.heap.size) :
    (((((((w.setCell ⟨a, 0, none⟩ x0).setCell ⟨a, 1, none⟩ x1).setCell ⟨a, 2, none⟩ x2).setCell ⟨a, 3, none⟩ x3).setCell ⟨b, 0, none⟩ y0).setCell ⟨b, 1, none⟩ y1).alloc o).drew.heap[k]? = w.heap[k]? := by
  rw [heap_drew, hall_old _ _ _ (by simp only [hset_size]; exact h), hset_ne _ _ _ _ _ h2, hset_ne _ _ _ _ _ h2, hset_ne _ _ _ _ _ h1, hset_ne _ _ _ _ _ h1, hset_ne _ _ _ _ _ h1, hset_ne _ _ _ _ _ h1]

theorem outs_below {B : Nat} {w0 w : World} (hb : Below B w0 w) (a b : Nat) (x0 x1 x2 x3 y0 y1 : Value) (o : Obj) (h1 : B ≤ a) (h2 : B ≤ b) (h : B ≤ w.heap.size) :
    Below B w0 (((((((w.setCell ⟨a, 0, none⟩ x0).setCell ⟨a, 1, none⟩ x1).setCell ⟨a, 2, none⟩ x2).setCell ⟨a, 3, none⟩ x3).setCell ⟨b, 0, none⟩ y0).setCell ⟨b, 1, none⟩ y1).alloc o).drew :=
  (((((((hb.setCell (p := ⟨a, 0, none⟩) h1 x0).setCell (p := ⟨a, 1, none⟩) h1 x1).setCell (p := ⟨a, 2, none⟩) h1 x2).setCell (p := ⟨a, 3, none⟩) h1 x3).setCell (p := ⟨b, 0, none⟩) h2 y0).setCell (p := ⟨b, 1, none⟩) h2 y1).alloc (by simp only [hset_size]; exact h) o).drew

set_option maxHeartbeats 1000000 in
theorem taker_free (w : World) (most : Int) (gv tv fv : Value) (gens : List Int) (taken : List Bool) (free : List Int) (n : Nat) (h : RfV w 0 gv tv fv gens taken (free ++ [(n : Int)])) (hl : taken.length = gens.length) (hn : n < gens.length)
    (h1 : gens.length ≤ 1048576) (h3 : free.length ≤ 1048575) :
    Calls Try.prog 25 #[.agg #[.int .i64 most, gv, tv, fv]] w (TakeR w most gv tv fv gens (taken.set n true) free ((n : Int), gens.getD n 0, 0)) := by
  obtain ⟨g, cg, rfl, _, _, hgl⟩ := own_some h.hg (by omega)
  obtain ⟨qt, ct, rfl, _, _⟩ := own_view h.ht
  have hfl : (free ++ [(n : Int)]).length = free.length + 1 := by simp
  obtain ⟨f, cf, rfl, _, _, hfll⟩ := own_some h.hf (by omega)
  have cg0 := own_int h.hg n (by omega)
  have cf0 := own_int h.hf free.length (by omega)
  rw [show (free ++ [(n : Int)]).getD free.length 0 = n by simp] at cf0
  generalize hv : gens.getD n 0 = v at *
  clear hv
  have H := Lib.hid h; clear h
  have HL := Lib.hid hl
  have HFL := Lib.hid hfl
  have hb0 := (((Below.refl w.heap.size w).alloc (Nat.le_refl _) (.cells #[.int .i64 most, .slice (some ⟨g, 0, none⟩) gens.length cg, .slice qt taken.length ct, .slice (some ⟨f, 0, none⟩) (free.length + 1) cf] 48)).alloc (by simp) (.cells #[.int .i64 0, .slice none 0 0, .slice none 0 0, .slice none 0 0] 48)).alloc (by simp; omega) (.cells #[.int .i64 0, .int .i64 0] 30)
  have HB0 := Lib.hid hb0; clear hb0
  have HC := Lib.hid (copyr_any _ most _ _ _ gens taken (free ++ [(n : Int)]) (H.out.later HB0.out) h1 (by omega) (by omega))
  rw [hfl] at HC
  rw [hfl]
  clear hl hfl
  go_enter Try.func25, Try.ntmps25
  go_wp2_with fail
  refine HC.out.mono ?_
  rintro e w1 ⟨gv', tv', fv', rfl, hr, hb, d1, d2, d3⟩
  have hb1 := HB0.out.trans (hb.mono (by simp; omega))
  obtain ⟨hc, hf⟩ := bcell hb
  have hsz := hb.size
  simp only [World.size_alloc] at hsz hc hf
  obtain ⟨g', cg', rfl, _, _, hgl'⟩ := own_some hr.hg (by omega)
  obtain ⟨t', ct', rfl, _, _, htl'⟩ := own_some hr.ht (by have := HL.out; omega)
  have hrf := hr.hf
  rw [HFL.out] at hrf
  obtain ⟨f', cf', rfl, _, _, hfl'⟩ := own_some hrf (by omega)
  have ft : w1.frozen? ⟨t', n, none⟩ = false := hr.ht.frozenAt n
  have ctn := own_boolc hr.ht n (by have := HL.out; omega)
  have hge : w.heap.size + 3 ≤ g' := by have := (hr.hg.lt _ rfl).1; simp at this; omega
  have hte : w.heap.size + 3 ≤ t' := by have := (hr.ht.lt _ rfl).1; simp at this; omega
  have hfe : w.heap.size + 3 ≤ f' := by have := (hr.hf.lt _ rfl).1; simp at this; omega
  have cg1 : w1.cell? ⟨g, n, none⟩ = some (.int .i64 v) := (hb1.cell (p := ⟨g, n, none⟩) hgl).trans cg0
  have cf1 : w1.cell? ⟨f, free.length, none⟩ = some (.int .i64 n) := (hb1.cell (p := ⟨f, free.length, none⟩) hfll).trans cf0
  have hgl1 : g < w1.heap.size := by omega
  have hfl1 : f < w1.heap.size := by omega
  have HR := Lib.hid hr; have HBb := Lib.hid hb1; have D1 := Lib.hid d1; have D2 := Lib.hid d2; have D3 := Lib.hid d3
  have htn : (n : Int) < taken.length := by have := HL.out; omega
  have k0 : w.heap.size < w1.heap.size := by omega
  have k1 : w.heap.size + 1 < w1.heap.size := by omega
  have k2 : w.heap.size + 2 < w1.heap.size := by omega
  have n0 : ¬ (w.heap.size = t') := by omega
  have n1 : ¬ (w.heap.size + 1 = t') := by omega
  have n2 : ¬ (w.heap.size + 2 = t') := by omega
  have n3 : ¬ (g = t') := by omega
  have n4 : ¬ (w1.heap.size = t') := by omega
  clear hb hb1 hr hrf d1 d2 d3 cg0 cf0
  go_wp2_with fail
  go_region
  go_wp2_with fail
  have hr := HR.out
  have hb := HBb.out
  have hpop := ownsRow_pop (by simp) (show w1.ownsRow _ _ 1 (.slice (some ⟨f', 0, none⟩) (free.length + 1) cf') (free.length + 1) (free.map (Value.int .i64) ++ [Value.int .i64 (n : Int)]) from by
    have := hr.hf
    rw [HFL.out, List.map_append] at this
    exact this)
  have e1 : f' ≠ t' := fun e => by
    rcases D3.out with h | h
    · cases h
    · exact h (by rw [e]; rfl)
  have e2 : g' ≠ t' := fun e => by
    rcases D1.out with h | h
    · cases h
    · exact h (by rw [e]; rfl)
  have hst := (hr.ht.stored n (.bool true)).1
  rw [← List.map_set] at hst
  refine bodyPost_ret (v := .tuple #[.agg #[.int .i64 most, .slice (some ⟨g', 0, none⟩) gens.length cg', .slice (some ⟨t', 0, none⟩) taken.length ct', .slice (some ⟨f', 0, none⟩) free.length cf'], .agg #[.int .i64 n, .int .i64 v], .int .i64 0]) (by simp [results, Try.results25, go_sem, hc, k1, k2]) rfl
    ⟨_, _, _, rfl, ⟨own_base (ownsRow_block hr.hg fun k e => ?_) (fun _ _ => Nat.zero_le _), ?_, own_base (ownsRow_block hpop fun k e => ?_) (fun _ _ => Nat.zero_le _)⟩, ?_, fun k e => .inr ?_, fun k e => .inr ?_, fun k e => .inr ?_⟩
  · obtain rfl : g' = k := Option.some.inj e
    exact (outs_old _ _ _ _ _ _ _ _ _ _ _ (by omega) (by omega) (by rw [hset_size]; omega)).trans (hset_ne _ _ _ _ _ (by omega))
  · simp only [List.length_set]
    refine own_base (ownsRow_block hst fun k e => ?_) (fun _ _ => Nat.zero_le _)
    obtain rfl : t' = k := Option.some.inj e
    exact outs_old _ _ _ _ _ _ _ _ _ _ _ (by omega) (by omega) (by rw [hset_size]; omega)
  · obtain rfl : f' = k := Option.some.inj e
    exact (outs_old _ _ _ _ _ _ _ _ _ _ _ (by omega) (by omega) (by rw [hset_size]; omega)).trans (hset_ne _ _ _ _ _ (by omega))
  · exact outs_below (hb.setCell (p := ⟨t', n, none⟩) (show w.heap.size ≤ t' by omega) (.bool true)) _ _ _ _ _ _ _ _ _ (by omega) (by omega) (by rw [hset_size]; omega)
  · obtain rfl : g' = k := Option.some.inj e
    omega
  · obtain rfl : t' = k := Option.some.inj e
    omega
  · obtain rfl : f' = k := Option.some.inj e
    omega
end Go.Proofs.Ytiiiciehilfmfaa
