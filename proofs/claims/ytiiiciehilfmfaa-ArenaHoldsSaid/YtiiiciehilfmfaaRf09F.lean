/- Contracts of package tagcacheref09: Release. -/
import Derived.Test.YtiiiciehilfmfaaRf09E
namespace Go.Proofs.Ytiiiciehilfmfaa
open Go.RowKit

def RelR (w : World) (most : Int) (gv tv fv : Value) (gens : List Int) (taken : List Bool) (free : List Int) (r : Int) (e : Ending) (w' : World) : Prop :=
  ∃ gv' tv' fv', e = .returned (.tuple #[.agg #[.int .i64 most, gv', tv', fv'], .int .i64 r]) ∧ RfV w' 0 gv' tv' fv' gens taken free ∧ Below w.heap.size w w' ∧
    NewOr w gv gv' ∧ NewOr w tv tv' ∧ NewOr w fv fv'

theorem out4_below {B : Nat} {w0 w : World} (hb : Below B w0 w) (a : Nat) (x0 x1 x2 x3 : Value) (h1 : B ≤ a) :
    Below B w0 ((((w.setCell ⟨a, 0, none⟩ x0).setCell ⟨a, 1, none⟩ x1).setCell ⟨a, 2, none⟩ x2).setCell ⟨a, 3, none⟩ x3) :=
  (((hb.setCell (p := ⟨a, 0, none⟩) h1 x0).setCell (p := ⟨a, 1, none⟩) h1 x1).setCell (p := ⟨a, 2, none⟩) h1 x2).setCell (p := ⟨a, 3, none⟩) h1 x3
theorem out4_old (w : World) (a k : Nat) (x0 x1 x2 x3 : Value) (h1 : k ≠ a) :
    ((((w.setCell ⟨a, 0, none⟩ x0).setCell ⟨a, 1, none⟩ x1).setCell ⟨a, 2, none⟩ x2).setCell ⟨a, 3, none⟩ x3).heap[k]? = w.heap[k]? := by
  rw [hset_ne _ _ _ _ _ h1, hset_ne _ _ _ _ _ h1, hset_ne _ _ _ _ _ h1, hset_ne _ _ _ _ _ h1]

theorem heap_alloc_at {w : World} {b : Nat} (h : b = w.heap.size) (o : Obj) : (w.alloc o).heap[b]? = some o := by rw [h]; exact heap_alloc_new w o

set_option maxHeartbeats 1000000 in
theorem relr_no (w : World) (most : Int) (gv tv fv : Value) (gens : List Int) (taken : List Bool) (free : List Int) (n g : Int) (h : RfV w 0 gv tv fv gens taken free) (hl : taken.length = gens.length)
    (hh : hasR gens taken n g = false) :
    Calls Try.prog 27 #[.agg #[.int .i64 most, gv, tv, fv], .agg #[.int .i64 n, .int .i64 g]] w (RelR w most gv tv fv gens taken free 9) := by
  obtain ⟨qg, cg, rfl, _, _⟩ := own_view h.hg
  obtain ⟨qt, ct, rfl, _, _⟩ := own_view h.ht
  obtain ⟨qf, cf, rfl, _, _⟩ := own_view h.hf
  have H := Lib.hid h; clear h
  have HL := Lib.hid hl; clear hl
  have HH := Lib.hid hh; clear hh
  have hb0 := (((Below.refl w.heap.size w).alloc (Nat.le_refl _) (.cells #[.int .i64 most, .slice qg gens.length cg, .slice qt taken.length ct, .slice qf free.length cf] 48)).alloc (by simp) (.cells #[.int .i64 n, .int .i64 g] 30)).alloc (by simp; omega) (.cells #[.int .i64 0, .slice none 0 0, .slice none 0 0, .slice none 0 0] 48)
  have HB0 := Lib.hid hb0; clear hb0
  have HC := Lib.hid (hasr_any _ most _ _ _ gens taken free n g (H.out.later HB0.out) HL.out)
  go_enter Try.func27, Try.ntmps27
  go_wp2_with fail
  refine HC.out.mono ?_
  rintro e w1 ⟨rfl, hb⟩
  rw [HH.out]
  have hb1 := HB0.out.trans (hb.mono (by simp; omega))
  obtain ⟨hc, hf⟩ := bcell hb
  have hsz := hb.size
  simp only [World.size_alloc] at hsz hc hf
  have HBb := Lib.hid hb1
  have k0 : w.heap.size < w1.heap.size := by omega
  have k1 : w.heap.size + 1 < w1.heap.size := by omega
  have k2 : w.heap.size + 1 + 1 < w1.heap.size := by omega
  clear hb hb1
  go_wp2_with fail
  have hb := HBb.out
  refine bodyPost_ret (v := .tuple #[.agg #[.int .i64 most, .slice qg gens.length cg, .slice qt taken.length ct, .slice qf free.length cf], .int .i64 9]) (by simp [results, Try.results27, go_sem, hc]) rfl
    ⟨_, _, _, rfl, ?_, ?_, fun k e => .inl e, fun k e => .inl e, fun k e => .inl e⟩
  · exact H.out.later (out4_below hb _ _ _ _ _ (by omega))
  · exact out4_below hb _ _ _ _ _ (by omega)

set_option maxHeartbeats 1000000 in
theorem relr_yes (w : World) (most : Int) (gv tv fv : Value) (gens : List Int) (taken : List Bool) (free : List Int) (n : Nat) (g : Int) (h : RfV w 0 gv tv fv gens taken free) (hl : taken.length = gens.length)
    (hh : hasR gens taken n g = true) (hn : n < gens.length) (h1 : gens.length ≤ 1048576) (h3 : free.length ≤ 1048575) (hg1 : -9223372036854775808 ≤ g + 1 ∧ g + 1 < 9223372036854775808) :
    Calls Try.prog 27 #[.agg #[.int .i64 most, gv, tv, fv], .agg #[.int .i64 n, .int .i64 g]] w (RelR w most gv tv fv (gens.set n (g + 1)) (taken.set n false) (free ++ [(n : Int)]) 0) := by
  obtain ⟨qg, cg, rfl, _, _⟩ := own_view h.hg
  obtain ⟨qt, ct, rfl, _, _⟩ := own_view h.ht
  obtain ⟨qf, cf, rfl, _, _⟩ := own_view h.hf
  have H := Lib.hid h; clear h
  have HL := Lib.hid hl; clear hl
  have HH := Lib.hid hh; clear hh
  have hb0 := (((Below.refl w.heap.size w).alloc (Nat.le_refl _) (.cells #[.int .i64 most, .slice qg gens.length cg, .slice qt taken.length ct, .slice qf free.length cf] 48)).alloc (by simp) (.cells #[.int .i64 n, .int .i64 g] 30)).alloc (by simp; omega) (.cells #[.int .i64 0, .slice none 0 0, .slice none 0 0, .slice none 0 0] 48)
  have HB0 := Lib.hid hb0; clear hb0
  have HC := Lib.hid (hasr_any _ most _ _ _ gens taken free n g (H.out.later HB0.out) HL.out)
  have HA : free.length + 1 ≤ maxLen := by unfold maxLen; omega
  have HBy : (free.length + 1) * 8 ≤ 140737488355328 := by omega
  go_enter Try.func27, Try.ntmps27
  go_wp2_with fail
  refine HC.out.mono ?_
  rintro e w1 ⟨rfl, hb⟩
  rw [HH.out]
  have hb1 := HB0.out.trans (hb.mono (by simp; omega))
  have hsz := hb.size
  simp only [World.size_alloc] at hsz
  have hv := H.out.later hb1
  have c0 := hb.cell (p := ⟨w.heap.size, 0, none⟩) (by simp; omega)
  have c1 := hb.cell (p := ⟨w.heap.size, 1, none⟩) (by simp; omega)
  have c2 := hb.cell (p := ⟨w.heap.size, 2, none⟩) (by simp; omega)
  have c3 := hb.cell (p := ⟨w.heap.size, 3, none⟩) (by simp; omega)
  have d0 := hb.cell (p := ⟨w.heap.size + 1, 0, none⟩) (by simp)
  have d1 := hb.cell (p := ⟨w.heap.size + 1, 1, none⟩) (by simp)
  have E := (hb.block (w.heap.size + 1 + 1) (by simp)).trans (heap_alloc_at (by simp) _)
  simp [go_sem] at c0 c1 c2 c3 d0 d1
  have HBb := Lib.hid hb1
  have HV := Lib.hid hv
  have HC2 := Lib.hid (copyr_any w1 most _ _ _ gens taken free hv h1 (by have := HL.out; omega) (by omega))
  have k0 : w.heap.size < w1.heap.size := by omega
  have k1 : w.heap.size + 1 < w1.heap.size := by omega
  have k2 : w.heap.size + 1 + 1 < w1.heap.size := by omega
  clear hb hb1 hv
  go_wp2_with fail
  refine HC2.out.mono ?_
  rintro e w2 ⟨gv', tv', fv', rfl, hr, hb, x1, x2, x3⟩
  obtain ⟨qg', cg', rfl, _, _, hgl⟩ := own_some hr.hg (by omega)
  obtain ⟨qt', ct', rfl, _, _, htl⟩ := own_some hr.ht (by have := HL.out; omega)
  obtain ⟨qf', cf', rfl, _, _⟩ := own_view hr.hf
  have hb2 := HBb.out.trans (hb.mono (by omega))
  have hsz2 := hb.size
  replace c0 := (hb.cell (p := ⟨w.heap.size, 0, none⟩) k0).trans c0
  replace d0 := (hb.cell (p := ⟨w.heap.size + 1, 0, none⟩) k1).trans d0
  replace d1 := (hb.cell (p := ⟨w.heap.size + 1, 1, none⟩) k1).trans d1
  have E2 := (hb.block (w.heap.size + 1 + 1) k2).trans E
  clear c1 c2 c3 E
  have htn : (n : Int) < taken.length := by have := HL.out; omega
  have gc := own_int hr.hg n hn
  have gf : w2.frozen? ⟨qg', n, none⟩ = false := hr.hg.frozenAt n
  have tc := own_boolc hr.ht n (by omega)
  have tf : w2.frozen? ⟨qt', n, none⟩ = false := hr.ht.frozenAt n
  have hge : w1.heap.size ≤ qg' := (hr.hg.lt _ rfl).1
  have hte : w1.heap.size ≤ qt' := (hr.ht.lt _ rfl).1
  have NF := Lib.hid (show ∀ k, (Value.slice qf' free.length cf').ownBlock = some k → w1.heap.size ≤ k ∧ k < w2.heap.size ∧ k ≠ qg' ∧ k ≠ qt' from fun k e => ⟨(hr.hf.lt k e).1, (hr.hf.lt k e).2, fun e' => own_of_ne x2 rfl (e' ▸ e), fun e' => own_of_ne x3 rfl (e' ▸ e)⟩)
  have n1 : ¬ qg' = qt' := fun e => own_of_ne x1 rfl (e ▸ rfl)
  have n1' : ¬ qt' = qg' := fun e => n1 e.symm
  have k3 : w.heap.size < w2.heap.size := by omega
  have k4 : w.heap.size + 1 < w2.heap.size := by omega
  have k5 : w.heap.size + 1 + 1 < w2.heap.size := by omega
  have n2 : ¬ qg' = w2.heap.size := by omega
  have n2' : ¬ w2.heap.size = qg' := by omega
  have n3 : ¬ qt' = w2.heap.size := by omega
  have n3' : ¬ w2.heap.size = qt' := by omega
  have n4 : ¬ qt' = w.heap.size + 1 := by omega
  have n4' : ¬ w.heap.size + 1 = qt' := by omega
  have n5 : ¬ qg' = w.heap.size + 1 := by omega
  have n5' : ¬ w.heap.size + 1 = qg' := by omega
  have n6 : ¬ qg' = w.heap.size + 1 + 1 := by omega
  have n6' : ¬ w.heap.size + 1 + 1 = qg' := by omega
  have n7 : ¬ qt' = w.heap.size + 1 + 1 := by omega
  have n7' : ¬ w.heap.size + 1 + 1 = qt' := by omega
  have HR := Lib.hid hr
  have HB2 := Lib.hid hb2
  clear hb hb2 hr x1 x2 x3 HC HC2 HB0
  go_wp2_with (at_builtin; first
    | (refine wpList_app (v := .slice qf' free.length cf') (n := free.length) (m := 1) rfl _ _ rfl elem_int rfl rfl ((ownsRow_setCell_other (a := ⟨qg', n, none⟩) (ownsRow_setCell_other (a := ⟨qt', n, none⟩) (own_base (B' := 0) HR.out.hf (fun _ _ => Nat.zero_le _)) (fun e => (NF.out _ e).2.2.2 rfl) _) (fun e => (NF.out _ e).2.2.1 rfl) _).alloc _ |>.alloc _) (src_one (size := 1) #[.int .i64 n] _ _ (by simp) rfl (by simp [Value.oneCell'])) HA HBy ?_
       intro q2 c2 w3 o3 p3 _
       have R3 : w3.heap[w2.heap.size]? = some (.cells #[.int .i64 most, .slice (some ⟨qg', 0, none⟩) gens.length cg', .slice (some ⟨qt', 0, none⟩) taken.length ct', .slice qf' free.length cf'] 48 (0, 0)) :=
         (p3.keep1 w2.heap.size (by simp) (fun e => by have := NF.out _ e; omega)).trans (heap_alloc_at (by rw [hset_size, hset_size]) _)
       have R2 : w3.heap[w.heap.size + 1 + 1]? = some (.cells #[.int .i64 0, .slice none 0 0, .slice none 0 0, .slice none 0 0] 48 (0, 0)) :=
         (p3.keep1 (w.heap.size + 1 + 1) (by simp; omega) (fun e => by have := NF.out _ e; omega)).trans ((hall_old _ _ _ (by rw [hset_size, hset_size]; omega)).trans ((hset_ne _ _ _ _ _ (by omega)).trans ((hset_ne _ _ _ _ _ (by omega)).trans E2)))
       have a0 := cell_of_row _ _ 0 _ _ _ R3
       have a1 := cell_of_row _ _ 1 _ _ _ R3
       have a2 := cell_of_row _ _ 2 _ _ _ R3
       have a3 := cell_of_row _ _ 3 _ _ _ R3
       have a4 := (fun j => frozen_of_row _ _ j _ _ R3)
       have b0 := cell_of_row _ _ 0 _ _ _ R2
       have b1 := cell_of_row _ _ 1 _ _ _ R2
       have b2 := cell_of_row _ _ 2 _ _ _ R2
       have b3 := cell_of_row _ _ 3 _ _ _ R2
       have b4 := (fun j => frozen_of_row _ _ j _ _ R2)
       have z3 := p3.size
       simp only [World.size_alloc, hset_size] at z3
       have P3 := Lib.hid p3
       have O3 := Lib.hid o3
       clear p3 o3))
  have hr := HR.out
  have p3 := P3.out
  have hold : ∀ k, k < w2.heap.size → (Value.slice qf' free.length cf').ownBlock ≠ some k → w3.heap[k]? = ((w2.setCell ⟨qt', n, none⟩ (.bool false)).setCell ⟨qg', n, none⟩ (.int .i64 (g + 1))).heap[k]? := fun k hk e =>
    (p3.keep1 k (by simp; omega) e).trans (hall_old _ _ _ (by rw [hset_size, hset_size]; exact hk))
  have hq : ∀ k, (Value.slice q2 (free.length + 1) c2).ownBlock = some k → w1.heap.size ≤ k ∧ k ≠ w2.heap.size := fun k e => by
    rcases p3.blk k e with g | g
    · have := NF.out k g; exact ⟨by omega, by omega⟩
    · simp at g; exact ⟨by omega, by omega⟩
  have hgl := (hr.hg.lt _ rfl).2
  have htl := (hr.ht.lt _ rfl).2
  refine bodyPost_ret (v := .tuple #[.agg #[.int .i64 most, .slice (some ⟨qg', 0, none⟩) gens.length cg', .slice (some ⟨qt', 0, none⟩) taken.length ct', .slice q2 (free.length + 1) c2], .int .i64 0]) (by simp [results, Try.results27, go_sem, b0, b1, b2, b3]) rfl
    ⟨_, _, _, rfl, ⟨?_, ?_, ?_⟩, ?_, fun k e => .inr ?_, fun k e => .inr ?_, fun k e => .inr ?_⟩
  · simp only [List.length_set]
    refine own_base (B' := 0) (ownsRow_block (List.map_set ▸ (hr.hg.stored n (.int .i64 (g + 1))).1) fun k e => ?_) (fun _ _ => Nat.zero_le _)
    obtain rfl : qg' = k := Option.some.inj e
    obtain ⟨cur, hcur⟩ := own_blk hr.hg
    rw [out4_old _ _ _ _ _ _ _ (by omega), hset_ne _ _ _ _ _ (by omega), hold _ hgl (fun e => (NF.out _ e).2.2.1 rfl), hset_eq ((hset_ne _ _ _ _ _ n1).trans hcur), hset_eq hcur]
  · simp only [List.length_set]
    refine own_base (B' := 0) (ownsRow_block (List.map_set ▸ (hr.ht.stored n (.bool false)).1) fun k e => ?_) (fun _ _ => Nat.zero_le _)
    obtain rfl : qt' = k := Option.some.inj e
    rw [out4_old _ _ _ _ _ _ _ (by omega), hset_ne _ _ _ _ _ (by omega), hold _ htl (fun e => (NF.out _ e).2.2.2 rfl), hset_ne _ _ _ _ _ n1']
  · simp only [List.length_append, List.length_cons, List.length_nil, List.map_append, List.map_cons, List.map_nil]
    refine ownsRow_block O3.out fun k e => ?_
    obtain ⟨e1, e2⟩ := hq k e
    rw [out4_old _ _ _ _ _ _ _ (by omega), hset_ne _ _ _ _ _ e2]
  · have hw3 : Below w.heap.size w w3 := ⟨p3.os.trans HB2.out.os, p3.tape.trans HB2.out.tape, p3.output.trans HB2.out.output, by omega, fun k hk =>
      (hold k (by omega) (fun e => by have := (NF.out k e).1; omega)).trans ((hset_ne _ _ _ _ _ (by omega)).trans ((hset_ne _ _ _ _ _ (by omega)).trans (HB2.out.block k hk)))⟩
    exact out4_below (hw3.setCell (p := ⟨w2.heap.size, 3, none⟩) (show w.heap.size ≤ w2.heap.size by omega) _) _ _ _ _ _ (by omega)
  · obtain rfl : qg' = k := Option.some.inj e
    omega
  · obtain rfl : qt' = k := Option.some.inj e
    omega
  · have := (hq k e).1; omega
end Go.Proofs.Ytiiiciehilfmfaa
