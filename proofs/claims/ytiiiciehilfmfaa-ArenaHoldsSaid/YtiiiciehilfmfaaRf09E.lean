/- Contracts of package tagcacheref09: Take of a new slot. -/
import Derived.Test.YtiiiciehilfmfaaRf09D
namespace Go.Proofs.Ytiiiciehilfmfaa
open Go.RowKit

/-- Behind an append with a list of one, which was laid into new memory just before. -/
theorem App.keep1 {w1 w2 : World} {a : Obj} {v v' : Value} (h : App (w1.alloc a) w2 v v') (k : Nat) (hk : k < w1.heap.size) (hn : v.ownBlock ≠ some k) : w2.heap[k]? = w1.heap[k]? :=
  (h.keep k (by simp; omega) hn).trans (hall_old _ _ _ hk)
theorem App.cell1 {w1 w2 : World} {a : Obj} {v v' : Value} (h : App (w1.alloc a) w2 v v') (k : Nat) (hk : k < w1.heap.size) (hn : v.ownBlock ≠ some k) (o : Nat) : w2.cell? ⟨k, o, none⟩ = w1.cell? ⟨k, o, none⟩ :=
  World.cell?_of_block (a := ⟨k, o, none⟩) (h.keep1 k hk hn)
theorem App.frozen1 {w1 w2 : World} {a : Obj} {v v' : Value} (h : App (w1.alloc a) w2 v v') (k : Nat) (hk : k < w1.heap.size) (hn : v.ownBlock ≠ some k) (o : Nat) : w2.frozen? ⟨k, o, none⟩ = w1.frozen? ⟨k, o, none⟩ :=
  World.frozen?_of_block (a := ⟨k, o, none⟩) (h.keep1 k hk hn)
theorem own_of_ne' {u v : Value} {k : Nat} (h : u.ownBlock = none ∨ u.ownBlock ≠ v.ownBlock) (hk : v.ownBlock = some k) : u.ownBlock ≠ some k := by
  rcases h with h | h
  · rw [h]; simp
  · exact fun e => h (e.trans hk.symm)
theorem own_of_ne {u v : Value} {k : Nat} (h : u.ownBlock = none ∨ u.ownBlock ≠ v.ownBlock) (hk : u.ownBlock = some k) : v.ownBlock ≠ some k := by
  rcases h with h | h
  · rw [h] at hk; cases hk
  · exact fun e => h (hk.trans e.symm)

theorem outs_old' (w : World) (a b k : Nat) (x0 x1 x2 x3 y0 y1 : Value) (h1 : k ≠ a) (h2 : k ≠ b) :
    ((((((w.setCell ⟨a, 0, none⟩ x0).setCell ⟨a, 1, none⟩ x1).setCell ⟨a, 2, none⟩ x2).setCell ⟨a, 3, none⟩ x3).setCell ⟨b, 0, none⟩ y0).setCell ⟨b, 1, none⟩ y1).drew.heap[k]? = w.heap[k]? := by
  rw [heap_drew, hset_ne _ _ _ _ _ h2, hset_ne _ _ _ _ _ h2, hset_ne _ _ _ _ _ h1, hset_ne _ _ _ _ _ h1, hset_ne _ _ _ _ _ h1, hset_ne _ _ _ _ _ h1]

set_option maxHeartbeats 1000000 in
theorem taker_new (w : World) (most : Int) (gv tv fv : Value) (gens : List Int) (taken : List Bool) (h : RfV w 0 gv tv fv gens taken []) (hl : taken.length = gens.length)
    (h1 : (gens.length : Int) < most) (h2 : most ≤ 1048576) :
    Calls Try.prog 25 #[.agg #[.int .i64 most, gv, tv, fv]] w (TakeR w most gv tv fv (gens ++ [1]) (taken ++ [true]) [] ((gens.length : Int), 1, 0)) := by
  obtain ⟨qg, cg, rfl, _, _⟩ := own_view h.hg
  obtain ⟨qt, ct, rfl, _, _⟩ := own_view h.ht
  obtain ⟨qf, cf, rfl, _, _⟩ := own_view h.hf
  have H := Lib.hid h; clear h
  have HL := Lib.hid hl
  have hb0 := (((Below.refl w.heap.size w).alloc (Nat.le_refl _) (.cells #[.int .i64 most, .slice qg gens.length cg, .slice qt taken.length ct, .slice qf 0 cf] 48)).alloc (by simp) (.cells #[.int .i64 0, .slice none 0 0, .slice none 0 0, .slice none 0 0] 48)).alloc (by simp; omega) (.cells #[.int .i64 0, .int .i64 0] 30)
  have HB0 := Lib.hid hb0; clear hb0
  have HC := Lib.hid (copyr_any _ most _ _ _ gens taken [] (H.out.later HB0.out) (by omega) (by omega) (by simp))
  have HA : gens.length + 1 ≤ maxLen := by unfold maxLen; omega
  have HBy : (gens.length + 1) * 8 ≤ 140737488355328 := by omega
  have HA2 : taken.length + 1 ≤ maxLen := by unfold maxLen; omega
  have HBy2 : (taken.length + 1) * 1 ≤ 140737488355328 := by omega
  clear hl
  go_enter Try.func25, Try.ntmps25
  go_wp2_with fail
  refine HC.out.mono ?_
  rintro e w1 ⟨gv', tv', fv', rfl, hr, hb, d1, d2, d3⟩
  have hb1 := HB0.out.trans (hb.mono (by simp; omega))
  obtain ⟨hc, hf⟩ := bcell hb
  have hsz := hb.size
  simp only [World.size_alloc] at hsz hc hf
  obtain ⟨qg', cg', rfl, _, _⟩ := own_view hr.hg
  obtain ⟨qt', ct', rfl, _, _⟩ := own_view hr.ht
  obtain ⟨qf', cf', rfl, _, _⟩ := own_view hr.hf
  have HBb := Lib.hid hb1
  have k0 : w.heap.size < w1.heap.size := by omega
  have k1 : w.heap.size + 1 < w1.heap.size := by omega
  have k2 : w.heap.size + 2 < w1.heap.size := by omega
  have HR := Lib.hid hr; have D1 := Lib.hid d1; have D2 := Lib.hid d2; have D3 := Lib.hid d3
  have NG := Lib.hid (show ∀ k, (Value.slice qg' gens.length cg').ownBlock = some k → w.heap.size + 3 ≤ k ∧ k < w1.heap.size from fun k e => by have := hr.hg.lt k e; simp at this; omega)
  have NT := Lib.hid (show ∀ k, (Value.slice qt' taken.length ct').ownBlock = some k → w.heap.size + 3 ≤ k ∧ k < w1.heap.size from fun k e => by have := hr.ht.lt k e; simp at this; omega)
  have NF := Lib.hid (show ∀ k, (Value.slice qf' 0 cf').ownBlock = some k → w.heap.size + 3 ≤ k ∧ k < w1.heap.size from fun k e => by have := hr.hf.lt k e; simp at this; omega)
  clear hb hb1 hr d1 d2 d3
  go_wp2_with (at_builtin; first
    | (refine wpList_app (v := .slice qg' gens.length cg') (n := gens.length) (m := 1) rfl _ _ rfl elem_int rfl rfl ((own_base HR.out.hg (fun _ _ => Nat.zero_le _)).alloc _ |>.alloc _) (src_one (size := 1) #[.int .i64 1] _ _ (by simp) rfl (by simp [Value.oneCell'])) HA HBy ?_
       intro q1 c1 w2 o2 p2 _
       have r0 := p2.cell1 w.heap.size (by simp; omega) (fun e => by have := NG.out _ e; omega)
       have r1 := p2.cell1 (w.heap.size + 1) (by simp; omega) (fun e => by have := NG.out _ e; omega)
       have r2 := p2.cell1 (w.heap.size + 1 + 1) (by simp; omega) (fun e => by have := NG.out _ e; omega)
       have r3 := p2.cell1 w1.heap.size (by simp) (fun e => by have := NG.out _ e; omega)
       have s1 := p2.frozen1 (w.heap.size + 1) (by simp; omega) (fun e => by have := NG.out _ e; omega)
       have s2 := p2.frozen1 (w.heap.size + 1 + 1) (by simp; omega) (fun e => by have := NG.out _ e; omega)
       have s3 := p2.frozen1 w1.heap.size (by simp) (fun e => by have := NG.out _ e; omega)
       have z2 := p2.size
       simp only [World.size_alloc] at z2
       have OT := Lib.hid (ownsRow_setCell_other (a := ⟨w1.heap.size, 1, none⟩) (ownsRow_block (own_base (B' := 0) HR.out.ht (fun _ _ => Nat.zero_le _)) fun k e => (p2.keep1 k (by have := NT.out k e; simp; omega) (own_of_ne' D1.out e)).trans (hall_old _ _ _ (NT.out k e).2)) (fun e => by have := NT.out _ e; simp at this) (.slice q1 (gens.length + 1) c1))
       have P2 := Lib.hid p2
       have O2 := Lib.hid o2
       clear p2 o2)
    | (refine wpList_app (v := .slice qt' taken.length ct') (n := taken.length) (m := 1) rfl _ _ rfl elem_bool rfl rfl (OT.out.alloc _) (src_one (size := 1) #[.bool true] _ _ (by simp) rfl (by simp [Value.oneCell'])) HA2 HBy2 ?_
       intro q2 c2 w3 o3 p3 _
       have t0 := p3.cell1 w.heap.size (by simp; omega) (fun e => by have := NT.out _ e; omega)
       have t1 := p3.cell1 (w.heap.size + 1) (by simp; omega) (fun e => by have := NT.out _ e; omega)
       have t2 := p3.cell1 (w.heap.size + 1 + 1) (by simp; omega) (fun e => by have := NT.out _ e; omega)
       have t3 := p3.cell1 w1.heap.size (by simp; omega) (fun e => by have := NT.out _ e; omega)
       have u1 := p3.frozen1 (w.heap.size + 1) (by simp; omega) (fun e => by have := NT.out _ e; omega)
       have u2 := p3.frozen1 (w.heap.size + 1 + 1) (by simp; omega) (fun e => by have := NT.out _ e; omega)
       have u3 := p3.frozen1 w1.heap.size (by simp; omega) (fun e => by have := NT.out _ e; omega)
       have z3 := p3.size
       simp only [World.size_alloc, hset_size] at z3
       have P3 := Lib.hid p3
       have O3 := Lib.hid o3
       clear p3 o3))
  have m0 : ¬ w.heap.size = w1.heap.size := by omega
  have m1 : ¬ w.heap.size + 1 = w1.heap.size := by omega
  have m2 : ¬ w.heap.size + 1 + 1 = w1.heap.size := by omega
  have m3 : w.heap.size < w3.heap.size := by omega
  have m4 : w.heap.size + 1 < w3.heap.size := by omega
  have m5 : w.heap.size + 1 + 1 < w3.heap.size := by omega
  have m6 : w1.heap.size < w3.heap.size := by omega
  go_region
  go_wp2_with fail
  have hr := HR.out
  have p2 := P2.out
  have p3 := P3.out
  have b2 : ∀ k, (Value.slice q1 (gens.length + 1) c1).ownBlock = some k → w.heap.size + 3 ≤ k ∧ k < w2.heap.size ∧ k ≠ w1.heap.size ∧ (Value.slice qt' taken.length ct').ownBlock ≠ some k := fun k e => by
    have hk := (O2.out.lt k e).2
    rcases p2.blk k e with g | g
    · have := NG.out k g; exact ⟨by omega, hk, by omega, own_of_ne D1.out g⟩
    · simp at g; exact ⟨by omega, hk, by omega, fun e => by have := NT.out k e; omega⟩
  have b3 : ∀ k, (Value.slice q2 (taken.length + 1) c2).ownBlock = some k → w.heap.size + 3 ≤ k ∧ k ≠ w1.heap.size := fun k e => by
    rcases p3.blk k e with g | g
    · have := NT.out k g; exact ⟨by omega, by omega⟩
    · simp at g; exact ⟨by omega, by omega⟩
  refine bodyPost_ret (v := .tuple #[.agg #[.int .i64 most, .slice q1 (gens.length + 1) c1, .slice q2 (taken.length + 1) c2, .slice qf' 0 cf'], .agg #[.int .i64 gens.length, .int .i64 1], .int .i64 0]) (by simp [results, Try.results25, go_sem, t1, t2, r1, r2, hc, k1, k2]) rfl
    ⟨_, _, _, rfl, ⟨?_, ?_, ?_⟩, ?_, fun k e => .inr ?_, fun k e => .inr ?_, fun k e => .inr ?_⟩
  · simp only [List.length_append, List.length_cons, List.length_nil, List.map_append, List.map_cons, List.map_nil]
    refine ownsRow_block O2.out fun k e => ?_
    obtain ⟨e1, e2, e3, e4⟩ := b2 k e
    exact (outs_old' _ _ _ k _ _ _ _ _ _ (by omega) (by omega)).trans ((hset_ne _ _ _ _ _ e3).trans ((p3.keep1 k (by rw [hset_size]; exact e2) e4).trans (hset_ne _ _ _ _ _ e3)))
  · simp only [List.length_append, List.length_cons, List.length_nil, List.map_append, List.map_cons, List.map_nil]
    refine ownsRow_block O3.out fun k e => ?_
    obtain ⟨e1, e3⟩ := b3 k e
    exact (outs_old' _ _ _ k _ _ _ _ _ _ (by omega) (by omega)).trans (hset_ne _ _ _ _ _ e3)
  · refine own_base (ownsRow_block hr.hf fun k e => ?_) (fun _ _ => Nat.zero_le _)
    obtain ⟨e1, e2⟩ := NF.out k e
    exact (outs_old' _ _ _ k _ _ _ _ _ _ (by omega) (by omega)).trans ((hset_ne _ _ _ _ _ (by omega)).trans ((p3.keep1 k (by rw [hset_size]; omega) (own_of_ne' D3.out e)).trans ((hset_ne _ _ _ _ _ (by omega)).trans
      ((p2.keep1 k (by simp; omega) (own_of_ne' D2.out e)).trans (hall_old _ _ _ e2)))))
  · have hw2 : Below w.heap.size w w2 := ⟨p2.os.trans HBb.out.os, p2.tape.trans HBb.out.tape, p2.output.trans HBb.out.output, by omega, fun k hk =>
      (p2.keep1 k (by simp; omega) (fun e => by have := NG.out k e; omega)).trans ((hall_old _ _ _ (by omega)).trans (HBb.out.block k hk))⟩
    have hw3 : Below w.heap.size w w3 := ⟨p3.os.trans hw2.os, p3.tape.trans hw2.tape, p3.output.trans hw2.output, by omega, fun k hk =>
      (p3.keep1 k (by rw [hset_size]; omega) (fun e => by have := NT.out k e; omega)).trans ((hset_ne _ _ _ _ _ (by omega)).trans (hw2.block k hk))⟩
    exact (outs_below' (hw3.setCell (p := ⟨w1.heap.size, 2, none⟩) (show w.heap.size ≤ w1.heap.size by omega) _) _ _ _ _ _ _ _ _ (by omega) (by omega)).drew
  · have := (b2 k e).1; omega
  · have := (b3 k e).1; omega
  · have := (NF.out k e).1; omega
end Go.Proofs.Ytiiiciehilfmfaa
