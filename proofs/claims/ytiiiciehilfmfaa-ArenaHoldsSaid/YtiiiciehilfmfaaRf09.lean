/- Contracts of package tagcacheref09: Copy. -/
import Derived.Test.YtiiiciehilfmfaaRef09
import Derived.Test.YtiiiciehilfmfaaGd
namespace Go.Proofs.Ytiiiciehilfmfaa
open Go.RowKit

theorem elem_bool : Elem Try.prog 46 4 1 1 := elem_of (z := .bool false) Try.underlying46 (by kernel_rfl) rfl (by omega)

theorem one_int (l : List Int) : ∀ u ∈ l.map (Value.int .i64), u.oneCell' = true := fun u hu => by
  obtain ⟨_, _, rfl⟩ := List.mem_map.1 hu; rfl
theorem one_bool (l : List Bool) : ∀ u ∈ l.map Value.bool, u.oneCell' = true := fun u hu => by
  obtain ⟨_, _, rfl⟩ := List.mem_map.1 hu; rfl

theorem heap_later {w w' : World} {b : Nat} {o : Obj} (h : w.heap[b]? = some o) (hb : Below w.heap.size w w') : w'.heap[b]? = some o := (hb.block b (lt_of_block h)).trans h

/-- Four cells of a block. -/
def C4 (w : World) (b : Nat) (a0 a1 a2 a3 : Value) : Prop := w.cell? ⟨b, 0, none⟩ = some a0 ∧ w.cell? ⟨b, 1, none⟩ = some a1 ∧ w.cell? ⟨b, 2, none⟩ = some a2 ∧ w.cell? ⟨b, 3, none⟩ = some a3
theorem C4.later {w w' : World} {b : Nat} {a0 a1 a2 a3 : Value} (h : C4 w b a0 a1 a2 a3) (hb : Below w.heap.size w w') : C4 w' b a0 a1 a2 a3 := by
  have hl := block_lt_of_cell h.1
  exact ⟨(hb.cell (p := ⟨b, 0, none⟩) hl).trans h.1, (hb.cell (p := ⟨b, 1, none⟩) hl).trans h.2.1, (hb.cell (p := ⟨b, 2, none⟩) hl).trans h.2.2.1, (hb.cell (p := ⟨b, 3, none⟩) hl).trans h.2.2.2⟩

theorem App.below {w w' : World} {v' : Value} (h : App w w' (.slice none 0 0) v') : Below w.heap.size w w' := ⟨h.os, h.tape, h.output, h.size, fun k hk => h.keep k hk (fun e => by cases e)⟩

theorem own_ne {u v : Value} (h : ∀ a b, u.ownBlock = some a → v.ownBlock = some b → a ≠ b) : u.ownBlock = none ∨ u.ownBlock ≠ v.ownBlock := by
  by_cases hn : u.ownBlock = none
  · exact .inl hn
  · right
    intro e
    obtain ⟨k, hk⟩ := Option.ne_none_iff_exists'.1 hn
    exact h k k hk (e.symm.trans hk) rfl
/-- The reference's arena as a value. -/
structure RfV (w : World) (B : Nat) (gv tv fv : Value) (gens : List Int) (taken : List Bool) (free : List Int) : Prop where
  hg : w.ownsRow B 3 1 gv gens.length (gens.map (Value.int .i64))
  ht : w.ownsRow B 4 1 tv taken.length (taken.map Value.bool)
  hf : w.ownsRow B 3 1 fv free.length (free.map (Value.int .i64))
theorem RfV.later {w w' : World} {B : Nat} {gv tv fv : Value} {gens : List Int} {taken : List Bool} {free : List Int} (h : RfV w B gv tv fv gens taken free) (hb : Below w.heap.size w w') : RfV w' B gv tv fv gens taken free :=
  ⟨ownsRow_block h.hg fun k e => hb.block k (h.hg.lt k e).2, ownsRow_block h.ht fun k e => hb.block k (h.ht.lt k e).2, ownsRow_block h.hf fun k e => hb.block k (h.hf.lt k e).2⟩
theorem own_base {w : World} {B B' : Nat} {e : TypeId} {size : Nat} {v : Value} {n : Nat} {xs : List Value} (h : w.ownsRow B e size v n xs) (hb : ∀ k, v.ownBlock = some k → B' ≤ k) : w.ownsRow B' e size v n xs := by
  obtain ⟨h1, h2⟩ := h
  refine ⟨h1, ?_⟩
  rcases h2 with h2 | ⟨g, cap, cur, rfl, _, r⟩
  · exact .inl h2
  · exact .inr ⟨g, cap, cur, rfl, hb g rfl, r⟩

def CopyR (w : World) (most : Int) (gens : List Int) (taken : List Bool) (free : List Int) (e : Ending) (w' : World) : Prop :=
  ∃ gv tv fv, e = .returned (.agg #[.int .i64 most, gv, tv, fv]) ∧ RfV w' w.heap.size gv tv fv gens taken free ∧ Below w.heap.size w w' ∧
    (gv.ownBlock = none ∨ gv.ownBlock ≠ tv.ownBlock) ∧ (gv.ownBlock = none ∨ gv.ownBlock ≠ fv.ownBlock) ∧ (tv.ownBlock = none ∨ tv.ownBlock ≠ fv.ownBlock)

set_option maxHeartbeats 2000000 in
theorem copyr_any (w : World) (most : Int) (gv tv fv : Value) (gens : List Int) (taken : List Bool) (free : List Int) (h : RfV w 0 gv tv fv gens taken free) (h1 : gens.length ≤ 1048576) (h2 : taken.length ≤ 1048576) (h3 : free.length ≤ 1048576) :
    Calls Try.prog 31 #[.agg #[.int .i64 most, gv, tv, fv]] w (CopyR w most gens taken free) := by
  obtain ⟨qg, cg, rfl, _, _⟩ := own_view h.hg
  obtain ⟨qt, ct, rfl, _, _⟩ := own_view h.ht
  obtain ⟨qf, cf, rfl, _, _⟩ := own_view h.hf
  have N1 := Lib.hid (show 0 + gens.length ≤ maxLen from by unfold maxLen; omega)
  have M1 := Lib.hid (show (0 + gens.length) * 8 ≤ 140737488355328 from by omega)
  have N2 := Lib.hid (show 0 + taken.length ≤ maxLen from by unfold maxLen; omega)
  have M2 := Lib.hid (show (0 + taken.length) * 1 ≤ 140737488355328 from by omega)
  have N3 := Lib.hid (show 0 + free.length ≤ maxLen from by unfold maxLen; omega)
  have M3 := Lib.hid (show (0 + free.length) * 8 ≤ 140737488355328 from by omega)
  have O1 := Lib.hid (show ∀ u ∈ gens.map (Value.int .i64), u.oneCell' = true from one_int gens)
  have O2 := Lib.hid (show ∀ u ∈ taken.map Value.bool, u.oneCell' = true from one_bool taken)
  have O3 := Lib.hid (show ∀ u ∈ free.map (Value.int .i64), u.oneCell' = true from one_int free)
  have HB0 := Lib.hid (show ∀ o, Below w.heap.size w (w.alloc o) from fun o => (Below.refl _ _).alloc (Nat.le_refl _) o)
  have H0 := Lib.hid h; clear h
  go_enter Try.func31, Try.ntmps31
  go_wp2_with fail
  have c0 : C4 ((w.alloc (.cells #[.int .i64 most, .slice qg gens.length cg, .slice qt taken.length ct, .slice qf free.length cf] 48)).alloc (.cells #[.int .i64 0, .slice none 0 0, .slice none 0 0, .slice none 0 0] 48)) w.heap.size (.int .i64 most) (.slice qg gens.length cg) (.slice qt taken.length ct) (.slice qf free.length cf) := by
    refine ⟨?_, ?_, ?_, ?_⟩ <;> go_simp
  have r0 : C4 ((w.alloc (.cells #[.int .i64 most, .slice qg gens.length cg, .slice qt taken.length ct, .slice qf free.length cf] 48)).alloc (.cells #[.int .i64 0, .slice none 0 0, .slice none 0 0, .slice none 0 0] 48)) (w.heap.size + 1) (.int .i64 0) (.slice none 0 0) (.slice none 0 0) (.slice none 0 0) := by
    refine ⟨?_, ?_, ?_, ?_⟩ <;> go_simp
  have hbw : Below w.heap.size w ((w.alloc (.cells #[.int .i64 most, .slice qg gens.length cg, .slice qt taken.length ct, .slice qf free.length cf] 48)).alloc (.cells #[.int .i64 0, .slice none 0 0, .slice none 0 0, .slice none 0 0] 48)) := ((Below.refl _ _).alloc (Nat.le_refl _) _).alloc (by simp) _
  have hr0 : ((w.alloc (.cells #[.int .i64 most, .slice qg gens.length cg, .slice qt taken.length ct, .slice qf free.length cf] 48)).alloc (.cells #[.int .i64 0, .slice none 0 0, .slice none 0 0, .slice none 0 0] 48)).heap[w.heap.size + 1]? = some (.cells #[.int .i64 0, .slice none 0 0, .slice none 0 0, .slice none 0 0] 48 (0, 0)) := heap_alloc2_new _ _ _
  have hz0 : ((w.alloc (.cells #[.int .i64 most, .slice qg gens.length cg, .slice qt taken.length ct, .slice qf free.length cf] 48)).alloc (.cells #[.int .i64 0, .slice none 0 0, .slice none 0 0, .slice none 0 0] 48)).heap.size = w.heap.size + 2 := by simp
  generalize (w.alloc (.cells #[.int .i64 most, .slice qg gens.length cg, .slice qt taken.length ct, .slice qf free.length cf] 48)).alloc (.cells #[.int .i64 0, .slice none 0 0, .slice none 0 0, .slice none 0 0] 48) = W at *
  have C0 := Lib.hid c0; have R0 := Lib.hid hr0; have HW := Lib.hid hbw; have HV := Lib.hid (H0.out.later hbw)
  have HZ := Lib.hid hz0
  clear hbw hr0 HB0 hz0
  have HVd := Lib.hid (HV.out.later (Below.refl _ _).drew)
  go_region_held3 (fun w' => w'.cell? ⟨w.heap.size, 0, none⟩ = some (.int .i64 most) ∧ w'.cell? ⟨w.heap.size, 1, none⟩ = some (.slice qg gens.length cg) ∧ w'.cell? ⟨w.heap.size, 2, none⟩ = some (.slice qt taken.length ct) ∧ w'.cell? ⟨w.heap.size, 3, none⟩ = some (.slice qf free.length cf))
    (first | exact c0 | exact c1 | exact c2 | exact c3 | (obtain ⟨z0, z1, z2, z3⟩ := c3; exact ⟨by go_simp, by go_simp, by go_simp, by go_simp⟩))
    (first
      | (refine step_app (v := .slice none 0 0) (n := 0) (y := .slice qg gens.length cg) (m := gens.length) (xs := []) (news := gens.map (Value.int .i64)) (by rfl) _ _ (by rfl) elem_int (by rfl) (by rfl) (by exact World.ownsRow_nil _ _ _ _) (by exact src_own HVd.out.hg O1.out) N1.out M1.out ?_; intro q1 k1 w1 o1 p1 _; have b1 := below_undrew p1.below; have c1 := C0.out.later b1; have HV1 := Lib.hid (HV.out.later b1); have B1 := Lib.hid b1; have R1 := Lib.hid (heap_later R0.out b1); have P1 := Lib.hid p1; have G1 := Lib.hid o1; clear b1 p1 o1 c0)
      | (refine step_app (v := .slice none 0 0) (n := 0) (y := .slice qt taken.length ct) (m := taken.length) (xs := []) (news := taken.map Value.bool) (by rfl) _ _ (by rfl) elem_bool (by rfl) (by rfl) (by exact World.ownsRow_nil _ _ _ _) (by exact src_own HV1.out.ht O2.out) N2.out M2.out ?_; intro q2 k2 w2 o2 p2 _; have b2 := p2.below; have C1 := Lib.hid c1; have c2 := C1.out.later b2; have HV2 := Lib.hid (HV1.out.later b2); have B2 := Lib.hid b2; have R2 := Lib.hid (heap_later R1.out b2); have P2 := Lib.hid p2; have G2 := Lib.hid o2; clear b2 p2 o2 c1)
      | (refine step_app (v := .slice none 0 0) (n := 0) (y := .slice qf free.length cf) (m := free.length) (xs := []) (news := free.map (Value.int .i64)) (by rfl) _ _ (by rfl) elem_int (by rfl) (by rfl) (by exact World.ownsRow_nil _ _ _ _) (by exact src_own HV2.out.hf O3.out) N3.out M3.out ?_; intro q3 k3 w3 o3 p3 _; have b3 := p3.below; have C2 := Lib.hid c2; have c3 := C2.out.later b3; have HV3 := Lib.hid (HV2.out.later b3); have B3 := Lib.hid b3; have R3 := Lib.hid (heap_later R2.out b3); have s0 := cell_of_row _ _ 0 _ _ _ R3.out; have s1 := cell_of_row _ _ 1 _ _ _ R3.out; have s2 := cell_of_row _ _ 2 _ _ _ R3.out; have s3 := cell_of_row _ _ 3 _ _ _ R3.out; have s4 := (fun j => frozen_of_row _ _ j _ _ R3.out); have P3 := Lib.hid p3; have G3 := Lib.hid o3; clear b3 p3 o3 c2))
  clear c3
  go_wp2_with fail
  simp only [Nat.zero_add] at *
  refine bodyPost_ret (v := .agg #[.int .i64 most, .slice q1 gens.length k1, .slice q2 taken.length k2, .slice q3 free.length k3]) (by simp [results, Try.results31, go_sem, s0, s1, s2, s3]) rfl ?_
  have b1 : Below W.heap.size W w1 := B1.out
  have b2 := B2.out
  have b3 := B3.out
  have z1 := b1.size
  have z2 := b2.size
  have z3 := b3.size
  have hz := HZ.out
  have t1 : ∀ k, (Value.slice q1 gens.length k1).ownBlock = some k → W.heap.size ≤ k ∧ k < w1.heap.size := fun k e => ⟨by
    have h := P1.out.blk k (by simpa using e)
    rcases h with h | h
    · cases h
    · exact h, by
    have h := G1.out.lt k (by simpa using e)
    exact h.2⟩
  have t2 : ∀ k, (Value.slice q2 taken.length k2).ownBlock = some k → w1.heap.size ≤ k ∧ k < w2.heap.size := fun k e => ⟨by
    have h := P2.out.blk k (by simpa using e)
    rcases h with h | h
    · cases h
    · exact h, by
    have h := G2.out.lt k (by simpa using e)
    exact h.2⟩
  have t3 : ∀ k, (Value.slice q3 free.length k3).ownBlock = some k → w2.heap.size ≤ k ∧ k < w3.heap.size := fun k e => ⟨by
    have h := P3.out.blk k (by simpa using e)
    rcases h with h | h
    · cases h
    · exact h, by
    have h := G3.out.lt k (by simpa using e)
    exact h.2⟩
  have g1 := G1.out; have g2 := G2.out; have g3 := G3.out
  simp only [List.nil_append] at g1 g2 g3
  refine ⟨_, _, _, rfl, ⟨own_base (B := 0) (ownsRow_block g1 fun k e => ?_) (fun k e => by have := (t1 k e).1; omega), own_base (B := 0) (ownsRow_block g2 fun k e => ?_) (fun k e => by have := (t2 k e).1; omega), own_base (B := 0) (ownsRow_block g3 fun k e => ?_) (fun k e => by have := (t3 k e).1; omega)⟩, ?_, ?_, ?_, ?_⟩
  · have := t1 k e
    rw [hset_ne _ _ _ _ _ (by omega), hset_ne _ _ _ _ _ (by omega), hset_ne _ _ _ _ _ (by omega), hset_ne _ _ _ _ _ (by omega), b3.block k (by omega), b2.block k (by omega)]
  · have := t2 k e
    rw [hset_ne _ _ _ _ _ (by omega), hset_ne _ _ _ _ _ (by omega), hset_ne _ _ _ _ _ (by omega), hset_ne _ _ _ _ _ (by omega), b3.block k (by omega)]
  · have := t3 k e
    rw [hset_ne _ _ _ _ _ (by omega), hset_ne _ _ _ _ _ (by omega), hset_ne _ _ _ _ _ (by omega), hset_ne _ _ _ _ _ (by omega)]
  · have hb : Below w.heap.size w w3 := HW.out.trans ((b1.trans ((b2.trans (b3.mono z2)).mono z1)).mono (by omega))
    exact (((hb.setCell (p := ⟨w.heap.size + 1, 0, none⟩) (by simp) _).setCell (p := ⟨w.heap.size + 1, 1, none⟩) (by simp) _).setCell (p := ⟨w.heap.size + 1, 2, none⟩) (by simp) _).setCell (p := ⟨w.heap.size + 1, 3, none⟩) (by simp) _
  · exact own_ne fun a b ha hb => by have := t1 a ha; have := t2 b hb; omega
  · exact own_ne fun a b ha hb => by have := t1 a ha; have := t3 b hb; omega
  · exact own_ne fun a b ha hb => by have := t2 a ha; have := t3 b hb; omega
end Go.Proofs.Ytiiiciehilfmfaa
