/- Contracts of package arena: Copy (and slices.Clone at []int). -/
import Derived.Test.YtiiiciehilfmfaaArena5
import Derived.Deep.RegionHeld3
import Derived.Lib.SliceRun
namespace Go.Proofs.Ytiiiciehilfmfaa
open Go.RowKit

def CloneP (w : World) (n : Nat) (xs : List Value) (e : Ending) (w' : World) : Prop :=
  ∃ q cap, e = .returned (.slice q n cap) ∧ w'.ownsRow 0 3 1 (.slice q n cap) n xs ∧ Below w.heap.size w w' ∧ ∀ k, (Value.slice q n cap).ownBlock = some k → w.heap.size ≤ k ∧ k < w'.heap.size

theorem clone_any (w : World) (v : Value) (n : Nat) (xs : List Value) (h : w.ownsRow 0 3 1 v n xs) (h1 : ∀ u ∈ xs, u.oneCell' = true) (hn : n * 8 ≤ 140737488355328) :
    Calls Try.prog 30 #[v] w (CloneP w n xs) := by
  have hnm : 0 + n ≤ maxLen := by unfold maxLen; omega
  have hnb : (0 + n) * 8 ≤ 140737488355328 := by omega
  have HN := Lib.hid hnm; have HB := Lib.hid hnb; clear hnm hnb
  have he := fun (w : World) (a : Option Addr) (n c n' c' : Nat) => Lib.run_eql_slice_nil (P := Try.prog) w 27 3 a n c n' c' Try.underlying27
  rcases h.2 with ⟨rfl, rfl⟩ | ⟨g, cap, cur, rfl, _, hg, h2, h3, _⟩
  · have hx : xs = [] := List.eq_nil_of_length_eq_zero (by simpa using h.1)
    subst hx
    have HH := Lib.hid h; clear h
    go_enter Try.func30, Try.ntmps30
    go_wp2
    go_ret
    exact ⟨none, 0, rfl, HH.out, Below.refl _ _, fun k e => by cases e⟩
  · have hlt := lt_of_block hg
    have hlt2 : g < (w.alloc (.cells #[] 3)).heap.size := by simp; omega
    have HS := Lib.hid (src_own (h.alloc (.cells #[] 3)) h1)
    have HO := Lib.hid (World.ownsRow_made (base := 0) (e := 3) (size := 1) w #[] 0 (Nat.zero_le _) (by decide) rfl)
    clear h hg h1
    go_enter Try.func30, Try.ntmps30
    go_wp2_with (at_builtin; refine wpList_app (v := .slice (some ⟨w.heap.size, 0, none⟩) 0 0) (n := 0) (m := n) rfl _ _ rfl elem_int rfl rfl HO.out HS.out HN.out HB.out ?_; intro q cap' w1 hown happ _; have HOWN := Lib.hid hown; have HAPP := Lib.hid happ; clear hown happ)
    go_ret
    have happ := HAPP.out
    have hown := HOWN.out
    rw [List.nil_append] at hown
    have hs := happ.size
    simp only [World.size_alloc] at hs
    simp only [Nat.zero_add] at hown happ ⊢
    refine ⟨q, cap', rfl, hown, ⟨happ.os, happ.tape, happ.output, by omega, fun k hk => ?_⟩, fun k e => ⟨?_, (hown.lt k e).2⟩⟩
    · exact (happ.keep k (by simp; omega) (fun e => by cases e; exact absurd hk (Nat.lt_irrefl _))).trans (hall_old _ _ _ hk)
    · rcases happ.blk k e with g | g
      · cases g; exact Nat.le_refl _
      · simp at g; omega

/-- A copy: a new arena with the same lists. -/
def CopyP (w : World) (most : Int) (gens free : List Int) (e : Ending) (w' : World) : Prop :=
  ∃ p gv fv, e = .returned (.pointer (some ⟨p, 0, none⟩)) ∧ ArAt w' p gv fv most gens free ∧ Below w.heap.size w w' ∧ ∀ k, arOwn p gv fv k → w.heap.size ≤ k

theorem copy_any (w : World) (p : Nat) (gv fv : Value) (most : Int) (gens free : List Int) (hm : most ≠ 0) (h : ArAt w p gv fv most gens free) (hs1 : gens.length ≤ 1048576) (hs2 : free.length ≤ 1048576) :
    Calls Try.prog 22 #[.pointer (some ⟨p, 0, none⟩)] w (CopyP w most gens free) := by
  have hz : (most == 0) = false := by simp [hm]
  have hp := lt_of_block h.hp
  have c0 : w.cell? ⟨p, 0, none⟩ = some (.int .i64 most) := cell_of_row _ _ _ _ _ _ h.hp
  have c1 : w.cell? ⟨p, 1, none⟩ = some gv := cell_of_row _ _ _ _ _ _ h.hp
  have c2 : w.cell? ⟨p, 2, none⟩ = some fv := cell_of_row _ _ _ _ _ _ h.hp
  obtain ⟨q1, cap1, hgv, hc1, hc2⟩ := own_view h.hg
  obtain ⟨q2, cap2, hfv, hd1, hd2⟩ := own_view h.hf
  have HH := Lib.hid h; clear h
  subst hgv hfv
  have HD := Lib.hid (HH.out.below (Below.refl w.heap.size w).drew)
  clear hm
  go_enter Try.func22, Try.ntmps22
  go_wp2_with fail
  refine (zero_at _ p most c0).mono ?_
  rintro e w' ⟨rfl, rfl⟩
  go_wp2_with fail
  go_region_held3 (fun w' => w'.cell? ⟨p, 0, none⟩ = some (.int .i64 most) ∧ w'.cell? ⟨p, 1, none⟩ = some (.slice q1 gens.length cap1) ∧ w'.cell? ⟨p, 2, none⟩ = some (.slice q2 free.length cap2) ∧ Hid (ArAt w' p (.slice q1 gens.length cap1) (.slice q2 free.length cap2) most gens free))
    (first | exact ⟨c0, c1, c2, HD⟩ | exact ⟨e0, e1, e2, HA1⟩ | exact ⟨f0, f1, f2, HA2⟩ | exact ⟨cell_of_row _ _ 0 _ _ _ (HA2.out.alloc _).hp, cell_of_row _ _ 1 _ _ _ (HA2.out.alloc _).hp, cell_of_row _ _ 2 _ _ _ (HA2.out.alloc _).hp, Lib.hid (HA2.out.alloc _)⟩)
    (first
      | (go_at_call 30; (with_reducible refine (clone_any _ (.slice q1 gens.length cap1) _ _ HD.out.hg (by simp [Value.oneCell']) (by omega)).mono ?_); rintro e w1 ⟨q1', cap1', rfl, hr1, hb1, hn1⟩; have HA1 := Lib.hid (HD.out.below hb1); have e0 := cell_of_row _ _ 0 _ _ _ HA1.out.hp; have e1 := cell_of_row _ _ 1 _ _ _ HA1.out.hp; have e2 := cell_of_row _ _ 2 _ _ _ HA1.out.hp; have HR1 := Lib.hid hr1; have HB1 := Lib.hid hb1; have HN1 := Lib.hid hn1; clear hr1 hb1 hn1)
      | (go_at_call 30; (with_reducible refine (clone_any _ (.slice q2 free.length cap2) _ _ HA1.out.hf (by simp [Value.oneCell']) (by omega)).mono ?_); rintro e w2 ⟨q2', cap2', rfl, hr2, hb2, hn2⟩; have HA2 := Lib.hid (HA1.out.below hb2); have f0 := cell_of_row _ _ 0 _ _ _ HA2.out.hp; have f1 := cell_of_row _ _ 1 _ _ _ HA2.out.hp; have f2 := cell_of_row _ _ 2 _ _ _ HA2.out.hp; have HR2 := Lib.hid hr2; have HB2 := Lib.hid hb2; have HN2 := Lib.hid hn2; clear hr2 hb2 hn2))
  go_wp2_with fail
  go_ret
  have b1 : Below w.heap.size w w1 := below_undrew HB1.out
  have b2 := HB2.out
  have s1 := b1.size
  have s2 := b2.size
  have k1 : ∀ k, (Value.slice q1' gens.length cap1').ownBlock = some k → w.heap.size ≤ k ∧ k < w1.heap.size := HN1.out
  have k2 := HN2.out
  refine ⟨w2.heap.size, .slice q1' gens.length cap1', .slice q2' free.length cap2', rfl, ⟨heap_alloc_new _ _, ?_, HR2.out.alloc _, fun e => by have := k1 _ e; omega, fun e => by have := k2 _ e; omega, ?_⟩, (b1.trans (b2.mono s1)).alloc (by omega) _, ?_⟩
  · exact (ownsRow_block HR1.out fun k e => b2.block k (k1 k e).2).alloc _
  · by_cases hn : (Value.slice q1' gens.length cap1').ownBlock = none
    · exact .inl hn
    · right
      intro e
      obtain ⟨k, hk⟩ := Option.ne_none_iff_exists'.1 hn
      have := k1 k hk
      have := k2 k (e.symm.trans hk)
      omega
  · rintro k (h | h | h)
    · omega
    · exact (k1 k h).1
    · have := (k2 k h).1; omega

theorem copy_none (w : World) : Calls Try.prog 22 #[.pointer none] w fun e w' => e = .returned (.pointer none) ∧ w = w' := by
  go_enter Try.func22, Try.ntmps22
  go_wp2_with fail
  refine (zero_nil _).mono ?_
  rintro e w' ⟨rfl, rfl⟩
  go_wp2_with fail
  go_ret
  exact ⟨rfl, rfl⟩
theorem copy_zero (w : World) (p : Nat) (c0 : w.cell? ⟨p, 0, none⟩ = some (.int .i64 0)) : Calls Try.prog 22 #[.pointer (some ⟨p, 0, none⟩)] w fun e w' => e = .returned (.pointer none) ∧ w = w' := by
  go_enter Try.func22, Try.ntmps22
  go_wp2_with fail
  refine (zero_at _ p 0 c0).mono ?_
  rintro e w' ⟨rfl, rfl⟩
  go_wp2_with fail
  go_ret
  exact ⟨rfl, rfl⟩
end Go.Proofs.Ytiiiciehilfmfaa
