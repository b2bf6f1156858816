/- Contracts of package arena: Take. -/
import Derived.Test.YtiiiciehilfmfaaArena
import Derived.Test.YtiiiciehilfmfaaApp
namespace Go.Proofs.Ytiiiciehilfmfaa
open Go.RowKit

def arOwn (p : Nat) (gv fv : Value) : Nat → Prop := fun k => k = p ∨ gv.ownBlock = some k ∨ fv.ownBlock = some k

theorem elem_int : Elem Try.prog 27 3 1 8 := elem_of (z := .int .i64 0) Try.underlying27 (by kernel_rfl) rfl (by omega)

theorem take_full (w : World) (p : Nat) (gv fv : Value) (most : Int) (gens : List Int) (hm : most ≠ 0) (h : ArAt w p gv fv most gens []) (hful : most ≤ gens.length) :
    Calls Try.prog 15 #[.pointer (some ⟨p, 0, none⟩)] w fun e w' => e = RefE (0, 0, 7) ∧ Below w.heap.size w w' := by
  have hz : (most == 0) = false := by simp [hm]
  have hp := lt_of_block h.hp
  have c0 : w.cell? ⟨p, 0, none⟩ = some (.int .i64 most) := cell_of_row _ _ _ _ _ _ h.hp
  have c1 : w.cell? ⟨p, 1, none⟩ = some gv := cell_of_row _ _ _ _ _ _ h.hp
  have c2 : w.cell? ⟨p, 2, none⟩ = some fv := cell_of_row _ _ _ _ _ _ h.hp
  have hlen := own_len_le h.hg
  have hbel := fun (o : Obj) => (Below.refl w.heap.size w).alloc (Nat.le_refl _) o
  have HB := Lib.hid hbel; clear hbel
  obtain ⟨q, cap, rfl, hc1, hc2⟩ := own_view h.hg
  obtain ⟨q2, cap2, rfl, hd1, hd2⟩ := own_view h.hf
  clear h hm
  go_enter Try.func15, Try.ntmps15
  go_wp2_with fail
  refine (zero_at _ p most (by go_simp)).mono ?_
  rintro e w' ⟨rfl, rfl⟩
  go_wp2_with fail
  go_region
  go_wp2_with fail
  exact bodyPost_ret (v := .tuple #[.agg #[.int .i64 0, .int .i64 0], .int .i64 7]) (by simp [results, Try.results15, go_sem]) rfl ⟨rfl, (HB.out _).drew⟩

theorem take_new (w : World) (p : Nat) (gv fv : Value) (most : Int) (gens : List Int) (hm : most ≠ 0) (h : ArAt w p gv fv most gens []) (hful : gens.length < most) (hbig : most ≤ 1048576) :
    Calls Try.prog 15 #[.pointer (some ⟨p, 0, none⟩)] w fun e w' => ∃ gv', e = RefE (gens.length, 1, 0) ∧ ArAt w' p gv' fv most (gens ++ [1]) [] ∧ Stp (arOwn p gv fv) (arOwn p gv' fv) w w' := by
  have hz : (most == 0) = false := by simp [hm]
  have hp := lt_of_block h.hp
  have c0 : w.cell? ⟨p, 0, none⟩ = some (.int .i64 most) := cell_of_row _ _ _ _ _ _ h.hp
  have c1 : w.cell? ⟨p, 1, none⟩ = some gv := cell_of_row _ _ _ _ _ _ h.hp
  have c2 : w.cell? ⟨p, 2, none⟩ = some fv := cell_of_row _ _ _ _ _ _ h.hp
  have f1 : w.frozen? ⟨p, 1, none⟩ = false := frozen_of_row _ _ _ _ _ h.hp
  have hlen := own_len_le h.hg
  have hown := h.hg
  have hnf : ¬ most ≤ (gens.length : Int) := by omega
  obtain ⟨q2, cap2, rfl, hd1, hd2⟩ := own_view h.hf
  obtain ⟨q1, cap1, rfl, hc1, hc2⟩ := own_view h.hg
  have HOWN := Lib.hid hown; clear hown
  have HH := Lib.hid h; clear h
  clear hm
  go_enter Try.func15, Try.ntmps15
  go_wp2_with fail
  refine (zero_at _ p most (by go_simp)).mono ?_
  rintro e w' ⟨rfl, rfl⟩
  go_wp2_with fail
  go_region
  have HA : gens.length + 1 ≤ maxLen := by unfold maxLen; omega
  have HBy : (gens.length + 1) * 8 ≤ 140737488355328 := by omega
  have hne : ¬ (w.heap.size = p) := by omega
  have hne' : ¬ (p = w.heap.size) := by omega
  go_wp2_with (at_builtin; (refine wpList_app (v := .slice q1 gens.length cap1) (n := gens.length) (m := 1) rfl _ _ rfl elem_int rfl rfl (own_drew ((HOWN.out.alloc _).alloc _)) (src_one (size := 1) #[.int .i64 1] _ _ (by simp) rfl (by simp [Value.oneCell'])).drew HA HBy ?_); intro q' cap' w1 hown1 happ _; have d1 : w1.cell? ⟨p, 1, none⟩ = some (.slice q1 gens.length cap1) := (happ.cell p 1 (by simp; omega) HH.out.pg).trans (by go_simp); have d2 : w1.frozen? ⟨p, 1, none⟩ = false := (happ.frozen p 1 (by simp; omega) HH.out.pg).trans (by go_simp); have hgl : (Value.slice q1 gens.length cap1).ownBlock ≠ some w.heap.size := (fun e => by have := (HOWN.out.lt _ e).2; omega); have d3 : ∀ o, w1.cell? ⟨w.heap.size, o, none⟩ = (w.alloc (.cells #[.int .i64 0, .int .i64 0] 30)).cell? ⟨w.heap.size, o, none⟩ := (fun o => (happ.cell w.heap.size o (by simp; omega) hgl).trans (by go_simp)); have d4 : ∀ o, w1.frozen? ⟨w.heap.size, o, none⟩ = false := (fun o => (happ.frozen w.heap.size o (by simp; omega) hgl).trans (by go_simp)); have HAPP := Lib.hid happ; have HOWN1 := Lib.hid hown1; clear happ hown1 hgl)
  refine bodyPost_ret (v := .tuple #[.agg #[.int .i64 gens.length, .int .i64 1], .int .i64 0]) (by simp [results, Try.results15, go_sem, d3]) rfl ⟨rfl, .slice q' (gens.length + 1) cap', ?_, ?_⟩
  all_goals
    have hh := HH.out
    have happ := HAPP.out
    have hgl : (Value.slice q1 gens.length cap1).ownBlock ≠ some w.heap.size := (fun e => by have := (HOWN.out.lt _ e).2; omega)
    have hsz := happ.size
    simp only [World.size_drew, World.size_alloc] at hsz
  · have hpp : w1.heap[p]? = some (.cells #[.int .i64 most, .slice q1 gens.length cap1, .slice q2 0 cap2] 55 (0, 0)) :=
      (happ.keep p (by simp; omega) hh.pg).trans (((heap_alloc_old' _ _ _ (by simp; omega)).trans (heap_alloc_old' _ _ _ hp)).trans hh.hp)
    have h2 : ∀ k, k ≠ p → k ≠ w.heap.size → (((w1.setCell ⟨p, 1, none⟩ (.slice q' (gens.length + 1) cap')).setCell ⟨w.heap.size, 0, none⟩ (.int .i64 gens.length)).setCell ⟨w.heap.size, 1, none⟩ (.int .i64 1)).heap[k]? = w1.heap[k]? :=
      fun k g1 g2 => by rw [hset_ne _ _ _ _ _ g2, hset_ne _ _ _ _ _ g2, hset_ne _ _ _ _ _ g1]
    have hb' : ∀ k, (Value.slice q' (gens.length + 1) cap').ownBlock = some k → k ≠ p ∧ k ≠ w.heap.size := fun k e => by
      rcases happ.blk k e with g | g
      · exact ⟨fun e => hh.pg (e ▸ g), fun e => hgl (e ▸ g)⟩
      · simp at g; omega
    have hf' : ∀ k, (Value.slice q2 0 cap2).ownBlock = some k → k ≠ p ∧ k ≠ w.heap.size ∧ k < w.heap.size ∧ (Value.slice q1 gens.length cap1).ownBlock ≠ some k := fun k e => by
      have hl := (hh.hf.lt k e).2
      refine ⟨fun g => hh.pf (g ▸ e), by omega, hl, fun g => ?_⟩
      rcases hh.gf with g' | g'
      · rw [g'] at g; cases g
      · exact g' (g.trans e.symm)
    refine ⟨?_, ?_, ?_, fun e => (hb' _ e).1 rfl, hh.pf, ?_⟩
    · rw [hset_ne _ _ _ _ _ hne', hset_ne _ _ _ _ _ hne']
      exact hset_eq hpp 1 _
    · have := HOWN1.out
      simp only [List.map_append, List.map_cons, List.map_nil, List.length_append, List.length_cons, List.length_nil]
      exact ownsRow_block this (fun k e => h2 k (hb' k e).1 (hb' k e).2)
    · exact ownsRow_block hh.hf (fun k e => (h2 k (hf' k e).1 (hf' k e).2.1).trans ((happ.keep k (by have := (hf' k e).2.2.1; simp; omega) (hf' k e).2.2.2).trans ((hall_old _ _ _ (by have := (hf' k e).2.2.1; simp; omega)).trans (hall_old _ _ _ (hf' k e).2.2.1))))
    · by_cases hn : (Value.slice q' (gens.length + 1) cap').ownBlock = none
      · exact .inl hn
      · right
        intro e
        obtain ⟨k, hk⟩ := Option.ne_none_iff_exists'.1 hn
        have hk2 := e.symm.trans hk
        rcases happ.blk k hk with g | g
        · exact (hf' k hk2).2.2.2 g
        · have := (hf' k hk2).2.2.1; simp at g; omega
  · refine ⟨happ.os, happ.tape, happ.output, by simp only [hset_size]; omega, fun k hk hF => ?_, fun k hk => ?_⟩
    · have g1 : k ≠ p := fun e => hF (.inl e)
      have g3 : (Value.slice q1 gens.length cap1).ownBlock ≠ some k := fun e => hF (.inr (.inl e))
      rw [hset_ne _ _ _ _ _ (by omega), hset_ne _ _ _ _ _ (by omega), hset_ne _ _ _ _ _ g1]
      exact (happ.keep k (by simp; omega) g3).trans ((hall_old _ _ _ (by simp; omega)).trans (hall_old _ _ _ hk))
    · rcases hk with g | g | g
      · exact .inl (.inl g)
      · rcases happ.blk k g with g | g
        · exact .inl (.inr (.inl g))
        · right; simp at g; omega
      · exact .inl (.inr (.inr g))
end Go.Proofs.Ytiiiciehilfmfaa
