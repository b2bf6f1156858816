/- Contracts of package arena: Take of a free slot, Free. -/
import Derived.Test.YtiiiciehilfmfaaArena2
namespace Go.Proofs.Ytiiiciehilfmfaa
open Go.RowKit

/-- Take of a free slot: the last one. -/
theorem take_free (w : World) (p : Nat) (gv fv : Value) (most : Int) (gens free : List Int) (n : Nat) (hm : most ≠ 0) (h : ArAt w p gv fv most gens (free ++ [(n : Int)])) (hn : n < gens.length)
    (hr : -9223372036854775808 < gens.getD n 0 ∧ gens.getD n 0 < 9223372036854775808) :
    Calls Try.prog 15 #[.pointer (some ⟨p, 0, none⟩)] w fun e w' => ∃ fv', e = RefE (n, -(gens.getD n 0), 0) ∧ ArAt w' p gv fv' most (gens.set n (-(gens.getD n 0))) free ∧ Stp (arOwn p gv fv) (arOwn p gv fv') w w' := by
  have hz : (most == 0) = false := by simp [hm]
  have hp := lt_of_block h.hp
  have c0 : w.cell? ⟨p, 0, none⟩ = some (.int .i64 most) := cell_of_row _ _ _ _ _ _ h.hp
  have c1 : w.cell? ⟨p, 1, none⟩ = some gv := cell_of_row _ _ _ _ _ _ h.hp
  have c2 : w.cell? ⟨p, 2, none⟩ = some fv := cell_of_row _ _ _ _ _ _ h.hp
  have f2 : w.frozen? ⟨p, 2, none⟩ = false := frozen_of_row _ _ _ _ _ h.hp
  have hlen := own_len_le h.hg
  have hlen2 := own_len_le h.hf
  have hl : (free ++ [(n : Int)]).length = free.length + 1 := by simp
  rw [hl] at hlen2
  obtain ⟨g, cap1, rfl, hc1, hc2, hg⟩ := own_some h.hg (by omega)
  obtain ⟨f, cap2, rfl, hd1, hd2, hf⟩ := own_some h.hf (by omega)
  have cg := own_int h.hg n hn
  have fg : w.frozen? ⟨g, n, none⟩ = false := h.hg.frozenAt n
  obtain ⟨curg, hgb⟩ := own_blk h.hg
  have cf := own_int h.hf free.length (by omega)
  rw [show (free ++ [(n : Int)]).getD free.length 0 = n by simp] at cf
  have n1 : ¬ g = p := fun e => h.pg (by rw [e]; rfl)
  have n2 : ¬ f = p := fun e => h.pf (by rw [e]; rfl)
  have n3 : ¬ g = f := fun e => by rcases h.gf with g' | g'; cases g'; exact g' (by rw [e]; rfl)
  have n1' : ¬ p = g := fun e => n1 e.symm
  rw [hl] at c2 hd1
  have HH := Lib.hid h; clear h
  have HL := Lib.hid hl; clear hl
  generalize hv : gens.getD n 0 = v at *
  have HV := Lib.hid hv; clear hv
  have hne : ¬ (w.heap.size = p) := by omega
  have hne' : ¬ (p = w.heap.size) := by omega
  have hne2 : ¬ (w.heap.size = g) := by omega
  have hne2' : ¬ (g = w.heap.size) := by omega
  clear hm
  go_enter Try.func15, Try.ntmps15
  go_wp2_with fail
  refine (zero_at _ p most (by go_simp)).mono ?_
  rintro e w' ⟨rfl, rfl⟩
  go_wp2_with fail
  go_region
  go_wp2_with fail
  have hh := HH.out
  refine bodyPost_ret (v := .tuple #[.agg #[.int .i64 n, .int .i64 (-v)], .int .i64 0]) (by simp [results, Try.results15, go_sem]) rfl ⟨.slice (some ⟨f, 0, none⟩) free.length cap2, rfl, ⟨?_, ?_, ?_, hh.pg, fun e => n2 (by cases e; rfl), .inr fun e => n3 (by cases e; rfl)⟩, ⟨rfl, rfl, rfl, by simp [World.size_drew, World.size_alloc], fun k hk hF => ?_, fun k hk => .inl ?_⟩⟩
  · rw [heap_drew, hall_old _ _ _ (by simpa [hset_size] using hp), hset_ne _ _ _ _ _ n1']
    exact hset_eq hh.hp 2 _
  · have := (hh.hg.stored n (.int .i64 (-v))).1
    rw [← List.map_set] at this
    simp only [List.length_set]
    exact ownsRow_block this fun k e => by
      cases e
      rw [heap_drew, hall_old _ _ _ (by simpa [hset_size] using hg), hset_eq (hset_ne w p 2 _ g n1 ▸ hgb) n, hset_eq hgb n]
  · have h3 := hh.hf
    rw [HL.out, List.map_append] at h3
    exact ownsRow_block (ownsRow_pop (by simp) h3) fun k e => by
      cases e
      rw [heap_drew, hall_old _ _ _ (by simpa [hset_size] using hf), hset_ne _ _ _ _ _ (fun e => n3 e.symm), hset_ne _ _ _ _ _ n2]
  · have g1 : k ≠ p := fun e => hF (.inl e)
    have g2 : k ≠ g := fun e => hF (.inr (.inl (by rw [e]; rfl)))
    rw [heap_drew, hall_old _ _ _ (by simpa [hset_size] using hk), hset_ne _ _ _ _ _ g2, hset_ne _ _ _ _ _ g1]
  · rcases hk with h | h | h
    · exact .inl h
    · exact .inr (.inl h)
    · exact .inr (.inr (by cases h; rfl))
end Go.Proofs.Ytiiiciehilfmfaa
