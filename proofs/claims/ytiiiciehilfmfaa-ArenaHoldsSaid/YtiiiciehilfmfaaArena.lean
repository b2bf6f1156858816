/- Contracts of package arena. -/
import Derived.Test.YtiiiciehilfmfaaHeap
namespace Go.Proofs.Ytiiiciehilfmfaa
open Go.RowKit

/-- An arena in memory: at block p; gv, fv: the two lists' values. -/
structure ArAt (w : World) (p : Nat) (gv fv : Value) (most : Int) (gens free : List Int) : Prop where
  hp : w.heap[p]? = some (.cells #[.int .i64 most, gv, fv] 55 (0, 0))
  hg : w.ownsRow 0 3 1 gv gens.length (gens.map (Value.int .i64))
  hf : w.ownsRow 0 3 1 fv free.length (free.map (Value.int .i64))
  pg : gv.ownBlock ≠ some p
  pf : fv.ownBlock ≠ some p
  gf : gv.ownBlock = none ∨ gv.ownBlock ≠ fv.ownBlock

theorem ArAt.keep {w w' : World} {p : Nat} {gv fv : Value} {most : Int} {gens free : List Int} (h : ArAt w p gv fv most gens free)
    (hk : ∀ k, k = p ∨ gv.ownBlock = some k ∨ fv.ownBlock = some k → w'.heap[k]? = w.heap[k]?) : ArAt w' p gv fv most gens free :=
  ⟨by rw [hk p (.inl rfl)]; exact h.hp, ownsRow_block h.hg (fun k e => hk k (.inr (.inl e))), ownsRow_block h.hf (fun k e => hk k (.inr (.inr e))), h.pg, h.pf, h.gf⟩
theorem ArAt.lt {w : World} {p : Nat} {gv fv : Value} {most : Int} {gens free : List Int} (h : ArAt w p gv fv most gens free) :
    ∀ k, k = p ∨ gv.ownBlock = some k ∨ fv.ownBlock = some k → k < w.heap.size := by
  rintro k (rfl | e | e)
  · exact lt_of_block h.hp
  · exact (h.hg.lt k e).2
  · exact (h.hf.lt k e).2
theorem ArAt.below {w w' : World} {p : Nat} {gv fv : Value} {most : Int} {gens free : List Int} (h : ArAt w p gv fv most gens free) (hb : Below w.heap.size w w') : ArAt w' p gv fv most gens free :=
  h.keep fun k hk => hb.block k (h.lt k hk)
theorem ArAt.alloc {w : World} {p : Nat} {gv fv : Value} {most : Int} {gens free : List Int} (h : ArAt w p gv fv most gens free) (o : Obj) : ArAt (w.alloc o) p gv fv most gens free :=
  h.below ((Below.refl _ _).alloc (Nat.le_refl _) o)

theorem zero_nil (w : World) : Calls Try.prog 24 #[.pointer none] w fun e w' => e = .returned (.bool true) ∧ w = w' := by
  go_enter Try.func24, Try.ntmps24
  go_wp2
  go_ret
  exact ⟨rfl, rfl⟩

theorem zero_at (w : World) (p : Nat) (most : Int) (h : w.cell? ⟨p, 0, none⟩ = some (.int .i64 most)) : Calls Try.prog 24 #[.pointer (some ⟨p, 0, none⟩)] w fun e w' => e = .returned (.bool (most == 0)) ∧ w = w' := by
  go_enter Try.func24, Try.ntmps24
  go_wp2
  go_ret
  exact ⟨rfl, rfl⟩

/-- What At answers of a list of generations. -/
def atA (gens : List Int) (n : Int) : Int × Int × Int :=
  if 0 ≤ n ∧ n < gens.length ∧ 0 ≤ gens.getD n.toNat 0 then (n, gens.getD n.toNat 0, 0) else (0, 0, 9)

def RefE (r : Int × Int × Int) : Ending := .returned (.tuple #[.agg #[.int .i64 r.1, .int .i64 r.2.1], .int .i64 r.2.2])

theorem at_any (w : World) (p : Nat) (gv fv : Value) (most : Int) (gens free : List Int) (n : Int) (hm : most ≠ 0) (h : ArAt w p gv fv most gens free) :
    Calls Try.prog 16 #[.pointer (some ⟨p, 0, none⟩), .int .i64 n] w fun e w' => e = RefE (atA gens n) ∧ Below w.heap.size w w' := by
  have hz : (most == 0) = false := by simp [hm]
  have hp := lt_of_block h.hp
  have c0 : w.cell? ⟨p, 0, none⟩ = some (.int .i64 most) := cell_of_row _ _ _ _ _ _ h.hp
  have c1 : w.cell? ⟨p, 1, none⟩ = some gv := cell_of_row _ _ _ _ _ _ h.hp
  have hlen := own_len_le h.hg
  have hbel := fun (o : Obj) => (Below.refl w.heap.size w).alloc (Nat.le_refl _) o
  have HB := Lib.hid hbel; clear hbel
  by_cases h1 : n < 0
  · have HA := Lib.hid (show atA gens n = (0, 0, 9) from if_neg (by omega))
    obtain ⟨q, cap, rfl, hc1, hc2⟩ := own_view h.hg
    clear h hm
    go_enter Try.func16, Try.ntmps16
    go_wp2_with fail
    refine (zero_at _ p most (by go_simp)).mono ?_
    rintro e w' ⟨rfl, rfl⟩
    go_wp2_with fail
    exact bodyPost_ret (v := .tuple #[.agg #[.int .i64 0, .int .i64 0], .int .i64 9]) (by simp [results, Try.results16, go_sem]) rfl ⟨by rw [HA.out]; rfl, HB.out _⟩
  · obtain ⟨k, rfl⟩ := Int.eq_ofNat_of_zero_le (show 0 ≤ n by omega)
    by_cases h2 : gens.length ≤ k
    · have HA := Lib.hid (show atA gens k = (0, 0, 9) from if_neg (by omega))
      obtain ⟨q, cap, rfl, hc1, hc2⟩ := own_view h.hg
      clear h hm
      go_enter Try.func16, Try.ntmps16
      go_wp2_with fail
      refine (zero_at _ p most (by go_simp)).mono ?_
      rintro e w' ⟨rfl, rfl⟩
      go_wp2_with fail
      exact bodyPost_ret (v := .tuple #[.agg #[.int .i64 0, .int .i64 0], .int .i64 9]) (by simp [results, Try.results16, go_sem]) rfl ⟨by rw [HA.out]; rfl, HB.out _⟩
    · obtain ⟨g, cap, rfl, hc1, hc2, hgl⟩ := own_some h.hg (by omega)
      have cg := own_int h.hg k (by omega)
      by_cases h3 : gens.getD k 0 < 0
      · have HA := Lib.hid (show atA gens k = (0, 0, 9) from if_neg (by rw [Int.toNat_natCast]; omega))
        generalize gens.getD k 0 = v at *
        clear h hm
        go_enter Try.func16, Try.ntmps16
        go_wp2_with fail
        refine (zero_at _ p most (by go_simp)).mono ?_
        rintro e w' ⟨rfl, rfl⟩
        go_wp2_with fail
        exact bodyPost_ret (v := .tuple #[.agg #[.int .i64 0, .int .i64 0], .int .i64 9]) (by simp [results, Try.results16, go_sem]) rfl ⟨by rw [HA.out]; rfl, HB.out _⟩
      · have HA := Lib.hid (show atA gens k = ((k : Int), gens.getD k 0, 0) from by
          have e : ((k : Int)).toNat = k := Int.toNat_natCast k
          unfold atA
          rw [e]
          exact if_pos (by omega))
        generalize gens.getD k 0 = v at *
        clear h hm
        go_enter Try.func16, Try.ntmps16
        go_wp2_with fail
        refine (zero_at _ p most (by go_simp)).mono ?_
        rintro e w' ⟨rfl, rfl⟩
        go_wp2_with fail
        exact bodyPost_ret (v := .tuple #[.agg #[.int .i64 k, .int .i64 v], .int .i64 0]) (by simp [results, Try.results16, go_sem]) rfl ⟨by rw [HA.out]; rfl, HB.out _⟩

/-- The zero arena, or none. -/
theorem at_none (w : World) (n : Int) :
    Calls Try.prog 16 #[.pointer none, .int .i64 n] w fun e w' => e = RefE (0, 0, 1) ∧ Below w.heap.size w w' := by
  go_enter Try.func16, Try.ntmps16
  go_wp2_with fail
  refine (zero_nil _).mono ?_
  rintro e w' ⟨rfl, rfl⟩
  go_wp2_with fail
  exact bodyPost_ret (v := .tuple #[.agg #[.int .i64 0, .int .i64 0], .int .i64 1]) (by simp [results, Try.results16, go_sem]) rfl ⟨rfl, (Below.refl _ _).alloc (Nat.le_refl _) _⟩
theorem at_zero (w : World) (p : Nat) (n : Int) (c0 : w.cell? ⟨p, 0, none⟩ = some (.int .i64 0)) :
    Calls Try.prog 16 #[.pointer (some ⟨p, 0, none⟩), .int .i64 n] w fun e w' => e = RefE (0, 0, 1) ∧ Below w.heap.size w w' := by
  have hp := block_lt_of_cell c0
  go_enter Try.func16, Try.ntmps16
  go_wp2_with fail
  refine (zero_at _ p 0 (by go_simp)).mono ?_
  rintro e w' ⟨rfl, rfl⟩
  go_wp2_with fail
  exact bodyPost_ret (v := .tuple #[.agg #[.int .i64 0, .int .i64 0], .int .i64 1]) (by simp [results, Try.results16, go_sem]) rfl ⟨rfl, (Below.refl _ _).alloc (Nat.le_refl _) _⟩

def hasA (gens : List Int) (n g : Int) : Bool := (atA gens n).2.2 == 0 && ((atA gens n).1 == n && (atA gens n).2.1 == g)

theorem has_any (w : World) (p : Nat) (gv fv : Value) (most : Int) (gens free : List Int) (n g : Int) (hm : most ≠ 0) (h : ArAt w p gv fv most gens free) :
    Calls Try.prog 17 #[.pointer (some ⟨p, 0, none⟩), .agg #[.int .i64 n, .int .i64 g]] w fun e w' => e = .returned (.bool (hasA gens n g)) ∧ Below w.heap.size w w' := by
  have HH := Lib.hid (show hasA gens n g = ((atA gens n).2.2 == 0 && ((atA gens n).1 == n && (atA gens n).2.1 == g)) from rfl)
  go_enter Try.func17, Try.ntmps17
  go_wp2_with fail
  refine (at_any _ p gv fv most gens free n hm (h.alloc _)).mono ?_
  rintro e w1 ⟨rfl, hb⟩
  unfold RefE
  have hB := Lib.hid (((Below.refl w.heap.size w).alloc (Nat.le_refl _) _).trans (hb.mono (by simp)))
  have hsz := hb.size
  obtain ⟨hc, hf⟩ := bcell hb
  simp only [World.size_alloc] at hsz hc hf
  generalize atA gens n = r at *
  obtain ⟨r1, r2, r3⟩ := r
  clear h hm hb
  by_cases h3 : r3 = 0
  · subst h3
    have hlt : w.heap.size < w1.heap.size := by omega
    go_wp2_with fail
    all_goals
      go_ret
      refine ⟨?_, (hB.out.alloc (by omega) _)⟩
      rw [HH.out]
      clear hc hf hB HH
      simp_all
  · have h3' : (r3 == 0) = false := by simp [h3]
    clear h3
    go_wp2_with fail
    go_ret
    refine ⟨?_, (hB.out.alloc (by omega) _)⟩
    rw [HH.out, h3']
    rfl
end Go.Proofs.Ytiiiciehilfmfaa
