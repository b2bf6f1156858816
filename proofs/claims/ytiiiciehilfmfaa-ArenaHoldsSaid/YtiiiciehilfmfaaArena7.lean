/- Contracts of package arena: Refs. -/
import Derived.Test.YtiiiciehilfmfaaArena6
namespace Go.Proofs.Ytiiiciehilfmfaa
open Go.RowKit

theorem elem_ref : Elem Try.prog 57 30 2 16 := elem_of (z := .agg #[.int .i64 0, .int .i64 0]) Try.underlying57 (by kernel_rfl) rfl (by omega)

def refCells (l : List (Int × Int)) : List Value := l.flatMap fun r => [.int .i64 r.1, .int .i64 r.2]
theorem refCells_append (a b : List (Int × Int)) : refCells (a ++ b) = refCells a ++ refCells b := by simp [refCells]
theorem refCells_length (a : List (Int × Int)) : (refCells a).length = a.length * 2 := by
  induction a with
  | nil => rfl
  | cons x l ih => simp [refCells] at ih ⊢; omega

def refsUpto (gens : List Int) (k : Nat) : List (Int × Int) := (List.range k).filterMap fun i => if 0 ≤ gens.getD i 0 then some ((i : Int), gens.getD i 0) else none
theorem refsUpto_succ (gens : List Int) (k : Nat) : refsUpto gens (k + 1) = refsUpto gens k ++ (if 0 ≤ gens.getD k 0 then [((k : Int), gens.getD k 0)] else []) := by
  unfold refsUpto
  rw [List.range_succ, List.filterMap_append]
  congr 1
  split <;> simp_all
theorem refsUpto_le (gens : List Int) (k : Nat) : (refsUpto gens k).length ≤ k := by
  unfold refsUpto
  exact Nat.le_trans (List.length_filterMap_le _ _) (by simp)

/-- A list of references that was made: its value, its cells, its block. -/
def RefsAt (B : Nat) (w : World) (v : Value) (l : List (Int × Int)) : Prop :=
  ∃ q cap, v = .slice q l.length cap ∧ w.ownsRow 0 30 2 (.slice q l.length cap) l.length (refCells l) ∧ ∀ k, (Value.slice q l.length cap).ownBlock = some k → B ≤ k

theorem RefsAt.later {B : Nat} {w w' : World} {v : Value} {l : List (Int × Int)} (h : RefsAt B w v l) (hb : Below w.heap.size w w') : RefsAt B w' v l := by
  obtain ⟨q, cap, rfl, h1, h2⟩ := h
  exact ⟨q, cap, rfl, ownsRow_block h1 fun k e => hb.block k (h1.lt k e).2, h2⟩

theorem atA_pos {gens : List Int} {k : Nat} (hk : k < gens.length) (h : 0 ≤ gens.getD k 0) : atA gens k = ((k : Int), gens.getD k 0, 0) := by
  unfold atA
  rw [Int.toNat_natCast]
  exact if_pos ⟨by omega, by omega, h⟩
theorem atA_neg {gens : List Int} {k : Nat} (h : ¬ 0 ≤ gens.getD k 0) : atA gens k = (0, 0, 9) := by
  unfold atA
  rw [Int.toNat_natCast]
  exact if_neg fun g => h g.2.2

def RefsP (w : World) (l : List (Int × Int)) (e : Ending) (w' : World) : Prop := ∃ v, e = .returned v ∧ RefsAt w.heap.size w' v l ∧ Below w.heap.size w w'

theorem refs_any (w : World) (p : Nat) (gv fv : Value) (most : Int) (gens free : List Int) (hm : most ≠ 0) (h : ArAt w p gv fv most gens free) (hs1 : gens.length ≤ 1048576) :
    Calls Try.prog 21 #[.pointer (some ⟨p, 0, none⟩)] w (RefsP w (refsUpto gens gens.length)) := by
  have HH := Lib.hid h; clear h
  have HM := Lib.hid hm; clear hm
  go_enter Try.func21, Try.ntmps21
  go_wp2_with fail
  refine (made_any _ p gv fv most gens free HM.out HH.out).mono ?_
  rintro e w' ⟨rfl, rfl⟩
  go_wp2_with fail
  go_loopw [3, 9] (fun out i wr => ∃ k : Nat, k ≤ gens.length ∧ i = .int .i64 k ∧ RefsAt w.heap.size wr out (refsUpto gens k) ∧ Below w.heap.size w wr) (fun _ i _ => gens.length - (intOf i).toNat)
  case atStart => exact ⟨0, Nat.zero_le _, rfl, ⟨none, 0, rfl, World.ownsRow_nil _ _ _ _, fun k e => by cases e⟩, Below.refl _ _⟩
  case round =>
    obtain ⟨k, hk, rfl, hout, hB⟩ := hrel
    have HR := Lib.hid hout; have HBl := Lib.hid hB
    by_cases hlt : k < gens.length
    · have HA := Lib.hid ((HH.out.below hB))
      clear hout hB
      go_wp2_with fail
      refine (at_any _ p gv fv most gens free k HM.out HA.out).mono ?_
      rintro e w1 ⟨rfl, hb⟩
      have hb1 := Lib.hid (HBl.out.trans (hb.mono HBl.out.size))
      have HR1 := Lib.hid (HR.out.later hb)
      clear hb
      by_cases hg : 0 ≤ gens.getD k 0
      · rw [atA_pos hlt hg]
        have HS := Lib.hid (refsUpto_succ gens k)
        rw [if_pos hg] at HS
        generalize gens.getD k 0 = v at *
        obtain ⟨q, cap, rfl, ho, hq⟩ := HR1.out
        have HO := Lib.hid ho; have HQ := Lib.hid hq; clear ho hq
        have hle := refsUpto_le gens k
        have HN1 := Lib.hid (show (refsUpto gens k).length + 1 ≤ maxLen from by unfold maxLen; omega)
        have HN2 := Lib.hid (show ((refsUpto gens k).length + 1) * 16 ≤ 140737488355328 from by omega)
        unfold RefE
        clear HR1 HR
        go_wp2_with (at_builtin; refine wpList_app (v := .slice q (refsUpto gens k).length cap) (n := (refsUpto gens k).length) (m := 1) rfl _ _ rfl elem_ref rfl rfl ((HO.out.alloc _).alloc _) (src_one (size := 2) #[.int .i64 k, .int .i64 v] _ _ (by simp) rfl (by simp [Value.oneCell'])) HN1.out HN2.out ?_; intro q' cap' w2 hown happ _; have HOWN := Lib.hid hown; have HAPP := Lib.hid happ; clear hown happ)
        go_roundw
        case rel =>
          have happ := HAPP.out
          have hs := happ.size
          simp only [World.size_alloc] at hs
          have b1 := hb1.out
          have b1s := b1.size
          have hlen : (refsUpto gens (k + 1)).length = (refsUpto gens k).length + 1 := by rw [HS.out]; simp
          refine ⟨k + 1, by omega, by go_num, ⟨q', cap', by rw [hlen], ?_, fun j e => ?_⟩, ⟨happ.os.trans b1.os, happ.tape.trans b1.tape, happ.output.trans b1.output, by omega, fun j hj => ?_⟩⟩
          · rw [hlen, HS.out, refCells_append]
            exact HOWN.out
          · rw [hlen] at e
            rcases happ.blk j e with g | g
            · exact HQ.out j g
            · simp at g; omega
          · refine (happ.keep j (by simp; omega) (fun e => by have := HQ.out j e; omega)).trans ?_
            rw [hall_old _ _ _ (by simp; omega), hall_old _ _ _ (by omega)]
            exact b1.block j hj
        case measure => simp [intOf]; omega
      · rw [atA_neg hg]
        have HS := Lib.hid (refsUpto_succ gens k)
        rw [if_neg hg, List.append_nil] at HS
        unfold RefE
        go_wp2_with fail
        go_roundw
        case rel => exact ⟨k + 1, by omega, by go_num, by rw [HS.out]; exact HR1.out.later ((Below.refl _ _).alloc (Nat.le_refl _) _), hb1.out.alloc hb1.out.size _⟩
        case measure => simp [intOf]; omega
    · clear hout hB
      go_wp2_with fail
      go_ret
      have : k = gens.length := by omega
      subst this
      exact ⟨u3, rfl, HR.out, HBl.out⟩

theorem refs_none (w : World) : Calls Try.prog 21 #[.pointer none] w fun e w' => e = .returned (.slice none 0 0) ∧ w = w' := by
  go_enter Try.func21, Try.ntmps21
  go_wp2_with fail
  refine (made_none _).mono ?_
  rintro e w' ⟨rfl, rfl⟩
  go_wp2_with fail
  refine wp_loop_rounds 1 ?_
  rw [rounds_succ]
  go_wp2_with fail
  go_ret
  exact ⟨rfl, rfl⟩
theorem refs_zero (w : World) (p : Nat) (c0 : w.cell? ⟨p, 0, none⟩ = some (.int .i64 0)) : Calls Try.prog 21 #[.pointer (some ⟨p, 0, none⟩)] w fun e w' => e = .returned (.slice none 0 0) ∧ w = w' := by
  go_enter Try.func21, Try.ntmps21
  go_wp2_with fail
  refine (made_zero _ p c0).mono ?_
  rintro e w' ⟨rfl, rfl⟩
  go_wp2_with fail
  refine wp_loop_rounds 1 ?_
  rw [rounds_succ]
  go_wp2_with fail
  go_ret
  exact ⟨rfl, rfl⟩
end Go.Proofs.Ytiiiciehilfmfaa
