/- Contracts of package tagcacheref09: Refs. -/
import Derived.Test.YtiiiciehilfmfaaRf09F
namespace Go.Proofs.Ytiiiciehilfmfaa
open Go.RowKit

def rrUpto (gens : List Int) (taken : List Bool) (k : Nat) : List (Int × Int) := (List.range k).filterMap fun i => if taken.getD i false = true then some ((i : Int), gens.getD i 0) else none
theorem rrUpto_succ (gens : List Int) (taken : List Bool) (k : Nat) : rrUpto gens taken (k + 1) = rrUpto gens taken k ++ (if taken.getD k false = true then [((k : Int), gens.getD k 0)] else []) := by
  unfold rrUpto
  rw [List.range_succ, List.filterMap_append]
  congr 1
  split <;> simp_all
theorem rrUpto_le (gens : List Int) (taken : List Bool) (k : Nat) : (rrUpto gens taken k).length ≤ k := by
  unfold rrUpto
  exact Nat.le_trans (List.length_filterMap_le _ _) (by simp)

theorem refsr_any (w : World) (most : Int) (gv tv fv : Value) (gens : List Int) (taken : List Bool) (free : List Int) (h : RfV w 0 gv tv fv gens taken free) (hl : taken.length = gens.length) (h1 : gens.length ≤ 1048576) :
    Calls Try.prog 29 #[.agg #[.int .i64 most, gv, tv, fv]] w (RefsP w (rrUpto gens taken gens.length)) := by
  obtain ⟨qg, cg, rfl, _, _⟩ := own_view h.hg
  obtain ⟨qt, ct, rfl, _, _⟩ := own_view h.ht
  obtain ⟨qf, cf, rfl, _, _⟩ := own_view h.hf
  have hbw : Below w.heap.size w (w.alloc (.cells #[.int .i64 most, .slice qg gens.length cg, .slice qt taken.length ct, .slice qf free.length cf] 48)) := (Below.refl _ _).alloc (Nat.le_refl _) _
  have hrow : (w.alloc (.cells #[.int .i64 most, .slice qg gens.length cg, .slice qt taken.length ct, .slice qf free.length cf] 48)).heap[w.heap.size]? = some (.cells #[.int .i64 most, .slice qg gens.length cg, .slice qt taken.length ct, .slice qf free.length cf] 48 (0, 0)) := heap_alloc_new _ _
  have hz : (w.alloc (.cells #[.int .i64 most, .slice qg gens.length cg, .slice qt taken.length ct, .slice qf free.length cf] 48)).heap.size = w.heap.size + 1 := by simp
  have hv := h.later hbw
  have HL := Lib.hid hl; clear hl
  go_enter Try.func29, Try.ntmps29
  go_wp2_with fail
  generalize w.alloc (.cells #[.int .i64 most, .slice qg gens.length cg, .slice qt taken.length ct, .slice qf free.length cf] 48) = W at *
  have HV := Lib.hid hv; have HW := Lib.hid hbw; have HRow := Lib.hid hrow; have HZ := Lib.hid hz
  clear hv hbw hrow hz h
  go_loopw [3, 4] (fun out i wr => ∃ k : Nat, k ≤ gens.length ∧ i = .int .i64 k ∧ RefsAt W.heap.size wr out (rrUpto gens taken k) ∧ Below W.heap.size W wr) (fun _ i _ => gens.length - (intOf i).toNat)
  case atStart => exact ⟨0, Nat.zero_le _, rfl, ⟨none, 0, rfl, World.ownsRow_nil _ _ _ _, fun k e => by cases e⟩, Below.refl _ _⟩
  case round =>
    obtain ⟨k, hk, rfl, hout, hB⟩ := hrel
    have HR := Lib.hid hout; have HBl := Lib.hid hB
    have hrr := heap_later HRow.out hB
    have s0 := cell_of_row _ _ 0 _ _ _ hrr
    have s1 := cell_of_row _ _ 1 _ _ _ hrr
    have s2 := cell_of_row _ _ 2 _ _ _ hrr
    have s3 := cell_of_row _ _ 3 _ _ _ hrr
    have hv := HV.out.later hB
    clear hout hB hrr
    by_cases hlt : k < gens.length
    · obtain ⟨g, cg, e, _, _, hgl⟩ := own_some hv.hg (by omega)
      obtain ⟨t, ct, e2, _, _, htl⟩ := own_some hv.ht (by have := HL.out; omega)
      cases e; cases e2
      have cg0 := own_int hv.hg k (by omega)
      have ct0 := own_boolc hv.ht k (by have := HL.out; omega)
      have HS := Lib.hid (rrUpto_succ gens taken k)
      have hkt : (k : Int) < taken.length := by have := HL.out; omega
      have hle := rrUpto_le gens taken k
      have HN1 := Lib.hid (show (rrUpto gens taken k).length + 1 ≤ maxLen from by unfold maxLen; omega)
      have HN2 := Lib.hid (show ((rrUpto gens taken k).length + 1) * 16 ≤ 140737488355328 from by omega)
      clear hv
      cases hb : taken.getD k false with
      | true =>
        rw [hb, if_pos rfl] at HS
        rw [hb] at ct0
        generalize gens.getD k 0 = v at *
        obtain ⟨q, cap, rfl, ho, hq⟩ := HR.out
        have HO := Lib.hid ho; have HQ := Lib.hid hq; clear ho hq HR hb
        go_wp2_with (at_builtin; refine wpList_app (v := .slice q (rrUpto gens taken k).length cap) (n := (rrUpto gens taken k).length) (m := 1) rfl _ _ rfl elem_ref rfl rfl (HO.out.alloc _) (src_one (size := 2) #[.int .i64 k, .int .i64 v] _ _ (by simp) rfl (by simp [Value.oneCell'])) HN1.out HN2.out ?_; intro q' cap' w2 hown happ _; have HOWN := Lib.hid hown; have HAPP := Lib.hid happ; clear hown happ)
        go_roundw
        case rel =>
          have happ := HAPP.out
          have hs := happ.size
          simp only [World.size_alloc] at hs
          have b1 := HBl.out
          have b1s := b1.size
          have hlen : (rrUpto gens taken (k + 1)).length = (rrUpto gens taken k).length + 1 := by rw [HS.out]; simp
          refine ⟨k + 1, by omega, by go_num, ⟨q', cap', by rw [hlen], ?_, fun j e => ?_⟩, ⟨happ.os.trans b1.os, happ.tape.trans b1.tape, happ.output.trans b1.output, by omega, fun j hj => ?_⟩⟩
          · rw [hlen, HS.out, refCells_append]
            exact HOWN.out
          · rw [hlen] at e
            rcases happ.blk j e with g | g
            · exact HQ.out j g
            · simp at g; omega
          · refine (happ.keep j (by simp; omega) (fun e => by have := HQ.out j e; omega)).trans ?_
            rw [hall_old _ _ _ (by omega)]
            exact b1.block j hj
        case measure => simp [intOf]; omega
      | false =>
        rw [hb, if_neg (by simp), List.append_nil] at HS
        rw [hb] at ct0
        clear hb
        go_wp2_with fail
        go_roundw
        case rel => exact ⟨k + 1, by omega, by go_num, by rw [HS.out]; exact HR.out, HBl.out⟩
        case measure => simp [intOf]; omega
    · clear hv
      go_wp2_with fail
      go_ret
      have : k = gens.length := by omega
      subst this
      obtain ⟨q, cap, rfl, ho, hq⟩ := HR.out
      exact ⟨_, rfl, ⟨q, cap, rfl, ho, fun j e => by have := hq j e; have := HZ.out; omega⟩, HW.out.trans (HBl.out.mono (by have := HZ.out; omega))⟩
end Go.Proofs.Ytiiiciehilfmfaa
