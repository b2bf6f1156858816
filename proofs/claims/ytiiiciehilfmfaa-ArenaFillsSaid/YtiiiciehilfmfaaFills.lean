/- ArenaFills: the walk. -/
import Derived.Test.YtiiiciehilfmfaaOrd
import Derived.Test.YtiiiciehilfmfaaLaw09B
namespace Go.Proofs.Ytiiiciehilfmfaa
open Go.RowKit

def ints (l : List Nat) : List Value := l.map fun (n : Nat) => Value.int .i64 n
def cellsOf (l : List Int) : Array Value := (l.map (Value.int .i64)).toArray

theorem cells_get (l : List Int) (n : Nat) (h : n < l.length) : (cellsOf l)[n]? = some (.int .i64 (l.getD n 0)) := by simp [cellsOf, h]
theorem cells_set (l : List Int) (n : Nat) (v : Int) : (cellsOf l).setIfInBounds n (.int .i64 v) = cellsOf (l.set n v) := by
  simp [cellsOf]
theorem ints_length (l : List Nat) : (ints l).length = l.length := by simp [ints]
theorem ord_cell {w : World} {q : Option Addr} {cap : Nat} {l : List Nat} (h : w.ownsRow 0 3 1 (.slice q l.length cap) l.length (ints l)) (k : Nat) (hk : k < l.length) :
    ∃ g, q = some ⟨g, 0, none⟩ ∧ w.cell? ⟨g, k, none⟩ = some (.int .i64 (l.getD k 0 : Nat)) := by
  obtain ⟨g, c, e, _, _, _⟩ := own_some h (by omega)
  cases e
  refine ⟨g, rfl, ?_⟩
  rw [h.cellAt k (by omega)]
  simp [ints, hk]
theorem getD_x {l : List Nat} {k : Nat} (hk : k < l.length) : l.getD k 0 = l[k] := by simp [hk]
theorem nx_int (m s i : Nat) : ((i : Int) * s + (i : Int) / m) % m = ((nx m s i : Nat) : Int) := by
  unfold nx
  simp

theorem own_lit1 (w : World) (x : Nat) : (w.alloc (.cells #[.int .i64 x] 3)).ownsRow 0 3 1 (.slice (some ⟨w.heap.size, 0, none⟩) 1 1) 1 [.int .i64 x] :=
  ⟨rfl, .inr ⟨_, 1, _, rfl, Nat.zero_le _, heap_alloc_new _ _, Nat.le_refl _, by decide, rfl, rfl⟩⟩
theorem wrap_add2 (a d : Int) (h1 : 0 ≤ a ∧ a ≤ 3600000) (h2 : 0 ≤ d ∧ d ≤ 3600) : wrap64 (wrap64 a + wrap64 d) = a + d := by
  rw [IntWalk.wrap64_in a ⟨by omega, by omega⟩, IntWalk.wrap64_in d ⟨by omega, by omega⟩]
  exact IntWalk.wrap64_in _ ⟨by omega, by omega⟩
theorem nx_walk (m s j : Nat) (h1 : (j : Int) * s ≤ 3600000) (h2 : j ≤ 3600) : (wrap64 (wrap64 ((j : Int) * s) + wrap64 ((j : Int) / m))).tmod m = ((nx m s j : Nat) : Int) := by
  have h0 : (0 : Int) ≤ (j : Int) * s := Int.mul_nonneg (by omega) (by omega)
  have e : (j : Int) / m = ((j / m : Nat) : Int) := by simp
  have hd : 0 ≤ (j : Int) / m ∧ (j : Int) / m ≤ 3600 := by
    have := Nat.div_le_self j m
    rw [e]
    generalize j / m = d at *
    omega
  rw [wrap_add2 _ _ ⟨h0, h1⟩ hd, Int.tmod_eq_emod_of_nonneg (Int.add_nonneg h0 hd.1)]
  exact nx_int m s j

set_option maxHeartbeats 4000000 in
set_option maxRecDepth 100000 in
theorem lFills_main (m rounds s : Nat) (w : World) (hm : 1 ≤ m ∧ m ≤ 60) (hr : rounds ≤ 5) (hs : 1 ≤ s ∧ s ≤ 1000) : Calls Try.prog 3 #[.int .i64 m, .int .i64 rounds, .int .i64 s] w (Law w.heap.size w) := by
  obtain ⟨hm1, hm2⟩ := hm
  obtain ⟨hs1, hs2⟩ := hs
  have hmk := make_ints m (by omega)
  have HMK := Lib.hid hmk; clear hmk
  go_enter Try.func3, Try.ntmps3
  go_wp2_with fail
  refine (new_yes _ m (by omega)).mono ?_
  rintro e w1 ⟨rfl, rfl⟩
  have K := Lib.hid (KA.new (m : Int) (Below.refl _ w))
  go_wp2_with fail
  go_loopw [9, 10] (fun ord i wr => ∃ k : Nat, k ≤ m ∧ i = .int .i64 k ∧ OrdIs w w.heap.size ⟨m, [], []⟩ [] ord k (ints (List.range k)) wr) (fun _ i _ => m - (intOf i).toNat)
  case atStart => exact ⟨0, Nat.zero_le _, rfl, .nil K.out⟩
  case round =>
    obtain ⟨k, hk, rfl, ho⟩ := hrel
    by_cases hlt : k < m
    · obtain ⟨q, cap, rfl, _, _⟩ := own_view ho.own
      have HO := Lib.hid ho; clear ho
      have HA : k + 1 ≤ maxLen := by unfold maxLen; omega
      have HB : (k + 1) * 8 ≤ 140737488355328 := by omega
      go_wp2_with (at_builtin; refine wpList_app (v := .slice q k cap) (n := k) (m := 1) rfl _ _ rfl elem_int rfl rfl (HO.out.own.alloc _) (src_one (size := 1) #[.int .i64 k] _ _ (by simp) rfl (by simp [Value.oneCell'])) HA HB ?_; intro q' cap' w2 hown happ _; have HOWN := Lib.hid hown; have HAPP := Lib.hid happ; clear hown happ)
      go_roundw
      case rel => exact ⟨k + 1, by omega, by go_num, by
        have := (HO.out.alloc _).app HAPP.out HOWN.out (by omega)
        rw [show ints (List.range (k + 1)) = ints (List.range k) ++ [.int .i64 k] by simp [ints, List.range_succ]]
        exact this⟩
      case measure => simp [intOf]; omega
    · obtain rfl : m = k := by omega
      obtain ⟨q, cap, rfl, _, _⟩ := own_view ho.own
      have HO := Lib.hid ho; clear ho
      have hmk := HMK.out
      go_wp2_with fail
      clear hmk
      have HO2 := Lib.hid (HO.out.ka.local (.cells (Array.replicate m (.int .i64 0)) 3))
      have HOL := Lib.hid (HO.out.alloc (.cells (Array.replicate m (.int .i64 0)) 3))
      obtain ⟨gb, hgb⟩ : ∃ gb, gb = wr.heap.size := ⟨_, rfl⟩
      have hgw : w.heap.size ≤ gb := by rw [hgb]; exact HO.out.ka.below.size
      have HOC := Lib.hid (HO.out.beside (.cells (Array.replicate m (.int .i64 0)) 3))
      rw [← hgb] at *
      clear HO2 HOL K
      have HGB := Lib.hid hgb; clear hgb
      generalize wr.alloc (.cells (Array.replicate m (.int .i64 0)) 3) = W2 at *
      clear HO
      have HT0 := Lib.hid (show cellsOf (gl m (fun _ => (0 : Int))) = Array.replicate m (Value.int .i64 0) from by
        apply Array.toList_inj.1
        simp [cellsOf, gl, List.map_const'])
      go_loopw [9, 12] (fun ord rd wr2 => ∃ r : Nat, r ≤ rounds ∧ ∃ order : List Nat, rd = .int .i64 r ∧ Perm m order ∧ (r = 0 → order = List.range m) ∧ OrdIs w w.heap.size (TA m r order 0) [(gb, .cells (cellsOf (gl m (fun _ => (r : Int)))) 3 (0, 0))] ord m (ints order) wr2) (fun _ rd _ => rounds - (intOf rd).toNat)
      case atStart => exact ⟨0, Nat.zero_le _, List.range m, rfl, perm_range m, fun _ => rfl, by
        have h := HOC.out
        rw [← HT0.out] at h
        exact h⟩
      case round =>
        obtain ⟨r, hrr, order, rfl, hp, h0, ho⟩ := hrel
        obtain ⟨q2, cap2, rfl, _, _⟩ := own_view ho.own
        have HO := Lib.hid ho; have HP := Lib.hid hp; have H0 := Lib.hid h0
        clear ho hp h0
        by_cases hlr : r < rounds
        · go_wp2_with fail
          go_loopw [69] (fun i wr3 => ∃ k : Nat, k ≤ m ∧ i = .int .i64 k ∧ OrdIs w w.heap.size (TA m r order k) [(gb, .cells (cellsOf (gl m (fun n => if n ∈ order.take k then (r : Int) + 1 else r))) 3 (0, 0))] (.slice q2 m cap2) m (ints order) wr3) (fun i _ => m - (intOf i).toNat)
          case atStart => exact ⟨0, Nat.zero_le _, rfl, by simpa using HO.out⟩
          case round =>
            obtain ⟨k, hk, rfl, hok⟩ := hrel
            have HK := Lib.hid hok; clear hok
            by_cases hlk : k < m
            · obtain ⟨g, rfl, hcg⟩ := ord_cell (l := order) (cap := cap2) (q := q2) (w := wr) (by rw [HP.out.len]; exact HK.out.own) k (by rw [HP.out.len]; exact hlk)
              have hx : order.getD k 0 < m := by rw [getD_x (by rw [HP.out.len]; exact hlk)]; exact HP.out.lt _ (List.getElem_mem _)
              have HNM := Lib.hid (show order.getD k 0 ∉ order.take k from by rw [getD_x (by rw [HP.out.len]; exact hlk)]; exact not_mem_take HP.out.nodup _)
              have HMT := Lib.hid (show ∀ n, n ∈ order.take (k + 1) ↔ n ∈ order.take k ∨ n = order.getD k 0 from fun n => by rw [getD_x (by rw [HP.out.len]; exact hlk)]; exact mem_take_succ _ n)
              have HTT := Lib.hid (show (TA m r order k).take = ((((order.getD k 0 : Nat) : Int), (r : Int) + 1, 0), TA m r order (k + 1)) from by rw [getD_x (by rw [HP.out.len]; exact hlk)]; exact TA_take HP.out H0.out hlk _)
              have HOK := Lib.hid (ok_TA (r := r) (order := order) (k := k) ⟨hm1, hm2⟩ (by omega) HP.out hk)
              generalize order.getD k 0 = x at *
              have hcb : wr.cell? ⟨gb, x, none⟩ = some (.int .i64 r) := by
                have := HK.out.ka.cell (List.mem_cons_self ..) x
                rw [this, cells_get _ _ (by rw [gl_length]; exact hx), gl_get _ _ _ hx, if_neg HNM.out]
              have hfb : wr.frozen? ⟨gb, x, none⟩ = false := frozen_of_row _ _ _ _ _ (HK.out.ka.keep _ (List.mem_cons_self ..))
              have HS := Lib.hid (HK.out.set hgw x (.int .i64 ((r : Int) + 1)))
              have HE := Lib.hid (show gl m (fun n => if n = x then (r : Int) + 1 else if n ∈ order.take k then (r : Int) + 1 else r) = gl m (fun n => if n ∈ order.take (k + 1) then (r : Int) + 1 else r) from gl_congr fun n _ => by
                by_cases e : n = x
                · subst e; rw [if_pos rfl, if_pos ((HMT.out n).2 (.inr rfl))]
                · rw [if_neg e]
                  by_cases h : n ∈ order.take k
                  · rw [if_pos h, if_pos ((HMT.out n).2 (.inl h))]
                  · rw [if_neg h, if_neg (fun g => by rcases (HMT.out n).1 g with g | g; exact h g; exact e g)])
              go_wp2_with fail
              refine (HS.out.lift (fun C' h => takes_true h HOK.out HTT.out)).mono ?_
              rintro e w3 ⟨rfl, hk3⟩
              have HK3 := Lib.hid hk3; clear hk3 hcb hfb hcg HK
              go_wp2_with fail
              go_roundw
              case rel => exact ⟨k + 1, by omega, by go_num, by
                have h := HK3.out
                rw [cells_set, gl_set, HE.out] at h
                exact h⟩
              case measure => simp [intOf]; omega
            · obtain rfl : k = m := by omega
              have HF := Lib.hid (show OrdIs w w.heap.size (FA k r []) [(gb, .cells (cellsOf (gl k (fun _ => (r : Int) + 1))) 3 (0, 0))] (.slice q2 k cap2) k (ints order) wr from by
                have h := HK.out
                rw [TA_full HP.out] at h
                rw [show gl k (fun n => if n ∈ order.take k then (r : Int) + 1 else (r : Int)) = gl k (fun _ => (r : Int) + 1) from gl_congr fun n hn => by
                  rw [List.take_of_length_le (by rw [HP.out.len]; exact Nat.le_refl _), if_pos (HP.out.mem hn)]] at h
                exact h)
              have HKA := Lib.hid HF.out.ka
              have HOK := Lib.hid (ok_FA (m := k) (r := r) (F := []) ⟨hm1, hm2⟩ (by omega) List.nodup_nil (by simp))
              have HM := Lib.hid (show (FA k r []).most ≠ 0 from by simp [FA]; omega)
              have HL1 := Lib.hid (show ((FA k r []).gens.length : Int) - (FA k r []).free.length = k from by simp [FA, gl_length])
              have HL2 := Lib.hid (show ((FA k r []).gens.length : Int) = k from by simp [FA, gl_length])
              have hkk : ((k : Int) != k) = false := by simp
              clear HK HF HO
              go_wp2_with fail
              refine (takes_true HKA.out HOK.out FA_take_full).mono ?_
              rintro e w3 ⟨rfl, k1⟩
              clear HKA
              have HKA := Lib.hid k1; clear k1
              go_wp2_with fail
              refine (len_K HKA.out HM.out).mono ?_
              rintro e w4 ⟨rfl, k1⟩
              clear HKA
              have HKA := Lib.hid k1; clear k1
              rw [HL1.out]
              go_wp2_with fail
              refine (made_K HKA.out HM.out).mono ?_
              rintro e w5 ⟨rfl, k1⟩
              clear HKA
              have HKA := Lib.hid k1; clear k1
              rw [HL2.out]
              go_wp2_with fail
              have hkk2 : k * k ≤ 3600 := Nat.mul_le_mul hm2 hm2
              have HKK := Lib.hid (show (k - 1) * k ≤ k * k from Nat.mul_le_mul_right k (by omega))
              go_loopw [9, 15] (fun ord i wr4 => ∃ j : Nat, j ≤ k * k + 1 ∧ i = .int .i64 j ∧ ((frs k s j).length < k → j ≤ (k - 1) * k) ∧ OrdIs w w.heap.size (FA k r (frs k s j)) [(gb, .cells (cellsOf (gl k (fun _ => (r : Int) + 1))) 3 (0, 0))] ord (frs k s j).length (ints (frs k s j).reverse) wr4) (fun _ i _ => k * k + 2 - (intOf i).toNat)
              case atStart => exact ⟨0, by omega, rfl, fun _ => Nat.zero_le _, .nil HKA.out⟩
              case round =>
                obtain ⟨j, hj, rfl, hjj, hoj⟩ := hrel
                obtain ⟨q4, cap4, rfl, _, _⟩ := own_view hoj.own
                have HJ := Lib.hid hoj; have HJJ := Lib.hid hjj; clear hoj hjj
                have hfl := frs_len_le k s (by omega) j
                by_cases hlen : (frs k s j).length < k
                · have hj2 := HJJ.out hlen
                  have hj3 : j ≤ k * k := by have := HKK.out; omega
                  have hx : nx k s j < k := Nat.mod_lt _ (by omega)
                  have HNX := Lib.hid (nx_int k s j)
                  have hcb : wr.cell? ⟨gb, nx k s j, none⟩ = some (.int .i64 ((r : Int) + 1)) := by
                    have := HJ.out.ka.cell (List.mem_cons_self ..) (nx k s j)
                    rw [this, cells_get _ _ (by rw [gl_length]; exact hx), gl_get _ _ _ hx]
                  have HOJ := Lib.hid (ok_FA (m := k) (r := r) (F := frs k s j) ⟨hm1, hm2⟩ (by omega) (frs_nodup k s j) (frs_lt k s (by omega) j))
                  have HREL := Lib.hid (FA_rel (m := k) (r := r) (n := nx k s j) (F := frs k s j) hx)
                  have HFS := Lib.hid (show frs k s (j + 1) = if nx k s j ∈ frs k s j then frs k s j else frs k s j ++ [nx k s j] from rfl)
                  have hbm : (j : Int) * s ≤ 3600 * 1000 := by
                    have : j * s ≤ 3600 * 1000 := Nat.mul_le_mul (by omega) hs2
                    have e : ((j * s : Nat) : Int) = (j : Int) * s := by simp
                    omega
                  have hbm0 : (0 : Int) ≤ (j : Int) * s := Int.mul_nonneg (by omega) (by omega)
                  have HALL := Lib.hid (show (frs k s (j + 1)).length < k → j + 1 ≤ (k - 1) * k from fun h => by
                    rcases Nat.lt_or_ge ((k - 1) * k) (j + 1) with g | g
                    · have := frs_all k s (j + 1) (by omega) g; omega
                    · exact g)
                  have hnw := nx_walk k s j (by omega) (by omega)
                  clear hbm hbm0
                  generalize nx k s j = x at *
                  go_wp2_with fail
                  by_cases hmem : x ∈ frs k s j
                  · have hrel1 : (FA k r (frs k s j)).rel x ((r : Int) + 1) = (9, FA k r (frs k s j)) := by rw [HREL.out, if_pos hmem]
                    rw [if_pos hmem] at HFS
                    refine (HJ.out.lift (fun C' h => rel_true h HOJ.out hrel1)).mono ?_
                    rintro e w6 ⟨rfl, hk6⟩
                    have HK6 := Lib.hid hk6; clear hk6 hcb HJ hrel1 hnw
                    go_wp2_with fail
                    go_roundw
                    case rel => exact ⟨j + 1, by omega, by go_num, HALL.out, by rw [HFS.out]; exact HK6.out⟩
                    case measure => simp [intOf]; omega
                  · have hrel1 : (FA k r (frs k s j)).rel x ((r : Int) + 1) = (0, FA k r (frs k s j ++ [x])) := by rw [HREL.out, if_neg hmem]
                    rw [if_neg hmem] at HFS
                    refine (HJ.out.lift (fun C' h => rel_true h HOJ.out hrel1)).mono ?_
                    rintro e w6 ⟨rfl, hk6⟩
                    have HK6 := Lib.hid hk6; clear hk6 hcb HJ hrel1 hnw
                    have HN1 : 1 + (frs k s j).length ≤ maxLen := by unfold maxLen; omega
                    have HN2 : (1 + (frs k s j).length) * 8 ≤ 140737488355328 := by omega
                    go_wp2_with (at_builtin; refine wpList_app (v := .slice (some ⟨w6.heap.size, 0, none⟩) 1 1) (n := 1) (m := (frs k s j).length) (xs := [.int .i64 x]) rfl _ _ rfl elem_int rfl rfl (own_lit1 w6 x) (src_own (HK6.out.own.alloc _) (by simp [ints, Value.oneCell'])) HN1 HN2 ?_; intro q7 cap7 w7 hown happ _; have HOWN := Lib.hid hown; have HAPP := Lib.hid happ; clear hown happ)
                    go_roundw
                    case rel =>
                      have happ := HAPP.out
                      have hs := happ.size
                      simp only [World.size_alloc] at hs
                      have hl1 : (frs k s (j + 1)).length = 1 + (frs k s j).length := by rw [HFS.out, List.length_append]; simp; omega
                      refine ⟨j + 1, by omega, by go_num, HALL.out, ?_⟩
                      have hb : Below w6.heap.size w6 w7 := ⟨happ.os, happ.tape, happ.output, by omega, fun i hi => (happ.keep i (by simp; omega) (fun e => by cases e; exact absurd hi (Nat.lt_irrefl _))).trans (hall_old _ _ _ hi)⟩
                      have hh := HK6.out.ka.ord hb HOWN.out (by omega) (fun i e => by
                        rcases happ.blk i e with g | g
                        · cases g; exact Nat.le_refl _
                        · simp at g; omega)
                      rw [hl1, HFS.out]
                      simpa [ints] using hh
                    case measure => simp [intOf]; omega
                · have hlk : (frs k s j).length = k := by omega
                  have HPF := Lib.hid (frs_perm k s j (by omega) hlk)
                  have HM2 := Lib.hid (show (FA k r (frs k s j)).most ≠ 0 from by simp [FA]; omega)
                  have HL3 := Lib.hid (show ((FA k r (frs k s j)).gens.length : Int) - (FA k r (frs k s j)).free.length = 0 from by
                    have e1 : (FA k r (frs k s j)).gens.length = k := gl_length _ _
                    have e2 : (FA k r (frs k s j)).free.length = k := (List.length_map _).trans hlk
                    rw [e1, e2]; omega)
                  have HLK := Lib.hid hlk
                  rw [hlk] at HJ
                  rw [hlk]
                  clear hlk hlen hfl
                  go_wp2_with fail
                  refine (HJ.out.lift (fun C' h => len_K h HM2.out)).mono ?_
                  rintro e w8 ⟨rfl, k1⟩
                  rw [HL3.out]
                  have HK8 := Lib.hid k1; clear k1
                  go_wp2_with fail
                  go_roundw
                  case rel => exact ⟨r + 1, by omega, (frs k s j).reverse, by go_num, HPF.out.reverse, fun h => by omega, by
                    have h := HK8.out
                    rw [FA_end HPF.out] at h
                    have e : ((r + 1 : Nat) : Int) = (r : Int) + 1 := by omega
                    rw [e]
                    exact h⟩
                  case measure => simp [intOf]; omega
        · go_wp2_with fail
          refine (known_any _).mono ?_
          rintro e w' ⟨rfl, hb⟩
          go_wp2_with fail
          go_ret
          have hbe := HO.out.ka.below
          exact ⟨rfl, hbe.trans (hb.mono hbe.size)⟩
end Go.Proofs.Ytiiiciehilfmfaa
