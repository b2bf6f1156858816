/- The sort of strings, said of symbolic states. -/
import Derived.Test.YtmgcpfljhcahoaaGrPrgR
import Derived.Test.YtmgcpfljhcahoaaGrShelfR
import Derived.Shelf.Sort.Plain
import Derived.Shelf.Slices.In.SortNone
namespace Go.Proofs.Ytmgcpfljhcahoaa
open Go Go.RowKit Sy Gr
set_option maxRecDepth 100000

theorem st_row (l : List Bs) : ∀ n, n ≤ l.length → rowL (fun j => [V.str (l.getD j eS)]) n = (l.take n).map V.str
  | 0, _ => rfl
  | n + 1, h => by
    rw [rowL_succ, st_row l n (by omega), List.take_succ_eq_append_getElem (by omega), List.map_append]
    congr 1
    show [V.str (l.getD n eS)] = [V.str l[n]]
    rw [List.getD_eq_getElem?_getD, List.getElem?_eq_getElem (by omega)]
    rfl
theorem st_cz (ρ : Sy.Ren) : ∀ l : List Bs, czl ρ (l.map V.str) = some (l.map Value.string)
  | [] => rfl
  | _ :: l => czl_cons.2 ⟨_, _, rfl, st_cz ρ l, rfl⟩
theorem st_all (ρ : Sy.Ren) (l : List Bs) : czl ρ (rowL (fun j => [V.str (l.getD j eS)]) l.length) = some (l.map Value.string) := by
  rw [st_row l _ (Nat.le_refl _), List.take_length]
  exact st_cz ρ l
/-! Sorted -/
def toB (b : List UInt8) : Bs := ⟨b.toArray⟩
def srtB (l : List (List UInt8)) : List (List UInt8) := l.mergeSort fun x y => decide (x ≤ y)
def sortK (l : List Bs) : List Bs := (srtB (l.map (·.data.toList))).map toB
theorem sortK_len (l : List Bs) : (sortK l).length = l.length := by
  unfold sortK srtB
  rw [List.length_map, List.length_mergeSort, List.length_map]
theorem enc_B (b : List UInt8) : encStr b = Value.string (toB b) := rfl
theorem put_cellsS {pre l l' tail : List Value} {d : Array (List UInt8)} (hl : l.length = d.size) (hl' : l'.length = d.size) (hF : ∀ j, j < d.size → l'[j]? = some (encStr d[j]!)) :
    Go.Sort.putCells encStr pre.length d (pre ++ l ++ tail).toArray = (pre ++ l' ++ tail).toArray := by
  apply Array.ext_getElem?
  intro k
  unfold Go.Sort.putCells
  rw [Array.getElem?_mapIdx]
  simp only [List.getElem?_toArray]
  rcases Nat.lt_or_ge k pre.length with g | g
  · rw [List.append_assoc, List.append_assoc, List.getElem?_append_left g, List.getElem?_append_left g]
    have : ¬ (pre.length ≤ k ∧ k < pre.length + d.size) := by omega
    simp only [if_neg this]
    cases pre[k]? <;> rfl
  · rcases Nat.lt_or_ge k (pre.length + d.size) with g2 | g2
    · have h1 : (pre ++ l ++ tail)[k]? = l[k - pre.length]? := by
        rw [List.append_assoc, List.getElem?_append_right g, List.getElem?_append_left (by omega)]
      have h2 : (pre ++ l' ++ tail)[k]? = l'[k - pre.length]? := by
        rw [List.append_assoc, List.getElem?_append_right g, List.getElem?_append_left (by omega)]
      rw [h1, h2, hF _ (by omega), List.getElem?_eq_getElem (by omega)]
      simp only [Option.map_some, if_pos (show pre.length ≤ k ∧ k < pre.length + d.size from ⟨g, g2⟩)]
    · have h1 : (pre ++ l ++ tail)[k]? = tail[k - pre.length - d.size]? := by
        rw [List.append_assoc, List.getElem?_append_right g, List.getElem?_append_right (by omega), hl]
      have h2 : (pre ++ l' ++ tail)[k]? = tail[k - pre.length - d.size]? := by
        rw [List.append_assoc, List.getElem?_append_right g, List.getElem?_append_right (by omega), hl']
      rw [h1, h2]
      have : ¬ (pre.length ≤ k ∧ k < pre.length + d.size) := by omega
      simp only [if_neg this]
      cases tail[k - pre.length - d.size]? <;> rfl
theorem bytes_get (l : List Bs) {j : Nat} (h : j < l.length) : (l.map Value.string)[j]? = some (encStr ((l.map (·.data.toList)).toArray[j]!)) := by
  rw [List.getElem?_map, List.getElem?_eq_getElem h, getElem!_pos _ j (by simpa using h)]
  simp [enc_B, toB]
theorem srt_get (L : List (List UInt8)) {j : Nat} (h : j < L.length) : ((L.map toB).map Value.string)[j]? = some (encStr (L.toArray[j]!)) := by
  rw [List.getElem?_map, List.getElem?_map, List.getElem?_eq_getElem h, getElem!_pos _ j (by simpa using h)]
  rfl
def SSortS : LSpec where
  X := List Bs
  k := 1
  pre x := x.length ≤ 1000000
  args x θ := [.sl (θ 0) 0 1 x.length false]
  objs x _ := [stR x]
  out x _ R := R (.tup []) [some (stR (sortK x))]
theorem SSortS_nt : SSortS.Nt := ⟨fun _ _ => rfl, fun _ _ => rfl, fun _ _ _ h => h⟩
theorem SSortS_ok {md : Bool} : SSortS.OkM md Try.prog 51 := by
  intro (l : List Bs) R hn hR ρ w args' hr hc
  have hn : l.length ≤ 1000000 := hn
  have hR : R (.tup []) [some (stR (sortK l))] := hR
  have hr : Rel ρ (locS [stR l]) w := hr
  have hc : czl ρ [.sl 0 0 1 l.length false] = some args' := hc
  have hl1 := locS_is (l := [stR l]) (by simp)
  have hg : (locS [stR l]).H.get 0 = some (stR l) := by rw [hl1.get]; rfl
  obtain ⟨a, l1, ha, hc1, rfl⟩ := czl_cons.1 hc
  obtain rfl : l1 = [] := by simpa [czl] using hc1
  refine .inl ⟨⟨_, Try.func51, rfl⟩, ?_⟩
  show CallsIn _ _ _ _ #[a] w _
  by_cases h0 : l.length = 0
  · have hnil : l = [] := List.eq_nil_of_length_eq_zero h0
    subst hnil
    have hd : ∃ p cap, a = .slice p 0 cap := by
      simp only [cz] at ha
      split at ha
      · split at ha
        · cases ha; exact ⟨_, _, rfl⟩
        · split at ha
          · cases ha; exact ⟨_, _, rfl⟩
          · cases ha
      · split at ha
        · cases ha; exact ⟨_, _, rfl⟩
        · cases ha
    obtain ⟨p, cap, rfl⟩ := hd
    refine CallsIn.mono (callsIn_wide.2 (Any.slices_Sort_string_none Ytmgcpfljhcahoaa.strL p cap w)) fun e w' hp => ?_
    obtain ⟨rfl, rfl⟩ := hp
    have e0 : sortK [] = [] := List.eq_nil_of_length_eq_zero (sortK_len [])
    rw [e0] at hR
    refine ⟨_, .tup [], locS [stR []], ρ, rfl, ⟨[some (stR [])], hR, ?_⟩, Step.refl hr, rfl⟩
    exact ⟨hl1.n, fun i => by rw [hl1.get]; cases i <;> rfl⟩
  · rcases hr.obj 0 _ hg with ⟨_, g, _⟩ | ⟨b, pre, l', tail, q1, q2, q3, q4, q5, q6, q7, q8⟩
    · exact absurd g h0
    rw [st_all] at q2
    cases q2
    have hb := hr.blt 0 b q1
    have hll : (l.map Value.string).length = l.length := List.length_map ..
    have hγ : l.length ≤ ρ.γ 0 := by
      rw [List.length_append, hll] at q5
      omega
    have hd : ∃ cap, a = .slice (some ⟨b, pre.length, none⟩) (l.map (·.data.toList)).length cap := by
      simp only [cz, q1] at ha
      rw [if_neg (by decide), if_pos (by omega)] at ha
      rw [q4, List.length_map]
      cases ha
      exact ⟨_, by rw [Nat.zero_mul]; rfl⟩
    obtain ⟨cap, rfl⟩ := hd
    have hsz : (l.map (·.data.toList)).toArray.size = l.length := by simp
    have hH : Go.Sort.Holds encStr w b pre.length (l.map (·.data.toList)).toArray := fun j hj => by
      rw [hsz] at hj
      have hget : (pre ++ l.map Value.string ++ tail)[pre.length + j]? = some (encStr ((l.map (·.data.toList)).toArray[j]!)) := by
        rw [List.append_assoc, List.getElem?_append_right (by omega), List.getElem?_append_left (by omega), Nat.add_sub_cancel_left]
        exact bytes_get l hj
      constructor
      · unfold World.cell?
        simp only [q3]
        simpa using hget
      · unfold World.frozen?
        simp only [q3]
        simp
    have hcall := Any.slices_Sort_string Ytmgcpfljhcahoaa.strL b pre.length cap (l.map (·.data.toList)) w hH hb (by rw [List.length_map]; omega)
    refine CallsIn.mono (callsIn_wide.2 hcall) fun e w' hp => ?_
    obtain ⟨rfl, q, os, rfl⟩ := hp
    have hL : (srtB (l.map (·.data.toList))).length = l.length := by unfold srtB; rw [List.length_mergeSort, List.length_map]
    have hcells : (Go.Sort.putRow encStr (Go.Sort.ahead w q) b pre.length (srtB (l.map (·.data.toList))).toArray).heap[b]? = some (.cells (pre ++ (sortK l).map Value.string ++ tail).toArray 9 (0, 0)) := by
      show (w.heap.modify b (Go.Sort.onCells (Go.Sort.putCells encStr pre.length (srtB (l.map (·.data.toList))).toArray)))[b]? = _
      rw [Array.getElem?_modify, if_pos rfl, q3]
      show some (Obj.cells (Go.Sort.putCells encStr pre.length (srtB (l.map (·.data.toList))).toArray (pre ++ l.map Value.string ++ tail).toArray) _ _) = _
      rw [put_cellsS (l' := (sortK l).map Value.string) (by simp [hL]) (by rw [List.length_map, sortK_len]; simp [hL]) (fun j hj => srt_get _ (by simpa using hj))]
    have hl2 := locS_is (l := [stR (sortK l)]) (by simp)
    have st1 : Step md (locS [stR l]).n (locS [stR l]) ρ w ⟨(locS [stR l]).n, (locS [stR (sortK l)]).H⟩ ρ (Go.Sort.putRow encStr (Go.Sort.ahead w q) b pre.length (srtB (l.map (·.data.toList))).toArray) := by
      refine Step.set hr hg (o := stR (sortK l)) (fun m => ?_) (.inr ⟨b, pre, (sortK l).map Value.string, tail, q1, st_all _ _, hcells, q4, ?_, fun j _ => ⟨rfl, rfl⟩, q7, q8⟩) (fun k hk => ?_) ?_ rfl rfl rfl (Nat.le_add_right _ _)
      · rw [hl2.get, hl1.get]
        cases m with
        | zero => rfl
        | succ m => rfl
      · rw [List.length_append, List.length_map, sortK_len, ← hll, ← List.length_append]; exact q5
      · show (w.heap.modify b _)[k]? = _
        rw [Array.getElem?_modify, if_neg (fun e => hk ((q8 k).2 e.symm))]
      · show (w.heap.modify b _).size = _
        simp
    have hbl : Below (Go.Sort.putRow encStr (Go.Sort.ahead w q) b pre.length (srtB (l.map (·.data.toList))).toArray).heap.size (Go.Sort.putRow encStr (Go.Sort.ahead w q) b pre.length (srtB (l.map (·.data.toList))).toArray) (Go.Sort.grow (Go.Sort.putRow encStr (Go.Sort.ahead w q) b pre.length (srtB (l.map (·.data.toList))).toArray) os) := by
      refine ⟨rfl, rfl, rfl, ?_, fun k hk => ?_⟩
      · unfold Go.Sort.grow
        simp
      · unfold Go.Sort.grow
        exact Array.getElem?_append_left hk
    have st2 := Step.trans st1 (Step.more st1.rel hbl)
    exact ⟨_, .tup [], ⟨(locS [stR l]).n, (locS [stR (sortK l)]).H⟩, ρ, rfl, ⟨_, hR, ⟨hl1.n, fun i => by rw [hl2.get]; cases i <;> rfl⟩⟩, st2, rfl⟩
end Go.Proofs.Ytmgcpfljhcahoaa
