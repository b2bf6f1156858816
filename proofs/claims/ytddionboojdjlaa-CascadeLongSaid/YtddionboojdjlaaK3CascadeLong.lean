/- One text out of 2. -/
import Derived.Shelf.Lays
import Derived.Test.YtddionboojdjlaaSyCR
import Derived.Test.YtddionboojdjlaaGrPrgR
import Derived.Shelf.Sort.Plain
import Derived.Shelf.Slices.In.SortNone
section
namespace Go.Proofs
open Go.Shelf
def Ytddionboojdjlaa.strL_ren : Go.Shelf.Ren := ⟨fun | 190 => 49 | 125 => 70 | 258 => 69 | 128 => 86 | 129 => 87 | 302 => 77 | 303 => 78 | 304 => 79 | 305 => 80 | 306 => 81 | 307 => 82 | 308 => 83 | 309 => 84 | 310 => 85 | 333 => 90 | 329 => 91 | 330 => 92 | 334 => 93 | 335 => 94 | 336 => 95 | 344 => 98 | n => n, fun | 31 => 23 | 9 => 9 | 3 => 3 | 46 => 118 | 0 => 0 | 51 => 135 | 53 => 50 | 4 => 4 | 183 => 128 | 182 => 127 | 131 => 132 | 5 => 5 | 218 => 139 | 222 => 120 | 228 => 145 | 229 => 108 | n => n, fun | n => n⟩
theorem Ytddionboojdjlaa.strL : Go.Proofs.Lays.n190 Try.prog Ytddionboojdjlaa.strL_ren := {
  mixed := by kernel_rfl
  f125 := Try.func70.trans (congrArg some (by kernel_rfl))
  f128 := Try.func86.trans (congrArg some (by kernel_rfl))
  f129 := Try.func87.trans (congrArg some (by kernel_rfl))
  f190 := Try.func49.trans (congrArg some (by kernel_rfl))
  f258 := Try.func69.trans (congrArg some (by kernel_rfl))
  f302 := Try.func77.trans (congrArg some (by kernel_rfl))
  f303 := Try.func78.trans (congrArg some (by kernel_rfl))
  f304 := Try.func79.trans (congrArg some (by kernel_rfl))
  f305 := Try.func80.trans (congrArg some (by kernel_rfl))
  f306 := Try.func81.trans (congrArg some (by kernel_rfl))
  f307 := Try.func82.trans (congrArg some (by kernel_rfl))
  f308 := Try.func83.trans (congrArg some (by kernel_rfl))
  f309 := Try.func84.trans (congrArg some (by kernel_rfl))
  f310 := Try.func85.trans (congrArg some (by kernel_rfl))
  f329 := Try.func91.trans (congrArg some (by kernel_rfl))
  f330 := Try.func92.trans (congrArg some (by kernel_rfl))
  f333 := Try.func90.trans (congrArg some (by kernel_rfl))
  f334 := Try.func93.trans (congrArg some (by kernel_rfl))
  f335 := Try.func94.trans (congrArg some (by kernel_rfl))
  f336 := Try.func95.trans (congrArg some (by kernel_rfl))
  f344 := Try.func98.trans (congrArg some (by kernel_rfl))
  t0 := Try.underlying0
  a0 := Try.isAgg0
  z0 := Try.sizeOf0
  v0 := Try.zeroValue0
  t3 := Try.underlying3
  a3 := Try.isAgg3
  z3 := Try.sizeOf3
  v3 := Try.zeroValue3
  t4 := Try.underlying4
  a4 := Try.isAgg4
  z4 := Try.sizeOf4
  v4 := Try.zeroValue4
  t5 := Try.underlying5
  a5 := Try.isAgg5
  z5 := Try.sizeOf5
  v5 := Try.zeroValue5
  t9 := Try.underlying9
  a9 := Try.isAgg9
  z9 := Try.sizeOf9
  v9 := Try.zeroValue9
  t31 := Try.underlying23
  a31 := Try.isAgg23
  z31 := Try.sizeOf23
  v31 := Try.zeroValue23
  t46 := Try.underlying118
  a46 := Try.isAgg118
  z46 := Try.sizeOf118
  v46 := Try.zeroValue118
  t51 := Try.underlying135
  a51 := Try.isAgg135
  z51 := Try.sizeOf135
  v51 := Try.zeroValue135
  t53 := Try.underlying50
  a53 := Try.isAgg50
  z53 := Try.sizeOf50
  v53 := Try.zeroValue50
  t131 := Try.underlying132
  a131 := Try.isAgg132
  z131 := Try.sizeOf132
  v131 := Try.zeroValue132
  t182 := Try.underlying127
  a182 := Try.isAgg127
  z182 := Try.sizeOf127
  v182 := Try.zeroValue127
  t183 := Try.underlying128
  a183 := Try.isAgg128
  z183 := Try.sizeOf128
  v183 := Try.zeroValue128
  t218 := Try.underlying139
  a218 := Try.isAgg139
  z218 := Try.sizeOf139
  v218 := Try.zeroValue139
  t222 := Try.underlying120
  a222 := Try.isAgg120
  z222 := Try.sizeOf120
  v222 := Try.zeroValue120
  t228 := Try.underlying145
  a228 := Try.isAgg145
  z228 := Try.sizeOf145
  v228 := Try.zeroValue145
  t229 := Try.underlying108
  a229 := Try.isAgg108
  z229 := Try.sizeOf108
  v229 := Try.zeroValue108 }
end Go.Proofs
end
section
namespace Go.Proofs.Ytddionboojdjlaa
open Go Go.RowKit Sy Gr
set_option maxRecDepth 100000

theorem st_row (l : List Bs) : ∀ n, n ≤ l.length → rowL (fun j => [V.str (l.getD j eS)]) n = (l.take n).map V.str
  | 0, _ => rfl
  | n + 1, h => by
    rw [rowL_succ, st_row l n (by omega), List.take_succ_eq_append_getElem (by omega), List.map_append]
    congr 1
    show [V.str (l.getD n eS)] = [V.str l[n]]
    rw [List.getD_eq_getElem?_getD, List.getElem?_eq_getElem (by omega)]
    rfl
theorem st_cz (ρ : Sy.Ren) : ∀ l : List Bs, czl ρ (l.map V.str) = some (l.map Value.string)
  | [] => rfl
  | _ :: l => czl_cons.2 ⟨_, _, rfl, st_cz ρ l, rfl⟩
theorem st_all (ρ : Sy.Ren) (l : List Bs) : czl ρ (rowL (fun j => [V.str (l.getD j eS)]) l.length) = some (l.map Value.string) := by
  rw [st_row l _ (Nat.le_refl _), List.take_length]
  exact st_cz ρ l
/-! Sorted -/
def toB (b : List UInt8) : Bs := ⟨b.toArray⟩
def srtB (l : List (List UInt8)) : List (List UInt8) := l.mergeSort fun x y => decide (x ≤ y)
def sortK (l : List Bs) : List Bs := (srtB (l.map (·.data.toList))).map toB
theorem sortK_len (l : List Bs) : (sortK l).length = l.length := by
  unfold sortK srtB
  rw [List.length_map, List.length_mergeSort, List.length_map]
theorem enc_B (b : List UInt8) : encStr b = Value.string (toB b) := rfl
theorem put_cellsS {pre l l' tail : List Value} {d : Array (List UInt8)} (hl : l.length = d.size) (hl' : l'.length = d.size) (hF : ∀ j, j < d.size → l'[j]? = some (encStr d[j]!)) :
    Go.Sort.putCells encStr pre.length d (pre ++ l ++ tail).toArray = (pre ++ l' ++ tail).toArray := by
  apply Array.ext_getElem?
  intro k
  unfold Go.Sort.putCells
  rw [Array.getElem?_mapIdx]
  simp only [List.getElem?_toArray]
  rcases Nat.lt_or_ge k pre.length with g | g
  · rw [List.append_assoc, List.append_assoc, List.getElem?_append_left g, List.getElem?_append_left g]
    have : ¬ (pre.length ≤ k ∧ k < pre.length + d.size) := by omega
    simp only [if_neg this]
    cases pre[k]? <;> rfl
  · rcases Nat.lt_or_ge k (pre.length + d.size) with g2 | g2
    · have h1 : (pre ++ l ++ tail)[k]? = l[k - pre.length]? := by
        rw [List.append_assoc, List.getElem?_append_right g, List.getElem?_append_left (by omega)]
      have h2 : (pre ++ l' ++ tail)[k]? = l'[k - pre.length]? := by
        rw [List.append_assoc, List.getElem?_append_right g, List.getElem?_append_left (by omega)]
      rw [h1, h2, hF _ (by omega), List.getElem?_eq_getElem (by omega)]
      simp only [Option.map_some, if_pos (show pre.length ≤ k ∧ k < pre.length + d.size from ⟨g, g2⟩)]
    · have h1 : (pre ++ l ++ tail)[k]? = tail[k - pre.length - d.size]? := by
        rw [List.append_assoc, List.getElem?_append_right g, List.getElem?_append_right (by omega), hl]
      have h2 : (pre ++ l' ++ tail)[k]? = tail[k - pre.length - d.size]? := by
        rw [List.append_assoc, List.getElem?_append_right g, List.getElem?_append_right (by omega), hl']
      rw [h1, h2]
      have : ¬ (pre.length ≤ k ∧ k < pre.length + d.size) := by omega
      simp only [if_neg this]
      cases tail[k - pre.length - d.size]? <;> rfl
theorem bytes_get (l : List Bs) {j : Nat} (h : j < l.length) : (l.map Value.string)[j]? = some (encStr ((l.map (·.data.toList)).toArray[j]!)) := by
  rw [List.getElem?_map, List.getElem?_eq_getElem h, getElem!_pos _ j (by simpa using h)]
  simp [enc_B, toB]
theorem srt_get (L : List (List UInt8)) {j : Nat} (h : j < L.length) : ((L.map toB).map Value.string)[j]? = some (encStr (L.toArray[j]!)) := by
  rw [List.getElem?_map, List.getElem?_map, List.getElem?_eq_getElem h, getElem!_pos _ j (by simpa using h)]
  rfl
def SSortS : LSpec where
  X := List Bs
  k := 1
  pre x := x.length ≤ 1000000
  args x θ := [.sl (θ 0) 0 1 x.length false]
  objs x _ := [stR x]
  out x _ R := R (.tup []) [some (stR (sortK x))]
theorem SSortS_nt : SSortS.Nt := ⟨fun _ _ => rfl, fun _ _ => rfl, fun _ _ _ h => h⟩
theorem SSortS_ok {md : Bool} : SSortS.OkM md Try.prog 49 := by
  intro (l : List Bs) R hn hR ρ w args' hr hc
  have hn : l.length ≤ 1000000 := hn
  have hR : R (.tup []) [some (stR (sortK l))] := hR
  have hr : Rel ρ (locS [stR l]) w := hr
  have hc : czl ρ [.sl 0 0 1 l.length false] = some args' := hc
  have hl1 := locS_is (l := [stR l]) (by simp)
  have hg : (locS [stR l]).H.get 0 = some (stR l) := by rw [hl1.get]; rfl
  obtain ⟨a, l1, ha, hc1, rfl⟩ := czl_cons.1 hc
  obtain rfl : l1 = [] := by simpa [czl] using hc1
  refine .inl ⟨⟨_, Try.func49, rfl⟩, ?_⟩
  show CallsIn _ _ _ _ #[a] w _
  by_cases h0 : l.length = 0
  · have hnil : l = [] := List.eq_nil_of_length_eq_zero h0
    subst hnil
    have hd : ∃ p cap, a = .slice p 0 cap := by
      simp only [cz] at ha
      split at ha
      · split at ha
        · cases ha; exact ⟨_, _, rfl⟩
        · split at ha
          · cases ha; exact ⟨_, _, rfl⟩
          · cases ha
      · split at ha
        · cases ha; exact ⟨_, _, rfl⟩
        · cases ha
    obtain ⟨p, cap, rfl⟩ := hd
    refine CallsIn.mono (callsIn_wide.2 (Any.slices_Sort_string_none Ytddionboojdjlaa.strL p cap w)) fun e w' hp => ?_
    obtain ⟨rfl, rfl⟩ := hp
    have e0 : sortK [] = [] := List.eq_nil_of_length_eq_zero (sortK_len [])
    rw [e0] at hR
    refine ⟨_, .tup [], locS [stR []], ρ, rfl, ⟨[some (stR [])], hR, ?_⟩, Step.refl hr, rfl⟩
    exact ⟨hl1.n, fun i => by rw [hl1.get]; cases i <;> rfl⟩
  · rcases hr.obj 0 _ hg with ⟨_, g, _⟩ | ⟨b, pre, l', tail, q1, q2, q3, q4, q5, q6, q7, q8⟩
    · exact absurd g h0
    rw [st_all] at q2
    cases q2
    have hb := hr.blt 0 b q1
    have hll : (l.map Value.string).length = l.length := List.length_map ..
    have hγ : l.length ≤ ρ.γ 0 := by
      rw [List.length_append, hll] at q5
      omega
    have hd : ∃ cap, a = .slice (some ⟨b, pre.length, none⟩) (l.map (·.data.toList)).length cap := by
      simp only [cz, q1] at ha
      rw [if_neg (by decide), if_pos (by omega)] at ha
      rw [q4, List.length_map]
      cases ha
      exact ⟨_, by rw [Nat.zero_mul]; rfl⟩
    obtain ⟨cap, rfl⟩ := hd
    have hsz : (l.map (·.data.toList)).toArray.size = l.length := by simp
    have hH : Go.Sort.Holds encStr w b pre.length (l.map (·.data.toList)).toArray := fun j hj => by
      rw [hsz] at hj
      have hget : (pre ++ l.map Value.string ++ tail)[pre.length + j]? = some (encStr ((l.map (·.data.toList)).toArray[j]!)) := by
        rw [List.append_assoc, List.getElem?_append_right (by omega), List.getElem?_append_left (by omega), Nat.add_sub_cancel_left]
        exact bytes_get l hj
      constructor
      · unfold World.cell?
        simp only [q3]
        simpa using hget
      · unfold World.frozen?
        simp only [q3]
        simp
    have hcall := Any.slices_Sort_string Ytddionboojdjlaa.strL b pre.length cap (l.map (·.data.toList)) w hH hb (by rw [List.length_map]; omega)
    refine CallsIn.mono (callsIn_wide.2 hcall) fun e w' hp => ?_
    obtain ⟨rfl, q, os, rfl⟩ := hp
    have hL : (srtB (l.map (·.data.toList))).length = l.length := by unfold srtB; rw [List.length_mergeSort, List.length_map]
    have hcells : (Go.Sort.putRow encStr (Go.Sort.ahead w q) b pre.length (srtB (l.map (·.data.toList))).toArray).heap[b]? = some (.cells (pre ++ (sortK l).map Value.string ++ tail).toArray 9 (0, 0)) := by
      show (w.heap.modify b (Go.Sort.onCells (Go.Sort.putCells encStr pre.length (srtB (l.map (·.data.toList))).toArray)))[b]? = _
      rw [Array.getElem?_modify, if_pos rfl, q3]
      show some (Obj.cells (Go.Sort.putCells encStr pre.length (srtB (l.map (·.data.toList))).toArray (pre ++ l.map Value.string ++ tail).toArray) _ _) = _
      rw [put_cellsS (l' := (sortK l).map Value.string) (by simp [hL]) (by rw [List.length_map, sortK_len]; simp [hL]) (fun j hj => srt_get _ (by simpa using hj))]
    have hl2 := locS_is (l := [stR (sortK l)]) (by simp)
    have st1 : Step md (locS [stR l]).n (locS [stR l]) ρ w ⟨(locS [stR l]).n, (locS [stR (sortK l)]).H⟩ ρ (Go.Sort.putRow encStr (Go.Sort.ahead w q) b pre.length (srtB (l.map (·.data.toList))).toArray) := by
      refine Step.set hr hg (o := stR (sortK l)) (fun m => ?_) (.inr ⟨b, pre, (sortK l).map Value.string, tail, q1, st_all _ _, hcells, q4, ?_, fun j _ => ⟨rfl, rfl⟩, q7, q8⟩) (fun k hk => ?_) ?_ rfl rfl rfl (Nat.le_add_right _ _)
      · rw [hl2.get, hl1.get]
        cases m with
        | zero => rfl
        | succ m => rfl
      · rw [List.length_append, List.length_map, sortK_len, ← hll, ← List.length_append]; exact q5
      · show (w.heap.modify b _)[k]? = _
        rw [Array.getElem?_modify, if_neg (fun e => hk ((q8 k).2 e.symm))]
      · show (w.heap.modify b _).size = _
        simp
    have hbl : Below (Go.Sort.putRow encStr (Go.Sort.ahead w q) b pre.length (srtB (l.map (·.data.toList))).toArray).heap.size (Go.Sort.putRow encStr (Go.Sort.ahead w q) b pre.length (srtB (l.map (·.data.toList))).toArray) (Go.Sort.grow (Go.Sort.putRow encStr (Go.Sort.ahead w q) b pre.length (srtB (l.map (·.data.toList))).toArray) os) := by
      refine ⟨rfl, rfl, rfl, ?_, fun k hk => ?_⟩
      · unfold Go.Sort.grow
        simp
      · unfold Go.Sort.grow
        exact Array.getElem?_append_left hk
    have st2 := Step.trans st1 (Step.more st1.rel hbl)
    exact ⟨_, .tup [], ⟨(locS [stR l]).n, (locS [stR (sortK l)]).H⟩, ρ, rfl, ⟨_, hR, ⟨hl1.n, fun i => by rw [hl2.get]; cases i <;> rfl⟩⟩, st2, rfl⟩
end Go.Proofs.Ytddionboojdjlaa
end
