/- One text out of 2. -/
import Derived.Test.YtddionboojdjlaaGrMath2R
section
namespace Go.Proofs.Ytddionboojdjlaa
open Go.RowKit Tb
namespace Gr

def hasB (l : List Bs) (k : Bs) : Bool := l.any fun x => decide (x = k)
theorem hasB_iff {l : List Bs} {k : Bs} : hasB l k = true ↔ k ∈ l := by
  unfold hasB
  rw [List.any_eq_true]
  exact ⟨fun ⟨x, h1, h2⟩ => of_decide_eq_true h2 ▸ h1, fun h => ⟨k, h, decide_eq_true rfl⟩⟩
/-- The children of one key are looked at. -/
def goC (to : Bs) : List Bs → List Bs → Nat → Bool × List Bs × Nat
  | [], line, n => (false, line, n)
  | k :: l, line, n => if k = to then (true, line, n + 1) else goC to l (if hasB line k = true then line else line ++ [k]) (n + 1)
def goL (ch : Bs → List Bs) (to : Bs) : Nat → Nat → List Bs → Nat → Bool × Nat
  | 0, _, _, n => (false, n)
  | f + 1, i, line, n => if i < line.length then (match (goC to (ch (line.getD i ByteArray.empty)) line n).1 with
    | true => (true, (goC to (ch (line.getD i ByteArray.empty)) line n).2.2)
    | false => goL ch to f (i + 1) (goC to (ch (line.getD i ByteArray.empty)) line n).2.1 (goC to (ch (line.getD i ByteArray.empty)) line n).2.2) else (false, n)
def fuel : Nat := 200000
def srch (ch : Bs → List Bs) (a b : Bs) : Bool × Nat := goL ch b fuel 0 [a] 0
variable {ch : Bs → List Bs} {to : Bs}
theorem goC_ge : ∀ (l line : List Bs) (n : Nat), n ≤ (goC to l line n).2.2
  | [], _, _ => Nat.le_refl _
  | k :: l, line, n => by
    unfold goC
    split
    · exact Nat.le_succ n
    · exact Nat.le_trans (Nat.le_succ n) (goC_ge l _ _)
theorem goC_gt {k : Bs} {l line : List Bs} {n : Nat} : n < (goC to (k :: l) line n).2.2 := by
  unfold goC
  split
  · exact Nat.lt_succ_self n
  · exact goC_ge l _ (n + 1)
theorem goC_hit {k : Bs} {l line : List Bs} {n : Nat} (h : k = to) : goC to (k :: l) line n = (true, line, n + 1) := by
  unfold goC; rw [if_pos h]
theorem goC_miss {k : Bs} {l line : List Bs} {n : Nat} (h : k ≠ to) : goC to (k :: l) line n = goC to l (if hasB line k = true then line else line ++ [k]) (n + 1) := by
  rw [goC]; rw [if_neg h]
theorem goL_ge : ∀ (f i : Nat) (line : List Bs) (n : Nat), n ≤ (goL ch to f i line n).2
  | 0, _, _, _ => Nat.le_refl _
  | f + 1, i, line, n => by
    rw [goL]
    split
    · have h := goC_ge (to := to) (ch (line.getD i ByteArray.empty)) line n
      split
      · exact h
      · exact Nat.le_trans h (goL_ge f _ _ _)
    · exact Nat.le_refl _
/-- What is left of a search while the children of one key are looked at. -/
def goM (ch : Bs → List Bs) (to : Bs) (f i : Nat) (l line : List Bs) (n : Nat) : Bool × Nat := match (goC to l line n).1 with
  | true => (true, (goC to l line n).2.2)
  | false => goL ch to f (i + 1) (goC to l line n).2.1 (goC to l line n).2.2
theorem goL_in {f i : Nat} {line : List Bs} {n : Nat} (h : i < line.length) : goL ch to (f + 1) i line n = goM ch to f i (ch (line.getD i ByteArray.empty)) line n := by
  rw [goL, if_pos h]; rfl
theorem goL_out {f i : Nat} {line : List Bs} {n : Nat} (h : ¬ i < line.length) : goL ch to f i line n = (false, n) := by
  cases f with
  | zero => rfl
  | succ f => rw [goL, if_neg h]
theorem goM_nil {f i : Nat} {line : List Bs} {n : Nat} : goM ch to f i [] line n = goL ch to f (i + 1) line n := rfl
theorem goM_hit {f i : Nat} {k : Bs} {l line : List Bs} {n : Nat} (h : k = to) : goM ch to f i (k :: l) line n = (true, n + 1) := by
  unfold goM; rw [goC_hit h]
theorem goM_miss {f i : Nat} {k : Bs} {l line : List Bs} {n : Nat} (h : k ≠ to) : goM ch to f i (k :: l) line n = goM ch to f i l (if hasB line k = true then line else line ++ [k]) (n + 1) := by
  unfold goM; rw [goC_miss h]
theorem goM_gt {f i : Nat} {k : Bs} {l line : List Bs} {n : Nat} : n < (goM ch to f i (k :: l) line n).2 := by
  have h := goC_gt (to := to) (k := k) (l := l) (line := line) (n := n)
  unfold goM
  split
  · exact h
  · exact Nat.lt_of_lt_of_le h (goL_ge ..)
end Gr
end Go.Proofs.Ytddionboojdjlaa
end
section
namespace Go.Proofs.Ytddionboojdjlaa
open Go.RowKit Tb
namespace Gr
variable {seed : Int} {ns ns' : List NS} {t m : Nat} {C : Nat → Int} {adr : Nat → Nat} {M1 : Nat → Option ND} {M2 : RowsM}

/-- The same nodes, other marks. -/
structure SameE (ns ns' : List NS) : Prop where
  len : ns'.length = ns.length
  key : ∀ j, keyAt ns' j = keyAt ns j
  ls : ∀ e j, lsE e (ns'.getD j ns0) = lsE e (ns.getD j ns0)
theorem SameE.refl (ns : List NS) : SameE ns ns := ⟨rfl, fun _ => rfl, fun _ _ => rfl⟩
theorem SameE.mark (h : SameE ns ns') {a : Nat} (x : Int) : SameE ns (ns'.set a { ns'.getD a ns0 with mark := x }) := by
  refine ⟨by rw [List.length_set]; exact h.len, fun j => ?_, fun e j => ?_⟩
  · rw [← h.key j]
    unfold keyAt
    rw [getD_set]
    split
    · rename_i g; rw [g.1]
    · rfl
  · rw [← h.ls e j, getD_set]
    split
    · rename_i g; rw [g.1]; cases e <;> rfl
    · rfl
theorem mark_set {a j : Nat} {x : Int} (ha : a < ns.length) : ((ns.set a { ns.getD a ns0 with mark := x }).getD j ns0).mark = if j = a then x else (ns.getD j ns0).mark := by
  rw [getD_set]
  by_cases e : j = a
  · rw [if_pos ⟨e, ha⟩, if_pos e]
  · rw [if_neg (fun g => e g.1), if_neg e]
theorem SameE.idx (h : SameE ns ns') (hd : Dk ns) (k : Bs) : idxI ns' k = idxI ns k := by
  by_cases hex : ∃ i, i < ns.length ∧ keyAt ns i = k
  · obtain ⟨i, hi, e⟩ := hex
    rw [idx_is hd hi e]
    refine idx_is (fun a b ha hb e' => hd a b (by rw [← h.len]; exact ha) (by rw [← h.len]; exact hb) (by rw [← h.key, ← h.key]; exact e')) (by rw [h.len]; exact hi) (by rw [h.key]; exact e)
  · rw [idx_no fun i hi e => hex ⟨i, hi, e⟩, idx_no fun i hi e => hex ⟨i, by rw [← h.len]; exact hi, by rw [← h.key]; exact e⟩]
theorem HT.same (ht : HT seed ns ns.length m C) (h : SameE ns ns') : HT seed ns' ns'.length m C := by
  rw [h.len]
  exact ht.congr (by rw [h.len]; exact Nat.le_refl _) (fun i _ => h.key i) (fun i hi => by rw [h.key]; exact ht.key i (by rw [← h.len]; exact hi))
/-- Numbers of nodes that are met, and their keys. -/
def kL (ns : List NS) (L : List Nat) : List Bs := L.map (keyAt ns)
theorem kL_get {L : List Nat} {i : Nat} (h : i < L.length) : (kL ns L).getD i ByteArray.empty = keyAt ns (L.getD i 0) := by
  unfold kL
  rw [List.getD_eq_getElem?_getD, List.getElem?_map, List.getD_eq_getElem?_getD, List.getElem?_eq_getElem h]
  rfl
theorem kL_has (hd : Dk ns) {L : List Nat} (hL : ∀ j ∈ L, j < ns.length) {j : Nat} (hj : j < ns.length) : hasB (kL ns L) (keyAt ns j) = true ↔ j ∈ L := by
  rw [hasB_iff]
  unfold kL
  rw [List.mem_map]
  exact ⟨fun ⟨i, hi, e⟩ => by rw [← hd i j (hL i hi) hj e]; exact hi, fun h => ⟨j, h, rfl⟩⟩
theorem nodup_le : ∀ {n : Nat} {L : List Nat}, L.Nodup → (∀ j ∈ L, j < n) → L.length ≤ n
  | 0, [], _, _ => Nat.le_refl _
  | 0, j :: _, _, h => absurd (h j (List.mem_cons_self ..)) (Nat.not_lt_zero j)
  | n + 1, L, hn, h => by
    have h1 := nodup_le (n := n) (hn.erase n) fun j hj => by
      obtain ⟨g1, g2⟩ := hn.mem_erase_iff.1 hj
      have := h j g2
      omega
    rw [List.length_erase] at h1
    split at h1 <;> omega
end Gr
end Go.Proofs.Ytddionboojdjlaa
end
