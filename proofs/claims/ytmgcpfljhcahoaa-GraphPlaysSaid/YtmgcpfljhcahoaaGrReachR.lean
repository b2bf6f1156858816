/- Searches that mark nodes, plain. -/
import Derived.Test.YtmgcpfljhcahoaaGrSearchR
namespace Go.Proofs.Ytmgcpfljhcahoaa
open Go.RowKit Tb
namespace Gr
variable {seed : Int} {ns ns' : List NS} {t m : Nat} {C : Nat → Int} {adr : Nat → Nat} {M1 : Nat → Option ND} {M2 : RowsM}

/-- The same nodes, other marks. -/
structure SameE (ns ns' : List NS) : Prop where
  len : ns'.length = ns.length
  key : ∀ j, keyAt ns' j = keyAt ns j
  ls : ∀ e j, lsE e (ns'.getD j ns0) = lsE e (ns.getD j ns0)
theorem SameE.refl (ns : List NS) : SameE ns ns := ⟨rfl, fun _ => rfl, fun _ _ => rfl⟩
theorem SameE.mark (h : SameE ns ns') {a : Nat} (x : Int) : SameE ns (ns'.set a { ns'.getD a ns0 with mark := x }) := by
  refine ⟨by rw [List.length_set]; exact h.len, fun j => ?_, fun e j => ?_⟩
  · rw [← h.key j]
    unfold keyAt
    rw [getD_set]
    split
    · rename_i g; rw [g.1]
    · rfl
  · rw [← h.ls e j, getD_set]
    split
    · rename_i g; rw [g.1]; cases e <;> rfl
    · rfl
theorem mark_set {a j : Nat} {x : Int} (ha : a < ns.length) : ((ns.set a { ns.getD a ns0 with mark := x }).getD j ns0).mark = if j = a then x else (ns.getD j ns0).mark := by
  rw [getD_set]
  by_cases e : j = a
  · rw [if_pos ⟨e, ha⟩, if_pos e]
  · rw [if_neg (fun g => e g.1), if_neg e]
theorem SameE.idx (h : SameE ns ns') (hd : Dk ns) (k : Bs) : idxI ns' k = idxI ns k := by
  by_cases hex : ∃ i, i < ns.length ∧ keyAt ns i = k
  · obtain ⟨i, hi, e⟩ := hex
    rw [idx_is hd hi e]
    refine idx_is (fun a b ha hb e' => hd a b (by rw [← h.len]; exact ha) (by rw [← h.len]; exact hb) (by rw [← h.key, ← h.key]; exact e')) (by rw [h.len]; exact hi) (by rw [h.key]; exact e)
  · rw [idx_no fun i hi e => hex ⟨i, hi, e⟩, idx_no fun i hi e => hex ⟨i, by rw [← h.len]; exact hi, by rw [← h.key]; exact e⟩]
theorem HT.same (ht : HT seed ns ns.length m C) (h : SameE ns ns') : HT seed ns' ns'.length m C := by
  rw [h.len]
  exact ht.congr (by rw [h.len]; exact Nat.le_refl _) (fun i _ => h.key i) (fun i hi => by rw [h.key]; exact ht.key i (by rw [← h.len]; exact hi))
/-- Numbers of nodes that are met, and their keys. -/
def kL (ns : List NS) (L : List Nat) : List Bs := L.map (keyAt ns)
theorem kL_get {L : List Nat} {i : Nat} (h : i < L.length) : (kL ns L).getD i ByteArray.empty = keyAt ns (L.getD i 0) := by
  unfold kL
  rw [List.getD_eq_getElem?_getD, List.getElem?_map, List.getD_eq_getElem?_getD, List.getElem?_eq_getElem h]
  rfl
theorem kL_has (hd : Dk ns) {L : List Nat} (hL : ∀ j ∈ L, j < ns.length) {j : Nat} (hj : j < ns.length) : hasB (kL ns L) (keyAt ns j) = true ↔ j ∈ L := by
  rw [hasB_iff]
  unfold kL
  rw [List.mem_map]
  exact ⟨fun ⟨i, hi, e⟩ => by rw [← hd i j (hL i hi) hj e]; exact hi, fun h => ⟨j, h, rfl⟩⟩
theorem nodup_le : ∀ {n : Nat} {L : List Nat}, L.Nodup → (∀ j ∈ L, j < n) → L.length ≤ n
  | 0, [], _, _ => Nat.le_refl _
  | 0, j :: _, _, h => absurd (h j (List.mem_cons_self ..)) (Nat.not_lt_zero j)
  | n + 1, L, hn, h => by
    have h1 := nodup_le (n := n) (hn.erase n) fun j hj => by
      obtain ⟨g1, g2⟩ := hn.mem_erase_iff.1 hj
      have := h j g2
      omega
    rw [List.length_erase] at h1
    split at h1 <;> omega
end Gr
end Go.Proofs.Ytmgcpfljhcahoaa
