/- A search looks at each edge at most once; Add beside the reference's: plain. -/
import Derived.Test.YtmgcpfljhcahoaaGrRelR
import Derived.Test.YtmgcpfljhcahoaaGrPrg7R
namespace Go.Proofs.Ytmgcpfljhcahoaa
open Go Go.RowKit Sy Tb
namespace Gr
variable {ch : Bs → List Bs} {to : Bs}

theorem goC_le : ∀ (l L : List Bs) (n : Nat), (goC to l L n).2.2 ≤ n + l.length
  | [], _, _ => Nat.le_refl _
  | k :: l, L, n => by
    unfold goC
    rw [List.length_cons]
    split
    · show n + 1 ≤ n + (l.length + 1); omega
    · have := goC_le l (if hasB L k = true then L else L ++ [k]) (n + 1)
      omega
theorem goC_all : ∀ (l L : List Bs) (n : Nat), (goC to l L n).1 = false → (goC to l L n).2.2 = n + l.length
  | [], _, _, _ => rfl
  | k :: l, L, n, h => by
    unfold goC at h ⊢
    rw [List.length_cons]
    split
    · rename_i g
      rw [if_pos g] at h
      cases h
    · rename_i g
      rw [if_neg g] at h
      rw [goC_all l _ (n + 1) h]
      omega
theorem goC_pre : ∀ (l L : List Bs) (n : Nat), L.Nodup → (goC to l L n).2.1.Nodup ∧ ∃ t, (goC to l L n).2.1 = L ++ t
  | [], L, _, h => ⟨h, [], (List.append_nil L).symm⟩
  | k :: l, L, n, h => by
    unfold goC
    split
    · exact ⟨h, [], (List.append_nil L).symm⟩
    · have h2 : (if hasB L k = true then L else L ++ [k]).Nodup := addK_nodup (k := k) h
      obtain ⟨h3, t, h4⟩ := goC_pre l _ (n + 1) h2
      refine ⟨h3, ?_⟩
      rw [h4]
      split
      · exact ⟨t, rfl⟩
      · exact ⟨[k] ++ t, List.append_assoc ..⟩
def sumC (ch : Bs → List Bs) (L : List Bs) : Nat := (L.map fun k => (ch k).length).sum
theorem sumC_app {L M : List Bs} : sumC ch (L ++ M) = sumC ch L + sumC ch M := by unfold sumC; rw [List.map_append, List.sum_append]
theorem goL_le {tot : Nat} (htot : ∀ P : List Bs, P.Nodup → sumC ch P ≤ tot) : ∀ (f i : Nat) (L : List Bs) (n : Nat), L.Nodup → n = sumC ch (L.take i) → (goL ch to f i L n).2 ≤ tot
  | 0, i, L, n, hL, hn => by
    show n ≤ tot
    rw [hn]
    exact htot _ (hL.sublist (List.take_sublist i L))
  | f + 1, i, L, n, hL, hn => by
    by_cases hi : i < L.length
    · rw [goL, if_pos hi]
      obtain ⟨h3, t, h4⟩ := goC_pre (to := to) (ch (L.getD i ByteArray.empty)) L n hL
      have htk : L.take (i + 1) = L.take i ++ [L.getD i ByteArray.empty] := by
        rw [List.take_succ_eq_append_getElem hi, List.getD_eq_getElem?_getD, List.getElem?_eq_getElem hi]
        rfl
      have hs : sumC ch (L.take (i + 1)) = n + (ch (L.getD i ByteArray.empty)).length := by
        rw [htk, sumC_app, ← hn]
        unfold sumC
        simp
      have hb := htot _ (hL.sublist (List.take_sublist (i + 1) L))
      split
      · have := goC_le (to := to) (ch (L.getD i ByteArray.empty)) L n
        show (goC to (ch (L.getD i ByteArray.empty)) L n).2.2 ≤ tot
        omega
      · rename_i g
        refine goL_le htot f (i + 1) _ _ h3 ?_
        rw [goC_all _ _ _ g, h4, List.take_append_of_le_length (by omega), hs]
    · rw [goL_out hi]
      show n ≤ tot
      rw [hn]
      exact htot _ (hL.sublist (List.take_sublist i L))
theorem len_split (f : Ed → Bool) : ∀ E : List Ed, E.length = (E.filter f).length + (E.filter fun x => !f x).length
  | [] => rfl
  | e :: E => by
    rw [List.length_cons, len_split f E, List.filter_cons, List.filter_cons]
    cases f e <;> simp <;> omega
def hasE (E : List Ed) (e : Ed) : Bool := E.any fun x => decide (x = e)
theorem hasE_iff {E : List Ed} {e : Ed} : hasE E e = true ↔ e ∈ E := by
  unfold hasE
  rw [List.any_eq_true]
  exact ⟨fun ⟨x, h1, h2⟩ => of_decide_eq_true h2 ▸ h1, fun h => ⟨e, h, decide_eq_true rfl⟩⟩
theorem sum_ch : ∀ (P : List Bs) (E : List Ed), P.Nodup → sumC (chE E) P ≤ E.length
  | [], _, _ => Nat.zero_le _
  | k :: P, E, h => by
    obtain ⟨h1, h2⟩ := List.nodup_cons.1 h
    have h3 := sum_ch P (E.filter fun x => !decide (x.1 = k)) h2
    have e1 : sumC (chE (E.filter fun x => !decide (x.1 = k))) P = sumC (chE E) P := by
      unfold sumC
      congr 1
      refine List.map_congr_left fun q hq => ?_
      show (chE _ q).length = (chE E q).length
      unfold chE
      rw [List.length_map, List.length_map, List.filter_filter]
      congr 1
      refine List.filter_congr fun x _ => ?_
      by_cases e : x.1 = q
      · have : ¬ x.1 = k := fun g => h1 (by rw [← g, e]; exact hq)
        rw [decide_eq_true e, decide_eq_false this]; rfl
      · rw [decide_eq_false e, Bool.false_and]
    have e2 : E.length = (E.filter fun x => decide (x.1 = k)).length + (E.filter fun x => !decide (x.1 = k)).length := len_split _ E
    show (chE E k).length + sumC (chE E) P ≤ E.length
    have e3 : (chE E k).length = (E.filter fun x => decide (x.1 = k)).length := List.length_map ..
    omega
/-- Each edge is looked at once. -/
theorem srch_le (E : List Ed) (a b : Bs) : (srch (chE E) a b).2 ≤ E.length :=
  goL_le (fun P h => sum_ch P E h) fuel 0 [a] 0 (List.pairwise_singleton ..) rfl

/-! Add and Reaches beside the reference -/
def rReach (E : List Ed) (a b : Bs) (most : Int) : Bool × Int × Int :=
  if (validK a && validK b) = true then (if most < 0 then (false, 0, 2) else if most < ((srch (chE E) a b).2 : Int) then (false, most, 7) else ((srch (chE E) a b).1, ((srch (chE E) a b).2 : Int), 0)) else (false, 0, 2)
def rAddR (N M : Int) (E : List Ed) (p c : Bs) : Bool × Int :=
  if (validK p && validK c) = true then (if hasE E (p, c) = true then (false, 0) else if (srch (chE E) c p).1 = true ∨ p = c then (false, 13) else if M < ((insE (p, c) E).length : Int) ∨ N < ((ndsE (insE (p, c) E)).length : Int) then (false, 7) else (true, 0)) else (false, 2)
def rAddE (N M : Int) (E : List Ed) (p c : Bs) : List Ed := if (rAddR N M E p c).1 = true then insE (p, c) E else E
variable {ns ns' : List NS} {E : List Ed}
theorem reach_eq (h : RelE ns E) (hp : PU ns) (a b : Bs) (most : Int) : reachR ns a b most = rReach E a b most := by
  unfold reachR rReach
  rw [h.chf hp]
theorem add_eq (h : RelE ns E) (hp : PU ns) {N M lk : Int} (hlk : lk = E.length) (hM : (E.length : Int) ≤ M) (hE : E.length ≤ 65536) (p c : Bs) :
    addR N M lk ns p c = rAddR N M E p c ∧ RelE (nsA N M lk ns p c) (rAddE N M E p c) ∧ PU (nsA N M lk ns p c) ∧ lkA N M lk ns p c = ((rAddE N M E p c).length : Int) ∧ ((rAddE N M E p c).length : Int) ≤ M := by
  have key : addR N M lk ns p c = rAddR N M E p c ∧ ((addR N M lk ns p c).1 = true → validK p = true ∧ validK c = true ∧ p ≠ c ∧ edge ns p c = false ∧ lk ≠ M) := by
    unfold addR rAddR
    by_cases hv : (validK p && validK c) = true
    · rw [if_pos hv, if_pos hv]
      by_cases he : edge ns p c = true
      · rw [if_pos he, if_pos (hasE_iff.2 ((h.ed p c).2 he))]
        exact ⟨rfl, fun q => by cases q⟩
      · rw [if_neg he, if_neg (fun q => he ((h.ed p c).1 (hasE_iff.1 q)))]
        have hv2 := hv
        rw [Bool.and_eq_true] at hv2
        have he2 : edge ns p c = false := by simpa using he
        have hr : (reachR ns c p 65536).1 = (srch (chE E) c p).1 := by
          rw [reach_eq h hp]
          unfold rReach
          have := srch_le E c p
          rw [hv2.1, hv2.2, if_pos (show (true && true) = true from rfl), if_neg (by omega), if_neg (by omega)]
        rw [hr]
        by_cases hc : (srch (chE E) c p).1 = true ∨ p = c
        · rw [if_pos hc, if_pos hc]
          exact ⟨rfl, fun q => by cases q⟩
        · rw [if_neg hc, if_neg hc]
          have hne : p ≠ c := fun q => hc (.inr q)
          have h2 := h.add hp hv2.1 hv2.2 hne he2
          have h3 := h2.len (hp.add hv2.1 hv2.2 hne he2)
          rw [addN_len] at h3
          rw [h3, len_insE]
          by_cases hf : N < ((ndsE (insE (p, c) E)).length : Int) ∨ lk = M
          · rw [if_pos hf, if_pos (by omega)]
            exact ⟨rfl, fun q => by cases q⟩
          · rw [if_neg hf, if_neg (by omega)]
            exact ⟨rfl, fun _ => ⟨hv2.1, hv2.2, hne, he2, fun q => hf (.inr q)⟩⟩
    · rw [if_neg hv, if_neg hv]
      exact ⟨rfl, fun q => by cases q⟩
  obtain ⟨e, hy⟩ := key
  refine ⟨e, ?_⟩
  unfold nsA lkA rAddE
  rw [← e]
  by_cases g : (addR N M lk ns p c).1 = true
  · obtain ⟨v1, v2, hne, he, hm⟩ := hy g
    rw [if_pos g, if_pos g, if_pos g, len_insE]
    exact ⟨h.add hp v1 v2 hne he, hp.add v1 v2 hne he, by omega, by omega⟩
  · rw [if_neg g, if_neg g, if_neg g]
    exact ⟨h, hp, hlk, hM⟩
end Gr
end Go.Proofs.Ytmgcpfljhcahoaa
