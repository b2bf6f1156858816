/- One text out of 2. -/
import Derived.Test.YtddionboojdjlaaGreatGrRelR
import Derived.Test.YtddionboojdjlaaGreatGrPrg7R
section
namespace Go.Proofs.YtddionboojdjlaaGreat
open Go Go.RowKit Sy Tb
namespace Gr
variable {ch : Bs → List Bs} {to : Bs}

theorem goC_le : ∀ (l L : List Bs) (n : Nat), (goC to l L n).2.2 ≤ n + l.length
  | [], _, _ => Nat.le_refl _
  | k :: l, L, n => by
    unfold goC
    rw [List.length_cons]
    split
    · show n + 1 ≤ n + (l.length + 1); omega
    · have := goC_le l (if hasB L k = true then L else L ++ [k]) (n + 1)
      omega
theorem goC_all : ∀ (l L : List Bs) (n : Nat), (goC to l L n).1 = false → (goC to l L n).2.2 = n + l.length
  | [], _, _, _ => rfl
  | k :: l, L, n, h => by
    unfold goC at h ⊢
    rw [List.length_cons]
    split
    · rename_i g
      rw [if_pos g] at h
      cases h
    · rename_i g
      rw [if_neg g] at h
      rw [goC_all l _ (n + 1) h]
      omega
theorem goC_pre : ∀ (l L : List Bs) (n : Nat), L.Nodup → (goC to l L n).2.1.Nodup ∧ ∃ t, (goC to l L n).2.1 = L ++ t
  | [], L, _, h => ⟨h, [], (List.append_nil L).symm⟩
  | k :: l, L, n, h => by
    unfold goC
    split
    · exact ⟨h, [], (List.append_nil L).symm⟩
    · have h2 : (if hasB L k = true then L else L ++ [k]).Nodup := addK_nodup (k := k) h
      obtain ⟨h3, t, h4⟩ := goC_pre l _ (n + 1) h2
      refine ⟨h3, ?_⟩
      rw [h4]
      split
      · exact ⟨t, rfl⟩
      · exact ⟨[k] ++ t, List.append_assoc ..⟩
def sumC (ch : Bs → List Bs) (L : List Bs) : Nat := (L.map fun k => (ch k).length).sum
theorem sumC_app {L M : List Bs} : sumC ch (L ++ M) = sumC ch L + sumC ch M := by unfold sumC; rw [List.map_append, List.sum_append]
theorem goL_le {tot : Nat} (htot : ∀ P : List Bs, P.Nodup → sumC ch P ≤ tot) : ∀ (f i : Nat) (L : List Bs) (n : Nat), L.Nodup → n = sumC ch (L.take i) → (goL ch to f i L n).2 ≤ tot
  | 0, i, L, n, hL, hn => by
    show n ≤ tot
    rw [hn]
    exact htot _ (hL.sublist (List.take_sublist i L))
  | f + 1, i, L, n, hL, hn => by
    by_cases hi : i < L.length
    · rw [goL, if_pos hi]
      obtain ⟨h3, t, h4⟩ := goC_pre (to := to) (ch (L.getD i ByteArray.empty)) L n hL
      have htk : L.take (i + 1) = L.take i ++ [L.getD i ByteArray.empty] := by
        rw [List.take_succ_eq_append_getElem hi, List.getD_eq_getElem?_getD, List.getElem?_eq_getElem hi]
        rfl
      have hs : sumC ch (L.take (i + 1)) = n + (ch (L.getD i ByteArray.empty)).length := by
        rw [htk, sumC_app, ← hn]
        unfold sumC
        simp
      have hb := htot _ (hL.sublist (List.take_sublist (i + 1) L))
      split
      · have := goC_le (to := to) (ch (L.getD i ByteArray.empty)) L n
        show (goC to (ch (L.getD i ByteArray.empty)) L n).2.2 ≤ tot
        omega
      · rename_i g
        refine goL_le htot f (i + 1) _ _ h3 ?_
        rw [goC_all _ _ _ g, h4, List.take_append_of_le_length (by omega), hs]
    · rw [goL_out hi]
      show n ≤ tot
      rw [hn]
      exact htot _ (hL.sublist (List.take_sublist i L))
theorem len_split (f : Ed → Bool) : ∀ E : List Ed, E.length = (E.filter f).length + (E.filter fun x => !f x).length
  | [] => rfl
  | e :: E => by
    rw [List.length_cons, len_split f E, List.filter_cons, List.filter_cons]
    cases f e <;> simp <;> omega
def hasE (E : List Ed) (e : Ed) : Bool := E.any fun x => decide (x = e)
theorem hasE_iff {E : List Ed} {e : Ed} : hasE E e = true ↔ e ∈ E := by
  unfold hasE
  rw [List.any_eq_true]
  exact ⟨fun ⟨x, h1, h2⟩ => of_decide_eq_true h2 ▸ h1, fun h => ⟨e, h, decide_eq_true rfl⟩⟩
theorem sum_ch : ∀ (P : List Bs) (E : List Ed), P.Nodup → sumC (chE E) P ≤ E.length
  | [], _, _ => Nat.zero_le _
  | k :: P, E, h => by
    obtain ⟨h1, h2⟩ := List.nodup_cons.1 h
    have h3 := sum_ch P (E.filter fun x => !decide (x.1 = k)) h2
    have e1 : sumC (chE (E.filter fun x => !decide (x.1 = k))) P = sumC (chE E) P := by
      unfold sumC
      congr 1
      refine List.map_congr_left fun q hq => ?_
      show (chE _ q).length = (chE E q).length
      unfold chE
      rw [List.length_map, List.length_map, List.filter_filter]
      congr 1
      refine List.filter_congr fun x _ => ?_
      by_cases e : x.1 = q
      · have : ¬ x.1 = k := fun g => h1 (by rw [← g, e]; exact hq)
        rw [decide_eq_true e, decide_eq_false this]; rfl
      · rw [decide_eq_false e, Bool.false_and]
    have e2 : E.length = (E.filter fun x => decide (x.1 = k)).length + (E.filter fun x => !decide (x.1 = k)).length := len_split _ E
    show (chE E k).length + sumC (chE E) P ≤ E.length
    have e3 : (chE E k).length = (E.filter fun x => decide (x.1 = k)).length := List.length_map ..
    omega
/-- Each edge is looked at once. -/
theorem srch_le (E : List Ed) (a b : Bs) : (srch (chE E) a b).2 ≤ E.length :=
  goL_le (fun P h => sum_ch P E h) fuel 0 [a] 0 (List.pairwise_singleton ..) rfl

/-! Add and Reaches beside the reference -/
def rReach (E : List Ed) (a b : Bs) (most : Int) : Bool × Int × Int :=
  if (validK a && validK b) = true then (if most < 0 then (false, 0, 2) else if most < ((srch (chE E) a b).2 : Int) then (false, most, 7) else ((srch (chE E) a b).1, ((srch (chE E) a b).2 : Int), 0)) else (false, 0, 2)
def rAddR (N M : Int) (E : List Ed) (p c : Bs) : Bool × Int :=
  if (validK p && validK c) = true then (if hasE E (p, c) = true then (false, 0) else if (srch (chE E) c p).1 = true ∨ p = c then (false, 13) else if M < ((insE (p, c) E).length : Int) ∨ N < ((ndsE (insE (p, c) E)).length : Int) then (false, 7) else (true, 0)) else (false, 2)
def rAddE (N M : Int) (E : List Ed) (p c : Bs) : List Ed := if (rAddR N M E p c).1 = true then insE (p, c) E else E
variable {ns ns' : List NS} {E : List Ed}
theorem reach_eq (h : RelE ns E) (hp : PU ns) (a b : Bs) (most : Int) : reachR ns a b most = rReach E a b most := by
  unfold reachR rReach
  rw [h.chf hp]
theorem add_eq (h : RelE ns E) (hp : PU ns) {N M lk : Int} (hlk : lk = E.length) (hM : (E.length : Int) ≤ M) (hE : E.length ≤ 65536) (p c : Bs) :
    addR N M lk ns p c = rAddR N M E p c ∧ RelE (nsA N M lk ns p c) (rAddE N M E p c) ∧ PU (nsA N M lk ns p c) ∧ lkA N M lk ns p c = ((rAddE N M E p c).length : Int) ∧ ((rAddE N M E p c).length : Int) ≤ M := by
  have key : addR N M lk ns p c = rAddR N M E p c ∧ ((addR N M lk ns p c).1 = true → validK p = true ∧ validK c = true ∧ p ≠ c ∧ edge ns p c = false ∧ lk ≠ M) := by
    unfold addR rAddR
    by_cases hv : (validK p && validK c) = true
    · rw [if_pos hv, if_pos hv]
      by_cases he : edge ns p c = true
      · rw [if_pos he, if_pos (hasE_iff.2 ((h.ed p c).2 he))]
        exact ⟨rfl, fun q => by cases q⟩
      · rw [if_neg he, if_neg (fun q => he ((h.ed p c).1 (hasE_iff.1 q)))]
        have hv2 := hv
        rw [Bool.and_eq_true] at hv2
        have he2 : edge ns p c = false := by simpa using he
        have hr : (reachR ns c p 65536).1 = (srch (chE E) c p).1 := by
          rw [reach_eq h hp]
          unfold rReach
          have := srch_le E c p
          rw [hv2.1, hv2.2, if_pos (show (true && true) = true from rfl), if_neg (by omega), if_neg (by omega)]
        rw [hr]
        by_cases hc : (srch (chE E) c p).1 = true ∨ p = c
        · rw [if_pos hc, if_pos hc]
          exact ⟨rfl, fun q => by cases q⟩
        · rw [if_neg hc, if_neg hc]
          have hne : p ≠ c := fun q => hc (.inr q)
          have h2 := h.add hp hv2.1 hv2.2 hne he2
          have h3 := h2.len (hp.add hv2.1 hv2.2 hne he2)
          rw [addN_len] at h3
          rw [h3, len_insE]
          by_cases hf : N < ((ndsE (insE (p, c) E)).length : Int) ∨ lk = M
          · rw [if_pos hf, if_pos (by omega)]
            exact ⟨rfl, fun q => by cases q⟩
          · rw [if_neg hf, if_neg (by omega)]
            exact ⟨rfl, fun _ => ⟨hv2.1, hv2.2, hne, he2, fun q => hf (.inr q)⟩⟩
    · rw [if_neg hv, if_neg hv]
      exact ⟨rfl, fun q => by cases q⟩
  obtain ⟨e, hy⟩ := key
  refine ⟨e, ?_⟩
  unfold nsA lkA rAddE
  rw [← e]
  by_cases g : (addR N M lk ns p c).1 = true
  · obtain ⟨v1, v2, hne, he, hm⟩ := hy g
    rw [if_pos g, if_pos g, if_pos g, len_insE]
    exact ⟨h.add hp v1 v2 hne he, hp.add v1 v2 hne he, by omega, by omega⟩
  · rw [if_neg g, if_neg g, if_neg g]
    exact ⟨h, hp, hlk, hM⟩
end Gr
end Go.Proofs.YtddionboojdjlaaGreat
end
section
namespace Go.Proofs.YtddionboojdjlaaGreat
open Go Go.RowKit Sy Tb
namespace Gr
section
variable {α : Type} {lt : α → α → Bool} {d : α}
def insG (lt : α → α → Bool) (c : α) : List α → List α
  | [] => [c]
  | x :: l => if lt x c = true then x :: insG lt c l else c :: x :: l
/-- How many come ahead. -/
def kG (lt : α → α → Bool) (c : α) : List α → Nat
  | [] => 0
  | x :: l => if lt x c = true then kG lt c l + 1 else 0
theorem kG_le {c : α} : ∀ {w : List α}, kG lt c w ≤ w.length
  | [] => Nat.le_refl _
  | x :: l => by
    unfold kG
    split
    · exact Nat.succ_le_succ kG_le
    · exact Nat.zero_le _
theorem kG_lt {c : α} : ∀ {w : List α} {j : Nat}, j < kG lt c w → lt (w.getD j d) c = true
  | [], j, h => by unfold kG at h; omega
  | x :: l, j, h => by
    unfold kG at h
    split at h
    · rename_i g
      cases j with
      | zero => exact g
      | succ j =>
        rw [List.getD_cons_succ]
        exact kG_lt (by omega)
    · omega
theorem kG_at {c : α} : ∀ {w : List α}, kG lt c w < w.length → ¬ lt (w.getD (kG lt c w) d) c = true
  | [], h => by simp [kG] at h
  | x :: l, h => by
    unfold kG at h ⊢
    split
    · rename_i g
      rw [if_pos g] at h
      rw [List.getD_cons_succ]
      exact kG_at (by simpa using h)
    · rename_i g
      exact g
theorem kG_go {c : α} {w : List α} {i : Nat} (hi : i ≤ kG lt c w) (h : i < w.length) (hl : lt (w.getD i d) c = true) : i + 1 ≤ kG lt c w := by
  rcases Nat.lt_or_ge i (kG lt c w) with g | g
  · exact g
  · have e : i = kG lt c w := by omega
    rw [e] at h hl
    exact absurd hl (kG_at h)
theorem kG_no {c : α} {w : List α} {i : Nat} (hi : i ≤ kG lt c w) (hl : ¬ lt (w.getD i d) c = true) : i = kG lt c w := by
  rcases Nat.lt_or_ge i (kG lt c w) with g | g
  · exact absurd (kG_lt g) hl
  · omega
theorem kG_end {c : α} {w : List α} {i : Nat} (hi : i ≤ kG lt c w) (h : ¬ i < w.length) : i = kG lt c w := by
  have := kG_le (lt := lt) (c := c) (w := w)
  omega
theorem insG_get {c : α} : ∀ {w : List α} {q : Nat}, (insG lt c w).getD q d = if q < kG lt c w then w.getD q d else if q = kG lt c w then c else w.getD (q - 1) d
  | [], q => by
    unfold insG kG
    cases q with
    | zero => rfl
    | succ q => simp
  | x :: l, q => by
    unfold insG kG
    split
    · rename_i g
      cases q with
      | zero => simp
      | succ q =>
        rw [List.getD_cons_succ, List.getD_cons_succ, insG_get (w := l)]
        by_cases h1 : q < kG lt c l
        · rw [if_pos h1, if_pos (show q + 1 < kG lt c l + 1 by omega)]
        · rw [if_neg h1, if_neg (show ¬ q + 1 < kG lt c l + 1 by omega)]
          by_cases h2 : q = kG lt c l
          · rw [if_pos h2, if_pos (show q + 1 = kG lt c l + 1 by omega)]
          · rw [if_neg h2, if_neg (show ¬ q + 1 = kG lt c l + 1 by omega)]
            obtain ⟨r, rfl⟩ : ∃ r, q = r + 1 := ⟨q - 1, by omega⟩
            rfl
    · rename_i g
      cases q with
      | zero => rfl
      | succ q => simp
theorem len_insG {c : α} : ∀ {w : List α}, (insG lt c w).length = w.length + 1
  | [] => rfl
  | x :: l => by
    unfold insG
    split
    · rw [List.length_cons, len_insG]; rfl
    · rfl
theorem appF_lt {n : Nat} {f g : Nat → List V} {q : Nat} (h : q < n) : appF n f g q = f q := by
  unfold appF
  rw [show Nat.blt q n = true from Nat.ble_eq_true_of_le h]
  rfl
theorem appF_ge {n : Nat} {f g : Nat → List V} {q : Nat} (h : n ≤ q) : appF n f g q = g (q - n) := by
  unfold appF
  rw [show Nat.blt q n = false from by cases hb : Nat.blt q n with | false => rfl | true => exact absurd (Nat.le_of_ble_eq_true hb) (by omega)]
  rfl
/-- What comes of `append(append(nil, l[:k]...), append([c], l[k:]...)...)`. -/
theorem insG_view {F : α → List V} {c : α} {w : List α} {k : Nat} (hk : kG lt c w = k) (q : Nat) : F ((insG lt c w).getD q d) = appF k (fun q => F (w.getD (0 + q) d)) (fun q => appF 1 (fun _ => F c) (fun q => F (w.getD (k + q) d)) (0 + q)) q := by
  rw [insG_get, hk]
  by_cases h1 : q < k
  · rw [if_pos h1, appF_lt h1, Nat.zero_add]
  · rw [if_neg h1, appF_ge (by omega), Nat.zero_add]
    by_cases h2 : q = k
    · rw [if_pos h2, appF_lt (by omega)]
    · rw [if_neg h2, appF_ge (by omega), show k + (q - k - 1) = q - 1 by omega]
/-- A list and one element more. -/
theorem push_view {F : α → List V} {c : α} {w : List α} (q : Nat) (hq : q < w.length + 1) : F ((w ++ [c]).getD q d) = appF w.length (fun q => F (w.getD (0 + q) d)) (fun _ => F c) q := by
  by_cases h1 : q < w.length
  · rw [appF_lt h1, Nat.zero_add, List.getD_eq_getElem?_getD, List.getElem?_append_left h1, ← List.getD_eq_getElem?_getD]
  · rw [appF_ge (by omega), show q = w.length by omega, List.getD_eq_getElem?_getD, List.getElem?_append_right (Nat.le_refl _), Nat.sub_self]
    rfl
end
theorem not_t {b : Bool} (h : (!b) = true) : b = false := by simpa using h
theorem not_f {b : Bool} (h : (!b) = false) : b = true := by simpa using h
theorem insE_eq {e : Ed} : ∀ {E : List Ed}, insE e E = insG ltE e E
  | [] => rfl
  | x :: l => by unfold insE insG; rw [insE_eq]
/-! Sorting by putting in -/
def insK (x : Bs) (l : List Bs) : List Bs := insG (fun a b => strLt a b) x l
theorem insK_perm (x : Bs) : ∀ l : List Bs, (insK x l).Perm (x :: l)
  | [] => List.Perm.refl _
  | y :: l => by
    unfold insK insG
    split
    · exact ((insK_perm x l).cons y).trans (List.Perm.swap ..)
    · exact List.Perm.refl _
def leB (a b : Bs) : Prop := a.data.toList ≤ b.data.toList
theorem insK_srt (x : Bs) : ∀ l : List Bs, l.Pairwise leB → (insK x l).Pairwise leB
  | [], _ => List.pairwise_singleton ..
  | y :: l, h => by
    obtain ⟨h1, h2⟩ := List.pairwise_cons.1 h
    unfold insK insG
    split
    · rename_i g
      refine List.pairwise_cons.2 ⟨fun z hz => ?_, insK_srt x l h2⟩
      rcases List.mem_cons.1 ((insK_perm x l).mem_iff.1 hz) with rfl | hz
      · exact List.le_of_lt (strLt_iff.1 g)
      · exact h1 z hz
    · rename_i g
      have hxy : leB x y := List.not_lt.1 fun q => g (strLt_iff.2 q)
      refine List.pairwise_cons.2 ⟨fun z hz => ?_, h⟩
      rcases List.mem_cons.1 hz with rfl | hz
      · exact hxy
      · exact List.le_trans hxy (h1 z hz)
def isrt (l : List Bs) : List Bs := l.foldl (fun o x => insK x o) []
theorem isrt_fold : ∀ (l o : List Bs), o.Pairwise leB → (l.foldl (fun o x => insK x o) o).Pairwise leB ∧ (l.foldl (fun o x => insK x o) o).Perm (l ++ o)
  | [], o, h => ⟨h, List.Perm.refl _⟩
  | x :: l, o, h => by
    rw [List.foldl_cons]
    obtain ⟨h1, h2⟩ := isrt_fold l (insK x o) (insK_srt x o h)
    exact ⟨h1, h2.trans ((List.Perm.append_left l (insK_perm x o)).trans List.perm_middle)⟩
/-- Sorting by putting in is sorting. -/
theorem isrt_eq (l : List Bs) : isrt l = sortK l := by
  obtain ⟨h1, h2⟩ := isrt_fold l [] List.Pairwise.nil
  rw [List.append_nil] at h2
  exact List.Perm.eq_of_pairwise (le := leB) (fun a b _ _ h1 h2 => bs_ext (List.le_antisymm h1 h2)) h1 (sortK_srt l) (h2.trans (sortK_perm l).symm)
theorem isrt_take {l : List Bs} {i : Nat} (h : i < l.length) : isrt (l.take (i + 1)) = insK (l.getD i ByteArray.empty) (isrt (l.take i)) := by
  unfold isrt
  rw [List.take_succ_eq_append_getElem h, List.foldl_append, List.getD_eq_getElem?_getD, List.getElem?_eq_getElem h]
  rfl
theorem isrt_len (l : List Bs) : (isrt l).length = l.length := by rw [isrt_eq, sortK_len]
/-! Prefixes of lists of edges -/
def e00 : Ed := (ByteArray.empty, ByteArray.empty)
def prE (E : List Ed) (k : Bs) : List Bs := (E.filter fun x => decide (x.2 = k)).map (·.1)
theorem take_snoc {α : Type} {l : List α} {i : Nat} {d : α} (h : i < l.length) : l.take (i + 1) = l.take i ++ [l.getD i d] := by
  rw [List.take_succ_eq_append_getElem h, List.getD_eq_getElem?_getD, List.getElem?_eq_getElem h]
  rfl
theorem chE_yes {E : List Ed} {k : Bs} {i : Nat} (h : i < E.length) (hk : (E.getD i e00).1 = k) : chE (E.take (i + 1)) k = chE (E.take i) k ++ [(E.getD i e00).2] := by
  unfold chE
  rw [take_snoc (d := e00) h, List.filter_append, List.map_append]
  congr 1
  rw [List.filter_cons, if_pos (decide_eq_true hk)]
  rfl
theorem chE_no {E : List Ed} {k : Bs} {i : Nat} (h : i < E.length) (hk : ¬ (E.getD i e00).1 = k) : chE (E.take (i + 1)) k = chE (E.take i) k := by
  unfold chE
  rw [take_snoc (d := e00) h, List.filter_append, List.map_append, List.filter_cons, if_neg (fun q => hk (of_decide_eq_true q))]
  exact List.append_nil _
theorem prE_yes {E : List Ed} {k : Bs} {i : Nat} (h : i < E.length) (hk : (E.getD i e00).2 = k) : prE (E.take (i + 1)) k = prE (E.take i) k ++ [(E.getD i e00).1] := by
  unfold prE
  rw [take_snoc (d := e00) h, List.filter_append, List.map_append]
  congr 1
  rw [List.filter_cons, if_pos (decide_eq_true hk)]
  rfl
theorem prE_no {E : List Ed} {k : Bs} {i : Nat} (h : i < E.length) (hk : ¬ (E.getD i e00).2 = k) : prE (E.take (i + 1)) k = prE (E.take i) k := by
  unfold prE
  rw [take_snoc (d := e00) h, List.filter_append, List.map_append, List.filter_cons, if_neg (fun q => hk (of_decide_eq_true q))]
  exact List.append_nil _
theorem chE_len (E : List Ed) (k : Bs) : (chE E k).length ≤ E.length := by unfold chE; rw [List.length_map]; exact List.length_filter_le ..
theorem prE_len (E : List Ed) (k : Bs) : (prE E k).length ≤ E.length := by unfold prE; rw [List.length_map]; exact List.length_filter_le ..
theorem take_le {α : Type} (l : List α) (i : Nat) : (l.take i).length ≤ l.length := by rw [List.length_take]; omega
/-- The index of an edge, or -1. -/
def fE (E : List Ed) (e : Ed) : Int := match E.findIdx? fun x => decide (x = e) with
  | some i => (i : Int)
  | none => -1
theorem fE_hit {E : List Ed} {e : Ed} {i : Nat} (h : i < E.length) (hb : ∀ j, j < i → E.getD j e00 ≠ e) (he : E.getD i e00 = e) : fE E e = i := by
  unfold fE
  have : E.findIdx? (fun x => decide (x = e)) = some i := by
    rw [List.findIdx?_eq_some_iff_getElem]
    refine ⟨h, decide_eq_true ?_, fun j hj => ?_⟩
    · rw [List.getD_eq_getElem?_getD, List.getElem?_eq_getElem h] at he
      exact he
    · have := hb j hj
      rw [List.getD_eq_getElem?_getD, List.getElem?_eq_getElem (show j < E.length by omega)] at this
      simpa using this
  rw [this]
theorem fE_miss {E : List Ed} {e : Ed} (hb : ∀ j, j < E.length → E.getD j e00 ≠ e) : fE E e = -1 := by
  unfold fE
  have : E.findIdx? (fun x => decide (x = e)) = none := by
    rw [List.findIdx?_eq_none_iff]
    intro x hx
    obtain ⟨j, hj, rfl⟩ := List.mem_iff_getElem.1 hx
    have := hb j hj
    rw [List.getD_eq_getElem?_getD, List.getElem?_eq_getElem hj] at this
    simpa using this
  rw [this]
theorem fE_iff {E : List Ed} {e : Ed} : 0 ≤ fE E e ↔ hasE E e = true := by
  unfold fE
  rw [hasE_iff]
  cases h : E.findIdx? fun x => decide (x = e) with
  | some i =>
    rw [List.findIdx?_eq_some_iff_getElem] at h
    obtain ⟨h1, h2, _⟩ := h
    refine ⟨fun _ => ?_, fun _ => by show (0 : Int) ≤ (i : Int); omega⟩
    rw [← of_decide_eq_true h2]
    exact List.getElem_mem h1
  | none =>
    rw [List.findIdx?_eq_none_iff] at h
    refine ⟨fun q => absurd q (by decide), fun q => ?_⟩
    have := h e q
    simp at this
theorem hasB_take {l : List Bs} {s : Bs} (h : ∀ j, j < l.length → l.getD j ByteArray.empty ≠ s) : hasB l s = false := by
  cases hb : hasB l s with
  | false => rfl
  | true =>
    rw [hasB_iff] at hb
    obtain ⟨j, hj, rfl⟩ := List.mem_iff_getElem.1 hb
    have := h j hj
    rw [List.getD_eq_getElem?_getD, List.getElem?_eq_getElem hj] at this
    exact absurd rfl this
theorem hasB_at {l : List Bs} {s : Bs} {j : Nat} (hj : j < l.length) (h : l.getD j ByteArray.empty = s) : hasB l s = true := by
  rw [hasB_iff, ← h, List.getD_eq_getElem?_getD, List.getElem?_eq_getElem hj]
  exact List.getElem_mem hj
/-! The nodes -/
def ndA (E : List Ed) (i : Nat) : List Bs := ndsE (E.take i)
theorem ndA_succ {E : List Ed} {i : Nat} (h : i < E.length) : ndsE (E.take (i + 1)) = addK (addK (ndsE (E.take i)) (E.getD i e00).1) (E.getD i e00).2 := by
  unfold ndsE
  rw [take_snoc (d := e00) h, List.foldl_append]
  rfl
theorem addK_len (l : List Bs) (k : Bs) : (addK l k).length ≤ l.length + 1 := by
  unfold addK
  split
  · omega
  · rw [List.length_append]; exact Nat.le_refl _
theorem nds_fold_len : ∀ (E : List Ed) (l : List Bs), (E.foldl (fun l e => addK (addK l e.1) e.2) l).length ≤ l.length + 2 * E.length
  | [], l => by simp
  | e :: E, l => by
    rw [List.foldl_cons, List.length_cons]
    have := nds_fold_len E (addK (addK l e.1) e.2)
    have := addK_len l e.1
    have := addK_len (addK l e.1) e.2
    omega
theorem nds_len (E : List Ed) : (ndsE E).length ≤ 2 * E.length := by
  have := nds_fold_len E []
  rw [List.length_nil, Nat.zero_add] at this
  exact this
theorem nodup_sub : ∀ {L M : List Bs}, L.Nodup → (∀ x ∈ L, x ∈ M) → L.length ≤ M.length
  | [], _, _, _ => Nat.zero_le _
  | a :: L, M, h, hs => by
    obtain ⟨s, t, rfl⟩ := List.append_of_mem (hs a (List.mem_cons_self ..))
    obtain ⟨h1, h2⟩ := List.nodup_cons.1 h
    have := nodup_sub (M := s ++ t) h2 fun x hx => by
      have := hs x (List.mem_cons_of_mem _ hx)
      rw [List.mem_append, List.mem_cons] at this
      rw [List.mem_append]
      rcases this with q | rfl | q
      · exact .inl q
      · exact absurd hx h1
      · exact .inr q
    rw [List.length_append] at this
    rw [List.length_cons, List.length_append, List.length_cons]
    omega
end Gr
end Go.Proofs.YtddionboojdjlaaGreat
end
