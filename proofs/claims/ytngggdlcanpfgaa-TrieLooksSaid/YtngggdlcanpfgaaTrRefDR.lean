/- What the reference of the trie computes: Common, with, Nodes. -/
import Derived.Test.YtngggdlcanpfgaaTrRefCR
import Derived.Test.YtngggdlcanpfgaaTrSPR
namespace Go.Proofs.Ytngggdlcanpfgaa
open Go Go.RowKit Sy Ti
set_option maxRecDepth 100000
set_option maxHeartbeats 4000000

def SRCommon : LSpec where
  X := Bs × Bs
  k := 0
  pre x := x.1.size ≤ 1000000 ∧ x.2.size ≤ 1000000
  args x _ := [.str x.1, .str x.2]
  objs _ _ := []
  out x _ R := R (.str (comS x.1 x.2)) []
theorem SRCommon_nt : SRCommon.Nt := ⟨fun _ _ => rfl, fun _ _ => rfl, fun _ _ _ h => h⟩
theorem SRCommon_ok : SRCommon.Ok Try.prog 55 := by
  refine LSpec.of_body noGo mixed conOf_nil Try.func55 rfl (by kernel_rfl) fun ⟨a, b⟩ R ⟨ha0, hb0⟩ hR => ?_
  have ha : a.size ≤ 1000000 := ha0
  have hb : b.size ≤ 1000000 := hb0
  clear ha0 hb0
  have hQ : R (.str (comS a b)) [] := hR
  have hfin : ∀ i : Nat, i ≤ a.size → i ≤ b.size → (∀ q, q < i → byteAt a q = byteAt b q) → (i = a.size ∨ i = b.size ∨ byteAt a i ≠ byteAt b i) → R (.str (substr a 0 i)) [] := fun i h1 h2 h3 h4 => by
    have hc := com_at h1 h2 h3 h4
    unfold comS at hQ
    rw [hc] at hQ
    exact hQ
  show bodyP _ _ _ _ _ [.str a, .str b] (locS []) _
  (conv => whnf)
  refine .inl ⟨Nat, fun i => [(0, .str a), (1, .str b), (5, i64 i)], fun _ => [], fun i => a.size - i, fun i => i ≤ a.size ∧ i ≤ b.size ∧ ∀ q, q < i → byteAt a q = byteAt b q, 0, ⟨0, [], ⟨Nat.zero_le _, Nat.zero_le _, fun q hq => absurd hq (Nat.not_lt_zero q)⟩, ?_⟩, fun _ => rfl, fun i ⟨hi0, hi1, hq⟩ => ?_⟩
  · (repeat' (first | exact True.intro | rfl | assumption | exact tn_ok rfl | exact tr_ok rfl | exact fun _ => rfl | (refine And.intro ?_ ?_) | (intro _ _; rfl) | ((conv => whnf); (first | exact True.intro | (refine And.intro ?_ ?_)))))
  have hia : i ≤ a.size := hi0
  have hib : i ≤ b.size := hi1
  clear hi0 hi1
  have ei : ((i : Nat) : Int).toNat = i := Int.toNat_natCast i
  have hend : (i = a.size ∨ i = b.size ∨ byteAt a i ≠ byteAt b i) → R (.str (substr a 0 i)) [] := hfin i hia hib hq
  (conv => whnf)
  constructor
  · intro h
    have h : i < a.size := by have : (i : Int) < (a.size : Int) := of_decide_eq_true h; omega
    (conv => whnf)
    constructor
    · intro h2
      have h2 : i < b.size := by have : (i : Int) < (b.size : Int) := of_decide_eq_true h2; omega
      (conv => whnf)
      refine ⟨by show (0 : Int) ≤ (i : Int); omega, by show (i : Int).toNat < a.size; omega, ?_⟩
      (conv => whnf)
      refine ⟨by show (0 : Int) ≤ (i : Int); omega, by show (i : Int).toNat < b.size; omega, ?_⟩
      (conv => whnf)
      constructor
      · intro g
        have g : byteAt a (i : Int).toNat = byteAt b (i : Int).toNat := by simpa using g
        rw [ei] at g
        (conv => whnf)
        refine ⟨i + 1, [], by show a.size - (i + 1) < a.size - i; omega, ⟨by show i + 1 ≤ a.size; omega, by show i + 1 ≤ b.size; omega, fun q hq2 => ?_⟩, ?_⟩
        · have hq2 : q < i + 1 := hq2
          rcases Nat.lt_or_ge q i with g2 | g2
          · exact hq q g2
          · obtain rfl : q = i := by omega
            exact g
        (repeat' (first | exact True.intro | rfl | assumption | exact tn_ok rfl | exact tr_ok rfl | exact fun _ => rfl | (refine And.intro ?_ ?_) | (intro _ _; rfl) | ((conv => whnf); (first | exact True.intro | (refine And.intro ?_ ?_)))))
        all_goals exact (wrap_inc h (by omega)).symm
      · intro g
        have g : ¬ byteAt a (i : Int).toNat = byteAt b (i : Int).toNat := by simpa using g
        rw [ei] at g
        have hF := hend (.inr (.inr g))
        (conv => whnf)
        refine ⟨Int.natCast_nonneg _, ?_⟩
        (conv => whnf)
        rw [ei]
        refine ⟨Nat.zero_le _, hia, ?_⟩
        (conv => whnf)
        refine ⟨[], _, _, hF, ?_⟩
        (repeat' (first | exact True.intro | rfl | assumption | exact tn_ok rfl | exact tr_ok rfl | exact fun _ => rfl | (refine And.intro ?_ ?_) | (intro _ _; rfl) | ((conv => whnf); (first | exact True.intro | (refine And.intro ?_ ?_)))))
    · intro h2
      have h2 : i = b.size := by have : ¬ (i : Int) < (b.size : Int) := of_decide_eq_false h2; omega
      have hF := hend (.inr (.inl h2))
      (conv => whnf)
      refine ⟨Int.natCast_nonneg _, ?_⟩
      (conv => whnf)
      rw [ei]
      refine ⟨Nat.zero_le _, hia, ?_⟩
      (conv => whnf)
      refine ⟨[], _, _, hF, ?_⟩
      (repeat' (first | exact True.intro | rfl | assumption | exact tn_ok rfl | exact tr_ok rfl | exact fun _ => rfl | (refine And.intro ?_ ?_) | (intro _ _; rfl) | ((conv => whnf); (first | exact True.intro | (refine And.intro ?_ ?_)))))
  · intro h
    have h : i = a.size := by have : ¬ (i : Int) < (a.size : Int) := of_decide_eq_false h; omega
    have hF := hend (.inl h)
    (conv => whnf)
    refine ⟨Int.natCast_nonneg _, ?_⟩
    (conv => whnf)
    rw [ei]
    refine ⟨Nat.zero_le _, hia, ?_⟩
    (conv => whnf)
    refine ⟨[], _, _, hF, ?_⟩
    (repeat' (first | exact True.intro | rfl | assumption | exact tn_ok rfl | exact tr_ok rfl | exact fun _ => rfl | (refine And.intro ?_ ?_) | (intro _ _; rfl) | ((conv => whnf); (first | exact True.intro | (refine And.intro ?_ ?_)))))
def stR (L : List Bs) : SObj := .row L.length (fun q => [.str (L.getD q eS)]) 9 1
def withL (L : List Bs) (s : Bs) : List Bs := if L.any (fun x => decide (x = s)) then L else L ++ [s]
def SRWith : LSpec where
  X := List Bs × Bs
  k := 1
  pre x := x.1.length ≤ 10000000
  args x θ := [.sl (θ 0) 0 1 x.1.length false, .str x.2]
  objs x _ := [stR x.1]
  out x θ R := R (.sl (θ 1) 0 1 (withL x.1 x.2).length false) [none, some (stR (withL x.1 x.2))]
theorem SRWith_nt : SRWith.Nt := ⟨fun _ _ => rfl, fun _ _ => rfl, fun _ _ _ h => h⟩
theorem SRWith_ok : SRWith.Ok Try.prog 54 := by
  refine LSpec.of_body noGo mixed conOf_nil Try.func54 rfl (by kernel_rfl) fun ⟨w, s⟩ R hlen hR => ?_
  have hlen : w.length ≤ 10000000 := hlen
  have hR : R (.sl 1 0 1 (withL w s).length false) [none, some (stR (withL w s))] := hR
  show bodyP _ _ _ _ _ [.sl 0 0 1 w.length false, .str s] ⟨1, Tr.ofL 0 [stR w] .leaf⟩ _
  (conv => whnf)
  refine .inl ⟨Nat, fun i => [(0, .sl 0 0 1 w.length false), (1, .str s), (5, i64 i)], fun _ => [some (stR w)], fun i => w.length - i, fun i => i ≤ w.length ∧ ∀ j, j < i → w.getD j eS ≠ s, 1, ⟨0, [], ⟨Nat.zero_le _, fun j hj => absurd hj (Nat.not_lt_zero j)⟩, ?_⟩, fun _ => rfl, fun i hi0 => ?_⟩
  · (repeat' (first | exact True.intro | rfl | assumption | exact tn_ok rfl | exact tr_ok rfl | exact fun _ => rfl | (refine And.intro ?_ ?_) | (intro _ _; rfl) | ((conv => whnf); (first | exact True.intro | (refine And.intro ?_ ?_)))))
  have hi : i ≤ w.length := hi0.1
  have hno : ∀ j, j < i → w.getD j eS ≠ s := hi0.2
  clear hi0
  have ei := zero_add_toNat i
  (conv => whnf)
  constructor
  · intro h
    have h : i < w.length := by have : (i : Int) < (w.length : Int) := of_decide_eq_true h; omega
    have hiN : 0 + ((i : Nat) : Int).toNat < w.length := by rw [ei]; exact h
    (conv => whnf)
    refine ⟨by show (0 : Int) ≤ (i : Int); omega, by show (i : Int) < (w.length : Int); omega, ?_⟩
    (conv => whnf)
    refine ⟨hiN, ?_⟩
    rw [ei]
    (conv => whnf)
    constructor
    · intro h2
      have h2 : w.getD i eS = s := of_decide_eq_true h2
      have e2 : withL w s = w := by
        unfold withL
        rw [if_pos]
        refine List.any_eq_true.2 ⟨w.getD i eS, ?_, by rw [h2]; exact decide_eq_true rfl⟩
        rw [List.getD_eq_getElem?_getD, List.getElem?_eq_getElem h]
        exact List.getElem_mem h
      rw [e2] at hR
      (conv => whnf)
      refine ⟨[some 0], _, _, hR, ?_⟩
      (repeat' (first | exact True.intro | rfl | assumption | exact tn_ok rfl | exact tr_ok rfl | exact fun _ => rfl | (refine And.intro ?_ ?_) | (intro _ _; rfl) | ((conv => whnf); (first | exact True.intro | (refine And.intro ?_ ?_)))))
    · intro h2
      have h2 : ¬ w.getD i eS = s := of_decide_eq_false h2
      (conv => whnf)
      refine ⟨i + 1, [], by show w.length - (i + 1) < w.length - i; omega, ⟨by show i + 1 ≤ w.length; omega, fun j hj => ?_⟩, ?_⟩
      · have hj : j < i + 1 := hj
        rcases Nat.lt_or_ge j i with g | g
        · exact hno j g
        · obtain rfl : j = i := by omega
          exact h2
      (repeat' (first | exact True.intro | rfl | assumption | exact tn_ok rfl | exact tr_ok rfl | exact fun _ => rfl | (refine And.intro ?_ ?_) | (intro _ _; rfl) | ((conv => whnf); (first | exact True.intro | (refine And.intro ?_ ?_)))))
      exact (wrap_inc h (by omega)).symm
  · intro h
    have h : i = w.length := by have : ¬ (i : Int) < (w.length : Int) := of_decide_eq_false h; omega
    have e2 : withL w s = w ++ [s] := by
      unfold withL
      rw [if_neg]
      intro g
      obtain ⟨x, hx, e⟩ := List.any_eq_true.1 g
      obtain ⟨j, hj, ej⟩ := List.mem_iff_getElem.1 hx
      refine hno j (by omega) ?_
      rw [List.getD_eq_getElem?_getD, List.getElem?_eq_getElem hj]
      exact ej.trans (of_decide_eq_true e)
    rw [e2] at hR
    (conv => whnf)
    refine ⟨some (fun q => [.str ((w ++ [s]).getD q eS)]), ?_⟩
    (conv => whnf)
    refine ⟨by decide, by show 0 + w.length ≤ w.length; omega, by show (w.length + 1) * (16 + 1) ≤ 1000000000; omega, fun q hq => ?_, ?_⟩
    · refine (push_view (F := fun s : Bs => ([.str s] : List V)) (d := eS) q hq).trans ?_
      by_cases h : q < w.length
      · rw [appF_lt h, appF_lt h]
      · rw [appF_ge (by omega), appF_ge (by omega), show q - w.length = 0 by have hq : q < w.length + 1 := hq; omega]
        rfl
    (conv => whnf)
    refine ⟨[some 2], _, _, hR, ?_⟩
    (repeat' (first | exact True.intro | rfl | assumption | exact tn_ok rfl | exact tr_ok rfl | exact fun _ => rfl | (refine And.intro ?_ ?_) | (intro _ _; rfl) | ((conv => whnf); (first | exact True.intro | (refine And.intro ?_ ?_)))))
    all_goals first | (show (w ++ [s]).length = _; rw [List.length_append]; rfl) | (intro j _; rfl)
end Go.Proofs.Ytngggdlcanpfgaa
