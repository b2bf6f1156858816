/- What the reference of graphs computes: Key, Strings, Sorted, Find, Children, Parents, has. -/
import Derived.Test.YtmgcpfljhcahoaaGrInsR
namespace Go.Proofs.Ytmgcpfljhcahoaa
open Go Sy Tb Gr
set_option maxRecDepth 100000
set_option maxHeartbeats 2000000

def rgV (i : Nat) (N M : Int) (E : List Ed) : V := .agg [i64 N, i64 M, .sl i 0 2 E.length false]
theorem st_push {w : List Bs} {c : Bs} (q : Nat) (hq : q < w.length + 1) : ([.str ((w ++ [c]).getD q eS)] : List V) = appF w.length (fun q => [.str (w.getD (0 + q) eS)]) (fun q => chunk [.str c] 1 (0 + q)) q := by
  refine (push_view (F := fun s : Bs => ([.str s] : List V)) (d := eS) q hq).trans ?_
  by_cases h : q < w.length
  · rw [appF_lt h, appF_lt h]
  · rw [appF_ge (by omega), appF_ge (by omega), show q - w.length = 0 by omega]
    rfl
theorem szL_snoc {w : List Bs} {c : Bs} : (w ++ [c]).length = w.length + 1 := by rw [List.length_append]; rfl
def SRKey : LSpec where
  X := Bs
  k := 0
  pre _ := True
  args x _ := [.str x]
  objs _ _ := []
  out x _ R := R (.sb (validK x)) []
theorem SRKey_nt : SRKey.Nt := ⟨fun _ _ => rfl, by unfold SRKey; (intros; simp only [ren_all] at *; try assumption), by unfold SRKey; (intros; simp only [ren_all] at *; try assumption)⟩
theorem SRKey_ok : SRKey.Ok Try.prog 40 := by
  refine LSpec.of_body noGo mixed conOf_nil Try.func40 rfl (by kernel_rfl) fun k R _ hR => ?_
  have hQ : R (.sb (validK k)) [] := hR
  have e1 : decide (1 ≤ (k.size : Int)) = decide (0 < (k.size : Int)) := decide_eq_decide.2 ⟨fun h => by omega, fun h => by omega⟩
  (conv => whnf)
  constructor
  · intro h1
    have h1 : decide (1 ≤ (k.size : Int)) = true := h1
    rw [e1] at h1
    (conv => whnf)
    refine ⟨[], _, _, hQ, ?_⟩
    (repeat' (first | exact True.intro | rfl | assumption | exact mc_ok rfl | exact mr_ok | exact fun _ => rfl | (refine And.intro ?_ ?_) | (intro _ _; rfl) | ((conv => whnf); (first | exact True.intro | (refine And.intro ?_ ?_)))))
    all_goals (unfold validK; rw [h1]; rfl)
  · intro h1
    have h1 : decide (1 ≤ (k.size : Int)) = false := h1
    rw [e1] at h1
    (conv => whnf)
    refine ⟨[], _, _, hQ, ?_⟩
    (repeat' (first | exact True.intro | rfl | assumption | exact mc_ok rfl | exact mr_ok | exact fun _ => rfl | (refine And.intro ?_ ?_) | (intro _ _; rfl) | ((conv => whnf); (first | exact True.intro | (refine And.intro ?_ ?_)))))
    all_goals (unfold validK; rw [h1]; rfl)
/-- has. -/
def SRHas : LSpec where
  X := List Bs × Bs
  k := 1
  pre x := x.1.length ≤ 1000000
  args x θ := [.sl (θ 0) 0 1 x.1.length false, .str x.2]
  objs x _ := [stR x.1]
  out x _ R := R (.sb (hasB x.1 x.2)) [some (stR x.1)]
theorem SRHas_nt : SRHas.Nt := ⟨fun _ _ => rfl, fun _ _ => rfl, fun _ _ _ h => h⟩
theorem SRHas_ok : SRHas.Ok Try.prog 41 := by
  refine LSpec.of_body noGo mixed conOf_nil Try.func41 rfl (by kernel_rfl) fun ⟨l, s⟩ R hl hR => ?_
  have hl : l.length ≤ 1000000 := hl
  have hQ : R (.sb (hasB l s)) [some (stR l)] := hR
  (conv => whnf)
  refine .inl ⟨Nat, fun i => [(0, .sl 0 0 1 l.length false), (1, .str s), (5, i64 i)], fun _ => [some (stR l)], fun i => l.length - i, fun i => i ≤ l.length ∧ ∀ j, j < i → l.getD j eS ≠ s, 1, ⟨0, [], ⟨Nat.zero_le _, fun j hj => absurd hj (Nat.not_lt_zero j)⟩, ?_⟩, fun _ => rfl, fun i ⟨hi, hb⟩ => ?_⟩
  · (repeat' (first | exact True.intro | rfl | assumption | exact mc_ok rfl | exact mr_ok | exact fun _ => rfl | (refine And.intro ?_ ?_) | (intro _ _; rfl) | ((conv => whnf); (first | exact True.intro | (refine And.intro ?_ ?_)))))
  have hi : i ≤ l.length := hi
  have ei := zero_add_toNat i
  (conv => whnf)
  constructor
  · intro h
    have h : i < l.length := by have : (i : Int) < (l.length : Int) := of_decide_eq_true h; omega
    (conv => whnf)
    refine ⟨by show (0 : Int) ≤ (i : Int); omega, by show (i : Int) < (l.length : Int); omega, ?_⟩
    (conv => whnf)
    refine ⟨by rw [ei]; exact h, ?_⟩
    (conv => whnf)
    constructor
    · intro h2
      have h2 : l.getD (0 + (i : Int).toNat) eS = s := of_decide_eq_true h2
      rw [ei] at h2
      rw [hasB_at h h2] at hQ
      (conv => whnf)
      refine ⟨[], _, _, hQ, ?_⟩
      (repeat' (first | exact True.intro | rfl | assumption | exact mc_ok rfl | exact mr_ok | exact fun _ => rfl | (refine And.intro ?_ ?_) | (intro _ _; rfl) | ((conv => whnf); (first | exact True.intro | (refine And.intro ?_ ?_)))))
    · intro h2
      have h2 : ¬ l.getD (0 + (i : Int).toNat) eS = s := of_decide_eq_false h2
      rw [ei] at h2
      (conv => whnf)
      refine ⟨i + 1, [], by show l.length - (i + 1) < l.length - i; omega, ⟨by show i + 1 ≤ l.length; omega, fun j hj => ?_⟩, ?_⟩
      · rcases Nat.lt_or_ge j i with q | q
        · exact hb j q
        · obtain rfl : j = i := by have : j < i + 1 := hj; omega
          exact h2
      (repeat' (first | exact True.intro | rfl | assumption | exact mc_ok rfl | exact mr_ok | exact fun _ => rfl | (refine And.intro ?_ ?_) | (intro _ _; rfl) | ((conv => whnf); (first | exact True.intro | (refine And.intro ?_ ?_)))))
      exact (wrap_inc h (by omega)).symm
  · intro h
    have h : ¬ i < l.length := by have : ¬ (i : Int) < (l.length : Int) := of_decide_eq_false h; omega
    obtain rfl : i = l.length := by omega
    rw [hasB_take hb] at hQ
    (conv => whnf)
    refine ⟨[], _, _, hQ, ?_⟩
    (repeat' (first | exact True.intro | rfl | assumption | exact mc_ok rfl | exact mr_ok | exact fun _ => rfl | (refine And.intro ?_ ?_) | (intro _ _; rfl) | ((conv => whnf); (first | exact True.intro | (refine And.intro ?_ ?_)))))
/-- Sorted. -/
def SRSorted : LSpec where
  X := List Bs
  k := 1
  pre x := x.length ≤ 30000
  args x θ := [.sl (θ 0) 0 1 x.length false]
  objs x _ := [stR x]
  out x θ R := R (.sl (θ 1) 0 1 (sortK x).length false) [some (stR x), some (stR (sortK x))]
theorem SRSorted_nt : SRSorted.Nt := ⟨fun _ _ => rfl, fun _ _ => rfl, fun _ _ _ h => h⟩
theorem SRSorted_ok : SRSorted.Ok Try.prog 57 := by
  refine LSpec.of_bodyC [8] noGo mixed conOf_nil Try.func57 rfl (by kernel_rfl) fun (l : List Bs) R hl hR => ?_
  have hl : List.length l ≤ 30000 := hl
  have hQ : R (.sl 1 0 1 (sortK l).length false) [some (stR l), some (stR (sortK l))] := hR
  (conv => whnf)
  refine .inl ⟨Nat × List Bs, fun x => [(0, .sl 0 0 1 (List.length l) false), (3, .sl 1 0 1 x.2.length false), (4, i64 x.1)], fun x => [some (stR l), some (stR x.2)], fun x => List.length l - x.1, fun x => x.1 ≤ List.length l ∧ x.2 = isrt (List.take x.1 l), 2, ⟨(0, []), [none], ⟨Nat.zero_le _, rfl⟩, ?_⟩, fun _ => rfl, fun ⟨i, o⟩ ⟨hi, ho⟩ => ?_⟩
  · (repeat' (first | exact True.intro | rfl | assumption | exact mc_ok rfl | exact mr_ok | exact fun _ => rfl | (refine And.intro ?_ ?_) | (intro _ _; rfl) | ((conv => whnf); (first | exact True.intro | (refine And.intro ?_ ?_)))))
  have hi : i ≤ List.length l := hi
  have ho : o = isrt (List.take i l) := ho
  have ei := zero_add_toNat i
  (conv => whnf)
  constructor
  · intro h
    have h : i < List.length l := by have : (i : Int) < (List.length l : Int) := of_decide_eq_true h; omega
    have hol : o.length = i := by rw [ho, isrt_len, List.length_take]; omega
    obtain ⟨c, hc⟩ : ∃ c, c = List.getD l i eS := ⟨_, rfl⟩
    have hins : insK c o = isrt (List.take (i + 1) l) := by rw [isrt_take h, ho, hc]; rfl
    obtain ⟨k, hk⟩ : ∃ k, k = kG (fun a b => strLt a b) c o := ⟨_, rfl⟩
    have hkl : k ≤ o.length := by rw [hk]; exact kG_le
    have hcc : List.getD l (0 + (i : Int).toNat) eS = c := by rw [ei, hc]
    (conv => whnf)
    refine ⟨Unit, fun _ => [(0, .sl 0 0 1 (List.length l) false), (3, .sl 1 0 1 o.length false), (4, i64 i), (5, i64 k)], fun _ => [some (stR l), some (stR o)], fun _ => True, 2, fun _ => rfl, ?_, fun _ _ => ?_⟩
    · (conv => whnf)
      refine .inl ⟨Nat, fun a => [(0, .sl 0 0 1 (List.length l) false), (3, .sl 1 0 1 o.length false), (4, i64 i), (5, i64 a)], fun _ => [some (stR l), some (stR o)], fun a => o.length - a, fun a => a ≤ k, 2, ⟨0, [some 1], Nat.zero_le _, ?_⟩, fun _ => rfl, fun a ha => ?_⟩
      · (repeat' (first | exact True.intro | rfl | assumption | exact mc_ok rfl | exact mr_ok | exact fun _ => rfl | (refine And.intro ?_ ?_) | (intro _ _; rfl) | ((conv => whnf); (first | exact True.intro | (refine And.intro ?_ ?_)))))
      have ha : a ≤ k := ha
      have ea := zero_add_toNat a
      (conv => whnf)
      constructor
      · intro h1
        have h1 : a < o.length := by have : (a : Int) < (o.length : Int) := of_decide_eq_true h1; omega
        (conv => whnf)
        refine ⟨by show (0 : Int) ≤ (a : Int); omega, by show (a : Int) < (o.length : Int); omega, ?_⟩
        (conv => whnf)
        refine ⟨by rw [ea]; exact h1, ?_⟩
        (conv => whnf)
        refine ⟨by show (0 : Int) ≤ (i : Int); omega, by show (i : Int) < (List.length l : Int); omega, ?_⟩
        (conv => whnf)
        refine ⟨by rw [ei]; exact h, ?_⟩
        (conv => whnf)
        (repeat (first | refine And.intro rfl ?_ | fail))
        constructor
        · intro h2
          have h2 : strLt (o.getD (0 + (a : Int).toNat) eS) (List.getD l (0 + (i : Int).toNat) eS) = true := h2
          rw [ea, hcc] at h2
          (conv => whnf)
          refine ⟨a + 1, [some 1], by show o.length - (a + 1) < o.length - a; omega, by show a + 1 ≤ k; rw [hk]; exact kG_go (by omega) h1 h2, ?_⟩
          (repeat' (first | exact True.intro | rfl | assumption | exact mc_ok rfl | exact mr_ok | exact fun _ => rfl | (refine And.intro ?_ ?_) | (intro _ _; rfl) | ((conv => whnf); (first | exact True.intro | (refine And.intro ?_ ?_)))))
          exact (wrap_inc h1 (by omega)).symm
        · intro h2
          have h2 : strLt (o.getD (0 + (a : Int).toNat) eS) (List.getD l (0 + (i : Int).toNat) eS) = false := h2
          rw [ea, hcc] at h2
          have e : a = k := by rw [hk]; exact kG_no (d := eS) (by omega) (by rw [h2]; exact Bool.false_ne_true)
          (conv => whnf)
          refine ⟨(), [some 1], trivial, ?_⟩
          (repeat' (first | exact True.intro | rfl | assumption | exact mc_ok rfl | exact mr_ok | exact fun _ => rfl | (refine And.intro ?_ ?_) | (intro _ _; rfl) | ((conv => whnf); (first | exact True.intro | (refine And.intro ?_ ?_)))))
          all_goals (show ((k : Nat) : Int) = (a : Int); rw [e])
      · intro h1
        have h1 : ¬ a < o.length := by have : ¬ (a : Int) < (o.length : Int) := of_decide_eq_false h1; omega
        have e : a = k := by omega
        (conv => whnf)
        (repeat' (first | (refine And.intro (fun hh => ?_) (fun hh => ?_) <;> first | (exfalso; simp [*] at hh; done) | (exfalso; simp_all; done) | (conv => whnf)) | fail))
        refine ⟨(), [some 1], trivial, ?_⟩
        (repeat' (first | exact True.intro | rfl | assumption | exact mc_ok rfl | exact mr_ok | exact fun _ => rfl | (refine And.intro ?_ ?_) | (intro _ _; rfl) | ((conv => whnf); (first | exact True.intro | (refine And.intro ?_ ?_)))))
        all_goals (show ((k : Nat) : Int) = (a : Int); rw [e])
    · have hvw := insG_view (lt := fun a b => strLt a b) (F := fun s : Bs => ([.str s] : List V)) (d := eS) (c := c) (w := o) (k := k) hk.symm
      have hln : (insK c o).length = o.length + 1 := len_insG
      (conv => whnf)
      refine ⟨by show (0 : Int) ≤ (i : Int); omega, by show (i : Int) < (l.length : Int); omega, ?_⟩
      (conv => whnf)
      refine ⟨by rw [ei]; exact h, ?_⟩
      (conv => whnf)
      refine ⟨by show (0 : Int) ≤ (k : Int); omega, ?_⟩
      (conv => whnf)
      rw [Int.toNat_natCast k]
      by_cases hkw : k < o.length ∨ k = 0
      · refine .inl ⟨hkl, Nat.le_refl _, hkw, fun g => Bool.noConfusion g, ?_⟩
        (conv => whnf)
        refine ⟨some (fun q => appF 1 (fun _ => [.str c]) (fun q => [.str (o.getD (k + q) eS)]) q), ?_⟩
        (conv => whnf)
        refine ⟨by omega, by show 0 + 1 ≤ 1; omega, by show (1 + (o.length - k)) * (16 + 1) ≤ 1000000000; omega, fun q _ => ?_, ?_⟩
        · show appF 1 (fun _ => [V.str c]) (fun q => [V.str (o.getD (k + q) eS)]) q = appF 1 (fun q => chunk [.str (l.getD (0 + (i : Int).toNat) eS)] 1 (0 + q)) (fun q => [V.str (o.getD (0 + k + q) eS)]) q
          rw [hcc]
          rcases Nat.lt_or_ge q 1 with h0 | h0
          · obtain rfl : q = 0 := by omega
            rfl
          · rw [appF_ge h0, appF_ge h0, Nat.zero_add]
        (conv => whnf)
        refine ⟨by show (0 : Int) ≤ (k : Int); omega, ?_⟩
        (conv => whnf)
        rw [Int.toNat_natCast k]
        refine .inl ⟨Nat.zero_le k, hkl, .inr rfl, fun g => Bool.noConfusion g, ?_⟩
        (conv => whnf)
        refine ⟨some (fun q => [.str (o.getD q eS)]), ?_⟩
        (conv => whnf)
        refine ⟨by show 0 + 0 + (k - 0) ≤ o.length; omega, by show (k - 0) * (16 + 1) ≤ 1000000000; omega, fun q _ => ?_, ?_⟩
        · show ([.str (o.getD q eS)] : List V) = [.str (o.getD (0 + 0 + q) eS)]
          rw [show 0 + 0 + q = q by omega]
        (conv => whnf)
        rw [Nat.sub_zero]
        refine ⟨some (fun q => [.str ((insK c o).getD q eS)]), ?_⟩
        (conv => whnf)
        refine ⟨by omega, by show 0 + k ≤ k; omega, by show (k + (1 + (o.length - k))) * (16 + 1) ≤ 1000000000; omega, fun q _ => hvw q, ?_⟩
        (conv => whnf)
        refine ⟨(i + 1, insK c o), [some 5], by show l.length - (i + 1) < l.length - i; omega, ⟨by show i + 1 ≤ l.length; omega, hins⟩, ?_⟩
        (repeat' (first | exact True.intro | rfl | assumption | exact mc_ok rfl | exact mr_ok | exact fun _ => rfl | (refine And.intro ?_ ?_) | (intro _ _; rfl) | ((conv => whnf); (first | exact True.intro | (refine And.intro ?_ ?_)))))
        all_goals first | exact (wrap_inc h (by omega)).symm | (show (insK c o).length = k + (1 + (o.length - k)); omega)
      · refine .inr ⟨by omega, by omega, rfl, rfl, rfl, ?_⟩
        (conv => whnf)
        refine ⟨some (fun _ => [.str c]), ?_⟩
        (conv => whnf)
        refine ⟨by omega, by show (1 + 0) * (16 + 1) ≤ 1000000000; omega, fun q hq => ?_, ?_⟩
        · show ([.str c] : List V) = appF 1 (fun q => chunk [.str (l.getD (0 + (i : Int).toNat) eS)] 1 (0 + q)) _ q
          rw [hcc]
          obtain rfl : q = 0 := by omega
          rfl
        (conv => whnf)
        refine ⟨by show (0 : Int) ≤ (k : Int); omega, ?_⟩
        (conv => whnf)
        rw [Int.toNat_natCast k]
        refine .inl ⟨Nat.zero_le k, hkl, .inr rfl, fun g => Bool.noConfusion g, ?_⟩
        (conv => whnf)
        refine ⟨some (fun q => [.str (o.getD q eS)]), ?_⟩
        (conv => whnf)
        refine ⟨by show 0 + 0 + (k - 0) ≤ o.length; omega, by show (k - 0) * (16 + 1) ≤ 1000000000; omega, fun q _ => ?_, ?_⟩
        · show ([.str (o.getD q eS)] : List V) = [.str (o.getD (0 + 0 + q) eS)]
          rw [show 0 + 0 + q = q by omega]
        (conv => whnf)
        rw [Nat.sub_zero]
        refine ⟨some (fun q => [.str ((insK c o).getD q eS)]), ?_⟩
        (conv => whnf)
        refine ⟨by omega, by show 0 + k ≤ k; omega, by show (k + (1 + 0)) * (16 + 1) ≤ 1000000000; omega, fun q hq => ?_, ?_⟩
        · refine (hvw q).trans ?_
          rcases Nat.lt_or_ge q k with h0 | h0
          · rw [appF_lt h0, appF_lt h0]
          · rw [appF_ge h0, appF_ge h0, appF_lt (by omega)]
        (conv => whnf)
        refine ⟨(i + 1, insK c o), [some 5], by show l.length - (i + 1) < l.length - i; omega, ⟨by show i + 1 ≤ l.length; omega, hins⟩, ?_⟩
        (repeat' (first | exact True.intro | rfl | assumption | exact mc_ok rfl | exact mr_ok | exact fun _ => rfl | (refine And.intro ?_ ?_) | (intro _ _; rfl) | ((conv => whnf); (first | exact True.intro | (refine And.intro ?_ ?_)))))
        all_goals first | exact (wrap_inc h (by omega)).symm | (show (insK c o).length = k + (1 + 0); omega)
  · intro h
    have h : ¬ i < List.length l := by have : ¬ (i : Int) < (List.length l : Int) := of_decide_eq_false h; omega
    have e : o = sortK l := by rw [ho, List.take_of_length_le (by omega), isrt_eq]
    subst e
    (conv => whnf)
    refine ⟨[some 1], _, _, hQ, ?_⟩
    (repeat' (first | exact True.intro | rfl | assumption | exact mc_ok rfl | exact mr_ok | exact fun _ => rfl | (refine And.intro ?_ ?_) | (intro _ _; rfl) | ((conv => whnf); (first | exact True.intro | (refine And.intro ?_ ?_)))))
end Go.Proofs.Ytmgcpfljhcahoaa
