/- What the law's own functions compute: Strings, strings, sorted, checks, tombs, below, above; whatever their lists are. -/
import Derived.Test.YtddionboojdjlaaCaMadeR
import Derived.Test.YtddionboojdjlaaCaSortR
import Derived.Test.YtddionboojdjlaaK11CascadeLong
namespace Go.Proofs.Ytddionboojdjlaa
open Go Go.RowKit Sy Tb Gr
set_option maxRecDepth 100000
set_option maxHeartbeats 8000000

theorem str_view {l L : List Bs} (h : L <+: l) (q : Nat) (hq : q < L.length) : ([.str (L.getD q eS)] : List V) = [.str (l.getD (0 + q) eS)] := by rw [Nat.zero_add, (pre_get h hq).1]

def SStrN : LSpec where
  X := List Bs × (List Bs)
  k := 2
  pre x := x.1 <+: x.2 ∧ x.1.length ≤ 1000000
  args x θ := [.sl (θ 0) 0 1 x.1.length false, .sl (θ 1) 0 1 x.1.length false]
  objs x _ := [stR x.1, stR x.2]
  out x _ R := R (.sb true) [some (stR x.1), some (stR x.2)]
theorem SStrN_nt : SStrN.Nt := ⟨fun _ _ => rfl, fun _ _ => rfl, fun _ _ _ h => h⟩
theorem SStrN_ok : SStrN.Ok Try.prog 38 := by
  refine LSpec.of_body noGo mixed conOf_nil Try.func38 rfl (by kernel_rfl) fun ⟨L, W⟩ R ⟨hw, hl⟩ hR => ?_
  have hw : L <+: W := hw
  have hl : L.length ≤ 1000000 := hl
  have hQ : R (.sb true) [some (stR L), some (stR W)] := hR

  (conv => whnf)
  refine ⟨fun hh => absurd (show (!decide ((L.length : Int) = (L.length : Int))) = true from hh) (by simp), fun _ => ?_⟩
  (conv => whnf)
  refine .inl ⟨Nat, fun i => [(0, .sl 0 0 1 L.length false), (1, .sl 1 0 1 L.length false), (5, i64 i)], fun _ => [some (stR L), some (stR W)], fun i => L.length - i, fun i => i ≤ L.length, 2, ⟨0, [], Nat.zero_le _, ?_⟩, fun _ => rfl, fun i hi => ?_⟩
  · (repeat' (first | exact True.intro | rfl | assumption | exact mc_ok rfl | exact mr_ok | exact fun _ => rfl | exact mt_keep _ _ | exact ms_ok | exact c_keep _ _ _ | (refine And.intro ?_ ?_) | (intro _ _; rfl) | ((conv => whnf); (first | exact True.intro | (refine And.intro ?_ ?_)))))
  have hi : i ≤ L.length := hi
  have ei := zero_add_toNat i
  (conv => whnf)
  constructor
  · intro h
    have h : i < L.length := by have : (i : Int) < (L.length : Int) := of_decide_eq_true h; omega
    (conv => whnf)
    refine ⟨by show (0 : Int) ≤ (i : Int); omega, by show (i : Int) < (L.length : Int); omega, ?_⟩
    (conv => whnf)
    refine ⟨by rw [ei]; exact h, ?_⟩
    (conv => whnf)
    refine ⟨by show (0 : Int) ≤ (i : Int); omega, by show (i : Int) < (L.length : Int); omega, ?_⟩
    (conv => whnf)
    refine ⟨by rw [ei]; exact (pre_get hw h).2, ?_⟩
    (conv => whnf)
    (repeat (first | refine And.intro rfl ?_ | fail))
    (conv => whnf)
    refine ⟨fun hh => absurd (show (!decide (L.getD (0 + (i : Int).toNat) eS = (W.getD (0 + (i : Int).toNat) eS))) = true from hh) (by rw [(show W.getD (0 + (i : Int).toNat) eS = L.getD i eS by rw [ei]; exact (pre_get hw h).1), ei]; simp), fun _ => ?_⟩
    (conv => whnf)
    refine ⟨i + 1, [], by show L.length - (i + 1) < L.length - i; omega, by show i + 1 ≤ L.length; omega, ?_⟩
    (repeat' (first | exact True.intro | rfl | assumption | exact mc_ok rfl | exact mr_ok | exact fun _ => rfl | exact mt_keep _ _ | exact ms_ok | exact c_keep _ _ _ | (refine And.intro ?_ ?_) | (intro _ _; rfl) | ((conv => whnf); (first | exact True.intro | (refine And.intro ?_ ?_)))))
    exact (wrap_inc h (by omega)).symm
  · intro h
    (conv => whnf)
    refine ⟨[], _, _, hQ, ?_⟩
    (repeat' (first | exact True.intro | rfl | assumption | exact mc_ok rfl | exact mr_ok | exact fun _ => rfl | exact mt_keep _ _ | exact ms_ok | exact c_keep _ _ _ | (refine And.intro ?_ ?_) | (intro _ _; rfl) | ((conv => whnf); (first | exact True.intro | (refine And.intro ?_ ?_)))))

def SStr0 : LSpec where
  X := List Bs × (Unit)
  k := 1
  pre x := x.1 = [] ∧ x.1.length ≤ 1000000
  args x θ := [.sl (θ 0) 0 1 x.1.length false, .nils]
  objs x _ := [stR x.1]
  out x _ R := R (.sb true) [some (stR x.1)]
theorem SStr0_nt : SStr0.Nt := ⟨fun _ _ => rfl, fun _ _ => rfl, fun _ _ _ h => h⟩
theorem SStr0_ok : SStr0.Ok Try.prog 38 := by
  refine LSpec.of_body noGo mixed conOf_nil Try.func38 rfl (by kernel_rfl) fun ⟨L, _⟩ R ⟨hw, hl⟩ hR => ?_
  have hw : L = [] := hw
  have hl : L.length ≤ 1000000 := hl
  have hQ : R (.sb true) [some (stR L)] := hR

  subst hw
  (conv => whnf)
  refine ⟨fun hh => absurd (show (!decide (((([] : List Bs).length : Nat) : Int) = 0)) = true from hh) (by decide), fun _ => ?_⟩
  (conv => whnf)
  refine .inr ?_
  (conv => whnf)
  refine ⟨fun hh => absurd (show decide ((0 : Int) < ((([] : List Bs).length : Nat) : Int)) = true from hh) (by decide), fun _ => ?_⟩
  (conv => whnf)
  refine ⟨[], _, _, hQ, ?_⟩
  (repeat' (first | exact True.intro | rfl | assumption | exact mc_ok rfl | exact mr_ok | exact fun _ => rfl | exact mt_keep _ _ | exact ms_ok | exact c_keep _ _ _ | (refine And.intro ?_ ?_) | (intro _ _; rfl) | ((conv => whnf); (first | exact True.intro | (refine And.intro ?_ ?_)))))

theorem conStrN : ConOk Try.prog (conOf [(38, SStrN.T)]) := conOf_cons (LSpec.call SStrN_nt SStrN_ok) conOf_nil
/-- The list is changed then. -/
def SStringsN : LSpec where
  X := List Bs × (List Bs) × Int
  k := 2
  pre x := x.1 <+: x.2.1 ∧ x.1.length ≤ 1000000
  args x θ := [.sl (θ 0) 0 1 x.1.length false, i64 x.2.2, .sl (θ 1) 0 1 x.1.length false, i64 x.2.2]
  objs x _ := [stR x.1, stR x.2.1]
  out x _ R := R (.sb true) [none, some (stR x.2.1)]
theorem SStringsN_nt : SStringsN.Nt := ⟨fun _ _ => rfl, fun _ _ => rfl, fun _ _ _ h => h⟩
theorem SStringsN_ok : SStringsN.Ok Try.prog 36 := by
  refine LSpec.of_body noGo mixed conStrN Try.func36 rfl (by kernel_rfl) fun ⟨L, W, e⟩ R ⟨hw, hl⟩ hR => ?_
  have hw : L <+: W := hw
  have hl : L.length ≤ 1000000 := hl
  have hQ : R (.sb true) [none, some (stR W)] := hR
  (conv => whnf)
  refine ⟨(L, W), [0, 1], ⟨hw, hl⟩, rfl, by (repeat' (first | exact True.intro | rfl | assumption | exact mc_ok rfl | exact mr_ok | exact fun _ => rfl | exact mt_keep _ _ | exact ms_ok | exact c_keep _ _ _ | (refine And.intro ?_ ?_) | (intro _ _; rfl) | ((conv => whnf); (first | exact True.intro | (refine And.intro ?_ ?_))))), by (repeat' (first | exact True.intro | rfl | assumption | exact mc_ok rfl | exact mr_ok | exact fun _ => rfl | exact mt_keep _ _ | exact ms_ok | exact c_keep _ _ _ | (refine And.intro ?_ ?_) | (intro _ _; rfl) | ((conv => whnf); (first | exact True.intro | (refine And.intro ?_ ?_))))), ?_⟩
  (conv => whnf)
  refine ⟨fun _ => ?_, fun hh => Bool.noConfusion (show true = false from hh)⟩
  (conv => whnf)
  refine .inl ⟨Nat × List Bs, fun x => [(0, .sl 0 0 1 L.length false), (9, .sb true), (10, i64 x.1)], fun x => [some (stP L.length x.2), some (stR W)], fun x => L.length - x.1, fun x => x.1 ≤ L.length ∧ x.2.length = L.length, 2, ⟨(0, L), [], ⟨Nat.zero_le _, rfl⟩, ?_⟩, fun _ => rfl, fun ⟨i, F⟩ ⟨hi, hF⟩ => ?_⟩
  · (repeat' (first | exact True.intro | rfl | assumption | exact mc_ok rfl | exact mr_ok | exact fun _ => rfl | exact mt_keep _ _ | exact ms_ok | exact c_keep _ _ _ | (refine And.intro ?_ ?_) | (intro _ _; rfl) | ((conv => whnf); (first | exact True.intro | (refine And.intro ?_ ?_)))))
    all_goals exact (decide_eq_true rfl).symm
  have hi : i ≤ L.length := hi
  have hF : F.length = L.length := hF
  have ei := zero_add_toNat i
  (conv => whnf)
  constructor
  · intro h
    have h : i < L.length := by have : (i : Int) < (L.length : Int) := of_decide_eq_true h; omega
    obtain ⟨ch, hch⟩ : ∃ ch : Bs, ch = ⟨#[99, 104, 97, 110, 103, 101, 100]⟩ := ⟨_, rfl⟩
    (conv => whnf)
    refine ⟨by show (0 : Int) ≤ (i : Int); omega, by show (i : Int) < (L.length : Int); omega, ?_⟩
    (conv => whnf)
    refine ⟨some (fun q => [.str ((F.set i ch).getD q eS)]), ?_⟩
    (conv => whnf)
    refine ⟨by rw [ei]; exact h, ?_⟩
    (conv => whnf)
    refine ⟨fun q _ => ?_, ?_⟩
    · show ([.str ((F.set i ch).getD q eS)] : List V) = bif Nat.beq q (0 + (i : Int).toNat) then putD 0 [.str (F.getD q eS)] [.str ⟨#[99, 104, 97, 110, 103, 101, 100]⟩] else [.str (F.getD q eS)]
      rw [ei, ← hch]
      exact stS_view F i ch (by omega) q
    (conv => whnf)
    refine ⟨(i + 1, F.set i ch), [], by show L.length - (i + 1) < L.length - i; omega, ⟨by show i + 1 ≤ L.length; omega, by show (F.set i ch).length = L.length; rw [List.length_set]; exact hF⟩, ?_⟩
    (repeat' (first | exact True.intro | rfl | assumption | exact mc_ok rfl | exact mr_ok | exact fun _ => rfl | exact mt_keep _ _ | exact ms_ok | exact c_keep _ _ _ | (refine And.intro ?_ ?_) | (intro _ _; rfl) | ((conv => whnf); (first | exact True.intro | (refine And.intro ?_ ?_)))))
    exact (wrap_inc h (by omega)).symm
  · intro h
    (conv => whnf)
    refine ⟨[], _, _, hQ, ?_⟩
    (repeat' (first | exact True.intro | rfl | assumption | exact mc_ok rfl | exact mr_ok | exact fun _ => rfl | exact mt_keep _ _ | exact ms_ok | exact c_keep _ _ _ | (refine And.intro ?_ ?_) | (intro _ _; rfl) | ((conv => whnf); (first | exact True.intro | (refine And.intro ?_ ?_)))))

theorem conStr0 : ConOk Try.prog (conOf [(38, SStr0.T)]) := conOf_cons (LSpec.call SStr0_nt SStr0_ok) conOf_nil
/-- The list is changed then. -/
def SStrings0 : LSpec where
  X := List Bs × (Unit) × Int
  k := 1
  pre x := x.1 = [] ∧ x.1.length ≤ 1000000
  args x θ := [.sl (θ 0) 0 1 x.1.length false, i64 x.2.2, .nils, i64 x.2.2]
  objs x _ := [stR x.1]
  out _ _ R := R (.sb true) [none]
theorem SStrings0_nt : SStrings0.Nt := ⟨fun _ _ => rfl, fun _ _ => rfl, fun _ _ _ h => h⟩
theorem SStrings0_ok : SStrings0.Ok Try.prog 36 := by
  refine LSpec.of_body noGo mixed conStr0 Try.func36 rfl (by kernel_rfl) fun ⟨L, _, e⟩ R ⟨hw, hl⟩ hR => ?_
  have hw : L = [] := hw
  have hl : L.length ≤ 1000000 := hl
  have hQ : R (.sb true) [none] := hR
  (conv => whnf)
  refine ⟨(L, ()), [0], ⟨hw, hl⟩, rfl, by (repeat' (first | exact True.intro | rfl | assumption | exact mc_ok rfl | exact mr_ok | exact fun _ => rfl | exact mt_keep _ _ | exact ms_ok | exact c_keep _ _ _ | (refine And.intro ?_ ?_) | (intro _ _; rfl) | ((conv => whnf); (first | exact True.intro | (refine And.intro ?_ ?_))))), by (repeat' (first | exact True.intro | rfl | assumption | exact mc_ok rfl | exact mr_ok | exact fun _ => rfl | exact mt_keep _ _ | exact ms_ok | exact c_keep _ _ _ | (refine And.intro ?_ ?_) | (intro _ _; rfl) | ((conv => whnf); (first | exact True.intro | (refine And.intro ?_ ?_))))), ?_⟩
  (conv => whnf)
  refine ⟨fun _ => ?_, fun hh => Bool.noConfusion (show true = false from hh)⟩
  (conv => whnf)
  refine .inl ⟨Nat × List Bs, fun x => [(0, .sl 0 0 1 L.length false), (9, .sb true), (10, i64 x.1)], fun x => [some (stP L.length x.2)], fun x => L.length - x.1, fun x => x.1 ≤ L.length ∧ x.2.length = L.length, 1, ⟨(0, L), [], ⟨Nat.zero_le _, rfl⟩, ?_⟩, fun _ => rfl, fun ⟨i, F⟩ ⟨hi, hF⟩ => ?_⟩
  · (repeat' (first | exact True.intro | rfl | assumption | exact mc_ok rfl | exact mr_ok | exact fun _ => rfl | exact mt_keep _ _ | exact ms_ok | exact c_keep _ _ _ | (refine And.intro ?_ ?_) | (intro _ _; rfl) | ((conv => whnf); (first | exact True.intro | (refine And.intro ?_ ?_)))))
    all_goals exact (decide_eq_true rfl).symm
  have hi : i ≤ L.length := hi
  have hF : F.length = L.length := hF
  have ei := zero_add_toNat i
  (conv => whnf)
  constructor
  · intro h
    have h : i < L.length := by have : (i : Int) < (L.length : Int) := of_decide_eq_true h; omega
    obtain ⟨ch, hch⟩ : ∃ ch : Bs, ch = ⟨#[99, 104, 97, 110, 103, 101, 100]⟩ := ⟨_, rfl⟩
    (conv => whnf)
    refine ⟨by show (0 : Int) ≤ (i : Int); omega, by show (i : Int) < (L.length : Int); omega, ?_⟩
    (conv => whnf)
    refine ⟨some (fun q => [.str ((F.set i ch).getD q eS)]), ?_⟩
    (conv => whnf)
    refine ⟨by rw [ei]; exact h, ?_⟩
    (conv => whnf)
    refine ⟨fun q _ => ?_, ?_⟩
    · show ([.str ((F.set i ch).getD q eS)] : List V) = bif Nat.beq q (0 + (i : Int).toNat) then putD 0 [.str (F.getD q eS)] [.str ⟨#[99, 104, 97, 110, 103, 101, 100]⟩] else [.str (F.getD q eS)]
      rw [ei, ← hch]
      exact stS_view F i ch (by omega) q
    (conv => whnf)
    refine ⟨(i + 1, F.set i ch), [], by show L.length - (i + 1) < L.length - i; omega, ⟨by show i + 1 ≤ L.length; omega, by show (F.set i ch).length = L.length; rw [List.length_set]; exact hF⟩, ?_⟩
    (repeat' (first | exact True.intro | rfl | assumption | exact mc_ok rfl | exact mr_ok | exact fun _ => rfl | exact mt_keep _ _ | exact ms_ok | exact c_keep _ _ _ | (refine And.intro ?_ ?_) | (intro _ _; rfl) | ((conv => whnf); (first | exact True.intro | (refine And.intro ?_ ?_)))))
    exact (wrap_inc h (by omega)).symm
  · intro h
    (conv => whnf)
    refine ⟨[], _, _, hQ, ?_⟩
    (repeat' (first | exact True.intro | rfl | assumption | exact mc_ok rfl | exact mr_ok | exact fun _ => rfl | exact mt_keep _ _ | exact ms_ok | exact c_keep _ _ _ | (refine And.intro ?_ ?_) | (intro _ _; rfl) | ((conv => whnf); (first | exact True.intro | (refine And.intro ?_ ?_)))))

end Go.Proofs.Ytddionboojdjlaa
