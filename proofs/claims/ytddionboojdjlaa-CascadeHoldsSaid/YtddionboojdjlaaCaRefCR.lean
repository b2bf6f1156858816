/- What the reference of cascades computes: Has, free, Check, Tombs, of rows and of memory that is only read; Sorted. -/
import Derived.Test.YtddionboojdjlaaCaChkR
import Derived.Test.YtddionboojdjlaaK13CascadeHolds
import Derived.Test.YtddionboojdjlaaGrRef3R
import Derived.Test.YtddionboojdjlaaSyZR
namespace Go.Proofs.Ytddionboojdjlaa
open Go Sy Tb Gr
set_option maxRecDepth 100000
set_option maxHeartbeats 4000000

theorem orC {f : FuncId} {T1 T2 : List V → St → (V → St → Prop) → Prop} (h1 : ∀ args s K, T1 args s K → CallT Try.prog f args s K) (h2 : ∀ args s K, T2 args s K → CallT Try.prog f args s K) : ∀ args s K, (T1 args s K ∨ T2 args s K) → CallT Try.prog f args s K := fun a s K h => by
  rcases h with h | h
  · exact h1 a s K h
  · exact h2 a s K h
def fzO (Z : Nat → Option Obj) : SObj := .fz Z
/-- A list of strings in memory that is only read. -/
def ZS (Z : Nat → Option Obj) (p : Option (Nat × Nat)) (l : List Bs) : Prop := FzRow Z p 1 (fun j => [.str (l.getD j eS)]) l.length
theorem ZS.at_ {Z : Nat → Option Obj} {p : Option (Nat × Nat)} {l : List Bs} (h : ZS Z p l) {k : Nat} (hk : k < l.length) : ∃ b off, p = some (b, off) ∧ FzAt Z b (off + k * 1) [.str (l.getD k eS)] := FzRow.at_ h hk
theorem ZS.take {Z : Nat → Option Obj} {p : Option (Nat × Nat)} {l : List Bs} (h : ZS Z p l) (i : Nat) : ZS Z p (l.take i) := by
  have h1 := FzRow.len h (show (l.take i).length ≤ l.length by rw [List.length_take]; omega)
  refine ⟨fun j hj => ⟨rfl, rfl⟩, ?_⟩
  rcases h1.2 with h2 | ⟨b, off, hp, h2⟩
  · exact .inl h2
  · refine .inr ⟨b, off, hp, ?_⟩
    rwa [rowL_congr (g := fun j => [V.str (l.getD j eS)])]
    intro q hq
    rw [List.length_take] at hq
    rw [List.getD_eq_getElem?_getD, List.getElem?_take_of_lt (by omega), ← List.getD_eq_getElem?_getD]
theorem pre_get {L l : List Bs} (h : L <+: l) {i : Nat} (hi : i < L.length) : l.getD i eS = L.getD i eS ∧ i < l.length := by
  obtain ⟨t, rfl⟩ := h
  rw [List.getD_eq_getElem?_getD, List.getD_eq_getElem?_getD, List.getElem?_append_left hi, List.length_append]
  exact ⟨rfl, by omega⟩
theorem pre_take {L l : List Bs} (h : L <+: l) (i : Nat) : L.take i <+: l := (List.take_prefix i L).trans h

def SHasN : LSpec where
  X := (List Bs × List Bs) × Bs × Bool
  k := 1
  pre x := x.1.2 <+: x.1.1 ∧ x.1.2.length ≤ 1000000 ∧ hasB x.1.2 x.2.1 = x.2.2
  args x θ := [.sl (θ 0) 0 1 x.1.2.length false, .str x.2.1]
  objs x _ := [stR x.1.1]
  out x _ R := R (.sb x.2.2) [some (stR x.1.1)]
theorem SHasN_nt : SHasN.Nt := ⟨fun _ _ => rfl, fun _ _ => rfl, fun _ _ _ h => h⟩
theorem SHasN_ok : SHasN.Ok Try.prog 30 := by
  refine LSpec.of_body noGo mixed conOf_nil Try.func30 rfl (by kernel_rfl) fun ⟨⟨l, L⟩, s, res⟩ R ⟨hpr, hl, hres⟩ hR => ?_
  have hpr : L <+: l := hpr
  have hl : L.length ≤ 1000000 := hl
  have hres : hasB L s = res := hres
  have hQ : R (.sb res) [some (stR l)] := hR
  (conv => whnf)
  refine .inl ⟨Nat, fun i => [(0, .sl 0 0 1 L.length false), (1, .str s), (5, i64 i)], fun _ => [some (stR l)], fun i => L.length - i, fun i => i ≤ L.length ∧ ∀ j, j < i → L.getD j eS ≠ s, 1, ⟨0, [], ⟨Nat.zero_le _, fun j hj => absurd hj (Nat.not_lt_zero j)⟩, ?_⟩, fun _ => rfl, fun i ⟨hi, hb⟩ => ?_⟩
  · (repeat' (first | exact True.intro | rfl | assumption | exact mc_ok rfl | exact mr_ok | exact fun _ => rfl | exact mt_keep _ _ | exact ms_ok | (refine And.intro ?_ ?_) | (intro _ _; rfl) | ((conv => whnf); (first | exact True.intro | (refine And.intro ?_ ?_)))))
  have hi : i ≤ L.length := hi
  have ei := zero_add_toNat i
  (conv => whnf)
  constructor
  · intro h
    have h : i < L.length := by have : (i : Int) < (L.length : Int) := of_decide_eq_true h; omega
    (conv => whnf)
    refine ⟨by show (0 : Int) ≤ (i : Int); omega, by show (i : Int) < (L.length : Int); omega, ?_⟩
    (conv => whnf)
    refine ⟨by rw [ei]; exact (pre_get hpr h).2, ?_⟩
    (conv => whnf)
    constructor
    · intro h2
      have h2 : (l.getD (0 + (i : Int).toNat) eS) = s := of_decide_eq_true h2
      rw [(show l.getD (0 + (i : Int).toNat) eS = L.getD i eS by rw [ei]; exact (pre_get hpr h).1)] at h2
      rw [← hres, hasB_at h h2] at hQ
      (conv => whnf)
      refine ⟨[], _, _, hQ, ?_⟩
      (repeat' (first | exact True.intro | rfl | assumption | exact mc_ok rfl | exact mr_ok | exact fun _ => rfl | exact mt_keep _ _ | exact ms_ok | (refine And.intro ?_ ?_) | (intro _ _; rfl) | ((conv => whnf); (first | exact True.intro | (refine And.intro ?_ ?_)))))
    · intro h2
      have h2 : ¬ (l.getD (0 + (i : Int).toNat) eS) = s := of_decide_eq_false h2
      rw [(show l.getD (0 + (i : Int).toNat) eS = L.getD i eS by rw [ei]; exact (pre_get hpr h).1)] at h2
      (conv => whnf)
      refine ⟨i + 1, [], by show L.length - (i + 1) < L.length - i; omega, ⟨by show i + 1 ≤ L.length; omega, fun j hj => ?_⟩, ?_⟩
      · rcases Nat.lt_or_ge j i with q | q
        · exact hb j q
        · obtain rfl : j = i := by have : j < i + 1 := hj; omega
          exact h2
      (repeat' (first | exact True.intro | rfl | assumption | exact mc_ok rfl | exact mr_ok | exact fun _ => rfl | exact mt_keep _ _ | exact ms_ok | (refine And.intro ?_ ?_) | (intro _ _; rfl) | ((conv => whnf); (first | exact True.intro | (refine And.intro ?_ ?_)))))
      exact (wrap_inc h (by omega)).symm
  · intro h
    have h : ¬ i < L.length := by have : ¬ (i : Int) < (L.length : Int) := of_decide_eq_false h; omega
    obtain rfl : i = L.length := by omega
    rw [← hres, hasB_take hb] at hQ
    (conv => whnf)
    refine ⟨[], _, _, hQ, ?_⟩
    (repeat' (first | exact True.intro | rfl | assumption | exact mc_ok rfl | exact mr_ok | exact fun _ => rfl | exact mt_keep _ _ | exact ms_ok | (refine And.intro ?_ ?_) | (intro _ _; rfl) | ((conv => whnf); (first | exact True.intro | (refine And.intro ?_ ?_)))))
theorem conFrN : ConOk Try.prog (conOf [(61, SRParents.T), (30, SHasN.T)]) := conOf_cons (LSpec.call SRParents_nt SRParents_ok) (conOf_cons (LSpec.call SHasN_nt SHasN_ok) conOf_nil)
def SFreeN : LSpec where
  X := (List Bs × List Bs) × (Int × Int × List Ed) × Bs × Bool
  k := 2
  pre x := x.1.2 <+: x.1.1 ∧ x.1.2.length ≤ 1000000 ∧ x.2.1.2.2.length ≤ 20000 ∧ freeB x.2.1.2.2 x.2.2.1 x.1.2 = x.2.2.2
  args x θ := [rgV (θ 0) x.2.1.1 x.2.1.2.1 x.2.1.2.2, .str x.2.2.1, .sl (θ 1) 0 1 x.1.2.length false]
  objs x _ := [edR x.2.1.2.2, stR x.1.1]
  out x _ R := R (.sb x.2.2.2) [some (edR x.2.1.2.2), some (stR x.1.1)]
theorem SFreeN_nt : SFreeN.Nt := ⟨fun _ _ => rfl, fun _ _ => rfl, fun _ _ _ h => h⟩
theorem SFreeN_ok : SFreeN.Ok Try.prog 35 := by
  refine LSpec.of_body noGo mixed conFrN Try.func35 rfl (by kernel_rfl) fun ⟨⟨l, L⟩, ⟨gn, gm, E⟩, k, res⟩ R ⟨hpr, hc, hl, hres⟩ hR => ?_
  have hpr : L <+: l := hpr
  have hl : E.length ≤ 20000 := hl
  have hc : L.length ≤ 1000000 := hc
  have hres : freeB E k L = res := hres
  have hQ : R (.sb res) [some (edR E), some (stR l)] := hR
  have hp := prE_len E k
  (conv => whnf)
  refine ⟨((gn, gm, E), k), [0], hl, rfl, by (repeat' (first | exact True.intro | rfl | assumption | exact mc_ok rfl | exact mr_ok | exact fun _ => rfl | exact mt_keep _ _ | exact ms_ok | (refine And.intro ?_ ?_) | (intro _ _; rfl) | ((conv => whnf); (first | exact True.intro | (refine And.intro ?_ ?_))))), by (repeat' (first | exact True.intro | rfl | assumption | exact mc_ok rfl | exact mr_ok | exact fun _ => rfl | exact mt_keep _ _ | exact ms_ok | (refine And.intro ?_ ?_) | (intro _ _; rfl) | ((conv => whnf); (first | exact True.intro | (refine And.intro ?_ ?_))))), ?_⟩
  unfold freeB at hres
  generalize hK : prE E k = K at *
  (conv => whnf)
  refine .inl ⟨Nat, fun i => [(2, .sl 1 0 1 L.length false), (7, .sl 2 0 1 K.length false), (8, i64 i)], fun _ => [some (edR E), some (stR l), some (stR K)], fun i => K.length - i, fun i => i ≤ K.length ∧ ∀ j, j < i → hasB L (K.getD j eS) = true, 3, ⟨0, [some 3], ⟨Nat.zero_le _, fun j hj => absurd hj (Nat.not_lt_zero j)⟩, ?_⟩, fun _ => rfl, fun i ⟨hi, hb⟩ => ?_⟩
  · (repeat' (first | exact True.intro | rfl | assumption | exact mc_ok rfl | exact mr_ok | exact fun _ => rfl | exact mt_keep _ _ | exact ms_ok | (refine And.intro ?_ ?_) | (intro _ _; rfl) | ((conv => whnf); (first | exact True.intro | (refine And.intro ?_ ?_)))))
    all_goals first
      | exact congrArg List.length hK.symm
      | exact congrArg (fun l : List Bs => (l.length : Int)) hK.symm
      | (intro q _
         show [V.str (K.getD q eS)] = [V.str ((prE E k).getD q eS)]
         rw [hK])
  have hi : i ≤ K.length := hi
  have ei := zero_add_toNat i
  (conv => whnf)
  constructor
  · intro h
    have h : i < K.length := by have : (i : Int) < (K.length : Int) := of_decide_eq_true h; omega
    (conv => whnf)
    refine ⟨by show (0 : Int) ≤ (i : Int); omega, by show (i : Int) < (K.length : Int); omega, ?_⟩
    (conv => whnf)
    refine ⟨by rw [ei]; exact h, ?_⟩
    (conv => whnf)
    refine ⟨((l, L), K.getD (0 + (i : Int).toNat) eS, hasB L (K.getD i eS)), [1], ⟨hpr, hc, by rw [ei]⟩, rfl, by (repeat' (first | exact True.intro | rfl | assumption | exact mc_ok rfl | exact mr_ok | exact fun _ => rfl | exact mt_keep _ _ | exact ms_ok | (refine And.intro ?_ ?_) | (intro _ _; rfl) | ((conv => whnf); (first | exact True.intro | (refine And.intro ?_ ?_))))), by (repeat' (first | exact True.intro | rfl | assumption | exact mc_ok rfl | exact mr_ok | exact fun _ => rfl | exact mt_keep _ _ | exact ms_ok | (refine And.intro ?_ ?_) | (intro _ _; rfl) | ((conv => whnf); (first | exact True.intro | (refine And.intro ?_ ?_))))), ?_⟩
    (conv => whnf)
    constructor
    · intro h2
      have h2 : hasB L (K.getD i eS) = false := not_t h2
      rw [← hres, all_at h h2] at hQ
      (conv => whnf)
      refine ⟨[], _, _, hQ, ?_⟩
      (repeat' (first | exact True.intro | rfl | assumption | exact mc_ok rfl | exact mr_ok | exact fun _ => rfl | exact mt_keep _ _ | exact ms_ok | (refine And.intro ?_ ?_) | (intro _ _; rfl) | ((conv => whnf); (first | exact True.intro | (refine And.intro ?_ ?_)))))
    · intro h2
      have h2 : hasB L (K.getD i eS) = true := not_f h2
      (conv => whnf)
      refine ⟨i + 1, [some 2], by show K.length - (i + 1) < K.length - i; omega, ⟨by show i + 1 ≤ K.length; omega, fun j hj => ?_⟩, ?_⟩
      · rcases Nat.lt_or_ge j i with q | q
        · exact hb j q
        · obtain rfl : j = i := by have : j < i + 1 := hj; omega
          exact h2
      (repeat' (first | exact True.intro | rfl | assumption | exact mc_ok rfl | exact mr_ok | exact fun _ => rfl | exact mt_keep _ _ | exact ms_ok | (refine And.intro ?_ ?_) | (intro _ _; rfl) | ((conv => whnf); (first | exact True.intro | (refine And.intro ?_ ?_)))))
      exact (wrap_inc h (by omega)).symm
  · intro h
    have h : ¬ i < K.length := by have : ¬ (i : Int) < (K.length : Int) := of_decide_eq_false h; omega
    obtain rfl : i = K.length := by omega
    rw [← hres, all_to hb] at hQ
    (conv => whnf)
    refine ⟨[], _, _, hQ, ?_⟩
    (repeat' (first | exact True.intro | rfl | assumption | exact mc_ok rfl | exact mr_ok | exact fun _ => rfl | exact mt_keep _ _ | exact ms_ok | (refine And.intro ?_ ?_) | (intro _ _; rfl) | ((conv => whnf); (first | exact True.intro | (refine And.intro ?_ ?_)))))

def SHasZ : LSpec where
  X := ((Nat → Option Obj) × Option (Nat × Nat) × Nat × List Bs) × Bs × Bool
  k := 1
  pre x := (ZS x.1.1 x.1.2.1 x.1.2.2.2 ∧ x.1.2.2.2.length ≤ x.1.2.2.1) ∧ x.1.2.2.2.length ≤ 1000000 ∧ hasB x.1.2.2.2 x.2.1 = x.2.2
  args x θ := [.zsl (θ 0) x.1.2.1 1 x.1.2.2.2.length x.1.2.2.1, .str x.2.1]
  objs x _ := [fzO x.1.1]
  out x _ R := R (.sb x.2.2) [some (fzO x.1.1)]
theorem SHasZ_nt : SHasZ.Nt := ⟨fun _ _ => rfl, fun _ _ => rfl, fun _ _ _ h => h⟩
theorem SHasZ_ok : SHasZ.Ok Try.prog 30 := by
  refine LSpec.of_body noGo mixed conOf_nil Try.func30 rfl (by kernel_rfl) fun ⟨⟨Z, p, cc, L⟩, s, res⟩ R ⟨hpr, hl, hres⟩ hR => ?_
  have hpr : ZS Z p L ∧ L.length ≤ cc := hpr
  have hl : L.length ≤ 1000000 := hl
  have hres : hasB L s = res := hres
  have hQ : R (.sb res) [some (fzO Z)] := hR
  (conv => whnf)
  refine .inl ⟨Nat, fun i => [(0, .zsl 0 p 1 L.length cc), (1, .str s), (5, i64 i)], fun _ => [some (fzO Z)], fun i => L.length - i, fun i => i ≤ L.length ∧ ∀ j, j < i → L.getD j eS ≠ s, 1, ⟨0, [], ⟨Nat.zero_le _, fun j hj => absurd hj (Nat.not_lt_zero j)⟩, ?_⟩, fun _ => rfl, fun i ⟨hi, hb⟩ => ?_⟩
  · (repeat' (first | exact True.intro | rfl | assumption | exact mc_ok rfl | exact mr_ok | exact fun _ => rfl | exact mt_keep _ _ | exact ms_ok | (refine And.intro ?_ ?_) | (intro _ _; rfl) | ((conv => whnf); (first | exact True.intro | (refine And.intro ?_ ?_)))))
  have hi : i ≤ L.length := hi
  have ei := zero_add_toNat i
  (conv => whnf)
  constructor
  · intro h
    have h : i < L.length := by have : (i : Int) < (L.length : Int) := of_decide_eq_true h; omega
    (conv => whnf)
    refine ⟨by show (0 : Int) ≤ (i : Int); omega, by show (i : Int) < (L.length : Int); omega, ?_⟩
    obtain ⟨bb, oo, hp, hat⟩ := hpr.1.at_ h
    refine ⟨bb, oo, hp, ?_⟩
    (conv => whnf)
    refine ⟨[.str (L.getD i eS)], hat, ?_⟩
    (conv => whnf)
    constructor
    · intro h2
      have h2 : (L.getD i eS) = s := of_decide_eq_true h2
      rw [(rfl : L.getD i eS = L.getD i eS)] at h2
      rw [← hres, hasB_at h h2] at hQ
      (conv => whnf)
      refine ⟨[], _, _, hQ, ?_⟩
      (repeat' (first | exact True.intro | rfl | assumption | exact mc_ok rfl | exact mr_ok | exact fun _ => rfl | exact mt_keep _ _ | exact ms_ok | (refine And.intro ?_ ?_) | (intro _ _; rfl) | ((conv => whnf); (first | exact True.intro | (refine And.intro ?_ ?_)))))
    · intro h2
      have h2 : ¬ (L.getD i eS) = s := of_decide_eq_false h2
      rw [(rfl : L.getD i eS = L.getD i eS)] at h2
      (conv => whnf)
      refine ⟨i + 1, [], by show L.length - (i + 1) < L.length - i; omega, ⟨by show i + 1 ≤ L.length; omega, fun j hj => ?_⟩, ?_⟩
      · rcases Nat.lt_or_ge j i with q | q
        · exact hb j q
        · obtain rfl : j = i := by have : j < i + 1 := hj; omega
          exact h2
      (repeat' (first | exact True.intro | rfl | assumption | exact mc_ok rfl | exact mr_ok | exact fun _ => rfl | exact mt_keep _ _ | exact ms_ok | (refine And.intro ?_ ?_) | (intro _ _; rfl) | ((conv => whnf); (first | exact True.intro | (refine And.intro ?_ ?_)))))
      exact (wrap_inc h (by omega)).symm
  · intro h
    have h : ¬ i < L.length := by have : ¬ (i : Int) < (L.length : Int) := of_decide_eq_false h; omega
    obtain rfl : i = L.length := by omega
    rw [← hres, hasB_take hb] at hQ
    (conv => whnf)
    refine ⟨[], _, _, hQ, ?_⟩
    (repeat' (first | exact True.intro | rfl | assumption | exact mc_ok rfl | exact mr_ok | exact fun _ => rfl | exact mt_keep _ _ | exact ms_ok | (refine And.intro ?_ ?_) | (intro _ _; rfl) | ((conv => whnf); (first | exact True.intro | (refine And.intro ?_ ?_)))))
theorem conFrZ : ConOk Try.prog (conOf [(61, SRParents.T), (30, SHasZ.T)]) := conOf_cons (LSpec.call SRParents_nt SRParents_ok) (conOf_cons (LSpec.call SHasZ_nt SHasZ_ok) conOf_nil)
def SFreeZ : LSpec where
  X := ((Nat → Option Obj) × Option (Nat × Nat) × Nat × List Bs) × (Int × Int × List Ed) × Bs × Bool
  k := 2
  pre x := (ZS x.1.1 x.1.2.1 x.1.2.2.2 ∧ x.1.2.2.2.length ≤ x.1.2.2.1) ∧ x.1.2.2.2.length ≤ 1000000 ∧ x.2.1.2.2.length ≤ 20000 ∧ freeB x.2.1.2.2 x.2.2.1 x.1.2.2.2 = x.2.2.2
  args x θ := [rgV (θ 0) x.2.1.1 x.2.1.2.1 x.2.1.2.2, .str x.2.2.1, .zsl (θ 1) x.1.2.1 1 x.1.2.2.2.length x.1.2.2.1]
  objs x _ := [edR x.2.1.2.2, fzO x.1.1]
  out x _ R := R (.sb x.2.2.2) [some (edR x.2.1.2.2), some (fzO x.1.1)]
theorem SFreeZ_nt : SFreeZ.Nt := ⟨fun _ _ => rfl, fun _ _ => rfl, fun _ _ _ h => h⟩
theorem SFreeZ_ok : SFreeZ.Ok Try.prog 35 := by
  refine LSpec.of_body noGo mixed conFrZ Try.func35 rfl (by kernel_rfl) fun ⟨⟨Z, p, cc, L⟩, ⟨gn, gm, E⟩, k, res⟩ R ⟨hpr, hc, hl, hres⟩ hR => ?_
  have hpr : ZS Z p L ∧ L.length ≤ cc := hpr
  have hl : E.length ≤ 20000 := hl
  have hc : L.length ≤ 1000000 := hc
  have hres : freeB E k L = res := hres
  have hQ : R (.sb res) [some (edR E), some (fzO Z)] := hR
  have hp := prE_len E k
  (conv => whnf)
  refine ⟨((gn, gm, E), k), [0], hl, rfl, by (repeat' (first | exact True.intro | rfl | assumption | exact mc_ok rfl | exact mr_ok | exact fun _ => rfl | exact mt_keep _ _ | exact ms_ok | (refine And.intro ?_ ?_) | (intro _ _; rfl) | ((conv => whnf); (first | exact True.intro | (refine And.intro ?_ ?_))))), by (repeat' (first | exact True.intro | rfl | assumption | exact mc_ok rfl | exact mr_ok | exact fun _ => rfl | exact mt_keep _ _ | exact ms_ok | (refine And.intro ?_ ?_) | (intro _ _; rfl) | ((conv => whnf); (first | exact True.intro | (refine And.intro ?_ ?_))))), ?_⟩
  unfold freeB at hres
  generalize hK : prE E k = K at *
  (conv => whnf)
  refine .inl ⟨Nat, fun i => [(2, .zsl 1 p 1 L.length cc), (7, .sl 2 0 1 K.length false), (8, i64 i)], fun _ => [some (edR E), some (fzO Z), some (stR K)], fun i => K.length - i, fun i => i ≤ K.length ∧ ∀ j, j < i → hasB L (K.getD j eS) = true, 3, ⟨0, [some 3], ⟨Nat.zero_le _, fun j hj => absurd hj (Nat.not_lt_zero j)⟩, ?_⟩, fun _ => rfl, fun i ⟨hi, hb⟩ => ?_⟩
  · (repeat' (first | exact True.intro | rfl | assumption | exact mc_ok rfl | exact mr_ok | exact fun _ => rfl | exact mt_keep _ _ | exact ms_ok | (refine And.intro ?_ ?_) | (intro _ _; rfl) | ((conv => whnf); (first | exact True.intro | (refine And.intro ?_ ?_)))))
    all_goals first
      | exact congrArg List.length hK.symm
      | exact congrArg (fun l : List Bs => (l.length : Int)) hK.symm
      | (intro q _
         show [V.str (K.getD q eS)] = [V.str ((prE E k).getD q eS)]
         rw [hK])
  have hi : i ≤ K.length := hi
  have ei := zero_add_toNat i
  (conv => whnf)
  constructor
  · intro h
    have h : i < K.length := by have : (i : Int) < (K.length : Int) := of_decide_eq_true h; omega
    (conv => whnf)
    refine ⟨by show (0 : Int) ≤ (i : Int); omega, by show (i : Int) < (K.length : Int); omega, ?_⟩
    (conv => whnf)
    refine ⟨by rw [ei]; exact h, ?_⟩
    (conv => whnf)
    refine ⟨((Z, p, cc, L), K.getD (0 + (i : Int).toNat) eS, hasB L (K.getD i eS)), [1], ⟨hpr, hc, by rw [ei]⟩, rfl, by (repeat' (first | exact True.intro | rfl | assumption | exact mc_ok rfl | exact mr_ok | exact fun _ => rfl | exact mt_keep _ _ | exact ms_ok | (refine And.intro ?_ ?_) | (intro _ _; rfl) | ((conv => whnf); (first | exact True.intro | (refine And.intro ?_ ?_))))), by (repeat' (first | exact True.intro | rfl | assumption | exact mc_ok rfl | exact mr_ok | exact fun _ => rfl | exact mt_keep _ _ | exact ms_ok | (refine And.intro ?_ ?_) | (intro _ _; rfl) | ((conv => whnf); (first | exact True.intro | (refine And.intro ?_ ?_))))), ?_⟩
    (conv => whnf)
    constructor
    · intro h2
      have h2 : hasB L (K.getD i eS) = false := not_t h2
      rw [← hres, all_at h h2] at hQ
      (conv => whnf)
      refine ⟨[], _, _, hQ, ?_⟩
      (repeat' (first | exact True.intro | rfl | assumption | exact mc_ok rfl | exact mr_ok | exact fun _ => rfl | exact mt_keep _ _ | exact ms_ok | (refine And.intro ?_ ?_) | (intro _ _; rfl) | ((conv => whnf); (first | exact True.intro | (refine And.intro ?_ ?_)))))
    · intro h2
      have h2 : hasB L (K.getD i eS) = true := not_f h2
      (conv => whnf)
      refine ⟨i + 1, [some 2], by show K.length - (i + 1) < K.length - i; omega, ⟨by show i + 1 ≤ K.length; omega, fun j hj => ?_⟩, ?_⟩
      · rcases Nat.lt_or_ge j i with q | q
        · exact hb j q
        · obtain rfl : j = i := by have : j < i + 1 := hj; omega
          exact h2
      (repeat' (first | exact True.intro | rfl | assumption | exact mc_ok rfl | exact mr_ok | exact fun _ => rfl | exact mt_keep _ _ | exact ms_ok | (refine And.intro ?_ ?_) | (intro _ _; rfl) | ((conv => whnf); (first | exact True.intro | (refine And.intro ?_ ?_)))))
      exact (wrap_inc h (by omega)).symm
  · intro h
    have h : ¬ i < K.length := by have : ¬ (i : Int) < (K.length : Int) := of_decide_eq_false h; omega
    obtain rfl : i = K.length := by omega
    rw [← hres, all_to hb] at hQ
    (conv => whnf)
    refine ⟨[], _, _, hQ, ?_⟩
    (repeat' (first | exact True.intro | rfl | assumption | exact mc_ok rfl | exact mr_ok | exact fun _ => rfl | exact mt_keep _ _ | exact ms_ok | (refine And.intro ?_ ?_) | (intro _ _; rfl) | ((conv => whnf); (first | exact True.intro | (refine And.intro ?_ ?_)))))

theorem conCkN : ConOk Try.prog (conOf [(17, SRNodes.T), (30, SHasN.T), (35, SFreeN.T)]) :=
  conOf_cons (LSpec.call SRNodes_nt SRNodes_ok) (conOf_cons (LSpec.call SHasN_nt SHasN_ok) (conOf_cons (LSpec.call SFreeN_nt SFreeN_ok) conOf_nil))
def SRChkN : LSpec where
  X := (List Bs × List Bs) × (Int × Int × List Ed)
  k := 2
  pre x := x.1.2 <+: x.1.1 ∧ x.1.2.length ≤ 100000 ∧ x.2.2.2.length ≤ 10000
  args x θ := [rgV (θ 0) x.2.1 x.2.2.1 x.2.2.2, .sl (θ 1) 0 1 x.1.2.length false]
  objs x _ := [edR x.2.2.2, stR x.1.1]
  out x _ R := R (i64 (chkK x.2.2.2 x.1.2)) [some (edR x.2.2.2), some (stR x.1.1)]
theorem SRChkN_nt : SRChkN.Nt := ⟨fun _ _ => rfl, fun _ _ => rfl, fun _ _ _ h => h⟩
theorem SRChkN_ok : SRChkN.Ok Try.prog 14 := by
  refine LSpec.of_body noGo mixed conCkN Try.func14 rfl (by kernel_rfl) fun ⟨⟨l, L⟩, ⟨gn, gm, E⟩⟩ R ⟨hpr, hc, hl⟩ hR => ?_
  have hpr : L <+: l := hpr
  have hl : E.length ≤ 10000 := hl
  have hc : L.length ≤ 100000 := hc
  have hQ : R (i64 (chkK E L)) [some (edR E), some (stR l)] := hR
  have hNl : (ndK E).length ≤ 20000 := by have := ndK_len (E := E); omega
  (conv => whnf)
  refine ⟨(gn, gm, E), [0], hl, rfl, by (repeat' (first | exact True.intro | rfl | assumption | exact mc_ok rfl | exact mr_ok | exact fun _ => rfl | exact mt_keep _ _ | exact ms_ok | (refine And.intro ?_ ?_) | (intro _ _; rfl) | ((conv => whnf); (first | exact True.intro | (refine And.intro ?_ ?_))))), by (repeat' (first | exact True.intro | rfl | assumption | exact mc_ok rfl | exact mr_ok | exact fun _ => rfl | exact mt_keep _ _ | exact ms_ok | (refine And.intro ?_ ?_) | (intro _ _; rfl) | ((conv => whnf); (first | exact True.intro | (refine And.intro ?_ ?_))))), ?_⟩
  (conv => whnf)
  refine .inl ⟨Nat, fun i => [(1, .sl 1 0 1 L.length false), (2, .ptr 2 0), (5, .sl 3 0 1 (ndK E).length false), (6, i64 i)], fun _ => [some (edR E), some (stR l), some (.cells [i64 gn, i64 gm, .sl 0 0 2 E.length false] 28), some (stR (ndK E))], fun i => L.length - i, fun i => i ≤ L.length ∧ ∀ j, j < i → badAt E L j = false, 4, ⟨0, [some 2, some 3], ⟨Nat.zero_le _, fun j hj => absurd hj (Nat.not_lt_zero j)⟩, ?_⟩, fun _ => rfl, fun i ⟨hi, hb⟩ => ?_⟩
  · (repeat' (first | exact True.intro | rfl | assumption | exact mc_ok rfl | exact mr_ok | exact fun _ => rfl | exact mt_keep _ _ | exact ms_ok | (refine And.intro ?_ ?_) | (intro _ _; rfl) | ((conv => whnf); (first | exact True.intro | (refine And.intro ?_ ?_)))))
  have hi : i ≤ L.length := hi
  have hb : ∀ j, j < i → badAt E L j = false := hb
  have ei := zero_add_toNat i
  (conv => whnf)
  constructor
  · intro h
    have h : i < L.length := by have : (i : Int) < (L.length : Int) := of_decide_eq_true h; omega
    obtain ⟨c, hci⟩ : ∃ c, c = L.getD i eS := ⟨_, rfl⟩
    have hcg : (l.getD (0 + (i : Int).toNat) eS) = c := by rw [(show l.getD (0 + (i : Int).toNat) eS = L.getD i eS by rw [ei]; exact (pre_get hpr h).1), hci]
    have hwi := wrap_inc h (by omega)
    have hba : badAt E L i = (!hasB (ndK E) c || hasB (L.take i) c || !freeB E c (L.take i)) := by rw [hci]; rfl
    have hbad : badAt E L i = true → R (i64 (i : Nat)) [some (edR E), some (stR l)] := fun hp => by rw [chk_hit h hb hp] at hQ; exact hQ
    have hti : (L.take i).length = i := by rw [List.length_take]; omega
    (conv => whnf)
    refine ⟨by show (0 : Int) ≤ (i : Int); omega, by show (i : Int) < (L.length : Int); omega, ?_⟩
    (conv => whnf)
    refine ⟨by rw [ei]; exact (pre_get hpr h).2, ?_⟩
    (conv => whnf)
    refine ⟨((ndK E, ndK E), (l.getD (0 + (i : Int).toNat) eS), hasB (ndK E) c), [3], ⟨List.prefix_rfl, by show (ndK E).length ≤ 1000000; omega, by rw [hcg]⟩, rfl, by (repeat' (first | exact True.intro | rfl | assumption | exact mc_ok rfl | exact mr_ok | exact fun _ => rfl | exact mt_keep _ _ | exact ms_ok | (refine And.intro ?_ ?_) | (intro _ _; rfl) | ((conv => whnf); (first | exact True.intro | (refine And.intro ?_ ?_))))), by (repeat' (first | exact True.intro | rfl | assumption | exact mc_ok rfl | exact mr_ok | exact fun _ => rfl | exact mt_keep _ _ | exact ms_ok | (refine And.intro ?_ ?_) | (intro _ _; rfl) | ((conv => whnf); (first | exact True.intro | (refine And.intro ?_ ?_))))), ?_⟩
    (conv => whnf)
    constructor
    · intro h1
      have hn : hasB (ndK E) c = true := not_f h1
      (conv => whnf)
      refine ⟨by show (0 : Int) ≤ (i : Int); omega, ?_⟩
      (conv => whnf)
      refine .inl ⟨Nat.zero_le _, by show (i : Int).toNat ≤ L.length; omega, .inr rfl, fun g => Bool.noConfusion g, ?_⟩
      (conv => whnf)
      (conv => whnf)
      refine ⟨by show (0 : Int) ≤ (i : Int); omega, by show (i : Int) < (L.length : Int); omega, ?_⟩
      (conv => whnf)
      refine ⟨by rw [ei]; exact (pre_get hpr h).2, ?_⟩
      (conv => whnf)
      refine ⟨((l, L.take i), (l.getD (0 + (i : Int).toNat) eS), hasB (L.take i) c), [1], ⟨pre_take hpr i, by rw [hti]; omega, by rw [hcg]⟩, rfl, ?_, by (repeat' (first | exact True.intro | rfl | assumption | exact mc_ok rfl | exact mr_ok | exact fun _ => rfl | exact mt_keep _ _ | exact ms_ok | (refine And.intro ?_ ?_) | (intro _ _; rfl) | ((conv => whnf); (first | exact True.intro | (refine And.intro ?_ ?_))))), ?_⟩
      · (repeat' (first | exact True.intro | rfl | assumption | exact mc_ok rfl | exact mr_ok | exact fun _ => rfl | exact mt_keep _ _ | exact ms_ok | (refine And.intro ?_ ?_) | (intro _ _; rfl) | ((conv => whnf); (first | exact True.intro | (refine And.intro ?_ ?_)))))
        all_goals first | exact hti | exact hpeq | exact (by omega : cc = cc - 0)
      (conv => whnf)
      constructor
      · intro h2
        have h2 : hasB (L.take i) c = false := h2
        (conv => whnf)
        (conv => whnf)
        refine ⟨by show (0 : Int) ≤ (i : Int); omega, by show (i : Int) < (L.length : Int); omega, ?_⟩
        (conv => whnf)
        refine ⟨by rw [ei]; exact (pre_get hpr h).2, ?_⟩
        (conv => whnf)
        refine ⟨by show (0 : Int) ≤ (i : Int); omega, ?_⟩
        (conv => whnf)
        refine .inl ⟨Nat.zero_le _, by show (i : Int).toNat ≤ L.length; omega, .inr rfl, fun g => Bool.noConfusion g, ?_⟩
        (conv => whnf)
        refine ⟨((l, L.take i), (gn, gm, E), (l.getD (0 + (i : Int).toNat) eS), freeB E c (L.take i)), [0, 1], ⟨pre_take hpr i, by rw [hti]; omega, by show E.length ≤ 20000; omega, by rw [hcg]⟩, rfl, ?_, by (repeat' (first | exact True.intro | rfl | assumption | exact mc_ok rfl | exact mr_ok | exact fun _ => rfl | exact mt_keep _ _ | exact ms_ok | (refine And.intro ?_ ?_) | (intro _ _; rfl) | ((conv => whnf); (first | exact True.intro | (refine And.intro ?_ ?_))))), ?_⟩
        · (repeat' (first | exact True.intro | rfl | assumption | exact mc_ok rfl | exact mr_ok | exact fun _ => rfl | exact mt_keep _ _ | exact ms_ok | (refine And.intro ?_ ?_) | (intro _ _; rfl) | ((conv => whnf); (first | exact True.intro | (refine And.intro ?_ ?_)))))
          all_goals first | exact hti | exact hpeq
        (conv => whnf)
        constructor
        · intro h3
          have h3 : (!freeB E c (L.take i)) = true := h3
          have hF := hbad (by rw [hba, h3]; simp)
          (conv => whnf)
          refine ⟨[], _, _, hF, ?_⟩
          (repeat' (first | exact True.intro | rfl | assumption | exact mc_ok rfl | exact mr_ok | exact fun _ => rfl | exact mt_keep _ _ | exact ms_ok | (refine And.intro ?_ ?_) | (intro _ _; rfl) | ((conv => whnf); (first | exact True.intro | (refine And.intro ?_ ?_)))))
        · intro h3
          have h3 : (!freeB E c (L.take i)) = false := h3
          have hok : badAt E L i = false := by rw [hba, hn, h2, h3]; rfl
          (conv => whnf)
          refine ⟨i + 1, [some 2, some 3], by show L.length - (i + 1) < L.length - i; omega, ⟨by show i + 1 ≤ L.length; omega, fun j hj => ?_⟩, ?_⟩
          · rcases Nat.lt_or_ge j i with q | q
            · exact hb j q
            · obtain rfl : j = i := by have : j < i + 1 := hj; omega
              exact hok
          (repeat' (first | exact True.intro | rfl | assumption | exact mc_ok rfl | exact mr_ok | exact fun _ => rfl | exact mt_keep _ _ | exact ms_ok | (refine And.intro ?_ ?_) | (intro _ _; rfl) | ((conv => whnf); (first | exact True.intro | (refine And.intro ?_ ?_)))))
          all_goals exact hwi.symm
      · intro h2
        have h2 : hasB (L.take i) c = true := h2
        have hF := hbad (by rw [hba, h2]; simp)
        (conv => whnf)
        refine ⟨[], _, _, hF, ?_⟩
        (repeat' (first | exact True.intro | rfl | assumption | exact mc_ok rfl | exact mr_ok | exact fun _ => rfl | exact mt_keep _ _ | exact ms_ok | (refine And.intro ?_ ?_) | (intro _ _; rfl) | ((conv => whnf); (first | exact True.intro | (refine And.intro ?_ ?_)))))
    · intro h1
      have hn : hasB (ndK E) c = false := not_t h1
      have hF := hbad (by rw [hba, hn]; simp)
      (conv => whnf)
      refine ⟨[], _, _, hF, ?_⟩
      (repeat' (first | exact True.intro | rfl | assumption | exact mc_ok rfl | exact mr_ok | exact fun _ => rfl | exact mt_keep _ _ | exact ms_ok | (refine And.intro ?_ ?_) | (intro _ _; rfl) | ((conv => whnf); (first | exact True.intro | (refine And.intro ?_ ?_)))))
  · intro h
    have h : ¬ i < L.length := by have : ¬ (i : Int) < (L.length : Int) := of_decide_eq_false h; omega
    obtain rfl : i = L.length := by omega
    rw [chk_end hb] at hQ
    (conv => whnf)
    constructor
    · intro h1
      have h1 : L.length < (ndK E).length := by have : (L.length : Int) < ((ndK E).length : Int) := of_decide_eq_true h1; omega
      rw [if_pos h1] at hQ
      (conv => whnf)
      refine ⟨[], _, _, hQ, ?_⟩
      (repeat' (first | exact True.intro | rfl | assumption | exact mc_ok rfl | exact mr_ok | exact fun _ => rfl | exact mt_keep _ _ | exact ms_ok | (refine And.intro ?_ ?_) | (intro _ _; rfl) | ((conv => whnf); (first | exact True.intro | (refine And.intro ?_ ?_)))))
    · intro h1
      have h1 : ¬ L.length < (ndK E).length := by have : ¬ (L.length : Int) < ((ndK E).length : Int) := of_decide_eq_false h1; omega
      rw [if_neg h1] at hQ
      (conv => whnf)
      refine ⟨[], _, _, hQ, ?_⟩
      (repeat' (first | exact True.intro | rfl | assumption | exact mc_ok rfl | exact mr_ok | exact fun _ => rfl | exact mt_keep _ _ | exact ms_ok | (refine And.intro ?_ ?_) | (intro _ _; rfl) | ((conv => whnf); (first | exact True.intro | (refine And.intro ?_ ?_)))))

theorem conCkZ : ConOk Try.prog (conOf [(17, SRNodes.T), (30, fun a s K => SHasN.T a s K ∨ SHasZ.T a s K), (35, SFreeZ.T)]) :=
  conOf_cons (LSpec.call SRNodes_nt SRNodes_ok) (conOf_cons (orC (LSpec.call SHasN_nt SHasN_ok) (LSpec.call SHasZ_nt SHasZ_ok)) (conOf_cons (LSpec.call SFreeZ_nt SFreeZ_ok) conOf_nil))
def SRChkZ : LSpec where
  X := ((Nat → Option Obj) × Option (Nat × Nat) × Nat × List Bs) × (Int × Int × List Ed)
  k := 2
  pre x := (ZS x.1.1 x.1.2.1 x.1.2.2.2 ∧ x.1.2.2.2.length ≤ x.1.2.2.1) ∧ x.1.2.2.2.length ≤ 100000 ∧ x.2.2.2.length ≤ 10000
  args x θ := [rgV (θ 0) x.2.1 x.2.2.1 x.2.2.2, .zsl (θ 1) x.1.2.1 1 x.1.2.2.2.length x.1.2.2.1]
  objs x _ := [edR x.2.2.2, fzO x.1.1]
  out x _ R := R (i64 (chkK x.2.2.2 x.1.2.2.2)) [some (edR x.2.2.2), some (fzO x.1.1)]
theorem SRChkZ_nt : SRChkZ.Nt := ⟨fun _ _ => rfl, fun _ _ => rfl, fun _ _ _ h => h⟩
theorem SRChkZ_ok : SRChkZ.Ok Try.prog 14 := by
  refine LSpec.of_body noGo mixed conCkZ Try.func14 rfl (by kernel_rfl) fun ⟨⟨Z, p, cc, L⟩, ⟨gn, gm, E⟩⟩ R ⟨hpr, hc, hl⟩ hR => ?_
  have hpr : ZS Z p L ∧ L.length ≤ cc := hpr
  have hl : E.length ≤ 10000 := hl
  have hc : L.length ≤ 100000 := hc
  have hQ : R (i64 (chkK E L)) [some (edR E), some (fzO Z)] := hR
  have hNl : (ndK E).length ≤ 20000 := by have := ndK_len (E := E); omega
  (conv => whnf)
  refine ⟨(gn, gm, E), [0], hl, rfl, by (repeat' (first | exact True.intro | rfl | assumption | exact mc_ok rfl | exact mr_ok | exact fun _ => rfl | exact mt_keep _ _ | exact ms_ok | (refine And.intro ?_ ?_) | (intro _ _; rfl) | ((conv => whnf); (first | exact True.intro | (refine And.intro ?_ ?_))))), by (repeat' (first | exact True.intro | rfl | assumption | exact mc_ok rfl | exact mr_ok | exact fun _ => rfl | exact mt_keep _ _ | exact ms_ok | (refine And.intro ?_ ?_) | (intro _ _; rfl) | ((conv => whnf); (first | exact True.intro | (refine And.intro ?_ ?_))))), ?_⟩
  (conv => whnf)
  refine .inl ⟨Nat, fun i => [(1, .zsl 1 p 1 L.length cc), (2, .ptr 2 0), (5, .sl 3 0 1 (ndK E).length false), (6, i64 i)], fun _ => [some (edR E), some (fzO Z), some (.cells [i64 gn, i64 gm, .sl 0 0 2 E.length false] 28), some (stR (ndK E))], fun i => L.length - i, fun i => i ≤ L.length ∧ ∀ j, j < i → badAt E L j = false, 4, ⟨0, [some 2, some 3], ⟨Nat.zero_le _, fun j hj => absurd hj (Nat.not_lt_zero j)⟩, ?_⟩, fun _ => rfl, fun i ⟨hi, hb⟩ => ?_⟩
  · (repeat' (first | exact True.intro | rfl | assumption | exact mc_ok rfl | exact mr_ok | exact fun _ => rfl | exact mt_keep _ _ | exact ms_ok | (refine And.intro ?_ ?_) | (intro _ _; rfl) | ((conv => whnf); (first | exact True.intro | (refine And.intro ?_ ?_)))))
  have hi : i ≤ L.length := hi
  have hb : ∀ j, j < i → badAt E L j = false := hb
  have ei := zero_add_toNat i
  (conv => whnf)
  constructor
  · intro h
    have h : i < L.length := by have : (i : Int) < (L.length : Int) := of_decide_eq_true h; omega
    obtain ⟨c, hci⟩ : ∃ c, c = L.getD i eS := ⟨_, rfl⟩
    have hcg : (L.getD i eS) = c := by rw [(rfl : L.getD i eS = L.getD i eS), hci]
    have hwi := wrap_inc h (by omega)
    have hba : badAt E L i = (!hasB (ndK E) c || hasB (L.take i) c || !freeB E c (L.take i)) := by rw [hci]; rfl
    have hbad : badAt E L i = true → R (i64 (i : Nat)) [some (edR E), some (fzO Z)] := fun hp => by rw [chk_hit h hb hp] at hQ; exact hQ
    have hti : (L.take i).length = i := by rw [List.length_take]; omega
    have hpeq : p = if cc = 0 then p else p.map fun q => (q.1, q.2 + 0 * 1) := by cases p <;> simp
    have hcc : (L.take i).length ≤ cc := by have := hpr.2; omega
    (conv => whnf)
    refine ⟨by show (0 : Int) ≤ (i : Int); omega, by show (i : Int) < (L.length : Int); omega, ?_⟩
    obtain ⟨bb, oo, hp, hat⟩ := hpr.1.at_ h
    refine ⟨bb, oo, hp, ?_⟩
    (conv => whnf)
    refine ⟨[.str (L.getD i eS)], hat, ?_⟩
    (conv => whnf)
    refine .inl ⟨((ndK E, ndK E), (L.getD i eS), hasB (ndK E) c), [3], ⟨List.prefix_rfl, by show (ndK E).length ≤ 1000000; omega, by rw [hcg]⟩, rfl, by (repeat' (first | exact True.intro | rfl | assumption | exact mc_ok rfl | exact mr_ok | exact fun _ => rfl | exact mt_keep _ _ | exact ms_ok | (refine And.intro ?_ ?_) | (intro _ _; rfl) | ((conv => whnf); (first | exact True.intro | (refine And.intro ?_ ?_))))), by (repeat' (first | exact True.intro | rfl | assumption | exact mc_ok rfl | exact mr_ok | exact fun _ => rfl | exact mt_keep _ _ | exact ms_ok | (refine And.intro ?_ ?_) | (intro _ _; rfl) | ((conv => whnf); (first | exact True.intro | (refine And.intro ?_ ?_))))), ?_⟩
    (conv => whnf)
    constructor
    · intro h1
      have hn : hasB (ndK E) c = true := not_f h1
      (conv => whnf)
      refine ⟨by show (0 : Int) ≤ (i : Int); omega, ?_⟩
      (conv => whnf)
      refine ⟨Nat.zero_le _, by show (i : Int).toNat ≤ cc; omega, ?_⟩
      (conv => whnf)
      (conv => whnf)
      refine ⟨by show (0 : Int) ≤ (i : Int); omega, by show (i : Int) < (L.length : Int); omega, ?_⟩
      obtain ⟨bb, oo, hp, hat⟩ := hpr.1.at_ h
      refine ⟨bb, oo, hp, ?_⟩
      (conv => whnf)
      refine ⟨[.str (L.getD i eS)], hat, ?_⟩
      (conv => whnf)
      refine .inr ⟨((Z, p, cc, L.take i), (L.getD i eS), hasB (L.take i) c), [1], ⟨⟨hpr.1.take i, hcc⟩, by rw [hti]; omega, by rw [hcg]⟩, rfl, ?_, by (repeat' (first | exact True.intro | rfl | assumption | exact mc_ok rfl | exact mr_ok | exact fun _ => rfl | exact mt_keep _ _ | exact ms_ok | (refine And.intro ?_ ?_) | (intro _ _; rfl) | ((conv => whnf); (first | exact True.intro | (refine And.intro ?_ ?_))))), ?_⟩
      · (repeat' (first | exact True.intro | rfl | assumption | exact mc_ok rfl | exact mr_ok | exact fun _ => rfl | exact mt_keep _ _ | exact ms_ok | (refine And.intro ?_ ?_) | (intro _ _; rfl) | ((conv => whnf); (first | exact True.intro | (refine And.intro ?_ ?_)))))
        all_goals first | exact hti | exact hpeq | exact (by omega : cc = cc - 0)
      (conv => whnf)
      constructor
      · intro h2
        have h2 : hasB (L.take i) c = false := h2
        (conv => whnf)
        (conv => whnf)
        refine ⟨by show (0 : Int) ≤ (i : Int); omega, by show (i : Int) < (L.length : Int); omega, ?_⟩
        obtain ⟨bb, oo, hp, hat⟩ := hpr.1.at_ h
        refine ⟨bb, oo, hp, ?_⟩
        (conv => whnf)
        refine ⟨[.str (L.getD i eS)], hat, ?_⟩
        (conv => whnf)
        refine ⟨by show (0 : Int) ≤ (i : Int); omega, ?_⟩
        (conv => whnf)
        refine ⟨Nat.zero_le _, by show (i : Int).toNat ≤ cc; omega, ?_⟩
        (conv => whnf)
        refine ⟨((Z, p, cc, L.take i), (gn, gm, E), (L.getD i eS), freeB E c (L.take i)), [0, 1], ⟨⟨hpr.1.take i, hcc⟩, by rw [hti]; omega, by show E.length ≤ 20000; omega, by rw [hcg]⟩, rfl, ?_, by (repeat' (first | exact True.intro | rfl | assumption | exact mc_ok rfl | exact mr_ok | exact fun _ => rfl | exact mt_keep _ _ | exact ms_ok | (refine And.intro ?_ ?_) | (intro _ _; rfl) | ((conv => whnf); (first | exact True.intro | (refine And.intro ?_ ?_))))), ?_⟩
        · (repeat' (first | exact True.intro | rfl | assumption | exact mc_ok rfl | exact mr_ok | exact fun _ => rfl | exact mt_keep _ _ | exact ms_ok | (refine And.intro ?_ ?_) | (intro _ _; rfl) | ((conv => whnf); (first | exact True.intro | (refine And.intro ?_ ?_)))))
          all_goals first | exact hti | exact hpeq
        (conv => whnf)
        constructor
        · intro h3
          have h3 : (!freeB E c (L.take i)) = true := h3
          have hF := hbad (by rw [hba, h3]; simp)
          (conv => whnf)
          refine ⟨[], _, _, hF, ?_⟩
          (repeat' (first | exact True.intro | rfl | assumption | exact mc_ok rfl | exact mr_ok | exact fun _ => rfl | exact mt_keep _ _ | exact ms_ok | (refine And.intro ?_ ?_) | (intro _ _; rfl) | ((conv => whnf); (first | exact True.intro | (refine And.intro ?_ ?_)))))
        · intro h3
          have h3 : (!freeB E c (L.take i)) = false := h3
          have hok : badAt E L i = false := by rw [hba, hn, h2, h3]; rfl
          (conv => whnf)
          refine ⟨i + 1, [some 2, some 3], by show L.length - (i + 1) < L.length - i; omega, ⟨by show i + 1 ≤ L.length; omega, fun j hj => ?_⟩, ?_⟩
          · rcases Nat.lt_or_ge j i with q | q
            · exact hb j q
            · obtain rfl : j = i := by have : j < i + 1 := hj; omega
              exact hok
          (repeat' (first | exact True.intro | rfl | assumption | exact mc_ok rfl | exact mr_ok | exact fun _ => rfl | exact mt_keep _ _ | exact ms_ok | (refine And.intro ?_ ?_) | (intro _ _; rfl) | ((conv => whnf); (first | exact True.intro | (refine And.intro ?_ ?_)))))
          all_goals exact hwi.symm
      · intro h2
        have h2 : hasB (L.take i) c = true := h2
        have hF := hbad (by rw [hba, h2]; simp)
        (conv => whnf)
        refine ⟨[], _, _, hF, ?_⟩
        (repeat' (first | exact True.intro | rfl | assumption | exact mc_ok rfl | exact mr_ok | exact fun _ => rfl | exact mt_keep _ _ | exact ms_ok | (refine And.intro ?_ ?_) | (intro _ _; rfl) | ((conv => whnf); (first | exact True.intro | (refine And.intro ?_ ?_)))))
    · intro h1
      have hn : hasB (ndK E) c = false := not_t h1
      have hF := hbad (by rw [hba, hn]; simp)
      (conv => whnf)
      refine ⟨[], _, _, hF, ?_⟩
      (repeat' (first | exact True.intro | rfl | assumption | exact mc_ok rfl | exact mr_ok | exact fun _ => rfl | exact mt_keep _ _ | exact ms_ok | (refine And.intro ?_ ?_) | (intro _ _; rfl) | ((conv => whnf); (first | exact True.intro | (refine And.intro ?_ ?_)))))
  · intro h
    have h : ¬ i < L.length := by have : ¬ (i : Int) < (L.length : Int) := of_decide_eq_false h; omega
    obtain rfl : i = L.length := by omega
    rw [chk_end hb] at hQ
    (conv => whnf)
    constructor
    · intro h1
      have h1 : L.length < (ndK E).length := by have : (L.length : Int) < ((ndK E).length : Int) := of_decide_eq_true h1; omega
      rw [if_pos h1] at hQ
      (conv => whnf)
      refine ⟨[], _, _, hQ, ?_⟩
      (repeat' (first | exact True.intro | rfl | assumption | exact mc_ok rfl | exact mr_ok | exact fun _ => rfl | exact mt_keep _ _ | exact ms_ok | (refine And.intro ?_ ?_) | (intro _ _; rfl) | ((conv => whnf); (first | exact True.intro | (refine And.intro ?_ ?_)))))
    · intro h1
      have h1 : ¬ L.length < (ndK E).length := by have : ¬ (L.length : Int) < ((ndK E).length : Int) := of_decide_eq_false h1; omega
      rw [if_neg h1] at hQ
      (conv => whnf)
      refine ⟨[], _, _, hQ, ?_⟩
      (repeat' (first | exact True.intro | rfl | assumption | exact mc_ok rfl | exact mr_ok | exact fun _ => rfl | exact mt_keep _ _ | exact ms_ok | (refine And.intro ?_ ?_) | (intro _ _; rfl) | ((conv => whnf); (first | exact True.intro | (refine And.intro ?_ ?_)))))

end Go.Proofs.Ytddionboojdjlaa
