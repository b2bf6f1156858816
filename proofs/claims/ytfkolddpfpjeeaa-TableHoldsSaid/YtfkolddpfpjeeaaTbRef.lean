/- What the functions of tagcacheref10 compute: the small ones. -/
import Derived.Test.YtfkolddpfpjeeaaTbPrg3
namespace Go.Proofs.Ytfkolddpfpjeeaa
open Go Sy Tb
set_option maxRecDepth 100000

def kR (m : Nat) (D : Tab) : SObj := .row m (fun j => [.str (D j).1]) 9 1
def nR (m : Nat) (D : Tab) : SObj := .row m (fun j => [.int .i64 (D j).2]) 3 1
def rfV (a b : Nat) (seed : Int) (m : Nat) : V := .agg [u64 seed, .sl a 0 1 m false, .sl b 0 1 m false]
theorem kR_ren (θ : Nat → Nat) (m : Nat) (D : Tab) : (kR m D).ren θ = kR m D := rfl
theorem nR_ren (θ : Nat → Nat) (m : Nat) (D : Tab) : (nR m D).ren θ = nR m D := rfl
theorem rfV_ren (θ : Nat → Nat) (a b : Nat) (seed : Int) (m : Nat) : (rfV a b seed m).ren θ = rfV (θ a) (θ b) seed m := rfl

theorem free_iff (c : Cell) : free c = decide (c.1 = ⟨#[]⟩) := by
  unfold free
  rw [decide_eq_decide]
  constructor
  · intro h
    exact ByteArray.ext (Array.eq_empty_of_size_eq_zero h)
  · intro h
    rw [h]
    rfl
theorem appF_zero {f g : Nat → List V} (q : Nat) : appF 0 f g q = g q := by
  unfold appF
  rw [show Nat.blt q 0 = false from by cases hb : Nat.blt q 0 with | false => rfl | true => exact absurd (blt_lt hb) (by omega)]
  simp
def SRCopy : LSpec where
  X := Int × Nat × Tab
  k := 2
  pre x := 8 ≤ x.2.1 ∧ x.2.1 ≤ 32768
  args x θ := [rfV (θ 0) (θ 1) x.1 x.2.1]
  objs x _ := [kR x.2.1 x.2.2, nR x.2.1 x.2.2]
  out x θ R := R (rfV (θ 2) (θ 3) x.1 x.2.1) [some (kR x.2.1 x.2.2), some (nR x.2.1 x.2.2), some (kR x.2.1 x.2.2), some (nR x.2.1 x.2.2)]
theorem SRCopy_nt : SRCopy.Nt := ⟨fun _ _ => rfl, fun _ _ => rfl, fun _ _ _ h => h⟩
theorem SRCopy_ok : SRCopy.Ok Try.prog 38 := by
  refine LSpec.of_body noGo mixed conOf_nil Try.func38 rfl (by kernel_rfl) fun ⟨seed, m, D⟩ R ⟨h8, hlt⟩ hR => ?_
  have h8 : 8 ≤ m := h8
  have hlt : m ≤ 32768 := hlt
  (conv => whnf)
  refine ⟨some (fun q => [.str (D q).1]), ?_⟩
  (conv => whnf)
  refine ⟨by show 0 + m ≤ m; omega, by show m * (16 + 1) ≤ 1000000000; omega, fun q _ => by show [V.str (D q).1] = [V.str (D (0 + q)).1]; rw [Nat.zero_add], ?_⟩
  (conv => whnf)
  (repeat (first | refine And.intro rfl ?_ | fail))
  (conv => whnf)
  refine ⟨some (fun q => [.int .i64 (D q).2]), ?_⟩
  (conv => whnf)
  refine ⟨by show 0 + m ≤ m; omega, by show m * (8 + 1) ≤ 1000000000; omega, fun q _ => by show [V.int .i64 (D q).2] = [V.int .i64 (D (0 + q)).2]; rw [Nat.zero_add], ?_⟩
  (conv => whnf)
  (repeat (first | refine And.intro rfl ?_ | fail))
  (conv => whnf)
  refine ⟨[some 4, some 5], _, _, hR, ?_⟩
  (repeat' (first | exact True.intro | rfl | assumption | (refine And.intro ?_ ?_) | (intro _ _; rfl) | ((conv => whnf); (first | exact True.intro | (refine And.intro ?_ ?_)))))

def SRLen : LSpec where
  X := Int × Nat × Tab
  k := 2
  pre x := x.2.1 ≤ 32768
  args x θ := [rfV (θ 0) (θ 1) x.1 x.2.1]
  objs x _ := [kR x.2.1 x.2.2, nR x.2.1 x.2.2]
  out x _ R := R (i64 (cnt x.2.2 x.2.1)) [some (kR x.2.1 x.2.2), some (nR x.2.1 x.2.2)]
theorem SRLen_nt : SRLen.Nt := ⟨fun _ _ => rfl, fun _ _ => rfl, fun _ _ _ h => h⟩
theorem SRLen_ok : SRLen.Ok Try.prog 30 := by
  refine LSpec.of_body noGo mixed conOf_nil Try.func30 rfl (by kernel_rfl) fun ⟨seed, m, D⟩ R hlt hR => ?_
  have hlt : m ≤ 32768 := hlt
  (conv => whnf)
  refine .inl ⟨Nat, fun i => [(1, .ptr 2 0), (3, i64 (cnt D i : Nat)), (4, i64 i)], fun _ => [some (kR m D), some (nR m D), some (.cells [u64 seed, .sl 0 0 1 m false, .sl 1 0 1 m false] 29)], fun i => m - i, fun i => i ≤ m, 3, ⟨0, [some 2], Nat.zero_le _, ?_⟩, fun _ => rfl, fun i hi => ?_⟩
  · (repeat' (first | exact True.intro | rfl | assumption | (refine And.intro ?_ ?_) | (intro _ _; rfl) | ((conv => whnf); (first | exact True.intro | (refine And.intro ?_ ?_)))))
  have hi : i ≤ m := hi
  (conv => whnf)
  constructor
  · intro h
    (conv => whnf)
    have hi2 := dec_lt h
    have ea := zero_add_toNat i
    have hcl := cnt_le D i
    have hs : cnt D (i + 1) = cnt D i + if free (D i) = true then 0 else 1 := rfl
    refine ⟨by simp, by simpa using h, by simpa using h, ?_⟩
    (conv => whnf)
    constructor
    · intro h2
      have h2 : (!decide ((D (0 + (i : Int).toNat)).1 = ⟨#[]⟩)) = true := h2
      rw [ea, ← free_iff] at h2
      have h2 : free (D i) = false := by simpa using h2
      rw [h2] at hs
      (conv => whnf)
      refine ⟨i + 1, [some 2], by show m - (i + 1) < m - i; omega, by show i + 1 ≤ m; omega, ?_⟩
      (repeat' (first | exact True.intro | rfl | assumption | (refine And.intro ?_ ?_) | (intro _ _; rfl) | ((conv => whnf); (first | exact True.intro | (refine And.intro ?_ ?_)))))
      · show ((cnt D (i + 1) : Nat) : Int) = IntKind.i64.wrap ((cnt D i : Int) + 1)
        rw [wrap_id (by omega) (by omega), hs]
        simp
      · exact (wrap_inc hi2 (by omega)).symm
    · intro h2
      have h2 : (!decide ((D (0 + (i : Int).toNat)).1 = ⟨#[]⟩)) = false := h2
      rw [ea, ← free_iff] at h2
      have h2 : free (D i) = true := by simpa using h2
      rw [h2] at hs
      (conv => whnf)
      refine ⟨i + 1, [some 2], by show m - (i + 1) < m - i; omega, by show i + 1 ≤ m; omega, ?_⟩
      (repeat' (first | exact True.intro | rfl | assumption | (refine And.intro ?_ ?_) | (intro _ _; rfl) | ((conv => whnf); (first | exact True.intro | (refine And.intro ?_ ?_)))))
      · exact congrArg (fun n : Nat => (n : Int)) hs
      · exact (wrap_inc hi2 (by omega)).symm
  · intro h
    (conv => whnf)
    have hi2 : i = m := by have := dec_ge h; omega
    subst hi2
    refine ⟨[], _, _, hR, ?_⟩
    (repeat' (first | exact True.intro | rfl | assumption | (refine And.intro ?_ ?_) | (intro _ _; rfl) | ((conv => whnf); (first | exact True.intro | (refine And.intro ?_ ?_)))))

theorem conJ : ConOk Try.prog (conOf [(51, sumT)]) := conOf_cons rsumT_ok conOf_nil
def SRHome : LSpec where
  X := (Int × Nat × Tab) × ByteArray
  k := 2
  pre x := TOk x.1.1 x.1.2.1 ∧ x.2.size ≤ 1000000
  args x θ := [rfV (θ 0) (θ 1) x.1.1 x.1.2.1, .str x.2]
  objs x _ := [kR x.1.2.1 x.1.2.2, nR x.1.2.1 x.1.2.2]
  out x _ R := R (i64 (hm x.1.1 x.1.2.1 x.2)) [some (kR x.1.2.1 x.1.2.2), some (nR x.1.2.1 x.1.2.2)]
theorem SRHome_nt : SRHome.Nt := ⟨fun _ _ => rfl, fun _ _ => rfl, fun _ _ _ h => h⟩
theorem SRHome_ok : SRHome.Ok Try.prog 39 := by
  refine LSpec.of_body noGo mixed conJ Try.func39 rfl (by kernel_rfl) fun ⟨⟨seed, m, D⟩, k⟩ R ⟨ht, hk⟩ hR => ?_
  have ht : TOk seed m := ht
  have hk : k.size ≤ 1000000 := hk
  (conv => whnf)
  refine ⟨hk, ht.seed, ?_⟩
  (conv => whnf)
  (repeat (first | refine And.intro rfl ?_ | fail))
  (conv => whnf)
  have e1 := ht.hm k
  have h8 := ht.le
  have hlt := ht.lt
  have hw : IntKind.u64.wrap (m : Int) = (m : Int) := u64_in _ ⟨by omega, by omega⟩
  have hs := sumI_range seed k.data.toList
  have hm0 := Int.emod_nonneg (sumI seed k.data.toList) (b := (m : Int)) (by omega)
  refine ⟨by show IntKind.u64.wrap (m : Int) ≠ 0; rw [hw]; omega, ?_⟩
  (conv => whnf)
  refine ⟨[], _, _, hR, ?_⟩
  (repeat' (first | exact True.intro | rfl | assumption | (refine And.intro ?_ ?_) | (intro _ _; rfl) | ((conv => whnf); (first | exact True.intro | (refine And.intro ?_ ?_)))))
  show ((hm seed m k : Nat) : Int) = IntKind.i64.wrap ((sumI seed k.data.toList).tmod (IntKind.u64.wrap (m : Int)))
  rw [hw, Int.tmod_eq_emod_of_nonneg hs.1, ← e1.1, wrap_id (by omega) (by omega)]

def SRWay : LSpec where
  X := (Int × Nat × Tab) × Nat × Nat
  k := 2
  pre x := x.1.2.1 ≤ 32768 ∧ x.2.1 < x.1.2.1 ∧ x.2.2 < x.1.2.1
  args x θ := [rfV (θ 0) (θ 1) x.1.1 x.1.2.1, i64 (x.2.1 : Nat), i64 (x.2.2 : Nat)]
  objs x _ := [kR x.1.2.1 x.1.2.2, nR x.1.2.1 x.1.2.2]
  out x _ R := R (i64 (way x.1.2.1 x.2.1 x.2.2 : Nat)) [some (kR x.1.2.1 x.1.2.2), some (nR x.1.2.1 x.1.2.2)]
theorem SRWay_nt : SRWay.Nt := ⟨fun _ _ => rfl, fun _ _ => rfl, fun _ _ _ h => h⟩
theorem SRWay_ok : SRWay.Ok Try.prog 40 := by
  refine LSpec.of_body noGo mixed conOf_nil Try.func40 rfl (by kernel_rfl) fun ⟨⟨seed, m, D⟩, a, b⟩ R ⟨hlt, ha, hb⟩ hR => ?_
  have hlt : m ≤ 32768 := hlt
  have ha : a < m := ha
  have hb : b < m := hb
  (conv => whnf)
  refine ⟨by show (m : Int) ≠ 0; omega, ?_⟩
  (conv => whnf)
  refine ⟨[], _, _, hR, ?_⟩
  (repeat' (first | exact True.intro | rfl | assumption | (refine And.intro ?_ ?_) | (intro _ _; rfl) | ((conv => whnf); (first | exact True.intro | (refine And.intro ?_ ?_)))))
  show ((way m a b : Nat) : Int) = (IntKind.i64.wrap (IntKind.i64.wrap ((b : Int) - (a : Int)) + (m : Int))).tmod (m : Int)
  rw [wrap_id (n := (b : Int) - (a : Int)) (by omega) (by omega), wrap_id (by omega) (by omega), Int.tmod_eq_emod_of_nonneg (by omega), show (b : Int) - (a : Int) + (m : Int) = ((b + m - a : Nat) : Int) by omega, ← Int.natCast_emod]
  unfold way
  split
  · rw [Nat.mod_eq_sub_mod (by omega), Nat.mod_eq_of_lt (by omega)]
    congr 1
    omega
  · rw [Nat.mod_eq_of_lt (by omega)]

def SRFind : LSpec where
  X := (Int × Nat × Tab) × ByteArray
  k := 2
  pre x := x.1.2.1 ≤ 32768
  args x θ := [rfV (θ 0) (θ 1) x.1.1 x.1.2.1, .str x.2]
  objs x _ := [kR x.1.2.1 x.1.2.2, nR x.1.2.1 x.1.2.2]
  out x _ R := (¬ keyIn x.1.2.1 x.1.2.2 x.2 → R (i64 (-1)) [some (kR x.1.2.1 x.1.2.2), some (nR x.1.2.1 x.1.2.2)]) ∧
    (∀ i, i < x.1.2.1 → (x.1.2.2 i).1 = x.2 → (∀ j, j < i → (x.1.2.2 j).1 ≠ x.2) → R (i64 (i : Nat)) [some (kR x.1.2.1 x.1.2.2), some (nR x.1.2.1 x.1.2.2)])
theorem SRFind_nt : SRFind.Nt := ⟨fun _ _ => rfl, fun _ _ => rfl, fun _ _ _ h => h⟩
theorem SRFind_ok : SRFind.Ok Try.prog 29 := by
  refine LSpec.of_body noGo mixed conOf_nil Try.func29 rfl (by kernel_rfl) fun ⟨⟨seed, m, D⟩, k⟩ R hlt ⟨hR0, hR1⟩ => ?_
  have hlt : m ≤ 32768 := hlt
  (conv => whnf)
  refine .inl ⟨Nat, fun i => [(1, .str k), (2, .ptr 2 0), (5, i64 i)], fun _ => [some (kR m D), some (nR m D), some (.cells [u64 seed, .sl 0 0 1 m false, .sl 1 0 1 m false] 29)], fun i => m - i, fun i => i ≤ m ∧ ∀ j, j < i → (D j).1 ≠ k, 3, ⟨0, [some 2], ⟨Nat.zero_le _, fun j hj => absurd hj (by omega)⟩, ?_⟩, fun _ => rfl, fun i ⟨hi, hno⟩ => ?_⟩
  · (repeat' (first | exact True.intro | rfl | assumption | (refine And.intro ?_ ?_) | (intro _ _; rfl) | ((conv => whnf); (first | exact True.intro | (refine And.intro ?_ ?_)))))
  have hi : i ≤ m := hi
  have hno : ∀ j, j < i → (D j).1 ≠ k := hno
  (conv => whnf)
  constructor
  · intro h
    (conv => whnf)
    have hi2 := dec_lt h
    have ea := zero_add_toNat i
    refine ⟨by simp, by simpa using h, by simpa using h, ?_⟩
    (conv => whnf)
    constructor
    · intro h2
      have h2 : (D (0 + (i : Int).toNat)).1 = k := of_decide_eq_true h2
      rw [ea] at h2
      (conv => whnf)
      refine ⟨[], _, _, hR1 i hi2 h2 hno, ?_⟩
      (repeat' (first | exact True.intro | rfl | assumption | (refine And.intro ?_ ?_) | (intro _ _; rfl) | ((conv => whnf); (first | exact True.intro | (refine And.intro ?_ ?_)))))
    · intro h2
      have h2 : ¬ (D (0 + (i : Int).toNat)).1 = k := of_decide_eq_false h2
      rw [ea] at h2
      (conv => whnf)
      refine ⟨i + 1, [some 2], by show m - (i + 1) < m - i; omega, ⟨by show i + 1 ≤ m; omega, fun j hj => ?_⟩, ?_⟩
      · have hj : j < i + 1 := hj
        rcases Nat.lt_or_ge j i with q | q
        · exact hno j q
        · rw [show j = i by omega]; exact h2
      · (repeat' (first | exact True.intro | rfl | assumption | (refine And.intro ?_ ?_) | (intro _ _; rfl) | ((conv => whnf); (first | exact True.intro | (refine And.intro ?_ ?_)))))
        exact (wrap_inc hi2 (by omega)).symm
  · intro h
    (conv => whnf)
    have hi2 : i = m := by have := dec_ge h; omega
    refine ⟨[], _, _, hR0 fun ⟨j, hj, e⟩ => hno j (by have hj : j < m := hj; omega) e, ?_⟩
    (repeat' (first | exact True.intro | rfl | assumption | (refine And.intro ?_ ?_) | (intro _ _; rfl) | ((conv => whnf); (first | exact True.intro | (refine And.intro ?_ ?_)))))
end Go.Proofs.Ytfkolddpfpjeeaa
