/- What the functions of package table compute: what reads and sets a number; copies. -/
import Derived.Test.YtfkolddpfpjeeaaTbPrg3
namespace Go.Proofs.Ytfkolddpfpjeeaa
open Go Sy Tb
set_option maxRecDepth 100000

theorem conF : ConOk Try.prog (conOf [(42, SAt.T)]) := conOf_cons (LSpec.call SAt_nt SAt_ok) conOf_nil
def SGet : LSpec where
  X := (Int × Nat × Int × Tab) × ByteArray
  k := 2
  pre x := TI x.1.1 x.1.2.1 x.1.2.2.1 x.1.2.2.2
  args x θ := [.ptr (θ 0) 0, .str x.2]
  objs x θ := [tbC (θ 1) x.1.1 x.1.2.1 x.1.2.2.1, tbR x.1.2.1 x.1.2.2.2]
  out x θ R := (chk x.2 0 ≠ 0 → R (.tup [i64 0, i64 2]) [some (tbC (θ 1) x.1.1 x.1.2.1 x.1.2.2.1), some (tbR x.1.2.1 x.1.2.2.2)]) ∧
    (chk x.2 0 = 0 → ¬ keyIn x.1.2.1 x.1.2.2.2 x.2 → R (.tup [i64 0, i64 9]) [some (tbC (θ 1) x.1.1 x.1.2.1 x.1.2.2.1), some (tbR x.1.2.1 x.1.2.2.2)]) ∧
    (chk x.2 0 = 0 → ∀ v, has x.1.2.1 x.1.2.2.2 x.2 v → R (.tup [i64 v, i64 0]) [some (tbC (θ 1) x.1.1 x.1.2.1 x.1.2.2.1), some (tbR x.1.2.1 x.1.2.2.2)])
theorem SGet_nt : SGet.Nt := ⟨fun _ _ => rfl, by unfold SGet; (intros; simp only [ren_all] at *; try assumption), by unfold SGet; (intros; simp only [ren_all] at *; try assumption)⟩
theorem SGet_ok : SGet.Ok Try.prog 43 := by
  refine LSpec.of_body noGo mixed conF Try.func43 rfl (by kernel_rfl) fun ⟨⟨seed, m, n, D⟩, k⟩ R ht ⟨hR0, hR1, hR2⟩ => ?_
  have ht : TI seed m n D := ht
  (conv => whnf)
  refine ⟨((seed, m, n, D), k, 0), [0, 1], ht, rfl, by (repeat' (first | exact True.intro | rfl | assumption | (refine And.intro ?_ ?_) | (intro _ _; rfl) | ((conv => whnf); (first | exact True.intro | (refine And.intro ?_ ?_))))), by (repeat' (first | exact True.intro | rfl | assumption | (refine And.intro ?_ ?_) | (intro _ _; rfl) | ((conv => whnf); (first | exact True.intro | (refine And.intro ?_ ?_))))), fun hc => ?_, fun hc hn => ?_, fun hc i hi e => ?_⟩
  · (conv => whnf)
    (repeat' (first | (refine And.intro (fun hh => ?_) (fun hh => ?_) <;> first | (exfalso; simp [*] at hh; done) | (exfalso; simp_all; done) | (conv => whnf)) | fail))
    refine ⟨[], _, _, hR0 hc, ?_⟩
    (repeat' (first | exact True.intro | rfl | assumption | (refine And.intro ?_ ?_) | (intro _ _; rfl) | ((conv => whnf); (first | exact True.intro | (refine And.intro ?_ ?_)))))
  · (conv => whnf)
    (repeat' (first | (refine And.intro (fun hh => ?_) (fun hh => ?_) <;> first | (exfalso; simp [*] at hh; done) | (exfalso; simp_all; done) | (conv => whnf)) | fail))
    refine ⟨[], _, _, hR1 hc hn, ?_⟩
    (repeat' (first | exact True.intro | rfl | assumption | (refine And.intro ?_ ?_) | (intro _ _; rfl) | ((conv => whnf); (first | exact True.intro | (refine And.intro ?_ ?_)))))
  · have hi : i < m := hi
    have ea := zero_add_toNat i
    (conv => whnf)
    (repeat' (first | (refine And.intro (fun hh => ?_) (fun hh => ?_) <;> first | (exfalso; simp [*] at hh; done) | (exfalso; simp_all; done) | (conv => whnf)) | fail))
    refine ⟨by omega, by omega, ?_⟩
    (conv => whnf)
    refine ⟨by rw [ea]; exact hi, ?_⟩
    (conv => whnf)
    refine ⟨[], _, _, hR2 hc (D i).2 ⟨i, hi, Prod.ext e rfl⟩, ?_⟩
    (repeat' (first | exact True.intro | rfl | assumption | (refine And.intro ?_ ?_) | (intro _ _; rfl) | ((conv => whnf); (first | exact True.intro | (refine And.intro ?_ ?_)))))
    exact congrArg (fun i => (D i).2) ea.symm

def SSet : LSpec where
  X := (Int × Nat × Int × Tab) × ByteArray × Int
  k := 2
  pre x := TI x.1.1 x.1.2.1 x.1.2.2.1 x.1.2.2.2
  args x θ := [.ptr (θ 0) 0, .str x.2.1, i64 x.2.2]
  objs x θ := [tbC (θ 1) x.1.1 x.1.2.1 x.1.2.2.1, tbR x.1.2.1 x.1.2.2.2]
  out x θ R := (chk x.2.1 x.2.2 ≠ 0 → R (.tup [i64 0, i64 2]) [some (tbC (θ 1) x.1.1 x.1.2.1 x.1.2.2.1), some (tbR x.1.2.1 x.1.2.2.2)]) ∧
    (chk x.2.1 x.2.2 = 0 → ¬ keyIn x.1.2.1 x.1.2.2.2 x.2.1 → R (.tup [i64 0, i64 9]) [some (tbC (θ 1) x.1.1 x.1.2.1 x.1.2.2.1), some (tbR x.1.2.1 x.1.2.2.2)]) ∧
    (chk x.2.1 x.2.2 = 0 → ∀ i, i < x.1.2.1 → (x.1.2.2.2 i).1 = x.2.1 → R (.tup [i64 (x.1.2.2.2 i).2, i64 0]) [some (tbC (θ 1) x.1.1 x.1.2.1 x.1.2.2.1), some (tbR x.1.2.1 (Tb.upd x.1.2.2.2 i ((x.1.2.2.2 i).1, x.2.2)))])
theorem SSet_nt : SSet.Nt := ⟨fun _ _ => rfl, by unfold SSet; (intros; simp only [ren_all] at *; try assumption), by unfold SSet; (intros; simp only [ren_all] at *; try assumption)⟩
theorem SSet_ok : SSet.Ok Try.prog 18 := by
  refine LSpec.of_body noGo mixed conF Try.func18 rfl (by kernel_rfl) fun ⟨⟨seed, m, n, D⟩, k, v⟩ R ht ⟨hR0, hR1, hR2⟩ => ?_
  have ht : TI seed m n D := ht
  (conv => whnf)
  refine ⟨((seed, m, n, D), k, v), [0, 1], ht, rfl, by (repeat' (first | exact True.intro | rfl | assumption | (refine And.intro ?_ ?_) | (intro _ _; rfl) | ((conv => whnf); (first | exact True.intro | (refine And.intro ?_ ?_))))), by (repeat' (first | exact True.intro | rfl | assumption | (refine And.intro ?_ ?_) | (intro _ _; rfl) | ((conv => whnf); (first | exact True.intro | (refine And.intro ?_ ?_))))), fun hc => ?_, fun hc hn => ?_, fun hc i hi e => ?_⟩
  · (conv => whnf)
    (repeat' (first | (refine And.intro (fun hh => ?_) (fun hh => ?_) <;> first | (exfalso; simp [*] at hh; done) | (exfalso; simp_all; done) | (conv => whnf)) | fail))
    refine ⟨[], _, _, hR0 hc, ?_⟩
    (repeat' (first | exact True.intro | rfl | assumption | (refine And.intro ?_ ?_) | (intro _ _; rfl) | ((conv => whnf); (first | exact True.intro | (refine And.intro ?_ ?_)))))
  · (conv => whnf)
    (repeat' (first | (refine And.intro (fun hh => ?_) (fun hh => ?_) <;> first | (exfalso; simp [*] at hh; done) | (exfalso; simp_all; done) | (conv => whnf)) | fail))
    refine ⟨[], _, _, hR1 hc hn, ?_⟩
    (repeat' (first | exact True.intro | rfl | assumption | (refine And.intro ?_ ?_) | (intro _ _; rfl) | ((conv => whnf); (first | exact True.intro | (refine And.intro ?_ ?_)))))
  · have hi : i < m := hi
    have ea := zero_add_toNat i
    (conv => whnf)
    (repeat' (first | (refine And.intro (fun hh => ?_) (fun hh => ?_) <;> first | (exfalso; simp [*] at hh; done) | (exfalso; simp_all; done) | (conv => whnf)) | fail))
    refine ⟨by omega, by omega, ?_⟩
    (conv => whnf)
    refine ⟨by rw [ea]; exact hi, ?_⟩
    (conv => whnf)
    refine ⟨by omega, by omega, ?_⟩
    (conv => whnf)
    refine ⟨some (fun q => cellV (Tb.upd D i ((D i).1, v) q)), ?_⟩
    (conv => whnf)
    refine ⟨by rw [ea]; exact hi, ?_⟩
    (conv => whnf)
    refine ⟨fun q _ => ?_, ?_⟩
    · show cellV (Tb.upd D i ((D i).1, v) q) = bif Nat.beq q (0 + (i : Int).toNat) then putD 1 (cellV (D q)) [.int .i64 v] else cellV (D q)
      rw [ea]
      unfold Tb.upd
      by_cases g : q = i
      · rw [if_pos g, g, show Nat.beq i i = true from Nat.beq_refl i]
        rfl
      · rw [if_neg g]
        cases hb : Nat.beq q i with
        | true => exact absurd (Nat.eq_of_beq_eq_true hb) g
        | false => rfl
    (conv => whnf)
    refine ⟨[], _, _, hR2 hc i hi e, ?_⟩
    (repeat' (first | exact True.intro | rfl | assumption | (refine And.intro ?_ ?_) | (intro _ _; rfl) | ((conv => whnf); (first | exact True.intro | (refine And.intro ?_ ?_)))))
    exact congrArg (fun i => (D i).2) ea.symm

def SLen : LSpec where
  X := Int × Nat × Int × Tab
  k := 2
  pre x := 8 ≤ x.2.1
  args _ θ := [.ptr (θ 0) 0]
  objs x θ := [tbC (θ 1) x.1 x.2.1 x.2.2.1, tbR x.2.1 x.2.2.2]
  out x θ R := R (i64 x.2.2.1) [some (tbC (θ 1) x.1 x.2.1 x.2.2.1), some (tbR x.2.1 x.2.2.2)]
theorem SLen_nt : SLen.Nt := ⟨fun _ _ => rfl, by unfold SLen; (intros; simp only [ren_all] at *; try assumption), by unfold SLen; (intros; simp only [ren_all] at *; try assumption)⟩
theorem SLen_ok : SLen.Ok Try.prog 14 := by
  refine LSpec.of_body noGo mixed conD Try.func14 rfl (by kernel_rfl) fun ⟨seed, m, n, D⟩ R h8 hR => ?_
  have h8 : 8 ≤ m := h8
  (conv => whnf)
  refine ⟨(seed, m, n, D), [0, 1], h8, rfl, by (repeat' (first | exact True.intro | rfl | assumption | (refine And.intro ?_ ?_) | (intro _ _; rfl) | ((conv => whnf); (first | exact True.intro | (refine And.intro ?_ ?_))))), by (repeat' (first | exact True.intro | rfl | assumption | (refine And.intro ?_ ?_) | (intro _ _; rfl) | ((conv => whnf); (first | exact True.intro | (refine And.intro ?_ ?_))))), ?_⟩
  (conv => whnf)
  (repeat' (first | (refine And.intro (fun hh => ?_) (fun hh => ?_) <;> first | (exfalso; simp [*] at hh; done) | (exfalso; simp_all; done) | (conv => whnf)) | fail))
  refine ⟨[], _, _, hR, ?_⟩
  (repeat' (first | exact True.intro | rfl | assumption | (refine And.intro ?_ ?_) | (intro _ _; rfl) | ((conv => whnf); (first | exact True.intro | (refine And.intro ?_ ?_)))))
def SSize : LSpec where
  X := Int × Nat × Int × Tab
  k := 2
  pre x := 8 ≤ x.2.1
  args _ θ := [.ptr (θ 0) 0]
  objs x θ := [tbC (θ 1) x.1 x.2.1 x.2.2.1, tbR x.2.1 x.2.2.2]
  out x θ R := R (i64 x.2.1) [some (tbC (θ 1) x.1 x.2.1 x.2.2.1), some (tbR x.2.1 x.2.2.2)]
theorem SSize_nt : SSize.Nt := ⟨fun _ _ => rfl, by unfold SSize; (intros; simp only [ren_all] at *; try assumption), by unfold SSize; (intros; simp only [ren_all] at *; try assumption)⟩
theorem SSize_ok : SSize.Ok Try.prog 13 := by
  refine LSpec.of_body noGo mixed conD Try.func13 rfl (by kernel_rfl) fun ⟨seed, m, n, D⟩ R h8 hR => ?_
  have h8 : 8 ≤ m := h8
  (conv => whnf)
  refine ⟨(seed, m, n, D), [0, 1], h8, rfl, by (repeat' (first | exact True.intro | rfl | assumption | (refine And.intro ?_ ?_) | (intro _ _; rfl) | ((conv => whnf); (first | exact True.intro | (refine And.intro ?_ ?_))))), by (repeat' (first | exact True.intro | rfl | assumption | (refine And.intro ?_ ?_) | (intro _ _; rfl) | ((conv => whnf); (first | exact True.intro | (refine And.intro ?_ ?_))))), ?_⟩
  (conv => whnf)
  (repeat' (first | (refine And.intro (fun hh => ?_) (fun hh => ?_) <;> first | (exfalso; simp [*] at hh; done) | (exfalso; simp_all; done) | (conv => whnf)) | fail))
  refine ⟨[], _, _, hR, ?_⟩
  (repeat' (first | exact True.intro | rfl | assumption | (refine And.intro ?_ ?_) | (intro _ _; rfl) | ((conv => whnf); (first | exact True.intro | (refine And.intro ?_ ?_)))))

theorem conG : ConOk Try.prog (conOf [(36, SZero.T), (49, inl Try.prog (conOf []) Try.f49)]) := conOf_cons (LSpec.call SZero_nt SZero_ok) (conOf_cons (inl_ok noGo mixed conOf_nil Try.func49 (by kernel_rfl)) conOf_nil)
def SCopy : LSpec where
  X := Int × Nat × Int × Tab
  k := 2
  pre x := 8 ≤ x.2.1 ∧ x.2.1 ≤ 32768
  args _ θ := [.ptr (θ 0) 0]
  objs x θ := [tbC (θ 1) x.1 x.2.1 x.2.2.1, tbR x.2.1 x.2.2.2]
  out x θ R := R (.ptr (θ 2) 0) [some (tbC (θ 1) x.1 x.2.1 x.2.2.1), some (tbR x.2.1 x.2.2.2), some (tbC (θ 3) x.1 x.2.1 x.2.2.1), some (tbR x.2.1 x.2.2.2)]
theorem SCopy_nt : SCopy.Nt := ⟨fun _ _ => rfl, by unfold SCopy; (intros; simp only [ren_all] at *; try assumption), by unfold SCopy; (intros; simp only [ren_all] at *; try assumption)⟩
theorem SCopy_ok : SCopy.Ok Try.prog 28 := by
  refine LSpec.of_body noGo mixed conG Try.func28 rfl (by kernel_rfl) fun ⟨seed, m, n, D⟩ R ⟨h8, hlt⟩ hR => ?_
  have h8 : 8 ≤ m := h8
  have hlt : m ≤ 32768 := hlt
  (conv => whnf)
  refine ⟨(seed, m, n, D), [0, 1], h8, rfl, by (repeat' (first | exact True.intro | rfl | assumption | (refine And.intro ?_ ?_) | (intro _ _; rfl) | ((conv => whnf); (first | exact True.intro | (refine And.intro ?_ ?_))))), by (repeat' (first | exact True.intro | rfl | assumption | (refine And.intro ?_ ?_) | (intro _ _; rfl) | ((conv => whnf); (first | exact True.intro | (refine And.intro ?_ ?_))))), ?_⟩
  (conv => whnf)
  (repeat' (first | (refine And.intro (fun hh => ?_) (fun hh => ?_) <;> first | (exfalso; simp [*] at hh; done) | (exfalso; simp_all; done) | (conv => whnf)) | fail))
  refine ⟨by show 0 < m; omega, ?_⟩
  (conv => whnf)
  refine ⟨some (fun q => cellV (D q)), ?_⟩
  (conv => whnf)
  refine ⟨by show 0 + m ≤ m; omega, by show 0 + 0 ≤ 0; omega, by show (0 + m) * (24 + 2) ≤ 1000000000; omega, fun q _ => ?_, ?_⟩
  · show cellV (D q) = appF 0 _ (fun q => cellV (D (0 + q))) q
    unfold appF
    rw [show Nat.blt q 0 = false from by cases hb : Nat.blt q 0 with | false => rfl | true => exact absurd (blt_lt hb) (by omega)]
    simp
  (conv => whnf)
  (repeat (first | refine And.intro rfl ?_ | fail))
  (conv => whnf)
  refine ⟨[some 4, some 3], _, _, hR, ?_⟩
  (repeat' (first | exact True.intro | rfl | assumption | (refine And.intro ?_ ?_) | (intro _ _; rfl) | ((conv => whnf); (first | exact True.intro | (refine And.intro ?_ ?_)))))
  all_goals exact (Nat.zero_add m).symm

def SNew : LSpec where
  X := Int
  k := 0
  pre _ := True
  args x _ := [u64 x]
  objs _ _ := []
  out x θ R := R (.ptr (θ 0) 0) [some (tbC (θ 1) x 8 0), some (tbR 8 fun _ => e0)]
theorem SNew_nt : SNew.Nt := ⟨fun _ _ => rfl, by unfold SNew; (intros; simp only [ren_all] at *; try assumption), by unfold SNew; (intros; simp only [ren_all] at *; try assumption)⟩
theorem SNew_ok : SNew.Ok Try.prog 9 := by
  refine LSpec.of_body noGo mixed conOf_nil Try.func9 rfl (by kernel_rfl) fun (seed : Int) R _ hR => ?_
  (conv => whnf)
  refine ⟨by decide, by decide, by decide, ?_⟩
  (conv => whnf)
  refine ⟨[some 1, some 0], _, _, hR, ?_⟩
  (repeat' (first | exact True.intro | rfl | assumption | (refine And.intro ?_ ?_) | (intro _ _; rfl) | ((conv => whnf); (first | exact True.intro | (refine And.intro ?_ ?_)))))
end Go.Proofs.Ytfkolddpfpjeeaa
