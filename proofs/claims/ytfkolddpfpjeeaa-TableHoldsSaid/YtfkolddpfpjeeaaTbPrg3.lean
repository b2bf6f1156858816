/- What the functions of package table compute: the questions. -/
import Derived.Test.YtfkolddpfpjeeaaTbPrg2
namespace Go.Proofs.Ytfkolddpfpjeeaa
open Go Sy Tb
set_option maxRecDepth 100000

def valid (k : ByteArray) : Prop := 0 < k.size ∧ k.size ≤ 250
instance (k : ByteArray) : Decidable (valid k) := by unfold valid; infer_instance
def SKV : LSpec where
  X := ByteArray
  k := 0
  pre _ := True
  args x _ := [.str x]
  objs _ _ := []
  out x _ R := R (.sb (decide (valid x))) []
theorem SKV_nt : SKV.Nt := ⟨fun _ _ => rfl, by unfold SKV; (intros; simp only [ren_all] at *; try assumption), by unfold SKV; (intros; simp only [ren_all] at *; try assumption)⟩
theorem SKV_ok : SKV.Ok Try.prog 50 := by
  refine LSpec.of_body noGo mixed conOf_nil Try.func50 rfl (by kernel_rfl) fun (k : ByteArray) R hp hR => ?_
  (conv => whnf)
  constructor
  · intro h
    have h : (0 : Int) < (k.size : Int) := of_decide_eq_true h
    (conv => whnf)
    refine ⟨[], _, _, hR, ?_⟩
    (repeat' (first | exact True.intro | rfl | assumption | (refine And.intro ?_ ?_) | (intro _ _; rfl) | ((conv => whnf); (first | exact True.intro | (refine And.intro ?_ ?_)))))
    show decide (valid k) = decide ((k.size : Int) ≤ 250)
    exact decide_eq_decide.2 ⟨fun g => by have := g.2; omega, fun g => ⟨by omega, by omega⟩⟩
  · intro h
    have h : ¬ (0 : Int) < (k.size : Int) := of_decide_eq_false h
    (conv => whnf)
    refine ⟨[], _, _, hR, ?_⟩
    (repeat' (first | exact True.intro | rfl | assumption | (refine And.intro ?_ ?_) | (intro _ _; rfl) | ((conv => whnf); (first | exact True.intro | (refine And.intro ?_ ?_)))))
    show decide (valid k) = false
    exact decide_eq_false fun g => by have := g.1; omega
theorem SRV_ok : SKV.Ok Try.prog 19 := by
  refine LSpec.of_body noGo mixed conOf_nil Try.func19 rfl (by kernel_rfl) fun (k : ByteArray) R hp hR => ?_
  (conv => whnf)
  constructor
  · intro h
    have h : (1 : Int) ≤ (k.size : Int) := of_decide_eq_true h
    (conv => whnf)
    refine ⟨[], _, _, hR, ?_⟩
    (repeat' (first | exact True.intro | rfl | assumption | (refine And.intro ?_ ?_) | (intro _ _; rfl) | ((conv => whnf); (first | exact True.intro | (refine And.intro ?_ ?_)))))
    show decide (valid k) = decide ((k.size : Int) ≤ 250)
    exact decide_eq_decide.2 ⟨fun g => by have := g.2; omega, fun g => ⟨by omega, by omega⟩⟩
  · intro h
    have h : ¬ (1 : Int) ≤ (k.size : Int) := of_decide_eq_false h
    (conv => whnf)
    refine ⟨[], _, _, hR, ?_⟩
    (repeat' (first | exact True.intro | rfl | assumption | (refine And.intro ?_ ?_) | (intro _ _; rfl) | ((conv => whnf); (first | exact True.intro | (refine And.intro ?_ ?_)))))
    show decide (valid k) = false
    exact decide_eq_false fun g => by have := g.1; omega

def SZero : LSpec where
  X := Int × Nat × Int × Tab
  k := 2
  pre x := 8 ≤ x.2.1
  args _ θ := [.ptr (θ 0) 0]
  objs x θ := [tbC (θ 1) x.1 x.2.1 x.2.2.1, tbR x.2.1 x.2.2.2]
  out x θ R := R (.sb false) [some (tbC (θ 1) x.1 x.2.1 x.2.2.1), some (tbR x.2.1 x.2.2.2)]
theorem SZero_nt : SZero.Nt := ⟨fun _ _ => rfl, by unfold SZero; (intros; simp only [ren_all] at *; try assumption), by unfold SZero; (intros; simp only [ren_all] at *; try assumption)⟩
theorem SZero_ok : SZero.Ok Try.prog 36 := by
  refine LSpec.of_body noGo mixed conOf_nil Try.func36 rfl (by kernel_rfl) fun ⟨seed, m, n, D⟩ R h8 hR => ?_
  have h8 : 8 ≤ m := h8
  (conv => whnf)
  refine ⟨[], _, _, hR, ?_⟩
  (repeat' (first | exact True.intro | rfl | assumption | (refine And.intro ?_ ?_) | (intro _ _; rfl) | ((conv => whnf); (first | exact True.intro | (refine And.intro ?_ ?_)))))
  show false = decide ((m : Int) = 0)
  exact (decide_eq_false (by omega)).symm

theorem conD : ConOk Try.prog (conOf [(50, SKV.T), (36, SZero.T)]) := conOf_cons (LSpec.call SKV_nt SKV_ok) (conOf_cons (LSpec.call SZero_nt SZero_ok) conOf_nil)
def chk (k : ByteArray) (n : Int) : Int := if ¬ valid k ∨ n < 0 then 2 else 0
def SChk : LSpec where
  X := (Int × Nat × Int × Tab) × ByteArray × Int
  k := 2
  pre x := 8 ≤ x.1.2.1
  args x θ := [.ptr (θ 0) 0, .str x.2.1, i64 x.2.2]
  objs x θ := [tbC (θ 1) x.1.1 x.1.2.1 x.1.2.2.1, tbR x.1.2.1 x.1.2.2.2]
  out x θ R := R (i64 (chk x.2.1 x.2.2)) [some (tbC (θ 1) x.1.1 x.1.2.1 x.1.2.2.1), some (tbR x.1.2.1 x.1.2.2.2)]
theorem SChk_nt : SChk.Nt := ⟨fun _ _ => rfl, by unfold SChk; (intros; simp only [ren_all] at *; try assumption), by unfold SChk; (intros; simp only [ren_all] at *; try assumption)⟩
theorem SChk_ok : SChk.Ok Try.prog 33 := by
  refine LSpec.of_body noGo mixed conD Try.func33 rfl (by kernel_rfl) fun ⟨⟨seed, m, n, D⟩, k, v⟩ R h8 hR => ?_
  have h8 : 8 ≤ m := h8
  (conv => whnf)
  refine ⟨(seed, m, n, D), [0, 1], h8, rfl, by (repeat' (first | exact True.intro | rfl | assumption | (refine And.intro ?_ ?_) | (intro _ _; rfl) | ((conv => whnf); (first | exact True.intro | (refine And.intro ?_ ?_))))), by (repeat' (first | exact True.intro | rfl | assumption | (refine And.intro ?_ ?_) | (intro _ _; rfl) | ((conv => whnf); (first | exact True.intro | (refine And.intro ?_ ?_))))), ?_⟩
  (conv => whnf)
  (repeat' (first | (refine And.intro (fun hh => ?_) (fun hh => ?_) <;> first | (exfalso; simp [*] at hh; done) | (exfalso; simp_all; done) | (conv => whnf)) | fail))
  refine ⟨k, [], trivial, rfl, by (repeat' (first | exact True.intro | rfl | assumption | (refine And.intro ?_ ?_) | (intro _ _; rfl) | ((conv => whnf); (first | exact True.intro | (refine And.intro ?_ ?_))))), by (repeat' (first | exact True.intro | rfl | assumption | (refine And.intro ?_ ?_) | (intro _ _; rfl) | ((conv => whnf); (first | exact True.intro | (refine And.intro ?_ ?_))))), ?_⟩
  by_cases hv : valid k
  · by_cases hn : v < 0
    · have e : chk k v = 2 := if_pos (.inr hn)
      (conv => whnf)
      (repeat' (first | (refine And.intro (fun hh => ?_) (fun hh => ?_) <;> first | (exfalso; simp [*] at hh; done) | (exfalso; simp_all; done) | (conv => whnf)) | fail))
      refine ⟨[], _, _, hR, ?_⟩
      (repeat' (first | exact True.intro | rfl | assumption | (refine And.intro ?_ ?_) | (intro _ _; rfl) | ((conv => whnf); (first | exact True.intro | (refine And.intro ?_ ?_)))))
    · have e : chk k v = 0 := if_neg fun g => g.elim (fun g => g hv) hn
      (conv => whnf)
      (repeat' (first | (refine And.intro (fun hh => ?_) (fun hh => ?_) <;> first | (exfalso; simp [*] at hh; done) | (exfalso; simp_all; done) | (conv => whnf)) | fail))
      refine ⟨[], _, _, hR, ?_⟩
      (repeat' (first | exact True.intro | rfl | assumption | (refine And.intro ?_ ?_) | (intro _ _; rfl) | ((conv => whnf); (first | exact True.intro | (refine And.intro ?_ ?_)))))
  · have e : chk k v = 2 := if_pos (.inl hv)
    (conv => whnf)
    (repeat' (first | (refine And.intro (fun hh => ?_) (fun hh => ?_) <;> first | (exfalso; simp [*] at hh; done) | (exfalso; simp_all; done) | (conv => whnf)) | fail))
    refine ⟨[], _, _, hR, ?_⟩
    (repeat' (first | exact True.intro | rfl | assumption | (refine And.intro ?_ ?_) | (intro _ _; rfl) | ((conv => whnf); (first | exact True.intro | (refine And.intro ?_ ?_)))))
theorem chk_ok {k : ByteArray} {n : Int} (h : chk k n = 0) : valid k ∧ 0 ≤ n := by
  unfold chk at h
  split at h
  · omega
  · rename_i g
    exact ⟨Decidable.byContradiction fun c => g (.inl c), by omega⟩
theorem chk_no {k : ByteArray} {n : Int} (h : chk k n ≠ 0) : chk k n = 2 := by
  unfold chk at h ⊢
  split
  · rfl
  · rename_i g; rw [if_neg g] at h; exact absurd rfl h

theorem conE : ConOk Try.prog (conOf [(33, SChk.T), (34, SFind.T)]) := conOf_cons (LSpec.call SChk_nt SChk_ok) (conOf_cons (LSpec.call SFind_nt SFind_ok) conOf_nil)
def SAt : LSpec where
  X := (Int × Nat × Int × Tab) × ByteArray × Int
  k := 2
  pre x := TI x.1.1 x.1.2.1 x.1.2.2.1 x.1.2.2.2
  args x θ := [.ptr (θ 0) 0, .str x.2.1, i64 x.2.2]
  objs x θ := [tbC (θ 1) x.1.1 x.1.2.1 x.1.2.2.1, tbR x.1.2.1 x.1.2.2.2]
  out x θ R := (chk x.2.1 x.2.2 ≠ 0 → R (.tup [i64 0, i64 2]) [some (tbC (θ 1) x.1.1 x.1.2.1 x.1.2.2.1), some (tbR x.1.2.1 x.1.2.2.2)]) ∧
    (chk x.2.1 x.2.2 = 0 → ¬ keyIn x.1.2.1 x.1.2.2.2 x.2.1 → R (.tup [i64 0, i64 9]) [some (tbC (θ 1) x.1.1 x.1.2.1 x.1.2.2.1), some (tbR x.1.2.1 x.1.2.2.2)]) ∧
    (chk x.2.1 x.2.2 = 0 → ∀ i, i < x.1.2.1 → (x.1.2.2.2 i).1 = x.2.1 → R (.tup [i64 (i : Nat), i64 0]) [some (tbC (θ 1) x.1.1 x.1.2.1 x.1.2.2.1), some (tbR x.1.2.1 x.1.2.2.2)])
theorem SAt_nt : SAt.Nt := ⟨fun _ _ => rfl, by unfold SAt; (intros; simp only [ren_all] at *; try assumption), by unfold SAt; (intros; simp only [ren_all] at *; try assumption)⟩
theorem SAt_ok : SAt.Ok Try.prog 42 := by
  refine LSpec.of_body noGo mixed conE Try.func42 rfl (by kernel_rfl) fun ⟨⟨seed, m, n, D⟩, k, v⟩ R ht ⟨hR0, hR1, hR2⟩ => ?_
  have ht : TI seed m n D := ht
  (conv => whnf)
  refine ⟨((seed, m, n, D), k, v), [0, 1], ht.ok.le, rfl, by (repeat' (first | exact True.intro | rfl | assumption | (refine And.intro ?_ ?_) | (intro _ _; rfl) | ((conv => whnf); (first | exact True.intro | (refine And.intro ?_ ?_))))), by (repeat' (first | exact True.intro | rfl | assumption | (refine And.intro ?_ ?_) | (intro _ _; rfl) | ((conv => whnf); (first | exact True.intro | (refine And.intro ?_ ?_))))), ?_⟩
  by_cases hc : chk k v = 0
  · (conv => whnf)
    obtain ⟨hv, hn⟩ := chk_ok hc
    (repeat' (first | (refine And.intro (fun hh => ?_) (fun hh => ?_) <;> first | (exfalso; simp [*] at hh; done) | (exfalso; simp_all; done) | (conv => whnf)) | fail))
    have hk : k.size ≤ 1000000 := by have := hv.2; omega
    by_cases hkey : keyIn m D k
    · obtain ⟨i, hi, e⟩ := hkey
      obtain ⟨hfa, e2⟩ := finds_key ht.wf hv.1 hi e
      have hff := free_key hv.1 e
      refine ⟨((seed, m, n, D), k, way m (hm seed m k) i), [0, 1], ⟨ht.ok, hk, hfa⟩, rfl, by (repeat' (first | exact True.intro | rfl | assumption | (refine And.intro ?_ ?_) | (intro _ _; rfl) | ((conv => whnf); (first | exact True.intro | (refine And.intro ?_ ?_))))), by (repeat' (first | exact True.intro | rfl | assumption | (refine And.intro ?_ ?_) | (intro _ _; rfl) | ((conv => whnf); (first | exact True.intro | (refine And.intro ?_ ?_))))), ?_⟩
      have e3 : (!free (D (ad m (hm seed m k) (way m (hm seed m k) i)))) = true := by rw [e2, hff]; rfl
      (conv => whnf)
      (repeat' (first | (refine And.intro (fun hh => ?_) (fun hh => ?_) <;> first | (exfalso; simp [*] at hh; done) | (exfalso; simp_all; done) | (conv => whnf)) | fail))
      refine ⟨[], _, _, hR2 hc i hi e, ?_⟩
      (repeat' (first | exact True.intro | rfl | assumption | (refine And.intro ?_ ?_) | (intro _ _; rfl) | ((conv => whnf); (first | exact True.intro | (refine And.intro ?_ ?_)))))
      exact congrArg (fun n : Nat => (n : Int)) e2.symm
    · refine ⟨((seed, m, n, D), k, frd m D (hm seed m k)), [0, 1], ⟨ht.ok, hk, finds_free ht.wf hkey⟩, rfl, by (repeat' (first | exact True.intro | rfl | assumption | (refine And.intro ?_ ?_) | (intro _ _; rfl) | ((conv => whnf); (first | exact True.intro | (refine And.intro ?_ ?_))))), by (repeat' (first | exact True.intro | rfl | assumption | (refine And.intro ?_ ?_) | (intro _ _; rfl) | ((conv => whnf); (first | exact True.intro | (refine And.intro ?_ ?_))))), ?_⟩
      have e3 : (!free (D (ad m (hm seed m k) (frd m D (hm seed m k))))) = false := by rw [(frd_ok (ht.wf.hlt k) ht.wf.f).2.1]; rfl
      (conv => whnf)
      (repeat' (first | (refine And.intro (fun hh => ?_) (fun hh => ?_) <;> first | (exfalso; simp [*] at hh; done) | (exfalso; simp_all; done) | (conv => whnf)) | fail))
      refine ⟨[], _, _, hR1 hc hkey, ?_⟩
      (repeat' (first | exact True.intro | rfl | assumption | (refine And.intro ?_ ?_) | (intro _ _; rfl) | ((conv => whnf); (first | exact True.intro | (refine And.intro ?_ ?_)))))
  · have e := chk_no hc
    (conv => whnf)
    (repeat' (first | (refine And.intro (fun hh => ?_) (fun hh => ?_) <;> first | (exfalso; simp [*] at hh; done) | (exfalso; simp_all; done) | (conv => whnf)) | fail))
    refine ⟨[], _, _, hR0 hc, ?_⟩
    (repeat' (first | exact True.intro | rfl | assumption | (refine And.intro ?_ ?_) | (intro _ _; rfl) | ((conv => whnf); (first | exact True.intro | (refine And.intro ?_ ?_)))))
    exact e.symm
end Go.Proofs.Ytfkolddpfpjeeaa
