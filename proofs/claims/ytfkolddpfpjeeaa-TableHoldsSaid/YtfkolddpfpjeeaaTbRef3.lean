/- What the functions of tagcacheref10 compute: puts, looks, sets. -/
import Derived.Test.YtfkolddpfpjeeaaTbRef2
namespace Go.Proofs.Ytfkolddpfpjeeaa
open Go Sy Tb
set_option maxRecDepth 100000

theorem conM : ConOk Try.prog (conOf [(19, SKV.T), (29, SRFind.T), (30, SRLen.T), (31, SRResize.T), (32, SRFirst.T), (38, SRCopy.T)]) :=
  conOf_cons (LSpec.call SKV_nt SRV_ok) (conOf_cons (LSpec.call SRFind_nt SRFind_ok) (conOf_cons (LSpec.call SRLen_nt SRLen_ok) (conOf_cons (LSpec.call SRResize_nt SRResize_ok) (conOf_cons (LSpec.call SRFirst_nt SRFirst_ok) (conOf_cons (LSpec.call SRCopy_nt SRCopy_ok) conOf_nil)))))
/-- A key's only cell. -/
theorem WF.only {seed : Int} {m : Nat} {D : Tab} (w : WF m (hm seed m) D) {k : ByteArray} (hk : 0 < k.size) {i : Nat} (hi : i < m) (e : (D i).1 = k) : ∀ j, j < i → (D j).1 ≠ k := fun j hj e2 => by
  have := w.u i j hi (by omega) (free_key hk e) (by rw [e, e2])
  omega
def SRPut : LSpec where
  X := (Int × Nat × Tab) × ByteArray × Int
  k := 2
  pre x := TI x.1.1 x.1.2.1 (cnt x.1.2.2 x.1.2.1) x.1.2.2 ∧ cnt x.1.2.2 x.1.2.1 ≤ 10000 ∧ 2 * x.1.2.1 ≤ 32768
  args x θ := [rfV (θ 0) (θ 1) x.1.1 x.1.2.1, .str x.2.1, i64 x.2.2]
  objs x _ := [kR x.1.2.1 x.1.2.2, nR x.1.2.1 x.1.2.2]
  out x θ R := (chk x.2.1 x.2.2 ≠ 0 → R (.tup [rfV (θ 2) (θ 3) x.1.1 x.1.2.1, i64 2]) [none, none, some (kR x.1.2.1 x.1.2.2), some (nR x.1.2.1 x.1.2.2)]) ∧
    (chk x.2.1 x.2.2 = 0 → keyIn x.1.2.1 x.1.2.2 x.2.1 → R (.tup [rfV (θ 2) (θ 3) x.1.1 x.1.2.1, i64 11]) [none, none, some (kR x.1.2.1 x.1.2.2), some (nR x.1.2.1 x.1.2.2)]) ∧
    (chk x.2.1 x.2.2 = 0 → ¬ keyIn x.1.2.1 x.1.2.2 x.2.1 → R (.tup [rfV (θ 2) (θ 3) x.1.1 (putM x.1.2.1 x.1.2.2), i64 0]) [none, none, some (kR (putM x.1.2.1 x.1.2.2) (putT x.1.1 x.1.2.1 x.1.2.2 x.2.1 x.2.2)), some (nR (putM x.1.2.1 x.1.2.2) (putT x.1.1 x.1.2.1 x.1.2.2 x.2.1 x.2.2))])
theorem SRPut_nt : SRPut.Nt := ⟨fun _ _ => rfl, fun _ _ => rfl, fun _ _ _ h => h⟩
theorem SRPut_ok : SRPut.Ok Try.prog 11 := by
  refine LSpec.of_body noGo mixed conM Try.func11 rfl (by kernel_rfl) fun ⟨⟨seed, m, D⟩, k, v⟩ R ⟨ht, hcn, h2m⟩ ⟨hR0, hR1, hR2⟩ => ?_
  have ht : TI seed m (cnt D m) D := ht
  have hcn : cnt D m ≤ 10000 := hcn
  have h2m : 2 * m ≤ 32768 := h2m
  have hlt := ht.ok.lt
  (conv => whnf)
  refine ⟨k, [], trivial, rfl, by (repeat' (first | exact True.intro | rfl | assumption | (refine And.intro ?_ ?_) | (intro _ _; rfl) | ((conv => whnf); (first | exact True.intro | (refine And.intro ?_ ?_))))), by (repeat' (first | exact True.intro | rfl | assumption | (refine And.intro ?_ ?_) | (intro _ _; rfl) | ((conv => whnf); (first | exact True.intro | (refine And.intro ?_ ?_))))), ?_⟩
  by_cases hc : chk k v = 0
  · obtain ⟨hv, hnv⟩ := chk_ok hc
    have hnv2 : ¬ v < 0 := by omega
    (conv => whnf)
    (repeat' (first | (refine And.intro (fun hh => ?_) (fun hh => ?_) <;> first | (exfalso; simp [*] at hh; done) | (exfalso; simp_all; done) | (conv => whnf)) | fail))
    by_cases hkey : keyIn m D k
    · obtain ⟨i, hi, e⟩ := hkey
      refine ⟨((seed, m, D), k), [0, 1], hlt, rfl, by (repeat' (first | exact True.intro | rfl | assumption | (refine And.intro ?_ ?_) | (intro _ _; rfl) | ((conv => whnf); (first | exact True.intro | (refine And.intro ?_ ?_))))), by (repeat' (first | exact True.intro | rfl | assumption | (refine And.intro ?_ ?_) | (intro _ _; rfl) | ((conv => whnf); (first | exact True.intro | (refine And.intro ?_ ?_))))), fun hn => absurd ⟨i, hi, e⟩ hn, fun i' hi' e' hno => ?_⟩
      have f1 : (0 : Int) ≤ (i' : Int) := by omega
      (conv => whnf)
      (repeat' (first | (refine And.intro (fun hh => ?_) (fun hh => ?_) <;> first | (exfalso; simp [*] at hh; done) | (exfalso; simp_all; done) | (conv => whnf)) | fail))
      refine ⟨[some 0, some 1], _, _, hR1 hc ⟨i, hi, e⟩, ?_⟩
      (repeat' (first | exact True.intro | rfl | assumption | (refine And.intro ?_ ?_) | (intro _ _; rfl) | ((conv => whnf); (first | exact True.intro | (refine And.intro ?_ ?_)))))
    · refine ⟨((seed, m, D), k), [0, 1], hlt, rfl, by (repeat' (first | exact True.intro | rfl | assumption | (refine And.intro ?_ ?_) | (intro _ _; rfl) | ((conv => whnf); (first | exact True.intro | (refine And.intro ?_ ?_))))), by (repeat' (first | exact True.intro | rfl | assumption | (refine And.intro ?_ ?_) | (intro _ _; rfl) | ((conv => whnf); (first | exact True.intro | (refine And.intro ?_ ?_))))), fun _ => ?_, fun i' hi' e' hno => absurd ⟨i', hi', e'⟩ hkey⟩
      obtain ⟨a1, a2, a3, a4, a5, a6⟩ := ht.room hcn h2m
      have hw1 : IntKind.i64.wrap ((cnt D m : Int) + 1) = (cnt D m : Int) + 1 := wrap_id (by omega) (by omega)
      have hw2 : IntKind.i64.wrap (4 * IntKind.i64.wrap ((cnt D m : Int) + 1)) = 4 * ((cnt D m : Int) + 1) := by rw [hw1]; exact wrap_id (by omega) (by omega)
      have hw3 : IntKind.i64.wrap (3 * (m : Int)) = 3 * (m : Int) := wrap_id (by omega) (by omega)
      have hw4 : IntKind.i64.wrap (2 * (m : Int)) = ((2 * m : Nat) : Int) := by rw [wrap_id (by omega) (by omega)]; omega
      (conv => whnf)
      refine ⟨fun hh => absurd (of_decide_eq_true hh) (by decide), fun _ => ?_⟩
      (conv => whnf)
      refine ⟨(seed, m, D), [0, 1], hlt, rfl, by (repeat' (first | exact True.intro | rfl | assumption | (refine And.intro ?_ ?_) | (intro _ _; rfl) | ((conv => whnf); (first | exact True.intro | (refine And.intro ?_ ?_))))), by (repeat' (first | exact True.intro | rfl | assumption | (refine And.intro ?_ ?_) | (intro _ _; rfl) | ((conv => whnf); (first | exact True.intro | (refine And.intro ?_ ?_))))), ?_⟩
      (conv => whnf)
      (repeat (first | refine And.intro rfl ?_ | fail))
      (conv => whnf)
      constructor
      · intro h
        have h : decide (IntKind.i64.wrap (3 * (m : Int)) < IntKind.i64.wrap (4 * IntKind.i64.wrap ((cnt D m : Int) + 1))) = true := h
        rw [hw2, hw3] at h
        have h := of_decide_eq_true h
        have hpm : putM m D = 2 * m := if_pos (by omega)
        have hpd : putD0 seed m D = rsz (2 * m) (hm seed (2 * m)) D m := if_pos (by omega)
        have hpt : putT seed m D k v = ins (2 * m) (hm seed (2 * m)) (rsz (2 * m) (hm seed (2 * m)) D m) (k, v) := by unfold putT; rw [hpm, hpd]
        have hRR : R (.tup [rfV 2 3 seed (putM m D), i64 0]) [none, none, some (kR (putM m D) (putT seed m D k v)), some (nR (putM m D) (putT seed m D k v))] := hR2 hc hkey
        rw [hpt, hpm] at hRR
        rw [hpm] at a1 a2
        rw [hpd] at a2
        have hcm := cnt_le D m
        have h8 := ht.ok.le
        have hks : k.size ≤ 1000000 := by have := hv.2; omega
        (conv => whnf)
        refine ⟨((seed, m, D), 2 * m), [0, 1], ⟨hlt, a1, by show cnt D m < 2 * m; omega, ht.wf.u, ht.ksz⟩, rfl, ?_, by (repeat' (first | exact True.intro | rfl | assumption | (refine And.intro ?_ ?_) | (intro _ _; rfl) | ((conv => whnf); (first | exact True.intro | (refine And.intro ?_ ?_))))), ?_⟩
        · (repeat' (first | exact True.intro | rfl | assumption | (refine And.intro ?_ ?_) | (intro _ _; rfl) | ((conv => whnf); (first | exact True.intro | (refine And.intro ?_ ?_)))))
          exact hw4.symm
        (conv => whnf)
        refine ⟨((seed, 2 * m, rsz (2 * m) (hm seed (2 * m)) D m), k, v), [4, 5], ⟨a1, hks, a2.f⟩, rfl, by (repeat' (first | exact True.intro | rfl | assumption | (refine And.intro ?_ ?_) | (intro _ _; rfl) | ((conv => whnf); (first | exact True.intro | (refine And.intro ?_ ?_))))), by (repeat' (first | exact True.intro | rfl | assumption | (refine And.intro ?_ ?_) | (intro _ _; rfl) | ((conv => whnf); (first | exact True.intro | (refine And.intro ?_ ?_))))), ?_⟩
        (conv => whnf)
        refine ⟨[some 6, some 7], _, _, hRR, ?_⟩
        (repeat' (first | exact True.intro | rfl | assumption | (refine And.intro ?_ ?_) | (intro _ _; rfl) | ((conv => whnf); (first | exact True.intro | (refine And.intro ?_ ?_)))))
      · intro h
        have h : decide (IntKind.i64.wrap (3 * (m : Int)) < IntKind.i64.wrap (4 * IntKind.i64.wrap ((cnt D m : Int) + 1))) = false := h
        rw [hw2, hw3] at h
        have h := of_decide_eq_false h
        have hpm : putM m D = m := if_neg (by omega)
        have hpd : putD0 seed m D = D := if_neg (by omega)
        have hpt : putT seed m D k v = ins m (hm seed m) D (k, v) := by unfold putT; rw [hpm, hpd]
        have hRR : R (.tup [rfV 2 3 seed (putM m D), i64 0]) [none, none, some (kR (putM m D) (putT seed m D k v)), some (nR (putM m D) (putT seed m D k v))] := hR2 hc hkey
        rw [hpt, hpm] at hRR
        have hks : k.size ≤ 1000000 := by have := hv.2; omega
        (conv => whnf)
        refine ⟨((seed, m, D), k, v), [0, 1], ⟨ht.ok, hks, ht.wf.f⟩, rfl, by (repeat' (first | exact True.intro | rfl | assumption | (refine And.intro ?_ ?_) | (intro _ _; rfl) | ((conv => whnf); (first | exact True.intro | (refine And.intro ?_ ?_))))), by (repeat' (first | exact True.intro | rfl | assumption | (refine And.intro ?_ ?_) | (intro _ _; rfl) | ((conv => whnf); (first | exact True.intro | (refine And.intro ?_ ?_))))), ?_⟩
        (conv => whnf)
        refine ⟨[some 4, some 5], _, _, hRR, ?_⟩
        (repeat' (first | exact True.intro | rfl | assumption | (refine And.intro ?_ ?_) | (intro _ _; rfl) | ((conv => whnf); (first | exact True.intro | (refine And.intro ?_ ?_)))))
  · have e := chk_no hc
    by_cases hv : valid k
    · have hn : v < 0 := Decidable.byContradiction fun g => hc (if_neg fun q => q.elim (fun q => q hv) g)
      (conv => whnf)
      (repeat' (first | (refine And.intro (fun hh => ?_) (fun hh => ?_) <;> first | (exfalso; simp [*] at hh; done) | (exfalso; simp_all; done) | (conv => whnf)) | fail))
      refine ⟨[some 0, some 1], _, _, hR0 hc, ?_⟩
      (repeat' (first | exact True.intro | rfl | assumption | (refine And.intro ?_ ?_) | (intro _ _; rfl) | ((conv => whnf); (first | exact True.intro | (refine And.intro ?_ ?_)))))
    · (conv => whnf)
      (repeat' (first | (refine And.intro (fun hh => ?_) (fun hh => ?_) <;> first | (exfalso; simp [*] at hh; done) | (exfalso; simp_all; done) | (conv => whnf)) | fail))
      refine ⟨[some 0, some 1], _, _, hR0 hc, ?_⟩
      (repeat' (first | exact True.intro | rfl | assumption | (refine And.intro ?_ ?_) | (intro _ _; rfl) | ((conv => whnf); (first | exact True.intro | (refine And.intro ?_ ?_)))))

def SRGet : LSpec where
  X := (Int × Nat × Tab) × ByteArray
  k := 2
  pre x := TI x.1.1 x.1.2.1 (cnt x.1.2.2 x.1.2.1) x.1.2.2
  args x θ := [rfV (θ 0) (θ 1) x.1.1 x.1.2.1, .str x.2]
  objs x _ := [kR x.1.2.1 x.1.2.2, nR x.1.2.1 x.1.2.2]
  out x _ R := (chk x.2 0 ≠ 0 → R (.tup [i64 0, i64 2]) [some (kR x.1.2.1 x.1.2.2), some (nR x.1.2.1 x.1.2.2)]) ∧
    (chk x.2 0 = 0 → ¬ keyIn x.1.2.1 x.1.2.2 x.2 → R (.tup [i64 0, i64 9]) [some (kR x.1.2.1 x.1.2.2), some (nR x.1.2.1 x.1.2.2)]) ∧
    (chk x.2 0 = 0 → ∀ i, i < x.1.2.1 → (x.1.2.2 i).1 = x.2 → R (.tup [i64 (x.1.2.2 i).2, i64 0]) [some (kR x.1.2.1 x.1.2.2), some (nR x.1.2.1 x.1.2.2)])
theorem SRGet_nt : SRGet.Nt := ⟨fun _ _ => rfl, fun _ _ => rfl, fun _ _ _ h => h⟩
theorem chk_valid {k : ByteArray} : chk k 0 = 0 ↔ valid k := by
  unfold chk
  constructor
  · intro h
    split at h
    · omega
    · rename_i g; exact Decidable.byContradiction fun c => g (.inl c)
  · intro h
    exact if_neg fun g => g.elim (fun g => g h) (by omega)
theorem SRGet_ok : SRGet.Ok Try.prog 37 := by
  refine LSpec.of_body noGo mixed conM Try.func37 rfl (by kernel_rfl) fun ⟨⟨seed, m, D⟩, k⟩ R ht ⟨hR0, hR1, hR2⟩ => ?_
  have ht : TI seed m (cnt D m) D := ht
  have hlt := ht.ok.lt
  (conv => whnf)
  refine ⟨k, [], trivial, rfl, by (repeat' (first | exact True.intro | rfl | assumption | (refine And.intro ?_ ?_) | (intro _ _; rfl) | ((conv => whnf); (first | exact True.intro | (refine And.intro ?_ ?_))))), by (repeat' (first | exact True.intro | rfl | assumption | (refine And.intro ?_ ?_) | (intro _ _; rfl) | ((conv => whnf); (first | exact True.intro | (refine And.intro ?_ ?_))))), ?_⟩
  by_cases hv : valid k
  · have hc : chk k 0 = 0 := chk_valid.2 hv
    (conv => whnf)
    (repeat' (first | (refine And.intro (fun hh => ?_) (fun hh => ?_) <;> first | (exfalso; simp [*] at hh; done) | (exfalso; simp_all; done) | (conv => whnf)) | fail))
    by_cases hkey : keyIn m D k
    · obtain ⟨i, hi, e⟩ := hkey
      refine ⟨((seed, m, D), k), [0, 1], hlt, rfl, by (repeat' (first | exact True.intro | rfl | assumption | (refine And.intro ?_ ?_) | (intro _ _; rfl) | ((conv => whnf); (first | exact True.intro | (refine And.intro ?_ ?_))))), by (repeat' (first | exact True.intro | rfl | assumption | (refine And.intro ?_ ?_) | (intro _ _; rfl) | ((conv => whnf); (first | exact True.intro | (refine And.intro ?_ ?_))))), fun hn => absurd ⟨i, hi, e⟩ hn, fun i' hi' e' hno => ?_⟩
      have hi' : i' < m := hi'
      have f1 : ¬ (i' : Int) < 0 := by omega
      have ea := zero_add_toNat i'
      (conv => whnf)
      (repeat' (first | (refine And.intro (fun hh => ?_) (fun hh => ?_) <;> first | (exfalso; simp [*] at hh; done) | (exfalso; simp_all; done) | (conv => whnf)) | fail))
      refine ⟨by show (0 : Int) ≤ (i' : Int); omega, by show (i' : Int) < (m : Int); omega, ?_⟩
      (conv => whnf)
      refine ⟨by rw [ea]; exact hi', ?_⟩
      (conv => whnf)
      refine ⟨[], _, _, hR2 hc i' hi' e', ?_⟩
      (repeat' (first | exact True.intro | rfl | assumption | (refine And.intro ?_ ?_) | (intro _ _; rfl) | ((conv => whnf); (first | exact True.intro | (refine And.intro ?_ ?_)))))
      exact congrArg (fun q => (D q).2) ea.symm
    · refine ⟨((seed, m, D), k), [0, 1], hlt, rfl, by (repeat' (first | exact True.intro | rfl | assumption | (refine And.intro ?_ ?_) | (intro _ _; rfl) | ((conv => whnf); (first | exact True.intro | (refine And.intro ?_ ?_))))), by (repeat' (first | exact True.intro | rfl | assumption | (refine And.intro ?_ ?_) | (intro _ _; rfl) | ((conv => whnf); (first | exact True.intro | (refine And.intro ?_ ?_))))), fun _ => ?_, fun i' hi' e' hno => absurd ⟨i', hi', e'⟩ hkey⟩
      (conv => whnf)
      refine ⟨fun _ => ?_, fun hh => absurd (of_decide_eq_false hh) (by decide)⟩
      (conv => whnf)
      refine ⟨[], _, _, hR1 hc hkey, ?_⟩
      (repeat' (first | exact True.intro | rfl | assumption | (refine And.intro ?_ ?_) | (intro _ _; rfl) | ((conv => whnf); (first | exact True.intro | (refine And.intro ?_ ?_)))))
  · have hc : chk k 0 ≠ 0 := fun g => hv (chk_valid.1 g)
    (conv => whnf)
    (repeat' (first | (refine And.intro (fun hh => ?_) (fun hh => ?_) <;> first | (exfalso; simp [*] at hh; done) | (exfalso; simp_all; done) | (conv => whnf)) | fail))
    refine ⟨[], _, _, hR0 hc, ?_⟩
    (repeat' (first | exact True.intro | rfl | assumption | (refine And.intro ?_ ?_) | (intro _ _; rfl) | ((conv => whnf); (first | exact True.intro | (refine And.intro ?_ ?_)))))

def SRSet : LSpec where
  X := (Int × Nat × Tab) × ByteArray × Int
  k := 2
  pre x := TI x.1.1 x.1.2.1 (cnt x.1.2.2 x.1.2.1) x.1.2.2
  args x θ := [rfV (θ 0) (θ 1) x.1.1 x.1.2.1, .str x.2.1, i64 x.2.2]
  objs x _ := [kR x.1.2.1 x.1.2.2, nR x.1.2.1 x.1.2.2]
  out x θ R := (chk x.2.1 x.2.2 ≠ 0 → R (.tup [rfV (θ 2) (θ 3) x.1.1 x.1.2.1, i64 0, i64 2]) [none, none, some (kR x.1.2.1 x.1.2.2), some (nR x.1.2.1 x.1.2.2)]) ∧
    (chk x.2.1 x.2.2 = 0 → ¬ keyIn x.1.2.1 x.1.2.2 x.2.1 → R (.tup [rfV (θ 2) (θ 3) x.1.1 x.1.2.1, i64 0, i64 9]) [none, none, some (kR x.1.2.1 x.1.2.2), some (nR x.1.2.1 x.1.2.2)]) ∧
    (chk x.2.1 x.2.2 = 0 → ∀ i, i < x.1.2.1 → (x.1.2.2 i).1 = x.2.1 → R (.tup [rfV (θ 2) (θ 3) x.1.1 x.1.2.1, i64 (x.1.2.2 i).2, i64 0]) [none, none, some (kR x.1.2.1 (Tb.upd x.1.2.2 i ((x.1.2.2 i).1, x.2.2))), some (nR x.1.2.1 (Tb.upd x.1.2.2 i ((x.1.2.2 i).1, x.2.2)))])
theorem SRSet_nt : SRSet.Nt := ⟨fun _ _ => rfl, fun _ _ => rfl, fun _ _ _ h => h⟩
theorem SRSet_ok : SRSet.Ok Try.prog 48 := by
  refine LSpec.of_body noGo mixed conM Try.func48 rfl (by kernel_rfl) fun ⟨⟨seed, m, D⟩, k, v⟩ R ht ⟨hR0, hR1, hR2⟩ => ?_
  have ht : TI seed m (cnt D m) D := ht
  have hlt := ht.ok.lt
  (conv => whnf)
  refine ⟨k, [], trivial, rfl, by (repeat' (first | exact True.intro | rfl | assumption | (refine And.intro ?_ ?_) | (intro _ _; rfl) | ((conv => whnf); (first | exact True.intro | (refine And.intro ?_ ?_))))), by (repeat' (first | exact True.intro | rfl | assumption | (refine And.intro ?_ ?_) | (intro _ _; rfl) | ((conv => whnf); (first | exact True.intro | (refine And.intro ?_ ?_))))), ?_⟩
  by_cases hc : chk k v = 0
  · obtain ⟨hv, hnv⟩ := chk_ok hc
    have hnv2 : ¬ v < 0 := by omega
    (conv => whnf)
    (repeat' (first | (refine And.intro (fun hh => ?_) (fun hh => ?_) <;> first | (exfalso; simp [*] at hh; done) | (exfalso; simp_all; done) | (conv => whnf)) | fail))
    by_cases hkey : keyIn m D k
    · obtain ⟨i, hi, e⟩ := hkey
      refine ⟨((seed, m, D), k), [0, 1], hlt, rfl, by (repeat' (first | exact True.intro | rfl | assumption | (refine And.intro ?_ ?_) | (intro _ _; rfl) | ((conv => whnf); (first | exact True.intro | (refine And.intro ?_ ?_))))), by (repeat' (first | exact True.intro | rfl | assumption | (refine And.intro ?_ ?_) | (intro _ _; rfl) | ((conv => whnf); (first | exact True.intro | (refine And.intro ?_ ?_))))), fun hn => absurd ⟨i, hi, e⟩ hn, fun i' hi' e' hno => ?_⟩
      have hi' : i' < m := hi'
      have f1 : ¬ (i' : Int) < 0 := by omega
      have ea := zero_add_toNat i'
      have hRR : R (.tup [rfV 2 3 seed m, i64 (D i').2, i64 0]) [none, none, some (kR m (Tb.upd D i' ((D i').1, v))), some (nR m (Tb.upd D i' ((D i').1, v)))] := hR2 hc i' hi' e'
      have hku : ∀ q, (Tb.upd D i' ((D i').1, v) q).1 = (D q).1 := fun q => by
        unfold Tb.upd; split
        · rename_i g; rw [g]
        · rfl
      (conv => whnf)
      (repeat' (first | (refine And.intro (fun hh => ?_) (fun hh => ?_) <;> first | (exfalso; simp [*] at hh; done) | (exfalso; simp_all; done) | (conv => whnf)) | fail))
      refine ⟨(seed, m, D), [0, 1], ⟨ht.ok.le, hlt⟩, rfl, by (repeat' (first | exact True.intro | rfl | assumption | (refine And.intro ?_ ?_) | (intro _ _; rfl) | ((conv => whnf); (first | exact True.intro | (refine And.intro ?_ ?_))))), by (repeat' (first | exact True.intro | rfl | assumption | (refine And.intro ?_ ?_) | (intro _ _; rfl) | ((conv => whnf); (first | exact True.intro | (refine And.intro ?_ ?_))))), ?_⟩
      (conv => whnf)
      refine ⟨by show (0 : Int) ≤ (i' : Int); omega, by show (i' : Int) < (m : Int); omega, ?_⟩
      (conv => whnf)
      refine ⟨some (fun q => [.int .i64 (Tb.upd D i' ((D i').1, v) q).2]), ?_⟩
      (conv => whnf)
      refine ⟨by rw [ea]; exact hi', ?_⟩
      (conv => whnf)
      refine ⟨fun q _ => ?_, ?_⟩
      · show [V.int .i64 (Tb.upd D i' ((D i').1, v) q).2] = bif Nat.beq q (0 + (i' : Int).toNat) then putD 0 [V.int .i64 (D q).2] [.int .i64 v] else [V.int .i64 (D q).2]
        rw [ea]
        exact num_view _ _ _ _
      (conv => whnf)
      refine ⟨by show (0 : Int) ≤ (i' : Int); omega, by show (i' : Int) < (m : Int); omega, ?_⟩
      (conv => whnf)
      refine ⟨by rw [ea]; exact hi', ?_⟩
      (conv => whnf)
      (repeat (first | refine And.intro rfl ?_ | fail))
      (conv => whnf)
      refine ⟨[some 4, some 5], _, _, hRR, ?_⟩
      (repeat' (first | exact True.intro | rfl | assumption | (refine And.intro ?_ ?_) | (intro _ _; rfl) | ((conv => whnf); (first | exact True.intro | (refine And.intro ?_ ?_)))))
      · exact fun j _ => congrArg (fun b => [V.str b]) (hku j)
      · exact congrArg (fun q => (D q).2) ea.symm
    · refine ⟨((seed, m, D), k), [0, 1], hlt, rfl, by (repeat' (first | exact True.intro | rfl | assumption | (refine And.intro ?_ ?_) | (intro _ _; rfl) | ((conv => whnf); (first | exact True.intro | (refine And.intro ?_ ?_))))), by (repeat' (first | exact True.intro | rfl | assumption | (refine And.intro ?_ ?_) | (intro _ _; rfl) | ((conv => whnf); (first | exact True.intro | (refine And.intro ?_ ?_))))), fun _ => ?_, fun i' hi' e' hno => absurd ⟨i', hi', e'⟩ hkey⟩
      (conv => whnf)
      refine ⟨fun _ => ?_, fun hh => absurd (of_decide_eq_false hh) (by decide)⟩
      (conv => whnf)
      refine ⟨[some 0, some 1], _, _, hR1 hc hkey, ?_⟩
      (repeat' (first | exact True.intro | rfl | assumption | (refine And.intro ?_ ?_) | (intro _ _; rfl) | ((conv => whnf); (first | exact True.intro | (refine And.intro ?_ ?_)))))
  · have e := chk_no hc
    by_cases hv : valid k
    · have hn : v < 0 := Decidable.byContradiction fun g => hc (if_neg fun q => q.elim (fun q => q hv) g)
      (conv => whnf)
      (repeat' (first | (refine And.intro (fun hh => ?_) (fun hh => ?_) <;> first | (exfalso; simp [*] at hh; done) | (exfalso; simp_all; done) | (conv => whnf)) | fail))
      refine ⟨[some 0, some 1], _, _, hR0 hc, ?_⟩
      (repeat' (first | exact True.intro | rfl | assumption | (refine And.intro ?_ ?_) | (intro _ _; rfl) | ((conv => whnf); (first | exact True.intro | (refine And.intro ?_ ?_)))))
    · (conv => whnf)
      (repeat' (first | (refine And.intro (fun hh => ?_) (fun hh => ?_) <;> first | (exfalso; simp [*] at hh; done) | (exfalso; simp_all; done) | (conv => whnf)) | fail))
      refine ⟨[some 0, some 1], _, _, hR0 hc, ?_⟩
      (repeat' (first | exact True.intro | rfl | assumption | (refine And.intro ?_ ?_) | (intro _ _; rfl) | ((conv => whnf); (first | exact True.intro | (refine And.intro ?_ ?_)))))

def SRNew : LSpec where
  X := Int
  k := 0
  pre _ := True
  args x _ := [u64 x]
  objs _ _ := []
  out x θ R := R (rfV (θ 0) (θ 1) x 8) [some (kR 8 fun _ => e0), some (nR 8 fun _ => e0)]
theorem SRNew_nt : SRNew.Nt := ⟨fun _ _ => rfl, fun _ _ => rfl, fun _ _ _ h => h⟩
theorem SRNew_ok : SRNew.Ok Try.prog 10 := by
  refine LSpec.of_body noGo mixed conOf_nil Try.func10 rfl (by kernel_rfl) fun (seed : Int) R _ hR => ?_
  (conv => whnf)
  repeat' (first | decide | exact rfl | refine And.intro ?_ ?_ | ((conv => whnf); refine And.intro ?_ ?_))
  all_goals (conv => whnf)
  all_goals first | (refine ⟨[some 1, some 2], _, _, hR, ?_⟩; (repeat' (first | exact True.intro | rfl | assumption | (refine And.intro ?_ ?_) | (intro _ _; rfl) | ((conv => whnf); (first | exact True.intro | (refine And.intro ?_ ?_))))); done) | (refine ⟨[some 2, some 1], _, _, hR, ?_⟩; (repeat' (first | exact True.intro | rfl | assumption | (refine And.intro ?_ ?_) | (intro _ _; rfl) | ((conv => whnf); (first | exact True.intro | (refine And.intro ?_ ?_))))); done)
end Go.Proofs.Ytfkolddpfpjeeaa
