/- What the law's functions compute: the small ones. -/
import Derived.Test.YtfkolddpfpjeeaaTbRef4
namespace Go.Proofs.Ytfkolddpfpjeeaa
open Go Sy Tb
set_option maxRecDepth 100000

def SCells : LSpec where
  X := Int × Nat × Int × Tab
  k := 2
  pre x := 8 ≤ x.2.1 ∧ x.2.1 ≤ 32768
  args _ θ := [.ptr (θ 0) 0]
  objs x θ := [tbC (θ 1) x.1 x.2.1 x.2.2.1, tbR x.2.1 x.2.2.2]
  out x θ R := R (.tup [.sl (θ 2) 0 1 x.2.1 false, .sl (θ 3) 0 1 x.2.1 false]) [some (tbC (θ 1) x.1 x.2.1 x.2.2.1), some (tbR x.2.1 x.2.2.2), some (kR x.2.1 x.2.2.2), some (nR x.2.1 x.2.2.2)]
theorem SCells_nt : SCells.Nt := ⟨fun _ _ => rfl, fun _ _ => rfl, fun _ _ _ h => h⟩
theorem str_push (D : Tab) (i q : Nat) : [V.str (D q).1] = bif Nat.blt q i then [V.str (D (0 + q)).1] else [V.str (D q).1] := by
  rw [Nat.zero_add]; cases Nat.blt q i <;> rfl
theorem row_push {f : Nat → List V} {v : V} {i : Nat} (h : f i = [v]) (q : Nat) (hq : q < i + 1) : f q = appF i (fun q => f (0 + q)) (fun q => chunk [v] 1 (0 + q)) q := by
  unfold appF
  rcases Nat.lt_or_ge q i with a | a
  · rw [show Nat.blt q i = true from Nat.ble_eq_true_of_le a]
    simp
  · have e : q = i := by omega
    subst e
    rw [show Nat.blt q q = false from by cases hb : Nat.blt q q with | false => rfl | true => exact absurd (blt_lt hb) (by omega)]
    simp [h, chunk]
theorem SCells_ok : SCells.Ok Try.prog 24 := by
  refine LSpec.of_bodyC [8] noGo mixed conD Try.func24 rfl (by kernel_rfl) fun ⟨seed, m, n, D⟩ R ⟨h8, hlt⟩ hR => ?_
  have h8 : 8 ≤ m := h8
  have hlt : m ≤ 32768 := hlt
  (conv => whnf)
  refine ⟨(seed, m, n, D), [0, 1], h8, rfl, by (repeat' (first | exact True.intro | rfl | assumption | (refine And.intro ?_ ?_) | (intro _ _; rfl) | ((conv => whnf); (first | exact True.intro | (refine And.intro ?_ ?_))))), by (repeat' (first | exact True.intro | rfl | assumption | (refine And.intro ?_ ?_) | (intro _ _; rfl) | ((conv => whnf); (first | exact True.intro | (refine And.intro ?_ ?_))))), ?_⟩
  (conv => whnf)
  (repeat' (first | (refine And.intro (fun hh => ?_) (fun hh => ?_) <;> first | (exfalso; simp [*] at hh; done) | (exfalso; simp_all; done) | (conv => whnf)) | fail))
  refine .inl ⟨Nat, fun i => [(4, .sl 2 0 1 i false), (5, .sl 3 0 1 i false), (14, .sl 1 0 2 m false), (15, i64 m), (16, i64 i)], fun i => [some (tbC 1 seed m n), some (tbR m D), some (kR i D), some (nR i D)], fun i => m - i, fun i => i ≤ m, 4, ⟨0, [none, none], Nat.zero_le _, ?_⟩, fun _ => rfl, fun i hi => ?_⟩
  · (repeat' (first | exact True.intro | rfl | assumption | (refine And.intro ?_ ?_) | (intro _ _; rfl) | ((conv => whnf); (first | exact True.intro | (refine And.intro ?_ ?_)))))
  have hi : i ≤ m := hi
  (conv => whnf)
  constructor
  · intro h
    (conv => whnf)
    have hi2 := dec_lt h
    have ea := zero_add_toNat i
    have e1 : D (0 + (i : Int).toNat) = D i := by rw [ea]
    refine ⟨Unit, fun _ => [(4, .sl 2 0 1 (i + 1) false), (5, .sl 3 0 1 (i + 1) false), (14, .sl 1 0 2 m false), (15, i64 m), (16, i64 i)], fun _ => [some (tbC 1 seed m n), some (tbR m D), some (kR (i + 1) D), some (nR (i + 1) D)], fun _ => True, 4, fun _ => rfl, ?_, fun _ _ => ?_⟩
    · (conv => whnf)
      refine ⟨by simp, by simpa using h, by simpa using h, ?_⟩
      (conv => whnf)
      repeat' (first | exact rfl | (refine ⟨some (fun q => [V.str (D q).1]), ?_⟩; (conv => whnf); refine ⟨by decide, by show 0 + i ≤ i; omega, by show (i + 1) * (16 + 1) ≤ 1000000000; omega, fun q hq => row_push (f := fun q => [V.str (D q).1]) (v := V.str (D (0 + (i : Int).toNat)).1) (by show [V.str (D i).1] = _; rw [e1]) q hq, ?_⟩) | (refine ⟨some (fun q => [V.int .i64 (D q).2]), ?_⟩; (conv => whnf); refine ⟨by decide, by show 0 + i ≤ i; omega, by show (i + 1) * (8 + 1) ≤ 1000000000; omega, fun q hq => row_push (f := fun q => [V.int .i64 (D q).2]) (v := V.int .i64 (D (0 + (i : Int).toNat)).2) (by show [V.int .i64 (D i).2] = _; rw [e1]) q hq, ?_⟩) | refine And.intro ?_ ?_ | ((conv => whnf); refine And.intro ?_ ?_))
      all_goals (conv => whnf)
      all_goals first | (refine ⟨(), [some 6, some 8], trivial, ?_⟩; (repeat' (first | exact True.intro | rfl | assumption | (refine And.intro ?_ ?_) | (intro _ _; rfl) | ((conv => whnf); (first | exact True.intro | (refine And.intro ?_ ?_))))); done) | (refine ⟨(), [some 7, some 8], trivial, ?_⟩; (repeat' (first | exact True.intro | rfl | assumption | (refine And.intro ?_ ?_) | (intro _ _; rfl) | ((conv => whnf); (first | exact True.intro | (refine And.intro ?_ ?_))))); done) | (refine ⟨(), [some 8, some 7], trivial, ?_⟩; (repeat' (first | exact True.intro | rfl | assumption | (refine And.intro ?_ ?_) | (intro _ _; rfl) | ((conv => whnf); (first | exact True.intro | (refine And.intro ?_ ?_))))); done) | (refine ⟨(), [some 8, some 6], trivial, ?_⟩; (repeat' (first | exact True.intro | rfl | assumption | (refine And.intro ?_ ?_) | (intro _ _; rfl) | ((conv => whnf); (first | exact True.intro | (refine And.intro ?_ ?_))))); done) | trace_state
    · (conv => whnf)
      refine ⟨i + 1, [some 2, some 3], by show m - (i + 1) < m - i; omega, by show i + 1 ≤ m; omega, ?_⟩
      (repeat' (first | exact True.intro | rfl | assumption | (refine And.intro ?_ ?_) | (intro _ _; rfl) | ((conv => whnf); (first | exact True.intro | (refine And.intro ?_ ?_)))))
      exact (wrap_inc hi2 (by omega)).symm
  · intro h
    (conv => whnf)
    have hi2 : i = m := by have := dec_ge h; omega
    subst hi2
    refine ⟨[some 2, some 3], _, _, hR, ?_⟩
    (repeat' (first | exact True.intro | rfl | assumption | (refine And.intro ?_ ?_) | (intro _ _; rfl) | ((conv => whnf); (first | exact True.intro | (refine And.intro ?_ ?_)))))

def SKSame : LSpec where
  X := Nat × Tab
  k := 2
  pre x := x.1 ≤ 32768
  args x θ := [.sl (θ 0) 0 1 x.1 false, .sl (θ 1) 0 1 x.1 false]
  objs x _ := [kR x.1 x.2, kR x.1 x.2]
  out x _ R := R (.sb true) [some (kR x.1 x.2), some (kR x.1 x.2)]
theorem SKSame_nt : SKSame.Nt := ⟨fun _ _ => rfl, fun _ _ => rfl, fun _ _ _ h => h⟩
theorem SKSame_ok : SKSame.Ok Try.prog 41 := by
  refine LSpec.of_body noGo mixed conOf_nil Try.func41 rfl (by kernel_rfl) fun ⟨m, D⟩ R hlt hR => ?_
  have hlt : m ≤ 32768 := hlt
  (conv => whnf)
  (repeat' (first | (refine And.intro (fun hh => ?_) (fun hh => ?_) <;> first | (exfalso; simp [*] at hh; done) | (exfalso; simp_all; done) | (conv => whnf)) | fail))
  refine .inl ⟨Nat, fun i => [(0, .sl 0 0 1 m false), (1, .sl 1 0 1 m false), (5, i64 i)], fun _ => [some (kR m D), some (kR m D)], fun i => m - i, fun i => i ≤ m, 2, ⟨0, [], Nat.zero_le _, ?_⟩, fun _ => rfl, fun i hi => ?_⟩
  · (repeat' (first | exact True.intro | rfl | assumption | (refine And.intro ?_ ?_) | (intro _ _; rfl) | ((conv => whnf); (first | exact True.intro | (refine And.intro ?_ ?_)))))
  have hi : i ≤ m := hi
  (conv => whnf)
  constructor
  · intro h
    (conv => whnf)
    have hi2 := dec_lt h
    have ea := zero_add_toNat i
    repeat' (first | exact rfl | (show (0 : Int) ≤ (i : Int); omega) | (show (i : Int) < (m : Int); omega) | (show 0 + (i : Int).toNat < m; rw [ea]; exact hi2) | refine And.intro ?_ ?_ | ((conv => whnf); refine And.intro ?_ ?_))
    · intro hh
      exact absurd hh (by simp)
    · intro _
      (conv => whnf)
      refine ⟨i + 1, [], by show m - (i + 1) < m - i; omega, by show i + 1 ≤ m; omega, ?_⟩
      (repeat' (first | exact True.intro | rfl | assumption | (refine And.intro ?_ ?_) | (intro _ _; rfl) | ((conv => whnf); (first | exact True.intro | (refine And.intro ?_ ?_)))))
      exact (wrap_inc hi2 (by omega)).symm
  · intro h
    (conv => whnf)
    refine ⟨[], _, _, hR, ?_⟩
    (repeat' (first | exact True.intro | rfl | assumption | (refine And.intro ?_ ?_) | (intro _ _; rfl) | ((conv => whnf); (first | exact True.intro | (refine And.intro ?_ ?_)))))

theorem conQ : ConOk Try.prog (conOf [(43, SGet.T), (23, SDel.T), (20, inl Try.prog (conOf []) Try.f20)]) :=
  conOf_cons (LSpec.call SGet_nt SGet_ok) (conOf_cons (LSpec.call SDel_nt SDel_ok) (conOf_cons (inl_ok noGo mixed conOf_nil Try.func20 (by kernel_rfl)) conOf_nil))
/-- What Get must return. -/
def GetIs (m : Nat) (D : Tab) (k : ByteArray) (v e : Int) : Prop := (chk k 0 ≠ 0 → v = 0 ∧ e = 2) ∧ (chk k 0 = 0 → ¬ keyIn m D k → v = 0 ∧ e = 9) ∧ (chk k 0 = 0 → ∀ u, has m D k u → v = u ∧ e = 0)
def SGets : LSpec where
  X := (Int × Nat × Int × Tab) × ByteArray × Int × Int
  k := 2
  pre x := TI x.1.1 x.1.2.1 x.1.2.2.1 x.1.2.2.2 ∧ GetIs x.1.2.1 x.1.2.2.2 x.2.1 x.2.2.1 x.2.2.2
  args x θ := [.ptr (θ 0) 0, .str x.2.1, i64 x.2.2.1, i64 x.2.2.2]
  objs x θ := [tbC (θ 1) x.1.1 x.1.2.1 x.1.2.2.1, tbR x.1.2.1 x.1.2.2.2]
  out x θ R := R (.sb true) [some (tbC (θ 1) x.1.1 x.1.2.1 x.1.2.2.1), some (tbR x.1.2.1 x.1.2.2.2)]
theorem SGets_nt : SGets.Nt := ⟨fun _ _ => rfl, fun _ _ => rfl, fun _ _ _ h => h⟩
theorem SGets_ok : SGets.Ok Try.prog 21 := by
  refine LSpec.of_body noGo mixed conQ Try.func21 rfl (by kernel_rfl) fun ⟨⟨seed, m, n, D⟩, k, v, e⟩ R ⟨ht, hg1, hg2, hg3⟩ hR => ?_
  have ht : TI seed m n D := ht
  (conv => whnf)
  refine ⟨((seed, m, n, D), k), [0, 1], ht, rfl, by (repeat' (first | exact True.intro | rfl | assumption | (refine And.intro ?_ ?_) | (intro _ _; rfl) | ((conv => whnf); (first | exact True.intro | (refine And.intro ?_ ?_))))), by (repeat' (first | exact True.intro | rfl | assumption | (refine And.intro ?_ ?_) | (intro _ _; rfl) | ((conv => whnf); (first | exact True.intro | (refine And.intro ?_ ?_))))), fun hc => ?_, fun hc hn => ?_, fun hc u hu => ?_⟩
  · obtain ⟨q1, q2⟩ := hg1 hc
    have q1 : v = 0 := q1
    have q2 : e = 2 := q2
    subst q1 q2
    (conv => whnf)
    (repeat' (first | (refine And.intro (fun hh => ?_) (fun hh => ?_) <;> first | (exfalso; simp [*] at hh; done) | (exfalso; simp_all; done) | (conv => whnf)) | fail))
    refine ⟨[], _, _, hR, ?_⟩
    (repeat' (first | exact True.intro | rfl | assumption | (refine And.intro ?_ ?_) | (intro _ _; rfl) | ((conv => whnf); (first | exact True.intro | (refine And.intro ?_ ?_)))))
    all_goals first | (show true = decide _; simp) | trace_state
  · obtain ⟨q1, q2⟩ := hg2 hc hn
    have q1 : v = 0 := q1
    have q2 : e = 9 := q2
    subst q1 q2
    (conv => whnf)
    (repeat' (first | (refine And.intro (fun hh => ?_) (fun hh => ?_) <;> first | (exfalso; simp [*] at hh; done) | (exfalso; simp_all; done) | (conv => whnf)) | fail))
    refine ⟨[], _, _, hR, ?_⟩
    (repeat' (first | exact True.intro | rfl | assumption | (refine And.intro ?_ ?_) | (intro _ _; rfl) | ((conv => whnf); (first | exact True.intro | (refine And.intro ?_ ?_)))))
    all_goals first | (show true = decide _; simp) | trace_state
  · obtain ⟨q1, q2⟩ := hg3 hc u hu
    have q1 : v = u := q1
    have q2 : e = 0 := q2
    subst q1 q2
    (conv => whnf)
    (repeat' (first | (refine And.intro (fun hh => ?_) (fun hh => ?_) <;> first | (exfalso; simp [*] at hh; done) | (exfalso; simp_all; done) | (conv => whnf)) | fail))
    refine ⟨[], _, _, hR, ?_⟩
    (repeat' (first | exact True.intro | rfl | assumption | (refine And.intro ?_ ?_) | (intro _ _; rfl) | ((conv => whnf); (first | exact True.intro | (refine And.intro ?_ ?_)))))
    all_goals first | (show true = decide _; simp) | trace_state

/-- What Del must return. -/
def SDels : LSpec where
  X := (Int × Nat × Int × Tab) × ByteArray × Int × Int
  k := 2
  pre x := TI x.1.1 x.1.2.1 x.1.2.2.1 x.1.2.2.2 ∧ GetIs x.1.2.1 x.1.2.2.2 x.2.1 x.2.2.1 x.2.2.2
  args x θ := [.ptr (θ 0) 0, .str x.2.1, i64 x.2.2.1, i64 x.2.2.2]
  objs x θ := [tbC (θ 1) x.1.1 x.1.2.1 x.1.2.2.1, tbR x.1.2.1 x.1.2.2.2]
  out x θ R := (chk x.2.1 0 ≠ 0 ∨ ¬ keyIn x.1.2.1 x.1.2.2.2 x.2.1 → R (.sb true) [some (tbC (θ 2) x.1.1 x.1.2.1 x.1.2.2.1), none, some (tbR x.1.2.1 x.1.2.2.2)]) ∧
    (chk x.2.1 0 = 0 → ∀ i, i < x.1.2.1 → (x.1.2.2.2 i).1 = x.2.1 → R (.sb true) [some (tbC (θ 2) x.1.1 (delM x.1.2.1 x.1.2.2.2) (x.1.2.2.1 - 1)), none, some (tbR (delM x.1.2.1 x.1.2.2.2) (delT x.1.1 x.1.2.1 x.1.2.2.2 i))])
theorem SDels_nt : SDels.Nt := ⟨fun _ _ => rfl, fun _ _ => rfl, fun _ _ _ h => h⟩
theorem SDels_ok : SDels.Ok Try.prog 16 := by
  refine LSpec.of_body noGo mixed conQ Try.func16 rfl (by kernel_rfl) fun ⟨⟨seed, m, n, D⟩, k, v, e⟩ R ⟨ht, hg1, hg2, hg3⟩ ⟨hR0, hR1⟩ => ?_
  have ht : TI seed m n D := ht
  (conv => whnf)
  refine ⟨((seed, m, n, D), k), [0, 1], ht, rfl, by (repeat' (first | exact True.intro | rfl | assumption | (refine And.intro ?_ ?_) | (intro _ _; rfl) | ((conv => whnf); (first | exact True.intro | (refine And.intro ?_ ?_))))), by (repeat' (first | exact True.intro | rfl | assumption | (refine And.intro ?_ ?_) | (intro _ _; rfl) | ((conv => whnf); (first | exact True.intro | (refine And.intro ?_ ?_))))), fun hc => ?_, fun hc hn => ?_, fun hc i hi e1 => ?_⟩
  · obtain ⟨q1, q2⟩ := hg1 hc
    have q1 : v = 0 := q1
    have q2 : e = 2 := q2
    subst q1 q2
    (conv => whnf)
    (repeat' (first | (refine And.intro (fun hh => ?_) (fun hh => ?_) <;> first | (exfalso; simp [*] at hh; done) | (exfalso; simp_all; done) | (conv => whnf)) | fail))
    refine ⟨[some 2], _, _, hR0 (.inl hc), ?_⟩
    (repeat' (first | exact True.intro | rfl | assumption | (refine And.intro ?_ ?_) | (intro _ _; rfl) | ((conv => whnf); (first | exact True.intro | (refine And.intro ?_ ?_)))))
    all_goals first | (show true = decide _; simp) | trace_state
  · obtain ⟨q1, q2⟩ := hg2 hc hn
    have q1 : v = 0 := q1
    have q2 : e = 9 := q2
    subst q1 q2
    (conv => whnf)
    (repeat' (first | (refine And.intro (fun hh => ?_) (fun hh => ?_) <;> first | (exfalso; simp [*] at hh; done) | (exfalso; simp_all; done) | (conv => whnf)) | fail))
    refine ⟨[some 2], _, _, hR0 (.inr hn), ?_⟩
    (repeat' (first | exact True.intro | rfl | assumption | (refine And.intro ?_ ?_) | (intro _ _; rfl) | ((conv => whnf); (first | exact True.intro | (refine And.intro ?_ ?_)))))
    all_goals first | (show true = decide _; simp) | trace_state
  · have hi : i < m := hi
    have e1 : (D i).1 = k := e1
    obtain ⟨q1, q2⟩ := hg3 hc (D i).2 ⟨i, hi, Prod.ext e1 rfl⟩
    have q1 : v = (D i).2 := q1
    have q2 : e = 0 := q2
    subst q1 q2
    (conv => whnf)
    (repeat' (first | (refine And.intro (fun hh => ?_) (fun hh => ?_) <;> first | (exfalso; simp [*] at hh; done) | (exfalso; simp_all; done) | (conv => whnf)) | fail))
    refine ⟨[some 2], _, _, hR1 hc i hi e1, ?_⟩
    (repeat' (first | exact True.intro | rfl | assumption | (refine And.intro ?_ ?_) | (intro _ _; rfl) | ((conv => whnf); (first | exact True.intro | (refine And.intro ?_ ?_)))))
    all_goals first | (show true = decide _; simp) | trace_state

theorem conS : ConOk Try.prog (conOf [(24, SCells.T), (41, SKSame.T), (14, SLen.T), (30, SRLen.T), (13, SSize.T), (21, SGets.T)]) :=
  conOf_cons (LSpec.call SCells_nt SCells_ok) (conOf_cons (LSpec.call SKSame_nt SKSame_ok) (conOf_cons (LSpec.call SLen_nt SLen_ok) (conOf_cons (LSpec.call SRLen_nt SRLen_ok) (conOf_cons (LSpec.call SSize_nt SSize_ok) (conOf_cons (LSpec.call SGets_nt SGets_ok) conOf_nil)))))
/-- With marks up to i. -/
def mkd (D : Tab) (i : Nat) : Tab := fun q => if q < i then (⟨#[120]⟩, 77) else D q
theorem mkd_succ (D : Tab) (i q : Nat) : mkd D (i + 1) q = Tb.upd (mkd D i) i (⟨#[120]⟩, 77) q := by
  unfold mkd Tb.upd
  by_cases e : q = i
  · rw [if_pos e, if_pos (by omega)]
  · rw [if_neg e]
    show _ = (if q < i then _ else _)
    by_cases g : q < i
    · rw [if_pos g, if_pos (by omega)]
    · rw [if_neg g, if_neg (by omega)]
def SLooks : LSpec where
  X := Int × Nat × Tab
  k := 4
  pre x := TI x.1 x.2.1 (cnt x.2.2 x.2.1) x.2.2
  args x θ := [.ptr (θ 0) 0, rfV (θ 2) (θ 3) x.1 x.2.1]
  objs x θ := [tbC (θ 1) x.1 x.2.1 (cnt x.2.2 x.2.1), tbR x.2.1 x.2.2, kR x.2.1 x.2.2, nR x.2.1 x.2.2]
  out x θ R := R (.sb true) [some (tbC (θ 1) x.1 x.2.1 (cnt x.2.2 x.2.1)), some (tbR x.2.1 x.2.2), some (kR x.2.1 x.2.2), some (nR x.2.1 x.2.2)]
theorem SLooks_nt : SLooks.Nt := ⟨fun _ _ => rfl, fun _ _ => rfl, fun _ _ _ h => h⟩
theorem SLooks_ok : SLooks.Ok Try.prog 17 := by
  refine LSpec.of_body noGo mixed conS Try.func17 rfl (by kernel_rfl) fun ⟨seed, m, D⟩ R ht hR => ?_
  have ht : TI seed m (cnt D m) D := ht
  have h8 := ht.ok.le
  have hlt := ht.ok.lt
  (conv => whnf)
  refine ⟨(seed, m, (cnt D m : Int), D), [0, 1], ⟨h8, hlt⟩, rfl, by (repeat' (first | exact True.intro | rfl | assumption | (refine And.intro ?_ ?_) | (intro _ _; rfl) | ((conv => whnf); (first | exact True.intro | (refine And.intro ?_ ?_))))), by (repeat' (first | exact True.intro | rfl | assumption | (refine And.intro ?_ ?_) | (intro _ _; rfl) | ((conv => whnf); (first | exact True.intro | (refine And.intro ?_ ?_))))), ?_⟩
  (conv => whnf)
  refine ⟨(m, D), [5, 2], hlt, rfl, by (repeat' (first | exact True.intro | rfl | assumption | (refine And.intro ?_ ?_) | (intro _ _; rfl) | ((conv => whnf); (first | exact True.intro | (refine And.intro ?_ ?_))))), by (repeat' (first | exact True.intro | rfl | assumption | (refine And.intro ?_ ?_) | (intro _ _; rfl) | ((conv => whnf); (first | exact True.intro | (refine And.intro ?_ ?_))))), ?_⟩
  (conv => whnf)
  (repeat (first | refine And.intro rfl ?_ | fail))
  (conv => whnf)
  (repeat' (first | (refine And.intro (fun hh => ?_) (fun hh => ?_) <;> first | (exfalso; simp [*] at hh; done) | (exfalso; simp_all; done) | (conv => whnf)) | fail))
  refine ⟨(seed, m, (cnt D m : Int), D), [0, 1], h8, rfl, by (repeat' (first | exact True.intro | rfl | assumption | (refine And.intro ?_ ?_) | (intro _ _; rfl) | ((conv => whnf); (first | exact True.intro | (refine And.intro ?_ ?_))))), by (repeat' (first | exact True.intro | rfl | assumption | (refine And.intro ?_ ?_) | (intro _ _; rfl) | ((conv => whnf); (first | exact True.intro | (refine And.intro ?_ ?_))))), ?_⟩
  (conv => whnf)
  (repeat (first | refine And.intro rfl ?_ | fail))
  (conv => whnf)
  refine ⟨(seed, m, D), [2, 3], hlt, rfl, by (repeat' (first | exact True.intro | rfl | assumption | (refine And.intro ?_ ?_) | (intro _ _; rfl) | ((conv => whnf); (first | exact True.intro | (refine And.intro ?_ ?_))))), by (repeat' (first | exact True.intro | rfl | assumption | (refine And.intro ?_ ?_) | (intro _ _; rfl) | ((conv => whnf); (first | exact True.intro | (refine And.intro ?_ ?_))))), ?_⟩
  (conv => whnf)
  (repeat (first | refine And.intro rfl ?_ | fail))
  (conv => whnf)
  (repeat' (first | (refine And.intro (fun hh => ?_) (fun hh => ?_) <;> first | (exfalso; simp [*] at hh; done) | (exfalso; simp_all; done) | (conv => whnf)) | fail))
  refine ⟨(seed, m, (cnt D m : Int), D), [0, 1], h8, rfl, by (repeat' (first | exact True.intro | rfl | assumption | (refine And.intro ?_ ?_) | (intro _ _; rfl) | ((conv => whnf); (first | exact True.intro | (refine And.intro ?_ ?_))))), by (repeat' (first | exact True.intro | rfl | assumption | (refine And.intro ?_ ?_) | (intro _ _; rfl) | ((conv => whnf); (first | exact True.intro | (refine And.intro ?_ ?_))))), ?_⟩
  (conv => whnf)
  (repeat (first | refine And.intro rfl ?_ | fail))
  (conv => whnf)
  (repeat' (first | (refine And.intro (fun hh => ?_) (fun hh => ?_) <;> first | (exfalso; simp [*] at hh; done) | (exfalso; simp_all; done) | (conv => whnf)) | fail))
  refine .inl ⟨Nat, fun i => [(0, .ptr 0 0), (3, .ptr 4 0), (5, .sl 5 0 1 m false), (6, .sl 6 0 1 m false), (42, i64 m), (43, i64 i)], fun i => [some (tbC 1 seed m (cnt D m)), some (tbR m D), some (kR m D), some (nR m D), some (rfC 2 3 seed m), some (kR m (mkd D i)), some (nR m (mkd D i))], fun i => m - i, fun i => i ≤ m, 7, ⟨0, [some 4, some 5, some 6], Nat.zero_le _, ?_⟩, fun _ => rfl, fun i hi => ?_⟩
  · (repeat' (first | exact True.intro | rfl | assumption | (refine And.intro ?_ ?_) | (intro _ _; rfl) | ((conv => whnf); (first | exact True.intro | (refine And.intro ?_ ?_)))))
  have hi : i ≤ m := hi
  (conv => whnf)
  constructor
  · intro h
    (conv => whnf)
    have hi2 := dec_lt h
    have ea := zero_add_toNat i
    have e1 : D (0 + (i : Int).toNat) = D i := by rw [ea]
    have em : mkd D i (0 + (i : Int).toNat) = D i := by rw [ea]; unfold mkd; rw [if_neg (by omega)]
    refine ⟨by show (0 : Int) ≤ (i : Int); omega, by show (i : Int) < (m : Int); omega, ?_⟩
    (conv => whnf)
    refine ⟨by rw [ea]; exact hi2, ?_⟩
    (conv => whnf)
    refine ⟨by show (0 : Int) ≤ (i : Int); omega, by show (i : Int) < (m : Int); omega, ?_⟩
    (conv => whnf)
    refine ⟨by rw [ea]; exact hi2, ?_⟩
    (conv => whnf)
    refine ⟨fun _ => ?_, fun hh => ?_⟩
    · (conv => whnf)
      refine ⟨by show (0 : Int) ≤ (i : Int); omega, by show (i : Int) < (m : Int); omega, ?_⟩
      (conv => whnf)
      refine ⟨by rw [ea]; exact hi2, ?_⟩
      (conv => whnf)
      constructor
      · intro hk
        have hk : (!decide ((mkd D i (0 + (i : Int).toNat)).1 = ⟨#[]⟩)) = true := hk
        rw [em, ← free_iff] at hk
        have hf : free (D i) = false := by simpa using hk
        have hk0 : 0 < (D i).1.size := by unfold free at hf; have := of_decide_eq_false hf; omega
        have hv : valid (D i).1 := ⟨hk0, ht.ksz i hi2⟩
        have hgi : GetIs m D (D i).1 (D i).2 0 := ⟨fun g => absurd (chk_valid.2 hv) g, fun _ g => absurd ⟨i, hi2, rfl⟩ g, fun _ u hu => ⟨ht.wf.one hk0 ⟨i, hi2, rfl⟩ hu, rfl⟩⟩
        (conv => whnf)
        refine ⟨by show (0 : Int) ≤ (i : Int); omega, by show (i : Int) < (m : Int); omega, ?_⟩
        (conv => whnf)
        refine ⟨by rw [ea]; exact hi2, ?_⟩
        (conv => whnf)
        refine ⟨by show (0 : Int) ≤ (i : Int); omega, by show (i : Int) < (m : Int); omega, ?_⟩
        (conv => whnf)
        refine ⟨by rw [ea]; exact hi2, ?_⟩
        (conv => whnf)
        refine ⟨((seed, m, (cnt D m : Int), D), (D i).1, (D i).2, 0), [0, 1], ⟨ht, hgi⟩, rfl, ?_, by (repeat' (first | exact True.intro | rfl | assumption | (refine And.intro ?_ ?_) | (intro _ _; rfl) | ((conv => whnf); (first | exact True.intro | (refine And.intro ?_ ?_))))), ?_⟩
        · (repeat' (first | exact True.intro | rfl | assumption | (refine And.intro ?_ ?_) | (intro _ _; rfl) | ((conv => whnf); (first | exact True.intro | (refine And.intro ?_ ?_)))))
          · exact congrArg (fun c : Cell => V.str c.1) em.symm
          · exact congrArg (fun c : Cell => c.2) em.symm
        (conv => whnf)
        (repeat (first | refine And.intro rfl ?_ | fail))
        (conv => whnf)
        (repeat' (first | (refine And.intro (fun hh => ?_) (fun hh => ?_) <;> first | (exfalso; simp [*] at hh; done) | (exfalso; simp_all; done) | (conv => whnf)) | fail))
        refine ⟨by show (0 : Int) ≤ (i : Int); omega, by show (i : Int) < (m : Int); omega, ?_⟩
        (conv => whnf)
        refine ⟨some (fun q => [.str (mkd D (i + 1) q).1]), ?_⟩
        (conv => whnf)
        refine ⟨by rw [ea]; exact hi2, ?_⟩
        (conv => whnf)
        refine ⟨fun q _ => by show [V.str (mkd D (i + 1) q).1] = _; rw [ea, mkd_succ]; exact key_view (mkd D i) i (⟨#[120]⟩, 77) q, ?_⟩
        (conv => whnf)
        refine ⟨by show (0 : Int) ≤ (i : Int); omega, by show (i : Int) < (m : Int); omega, ?_⟩
        (conv => whnf)
        refine ⟨some (fun q => [.int .i64 (mkd D (i + 1) q).2]), ?_⟩
        (conv => whnf)
        refine ⟨by rw [ea]; exact hi2, ?_⟩
        (conv => whnf)
        refine ⟨fun q _ => by show [V.int .i64 (mkd D (i + 1) q).2] = _; rw [ea, mkd_succ]; exact num_view (mkd D i) i (⟨#[120]⟩, 77) q, ?_⟩
        (conv => whnf)
        refine ⟨i + 1, [some 4, some 5, some 6], by show m - (i + 1) < m - i; omega, by show i + 1 ≤ m; omega, ?_⟩
        (repeat' (first | exact True.intro | rfl | assumption | (refine And.intro ?_ ?_) | (intro _ _; rfl) | ((conv => whnf); (first | exact True.intro | (refine And.intro ?_ ?_)))))
        exact (wrap_inc hi2 (by omega)).symm
      · intro hk
        (conv => whnf)
        (repeat' (first | (refine And.intro (fun hh => ?_) (fun hh => ?_) <;> first | (exfalso; simp [*] at hh; done) | (exfalso; simp_all; done) | (conv => whnf)) | fail))
        refine ⟨by show (0 : Int) ≤ (i : Int); omega, by show (i : Int) < (m : Int); omega, ?_⟩
        (conv => whnf)
        refine ⟨some (fun q => [.str (mkd D (i + 1) q).1]), ?_⟩
        (conv => whnf)
        refine ⟨by rw [ea]; exact hi2, ?_⟩
        (conv => whnf)
        refine ⟨fun q _ => by show [V.str (mkd D (i + 1) q).1] = _; rw [ea, mkd_succ]; exact key_view (mkd D i) i (⟨#[120]⟩, 77) q, ?_⟩
        (conv => whnf)
        refine ⟨by show (0 : Int) ≤ (i : Int); omega, by show (i : Int) < (m : Int); omega, ?_⟩
        (conv => whnf)
        refine ⟨some (fun q => [.int .i64 (mkd D (i + 1) q).2]), ?_⟩
        (conv => whnf)
        refine ⟨by rw [ea]; exact hi2, ?_⟩
        (conv => whnf)
        refine ⟨fun q _ => by show [V.int .i64 (mkd D (i + 1) q).2] = _; rw [ea, mkd_succ]; exact num_view (mkd D i) i (⟨#[120]⟩, 77) q, ?_⟩
        (conv => whnf)
        refine ⟨i + 1, [some 4, some 5, some 6], by show m - (i + 1) < m - i; omega, by show i + 1 ≤ m; omega, ?_⟩
        (repeat' (first | exact True.intro | rfl | assumption | (refine And.intro ?_ ?_) | (intro _ _; rfl) | ((conv => whnf); (first | exact True.intro | (refine And.intro ?_ ?_)))))
        exact (wrap_inc hi2 (by omega)).symm
    · have hh : (!decide ((mkd D i (0 + (i : Int).toNat)).2 = (D (0 + (i : Int).toNat)).2)) = true := hh
      rw [em, e1] at hh
      exact absurd hh (by simp)
  · intro h
    (conv => whnf)
    refine ⟨[], _, _, hR, ?_⟩
    (repeat' (first | exact True.intro | rfl | assumption | (refine And.intro ?_ ?_) | (intro _ _; rfl) | ((conv => whnf); (first | exact True.intro | (refine And.intro ?_ ?_)))))
end Go.Proofs.Ytfkolddpfpjeeaa
