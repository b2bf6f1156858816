/- RecentIterates: the walk. -/
import Derived.Test.YtollflfkgcgdkaaRcPlays
namespace Go.Proofs.Ytollflfkgcgdkaa
open Go Go.RowKit Sy
set_option maxRecDepth 100000

/-- Whatever Use does, there is a ring afterwards; and so for Remove. -/
def SUseW : LSpec where
  X := Ent × List Int × Int
  k := 2
  pre x := Ring x.1 x.2.1
  args x θ := [.ptr (θ 0) 0, i64 x.2.2]
  objs x θ := [rcC (θ 1), rcM x.1]
  out _ θ R := ∀ e L o, Ring L o → R (i64 e) [some (rcC (θ 1)), some (rcM L)]
theorem SUseW_nt : SUseW.Nt := ⟨fun _ _ => rfl, by unfold SUseW; (intros; simp only [ren_all] at *; try assumption), by unfold SUseW; (intros; simp only [ren_all] at *; try assumption)⟩
theorem SUseW_ok : SUseW.Ok Try.prog 11 := fun x R h1 h2 => SRUse_ok x R h1 ⟨fun _ _ hL' => h2 _ _ _ hL', fun _ => h2 _ _ _ h1⟩
theorem SRemW_ok : SUseW.Ok Try.prog 12 := fun x R h1 h2 => SRRem_ok x R h1 ⟨fun _ _ hL' => h2 _ _ _ hL', fun _ => h2 _ _ _ h1⟩
theorem con13 : ConOk Try.prog (conOf [(16, trueT), (8, SNew.T), (21, SDo.T), (23, SRAll.T), (11, SUseW.T), (12, SUseW.T)]) :=
  conOf_cons (true_ok ⟨_, Try.func16, rfl⟩ known_any) (conOf_cons (LSpec.call SNew_nt SNew_ok) (conOf_cons (LSpec.call SDo_nt SDo_ok) (conOf_cons (LSpec.call SRAll_nt SRAll_ok) (conOf_cons (LSpec.call SUseW_nt SUseW_ok) (conOf_cons (LSpec.call SUseW_nt SRemW_ok) conOf_nil)))))

theorem k0_end {n i : Nat} {many : Int} (h : i = n) (hm : i = 0 ∨ (i : Int) < many) : mmI true n (mmI false 1 many) = i := by
  unfold mmI
  simp only [if_true, Bool.false_eq_true, if_false]
  split <;> split at * <;> omega
theorem k0_brk {n i : Nat} {many : Int} (h : i < n) (hm : i = 0 ∨ (i : Int) < many) (hk : many ≤ (i : Int) + 1) : mmI true n (mmI false 1 many) = ((i + 1 : Nat) : Int) := by
  unfold mmI
  simp only [if_true, Bool.false_eq_true, if_false]
  split <;> split at * <;> omega
def SIter : LSpec where
  X := (Obj × List (Int × Int) × TypeId) × Int
  k := 1
  pre _ := True
  args x θ := [.sl (θ 0) 0 2 x.1.2.1.length false, i64 x.2]
  objs x _ := [actO x.1.1 x.1.2.1 x.1.2.2]
  out x _ R := R (.sb true) [some (actO x.1.1 x.1.2.1 x.1.2.2)]
set_option maxHeartbeats 2000000 in
theorem SIter_top : SIter.Top Try.prog 6 := by
  refine LSpec.topC [1027] noGo mixed con13 Try.func6 rfl (by kernel_rfl) fun ⟨⟨c, l, e⟩, many⟩ R _ hR => ?_
  (conv => whnf)
  constructor
  · intro h
    (conv => whnf)
    refine ⟨[], _, _, hR, ?_⟩
    (repeat' (first | exact True.intro | rfl | assumption | exact ent_keep _ _ | (refine And.intro ?_ ?_) | (intro _ _; rfl) | ((conv => whnf); (first | exact True.intro | (refine And.intro ?_ ?_)))))
  · intro h
    have hl : l.length ≤ 60 := by simp at h; omega
    (conv => whnf)
    refine ⟨(), [], trivial, rfl, by (repeat' (first | exact True.intro | rfl | assumption | exact ent_keep _ _ | (refine And.intro ?_ ?_) | (intro _ _; rfl) | ((conv => whnf); (first | exact True.intro | (refine And.intro ?_ ?_))))), by (repeat' (first | exact True.intro | rfl | assumption | exact ent_keep _ _ | (refine And.intro ?_ ?_) | (intro _ _; rfl) | ((conv => whnf); (first | exact True.intro | (refine And.intro ?_ ?_))))), fun L hL => ?_⟩
    (conv => whnf)
    refine .inl ⟨Nat × Ent × Bool, fun x => [(3, .ptr 1 0), (4, .ptr 2 0), (5, .ptr 5 0), (6, .ptr 6 0), (20, .sl 0 0 2 l.length false), (21, i64 l.length), (22, i64 x.1)],
      fun x => [some (actO c l e), some (.cells [i64 many] 3), some (.cells [.bool false] 4), some (rcC 4), some (rcM x.2.1), some (.cells [.ptr 3 0] 22), some (.cells [slI 7 (hist l x.1) x.2.2] 36), some (rowO (hist l x.1))],
      fun x => l.length - x.1, fun x => x.1 ≤ l.length ∧ Ring x.2.1 (hist l x.1), 8, ⟨(0, L, false), [some 1, some 2, some 3, some 4, some 5, some 6, none], ?_, ?_⟩, fun _ => rfl, fun ⟨i, L, full⟩ ⟨hi, hr⟩ => ?_⟩
    · exact ⟨Nat.zero_le _, hL⟩
    · (repeat' (first | exact True.intro | rfl | assumption | exact ent_keep _ _ | (refine And.intro ?_ ?_) | (intro _ _; rfl) | ((conv => whnf); (first | exact True.intro | (refine And.intro ?_ ?_)))))
    have hhl := hist_len l i
    have hi : i ≤ l.length := hi
    (conv => whnf)
    constructor
    · intro h
      (conv => whnf)
      have hi2 := dec_lt h
      refine ⟨by simp, by simpa using h, by simpa using h, ?_⟩
      (conv => whnf)
      refine ⟨((L, hist l i), full, l.getD (0 + (i : Int).toNat) (0, 0)), [3, 4, 7], ⟨hr, by show (hist l i).length < 10000; omega⟩, rfl, by (repeat' (first | exact True.intro | rfl | assumption | exact ent_keep _ _ | (refine And.intro ?_ ?_) | (intro _ _; rfl) | ((conv => whnf); (first | exact True.intro | (refine And.intro ?_ ?_))))), by (repeat' (first | exact True.intro | rfl | assumption | exact ent_keep _ _ | (refine And.intro ?_ ?_) | (intro _ _; rfl) | ((conv => whnf); (first | exact True.intro | (refine And.intro ?_ ?_))))), ?_⟩
      have hs : hist l (i + 1) = acts (hist l i) (l.getD (0 + (i : Int).toNat) (0, 0)) := by rw [hist_succ hi2]; congr 1; simp
      have hal := acts_len (hist l i) (l.getD (0 + (i : Int).toNat) (0, 0))
      intro L' hL'
      have hL' : Ring L' (acts (hist l i) (l.getD (0 + (i : Int).toNat) (0, 0))) := hL'
      refine ⟨fun ea => ?_, ?_, fun ea => ?_⟩
      · have ea : acts (hist l i) (l.getD (0 + (i : Int).toNat) (0, 0)) = hist l i := ea
        have he : hist l (i + 1) = hist l i := by rw [hs, ea]
        have hL2 : Ring L' (hist l i) := by rw [← ea]; exact hL'
        (conv => whnf)
        refine ⟨(i + 1, L', full), [some 1, some 2, some 3, some 4, some 5, some 6, some 7], by show l.length - (i + 1) < l.length - i; omega, ⟨by show i + 1 ≤ l.length; omega, by show Ring L' (hist l (i + 1)); rw [hs, ea]; exact hL2⟩, ?_⟩
        refine ⟨rfl, ?_, ?_⟩
        · (repeat' (first | exact True.intro | rfl | assumption | exact ent_keep _ _ | (refine And.intro ?_ ?_) | (intro _ _; rfl) | ((conv => whnf); (first | exact True.intro | (refine And.intro ?_ ?_)))))
          all_goals first | exact congrArg List.length he | exact fun j _ => congrArg (rowI · j) he
        · (repeat' (first | exact True.intro | rfl | assumption | exact ent_keep _ _ | (refine And.intro ?_ ?_) | (intro _ _; rfl) | ((conv => whnf); (first | exact True.intro | (refine And.intro ?_ ?_)))))
          all_goals first | exact congrArg List.length he | exact (wrap_inc hi2 (by omega)).symm
      · have he := hs
        (conv => whnf)
        refine ⟨(i + 1, L', false), [some 1, some 2, some 3, some 4, some 5, some 6, some 9], by show l.length - (i + 1) < l.length - i; omega, ⟨by show i + 1 ≤ l.length; omega, by show Ring L' (hist l (i + 1)); rw [hs]; exact hL'⟩, ?_⟩
        refine ⟨rfl, ?_, ?_⟩
        · (repeat' (first | exact True.intro | rfl | assumption | exact ent_keep _ _ | (refine And.intro ?_ ?_) | (intro _ _; rfl) | ((conv => whnf); (first | exact True.intro | (refine And.intro ?_ ?_)))))
          all_goals first | exact congrArg List.length he | exact fun j _ => congrArg (rowI · j) he
        · (repeat' (first | exact True.intro | rfl | assumption | exact ent_keep _ _ | (refine And.intro ?_ ?_) | (intro _ _; rfl) | ((conv => whnf); (first | exact True.intro | (refine And.intro ?_ ?_)))))
          all_goals first | exact congrArg List.length he | exact (wrap_inc hi2 (by omega)).symm
      · have ea : acts (hist l i) (l.getD (0 + (i : Int).toNat) (0, 0)) = hist l i := ea
        have he : hist l (i + 1) = hist l i := by rw [hs, ea]
        have hL2 : Ring L' (hist l i) := by rw [← ea]; exact hL'
        (conv => whnf)
        refine ⟨(i + 1, L', full), [some 1, some 2, some 9, some 10, some 5, some 6, some 7], by show l.length - (i + 1) < l.length - i; omega, ⟨by show i + 1 ≤ l.length; omega, by show Ring L' (hist l (i + 1)); rw [hs, ea]; exact hL2⟩, ?_⟩
        refine ⟨rfl, ?_, ?_⟩
        · (repeat' (first | exact True.intro | rfl | assumption | exact ent_keep _ _ | (refine And.intro ?_ ?_) | (intro _ _; rfl) | ((conv => whnf); (first | exact True.intro | (refine And.intro ?_ ?_)))))
          all_goals first | exact congrArg List.length he | exact fun j _ => congrArg (rowI · j) he
        · (repeat' (first | exact True.intro | rfl | assumption | exact ent_keep _ _ | (refine And.intro ?_ ?_) | (intro _ _; rfl) | ((conv => whnf); (first | exact True.intro | (refine And.intro ?_ ?_)))))
          all_goals first | exact congrArg List.length he | exact (wrap_inc hi2 (by omega)).symm
    · intro h
      (conv => whnf)
      have hi2 : i = l.length := by have := dec_ge h; omega
      subst hi2
      refine ⟨(L, (hist l l.length)), [3, 4], ⟨hr, by show (hist l l.length).length < 1000000; omega⟩, rfl, by (repeat' (first | exact True.intro | rfl | assumption | exact ent_keep _ _ | (refine And.intro ?_ ?_) | (intro _ _; rfl) | ((conv => whnf); (first | exact True.intro | (refine And.intro ?_ ?_))))), by (repeat' (first | exact True.intro | rfl | assumption | exact ent_keep _ _ | (refine And.intro ?_ ?_) | (intro _ _; rfl) | ((conv => whnf); (first | exact True.intro | (refine And.intro ?_ ?_))))), ?_⟩
      (conv => whnf)
      refine .inr ?_
      (conv => whnf)
      refine ⟨fun _ => ?_, fun h => absurd h (by decide)⟩
      (conv => whnf)
      refine ⟨Ent × List Int, fun _ => [(3, .ptr 1 0), (4, .ptr 2 0), (5, .ptr 5 0), (6, .ptr 6 0), (9, .fn (.func 38) [] [.ptr 9 0]), (10, .ptr 10 0), (11, .ptr 11 0)],
        fun x => [some (actO c l e), some (.cells [i64 many] 3), some (.cells [.bool false] 4), some (rcC 4), some (rcM x.1), some (.cells [.ptr 3 0] 22), some (.cells [slI 7 (hist l l.length) full] 36), some (rowO (hist l l.length)), some (rowO (hist l l.length)), some (.cells [slI 8 (hist l l.length) false] 36), some (.cells [i64 0] 3), some (.cells [i64 (mmI true (hist l l.length).length (mmI false 1 many))] 3), some .mark],
        fun _ => [12], fun x => Ring x.1 x.2, 13, fun _ => rfl, ?_, fun ⟨L, o⟩ hr => ?_⟩
      · (conv => whnf)
        refine with_lp 13 ?_
        intro lp
        refine .inl ⟨Nat × Ent × List Int, fun x => [(0, .yl 13), (1, .ptr 9 0), (5, slI 8 (hist l l.length) false), (6, i64 (hist l l.length).length), (7, i64 x.1)],
          fun x => [some (actO c l e), some (.cells [i64 many] 3), some (.cells [.bool false] 4), some (rcC 4), some (rcM x.2.1), some (.cells [.ptr 3 0] 22), some (.cells [slI 7 (hist l l.length) full] 36), some (rowO (hist l l.length)), some (rowO (hist l l.length)), some (.cells [slI 8 (hist l l.length) false] 36), some (.cells [i64 0] 3), some (.cells [i64 x.1] 3), some .mark, some lp],
          fun x => (hist l l.length).length - x.1, fun x => x.1 ≤ (hist l l.length).length ∧ Ring x.2.1 x.2.2 ∧ (x.1 = 0 ∨ (x.1 : Int) < many), 14, ⟨(0, L, hist l l.length), [], ⟨Nat.zero_le _, hr, .inl rfl⟩, ?_⟩, fun _ => rfl, fun ⟨i, L, o⟩ ⟨hi, hr, hm⟩ => ?_⟩
        · (repeat' (first | exact True.intro | rfl | assumption | exact ent_keep _ _ | (refine And.intro ?_ ?_) | (intro _ _; rfl) | ((conv => whnf); (first | exact True.intro | (refine And.intro ?_ ?_)))))
        have hi : i ≤ (hist l l.length).length := hi
        have hr : Ring L o := hr
        have hm : i = 0 ∨ (i : Int) < many := hm
        (conv => whnf)
        constructor
        · intro h
          (conv => whnf)
          have hi2 := dec_lt h
          refine ⟨by simp, by simpa using h, by simpa using h, ?_⟩
          have q1 : ¬ ((hist l l.length).length : Int) ≤ i := by omega
          (conv => whnf)
          (repeat' (first | (refine And.intro (fun hh => ?_) (fun hh => ?_) <;> first | (exfalso; simp [*] at hh; done) | (exfalso; simp_all; done) | (conv => whnf)) | fail))
          refine ⟨by simp, by simpa using h, by simpa using h, ?_⟩
          (conv => whnf)
          (repeat' (first | (refine And.intro (fun hh => ?_) (fun hh => ?_) <;> first | (exfalso; simp [*] at hh; done) | (exfalso; simp_all; done) | (conv => whnf)) | fail))
          have hw : IntKind.i64.wrap (((hist l l.length).length : Int) - 1) = (((hist l l.length).length - 1 : Nat) : Int) := by rw [wrap_id (by omega) (by omega)]; omega
          have hw2 : IntKind.i64.wrap ((i : Int) + 1) = ((i + 1 : Nat) : Int) := wrap_inc hi2 (by omega)
          refine ⟨(L, o, (hist l l.length).getD (0 + (i : Int).toNat) 0), [3, 4], hr, rfl, by (repeat' (first | exact True.intro | rfl | assumption | exact ent_keep _ _ | (refine And.intro ?_ ?_) | (intro _ _; rfl) | ((conv => whnf); (first | exact True.intro | (refine And.intro ?_ ?_))))), by (repeat' (first | exact True.intro | rfl | assumption | exact ent_keep _ _ | (refine And.intro ?_ ?_) | (intro _ _; rfl) | ((conv => whnf); (first | exact True.intro | (refine And.intro ?_ ?_))))), fun e1 L1 o1 h1 => ?_⟩
          (conv => whnf)
          refine ⟨by rw [hw]; omega, by rw [hw]; omega, ?_⟩
          (conv => whnf)
          refine ⟨by rw [hw]; omega, ?_⟩
          (conv => whnf)
          refine ⟨(L1, o1, (hist l l.length).getD (0 + (IntKind.i64.wrap (((hist l l.length).length : Int) - 1)).toNat) 0), [3, 4], h1, rfl, by (repeat' (first | exact True.intro | rfl | assumption | exact ent_keep _ _ | (refine And.intro ?_ ?_) | (intro _ _; rfl) | ((conv => whnf); (first | exact True.intro | (refine And.intro ?_ ?_))))), by (repeat' (first | exact True.intro | rfl | assumption | exact ent_keep _ _ | (refine And.intro ?_ ?_) | (intro _ _; rfl) | ((conv => whnf); (first | exact True.intro | (refine And.intro ?_ ?_))))), fun e2 L2 o2 h2 => ?_⟩
          (conv => whnf)
          refine ⟨fun _ => ?_, fun h => absurd h (by decide)⟩
          (conv => whnf)
          constructor
          · intro hk
            have hk : many ≤ (i : Int) + 1 := by
              have : decide (many ≤ IntKind.i64.wrap ((i : Int) + 1)) = true := hk
              rw [hw2] at this
              have := of_decide_eq_true this
              omega
            (conv => whnf)
            refine ⟨(L2, o2), [some 1, some 2, some 3, some 4, some 5, some 6, some 7, some 8, some 9, some 10, some 11, some 12], h2, ?_, ?_⟩
            · (repeat' (first | exact True.intro | rfl | assumption | exact ent_keep _ _ | (refine And.intro ?_ ?_) | (intro _ _; rfl) | ((conv => whnf); (first | exact True.intro | (refine And.intro ?_ ?_)))))
              exact (k0_brk hi2 hm hk).trans hw2.symm
            · (repeat' (first | exact True.intro | rfl | assumption | exact ent_keep _ _ | (refine And.intro ?_ ?_) | (intro _ _; rfl) | ((conv => whnf); (first | exact True.intro | (refine And.intro ?_ ?_)))))
          · intro hk
            have hk : ¬ many ≤ (i : Int) + 1 := by
              have : decide (many ≤ IntKind.i64.wrap ((i : Int) + 1)) = false := hk
              rw [hw2] at this
              have := of_decide_eq_false this
              omega
            (conv => whnf)
            refine ⟨(i + 1, L2, o2), [], by show (hist l l.length).length - (i + 1) < (hist l l.length).length - i; omega, ⟨by show i + 1 ≤ (hist l l.length).length; omega, h2, .inr (by show ((i + 1 : Nat) : Int) < many; omega)⟩, ?_⟩
            (repeat' (first | exact True.intro | rfl | assumption | exact ent_keep _ _ | (refine And.intro ?_ ?_) | (intro _ _; rfl) | ((conv => whnf); (first | exact True.intro | (refine And.intro ?_ ?_)))))
            all_goals exact hw2.symm
        · intro h
          (conv => whnf)
          have hi2 : i = (hist l l.length).length := by have := dec_ge h; omega
          refine ⟨(L, o), [some 1, some 2, some 3, some 4, some 5, some 6, some 7, some 8, some 9, some 10, some 11, some 12], hr, ?_, ?_⟩
          · (repeat' (first | exact True.intro | rfl | assumption | exact ent_keep _ _ | (refine And.intro ?_ ?_) | (intro _ _; rfl) | ((conv => whnf); (first | exact True.intro | (refine And.intro ?_ ?_)))))
            exact k0_end hi2 hm
          · (repeat' (first | exact True.intro | rfl | assumption | exact ent_keep _ _ | (refine And.intro ?_ ?_) | (intro _ _; rfl) | ((conv => whnf); (first | exact True.intro | (refine And.intro ?_ ?_)))))
      · have hr : Ring L o := hr
        (conv => whnf)
        (repeat' (first | (refine And.intro (fun hh => ?_) (fun hh => ?_) <;> first | (exfalso; simp [*] at hh; done) | (exfalso; simp_all; done) | (conv => whnf)) | fail))
        refine .inr ?_
        (conv => whnf)
        refine ⟨fun _ => ?_, fun h => absurd h (by decide)⟩
        (conv => whnf)
        refine ⟨Ent × List Int, fun _ => [(3, .ptr 1 0), (4, .ptr 2 0), (5, .ptr 5 0), (6, .ptr 6 0), (9, .fn (.func 38) [] [.ptr 9 0]), (10, .ptr 10 0), (11, .ptr 11 0)],
          fun x => [some (actO c l e), some (.cells [i64 many] 3), some (.cells [.bool false] 4), some (rcC 4), some (rcM x.1), some (.cells [.ptr 3 0] 22), some (.cells [slI 7 (hist l l.length) full] 36), some (rowO (hist l l.length)), some (rowO (hist l l.length)), some (.cells [slI 8 (hist l l.length) false] 36), some (.cells [i64 1] 3), some (.cells [i64 (hist l l.length).length] 3), some .mark, some .mark],
          fun _ => [13, 12], fun x => Ring x.1 x.2, 14, fun _ => rfl, ?_, fun ⟨L, o⟩ hr => ?_⟩
        · (conv => whnf)
          refine with_lp 16 ?_
          intro lp
          refine .inl ⟨Nat × Ent × List Int, fun x => [(0, .yl 16), (1, .ptr 9 0), (5, slI 8 (hist l l.length) false), (6, i64 (hist l l.length).length), (7, i64 x.1)],
            fun x => [some (actO c l e), some (.cells [i64 many] 3), some (.cells [.bool false] 4), some (rcC 4), some (rcM x.2.1), some (.cells [.ptr 3 0] 22), some (.cells [slI 7 (hist l l.length) full] 36), some (rowO (hist l l.length)), some (rowO (hist l l.length)), some (.cells [slI 8 (hist l l.length) false] 36), none, none, some .mark, some (.cells [i64 1] 3), some (.cells [i64 x.1] 3), some .mark, some lp],
            fun x => (hist l l.length).length - x.1, fun x => x.1 ≤ (hist l l.length).length ∧ Ring x.2.1 x.2.2, 17, ⟨(0, L, o), [], ⟨Nat.zero_le _, hr⟩, ?_⟩, fun _ => rfl, fun ⟨i, L, o⟩ ⟨hi, hr⟩ => ?_⟩
          · (repeat' (first | exact True.intro | rfl | assumption | exact ent_keep _ _ | (refine And.intro ?_ ?_) | (intro _ _; rfl) | ((conv => whnf); (first | exact True.intro | (refine And.intro ?_ ?_)))))
          have hi : i ≤ (hist l l.length).length := hi
          have hr : Ring L o := hr
          (conv => whnf)
          constructor
          · intro h
            (conv => whnf)
            have hi2 := dec_lt h
            refine ⟨by simp, by simpa using h, by simpa using h, ?_⟩
            have q1 : ¬ ((hist l l.length).length : Int) ≤ i := by omega
            (conv => whnf)
            (repeat' (first | (refine And.intro (fun hh => ?_) (fun hh => ?_) <;> first | (exfalso; simp [*] at hh; done) | (exfalso; simp_all; done) | (conv => whnf)) | fail))
            refine ⟨by simp, by simpa using h, by simpa using h, ?_⟩
            (conv => whnf)
            (repeat' (first | (refine And.intro (fun hh => ?_) (fun hh => ?_) <;> first | (exfalso; simp [*] at hh; done) | (exfalso; simp_all; done) | (conv => whnf)) | fail))
            have hw : IntKind.i64.wrap (((hist l l.length).length : Int) - 1) = (((hist l l.length).length - 1 : Nat) : Int) := by rw [wrap_id (by omega) (by omega)]; omega
            have hw2 : IntKind.i64.wrap ((i : Int) + 1) = ((i + 1 : Nat) : Int) := wrap_inc hi2 (by omega)
            refine ⟨(L, o, (hist l l.length).getD (0 + (i : Int).toNat) 0), [3, 4], hr, rfl, by (repeat' (first | exact True.intro | rfl | assumption | exact ent_keep _ _ | (refine And.intro ?_ ?_) | (intro _ _; rfl) | ((conv => whnf); (first | exact True.intro | (refine And.intro ?_ ?_))))), by (repeat' (first | exact True.intro | rfl | assumption | exact ent_keep _ _ | (refine And.intro ?_ ?_) | (intro _ _; rfl) | ((conv => whnf); (first | exact True.intro | (refine And.intro ?_ ?_))))), fun e1 L1 o1 h1 => ?_⟩
            (conv => whnf)
            refine ⟨by rw [hw]; omega, by rw [hw]; omega, ?_⟩
            (conv => whnf)
            refine ⟨by rw [hw]; omega, ?_⟩
            (conv => whnf)
            refine ⟨(L1, o1, (hist l l.length).getD (0 + (IntKind.i64.wrap (((hist l l.length).length : Int) - 1)).toNat) 0), [3, 4], h1, rfl, by (repeat' (first | exact True.intro | rfl | assumption | exact ent_keep _ _ | (refine And.intro ?_ ?_) | (intro _ _; rfl) | ((conv => whnf); (first | exact True.intro | (refine And.intro ?_ ?_))))), by (repeat' (first | exact True.intro | rfl | assumption | exact ent_keep _ _ | (refine And.intro ?_ ?_) | (intro _ _; rfl) | ((conv => whnf); (first | exact True.intro | (refine And.intro ?_ ?_))))), fun e2 L2 o2 h2 => ?_⟩
            (conv => whnf)
            (repeat' (first | (refine And.intro (fun hh => ?_) (fun hh => ?_) <;> first | (exfalso; simp [*] at hh; done) | (exfalso; simp_all; done) | (conv => whnf)) | fail))
            refine ⟨(i + 1, L2, o2), [], by show (hist l l.length).length - (i + 1) < (hist l l.length).length - i; omega, ⟨by show i + 1 ≤ (hist l l.length).length; omega, h2⟩, ?_⟩
            (repeat' (first | exact True.intro | rfl | assumption | exact ent_keep _ _ | (refine And.intro ?_ ?_) | (intro _ _; rfl) | ((conv => whnf); (first | exact True.intro | (refine And.intro ?_ ?_)))))
            all_goals exact hw2.symm
          · intro h
            (conv => whnf)
            have hi2 : i = (hist l l.length).length := by have := dec_ge h; omega
            refine ⟨(L, o), [some 1, some 2, some 3, some 4, some 5, some 6, some 7, some 8, some 9, some 13, some 14, some 12, some 15], hr, ?_, ?_⟩
            · (repeat' (first | exact True.intro | rfl | assumption | exact ent_keep _ _ | (refine And.intro ?_ ?_) | (intro _ _; rfl) | ((conv => whnf); (first | exact True.intro | (refine And.intro ?_ ?_)))))
              show ((hist l l.length).length : Int) = (i : Int)
              omega
            · (repeat' (first | exact True.intro | rfl | assumption | exact ent_keep _ _ | (refine And.intro ?_ ?_) | (intro _ _; rfl) | ((conv => whnf); (first | exact True.intro | (refine And.intro ?_ ?_)))))
        · (conv => whnf)
          (repeat' (first | (refine And.intro (fun hh => ?_) (fun hh => ?_) <;> first | (exfalso; simp [*] at hh; done) | (exfalso; simp_all; done) | (conv => whnf)) | fail))
          refine .inr ?_
          (conv => whnf)
          refine ⟨fun h => absurd h (by decide), fun _ => ?_⟩
          (conv => whnf)
          refine ⟨[], _, _, hR, ?_⟩
          (repeat' (first | exact True.intro | rfl | assumption | exact ent_keep _ _ | (refine And.intro ?_ ?_) | (intro _ _; rfl) | ((conv => whnf); (first | exact True.intro | (refine And.intro ?_ ?_)))))
end Go.Proofs.Ytollflfkgcgdkaa
