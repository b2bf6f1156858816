/- GraphPlays: the loop. -/
import Derived.Test.YtmgcpfljhcahoaaGrIsR
import Derived.Test.YtmgcpfljhcahoaaGrKnownR
namespace Go.Proofs.Ytmgcpfljhcahoaa
open Go Go.RowKit Sy Tb Gr
set_option maxRecDepth 100000
set_option maxHeartbeats 20000000

abbrev ActG := Int × Bs × Bs × Int
def ag0 : ActG := (0, eS, eS, 0)
def agC (a : ActG) : List V := actC a.1 a.2.1 a.2.2.1 a.2.2.2
def agO (c : Obj) (l : List ActG) (e : TypeId) : SObj := .ro c l.length (fun j => agC (l.getD j ag0)) e 4
def rgC (i : Nat) (N M : Int) (E : List Ed) : SObj := .cells [i64 N, i64 M, .sl i 0 2 E.length false] 32
def SMostG : LSpec where
  X := Int × Int
  k := 0
  pre _ := True
  args x _ := [i64 x.1, i64 x.2]
  objs _ _ := []
  out x _ R := ∀ b, (b = true → (1 ≤ x.1 ∧ x.1 ≤ 65536) ∧ 1 ≤ x.2 ∧ x.2 ≤ 65536) → R (.sb b) []
theorem SMostG_nt : SMostG.Nt := ⟨fun _ _ => rfl, fun _ _ => rfl, fun _ _ _ h => h⟩
theorem SMostG_ok : SMostG.Ok Try.prog 10 := by
  refine LSpec.of_body noGo mixed conOf_nil Try.func10 rfl (by kernel_rfl) fun ⟨N, M⟩ R _ hR => ?_
  have hR : ∀ b, (b = true → (1 ≤ N ∧ N ≤ 65536) ∧ 1 ≤ M ∧ M ≤ 65536) → R (.sb b) [] := hR
  have h0 := hR false (fun g => Bool.noConfusion g)
  show bodyP _ _ _ _ _ [i64 N, i64 M] ⟨0, Tr.ofL 0 [] .leaf⟩ _
  (conv => whnf)
  constructor
  · intro h1
    have h1 : 1 ≤ N := of_decide_eq_true h1
    (conv => whnf)
    constructor
    · intro h2
      have h2 : N ≤ 65536 := of_decide_eq_true h2
      (conv => whnf)
      constructor
      · intro h3
        have h3 : 1 ≤ M := of_decide_eq_true h3
        have hF := hR (decide (M ≤ 65536)) fun g => ⟨⟨h1, h2⟩, h3, of_decide_eq_true g⟩
        (conv => whnf)
        refine ⟨[], _, _, hF, ?_⟩
        (repeat' (first | exact True.intro | rfl | assumption | exact mc_ok rfl | exact mr_ok | exact fun _ => rfl | (refine And.intro ?_ ?_) | (intro _ _; rfl) | ((conv => whnf); (first | exact True.intro | (refine And.intro ?_ ?_)))))
      · intro h3
        (conv => whnf)
        refine ⟨[], _, _, h0, ?_⟩
        (repeat' (first | exact True.intro | rfl | assumption | exact mc_ok rfl | exact mr_ok | exact fun _ => rfl | (refine And.intro ?_ ?_) | (intro _ _; rfl) | ((conv => whnf); (first | exact True.intro | (refine And.intro ?_ ?_)))))
        all_goals exact h3.symm
    · intro h2
      (conv => whnf)
      (repeat' (first | (refine And.intro (fun hh => ?_) (fun hh => ?_) <;> first | (exfalso; simp [*] at hh; done) | (exfalso; simp_all; done) | (conv => whnf)) | fail))
      refine ⟨[], _, _, h0, ?_⟩
      (repeat' (first | exact True.intro | rfl | assumption | exact mc_ok rfl | exact mr_ok | exact fun _ => rfl | (refine And.intro ?_ ?_) | (intro _ _; rfl) | ((conv => whnf); (first | exact True.intro | (refine And.intro ?_ ?_)))))
      all_goals exact h2.symm
  · intro h1
    (conv => whnf)
    (repeat' (first | (refine And.intro (fun hh => ?_) (fun hh => ?_) <;> first | (exfalso; simp [*] at hh; done) | (exfalso; simp_all; done) | (conv => whnf)) | fail))
    refine ⟨[], _, _, h0, ?_⟩
    (repeat' (first | exact True.intro | rfl | assumption | exact mc_ok rfl | exact mr_ok | exact fun _ => rfl | (refine And.intro ?_ ?_) | (intro _ _; rfl) | ((conv => whnf); (first | exact True.intro | (refine And.intro ?_ ?_)))))
    all_goals exact h1.symm
def SFewG : LSpec where
  X := (Obj × List ActG × TypeId) × Int
  k := 1
  pre x := 0 ≤ x.2 ∧ x.2 ≤ 1000
  args x θ := [.sl (θ 0) 0 4 x.1.2.1.length false, i64 x.2]
  objs x _ := [agO x.1.1 x.1.2.1 x.1.2.2]
  out x _ R := ∀ b, (b = true → (x.1.2.1.length : Int) ≤ x.2 ∧ ∀ j, j < x.1.2.1.length → sP (x.1.2.1.getD j ag0).2.1 ∧ sP (x.1.2.1.getD j ag0).2.2.1) → R (.sb b) [some (agO x.1.1 x.1.2.1 x.1.2.2)]
theorem SFewG_nt : SFewG.Nt := ⟨fun _ _ => rfl, fun _ _ => rfl, fun _ _ _ h => h⟩
theorem SFewG_ok : SFewG.Ok Try.prog 31 := by
  refine LSpec.of_body noGo mixed conOf_nil Try.func31 rfl (by kernel_rfl) fun ⟨⟨c, l, e⟩, k⟩ R hk hR => ?_
  have hk : 0 ≤ k ∧ k ≤ 1000 := hk
  have hR : ∀ b, (b = true → (l.length : Int) ≤ k ∧ ∀ j, j < l.length → sP (l.getD j ag0).2.1 ∧ sP (l.getD j ag0).2.2.1) → R (.sb b) [some (agO c l e)] := hR
  have hR0 := hR false (fun g => Bool.noConfusion g)
  show bodyP _ _ _ _ _ [.sl 0 0 4 l.length false, i64 k] ⟨1, Tr.ofL 0 [agO c l e] .leaf⟩ _
  (conv => whnf)
  refine .inl ⟨Nat, fun i => [(0, .sl 0 0 4 l.length false), (1, i64 k), (5, i64 i)], fun i => [some (agO c l e)], fun i => 1001 - i, fun i => i ≤ 1000 ∧ ∀ j, j < i → sP (l.getD j ag0).2.1 ∧ sP (l.getD j ag0).2.2.1, 1, ⟨0, [], ⟨Nat.zero_le _, fun j hj => absurd hj (Nat.not_lt_zero j)⟩, ?_⟩, fun _ => rfl, fun i hi0 => ?_⟩
  · (repeat' (first | exact True.intro | rfl | assumption | exact mc_ok rfl | exact mr_ok | exact fun _ => rfl | (refine And.intro ?_ ?_) | (intro _ _; rfl) | ((conv => whnf); (first | exact True.intro | (refine And.intro ?_ ?_)))))
  have hi : i ≤ 1000 := hi0.1
  have hno : ∀ j, j < i → sP (l.getD j ag0).2.1 ∧ sP (l.getD j ag0).2.2.1 := hi0.2
  clear hi0
  have ei := zero_add_toNat i
  have hend : ((l.length : Int) ≤ k → l.length ≤ i) → R (.sb (decide ((l.length : Int) ≤ k))) [some (agO c l e)] := fun q => hR _ fun g => ⟨of_decide_eq_true g, fun j hj => hno j (Nat.lt_of_lt_of_le hj (q (of_decide_eq_true g)))⟩
  (conv => whnf)
  constructor
  · intro h
    have h : (i : Int) < (l.length : Int) := of_decide_eq_true h
    (conv => whnf)
    constructor
    · intro h2
      have h2 : (i : Int) < k := of_decide_eq_true h2
      (conv => whnf)
      refine ⟨by show (0 : Int) ≤ (i : Int); omega, h, ?_⟩
      (conv => whnf)
      refine ⟨by rw [ei]; omega, ?_⟩
      rw [ei]
      (conv => whnf)
      constructor
      · intro h3
        have h3 : (l.getD i ag0).2.1.size ≤ 300 := by have : ¬ ((l.getD i ag0).2.1.size : Int) > 300 := of_decide_eq_false h3; omega
        (conv => whnf)
        refine ⟨by show (0 : Int) ≤ (i : Int); omega, h, ?_⟩
        (conv => whnf)
        refine ⟨by rw [ei]; omega, ?_⟩
        rw [ei]
        (conv => whnf)
        constructor
        · intro _
          (conv => whnf)
          refine ⟨[], _, _, hR0, ?_⟩
          (repeat' (first | exact True.intro | rfl | assumption | exact mc_ok rfl | exact mr_ok | exact fun _ => rfl | (refine And.intro ?_ ?_) | (intro _ _; rfl) | ((conv => whnf); (first | exact True.intro | (refine And.intro ?_ ?_)))))
        · intro h4
          have h4 : (l.getD i ag0).2.2.1.size ≤ 300 := by have : ¬ ((l.getD i ag0).2.2.1.size : Int) > 300 := of_decide_eq_false h4; omega
          (conv => whnf)
          refine ⟨i + 1, [], by show 1001 - (i + 1) < 1001 - i; omega, ⟨by show i + 1 ≤ 1000; omega, fun j hj => ?_⟩, ?_⟩
          · have hj : j < i + 1 := hj
            rcases Nat.lt_or_ge j i with g | g
            · exact hno j g
            · obtain rfl : j = i := by omega
              exact ⟨h3, h4⟩
          (repeat' (first | exact True.intro | rfl | assumption | exact mc_ok rfl | exact mr_ok | exact fun _ => rfl | (refine And.intro ?_ ?_) | (intro _ _; rfl) | ((conv => whnf); (first | exact True.intro | (refine And.intro ?_ ?_)))))
          exact (wrap_id (by omega) (by omega)).symm
      · intro _
        (conv => whnf)
        (repeat' (first | (refine And.intro (fun hh => ?_) (fun hh => ?_) <;> first | (exfalso; simp [*] at hh; done) | (exfalso; simp_all; done) | (conv => whnf)) | fail))
        refine ⟨[], _, _, hR0, ?_⟩
        (repeat' (first | exact True.intro | rfl | assumption | exact mc_ok rfl | exact mr_ok | exact fun _ => rfl | (refine And.intro ?_ ?_) | (intro _ _; rfl) | ((conv => whnf); (first | exact True.intro | (refine And.intro ?_ ?_)))))
    · intro h2
      have h2 : ¬ (i : Int) < k := of_decide_eq_false h2
      have hF := hend fun _ => by omega
      (conv => whnf)
      refine ⟨[], _, _, hF, ?_⟩
      (repeat' (first | exact True.intro | rfl | assumption | exact mc_ok rfl | exact mr_ok | exact fun _ => rfl | (refine And.intro ?_ ?_) | (intro _ _; rfl) | ((conv => whnf); (first | exact True.intro | (refine And.intro ?_ ?_)))))
  · intro h
    have h : ¬ (i : Int) < (l.length : Int) := of_decide_eq_false h
    have hF := hend fun _ => by omega
    (conv => whnf)
    (repeat' (first | (refine And.intro (fun hh => ?_) (fun hh => ?_) <;> first | (exfalso; simp [*] at hh; done) | (exfalso; simp_all; done) | (conv => whnf)) | fail))
    refine ⟨[], _, _, hF, ?_⟩
    (repeat' (first | exact True.intro | rfl | assumption | exact mc_ok rfl | exact mr_ok | exact fun _ => rfl | (refine And.intro ?_ ?_) | (intro _ _; rfl) | ((conv => whnf); (first | exact True.intro | (refine And.intro ?_ ?_)))))
theorem conPl : ConOk Try.prog (conOf [(11, SKnownG.T), (10, SMostG.T), (31, SFewG.T), (9, SNew.T), (32, SGStep.T), (12, SGIs.T)]) :=
  conOf_cons (LSpec.call SKnownG_nt SKnownG_ok) (conOf_cons (LSpec.call SMostG_nt SMostG_ok) (conOf_cons (LSpec.call SFewG_nt SFewG_ok) (conOf_cons (LSpec.call SNew_nt SNew_ok) (conOf_cons (LSpec.call SGStep_nt SGStep_ok) (conOf_cons (LSpec.call SGIs_nt SGIs_ok) conOf_nil)))))
def SPlaysL : LSpec where
  X := (Int × Int) × Obj × List ActG × TypeId
  k := 1
  pre _ := True
  args x θ := [i64 x.1.1, i64 x.1.2, .sl (θ 0) 0 4 x.2.2.1.length false]
  objs x _ := [agO x.2.1 x.2.2.1 x.2.2.2]
  out x _ R := R (.sb true) [some (agO x.2.1 x.2.2.1 x.2.2.2)]
theorem SPlaysL_top : SPlaysL.Top Try.prog 7 := by
  refine LSpec.topC (md := false) [11] noGo mixed conPl Try.func7 rfl (by kernel_rfl) fun ⟨⟨N, M⟩, c, A, e⟩ R _ hR => ?_
  have hQ : R (.sb true) [some (agO c A e)] := hR
  clear hR
  show bodyP _ _ _ _ _ [i64 N, i64 M, .sl 0 0 4 A.length false] ⟨1, Tr.ofL 0 [agO c A e] .leaf⟩ _
  (conv => whnf)
  refine ⟨(N, M), [], trivial, rfl, by (repeat' (first | exact True.intro | rfl | assumption | exact mc_ok rfl | exact mr_ok | exact fun _ => rfl | (refine And.intro ?_ ?_) | (intro _ _; rfl) | ((conv => whnf); (first | exact True.intro | (refine And.intro ?_ ?_))))), by (repeat' (first | exact True.intro | rfl | assumption | exact mc_ok rfl | exact mr_ok | exact fun _ => rfl | (refine And.intro ?_ ?_) | (intro _ _; rfl) | ((conv => whnf); (first | exact True.intro | (refine And.intro ?_ ?_))))), fun b0 hb0 => ?_⟩
  (conv => whnf)
  constructor
  rotate_left
  · intro _
    (conv => whnf)
    (repeat' (first | (refine And.intro (fun hh => ?_) (fun hh => ?_) <;> first | (exfalso; simp [*] at hh; done) | (exfalso; simp_all; done) | (conv => whnf)) | fail))
    refine ⟨(), [], trivial, rfl, by (repeat' (first | exact True.intro | rfl | assumption | exact mc_ok rfl | exact mr_ok | exact fun _ => rfl | (refine And.intro ?_ ?_) | (intro _ _; rfl) | ((conv => whnf); (first | exact True.intro | (refine And.intro ?_ ?_))))), by (repeat' (first | exact True.intro | rfl | assumption | exact mc_ok rfl | exact mr_ok | exact fun _ => rfl | (refine And.intro ?_ ?_) | (intro _ _; rfl) | ((conv => whnf); (first | exact True.intro | (refine And.intro ?_ ?_))))), ?_⟩
    (conv => whnf)
    refine ⟨[], _, _, hQ, ?_⟩
    (repeat' (first | exact True.intro | rfl | assumption | exact mc_ok rfl | exact mr_ok | exact fun _ => rfl | (refine And.intro ?_ ?_) | (intro _ _; rfl) | ((conv => whnf); (first | exact True.intro | (refine And.intro ?_ ?_)))))
  intro h0
  obtain ⟨hN, hM⟩ := hb0 (by have h0 : (!b0) = false := h0; simpa using h0)
  have hN : 1 ≤ N ∧ N ≤ 65536 := hN
  have hM : 1 ≤ M ∧ M ≤ 65536 := hM
  (conv => whnf)
  refine ⟨((c, A, e), 40), [0], ⟨show (0 : Int) ≤ 40 by decide, show (40 : Int) ≤ 1000 by decide⟩, rfl, by (repeat' (first | exact True.intro | rfl | assumption | exact mc_ok rfl | exact mr_ok | exact fun _ => rfl | (refine And.intro ?_ ?_) | (intro _ _; rfl) | ((conv => whnf); (first | exact True.intro | (refine And.intro ?_ ?_))))), by (repeat' (first | exact True.intro | rfl | assumption | exact mc_ok rfl | exact mr_ok | exact fun _ => rfl | (refine And.intro ?_ ?_) | (intro _ _; rfl) | ((conv => whnf); (first | exact True.intro | (refine And.intro ?_ ?_))))), fun b hb => ?_⟩
  (conv => whnf)
  constructor
  · intro _
    (conv => whnf)
    refine ⟨(), [], trivial, rfl, by (repeat' (first | exact True.intro | rfl | assumption | exact mc_ok rfl | exact mr_ok | exact fun _ => rfl | (refine And.intro ?_ ?_) | (intro _ _; rfl) | ((conv => whnf); (first | exact True.intro | (refine And.intro ?_ ?_))))), by (repeat' (first | exact True.intro | rfl | assumption | exact mc_ok rfl | exact mr_ok | exact fun _ => rfl | (refine And.intro ?_ ?_) | (intro _ _; rfl) | ((conv => whnf); (first | exact True.intro | (refine And.intro ?_ ?_))))), ?_⟩
    (conv => whnf)
    refine ⟨[], _, _, hQ, ?_⟩
    (repeat' (first | exact True.intro | rfl | assumption | exact mc_ok rfl | exact mr_ok | exact fun _ => rfl | (refine And.intro ?_ ?_) | (intro _ _; rfl) | ((conv => whnf); (first | exact True.intro | (refine And.intro ?_ ?_)))))
  intro h
  have hb1 := hb (by have h : (!b) = false := h; simpa using h)
  have hA : A.length ≤ 40 := by have : (A.length : Int) ≤ 40 := hb1.1; omega
  have hsz : ∀ j, j < A.length → sP (A.getD j ag0).2.1 ∧ sP (A.getD j ag0).2.2.1 := hb1.2
  clear hb hb1
  (conv => whnf)
  refine ⟨(N, M, 3), [], ⟨hN, hM⟩, rfl, by (repeat' (first | exact True.intro | rfl | assumption | exact mc_ok rfl | exact mr_ok | exact fun _ => rfl | (refine And.intro ?_ ?_) | (intro _ _; rfl) | ((conv => whnf); (first | exact True.intro | (refine And.intro ?_ ?_))))), by (repeat' (first | exact True.intro | rfl | assumption | exact mc_ok rfl | exact mr_ok | exact fun _ => rfl | (refine And.intro ?_ ?_) | (intro _ _; rfl) | ((conv => whnf); (first | exact True.intro | (refine And.intro ?_ ?_))))), ?_⟩
  (conv => whnf)
  refine ⟨fun hh => Bool.noConfusion (show (!decide ((0 : Int) = 0)) = true from hh), fun _ => ?_⟩
  (conv => whnf)
  refine .inl ⟨Nat × GG × List Ed, fun x => [(2, .sl 0 0 4 A.length false), (7, .ptr 1 0), (9, .ptr 6 0), (10, i64 x.1)], fun x => [some (agO c A e)] ++ x.2.1.all (fun i => i + 1) ++ [some (rgC 7 N M x.2.2), some (edR x.2.2)], fun x => A.length - x.1, fun x => x.1 ≤ A.length ∧ MG N M x.2.2 x.1 x.2.1 ∧ x.2.2.length ≤ x.1 ∧ Ac x.2.2, 8, ⟨(0, ⟨N, M, 3, fun _ => 0, m1e, m2e, [], 8, fun _ => 0, 0, 0⟩, []), [some 1, some 2, some 3, some 4, some 5, some 6, none], ⟨Nat.zero_le _, MG.zero hN.1 (by omega) ⟨by decide, by decide⟩, Nat.le_refl _, Ac.nil⟩, ?_⟩, fun _ => rfl, fun ⟨i, g, E⟩ hi0 => ?_⟩
  · (repeat' (first | exact True.intro | rfl | assumption | exact mc_ok rfl | exact mr_ok | exact fun _ => rfl | (refine And.intro ?_ ?_) | (intro _ _; rfl) | ((conv => whnf); (first | exact True.intro | (refine And.intro ?_ ?_)))))
  have hi : i ≤ A.length := hi0.1
  have hG : MG N M E i g := hi0.2.1
  have hE : E.length ≤ i := hi0.2.2.1
  have hac : Ac E := hi0.2.2.2
  clear hi0
  have ei := zero_add_toNat i
  (conv => whnf)
  constructor
  rotate_left
  · intro _
    (conv => whnf)
    refine ⟨(), [], trivial, rfl, by (repeat' (first | exact True.intro | rfl | assumption | exact mc_ok rfl | exact mr_ok | exact fun _ => rfl | (refine And.intro ?_ ?_) | (intro _ _; rfl) | ((conv => whnf); (first | exact True.intro | (refine And.intro ?_ ?_))))), by (repeat' (first | exact True.intro | rfl | assumption | exact mc_ok rfl | exact mr_ok | exact fun _ => rfl | (refine And.intro ?_ ?_) | (intro _ _; rfl) | ((conv => whnf); (first | exact True.intro | (refine And.intro ?_ ?_))))), ?_⟩
    (conv => whnf)
    refine ⟨[], _, _, hQ, ?_⟩
    (repeat' (first | exact True.intro | rfl | assumption | exact mc_ok rfl | exact mr_ok | exact fun _ => rfl | (refine And.intro ?_ ?_) | (intro _ _; rfl) | ((conv => whnf); (first | exact True.intro | (refine And.intro ?_ ?_)))))
  intro g1
  have g1 : i < A.length := by have : (i : Int) < (A.length : Int) := of_decide_eq_true g1; omega
  have hiN : 0 + ((i : Nat) : Int).toNat < A.length := by rw [ei]; exact g1
  have b1 : (0 : Int) ≤ (i : Int) ∧ (i : Int) < (A.length : Int) := ⟨by omega, by omega⟩
  obtain ⟨hs1, hs2⟩ := hsz i g1
  (conv => whnf)
  refine ⟨GG × List Ed, fun x => [(2, .sl 0 0 4 A.length false), (9, .ptr 6 0), (10, i64 i), (11, .ptr 1 0), (12, .ptr 8 0), (13, .sb true)], fun x => [some (agO c A e)] ++ x.1.all (fun i => i + 1) ++ [some (rgC 7 N M E), none, some (rgC 9 N M x.2), some (edR x.2)], fun x => MG N M x.2 (i + 1) x.1 ∧ x.2.length ≤ i + 1 ∧ Ac x.2, 10, fun _ => rfl, ?_, fun ⟨g', E'⟩ hx0 => ?_⟩
  · (conv => whnf)
    refine ⟨b1.1, b1.2, ?_⟩
    (conv => whnf)
    refine ⟨hiN, ?_⟩
    rw [ei]
    (conv => whnf)
    constructor
    · (conv => whnf)
      refine ⟨⟨N, M, E, i, g, (A.getD i ag0).1, (A.getD i ag0).2.1, (A.getD i ag0).2.2.1, (A.getD i ag0).2.2.2⟩, [1, 2, 3, 4, 5, 7], ⟨hG, by show E.length ≤ 100; omega, by show (i : Int) ≤ 100000; omega, hs1, hs2, hac⟩, rfl, by (repeat' (first | exact True.intro | rfl | assumption | exact mc_ok rfl | exact mr_ok | exact fun _ => rfl | (refine And.intro ?_ ?_) | (intro _ _; rfl) | ((conv => whnf); (first | exact True.intro | (refine And.intro ?_ ?_))))), by (repeat' (first | exact True.intro | rfl | assumption | exact mc_ok rfl | exact mr_ok | exact fun _ => rfl | (refine And.intro ?_ ?_) | (intro _ _; rfl) | ((conv => whnf); (first | exact True.intro | (refine And.intro ?_ ?_))))), fun g' E' hG' hl' hac' => ?_⟩
      have hG' : MG N M E' ((i : Int) + 1) g' := hG'
      have hl' : E'.length ≤ E.length + 1 := hl'
      have hac' : Ac E' := hac'
      (conv => whnf)
      (repeat (first | refine And.intro rfl ?_ | fail))
      (conv => whnf)
      (repeat (first | refine And.intro rfl ?_ | fail))
      (conv => whnf)
      refine ⟨(g', E'), [some 8, some 9, some 10, some 11, some 12, some 6, some 7, some 14, some 13], ⟨hG', by show E'.length ≤ i + 1; omega, hac'⟩, ?_⟩
      (repeat' (first | exact True.intro | rfl | assumption | exact mc_ok rfl | exact mr_ok | exact fun _ => rfl | (refine And.intro ?_ ?_) | (intro _ _; rfl) | ((conv => whnf); (first | exact True.intro | (refine And.intro ?_ ?_)))))
    · (conv => whnf)
      (repeat (first | refine And.intro rfl ?_ | fail))
      (conv => whnf)
      refine ⟨⟨N, M, E, i, g, (A.getD i ag0).1, (A.getD i ag0).2.1, (A.getD i ag0).2.2.1, (A.getD i ag0).2.2.2⟩, [1, 2, 3, 4, 5, 7], ⟨hG, by show E.length ≤ 100; omega, by show (i : Int) ≤ 100000; omega, hs1, hs2, hac⟩, rfl, by (repeat' (first | exact True.intro | rfl | assumption | exact mc_ok rfl | exact mr_ok | exact fun _ => rfl | (refine And.intro ?_ ?_) | (intro _ _; rfl) | ((conv => whnf); (first | exact True.intro | (refine And.intro ?_ ?_))))), by (repeat' (first | exact True.intro | rfl | assumption | exact mc_ok rfl | exact mr_ok | exact fun _ => rfl | (refine And.intro ?_ ?_) | (intro _ _; rfl) | ((conv => whnf); (first | exact True.intro | (refine And.intro ?_ ?_))))), fun g' E' hG' hl' hac' => ?_⟩
      have hG' : MG N M E' ((i : Int) + 1) g' := hG'
      have hl' : E'.length ≤ E.length + 1 := hl'
      have hac' : Ac E' := hac'
      (conv => whnf)
      (repeat (first | refine And.intro rfl ?_ | fail))
      (conv => whnf)
      (repeat (first | refine And.intro rfl ?_ | fail))
      (conv => whnf)
      refine ⟨(g', E'), [some 9, some 10, some 11, some 12, some 13, some 6, some 7, some 8, some 14], ⟨hG', by show E'.length ≤ i + 1; omega, hac'⟩, ?_⟩
      (repeat' (first | exact True.intro | rfl | assumption | exact mc_ok rfl | exact mr_ok | exact fun _ => rfl | (refine And.intro ?_ ?_) | (intro _ _; rfl) | ((conv => whnf); (first | exact True.intro | (refine And.intro ?_ ?_)))))
  have hG' : MG N M E' ((i : Int) + 1) g' := hx0.1
  have hl' : E'.length ≤ i + 1 := hx0.2.1
  have hac' : Ac E' := hx0.2.2
  clear hx0
  (conv => whnf)
  refine ⟨fun _ => ?_, fun hh => Bool.noConfusion (show (!true) = true from hh)⟩
  (conv => whnf)
  refine ⟨b1.1, b1.2, ?_⟩
  (conv => whnf)
  refine ⟨hiN, ?_⟩
  rw [ei]
  (conv => whnf)
  refine ⟨b1.1, b1.2, ?_⟩
  (conv => whnf)
  refine ⟨hiN, ?_⟩
  rw [ei]
  (conv => whnf)
  refine ⟨⟨N, M, E', (i : Int) + 1, g', (A.getD i ag0).2.1, (A.getD i ag0).2.2.1⟩, [1, 2, 3, 4, 5, 9], ⟨hG', by show E'.length ≤ 200; omega, by show (i : Int) + 1 ≤ 100000; omega, hs1, hs2, hac'⟩, rfl, by (repeat' (first | exact True.intro | rfl | assumption | exact mc_ok rfl | exact mr_ok | exact fun _ => rfl | (refine And.intro ?_ ?_) | (intro _ _; rfl) | ((conv => whnf); (first | exact True.intro | (refine And.intro ?_ ?_))))), by (repeat' (first | exact True.intro | rfl | assumption | exact mc_ok rfl | exact mr_ok | exact fun _ => rfl | (refine And.intro ?_ ?_) | (intro _ _; rfl) | ((conv => whnf); (first | exact True.intro | (refine And.intro ?_ ?_))))), ?_⟩
  (conv => whnf)
  refine ⟨fun hh => Bool.noConfusion (show (!true) = true from hh), fun _ => ?_⟩
  (conv => whnf)
  (repeat (first | refine And.intro rfl ?_ | fail))
  (conv => whnf)
  refine ⟨(i + 1, g', E'), [some 1, some 2, some 3, some 4, some 5, some 6, some 9], by show A.length - (i + 1) < A.length - i; omega, ⟨by show i + 1 ≤ A.length; omega, by show MG N M E' ((i + 1 : Nat) : Int) g'; exact hG', hl', hac'⟩, ?_⟩
  (repeat' (first | exact True.intro | rfl | assumption | exact mc_ok rfl | exact mr_ok | exact fun _ => rfl | (refine And.intro ?_ ?_) | (intro _ _; rfl) | ((conv => whnf); (first | exact True.intro | (refine And.intro ?_ ?_)))))
  all_goals exact (wrap_inc g1 (by omega)).symm
end Go.Proofs.Ytmgcpfljhcahoaa
