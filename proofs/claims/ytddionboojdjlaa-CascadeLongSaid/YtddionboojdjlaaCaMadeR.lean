/- What the law's own functions compute: edges, made. -/
import Derived.Test.YtddionboojdjlaaK10CascadeLong
import Derived.Test.YtddionboojdjlaaGrRef4R
namespace Go.Proofs.Ytddionboojdjlaa
open Go Go.RowKit Sy Tb Gr
set_option maxRecDepth 100000
set_option maxHeartbeats 4000000

def edF (l : List Ed) (j : Nat) : List V := [.str (l.getD j e00).1, .str (l.getD j e00).2]
/-- A list of edges in memory that is only read. -/
def ZE (Z : Nat → Option Obj) (p : Option (Nat × Nat)) (l : List Ed) : Prop := FzRow Z p 2 (edF l) l.length
theorem ZE.at_ {Z : Nat → Option Obj} {p : Option (Nat × Nat)} {l : List Ed} (h : ZE Z p l) {k : Nat} (hk : k < l.length) : ∃ b off, p = some (b, off) ∧ FzAt Z b (off + k * 2) [.str (l.getD k e00).1, .str (l.getD k e00).2] ∧ FzAt Z b (off + k * 2 + 1) [.str (l.getD k e00).2] := by
  obtain ⟨b, off, hp, hat⟩ := FzRow.at_ h hk
  exact ⟨b, off, hp, hat, hat.drop 1 (by show 1 ≤ 2; omega)⟩
def few3 (n : Nat) (l : List Ed) : Prop := l.length ≤ n ∧ ∀ j, j < l.length → (l.getD j e00).1.size ≤ 20 ∧ (l.getD j e00).2.size ≤ 20
namespace Gr
def mkE (l : List Ed) : List Ed := l.foldl (fun E e => rAddE 1000 1000 E e.1 e.2) []
theorem mkE_snoc {l : List Ed} {i : Nat} (h : i < l.length) : mkE (l.take (i + 1)) = rAddE 1000 1000 (mkE (l.take i)) (l.getD i e00).1 (l.getD i e00).2 := by
  unfold mkE
  rw [take_snoc (d := e00) h, List.foldl_append]
  rfl
theorem mkE_len : ∀ (l : List Ed), (mkE l).length ≤ l.length := by
  have : ∀ (l E : List Ed), (l.foldl (fun E e => rAddE 1000 1000 E e.1 e.2) E).length ≤ E.length + l.length := fun l => by
    induction l with
    | nil => intro E; exact Nat.le_refl _
    | cons e l ih =>
      intro E
      rw [List.foldl_cons, List.length_cons]
      have h1 := ih (rAddE 1000 1000 E e.1 e.2)
      have h2 := rAddE_len 1000 1000 E e.1 e.2
      omega
  intro l
  have h := this l []
  rw [List.length_nil, Nat.zero_add] at h
  exact h
theorem mkE_ac : ∀ (l : List Ed), l.length ≤ 1000 → Ac (mkE l) := by
  have : ∀ (l E : List Ed), Ac E → E.length + l.length ≤ 1000 → Ac (l.foldl (fun E e => rAddE 1000 1000 E e.1 e.2) E) := fun l => by
    induction l with
    | nil => intro E h _; exact h
    | cons e l ih =>
      intro E h hl
      rw [List.length_cons] at hl
      have h2 := rAddE_len 1000 1000 E e.1 e.2
      rw [List.foldl_cons]
      exact ih _ (h.addE (by omega) e.1 e.2) (by omega)
  exact fun l h => this l [] Ac.nil (by rw [List.length_nil]; omega)
end Gr
def SAddG : LSpec where
  X := GX × Bs × Bs
  k := 5
  pre x := (MG 1000 1000 x.1.2.1 x.1.2.2 x.1.1 ∧ x.1.2.1.length ≤ 4000 ∧ x.1.2.2 < 1000000000) ∧ x.2.1.size ≤ 1000000 ∧ x.2.2.size ≤ 1000000
  args x θ := [.ptr (θ 0) 0, .str x.2.1, .str x.2.2]
  objs x θ := x.1.1.objs θ
  out x θ R := ∀ g : GG, MG 1000 1000 (rAddE 1000 1000 x.1.2.1 x.2.1 x.2.2) (x.1.2.2 + 1) g →
    R (.tup [.sb (rAddR 1000 1000 x.1.2.1 x.2.1 x.2.2).1, i64 (rAddR 1000 1000 x.1.2.1 x.2.1 x.2.2).2]) [some (grC (θ 5) (θ 6) g.N g.E g.seed g.ns.length g.m g.lk g.sr), none, none, some (mcO (θ 4) g.M1), some (mrO g.M2), some (lsR (θ 3) g.ns.length g.adr), some (ceR g.m g.C)]
theorem SAddG_nt : SAddG.Nt := ⟨fun _ _ => rfl, by unfold SAddG GG.objs; (intros; simp only [ren_all] at *; try assumption), by unfold SAddG; (intros; simp only [ren_all] at *; try assumption)⟩
theorem SAddG_ok : SAddG.Ok Try.prog 34 := fun ⟨⟨g, E, s⟩, p, c⟩ R ⟨⟨hG, hE, hs⟩, h1, h2⟩ hR => SAdd_ok (g, p, c) R ⟨hG.gw hE hs, h1, h2⟩ (by
  have hG : MG 1000 1000 E s g := hG
  have hE : E.length ≤ 4000 := hE
  have hr := hG.addR hE p c
  intro adr M1 M2 ns m C sr k1 k2 k3
  have hF := hR _ (hG.add hE k1 k2 k3)
  show R (.tup [.sb (addR g.N g.E g.lk g.ns p c).1, i64 (addR g.N g.E g.lk g.ns p c).2]) _
  rw [hr]
  exact hF)
theorem conMd : ConOk Try.prog (conOf [(32, SNew.T), (33, SRAdd.T), (34, SAddG.T)]) :=
  conOf_cons (LSpec.call SNew_nt SNew_ok) (conOf_cons (LSpec.call SRAdd_nt SRAdd_ok) (conOf_cons (LSpec.call SAddG_nt SAddG_ok) conOf_nil))

def SMadeN : LSpec where
  X := List Ed
  k := 1
  pre x := True ∧ few3 250 x
  args x θ := [.sl (θ 0) 0 2 x.length false]
  objs x _ := [edR x]
  out x θ R := ∀ g : GG, MG 1000 1000 (mkE x) 250 g → R (.tup [.ptr (θ 1) 0, rgV (θ 6) 1000 1000 (mkE x)]) (some (edR x) :: (g.all fun i => θ (i + 1)) ++ [some (edR (mkE x))])
theorem SMadeN_nt : SMadeN.Nt := ⟨fun _ _ => rfl, fun _ _ => rfl, by unfold SMadeN GG.all; intros; simp only [ren_all] at *; try assumption⟩
theorem SMadeN_ok : SMadeN.Ok Try.prog 10 := by
  refine LSpec.of_bodyC [9] noGo mixed conMd Try.func10 rfl (by kernel_rfl) fun (l : List Ed) R ⟨hz, hl, hsz⟩ hR => ?_
  have hz : True := hz
  have hl : l.length ≤ 250 := hl
  have hQ : ∀ g : GG, MG 1000 1000 (mkE l) 250 g → R (.tup [.ptr 1 0, rgV 6 1000 1000 (mkE l)]) (some (edR l) :: (g.all fun i => i + 1) ++ [some (edR (mkE l))]) := hR
  have hsz : ∀ j, j < l.length → (l.getD j e00).1.size ≤ 20 ∧ (l.getD j e00).2.size ≤ 20 := hsz
  (conv => whnf)
  refine ⟨(1000, 1000, 4), [], ⟨⟨by show (1 : Int) ≤ 1000; omega, by show (1000 : Int) ≤ 65536; omega⟩, by show (1 : Int) ≤ 1000; omega, by show (1000 : Int) ≤ 65536; omega⟩, rfl, by (repeat' (first | exact True.intro | rfl | assumption | exact mc_ok rfl | exact mr_ok | exact fun _ => rfl | exact mt_keep _ _ | exact ms_ok | (refine And.intro ?_ ?_) | (intro _ _; rfl) | ((conv => whnf); (first | exact True.intro | (refine And.intro ?_ ?_))))), by (repeat' (first | exact True.intro | rfl | assumption | exact mc_ok rfl | exact mr_ok | exact fun _ => rfl | exact mt_keep _ _ | exact ms_ok | (refine And.intro ?_ ?_) | (intro _ _; rfl) | ((conv => whnf); (first | exact True.intro | (refine And.intro ?_ ?_))))), ?_⟩
  (conv => whnf)
  refine ⟨fun hh => Bool.noConfusion (show (!decide ((0 : Int) = 0)) = true from hh), fun _ => ?_⟩
  (conv => whnf)
  refine .inl ⟨Nat × GG × List Ed, fun x => [(0, .sl 0 0 2 l.length false), (3, .ptr 1 0), (4, .ptr 2 0), (6, .ptr 7 0), (7, i64 x.1)],
    fun x => some (edR l) :: some (.cells [i64 0, i64 0, .nils] 28) :: (x.2.1.all fun i => i + 2) ++ [some (.cells [i64 1000, i64 1000, .sl 8 0 2 x.2.2.length false] 28), some (edR x.2.2)],
    fun x => l.length - x.1, fun x => x.1 ≤ l.length ∧ MG 1000 1000 x.2.2 x.1 x.2.1 ∧ x.2.2 = mkE (l.take x.1), 9,
    ⟨(0, ⟨1000, 1000, 4, fun _ => 0, m1e, m2e, [], 8, fun _ => 0, 0, 0⟩, []), [some 1, some 2, some 3, some 4, some 5, some 6, some 7, none], ⟨Nat.zero_le _, MG.zero (by omega) (by omega) ⟨by omega, by omega⟩, rfl⟩, ?_⟩, fun _ => rfl, fun ⟨i, g, E⟩ ⟨hi, hG, hE⟩ => ?_⟩
  · (repeat' (first | exact True.intro | rfl | assumption | exact mc_ok rfl | exact mr_ok | exact fun _ => rfl | exact mt_keep _ _ | exact ms_ok | (refine And.intro ?_ ?_) | (intro _ _; rfl) | ((conv => whnf); (first | exact True.intro | (refine And.intro ?_ ?_)))))
  have hi : i ≤ l.length := hi
  have hG : MG 1000 1000 E i g := hG
  have hE : E = mkE (l.take i) := hE
  have hEl : E.length ≤ 250 := by rw [hE]; have := mkE_len (l.take i); have := take_le l i; omega
  have ei := zero_add_toNat i
  (conv => whnf)
  constructor
  · intro h
    have h : i < l.length := by have : (i : Int) < (l.length : Int) := of_decide_eq_true h; omega
    obtain ⟨p, hp⟩ : ∃ p, p = (l.getD (0 + (i : Int).toNat) e00).1 := ⟨_, rfl⟩
    obtain ⟨k, hk⟩ : ∃ p, p = (l.getD (0 + (i : Int).toNat) e00).2 := ⟨_, rfl⟩
    have hz2 : p.size ≤ 20 ∧ k.size ≤ 20 := by rw [hp, hk, ei]; exact hsz i h
    have hEs : rAddE 1000 1000 E p k = mkE (l.take (i + 1)) := by rw [mkE_snoc h, ← hE, hp, hk]; rw [ei]
    (conv => whnf)
    refine ⟨Unit, fun _ => [(0, .sl 0 0 2 l.length false), (3, .ptr 1 0), (4, .ptr 2 0), (6, .ptr 7 0), (7, i64 i), (8, .ptr 9 0), (9, .sb (rAddR 1000 1000 E p k).1), (10, i64 (rAddR 1000 1000 E p k).2)],
      fun _ => some (edR l) :: some (.cells [i64 0, i64 0, .nils] 28) :: (g.all fun i => i + 2) ++ [some (.cells [i64 1000, i64 1000, .sl 8 0 2 E.length false] 28), none, some (.cells [i64 1000, i64 1000, .sl 10 0 2 (rAddE 1000 1000 E p k).length false] 28), some (edR (rAddE 1000 1000 E p k))],
      fun _ => True, 11, fun _ => rfl, ?_, fun _ _ => ?_⟩
    · (conv => whnf)
      refine ⟨by show (0 : Int) ≤ (i : Int); omega, by show (i : Int) < (l.length : Int); omega, ?_⟩
      (conv => whnf)
      refine ⟨by rw [ei]; exact h, ?_⟩
      (conv => whnf)
      refine ⟨by show (0 : Int) ≤ (i : Int); omega, by show (i : Int) < (l.length : Int); omega, ?_⟩
      (conv => whnf)
      refine ⟨by rw [ei]; exact h, ?_⟩
      (conv => whnf)
      constructor
      · (conv => whnf)
        refine ⟨((1000, 1000, E), p, k), [8], by show E.length ≤ 9000; omega, rfl, ?_, by (repeat' (first | exact True.intro | rfl | assumption | exact mc_ok rfl | exact mr_ok | exact fun _ => rfl | exact mt_keep _ _ | exact ms_ok | (refine And.intro ?_ ?_) | (intro _ _; rfl) | ((conv => whnf); (first | exact True.intro | (refine And.intro ?_ ?_))))), ?_⟩
        · (repeat' (first | exact True.intro | rfl | assumption | exact mc_ok rfl | exact mr_ok | exact fun _ => rfl | exact mt_keep _ _ | exact ms_ok | (refine And.intro ?_ ?_) | (intro _ _; rfl) | ((conv => whnf); (first | exact True.intro | (refine And.intro ?_ ?_)))))
          all_goals first | exact congrArg V.str hp | exact congrArg V.str hk
        (conv => whnf)
        (repeat (first | refine And.intro rfl ?_ | fail))
        (conv => whnf)
        refine ⟨(), [some 1, some 2, some 3, some 4, some 5, some 6, some 7, some 8, some 10, some 9], trivial, ?_⟩
        (repeat' (first | exact True.intro | rfl | assumption | exact mc_ok rfl | exact mr_ok | exact fun _ => rfl | exact mt_keep _ _ | exact ms_ok | (refine And.intro ?_ ?_) | (intro _ _; rfl) | ((conv => whnf); (first | exact True.intro | (refine And.intro ?_ ?_)))))
      · (conv => whnf)
        (repeat (first | refine And.intro rfl ?_ | fail))
        (conv => whnf)
        refine ⟨((1000, 1000, E), p, k), [8], by show E.length ≤ 9000; omega, rfl, ?_, by (repeat' (first | exact True.intro | rfl | assumption | exact mc_ok rfl | exact mr_ok | exact fun _ => rfl | exact mt_keep _ _ | exact ms_ok | (refine And.intro ?_ ?_) | (intro _ _; rfl) | ((conv => whnf); (first | exact True.intro | (refine And.intro ?_ ?_))))), ?_⟩
        · (repeat' (first | exact True.intro | rfl | assumption | exact mc_ok rfl | exact mr_ok | exact fun _ => rfl | exact mt_keep _ _ | exact ms_ok | (refine And.intro ?_ ?_) | (intro _ _; rfl) | ((conv => whnf); (first | exact True.intro | (refine And.intro ?_ ?_)))))
          all_goals first | exact congrArg V.str hp | exact congrArg V.str hk
        (conv => whnf)
        (repeat (first | refine And.intro rfl ?_ | fail))
        (conv => whnf)
        refine ⟨(), [some 1, some 2, some 3, some 4, some 5, some 6, some 7, some 8, some 9, some 10], trivial, ?_⟩
        (repeat' (first | exact True.intro | rfl | assumption | exact mc_ok rfl | exact mr_ok | exact fun _ => rfl | exact mt_keep _ _ | exact ms_ok | (refine And.intro ?_ ?_) | (intro _ _; rfl) | ((conv => whnf); (first | exact True.intro | (refine And.intro ?_ ?_)))))
    · (conv => whnf)
      refine ⟨by show (0 : Int) ≤ (i : Int); omega, by show (i : Int) < (l.length : Int); omega, ?_⟩
      (conv => whnf)
      refine ⟨by rw [ei]; exact h, ?_⟩
      (conv => whnf)
      refine ⟨by show (0 : Int) ≤ (i : Int); omega, by show (i : Int) < (l.length : Int); omega, ?_⟩
      (conv => whnf)
      refine ⟨by rw [ei]; exact h, ?_⟩
      (conv => whnf)
      refine ⟨((g, E, (i : Int)), p, k), [2, 3, 4, 5, 6], ⟨⟨hG, by show E.length ≤ 4000; omega, by show (i : Int) < 1000000000; omega⟩, by show p.size ≤ 1000000; omega, by show k.size ≤ 1000000; omega⟩, rfl, ?_, by (repeat' (first | exact True.intro | rfl | assumption | exact mc_ok rfl | exact mr_ok | exact fun _ => rfl | exact mt_keep _ _ | exact ms_ok | (refine And.intro ?_ ?_) | (intro _ _; rfl) | ((conv => whnf); (first | exact True.intro | (refine And.intro ?_ ?_))))), fun g' hG' => ?_⟩
      · (repeat' (first | exact True.intro | rfl | assumption | exact mc_ok rfl | exact mr_ok | exact fun _ => rfl | exact mt_keep _ _ | exact ms_ok | (refine And.intro ?_ ?_) | (intro _ _; rfl) | ((conv => whnf); (first | exact True.intro | (refine And.intro ?_ ?_)))))
        all_goals first | exact congrArg V.str hp | exact congrArg V.str hk
      have hG' : MG 1000 1000 (rAddE 1000 1000 E p k) ((i : Int) + 1) g' := hG'
      (conv => whnf)
      refine ⟨fun _ => ?_, fun hh => absurd (show (((rAddR 1000 1000 E p k).1 == (rAddR 1000 1000 E p k).1) == false) = true from hh) (by simp)⟩
      (conv => whnf)
      refine ⟨fun hh => absurd (show (!decide ((rAddR 1000 1000 E p k).2 = (rAddR 1000 1000 E p k).2)) = true from hh) (by simp), fun _ => ?_⟩
      (conv => whnf)
      refine ⟨(i + 1, g', rAddE 1000 1000 E p k), [some 1, some 2, some 11, some 12, some 5, some 6, some 7, some 10], by show l.length - (i + 1) < l.length - i; omega, ⟨by show i + 1 ≤ l.length; omega, hG', hEs⟩, ?_⟩
      (repeat' (first | exact True.intro | rfl | assumption | exact mc_ok rfl | exact mr_ok | exact fun _ => rfl | exact mt_keep _ _ | exact ms_ok | (refine And.intro ?_ ?_) | (intro _ _; rfl) | ((conv => whnf); (first | exact True.intro | (refine And.intro ?_ ?_)))))
      all_goals exact (wrap_inc h (by omega)).symm
  · intro h
    have h : ¬ i < l.length := by have : ¬ (i : Int) < (l.length : Int) := of_decide_eq_false h; omega
    have hEm : E = mkE l := by rw [hE, List.take_of_length_le (by omega)]
    have hF := hQ g (by rw [← hEm]; exact ⟨hG.eN, hG.eE, hG.gu, hG.pu, hG.rel, hG.lk, by have := hG.srb; omega, hG.eM⟩)
    rw [← hEm] at hF
    (conv => whnf)
    refine ⟨[some 2, some 3, some 4, some 5, some 6, some 8], _, _, hF, ?_⟩
    (repeat' (first | exact True.intro | rfl | assumption | exact mc_ok rfl | exact mr_ok | exact fun _ => rfl | exact mt_keep _ _ | exact ms_ok | (refine And.intro ?_ ?_) | (intro _ _; rfl) | ((conv => whnf); (first | exact True.intro | (refine And.intro ?_ ?_)))))

end Go.Proofs.Ytddionboojdjlaa
