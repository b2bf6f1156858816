/- What the functions of package expiry compute: Len, New, List. -/
import Derived.Test.YtapjncdcjahlkaaExPrg5
namespace Go.Proofs.Ytapjncdcjahlkaa
open Go Go.RowKit Sy Ex Al
set_option maxRecDepth 100000

theorem wrap_inc {i n : Nat} (h : i < n) (hn : n < 1000000000) : IntKind.i64.wrap ((i : Int) + 1) = ((i + 1 : Nat) : Int) := by
  rw [wrap_id (by omega) (by omega)]; omega
def SNew : LSpec where
  X := Unit
  k := 0
  pre _ := True
  args _ _ := []
  objs _ _ := []
  out _ θ R := R (.ptr (θ 0) 0) [some (hpC (θ 1) (θ 2) 0), some (tmR 0 fun _ => c0), some (mpE [])]
theorem SNew_nt : SNew.Nt := ⟨fun _ _ => rfl, fun _ _ => rfl, fun _ _ _ h => h⟩
theorem SNew_ok : SNew.Ok Try.prog 9 := by
  refine LSpec.of_body noGo mixed conOf_nil Try.func9 rfl (by kernel_rfl) fun _ R _ hR => ?_
  (conv => whnf)
  refine ⟨[some 1, none, some 0], _, _, hR, ?_⟩
  (repeat' (first | exact True.intro | rfl | assumption | exact entI_keep _ _ | (refine And.intro ?_ ?_) | (intro _ _; rfl) | ((conv => whnf); (first | exact True.intro | (refine And.intro ?_ ?_)))))
def SLen : LSpec where
  X := HX
  k := 3
  pre _ := True
  args _ θ := [.ptr (θ 0) 0]
  objs x θ := [hpC (θ 1) (θ 2) x.1, tmR x.2.1 x.2.2.1, mpE x.2.2.2.1]
  out x θ R := R (i64 x.1) [some (hpC (θ 1) (θ 2) x.1), some (tmR x.2.1 x.2.2.1), some (mpE x.2.2.2.1)]
theorem SLen_nt : SLen.Nt := ⟨fun _ _ => rfl, by unfold SLen; (intros; simp only [ren_all] at *; try assumption), by unfold SLen; (intros; simp only [ren_all] at *; try assumption)⟩
theorem SLen_ok : SLen.Ok Try.prog 21 := by
  refine LSpec.of_body noGo mixed conZ Try.func21 rfl (by kernel_rfl) fun ⟨n, N, L, E, w⟩ R _ hR => ?_
  (conv => whnf)
  refine ⟨[], _, _, hR, ?_⟩
  (repeat' (first | exact True.intro | rfl | assumption | exact entI_keep _ _ | (refine And.intro ?_ ?_) | (intro _ _; rfl) | ((conv => whnf); (first | exact True.intro | (refine And.intro ?_ ?_)))))
theorem conCo : ConOk Try.prog (conOf [(56, inl Try.prog (conOf []) Try.f56)]) := conOf_cons (inl_ok noGo mixed conOf_nil Try.func56 (by kernel_rfl)) conOf_nil
theorem conSo : ConOk Try.prog (conOf [(49, inl Try.prog (conOf [(56, inl Try.prog (conOf []) Try.f56)]) Try.f49), (50, SSort.T)]) :=
  conOf_cons (inl_ok noGo mixed conCo Try.func49 (by kernel_rfl)) (conOf_cons (LSpec.call SSort_nt SSort_ok) conOf_nil)
theorem conLi : ConOk Try.prog (conOf [(33, inl Try.prog (conOf []) Try.f33), (35, inl Try.prog (conOf []) Try.f35),
    (34, inl Try.prog (conOf [(49, inl Try.prog (conOf [(56, inl Try.prog (conOf []) Try.f56)]) Try.f49), (50, SSort.T)]) Try.f34)]) :=
  conOf_cons (inl_ok noGo mixed conOf_nil Try.func33 (by kernel_rfl)) (conOf_cons (inl_ok noGo mixed conOf_nil Try.func35 (by kernel_rfl)) (conOf_cons (inl_ok noGo mixed conSo Try.func34 (by kernel_rfl)) conOf_nil))
def SList : LSpec where
  X := HX
  k := 3
  pre x := HW x.1 x.2.1 x.2.2.1 x.2.2.2.1 x.2.2.2.2 ∧ x.1 ≤ 10000
  args _ θ := [.ptr (θ 0) 0]
  objs x θ := [hpC (θ 1) (θ 2) x.1, tmR x.2.1 x.2.2.1, mpE x.2.2.2.1]
  out x θ R := R (.sl (θ 3) 0 2 x.2.2.2.2.length false) [some (hpC (θ 1) (θ 2) x.1), some (tmR x.2.1 x.2.2.1), some (mpE x.2.2.2.1), some (wR x.2.2.2.2)]
theorem SList_nt : SList.Nt := ⟨fun _ _ => rfl, by unfold SList; (intros; simp only [ren_all] at *; try assumption), by unfold SList; (intros; simp only [ren_all] at *; try assumption)⟩
theorem SList_ok : SList.Ok Try.prog 17 := by
  refine LSpec.of_body noGo mixed conLi Try.func17 rfl (by kernel_rfl) fun ⟨n, N, L, E, w⟩ R ⟨h, hn⟩ hR => ?_
  have h : HW n N L E w := h
  have hn : n ≤ 10000 := hn
  have hQ : R (.sl 3 0 2 w.length false) [some (hpC 1 2 n), some (tmR N L), some (mpE E), some (wR w)] := hR
  have hle := h.le
  (conv => whnf)
  refine with_lp 6 ?_
  intro lp
  refine .inl ⟨Nat, fun i => [(0, .yl 6), (5, .sl 1 0 2 n false), (6, i64 n), (7, i64 i)], fun i => [some (hpC 1 2 n), some (tmR N L), some (mpE E), some (.cells [.sl 1 0 2 n false] 28), some (.cells [.sl 7 0 2 i false] 28), some .mark, some lp, some (tmR i L)], fun i => n - i, fun i => i ≤ n, 8, ⟨0, [none], Nat.zero_le _, ?_⟩, fun _ => rfl, fun i hi => ?_⟩
  · (repeat' (first | exact True.intro | rfl | assumption | exact entI_keep _ _ | (refine And.intro ?_ ?_) | (intro _ _; rfl) | ((conv => whnf); (first | exact True.intro | (refine And.intro ?_ ?_)))))
  have hi : i ≤ n := hi
  have ei := zero_add_toNat i
  (conv => whnf)
  constructor
  · intro hlt
    have hlt : i < n := by have : (i : Int) < (n : Int) := of_decide_eq_true hlt; omega
    have hiN : 0 + ((i : Nat) : Int).toNat < N := by rw [ei]; omega
    (conv => whnf)
    refine ⟨by show (0 : Int) ≤ (i : Int); omega, by show (i : Int) < (n : Int); omega, ?_⟩
    (conv => whnf)
    refine ⟨hiN, ?_⟩
    (conv => whnf)
    refine ⟨some (fun q => tmL (L q)), ?_⟩
    (conv => whnf)
    refine ⟨by decide, by show 0 + i ≤ i; omega, by show (i + 1) * (16 + 2) ≤ 1000000000; omega, fun q hq => ?_, ?_⟩
    · have := tm_push (L := L) (L' := L) (c := L i) (fun _ _ => rfl) rfl q hq
      rw [show (L i) = L (0 + (i : Int).toNat) from by rw [ei]] at this
      exact this
    (conv => whnf)
    refine ⟨i + 1, [some 11], by show n - (i + 1) < n - i; omega, by show i + 1 ≤ n; omega, ?_⟩
    refine ⟨rfl, ?_, ?_⟩
    · (repeat' (first | exact True.intro | rfl | assumption | exact entI_keep _ _ | (refine And.intro ?_ ?_) | (intro _ _; rfl) | ((conv => whnf); (first | exact True.intro | (refine And.intro ?_ ?_)))))
    · (repeat' (first | exact True.intro | rfl | assumption | exact entI_keep _ _ | (refine And.intro ?_ ?_) | (intro _ _; rfl) | ((conv => whnf); (first | exact True.intro | (refine And.intro ?_ ?_)))))
      exact (wrap_inc hlt (by omega)).symm
  · intro hlt
    have hlt : i = n := by have : ¬ (i : Int) < (n : Int) := of_decide_eq_false hlt; omega
    subst hlt
    (conv => whnf)
    refine ⟨(i, L), [7], by show i ≤ 1000000; omega, rfl, by (repeat' (first | exact True.intro | rfl | assumption | exact entI_keep _ _ | (refine And.intro ?_ ?_) | (intro _ _; rfl) | ((conv => whnf); (first | exact True.intro | (refine And.intro ?_ ?_))))), by (repeat' (first | exact True.intro | rfl | assumption | exact entI_keep _ _ | (refine And.intro ?_ ?_) | (intro _ _; rfl) | ((conv => whnf); (first | exact True.intro | (refine And.intro ?_ ?_))))), fun D' hp hs => ?_⟩
    have hw := h.sorted hp hs
    have hlen := h.len
    (conv => whnf)
    refine ⟨[some 7], _, _, hQ, ?_⟩
    (repeat' (first | exact True.intro | rfl | assumption | exact entI_keep _ _ | (refine And.intro ?_ ?_) | (intro _ _; rfl) | ((conv => whnf); (first | exact True.intro | (refine And.intro ?_ ?_)))))
    intro j hj
    have hj : j < i := by omega
    show mapNl _ (tmL (w.getD j c0)) = tmL (D' j)
    have e : w.getD j c0 = D' j := by
      rw [← hw, List.getD_eq_getElem?_getD, List.getElem?_map, List.getElem?_range hj]
      rfl
    rw [e]
    rfl
end Go.Proofs.Ytapjncdcjahlkaa
