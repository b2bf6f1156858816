/- What the law's own function levels computes. -/
import Derived.Test.YtddionboojdjlaaCaLawBR
namespace Go.Proofs.Ytddionboojdjlaa
open Go Go.RowKit Sy Tb Gr
set_option maxRecDepth 100000
set_option maxHeartbeats 8000000

def SStrF : LSpec where
  X := (RowsS × Nat × Nat × Nat) × (RowsS × Nat × Nat × Nat) × List Bs
  k := 2
  pre x := (x.1.1 x.1.2.1 = some (x.2.2, x.1.2.2.2) ∧ x.2.1.1 x.2.1.2.1 = some (x.2.2, x.2.1.2.2.2)) ∧ x.2.2.length ≤ 1000000
  args x θ := [asS (θ 0) (some x.1.2.1) x.2.2.length x.1.2.2.1, asS (θ 1) (some x.2.1.2.1) x.2.2.length x.2.1.2.2.1]
  objs x _ := [msO x.1.1, msO x.2.1.1]
  out x _ R := R (.sb true) [some (msO x.1.1), some (msO x.2.1.1)]
theorem SStrF_nt : SStrF.Nt := ⟨fun _ _ => rfl, fun x θ => by show [msO x.1.1, msO x.2.1.1] = [(msO x.1.1).ren θ, (msO x.2.1.1).ren θ]; rw [msO_ren, msO_ren], fun x θ R h => by show R _ [some ((msO _).ren θ), some ((msO _).ren θ)]; rw [msO_ren, msO_ren]; exact h⟩
theorem SStrF_ok : SStrF.Ok Try.prog 38 := by
  refine LSpec.of_body noGo mixed conOf_nil Try.func38 rfl (by kernel_rfl) fun ⟨⟨M, b, c, C⟩, ⟨M', b', c', C'⟩, L⟩ R ⟨⟨h1, h2⟩, hl⟩ hR => ?_
  have hl : L.length ≤ 1000000 := hl
  have h1 : M b = some (L, C) := h1
  have h2 : M' b' = some (L, C') := h2
  have hQ : R (.sb true) [some (msO M), some (msO M')] := hR
  (conv => whnf)
  refine ⟨fun hh => absurd (show (!decide ((L.length : Int) = (L.length : Int))) = true from hh) (by simp), fun _ => ?_⟩
  (conv => whnf)
  refine .inl ⟨Nat, fun i => [(0, asS 0 (some b) L.length c), (1, asS 1 (some b') L.length c'), (5, i64 i)], fun _ => [some (msO M), some (msO M')], fun i => L.length - i, fun i => i ≤ L.length, 2, ⟨0, [], Nat.zero_le _, ?_⟩, fun _ => rfl, fun i hi => ?_⟩
  · (repeat' (first | exact True.intro | rfl | assumption | exact mc_ok rfl | exact mr_ok | exact fun _ => rfl | exact mt_keep _ _ | exact ms_ok | exact c_keep _ _ _ | (refine And.intro ?_ ?_) | (intro _ _; rfl) | ((conv => whnf); (first | exact True.intro | (refine And.intro ?_ ?_)))))
  have hi : i ≤ L.length := hi
  have ei := zero_add_toNat i
  (conv => whnf)
  constructor
  · intro h
    have h : i < L.length := by have : (i : Int) < (L.length : Int) := of_decide_eq_true h; omega
    (conv => whnf)
    refine ⟨by show (0 : Int) ≤ (i : Int); omega, by show (i : Int) < (L.length : Int); omega, b, 0, rfl, ?_⟩
    (conv => whnf)
    refine ⟨L.length, C, fun q => [.str (L.getD q eS)], by show (M b).map rwS = _; rw [h1]; rfl, by rw [ei]; exact h, ?_⟩
    (conv => whnf)
    refine ⟨by show (0 : Int) ≤ (i : Int); omega, by show (i : Int) < (L.length : Int); omega, b', 0, rfl, ?_⟩
    (conv => whnf)
    refine ⟨L.length, C', fun q => [.str (L.getD q eS)], by show (M' b').map rwS = _; rw [h2]; rfl, by rw [ei]; exact h, ?_⟩
    (conv => whnf)
    (repeat (first | refine And.intro rfl ?_ | fail))
    (conv => whnf)
    refine ⟨fun hh => absurd (show (!decide (L.getD (0 + (i : Int).toNat) eS = L.getD (0 + (i : Int).toNat) eS)) = true from hh) (by simp), fun _ => ?_⟩
    (conv => whnf)
    refine ⟨i + 1, [], by show L.length - (i + 1) < L.length - i; omega, by show i + 1 ≤ L.length; omega, ?_⟩
    (repeat' (first | exact True.intro | rfl | assumption | exact mc_ok rfl | exact mr_ok | exact fun _ => rfl | exact mt_keep _ _ | exact ms_ok | exact c_keep _ _ _ | (refine And.intro ?_ ?_) | (intro _ _; rfl) | ((conv => whnf); (first | exact True.intro | (refine And.intro ?_ ?_)))))
    exact (wrap_inc h (by omega)).symm
  · intro h
    (conv => whnf)
    refine ⟨[], _, _, hQ, ?_⟩
    (repeat' (first | exact True.intro | rfl | assumption | exact mc_ok rfl | exact mr_ok | exact fun _ => rfl | exact mt_keep _ _ | exact ms_ok | exact c_keep _ _ _ | (refine And.intro ?_ ?_) | (intro _ _; rfl) | ((conv => whnf); (first | exact True.intro | (refine And.intro ?_ ?_)))))
theorem conStrF : ConOk Try.prog (conOf [(38, SStrF.T)]) := conOf_cons (LSpec.call SStrF_nt SStrF_ok) conOf_nil
def SStringsF : LSpec where
  X := (RowsS × Nat × Nat × Nat) × (RowsS × Nat × Nat × Nat) × List Bs × Int
  k := 2
  pre x := (x.1.1 x.1.2.1 = some (x.2.2.1, x.1.2.2.2) ∧ x.2.1.1 x.2.1.2.1 = some (x.2.2.1, x.2.1.2.2.2)) ∧ x.2.2.1.length ≤ 1000000
  args x θ := [asS (θ 0) (some x.1.2.1) x.2.2.1.length x.1.2.2.1, i64 x.2.2.2, asS (θ 1) (some x.2.1.2.1) x.2.2.1.length x.2.1.2.2.1, i64 x.2.2.2]
  objs x _ := [msO x.1.1, msO x.2.1.1]
  out x _ R := ∀ M2, (∀ y, y ≠ x.1.2.1 → M2 y = x.1.1 y) → R (.sb true) [some (msO M2), some (msO x.2.1.1)]
theorem SStringsF_nt : SStringsF.Nt := ⟨fun _ _ => rfl, fun x θ => by show [msO x.1.1, msO x.2.1.1] = [(msO x.1.1).ren θ, (msO x.2.1.1).ren θ]; rw [msO_ren, msO_ren], fun x θ R h M2 hM => by show R _ [some ((msO _).ren θ), some ((msO _).ren θ)]; rw [msO_ren, msO_ren]; exact h M2 hM⟩
theorem SStringsF_ok : SStringsF.Ok Try.prog 36 := by
  refine LSpec.of_body noGo mixed conStrF Try.func36 rfl (by kernel_rfl) fun ⟨⟨M, b, c, C⟩, ⟨M', b', c', C'⟩, L, e⟩ R ⟨⟨h1, h2⟩, hl⟩ hR => ?_
  have hl : L.length ≤ 1000000 := hl
  have h1 : M b = some (L, C) := h1
  have h2 : M' b' = some (L, C') := h2
  have hQ : ∀ M2, (∀ y, y ≠ b → M2 y = M y) → R (.sb true) [some (msO M2), some (msO M')] := hR
  (conv => whnf)
  refine ⟨((M, b, c, C), (M', b', c', C'), L), [0, 1], ⟨⟨h1, h2⟩, hl⟩, rfl, by (repeat' (first | exact True.intro | rfl | assumption | exact mc_ok rfl | exact mr_ok | exact fun _ => rfl | exact mt_keep _ _ | exact ms_ok | exact c_keep _ _ _ | (refine And.intro ?_ ?_) | (intro _ _; rfl) | ((conv => whnf); (first | exact True.intro | (refine And.intro ?_ ?_))))), by (repeat' (first | exact True.intro | rfl | assumption | exact mc_ok rfl | exact mr_ok | exact fun _ => rfl | exact mt_keep _ _ | exact ms_ok | exact c_keep _ _ _ | (refine And.intro ?_ ?_) | (intro _ _; rfl) | ((conv => whnf); (first | exact True.intro | (refine And.intro ?_ ?_))))), ?_⟩
  (conv => whnf)
  refine ⟨fun _ => ?_, fun hh => Bool.noConfusion (show true = false from hh)⟩
  (conv => whnf)
  refine .inl ⟨Nat × List Bs × RowsS, fun x => [(0, asS 0 (some b) L.length c), (9, .sb true), (10, i64 x.1)], fun x => [some (msO x.2.2), some (msO M')], fun x => L.length - x.1, fun x => x.1 ≤ L.length ∧ x.2.1.length = L.length ∧ x.2.2 b = some (x.2.1, C) ∧ ∀ y, y ≠ b → x.2.2 y = M y, 2, ⟨(0, L, M), [], ⟨Nat.zero_le _, rfl, h1, fun _ _ => rfl⟩, ?_⟩, fun _ => rfl, fun ⟨i, F, M3⟩ ⟨hi, hF, hb3, hy3⟩ => ?_⟩
  · (repeat' (first | exact True.intro | rfl | assumption | exact mc_ok rfl | exact mr_ok | exact fun _ => rfl | exact mt_keep _ _ | exact ms_ok | exact c_keep _ _ _ | (refine And.intro ?_ ?_) | (intro _ _; rfl) | ((conv => whnf); (first | exact True.intro | (refine And.intro ?_ ?_)))))
    all_goals exact (decide_eq_true rfl).symm
  have hb3 : M3 b = some (F, C) := hb3
  have hy3 : ∀ y, y ≠ b → M3 y = M y := hy3
  have hi : i ≤ L.length := hi
  have hF : F.length = L.length := hF
  have ei := zero_add_toNat i
  (conv => whnf)
  constructor
  · intro h
    have h : i < L.length := by have : (i : Int) < (L.length : Int) := of_decide_eq_true h; omega
    obtain ⟨ch, hch⟩ : ∃ ch : Bs, ch = ⟨#[99, 104, 97, 110, 103, 101, 100]⟩ := ⟨_, rfl⟩
    (conv => whnf)
    refine ⟨by show (0 : Int) ≤ (i : Int); omega, by show (i : Int) < (L.length : Int); omega, b, 0, rfl, ?_⟩
    (conv => whnf)
    refine ⟨L.length, C, fun q => [.str (F.getD q eS)], by show (M3 b).map rwS = _; rw [hb3, ← hF]; rfl, by rw [ei]; exact h, fun q => [.str ((F.set i ch).getD q eS)], fun y => (setM M3 b (F.set i ch, C) y).map rwS, fun q _ => ?_, ⟨?_, fun y hy => ?_⟩, ?_⟩
    · show ([.str ((F.set i ch).getD q eS)] : List V) = bif Nat.beq q (0 + (i : Int).toNat) then putD 0 [.str (F.getD q eS)] [.str ⟨#[99, 104, 97, 110, 103, 101, 100]⟩] else [.str (F.getD q eS)]
      rw [ei, ← hch]
      exact stS_view F i ch (by omega) q
    · show (setM M3 b (F.set i ch, C) b).map rwS = _
      rw [setM_same, ← hF]
      show some ((F.set i ch).length, C, _) = _
      rw [List.length_set]
    · show (setM M3 b (F.set i ch, C) y).map rwS = (M3 y).map rwS
      rw [setM_ne hy]
    (conv => whnf)
    refine ⟨(i + 1, F.set i ch, setM M3 b (F.set i ch, C)), [], by show L.length - (i + 1) < L.length - i; omega, ⟨by show i + 1 ≤ L.length; omega, by show (F.set i ch).length = L.length; rw [List.length_set]; exact hF, setM_same, fun y hy => (setM_ne hy).trans (hy3 y hy)⟩, ?_⟩
    (repeat' (first | exact True.intro | rfl | assumption | exact mc_ok rfl | exact mr_ok | exact fun _ => rfl | exact mt_keep _ _ | exact ms_ok | exact c_keep _ _ _ | (refine And.intro ?_ ?_) | (intro _ _; rfl) | ((conv => whnf); (first | exact True.intro | (refine And.intro ?_ ?_)))))
    exact (wrap_inc h (by omega)).symm
  · intro h
    have hF := hQ M3 hy3
    (conv => whnf)
    refine ⟨[], _, _, hF, ?_⟩
    (repeat' (first | exact True.intro | rfl | assumption | exact mc_ok rfl | exact mr_ok | exact fun _ => rfl | exact mt_keep _ _ | exact ms_ok | exact c_keep _ _ _ | (refine And.intro ?_ ?_) | (intro _ _; rfl) | ((conv => whnf); (first | exact True.intro | (refine And.intro ?_ ?_)))))
theorem conLv : ConOk Try.prog (conOf [(27, SLevels.T), (36, SStringsF.T)]) := conOf_cons (LSpec.call SLevels_nt SLevels_ok) (conOf_cons (LSpec.call SStringsF_nt SStringsF_ok) conOf_nil)
def SLLev : LSpec where
  X := GX × Bs × (RowsS × List Lr) × Int
  k := 7
  pre x := GXok x.1 ∧ x.2.1.size ≤ 1000000 ∧ levs x.2.2.1.2 = levE x.1.2.1 x.2.1 ∧ OI x.2.2.1.1 x.2.2.1.2 ∧ eK x.2.1 = x.2.2.2
  args x θ := [.ptr (θ 0) 0, .str x.2.1, .sl (θ 5) 0 1 x.2.2.1.2.length false, i64 x.2.2.2]
  objs x θ := x.1.1.objs θ ++ [loR (θ 6) x.2.2.1.2, msO x.2.2.1.1]
  out x θ R := ∀ g : GG, MG 1000 1000 x.1.2.1 (x.1.2.2 + 1) g → R (.sb true) (g.all θ ++ [some (loR (θ 6) x.2.2.1.2), some (msO x.2.2.1.1)])
theorem SLLev_nt : SLLev.Nt := ⟨fun _ _ => rfl, by unfold SLLev GG.objs; intros; simp only [ren_all, List.map_append, loR_ren, msO_ren] at *; try rfl, by unfold SLLev GG.all; intros; simp only [ren_all, loR_ren, msO_ren] at *; try assumption⟩
theorem SLLev_ok : SLLev.Ok Try.prog 19 := by
  refine LSpec.of_body noGo mixed conLv Try.func19 rfl (by kernel_rfl) fun ⟨⟨g, E, s⟩, k, ⟨M, O⟩, e⟩ R ⟨hX, hk, hO, hM, he⟩ hR => ?_
  have hX : GXok (g, E, s) := hX
  have hk : k.size ≤ 1000000 := hk
  have hO : levs O = levE E k := hO
  have hM : OI M O := hM
  have he : eK k = e := he
  have hQ : ∀ g' : GG, MG 1000 1000 E (s + 1) g' → R (.sb true) (g'.all _root_.id ++ [some (loR 6 O), some (msO M)]) := hR
  have hEl : E.length ≤ 300 := hX.2.1
  have hOl : O.length ≤ 100000 := by
    have := levE_len E k
    rw [← hO] at this
    unfold levs at this
    rw [List.length_map] at this
    exact Nat.le_trans this (by decide)
  have htot : ∀ y ∈ O, y.2.1.length ≤ 1000000 := fun y hy => by
    have h1 := belE_len E k
    unfold belE at h1
    rw [← hO] at h1
    have h2 := (List.sublist_flatten_of_mem (show y.2.1 ∈ levs O from List.mem_map.2 ⟨y, hy, rfl⟩)).length_le
    omega
  (conv => whnf)
  refine ⟨((g, E, s), k), [0, 1, 2, 3, 4], ⟨hX, hk⟩, rfl, by (repeat' (first | exact True.intro | rfl | assumption | exact mc_ok rfl | exact mr_ok | exact fun _ => rfl | exact mt_keep _ _ | exact ms_ok | exact c_keep _ _ _ | (refine And.intro ?_ ?_) | (intro _ _; rfl) | ((conv => whnf); (first | exact True.intro | (refine And.intro ?_ ?_))))), by (repeat' (first | exact True.intro | rfl | assumption | exact mc_ok rfl | exact mr_ok | exact fun _ => rfl | exact mt_keep _ _ | exact ms_ok | exact c_keep _ _ _ | (refine And.intro ?_ ?_) | (intro _ _; rfl) | ((conv => whnf); (first | exact True.intro | (refine And.intro ?_ ?_))))), fun g' M1 O1 hG h1 h2 => ?_⟩
  have hF := hQ g' hG
  have h1 : levs O1 = levE E k := h1
  have h2 : OI M1 O1 := h2
  have hle : levs O1 = levs O := h1.trans hO.symm
  have hll : O1.length = O.length := by
    have := congrArg List.length hle
    unfold levs at this
    rwa [List.length_map, List.length_map] at this
  have hat : ∀ i, i < O.length → (O1.getD i lr0).2.1 = (O.getD i lr0).2.1 := fun i hi => by
    have := congrArg (fun l => l[i]?) hle
    unfold levs at this
    simp only [List.getElem?_map] at this
    rw [List.getElem?_eq_getElem (show i < O1.length by omega), List.getElem?_eq_getElem hi] at this
    rw [List.getD_eq_getElem?_getD, List.getD_eq_getElem?_getD, List.getElem?_eq_getElem (show i < O1.length by omega), List.getElem?_eq_getElem hi]
    simpa using this
  (conv => whnf)
  refine ⟨fun _ => ?_, fun hh => absurd (show (!decide ((O1.length : Int) = (O.length : Int))) = true from hh) (by rw [hll]; simp)⟩
  (conv => whnf)
  refine ⟨fun hh => absurd (show (!decide (eK k = e)) = true from hh) (by rw [he]; simp), fun _ => ?_⟩
  (conv => whnf)
  refine .inl ⟨Nat × RowsS, fun x => [(2, .sl 5 0 1 O.length false), (3, i64 e), (9, .sl 7 0 1 O1.length false), (10, i64 e), (11, i64 x.1)], fun x => g'.all _root_.id ++ [some (loR 6 O), some (msO M), some (loR 8 O1), some (msO x.2)], fun x => O.length - x.1,
    fun x => x.1 ≤ O.length ∧ ∀ q, x.1 ≤ q → q < O.length → x.2 (O1.getD q lr0).1 = M1 (O1.getD q lr0).1, 9, ⟨(0, M1), [some 7, some 8], ⟨Nat.zero_le _, fun _ _ _ => rfl⟩, ?_⟩, fun _ => rfl, fun ⟨i, M3⟩ ⟨hi, hq⟩ => ?_⟩
  · (repeat' (first | exact True.intro | rfl | assumption | exact mc_ok rfl | exact mr_ok | exact fun _ => rfl | exact mt_keep _ _ | exact ms_ok | exact c_keep _ _ _ | (refine And.intro ?_ ?_) | (intro _ _; rfl) | ((conv => whnf); (first | exact True.intro | (refine And.intro ?_ ?_)))))
    all_goals exact he.symm
  have hi : i ≤ O.length := hi
  have hq : ∀ q, i ≤ q → q < O.length → M3 (O1.getD q lr0).1 = M1 (O1.getD q lr0).1 := hq
  have ei := zero_add_toNat i
  (conv => whnf)
  constructor
  · intro h
    have h : i < O.length := by have : (i : Int) < (O1.length : Int) := of_decide_eq_true h; omega
    have hx := hat i h
    have hm1 : O1.getD i lr0 ∈ O1 := by rw [List.getD_eq_getElem?_getD, List.getElem?_eq_getElem (show i < O1.length by omega)]; exact List.getElem_mem _
    have hm2 : O.getD i lr0 ∈ O := by rw [List.getD_eq_getElem?_getD, List.getElem?_eq_getElem h]; exact List.getElem_mem _
    obtain ⟨C1, hC1⟩ := h2.at_ _ hm1
    obtain ⟨C2, hC2⟩ := hM.at_ _ hm2
    have ht2 := htot _ hm2
    obtain ⟨L, hL⟩ : ∃ L, L = (O.getD i lr0).2.1 := ⟨_, rfl⟩
    rw [← hL] at hx hC2 ht2
    have hl1 : (O1.getD (0 + (i : Int).toNat) lr0) = O1.getD i lr0 := by rw [ei]
    have hl2 : (O.getD (0 + (i : Int).toNat) lr0) = O.getD i lr0 := by rw [ei]
    (conv => whnf)
    refine ⟨by show (0 : Int) ≤ (i : Int); omega, by show (i : Int) < (O1.length : Int); omega, ?_⟩
    (conv => whnf)
    refine ⟨by rw [ei]; omega, ?_⟩
    (conv => whnf)
    refine ⟨by show (0 : Int) ≤ (i : Int); omega, by show (i : Int) < (O.length : Int); omega, ?_⟩
    (conv => whnf)
    refine ⟨by rw [ei]; omega, ?_⟩
    (conv => whnf)
    refine ⟨((M3, (O1.getD i lr0).1, (O1.getD i lr0).2.2, C1), (M, (O.getD i lr0).1, (O.getD i lr0).2.2, C2), L, e), [8, 6], ⟨⟨by show M3 _ = _; rw [hq i (Nat.le_refl i) h, hC1, hx], hC2⟩, ht2⟩, rfl, ?_, by (repeat' (first | exact True.intro | rfl | assumption | exact mc_ok rfl | exact mr_ok | exact fun _ => rfl | exact mt_keep _ _ | exact ms_ok | exact c_keep _ _ _ | (refine And.intro ?_ ?_) | (intro _ _; rfl) | ((conv => whnf); (first | exact True.intro | (refine And.intro ?_ ?_))))), fun M4 hM4 => ?_⟩
    · rw [← hl1] at hx
      rw [← hl1, ← hl2]
      rw [← hl2] at hL
      (repeat' (first | exact True.intro | rfl | assumption | exact mc_ok rfl | exact mr_ok | exact fun _ => rfl | exact mt_keep _ _ | exact ms_ok | exact c_keep _ _ _ | (refine And.intro ?_ ?_) | (intro _ _; rfl) | ((conv => whnf); (first | exact True.intro | (refine And.intro ?_ ?_)))))
      all_goals first | exact congrArg List.length hx.symm | exact congrArg List.length hL
    have hM4 : ∀ y, y ≠ (O1.getD i lr0).1 → M4 y = M3 y := hM4
    (conv => whnf)
    (repeat (first | refine And.intro rfl ?_ | fail))
    (conv => whnf)
    refine ⟨fun hh => Bool.noConfusion (show (!true) = true from hh), fun _ => ?_⟩
    (conv => whnf)
    refine ⟨(i + 1, M4), [some 7, some 8], by show O.length - (i + 1) < O.length - i; omega, ⟨by show i + 1 ≤ O.length; omega, fun q q1 q2 => ?_⟩, ?_⟩
    · have q1 : i + 1 ≤ q := q1
      show M4 _ = _
      rw [hM4 _ fun e => ?_, hq q (by omega) q2]
      have hnd := h2.nd
      have g1 : (O1.map (·.1))[q]? = some (O1.getD q lr0).1 := by rw [List.getElem?_map, List.getD_eq_getElem?_getD, List.getElem?_eq_getElem (show q < O1.length by omega)]; rfl
      have g2 : (O1.map (·.1))[i]? = some (O1.getD i lr0).1 := by rw [List.getElem?_map, List.getD_eq_getElem?_getD, List.getElem?_eq_getElem (show i < O1.length by omega)]; rfl
      rw [e, ← g2] at g1
      have := (List.getElem?_inj (by rw [List.length_map]; omega) hnd).1 g1.symm
      omega
    (repeat' (first | exact True.intro | rfl | assumption | exact mc_ok rfl | exact mr_ok | exact fun _ => rfl | exact mt_keep _ _ | exact ms_ok | exact c_keep _ _ _ | (refine And.intro ?_ ?_) | (intro _ _; rfl) | ((conv => whnf); (first | exact True.intro | (refine And.intro ?_ ?_)))))
    all_goals exact (wrap_inc h (by omega)).symm
  · intro h
    (conv => whnf)
    refine ⟨[], _, _, hF, ?_⟩
    (repeat' (first | exact True.intro | rfl | assumption | exact mc_ok rfl | exact mr_ok | exact fun _ => rfl | exact mt_keep _ _ | exact ms_ok | exact c_keep _ _ _ | (refine And.intro ?_ ?_) | (intro _ _; rfl) | ((conv => whnf); (first | exact True.intro | (refine And.intro ?_ ?_)))))
end Go.Proofs.Ytddionboojdjlaa
