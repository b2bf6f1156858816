/- What the closures and package slices with them compute: IndexFunc, ContainsFunc, DeleteFunc. -/
import Derived.Test.YtddionboojdjlaaK8CascadeLong
import Derived.Test.YtddionboojdjlaaCaTopoR
import Derived.Test.YtddionboojdjlaaGrRefR
namespace Go.Proofs.Ytddionboojdjlaa
open Go Go.RowKit Sy Tb Gr
set_option maxRecDepth 100000
set_option maxHeartbeats 4000000

/-- A variable that holds a map. -/
def mvO (i : Nat) : SObj := .cells [.mp i] 106
def ixB (f : Bs → Bool) (l : List Bs) : Int := match l.findIdx? f with
  | some i => i
  | none => -1
theorem ix_hit {f : Bs → Bool} {l : List Bs} {i : Nat} (h : i < l.length) (hb : ∀ j, j < i → f (l.getD j eS) = false) (hp : f (l.getD i eS) = true) : ixB f l = i := by
  have e : ∀ j, j < l.length → l.getD j eS = l[j]! := fun j hj => by rw [List.getD_eq_getElem?_getD, List.getElem?_eq_getElem hj, getElem!_pos l j hj]; rfl
  unfold ixB
  have : l.findIdx? f = some i := by
    rw [List.findIdx?_eq_some_iff_getElem]
    refine ⟨h, ?_, fun j hj => ?_⟩
    · rw [e i h, getElem!_pos l i h] at hp; exact hp
    · have := hb j hj
      rw [e j (by omega), getElem!_pos l j (by omega)] at this
      simp [this]
  rw [this]
theorem ix_miss {f : Bs → Bool} {l : List Bs} (hb : ∀ j, j < l.length → f (l.getD j eS) = false) : ixB f l = -1 := by
  unfold ixB
  have : l.findIdx? f = none := by
    rw [List.findIdx?_eq_none_iff]
    intro x hx
    obtain ⟨j, hj, e⟩ := List.getElem_of_mem hx
    have := hb j hj
    rw [List.getD_eq_getElem?_getD, List.getElem?_eq_getElem hj] at this
    rw [← e]
    exact this
  rw [this]
theorem ix_nn {f : Bs → Bool} {l : List Bs} : decide (0 ≤ ixB f l) = l.any f := by
  unfold ixB
  cases h : l.findIdx? f with
  | none =>
    rw [List.findIdx?_eq_none_iff] at h
    have : l.any f = false := by
      rw [List.any_eq_false]
      intro x hx
      rw [h x hx]
      exact Bool.false_ne_true
    rw [this]
    rfl
  | some i =>
    have := List.findIdx?_isSome (p := f) (xs := l)
    rw [h] at this
    rw [← this]
    exact decide_eq_true (Int.natCast_nonneg i)
/-- The closure. -/
def fnChk (i : Nat) : V := .fn (.func 63) [] [.ptr i 0]
def SCloChk : LSpec where
  X := List Bs × Bs
  k := 2
  pre _ := True
  args x θ := [.str x.2, .ptr (θ 0) 0]
  objs x θ := [mvO (θ 1), mtO x.1]
  out x θ R := R (.sb (!hasB x.1 x.2)) [some (mvO (θ 1)), some (mtO x.1)]
theorem SCloChk_nt : SCloChk.Nt := ⟨fun _ _ => rfl, fun x θ => by show [mvO (θ 1), mtO x.1] = [(mvO 1).ren θ, (mtO x.1).ren θ]; rw [mtO_ren]; rfl, fun x θ R h => by show R _ [some ((mvO 1).ren θ), some ((mtO x.1).ren θ)]; rw [mtO_ren]; exact h⟩
theorem SCloChk_ok : SCloChk.Ok Try.prog 63 := by
  refine LSpec.of_body noGo mixed conOf_nil Try.func63 rfl (by kernel_rfl) fun ⟨L, k⟩ R _ hR => ?_
  have hQ : R (.sb (!hasB L k)) [some (mvO 1), some (mtO L)] := hR
  (conv => whnf)
  refine mt_look (k := k) (L := L) (fun g => ?_) (fun g => ?_)
  · rw [g] at hQ
    (conv => whnf)
    refine ⟨[], _, _, hQ, ?_⟩
    (repeat' (first | exact True.intro | rfl | assumption | exact mc_ok rfl | exact mr_ok | exact fun _ => rfl | exact mt_keep _ _ | exact ms_ok | (refine And.intro ?_ ?_) | (intro _ _; rfl) | ((conv => whnf); (first | exact True.intro | (refine And.intro ?_ ?_)))))
  · rw [g] at hQ
    (conv => whnf)
    refine ⟨[], _, _, hQ, ?_⟩
    (repeat' (first | exact True.intro | rfl | assumption | exact mc_ok rfl | exact mr_ok | exact fun _ => rfl | exact mt_keep _ _ | exact ms_ok | (refine And.intro ?_ ?_) | (intro _ _; rfl) | ((conv => whnf); (first | exact True.intro | (refine And.intro ?_ ?_)))))
theorem conIxChk : ConOk Try.prog (conOf [(63, SCloChk.T)]) := conOf_cons (LSpec.call SCloChk_nt SCloChk_ok) conOf_nil
def SIxChk : LSpec where
  X := List Bs × List Bs
  k := 3
  pre x := x.2.length ≤ 1000000
  args x θ := [.sl (θ 0) 0 1 x.2.length false, fnChk (θ 1)]
  objs x θ := [stR x.2, mvO (θ 2), mtO x.1]
  out x θ R := R (i64 (ixB (fun k => !hasB x.1 k) x.2)) [some (stR x.2), some (mvO (θ 2)), some (mtO x.1)]
theorem SIxChk_nt : SIxChk.Nt := ⟨fun _ _ => rfl, fun x θ => by show [stR x.2, mvO (θ 2), mtO x.1] = [(stR x.2).ren θ, (mvO 2).ren θ, (mtO x.1).ren θ]; rw [mtO_ren]; rfl, fun x θ R h => by show R _ [some ((stR x.2).ren θ), some ((mvO 2).ren θ), some ((mtO x.1).ren θ)]; rw [mtO_ren]; exact h⟩
theorem SIxChk_ok : SIxChk.Ok Try.prog 76 := by
  refine LSpec.of_body noGo mixed conIxChk Try.func76 rfl (by kernel_rfl) fun ⟨L, l⟩ R hl hR => ?_
  have hl : l.length ≤ 1000000 := hl
  have hQ : R (i64 (ixB (fun k => !hasB L k) l)) [some (stR l), some (mvO 2), some (mtO L)] := hR
  (conv => whnf)
  refine .inl ⟨Nat, fun i => [(0, .sl 0 0 1 l.length false), (1, fnChk 1), (7, i64 l.length), (8, i64 i)], fun _ => [some (stR l), some (mvO 2), some (mtO L)], fun i => l.length - i, fun i => i ≤ l.length ∧ ∀ j, j < i → (fun k => !hasB L k) (l.getD j eS) = false, 3, ⟨0, [], ⟨Nat.zero_le _, fun j hj => absurd hj (Nat.not_lt_zero j)⟩, ?_⟩, fun _ => rfl, fun i ⟨hi, hb⟩ => ?_⟩
  · (repeat' (first | exact True.intro | rfl | assumption | exact mc_ok rfl | exact mr_ok | exact fun _ => rfl | exact mt_keep _ _ | exact ms_ok | (refine And.intro ?_ ?_) | (intro _ _; rfl) | ((conv => whnf); (first | exact True.intro | (refine And.intro ?_ ?_)))))
  have hi : i ≤ l.length := hi
  have hb : ∀ j, j < i → (fun k => !hasB L k) (l.getD j eS) = false := hb
  have ei := zero_add_toNat i
  (conv => whnf)
  constructor
  · intro h
    have h : i < l.length := by have : (i : Int) < (l.length : Int) := of_decide_eq_true h; omega
    (conv => whnf)
    refine ⟨by show (0 : Int) ≤ (i : Int); omega, by show (i : Int) < (l.length : Int); omega, ?_⟩
    (conv => whnf)
    refine ⟨by rw [ei]; exact h, ?_⟩
    (conv => whnf)
    refine ⟨(L, l.getD (0 + (i : Int).toNat) eS), [1, 2], trivial, rfl, by (repeat' (first | exact True.intro | rfl | assumption | exact mc_ok rfl | exact mr_ok | exact fun _ => rfl | exact mt_keep _ _ | exact ms_ok | (refine And.intro ?_ ?_) | (intro _ _; rfl) | ((conv => whnf); (first | exact True.intro | (refine And.intro ?_ ?_))))), by (repeat' (first | exact True.intro | rfl | assumption | exact mc_ok rfl | exact mr_ok | exact fun _ => rfl | exact mt_keep _ _ | exact ms_ok | (refine And.intro ?_ ?_) | (intro _ _; rfl) | ((conv => whnf); (first | exact True.intro | (refine And.intro ?_ ?_))))), ?_⟩
    (conv => whnf)
    constructor
    · intro h2
      have h2 : (fun k => !hasB L k) (l.getD i eS) = true := by
        have h2 : (fun k => !hasB L k) (l.getD (0 + (i : Int).toNat) eS) = true := h2
        rwa [ei] at h2
      rw [ix_hit h hb h2] at hQ
      (conv => whnf)
      refine ⟨[], _, _, hQ, ?_⟩
      (repeat' (first | exact True.intro | rfl | assumption | exact mc_ok rfl | exact mr_ok | exact fun _ => rfl | exact mt_keep _ _ | exact ms_ok | (refine And.intro ?_ ?_) | (intro _ _; rfl) | ((conv => whnf); (first | exact True.intro | (refine And.intro ?_ ?_)))))
    · intro h2
      have h2 : (fun k => !hasB L k) (l.getD i eS) = false := by
        have h2 : (fun k => !hasB L k) (l.getD (0 + (i : Int).toNat) eS) = false := h2
        rwa [ei] at h2
      (conv => whnf)
      refine ⟨i + 1, [], by show l.length - (i + 1) < l.length - i; omega, ⟨by show i + 1 ≤ l.length; omega, fun j hj => ?_⟩, ?_⟩
      · rcases Nat.lt_or_ge j i with q | q
        · exact hb j q
        · obtain rfl : j = i := by have : j < i + 1 := hj; omega
          exact h2
      (repeat' (first | exact True.intro | rfl | assumption | exact mc_ok rfl | exact mr_ok | exact fun _ => rfl | exact mt_keep _ _ | exact ms_ok | (refine And.intro ?_ ?_) | (intro _ _; rfl) | ((conv => whnf); (first | exact True.intro | (refine And.intro ?_ ?_)))))
      exact (wrap_inc h (by omega)).symm
  · intro h
    have h : ¬ i < l.length := by have : ¬ (i : Int) < (l.length : Int) := of_decide_eq_false h; omega
    obtain rfl : i = l.length := by omega
    rw [ix_miss hb] at hQ
    (conv => whnf)
    refine ⟨[], _, _, hQ, ?_⟩
    (repeat' (first | exact True.intro | rfl | assumption | exact mc_ok rfl | exact mr_ok | exact fun _ => rfl | exact mt_keep _ _ | exact ms_ok | (refine And.intro ?_ ?_) | (intro _ _; rfl) | ((conv => whnf); (first | exact True.intro | (refine And.intro ?_ ?_)))))
/-- The closure. -/
def fnTmb (i : Nat) : V := .fn (.func 66) [] [.ptr i 0]
def SCloTmb : LSpec where
  X := List Bs × Bs
  k := 2
  pre _ := True
  args x θ := [.str x.2, .ptr (θ 0) 0]
  objs x θ := [mvO (θ 1), mtO x.1]
  out x θ R := R (.sb (hasB x.1 x.2)) [some (mvO (θ 1)), some (mtO x.1)]
theorem SCloTmb_nt : SCloTmb.Nt := ⟨fun _ _ => rfl, fun x θ => by show [mvO (θ 1), mtO x.1] = [(mvO 1).ren θ, (mtO x.1).ren θ]; rw [mtO_ren]; rfl, fun x θ R h => by show R _ [some ((mvO 1).ren θ), some ((mtO x.1).ren θ)]; rw [mtO_ren]; exact h⟩
theorem SCloTmb_ok : SCloTmb.Ok Try.prog 66 := by
  refine LSpec.of_body noGo mixed conOf_nil Try.func66 rfl (by kernel_rfl) fun ⟨L, k⟩ R _ hR => ?_
  have hQ : R (.sb (hasB L k)) [some (mvO 1), some (mtO L)] := hR
  (conv => whnf)
  refine mt_look (k := k) (L := L) (fun g => ?_) (fun g => ?_)
  · rw [g] at hQ
    (conv => whnf)
    refine ⟨[], _, _, hQ, ?_⟩
    (repeat' (first | exact True.intro | rfl | assumption | exact mc_ok rfl | exact mr_ok | exact fun _ => rfl | exact mt_keep _ _ | exact ms_ok | (refine And.intro ?_ ?_) | (intro _ _; rfl) | ((conv => whnf); (first | exact True.intro | (refine And.intro ?_ ?_)))))
  · rw [g] at hQ
    (conv => whnf)
    refine ⟨[], _, _, hQ, ?_⟩
    (repeat' (first | exact True.intro | rfl | assumption | exact mc_ok rfl | exact mr_ok | exact fun _ => rfl | exact mt_keep _ _ | exact ms_ok | (refine And.intro ?_ ?_) | (intro _ _; rfl) | ((conv => whnf); (first | exact True.intro | (refine And.intro ?_ ?_)))))
theorem conIxTmb : ConOk Try.prog (conOf [(66, SCloTmb.T)]) := conOf_cons (LSpec.call SCloTmb_nt SCloTmb_ok) conOf_nil
def SIxTmb : LSpec where
  X := List Bs × List Bs
  k := 3
  pre x := x.2.length ≤ 1000000
  args x θ := [.sl (θ 0) 0 1 x.2.length false, fnTmb (θ 1)]
  objs x θ := [stR x.2, mvO (θ 2), mtO x.1]
  out x θ R := R (i64 (ixB (fun k => hasB x.1 k) x.2)) [some (stR x.2), some (mvO (θ 2)), some (mtO x.1)]
theorem SIxTmb_nt : SIxTmb.Nt := ⟨fun _ _ => rfl, fun x θ => by show [stR x.2, mvO (θ 2), mtO x.1] = [(stR x.2).ren θ, (mvO 2).ren θ, (mtO x.1).ren θ]; rw [mtO_ren]; rfl, fun x θ R h => by show R _ [some ((stR x.2).ren θ), some ((mvO 2).ren θ), some ((mtO x.1).ren θ)]; rw [mtO_ren]; exact h⟩
theorem SIxTmb_ok : SIxTmb.Ok Try.prog 76 := by
  refine LSpec.of_body noGo mixed conIxTmb Try.func76 rfl (by kernel_rfl) fun ⟨L, l⟩ R hl hR => ?_
  have hl : l.length ≤ 1000000 := hl
  have hQ : R (i64 (ixB (fun k => hasB L k) l)) [some (stR l), some (mvO 2), some (mtO L)] := hR
  (conv => whnf)
  refine .inl ⟨Nat, fun i => [(0, .sl 0 0 1 l.length false), (1, fnTmb 1), (7, i64 l.length), (8, i64 i)], fun _ => [some (stR l), some (mvO 2), some (mtO L)], fun i => l.length - i, fun i => i ≤ l.length ∧ ∀ j, j < i → (fun k => hasB L k) (l.getD j eS) = false, 3, ⟨0, [], ⟨Nat.zero_le _, fun j hj => absurd hj (Nat.not_lt_zero j)⟩, ?_⟩, fun _ => rfl, fun i ⟨hi, hb⟩ => ?_⟩
  · (repeat' (first | exact True.intro | rfl | assumption | exact mc_ok rfl | exact mr_ok | exact fun _ => rfl | exact mt_keep _ _ | exact ms_ok | (refine And.intro ?_ ?_) | (intro _ _; rfl) | ((conv => whnf); (first | exact True.intro | (refine And.intro ?_ ?_)))))
  have hi : i ≤ l.length := hi
  have hb : ∀ j, j < i → (fun k => hasB L k) (l.getD j eS) = false := hb
  have ei := zero_add_toNat i
  (conv => whnf)
  constructor
  · intro h
    have h : i < l.length := by have : (i : Int) < (l.length : Int) := of_decide_eq_true h; omega
    (conv => whnf)
    refine ⟨by show (0 : Int) ≤ (i : Int); omega, by show (i : Int) < (l.length : Int); omega, ?_⟩
    (conv => whnf)
    refine ⟨by rw [ei]; exact h, ?_⟩
    (conv => whnf)
    refine ⟨(L, l.getD (0 + (i : Int).toNat) eS), [1, 2], trivial, rfl, by (repeat' (first | exact True.intro | rfl | assumption | exact mc_ok rfl | exact mr_ok | exact fun _ => rfl | exact mt_keep _ _ | exact ms_ok | (refine And.intro ?_ ?_) | (intro _ _; rfl) | ((conv => whnf); (first | exact True.intro | (refine And.intro ?_ ?_))))), by (repeat' (first | exact True.intro | rfl | assumption | exact mc_ok rfl | exact mr_ok | exact fun _ => rfl | exact mt_keep _ _ | exact ms_ok | (refine And.intro ?_ ?_) | (intro _ _; rfl) | ((conv => whnf); (first | exact True.intro | (refine And.intro ?_ ?_))))), ?_⟩
    (conv => whnf)
    constructor
    · intro h2
      have h2 : (fun k => hasB L k) (l.getD i eS) = true := by
        have h2 : (fun k => hasB L k) (l.getD (0 + (i : Int).toNat) eS) = true := h2
        rwa [ei] at h2
      rw [ix_hit h hb h2] at hQ
      (conv => whnf)
      refine ⟨[], _, _, hQ, ?_⟩
      (repeat' (first | exact True.intro | rfl | assumption | exact mc_ok rfl | exact mr_ok | exact fun _ => rfl | exact mt_keep _ _ | exact ms_ok | (refine And.intro ?_ ?_) | (intro _ _; rfl) | ((conv => whnf); (first | exact True.intro | (refine And.intro ?_ ?_)))))
    · intro h2
      have h2 : (fun k => hasB L k) (l.getD i eS) = false := by
        have h2 : (fun k => hasB L k) (l.getD (0 + (i : Int).toNat) eS) = false := h2
        rwa [ei] at h2
      (conv => whnf)
      refine ⟨i + 1, [], by show l.length - (i + 1) < l.length - i; omega, ⟨by show i + 1 ≤ l.length; omega, fun j hj => ?_⟩, ?_⟩
      · rcases Nat.lt_or_ge j i with q | q
        · exact hb j q
        · obtain rfl : j = i := by have : j < i + 1 := hj; omega
          exact h2
      (repeat' (first | exact True.intro | rfl | assumption | exact mc_ok rfl | exact mr_ok | exact fun _ => rfl | exact mt_keep _ _ | exact ms_ok | (refine And.intro ?_ ?_) | (intro _ _; rfl) | ((conv => whnf); (first | exact True.intro | (refine And.intro ?_ ?_)))))
      exact (wrap_inc h (by omega)).symm
  · intro h
    have h : ¬ i < l.length := by have : ¬ (i : Int) < (l.length : Int) := of_decide_eq_false h; omega
    obtain rfl : i = l.length := by omega
    rw [ix_miss hb] at hQ
    (conv => whnf)
    refine ⟨[], _, _, hQ, ?_⟩
    (repeat' (first | exact True.intro | rfl | assumption | exact mc_ok rfl | exact mr_ok | exact fun _ => rfl | exact mt_keep _ _ | exact ms_ok | (refine And.intro ?_ ?_) | (intro _ _; rfl) | ((conv => whnf); (first | exact True.intro | (refine And.intro ?_ ?_)))))
theorem conCf : ConOk Try.prog (conOf [(76, SIxChk.T)]) := conOf_cons (LSpec.call SIxChk_nt SIxChk_ok) conOf_nil
def SCont : LSpec where
  X := List Bs × List Bs
  k := 3
  pre x := x.2.length ≤ 1000000
  args x θ := [.sl (θ 0) 0 1 x.2.length false, fnChk (θ 1)]
  objs x θ := [stR x.2, mvO (θ 2), mtO x.1]
  out x θ R := R (.sb (x.2.any fun k => !hasB x.1 k)) [some (stR x.2), some (mvO (θ 2)), some (mtO x.1)]
theorem SCont_nt : SCont.Nt := ⟨fun _ _ => rfl, fun x θ => by show [stR x.2, mvO (θ 2), mtO x.1] = [(stR x.2).ren θ, (mvO 2).ren θ, (mtO x.1).ren θ]; rw [mtO_ren]; rfl, fun x θ R h => by show R _ [some ((stR x.2).ren θ), some ((mvO 2).ren θ), some ((mtO x.1).ren θ)]; rw [mtO_ren]; exact h⟩
theorem SCont_ok : SCont.Ok Try.prog 62 := by
  refine LSpec.of_body noGo mixed conCf Try.func62 rfl (by kernel_rfl) fun ⟨L, l⟩ R hl hR => ?_
  have hl : l.length ≤ 1000000 := hl
  have hQ : R (.sb (l.any fun k => !hasB L k)) [some (stR l), some (mvO 2), some (mtO L)] := hR
  rw [← ix_nn] at hQ
  (conv => whnf)
  refine ⟨(L, l), [0, 1, 2], hl, rfl, by (repeat' (first | exact True.intro | rfl | assumption | exact mc_ok rfl | exact mr_ok | exact fun _ => rfl | exact mt_keep _ _ | exact ms_ok | (refine And.intro ?_ ?_) | (intro _ _; rfl) | ((conv => whnf); (first | exact True.intro | (refine And.intro ?_ ?_))))), by (repeat' (first | exact True.intro | rfl | assumption | exact mc_ok rfl | exact mr_ok | exact fun _ => rfl | exact mt_keep _ _ | exact ms_ok | (refine And.intro ?_ ?_) | (intro _ _; rfl) | ((conv => whnf); (first | exact True.intro | (refine And.intro ?_ ?_))))), ?_⟩
  (conv => whnf)
  refine ⟨[], _, _, hQ, ?_⟩
  (repeat' (first | exact True.intro | rfl | assumption | exact mc_ok rfl | exact mr_ok | exact fun _ => rfl | exact mt_keep _ _ | exact ms_ok | (refine And.intro ?_ ?_) | (intro _ _; rfl) | ((conv => whnf); (first | exact True.intro | (refine And.intro ?_ ?_)))))
end Go.Proofs.Ytddionboojdjlaa
