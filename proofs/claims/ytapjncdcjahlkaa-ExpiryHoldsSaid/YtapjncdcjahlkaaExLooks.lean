/- What the law's functions compute: looks. -/
import Derived.Test.YtapjncdcjahlkaaExDo
namespace Go.Proofs.Ytapjncdcjahlkaa
open Go Go.RowKit Sy Ex Al
set_option maxRecDepth 100000

theorem conLg : ConOk Try.prog (conOf [(37, SGet.T)]) := conOf_cons (LSpec.call SGet_nt SGet_ok) conOf_nil
def SLGet : LSpec where
  X := HX × Int × Int × Int
  k := 3
  pre x := HW x.1.1 x.1.2.1 x.1.2.2.1 x.1.2.2.2.1 x.1.2.2.2.2 ∧ getW x.1.2.2.2.2 x.2.1 = x.2.2 ∧ x.1.1 ≤ 10000
  args x θ := [.ptr (θ 0) 0, i64 x.2.1, u64 x.2.2.1, i64 x.2.2.2]
  objs x θ := [hpC (θ 1) (θ 2) x.1.1, tmR x.1.2.1 x.1.2.2.1, mpE x.1.2.2.2.1]
  out x θ R := R (.sb true) [some (hpC (θ 1) (θ 2) x.1.1), some (tmR x.1.2.1 x.1.2.2.1), some (mpE x.1.2.2.2.1)]
theorem SLGet_nt : SLGet.Nt := ⟨fun _ _ => rfl, by unfold SLGet; (intros; simp only [ren_all] at *; try assumption), by unfold SLGet; (intros; simp only [ren_all] at *; try assumption)⟩
theorem SLGet_ok : SLGet.Ok Try.prog 20 := by
  refine LSpec.of_body noGo mixed conLg Try.func20 rfl (by kernel_rfl) fun ⟨⟨n, N, L, E, w⟩, s, a, e⟩ R ⟨h, he, hn⟩ hR => ?_
  have h : HW n N L E w := h
  have he : getW w s = (a, e) := he
  have hn : n ≤ 10000 := hn
  have hQ : R (.sb true) [some (hpC 1 2 n), some (tmR N L), some (mpE E)] := hR
  (conv => whnf)
  refine ⟨((n, N, L, E, w), s), [0, 1, 2], ⟨h, by show n ≤ 100000; omega⟩, rfl, by (repeat' (first | exact True.intro | rfl | assumption | exact entI_keep _ _ | (refine And.intro ?_ ?_) | (intro _ _; rfl) | ((conv => whnf); (first | exact True.intro | (refine And.intro ?_ ?_))))), by (repeat' (first | exact True.intro | rfl | assumption | exact entI_keep _ _ | (refine And.intro ?_ ?_) | (intro _ _; rfl) | ((conv => whnf); (first | exact True.intro | (refine And.intro ?_ ?_))))), ?_⟩
  (conv => whnf)
  refine ⟨fun _ => ?_, fun hh => absurd (show decide ((getW w s).1 = a) = false from hh) (by rw [he]; simp)⟩
  (conv => whnf)
  refine ⟨[], _, _, hQ, ?_⟩
  (repeat' (first | exact True.intro | rfl | assumption | exact entI_keep _ _ | (refine And.intro ?_ ?_) | (intro _ _; rfl) | ((conv => whnf); (first | exact True.intro | (refine And.intro ?_ ?_)))))
  all_goals (show true = decide ((getW w s).2 = e); rw [he]; simp)
theorem get_bad {s : Int} {w : List Cell} (h : ¬ slot s) : getW w s = (0, 2) := by unfold getW; rw [if_pos h]
theorem get_no {s : Int} {w : List Cell} (h : slot s) (hp : ¬ posW s w < w.length) : getW w s = (0, 9) := by
  unfold getW
  rw [if_neg (fun g => g h), find_none_len.2 hp]
theorem get_in {s : Int} {w : List Cell} (h : slot s) (hp : posW s w < w.length) : getW w s = ((w.getD (posW s w) c0).2, 0) := by
  unfold getW
  rw [if_neg (fun g => g h), find_pos hp]
theorem tm_n {F : Nat → Cell} {i : Nat} {x : Int} (q : Nat) : tmL (if q = i then (x, (F i).2) else F q) = bif Nat.beq q i then putD 0 (tmL (F q)) [i64 x] else tmL (F q) := by
  by_cases g : q = i
  · subst g
    rw [if_pos rfl, show Nat.beq q q = true from Nat.beq_refl q]
    rfl
  · rw [if_neg g]
    cases hb : Nat.beq q i with
    | true => exact absurd (Nat.eq_of_beq_eq_true hb) g
    | false => rfl
theorem conLk : ConOk Try.prog (conOf [(17, SList.T), (16, SSame.T), (21, SLen.T), (27, SRAt.T), (18, inl Try.prog (conOf []) Try.f18), (12, SLFirst.T), (20, SLGet.T)]) :=
  conOf_cons (LSpec.call SList_nt SList_ok) (conOf_cons (LSpec.call SSame_nt SSame_ok) (conOf_cons (LSpec.call SLen_nt SLen_ok) (conOf_cons (LSpec.call SRAt_nt SRAt_ok) (conOf_cons (inl_ok noGo mixed conOf_nil Try.func18 (by kernel_rfl)) (conOf_cons (LSpec.call SLFirst_nt SLFirst_ok) (conOf_cons (LSpec.call SLGet_nt SLGet_ok) conOf_nil))))))
def SLooks : LSpec where
  X := HX × Int
  k := 4
  pre x := HW x.1.1 x.1.2.1 x.1.2.2.1 x.1.2.2.2.1 x.1.2.2.2.2 ∧ x.1.1 ≤ 10000
  args x θ := [.ptr (θ 0) 0, .sl (θ 3) 0 2 x.1.2.2.2.2.length false, i64 x.2]
  objs x θ := [hpC (θ 1) (θ 2) x.1.1, tmR x.1.2.1 x.1.2.2.1, mpE x.1.2.2.2.1, wR x.1.2.2.2.2]
  out x θ R := R (.sb true) [some (hpC (θ 1) (θ 2) x.1.1), some (tmR x.1.2.1 x.1.2.2.1), some (mpE x.1.2.2.2.1), some (wR x.1.2.2.2.2)]
theorem SLooks_nt : SLooks.Nt := ⟨fun _ _ => rfl, by unfold SLooks wR; (intros; simp only [ren_all] at *; try assumption), by unfold SLooks wR; (intros; simp only [ren_all] at *; try assumption)⟩
theorem SLooks_ok : SLooks.Ok Try.prog 23 := by
  refine LSpec.of_bodyC [12] noGo mixed conLk Try.func23 rfl (by kernel_rfl) fun ⟨⟨n, N, L, E, w⟩, s⟩ R ⟨h, hn⟩ hR => ?_
  have h : HW n N L E w := h
  have hn : n ≤ 10000 := hn
  have hlen := h.len
  have hQ : R (.sb true) [some (hpC 1 2 n), some (tmR N L), some (mpE E), some (wR w)] := hR
  have hlen2 : w.length ≤ 10000 := by omega
  (conv => whnf)
  refine ⟨(n, N, L, E, w), [0, 1, 2], ⟨h, hn⟩, rfl, by (repeat' (first | exact True.intro | rfl | assumption | exact entI_keep _ _ | (refine And.intro ?_ ?_) | (intro _ _; rfl) | ((conv => whnf); (first | exact True.intro | (refine And.intro ?_ ?_))))), by (repeat' (first | exact True.intro | rfl | assumption | exact entI_keep _ _ | (refine And.intro ?_ ?_) | (intro _ _; rfl) | ((conv => whnf); (first | exact True.intro | (refine And.intro ?_ ?_))))), ?_⟩
  (conv => whnf)
  refine ⟨w, [4, 3], hlen2, rfl, by (repeat' (first | exact True.intro | rfl | assumption | exact entI_keep _ _ | (refine And.intro ?_ ?_) | (intro _ _; rfl) | ((conv => whnf); (first | exact True.intro | (refine And.intro ?_ ?_))))), by (repeat' (first | exact True.intro | rfl | assumption | exact entI_keep _ _ | (refine And.intro ?_ ?_) | (intro _ _; rfl) | ((conv => whnf); (first | exact True.intro | (refine And.intro ?_ ?_))))), ?_⟩
  (conv => whnf)
  refine ⟨fun _ => ?_, fun hh => Bool.noConfusion (show (false : Bool) = true from hh)⟩
  (conv => whnf)
  refine ⟨(n, N, L, E, w), [0, 1, 2], trivial, rfl, by (repeat' (first | exact True.intro | rfl | assumption | exact entI_keep _ _ | (refine And.intro ?_ ?_) | (intro _ _; rfl) | ((conv => whnf); (first | exact True.intro | (refine And.intro ?_ ?_))))), by (repeat' (first | exact True.intro | rfl | assumption | exact entI_keep _ _ | (refine And.intro ?_ ?_) | (intro _ _; rfl) | ((conv => whnf); (first | exact True.intro | (refine And.intro ?_ ?_))))), ?_⟩
  (conv => whnf)
  refine ⟨fun hh => absurd (show (!decide ((n : Int) = (w.length : Int))) = true from hh) (by rw [hlen]; simp), fun _ => ?_⟩
  (conv => whnf)
  refine .inl ⟨Nat × (Nat → Cell), fun x => [(0, .ptr 0 0), (1, .sl 3 0 2 w.length false), (2, i64 s), (7, .sl 4 0 2 w.length false), (26, i64 w.length), (27, i64 x.1)], fun x => [some (hpC 1 2 n), some (tmR N L), some (mpE E), some (wR w), some (tmR w.length x.2)], fun x => w.length - x.1, fun x => x.1 ≤ w.length, 5, ⟨(0, fun j => w.getD j c0), [some 4], Nat.zero_le _, ?_⟩, fun _ => rfl, fun ⟨i, F⟩ hi => ?_⟩
  · (repeat' (first | exact True.intro | rfl | assumption | exact entI_keep _ _ | (refine And.intro ?_ ?_) | (intro _ _; rfl) | ((conv => whnf); (first | exact True.intro | (refine And.intro ?_ ?_)))))
  have hi : i ≤ w.length := hi
  have ei := zero_add_toNat i
  (conv => whnf)
  constructor
  · intro hlt
    have hlt : i < w.length := by have : (i : Int) < (w.length : Int) := of_decide_eq_true hlt; omega
    have hiN : 0 + ((i : Nat) : Int).toNat < w.length := by rw [ei]; exact hlt
    have b1 : (0 : Int) ≤ (i : Int) ∧ (i : Int) < (w.length : Int) := ⟨by omega, by omega⟩
    (conv => whnf)
    refine ⟨b1.1, b1.2, ?_⟩
    (conv => whnf)
    refine ⟨hiN, ?_⟩
    (conv => whnf)
    refine ⟨b1.1, b1.2, ?_⟩
    (conv => whnf)
    refine ⟨some (fun q => tmL (if q = i then (IntKind.i64.wrap ((F (0 + (i : Int).toNat)).1 + 1), (F i).2) else F q)), ?_⟩
    (conv => whnf)
    refine ⟨hiN, ?_⟩
    (conv => whnf)
    refine ⟨fun q _ => ?_, ?_⟩
    · show tmL (if q = i then _ else F q) = bif Nat.beq q (0 + (i : Int).toNat) then putD 0 (tmL (F q)) [i64 (IntKind.i64.wrap ((F (0 + (i : Int).toNat)).1 + 1))] else tmL (F q)
      rw [ei]
      exact tm_n q
    (conv => whnf)
    refine ⟨(i + 1, fun q => if q = i then (IntKind.i64.wrap ((F (0 + (i : Int).toNat)).1 + 1), (F i).2) else F q), [some 4], by show w.length - (i + 1) < w.length - i; omega, by show i + 1 ≤ w.length; omega, ?_⟩
    (repeat' (first | exact True.intro | rfl | assumption | exact entI_keep _ _ | (refine And.intro ?_ ?_) | (intro _ _; rfl) | ((conv => whnf); (first | exact True.intro | (refine And.intro ?_ ?_)))))
    exact (wrap_inc hlt (by omega)).symm
  · intro hlt
    (conv => whnf)
    refine ⟨Unit, fun _ => [(0, .ptr 0 0), (1, .sl 3 0 2 w.length false), (2, i64 s), (9, .ptr 5 0), (10, i64 (firstW w).2)], fun _ => [some (hpC 1 2 n), some (tmR N L), some (mpE E), some (wR w), none, some (.cells (tmL (firstW w).1) 34)], fun _ => True, 6, fun _ => rfl, ?_, fun _ _ => ?_⟩
    · cases w with
      | nil =>
        (conv => whnf)
        refine ⟨fun hh => absurd (show decide ((0 : Int) < 0) = true from hh) (by decide), fun _ => ?_⟩
        (conv => whnf)
        refine ⟨(), [none, some 5], trivial, ?_⟩
        (repeat' (first | exact True.intro | rfl | assumption | exact entI_keep _ _ | (refine And.intro ?_ ?_) | (intro _ _; rfl) | ((conv => whnf); (first | exact True.intro | (refine And.intro ?_ ?_)))))
      | cons c w =>
        (conv => whnf)
        refine ⟨fun _ => ?_, fun hh => absurd (of_decide_eq_false hh) (by show ¬ ¬ (0 : Int) < ((w.length + 1 : Nat) : Int); omega)⟩
        (conv => whnf)
        refine ⟨Int.le_refl 0, by show (0 : Int) < ((w.length + 1 : Nat) : Int); omega, ?_⟩
        (conv => whnf)
        refine ⟨by show 0 + (0 : Int).toNat < w.length + 1; simp, ?_⟩
        (conv => whnf)
        refine ⟨(), [none, some 5], trivial, ?_⟩
        (repeat' (first | exact True.intro | rfl | assumption | exact entI_keep _ _ | (refine And.intro ?_ ?_) | (intro _ _; rfl) | ((conv => whnf); (first | exact True.intro | (refine And.intro ?_ ?_)))))
    (conv => whnf)
    refine ⟨(w, s), [3], hlen2, rfl, by (repeat' (first | exact True.intro | rfl | assumption | exact entI_keep _ _ | (refine And.intro ?_ ?_) | (intro _ _; rfl) | ((conv => whnf); (first | exact True.intro | (refine And.intro ?_ ?_))))), by (repeat' (first | exact True.intro | rfl | assumption | exact entI_keep _ _ | (refine And.intro ?_ ?_) | (intro _ _; rfl) | ((conv => whnf); (first | exact True.intro | (refine And.intro ?_ ?_))))), ?_⟩
    have bad : ¬ slot s → getW w s = (0, 2) := get_bad
    (conv => whnf)
    constructor
    · intro h1
      have h1 : 0 ≤ s := of_decide_eq_true h1
      (conv => whnf)
      constructor
      · intro h2
        have h2 : ¬ s < 1048576 := by simpa using (show (!decide (s < 1048576)) = true from h2)
        have hg := bad fun g => h2 g.2
        (conv => whnf)
        refine ⟨((n, N, L, E, w), (firstW w).1, (firstW w).2), [0, 1, 2], ⟨h, rfl⟩, rfl, by (repeat' (first | exact True.intro | rfl | assumption | exact entI_keep _ _ | (refine And.intro ?_ ?_) | (intro _ _; rfl) | ((conv => whnf); (first | exact True.intro | (refine And.intro ?_ ?_))))), by (repeat' (first | exact True.intro | rfl | assumption | exact entI_keep _ _ | (refine And.intro ?_ ?_) | (intro _ _; rfl) | ((conv => whnf); (first | exact True.intro | (refine And.intro ?_ ?_))))), ?_⟩
        (conv => whnf)
        refine ⟨fun _ => ?_, fun hh => Bool.noConfusion (show true = false from hh)⟩
        (conv => whnf)
        refine ⟨((n, N, L, E, w), s, 0, 2), [0, 1, 2], ⟨h, hg, hn⟩, rfl, by (repeat' (first | exact True.intro | rfl | assumption | exact entI_keep _ _ | (refine And.intro ?_ ?_) | (intro _ _; rfl) | ((conv => whnf); (first | exact True.intro | (refine And.intro ?_ ?_))))), by (repeat' (first | exact True.intro | rfl | assumption | exact entI_keep _ _ | (refine And.intro ?_ ?_) | (intro _ _; rfl) | ((conv => whnf); (first | exact True.intro | (refine And.intro ?_ ?_))))), ?_⟩
        (conv => whnf)
        refine ⟨[], _, _, hQ, ?_⟩
        (repeat' (first | exact True.intro | rfl | assumption | exact entI_keep _ _ | (refine And.intro ?_ ?_) | (intro _ _; rfl) | ((conv => whnf); (first | exact True.intro | (refine And.intro ?_ ?_)))))
      · intro h2
        have h2 : s < 1048576 := by simpa using (show (!decide (s < 1048576)) = false from h2)
        have hs : slot s := ⟨h1, h2⟩
        (conv => whnf)
        constructor
        · intro h3
          have h3 : atI s w < 0 := of_decide_eq_true h3
          have hp : ¬ posW s w < w.length := fun g => by unfold atI at h3; rw [if_pos g] at h3; omega
          have hg := get_no hs hp
          (conv => whnf)
          refine ⟨((n, N, L, E, w), (firstW w).1, (firstW w).2), [0, 1, 2], ⟨h, rfl⟩, rfl, by (repeat' (first | exact True.intro | rfl | assumption | exact entI_keep _ _ | (refine And.intro ?_ ?_) | (intro _ _; rfl) | ((conv => whnf); (first | exact True.intro | (refine And.intro ?_ ?_))))), by (repeat' (first | exact True.intro | rfl | assumption | exact entI_keep _ _ | (refine And.intro ?_ ?_) | (intro _ _; rfl) | ((conv => whnf); (first | exact True.intro | (refine And.intro ?_ ?_))))), ?_⟩
          (conv => whnf)
          refine ⟨fun _ => ?_, fun hh => Bool.noConfusion (show true = false from hh)⟩
          (conv => whnf)
          refine ⟨((n, N, L, E, w), s, 0, 9), [0, 1, 2], ⟨h, hg, hn⟩, rfl, by (repeat' (first | exact True.intro | rfl | assumption | exact entI_keep _ _ | (refine And.intro ?_ ?_) | (intro _ _; rfl) | ((conv => whnf); (first | exact True.intro | (refine And.intro ?_ ?_))))), by (repeat' (first | exact True.intro | rfl | assumption | exact entI_keep _ _ | (refine And.intro ?_ ?_) | (intro _ _; rfl) | ((conv => whnf); (first | exact True.intro | (refine And.intro ?_ ?_))))), ?_⟩
          (conv => whnf)
          refine ⟨[], _, _, hQ, ?_⟩
          (repeat' (first | exact True.intro | rfl | assumption | exact entI_keep _ _ | (refine And.intro ?_ ?_) | (intro _ _; rfl) | ((conv => whnf); (first | exact True.intro | (refine And.intro ?_ ?_)))))
        · intro h3
          have h3 : ¬ atI s w < 0 := of_decide_eq_false h3
          have hp : posW s w < w.length := Decidable.byContradiction fun g => h3 (by unfold atI; rw [if_neg g]; decide)
          have ea : atI s w = (posW s w : Int) := by unfold atI; rw [if_pos hp]
          have hg := get_in hs hp
          rw [ea]
          generalize posW s w = k at *
          have ek := zero_add_toNat k
          (conv => whnf)
          refine ⟨((n, N, L, E, w), (firstW w).1, (firstW w).2), [0, 1, 2], ⟨h, rfl⟩, rfl, by (repeat' (first | exact True.intro | rfl | assumption | exact entI_keep _ _ | (refine And.intro ?_ ?_) | (intro _ _; rfl) | ((conv => whnf); (first | exact True.intro | (refine And.intro ?_ ?_))))), by (repeat' (first | exact True.intro | rfl | assumption | exact entI_keep _ _ | (refine And.intro ?_ ?_) | (intro _ _; rfl) | ((conv => whnf); (first | exact True.intro | (refine And.intro ?_ ?_))))), ?_⟩
          (conv => whnf)
          refine ⟨fun _ => ?_, fun hh => Bool.noConfusion (show true = false from hh)⟩
          (conv => whnf)
          refine ⟨by show (0 : Int) ≤ (k : Int); omega, by show (k : Int) < (w.length : Int); omega, ?_⟩
          (conv => whnf)
          refine ⟨by show 0 + (k : Int).toNat < w.length; rw [ek]; exact hp, ?_⟩
          (conv => whnf)
          refine ⟨((n, N, L, E, w), s, (w.getD (0 + (k : Int).toNat) c0).2, 0), [0, 1, 2], ⟨h, by show getW w s = ((w.getD (0 + (k : Int).toNat) c0).2, 0); rw [ek]; exact hg, hn⟩, rfl, by (repeat' (first | exact True.intro | rfl | assumption | exact entI_keep _ _ | (refine And.intro ?_ ?_) | (intro _ _; rfl) | ((conv => whnf); (first | exact True.intro | (refine And.intro ?_ ?_))))), by (repeat' (first | exact True.intro | rfl | assumption | exact entI_keep _ _ | (refine And.intro ?_ ?_) | (intro _ _; rfl) | ((conv => whnf); (first | exact True.intro | (refine And.intro ?_ ?_))))), ?_⟩
          (conv => whnf)
          refine ⟨[], _, _, hQ, ?_⟩
          (repeat' (first | exact True.intro | rfl | assumption | exact entI_keep _ _ | (refine And.intro ?_ ?_) | (intro _ _; rfl) | ((conv => whnf); (first | exact True.intro | (refine And.intro ?_ ?_)))))
    · intro h1
      have h1 : ¬ 0 ≤ s := of_decide_eq_false h1
      have hg := bad fun g => h1 g.1
      (conv => whnf)
      refine ⟨((n, N, L, E, w), (firstW w).1, (firstW w).2), [0, 1, 2], ⟨h, rfl⟩, rfl, by (repeat' (first | exact True.intro | rfl | assumption | exact entI_keep _ _ | (refine And.intro ?_ ?_) | (intro _ _; rfl) | ((conv => whnf); (first | exact True.intro | (refine And.intro ?_ ?_))))), by (repeat' (first | exact True.intro | rfl | assumption | exact entI_keep _ _ | (refine And.intro ?_ ?_) | (intro _ _; rfl) | ((conv => whnf); (first | exact True.intro | (refine And.intro ?_ ?_))))), ?_⟩
      (conv => whnf)
      refine ⟨fun _ => ?_, fun hh => Bool.noConfusion (show true = false from hh)⟩
      (conv => whnf)
      refine ⟨((n, N, L, E, w), s, 0, 2), [0, 1, 2], ⟨h, hg, hn⟩, rfl, by (repeat' (first | exact True.intro | rfl | assumption | exact entI_keep _ _ | (refine And.intro ?_ ?_) | (intro _ _; rfl) | ((conv => whnf); (first | exact True.intro | (refine And.intro ?_ ?_))))), by (repeat' (first | exact True.intro | rfl | assumption | exact entI_keep _ _ | (refine And.intro ?_ ?_) | (intro _ _; rfl) | ((conv => whnf); (first | exact True.intro | (refine And.intro ?_ ?_))))), ?_⟩
      (conv => whnf)
      refine ⟨[], _, _, hQ, ?_⟩
      (repeat' (first | exact True.intro | rfl | assumption | exact entI_keep _ _ | (refine And.intro ?_ ?_) | (intro _ _; rfl) | ((conv => whnf); (first | exact True.intro | (refine And.intro ?_ ?_)))))
end Go.Proofs.Ytapjncdcjahlkaa
