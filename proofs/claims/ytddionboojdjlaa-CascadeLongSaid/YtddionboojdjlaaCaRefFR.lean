/- The reference's Sorted, its result in a family. -/
import Derived.Test.YtddionboojdjlaaK10CascadeLong
namespace Go.Proofs.Ytddionboojdjlaa
open Go Go.RowKit Sy Tb Gr
set_option maxRecDepth 100000
set_option maxHeartbeats 4000000

theorem exLet {α : Type} {p : Prop} (x : α) (h : ∀ y, y = x → p) : p := h x rfl
theorem exIt {α : Type} {q : α → Prop} {p : Prop} (h : ∃ y, q y) (k : ∀ y, q y → p) : p := h.elim k
section
variable {M0 M : RowsS} {D : List Nat} {p : Option Nat} {lv : List Bs} {c : Nat}
theorem LvI.one (h : LvI M0 D M p lv c) (hD : ∀ b ∈ D, M0 b ≠ Option.none) {b2 C2 c2 : Nat} {l2 : List Bs} (h2 : l2.length ≤ c2) (h3 : c2 ≤ C2) (hne : l2 ≠ []) (hb2 : M b2 = Option.none) : LvI M0 D (setM M b2 (l2, C2)) (some b2) l2 c2 := by
  have hn : b2 ∉ D := fun q => hD b2 q ((h.keep b2 q).symm.trans hb2)
  exact ⟨fun d hd => by rw [setM_ne (show d ≠ b2 from fun e => hn (e ▸ hd))]; exact h.keep d hd, .inr ⟨b2, C2, rfl, setM_same, h2, h3, hn, hne⟩⟩
theorem LvI.two (h : LvI M0 D M p lv c) (hD : ∀ b ∈ D, M0 b ≠ Option.none) {b1 C1 c1 b2 C2 c2 : Nat} {l1 l2 : List Bs} (hb1 : M b1 = Option.none) (h2 : l2.length ≤ c2) (h3 : c2 ≤ C2) (hne : l2 ≠ []) (hb2 : setM M b1 (l1, C1) b2 = Option.none ∨ (some b1 = some b2 ∧ c2 = c1)) :
    LvI M0 D (setM (setM M b1 (l1, C1)) b2 (l2, C2)) (some b2) l2 c2 := by
  have hn1 : b1 ∉ D := fun q => hD b1 q ((h.keep b1 q).symm.trans hb1)
  have hn2 : b2 ∉ D := fun q => by
    rcases hb2 with g | ⟨g, _⟩
    · by_cases e : b2 = b1
      · exact hn1 (e ▸ q)
      · rw [setM_ne e] at g
        exact hD b2 q ((h.keep b2 q).symm.trans g)
    · cases g; exact hn1 q
  exact ⟨fun d hd => by rw [setM_ne (show d ≠ b2 from fun e => hn2 (e ▸ hd)), setM_ne (show d ≠ b1 from fun e => hn1 (e ▸ hd))]; exact h.keep d hd, .inr ⟨b2, C2, rfl, setM_same, h2, h3, hn2, hne⟩⟩
end
theorem LvI.src {M0 M : RowsS} {D : List Nat} {p : Option Nat} {o : List Bs} {cp k : Nat} (h : LvI M0 D M p o cp) (hk : k ≤ o.length) : o.length - k = 0 ∨ ∃ b lo N C f, (if cp = k then p.map (fun b => (b, 0)) else (p.map fun b => (b, 0)).map fun q => (q.1, q.2 + k)) = some (b, lo) ∧ (M b).map rwS = some (N, C, f) ∧ lo + (o.length - k) ≤ N ∧ ∀ q, q < o.length - k → ([V.str (o.getD (k + q) eS)] : List V) = f (lo + q) := by
  rcases Nat.lt_or_ge k o.length with g | g
  · have hc := h.le
    rcases h.is with ⟨_, q⟩ | ⟨b, C, rfl, hM⟩
    · rw [q] at g; exact absurd g (Nat.not_lt_zero _)
    · refine .inr ⟨b, 0 + k, _, C, _, by rw [if_neg (by omega)]; rfl, by rw [hM]; rfl, by show 0 + k + (o.length - k) ≤ o.length; omega, fun q hq => ?_⟩
      rw [Nat.zero_add]
  · exact .inl (by omega)
theorem LvI.src0 {M0 M : RowsS} {D : List Nat} {p : Option Nat} {o : List Bs} {cp k : Nat} (h : LvI M0 D M p o cp) (hk : k ≤ o.length) : k - 0 = 0 ∨ ∃ b lo N C f, (if cp = 0 then p.map (fun b => (b, 0)) else (p.map fun b => (b, 0)).map fun q => (q.1, q.2 + 0)) = some (b, lo) ∧ (M b).map rwS = some (N, C, f) ∧ lo + (k - 0) ≤ N ∧ ∀ q, q < k - 0 → ([V.str (o.getD q eS)] : List V) = f (lo + q) := by
  have hc := h.le
  rcases h.is with ⟨_, q⟩ | ⟨b, C, rfl, hM⟩
  · rw [q] at hk; exact .inl (by simpa using hk)
  · refine .inr ⟨b, 0, _, C, _, by split <;> rfl, by rw [hM]; rfl, by show 0 + (k - 0) ≤ o.length; omega, fun q hq => ?_⟩
    rw [Nat.zero_add]
def SRSortedF : LSpec where
  X := List Bs × RowsS × List Nat
  k := 2
  pre x := x.1.length ≤ 30000 ∧ ∀ b ∈ x.2.2, x.2.1 b ≠ none
  args x θ := [.sl (θ 0) 0 1 x.1.length false]
  objs x _ := [stR x.1, msO x.2.1]
  out x θ R := ∀ M p c, LvI x.2.1 x.2.2 M p (sortK x.1) c → R (asS (θ 1) p (sortK x.1).length c) [some (stR x.1), some (msO M)]
theorem SRSortedF_nt : SRSortedF.Nt := ⟨fun _ _ => rfl, by unfold SRSortedF; intros; simp only [ren_all, msO_ren] at *; try rfl, by unfold SRSortedF; intros; simp only [ren_all, msO_ren] at *; try assumption⟩
theorem SRSortedF_ok : SRSortedF.Ok Try.prog 41 := by
  refine LSpec.of_bodyC [8] noGo mixed conOf_nil Try.func41 rfl (by kernel_rfl) fun ⟨l, M0, D⟩ R ⟨hl, hD⟩ hR => ?_
  have hl : List.length l ≤ 30000 := hl
  have hD : ∀ b ∈ D, M0 b ≠ none := hD
  have hQ : ∀ M p c, LvI M0 D M p (sortK l) c → R (asS 1 p (sortK l).length c) [some (stR l), some (msO M)] := hR
  (conv => whnf)
  refine .inl ⟨(Nat × List Bs) × RowsS × Option Nat × Nat, fun x => [(0, .sl 0 0 1 (List.length l) false), (3, asS 1 x.2.2.1 x.1.2.length x.2.2.2), (4, i64 x.1.1)], fun x => [some (stR l), some (msO x.2.1)], fun x => List.length l - x.1.1, fun x => x.1.1 ≤ List.length l ∧ x.1.2 = isrt (List.take x.1.1 l) ∧ LvI M0 D x.2.1 x.2.2.1 x.1.2 x.2.2.2, 2,
    ⟨((0, []), M0, none, 0), [], ⟨Nat.zero_le _, rfl, LvI.zero⟩, ?_⟩, fun _ => rfl, fun ⟨⟨i, o⟩, M, p, cp⟩ ⟨hi, ho, hL⟩ => ?_⟩
  · (repeat' (first | exact True.intro | rfl | assumption | exact mc_ok rfl | exact mr_ok | exact fun _ => rfl | exact mt_keep _ _ | exact ms_ok | (refine And.intro ?_ ?_) | (intro _ _; rfl) | ((conv => whnf); (first | exact True.intro | (refine And.intro ?_ ?_)))))
  have hi : i ≤ List.length l := hi
  have ho : o = isrt (List.take i l) := ho
  have hL : LvI M0 D M p o cp := hL
  have hcp := hL.le
  have ei := zero_add_toNat i
  (conv => whnf)
  constructor
  · intro h
    have h : i < List.length l := by have : (i : Int) < (List.length l : Int) := of_decide_eq_true h; omega
    have hol : o.length = i := by rw [ho, isrt_len, List.length_take]; omega
    refine exLet (List.getD l i eS) fun c hc => ?_
    have hins : insK c o = isrt (List.take (i + 1) l) := by rw [isrt_take h, ho, hc]; rfl
    refine exLet (kG (fun a b => strLt a b) c o) fun k hk => ?_
    have hkl : k ≤ o.length := by rw [hk]; exact kG_le
    have hcc : List.getD l (0 + (i : Int).toNat) eS = c := by rw [ei, hc]
    (conv => whnf)
    refine ⟨Unit, fun _ => [(0, .sl 0 0 1 (List.length l) false), (3, asS 1 p o.length cp), (4, i64 i), (5, i64 k)], fun _ => [some (stR l), some (msO M)], fun _ => True, 2, fun _ => rfl, ?_, fun _ _ => ?_⟩
    · (conv => whnf)
      refine .inl ⟨Nat, fun a => [(0, .sl 0 0 1 (List.length l) false), (3, asS 1 p o.length cp), (4, i64 i), (5, i64 a)], fun _ => [some (stR l), some (msO M)], fun a => o.length - a, fun a => a ≤ k, 2, ⟨0, [], Nat.zero_le _, ?_⟩, fun _ => rfl, fun a ha => ?_⟩
      · (repeat' (first | exact True.intro | rfl | assumption | exact mc_ok rfl | exact mr_ok | exact fun _ => rfl | exact mt_keep _ _ | exact ms_ok | (refine And.intro ?_ ?_) | (intro _ _; rfl) | ((conv => whnf); (first | exact True.intro | (refine And.intro ?_ ?_)))))
      have ha : a ≤ k := ha
      have ea := zero_add_toNat a
      (conv => whnf)
      constructor
      · intro h1
        have h1 : a < o.length := by have : (a : Int) < (o.length : Int) := of_decide_eq_true h1; omega
        have hne : o ≠ [] := fun q => by rw [q] at h1; exact absurd h1 (Nat.not_lt_zero _)
        refine exIt (hL.is.resolve_left fun q => hne q.2) fun pb hpb => ?_
        refine exIt hpb fun pC hpC => ?_
        rw [hpC.1]
        (conv => whnf)
        refine ⟨by show (0 : Int) ≤ (a : Int); omega, by show (a : Int) < (o.length : Int); omega, pb, 0, rfl, ?_⟩
        (conv => whnf)
        refine ⟨o.length, pC, fun q => [.str (o.getD q eS)], by show (M pb).map rwS = _; rw [hpC.2]; rfl, by rw [ea]; exact h1, ?_⟩
        (conv => whnf)
        refine ⟨by show (0 : Int) ≤ (i : Int); omega, by show (i : Int) < (List.length l : Int); omega, ?_⟩
        (conv => whnf)
        refine ⟨by rw [ei]; exact h, ?_⟩
        (conv => whnf)
        (repeat (first | refine And.intro rfl ?_ | fail))
        constructor
        · intro h2
          have h2 : strLt (o.getD (0 + (a : Int).toNat) eS) (List.getD l (0 + (i : Int).toNat) eS) = true := h2
          rw [ea, hcc] at h2
          (conv => whnf)
          refine ⟨a + 1, [], by show o.length - (a + 1) < o.length - a; omega, by show a + 1 ≤ k; rw [hk]; exact kG_go (by omega) h1 h2, ?_⟩
          (repeat' (first | exact True.intro | rfl | assumption | exact mc_ok rfl | exact mr_ok | exact fun _ => rfl | exact mt_keep _ _ | exact ms_ok | (refine And.intro ?_ ?_) | (intro _ _; rfl) | ((conv => whnf); (first | exact True.intro | (refine And.intro ?_ ?_)))))
          all_goals exact (wrap_inc h1 (by omega)).symm
        · intro h2
          have h2 : strLt (o.getD (0 + (a : Int).toNat) eS) (List.getD l (0 + (i : Int).toNat) eS) = false := h2
          rw [ea, hcc] at h2
          have e : a = k := by rw [hk]; exact kG_no (d := eS) (by omega) (by rw [h2]; exact Bool.false_ne_true)
          (conv => whnf)
          refine ⟨(), [], trivial, ?_⟩
          (repeat' (first | exact True.intro | rfl | assumption | exact mc_ok rfl | exact mr_ok | exact fun _ => rfl | exact mt_keep _ _ | exact ms_ok | (refine And.intro ?_ ?_) | (intro _ _; rfl) | ((conv => whnf); (first | exact True.intro | (refine And.intro ?_ ?_)))))
          all_goals (show ((k : Nat) : Int) = (a : Int); rw [e])
      · intro h1
        have h1 : ¬ a < o.length := by have : ¬ (a : Int) < (o.length : Int) := of_decide_eq_false h1; omega
        have e : a = k := by omega
        (conv => whnf)
        (repeat' (first | (refine And.intro (fun hh => ?_) (fun hh => ?_) <;> first | (exfalso; simp [*] at hh; done) | (exfalso; simp_all; done) | (conv => whnf)) | fail))
        refine ⟨(), [], trivial, ?_⟩
        (repeat' (first | exact True.intro | rfl | assumption | exact mc_ok rfl | exact mr_ok | exact fun _ => rfl | exact mt_keep _ _ | exact ms_ok | (refine And.intro ?_ ?_) | (intro _ _; rfl) | ((conv => whnf); (first | exact True.intro | (refine And.intro ?_ ?_)))))
        all_goals (show ((k : Nat) : Int) = (a : Int); rw [e])
    · have hvw := insG_view (lt := fun a b => strLt a b) (F := fun s : Bs => ([.str s] : List V)) (d := eS) (c := c) (w := o) (k := k) hk.symm
      have hln : (insK c o).length = o.length + 1 := len_insG
      (conv => whnf)
      refine ⟨by show (0 : Int) ≤ (i : Int); omega, by show (i : Int) < (l.length : Int); omega, ?_⟩
      (conv => whnf)
      refine ⟨by rw [ei]; exact h, ?_⟩
      (conv => whnf)
      refine ⟨by show (0 : Int) ≤ (k : Int); omega, by show (k : Int).toNat ≤ o.length; rw [Int.toNat_natCast]; exact hkl, hcp, ?_⟩
      (conv => whnf)
      (repeat (first | refine And.intro rfl ?_ | fail))
      rw [Int.toNat_natCast k]
      refine .inl ?_
      (conv => whnf)
      (repeat (first | refine And.intro rfl ?_ | fail))
      (conv => whnf)
      refine ⟨some (fun q => appF 1 (fun _ => [.str c]) (fun q => [.str (o.getD (k + q) eS)]) q), ?_⟩
      (conv => whnf)
      refine ⟨fun q => [.str (o.getD (k + q) eS)], hL.src hkl, ?_⟩
      (conv => whnf)
      refine ⟨by show 0 + 1 ≤ 1; omega, by show (1 + (o.length - k)) * (16 + 1) ≤ 1000000000; omega, fun q _ => ?_, ?_⟩
      · show appF 1 (fun _ => [V.str c]) (fun q => [V.str (o.getD (k + q) eS)]) q = appF 1 (fun q => chunk [.str (l.getD (0 + (i : Int).toNat) eS)] 1 (0 + q)) (fun q => [V.str (o.getD (k + q) eS)]) q
        rw [hcc]
        rcases Nat.lt_or_ge q 1 with h0 | h0
        · obtain rfl : q = 0 := by omega
          rfl
        · rw [appF_ge h0, appF_ge h0]
      (conv => whnf)
      (repeat (first | refine And.intro rfl ?_ | fail))
      (conv => whnf)
      refine ⟨by show (0 : Int) ≤ (k : Int); omega, Nat.zero_le _, by show (k : Int).toNat ≤ cp; rw [Int.toNat_natCast]; omega, ?_⟩
      (conv => whnf)
      rw [Int.toNat_natCast k]
      refine .inr ⟨1, 1, ?_⟩
      (conv => whnf)
      have htk : (List.take k o).length = 0 + (k - 0) := by rw [List.length_take]; omega
      have htg : ∀ q, q < k - 0 → ([V.str ((List.take k o).getD (0 + q) eS)] : List V) = [.str (o.getD q eS)] := fun q hq => by
        rw [Nat.zero_add, List.getD_eq_getElem?_getD, List.getElem?_take_of_lt (by omega), ← List.getD_eq_getElem?_getD]
      refine ⟨fun q => [.str (o.getD q eS)], hL.src0 hkl, by show (0 + (k - 0)) * (16 + 1) ≤ 1000000000; omega, Nat.le_refl 0, 1, fun q => [.str ((List.take k o).getD q eS)], ?_⟩
      (conv => whnf)
      refine ⟨.inl ⟨rfl, rfl⟩, htg, fun hk0 => ?_, fun hk0 b1 c1 C1 hc1 hC1 hb1 => ?_⟩
      · have hk0 : k = 0 := by omega
        (conv => whnf)
        refine ⟨by show 0 + (1 + (o.length - k)) ≤ 1 + (o.length - k); omega, by show (0 + (1 + (o.length - k))) * (16 + 1) ≤ 1000000000; omega, Nat.le_refl 0, 1, fun q => [.str ((insK c o).getD q eS)], ?_⟩
        (conv => whnf)
        refine ⟨.inl ⟨rfl, rfl⟩, fun q _ => ?_, fun hh => absurd hh (by omega), fun _ b2 c2 C2 hc2 hC2 hb2 => ?_⟩
        · rw [Nat.zero_add]
          refine (hvw q).trans ?_
          rw [hk0, appF_ge (Nat.zero_le q), Nat.sub_zero, Nat.zero_add]
          show _ = appF 1 (fun _ => [V.str c]) (fun q => [V.str (o.getD (0 + q) eS)]) (0 + q)
          rw [Nat.zero_add q]
        have hb2 : M b2 = none := by
          rcases hb2 with g | ⟨_, g, _⟩
          · simpa using g
          · cases g
        refine ⟨fun y => (setM M b2 (insK c o, C2) y).map rwS, ⟨?_, fun y hy => by show (setM M b2 (insK c o, C2) y).map rwS = _; rw [setM_ne hy]⟩, ?_⟩
        · show (setM M b2 (insK c o, C2) b2).map rwS = _
          rw [setM_same]
          show some ((insK c o).length, C2, _) = some (0 + (1 + (o.length - k)), C2, _)
          rw [hln, show 0 + (1 + (o.length - k)) = o.length + 1 by omega]
        have hL2 := hL.one hD (b2 := b2) (C2 := C2) (c2 := c2) (l2 := insK c o) (by rw [hln]; omega) hC2 (fun q => by rw [q] at hln; exact absurd hln (by simp)) hb2
        (conv => whnf)
        refine ⟨((i + 1, insK c o), setM M b2 (insK c o, C2), some b2, c2), [], by show List.length l - (i + 1) < List.length l - i; omega, ⟨by show i + 1 ≤ List.length l; omega, hins, hL2⟩, ?_⟩
        (repeat' (first | exact True.intro | rfl | assumption | exact mc_ok rfl | exact mr_ok | exact fun _ => rfl | exact mt_keep _ _ | exact ms_ok | (refine And.intro ?_ ?_) | (intro _ _; rfl) | ((conv => whnf); (first | exact True.intro | (refine And.intro ?_ ?_)))))
        all_goals first | exact (wrap_inc h (by omega)).symm | (show (insK c o).length = 0 + (1 + (o.length - k)); omega)
      · have hb1 : M b1 = none := by
          rcases hb1 with g | ⟨_, g, _⟩
          · simpa using g
          · cases g
        refine ⟨fun y => (setM M b1 (List.take k o, C1) y).map rwS, ⟨?_, fun y hy => by show (setM M b1 (List.take k o, C1) y).map rwS = _; rw [setM_ne hy]⟩, ?_⟩
        · show (setM M b1 (List.take k o, C1) b1).map rwS = _
          rw [setM_same]
          show some ((List.take k o).length, C1, _) = some (0 + (k - 0), C1, _)
          rw [htk]
        (conv => whnf)
        refine ⟨by show 0 + (1 + (o.length - k)) ≤ 1 + (o.length - k); omega, by show (0 + (k - 0) + (1 + (o.length - k))) * (16 + 1) ≤ 1000000000; omega, hc1, 1, fun q => [.str ((insK c o).getD q eS)], ?_⟩
        (conv => whnf)
        refine ⟨.inr ⟨rfl, b1, 0 + (k - 0), C1, fun q => [.str ((List.take k o).getD q eS)], rfl, ?_, Nat.le_refl _, hC1, fun q hq => ?_⟩, fun q _ => ?_, fun hh => absurd hh (by omega), fun _ b2 c2 C2 hc2 hC2 hb2 => ?_⟩
        · show (setM M b1 (List.take k o, C1) b1).map rwS = _
          rw [setM_same]
          show some ((List.take k o).length, C1, _) = some (0 + (k - 0), C1, _)
          rw [htk]
        · refine (hvw q).trans ?_
          rw [appF_lt (by omega), Nat.zero_add]
          show ([V.str (o.getD q eS)] : List V) = [V.str ((List.take k o).getD q eS)]
          rw [List.getD_eq_getElem?_getD, List.getD_eq_getElem?_getD, List.getElem?_take_of_lt (by omega)]
        · refine (hvw (0 + (k - 0) + q)).trans ?_
          rw [appF_ge (by omega), show 0 + (0 + (k - 0) + q - k) = 0 + q by omega]
        have hb2 : setM M b1 (List.take k o, C1) b2 = none ∨ (some b1 = some b2 ∧ c2 = c1) := by
          rcases hb2 with g | ⟨_, g, e⟩
          · exact .inl (by simpa using g)
          · cases g; exact .inr ⟨rfl, e⟩
        refine ⟨fun y => (setM (setM M b1 (List.take k o, C1)) b2 (insK c o, C2) y).map rwS, ⟨?_, fun y hy => by show (setM (setM M b1 (List.take k o, C1)) b2 (insK c o, C2) y).map rwS = _; rw [setM_ne hy]⟩, ?_⟩
        · show (setM (setM M b1 (List.take k o, C1)) b2 (insK c o, C2) b2).map rwS = _
          rw [setM_same]
          show some ((insK c o).length, C2, _) = some (0 + (k - 0) + (1 + (o.length - k)), C2, _)
          rw [hln, show 0 + (k - 0) + (1 + (o.length - k)) = o.length + 1 by omega]
        have hL2 := hL.two hD (C1 := C1) (l1 := List.take k o) (C2 := C2) (c2 := c2) (l2 := insK c o) hb1 (by rw [hln]; omega) hC2 (fun q => by rw [q] at hln; exact absurd hln (by simp)) hb2
        (conv => whnf)
        refine ⟨((i + 1, insK c o), setM (setM M b1 (List.take k o, C1)) b2 (insK c o, C2), some b2, c2), [], by show List.length l - (i + 1) < List.length l - i; omega, ⟨by show i + 1 ≤ List.length l; omega, hins, hL2⟩, ?_⟩
        (repeat' (first | exact True.intro | rfl | assumption | exact mc_ok rfl | exact mr_ok | exact fun _ => rfl | exact mt_keep _ _ | exact ms_ok | (refine And.intro ?_ ?_) | (intro _ _; rfl) | ((conv => whnf); (first | exact True.intro | (refine And.intro ?_ ?_)))))
        all_goals first | exact (wrap_inc h (by omega)).symm | (show (insK c o).length = 0 + (k - 0) + (1 + (o.length - k)); omega)
  · intro h
    have h : ¬ i < List.length l := by have : ¬ (i : Int) < (List.length l : Int) := of_decide_eq_false h; omega
    rw [List.take_of_length_le (by omega), isrt_eq] at ho
    rw [ho] at hL
    have hF := hQ M p cp hL
    rw [ho]
    (conv => whnf)
    refine ⟨[], _, _, hF, ?_⟩
    (repeat' (first | exact True.intro | rfl | assumption | exact mc_ok rfl | exact mr_ok | exact fun _ => rfl | exact mt_keep _ _ | exact ms_ok | (refine And.intro ?_ ?_) | (intro _ _; rfl) | ((conv => whnf); (first | exact True.intro | (refine And.intro ?_ ?_)))))
end Go.Proofs.Ytddionboojdjlaa
