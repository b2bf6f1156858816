/- What split computes. -/
import Derived.Test.YtagpkejbbmpcgaaTrRowsR
namespace Go.Proofs.Ytagpkejbbmpcgaa
open Go Go.RowKit Sy Ti
set_option maxRecDepth 100000
set_option maxHeartbeats 4000000

structure SplX where
  T : Tt
  R : RowsN
  x : Nat
  d : Nd
  l1 : List Nat
  z : Nat
  l2 : List Nat
  e : Nd
  at_ : Nat
structure SplI (s : SplX) : Prop where
  tr : TR s.T s.R
  hx : s.T s.x = some s.d
  hk : s.d.kids = s.l1 ++ s.z :: s.l2
  hz : s.T s.z = some s.e
  hzx : s.z ≠ s.x
  pos : 0 < s.at_ ∧ s.at_ < s.e.edge.size
  len : s.d.kids.length ≤ 256
def splM (s : SplX) (p : Option Nat) (c : Nat) : Nd := ⟨s.d.str ++ substr s.e.edge 0 s.at_, substr s.e.edge 0 s.at_, 0, [s.z], p, c⟩
def splT (s : SplX) (y : Nat) (p : Option Nat) (c : Nat) (p' : Option Nat) (c' : Nat) : Tt :=
  setM (setM (setM s.T y (splM s p c)) s.z { s.e with edge := substr s.e.edge s.at_ s.e.edge.size }) s.x { s.d with kids := s.l1 ++ y :: s.l2, p := p', c := c' }
def SSplit : LSpec where
  X := SplX
  k := 2
  pre := SplI
  args s θ := [.ap (θ 0) s.x 0, i64 s.l1.length, i64 s.at_]
  objs s θ := objsT θ s.T s.R
  out s θ R := ∀ y p c p' c' R', s.T y = none → TR (splT s y p c p' c') R' → R (.ap (θ 0) y 0) (allT θ (splT s y p c p' c') R')
theorem SSplit_nt : SSplit.Nt := ⟨fun _ _ => rfl, by unfold SSplit objsT; (intros; simp only [ren_all] at *; try assumption), by unfold SSplit allT; (intros; simp only [ren_all] at *; try assumption)⟩
theorem SSplit_ok : SSplit.Ok Try.prog 49 := by
  refine LSpec.of_body noGo mixed conOf_nil Try.func49 rfl (by kernel_rfl) fun s R hI hR => ?_
  have hI : SplI s := hI
  obtain ⟨T, M, x, d, l1, z, l2, e, a⟩ := s
  have hQ : ∀ y p c p' c' R', T y = none → TR (splT ⟨T, M, x, d, l1, z, l2, e, a⟩ y p c p' c') R' → R (.ap 0 y 0) (allT _root_.id (splT ⟨T, M, x, d, l1, z, l2, e, a⟩ y p c p' c') R') := hR
  obtain ⟨htr0, hx0, hk0, hz0, hzx0, hp0, hln0⟩ := hI
  have htr : TR T M := htr0
  have hx : T x = some d := hx0
  have hk : d.kids = l1 ++ z :: l2 := hk0
  have hz : T z = some e := hz0
  have hzx : z ≠ x := hzx0
  have hp : 0 < a ∧ a < e.edge.size := hp0
  have hln : d.kids.length ≤ 256 := hln0
  clear htr0 hx0 hk0 hz0 hzx0 hp0 hln0 hR
  have hkl : d.kids.length = l1.length + l2.length + 1 := by rw [hk, List.length_append, List.length_cons]; omega
  obtain ⟨r, C, hdp, hM, hcl, hcC⟩ : ∃ r C, d.p = some r ∧ M r = some (d.kids, C) ∧ d.kids.length ≤ d.c ∧ d.c ≤ C := by
    rcases htr.row x d hx with ⟨_, h2, _⟩ | g
    · rw [h2] at hkl; simp at hkl
    · exact g
  have ei := zero_add_toNat l1.length
  have hgz : d.kids.getD l1.length 0 = z := by
    rw [hk, List.getD_eq_getElem?_getD, List.getElem?_append_right (Nat.le_refl _), Nat.sub_self]
    rfl
  have w1 : IntKind.i64.wrap ((l1.length : Int) + 1) = ((l1.length + 1 : Nat) : Int) := by rw [wrap_id (by omega) (by omega)]; rfl
  show bodyP _ _ _ _ _ [.ap 0 x 0, i64 l1.length, i64 a] ⟨2, Tr.ofL 0 (objsT _root_.id T M) .leaf⟩ _
  (conv => whnf)
  refine ⟨ndL 1 d, by show (T x).map (ndL 1) = _; rw [hx]; rfl, ?_⟩
  (conv => whnf)
  refine ⟨by show (0 : Int) ≤ (l1.length : Int); omega, by show (l1.length : Int) < (d.kids.length : Int); omega, r, 0, by show d.p.map (fun b => (b, 0)) = _; rw [hdp]; rfl, ?_⟩
  (conv => whnf)
  refine ⟨d.kids.length, C, fun q => [.ap 0 (d.kids.getD q 0) 0], by show (M r).map (rwN 0) = _; rw [hM]; rfl, by show 0 + (l1.length : Int).toNat < d.kids.length; rw [ei]; omega, ?_⟩
  (conv => whnf)
  rw [ei, hgz]
  refine ⟨ndL 1 e, by show (T z).map (ndL 1) = _; rw [hz]; rfl, ?_⟩
  (conv => whnf)
  refine ⟨by show (0 : Int) ≤ (a : Int); omega, Nat.zero_le _, by show (a : Int).toNat ≤ e.edge.size; rw [Int.toNat_natCast]; omega, ?_⟩
  (conv => whnf)
  rw [Int.toNat_natCast a]
  refine .inr ⟨1, ?_⟩
  (conv => whnf)
  intro r1 C1 hC1 hr1
  have hr1 : M r1 = none := by simpa using hr1
  refine ⟨fun q => (setM M r1 ([z], C1) q).map (rwN 0), fun q => [.ap 0 ([z].getD q 0) 0], ⟨?_, ?_, ?_⟩, ?_⟩
  · show (setM M r1 ([z], C1) r1).map (rwN 0) = _
    rw [setM_same]
    rfl
  · intro q hq
    obtain rfl : q = 0 := by omega
    rfl
  · intro q hq
    show (setM M r1 ([z], C1) q).map (rwN 0) = (M q).map (rwN 0)
    rw [setM_ne hq]
  (conv => whnf)
  obtain ⟨md, hmd⟩ : ∃ md, md = splM ⟨T, M, x, d, l1, z, l2, e, a⟩ (some r1) C1 := ⟨_, rfl⟩
  refine ⟨0, ndL 1 md, by rw [hmd]; exact ⟨rfl, rfl, rfl, trivial⟩, ?_⟩
  (conv => whnf)
  intro y hy
  have hy : T y = none := by simpa using hy
  have hzy : z ≠ y := fun q => by rw [q, hy] at hz; cases hz
  have hxy : x ≠ y := fun q => by rw [q, hy] at hx; cases hx
  refine ⟨fun b => (setM T y md b).map (ndL 1), ⟨?_, ?_⟩, ?_⟩
  · show (setM T y md y).map (ndL 1) = _
    rw [setM_same]
    rfl
  · intro q hq
    show (setM T y md q).map (ndL 1) = (T q).map (ndL 1)
    rw [setM_ne hq]
  (conv => whnf)
  refine ⟨ndL 1 e, by show (setM T y md z).map (ndL 1) = _; rw [setM_ne hzy, hz]; rfl, ?_⟩
  (conv => whnf)
  refine ⟨by show (0 : Int) ≤ (a : Int); omega, by show (a : Int).toNat ≤ e.edge.size; rw [Int.toNat_natCast]; omega, by show e.edge.size ≤ e.edge.size; omega, ?_⟩
  (conv => whnf)
  rw [Int.toNat_natCast a]
  obtain ⟨lw, hlw⟩ : ∃ lw, lw = { e with edge := substr e.edge a e.edge.size } := ⟨_, rfl⟩
  refine ⟨ndL 1 e, by show (setM T y md z).map (ndL 1) = _; rw [setM_ne hzy, hz]; rfl, ?_⟩
  (conv => whnf)
  refine ⟨fun b => (setM (setM T y md) z lw b).map (ndL 1), ⟨?_, ?_⟩, ?_⟩
  · show (setM (setM T y md) z lw z).map (ndL 1) = _
    rw [setM_same, hlw]
    rfl
  · intro q hq
    show (setM (setM T y md) z lw q).map (ndL 1) = (setM T y md q).map (ndL 1)
    rw [setM_ne hq]
  have hx3 : setM (setM T y md) z lw x = some d := by rw [setM_ne hzx.symm, setM_ne hxy, hx]
  (conv => whnf)
  refine ⟨ndL 1 d, by show (setM (setM T y md) z lw x).map (ndL 1) = _; rw [hx3]; rfl, ?_⟩
  (conv => whnf)
  refine ⟨by show (0 : Int) ≤ (l1.length : Int); omega, ?_⟩
  (conv => whnf)
  refine ⟨by show (0 : Int) ≤ (l1.length : Int); omega, ?_⟩
  (conv => whnf)
  refine ⟨Nat.zero_le _, Nat.le_refl _, by rw [Int.toNat_natCast]; show l1.length ≤ d.c; omega, ?_⟩
  (conv => whnf)
  refine ⟨ndL 1 d, by show (setM (setM T y md) z lw x).map (ndL 1) = _; rw [hx3]; rfl, ?_⟩
  (conv => whnf)
  rw [w1, Int.toNat_natCast l1.length]
  refine ⟨by show (0 : Int) ≤ ((l1.length + 1 : Nat) : Int); omega, by show ((l1.length + 1 : Nat) : Int).toNat ≤ d.kids.length; rw [Int.toNat_natCast]; omega, hcl, ?_⟩
  (conv => whnf)
  rw [Int.toNat_natCast (l1.length + 1)]
  refine .inl ?_
  (conv => whnf)
  (repeat (first | refine And.intro rfl ?_ | fail))
  (conv => whnf)
  refine ⟨by show 0 + 1 ≤ 1; omega, by show (l1.length - 0 + 1) * (8 + 1) ≤ 1000000000; omega, by show l1.length - 0 ≤ l1.length - 0; omega, 1, fun q => [.ap 0 ((l1 ++ [y]).getD q 0) 0], ?_⟩
  (conv => whnf)
  have hrr1 : r ≠ r1 := fun q => by rw [q, hr1] at hM; cases hM
  have hg1 : ∀ q, q < l1.length → (l1 ++ [y]).getD q 0 = d.kids.getD q 0 := fun q hq => by
    rw [hk, List.getD_eq_getElem?_getD, List.getD_eq_getElem?_getD, List.getElem?_append_left hq, List.getElem?_append_left hq]
  have hg2 : (l1 ++ [y]).getD l1.length 0 = y := by
    rw [List.getD_eq_getElem?_getD, List.getElem?_append_right (Nat.le_refl _), Nat.sub_self]
    rfl
  have hg3 : ∀ q, q < l2.length → d.kids.getD (l1.length + 1 + q) 0 = l2.getD q 0 := fun q hq => by
    rw [hk, List.getD_eq_getElem?_getD, List.getD_eq_getElem?_getD, List.getElem?_append_right (by omega), show l1.length + 1 + q - l1.length = q + 1 by omega, List.getElem?_cons_succ]
  have hg4 : ∀ q, q < l1.length + 1 → (l1 ++ y :: l2).getD q 0 = (l1 ++ [y]).getD q 0 := fun q hq => by
    rw [show l1 ++ y :: l2 = (l1 ++ [y]) ++ l2 by simp, List.getD_eq_getElem?_getD, List.getD_eq_getElem?_getD, List.getElem?_append_left (by rw [List.length_append]; exact hq)]
  have hg5 : ∀ q, q < l2.length → (l1 ++ y :: l2).getD (l1.length + 1 + q) 0 = l2.getD q 0 := fun q hq => by
    rw [List.getD_eq_getElem?_getD, List.getD_eq_getElem?_getD, List.getElem?_append_right (by omega), show l1.length + 1 + q - l1.length = q + 1 by omega, List.getElem?_cons_succ]
  refine ⟨?_, fun q hq => ?_, fun hh => absurd hh (by decide), fun _ r2 c2 C2 hc2 hC2 hr2 => ?_⟩
  · rcases Nat.eq_zero_or_pos l1.length with g | g
    · exact .inl ⟨by omega, by omega⟩
    · refine .inr ⟨rfl, r, d.kids.length, C, fun q => [.ap 0 (d.kids.getD q 0) 0], by rw [if_neg (by omega), hdp]; rfl, by show (setM M r1 ([z], C1) r).map (rwN 0) = _; rw [setM_ne hrr1, hM]; rfl, by omega, by omega, fun q hq => ?_⟩
      show ([V.ap 0 ((l1 ++ [y]).getD q 0) 0] : List V) = [V.ap 0 (d.kids.getD q 0) 0]
      rw [hg1 q (by omega)]
  · obtain rfl : q = 0 := by omega
    show ([V.ap 0 ((l1 ++ [y]).getD (l1.length - 0 + 0) 0) 0] : List V) = [V.ap 0 y 0]
    rw [show l1.length - 0 + 0 = l1.length by omega, hg2]
  have hr2 : setM M r1 ([z], C1) r2 = none := by
    rcases appOld hr2 with g | ⟨_, _, g⟩
    · simpa using g
    · omega
  have hr21 : r2 ≠ r1 := fun q => by rw [q, setM_same] at hr2; cases hr2
  have hMr2 : M r2 = none := by rwa [setM_ne hr21] at hr2
  have hrr2 : r ≠ r2 := fun q => by rw [q, hMr2] at hM; cases hM
  obtain ⟨M2, hM2⟩ : ∃ M2, M2 = setM (setM M r1 ([z], C1)) r2 (l1 ++ [y], C2) := ⟨_, rfl⟩
  have hM2r : M2 r = some (d.kids, C) := by rw [hM2, setM_ne hrr2, setM_ne hrr1, hM]
  have hM2r2 : M2 r2 = some (l1 ++ [y], C2) := by rw [hM2, setM_same]
  have hT1 : TR (setM (setM T y md) z lw) (setM M r1 ([z], C1)) := by
    have h1 := htr.set (b := y) (r := r1) (C := C1) (d' := md) (by rw [hmd]; rfl) (by rw [hmd]; show 1 ≤ C1; exact hC1) (by rw [hmd]; exact Nat.le_refl _) (.inl hr1)
    rw [show md.kids = [z] by rw [hmd]; rfl] at h1
    exact h1.setN (d := e) (by rw [setM_ne hzy, hz]) (by rw [hlw]) (by rw [hlw]) (by rw [hlw])
  refine ⟨fun q => (M2 q).map (rwN 0), ⟨?_, ?_⟩, ?_⟩
  · show (M2 r2).map (rwN 0) = _
    rw [hM2r2]
    show some ((l1 ++ [y]).length, C2, _) = some (l1.length - 0 + 1, C2, _)
    rw [List.length_append]
    rfl
  · intro q hq
    show (M2 q).map (rwN 0) = (setM M r1 ([z], C1) q).map (rwN 0)
    rw [hM2, setM_ne hq]
  (conv => whnf)
  (repeat (first | refine And.intro rfl ?_ | fail))
  (conv => whnf)
  refine ⟨fun q => [.ap 0 (l2.getD q 0) 0], ?_, by show (l1.length - 0 + 1 + (d.kids.length - (l1.length + 1))) * (8 + 1) ≤ 1000000000; omega, hc2, 1, fun q => [.ap 0 ((l1 ++ y :: l2).getD q 0) 0], ?_⟩
  · rcases Nat.eq_zero_or_pos l2.length with g | g
    · exact .inl (by omega)
    · refine .inr ⟨r, 0 + (l1.length + 1), d.kids.length, C, fun q => [.ap 0 (d.kids.getD q 0) 0], by rw [if_neg (by omega), hdp]; rfl, by show (M2 r).map (rwN 0) = _; rw [hM2r]; rfl, by omega, fun q hq => ?_⟩
      show ([V.ap 0 (l2.getD q 0) 0] : List V) = [V.ap 0 (d.kids.getD (0 + (l1.length + 1) + q) 0) 0]
      rw [show 0 + (l1.length + 1) + q = l1.length + 1 + q by omega, hg3 q (by omega)]
  (conv => whnf)
  refine ⟨.inr ⟨rfl, r2, (l1 ++ [y]).length, C2, fun q => [.ap 0 ((l1 ++ [y]).getD q 0) 0], rfl, by show (M2 r2).map (rwN 0) = _; rw [hM2r2]; rfl, by rw [List.length_append]; show l1.length - 0 + 1 ≤ l1.length + 1; omega, hC2, fun q hq => ?_⟩, fun q hq => ?_, fun hm => ?_, fun hm r3 c3 C3 hc3 hC3 hr3 => ?_⟩
  · show ([V.ap 0 ((l1 ++ y :: l2).getD q 0) 0] : List V) = [V.ap 0 ((l1 ++ [y]).getD q 0) 0]
    rw [hg4 q (by omega)]
  · show ([V.ap 0 ((l1 ++ y :: l2).getD (l1.length - 0 + 1 + q) 0) 0] : List V) = [V.ap 0 (l2.getD q 0) 0]
    rw [show l1.length - 0 + 1 + q = l1.length + 1 + q by omega, hg5 q (by omega)]
  · obtain rfl : l2 = [] := List.eq_nil_of_length_eq_zero (by omega)
    obtain ⟨dx, hdx⟩ : ∃ dx : Nd, dx = { d with kids := l1 ++ [y], p := some r2, c := c2 } := ⟨_, rfl⟩
    have hT2 := hT1.set (b := x) (r := r2) (C := C2) (d' := dx) (by rw [hdx]) (by rw [hdx]; show (l1 ++ [y]).length ≤ c2; rw [List.length_append]; show l1.length + 1 ≤ c2; omega) (by rw [hdx]; exact hC2) (.inl hr2)
    rw [show dx.kids = l1 ++ [y] by rw [hdx], ← hM2, hdx, hlw, hmd] at hT2
    have hF := hQ y (some r1) C1 (some r2) c2 M2 hy hT2
    (conv => whnf)
    (repeat (first | refine And.intro rfl ?_ | fail))
    (conv => whnf)
    refine ⟨ndL 1 d, by show (setM (setM T y md) z lw x).map (ndL 1) = _; rw [hx3]; rfl, ?_⟩
    (conv => whnf)
    refine ⟨fun b => (setM (setM (setM T y md) z lw) x dx b).map (ndL 1), ⟨?_, ?_⟩, ?_⟩
    · show (setM (setM (setM T y md) z lw) x dx x).map (ndL 1) = _
      rw [setM_same, hdx]
      show some [V.str d.edge, u64 d.n, pS 1 (some r2) (l1 ++ [y]).length c2] = some [V.str d.edge, u64 d.n, .asl 1 (some (r2, 0)) 1 (l1.length - 0 + 1) c2]
      rw [List.length_append]
      rfl
    · intro q hq
      show (setM (setM (setM T y md) z lw) x dx q).map (ndL 1) = (setM (setM T y md) z lw q).map (ndL 1)
      rw [setM_ne hq]
    rw [hdx, hlw, hmd]
    (conv => whnf)
    (repeat (first | refine And.intro rfl ?_ | fail))
    (conv => whnf)
    refine ⟨[], _, _, hF, ?_⟩
    (repeat' (first | exact True.intro | rfl | assumption | exact tn_ok rfl | exact tr_ok rfl | exact fun _ => rfl | (refine And.intro ?_ ?_) | (intro _ _; rfl) | ((conv => whnf); (first | exact True.intro | (refine And.intro ?_ ?_)))))
  · have hlen' : (l1 ++ y :: l2).length = l1.length - 0 + 1 + (d.kids.length - (l1.length + 1)) := by rw [List.length_append, List.length_cons]; omega
    obtain ⟨dx, hdx⟩ : ∃ dx : Nd, dx = { d with kids := l1 ++ y :: l2, p := some r3, c := c3 } := ⟨_, rfl⟩
    have hr3' : M2 r3 = none ∨ r3 = r2 := by
      rcases appOld hr3 with g | ⟨_, g, _⟩
      · exact .inl (by simpa using g)
      · cases g; exact .inr rfl
    have hT2 : TR (setM (setM (setM T y md) z lw) x dx) (setM M2 r3 (l1 ++ y :: l2, C3)) := by
      have hc : dx.kids.length ≤ dx.c := by rw [hdx]; show (l1 ++ y :: l2).length ≤ c3; omega
      have hc2' : dx.c ≤ C3 := by rw [hdx]; exact hC3
      have hk' : dx.kids = l1 ++ y :: l2 := by rw [hdx]
      rcases hr3' with g | rfl
      · have h2 := (hT1.extra hr2 (l1 ++ [y], C2))
        rw [← hM2] at h2
        have := h2.set (b := x) (r := r3) (C := C3) (d' := dx) (by rw [hdx]) hc hc2' (.inl g)
        rwa [hk'] at this
      · have := hT1.set (b := x) (r := r3) (C := C3) (d' := dx) (by rw [hdx]) hc hc2' (.inl hr2)
        rw [hk'] at this
        have e : setM M2 r3 (l1 ++ y :: l2, C3) = setM (setM M r1 ([z], C1)) r3 (l1 ++ y :: l2, C3) := by
          funext q
          by_cases hq : q = r3
          · rw [hq, setM_same, setM_same]
          · rw [setM_ne hq, setM_ne hq, hM2, setM_ne hq]
        rw [e]
        exact this
    rw [hdx, hlw, hmd] at hT2
    have hF := hQ y (some r1) C1 (some r3) c3 _ hy hT2
    refine ⟨fun q => (setM M2 r3 (l1 ++ y :: l2, C3) q).map (rwN 0), ⟨?_, ?_⟩, ?_⟩
    · show (setM M2 r3 (l1 ++ y :: l2, C3) r3).map (rwN 0) = _
      rw [setM_same]
      show some ((l1 ++ y :: l2).length, C3, _) = some (l1.length - 0 + 1 + (d.kids.length - (l1.length + 1)), C3, _)
      rw [hlen']
    · intro q hq
      show (setM M2 r3 (l1 ++ y :: l2, C3) q).map (rwN 0) = (M2 q).map (rwN 0)
      rw [setM_ne hq]
    (conv => whnf)
    (repeat (first | refine And.intro rfl ?_ | fail))
    (conv => whnf)
    refine ⟨ndL 1 d, by show (setM (setM T y md) z lw x).map (ndL 1) = _; rw [hx3]; rfl, ?_⟩
    (conv => whnf)
    refine ⟨fun b => (setM (setM (setM T y md) z lw) x dx b).map (ndL 1), ⟨?_, ?_⟩, ?_⟩
    · show (setM (setM (setM T y md) z lw) x dx x).map (ndL 1) = _
      rw [setM_same, hdx]
      show some [V.str d.edge, u64 d.n, pS 1 (some r3) (l1 ++ y :: l2).length c3] = some [V.str d.edge, u64 d.n, .asl 1 (some (r3, 0)) 1 (l1.length - 0 + 1 + (d.kids.length - (l1.length + 1))) c3]
      rw [hlen']
      rfl
    · intro q hq
      show (setM (setM (setM T y md) z lw) x dx q).map (ndL 1) = (setM (setM T y md) z lw q).map (ndL 1)
      rw [setM_ne hq]
    rw [hdx, hlw, hmd]
    (conv => whnf)
    (repeat (first | refine And.intro rfl ?_ | fail))
    (conv => whnf)
    refine ⟨[], _, _, hF, ?_⟩
    (repeat' (first | exact True.intro | rfl | assumption | exact tn_ok rfl | exact tr_ok rfl | exact fun _ => rfl | (refine And.intro ?_ ?_) | (intro _ _; rfl) | ((conv => whnf); (first | exact True.intro | (refine And.intro ?_ ?_)))))
end Go.Proofs.Ytagpkejbbmpcgaa
