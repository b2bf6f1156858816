/- What the functions of package graph compute: New, Len; and those of the law: name, adds, reaches, lens. -/
import Derived.Test.YtmgcpfljhcahoaaGrPrg7
import Derived.Test.YtmgcpfljhcahoaaSyB
namespace Go.Proofs.Ytmgcpfljhcahoaa
open Go Sy Tb Gr
set_option maxRecDepth 100000
set_option maxHeartbeats 2000000

def m1e : Nat → Option ND := fun _ => none
def m2e : RowsM := fun _ => none
theorem GU.new {N E seed : Int} (hN : 1 ≤ N) (hs : 0 ≤ seed ∧ seed < 18446744073709551616) : GU ⟨N, E, seed, fun _ => 0, m1e, m2e, [], 8, fun _ => 0, 0, 0⟩ := by
  refine ⟨⟨HT.empty (by show 0 < 8; omega) fun i hi => absurd hi (Nat.not_lt_zero i), ⟨fun _ => 0, fun _ => 0, fun j hj => absurd hj (Nat.not_lt_zero j)⟩, hs, Nat.le_refl _, by show 8 ≤ 100000; omega, Nat.zero_le _, by show 8 % 2 = 0; decide⟩, ⟨fun _ i hi => absurd hi (Nat.not_lt_zero i), fun _ i hi => absurd hi (Nat.not_lt_zero i)⟩, hN, ⟨Int.le_refl 0, by show (0 : Int) < 1000000000000; omega⟩, fun j hj => absurd hj (Nat.not_lt_zero j), fun j hj => absurd hj (Nat.not_lt_zero j), Nat.zero_le _⟩
theorem Gr.PU.new : PU [] := ⟨fun _ i hi => absurd hi (Nat.not_lt_zero i), fun _ i hi => absurd hi (Nat.not_lt_zero i), fun i hi => absurd hi (Nat.not_lt_zero i), fun i _ hi => absurd hi (Nat.not_lt_zero i), fun i _ hi => absurd hi (Nat.not_lt_zero i)⟩
def SNew : LSpec where
  X := Int × Int × Int
  k := 0
  pre x := (1 ≤ x.1 ∧ x.1 ≤ 65536) ∧ (1 ≤ x.2.1 ∧ x.2.1 ≤ 65536)
  args x _ := [i64 x.1, i64 x.2.1, u64 x.2.2]
  objs _ _ := []
  out x θ R := R (.tup [.ptr (θ 0) 0, i64 0]) [some (grC (θ 1) (θ 2) x.1 x.2.1 x.2.2 0 8 0 0), some (lsR (θ 3) 0 fun _ => 0), some (ceR 8 fun _ => 0), some (mcO (θ 4) m1e), some (mrO m2e)]
theorem SNew_nt : SNew.Nt := ⟨fun _ _ => rfl, fun _ _ => rfl, by unfold SNew; (intros; simp only [ren_all] at *; try assumption)⟩
theorem SNew_ok : SNew.Ok Try.prog 9 := by
  refine LSpec.of_body noGo mixed conOf_nil Try.func9 rfl (by kernel_rfl) fun ⟨N, E, seed⟩ R ⟨⟨h1, h2⟩, h3, h4⟩ hR => ?_
  have h1 : 1 ≤ N := h1
  have h2 : N ≤ 65536 := h2
  have h3 : 1 ≤ E := h3
  have h4 : E ≤ 65536 := h4
  have hQ : R (.tup [.ptr 0 0, i64 0]) [some (grC 1 2 N E seed 0 8 0 0), some (lsR 3 0 fun _ => 0), some (ceR 8 fun _ => 0), some (mcO 4 m1e), some (mrO m2e)] := hR
  (conv => whnf)
  refine ⟨fun _ => ?_, fun hh => absurd (show N < 1 from of_decide_eq_true hh) (by omega)⟩
  (conv => whnf)
  refine ⟨fun _ => ?_, fun hh => absurd (show 65536 < N from of_decide_eq_true hh) (by omega)⟩
  (conv => whnf)
  refine ⟨fun _ => ?_, fun hh => absurd (show E < 1 from of_decide_eq_true hh) (by omega)⟩
  (conv => whnf)
  refine ⟨fun hh => absurd (show 65536 < E from of_decide_eq_true hh) (by omega), fun _ => ?_⟩
  (conv => whnf)
  refine ⟨by decide, by decide, by decide, ?_⟩
  (conv => whnf)
  refine ⟨[some 1, none, some 0, none, none], _, _, hQ, ?_⟩
  (repeat' (first | exact True.intro | rfl | assumption | exact mc_ok rfl | exact mr_ok | exact fun _ => rfl | (refine And.intro ?_ ?_) | (intro _ _; rfl) | ((conv => whnf); (first | exact True.intro | (refine And.intro ?_ ?_)))))
theorem conLn : ConOk Try.prog (conOf [(46, inl Try.prog (conOf []) Try.f46)]) := conOf_cons (inl_ok noGo mixed conOf_nil Try.func46 (by kernel_rfl)) conOf_nil
def SLen : LSpec where
  X := GG
  k := 5
  pre x := 1 ≤ x.N
  args _ θ := [.ptr (θ 0) 0]
  objs x θ := x.objs θ
  out x θ R := R (.tup [i64 x.ns.length, i64 x.lk]) (x.all θ)
theorem SLen_nt : SLen.Nt := ⟨fun _ _ => rfl, by unfold SLen GG.objs; (intros; simp only [ren_all] at *; try assumption), by unfold SLen GG.all; (intros; simp only [ren_all] at *; try assumption)⟩
theorem SLen_ok : SLen.Ok Try.prog 42 := by
  refine LSpec.of_body noGo mixed conLn Try.func42 rfl (by kernel_rfl) fun g R hN hR => ?_
  have hN : 1 ≤ g.N := hN
  have hQ : R (.tup [i64 g.ns.length, i64 g.lk]) (g.all _root_.id) := hR
  (conv => whnf)
  refine ⟨fun hh => absurd (show decide (g.N = 0) = true from hh) (by rw [decide_eq_false (by omega)]; decide), fun _ => ?_⟩
  (conv => whnf)
  refine ⟨[], _, _, hQ, ?_⟩
  (repeat' (first | exact True.intro | rfl | assumption | exact mc_ok rfl | exact mr_ok | exact fun _ => rfl | (refine And.intro ?_ ?_) | (intro _ _; rfl) | ((conv => whnf); (first | exact True.intro | (refine And.intro ?_ ?_)))))

/-! The law's own functions -/
def nm (n : Nat) : Bs := ⟨#[107]⟩ ++ strB [48 + ((n / 100 % 10 : Nat) : Int), 48 + ((n / 10 % 10 : Nat) : Int), 48 + ((n % 10 : Nat) : Int)]
theorem strB3 (a b c : Int) : (strB [a, b, c]).size = 3 := rfl
theorem nm_size (n : Nat) : (nm n).size = 4 := by
  unfold nm
  rw [ByteArray.size_append, strB3]
  rfl
theorem u8_in {n : Nat} (h : n < 10) : IntKind.u8.wrap (IntKind.i64.wrap (48 + (n : Int))) = 48 + (n : Int) := by
  rw [wrap_id (by omega) (by omega)]
  unfold IntKind.wrap
  simp only [IntKind.bits, IntKind.signed, Bool.false_and, Bool.false_eq_true, if_false]
  omega
def SName : LSpec where
  X := Nat
  k := 0
  pre x := Nat.lt x 1000
  args x _ := [i64 x]
  objs _ _ := []
  out x _ R := R (.str (nm x)) []
theorem SName_nt : SName.Nt := ⟨fun _ _ => rfl, fun _ _ => rfl, fun _ _ _ h => h⟩
theorem SName_ok : SName.Ok Try.prog 19 := by
  refine LSpec.of_body noGo mixed conOf_nil Try.func19 rfl (by kernel_rfl) fun (n : Nat) R hn hR => ?_
  have hn : n < 1000 := hn
  have hQ : R (.str (nm n)) [] := hR
  (conv => whnf)
  refine ⟨by decide, ?_⟩
  (conv => whnf)
  refine ⟨by decide, ?_⟩
  (conv => whnf)
  refine ⟨by decide, ?_⟩
  (conv => whnf)
  refine ⟨by decide, ?_⟩
  (conv => whnf)
  refine ⟨by decide, ?_⟩
  (conv => whnf)
  refine ⟨by decide, [48 + ((n / 100 % 10 : Nat) : Int), 48 + ((n / 10 % 10 : Nat) : Int), 48 + ((n % 10 : Nat) : Int)], rfl, fun j hj => ?_, ?_⟩
  · have q1 : (IntKind.i64.wrap ((n : Int).tdiv 100)).tmod 10 = ((n / 100 % 10 : Nat) : Int) := by
      rw [Int.tdiv_eq_ediv_of_nonneg (by omega), wrap_id (by omega) (by omega), Int.tmod_eq_emod_of_nonneg (by omega)]; omega
    have q2 : (IntKind.i64.wrap ((n : Int).tdiv 10)).tmod 10 = ((n / 10 % 10 : Nat) : Int) := by
      rw [Int.tdiv_eq_ediv_of_nonneg (by omega), wrap_id (by omega) (by omega), Int.tmod_eq_emod_of_nonneg (by omega)]; omega
    have q3 : (n : Int).tmod 10 = ((n % 10 : Nat) : Int) := by rw [Int.tmod_eq_emod_of_nonneg (by omega)]; omega
    rw [q1, q2, q3, u8_in (by omega), u8_in (by omega), u8_in (by omega)]
    obtain rfl | rfl | rfl : j = 0 ∨ j = 1 ∨ j = 2 := by omega
    · rfl
    · rfl
    · rfl
  (conv => whnf)
  refine ⟨by rw [strB3]; decide, ?_⟩
  (conv => whnf)
  refine ⟨[], _, _, hQ, ?_⟩
  (repeat' (first | exact True.intro | rfl | assumption | exact mc_ok rfl | exact mr_ok | exact fun _ => rfl | (refine And.intro ?_ ?_) | (intro _ _; rfl) | ((conv => whnf); (first | exact True.intro | (refine And.intro ?_ ?_)))))
theorem conLA : ConOk Try.prog (conOf [(21, SAdd.T)]) := conOf_cons (LSpec.call SAdd_nt SAdd_ok) conOf_nil
/-- adds says yes. -/
def SLAdd : LSpec where
  X := GG × Bs × Bs × Bool × Int
  k := 5
  pre x := GW x.1 ∧ x.2.1.size ≤ 1000000 ∧ x.2.2.1.size ≤ 1000000 ∧ addR x.1.N x.1.E x.1.lk x.1.ns x.2.1 x.2.2.1 = x.2.2.2
  args x θ := [.ptr (θ 0) 0, .str x.2.1, .str x.2.2.1, .sb x.2.2.2.1, i64 x.2.2.2.2]
  objs x θ := x.1.objs θ
  out x θ R := ∀ adr M1 M2 ns m C sr, SameE (nsA x.1.N x.1.E x.1.lk x.1.ns x.2.1 x.2.2.1) ns → sr ≤ x.1.sr + 1 → GU ⟨x.1.N, x.1.E, x.1.seed, adr, M1, M2, ns, m, C, lkA x.1.N x.1.E x.1.lk x.1.ns x.2.1 x.2.2.1, sr⟩ →
    R (.sb true) [some (grC (θ 5) (θ 6) x.1.N x.1.E x.1.seed ns.length m (lkA x.1.N x.1.E x.1.lk x.1.ns x.2.1 x.2.2.1) sr), none, none, some (mcO (θ 4) M1), some (mrO M2), some (lsR (θ 3) ns.length adr), some (ceR m C)]
theorem SLAdd_nt : SLAdd.Nt := ⟨fun _ _ => rfl, by unfold SLAdd GG.objs; (intros; simp only [ren_all] at *; try assumption), by unfold SLAdd; (intros; simp only [ren_all] at *; try assumption)⟩
theorem SLAdd_ok : SLAdd.Ok Try.prog 18 := by
  refine LSpec.of_body noGo mixed conLA Try.func18 rfl (by kernel_rfl) fun ⟨g, p, c, b, e⟩ R ⟨hW, hp, hc, he⟩ hR => ?_
  have hW : GW g := hW
  have he : addR g.N g.E g.lk g.ns p c = (b, e) := he
  have hQ : ∀ adr M1 M2 ns m C sr, SameE (nsA g.N g.E g.lk g.ns p c) ns → sr ≤ g.sr + 1 → GU ⟨g.N, g.E, g.seed, adr, M1, M2, ns, m, C, lkA g.N g.E g.lk g.ns p c, sr⟩ →
    R (.sb true) [some (grC 5 6 g.N g.E g.seed ns.length m (lkA g.N g.E g.lk g.ns p c) sr), none, none, some (mcO 4 M1), some (mrO M2), some (lsR 3 ns.length adr), some (ceR m C)] := hR
  (conv => whnf)
  refine ⟨(g, p, c), [0, 1, 2, 3, 4], ⟨hW, hp, hc⟩, rfl, by (repeat' (first | exact True.intro | rfl | assumption | exact mc_ok rfl | exact mr_ok | exact fun _ => rfl | (refine And.intro ?_ ?_) | (intro _ _; rfl) | ((conv => whnf); (first | exact True.intro | (refine And.intro ?_ ?_))))), by (repeat' (first | exact True.intro | rfl | assumption | exact mc_ok rfl | exact mr_ok | exact fun _ => rfl | (refine And.intro ?_ ?_) | (intro _ _; rfl) | ((conv => whnf); (first | exact True.intro | (refine And.intro ?_ ?_))))), fun adr M1 M2 ns m C sr h1 h2 h3 => ?_⟩
  have hRR := hQ adr M1 M2 ns m C sr h1 h2 h3
  have e1 : (addR g.N g.E g.lk g.ns p c).1 = b := by rw [he]
  have e2 : (addR g.N g.E g.lk g.ns p c).2 = e := by rw [he]
  (conv => whnf)
  refine ⟨fun _ => ?_, fun hh => ?_⟩
  · (conv => whnf)
    refine ⟨[some 5, some 6], _, _, hRR, ?_⟩
    (repeat' (first | exact True.intro | rfl | assumption | exact mc_ok rfl | exact mr_ok | exact fun _ => rfl | (refine And.intro ?_ ?_) | (intro _ _; rfl) | ((conv => whnf); (first | exact True.intro | (refine And.intro ?_ ?_)))))
    all_goals (show true = decide ((addR g.N g.E g.lk g.ns p c).2 = e); rw [e2]; simp)
  · have hh : (((addR g.N g.E g.lk g.ns p c).1 == b) == true) = false := hh
    rw [e1] at hh
    simp at hh
theorem conLR : ConOk Try.prog (conOf [(29, SReach.T)]) := conOf_cons (LSpec.call SReach_nt SReach_ok) conOf_nil
/-- reaches says yes. -/
def SLReach : LSpec where
  X := GG × Bs × Bs × Int × Bool × Int × Int
  k := 5
  pre x := (GU x.1 ∧ x.1.sr < 1000000000) ∧ x.2.1.size ≤ 1000000 ∧ x.2.2.1.size ≤ 1000000 ∧ reachR x.1.ns x.2.1 x.2.2.1 x.2.2.2.1 = x.2.2.2.2
  args x θ := [.ptr (θ 0) 0, .str x.2.1, .str x.2.2.1, i64 x.2.2.2.1, .sb x.2.2.2.2.1, i64 x.2.2.2.2.2.1, i64 x.2.2.2.2.2.2]
  objs x θ := x.1.objs θ
  out x θ R := ∀ M1 ns sr, SameE x.1.ns ns → sr ≤ x.1.sr + 1 → GU { x.1 with M1 := M1, ns := ns, sr := sr } → R (.sb true) (({ x.1 with M1 := M1, ns := ns, sr := sr } : GG).all θ)
theorem SLReach_nt : SLReach.Nt := ⟨fun _ _ => rfl, by unfold SLReach GG.objs; (intros; simp only [ren_all] at *; try assumption), by unfold SLReach GG.all; (intros; simp only [ren_all] at *; try assumption)⟩
theorem SLReach_ok : SLReach.Ok Try.prog 16 := by
  refine LSpec.of_body noGo mixed conLR Try.func16 rfl (by kernel_rfl) fun ⟨g, a, c, most, b, n, e⟩ R ⟨⟨hU, hs⟩, ha, hc, he⟩ hR => ?_
  have hU : GU g := hU
  have hs : g.sr < 1000000000 := hs
  have he : reachR g.ns a c most = (b, n, e) := he
  have hQ : ∀ M1 ns sr, SameE g.ns ns → sr ≤ g.sr + 1 → GU { g with M1 := M1, ns := ns, sr := sr } → R (.sb true) (({ g with M1 := M1, ns := ns, sr := sr } : GG).all _root_.id) := hR
  (conv => whnf)
  refine ⟨(g, a, c, most), [0, 1, 2, 3, 4], ⟨hU, ha, hc⟩, rfl, by (repeat' (first | exact True.intro | rfl | assumption | exact mc_ok rfl | exact mr_ok | exact fun _ => rfl | (refine And.intro ?_ ?_) | (intro _ _; rfl) | ((conv => whnf); (first | exact True.intro | (refine And.intro ?_ ?_))))), by (repeat' (first | exact True.intro | rfl | assumption | exact mc_ok rfl | exact mr_ok | exact fun _ => rfl | (refine And.intro ?_ ?_) | (intro _ _; rfl) | ((conv => whnf); (first | exact True.intro | (refine And.intro ?_ ?_))))), fun M1 ns sr h1 h2 h3 => ?_⟩
  have h2 : sr ≤ g.sr + 1 := h2
  have hRR := hQ M1 ns sr h1 h2 (h3 (by omega))
  have e1 : (reachR g.ns a c most).1 = b := by rw [he]
  have e2 : (reachR g.ns a c most).2.1 = n := by rw [he]
  have e3 : (reachR g.ns a c most).2.2 = e := by rw [he]
  (conv => whnf)
  refine ⟨fun _ => ?_, fun hh => ?_⟩
  · (conv => whnf)
    refine ⟨fun _ => ?_, fun hh => ?_⟩
    · (conv => whnf)
      refine ⟨[], _, _, hRR, ?_⟩
      (repeat' (first | exact True.intro | rfl | assumption | exact mc_ok rfl | exact mr_ok | exact fun _ => rfl | (refine And.intro ?_ ?_) | (intro _ _; rfl) | ((conv => whnf); (first | exact True.intro | (refine And.intro ?_ ?_)))))
      all_goals (show true = decide ((reachR g.ns a c most).2.2 = e); rw [e3]; simp)
    · have hh : decide ((reachR g.ns a c most).2.1 = n) = false := hh
      rw [e2] at hh
      simp at hh
  · have hh : (((reachR g.ns a c most).1 == b) == true) = false := hh
    rw [e1] at hh
    simp at hh
theorem conLL : ConOk Try.prog (conOf [(42, SLen.T)]) := conOf_cons (LSpec.call SLen_nt SLen_ok) conOf_nil
/-- lens says yes. -/
def SLLen : LSpec where
  X := GG × Int × Int
  k := 5
  pre x := 1 ≤ x.1.N ∧ (x.1.ns.length : Int) = x.2.1 ∧ x.1.lk = x.2.2
  args x θ := [.ptr (θ 0) 0, i64 x.2.1, i64 x.2.2]
  objs x θ := x.1.objs θ
  out x θ R := R (.sb true) (x.1.all θ)
theorem SLLen_nt : SLLen.Nt := ⟨fun _ _ => rfl, by unfold SLLen GG.objs; (intros; simp only [ren_all] at *; try assumption), by unfold SLLen GG.all; (intros; simp only [ren_all] at *; try assumption)⟩
theorem SLLen_ok : SLLen.Ok Try.prog 20 := by
  refine LSpec.of_body noGo mixed conLL Try.func20 rfl (by kernel_rfl) fun ⟨g, n, k⟩ R ⟨hN, h1, h2⟩ hR => ?_
  have h1 : (g.ns.length : Int) = n := h1
  have h2 : g.lk = k := h2
  have hQ : R (.sb true) (g.all _root_.id) := hR
  (conv => whnf)
  refine ⟨g, [0, 1, 2, 3, 4], hN, rfl, by (repeat' (first | exact True.intro | rfl | assumption | exact mc_ok rfl | exact mr_ok | exact fun _ => rfl | (refine And.intro ?_ ?_) | (intro _ _; rfl) | ((conv => whnf); (first | exact True.intro | (refine And.intro ?_ ?_))))), by (repeat' (first | exact True.intro | rfl | assumption | exact mc_ok rfl | exact mr_ok | exact fun _ => rfl | (refine And.intro ?_ ?_) | (intro _ _; rfl) | ((conv => whnf); (first | exact True.intro | (refine And.intro ?_ ?_))))), ?_⟩
  (conv => whnf)
  refine ⟨fun _ => ?_, fun hh => ?_⟩
  · (conv => whnf)
    refine ⟨[], _, _, hQ, ?_⟩
    (repeat' (first | exact True.intro | rfl | assumption | exact mc_ok rfl | exact mr_ok | exact fun _ => rfl | (refine And.intro ?_ ?_) | (intro _ _; rfl) | ((conv => whnf); (first | exact True.intro | (refine And.intro ?_ ?_)))))
    all_goals (show true = decide (g.lk = k); rw [h2]; simp)
  · have hh : decide ((g.ns.length : Int) = n) = false := hh
    rw [h1] at hh
    simp at hh
end Go.Proofs.Ytmgcpfljhcahoaa
