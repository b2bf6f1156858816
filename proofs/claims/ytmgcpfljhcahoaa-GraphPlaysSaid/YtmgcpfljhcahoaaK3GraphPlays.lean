/- One text out of 2. -/
import Derived.Test.YtmgcpfljhcahoaaGrPrg7R
import Derived.Test.YtmgcpfljhcahoaaSyBR
section
namespace Go.Proofs.Ytmgcpfljhcahoaa
open Go Sy Tb Gr
set_option maxRecDepth 100000
set_option maxHeartbeats 2000000

def m1e : Nat → Option ND := fun _ => none
def m2e : RowsM := fun _ => none
theorem GU.new {N E seed : Int} (hN : 1 ≤ N) (hs : 0 ≤ seed ∧ seed < 18446744073709551616) : GU ⟨N, E, seed, fun _ => 0, m1e, m2e, [], 8, fun _ => 0, 0, 0⟩ := by
  refine ⟨⟨HT.empty (by show 0 < 8; omega) fun i hi => absurd hi (Nat.not_lt_zero i), ⟨fun _ => 0, fun _ => 0, fun j hj => absurd hj (Nat.not_lt_zero j)⟩, hs, Nat.le_refl _, by show 8 ≤ 100000; omega, Nat.zero_le _, by show 8 % 2 = 0; decide⟩, ⟨fun _ i hi => absurd hi (Nat.not_lt_zero i), fun _ i hi => absurd hi (Nat.not_lt_zero i)⟩, hN, ⟨Int.le_refl 0, by show (0 : Int) < 1000000000000; omega⟩, fun j hj => absurd hj (Nat.not_lt_zero j), fun j hj => absurd hj (Nat.not_lt_zero j), Nat.zero_le _⟩
theorem Gr.PU.new : PU [] := ⟨fun _ i hi => absurd hi (Nat.not_lt_zero i), fun _ i hi => absurd hi (Nat.not_lt_zero i), fun i hi => absurd hi (Nat.not_lt_zero i), fun i _ hi => absurd hi (Nat.not_lt_zero i), fun i _ hi => absurd hi (Nat.not_lt_zero i)⟩
def SNew : LSpec where
  X := Int × Int × Int
  k := 0
  pre x := (1 ≤ x.1 ∧ x.1 ≤ 65536) ∧ (1 ≤ x.2.1 ∧ x.2.1 ≤ 65536)
  args x _ := [i64 x.1, i64 x.2.1, u64 x.2.2]
  objs _ _ := []
  out x θ R := R (.tup [.ptr (θ 0) 0, i64 0]) [some (grC (θ 1) (θ 2) x.1 x.2.1 x.2.2 0 8 0 0), some (lsR (θ 3) 0 fun _ => 0), some (ceR 8 fun _ => 0), some (mcO (θ 4) m1e), some (mrO m2e)]
theorem SNew_nt : SNew.Nt := ⟨fun _ _ => rfl, fun _ _ => rfl, by unfold SNew; (intros; simp only [ren_all] at *; try assumption)⟩
theorem SNew_ok : SNew.Ok Try.prog 9 := by
  refine LSpec.of_body noGo mixed conOf_nil Try.func9 rfl (by kernel_rfl) fun ⟨N, E, seed⟩ R ⟨⟨h1, h2⟩, h3, h4⟩ hR => ?_
  have h1 : 1 ≤ N := h1
  have h2 : N ≤ 65536 := h2
  have h3 : 1 ≤ E := h3
  have h4 : E ≤ 65536 := h4
  have hQ : R (.tup [.ptr 0 0, i64 0]) [some (grC 1 2 N E seed 0 8 0 0), some (lsR 3 0 fun _ => 0), some (ceR 8 fun _ => 0), some (mcO 4 m1e), some (mrO m2e)] := hR
  (conv => whnf)
  refine ⟨fun _ => ?_, fun hh => absurd (show N < 1 from of_decide_eq_true hh) (by omega)⟩
  (conv => whnf)
  refine ⟨fun _ => ?_, fun hh => absurd (show 65536 < N from of_decide_eq_true hh) (by omega)⟩
  (conv => whnf)
  refine ⟨fun _ => ?_, fun hh => absurd (show E < 1 from of_decide_eq_true hh) (by omega)⟩
  (conv => whnf)
  refine ⟨fun hh => absurd (show 65536 < E from of_decide_eq_true hh) (by omega), fun _ => ?_⟩
  (conv => whnf)
  refine ⟨by decide, by decide, by decide, ?_⟩
  (conv => whnf)
  refine ⟨[some 1, none, some 0, none, none], _, _, hQ, ?_⟩
  (repeat' (first | exact True.intro | rfl | assumption | exact mc_ok rfl | exact mr_ok | exact fun _ => rfl | (refine And.intro ?_ ?_) | (intro _ _; rfl) | ((conv => whnf); (first | exact True.intro | (refine And.intro ?_ ?_)))))
theorem conLn : ConOk Try.prog (conOf [(46, inl Try.prog (conOf []) Try.f46)]) := conOf_cons (inl_ok noGo mixed conOf_nil Try.func46 (by kernel_rfl)) conOf_nil
def SLen : LSpec where
  X := GG
  k := 5
  pre x := 1 ≤ x.N
  args _ θ := [.ptr (θ 0) 0]
  objs x θ := x.objs θ
  out x θ R := R (.tup [i64 x.ns.length, i64 x.lk]) (x.all θ)
theorem SLen_nt : SLen.Nt := ⟨fun _ _ => rfl, by unfold SLen GG.objs; (intros; simp only [ren_all] at *; try assumption), by unfold SLen GG.all; (intros; simp only [ren_all] at *; try assumption)⟩
theorem SLen_ok : SLen.Ok Try.prog 42 := by
  refine LSpec.of_body noGo mixed conLn Try.func42 rfl (by kernel_rfl) fun g R hN hR => ?_
  have hN : 1 ≤ g.N := hN
  have hQ : R (.tup [i64 g.ns.length, i64 g.lk]) (g.all _root_.id) := hR
  (conv => whnf)
  refine ⟨fun hh => absurd (show decide (g.N = 0) = true from hh) (by rw [decide_eq_false (by omega)]; decide), fun _ => ?_⟩
  (conv => whnf)
  refine ⟨[], _, _, hQ, ?_⟩
  (repeat' (first | exact True.intro | rfl | assumption | exact mc_ok rfl | exact mr_ok | exact fun _ => rfl | (refine And.intro ?_ ?_) | (intro _ _; rfl) | ((conv => whnf); (first | exact True.intro | (refine And.intro ?_ ?_)))))

end Go.Proofs.Ytmgcpfljhcahoaa
end
section
namespace Go.Proofs.Ytmgcpfljhcahoaa
open Go Go.RowKit Sy Tb Gr
set_option maxRecDepth 100000
set_option maxHeartbeats 4000000
/-! The law's own functions -/
def nm (n : Nat) : Bs := ⟨#[107]⟩ ++ strB [48 + ((n / 100 % 10 : Nat) : Int), 48 + ((n / 10 % 10 : Nat) : Int), 48 + ((n % 10 : Nat) : Int)]
end Go.Proofs.Ytmgcpfljhcahoaa
end
