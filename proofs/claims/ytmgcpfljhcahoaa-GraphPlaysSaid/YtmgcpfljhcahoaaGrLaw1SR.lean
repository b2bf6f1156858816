/- What Same of the reference computes. -/
import Derived.Test.YtmgcpfljhcahoaaGrLaw1R
namespace Go.Proofs.Ytmgcpfljhcahoaa
open Go Go.RowKit Sy Tb Gr
set_option maxRecDepth 100000
set_option maxHeartbeats 2000000
def SSame : LSpec where
  X := List Ed
  k := 2
  pre x := x.length ≤ 1000000
  args x θ := [.sl (θ 0) 0 2 x.length false, .sl (θ 1) 0 2 x.length false]
  objs x _ := [edR x, edR x]
  out x _ R := R (.sb true) [some (edR x), some (edR x)]
theorem SSame_nt : SSame.Nt := ⟨fun _ _ => rfl, fun _ _ => rfl, fun _ _ _ h => h⟩
theorem SSame_ok : SSame.Ok Try.prog 24 := by
  refine LSpec.of_body noGo mixed conOf_nil Try.func24 rfl (by kernel_rfl) fun (l : List Ed) R hl hR => ?_
  have hl : l.length ≤ 1000000 := hl
  have hQ : R (.sb true) [some (edR l), some (edR l)] := hR
  (conv => whnf)
  refine ⟨fun hh => absurd (show (!decide ((l.length : Int) = (l.length : Int))) = true from hh) (by simp), fun _ => ?_⟩
  (conv => whnf)
  refine .inl ⟨Nat, fun i => [(0, .sl 0 0 2 l.length false), (1, .sl 1 0 2 l.length false), (5, i64 i)], fun _ => [some (edR l), some (edR l)], fun i => l.length - i, fun i => i ≤ l.length, 2, ⟨0, [], Nat.zero_le _, ?_⟩, fun _ => rfl, fun i hi => ?_⟩
  · (repeat' (first | exact True.intro | rfl | assumption | exact mc_ok rfl | exact mr_ok | exact fun _ => rfl | (refine And.intro ?_ ?_) | (intro _ _; rfl) | ((conv => whnf); (first | exact True.intro | (refine And.intro ?_ ?_)))))
  have hi : i ≤ l.length := hi
  have ei := zero_add_toNat i
  (conv => whnf)
  constructor
  · intro h
    have h : i < l.length := by have : (i : Int) < (l.length : Int) := of_decide_eq_true h; omega
    (conv => whnf)
    refine ⟨by show (0 : Int) ≤ (i : Int); omega, by show (i : Int) < (l.length : Int); omega, ?_⟩
    (conv => whnf)
    refine ⟨by rw [ei]; exact h, ?_⟩
    (conv => whnf)
    refine ⟨by show (0 : Int) ≤ (i : Int); omega, by show (i : Int) < (l.length : Int); omega, ?_⟩
    (conv => whnf)
    refine ⟨by rw [ei]; exact h, ?_⟩
    (conv => whnf)
    refine ⟨by kernel_rfl, edEq _ _ _ _, ?_⟩
    (conv => whnf)
    refine ⟨fun hh => absurd (show (!eqL [.str (l.getD (0 + (i : Int).toNat) e00).1, .str (l.getD (0 + (i : Int).toNat) e00).2] [.str (l.getD (0 + (i : Int).toNat) e00).1, .str (l.getD (0 + (i : Int).toNat) e00).2]) = true from hh) (by rw [eqL_ed]; simp), fun _ => ?_⟩
    (conv => whnf)
    refine ⟨i + 1, [], by show l.length - (i + 1) < l.length - i; omega, by show i + 1 ≤ l.length; omega, ?_⟩
    (repeat' (first | exact True.intro | rfl | assumption | exact mc_ok rfl | exact mr_ok | exact fun _ => rfl | (refine And.intro ?_ ?_) | (intro _ _; rfl) | ((conv => whnf); (first | exact True.intro | (refine And.intro ?_ ?_)))))
    exact (wrap_inc h (by omega)).symm
  · intro h
    (conv => whnf)
    refine ⟨[], _, _, hQ, ?_⟩
    (repeat' (first | exact True.intro | rfl | assumption | exact mc_ok rfl | exact mr_ok | exact fun _ => rfl | (refine And.intro ?_ ?_) | (intro _ _; rfl) | ((conv => whnf); (first | exact True.intro | (refine And.intro ?_ ?_)))))
end Go.Proofs.Ytmgcpfljhcahoaa
