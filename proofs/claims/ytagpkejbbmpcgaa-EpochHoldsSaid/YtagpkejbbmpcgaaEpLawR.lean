/- What the law's functions of the epochs compute: stamp, few, is, step. -/
import Derived.Test.YtagpkejbbmpcgaaEpKnownR
import Derived.Test.YtagpkejbbmpcgaaEpRefR
namespace Go.Proofs.Ytagpkejbbmpcgaa
open Go Go.RowKit Sy Ti
set_option maxRecDepth 100000
set_option maxHeartbeats 8000000

abbrev ActP := Int × Bs × Int
def ap0 : ActP := (0, eS, 0)
def apC (a : ActP) : List V := [i64 a.1, .str a.2.1, u64 a.2.2]
theorem wrapU_range (n : Int) : 0 ≤ IntKind.u64.wrap n ∧ IntKind.u64.wrap n < 18446744073709551616 := by
  have : IntKind.u64.wrap n = n % 18446744073709551616 := by simp [IntKind.wrap, IntKind.bits, IntKind.signed]
  rw [this]; omega
def stE (w n last : Int) : Int := if w = 0 then n else IntKind.u64.wrap (last + mmI true n (IntKind.u64.wrap (18446744073709551615 - last)))
theorem stE_rng {w n last : Int} (h : 0 ≤ n ∧ n < 18446744073709551616) : 0 ≤ stE w n last ∧ stE w n last < 18446744073709551616 := by
  unfold stE
  split
  · exact h
  · exact wrapU_range _
def EStamp : LSpec where
  X := ActP × Int
  k := 0
  pre _ := True
  args x _ := [.agg (apC x.1), u64 x.2]
  objs _ _ := []
  out x _ R := R (u64 (stE x.1.1 x.1.2.2 x.2)) []
theorem EStamp_nt : EStamp.Nt := ⟨fun _ _ => rfl, fun _ _ => rfl, fun _ _ _ h => h⟩
theorem EStamp_ok : EStamp.Ok Try.prog 17 := by
  refine LSpec.of_body noGo mixed conOf_nil Try.func17 rfl (by kernel_rfl) fun ⟨⟨w, p, n⟩, last⟩ R _ hR => ?_
  have hQ : R (u64 (stE w n last)) [] := hR
  unfold stE at hQ
  show bodyP _ _ _ _ _ [.agg (apC (w, p, n)), u64 last] ⟨0, Tr.ofL 0 [] .leaf⟩ _
  (conv => whnf)
  constructor
  · intro h
    rw [if_pos (of_decide_eq_true h : w = 0)] at hQ
    (conv => whnf)
    refine ⟨[], _, _, hQ, ?_⟩
    (repeat' (first | exact True.intro | rfl | assumption | exact tn_ok rfl | exact tr_ok rfl | exact fun _ => rfl | (refine And.intro ?_ ?_) | (intro _ _; rfl) | ((conv => whnf); (first | exact True.intro | (refine And.intro ?_ ?_)))))
  · intro h
    rw [if_neg (of_decide_eq_false h : ¬ w = 0)] at hQ
    (conv => whnf)
    refine ⟨[], _, _, hQ, ?_⟩
    (repeat' (first | exact True.intro | rfl | assumption | exact tn_ok rfl | exact tr_ok rfl | exact fun _ => rfl | (refine And.intro ?_ ?_) | (intro _ _; rfl) | ((conv => whnf); (first | exact True.intro | (refine And.intro ?_ ?_)))))
/-- What is kept from call to call. -/
structure EInv (f l : Int) (m : List Pr) (k : Nat) : Prop where
  rt : RightP f l m
  f0 : 0 ≤ f
  l1 : l < 18446744073709551616
  len : m.length ≤ k
theorem EInv.l0 {f l : Int} {m : List Pr} {k : Nat} (h : EInv f l m k) : 0 ≤ l := by have := h.rt.le; have := h.f0; omega
theorem EInv.up {f l : Int} {m : List Pr} {k k' : Nat} (h : EInv f l m k) (hk : k ≤ k') : EInv f l m k' := ⟨h.rt, h.f0, h.l1, Nat.le_trans h.len hk⟩
theorem EInv.purge {f l n : Int} {m : List Pr} {k : Nat} {s : Bs} (h : EInv f l m k) (hn : n < 18446744073709551616) : EInv f (purE m l s n).2.1 (purE m l s n).1 (k + 1) := by
  refine ⟨h.rt.purge, h.f0, ?_, Nat.le_trans (purE_len h.rt.srt) (by have := h.len; omega)⟩
  unfold purE
  split
  · exact hn
  · exact h.l1
theorem EInv.flush {f l n : Int} {m : List Pr} {k : Nat} (h : EInv f l m k) (hn : n < 18446744073709551616) : EInv (fluE m f l n).2.1.1 (fluE m f l n).2.1.2 (fluE m f l n).1 k := by
  refine ⟨h.rt.flush, ?_, ?_, ?_⟩
  · unfold fluE
    split
    · have := h.l0; show 0 ≤ n; omega
    · exact h.f0
  · unfold fluE
    split
    · exact hn
    · exact h.l1
  · unfold fluE
    split
    · exact Nat.zero_le _
    · exact h.len
end Go.Proofs.Ytagpkejbbmpcgaa
