/- Epochs after purges: plain; few over memory that is only read. -/
import Derived.Test.YtagpkejbbmpcgaaEpLawR
import Derived.Test.YtagpkejbbmpcgaaSyZR
namespace Go.Proofs.Ytagpkejbbmpcgaa
open Go Go.RowKit Sy Ti
set_option maxRecDepth 100000
set_option maxHeartbeats 8000000

def fzO (Z : Nat → Option Obj) : SObj := .fz Z
def ZS (Z : Nat → Option Obj) (p : Option (Nat × Nat)) (l : List Bs) : Prop := FzRow Z p 1 (fun j => [.str (l.getD j eS)]) l.length
theorem ZS.at_ {Z : Nat → Option Obj} {p : Option (Nat × Nat)} {l : List Bs} (h : ZS Z p l) {k : Nat} (hk : k < l.length) : ∃ b off, p = some (b, off) ∧ FzAt Z b (off + k * 1) [.str (l.getD k eS)] := FzRow.at_ h hk
def ZA (Z : Nat → Option Obj) (p : Option (Nat × Nat)) (l : List ActP) : Prop := FzRow Z p 3 (fun j => apC (l.getD j ap0)) l.length
theorem ZA.at_ {Z : Nat → Option Obj} {p : Option (Nat × Nat)} {l : List ActP} (h : ZA Z p l) {k : Nat} (hk : k < l.length) : ∃ b off, p = some (b, off) ∧ FzAt Z b (off + k * 3) (apC (l.getD k ap0)) ∧ FzAt Z b (off + k * 3 + 1) [.str (l.getD k ap0).2.1, u64 (l.getD k ap0).2.2] := by
  obtain ⟨b, off, hp, hat⟩ := FzRow.at_ h hk
  exact ⟨b, off, hp, hat, hat.drop 1 (by show 1 ≤ 3; omega)⟩
def EFewZ : LSpec where
  X := ((Nat → Option Obj) × Option (Nat × Nat) × Nat × List ActP) × Int
  k := 1
  pre x := ZA x.1.1 x.1.2.1 x.1.2.2.2 ∧ 0 ≤ x.2 ∧ x.2 ≤ 1000
  args x θ := [.zsl (θ 0) x.1.2.1 3 x.1.2.2.2.length x.1.2.2.1, i64 x.2]
  objs x _ := [fzO x.1.1]
  out x _ R := ∀ b, (b = true → (x.1.2.2.2.length : Int) ≤ x.2 ∧ ∀ j, j < x.1.2.2.2.length → (x.1.2.2.2.getD j ap0).2.1.size ≤ 300) → R (.sb b) [some (fzO x.1.1)]
theorem EFewZ_nt : EFewZ.Nt := ⟨fun _ _ => rfl, fun _ _ => rfl, fun _ _ _ h => h⟩
theorem EFewZ_ok : EFewZ.Ok Try.prog 16 := by
  refine LSpec.of_body noGo mixed conOf_nil Try.func16 rfl (by kernel_rfl) fun ⟨⟨Z, p, cc, l⟩, k⟩ R ⟨hz, hk⟩ hR => ?_
  have hz : ZA Z p l := hz
  have hk : 0 ≤ k ∧ k ≤ 1000 := hk
  have hR : ∀ b, (b = true → (l.length : Int) ≤ k ∧ ∀ j, j < l.length → (l.getD j ap0).2.1.size ≤ 300) → R (.sb b) [some (fzO Z)] := hR
  have hR0 := hR false (fun g => Bool.noConfusion g)
  show bodyP _ _ _ _ _ [.zsl 0 p 3 l.length cc, i64 k] ⟨1, Tr.ofL 0 [fzO Z] .leaf⟩ _
  (conv => whnf)
  refine .inl ⟨Nat, fun i => [(0, .zsl 0 p 3 l.length cc), (1, i64 k), (5, i64 i)], fun i => [some (fzO Z)], fun i => 1001 - i, fun i => i ≤ 1000 ∧ ∀ j, j < i → (l.getD j ap0).2.1.size ≤ 300, 1, ⟨0, [], ⟨Nat.zero_le _, fun j hj => absurd hj (Nat.not_lt_zero j)⟩, ?_⟩, fun _ => rfl, fun i hi0 => ?_⟩
  · (repeat' (first | exact True.intro | rfl | assumption | exact tn_ok rfl | exact tr_ok rfl | exact fun _ => rfl | (refine And.intro ?_ ?_) | (intro _ _; rfl) | ((conv => whnf); (first | exact True.intro | (refine And.intro ?_ ?_)))))
  have hi : i ≤ 1000 := hi0.1
  have hno : ∀ j, j < i → (l.getD j ap0).2.1.size ≤ 300 := hi0.2
  clear hi0
  have ei : ((i : Nat) : Int).toNat = i := Int.toNat_natCast i
  have hend : ((l.length : Int) ≤ k → l.length ≤ i) → R (.sb (decide ((l.length : Int) ≤ k))) [some (fzO Z)] := fun q => hR _ fun g => ⟨of_decide_eq_true g, fun j hj => hno j (Nat.lt_of_lt_of_le hj (q (of_decide_eq_true g)))⟩
  (conv => whnf)
  constructor
  · intro h
    have h : (i : Int) < (l.length : Int) := of_decide_eq_true h
    refine exIt (hz.at_ (k := i) (by omega)) fun bb hb1 => exIt hb1 fun oo hb2 => ?_
    have hat : FzAt Z bb (oo + (i : Int).toNat * 3 + 1) [.str (l.getD i ap0).2.1, u64 (l.getD i ap0).2.2] := by rw [ei]; exact hb2.2.2
    (conv => whnf)
    constructor
    · intro h2
      have h2 : (i : Int) < k := of_decide_eq_true h2
      (conv => whnf)
      refine ⟨by show (0 : Int) ≤ (i : Int); omega, h, bb, oo, hb2.1, ?_⟩
      (conv => whnf)
      refine ⟨_, hat, ?_⟩
      (conv => whnf)
      constructor
      · intro _
        (conv => whnf)
        refine ⟨[], _, _, hR0, ?_⟩
        (repeat' (first | exact True.intro | rfl | assumption | exact tn_ok rfl | exact tr_ok rfl | exact fun _ => rfl | (refine And.intro ?_ ?_) | (intro _ _; rfl) | ((conv => whnf); (first | exact True.intro | (refine And.intro ?_ ?_)))))
      · intro h3
        have h3 : (l.getD i ap0).2.1.size ≤ 300 := by have : ¬ ((l.getD i ap0).2.1.size : Int) > 300 := of_decide_eq_false h3; omega
        (conv => whnf)
        refine ⟨i + 1, [], by show 1001 - (i + 1) < 1001 - i; omega, ⟨by show i + 1 ≤ 1000; omega, fun j hj => ?_⟩, ?_⟩
        · have hj : j < i + 1 := hj
          rcases Nat.lt_or_ge j i with g | g
          · exact hno j g
          · obtain rfl : j = i := by omega
            exact h3
        (repeat' (first | exact True.intro | rfl | assumption | exact tn_ok rfl | exact tr_ok rfl | exact fun _ => rfl | (refine And.intro ?_ ?_) | (intro _ _; rfl) | ((conv => whnf); (first | exact True.intro | (refine And.intro ?_ ?_)))))
        exact (wrap_id (by omega) (by omega)).symm
    · intro h2
      have h2 : ¬ (i : Int) < k := of_decide_eq_false h2
      have hF := hend fun _ => by omega
      (conv => whnf)
      refine ⟨[], _, _, hF, ?_⟩
      (repeat' (first | exact True.intro | rfl | assumption | exact tn_ok rfl | exact tr_ok rfl | exact fun _ => rfl | (refine And.intro ?_ ?_) | (intro _ _; rfl) | ((conv => whnf); (first | exact True.intro | (refine And.intro ?_ ?_)))))
  · intro h
    have h : ¬ (i : Int) < (l.length : Int) := of_decide_eq_false h
    have hF := hend fun _ => by omega
    (conv => whnf)
    refine ⟨[], _, _, hF, ?_⟩
    (repeat' (first | exact True.intro | rfl | assumption | exact tn_ok rfl | exact tr_ok rfl | exact fun _ => rfl | (refine And.intro ?_ ?_) | (intro _ _; rfl) | ((conv => whnf); (first | exact True.intro | (refine And.intro ?_ ?_)))))
end Go.Proofs.Ytagpkejbbmpcgaa
