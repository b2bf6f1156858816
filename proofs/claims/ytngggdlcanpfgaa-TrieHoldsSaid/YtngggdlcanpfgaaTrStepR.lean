/- What the law's functions of the trie compute: is, few, step. -/
import Derived.Test.YtngggdlcanpfgaaTrLawR
namespace Go.Proofs.Ytngggdlcanpfgaa
open Go Go.RowKit Sy Ti
set_option maxRecDepth 100000
set_option maxHeartbeats 4000000

abbrev ActP := Int × Bs × Int
def ap0 : ActP := (0, eS, 0)
def apC (a : ActP) : List V := [i64 a.1, .str a.2.1, u64 a.2.2]
def apO (c : Obj) (l : List ActP) (e : TypeId) : SObj := .ro c l.length (fun j => apC (l.getD j ap0)) e 3
def SFew : LSpec where
  X := (Obj × List ActP × TypeId) × Int
  k := 1
  pre x := 0 ≤ x.2 ∧ x.2 ≤ 1000
  args x θ := [.sl (θ 0) 0 3 x.1.2.1.length false, i64 x.2]
  objs x _ := [apO x.1.1 x.1.2.1 x.1.2.2]
  out x _ R := ∀ b, (b = true → (x.1.2.1.length : Int) ≤ x.2 ∧ ∀ j, j < x.1.2.1.length → (x.1.2.1.getD j ap0).2.1.size ≤ 300) → R (.sb b) [some (apO x.1.1 x.1.2.1 x.1.2.2)]
theorem SFew_nt : SFew.Nt := ⟨fun _ _ => rfl, fun _ _ => rfl, fun _ _ _ h => h⟩
theorem SFew_ok : SFew.Ok Try.prog 19 := by
  refine LSpec.of_body noGo mixed conOf_nil Try.func19 rfl (by kernel_rfl) fun ⟨⟨c, l, e⟩, k⟩ R hk hR => ?_
  have hk : 0 ≤ k ∧ k ≤ 1000 := hk
  have hR : ∀ b, (b = true → (l.length : Int) ≤ k ∧ ∀ j, j < l.length → (l.getD j ap0).2.1.size ≤ 300) → R (.sb b) [some (apO c l e)] := hR
  have hR0 := hR false (fun g => Bool.noConfusion g)
  show bodyP _ _ _ _ _ [.sl 0 0 3 l.length false, i64 k] ⟨1, Tr.ofL 0 [apO c l e] .leaf⟩ _
  (conv => whnf)
  refine .inl ⟨Nat, fun i => [(0, .sl 0 0 3 l.length false), (1, i64 k), (5, i64 i)], fun i => [some (apO c l e)], fun i => 1001 - i, fun i => i ≤ 1000 ∧ ∀ j, j < i → (l.getD j ap0).2.1.size ≤ 300, 1, ⟨0, [], ⟨Nat.zero_le _, fun j hj => absurd hj (Nat.not_lt_zero j)⟩, ?_⟩, fun _ => rfl, fun i hi0 => ?_⟩
  · (repeat' (first | exact True.intro | rfl | assumption | exact tn_ok rfl | exact tr_ok rfl | exact fun _ => rfl | (refine And.intro ?_ ?_) | (intro _ _; rfl) | ((conv => whnf); (first | exact True.intro | (refine And.intro ?_ ?_)))))
  have hi : i ≤ 1000 := hi0.1
  have hno : ∀ j, j < i → (l.getD j ap0).2.1.size ≤ 300 := hi0.2
  clear hi0
  have ei := zero_add_toNat i
  have hend : ((l.length : Int) ≤ k → l.length ≤ i) → R (.sb (decide ((l.length : Int) ≤ k))) [some (apO c l e)] := fun q => hR _ fun g => ⟨of_decide_eq_true g, fun j hj => hno j (Nat.lt_of_lt_of_le hj (q (of_decide_eq_true g)))⟩
  (conv => whnf)
  constructor
  · intro h
    have h : (i : Int) < (l.length : Int) := of_decide_eq_true h
    (conv => whnf)
    constructor
    · intro h2
      have h2 : (i : Int) < k := of_decide_eq_true h2
      (conv => whnf)
      refine ⟨by show (0 : Int) ≤ (i : Int); omega, h, ?_⟩
      (conv => whnf)
      refine ⟨by rw [ei]; omega, ?_⟩
      rw [ei]
      (conv => whnf)
      constructor
      · intro _
        (conv => whnf)
        refine ⟨[], _, _, hR0, ?_⟩
        (repeat' (first | exact True.intro | rfl | assumption | exact tn_ok rfl | exact tr_ok rfl | exact fun _ => rfl | (refine And.intro ?_ ?_) | (intro _ _; rfl) | ((conv => whnf); (first | exact True.intro | (refine And.intro ?_ ?_)))))
      · intro h3
        have h3 : (l.getD i ap0).2.1.size ≤ 300 := by have : ¬ ((l.getD i ap0).2.1.size : Int) > 300 := of_decide_eq_false h3; omega
        (conv => whnf)
        refine ⟨i + 1, [], by show 1001 - (i + 1) < 1001 - i; omega, ⟨by show i + 1 ≤ 1000; omega, fun j hj => ?_⟩, ?_⟩
        · have hj : j < i + 1 := hj
          rcases Nat.lt_or_ge j i with g | g
          · exact hno j g
          · obtain rfl : j = i := by omega
            exact h3
        (repeat' (first | exact True.intro | rfl | assumption | exact tn_ok rfl | exact tr_ok rfl | exact fun _ => rfl | (refine And.intro ?_ ?_) | (intro _ _; rfl) | ((conv => whnf); (first | exact True.intro | (refine And.intro ?_ ?_)))))
        exact (wrap_id (by omega) (by omega)).symm
    · intro h2
      have h2 : ¬ (i : Int) < k := of_decide_eq_false h2
      have hF := hend fun _ => by omega
      (conv => whnf)
      refine ⟨[], _, _, hF, ?_⟩
      (repeat' (first | exact True.intro | rfl | assumption | exact tn_ok rfl | exact tr_ok rfl | exact fun _ => rfl | (refine And.intro ?_ ?_) | (intro _ _; rfl) | ((conv => whnf); (first | exact True.intro | (refine And.intro ?_ ?_)))))
  · intro h
    have h : ¬ (i : Int) < (l.length : Int) := of_decide_eq_false h
    have hF := hend fun _ => by omega
    (conv => whnf)
    refine ⟨[], _, _, hF, ?_⟩
    (repeat' (first | exact True.intro | rfl | assumption | exact tn_ok rfl | exact tr_ok rfl | exact fun _ => rfl | (refine And.intro ?_ ?_) | (intro _ _; rfl) | ((conv => whnf); (first | exact True.intro | (refine And.intro ?_ ?_)))))
theorem conCu : ConOk Try.prog (conOf [(21, GCut.T)]) := conOf_cons (LSpec.call GCut_nt GCut_ok) conOf_nil
theorem conRm : ConOk Try.prog (conOf [(20, GRemove.T)]) := conOf_cons (LSpec.call GRemove_nt GRemove_ok) conOf_nil
theorem setE_len {m : List Pr} {s : Bs} {n : Int} (h : SrtP m) : (setE m s n).1.length ≤ m.length + 1 ∧ SrtP (setE m s n).1 := by
  unfold setE
  split
  · refine ⟨?_, h.setR s n⟩
    show (setR m s n).length ≤ _
    rw [setR_del h]
    have : (delR m s).length ≤ m.length := List.length_filter_le ..
    omega
  · exact ⟨Nat.le_succ _, h⟩
theorem remE_len {m : List Pr} {s : Bs} : (remE m s).1.length ≤ m.length := by
  unfold remE
  split
  · exact List.length_filter_le ..
  · exact Nat.le_refl _
theorem cutE_len {m : List Pr} {s : Bs} : (cutE m s).1.length ≤ m.length := by
  unfold cutE
  split
  · exact List.length_filter_le ..
  · exact Nat.le_refl _
end Go.Proofs.Ytngggdlcanpfgaa
