/- What the reference of graphs computes: Remove. -/
import Derived.Test.YtmgcpfljhcahoaaGrRef4R
import Derived.Test.YtmgcpfljhcahoaaGrPack0R
namespace Go.Proofs.Ytmgcpfljhcahoaa
open Go Sy Tb Gr
set_option maxRecDepth 100000
set_option maxHeartbeats 4000000

def edW (L : List Ed) (q : Nat) : List V := [.str (L.getD q e00).1, .str (L.getD q e00).2]
theorem edW_app {L M : List Ed} {f g : Nat → List V} {n : Nat} (hn : L.length = n) (hf : ∀ q, q < n → f q = edW L q) (hg : ∀ q, g q = edW M q) (q : Nat) : edW (L ++ M) q = appF n f g q := by
  subst hn
  unfold appF
  rcases Nat.lt_or_ge q L.length with h | h
  · rw [show Nat.blt q L.length = true from Nat.ble_eq_true_of_le h]
    simp only [cond_true]
    rw [hf q h]
    unfold edW
    rw [List.getD_eq_getElem?_getD, List.getD_eq_getElem?_getD, List.getElem?_append_left h]
  · rw [show Nat.blt q L.length = false from by cases hb : Nat.blt q L.length with | false => rfl | true => exact absurd (blt_lt hb) (by omega)]
    simp only [cond_false]
    rw [hg]
    unfold edW
    rw [List.getD_eq_getElem?_getD, List.getD_eq_getElem?_getD, List.getElem?_append_right h]
theorem edW_drop {L : List Ed} {k q : Nat} : edW (L.drop k) q = edW L (k + q) := by
  unfold edW
  rw [List.getD_eq_getElem?_getD, List.getD_eq_getElem?_getD, List.getElem?_drop]
theorem edW_take {L : List Ed} {k q : Nat} (h : q < k) : edW (L.take k) q = edW L q := by
  unfold edW
  rw [List.getD_eq_getElem?_getD, List.getD_eq_getElem?_getD, List.getElem?_take, if_pos h]
theorem fE_at {E : List Ed} {e : Ed} (h : hasE E e = true) : ∃ k, k < E.length ∧ fE E e = (k : Int) ∧ E.getD k e00 = e := by
  have hl : E.findIdx (fun x => decide (x = e)) < E.length := List.findIdx_lt_length.2 ⟨e, hasE_iff.1 h, decide_eq_true rfl⟩
  have h1 : E.getD (E.findIdx fun x => decide (x = e)) e00 = e := by
    rw [List.getD_eq_getElem?_getD, List.getElem?_eq_getElem hl]
    exact of_decide_eq_true (List.findIdx_getElem (p := fun x : Ed => decide (x = e)) (w := hl))
  refine ⟨_, hl, fE_hit hl (fun j hj g => ?_) h1, h1⟩
  have := List.not_of_lt_findIdx hj
  rw [List.getD_eq_getElem?_getD, List.getElem?_eq_getElem (by omega)] at g
  have g : E[j] = e := g
  rw [g, decide_eq_true rfl] at this
  exact absurd this (by decide)
theorem rRem_td {E : List Ed} {p c : Bs} {k : Nat} (hs : SrtE E) (hk : k < E.length) (he : E.getD k e00 = (p, c)) : rRemE E p c = E.take k ++ E.drop (k + 1) := by
  have ek : E.drop k = (p, c) :: E.drop (k + 1) := by
    rw [List.drop_eq_getElem_cons hk]
    rw [List.getD_eq_getElem?_getD, List.getElem?_eq_getElem hk] at he
    have he : E[k] = (p, c) := he
    rw [he]
  have hn : (E.take k ++ (p, c) :: E.drop (k + 1)).Nodup := by rw [← ek, List.take_append_drop]; exact hs.nodup
  obtain ⟨_, h2, h3⟩ := List.nodup_append.1 hn
  obtain ⟨h4, _⟩ := List.nodup_cons.1 h2
  have e1 : rRemE (E.take k ++ (p, c) :: E.drop (k + 1)) p c = E.take k ++ E.drop (k + 1) := by
    unfold rRemE
    rw [List.filter_append, List.filter_cons_of_neg (by simp), List.filter_eq_self.2 fun x hx => ?_, List.filter_eq_self.2 fun x hx => ?_]
    · have : x ≠ (p, c) := fun q => h4 (q ▸ hx)
      simp [this]
    · have : x ≠ (p, c) := h3 x hx _ (List.mem_cons_self ..)
      simp [this]
  rw [← ek, List.take_append_drop] at e1
  exact e1
def rRemR (E : List Ed) (p c : Bs) : Bool × Int := if (validK p && validK c) = true then (hasE E (p, c), 0) else (false, 2)
def rRemD (E : List Ed) (p c : Bs) : List Ed := if (rRemR E p c).1 = true then rRemE E p c else E
theorem conRRm : ConOk Try.prog (conOf [(40, SRKey.T), (36, SRFind.T)]) :=
  conOf_cons (LSpec.call SRKey_nt SRKey_ok) (conOf_cons (LSpec.call SRFind_nt SRFind_ok) conOf_nil)
def SRRem : LSpec where
  X := (Int × Int × List Ed) × Bs × Bs
  k := 1
  pre x := x.1.2.2.length ≤ 9000 ∧ SrtE x.1.2.2
  args x θ := [rgV (θ 0) x.1.1 x.1.2.1 x.1.2.2, .str x.2.1, .str x.2.2]
  objs x _ := [edR x.1.2.2]
  out x θ R := R (.tup [rgV (θ 1) x.1.1 x.1.2.1 (rRemD x.1.2.2 x.2.1 x.2.2), .sb (rRemR x.1.2.2 x.2.1 x.2.2).1, i64 (rRemR x.1.2.2 x.2.1 x.2.2).2]) [none, some (edR (rRemD x.1.2.2 x.2.1 x.2.2))]
theorem SRRem_nt : SRRem.Nt := ⟨fun _ _ => rfl, fun _ _ => rfl, fun _ _ _ h => h⟩
theorem SRRem_ok : SRRem.Ok Try.prog 54 := by
  refine LSpec.of_body noGo mixed conRRm Try.func54 rfl (by kernel_rfl) fun ⟨⟨N, M, E⟩, p, c⟩ R ⟨hl, hs⟩ hR => ?_
  have hl : E.length ≤ 9000 := hl
  have hs : SrtE E := hs
  have hQ : R (.tup [rgV 1 N M (rRemD E p c), .sb (rRemR E p c).1, i64 (rRemR E p c).2]) [none, some (edR (rRemD E p c))] := hR
  have hno : ∀ r, rRemR E p c = (false, r) → R (.tup [rgV 1 N M E, .sb false, i64 r]) [none, some (edR E)] := fun r e => by
    unfold rRemD at hQ
    rw [e] at hQ
    exact hQ
  clear hR
  show bodyP _ _ _ _ _ [rgV 0 N M E, .str p, .str c] ⟨1, Tr.ofL 0 [edR E] .leaf⟩ _
  (conv => whnf)
  refine ⟨p, [], trivial, rfl, by (repeat' (first | exact True.intro | rfl | assumption | exact mc_ok rfl | exact mr_ok | exact fun _ => rfl | (refine And.intro ?_ ?_) | (intro _ _; rfl) | ((conv => whnf); (first | exact True.intro | (refine And.intro ?_ ?_))))), by (repeat' (first | exact True.intro | rfl | assumption | exact mc_ok rfl | exact mr_ok | exact fun _ => rfl | (refine And.intro ?_ ?_) | (intro _ _; rfl) | ((conv => whnf); (first | exact True.intro | (refine And.intro ?_ ?_))))), ?_⟩
  (conv => whnf)
  constructor
  rotate_left
  · intro h1
    have h1 : validK p = false := not_t h1
    have hB := hno 2 (by unfold rRemR; rw [h1]; exact if_neg Bool.false_ne_true)
    (conv => whnf)
    refine ⟨[some 0], _, _, hB, ?_⟩
    (repeat' (first | exact True.intro | rfl | assumption | exact mc_ok rfl | exact mr_ok | exact fun _ => rfl | (refine And.intro ?_ ?_) | (intro _ _; rfl) | ((conv => whnf); (first | exact True.intro | (refine And.intro ?_ ?_)))))
  intro h1
  have h1 : validK p = true := not_f h1
  (conv => whnf)
  refine ⟨c, [], trivial, rfl, by (repeat' (first | exact True.intro | rfl | assumption | exact mc_ok rfl | exact mr_ok | exact fun _ => rfl | (refine And.intro ?_ ?_) | (intro _ _; rfl) | ((conv => whnf); (first | exact True.intro | (refine And.intro ?_ ?_))))), by (repeat' (first | exact True.intro | rfl | assumption | exact mc_ok rfl | exact mr_ok | exact fun _ => rfl | (refine And.intro ?_ ?_) | (intro _ _; rfl) | ((conv => whnf); (first | exact True.intro | (refine And.intro ?_ ?_))))), ?_⟩
  (conv => whnf)
  constructor
  · intro h2
    have h2 : validK c = false := not_t h2
    have hB := hno 2 (by unfold rRemR; rw [h2, Bool.and_false]; exact if_neg Bool.false_ne_true)
    (conv => whnf)
    refine ⟨[some 0], _, _, hB, ?_⟩
    (repeat' (first | exact True.intro | rfl | assumption | exact mc_ok rfl | exact mr_ok | exact fun _ => rfl | (refine And.intro ?_ ?_) | (intro _ _; rfl) | ((conv => whnf); (first | exact True.intro | (refine And.intro ?_ ?_)))))
  intro h2
  have h2 : validK c = true := not_f h2
  have hv : (validK p && validK c) = true := by rw [h1, h2]; rfl
  (conv => whnf)
  refine ⟨((N, M, E), (p, c)), [0], by show E.length ≤ 20000; omega, rfl, by (repeat' (first | exact True.intro | rfl | assumption | exact mc_ok rfl | exact mr_ok | exact fun _ => rfl | (refine And.intro ?_ ?_) | (intro _ _; rfl) | ((conv => whnf); (first | exact True.intro | (refine And.intro ?_ ?_))))), by (repeat' (first | exact True.intro | rfl | assumption | exact mc_ok rfl | exact mr_ok | exact fun _ => rfl | (refine And.intro ?_ ?_) | (intro _ _; rfl) | ((conv => whnf); (first | exact True.intro | (refine And.intro ?_ ?_))))), ?_⟩
  (conv => whnf)
  constructor
  · intro h3
    have h3 : fE E (p, c) < 0 := of_decide_eq_true h3
    have h3 : hasE E (p, c) = false := Bool.eq_false_iff.2 fun q => by have := fE_iff.2 q; omega
    have hB := hno 0 (by unfold rRemR; rw [if_pos hv, h3])
    (conv => whnf)
    refine ⟨[some 0], _, _, hB, ?_⟩
    (repeat' (first | exact True.intro | rfl | assumption | exact mc_ok rfl | exact mr_ok | exact fun _ => rfl | (refine And.intro ?_ ?_) | (intro _ _; rfl) | ((conv => whnf); (first | exact True.intro | (refine And.intro ?_ ?_)))))
  intro h3
  have h3 : ¬ fE E (p, c) < 0 := of_decide_eq_false h3
  have h3 : hasE E (p, c) = true := fE_iff.1 (by omega)
  obtain ⟨k, hkl, ek, he⟩ := fE_at h3
  have eR : rRemR E p c = (true, 0) := by unfold rRemR; rw [if_pos hv, h3]
  unfold rRemD at hQ
  rw [eR, if_pos rfl] at hQ
  have hv2 := rRem_td hs hkl he
  have hdl : (rRemE E p c).length + 1 = E.length := by rw [hv2, List.length_append, List.length_take, List.length_drop]; omega
  have lt : (E.take k).length = k := by rw [List.length_take]; omega
  rw [ek]
  (conv => whnf)
  refine ⟨by show (0 : Int) ≤ (k : Int); omega, ?_⟩
  (conv => whnf)
  rw [Int.toNat_natCast k]
  refine .inl ⟨Nat.zero_le k, by omega, .inr rfl, fun g => Bool.noConfusion g, ?_⟩
  (conv => whnf)
  rw [wrap_inc hkl (by omega)]
  refine ⟨by omega, ?_⟩
  rw [Int.toNat_natCast (k + 1)]
  by_cases hk2 : k + 1 < E.length
  · refine .inl ⟨by omega, Nat.le_refl _, .inl hk2, fun _ => rfl, ?_⟩
    (conv => whnf)
    refine ⟨some (edW (E.take k)), ?_⟩
    (conv => whnf)
    refine ⟨by show 0 + 0 + (k - 0) ≤ E.length; omega, by show (k - 0) * (32 + 2) ≤ 1000000000; omega, fun q hq => ?_, ?_⟩
    · show edW (E.take k) q = edW E (0 + 0 + q)
      have hq : q < k := hq
      rw [show 0 + 0 + q = q by omega, edW_take hq]
    (conv => whnf)
    rw [Nat.sub_zero]
    (repeat (first | refine And.intro rfl ?_ | fail))
    (conv => whnf)
    refine ⟨some (edW (rRemE E p c)), ?_⟩
    (conv => whnf)
    refine ⟨by show 0 + (k + 1) + (E.length - (k + 1)) ≤ E.length; omega, by show 0 + k ≤ k; omega, by show (k + (E.length - (k + 1))) * (32 + 2) ≤ 1000000000; omega, fun q hq => ?_, ?_⟩
    · rw [hv2]
      refine edW_app lt (fun q hq => ?_) (fun q => ?_) q
      · show edW (E.take k) (0 + q) = _
        rw [Nat.zero_add]
      · show edW E (0 + (k + 1) + q) = edW (E.drop (k + 1)) q
        rw [edW_drop, Nat.zero_add]
    (conv => whnf)
    (repeat (first | refine And.intro rfl ?_ | fail))
    (conv => whnf)
    rw [show k + (E.length - (k + 1)) = (rRemE E p c).length by omega]
    refine ⟨[some 4], _, _, hQ, ?_⟩
    (repeat' (first | exact True.intro | rfl | assumption | exact mc_ok rfl | exact mr_ok | exact fun _ => rfl | (refine And.intro ?_ ?_) | (intro _ _; rfl) | ((conv => whnf); (first | exact True.intro | (refine And.intro ?_ ?_)))))
  · refine .inr ⟨by omega, by omega, rfl, rfl, rfl, ?_⟩
    (conv => whnf)
    refine ⟨some (edW (E.take k)), ?_⟩
    (conv => whnf)
    refine ⟨by show 0 + 0 + (k - 0) ≤ E.length; omega, by show (k - 0) * (32 + 2) ≤ 1000000000; omega, fun q hq => ?_, ?_⟩
    · show edW (E.take k) q = edW E (0 + 0 + q)
      have hq : q < k := hq
      rw [show 0 + 0 + q = q by omega, edW_take hq]
    (conv => whnf)
    rw [Nat.sub_zero]
    (repeat (first | refine And.intro rfl ?_ | fail))
    (conv => whnf)
    refine ⟨some (edW (rRemE E p c)), ?_⟩
    (conv => whnf)
    refine ⟨by show 0 + k ≤ k; omega, by show (k + 0) * (32 + 2) ≤ 1000000000; omega, fun q hq => ?_, ?_⟩
    · rw [hv2]
      have hq : q < k := hq
      show edW (E.take k ++ E.drop (k + 1)) q = appF k (fun q => edW (E.take k) (0 + q)) (fun _ => []) q
      rw [List.drop_eq_nil_of_le (by omega), List.append_nil]
      unfold appF
      rw [show Nat.blt q k = true from Nat.ble_eq_true_of_le hq]
      simp only [cond_true, Nat.zero_add]
    (conv => whnf)
    rw [show k + 0 = (rRemE E p c).length by omega]
    refine ⟨[some 4], _, _, hQ, ?_⟩
    (repeat' (first | exact True.intro | rfl | assumption | exact mc_ok rfl | exact mr_ok | exact fun _ => rfl | (refine And.intro ?_ ?_) | (intro _ _; rfl) | ((conv => whnf); (first | exact True.intro | (refine And.intro ?_ ?_)))))
end Go.Proofs.Ytmgcpfljhcahoaa
