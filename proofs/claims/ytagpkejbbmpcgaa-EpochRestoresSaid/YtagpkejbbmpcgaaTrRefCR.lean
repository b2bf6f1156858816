/- What the reference of the trie computes: Remove, Set, Same. -/
import Derived.Test.YtagpkejbbmpcgaaTrRefBR
namespace Go.Proofs.Ytagpkejbbmpcgaa
open Go Go.RowKit Sy Ti
set_option maxRecDepth 100000
set_option maxHeartbeats 4000000

def prF (L : List Pr) (q : Nat) : List V := [.str (L.getD q p00).1, u64 (L.getD q p00).2]
theorem getD_l {L M : List Pr} {q : Nat} (h : q < L.length) : (L ++ M).getD q p00 = L.getD q p00 := by
  rw [List.getD_eq_getElem?_getD, List.getD_eq_getElem?_getD, List.getElem?_append_left h]
theorem getD_r {L M : List Pr} {q : Nat} (h : L.length ≤ q) : (L ++ M).getD q p00 = M.getD (q - L.length) p00 := by
  rw [List.getD_eq_getElem?_getD, List.getD_eq_getElem?_getD, List.getElem?_append_right h]
theorem getD_drop {L : List Pr} {k q : Nat} : (L.drop k).getD q p00 = L.getD (k + q) p00 := by
  rw [List.getD_eq_getElem?_getD, List.getD_eq_getElem?_getD, List.getElem?_drop]
theorem getD_take {L : List Pr} {k q : Nat} (h : q < k) : (L.take k).getD q p00 = L.getD q p00 := by
  rw [List.getD_eq_getElem?_getD, List.getD_eq_getElem?_getD, List.getElem?_take, if_pos h]
theorem prF_app {L M : List Pr} {f g : Nat → List V} {n : Nat} (hn : L.length = n) (hf : ∀ q, q < n → f q = prF L q) (hg : ∀ q, g q = prF M q) (q : Nat) : prF (L ++ M) q = appF n f g q := by
  subst hn
  unfold appF
  rcases Nat.lt_or_ge q L.length with h | h
  · rw [show Nat.blt q L.length = true from Nat.ble_eq_true_of_le h]
    simp only [cond_true]
    rw [hf q h]
    unfold prF
    rw [getD_l h]
  · rw [show Nat.blt q L.length = false from by cases hb : Nat.blt q L.length with | false => rfl | true => exact absurd (blt_lt hb) (by omega)]
    simp only [cond_false]
    rw [hg]
    unfold prF
    rw [getD_r h]
theorem posP_cons {s : Bs} {x : Pr} {l : List Pr} : posP s (x :: l) = if x.1 = s then 0 else posP s l + 1 := by
  unfold posP
  rw [List.findIdx_cons]
  by_cases h : x.1 = s
  · rw [if_pos h, decide_eq_true h]; rfl
  · rw [if_neg h, decide_eq_false h]; rfl
theorem del_td {s : Bs} : ∀ {w : List Pr} (_ : SrtP w) (_ : posP s w < w.length), delR w s = w.take (posP s w) ++ w.drop (posP s w + 1)
  | [], _, h => by simp at h
  | x :: l, hd, h => by
    obtain ⟨h1, h2⟩ := List.pairwise_cons.1 hd
    rw [posP_cons] at h ⊢
    by_cases e : x.1 = s
    · have : delR (x :: l) s = l := by
        unfold delR
        rw [List.filter_cons_of_neg (by simp [e])]
        exact delR_none fun y hy g => by have := h1 y hy; rw [e, g] at this; exact by_irr _ this
      rw [this, if_pos e]; rfl
    · have : delR (x :: l) s = x :: delR l s := by
        unfold delR
        rw [List.filter_cons_of_pos (by simp [e])]
      rw [if_neg e] at h ⊢
      rw [this, del_td h2 (by simpa using h)]
      rfl
def kP (s : Bs) (v : List Pr) : Nat := v.findIdx fun x => !ltS s x
theorem kP_le {s : Bs} {w : List Pr} : kP s w ≤ w.length := List.findIdx_le_length
theorem kP_lt {s : Bs} {w : List Pr} {j : Nat} (h : j < kP s w) : strLt (w.getD j p00).1 s = true := by
  have hl : j < w.length := Nat.lt_of_lt_of_le h kP_le
  have := List.not_of_lt_findIdx h
  rw [List.getD_eq_getElem?_getD, List.getElem?_eq_getElem hl]
  simpa [ltS] using this
theorem kP_at {s : Bs} {w : List Pr} (h : kP s w < w.length) : strLt (w.getD (kP s w) p00).1 s = false := by
  have : (!ltS s w[kP s w]) = true := List.findIdx_getElem (w := h)
  rw [List.getD_eq_getElem?_getD, List.getElem?_eq_getElem h]
  exact not_t this
theorem kP_cons {s : Bs} {x : Pr} {l : List Pr} : kP s (x :: l) = if ltS s x = true then kP s l + 1 else 0 := by
  unfold kP
  rw [List.findIdx_cons]
  by_cases h : ltS s x = true
  · rw [if_pos h, h]; rfl
  · rw [if_neg h, show ltS s x = false by simpa using h]; rfl
theorem ins_td {s : Bs} : ∀ {v : List Pr} (_ : SrtP v) (_ : ∀ x ∈ v, x.1 ≠ s), v.filter (ltS s) = v.take (kP s v) ∧ v.filter (gtS s) = v.drop (kP s v)
  | [], _, _ => ⟨rfl, rfl⟩
  | x :: l, hd, hn => by
    obtain ⟨h1, h2⟩ := List.pairwise_cons.1 hd
    rw [kP_cons]
    by_cases e : ltS s x = true
    · obtain ⟨g1, g2⟩ := ins_td h2 fun y hy => hn y (List.mem_cons_of_mem _ hy)
      rw [if_pos e, List.filter_cons_of_pos e, List.filter_cons_of_neg (fun k => by_irr _ (by_trans (ltS_iff.1 e) (gtS_iff.1 k))), g1, g2]
      exact ⟨rfl, rfl⟩
    · have hx : by_ s < by_ x.1 := by
        rcases by_tri x.1 s with g | g | g
        · exact absurd (ltS_iff.2 g) e
        · exact absurd g (hn x (List.mem_cons_self ..))
        · exact g
      rw [if_neg e, List.filter_cons_of_neg e, List.filter_cons_of_pos (gtS_iff.2 hx)]
      refine ⟨?_, ?_⟩
      · exact List.filter_eq_nil_iff.2 fun y hy k => by_irr _ (by_trans (ltS_iff.1 k) (by_trans hx (h1 y hy)))
      · show x :: _ = x :: l
        congr 1
        exact List.filter_eq_self.2 fun y hy => gtS_iff.2 (by_trans hx (h1 y hy))
theorem set_td {m : List Pr} (h : SrtP m) (s : Bs) (n : Int) : setR m s n = (delR m s).take (kP s (delR m s)) ++ (s, n) :: (delR m s).drop (kP s (delR m s)) := by
  obtain ⟨g1, g2⟩ := ins_td (s := s) (h.delR s) fun x hx => (mem_delR.1 hx).1
  rw [← g1, ← g2]
  unfold setR delR
  rw [List.filter_filter, List.filter_filter]
  have e1 : ∀ x : Pr, ltS s x = (ltS s x && !decide (x.1 = s)) := fun x => by
    by_cases q : x.1 = s
    · have : ltS s x = false := by
        cases hl : ltS s x with
        | false => rfl
        | true => have := ltS_iff.1 hl; rw [q] at this; exact absurd this (by_irr _)
      rw [this]; rfl
    · simp [q]
  have e2 : ∀ x : Pr, gtS s x = (gtS s x && !decide (x.1 = s)) := fun x => by
    by_cases q : x.1 = s
    · have : gtS s x = false := by
        cases hl : gtS s x with
        | false => rfl
        | true => have := gtS_iff.1 hl; rw [q] at this; exact absurd this (by_irr _)
      rw [this]; rfl
    · simp [q]
  rw [← funext e1, ← funext e2]
theorem conFnd : ConOk Try.prog (conOf [(74, SRFind.T), (42, inl Try.prog (conOf []) Try.f42)]) :=
  conOf_cons (LSpec.call SRFind_nt SRFind_ok) (conOf_cons (inl_ok noGo mixed conOf_nil Try.func42 (by kernel_rfl)) conOf_nil)
theorem sz_t {s : Bs} (h : (!decide ((s.size : Int) ≤ 250)) = true) : ¬ s.size ≤ 250 := fun q => by
  rw [decide_eq_true (show (s.size : Int) ≤ 250 by omega)] at h
  cases h
theorem sz_f {s : Bs} (h : (!decide ((s.size : Int) ≤ 250)) = false) : s.size ≤ 250 := Decidable.byContradiction fun q => by
  rw [decide_eq_false (show ¬ (s.size : Int) ≤ 250 by omega)] at h
  cases h
def SRRemove : LSpec where
  X := List Pr × Bs
  k := 1
  pre x := x.1.length ≤ 1000000 ∧ SrtP x.1
  args x θ := [.sl (θ 0) 0 2 x.1.length false, .str x.2]
  objs x _ := [prR x.1]
  out x θ R := R (.tup [.sl (θ 1) 0 2 (remE x.1 x.2).1.length false, u64 (remE x.1 x.2).2.1, i64 (remE x.1 x.2).2.2]) [none, some (prR (remE x.1 x.2).1)]
theorem SRRemove_nt : SRRemove.Nt := ⟨fun _ _ => rfl, fun _ _ => rfl, fun _ _ _ h => h⟩
theorem SRRemove_ok : SRRemove.Ok Try.prog 68 := by
  refine LSpec.of_body noGo mixed conFnd Try.func68 rfl (by kernel_rfl) fun ⟨w, s⟩ R ⟨hlen, hd⟩ hR => ?_
  have hlen : w.length ≤ 1000000 := hlen
  have hd : SrtP w := hd
  have hQ : R (.tup [.sl 1 0 2 (remE w s).1.length false, u64 (remE w s).2.1, i64 (remE w s).2.2]) [none, some (prR (remE w s).1)] := hR
  show bodyP _ _ _ _ _ [.sl 0 0 2 w.length false, .str s] ⟨1, Tr.ofL 0 [prR w] .leaf⟩ _
  (conv => whnf)
  constructor
  · intro h
    have h := sz_t h
    have e : remE w s = (w, 0, 2) := by unfold remE getE; rw [if_neg h]; exact if_neg (by decide)
    rw [e] at hQ
    (conv => whnf)
    refine ⟨[some 0], _, _, hQ, ?_⟩
    (repeat' (first | exact True.intro | rfl | assumption | exact tn_ok rfl | exact tr_ok rfl | exact fun _ => rfl | (refine And.intro ?_ ?_) | (intro _ _; rfl) | ((conv => whnf); (first | exact True.intro | (refine And.intro ?_ ?_)))))
  intro h
  have h := sz_f h
  have hg := posP_get (w := w) h
  (conv => whnf)
  refine ⟨(w, s), [0], hlen, rfl, by (repeat' (first | exact True.intro | rfl | assumption | exact tn_ok rfl | exact tr_ok rfl | exact fun _ => rfl | (refine And.intro ?_ ?_) | (intro _ _; rfl) | ((conv => whnf); (first | exact True.intro | (refine And.intro ?_ ?_))))), by (repeat' (first | exact True.intro | rfl | assumption | exact tn_ok rfl | exact tr_ok rfl | exact fun _ => rfl | (refine And.intro ?_ ?_) | (intro _ _; rfl) | ((conv => whnf); (first | exact True.intro | (refine And.intro ?_ ?_))))), ?_⟩
  have hkl := posP_le (s := s) (w := w)
  (conv => whnf)
  constructor
  · intro h
    have h : fndI s w < 0 := of_decide_eq_true h
    have hp : ¬ posP s w < w.length := fun g => by unfold fndI at h; rw [if_pos g] at h; omega
    rw [if_neg hp] at hg
    have e : remE w s = (w, 0, 9) := by unfold remE; rw [hg]; exact if_neg (by decide)
    rw [e] at hQ
    (conv => whnf)
    refine ⟨[some 0], _, _, hQ, ?_⟩
    (repeat' (first | exact True.intro | rfl | assumption | exact tn_ok rfl | exact tr_ok rfl | exact fun _ => rfl | (refine And.intro ?_ ?_) | (intro _ _; rfl) | ((conv => whnf); (first | exact True.intro | (refine And.intro ?_ ?_)))))
  · intro h
    have h : ¬ fndI s w < 0 := of_decide_eq_false h
    have hp : posP s w < w.length := Decidable.byContradiction fun g => h (by unfold fndI; rw [if_neg g]; decide)
    have ea : fndI s w = (posP s w : Int) := by unfold fndI; rw [if_pos hp]
    rw [if_pos hp] at hg
    have e : remE w s = (delR w s, (w.getD (posP s w) p00).2, 0) := by unfold remE; rw [hg]; exact if_pos rfl
    rw [e] at hQ
    have hv := del_td hd hp
    have hdl : (delR w s).length + 1 = w.length := by rw [hv, List.length_append, List.length_take, List.length_drop]; omega
    rw [ea]
    generalize hk : posP s w = k at *
    (conv => whnf)
    refine ⟨by omega, ?_⟩
    (conv => whnf)
    rw [Int.toNat_natCast k]
    refine .inl ⟨Nat.zero_le k, hkl, .inr rfl, fun g => Bool.noConfusion g, ?_⟩
    have b1 : (0 : Int) ≤ (k : Int) ∧ (k : Int) < (w.length : Int) := ⟨by omega, by omega⟩
    have b2 : 0 + (k : Int).toNat < w.length := by rw [Int.toNat_natCast k]; omega
    have lt : (w.take k).length = k := by rw [List.length_take]; omega
    (conv => whnf)
    rw [wrap_inc hp (by omega)]
    refine ⟨by omega, ?_⟩
    rw [Int.toNat_natCast (k + 1)]
    by_cases hk2 : k + 1 < w.length
    · refine .inl ⟨by omega, Nat.le_refl _, .inl hk2, fun _ => rfl, ?_⟩
      (conv => whnf)
      refine ⟨b1.1, b1.2, ?_⟩
      (conv => whnf)
      refine ⟨b2, ?_⟩
      (conv => whnf)
      refine ⟨some (prF (w.take k)), ?_⟩
      (conv => whnf)
      refine ⟨by show 0 + 0 + (k - 0) ≤ w.length; omega, by show (k - 0) * (24 + 2) ≤ 1000000000; omega, fun q hq => ?_, ?_⟩
      · show prF (w.take k) q = prF w (0 + 0 + q)
        have hq : q < k := hq
        unfold prF
        rw [show 0 + 0 + q = q by omega, getD_take hq]
      (conv => whnf)
      rw [Nat.sub_zero]
      (repeat (first | refine And.intro rfl ?_ | fail))
      (conv => whnf)
      refine ⟨some (prF (delR w s)), ?_⟩
      (conv => whnf)
      refine ⟨by show 0 + (k + 1) + (w.length - (k + 1)) ≤ w.length; omega, by show 0 + k ≤ k; omega, by show (k + (w.length - (k + 1))) * (24 + 2) ≤ 1000000000; omega, fun q hq => ?_, ?_⟩
      · rw [hv]
        refine prF_app lt (fun q hq => ?_) (fun q => ?_) q
        · show prF (w.take k) (0 + q) = _
          rw [Nat.zero_add]
        · show prF w (0 + (k + 1) + q) = prF (w.drop (k + 1)) q
          unfold prF
          rw [getD_drop, Nat.zero_add]
      (conv => whnf)
      (repeat (first | refine And.intro rfl ?_ | fail))
      (conv => whnf)
      refine ⟨[some 2], _, _, hQ, ?_⟩
      (repeat' (first | exact True.intro | rfl | assumption | exact tn_ok rfl | exact tr_ok rfl | exact fun _ => rfl | (refine And.intro ?_ ?_) | (intro _ _; rfl) | ((conv => whnf); (first | exact True.intro | (refine And.intro ?_ ?_)))))
      all_goals first | (show (delR w s).length = _; omega) | (show (w.getD k p00).2 = (w.getD (0 + (k : Int).toNat) p00).2; rw [Int.toNat_natCast k, Nat.zero_add])
    · refine .inr ⟨by omega, by omega, rfl, rfl, rfl, ?_⟩
      (conv => whnf)
      refine ⟨b1.1, b1.2, ?_⟩
      (conv => whnf)
      refine ⟨b2, ?_⟩
      (conv => whnf)
      refine ⟨some (prF (w.take k)), ?_⟩
      (conv => whnf)
      refine ⟨by show 0 + 0 + (k - 0) ≤ w.length; omega, by show (k - 0) * (24 + 2) ≤ 1000000000; omega, fun q hq => ?_, ?_⟩
      · show prF (w.take k) q = prF w (0 + 0 + q)
        have hq : q < k := hq
        unfold prF
        rw [show 0 + 0 + q = q by omega, getD_take hq]
      (conv => whnf)
      rw [Nat.sub_zero]
      (repeat (first | refine And.intro rfl ?_ | fail))
      (conv => whnf)
      refine ⟨some (prF (delR w s)), ?_⟩
      (conv => whnf)
      refine ⟨by show 0 + k ≤ k; omega, by show (k + 0) * (24 + 2) ≤ 1000000000; omega, fun q hq => ?_, ?_⟩
      · rw [hv]
        have hq : q < k := hq
        show prF (w.take k ++ w.drop (k + 1)) q = appF k (fun q => prF (w.take k) (0 + q)) (fun _ => []) q
        unfold appF
        rw [show Nat.blt q k = true from Nat.ble_eq_true_of_le hq]
        simp only [cond_true, Nat.zero_add]
        unfold prF
        rw [getD_l (by omega)]
      (conv => whnf)
      (repeat (first | refine And.intro rfl ?_ | fail))
      (conv => whnf)
      refine ⟨[some 2], _, _, hQ, ?_⟩
      (repeat' (first | exact True.intro | rfl | assumption | exact tn_ok rfl | exact tr_ok rfl | exact fun _ => rfl | (refine And.intro ?_ ?_) | (intro _ _; rfl) | ((conv => whnf); (first | exact True.intro | (refine And.intro ?_ ?_)))))
      all_goals first | (show (delR w s).length = _; omega) | (show (w.getD k p00).2 = (w.getD (0 + (k : Int).toNat) p00).2; rw [Int.toNat_natCast k, Nat.zero_add])
theorem remE_del {m : List Pr} {s : Bs} (hs : s.size ≤ 250) : (remE m s).1 = delR m s := by
  unfold remE
  rw [posP_get hs]
  by_cases h : posP s m < m.length
  · rw [if_pos h]
    exact congrArg Prod.fst (if_pos rfl)
  · rw [if_neg h]
    refine (congrArg Prod.fst (if_neg (by decide))).trans ?_
    refine (delR_none fun x hx e => ?_).symm
    have e1 : posP s m = m.length := Nat.le_antisymm posP_le (Nat.le_of_not_lt h)
    unfold posP at e1
    rw [List.findIdx_eq_length] at e1
    have := e1 x hx
    simp at this
    exact this e
theorem conRSet : ConOk Try.prog (conOf [(68, SRRemove.T), (42, inl Try.prog (conOf []) Try.f42)]) :=
  conOf_cons (LSpec.call SRRemove_nt SRRemove_ok) (conOf_cons (inl_ok noGo mixed conOf_nil Try.func42 (by kernel_rfl)) conOf_nil)
def SRSet : LSpec where
  X := List Pr × Bs × Int
  k := 1
  pre x := x.1.length ≤ 1000000 ∧ SrtP x.1
  args x θ := [.sl (θ 0) 0 2 x.1.length false, .str x.2.1, u64 x.2.2]
  objs x _ := [prR x.1]
  out x θ R := R (.tup [.sl (θ 1) 0 2 (setE x.1 x.2.1 x.2.2).1.length false, i64 (setE x.1 x.2.1 x.2.2).2]) [none, some (prR (setE x.1 x.2.1 x.2.2).1)]
theorem SRSet_nt : SRSet.Nt := ⟨fun _ _ => rfl, fun _ _ => rfl, fun _ _ _ h => h⟩
theorem SRSet_ok : SRSet.Ok Try.prog 55 := by
  refine LSpec.of_bodyC [7] noGo mixed conRSet Try.func55 rfl (by kernel_rfl) fun ⟨w, s, n⟩ R ⟨hlen, hd⟩ hR => ?_
  have hlen : w.length ≤ 1000000 := hlen
  have hd : SrtP w := hd
  have hQ : R (.tup [.sl 1 0 2 (setE w s n).1.length false, i64 (setE w s n).2]) [none, some (prR (setE w s n).1)] := hR
  have hbad : ¬ (s.size ≤ 250 ∧ n ≠ 0) → R (.tup [.sl 1 0 2 w.length false, i64 2]) [none, some (prR w)] := fun g => by
    have e : setE w s n = (w, 2) := if_neg g
    rw [e] at hQ
    exact hQ
  show bodyP _ _ _ _ _ [.sl 0 0 2 w.length false, .str s, u64 n] ⟨1, Tr.ofL 0 [prR w] .leaf⟩ _
  (conv => whnf)
  constructor
  · intro h
    have h := sz_f h
    (conv => whnf)
    constructor
    · intro hn
      have hn : n = 0 := of_decide_eq_true hn
      have hb := hbad fun g => g.2 hn
      (conv => whnf)
      refine ⟨[some 0], _, _, hb, ?_⟩
      (repeat' (first | exact True.intro | rfl | assumption | exact tn_ok rfl | exact tr_ok rfl | exact fun _ => rfl | (refine And.intro ?_ ?_) | (intro _ _; rfl) | ((conv => whnf); (first | exact True.intro | (refine And.intro ?_ ?_)))))
    intro hn
    have hn : n ≠ 0 := of_decide_eq_false hn
    have e : setE w s n = (setR w s n, 0) := if_pos ⟨h, hn⟩
    rw [e] at hQ
    have hrd := remE_del (m := w) h
    (conv => whnf)
    refine ⟨(w, s), [0], ⟨hlen, hd⟩, rfl, by (repeat' (first | exact True.intro | rfl | assumption | exact tn_ok rfl | exact tr_ok rfl | exact fun _ => rfl | (refine And.intro ?_ ?_) | (intro _ _; rfl) | ((conv => whnf); (first | exact True.intro | (refine And.intro ?_ ?_))))), by (repeat' (first | exact True.intro | rfl | assumption | exact tn_ok rfl | exact tr_ok rfl | exact fun _ => rfl | (refine And.intro ?_ ?_) | (intro _ _; rfl) | ((conv => whnf); (first | exact True.intro | (refine And.intro ?_ ?_))))), ?_⟩
    have hsv := hd.delR s
    have hvl : (delR w s).length ≤ w.length := List.length_filter_le ..
    have hst := set_td hd s n
    have hsl := setR_del hd s n
    (conv => whnf)
    rw [show (remE (w, s).1 (w, s).2).1 = delR w s from hrd]
    generalize delR w s = v at *
    have hkl := kP_le (s := s) (w := v)
    refine ⟨Unit, fun _ => [(0, .sl 1 0 2 v.length false), (1, .str s), (2, u64 n), (8, i64 (kP s v : Nat))], fun _ => [none, some (prR v)], fun _ => True, 2, fun _ => rfl, ?_, fun _ _ => ?_⟩
    · (conv => whnf)
      refine .inl ⟨Nat, fun i => [(0, .sl 1 0 2 v.length false), (1, .str s), (2, u64 n), (8, i64 i)], fun _ => [none, some (prR v)], fun i => v.length - i, fun i => i ≤ kP s v, 2, ⟨0, [some 1], Nat.zero_le _, ?_⟩, fun _ => rfl, fun i hi => ?_⟩
      · (repeat' (first | exact True.intro | rfl | assumption | exact tn_ok rfl | exact tr_ok rfl | exact fun _ => rfl | (refine And.intro ?_ ?_) | (intro _ _; rfl) | ((conv => whnf); (first | exact True.intro | (refine And.intro ?_ ?_)))))
      have hi : i ≤ kP s v := hi
      have ei := zero_add_toNat i
      (conv => whnf)
      constructor
      · intro h
        have h : i < v.length := by have : (i : Int) < (v.length : Int) := of_decide_eq_true h; omega
        have hiN : 0 + ((i : Nat) : Int).toNat < v.length := by rw [ei]; exact h
        (conv => whnf)
        refine ⟨by show (0 : Int) ≤ (i : Int); omega, by show (i : Int) < (v.length : Int); omega, ?_⟩
        (conv => whnf)
        refine ⟨hiN, ?_⟩
        rw [ei]
        (conv => whnf)
        constructor
        · intro hlt
          have e : i < kP s v := by
            rcases Nat.lt_or_ge i (kP s v) with g | g
            · exact g
            · have e : i = kP s v := by omega
              have hlt : strLt (v.getD i p00).1 s = true := hlt
              rw [e] at h hlt
              rw [kP_at h] at hlt
              cases hlt
          (conv => whnf)
          refine ⟨i + 1, [some 1], by show v.length - (i + 1) < v.length - i; omega, e, ?_⟩
          (repeat' (first | exact True.intro | rfl | assumption | exact tn_ok rfl | exact tr_ok rfl | exact fun _ => rfl | (refine And.intro ?_ ?_) | (intro _ _; rfl) | ((conv => whnf); (first | exact True.intro | (refine And.intro ?_ ?_)))))
          exact (wrap_inc h (by omega)).symm
        · intro hlt
          have e : i = kP s v := by
            rcases Nat.lt_or_ge i (kP s v) with g | g
            · have hlt : strLt (v.getD i p00).1 s = false := hlt
              rw [kP_lt g] at hlt
              cases hlt
            · omega
          (conv => whnf)
          refine ⟨(), [some 1], trivial, ?_⟩
          (repeat' (first | exact True.intro | rfl | assumption | exact tn_ok rfl | exact tr_ok rfl | exact fun _ => rfl | (refine And.intro ?_ ?_) | (intro _ _; rfl) | ((conv => whnf); (first | exact True.intro | (refine And.intro ?_ ?_)))))
          all_goals (show ((kP s v : Nat) : Int) = (i : Int); rw [e])
      · intro h
        have h : ¬ i < v.length := by have : ¬ (i : Int) < (v.length : Int) := of_decide_eq_false h; omega
        have e : i = kP s v := by omega
        (conv => whnf)
        refine ⟨(), [some 1], trivial, ?_⟩
        (repeat' (first | exact True.intro | rfl | assumption | exact tn_ok rfl | exact tr_ok rfl | exact fun _ => rfl | (refine And.intro ?_ ?_) | (intro _ _; rfl) | ((conv => whnf); (first | exact True.intro | (refine And.intro ?_ ?_)))))
        all_goals (show ((kP s v : Nat) : Int) = (i : Int); rw [e])
    · generalize hk : kP s v = k at *
      have lt : (v.take k).length = k := by rw [List.length_take]; omega
      have hfst : ∀ q, q < 1 → chunk [.str s, u64 n] 2 (0 + q) = prF [(s, n)] q := fun q hq => by
        have e : q = 0 := Nat.lt_one_iff.1 hq
        rw [e]
        rfl
      have lr : ((s, n) :: v.drop k).length = 1 + (v.length - k) := by rw [List.length_cons, List.length_drop]; omega
      have hrv : ∀ q, prF ((s, n) :: v.drop k) q = appF 1 (fun q => chunk [.str s, u64 n] 2 (0 + q)) (fun q => prF v (0 + k + q)) q := fun q => by
        refine prF_app (L := [(s, n)]) (M := v.drop k) rfl hfst (fun q => ?_) q
        unfold prF
        rw [getD_drop, Nat.zero_add]
      (conv => whnf)
      refine ⟨by omega, ?_⟩
      rw [Int.toNat_natCast k]
      by_cases hkw : k < v.length ∨ k = 0
      · refine .inl ⟨hkl, Nat.le_refl _, hkw, fun _ => rfl, ?_⟩
        (conv => whnf)
        refine ⟨some (prF ((s, n) :: v.drop k)), ?_⟩
        (conv => whnf)
        refine ⟨by omega, by show 0 + 1 ≤ 1; omega, by show (1 + (v.length - k)) * (24 + 2) ≤ 1000000000; omega, fun q _ => hrv q, ?_⟩
        (conv => whnf)
        refine ⟨Int.natCast_nonneg _, ?_⟩
        (conv => whnf)
        rw [Int.toNat_natCast k]
        refine .inl ⟨Nat.zero_le k, hkl, .inr rfl, fun g => Bool.noConfusion g, ?_⟩
        (conv => whnf)
        refine ⟨some (prF (v.take k)), ?_⟩
        (conv => whnf)
        refine ⟨by show 0 + 0 + (k - 0) ≤ v.length; omega, by show (k - 0) * (24 + 2) ≤ 1000000000; omega, fun q hq => ?_, ?_⟩
        · show prF (v.take k) q = prF v (0 + 0 + q)
          have hq : q < k := hq
          unfold prF
          rw [show 0 + 0 + q = q by omega, getD_take hq]
        (conv => whnf)
        rw [Nat.sub_zero]
        (repeat (first | refine And.intro rfl ?_ | fail))
        (conv => whnf)
        refine ⟨some (prF (setR w s n)), ?_⟩
        (conv => whnf)
        refine ⟨by omega, by show 0 + k ≤ k; omega, by show (k + (1 + (v.length - k))) * (24 + 2) ≤ 1000000000; omega, fun q hq => ?_, ?_⟩
        · rw [hst]
          refine prF_app lt (fun q hq => ?_) (fun q => ?_) q
          · show prF (v.take k) (0 + q) = _
            rw [Nat.zero_add]
          · show prF ((s, n) :: v.drop k) (0 + q) = _
            rw [Nat.zero_add]
        (conv => whnf)
        (repeat (first | refine And.intro rfl ?_ | fail))
        (conv => whnf)
        refine ⟨[some 5], _, _, hQ, ?_⟩
        (repeat' (first | exact True.intro | rfl | assumption | exact tn_ok rfl | exact tr_ok rfl | exact fun _ => rfl | (refine And.intro ?_ ?_) | (intro _ _; rfl) | ((conv => whnf); (first | exact True.intro | (refine And.intro ?_ ?_)))))
        all_goals (show (setR w s n).length = _; omega)
      · refine .inr ⟨by omega, by omega, rfl, rfl, rfl, ?_⟩
        have ev : v.drop k = [] := List.drop_eq_nil_of_le (by omega)
        (conv => whnf)
        refine ⟨some (prF ((s, n) :: v.drop k)), ?_⟩
        (conv => whnf)
        refine ⟨by show 0 + 1 ≤ 1; omega, by show (1 + 0) * (24 + 2) ≤ 1000000000; omega, fun q hq => ?_, ?_⟩
        · have hq : q < 1 := hq
          have e : q = 0 := Nat.lt_one_iff.1 hq
          rw [e]
          rfl
        (conv => whnf)
        refine ⟨Int.natCast_nonneg _, ?_⟩
        (conv => whnf)
        rw [Int.toNat_natCast k]
        refine .inl ⟨Nat.zero_le k, hkl, .inr rfl, fun g => Bool.noConfusion g, ?_⟩
        (conv => whnf)
        refine ⟨some (prF (v.take k)), ?_⟩
        (conv => whnf)
        refine ⟨by show 0 + 0 + (k - 0) ≤ v.length; omega, by show (k - 0) * (24 + 2) ≤ 1000000000; omega, fun q hq => ?_, ?_⟩
        · show prF (v.take k) q = prF v (0 + 0 + q)
          have hq : q < k := hq
          unfold prF
          rw [show 0 + 0 + q = q by omega, getD_take hq]
        (conv => whnf)
        rw [Nat.sub_zero]
        (repeat (first | refine And.intro rfl ?_ | fail))
        (conv => whnf)
        refine ⟨some (prF (setR w s n)), ?_⟩
        (conv => whnf)
        refine ⟨by omega, by show 0 + k ≤ k; omega, by show (k + (1 + 0)) * (24 + 2) ≤ 1000000000; omega, fun q hq => ?_, ?_⟩
        · rw [hst]
          refine prF_app lt (fun q hq => ?_) (fun q => ?_) q
          · show prF (v.take k) (0 + q) = _
            rw [Nat.zero_add]
          · show prF ((s, n) :: v.drop k) (0 + q) = _
            rw [Nat.zero_add]
        (conv => whnf)
        (repeat (first | refine And.intro rfl ?_ | fail))
        (conv => whnf)
        refine ⟨[some 5], _, _, hQ, ?_⟩
        (repeat' (first | exact True.intro | rfl | assumption | exact tn_ok rfl | exact tr_ok rfl | exact fun _ => rfl | (refine And.intro ?_ ?_) | (intro _ _; rfl) | ((conv => whnf); (first | exact True.intro | (refine And.intro ?_ ?_)))))
        all_goals (show (setR w s n).length = _; omega)
  · intro h
    have h := sz_t h
    have hb := hbad fun g => h g.1
    (conv => whnf)
    refine ⟨[some 0], _, _, hb, ?_⟩
    (repeat' (first | exact True.intro | rfl | assumption | exact tn_ok rfl | exact tr_ok rfl | exact fun _ => rfl | (refine And.intro ?_ ?_) | (intro _ _; rfl) | ((conv => whnf); (first | exact True.intro | (refine And.intro ?_ ?_)))))
end Go.Proofs.Ytagpkejbbmpcgaa
