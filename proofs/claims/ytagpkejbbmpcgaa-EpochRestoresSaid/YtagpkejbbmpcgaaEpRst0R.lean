/- Right of the reference and Same, over memory that is only read. -/
import Derived.Test.YtagpkejbbmpcgaaEpRes0R
import Derived.Test.YtagpkejbbmpcgaaEpSameR
import Derived.Test.YtagpkejbbmpcgaaSyZR
namespace Go.Proofs.Ytagpkejbbmpcgaa
open Go Go.RowKit Sy Ti
set_option maxRecDepth 100000
set_option maxHeartbeats 8000000

def fzP (Z : Nat → Option Obj) : SObj := .fz Z
def ZP (Z : Nat → Option Obj) (p : Option (Nat × Nat)) (l : List Pr) : Prop := FzRow Z p 2 (fun j => [.str (l.getD j p00).1, u64 (l.getD j p00).2]) l.length
theorem ZP.at_ {Z : Nat → Option Obj} {p : Option (Nat × Nat)} {l : List Pr} (h : ZP Z p l) {k : Nat} (hk : k < l.length) : ∃ b off, p = some (b, off) ∧ FzAt Z b (off + k * 2) [.str (l.getD k p00).1, u64 (l.getD k p00).2] ∧ FzAt Z b (off + k * 2 + 1) [u64 (l.getD k p00).2] := by
  obtain ⟨b, off, hp, hat⟩ := FzRow.at_ h hk
  exact ⟨b, off, hp, hat, hat.drop 1 (by show 1 ≤ 2; omega)⟩
structure RgX where
  f : Int
  last : Int
  Z : Nat → Option Obj
  p : Option (Nat × Nat)
  c : Nat
  l : List Pr
/-- Up to an index a list is right. -/
structure RgI (f last : Int) (l : List Pr) (i : Nat) : Prop where
  rng : ∀ j, j < i → (l.getD j p00).1.size ≤ 250 ∧ f < (l.getD j p00).2 ∧ (l.getD j p00).2 ≤ last
  srt : ∀ k j, k < j → j < i → by_ (l.getD k p00).1 < by_ (l.getD j p00).1
  prs : ∀ k j, k < j → j < i → (l.getD k p00).2 ≠ (l.getD j p00).2 ∧ (Pre (l.getD k p00).1 (l.getD j p00).1 → (l.getD k p00).2 ≤ (l.getD j p00).2)
theorem getD_el {l : List Pr} {j : Nat} (h : j < l.length) : l.getD j p00 = l[j] := by
  rw [List.getD_eq_getElem?_getD, List.getElem?_eq_getElem h]
  rfl
theorem RgI.right {f last : Int} {l : List Pr} (h : RgI f last l l.length) (hl : f ≤ last) : RightP f last l := by
  have hs : SrtP l := List.pairwise_iff_getElem.2 fun i j hi hj hij => by
    have := h.srt i j hij hj
    rw [getD_el hi, getD_el hj] at this
    exact this
  have hin : ∀ x ∈ l, ∃ j, j < l.length ∧ x = l.getD j p00 := fun x hx => by
    obtain ⟨j, hj, e⟩ := List.mem_iff_getElem.1 hx
    exact ⟨j, hj, by rw [getD_el hj]; exact e.symm⟩
  refine ⟨hl, hs, fun x hx => ?_, fun x hx y hy hne => ?_, fun x hx y hy hne hp => ?_⟩
  · obtain ⟨j, hj, rfl⟩ := hin x hx
    exact h.rng j hj
  · obtain ⟨j, hj, rfl⟩ := hin x hx
    obtain ⟨k, hk, rfl⟩ := hin y hy
    rcases Nat.lt_trichotomy j k with q | rfl | q
    · exact (h.prs j k q hk).1
    · exact absurd rfl hne
    · exact fun e => (h.prs k j q hj).1 e.symm
  · obtain ⟨j, hj, rfl⟩ := hin x hx
    obtain ⟨k, hk, rfl⟩ := hin y hy
    rcases Nat.lt_trichotomy j k with q | rfl | q
    · have h1 := h.srt j k q hk
      have h2 : by_ (l.getD j p00).1 < by_ (l.getD j p00).1 := by
        rcases Nat.lt_or_ge (l.getD k p00).1.size (l.getD j p00).1.size with g | g
        · exact by_trans h1 (lt_pre hp g)
        · have e : by_ (l.getD k p00).1 = by_ (l.getD j p00).1 := List.IsPrefix.eq_of_length_le hp (by rw [by_len, by_len]; exact g)
          rw [e] at h1
          exact h1
      exact absurd h2 (by_irr _)
    · exact absurd rfl hne
    · obtain ⟨g1, g2⟩ := h.prs k j q hj
      have := g2 hp
      omega
theorem RightP.at_ {f last : Int} {l : List Pr} (h : RightP f last l) : RgI f last l l.length := by
  have hin : ∀ {j}, j < l.length → l.getD j p00 ∈ l := fun hj => by rw [getD_el hj]; exact List.getElem_mem hj
  have hs : ∀ k j, k < j → j < l.length → by_ (l.getD k p00).1 < by_ (l.getD j p00).1 := fun k j hkj hj => by
    have := List.pairwise_iff_getElem.1 h.srt k j (by omega) hj hkj
    rw [getD_el hj, getD_el (show k < l.length by omega)]
    exact this
  have hne : ∀ k j, k < j → j < l.length → l.getD k p00 ≠ l.getD j p00 := fun k j hkj hj e => by
    have := hs k j hkj hj
    rw [e] at this
    exact by_irr _ this
  refine ⟨fun j hj => h.rng _ (hin hj), hs, fun k j hkj hj => ⟨h.dis _ (hin (by omega)) _ (hin hj) (hne k j hkj hj), fun hp => ?_⟩⟩
  have := h.pre _ (hin hj) _ (hin (show k < l.length by omega)) (fun e => hne k j hkj hj e.symm) hp
  omega
theorem conERi : ConOk Try.prog (conOf [(42, inl Try.prog (conOf []) Try.f42), (19, SHp.T)]) :=
  conOf_cons (inl_ok noGo mixed conOf_nil Try.func42 (by kernel_rfl)) (conOf_cons (LSpec.call SHp_nt SHas20_ok) conOf_nil)
def ERightZ : LSpec where
  X := RgX
  k := 1
  pre x := ZP x.Z x.p x.l ∧ x.l.length ≤ 1000
  args x θ := [u64 x.f, u64 x.last, .zsl (θ 0) x.p 2 x.l.length x.c]
  objs x _ := [fzP x.Z]
  out x _ R := (RightP x.f x.last x.l → R (.sb true) [some (fzP x.Z)]) ∧ (¬ RightP x.f x.last x.l → R (.sb false) [some (fzP x.Z)])
theorem ERightZ_nt : ERightZ.Nt := ⟨fun _ _ => rfl, fun _ _ => rfl, fun _ _ _ h => h⟩
theorem ERightZ_ok : ERightZ.Ok Try.prog 25 := by
  refine LSpec.of_bodyC [7] noGo mixed conERi Try.func25 rfl (by kernel_rfl) fun ⟨f, last, Z, p, c, l⟩ R ⟨hz, hlen⟩ hR => ?_
  have hz : ZP Z p l := hz
  have hlen : l.length ≤ 1000 := hlen
  have hQ1 : RightP f last l → R (.sb true) [some (fzP Z)] := hR.1
  have hQ2 : ¬ RightP f last l → R (.sb false) [some (fzP Z)] := hR.2
  clear hR
  show bodyP _ _ _ _ _ [u64 f, u64 last, .zsl 0 p 2 l.length c] ⟨1, Tr.ofL 0 [fzP Z] .leaf⟩ _
  (conv => whnf)
  refine .inl ⟨Nat, fun i => [(0, u64 f), (1, u64 last), (2, .zsl 0 p 2 l.length c), (7, i64 i)], fun i => [some (fzP Z)], fun i => l.length - i, fun i => i ≤ l.length ∧ RgI f last l i, 1, ⟨0, [], ⟨Nat.zero_le _, ⟨fun _ h => absurd h (Nat.not_lt_zero _), fun _ _ _ h => absurd h (Nat.not_lt_zero _), fun _ _ _ h => absurd h (Nat.not_lt_zero _)⟩⟩, ?_⟩, fun _ => rfl, fun i hi0 => ?_⟩
  · (repeat' (first | exact True.intro | rfl | assumption | exact tn_ok rfl | exact tr_ok rfl | exact fun _ => rfl | (refine And.intro ?_ ?_) | (intro _ _; rfl) | ((conv => whnf); (first | exact True.intro | (refine And.intro ?_ ?_)))))
  have hi : i ≤ l.length := hi0.1
  have hg : RgI f last l i := hi0.2
  clear hi0
  have ei : ((i : Nat) : Int).toNat = i := Int.toNat_natCast i
  (conv => whnf)
  constructor
  rotate_left
  · intro g
    have g : i = l.length := by have : ¬ (i : Int) < (l.length : Int) := of_decide_eq_false g; omega
    subst g
    (conv => whnf)
    by_cases hl : f ≤ last
    · have hF := hQ1 (hg.right hl)
      refine ⟨[], _, _, hF, ?_⟩
      (repeat' (first | exact True.intro | rfl | assumption | exact tn_ok rfl | exact tr_ok rfl | exact fun _ => rfl | (refine And.intro ?_ ?_) | (intro _ _; rfl) | ((conv => whnf); (first | exact True.intro | (refine And.intro ?_ ?_)))))
      all_goals exact (decide_eq_true hl).symm
    · have hF := hQ2 fun h => hl h.le
      refine ⟨[], _, _, hF, ?_⟩
      (repeat' (first | exact True.intro | rfl | assumption | exact tn_ok rfl | exact tr_ok rfl | exact fun _ => rfl | (refine And.intro ?_ ?_) | (intro _ _; rfl) | ((conv => whnf); (first | exact True.intro | (refine And.intro ?_ ?_)))))
      all_goals exact (decide_eq_false hl).symm
  intro g
  have g : i < l.length := by have : (i : Int) < (l.length : Int) := of_decide_eq_true g; omega
  have b1 : (0 : Int) ≤ (i : Int) ∧ (i : Int) < (l.length : Int) := ⟨by omega, by omega⟩
  have hbad : ¬ RgI f last l (i + 1) → R (.sb false) [some (fzP Z)] := fun h => hQ2 fun hr => h ⟨fun j hj => hr.at_.rng j (by omega), fun k j h1 h2 => hr.at_.srt k j h1 (by omega), fun k j h1 h2 => hr.at_.prs k j h1 (by omega)⟩
  refine exIt (hz.at_ g) fun bb hb1 => exIt hb1 fun oo hb2 => ?_
  have hat : FzAt Z bb (oo + (i : Int).toNat * 2) [.str (l.getD i p00).1, u64 (l.getD i p00).2] := by rw [ei]; exact hb2.2.1
  (conv => whnf)
  refine ⟨b1.1, b1.2, bb, oo, hb2.1, ?_⟩
  (conv => whnf)
  refine ⟨_, hat, ?_⟩
  (conv => whnf)
  refine ⟨Unit, fun _ => [(0, u64 f), (1, u64 last), (2, .zsl 0 p 2 l.length c), (7, i64 i), (8, .ptr 1 0)], fun _ => [some (fzP Z), some (.cells [.str (l.getD i p00).1, u64 (l.getD i p00).2] 32)], fun _ => ((l.getD i p00).1.size ≤ 250 ∧ f < (l.getD i p00).2 ∧ (l.getD i p00).2 ≤ last) ∧ ∀ k, k < i → by_ (l.getD k p00).1 < by_ (l.getD i p00).1, 2, fun _ => rfl, ?_, fun _ hs => ?_⟩
  · (conv => whnf)
    constructor
    rotate_left
    · intro h
      have h : ¬ (l.getD i p00).1.size ≤ 250 := fun q => by
        have h : (!decide (((l.getD i p00).1.size : Int) ≤ 250)) = true := h
        rw [decide_eq_true (by omega)] at h
        cases h
      have hF := hbad fun q => h (q.rng i (Nat.lt_succ_self i)).1
      (conv => whnf)
      refine ⟨[], _, _, hF, ?_⟩
      (repeat' (first | exact True.intro | rfl | assumption | exact tn_ok rfl | exact tr_ok rfl | exact fun _ => rfl | (refine And.intro ?_ ?_) | (intro _ _; rfl) | ((conv => whnf); (first | exact True.intro | (refine And.intro ?_ ?_)))))
    intro h1
    have h1 : (l.getD i p00).1.size ≤ 250 := by
      have h1 : (!decide (((l.getD i p00).1.size : Int) ≤ 250)) = false := h1
      have := of_decide_eq_true (not_f h1)
      omega
    (conv => whnf)
    constructor
    rotate_left
    · intro h
      have h : (l.getD i p00).2 ≤ f := of_decide_eq_true h
      have hF := hbad fun q => by have := (q.rng i (Nat.lt_succ_self i)).2.1; omega
      (conv => whnf)
      refine ⟨[], _, _, hF, ?_⟩
      (repeat' (first | exact True.intro | rfl | assumption | exact tn_ok rfl | exact tr_ok rfl | exact fun _ => rfl | (refine And.intro ?_ ?_) | (intro _ _; rfl) | ((conv => whnf); (first | exact True.intro | (refine And.intro ?_ ?_)))))
    intro h2
    have h2 : f < (l.getD i p00).2 := by have : ¬ (l.getD i p00).2 ≤ f := of_decide_eq_false h2; omega
    (conv => whnf)
    constructor
    rotate_left
    · intro h
      have h : (l.getD i p00).2 > last := of_decide_eq_true h
      have hF := hbad fun q => by have := (q.rng i (Nat.lt_succ_self i)).2.2; omega
      (conv => whnf)
      refine ⟨[], _, _, hF, ?_⟩
      (repeat' (first | exact True.intro | rfl | assumption | exact tn_ok rfl | exact tr_ok rfl | exact fun _ => rfl | (refine And.intro ?_ ?_) | (intro _ _; rfl) | ((conv => whnf); (first | exact True.intro | (refine And.intro ?_ ?_)))))
    intro h3
    have h3 : (l.getD i p00).2 ≤ last := by have : ¬ (l.getD i p00).2 > last := of_decide_eq_false h3; omega
    (conv => whnf)
    constructor
    · intro h4
      have h4 : 0 < i := by have : (i : Int) > 0 := of_decide_eq_true h4; omega
      have e4 : IntKind.i64.wrap ((i : Int) - 1) = ((i - 1 : Nat) : Int) := by rw [wrap_id (by omega) (by omega)]; omega
      refine exIt (hz.at_ (show i - 1 < l.length by omega)) fun bb2 hb3 => exIt hb3 fun oo2 hb4 => ?_
      have hat2 : FzAt Z bb2 (oo2 + (IntKind.i64.wrap ((i : Int) - 1)).toNat * 2) [.str (l.getD (i - 1) p00).1, u64 (l.getD (i - 1) p00).2] := by rw [e4]; exact hb4.2.1
      (conv => whnf)
      refine ⟨by rw [e4]; omega, by rw [e4]; omega, bb2, oo2, hb4.1, ?_⟩
      (conv => whnf)
      refine ⟨_, hat2, ?_⟩
      (conv => whnf)
      constructor
      · intro h
        have h : (!strLt (l.getD (i - 1) p00).1 (l.getD i p00).1) = true := h
        have hF := hbad fun q => by
          have := strLt_iff.2 (q.srt (i - 1) i (by omega) (Nat.lt_succ_self i))
          rw [this] at h
          cases h
        (conv => whnf)
        refine ⟨[], _, _, hF, ?_⟩
        (repeat' (first | exact True.intro | rfl | assumption | exact tn_ok rfl | exact tr_ok rfl | exact fun _ => rfl | (refine And.intro ?_ ?_) | (intro _ _; rfl) | ((conv => whnf); (first | exact True.intro | (refine And.intro ?_ ?_)))))
      · intro h
        have h : strLt (l.getD (i - 1) p00).1 (l.getD i p00).1 = true := not_f h
        have h : by_ (l.getD (i - 1) p00).1 < by_ (l.getD i p00).1 := strLt_iff.1 h
        (conv => whnf)
        refine ⟨(), [some 1], ⟨⟨h1, h2, h3⟩, fun k hk => ?_⟩, ?_⟩
        · rcases Nat.lt_or_ge k (i - 1) with q | q
          · exact by_trans (hg.srt k (i - 1) q (by omega)) h
          · obtain rfl : k = i - 1 := by omega
            exact h
        (repeat' (first | exact True.intro | rfl | assumption | exact tn_ok rfl | exact tr_ok rfl | exact fun _ => rfl | (refine And.intro ?_ ?_) | (intro _ _; rfl) | ((conv => whnf); (first | exact True.intro | (refine And.intro ?_ ?_)))))
    · intro h4
      have h4 : i = 0 := by have : ¬ (i : Int) > 0 := of_decide_eq_false h4; omega
      (conv => whnf)
      refine ⟨(), [some 1], ⟨⟨h1, h2, h3⟩, fun k hk => absurd hk (by omega)⟩, ?_⟩
      (repeat' (first | exact True.intro | rfl | assumption | exact tn_ok rfl | exact tr_ok rfl | exact fun _ => rfl | (refine And.intro ?_ ?_) | (intro _ _; rfl) | ((conv => whnf); (first | exact True.intro | (refine And.intro ?_ ?_)))))
  have hs1 : (l.getD i p00).1.size ≤ 250 ∧ f < (l.getD i p00).2 ∧ (l.getD i p00).2 ≤ last := hs.1
  have hs2 : ∀ k, k < i → by_ (l.getD k p00).1 < by_ (l.getD i p00).1 := hs.2
  clear hs
  (conv => whnf)
  refine .inl ⟨Nat, fun k => [(0, u64 f), (1, u64 last), (2, .zsl 0 p 2 l.length c), (7, i64 i), (8, .ptr 1 0), (9, i64 k)], fun _ => [some (fzP Z), some (.cells [.str (l.getD i p00).1, u64 (l.getD i p00).2] 32)], fun k => i - k, fun k => k ≤ i ∧ ∀ j, j < k → (l.getD j p00).2 ≠ (l.getD i p00).2 ∧ (Pre (l.getD j p00).1 (l.getD i p00).1 → (l.getD j p00).2 ≤ (l.getD i p00).2), 2, ⟨0, [some 1], ⟨Nat.zero_le _, fun _ h => absurd h (Nat.not_lt_zero _)⟩, ?_⟩, fun _ => rfl, fun k hk0 => ?_⟩
  · (repeat' (first | exact True.intro | rfl | assumption | exact tn_ok rfl | exact tr_ok rfl | exact fun _ => rfl | (refine And.intro ?_ ?_) | (intro _ _; rfl) | ((conv => whnf); (first | exact True.intro | (refine And.intro ?_ ?_)))))
  have hk : k ≤ i := hk0.1
  have hp : ∀ j, j < k → (l.getD j p00).2 ≠ (l.getD i p00).2 ∧ (Pre (l.getD j p00).1 (l.getD i p00).1 → (l.getD j p00).2 ≤ (l.getD i p00).2) := hk0.2
  clear hk0
  have ek : ((k : Nat) : Int).toNat = k := Int.toNat_natCast k
  (conv => whnf)
  constructor
  rotate_left
  · intro gk
    have gk : k = i := by have : ¬ (k : Int) < (i : Int) := of_decide_eq_false gk; omega
    subst gk
    (conv => whnf)
    refine ⟨k + 1, [], by show l.length - (k + 1) < l.length - k; omega, ⟨by show k + 1 ≤ l.length; omega, ⟨fun j hj => ?_, fun a j ha hj => ?_, fun a j ha hj => ?_⟩⟩, ?_⟩
    · rcases Nat.lt_or_ge j k with q | q
      · exact hg.rng j q
      · obtain rfl : j = k := by omega
        exact hs1
    · rcases Nat.lt_or_ge j k with q | q
      · exact hg.srt a j ha q
      · obtain rfl : j = k := by omega
        exact hs2 a ha
    · rcases Nat.lt_or_ge j k with q | q
      · exact hg.prs a j ha q
      · obtain rfl : j = k := by omega
        exact hp a ha
    (repeat' (first | exact True.intro | rfl | assumption | exact tn_ok rfl | exact tr_ok rfl | exact fun _ => rfl | (refine And.intro ?_ ?_) | (intro _ _; rfl) | ((conv => whnf); (first | exact True.intro | (refine And.intro ?_ ?_)))))
    all_goals exact (wrap_inc g (by omega)).symm
  intro gk
  have gk : k < i := by have : (k : Int) < (i : Int) := of_decide_eq_true gk; omega
  have b2 : (0 : Int) ≤ (k : Int) ∧ (k : Int) < (l.length : Int) := ⟨by omega, by omega⟩
  refine exIt (hz.at_ (show k < l.length by omega)) fun bb2 hb3 => exIt hb3 fun oo2 hb4 => ?_
  have hat2 : FzAt Z bb2 (oo2 + (k : Int).toNat * 2) [.str (l.getD k p00).1, u64 (l.getD k p00).2] := by rw [ek]; exact hb4.2.1
  have hat3 : FzAt Z bb2 (oo2 + (k : Int).toNat * 2 + 1) [u64 (l.getD k p00).2] := by rw [ek]; exact hb4.2.2
  (conv => whnf)
  refine ⟨b2.1, b2.2, bb2, oo2, hb4.1, ?_⟩
  (conv => whnf)
  refine ⟨_, hat3, ?_⟩
  (conv => whnf)
  constructor
  rotate_left
  · intro h
    have h : (l.getD k p00).2 = (l.getD i p00).2 := of_decide_eq_true h
    have hF := hbad fun q => (q.prs k i gk (Nat.lt_succ_self i)).1 h
    (conv => whnf)
    refine ⟨[], _, _, hF, ?_⟩
    (repeat' (first | exact True.intro | rfl | assumption | exact tn_ok rfl | exact tr_ok rfl | exact fun _ => rfl | (refine And.intro ?_ ?_) | (intro _ _; rfl) | ((conv => whnf); (first | exact True.intro | (refine And.intro ?_ ?_)))))
  intro h1
  have h1 : ¬ (l.getD k p00).2 = (l.getD i p00).2 := of_decide_eq_false h1
  (conv => whnf)
  refine ⟨b2.1, b2.2, bb2, oo2, hb4.1, ?_⟩
  (conv => whnf)
  refine ⟨_, hat2, ?_⟩
  (conv => whnf)
  refine ⟨((l.getD i p00).1, (l.getD k p00).1), [], trivial, rfl, by (repeat' (first | exact True.intro | rfl | assumption | exact tn_ok rfl | exact tr_ok rfl | exact fun _ => rfl | (refine And.intro ?_ ?_) | (intro _ _; rfl) | ((conv => whnf); (first | exact True.intro | (refine And.intro ?_ ?_))))), by (repeat' (first | exact True.intro | rfl | assumption | exact tn_ok rfl | exact tr_ok rfl | exact fun _ => rfl | (refine And.intro ?_ ?_) | (intro _ _; rfl) | ((conv => whnf); (first | exact True.intro | (refine And.intro ?_ ?_))))), ?_⟩
  (conv => whnf)
  constructor
  · intro h2
    have h2 : Pre (l.getD k p00).1 (l.getD i p00).1 := of_decide_eq_true h2
    (conv => whnf)
    refine ⟨b2.1, b2.2, bb2, oo2, hb4.1, ?_⟩
    (conv => whnf)
    refine ⟨_, hat3, ?_⟩
    (conv => whnf)
    constructor
    · intro h
      have h : (l.getD k p00).2 > (l.getD i p00).2 := of_decide_eq_true h
      have hF := hbad fun q => by have := (q.prs k i gk (Nat.lt_succ_self i)).2 h2; omega
      (conv => whnf)
      refine ⟨[], _, _, hF, ?_⟩
      (repeat' (first | exact True.intro | rfl | assumption | exact tn_ok rfl | exact tr_ok rfl | exact fun _ => rfl | (refine And.intro ?_ ?_) | (intro _ _; rfl) | ((conv => whnf); (first | exact True.intro | (refine And.intro ?_ ?_)))))
    · intro h3
      have h3 : ¬ (l.getD k p00).2 > (l.getD i p00).2 := of_decide_eq_false h3
      (conv => whnf)
      refine ⟨k + 1, [some 1], by show i - (k + 1) < i - k; omega, ⟨by show k + 1 ≤ i; omega, fun j hj => ?_⟩, ?_⟩
      · have hj : j < k + 1 := hj
        rcases Nat.lt_or_ge j k with q | q
        · exact hp j q
        · obtain rfl : j = k := by omega
          exact ⟨h1, fun _ => by omega⟩
      (repeat' (first | exact True.intro | rfl | assumption | exact tn_ok rfl | exact tr_ok rfl | exact fun _ => rfl | (refine And.intro ?_ ?_) | (intro _ _; rfl) | ((conv => whnf); (first | exact True.intro | (refine And.intro ?_ ?_)))))
      all_goals exact (wrap_inc gk (by omega)).symm
  · intro h2
    have h2 : ¬ Pre (l.getD k p00).1 (l.getD i p00).1 := of_decide_eq_false h2
    (conv => whnf)
    refine ⟨k + 1, [some 1], by show i - (k + 1) < i - k; omega, ⟨by show k + 1 ≤ i; omega, fun j hj => ?_⟩, ?_⟩
    · have hj : j < k + 1 := hj
      rcases Nat.lt_or_ge j k with q | q
      · exact hp j q
      · obtain rfl : j = k := by omega
        exact ⟨h1, fun q => absurd q h2⟩
    (repeat' (first | exact True.intro | rfl | assumption | exact tn_ok rfl | exact tr_ok rfl | exact fun _ => rfl | (refine And.intro ?_ ?_) | (intro _ _; rfl) | ((conv => whnf); (first | exact True.intro | (refine And.intro ?_ ?_)))))
    all_goals exact (wrap_inc gk (by omega)).symm
def ESmZ : LSpec where
  X := (Nat → Option Obj) × (Option (Nat × Nat) × Nat) × List Pr
  k := 2
  pre x := ZP x.1 x.2.1.1 x.2.2 ∧ x.2.2.length ≤ 1000000
  args x θ := [.sl (θ 0) 0 2 x.2.2.length false, .zsl (θ 1) x.2.1.1 2 x.2.2.length x.2.1.2]
  objs x _ := [prR x.2.2, fzP x.1]
  out x _ R := R (.sb true) [some (prR x.2.2), some (fzP x.1)]
theorem ESmZ_nt : ESmZ.Nt := ⟨fun _ _ => rfl, fun _ _ => rfl, fun _ _ _ h => h⟩
theorem ESmZ_ok : ESmZ.Ok Try.prog 13 := by
  refine LSpec.of_body noGo mixed conOf_nil Try.func13 rfl (by kernel_rfl) fun ⟨Z, ⟨p, c⟩, w⟩ R ⟨hz, hlen⟩ hR => ?_
  have hz : ZP Z p w := hz
  have hlen : w.length ≤ 1000000 := hlen
  have hR : R (.sb true) [some (prR w), some (fzP Z)] := hR
  show bodyP _ _ _ _ _ [.sl 0 0 2 w.length false, .zsl 1 p 2 w.length c] ⟨2, Tr.ofL 0 [prR w, fzP Z] .leaf⟩ _
  (conv => whnf)
  refine ⟨fun hh => absurd (show (!decide ((w.length : Int) = (w.length : Int))) = true from hh) (by simp), fun _ => ?_⟩
  (conv => whnf)
  refine .inl ⟨Nat, fun i => [(0, .sl 0 0 2 w.length false), (1, .zsl 1 p 2 w.length c), (5, i64 i)], fun _ => [some (prR w), some (fzP Z)], fun i => w.length - i, fun i => i ≤ w.length, 2, ⟨0, [], Nat.zero_le _, ?_⟩, fun _ => rfl, fun i hi => ?_⟩
  · (repeat' (first | exact True.intro | rfl | assumption | exact tn_ok rfl | exact tr_ok rfl | exact fun _ => rfl | (refine And.intro ?_ ?_) | (intro _ _; rfl) | ((conv => whnf); (first | exact True.intro | (refine And.intro ?_ ?_)))))
  have hi : i ≤ w.length := hi
  have ei := zero_add_toNat i
  have ei' : ((i : Nat) : Int).toNat = i := Int.toNat_natCast i
  (conv => whnf)
  constructor
  · intro h
    have h : i < w.length := by have : (i : Int) < (w.length : Int) := of_decide_eq_true h; omega
    have b1 : (0 : Int) ≤ (i : Int) ∧ (i : Int) < (w.length : Int) := ⟨by omega, by omega⟩
    refine exIt (hz.at_ h) fun bb hb1 => exIt hb1 fun oo hb2 => ?_
    have hat : FzAt Z bb (oo + (i : Int).toNat * 2) [.str (w.getD i p00).1, u64 (w.getD i p00).2] := by rw [ei']; exact hb2.2.1
    (conv => whnf)
    refine ⟨b1.1, b1.2, ?_⟩
    (conv => whnf)
    refine ⟨by rw [ei]; exact h, ?_⟩
    rw [ei]
    (conv => whnf)
    refine ⟨b1.1, b1.2, bb, oo, hb2.1, ?_⟩
    (conv => whnf)
    refine ⟨_, hat, ?_⟩
    (conv => whnf)
    refine ⟨prGuard, prEq _ _ _ _, ?_⟩
    (conv => whnf)
    refine ⟨fun hh => absurd (show (!eqL [.str (w.getD i p00).1, u64 (w.getD i p00).2] [.str (w.getD i p00).1, u64 (w.getD i p00).2]) = true from hh) (by rw [eqL_pr]; simp), fun _ => ?_⟩
    (conv => whnf)
    refine ⟨i + 1, [], by show w.length - (i + 1) < w.length - i; omega, by show i + 1 ≤ w.length; omega, ?_⟩
    (repeat' (first | exact True.intro | rfl | assumption | exact tn_ok rfl | exact tr_ok rfl | exact fun _ => rfl | (refine And.intro ?_ ?_) | (intro _ _; rfl) | ((conv => whnf); (first | exact True.intro | (refine And.intro ?_ ?_)))))
    all_goals exact (wrap_inc h (by omega)).symm
  · intro h
    (conv => whnf)
    refine ⟨[], _, _, hR, ?_⟩
    (repeat' (first | exact True.intro | rfl | assumption | exact tn_ok rfl | exact tr_ok rfl | exact fun _ => rfl | (refine And.intro ?_ ?_) | (intro _ _; rfl) | ((conv => whnf); (first | exact True.intro | (refine And.intro ?_ ?_)))))
end Go.Proofs.Ytagpkejbbmpcgaa
