/- What the reference of the trie computes: Nodes. -/
import Derived.Test.YtngggdlcanpfgaaTrRefDR
namespace Go.Proofs.Ytngggdlcanpfgaa
open Go Go.RowKit Sy Ti
set_option maxRecDepth 100000
set_option maxHeartbeats 4000000

theorem comS_comm (a b : Bs) : comS a b = comS b a := by
  have h1 := comS_max (comS_r a b) (comS_l a b)
  have h2 := comS_max (comS_r b a) (comS_l b a)
  exact h1.eq h2.le
theorem comS_self (a : Bs) : comS a a = a := ((comS_max (Pre.rfl' a) (Pre.rfl' a)).eq (comS_l a a).le).symm
def ky (m : List Pr) (j : Nat) : Bs := (m.getD j p00).1
def CQ (m : List Pr) (j k : Nat) (q : Bs) : Prop := q = comS (ky m j) (ky m k) ∧ q.size < (ky m j).size ∧ q.size < (ky m k).size
def PO (m : List Pr) (i : Nat) (q : Bs) : Prop := q = eS ∨ (∃ j, j < i ∧ q = ky m j) ∨ ∃ j k, k < j ∧ j < i ∧ CQ m j k q
def PN (m : List Pr) (i k : Nat) (q : Bs) : Prop := PO m i q ∨ q = ky m i ∨ ∃ k', k' < k ∧ CQ m i k' q
theorem PO_zero {m : List Pr} {q : Bs} : PO m 0 q ↔ q = eS := ⟨fun h => h.elim id fun h => h.elim (fun ⟨_, h, _⟩ => absurd h (Nat.not_lt_zero _)) fun ⟨_, _, _, h, _⟩ => absurd h (Nat.not_lt_zero _), .inl⟩
theorem PN_zero {m : List Pr} {i : Nat} {q : Bs} : PN m i 0 q ↔ PO m i q ∨ q = ky m i := ⟨fun h => h.imp id fun h => h.elim id fun ⟨_, h, _⟩ => absurd h (Nat.not_lt_zero _), fun h => h.imp id .inl⟩
theorem PN_next {m : List Pr} {i k : Nat} {q : Bs} : PN m i (k + 1) q ↔ PN m i k q ∨ CQ m i k q := by
  constructor
  · rintro (h | h | ⟨k', h1, h2⟩)
    · exact .inl (.inl h)
    · exact .inl (.inr (.inl h))
    · rcases Nat.lt_or_ge k' k with g | g
      · exact .inl (.inr (.inr ⟨k', g, h2⟩))
      · obtain rfl : k' = k := by omega
        exact .inr h2
  · rintro ((h | h | ⟨k', h1, h2⟩) | h)
    · exact .inl h
    · exact .inr (.inl h)
    · exact .inr (.inr ⟨k', by omega, h2⟩)
    · exact .inr (.inr ⟨k, by omega, h⟩)
theorem PO_next {m : List Pr} {i : Nat} {q : Bs} : PO m (i + 1) q ↔ PN m i i q := by
  constructor
  · rintro (h | ⟨j, h1, h2⟩ | ⟨j, k, h1, h2, h3⟩)
    · exact .inl (.inl h)
    · rcases Nat.lt_or_ge j i with g | g
      · exact .inl (.inr (.inl ⟨j, g, h2⟩))
      · obtain rfl : j = i := by omega
        exact .inr (.inl h2)
    · rcases Nat.lt_or_ge j i with g | g
      · exact .inl (.inr (.inr ⟨j, k, h1, g, h3⟩))
      · obtain rfl : j = i := by omega
        exact .inr (.inr ⟨k, h1, h3⟩)
  · rintro ((h | ⟨j, h1, h2⟩ | ⟨j, k, h1, h2, h3⟩) | h | ⟨k, h1, h2⟩)
    · exact .inl h
    · exact .inr (.inl ⟨j, by omega, h2⟩)
    · exact .inr (.inr ⟨j, k, h1, by omega, h3⟩)
    · exact .inr (.inl ⟨i, by omega, h⟩)
    · exact .inr (.inr ⟨i, k, h1, by omega, h2⟩)
theorem ky_of {m : List Pr} {x : Pr} (h : x ∈ m) : ∃ j, j < m.length ∧ m.getD j p00 = x := by
  obtain ⟨j, hj, e⟩ := List.mem_iff_getElem.1 h
  exact ⟨j, hj, by rw [List.getD_eq_getElem?_getD, List.getElem?_eq_getElem hj]; exact e⟩
theorem PO_end {m : List Pr} {q : Bs} : PO m m.length q ↔ SP m q := by
  constructor
  · rintro (h | ⟨j, h1, h2⟩ | ⟨j, k, h1, h2, h3, h4, h5⟩)
    · exact .inl h
    · exact .inr (.inl ⟨(m.getD j p00).2, by rw [h2]; exact getD_in h1⟩)
    · exact .inr (.inr ⟨m.getD j p00, m.getD k p00, getD_in h2, getD_in (by omega), h3, h4, h5⟩)
  · rintro (h | ⟨v, h⟩ | ⟨x, y, hx, hy, h1, h2, h3⟩)
    · exact .inl h
    · obtain ⟨j, h1, h2⟩ := ky_of h
      exact .inr (.inl ⟨j, h1, by unfold ky; rw [h2]⟩)
    · obtain ⟨j, j1, j2⟩ := ky_of hx
      obtain ⟨k, k1, k2⟩ := ky_of hy
      rcases Nat.lt_trichotomy j k with g | g | g
      · exact .inr (.inr ⟨k, j, g, k1, by unfold ky; rw [j2, k2, comS_comm]; exact h1, by unfold ky; rw [k2]; exact h3, by unfold ky; rw [j2]; exact h2⟩)
      · subst g
        rw [j2] at k2
        subst k2
        rw [comS_self] at h1
        rw [h1] at h2
        exact absurd h2 (Nat.lt_irrefl _)
      · exact .inr (.inr ⟨j, k, g, j1, by unfold ky; rw [j2, k2]; exact h1, by unfold ky; rw [j2]; exact h2, by unfold ky; rw [k2]; exact h3⟩)
structure NI (P : Bs → Prop) (A : List Bs) : Prop where
  nd : A.Nodup
  mem : ∀ q, q ∈ A ↔ P q
theorem NI.congr {P Q : Bs → Prop} {A : List Bs} (h : NI P A) (k : ∀ q, P q ↔ Q q) : NI Q A := ⟨h.nd, fun q => (h.mem q).trans (k q)⟩
theorem NI.with_ {P : Bs → Prop} {A : List Bs} (h : NI P A) (s : Bs) : NI (fun q => P q ∨ q = s) (withL A s) ∧ (withL A s).length ≤ A.length + 1 := by
  unfold withL
  by_cases g : A.any (fun x => decide (x = s)) = true
  · rw [if_pos g]
    obtain ⟨x, hx, e⟩ := List.any_eq_true.1 g
    have e : x = s := of_decide_eq_true e
    subst e
    exact ⟨⟨h.nd, fun q => (h.mem q).trans ⟨.inl, fun k => k.elim id fun k => by rw [k]; exact (h.mem x).1 hx⟩⟩, Nat.le_succ _⟩
  · rw [if_neg g]
    have hs : s ∉ A := fun k => g (List.any_eq_true.2 ⟨s, k, decide_eq_true rfl⟩)
    refine ⟨⟨List.nodup_append.2 ⟨h.nd, List.pairwise_singleton .., fun a ha b hb e => hs (by rw [← List.mem_singleton.1 hb, ← e]; exact ha)⟩, fun q => ?_⟩, by rw [List.length_append]; exact Nat.le_refl _⟩
    rw [List.mem_append, List.mem_singleton, h.mem]
theorem conRNds : ConOk Try.prog (conOf [(55, SRCommon.T), (54, SRWith.T)]) :=
  conOf_cons (LSpec.call SRCommon_nt SRCommon_ok) (conOf_cons (LSpec.call SRWith_nt SRWith_ok) conOf_nil)
def SRNodes : LSpec where
  X := List Pr
  k := 1
  pre x := x.length ≤ 1000 ∧ ∀ y ∈ x, y.1.size ≤ 250
  args x θ := [.sl (θ 0) 0 2 x.length false]
  objs x _ := [prR x]
  out x _ R := ∀ L, NI (SP x) L → R (i64 L.length) [some (prR x)]
theorem SRNodes_nt : SRNodes.Nt := ⟨fun _ _ => rfl, fun _ _ => rfl, fun _ _ _ h L hL => h L hL⟩
theorem SRNodes_ok : SRNodes.Ok Try.prog 39 := by
  refine LSpec.of_body noGo mixed conRNds Try.func39 rfl (by kernel_rfl) fun (m : List Pr) R hX hR => ?_
  have hlen : m.length ≤ 1000 := hX.1
  have hsz : ∀ j, j < m.length → (ky m j).size ≤ 1000000 := fun j hj => Nat.le_trans (hX.2 _ (getD_in hj)) (by decide)
  have hQ : ∀ L, NI (SP m) L → R (i64 L.length) [some (prR m)] := hR
  clear hX hR
  show bodyP _ _ _ _ _ [.sl 0 0 2 m.length false] ⟨1, Tr.ofL 0 [prR m] .leaf⟩ _
  (conv => whnf)
  refine .inl ⟨List Bs × Nat, fun y => [(0, .sl 0 0 2 m.length false), (3, .sl 1 0 1 y.1.length false), (4, i64 y.2)], fun y => [some (prR m), some (stR y.1)], fun y => m.length - y.2, fun y => y.2 ≤ m.length ∧ NI (PO m y.2) y.1 ∧ y.1.length ≤ 1 + y.2 * 1001, 2, ⟨([eS], 0), [some 1], ⟨Nat.zero_le _, ⟨List.pairwise_singleton .., fun q => List.mem_singleton.trans PO_zero.symm⟩, Nat.le_refl 1⟩, ?_⟩, fun _ => rfl, fun ⟨A, i⟩ hi0 => ?_⟩
  · (repeat' (first | exact True.intro | rfl | assumption | exact tn_ok rfl | exact tr_ok rfl | exact fun _ => rfl | (refine And.intro ?_ ?_) | (intro _ _; rfl) | ((conv => whnf); (first | exact True.intro | (refine And.intro ?_ ?_)))))
    all_goals (intro j hj; obtain rfl : j = 0 := Nat.lt_one_iff.1 hj; rfl)
  have hi : i ≤ m.length := hi0.1
  have hA : NI (PO m i) A := hi0.2.1
  have hAl : A.length ≤ 1 + i * 1001 := hi0.2.2
  clear hi0
  have ei := zero_add_toNat i
  (conv => whnf)
  constructor
  · intro h
    have h : i < m.length := by have : (i : Int) < (m.length : Int) := of_decide_eq_true h; omega
    have hiN : 0 + ((i : Nat) : Int).toNat < m.length := by rw [ei]; exact h
    have hb1 : (0 : Int) ≤ (i : Int) ∧ (i : Int) < (m.length : Int) := ⟨by omega, by omega⟩
    have hw := hA.with_ (ky m i)
    (conv => whnf)
    refine ⟨hb1.1, hb1.2, ?_⟩
    (conv => whnf)
    refine ⟨hiN, ?_⟩
    rw [ei]
    (conv => whnf)
    refine ⟨(A, ky m i), [1], by show A.length ≤ 10000000; omega, rfl, by (repeat' (first | exact True.intro | rfl | assumption | exact tn_ok rfl | exact tr_ok rfl | exact fun _ => rfl | (refine And.intro ?_ ?_) | (intro _ _; rfl) | ((conv => whnf); (first | exact True.intro | (refine And.intro ?_ ?_))))), by (repeat' (first | exact True.intro | rfl | assumption | exact tn_ok rfl | exact tr_ok rfl | exact fun _ => rfl | (refine And.intro ?_ ?_) | (intro _ _; rfl) | ((conv => whnf); (first | exact True.intro | (refine And.intro ?_ ?_))))), ?_⟩
    (conv => whnf)
    rw [show withL (A, ky m i).1 (A, ky m i).2 = withL A (ky m i) from rfl]
    generalize withL A (ky m i) = A1 at hw
    have hA1 : NI (PN m i 0) A1 := hw.1.congr fun q => PN_zero.symm
    have hA1l : A1.length ≤ 2 + i * 1001 := by omega
    refine .inl ⟨List Bs × Nat, fun y => [(0, .sl 0 0 2 m.length false), (3, .sl 1 0 1 y.1.length false), (4, i64 i), (5, i64 y.2)], fun y => [some (prR m), some (stR y.1)], fun y => i - y.2, fun y => y.2 ≤ i ∧ NI (PN m i y.2) y.1 ∧ y.1.length ≤ 2 + i * 1001 + y.2, 2, ⟨(A1, 0), [some 2], ⟨Nat.zero_le _, hA1, hA1l⟩, ?_⟩, fun _ => rfl, fun ⟨A2, k⟩ hk0 => ?_⟩
    · (repeat' (first | exact True.intro | rfl | assumption | exact tn_ok rfl | exact tr_ok rfl | exact fun _ => rfl | (refine And.intro ?_ ?_) | (intro _ _; rfl) | ((conv => whnf); (first | exact True.intro | (refine And.intro ?_ ?_)))))
    have hk : k ≤ i := hk0.1
    have hA2 : NI (PN m i k) A2 := hk0.2.1
    have hA2l : A2.length ≤ 2 + i * 1001 + k := hk0.2.2
    clear hk0 hA1 hA1l hw hA hAl
    have ek := zero_add_toNat k
    (conv => whnf)
    constructor
    · intro g
      have g : k < i := by have : (k : Int) < (i : Int) := of_decide_eq_true g; omega
      have hkN : 0 + ((k : Nat) : Int).toNat < m.length := by rw [ek]; omega
      have hb2 : (0 : Int) ≤ (k : Int) ∧ (k : Int) < (m.length : Int) := ⟨by omega, by omega⟩
      (conv => whnf)
      refine ⟨hb1.1, hb1.2, ?_⟩
      (conv => whnf)
      refine ⟨hiN, ?_⟩
      rw [ei]
      (conv => whnf)
      refine ⟨hb2.1, hb2.2, ?_⟩
      (conv => whnf)
      refine ⟨hkN, ?_⟩
      rw [ek]
      (conv => whnf)
      refine ⟨(ky m i, ky m k), [], ⟨hsz i h, hsz k (by omega)⟩, rfl, by (repeat' (first | exact True.intro | rfl | assumption | exact tn_ok rfl | exact tr_ok rfl | exact fun _ => rfl | (refine And.intro ?_ ?_) | (intro _ _; rfl) | ((conv => whnf); (first | exact True.intro | (refine And.intro ?_ ?_))))), by (repeat' (first | exact True.intro | rfl | assumption | exact tn_ok rfl | exact tr_ok rfl | exact fun _ => rfl | (refine And.intro ?_ ?_) | (intro _ _; rfl) | ((conv => whnf); (first | exact True.intro | (refine And.intro ?_ ?_))))), ?_⟩
      have hno : ∀ {q}, ¬ ((comS (ky m i) (ky m k)).size < (ky m i).size ∧ (comS (ky m i) (ky m k)).size < (ky m k).size) → (PN m i k q ↔ PN m i (k + 1) q) := fun {q} hn => by
        rw [PN_next]
        exact ⟨.inl, fun h => h.elim id fun ⟨e, h1, h2⟩ => by subst e; exact absurd ⟨h1, h2⟩ hn⟩
      have hyes : ((comS (ky m i) (ky m k)).size < (ky m i).size ∧ (comS (ky m i) (ky m k)).size < (ky m k).size) → ∀ {q}, (PN m i k q ∨ q = comS (ky m i) (ky m k)) ↔ PN m i (k + 1) q := fun hn {q} => by
        rw [PN_next]
        exact ⟨fun h => h.imp id fun e => ⟨e, by rw [e]; exact hn.1, by rw [e]; exact hn.2⟩, fun h => h.imp id fun h => h.1⟩
      have hw := hA2.with_ (comS (ky m i) (ky m k))
      (conv => whnf)
      refine ⟨hb1.1, hb1.2, ?_⟩
      (conv => whnf)
      refine ⟨hiN, ?_⟩
      rw [ei]
      (conv => whnf)
      constructor
      · intro g1
        have g1 : (comS (ky m i) (ky m k)).size < (ky m i).size := by have : ((comS (ky m i) (ky m k)).size : Int) < ((ky m i).size : Int) := of_decide_eq_true g1; omega
        (conv => whnf)
        refine ⟨hb2.1, hb2.2, ?_⟩
        (conv => whnf)
        refine ⟨hkN, ?_⟩
        rw [ek]
        (conv => whnf)
        constructor
        · intro g2
          have g2 : (comS (ky m i) (ky m k)).size < (ky m k).size := by have : ((comS (ky m i) (ky m k)).size : Int) < ((ky m k).size : Int) := of_decide_eq_true g2; omega
          (conv => whnf)
          refine ⟨(A2, comS (ky m i) (ky m k)), [1], by show A2.length ≤ 10000000; omega, rfl, by (repeat' (first | exact True.intro | rfl | assumption | exact tn_ok rfl | exact tr_ok rfl | exact fun _ => rfl | (refine And.intro ?_ ?_) | (intro _ _; rfl) | ((conv => whnf); (first | exact True.intro | (refine And.intro ?_ ?_))))), by (repeat' (first | exact True.intro | rfl | assumption | exact tn_ok rfl | exact tr_ok rfl | exact fun _ => rfl | (refine And.intro ?_ ?_) | (intro _ _; rfl) | ((conv => whnf); (first | exact True.intro | (refine And.intro ?_ ?_))))), ?_⟩
          (conv => whnf)
          refine ⟨(withL A2 (comS (ky m i) (ky m k)), k + 1), [some 2], by show i - (k + 1) < i - k; omega, ⟨by show k + 1 ≤ i; omega, hw.1.congr fun q => hyes ⟨g1, g2⟩, by show (withL A2 (comS (ky m i) (ky m k))).length ≤ 2 + i * 1001 + (k + 1); omega⟩, ?_⟩
          (repeat' (first | exact True.intro | rfl | assumption | exact tn_ok rfl | exact tr_ok rfl | exact fun _ => rfl | (refine And.intro ?_ ?_) | (intro _ _; rfl) | ((conv => whnf); (first | exact True.intro | (refine And.intro ?_ ?_)))))
          all_goals exact (wrap_inc g (by omega)).symm
        · intro g2
          have g2 : ¬ (comS (ky m i) (ky m k)).size < (ky m k).size := by have : ¬ ((comS (ky m i) (ky m k)).size : Int) < ((ky m k).size : Int) := of_decide_eq_false g2; omega
          (conv => whnf)
          refine ⟨(A2, k + 1), [some 1], by show i - (k + 1) < i - k; omega, ⟨by show k + 1 ≤ i; omega, hA2.congr fun q => hno fun h => g2 h.2, by show A2.length ≤ 2 + i * 1001 + (k + 1); omega⟩, ?_⟩
          (repeat' (first | exact True.intro | rfl | assumption | exact tn_ok rfl | exact tr_ok rfl | exact fun _ => rfl | (refine And.intro ?_ ?_) | (intro _ _; rfl) | ((conv => whnf); (first | exact True.intro | (refine And.intro ?_ ?_)))))
          all_goals exact (wrap_inc g (by omega)).symm
      · intro g1
        have g1 : ¬ (comS (ky m i) (ky m k)).size < (ky m i).size := by have : ¬ ((comS (ky m i) (ky m k)).size : Int) < ((ky m i).size : Int) := of_decide_eq_false g1; omega
        (conv => whnf)
        refine ⟨(A2, k + 1), [some 1], by show i - (k + 1) < i - k; omega, ⟨by show k + 1 ≤ i; omega, hA2.congr fun q => hno fun h => g1 h.1, by show A2.length ≤ 2 + i * 1001 + (k + 1); omega⟩, ?_⟩
        (repeat' (first | exact True.intro | rfl | assumption | exact tn_ok rfl | exact tr_ok rfl | exact fun _ => rfl | (refine And.intro ?_ ?_) | (intro _ _; rfl) | ((conv => whnf); (first | exact True.intro | (refine And.intro ?_ ?_)))))
        all_goals exact (wrap_inc g (by omega)).symm
    · intro g
      have g : k = i := by have : ¬ (k : Int) < (i : Int) := of_decide_eq_false g; omega
      rw [g] at hA2 hA2l
      (conv => whnf)
      refine ⟨(A2, i + 1), [some 1], by show m.length - (i + 1) < m.length - i; omega, ⟨by show i + 1 ≤ m.length; omega, hA2.congr fun q => PO_next.symm, by show A2.length ≤ 1 + (i + 1) * 1001; omega⟩, ?_⟩
      (repeat' (first | exact True.intro | rfl | assumption | exact tn_ok rfl | exact tr_ok rfl | exact fun _ => rfl | (refine And.intro ?_ ?_) | (intro _ _; rfl) | ((conv => whnf); (first | exact True.intro | (refine And.intro ?_ ?_)))))
      exact (wrap_inc h (by omega)).symm
  · intro h
    have h : i = m.length := by have : ¬ (i : Int) < (m.length : Int) := of_decide_eq_false h; omega
    rw [h] at hA
    have hF := hQ A (hA.congr fun q => PO_end)
    (conv => whnf)
    refine ⟨[], _, _, hF, ?_⟩
    (repeat' (first | exact True.intro | rfl | assumption | exact tn_ok rfl | exact tr_ok rfl | exact fun _ => rfl | (refine And.intro ?_ ?_) | (intro _ _; rfl) | ((conv => whnf); (first | exact True.intro | (refine And.intro ?_ ?_)))))
end Go.Proofs.Ytngggdlcanpfgaa
