/- What the functions on keys compute: Common, HasPrefix, ValidPrefix; check; the reference's Has. -/
import Derived.Test.YtagpkejbbmpcgaaTrFindR
namespace Go.Proofs.Ytagpkejbbmpcgaa
open Go Go.RowKit Sy Ti
set_option maxRecDepth 100000
set_option maxHeartbeats 4000000

namespace Ti
def comL : List UInt8 → List UInt8 → Nat
  | a :: l, b :: m => if a = b then comL l m + 1 else 0
  | _, _ => 0
def com (a b : Bs) : Nat := comL (by_ a) (by_ b)
theorem comL_spec : ∀ (l m : List UInt8), comL l m ≤ l.length ∧ comL l m ≤ m.length ∧ l.take (comL l m) = m.take (comL l m) ∧ (comL l m < l.length → comL l m < m.length → l.getD (comL l m) 0 ≠ m.getD (comL l m) 0)
  | [], m => ⟨Nat.le_refl _, Nat.zero_le _, rfl, fun h => absurd h (Nat.not_lt_zero _)⟩
  | a :: l, [] => ⟨Nat.zero_le _, Nat.le_refl _, rfl, fun _ h => absurd h (Nat.not_lt_zero _)⟩
  | a :: l, b :: m => by
    unfold comL
    by_cases e : a = b
    · obtain ⟨h1, h2, h3, h4⟩ := comL_spec l m
      rw [if_pos e]
      refine ⟨Nat.succ_le_succ h1, Nat.succ_le_succ h2, by rw [List.take_succ_cons, List.take_succ_cons, h3, e], fun g1 g2 => ?_⟩
      rw [List.getD_cons_succ, List.getD_cons_succ]
      exact h4 (by simpa using g1) (by simpa using g2)
    · rw [if_neg e]
      exact ⟨Nat.zero_le _, Nat.zero_le _, rfl, fun _ _ => e⟩
theorem comL_at : ∀ (l m : List UInt8) (i : Nat), i ≤ l.length → i ≤ m.length → (∀ q, q < i → l.getD q 0 = m.getD q 0) → (i = l.length ∨ i = m.length ∨ l.getD i 0 ≠ m.getD i 0) → comL l m = i
  | [], m, i, h1, _, _, _ => by have : i = 0 := by simpa using h1
                                rw [this]; rfl
  | a :: l, [], i, _, h2, _, _ => by have : i = 0 := by simpa using h2
                                     rw [this]; rfl
  | a :: l, b :: m, 0, _, _, _, h4 => by
    unfold comL
    rcases h4 with h4 | h4 | h4
    · simp at h4
    · simp at h4
    · exact if_neg h4
  | a :: l, b :: m, i + 1, h1, h2, h3, h4 => by
    unfold comL
    have e : a = b := h3 0 (Nat.succ_pos i)
    rw [if_pos e, comL_at l m i (by simpa using h1) (by simpa using h2) (fun q hq => by have := h3 (q + 1) (by omega); rwa [List.getD_cons_succ, List.getD_cons_succ] at this) (by
      rcases h4 with h4 | h4 | h4
      · exact .inl (by simpa using h4)
      · exact .inr (.inl (by simpa using h4))
      · exact .inr (.inr (by rwa [List.getD_cons_succ, List.getD_cons_succ] at h4)))]
theorem byteAt_eq {a b : Bs} {q : Nat} : byteAt a q = byteAt b q ↔ (by_ a).getD q 0 = (by_ b).getD q 0 := by
  unfold byteAt by_
  rw [Int.ofNat_inj, UInt8.toNat_inj]
theorem com_at {a b : Bs} {i : Nat} (h1 : i ≤ a.size) (h2 : i ≤ b.size) (h3 : ∀ q, q < i → byteAt a q = byteAt b q) (h4 : i = a.size ∨ i = b.size ∨ byteAt a i ≠ byteAt b i) : com a b = i :=
  comL_at _ _ i (by rwa [by_len]) (by rwa [by_len]) (fun q hq => byteAt_eq.1 (h3 q hq)) (by rw [by_len, by_len]; exact h4.imp id fun h => h.imp id fun h e => h (byteAt_eq.2 e))
theorem pre_sub {p s : Bs} : substr s 0 p.size = p ↔ Pre p s := by
  unfold Pre
  rw [List.prefix_iff_eq_take, by_len]
  constructor
  · intro e
    have := congrArg by_ e
    rw [by_sub, List.drop_zero] at this
    exact this.symm
  · intro e
    refine by_inj ?_
    rw [by_sub, List.drop_zero]
    exact e.symm
end Ti
def SCommon : LSpec where
  X := Bs × Bs
  k := 0
  pre x := x.1.size ≤ 1000000 ∧ x.2.size ≤ 1000000
  args x _ := [.str x.1, .str x.2]
  objs _ _ := []
  out x _ R := R (i64 (com x.1 x.2 : Nat)) []
theorem SCommon_nt : SCommon.Nt := ⟨fun _ _ => rfl, fun _ _ => rfl, fun _ _ _ h => h⟩
theorem SCommon_ok : SCommon.Ok Try.prog 48 := by
  refine LSpec.of_body noGo mixed conOf_nil Try.func48 rfl (by kernel_rfl) fun ⟨a, b⟩ R ⟨ha0, hb0⟩ hR => ?_
  have ha : a.size ≤ 1000000 := ha0
  have hb : b.size ≤ 1000000 := hb0
  clear ha0 hb0
  have hQ : R (i64 (com a b : Nat)) [] := hR
  show bodyP _ _ _ _ _ [.str a, .str b] (locS []) _
  obtain ⟨mn, hmn⟩ : ∃ mn, mn = min a.size b.size := ⟨_, rfl⟩
  have hmI : ((mn : Nat) : Int) = mmI true (a.size : Int) (b.size : Int) := by
    unfold mmI
    rw [if_pos rfl]
    split <;> omega
  (conv => whnf)
  refine .inl ⟨Nat, fun i => [(0, .str a), (1, .str b), (5, i64 mn), (12, i64 mn), (13, i64 i)], fun _ => [], fun i => mn - i, fun i => i ≤ mn ∧ ∀ q, q < i → byteAt a q = byteAt b q, 0, ⟨0, [], ⟨Nat.zero_le _, fun q hq => absurd hq (Nat.not_lt_zero q)⟩, ?_⟩, fun _ => rfl, fun i ⟨hi0, hq⟩ => ?_⟩
  · (repeat' (first | exact True.intro | rfl | assumption | exact tn_ok rfl | exact tr_ok rfl | exact fun _ => rfl | (refine And.intro ?_ ?_) | (intro _ _; rfl) | ((conv => whnf); (first | exact True.intro | (refine And.intro ?_ ?_)))))
    all_goals exact hmI
  have hi : i ≤ mn := hi0
  clear hi0 hmI
  have ei : ((i : Nat) : Int).toNat = i := Int.toNat_natCast i
  (conv => whnf)
  constructor
  · intro h
    have h : i < mn := by have : (i : Int) < (mn : Int) := of_decide_eq_true h; omega
    (conv => whnf)
    refine ⟨by show (0 : Int) ≤ (i : Int); omega, by show (i : Int).toNat < a.size; omega, ?_⟩
    (conv => whnf)
    refine ⟨by show (0 : Int) ≤ (i : Int); omega, by show (i : Int).toNat < b.size; omega, ?_⟩
    (conv => whnf)
    constructor
    · intro g
      have g : ¬ byteAt a (i : Int).toNat = byteAt b (i : Int).toNat := by simpa using g
      rw [ei] at g
      have hc := com_at (a := a) (b := b) (i := i) (by omega) (by omega) hq (.inr (.inr g))
      rw [hc] at hQ
      (conv => whnf)
      refine ⟨[], _, _, hQ, ?_⟩
      (repeat' (first | exact True.intro | rfl | assumption | exact tn_ok rfl | exact tr_ok rfl | exact fun _ => rfl | (refine And.intro ?_ ?_) | (intro _ _; rfl) | ((conv => whnf); (first | exact True.intro | (refine And.intro ?_ ?_)))))
    · intro g
      have g : byteAt a (i : Int).toNat = byteAt b (i : Int).toNat := by simpa using g
      rw [ei] at g
      (conv => whnf)
      refine ⟨i + 1, [], by show mn - (i + 1) < mn - i; omega, ⟨by show i + 1 ≤ mn; omega, fun q hq2 => ?_⟩, ?_⟩
      · have hq2 : q < i + 1 := hq2
        rcases Nat.lt_or_ge q i with g2 | g2
        · exact hq q g2
        · obtain rfl : q = i := by omega
          exact g
      (repeat' (first | exact True.intro | rfl | assumption | exact tn_ok rfl | exact tr_ok rfl | exact fun _ => rfl | (refine And.intro ?_ ?_) | (intro _ _; rfl) | ((conv => whnf); (first | exact True.intro | (refine And.intro ?_ ?_)))))
      all_goals exact (wrap_inc h (by omega)).symm
  · intro h
    have h : ¬ i < mn := by have : ¬ (i : Int) < (mn : Int) := of_decide_eq_false h; omega
    have hc := com_at (a := a) (b := b) (i := mn) (by omega) (by omega) (by rw [show mn = i by omega]; exact hq) (by omega)
    rw [hc] at hQ
    (conv => whnf)
    refine ⟨[], _, _, hQ, ?_⟩
    (repeat' (first | exact True.intro | rfl | assumption | exact tn_ok rfl | exact tr_ok rfl | exact fun _ => rfl | (refine And.intro ?_ ?_) | (intro _ _; rfl) | ((conv => whnf); (first | exact True.intro | (refine And.intro ?_ ?_)))))
def SHp : LSpec where
  X := Bs × Bs
  k := 0
  pre _ := True
  args x _ := [.str x.1, .str x.2]
  objs _ _ := []
  out x _ R := R (.sb (decide (Pre x.2 x.1))) []
theorem SHp_nt : SHp.Nt := ⟨fun _ _ => rfl, fun _ _ => rfl, fun _ _ _ h => h⟩
theorem SHas20_ok : SHp.Ok Try.prog 19 := by
  refine LSpec.of_body noGo mixed conOf_nil Try.func19 rfl (by kernel_rfl) fun ⟨s, p⟩ R _ hR => ?_
  have hQ : R (.sb (decide (Pre p s))) [] := hR
  show bodyP _ _ _ _ _ [.str s, .str p] (locS []) _
  (conv => whnf)
  constructor
  · intro h
    have h : p.size ≤ s.size := by have : (p.size : Int) ≤ (s.size : Int) := of_decide_eq_true h; omega
    have he : decide (Pre p s) = decide (substr s 0 ((p.size : Int).toNat) = p) := by rw [Int.toNat_natCast]; exact decide_eq_decide.2 pre_sub.symm
    rw [he] at hQ
    (conv => whnf)
    refine ⟨by show (0 : Int) ≤ (p.size : Int); omega, ?_⟩
    (conv => whnf)
    refine ⟨Nat.zero_le _, by show (p.size : Int).toNat ≤ s.size; rw [Int.toNat_natCast]; exact h, ?_⟩
    (conv => whnf)
    refine ⟨[], _, _, hQ, ?_⟩
    (repeat' (first | exact True.intro | rfl | assumption | exact tn_ok rfl | exact tr_ok rfl | exact fun _ => rfl | (refine And.intro ?_ ?_) | (intro _ _; rfl) | ((conv => whnf); (first | exact True.intro | (refine And.intro ?_ ?_)))))
  · intro h
    have h : ¬ p.size ≤ s.size := by have : ¬ (p.size : Int) ≤ (s.size : Int) := of_decide_eq_false h; omega
    rw [decide_eq_false (fun q : Pre p s => h q.le)] at hQ
    (conv => whnf)
    refine ⟨[], _, _, hQ, ?_⟩
    (repeat' (first | exact True.intro | rfl | assumption | exact tn_ok rfl | exact tr_ok rfl | exact fun _ => rfl | (refine And.intro ?_ ?_) | (intro _ _; rfl) | ((conv => whnf); (first | exact True.intro | (refine And.intro ?_ ?_)))))
theorem SHpL_ok : SHp.Ok Try.prog 67 := by
  refine LSpec.of_body noGo mixed conOf_nil Try.func67 rfl (by kernel_rfl) fun ⟨s, p⟩ R _ hR => ?_
  have hQ : R (.sb (decide (Pre p s))) [] := hR
  show bodyP _ _ _ _ _ [.str s, .str p] (locS []) _
  (conv => whnf)
  constructor
  · intro h
    have h : p.size ≤ s.size := by have : (p.size : Int) ≤ (s.size : Int) := of_decide_eq_true h; omega
    have he : decide (Pre p s) = decide (substr s 0 ((p.size : Int).toNat) = p) := by rw [Int.toNat_natCast]; exact decide_eq_decide.2 pre_sub.symm
    rw [he] at hQ
    (conv => whnf)
    refine ⟨by show (0 : Int) ≤ (p.size : Int); omega, ?_⟩
    (conv => whnf)
    refine ⟨Nat.zero_le _, by show (p.size : Int).toNat ≤ s.size; rw [Int.toNat_natCast]; exact h, ?_⟩
    (conv => whnf)
    refine ⟨[], _, _, hQ, ?_⟩
    (repeat' (first | exact True.intro | rfl | assumption | exact tn_ok rfl | exact tr_ok rfl | exact fun _ => rfl | (refine And.intro ?_ ?_) | (intro _ _; rfl) | ((conv => whnf); (first | exact True.intro | (refine And.intro ?_ ?_)))))
  · intro h
    have h : ¬ p.size ≤ s.size := by have : ¬ (p.size : Int) ≤ (s.size : Int) := of_decide_eq_false h; omega
    rw [decide_eq_false (fun q : Pre p s => h q.le)] at hQ
    (conv => whnf)
    refine ⟨[], _, _, hQ, ?_⟩
    (repeat' (first | exact True.intro | rfl | assumption | exact tn_ok rfl | exact tr_ok rfl | exact fun _ => rfl | (refine And.intro ?_ ?_) | (intro _ _; rfl) | ((conv => whnf); (first | exact True.intro | (refine And.intro ?_ ?_)))))
theorem conHp : ConOk Try.prog (conOf [(67, SHp.T)]) := conOf_cons (LSpec.call SHp_nt SHpL_ok) conOf_nil
theorem SHp_ok : SHp.Ok Try.prog 52 := by
  refine LSpec.of_body noGo mixed conHp Try.func52 rfl (by kernel_rfl) fun ⟨s, p⟩ R _ hR => ?_
  have hQ : R (.sb (decide (Pre p s))) [] := hR
  show bodyP _ _ _ _ _ [.str s, .str p] (locS []) _
  (conv => whnf)
  refine ⟨(s, p), [], trivial, rfl, by (repeat' (first | exact True.intro | rfl | assumption | exact tn_ok rfl | exact tr_ok rfl | exact fun _ => rfl | (refine And.intro ?_ ?_) | (intro _ _; rfl) | ((conv => whnf); (first | exact True.intro | (refine And.intro ?_ ?_))))), by (repeat' (first | exact True.intro | rfl | assumption | exact tn_ok rfl | exact tr_ok rfl | exact fun _ => rfl | (refine And.intro ?_ ?_) | (intro _ _; rfl) | ((conv => whnf); (first | exact True.intro | (refine And.intro ?_ ?_))))), ?_⟩
  (conv => whnf)
  refine ⟨[], _, _, hQ, ?_⟩
  (repeat' (first | exact True.intro | rfl | assumption | exact tn_ok rfl | exact tr_ok rfl | exact fun _ => rfl | (refine And.intro ?_ ?_) | (intro _ _; rfl) | ((conv => whnf); (first | exact True.intro | (refine And.intro ?_ ?_)))))
/-! A trie -/
def objsG (θ : Nat → Nat) (T : Tt) (R : RowsN) (root : Nat) (many : Int) : List SObj := [trC (θ 1) root many, tnO (θ 2) T, trO (θ 1) R]
def allG (θ : Nat → Nat) (T : Tt) (R : RowsN) (root : Nat) (many : Int) : List (Option SObj) := [some (trC (θ 1) root many), some (tnO (θ 2) T), some (trO (θ 1) R)]
def eP (s : Bs) : Int := if s.size ≤ 250 then 0 else 2
theorem conChk : ConOk Try.prog (conOf [(29, inl Try.prog (conOf []) Try.f29)]) := conOf_cons (inl_ok noGo mixed conOf_nil Try.func29 (by kernel_rfl)) conOf_nil
def SChk : LSpec where
  X := (Tt × RowsN) × (Nat × Int) × Bs
  k := 3
  pre _ := True
  args x θ := [.ptr (θ 0) 0, .str x.2.2]
  objs x θ := objsG θ x.1.1 x.1.2 x.2.1.1 x.2.1.2
  out x θ R := R (i64 (eP x.2.2)) (allG θ x.1.1 x.1.2 x.2.1.1 x.2.1.2)
theorem SChk_nt : SChk.Nt := ⟨fun _ _ => rfl, by unfold SChk objsG; (intros; simp only [ren_all] at *; try assumption), by unfold SChk allG; (intros; simp only [ren_all] at *; try assumption)⟩
theorem SChk_ok : SChk.Ok Try.prog 44 := by
  refine LSpec.of_body noGo mixed conChk Try.func44 rfl (by kernel_rfl) fun ⟨⟨T, M⟩, ⟨root, many⟩, s⟩ R _ hR => ?_
  have hQ : R (i64 (eP s)) (allG _root_.id T M root many) := hR
  show bodyP _ _ _ _ _ [.ptr 0 0, .str s] (locS (objsG _root_.id T M root many)) _
  unfold eP at hQ
  (conv => whnf)
  constructor
  · intro h
    have h : ¬ s.size ≤ 250 := by have : ¬ (s.size : Int) ≤ 250 := by simpa using h
                                  omega
    rw [if_neg h] at hQ
    (conv => whnf)
    refine ⟨[], _, _, hQ, ?_⟩
    (repeat' (first | exact True.intro | rfl | assumption | exact tn_ok rfl | exact tr_ok rfl | exact fun _ => rfl | (refine And.intro ?_ ?_) | (intro _ _; rfl) | ((conv => whnf); (first | exact True.intro | (refine And.intro ?_ ?_)))))
  · intro h
    have h : s.size ≤ 250 := by have : (s.size : Int) ≤ 250 := by simpa using h
                                omega
    rw [if_pos h] at hQ
    (conv => whnf)
    refine ⟨[], _, _, hQ, ?_⟩
    (repeat' (first | exact True.intro | rfl | assumption | exact tn_ok rfl | exact tr_ok rfl | exact fun _ => rfl | (refine And.intro ?_ ?_) | (intro _ _; rfl) | ((conv => whnf); (first | exact True.intro | (refine And.intro ?_ ?_)))))
def SFind : LSpec where
  X := (Tt × RowsN) × (Nat × Nd) × Int
  k := 2
  pre x := (RowI x.1.2 x.2.1.2.p x.2.1.2.kids x.2.1.2.c ∧ KidsI x.1.1 x.2.1.2.kids) ∧ x.1.1 x.2.1.1 = some x.2.1.2 ∧ 0 ≤ x.2.2 ∧ x.2.2 < 256
  args x θ := [.ap (θ 0) x.2.1.1 0, .int .u8 x.2.2]
  objs x θ := objsT θ x.1.1 x.1.2
  out x θ R := ∀ i b, FindI x.1.1 x.2.1.2.kids x.2.2 i b → R (.tup [i64 i, .sb b]) (allT θ x.1.1 x.1.2)
theorem SFind_nt : SFind.Nt := ⟨fun _ _ => rfl, by unfold SFind objsT; (intros; simp only [ren_all] at *; try assumption), by unfold SFind allT; (intros; simp only [ren_all] at *; try assumption)⟩
theorem conFi : ConOk Try.prog (conOf [(63, SBsf.T)]) := conOf_cons (LSpec.call SBsf_nt SBsf_ok) conOf_nil
theorem SFind_ok : SFind.Ok Try.prog 46 := by
  refine LSpec.of_body noGo mixed conFi Try.func46 rfl (by kernel_rfl) fun ⟨⟨T, M⟩, ⟨x, d⟩, ch⟩ R ⟨⟨hr, hk⟩, hx, hc1, hc2⟩ hR => ?_
  have hx : T x = some d := hx
  have hQ : ∀ i b, FindI T d.kids ch i b → R (.tup [i64 i, .sb b]) (allT _root_.id T M) := hR
  show bodyP _ _ _ _ _ [.ap 0 x 0, .int .u8 ch] (locS (objsT _root_.id T M)) _
  (conv => whnf)
  refine ⟨ndL 1 d, by show (T x).map (ndL 1) = _; rw [hx]; rfl, ?_⟩
  (conv => whnf)
  refine ⟨((T, M), (d.p, d.kids, d.c), ch), [0, 1], ⟨⟨hr, hk⟩, hc1, hc2⟩, rfl, by (repeat' (first | exact True.intro | rfl | assumption | exact tn_ok rfl | exact tr_ok rfl | exact fun _ => rfl | (refine And.intro ?_ ?_) | (intro _ _; rfl) | ((conv => whnf); (first | exact True.intro | (refine And.intro ?_ ?_))))), by (repeat' (first | exact True.intro | rfl | assumption | exact tn_ok rfl | exact tr_ok rfl | exact fun _ => rfl | (refine And.intro ?_ ?_) | (intro _ _; rfl) | ((conv => whnf); (first | exact True.intro | (refine And.intro ?_ ?_))))), fun i b hf => ?_⟩
  have hF := hQ i b hf
  (conv => whnf)
  refine ⟨[], _, _, hF, ?_⟩
  (repeat' (first | exact True.intro | rfl | assumption | exact tn_ok rfl | exact tr_ok rfl | exact fun _ => rfl | (refine And.intro ?_ ?_) | (intro _ _; rfl) | ((conv => whnf); (first | exact True.intro | (refine And.intro ?_ ?_)))))
theorem Ti.TI.kidsI {T : Tt} {root : Nat} {ns : List Nat} (h : TI T root ns) {b : Nat} {d : Nd} (hb : T b = some d) : KidsI T d.kids :=
  ⟨fun k hk => let ⟨e, h1, _, h3⟩ := h.kid b d k hb hk; ⟨e, h1, h3⟩, h.ord b d hb, h.kids_len hb⟩
end Go.Proofs.Ytagpkejbbmpcgaa
