/- What the reference of the epochs computes. -/
import Derived.Test.YtagpkejbbmpcgaaEpResR
namespace Go.Proofs.Ytagpkejbbmpcgaa
open Go Go.RowKit Sy Ti
set_option maxRecDepth 100000
set_option maxHeartbeats 8000000

def mV (i : Nat) (f l : Int) (n : Nat) : V := .agg [u64 f, u64 l, .sl i 0 2 n false]
structure RX where
  f : Int
  l : Int
  m : List Pr
  s : Bs
  n : Int
theorem RightP.start : RightP 0 0 [] := ⟨Int.le_refl 0, .nil, fun _ h => absurd h List.not_mem_nil, fun _ h => absurd h List.not_mem_nil, fun _ h => absurd h List.not_mem_nil⟩
theorem RightP.flush {f l n : Int} {m : List Pr} (h : RightP f l m) : RightP (fluE m f l n).2.1.1 (fluE m f l n).2.1.2 (fluE m f l n).1 := by
  unfold fluE
  split
  · exact ⟨Int.le_refl n, .nil, fun _ h => absurd h List.not_mem_nil, fun _ h => absurd h List.not_mem_nil, fun _ h => absurd h List.not_mem_nil⟩
  · exact h
theorem RightP.purge {f l n : Int} {m : List Pr} {s : Bs} (h : RightP f l m) : RightP f (purE m l s n).2.1 (purE m l s n).1 := by
  unfold purE
  split
  · rename_i g
    obtain ⟨g1, g2⟩ := g
    show RightP f n (setR (cutR m s) s n)
    have hm : ∀ {x}, x ∈ setR (cutR m s) s n → x = (s, n) ∨ (¬ Pre s x.1 ∧ x ∈ m) := fun hx => (mem_setR.1 hx).imp id fun k => mem_cutR.1 k.2
    refine ⟨by have := h.le; omega, (h.srt.cutR s).setR s n, fun x hx => ?_, fun x hx y hy hne e => ?_, fun x hx y hy hne hp => ?_⟩
    · rcases hm hx with rfl | ⟨_, k⟩
      · exact ⟨g1, by have := h.le; show f < n; omega, Int.le_refl n⟩
      · have := h.rng x k
        exact ⟨this.1, this.2.1, by omega⟩
    · rcases hm hx with rfl | ⟨_, k⟩ <;> rcases hm hy with rfl | ⟨_, k2⟩
      · exact hne rfl
      · have := h.rng y k2
        have e : n = y.2 := e
        omega
      · have := h.rng x k
        have e : x.2 = n := e
        omega
      · exact h.dis x k y k2 hne e
    · rcases hm hx with rfl | ⟨kn, k⟩ <;> rcases hm hy with rfl | ⟨_, k2⟩
      · exact absurd rfl hne
      · have := h.rng y k2
        show y.2 < n
        omega
      · exact absurd hp kn
      · exact h.pre x k y k2 hne hp
  · exact h
theorem conRPu : ConOk Try.prog (conOf [(42, inl Try.prog (conOf []) Try.f42), (54, SRCut.T), (55, SRSet.T), (53, SRMax.T)]) :=
  conOf_cons (inl_ok noGo mixed conOf_nil Try.func42 (by kernel_rfl)) (conOf_cons (LSpec.call SRCut_nt SRCut_ok) (conOf_cons (LSpec.call SRSet_nt SRSet_ok) (conOf_cons (LSpec.call SRMax_nt SRMax_ok) conOf_nil)))
def RPurge : LSpec where
  X := RX
  k := 1
  pre x := x.m.length ≤ 900000 ∧ SrtP x.m ∧ 0 ≤ x.l
  args x θ := [mV (θ 0) x.f x.l x.m.length, .str x.s, u64 x.n]
  objs x _ := [prR x.m]
  out x θ R := R (.tup [mV (θ 1) x.f (purE x.m x.l x.s x.n).2.1 (purE x.m x.l x.s x.n).1.length, i64 (purE x.m x.l x.s x.n).2.2]) [none, some (prR (purE x.m x.l x.s x.n).1)]
theorem RPurge_nt : RPurge.Nt := ⟨fun _ _ => rfl, fun _ _ => rfl, fun _ _ _ h => h⟩
theorem RPurge_ok : RPurge.Ok Try.prog 35 := by
  refine LSpec.of_body noGo mixed conRPu Try.func35 rfl (by kernel_rfl) fun ⟨f, l, m, s, n⟩ R ⟨hlen, hsr, hl0⟩ hR => ?_
  have hlen : m.length ≤ 900000 := hlen
  have hsr : SrtP m := hsr
  have hl0 : 0 ≤ l := hl0
  have hQ : R (.tup [mV 1 f (purE m l s n).2.1 (purE m l s n).1.length, i64 (purE m l s n).2.2]) [none, some (prR (purE m l s n).1)] := hR
  have hbad : ¬ (s.size ≤ 250 ∧ l < n) → R (.tup [mV 1 f l m.length, i64 2]) [none, some (prR m)] := fun g => by
    have e : purE m l s n = (m, l, 2) := if_neg g
    rw [e] at hQ
    exact hQ
  clear hR
  show bodyP _ _ _ _ _ [mV 0 f l m.length, .str s, u64 n] ⟨1, Tr.ofL 0 [prR m] .leaf⟩ _
  (conv => whnf)
  constructor
  rotate_left
  · intro h
    have h := sz_t h
    have hF := hbad fun g => h g.1
    (conv => whnf)
    refine ⟨[some 0], _, _, hF, ?_⟩
    (repeat' (first | exact True.intro | rfl | assumption | exact tn_ok rfl | exact tr_ok rfl | exact fun _ => rfl | (refine And.intro ?_ ?_) | (intro _ _; rfl) | ((conv => whnf); (first | exact True.intro | (refine And.intro ?_ ?_)))))
  intro h
  have h := sz_f h
  (conv => whnf)
  constructor
  · intro h2
    have h2 : n ≤ l := of_decide_eq_true h2
    have hF := hbad fun g => by omega
    (conv => whnf)
    refine ⟨[some 0], _, _, hF, ?_⟩
    (repeat' (first | exact True.intro | rfl | assumption | exact tn_ok rfl | exact tr_ok rfl | exact fun _ => rfl | (refine And.intro ?_ ?_) | (intro _ _; rfl) | ((conv => whnf); (first | exact True.intro | (refine And.intro ?_ ?_)))))
  intro h2
  have h2 : l < n := by have : ¬ n ≤ l := of_decide_eq_false h2; omega
  have e : purE m l s n = (setR (cutR m s) s n, n, 0) := if_pos ⟨h, h2⟩
  rw [e] at hQ
  have ec : cutE m s = (cutR m s, ((undR m s).length : Int), 0) := if_pos h
  have hcl : (cutR m s).length ≤ m.length := List.length_filter_le ..
  have es : setE (cutR m s) s n = (setR (cutR m s) s n, 0) := if_pos ⟨h, by omega⟩
  (conv => whnf)
  refine ⟨(m, s), [0], by show m.length ≤ 1000000; omega, rfl, by (repeat' (first | exact True.intro | rfl | assumption | exact tn_ok rfl | exact tr_ok rfl | exact fun _ => rfl | (refine And.intro ?_ ?_) | (intro _ _; rfl) | ((conv => whnf); (first | exact True.intro | (refine And.intro ?_ ?_))))), by (repeat' (first | exact True.intro | rfl | assumption | exact tn_ok rfl | exact tr_ok rfl | exact fun _ => rfl | (refine And.intro ?_ ?_) | (intro _ _; rfl) | ((conv => whnf); (first | exact True.intro | (refine And.intro ?_ ?_))))), ?_⟩
  (conv => whnf)
  rw [show cutE m s = _ from ec]
  refine ⟨(cutR m s, s, n), [3], ⟨by show (cutR m s).length ≤ 1000000; omega, hsr.cutR s⟩, rfl, by (repeat' (first | exact True.intro | rfl | assumption | exact tn_ok rfl | exact tr_ok rfl | exact fun _ => rfl | (refine And.intro ?_ ?_) | (intro _ _; rfl) | ((conv => whnf); (first | exact True.intro | (refine And.intro ?_ ?_))))), by (repeat' (first | exact True.intro | rfl | assumption | exact tn_ok rfl | exact tr_ok rfl | exact fun _ => rfl | (refine And.intro ?_ ?_) | (intro _ _; rfl) | ((conv => whnf); (first | exact True.intro | (refine And.intro ?_ ?_))))), ?_⟩
  (conv => whnf)
  rw [show setE (cutR m s) s n = _ from es]
  refine ⟨[some 4], _, _, hQ, ?_⟩
  (repeat' (first | exact True.intro | rfl | assumption | exact tn_ok rfl | exact tr_ok rfl | exact fun _ => rfl | (refine And.intro ?_ ?_) | (intro _ _; rfl) | ((conv => whnf); (first | exact True.intro | (refine And.intro ?_ ?_)))))
def RFlush : LSpec where
  X := RX
  k := 1
  pre _ := True
  args x θ := [mV (θ 0) x.f x.l x.m.length, u64 x.n]
  objs x _ := [prR x.m]
  out x θ R := R (.tup [mV (θ 1) (fluE x.m x.f x.l x.n).2.1.1 (fluE x.m x.f x.l x.n).2.1.2 (fluE x.m x.f x.l x.n).1.length, i64 (fluE x.m x.f x.l x.n).2.2]) [none, some (prR (fluE x.m x.f x.l x.n).1)]
theorem RFlush_nt : RFlush.Nt := ⟨fun _ _ => rfl, fun _ _ => rfl, fun _ _ _ h => h⟩
theorem RFlush_ok : RFlush.Ok Try.prog 36 := by
  refine LSpec.of_body noGo mixed conOf_nil Try.func36 rfl (by kernel_rfl) fun ⟨f, l, m, s, n⟩ R _ hR => ?_
  have hQ : R (.tup [mV 1 (fluE m f l n).2.1.1 (fluE m f l n).2.1.2 (fluE m f l n).1.length, i64 (fluE m f l n).2.2]) [none, some (prR (fluE m f l n).1)] := hR
  show bodyP _ _ _ _ _ [mV 0 f l m.length, u64 n] ⟨1, Tr.ofL 0 [prR m] .leaf⟩ _
  (conv => whnf)
  constructor
  · intro h2
    have h2 : n ≤ l := of_decide_eq_true h2
    have e : fluE m f l n = (m, (f, l), 2) := if_neg (by omega)
    rw [e] at hQ
    (conv => whnf)
    refine ⟨[some 0], _, _, hQ, ?_⟩
    (repeat' (first | exact True.intro | rfl | assumption | exact tn_ok rfl | exact tr_ok rfl | exact fun _ => rfl | (refine And.intro ?_ ?_) | (intro _ _; rfl) | ((conv => whnf); (first | exact True.intro | (refine And.intro ?_ ?_)))))
  intro h2
  have h2 : l < n := by have : ¬ n ≤ l := of_decide_eq_false h2; omega
  have e : fluE m f l n = ([], (n, n), 0) := if_pos h2
  rw [e] at hQ
  (conv => whnf)
  refine ⟨[none], _, _, hQ, ?_⟩
  (repeat' (first | exact True.intro | rfl | assumption | exact tn_ok rfl | exact tr_ok rfl | exact fun _ => rfl | (refine And.intro ?_ ?_) | (intro _ _; rfl) | ((conv => whnf); (first | exact True.intro | (refine And.intro ?_ ?_)))))
def ROf : LSpec where
  X := RX
  k := 1
  pre x := x.m.length ≤ 900000
  args x θ := [mV (θ 0) x.f x.l x.m.length, .str x.s]
  objs x _ := [prR x.m]
  out x _ R := R (u64 (ofE x.f x.m x.s)) [some (prR x.m)]
theorem ROf_nt : ROf.Nt := ⟨fun _ _ => rfl, fun _ _ => rfl, fun _ _ _ h => h⟩
theorem ROf_ok : ROf.Ok Try.prog 34 := by
  refine LSpec.of_body noGo mixed conRPu Try.func34 rfl (by kernel_rfl) fun ⟨f, l, m, s, n⟩ R hlen hR => ?_
  have hlen : m.length ≤ 900000 := hlen
  have hQ : R (u64 (ofE f m s)) [some (prR m)] := hR
  show bodyP _ _ _ _ _ [mV 0 f l m.length, .str s] ⟨1, Tr.ofL 0 [prR m] .leaf⟩ _
  (conv => whnf)
  constructor
  · intro h
    have h := sz_t h
    have e : ofE f m s = 0 := if_neg h
    rw [e] at hQ
    (conv => whnf)
    refine ⟨[], _, _, hQ, ?_⟩
    (repeat' (first | exact True.intro | rfl | assumption | exact tn_ok rfl | exact tr_ok rfl | exact fun _ => rfl | (refine And.intro ?_ ?_) | (intro _ _; rfl) | ((conv => whnf); (first | exact True.intro | (refine And.intro ?_ ?_)))))
  · intro h
    have h := sz_f h
    have e : ofE f m s = mmI false f (maxE m s) := if_pos h
    rw [e] at hQ
    (conv => whnf)
    refine ⟨(m, s), [0], by show m.length ≤ 1000000; omega, rfl, by (repeat' (first | exact True.intro | rfl | assumption | exact tn_ok rfl | exact tr_ok rfl | exact fun _ => rfl | (refine And.intro ?_ ?_) | (intro _ _; rfl) | ((conv => whnf); (first | exact True.intro | (refine And.intro ?_ ?_))))), by (repeat' (first | exact True.intro | rfl | assumption | exact tn_ok rfl | exact tr_ok rfl | exact fun _ => rfl | (refine And.intro ?_ ?_) | (intro _ _; rfl) | ((conv => whnf); (first | exact True.intro | (refine And.intro ?_ ?_))))), ?_⟩
    (conv => whnf)
    (repeat (first | refine And.intro rfl ?_ | fail))
    (conv => whnf)
    refine ⟨[], _, _, hQ, ?_⟩
    (repeat' (first | exact True.intro | rfl | assumption | exact tn_ok rfl | exact tr_ok rfl | exact fun _ => rfl | (refine And.intro ?_ ?_) | (intro _ _; rfl) | ((conv => whnf); (first | exact True.intro | (refine And.intro ?_ ?_)))))
end Go.Proofs.Ytagpkejbbmpcgaa
