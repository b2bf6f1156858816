/- TrieLong: the loops. -/
import Derived.Test.YtngggdlcanpfgaaTrLong0R
namespace Go.Proofs.Ytngggdlcanpfgaa
open Go Go.RowKit Sy Ti
set_option maxRecDepth 100000
set_option maxHeartbeats 8000000

theorem conLg2 : ConOk Try.prog (conOf [(8, SKnown.T), (9, SNew.T), (11, GSet.T), (14, SLen.T), (15, SNodes.T), (16, GMax.T), (17, inl Try.prog (conOf [(41, GLongest.T)]) Try.f17), (18, GUnder.T)]) :=
  conOf_cons (LSpec.call SKnown_nt SKnown_ok) (conOf_cons (LSpec.call SNew_nt SNew_ok) (conOf_cons (LSpec.call GSet_nt GSet_ok) (conOf_cons (LSpec.call SLen_nt SLen_ok) (conOf_cons (LSpec.call SNodes_nt SNodes_ok) (conOf_cons (LSpec.call GMax_nt GMax_ok) (conOf_cons (inl_ok noGo mixed conLo Try.func17 (by kernel_rfl)) (conOf_cons (LSpec.call GUnder_nt GUnder_ok) conOf_nil)))))))
structure LgS where
  T : Tt
  R : RowsN
  ns : List Nat
  t : Nat
def SLongL : LSpec where
  X := Int × Int
  k := 0
  pre x := (0 ≤ x.1 ∧ x.1 < 256) ∧ 0 ≤ x.2 ∧ x.2 < 256
  args x _ := [.int .u8 x.1, .int .u8 x.2]
  objs _ _ := []
  out _ _ R := R (.sb true) []
theorem SLongL_top : SLongL.Top Try.prog 4 := by
  refine LSpec.topC (md := false) [21] noGo mixed conLg2 Try.func4 rfl (by kernel_rfl) fun ⟨b, gi⟩ R ⟨hb, hgi⟩ hR => ?_
  have hgi : 0 ≤ gi ∧ gi < 256 := hgi
  have hQ : R (.sb true) [] := hR
  show bodyP _ _ _ _ _ [.int .u8 b, .int .u8 gi] ⟨0, Tr.ofL 0 [] .leaf⟩ _
  (conv => whnf)
  constructor
  rotate_left
  · intro _
    (conv => whnf)
    refine ⟨(), [], trivial, rfl, by (repeat' (first | exact True.intro | rfl | assumption | exact tn_ok rfl | exact tr_ok rfl | exact fun _ => rfl | (refine And.intro ?_ ?_) | (intro _ _; rfl) | ((conv => whnf); (first | exact True.intro | (refine And.intro ?_ ?_))))), by (repeat' (first | exact True.intro | rfl | assumption | exact tn_ok rfl | exact tr_ok rfl | exact fun _ => rfl | (refine And.intro ?_ ?_) | (intro _ _; rfl) | ((conv => whnf); (first | exact True.intro | (refine And.intro ?_ ?_))))), ?_⟩
    (conv => whnf)
    refine ⟨[], _, _, hQ, ?_⟩
    (repeat' (first | exact True.intro | rfl | assumption | exact tn_ok rfl | exact tr_ok rfl | exact fun _ => rfl | (refine And.intro ?_ ?_) | (intro _ _; rfl) | ((conv => whnf); (first | exact True.intro | (refine And.intro ?_ ?_)))))
  intro h1
  have h1 : ¬ gi < 1 := of_decide_eq_false h1
  (conv => whnf)
  constructor
  · intro _
    (conv => whnf)
    refine ⟨(), [], trivial, rfl, by (repeat' (first | exact True.intro | rfl | assumption | exact tn_ok rfl | exact tr_ok rfl | exact fun _ => rfl | (refine And.intro ?_ ?_) | (intro _ _; rfl) | ((conv => whnf); (first | exact True.intro | (refine And.intro ?_ ?_))))), by (repeat' (first | exact True.intro | rfl | assumption | exact tn_ok rfl | exact tr_ok rfl | exact fun _ => rfl | (refine And.intro ?_ ?_) | (intro _ _; rfl) | ((conv => whnf); (first | exact True.intro | (refine And.intro ?_ ?_))))), ?_⟩
    (conv => whnf)
    refine ⟨[], _, _, hQ, ?_⟩
    (repeat' (first | exact True.intro | rfl | assumption | exact tn_ok rfl | exact tr_ok rfl | exact fun _ => rfl | (refine And.intro ?_ ?_) | (intro _ _; rfl) | ((conv => whnf); (first | exact True.intro | (refine And.intro ?_ ?_)))))
  intro h2
  have h2 : ¬ gi > 9 := of_decide_eq_false h2
  obtain ⟨g, rfl⟩ : ∃ g : Nat, gi = (g : Int) := ⟨gi.toNat, by omega⟩
  have hg0 : 0 < g := by omega
  have hg9 : g ≤ 9 := by omega
  have ewg : IntKind.i64.wrap (g : Int) = (g : Int) := wrap_id (by omega) (by omega)
  clear h1 h2 hb hgi
  obtain ⟨c, hc⟩ : ∃ c, by_ (strB [b]) = [c] := ⟨_, rfl⟩
  (conv => whnf)
  refine ⟨(), [], trivial, rfl, by (repeat' (first | exact True.intro | rfl | assumption | exact tn_ok rfl | exact tr_ok rfl | exact fun _ => rfl | (refine And.intro ?_ ?_) | (intro _ _; rfl) | ((conv => whnf); (first | exact True.intro | (refine And.intro ?_ ?_))))), by (repeat' (first | exact True.intro | rfl | assumption | exact tn_ok rfl | exact tr_ok rfl | exact fun _ => rfl | (refine And.intro ?_ ?_) | (intro _ _; rfl) | ((conv => whnf); (first | exact True.intro | (refine And.intro ?_ ?_))))), fun y => ?_⟩
  have hn0 := newT_tg y
  generalize newT y = T0 at *
  generalize noR = M0 at *
  generalize [y] = n0 at *
  (conv => whnf)
  refine .inl ⟨Bs × Nat, fun x => [(0, .int .u8 b), (1, .int .u8 (g : Int)), (5, .ptr 0 0), (6, .str x.1), (7, i64 x.2)], fun _ => [some (trC 1 y 0), some (tnO 2 T0), some (trO 1 M0)], fun x => 251 - x.2, fun x => x.2 ≤ 251 ∧ by_ x.1 = List.replicate x.2 c, 3, ⟨(eS, 0), [some 0, some 1, some 2], ⟨Nat.zero_le _, rfl⟩, ?_⟩, fun _ => rfl, fun ⟨s, i⟩ hi0 => ?_⟩
  · (repeat' (first | exact True.intro | rfl | assumption | exact tn_ok rfl | exact tr_ok rfl | exact fun _ => rfl | (refine And.intro ?_ ?_) | (intro _ _; rfl) | ((conv => whnf); (first | exact True.intro | (refine And.intro ?_ ?_)))))
  have hi : i ≤ 251 := hi0.1
  have hs : by_ s = List.replicate i c := hi0.2
  have hss : s.size = i := by rw [← by_len, hs, List.length_replicate]
  clear hi0
  (conv => whnf)
  constructor
  · intro h1
    have h1 : i < 251 := by have : (i : Int) < 251 := of_decide_eq_true h1; omega
    (conv => whnf)
    (repeat (first | refine And.intro rfl ?_ | fail))
    (conv => whnf)
    refine ⟨by decide, [b], rfl, fun j hj => ?_, ?_⟩
    · obtain rfl : j = 0 := Nat.lt_one_iff.1 hj
      rfl
    (conv => whnf)
    refine ⟨by show s.size + (strB [b]).size ≤ 9223372036854775807; rw [show (strB [b]).size = 1 from rfl]; omega, ?_⟩
    (conv => whnf)
    refine ⟨(s ++ strB [b], i + 1), [some 0, some 1, some 2], by show 251 - (i + 1) < 251 - i; omega, ⟨by show i + 1 ≤ 251; omega, ?_⟩, ?_⟩
    · show by_ (s ++ strB [b]) = List.replicate (i + 1) c
      rw [by_app, hs, hc, List.replicate_succ']
    (repeat' (first | exact True.intro | rfl | assumption | exact tn_ok rfl | exact tr_ok rfl | exact fun _ => rfl | (refine And.intro ?_ ?_) | (intro _ _; rfl) | ((conv => whnf); (first | exact True.intro | (refine And.intro ?_ ?_)))))
    all_goals exact (wrap_inc h1 (by omega)).symm
  intro h1
  have h1 : i = 251 := by have : ¬ (i : Int) < 251 := of_decide_eq_false h1; omega
  subst h1
  clear hi
  (conv => whnf)
  refine .inl ⟨LgS, fun x => [(0, .int .u8 b), (1, .int .u8 (g : Int)), (5, .ptr 0 0), (6, .str s), (8, i64 x.t), (9, i64 (250 - ((x.t * g : Nat) : Int)))], fun x => [some (trC 1 y (dL s g x.t).length), some (tnO 2 x.T), some (trO 1 x.R)], fun x => 251 - x.t, fun x => x.t ≤ 251 ∧ TG x.T x.R y x.ns (dL s g x.t) ∧ (x.t = 0 ∨ (x.t - 1) * g ≤ 250), 3, ⟨⟨T0, M0, n0, 0⟩, [some 0, some 1, some 2], ⟨Nat.zero_le _, hn0, .inl rfl⟩, ?_⟩, fun _ => rfl, fun ⟨T, M, ns, t⟩ hi0 => ?_⟩
  · (repeat' (first | exact True.intro | rfl | assumption | exact tn_ok rfl | exact tr_ok rfl | exact fun _ => rfl | (refine And.intro ?_ ?_) | (intro _ _; rfl) | ((conv => whnf); (first | exact True.intro | (refine And.intro ?_ ?_)))))
    all_goals (show (250 - ((0 * g : Nat) : Int)) = 250; rw [Nat.zero_mul]; rfl)
  have ht : t ≤ 251 := hi0.1
  have hG : TG T M y ns (dL s g t) := hi0.2.1
  have htg : t = 0 ∨ (t - 1) * g ≤ 250 := hi0.2.2
  clear hi0
  have hdl := dL_len (s := s) (g := g) t
  have h9 : t * g ≤ 251 * 9 := Nat.mul_le_mul ht hg9
  (conv => whnf)
  constructor
  · intro h1
    have h1 : t * g ≤ 250 := by have : 250 - ((t * g : Nat) : Int) ≥ 0 := of_decide_eq_true h1; omega
    have en : 250 - ((t * g : Nat) : Int) = ((250 - t * g : Nat) : Int) := by omega
    have en2 : ((250 - t * g : Nat) : Int).toNat = 250 - t * g := Int.toNat_natCast _
    have ew : IntKind.u64.wrap (IntKind.u64.wrap ((250 - t * g : Nat) : Int) + 1) = ((250 - t * g : Nat) : Int) + 1 := by
      have e : ∀ n : Int, IntKind.u64.wrap n = n % 18446744073709551616 := fun n => by simp [IntKind.wrap, IntKind.bits, IntKind.signed]
      rw [e, e]
      omega
    have hnx := dL_next hs hg0 h1
    have e1t : (t + 1) * g = t * g + g := Nat.succ_mul t g
    have htb : t ≤ 250 := Nat.le_trans (Nat.le_mul_of_pos_right t hg0) h1
    (conv => whnf)
    rw [en]
    refine ⟨by omega, ?_⟩
    (conv => whnf)
    rw [en2]
    refine ⟨Nat.zero_le _, by omega, ?_⟩
    (conv => whnf)
    rw [ew]
    refine ⟨⟨T, M, y, ns, dL s g t, rp s (250 - t * g), ((250 - t * g : Nat) : Int) + 1⟩, [0, 1, 2], ⟨⟨hG, by show (dL s g t).length ≤ 900000; omega⟩, ⟨by show (0 : Int) ≤ ((250 - t * g : Nat) : Int) + 1; omega, by show ((250 - t * g : Nat) : Int) + 1 < 18446744073709551616; omega⟩, by show (rp s (250 - t * g)).size ≤ 1000000; rw [rp_size hs (by omega)]; omega⟩, rfl, by (repeat' (first | exact True.intro | rfl | assumption | exact tn_ok rfl | exact tr_ok rfl | exact fun _ => rfl | (refine And.intro ?_ ?_) | (intro _ _; rfl) | ((conv => whnf); (first | exact True.intro | (refine And.intro ?_ ?_))))), by (repeat' (first | exact True.intro | rfl | assumption | exact tn_ok rfl | exact tr_ok rfl | exact fun _ => rfl | (refine And.intro ?_ ?_) | (intro _ _; rfl) | ((conv => whnf); (first | exact True.intro | (refine And.intro ?_ ?_))))), fun T2 M2 ns2 hg2 => ?_⟩
    have hg2 : TG T2 M2 y ns2 (setE (dL s g t) (rp s (250 - t * g)) (((250 - t * g : Nat) : Int) + 1)).1 := hg2
    rw [hnx] at hg2
    (conv => whnf)
    rw [show setE (dL s g t) (rp s (250 - t * g)) (((250 - t * g : Nat) : Int) + 1) = _ from hnx]
    refine ⟨fun hh => k_no hh, fun _ => ?_⟩
    (conv => whnf)
    refine ⟨⟨T2, M2, ns2, t + 1⟩, [some 0, some 1, some 2], by show 251 - (t + 1) < 251 - t; omega, ⟨by show t + 1 ≤ 251; omega, hg2, .inr h1⟩, ?_⟩
    (repeat' (first | exact True.intro | rfl | assumption | exact tn_ok rfl | exact tr_ok rfl | exact fun _ => rfl | (refine And.intro ?_ ?_) | (intro _ _; rfl) | ((conv => whnf); (first | exact True.intro | (refine And.intro ?_ ?_)))))
    all_goals first | exact (wrap_id (n := (t : Int) + 1) (by omega) (by omega)).symm | (show (250 - (((t + 1) * g : Nat) : Int)) = IntKind.i64.wrap (((250 - t * g : Nat) : Int) - IntKind.i64.wrap (g : Int)); rw [ewg, wrap_id (by omega) (by omega), e1t]; omega)
  intro h1
  have h1 : 250 < t * g := by have : ¬ 250 - ((t * g : Nat) : Int) ≥ 0 := of_decide_eq_false h1; omega
  have ht0 : 0 < t := Nat.pos_of_ne_zero fun e => by rw [e, Nat.zero_mul] at h1; omega
  have hD : DL s c g t := ⟨hs, hg0, ht0, htg.resolve_left (by omega), h1⟩
  have hrg : 250 % g < g := Nat.mod_lt _ hg0
  have er : (250 : Int).tmod (g : Int) = ((250 % g : Nat) : Int) := rfl
  (conv => whnf)
  refine ⟨Unit, fun _ => [(1, .int .u8 (g : Int)), (5, .ptr 0 0), (6, .str s), (8, i64 t), (10, i64 (if 250 % g = 0 then t else t + 1 : Nat))], fun _ => [some (trC 1 y (dL s g t).length), some (tnO 2 T), some (trO 1 M)], fun _ => True, 3, fun _ => rfl, ?_, fun _ _ => ?_⟩
  · (conv => whnf)
    refine ⟨by rw [ewg]; omega, ?_⟩
    rw [ewg, er]
    (conv => whnf)
    constructor
    · intro hh
      have hh : ¬ 250 % g = 0 := fun e => by
        have hh : (!decide (((250 % g : Nat) : Int) = 0)) = true := hh
        rw [e] at hh
        cases hh
      (conv => whnf)
      refine ⟨(), [some 0, some 1, some 2], trivial, ?_⟩
      (repeat' (first | exact True.intro | rfl | assumption | exact tn_ok rfl | exact tr_ok rfl | exact fun _ => rfl | (refine And.intro ?_ ?_) | (intro _ _; rfl) | ((conv => whnf); (first | exact True.intro | (refine And.intro ?_ ?_)))))
      all_goals (show ((if 250 % g = 0 then t else t + 1 : Nat) : Int) = IntKind.i64.wrap ((t : Int) + 1); rw [if_neg hh, wrap_id (by omega) (by omega)]; rfl)
    · intro hh
      have hh : 250 % g = 0 := by
        have hh : (!decide (((250 % g : Nat) : Int) = 0)) = false := hh
        have := of_decide_eq_true (not_f hh)
        omega
      (conv => whnf)
      refine ⟨(), [some 0, some 1, some 2], trivial, ?_⟩
      (repeat' (first | exact True.intro | rfl | assumption | exact tn_ok rfl | exact tr_ok rfl | exact fun _ => rfl | (refine And.intro ?_ ?_) | (intro _ _; rfl) | ((conv => whnf); (first | exact True.intro | (refine And.intro ?_ ?_)))))
      all_goals (show ((if 250 % g = 0 then t else t + 1 : Nat) : Int) = (t : Int); rw [if_pos hh])
  have hni := hD.ni
  have hno : ns.length = (if 250 % g = 0 then t else t + 1) := by
    rw [hG.nodes hni.nd hni.mem]
    split
    · rw [List.length_map, hdl]
    · rw [List.length_cons, List.length_map, hdl]
  have hok : ∀ q, GOk ⟨T, M, y, ns, dL s g t, q, 1⟩ := fun q => ⟨hG, by show (dL s g t).length ≤ 900000; omega⟩
  have hbig : ¬ s.size ≤ 250 := by omega
  have e1 : setE (dL s g t) s 1 = (dL s g t, 2) := if_neg fun k => hbig k.1
  have e2 : maxE (dL s g t) s = 0 := if_neg hbig
  have e3 : lonE (dL s g t) s = (eS, 2) := if_neg hbig
  have e4 : undE (dL s g t) s = [] := if_neg hbig
  rw [← hno]
  generalize hm : dL s g t = m at *
  (conv => whnf)
  refine ⟨((T, M), (y, (m.length : Int))), [0, 1, 2], trivial, rfl, by (repeat' (first | exact True.intro | rfl | assumption | exact tn_ok rfl | exact tr_ok rfl | exact fun _ => rfl | (refine And.intro ?_ ?_) | (intro _ _; rfl) | ((conv => whnf); (first | exact True.intro | (refine And.intro ?_ ?_))))), by (repeat' (first | exact True.intro | rfl | assumption | exact tn_ok rfl | exact tr_ok rfl | exact fun _ => rfl | (refine And.intro ?_ ?_) | (intro _ _; rfl) | ((conv => whnf); (first | exact True.intro | (refine And.intro ?_ ?_))))), ?_⟩
  (conv => whnf)
  refine ⟨fun _ => ?_, fun hh => absurd (show (!decide ((m.length : Int) = (t : Int))) = true from hh) (by rw [hdl]; simp)⟩
  (conv => whnf)
  refine ⟨⟨T, M, y, ns, m.length, eS⟩, [0, 1, 2], ⟨hG.ts, hG.nsl (by omega)⟩, rfl, by (repeat' (first | exact True.intro | rfl | assumption | exact tn_ok rfl | exact tr_ok rfl | exact fun _ => rfl | (refine And.intro ?_ ?_) | (intro _ _; rfl) | ((conv => whnf); (first | exact True.intro | (refine And.intro ?_ ?_))))), by (repeat' (first | exact True.intro | rfl | assumption | exact tn_ok rfl | exact tr_ok rfl | exact fun _ => rfl | (refine And.intro ?_ ?_) | (intro _ _; rfl) | ((conv => whnf); (first | exact True.intro | (refine And.intro ?_ ?_))))), ?_⟩
  (conv => whnf)
  refine ⟨fun _ => ?_, fun hh => eqd hh⟩
  (conv => whnf)
  refine ⟨⟨T, M, y, ns, m, s, 1⟩, [0, 1, 2], ⟨hok s, ⟨show (0 : Int) ≤ 1 by decide, show (1 : Int) < 18446744073709551616 by decide⟩, by show s.size ≤ 1000000; omega⟩, rfl, by (repeat' (first | exact True.intro | rfl | assumption | exact tn_ok rfl | exact tr_ok rfl | exact fun _ => rfl | (refine And.intro ?_ ?_) | (intro _ _; rfl) | ((conv => whnf); (first | exact True.intro | (refine And.intro ?_ ?_))))), by (repeat' (first | exact True.intro | rfl | assumption | exact tn_ok rfl | exact tr_ok rfl | exact fun _ => rfl | (refine And.intro ?_ ?_) | (intro _ _; rfl) | ((conv => whnf); (first | exact True.intro | (refine And.intro ?_ ?_))))), fun T2 M2 ns2 hg2 => ?_⟩
  have hg2 : TG T2 M2 y ns2 (setE m s 1).1 := hg2
  rw [e1] at hg2
  have hok2 : ∀ q, GOk ⟨T2, M2, y, ns2, m, q, 1⟩ := fun q => ⟨hg2, by show m.length ≤ 900000; omega⟩
  (conv => whnf)
  rw [show setE m s 1 = _ from e1]
  refine ⟨fun _ => ?_, fun hh => k_no hh⟩
  (conv => whnf)
  refine ⟨⟨T2, M2, y, ns2, m, s, 1⟩, [0, 1, 2], hok2 _, rfl, by (repeat' (first | exact True.intro | rfl | assumption | exact tn_ok rfl | exact tr_ok rfl | exact fun _ => rfl | (refine And.intro ?_ ?_) | (intro _ _; rfl) | ((conv => whnf); (first | exact True.intro | (refine And.intro ?_ ?_))))), by (repeat' (first | exact True.intro | rfl | assumption | exact tn_ok rfl | exact tr_ok rfl | exact fun _ => rfl | (refine And.intro ?_ ?_) | (intro _ _; rfl) | ((conv => whnf); (first | exact True.intro | (refine And.intro ?_ ?_))))), ?_⟩
  (conv => whnf)
  rw [show maxE m s = 0 from e2]
  refine ⟨fun _ => ?_, fun hh => k_no hh⟩
  (conv => whnf)
  refine ⟨⟨T2, M2, y, ns2, m, s, 1⟩, [0, 1, 2], hok2 _, rfl, by (repeat' (first | exact True.intro | rfl | assumption | exact tn_ok rfl | exact tr_ok rfl | exact fun _ => rfl | (refine And.intro ?_ ?_) | (intro _ _; rfl) | ((conv => whnf); (first | exact True.intro | (refine And.intro ?_ ?_))))), by (repeat' (first | exact True.intro | rfl | assumption | exact tn_ok rfl | exact tr_ok rfl | exact fun _ => rfl | (refine And.intro ?_ ?_) | (intro _ _; rfl) | ((conv => whnf); (first | exact True.intro | (refine And.intro ?_ ?_))))), ?_⟩
  (conv => whnf)
  rw [show lonE m s = _ from e3]
  refine ⟨fun _ => ?_, fun hh => eqd' hh⟩
  (conv => whnf)
  refine ⟨fun _ => ?_, fun hh => k_no hh⟩
  (conv => whnf)
  refine ⟨⟨T2, M2, y, ns2, m, s, 1⟩, [0, 1, 2], hok2 _, rfl, by (repeat' (first | exact True.intro | rfl | assumption | exact tn_ok rfl | exact tr_ok rfl | exact fun _ => rfl | (refine And.intro ?_ ?_) | (intro _ _; rfl) | ((conv => whnf); (first | exact True.intro | (refine And.intro ?_ ?_))))), by (repeat' (first | exact True.intro | rfl | assumption | exact tn_ok rfl | exact tr_ok rfl | exact fun _ => rfl | (refine And.intro ?_ ?_) | (intro _ _; rfl) | ((conv => whnf); (first | exact True.intro | (refine And.intro ?_ ?_))))), ?_⟩
  (conv => whnf)
  rw [show undE m s = [] from e4]
  refine ⟨fun hh => k_no hh, fun _ => ?_⟩
  (conv => whnf)
  refine .inl ⟨Nat, fun n => [(1, .int .u8 (g : Int)), (5, .ptr 0 0), (6, .str s), (11, i64 n)], fun _ => [some (trC 1 y m.length), some (tnO 2 T2), some (trO 1 M2)], fun n => 251 - n, fun n => n ≤ 251, 3, ⟨0, [some 0, some 1, some 2], Nat.zero_le _, ?_⟩, fun _ => rfl, fun n hn0 => ?_⟩
  · (repeat' (first | exact True.intro | rfl | assumption | exact tn_ok rfl | exact tr_ok rfl | exact fun _ => rfl | (refine And.intro ?_ ?_) | (intro _ _; rfl) | ((conv => whnf); (first | exact True.intro | (refine And.intro ?_ ?_)))))
  have hn : n ≤ 251 := hn0
  clear hn0
  have en : ((n : Nat) : Int).toNat = n := Int.toNat_natCast n
  have ewm : IntKind.i64.wrap ((g : Int) * 250) = (g : Int) * 250 := wrap_id (by omega) (by omega)
  have ews : IntKind.i64.wrap ((n : Int) - ((250 % g : Nat) : Int)) = (n : Int) - ((250 % g : Nat) : Int) := wrap_id (by omega) (by omega)
  have ewa : IntKind.i64.wrap ((n : Int) - ((250 % g : Nat) : Int) + (g : Int) * 250) = (n : Int) - ((250 % g : Nat) : Int) + (g : Int) * 250 := wrap_id (by omega) (by omega)
  (conv => whnf)
  constructor
  rotate_left
  · intro _
    (conv => whnf)
    refine ⟨(), [], trivial, rfl, by (repeat' (first | exact True.intro | rfl | assumption | exact tn_ok rfl | exact tr_ok rfl | exact fun _ => rfl | (refine And.intro ?_ ?_) | (intro _ _; rfl) | ((conv => whnf); (first | exact True.intro | (refine And.intro ?_ ?_))))), by (repeat' (first | exact True.intro | rfl | assumption | exact tn_ok rfl | exact tr_ok rfl | exact fun _ => rfl | (refine And.intro ?_ ?_) | (intro _ _; rfl) | ((conv => whnf); (first | exact True.intro | (refine And.intro ?_ ?_))))), ?_⟩
    (conv => whnf)
    refine ⟨[], _, _, hQ, ?_⟩
    (repeat' (first | exact True.intro | rfl | assumption | exact tn_ok rfl | exact tr_ok rfl | exact fun _ => rfl | (refine And.intro ?_ ?_) | (intro _ _; rfl) | ((conv => whnf); (first | exact True.intro | (refine And.intro ?_ ?_)))))
  intro h1
  have h1 : n ≤ 250 := by have : (n : Int) ≤ 250 := of_decide_eq_true h1; omega
  (conv => whnf)
  refine ⟨by rw [ewg]; omega, ?_⟩
  rw [ewg, er]
  (conv => whnf)
  rw [ewg, ews, ewm, ewa]
  refine ⟨by omega, ?_⟩
  (conv => whnf)
  by_cases hr : n < 250 % g
  · have hm0 : maxE m (rp s n) = 0 := by rw [← hm]; exact hD.max0 hr h1
    constructor
    · intro _
      (conv => whnf)
      refine ⟨by rw [ewg]; omega, ?_⟩
      rw [ewg, er]
      (conv => whnf)
      constructor
      · intro _
        (conv => whnf)
        refine ⟨by omega, ?_⟩
        (conv => whnf)
        rw [en]
        refine ⟨Nat.zero_le _, by omega, ?_⟩
        (conv => whnf)
        refine ⟨⟨T2, M2, y, ns2, m, rp s n, 1⟩, [0, 1, 2], hok2 _, rfl, by (repeat' (first | exact True.intro | rfl | assumption | exact tn_ok rfl | exact tr_ok rfl | exact fun _ => rfl | (refine And.intro ?_ ?_) | (intro _ _; rfl) | ((conv => whnf); (first | exact True.intro | (refine And.intro ?_ ?_))))), by (repeat' (first | exact True.intro | rfl | assumption | exact tn_ok rfl | exact tr_ok rfl | exact fun _ => rfl | (refine And.intro ?_ ?_) | (intro _ _; rfl) | ((conv => whnf); (first | exact True.intro | (refine And.intro ?_ ?_))))), ?_⟩
        (conv => whnf)
        rw [show maxE m (rp s n) = 0 from hm0]
        refine ⟨fun hh => k_no hh, fun _ => ?_⟩
        (conv => whnf)
        refine ⟨n + 1, [some 0, some 1, some 2], by show 251 - (n + 1) < 251 - n; omega, by show n + 1 ≤ 251; omega, ?_⟩
        (repeat' (first | exact True.intro | rfl | assumption | exact tn_ok rfl | exact tr_ok rfl | exact fun _ => rfl | (refine And.intro ?_ ?_) | (intro _ _; rfl) | ((conv => whnf); (first | exact True.intro | (refine And.intro ?_ ?_)))))
        all_goals exact (wrap_id (n := (n : Int) + 1) (by omega) (by omega)).symm
      · intro hh
        exact absurd (of_decide_eq_false hh) (by show ¬ ¬ (n : Int) < ((250 % g : Nat) : Int); omega)
    · intro _
      (conv => whnf)
      refine ⟨by omega, ?_⟩
      (conv => whnf)
      rw [en]
      refine ⟨Nat.zero_le _, by omega, ?_⟩
      (conv => whnf)
      refine ⟨⟨T2, M2, y, ns2, m, rp s n, 1⟩, [0, 1, 2], hok2 _, rfl, by (repeat' (first | exact True.intro | rfl | assumption | exact tn_ok rfl | exact tr_ok rfl | exact fun _ => rfl | (refine And.intro ?_ ?_) | (intro _ _; rfl) | ((conv => whnf); (first | exact True.intro | (refine And.intro ?_ ?_))))), by (repeat' (first | exact True.intro | rfl | assumption | exact tn_ok rfl | exact tr_ok rfl | exact fun _ => rfl | (refine And.intro ?_ ?_) | (intro _ _; rfl) | ((conv => whnf); (first | exact True.intro | (refine And.intro ?_ ?_))))), ?_⟩
      (conv => whnf)
      rw [show maxE m (rp s n) = 0 from hm0]
      refine ⟨fun hh => k_no hh, fun _ => ?_⟩
      (conv => whnf)
      refine ⟨n + 1, [some 0, some 1, some 2], by show 251 - (n + 1) < 251 - n; omega, by show n + 1 ≤ 251; omega, ?_⟩
      (repeat' (first | exact True.intro | rfl | assumption | exact tn_ok rfl | exact tr_ok rfl | exact fun _ => rfl | (refine And.intro ?_ ?_) | (intro _ _; rfl) | ((conv => whnf); (first | exact True.intro | (refine And.intro ?_ ?_)))))
      all_goals exact (wrap_id (n := (n : Int) + 1) (by omega) (by omega)).symm
  · have hr : 250 % g ≤ n := Nat.le_of_not_lt hr
    have hm1 : maxE m (rp s n) = ((wnt g n : Nat) : Int) + 1 := by rw [← hm]; exact hD.max1 hr h1
    have hlo : lonE m (rp s n) = (rp s (wnt g n), 0) := by rw [← hm]; exact hD.lon hr h1
    obtain ⟨w1, w2, _, _⟩ := wnt_ok hg0 hr
    have ew : IntKind.i64.wrap ((n : Int) - ((n : Int) - ((250 % g : Nat) : Int) + (g : Int) * 250).tmod (g : Int)) = ((wnt g n : Nat) : Int) := by
      rw [Int.tmod_eq_emod_of_nonneg (by omega), Int.add_mul_emod_self_left, show (n : Int) - ((250 % g : Nat) : Int) = ((n - 250 % g : Nat) : Int) by omega]
      have : ((n - 250 % g : Nat) : Int) % (g : Int) = (((n - 250 % g) % g : Nat) : Int) := rfl
      rw [this]
      have hq : (n - 250 % g) % g ≤ n := Nat.le_trans (Nat.mod_le ..) (Nat.sub_le ..)
      show _ = ((n - (n - 250 % g) % g : Nat) : Int)
      generalize (n - 250 % g) % g = q at hq ⊢
      rw [wrap_id (by omega) (by omega)]
      omega
    have ewn : ((wnt g n : Nat) : Int).toNat = wnt g n := Int.toNat_natCast _
    have ewu : IntKind.u64.wrap (IntKind.u64.wrap ((wnt g n : Nat) : Int) + 1) = ((wnt g n : Nat) : Int) + 1 := by
      have e : ∀ n : Int, IntKind.u64.wrap n = n % 18446744073709551616 := fun n => by simp [IntKind.wrap, IntKind.bits, IntKind.signed]
      rw [e, e]
      omega
    rw [ew]
    generalize wnt g n = w at *
    refine ⟨fun _ => ?_, fun hh => absurd (of_decide_eq_true hh) (by show ¬ (w : Int) < 0; omega)⟩
    (conv => whnf)
    refine ⟨by rw [ewg]; omega, ?_⟩
    rw [ewg, er]
    (conv => whnf)
    refine ⟨fun hh => absurd (of_decide_eq_true hh) (by show ¬ (n : Int) < ((250 % g : Nat) : Int); omega), fun _ => ?_⟩
    (conv => whnf)
    refine ⟨by omega, ?_⟩
    (conv => whnf)
    rw [en]
    refine ⟨Nat.zero_le _, by omega, ?_⟩
    (conv => whnf)
    refine ⟨⟨T2, M2, y, ns2, m, rp s n, 1⟩, [0, 1, 2], hok2 _, rfl, by (repeat' (first | exact True.intro | rfl | assumption | exact tn_ok rfl | exact tr_ok rfl | exact fun _ => rfl | (refine And.intro ?_ ?_) | (intro _ _; rfl) | ((conv => whnf); (first | exact True.intro | (refine And.intro ?_ ?_))))), by (repeat' (first | exact True.intro | rfl | assumption | exact tn_ok rfl | exact tr_ok rfl | exact fun _ => rfl | (refine And.intro ?_ ?_) | (intro _ _; rfl) | ((conv => whnf); (first | exact True.intro | (refine And.intro ?_ ?_))))), ?_⟩
    (conv => whnf)
    rw [show maxE m (rp s n) = _ from hm1, ewu]
    refine ⟨fun _ => ?_, fun hh => eqd hh⟩
    (conv => whnf)
    refine ⟨by omega, ?_⟩
    (conv => whnf)
    rw [en]
    refine ⟨Nat.zero_le _, by omega, ?_⟩
    (conv => whnf)
    refine ⟨by omega, ?_⟩
    (conv => whnf)
    rw [ewn]
    refine ⟨Nat.zero_le _, by omega, ?_⟩
    (conv => whnf)
    refine ⟨⟨T2, M2, y, ns2, m, rp s n, 1⟩, [0, 1, 2], hok2 _, rfl, by (repeat' (first | exact True.intro | rfl | assumption | exact tn_ok rfl | exact tr_ok rfl | exact fun _ => rfl | (refine And.intro ?_ ?_) | (intro _ _; rfl) | ((conv => whnf); (first | exact True.intro | (refine And.intro ?_ ?_))))), by (repeat' (first | exact True.intro | rfl | assumption | exact tn_ok rfl | exact tr_ok rfl | exact fun _ => rfl | (refine And.intro ?_ ?_) | (intro _ _; rfl) | ((conv => whnf); (first | exact True.intro | (refine And.intro ?_ ?_))))), ?_⟩
    (conv => whnf)
    rw [show lonE m (rp s n) = _ from hlo]
    refine ⟨fun _ => ?_, fun hh => eqd' hh⟩
    (conv => whnf)
    refine ⟨fun hh => k_no hh, fun _ => ?_⟩
    (conv => whnf)
    refine ⟨n + 1, [some 0, some 1, some 2], by show 251 - (n + 1) < 251 - n; omega, by show n + 1 ≤ 251; omega, ?_⟩
    (repeat' (first | exact True.intro | rfl | assumption | exact tn_ok rfl | exact tr_ok rfl | exact fun _ => rfl | (refine And.intro ?_ ?_) | (intro _ _; rfl) | ((conv => whnf); (first | exact True.intro | (refine And.intro ?_ ?_)))))
    all_goals exact (wrap_id (n := (n : Int) + 1) (by omega) (by omega)).symm
end Go.Proofs.Ytngggdlcanpfgaa
