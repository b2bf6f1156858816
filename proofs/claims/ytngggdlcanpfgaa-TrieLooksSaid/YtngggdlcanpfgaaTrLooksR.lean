/- TrieLooks: the loops. -/
import Derived.Test.YtngggdlcanpfgaaTrKnownR
import Derived.Test.YtngggdlcanpfgaaSyZR
namespace Go.Proofs.Ytngggdlcanpfgaa
open Go Go.RowKit Sy Ti
set_option maxRecDepth 100000
set_option maxHeartbeats 8000000

def fzO (Z : Nat → Option Obj) : SObj := .fz Z
def ZS (Z : Nat → Option Obj) (p : Option (Nat × Nat)) (l : List Bs) : Prop := FzRow Z p 1 (fun j => [.str (l.getD j eS)]) l.length
theorem ZS.at_ {Z : Nat → Option Obj} {p : Option (Nat × Nat)} {l : List Bs} (h : ZS Z p l) {k : Nat} (hk : k < l.length) : ∃ b off, p = some (b, off) ∧ FzAt Z b (off + k * 1) [.str (l.getD k eS)] := FzRow.at_ h hk
theorem conLks : ConOk Try.prog (conOf [(8, SKnown.T), (9, SNew.T), (10, SRSet.T), (11, GSet.T), (13, SIs.T), (12, SLooks.T)]) :=
  conOf_cons (LSpec.call SKnown_nt SKnown_ok) (conOf_cons (LSpec.call SNew_nt SNew_ok) (conOf_cons (LSpec.call SRSet_nt SRSet_ok) (conOf_cons (LSpec.call GSet_nt GSet_ok) (conOf_cons (LSpec.call SIs_nt SIs_ok) (conOf_cons (LSpec.call SLooks_nt SLooks_ok) conOf_nil)))))
theorem wrapU_range (n : Int) : 0 ≤ IntKind.u64.wrap n ∧ IntKind.u64.wrap n < 18446744073709551616 := by
  have : IntKind.u64.wrap n = n % 18446744073709551616 := by simp [IntKind.wrap, IntKind.bits, IntKind.signed]
  rw [this]; omega
structure LS where
  T : Tt
  R : RowsN
  root : Nat
  ns : List Nat
  m : List Pr
  i : Nat
def SLooksL : LSpec where
  X := (Nat → Option Obj) × (Option (Nat × Nat) × Nat × List Bs) × (Option (Nat × Nat) × Nat × List Bs) × Int
  k := 1
  pre x := (ZS x.1 x.2.1.1 x.2.1.2.2 ∧ ZS x.1 x.2.2.1.1 x.2.2.1.2.2) ∧ 0 ≤ x.2.2.2 ∧ x.2.2.2 < 256
  args x θ := [.zsl (θ 0) x.2.1.1 1 x.2.1.2.2.length x.2.1.2.1, .int .u8 x.2.2.2, .zsl (θ 0) x.2.2.1.1 1 x.2.2.1.2.2.length x.2.2.1.2.1]
  objs x _ := [fzO x.1]
  out x _ R := R (.sb true) [some (fzO x.1)]
theorem SLooksL_top : SLooksL.TopZ Try.prog 3 := by
  refine LSpec.topZ (md := false) [] noGo mixed conLks Try.func3 rfl (by kernel_rfl) fun ⟨Z, ⟨p, pc, l⟩, ⟨p2, pc2, l2⟩, tn⟩ R ⟨⟨hz, hz2⟩, ht⟩ hR => ?_
  have hz : ZS Z p l := hz
  have hz2 : ZS Z p2 l2 := hz2
  have ht : 0 ≤ tn ∧ tn < 256 := ht
  have hQ : R (.sb true) [some (fzO Z)] := hR
  show bodyP _ _ _ _ _ [.zsl 0 p 1 l.length pc, .int .u8 tn, .zsl 0 p2 1 l2.length pc2] ⟨1, Tr.ofL 0 [fzO Z] .leaf⟩ _
  (conv => whnf)
  constructor
  rotate_left
  · intro _
    (conv => whnf)
    refine ⟨(), [], trivial, rfl, by (repeat' (first | exact True.intro | rfl | assumption | exact tn_ok rfl | exact tr_ok rfl | exact fun _ => rfl | (refine And.intro ?_ ?_) | (intro _ _; rfl) | ((conv => whnf); (first | exact True.intro | (refine And.intro ?_ ?_))))), by (repeat' (first | exact True.intro | rfl | assumption | exact tn_ok rfl | exact tr_ok rfl | exact fun _ => rfl | (refine And.intro ?_ ?_) | (intro _ _; rfl) | ((conv => whnf); (first | exact True.intro | (refine And.intro ?_ ?_))))), ?_⟩
    (conv => whnf)
    refine ⟨[], _, _, hQ, ?_⟩
    (repeat' (first | exact True.intro | rfl | assumption | exact tn_ok rfl | exact tr_ok rfl | exact fun _ => rfl | (refine And.intro ?_ ?_) | (intro _ _; rfl) | ((conv => whnf); (first | exact True.intro | (refine And.intro ?_ ?_)))))
  intro h
  have hl : l.length ≤ 30 := by have : ¬ (l.length : Int) > 30 := of_decide_eq_false h; omega
  (conv => whnf)
  constructor
  · intro _
    (conv => whnf)
    refine ⟨(), [], trivial, rfl, by (repeat' (first | exact True.intro | rfl | assumption | exact tn_ok rfl | exact tr_ok rfl | exact fun _ => rfl | (refine And.intro ?_ ?_) | (intro _ _; rfl) | ((conv => whnf); (first | exact True.intro | (refine And.intro ?_ ?_))))), by (repeat' (first | exact True.intro | rfl | assumption | exact tn_ok rfl | exact tr_ok rfl | exact fun _ => rfl | (refine And.intro ?_ ?_) | (intro _ _; rfl) | ((conv => whnf); (first | exact True.intro | (refine And.intro ?_ ?_))))), ?_⟩
    (conv => whnf)
    refine ⟨[], _, _, hQ, ?_⟩
    (repeat' (first | exact True.intro | rfl | assumption | exact tn_ok rfl | exact tr_ok rfl | exact fun _ => rfl | (refine And.intro ?_ ?_) | (intro _ _; rfl) | ((conv => whnf); (first | exact True.intro | (refine And.intro ?_ ?_)))))
  intro h2
  have hl2 : l2.length ≤ 10 := by have : ¬ (l2.length : Int) > 10 := of_decide_eq_false h2; omega
  (conv => whnf)
  refine ⟨(), [], trivial, rfl, by (repeat' (first | exact True.intro | rfl | assumption | exact tn_ok rfl | exact tr_ok rfl | exact fun _ => rfl | (refine And.intro ?_ ?_) | (intro _ _; rfl) | ((conv => whnf); (first | exact True.intro | (refine And.intro ?_ ?_))))), by (repeat' (first | exact True.intro | rfl | assumption | exact tn_ok rfl | exact tr_ok rfl | exact fun _ => rfl | (refine And.intro ?_ ?_) | (intro _ _; rfl) | ((conv => whnf); (first | exact True.intro | (refine And.intro ?_ ?_))))), fun y => ?_⟩
  (conv => whnf)
  refine .inl ⟨LS, fun x => [(0, .zsl 0 p 1 l.length pc), (1, .int .u8 tn), (2, .zsl 0 p2 1 l2.length pc2), (7, .ptr 1 0), (8, .sl 4 0 2 x.m.length false), (9, i64 x.i)], fun x => [some (fzO Z), some (trC 2 x.root x.m.length), some (tnO 3 x.T), some (trO 2 x.R), some (prR x.m)], fun x => l.length - x.i, fun x => x.i ≤ l.length ∧ TG x.T x.R x.root x.ns x.m ∧ x.m.length ≤ x.i, 5, ⟨⟨newT y, noR, y, [y], [], 0⟩, [some 1, some 2, some 3, none], ⟨Nat.zero_le _, newT_tg y, Nat.le_refl 0⟩, ?_⟩, fun _ => rfl, fun ⟨T, M, root, ns, m, i⟩ hi0 => ?_⟩
  · (repeat' (first | exact True.intro | rfl | assumption | exact tn_ok rfl | exact tr_ok rfl | exact fun _ => rfl | (refine And.intro ?_ ?_) | (intro _ _; rfl) | ((conv => whnf); (first | exact True.intro | (refine And.intro ?_ ?_)))))
  have hi : i ≤ l.length := hi0.1
  have hg : TG T M root ns m := hi0.2.1
  have hml : m.length ≤ i := hi0.2.2
  clear hi0
  have ei : ((i : Nat) : Int).toNat = i := Int.toNat_natCast i
  (conv => whnf)
  constructor
  · intro g
    have g : i < l.length := by have : (i : Int) < (l.length : Int) := of_decide_eq_true g; omega
    refine exIt (hz.at_ g) fun bb hb1 => exIt hb1 fun oo hb2 => ?_
    have b1 : (0 : Int) ≤ (i : Int) ∧ (i : Int) < (l.length : Int) := ⟨by omega, by omega⟩
    have hat : FzAt Z bb (oo + (i : Int).toNat * 1) [.str (l.getD i eS)] := by rw [ei]; exact hb2.2
    (conv => whnf)
    refine ⟨b1.1, b1.2, bb, oo, hb2.1, ?_⟩
    (conv => whnf)
    refine ⟨_, hat, ?_⟩
    (conv => whnf)
    constructor
    · intro _
      (conv => whnf)
      refine ⟨(), [], trivial, rfl, by (repeat' (first | exact True.intro | rfl | assumption | exact tn_ok rfl | exact tr_ok rfl | exact fun _ => rfl | (refine And.intro ?_ ?_) | (intro _ _; rfl) | ((conv => whnf); (first | exact True.intro | (refine And.intro ?_ ?_))))), by (repeat' (first | exact True.intro | rfl | assumption | exact tn_ok rfl | exact tr_ok rfl | exact fun _ => rfl | (refine And.intro ?_ ?_) | (intro _ _; rfl) | ((conv => whnf); (first | exact True.intro | (refine And.intro ?_ ?_))))), ?_⟩
      (conv => whnf)
      refine ⟨[], _, _, hQ, ?_⟩
      (repeat' (first | exact True.intro | rfl | assumption | exact tn_ok rfl | exact tr_ok rfl | exact fun _ => rfl | (refine And.intro ?_ ?_) | (intro _ _; rfl) | ((conv => whnf); (first | exact True.intro | (refine And.intro ?_ ?_)))))
    intro h3
    have h3 : (l.getD i eS).size ≤ 300 := by have : ¬ ((l.getD i eS).size : Int) > 300 := of_decide_eq_false h3; omega
    (conv => whnf)
    refine ⟨by decide, ?_⟩
    (conv => whnf)
    refine ⟨b1.1, b1.2, bb, oo, hb2.1, ?_⟩
    (conv => whnf)
    refine ⟨_, hat, ?_⟩
    (conv => whnf)
    have hnr := wrapU_range (IntKind.u64.wrap ((IntKind.i64.wrap ((i : Int) + IntKind.i64.wrap tn)).tmod 30) + 1)
    have hsl := setE_len (s := l.getD i eS) (n := (IntKind.u64.wrap (IntKind.u64.wrap ((IntKind.i64.wrap ((i : Int) + IntKind.i64.wrap tn)).tmod 30) + 1))) hg.cn.ord
    refine ⟨(m, l.getD i eS, (IntKind.u64.wrap (IntKind.u64.wrap ((IntKind.i64.wrap ((i : Int) + IntKind.i64.wrap tn)).tmod 30) + 1))), [4], ⟨by show m.length ≤ 1000000; omega, hg.cn.ord⟩, rfl, by (repeat' (first | exact True.intro | rfl | assumption | exact tn_ok rfl | exact tr_ok rfl | exact fun _ => rfl | (refine And.intro ?_ ?_) | (intro _ _; rfl) | ((conv => whnf); (first | exact True.intro | (refine And.intro ?_ ?_))))), by (repeat' (first | exact True.intro | rfl | assumption | exact tn_ok rfl | exact tr_ok rfl | exact fun _ => rfl | (refine And.intro ?_ ?_) | (intro _ _; rfl) | ((conv => whnf); (first | exact True.intro | (refine And.intro ?_ ?_))))), ?_⟩
    (conv => whnf)
    refine ⟨b1.1, b1.2, bb, oo, hb2.1, ?_⟩
    (conv => whnf)
    refine ⟨_, hat, ?_⟩
    (conv => whnf)
    refine ⟨⟨T, M, root, ns, m, l.getD i eS, (IntKind.u64.wrap (IntKind.u64.wrap ((IntKind.i64.wrap ((i : Int) + IntKind.i64.wrap tn)).tmod 30) + 1))⟩, [1, 2, 3], ⟨⟨hg, by show m.length ≤ 900000; omega⟩, hnr, by show (l.getD i eS).size ≤ 1000000; omega⟩, rfl, by (repeat' (first | exact True.intro | rfl | assumption | exact tn_ok rfl | exact tr_ok rfl | exact fun _ => rfl | (refine And.intro ?_ ?_) | (intro _ _; rfl) | ((conv => whnf); (first | exact True.intro | (refine And.intro ?_ ?_))))), by (repeat' (first | exact True.intro | rfl | assumption | exact tn_ok rfl | exact tr_ok rfl | exact fun _ => rfl | (refine And.intro ?_ ?_) | (intro _ _; rfl) | ((conv => whnf); (first | exact True.intro | (refine And.intro ?_ ?_))))), fun T2 M2 ns2 hg2 => ?_⟩
    have hg2 : TG T2 M2 root ns2 (setE m (l.getD i eS) (IntKind.u64.wrap (IntKind.u64.wrap ((IntKind.i64.wrap ((i : Int) + IntKind.i64.wrap tn)).tmod 30) + 1))).1 := hg2
    (conv => whnf)
    refine ⟨fun hh => eqd hh, fun _ => ?_⟩
    (conv => whnf)
    refine ⟨⟨T2, M2, root, ns2, (setE m (l.getD i eS) (IntKind.u64.wrap (IntKind.u64.wrap ((IntKind.i64.wrap ((i : Int) + IntKind.i64.wrap tn)).tmod 30) + 1))).1, i + 1⟩, [some 1, some 2, some 3, some 5], by show l.length - (i + 1) < l.length - i; omega, ⟨by show i + 1 ≤ l.length; omega, hg2, by show (setE m (l.getD i eS) (IntKind.u64.wrap (IntKind.u64.wrap ((IntKind.i64.wrap ((i : Int) + IntKind.i64.wrap tn)).tmod 30) + 1))).1.length ≤ i + 1; omega⟩, ?_⟩
    (repeat' (first | exact True.intro | rfl | assumption | exact tn_ok rfl | exact tr_ok rfl | exact fun _ => rfl | (refine And.intro ?_ ?_) | (intro _ _; rfl) | ((conv => whnf); (first | exact True.intro | (refine And.intro ?_ ?_)))))
    all_goals exact (wrap_inc g (by omega)).symm
  · intro g
    (conv => whnf)
    have hok : ∀ s, GOk ⟨T, M, root, ns, m, s, 0⟩ ∧ m.length ≤ 1000 := fun s => ⟨⟨hg, by show m.length ≤ 900000; omega⟩, by omega⟩
    refine .inl ⟨Nat, fun j => [(2, .zsl 0 p2 1 l2.length pc2), (7, .ptr 1 0), (8, .sl 4 0 2 m.length false), (13, i64 j)], fun _ => [some (fzO Z), some (trC 2 root m.length), some (tnO 3 T), some (trO 2 M), some (prR m)], fun j => l2.length - j, fun j => j ≤ l2.length, 5, ⟨0, [some 1, some 2, some 3, some 4], Nat.zero_le _, ?_⟩, fun _ => rfl, fun j hj => ?_⟩
    · (repeat' (first | exact True.intro | rfl | assumption | exact tn_ok rfl | exact tr_ok rfl | exact fun _ => rfl | (refine And.intro ?_ ?_) | (intro _ _; rfl) | ((conv => whnf); (first | exact True.intro | (refine And.intro ?_ ?_)))))
    have hj : j ≤ l2.length := hj
    have ej : ((j : Nat) : Int).toNat = j := Int.toNat_natCast j
    (conv => whnf)
    constructor
    · intro g2
      have g2 : j < l2.length := by have : (j : Int) < (l2.length : Int) := of_decide_eq_true g2; omega
      refine exIt (hz2.at_ g2) fun bb hb1 => exIt hb1 fun oo hb2 => ?_
      have b1 : (0 : Int) ≤ (j : Int) ∧ (j : Int) < (l2.length : Int) := ⟨by omega, by omega⟩
      have hat : FzAt Z bb (oo + (j : Int).toNat * 1) [.str (l2.getD j eS)] := by rw [ej]; exact hb2.2
      (conv => whnf)
      refine ⟨b1.1, b1.2, bb, oo, hb2.1, ?_⟩
      (conv => whnf)
      refine ⟨_, hat, ?_⟩
      (conv => whnf)
      constructor
      · intro _
        (conv => whnf)
        refine ⟨(), [], trivial, rfl, by (repeat' (first | exact True.intro | rfl | assumption | exact tn_ok rfl | exact tr_ok rfl | exact fun _ => rfl | (refine And.intro ?_ ?_) | (intro _ _; rfl) | ((conv => whnf); (first | exact True.intro | (refine And.intro ?_ ?_))))), by (repeat' (first | exact True.intro | rfl | assumption | exact tn_ok rfl | exact tr_ok rfl | exact fun _ => rfl | (refine And.intro ?_ ?_) | (intro _ _; rfl) | ((conv => whnf); (first | exact True.intro | (refine And.intro ?_ ?_))))), ?_⟩
        (conv => whnf)
        refine ⟨[], _, _, hQ, ?_⟩
        (repeat' (first | exact True.intro | rfl | assumption | exact tn_ok rfl | exact tr_ok rfl | exact fun _ => rfl | (refine And.intro ?_ ?_) | (intro _ _; rfl) | ((conv => whnf); (first | exact True.intro | (refine And.intro ?_ ?_)))))
      intro _
      (conv => whnf)
      refine ⟨b1.1, b1.2, bb, oo, hb2.1, ?_⟩
      (conv => whnf)
      refine ⟨_, hat, ?_⟩
      (conv => whnf)
      refine ⟨⟨T, M, root, ns, m, l2.getD j eS, 0⟩, [1, 2, 3, 4], hok _, rfl, by (repeat' (first | exact True.intro | rfl | assumption | exact tn_ok rfl | exact tr_ok rfl | exact fun _ => rfl | (refine And.intro ?_ ?_) | (intro _ _; rfl) | ((conv => whnf); (first | exact True.intro | (refine And.intro ?_ ?_))))), by (repeat' (first | exact True.intro | rfl | assumption | exact tn_ok rfl | exact tr_ok rfl | exact fun _ => rfl | (refine And.intro ?_ ?_) | (intro _ _; rfl) | ((conv => whnf); (first | exact True.intro | (refine And.intro ?_ ?_))))), ?_⟩
      (conv => whnf)
      refine ⟨fun hh => Bool.noConfusion (show (!true) = true from hh), fun _ => ?_⟩
      (conv => whnf)
      refine ⟨j + 1, [some 1, some 2, some 3, some 4], by show l2.length - (j + 1) < l2.length - j; omega, by show j + 1 ≤ l2.length; omega, ?_⟩
      (repeat' (first | exact True.intro | rfl | assumption | exact tn_ok rfl | exact tr_ok rfl | exact fun _ => rfl | (refine And.intro ?_ ?_) | (intro _ _; rfl) | ((conv => whnf); (first | exact True.intro | (refine And.intro ?_ ?_)))))
      all_goals exact (wrap_inc g2 (by omega)).symm
    · intro g2
      (conv => whnf)
      refine ⟨⟨T, M, root, ns, m, eS, 0⟩, [1, 2, 3, 4], hok _, rfl, by (repeat' (first | exact True.intro | rfl | assumption | exact tn_ok rfl | exact tr_ok rfl | exact fun _ => rfl | (refine And.intro ?_ ?_) | (intro _ _; rfl) | ((conv => whnf); (first | exact True.intro | (refine And.intro ?_ ?_))))), by (repeat' (first | exact True.intro | rfl | assumption | exact tn_ok rfl | exact tr_ok rfl | exact fun _ => rfl | (refine And.intro ?_ ?_) | (intro _ _; rfl) | ((conv => whnf); (first | exact True.intro | (refine And.intro ?_ ?_))))), ?_⟩
      (conv => whnf)
      refine ⟨fun _ => ?_, fun hh => Bool.noConfusion (show true = false from hh)⟩
      (conv => whnf)
      refine ⟨(), [], trivial, rfl, by (repeat' (first | exact True.intro | rfl | assumption | exact tn_ok rfl | exact tr_ok rfl | exact fun _ => rfl | (refine And.intro ?_ ?_) | (intro _ _; rfl) | ((conv => whnf); (first | exact True.intro | (refine And.intro ?_ ?_))))), by (repeat' (first | exact True.intro | rfl | assumption | exact tn_ok rfl | exact tr_ok rfl | exact fun _ => rfl | (refine And.intro ?_ ?_) | (intro _ _; rfl) | ((conv => whnf); (first | exact True.intro | (refine And.intro ?_ ?_))))), ?_⟩
      (conv => whnf)
      refine ⟨[], _, _, hQ, ?_⟩
      (repeat' (first | exact True.intro | rfl | assumption | exact tn_ok rfl | exact tr_ok rfl | exact fun _ => rfl | (refine And.intro ?_ ?_) | (intro _ _; rfl) | ((conv => whnf); (first | exact True.intro | (refine And.intro ?_ ?_)))))
end Go.Proofs.Ytngggdlcanpfgaa
