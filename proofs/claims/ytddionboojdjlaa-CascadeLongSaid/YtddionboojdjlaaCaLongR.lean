/- The law CascadeLong. -/
import Derived.Test.YtddionboojdjlaaCaLong0R
import Derived.Test.YtddionboojdjlaaCaKnownR
namespace Go.Proofs.Ytddionboojdjlaa
open Go Go.RowKit Sy Tb Gr
set_option maxRecDepth 100000
set_option maxHeartbeats 16000000

def SName : LSpec where
  X := Nat
  k := 0
  pre n := n ≤ 999
  args n _ := [i64 n]
  objs _ _ := []
  out n _ R := R (.str (nm n)) []
theorem SName_nt : SName.Nt := ⟨fun _ _ => rfl, fun _ _ => rfl, fun _ _ _ h => h⟩
theorem nm_digit {x : Int} (h0 : 0 ≤ x) : IntKind.u8.wrap (IntKind.i64.wrap (48 + x.tmod 10)) = 48 + x % 10 := by
  rw [Int.tmod_eq_emod_of_nonneg h0, wrap_id (by omega) (by omega)]
  have : IntKind.u8.wrap (48 + x % 10) = (48 + x % 10) % 256 := by simp [IntKind.wrap, IntKind.bits, IntKind.signed]
  rw [this]
  omega
theorem nm_quo {x d : Int} (h0 : 0 ≤ x) (h1 : x ≤ 999) (hd : d = 10 ∨ d = 100) : IntKind.i64.wrap (x.tdiv d) = x / d ∧ 0 ≤ x / d ∧ x / d ≤ 999 := by
  rw [Int.tdiv_eq_ediv_of_nonneg h0]
  rcases hd with rfl | rfl
  · rw [wrap_id (by omega) (by omega)]; omega
  · rw [wrap_id (by omega) (by omega)]; omega
theorem strB_len (l : List Int) : (strB l).size = l.length := by
  have : ∀ (l : List Int) (r : ByteArray), (l.foldl (fun r n => r.push (UInt8.ofNat n.toNat)) r).size = r.size + l.length := fun l => by
    induction l with
    | nil => intro r; rfl
    | cons a l ih => intro r; rw [List.foldl_cons, ih, ByteArray.size_push, List.length_cons]; omega
  have h := this l ByteArray.empty
  rw [show ByteArray.empty.size = 0 from rfl, Nat.zero_add] at h
  exact h
theorem SName_ok : SName.Ok Try.prog 18 := by
  refine LSpec.of_body noGo mixed conOf_nil Try.func18 rfl (by kernel_rfl) fun (n : Nat) R hn hR => ?_
  have hn : n ≤ 999 := hn
  have hQ : R (.str (nm n)) [] := hR
  obtain ⟨a1, a2, a3⟩ := nm_quo (x := (n : Int)) (d := 100) (by omega) (by omega) (.inr rfl)
  obtain ⟨b1, b2, b3⟩ := nm_quo (x := (n : Int)) (d := 10) (by omega) (by omega) (.inl rfl)
  have d1 := nm_digit a2
  have d2 := nm_digit b2
  have d3 := nm_digit (x := (n : Int)) (by omega)
  (conv => whnf)
  refine ⟨by decide, ?_⟩
  (conv => whnf)
  refine ⟨by decide, ?_⟩
  (conv => whnf)
  refine ⟨by decide, ?_⟩
  (conv => whnf)
  refine ⟨by decide, ?_⟩
  (conv => whnf)
  refine ⟨by decide, ?_⟩
  (conv => whnf)
  rw [a1, b1, d1, d2, d3]
  refine ⟨by decide, nmL n, rfl, fun j hj => ?_, ?_⟩
  · match j, hj with
    | 0, _ => rfl
    | 1, _ => rfl
    | 2, _ => rfl
  (conv => whnf)
  refine ⟨by show 1 + (strB (nmL n)).size ≤ 9223372036854775807; rw [strB_len]; show 1 + 3 ≤ 9223372036854775807; decide, ?_⟩
  (conv => whnf)
  refine ⟨[], _, _, hQ, ?_⟩
  (repeat' (first | exact True.intro | rfl | assumption | exact mc_ok rfl | exact mr_ok | exact fun _ => rfl | exact mt_keep _ _ | exact ms_ok | exact c_keep _ _ _ | (refine And.intro ?_ ?_) | (intro _ _; rfl) | ((conv => whnf); (first | exact True.intro | (refine And.intro ?_ ?_)))))

theorem conLAboP : ConOk Try.prog (conOf [(28, SAbove.T), (36, SStringsN.T)]) := conOf_cons (LSpec.call SAbove_nt SAbove_ok) (conOf_cons (LSpec.call SStringsN_nt SStringsN_ok) conOf_nil)
def SLAboP : LSpec where
  X := GX × Bs × (List Bs × List Bs) × Int
  k := 6
  pre x := (GXok x.1 ∧ x.2.2.1.1 <+: x.2.2.1.2) ∧ x.2.1.size ≤ 1000000 ∧ aboE x.1.2.1 x.2.1 = x.2.2.1.1 ∧ eK x.2.1 = x.2.2.2
  args x θ := [.ptr (θ 0) 0, .str x.2.1, .sl (θ 5) 0 1 x.2.2.1.1.length false, i64 x.2.2.2]
  objs x θ := x.1.1.objs θ ++ [stR x.2.2.1.2]
  out x θ R := ∀ g : GG, MG 1000 1000 x.1.2.1 (x.1.2.2 + 1) g → R (.sb true) (g.all θ ++ [some (stR x.2.2.1.2)])
theorem SLAboP_nt : SLAboP.Nt := ⟨fun _ _ => rfl, by unfold SLAboP GG.objs; intros; simp only [ren_all, List.map_append] at *; try rfl, by unfold SLAboP GG.all; intros; simp only [ren_all, List.map_append] at *; try assumption⟩
theorem SLAboP_ok : SLAboP.Ok Try.prog 23 := by
  refine LSpec.of_body noGo mixed conLAboP Try.func23 rfl (by kernel_rfl) fun ⟨⟨g, E, s⟩, k, ⟨F, W⟩, e⟩ R ⟨⟨hX, hpr⟩, hk, hf, he⟩ hR => ?_
  have hEl : E.length ≤ 300 := hX.2.1
  have hk2 : k.size ≤ 1000000 := hk
  have hX2 : GXok (g, E, s) := hX
  have hf2 : aboE E k = F := hf
  have he2 : eK k = e := he
  have hpr2 : F <+: W := hpr
  clear hf hpr
  subst hf2
  clear he
  subst he2
  have hfl : (aboE E k).length ≤ 1000000 := by have := aboE_len E k; omega
  have hQ : ∀ g' : GG, MG 1000 1000 E (s + 1) g' → R (.sb true) (g'.all _root_.id ++ [some (stR W)]) := hR
  (conv => whnf)
  refine ⟨((g, E, s), k), [0, 1, 2, 3, 4], ⟨hX2, hk2⟩, rfl, by (repeat' (first | exact True.intro | rfl | assumption | exact mc_ok rfl | exact mr_ok | exact fun _ => rfl | exact mt_keep _ _ | exact ms_ok | exact c_keep _ _ _ | (refine And.intro ?_ ?_) | (intro _ _; rfl) | ((conv => whnf); (first | exact True.intro | (refine And.intro ?_ ?_))))), by (repeat' (first | exact True.intro | rfl | assumption | exact mc_ok rfl | exact mr_ok | exact fun _ => rfl | exact mt_keep _ _ | exact ms_ok | exact c_keep _ _ _ | (refine And.intro ?_ ?_) | (intro _ _; rfl) | ((conv => whnf); (first | exact True.intro | (refine And.intro ?_ ?_))))), fun g' hG => ?_⟩
  have hG : MG 1000 1000 E (s + 1) g' := hG
  have hF := hQ g' hG
  (conv => whnf)
  refine ⟨(aboE E k, W, eK k), [6, 5], ⟨hpr2, hfl⟩, rfl, by (repeat' (first | exact True.intro | rfl | assumption | exact mc_ok rfl | exact mr_ok | exact fun _ => rfl | exact mt_keep _ _ | exact ms_ok | exact c_keep _ _ _ | (refine And.intro ?_ ?_) | (intro _ _; rfl) | ((conv => whnf); (first | exact True.intro | (refine And.intro ?_ ?_))))), by (repeat' (first | exact True.intro | rfl | assumption | exact mc_ok rfl | exact mr_ok | exact fun _ => rfl | exact mt_keep _ _ | exact ms_ok | exact c_keep _ _ _ | (refine And.intro ?_ ?_) | (intro _ _; rfl) | ((conv => whnf); (first | exact True.intro | (refine And.intro ?_ ?_))))), ?_⟩
  (conv => whnf)
  refine ⟨[], _, _, hF, ?_⟩
  (repeat' (first | exact True.intro | rfl | assumption | exact mc_ok rfl | exact mr_ok | exact fun _ => rfl | exact mt_keep _ _ | exact ms_ok | exact c_keep _ _ _ | (refine And.intro ?_ ?_) | (intro _ _; rfl) | ((conv => whnf); (first | exact True.intro | (refine And.intro ?_ ?_)))))
/-! The lists of edges -/
def chn (n : Nat) : List Ed := (List.range n).map fun j => (nm j, nm (j + 1))
def skp (sk n : Nat) (i : Nat) : List Ed := ((List.range i).filter fun j => decide (j * sk + sk ≤ n)).map fun j => (nm (j * sk), nm (j * sk + sk))
theorem chn_len (n : Nat) : (chn n).length = n := by unfold chn; rw [List.length_map, List.length_range]
theorem chn_snoc (n : Nat) : chn (n + 1) = chn n ++ [(nm n, nm (n + 1))] := by unfold chn; rw [List.range_succ, List.map_append]; rfl
theorem skp_len (sk n i : Nat) : (skp sk n i).length ≤ i := by unfold skp; rw [List.length_map]; exact Nat.le_trans (List.length_filter_le ..) (by rw [List.length_range]; exact Nat.le_refl _)
theorem skp_in {sk n i : Nat} (h : i * sk + sk ≤ n) : skp sk n (i + 1) = skp sk n i ++ [(nm (i * sk), nm (i * sk + sk))] := by
  unfold skp
  rw [List.range_succ, List.filter_append, List.map_append, List.filter_cons_of_pos (by exact decide_eq_true h)]
  rfl
theorem skp_out {sk n i : Nat} (h : ¬ i * sk + sk ≤ n) : skp sk n (i + 1) = skp sk n i := by
  unfold skp
  rw [List.range_succ, List.filter_append, List.map_append, List.filter_cons_of_neg (by exact fun q => h (of_decide_eq_true q))]
  simp
theorem all_asc {n sk m : Nat} (hsk : 0 < sk) : Asc n (chn n ++ skp sk n m) := fun e he => by
  rcases List.mem_append.1 he with q | q
  · obtain ⟨j, hj, rfl⟩ := List.mem_map.1 q
    exact ⟨j, j + 1, Nat.lt_succ_self j, List.mem_range.1 hj, rfl⟩
  · obtain ⟨j, hj, rfl⟩ := List.mem_map.1 q
    have := of_decide_eq_true (List.mem_filter.1 hj).2
    exact ⟨j * sk, j * sk + sk, by omega, this, rfl⟩
theorem ede_push {w : List Ed} {x y : Ed} (e : y = x) (q : Nat) (hq : q < w.length + 1) : ([.str ((w ++ [x]).getD q e00).1, .str ((w ++ [x]).getD q e00).2] : List V) = appF w.length (fun q => [.str (w.getD (0 + q) e00).1, .str (w.getD (0 + q) e00).2]) (fun q => chunk [.str y.1, .str y.2] 2 (0 + q)) q := by
  subst e
  refine (push_view (F := fun s : Ed => ([.str s.1, .str s.2] : List V)) (d := e00) q hq).trans ?_
  by_cases h : q < w.length
  · rw [appF_lt h, appF_lt h]
  · rw [appF_ge (by omega), appF_ge (by omega), show q - w.length = 0 by omega]
    rfl
theorem snocE {w : List Ed} {c : Ed} : (w ++ [c]).length = w.length + 1 := by rw [List.length_append]; rfl
def allW (n : Nat) : List Bs := if 0 < n then nms (n + 1) else []
theorem conLN : ConOk Try.prog (conOf [(9, SKnown.T), (18, SName.T), (10, SMadeN.T), (12, SLSorted.T), (19, SLLev.T), (21, SLBelN.T), (23, SLAboP.T), (20, SRLevels.T), (22, SRBelow.T)]) :=
  conOf_cons (LSpec.call SKnown_nt SKnown_ok) (conOf_cons (LSpec.call SName_nt SName_ok) (conOf_cons (LSpec.call SMadeN_nt SMadeN_ok) (conOf_cons (LSpec.call SLSorted_nt SLSorted_ok) (conOf_cons (LSpec.call SLLev_nt SLLev_ok) (conOf_cons (LSpec.call SLBelN_nt SLBelN_ok) (conOf_cons (LSpec.call SLAboP_nt SLAboP_ok) (conOf_cons (LSpec.call SRLevels_nt SRLevels_ok) (conOf_cons (LSpec.call SRBelow_nt SRBelow_ok) conOf_nil))))))))
def SLongL : LSpec where
  X := Int × Int × Int
  k := 0
  pre _ := True
  args x _ := [i64 x.1, i64 x.2.1, i64 x.2.2]
  objs _ _ := []
  out _ _ R := R (.sb true) []
theorem SLongL_top : SLongL.Top Try.prog 5 := by
  refine LSpec.topC [21, 23] noGo mixed conLN Try.func5 rfl (by kernel_rfl) fun ⟨long, skip, more⟩ R _ hR => ?_
  have hQ : R (.sb true) [] := hR
  show bodyP _ _ _ _ _ [i64 long, i64 skip, i64 more] (locS []) _
  (conv => whnf)
  constructor
  · intro h0
    have h0 : 0 ≤ long := by have : ¬ (long < 0) := of_decide_eq_false h0; omega
    (conv => whnf)
    constructor
    · intro h1
      have h1 : long ≤ 200 := by have : ¬ (200 < long) := of_decide_eq_false h1; omega
      (conv => whnf)
      constructor
      · intro h2
        have h2 : 2 ≤ skip := by have : ¬ (skip < 2) := of_decide_eq_false h2; omega
        (conv => whnf)
        constructor
        · intro h3
          have h3 : skip ≤ 50 := by have : ¬ (50 < skip) := of_decide_eq_false h3; omega
          (conv => whnf)
          constructor
          · intro h4
            have h4 : 0 ≤ more := by have : ¬ (more < 0) := of_decide_eq_false h4; omega
            (conv => whnf)
            constructor
            · intro h5
              (conv => whnf)
              refine ⟨(), [], trivial, rfl, by (repeat' (first | exact True.intro | rfl | assumption | exact mc_ok rfl | exact mr_ok | exact fun _ => rfl | exact mt_keep _ _ | exact ms_ok | exact c_keep _ _ _ | (refine And.intro ?_ ?_) | (intro _ _; rfl) | ((conv => whnf); (first | exact True.intro | (refine And.intro ?_ ?_))))), by (repeat' (first | exact True.intro | rfl | assumption | exact mc_ok rfl | exact mr_ok | exact fun _ => rfl | exact mt_keep _ _ | exact ms_ok | exact c_keep _ _ _ | (refine And.intro ?_ ?_) | (intro _ _; rfl) | ((conv => whnf); (first | exact True.intro | (refine And.intro ?_ ?_))))), ?_⟩
              (conv => whnf)
              refine ⟨[], _, _, hQ, ?_⟩
              (repeat' (first | exact True.intro | rfl | assumption | exact mc_ok rfl | exact mr_ok | exact fun _ => rfl | exact mt_keep _ _ | exact ms_ok | exact c_keep _ _ _ | (refine And.intro ?_ ?_) | (intro _ _; rfl) | ((conv => whnf); (first | exact True.intro | (refine And.intro ?_ ?_)))))
            · intro h5
              have h5 : more ≤ 20 := by have : ¬ (20 < more) := of_decide_eq_false h5; omega
              refine exLet long.toNat fun n hn => exLet skip.toNat fun sk hsk => exLet more.toNat fun mo hmo => ?_
              have hn2 : n ≤ 200 := by omega
              have hsk2 : 2 ≤ sk ∧ sk ≤ 50 := by omega
              have hmo2 : mo ≤ 20 := by omega
              have en : (n : Int) = long := by omega
              have es : (sk : Int) = skip := by omega
              have em : (mo : Int) = more := by omega
              (conv => whnf)
              refine .inl ⟨Nat, fun i => [(0, i64 n), (1, i64 sk), (2, i64 mo), (7, .sl 0 0 2 (chn i).length false), (8, i64 i)], fun i => [some (edR (chn i))], fun i => n - i, fun i => i ≤ n, 1, ⟨0, [none], Nat.zero_le _, ?_⟩, fun _ => rfl, fun i hi => ?_⟩
              · (repeat' (first | exact True.intro | rfl | assumption | exact mc_ok rfl | exact mr_ok | exact fun _ => rfl | exact mt_keep _ _ | exact ms_ok | exact c_keep _ _ _ | (refine And.intro ?_ ?_) | (intro _ _; rfl) | ((conv => whnf); (first | exact True.intro | (refine And.intro ?_ ?_)))))
                all_goals first | exact en | exact es | exact em
              clear hn hsk hmo en es em h0 h1 h2 h3 h4 h5
              have hi : i ≤ n := hi
              have hcl := chn_len i
              (conv => whnf)
              constructor
              · intro h
                have h : i < n := by have : (i : Int) < (n : Int) := of_decide_eq_true h; omega
                have wi := wrap_inc h (by omega)
                have hcs := chn_snoc i
                (conv => whnf)
                refine ⟨i, [], by show i ≤ 999; omega, rfl, by (repeat' (first | exact True.intro | rfl | assumption | exact mc_ok rfl | exact mr_ok | exact fun _ => rfl | exact mt_keep _ _ | exact ms_ok | exact c_keep _ _ _ | (refine And.intro ?_ ?_) | (intro _ _; rfl) | ((conv => whnf); (first | exact True.intro | (refine And.intro ?_ ?_))))), by (repeat' (first | exact True.intro | rfl | assumption | exact mc_ok rfl | exact mr_ok | exact fun _ => rfl | exact mt_keep _ _ | exact ms_ok | exact c_keep _ _ _ | (refine And.intro ?_ ?_) | (intro _ _; rfl) | ((conv => whnf); (first | exact True.intro | (refine And.intro ?_ ?_))))), ?_⟩
                (conv => whnf)
                rw [wi]
                refine ⟨i + 1, [], by show i + 1 ≤ 999; omega, rfl, by (repeat' (first | exact True.intro | rfl | assumption | exact mc_ok rfl | exact mr_ok | exact fun _ => rfl | exact mt_keep _ _ | exact ms_ok | exact c_keep _ _ _ | (refine And.intro ?_ ?_) | (intro _ _; rfl) | ((conv => whnf); (first | exact True.intro | (refine And.intro ?_ ?_))))), by (repeat' (first | exact True.intro | rfl | assumption | exact mc_ok rfl | exact mr_ok | exact fun _ => rfl | exact mt_keep _ _ | exact ms_ok | exact c_keep _ _ _ | (refine And.intro ?_ ?_) | (intro _ _; rfl) | ((conv => whnf); (first | exact True.intro | (refine And.intro ?_ ?_))))), ?_⟩
                (conv => whnf)
                refine ⟨some (fun q => [.str ((chn i ++ [(nm i, nm (i + 1))]).getD q e00).1, .str ((chn i ++ [(nm i, nm (i + 1))]).getD q e00).2]), ?_⟩
                (conv => whnf)
                refine ⟨by decide, by show 0 + (chn i).length ≤ (chn i).length; omega, by show ((chn i).length + 1) * (32 + 2) ≤ 1000000000; rw [hcl]; omega, fun q hq => ede_push rfl q hq, ?_⟩
                (conv => whnf)
                refine ⟨i + 1, [some 2], by show n - (i + 1) < n - i; omega, by show i + 1 ≤ n; omega, ?_⟩
                (repeat' (first | exact True.intro | rfl | assumption | exact mc_ok rfl | exact mr_ok | exact fun _ => rfl | exact mt_keep _ _ | exact ms_ok | exact c_keep _ _ _ | (refine And.intro ?_ ?_) | (intro _ _; rfl) | ((conv => whnf); (first | exact True.intro | (refine And.intro ?_ ?_)))))
                all_goals first
                  | exact wi.symm
                  | (rw [hcs]; exact snocE)
                  | (intro q _
                     show ([V.str ((chn (i + 1)).getD q e00).1, V.str ((chn (i + 1)).getD q e00).2] : List V) = _
                     rw [hcs])
              · intro h
                have h : ¬ i < n := by have : ¬ (i : Int) < (n : Int) := of_decide_eq_false h; omega
                obtain rfl : n = i := by omega
                clear h hi
                have hs0 : chn n ++ skp sk n 0 = chn n := by unfold skp; simp
                (conv => whnf)
                refine .inl ⟨Nat, fun k => [(0, i64 n), (1, i64 sk), (2, i64 mo), (7, .sl 0 0 2 (chn n ++ skp sk n k).length false), (9, i64 k)], fun k => [some (edR (chn n ++ skp sk n k))], fun k => mo - k, fun k => k ≤ mo, 1, ⟨0, [some 0], Nat.zero_le _, ?_⟩, fun _ => rfl, fun k hk => ?_⟩
                · (repeat' (first | exact True.intro | rfl | assumption | exact mc_ok rfl | exact mr_ok | exact fun _ => rfl | exact mt_keep _ _ | exact ms_ok | exact c_keep _ _ _ | (refine And.intro ?_ ?_) | (intro _ _; rfl) | ((conv => whnf); (first | exact True.intro | (refine And.intro ?_ ?_)))))
                  all_goals first
                    | exact congrArg List.length hs0
                    | (intro q _
                       show ([V.str ((chn n ++ skp sk n 0).getD q e00).1, V.str ((chn n ++ skp sk n 0).getD q e00).2] : List V) = _
                       rw [hs0]
                       rfl)
                have hk : k ≤ mo := hk
                have hll : (chn n ++ skp sk n k).length ≤ 220 := by rw [List.length_append, hcl]; have := skp_len sk n k; omega
                have m1 : k * sk ≤ 20 * 50 := Nat.mul_le_mul (by omega) hsk2.2
                have wm : IntKind.i64.wrap ((k : Int) * (sk : Int)) = ((k * sk : Nat) : Int) := by rw [← Int.natCast_mul, wrap_id (by omega) (by omega)]
                have wa : IntKind.i64.wrap (((k * sk : Nat) : Int) + (sk : Int)) = ((k * sk + sk : Nat) : Int) := by rw [wrap_id (by omega) (by omega)]; rfl
                (conv => whnf)
                constructor
                · intro h
                  have h : k < mo := by have : (k : Int) < (mo : Int) := of_decide_eq_true h; omega
                  have wk := wrap_inc h (by omega)
                  (conv => whnf)
                  rw [wm, wa]
                  constructor
                  · intro g
                    have g : k * sk + sk ≤ n := by have : ((k * sk + sk : Nat) : Int) ≤ (n : Int) := of_decide_eq_true g; omega
                    have hss : chn n ++ skp sk n (k + 1) = chn n ++ skp sk n k ++ [(nm (k * sk), nm (k * sk + sk))] := by rw [skp_in g, List.append_assoc]
                    refine exLet (chn n ++ skp sk n k) fun w hw => ?_
                    rw [← hw] at hss hll
                    (conv => whnf)
                    rw [wm]
                    refine ⟨k * sk, [], by show k * sk ≤ 999; omega, rfl, by (repeat' (first | exact True.intro | rfl | assumption | exact mc_ok rfl | exact mr_ok | exact fun _ => rfl | exact mt_keep _ _ | exact ms_ok | exact c_keep _ _ _ | (refine And.intro ?_ ?_) | (intro _ _; rfl) | ((conv => whnf); (first | exact True.intro | (refine And.intro ?_ ?_))))), by (repeat' (first | exact True.intro | rfl | assumption | exact mc_ok rfl | exact mr_ok | exact fun _ => rfl | exact mt_keep _ _ | exact ms_ok | exact c_keep _ _ _ | (refine And.intro ?_ ?_) | (intro _ _; rfl) | ((conv => whnf); (first | exact True.intro | (refine And.intro ?_ ?_))))), ?_⟩
                    (conv => whnf)
                    rw [wm, wa]
                    refine ⟨k * sk + sk, [], by show k * sk + sk ≤ 999; omega, rfl, by (repeat' (first | exact True.intro | rfl | assumption | exact mc_ok rfl | exact mr_ok | exact fun _ => rfl | exact mt_keep _ _ | exact ms_ok | exact c_keep _ _ _ | (refine And.intro ?_ ?_) | (intro _ _; rfl) | ((conv => whnf); (first | exact True.intro | (refine And.intro ?_ ?_))))), by (repeat' (first | exact True.intro | rfl | assumption | exact mc_ok rfl | exact mr_ok | exact fun _ => rfl | exact mt_keep _ _ | exact ms_ok | exact c_keep _ _ _ | (refine And.intro ?_ ?_) | (intro _ _; rfl) | ((conv => whnf); (first | exact True.intro | (refine And.intro ?_ ?_))))), ?_⟩
                    (conv => whnf)
                    rw [← hw]
                    refine ⟨some (fun q => [.str ((w ++ [(nm (k * sk), nm (k * sk + sk))]).getD q e00).1, .str ((w ++ [(nm (k * sk), nm (k * sk + sk))]).getD q e00).2]), ?_⟩
                    (conv => whnf)
                    refine ⟨by decide, by show 0 + w.length ≤ w.length; omega, by show (w.length + 1) * (32 + 2) ≤ 1000000000; omega, fun q hq => ede_push rfl q hq, ?_⟩
                    (conv => whnf)
                    refine ⟨k + 1, [some 2], by show mo - (k + 1) < mo - k; omega, by show k + 1 ≤ mo; omega, ?_⟩
                    (repeat' (first | exact True.intro | rfl | assumption | exact mc_ok rfl | exact mr_ok | exact fun _ => rfl | exact mt_keep _ _ | exact ms_ok | exact c_keep _ _ _ | (refine And.intro ?_ ?_) | (intro _ _; rfl) | ((conv => whnf); (first | exact True.intro | (refine And.intro ?_ ?_)))))
                    all_goals first
                      | exact wk.symm
                      | (rw [hss]; exact snocE)
                      | (intro q _
                         show ([V.str ((chn n ++ skp sk n (k + 1)).getD q e00).1, V.str ((chn n ++ skp sk n (k + 1)).getD q e00).2] : List V) = _
                         rw [hss])
                  · intro g
                    have g : ¬ k * sk + sk ≤ n := by have : ¬ ((k * sk + sk : Nat) : Int) ≤ (n : Int) := of_decide_eq_false g; omega
                    have hss : chn n ++ skp sk n (k + 1) = chn n ++ skp sk n k := by rw [skp_out g]
                    (conv => whnf)
                    refine ⟨k + 1, [some 0], by show mo - (k + 1) < mo - k; omega, by show k + 1 ≤ mo; omega, ?_⟩
                    (repeat' (first | exact True.intro | rfl | assumption | exact mc_ok rfl | exact mr_ok | exact fun _ => rfl | exact mt_keep _ _ | exact ms_ok | exact c_keep _ _ _ | (refine And.intro ?_ ?_) | (intro _ _; rfl) | ((conv => whnf); (first | exact True.intro | (refine And.intro ?_ ?_)))))
                    all_goals first
                      | exact wk.symm
                      | exact congrArg List.length hss
                      | (intro q _
                         show ([V.str ((chn n ++ skp sk n (k + 1)).getD q e00).1, V.str ((chn n ++ skp sk n (k + 1)).getD q e00).2] : List V) = _
                         rw [hss]
                         rfl)
                · intro h
                  have h : ¬ k < mo := by have : ¬ (k : Int) < (mo : Int) := of_decide_eq_false h; omega
                  have hasc : Asc n (chn n ++ skp sk n k) := all_asc (by omega)
                  have hf3 : few3 250 (chn n ++ skp sk n k) := ⟨by omega, fun j hj => by
                    have hm : (chn n ++ skp sk n k).getD j e00 ∈ chn n ++ skp sk n k := by rw [List.getD_eq_getElem?_getD, List.getElem?_eq_getElem hj]; exact List.getElem_mem hj
                    obtain ⟨a, b, h1, h2, e⟩ := hasc _ hm
                    rw [e]
                    exact ⟨(nm_valid (by omega)).2, (nm_valid (by omega)).2⟩⟩
                  obtain ⟨hma, hmm⟩ := Asc.made hasc hn2 (by omega)
                  have hac : Ac (mkE (chn n ++ skp sk n k)) := mkE_ac _ (by omega)
                  have hml : (mkE (chn n ++ skp sk n k)).length ≤ 220 := Nat.le_trans (mkE_len _) hll
                  have hch : Chn n (mkE (chn n ++ skp sk n k)) := ⟨hma, fun i hi => (hmm _).2 (List.mem_append_left _ (List.mem_map.2 ⟨i, List.mem_range.2 hi, rfl⟩))⟩
                  (conv => whnf)
                  refine ⟨chn n ++ skp sk n k, [0], ⟨trivial, hf3⟩, rfl, by (repeat' (first | exact True.intro | rfl | assumption | exact mc_ok rfl | exact mr_ok | exact fun _ => rfl | exact mt_keep _ _ | exact ms_ok | exact c_keep _ _ _ | (refine And.intro ?_ ?_) | (intro _ _; rfl) | ((conv => whnf); (first | exact True.intro | (refine And.intro ?_ ?_))))), by (repeat' (first | exact True.intro | rfl | assumption | exact mc_ok rfl | exact mr_ok | exact fun _ => rfl | exact mt_keep _ _ | exact ms_ok | exact c_keep _ _ _ | (refine And.intro ?_ ?_) | (intro _ _; rfl) | ((conv => whnf); (first | exact True.intro | (refine And.intro ?_ ?_))))), fun g0 hG0 => ?_⟩
                  have hG0 : MG 1000 1000 (mkE (chn n ++ skp sk n k)) 250 g0 := hG0
                  clear hmm hma hf3 hasc
                  generalize mkE (chn n ++ skp sk n k) = E at *
                  have hso : sortedE E = allW n := by
                    unfold allW
                    by_cases h0 : 0 < n
                    · rw [if_pos h0]; exact hch.sorted hn2 h0
                    · rw [if_neg h0]
                      have : E = [] := List.eq_nil_iff_forall_not_mem.2 fun e he => by
                        obtain ⟨a, b, h1, h2, _⟩ := hch.asc e he
                        omega
                      rw [this]
                      unfold sortedE
                      rw [show (ndK []).length = 0 from Nat.le_zero.1 (ndK_len (E := []))]
                      rfl
                  have hwl : (allW n).length ≤ 201 := by unfold allW; split <;> simp [nms_len]; omega
                  clear hll h
                  (conv => whnf)
                  refine ⟨Unit, fun _ => [(0, i64 n), (10, .ptr 0 0), (11, .ptr 6 0), (12, .sl 7 0 1 (allW n).length false)], fun _ => g0.all _root_.id ++ [some (edR E), some (gcO 5 1000 1000 E), some (stR (allW n))], fun _ => True, 8, fun _ => rfl, ?_, fun _ _ => ?_⟩
                  · (conv => whnf)
                    refine .inl ⟨Nat, fun i => [(0, i64 n), (10, .ptr 0 0), (11, .ptr 6 0), (12, .sl 7 0 1 (nms i).length false), (13, i64 i)], fun i => g0.all _root_.id ++ [some (edR E), some (gcO 5 1000 1000 E), some (stR (nms i))], fun i => n + 1 - i, fun i => i ≤ n + 1 ∧ (i = 0 ∨ 0 < n), 8, ⟨0, [some 1, some 2, some 3, some 4, some 5, some 6, some 7, none], ⟨Nat.zero_le _, .inl rfl⟩, ?_⟩, fun _ => rfl, fun i hi => ?_⟩
                    · (repeat' (first | exact True.intro | rfl | assumption | exact mc_ok rfl | exact mr_ok | exact fun _ => rfl | exact mt_keep _ _ | exact ms_ok | exact c_keep _ _ _ | (refine And.intro ?_ ?_) | (intro _ _; rfl) | ((conv => whnf); (first | exact True.intro | (refine And.intro ?_ ?_)))))
                    have hi1 : i ≤ n + 1 := hi.1
                    have hi2 : i = 0 ∨ 0 < n := hi.2
                    have hnl := nms_len i
                    (conv => whnf)
                    constructor
                    · intro h
                      have h : i ≤ n := by have : (i : Int) ≤ (n : Int) := of_decide_eq_true h; omega
                      (conv => whnf)
                      constructor
                      · intro g
                        have g : 0 < n := by have : (0 : Int) < (n : Int) := of_decide_eq_true g; omega
                        have wi := wrap_inc (show i < n + 1 by omega) (by omega)
                        have hns := nms_snoc i
                        (conv => whnf)
                        refine ⟨i, [], by show i ≤ 999; omega, rfl, by (repeat' (first | exact True.intro | rfl | assumption | exact mc_ok rfl | exact mr_ok | exact fun _ => rfl | exact mt_keep _ _ | exact ms_ok | exact c_keep _ _ _ | (refine And.intro ?_ ?_) | (intro _ _; rfl) | ((conv => whnf); (first | exact True.intro | (refine And.intro ?_ ?_))))), by (repeat' (first | exact True.intro | rfl | assumption | exact mc_ok rfl | exact mr_ok | exact fun _ => rfl | exact mt_keep _ _ | exact ms_ok | exact c_keep _ _ _ | (refine And.intro ?_ ?_) | (intro _ _; rfl) | ((conv => whnf); (first | exact True.intro | (refine And.intro ?_ ?_))))), ?_⟩
                        (conv => whnf)
                        refine ⟨some (fun q => [.str ((nms i ++ [nm i]).getD q eS)]), ?_⟩
                        (conv => whnf)
                        refine ⟨by decide, by show 0 + (nms i).length ≤ (nms i).length; omega, by show ((nms i).length + 1) * (16 + 1) ≤ 1000000000; omega, fun q hq => stp_push rfl q hq, ?_⟩
                        (conv => whnf)
                        refine ⟨i + 1, [some 0, some 1, some 2, some 3, some 4, some 5, some 6, some 9], by show n + 1 - (i + 1) < n + 1 - i; omega, ⟨by show i + 1 ≤ n + 1; omega, .inr g⟩, ?_⟩
                        (repeat' (first | exact True.intro | rfl | assumption | exact mc_ok rfl | exact mr_ok | exact fun _ => rfl | exact mt_keep _ _ | exact ms_ok | exact c_keep _ _ _ | (refine And.intro ?_ ?_) | (intro _ _; rfl) | ((conv => whnf); (first | exact True.intro | (refine And.intro ?_ ?_)))))
                        all_goals first
                          | exact wi.symm
                          | (rw [hns]; exact snoc_len)
                          | (intro q _
                             show ([V.str ((nms (i + 1)).getD q eS)] : List V) = _
                             rw [hns])
                      · intro g
                        have g : ¬ 0 < n := by have : ¬ (0 : Int) < (n : Int) := of_decide_eq_false g; omega
                        have e : nms i = allW n := by
                          unfold allW
                          rw [if_neg g, hi2.resolve_right g]
                          rfl
                        (conv => whnf)
                        refine ⟨(), [some 0, some 1, some 2, some 3, some 4, some 5, some 6, some 7], trivial, ?_⟩
                        (repeat' (first | exact True.intro | rfl | assumption | exact mc_ok rfl | exact mr_ok | exact fun _ => rfl | exact mt_keep _ _ | exact ms_ok | exact c_keep _ _ _ | (refine And.intro ?_ ?_) | (intro _ _; rfl) | ((conv => whnf); (first | exact True.intro | (refine And.intro ?_ ?_)))))
                        all_goals first
                          | exact (congrArg List.length e).symm
                          | (intro q _
                             show ([V.str ((allW n).getD q eS)] : List V) = _
                             rw [← e])
                    · intro h
                      have h : ¬ i ≤ n := by have : ¬ (i : Int) ≤ (n : Int) := of_decide_eq_false h; omega
                      have e : nms i = allW n := by
                        unfold allW
                        rw [if_pos (by omega), show i = n + 1 by omega]
                      (conv => whnf)
                      refine ⟨(), [some 0, some 1, some 2, some 3, some 4, some 5, some 6, some 7], trivial, ?_⟩
                      (repeat' (first | exact True.intro | rfl | assumption | exact mc_ok rfl | exact mr_ok | exact fun _ => rfl | exact mt_keep _ _ | exact ms_ok | exact c_keep _ _ _ | (refine And.intro ?_ ?_) | (intro _ _; rfl) | ((conv => whnf); (first | exact True.intro | (refine And.intro ?_ ?_)))))
                      all_goals first
                        | exact (congrArg List.length e).symm
                        | (intro q _
                           show ([V.str ((allW n).getD q eS)] : List V) = _
                           rw [← e])
                  · clear hmo2 hi hsk2 hcl hs0 m1 wm wa
                    (conv => whnf)
                    refine ⟨GG, fun _ => [(0, i64 n), (10, .ptr 0 0), (12, .sl 5 0 1 (allW n).length false)], fun g => g.all _root_.id ++ [some (stR (allW n))], fun g => MG 1000 1000 E 254 g, 6, fun _ => rfl, ?_, fun g hG => ?_⟩
                    · (conv => whnf)
                      refine ⟨((g0, E, 250), allW n), [0, 1, 2, 3, 4, 7], ⟨⟨hG0, by show E.length ≤ 300; omega, by show (250 : Int) < 100000000; decide⟩, hso⟩, rfl, by (repeat' (first | exact True.intro | rfl | assumption | exact mc_ok rfl | exact mr_ok | exact fun _ => rfl | exact mt_keep _ _ | exact ms_ok | exact c_keep _ _ _ | (refine And.intro ?_ ?_) | (intro _ _; rfl) | ((conv => whnf); (first | exact True.intro | (refine And.intro ?_ ?_))))), by (repeat' (first | exact True.intro | rfl | assumption | exact mc_ok rfl | exact mr_ok | exact fun _ => rfl | exact mt_keep _ _ | exact ms_ok | exact c_keep _ _ _ | (refine And.intro ?_ ?_) | (intro _ _; rfl) | ((conv => whnf); (first | exact True.intro | (refine And.intro ?_ ?_))))), fun g1 hG1 => ?_⟩
                      have hG1 : MG 1000 1000 E 251 g1 := hG1
                      have hX1 : GXok (g1, E, 251) := ⟨hG1, by show E.length ≤ 300; omega, by show (251 : Int) < 100000000; decide⟩
                      have hv0 := nm_valid (Nat.zero_le 200)
                      have hs0 : (nm 0).size ≤ 1000000 := by have := hv0.2; omega
                      have he0 : eK (nm 0) = 0 := by unfold eK; rw [hv0.1]; rfl
                      have hle : levE E (nm 0) = levK (chE E) (nm 0) := by unfold levE; rw [hv0.1]; rfl
                      have hbe : belE E (nm 0) = (levK (chE E) (nm 0)).flatten := by unfold belE; rw [hle]
                      clear hv0
                      (conv => whnf)
                      refine ⟨fun _ => ?_, fun hh => absurd hh (by decide)⟩
                      (conv => whnf)
                      refine ⟨(0 : Nat), [], Nat.zero_le 999, rfl, by (repeat' (first | exact True.intro | rfl | assumption | exact mc_ok rfl | exact mr_ok | exact fun _ => rfl | exact mt_keep _ _ | exact ms_ok | exact c_keep _ _ _ | (refine And.intro ?_ ?_) | (intro _ _; rfl) | ((conv => whnf); (first | exact True.intro | (refine And.intro ?_ ?_))))), by (repeat' (first | exact True.intro | rfl | assumption | exact mc_ok rfl | exact mr_ok | exact fun _ => rfl | exact mt_keep _ _ | exact ms_ok | exact c_keep _ _ _ | (refine And.intro ?_ ?_) | (intro _ _; rfl) | ((conv => whnf); (first | exact True.intro | (refine And.intro ?_ ?_))))), ?_⟩
                      (conv => whnf)
                      (repeat (first | refine And.intro rfl ?_ | fail))
                      (conv => whnf)
                      refine ⟨(0 : Nat), [], Nat.zero_le 999, rfl, by (repeat' (first | exact True.intro | rfl | assumption | exact mc_ok rfl | exact mr_ok | exact fun _ => rfl | exact mt_keep _ _ | exact ms_ok | exact c_keep _ _ _ | (refine And.intro ?_ ?_) | (intro _ _; rfl) | ((conv => whnf); (first | exact True.intro | (refine And.intro ?_ ?_))))), by (repeat' (first | exact True.intro | rfl | assumption | exact mc_ok rfl | exact mr_ok | exact fun _ => rfl | exact mt_keep _ _ | exact ms_ok | exact c_keep _ _ _ | (refine And.intro ?_ ?_) | (intro _ _; rfl) | ((conv => whnf); (first | exact True.intro | (refine And.intro ?_ ?_))))), ?_⟩
                      (conv => whnf)
                      (repeat (first | refine And.intro rfl ?_ | fail))
                      (conv => whnf)
                      refine ⟨((1000, 1000, E), nm 0), [5], by show E.length ≤ 1000; omega, rfl, by (repeat' (first | exact True.intro | rfl | assumption | exact mc_ok rfl | exact mr_ok | exact fun _ => rfl | exact mt_keep _ _ | exact ms_ok | exact c_keep _ _ _ | (refine And.intro ?_ ?_) | (intro _ _; rfl) | ((conv => whnf); (first | exact True.intro | (refine And.intro ?_ ?_))))), by (repeat' (first | exact True.intro | rfl | assumption | exact mc_ok rfl | exact mr_ok | exact fun _ => rfl | exact mt_keep _ _ | exact ms_ok | exact c_keep _ _ _ | (refine And.intro ?_ ?_) | (intro _ _; rfl) | ((conv => whnf); (first | exact True.intro | (refine And.intro ?_ ?_))))), fun M O hO hI => ?_⟩
                      have hO : levs O = levK (chE E) (nm 0) := hO
                      have hI : OI M O := hI
                      (conv => whnf)
                      (repeat (first | refine And.intro rfl ?_ | fail))
                      (conv => whnf)
                      refine ⟨((g1, E, 251), nm 0, (M, O), 0), [0, 1, 2, 3, 4, 8, 9], ⟨hX1, hs0, by show levs O = levE E (nm 0); rw [hle]; exact hO, hI, he0⟩, rfl, by (repeat' (first | exact True.intro | rfl | assumption | exact mc_ok rfl | exact mr_ok | exact fun _ => rfl | exact mt_keep _ _ | exact ms_ok | exact c_keep _ _ _ | (refine And.intro ?_ ?_) | (intro _ _; rfl) | ((conv => whnf); (first | exact True.intro | (refine And.intro ?_ ?_))))), by (repeat' (first | exact True.intro | rfl | assumption | exact mc_ok rfl | exact mr_ok | exact fun _ => rfl | exact mt_keep _ _ | exact ms_ok | exact c_keep _ _ _ | (refine And.intro ?_ ?_) | (intro _ _; rfl) | ((conv => whnf); (first | exact True.intro | (refine And.intro ?_ ?_))))), fun g2 hG2 => ?_⟩
                      have hG2 : MG 1000 1000 E 252 g2 := hG2
                      have hX2 : GXok (g2, E, 252) := ⟨hG2, by show E.length ≤ 300; omega, by show (252 : Int) < 100000000; decide⟩
                      (conv => whnf)
                      (repeat (first | refine And.intro rfl ?_ | fail))
                      (conv => whnf)
                      refine ⟨fun _ => ?_, fun hh => absurd hh (by decide)⟩
                      (conv => whnf)
                      refine ⟨(0 : Nat), [], Nat.zero_le 999, rfl, by (repeat' (first | exact True.intro | rfl | assumption | exact mc_ok rfl | exact mr_ok | exact fun _ => rfl | exact mt_keep _ _ | exact ms_ok | exact c_keep _ _ _ | (refine And.intro ?_ ?_) | (intro _ _; rfl) | ((conv => whnf); (first | exact True.intro | (refine And.intro ?_ ?_))))), by (repeat' (first | exact True.intro | rfl | assumption | exact mc_ok rfl | exact mr_ok | exact fun _ => rfl | exact mt_keep _ _ | exact ms_ok | exact c_keep _ _ _ | (refine And.intro ?_ ?_) | (intro _ _; rfl) | ((conv => whnf); (first | exact True.intro | (refine And.intro ?_ ?_))))), ?_⟩
                      (conv => whnf)
                      (repeat (first | refine And.intro rfl ?_ | fail))
                      (conv => whnf)
                      refine ⟨(0 : Nat), [], Nat.zero_le 999, rfl, by (repeat' (first | exact True.intro | rfl | assumption | exact mc_ok rfl | exact mr_ok | exact fun _ => rfl | exact mt_keep _ _ | exact ms_ok | exact c_keep _ _ _ | (refine And.intro ?_ ?_) | (intro _ _; rfl) | ((conv => whnf); (first | exact True.intro | (refine And.intro ?_ ?_))))), by (repeat' (first | exact True.intro | rfl | assumption | exact mc_ok rfl | exact mr_ok | exact fun _ => rfl | exact mt_keep _ _ | exact ms_ok | exact c_keep _ _ _ | (refine And.intro ?_ ?_) | (intro _ _; rfl) | ((conv => whnf); (first | exact True.intro | (refine And.intro ?_ ?_))))), ?_⟩
                      (conv => whnf)
                      (repeat (first | refine And.intro rfl ?_ | fail))
                      (conv => whnf)
                      refine ⟨((1000, 1000, E), nm 0), [5], by show E.length ≤ 1000; omega, rfl, by (repeat' (first | exact True.intro | rfl | assumption | exact mc_ok rfl | exact mr_ok | exact fun _ => rfl | exact mt_keep _ _ | exact ms_ok | exact c_keep _ _ _ | (refine And.intro ?_ ?_) | (intro _ _; rfl) | ((conv => whnf); (first | exact True.intro | (refine And.intro ?_ ?_))))), by (repeat' (first | exact True.intro | rfl | assumption | exact mc_ok rfl | exact mr_ok | exact fun _ => rfl | exact mt_keep _ _ | exact ms_ok | exact c_keep _ _ _ | (refine And.intro ?_ ?_) | (intro _ _; rfl) | ((conv => whnf); (first | exact True.intro | (refine And.intro ?_ ?_))))), ?_⟩
                      (conv => whnf)
                      (repeat (first | refine And.intro rfl ?_ | fail))
                      (conv => whnf)
                      refine ⟨((g2, E, 252), nm 0, (levK (chE E) (nm 0)).flatten, 0), [0, 1, 2, 3, 4, 10], ⟨⟨hX2, by show (252 : Int) + 2 < 100000000; decide⟩, hs0, hbe, he0⟩, rfl, by (repeat' (first | exact True.intro | rfl | assumption | exact mc_ok rfl | exact mr_ok | exact fun _ => rfl | exact mt_keep _ _ | exact ms_ok | exact c_keep _ _ _ | (refine And.intro ?_ ?_) | (intro _ _; rfl) | ((conv => whnf); (first | exact True.intro | (refine And.intro ?_ ?_))))), by (repeat' (first | exact True.intro | rfl | assumption | exact mc_ok rfl | exact mr_ok | exact fun _ => rfl | exact mt_keep _ _ | exact ms_ok | exact c_keep _ _ _ | (refine And.intro ?_ ?_) | (intro _ _; rfl) | ((conv => whnf); (first | exact True.intro | (refine And.intro ?_ ?_))))), fun g3 hG3 => ?_⟩
                      have hG3 : MG 1000 1000 E 254 g3 := hG3
                      (conv => whnf)
                      (repeat (first | refine And.intro rfl ?_ | fail))
                      (conv => whnf)
                      refine ⟨fun hh => absurd hh (by decide), fun _ => ?_⟩
                      (conv => whnf)
                      refine ⟨g3, [some 0, some 1, some 2, some 3, some 4, some 7], hG3, ?_⟩
                      (repeat' (first | exact True.intro | rfl | assumption | exact mc_ok rfl | exact mr_ok | exact fun _ => rfl | exact mt_keep _ _ | exact ms_ok | exact c_keep _ _ _ | (refine And.intro ?_ ?_) | (intro _ _; rfl) | ((conv => whnf); (first | exact True.intro | (refine And.intro ?_ ?_)))))
                    · (conv => whnf)
                      constructor
                      · intro h
                        have h : 0 < n := by have : (0 : Int) < (n : Int) := of_decide_eq_true h; omega
                        have hA : allW n = nms (n + 1) := by unfold allW; rw [if_pos h]
                        have hAl : (allW n).length = n + 1 := by rw [hA, nms_len]
                        have hab := hch.above hn2 hac (by omega)
                        have hpre : nms n <+: allW n := by rw [hA, nms_snoc]; exact List.prefix_append ..
                        have hnl := nms_len n
                        have hen : eK (nm n) = 0 := by unfold eK; rw [(nm_valid hn2).1]; rfl
                        have hsn : (nm n).size ≤ 1000000 := by have := (nm_valid hn2).2; omega
                        have hG2 : MG 1000 1000 E 254 g := hG
                        (conv => whnf)
                        refine ⟨by show (0 : Int) ≤ (n : Int); omega, ?_⟩
                        (conv => whnf)
                        refine .inl ⟨Nat.zero_le _, by show (n : Int).toNat ≤ (allW n).length; rw [Int.toNat_natCast]; omega, .inr rfl, fun g => Bool.noConfusion g, ?_⟩
                        (conv => whnf)
                        refine ⟨n, [], by show n ≤ 999; omega, rfl, by (repeat' (first | exact True.intro | rfl | assumption | exact mc_ok rfl | exact mr_ok | exact fun _ => rfl | exact mt_keep _ _ | exact ms_ok | exact c_keep _ _ _ | (refine And.intro ?_ ?_) | (intro _ _; rfl) | ((conv => whnf); (first | exact True.intro | (refine And.intro ?_ ?_))))), by (repeat' (first | exact True.intro | rfl | assumption | exact mc_ok rfl | exact mr_ok | exact fun _ => rfl | exact mt_keep _ _ | exact ms_ok | exact c_keep _ _ _ | (refine And.intro ?_ ?_) | (intro _ _; rfl) | ((conv => whnf); (first | exact True.intro | (refine And.intro ?_ ?_))))), ?_⟩
                        (conv => whnf)
                        (repeat (first | refine And.intro rfl ?_ | fail))
                        (conv => whnf)
                        rw [Int.toNat_natCast n]
                        refine ⟨((g, E, 254), nm n, (nms n, allW n), 0), [0, 1, 2, 3, 4, 5], ⟨⟨⟨hG2, by show E.length ≤ 300; omega, by show (254 : Int) < 100000000; decide⟩, hpre⟩, hsn, hab, hen⟩, rfl, ?_, by (repeat' (first | exact True.intro | rfl | assumption | exact mc_ok rfl | exact mr_ok | exact fun _ => rfl | exact mt_keep _ _ | exact ms_ok | exact c_keep _ _ _ | (refine And.intro ?_ ?_) | (intro _ _; rfl) | ((conv => whnf); (first | exact True.intro | (refine And.intro ?_ ?_))))), fun g2 hG3 => ?_⟩
                        · (repeat' (first | exact True.intro | rfl | assumption | exact mc_ok rfl | exact mr_ok | exact fun _ => rfl | exact mt_keep _ _ | exact ms_ok | exact c_keep _ _ _ | (refine And.intro ?_ ?_) | (intro _ _; rfl) | ((conv => whnf); (first | exact True.intro | (refine And.intro ?_ ?_)))))
                          all_goals first | exact hnl | exact congrArg (fun n : Nat => (n : Int)) hnl
                        (conv => whnf)
                        (repeat (first | refine And.intro rfl ?_ | fail))
                        (conv => whnf)
                        refine ⟨fun hh => absurd hh (by decide), fun _ => ?_⟩
                        (conv => whnf)
                        refine ⟨(), [], trivial, rfl, by (repeat' (first | exact True.intro | rfl | assumption | exact mc_ok rfl | exact mr_ok | exact fun _ => rfl | exact mt_keep _ _ | exact ms_ok | exact c_keep _ _ _ | (refine And.intro ?_ ?_) | (intro _ _; rfl) | ((conv => whnf); (first | exact True.intro | (refine And.intro ?_ ?_))))), by (repeat' (first | exact True.intro | rfl | assumption | exact mc_ok rfl | exact mr_ok | exact fun _ => rfl | exact mt_keep _ _ | exact ms_ok | exact c_keep _ _ _ | (refine And.intro ?_ ?_) | (intro _ _; rfl) | ((conv => whnf); (first | exact True.intro | (refine And.intro ?_ ?_))))), ?_⟩
                        (conv => whnf)
                        refine ⟨[], _, _, hQ, ?_⟩
                        (repeat' (first | exact True.intro | rfl | assumption | exact mc_ok rfl | exact mr_ok | exact fun _ => rfl | exact mt_keep _ _ | exact ms_ok | exact c_keep _ _ _ | (refine And.intro ?_ ?_) | (intro _ _; rfl) | ((conv => whnf); (first | exact True.intro | (refine And.intro ?_ ?_)))))
                      · intro h
                        (conv => whnf)
                        refine ⟨(), [], trivial, rfl, by (repeat' (first | exact True.intro | rfl | assumption | exact mc_ok rfl | exact mr_ok | exact fun _ => rfl | exact mt_keep _ _ | exact ms_ok | exact c_keep _ _ _ | (refine And.intro ?_ ?_) | (intro _ _; rfl) | ((conv => whnf); (first | exact True.intro | (refine And.intro ?_ ?_))))), by (repeat' (first | exact True.intro | rfl | assumption | exact mc_ok rfl | exact mr_ok | exact fun _ => rfl | exact mt_keep _ _ | exact ms_ok | exact c_keep _ _ _ | (refine And.intro ?_ ?_) | (intro _ _; rfl) | ((conv => whnf); (first | exact True.intro | (refine And.intro ?_ ?_))))), ?_⟩
                        (conv => whnf)
                        refine ⟨[], _, _, hQ, ?_⟩
                        (repeat' (first | exact True.intro | rfl | assumption | exact mc_ok rfl | exact mr_ok | exact fun _ => rfl | exact mt_keep _ _ | exact ms_ok | exact c_keep _ _ _ | (refine And.intro ?_ ?_) | (intro _ _; rfl) | ((conv => whnf); (first | exact True.intro | (refine And.intro ?_ ?_)))))
          · intro h4
            (conv => whnf)
            refine ⟨(), [], trivial, rfl, by (repeat' (first | exact True.intro | rfl | assumption | exact mc_ok rfl | exact mr_ok | exact fun _ => rfl | exact mt_keep _ _ | exact ms_ok | exact c_keep _ _ _ | (refine And.intro ?_ ?_) | (intro _ _; rfl) | ((conv => whnf); (first | exact True.intro | (refine And.intro ?_ ?_))))), by (repeat' (first | exact True.intro | rfl | assumption | exact mc_ok rfl | exact mr_ok | exact fun _ => rfl | exact mt_keep _ _ | exact ms_ok | exact c_keep _ _ _ | (refine And.intro ?_ ?_) | (intro _ _; rfl) | ((conv => whnf); (first | exact True.intro | (refine And.intro ?_ ?_))))), ?_⟩
            (conv => whnf)
            refine ⟨[], _, _, hQ, ?_⟩
            (repeat' (first | exact True.intro | rfl | assumption | exact mc_ok rfl | exact mr_ok | exact fun _ => rfl | exact mt_keep _ _ | exact ms_ok | exact c_keep _ _ _ | (refine And.intro ?_ ?_) | (intro _ _; rfl) | ((conv => whnf); (first | exact True.intro | (refine And.intro ?_ ?_)))))
        · intro h3
          (conv => whnf)
          refine ⟨(), [], trivial, rfl, by (repeat' (first | exact True.intro | rfl | assumption | exact mc_ok rfl | exact mr_ok | exact fun _ => rfl | exact mt_keep _ _ | exact ms_ok | exact c_keep _ _ _ | (refine And.intro ?_ ?_) | (intro _ _; rfl) | ((conv => whnf); (first | exact True.intro | (refine And.intro ?_ ?_))))), by (repeat' (first | exact True.intro | rfl | assumption | exact mc_ok rfl | exact mr_ok | exact fun _ => rfl | exact mt_keep _ _ | exact ms_ok | exact c_keep _ _ _ | (refine And.intro ?_ ?_) | (intro _ _; rfl) | ((conv => whnf); (first | exact True.intro | (refine And.intro ?_ ?_))))), ?_⟩
          (conv => whnf)
          refine ⟨[], _, _, hQ, ?_⟩
          (repeat' (first | exact True.intro | rfl | assumption | exact mc_ok rfl | exact mr_ok | exact fun _ => rfl | exact mt_keep _ _ | exact ms_ok | exact c_keep _ _ _ | (refine And.intro ?_ ?_) | (intro _ _; rfl) | ((conv => whnf); (first | exact True.intro | (refine And.intro ?_ ?_)))))
      · intro h2
        (conv => whnf)
        refine ⟨(), [], trivial, rfl, by (repeat' (first | exact True.intro | rfl | assumption | exact mc_ok rfl | exact mr_ok | exact fun _ => rfl | exact mt_keep _ _ | exact ms_ok | exact c_keep _ _ _ | (refine And.intro ?_ ?_) | (intro _ _; rfl) | ((conv => whnf); (first | exact True.intro | (refine And.intro ?_ ?_))))), by (repeat' (first | exact True.intro | rfl | assumption | exact mc_ok rfl | exact mr_ok | exact fun _ => rfl | exact mt_keep _ _ | exact ms_ok | exact c_keep _ _ _ | (refine And.intro ?_ ?_) | (intro _ _; rfl) | ((conv => whnf); (first | exact True.intro | (refine And.intro ?_ ?_))))), ?_⟩
        (conv => whnf)
        refine ⟨[], _, _, hQ, ?_⟩
        (repeat' (first | exact True.intro | rfl | assumption | exact mc_ok rfl | exact mr_ok | exact fun _ => rfl | exact mt_keep _ _ | exact ms_ok | exact c_keep _ _ _ | (refine And.intro ?_ ?_) | (intro _ _; rfl) | ((conv => whnf); (first | exact True.intro | (refine And.intro ?_ ?_)))))
    · intro h1
      (conv => whnf)
      refine ⟨(), [], trivial, rfl, by (repeat' (first | exact True.intro | rfl | assumption | exact mc_ok rfl | exact mr_ok | exact fun _ => rfl | exact mt_keep _ _ | exact ms_ok | exact c_keep _ _ _ | (refine And.intro ?_ ?_) | (intro _ _; rfl) | ((conv => whnf); (first | exact True.intro | (refine And.intro ?_ ?_))))), by (repeat' (first | exact True.intro | rfl | assumption | exact mc_ok rfl | exact mr_ok | exact fun _ => rfl | exact mt_keep _ _ | exact ms_ok | exact c_keep _ _ _ | (refine And.intro ?_ ?_) | (intro _ _; rfl) | ((conv => whnf); (first | exact True.intro | (refine And.intro ?_ ?_))))), ?_⟩
      (conv => whnf)
      refine ⟨[], _, _, hQ, ?_⟩
      (repeat' (first | exact True.intro | rfl | assumption | exact mc_ok rfl | exact mr_ok | exact fun _ => rfl | exact mt_keep _ _ | exact ms_ok | exact c_keep _ _ _ | (refine And.intro ?_ ?_) | (intro _ _; rfl) | ((conv => whnf); (first | exact True.intro | (refine And.intro ?_ ?_)))))
  · intro h0
    (conv => whnf)
    refine ⟨(), [], trivial, rfl, by (repeat' (first | exact True.intro | rfl | assumption | exact mc_ok rfl | exact mr_ok | exact fun _ => rfl | exact mt_keep _ _ | exact ms_ok | exact c_keep _ _ _ | (refine And.intro ?_ ?_) | (intro _ _; rfl) | ((conv => whnf); (first | exact True.intro | (refine And.intro ?_ ?_))))), by (repeat' (first | exact True.intro | rfl | assumption | exact mc_ok rfl | exact mr_ok | exact fun _ => rfl | exact mt_keep _ _ | exact ms_ok | exact c_keep _ _ _ | (refine And.intro ?_ ?_) | (intro _ _; rfl) | ((conv => whnf); (first | exact True.intro | (refine And.intro ?_ ?_))))), ?_⟩
    (conv => whnf)
    refine ⟨[], _, _, hQ, ?_⟩
    (repeat' (first | exact True.intro | rfl | assumption | exact mc_ok rfl | exact mr_ok | exact fun _ => rfl | exact mt_keep _ _ | exact ms_ok | exact c_keep _ _ _ | (refine And.intro ?_ ?_) | (intro _ _; rfl) | ((conv => whnf); (first | exact True.intro | (refine And.intro ?_ ?_)))))
end Go.Proofs.Ytddionboojdjlaa
