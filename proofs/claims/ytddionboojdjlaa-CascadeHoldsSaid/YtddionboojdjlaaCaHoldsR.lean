/- The law CascadeHolds. -/
import Derived.Test.YtddionboojdjlaaK15CascadeHolds
import Derived.Test.YtddionboojdjlaaCaOrdersR
import Derived.Test.YtddionboojdjlaaK16CascadeHolds
namespace Go.Proofs.Ytddionboojdjlaa
open Go Go.RowKit Sy Tb Gr
set_option maxRecDepth 100000
set_option maxHeartbeats 16000000

def befL (a : Bs) (O : List Lr) (d : Nat) : List Bs := if d = 0 then [a] else (O.getD (d - 1) lr0).2.1
theorem e_eq {a : Bool} : ((a == a) == false) = false := by cases a <;> rfl
theorem e_no {a : Bool} {p : Prop} (h : ((a == a) == false) = true) : p := by rw [e_eq] at h; exact Bool.noConfusion h
theorem conHl : ConOk Try.prog (conOf [(8, SEdges3.T), (9, SKnown.T), (10, SMadeZ.T), (24, SSortedC.T), (13, SLChkN.T), (25, SNodesL.T), (26, SBelow.T), (27, SLevels.T), (28, SAbove.T), (29, SReachL.T), (31, (SEndsL true).T), (30, fun a s K => SHasN.T a s K ∨ SHasF.T a s K)]) :=
  conOf_cons (LSpec.call SEdges3_nt SEdges3_ok) (conOf_cons (LSpec.call SKnown_nt SKnown_ok) (conOf_cons (LSpec.call SMadeZ_nt SMadeZ_ok) (conOf_cons (LSpec.call SSortedC_nt SSortedC_ok) (conOf_cons (LSpec.call SLChkN_nt SLChkN_ok) (conOf_cons (LSpec.call SNodesL_nt SNodesL_ok) (conOf_cons (LSpec.call SBelow_nt SBelow_ok) (conOf_cons (LSpec.call SLevels_nt SLevels_ok) (conOf_cons (LSpec.call SAbove_nt SAbove_ok) (conOf_cons (LSpec.call SReachL_nt SReachL_ok) (conOf_cons (LSpec.call (SEndsL_nt true) SPaL_ok) (conOf_cons (orC (LSpec.call SHasN_nt SHasN_ok) (LSpec.call SHasF_nt SHasF_ok)) conOf_nil)))))))))))
def SHoldsL : LSpec where
  X := (Nat → Option Obj) × (Option (Nat × Nat) × Nat × List Ed)
  k := 1
  pre x := ZE x.1 x.2.1 x.2.2.2
  args x θ := [.zsl (θ 0) x.2.1 2 x.2.2.2.length x.2.2.1]
  objs x _ := [fzO x.1]
  out x _ R := R (.sb true) [some (fzO x.1)]
theorem t_no {a : Bool} {p : Prop} (h : a = true) (g : a = false) : p := by rw [h] at g; exact Bool.noConfusion g
theorem t_no2 {a : Bool} {p : Prop} (h : a = true) (g : (!a) = true) : p := by rw [h] at g; exact Bool.noConfusion g
theorem exLet {α : Type} {p : Prop} (x : α) (h : ∀ y, y = x → p) : p := h x rfl
theorem exIt {α : Type} {q : α → Prop} {p : Prop} (h : ∃ y, q y) (k : ∀ y, q y → p) : p := h.elim k
theorem SHoldsL_top : SHoldsL.TopZ Try.prog 7 := by
  refine LSpec.topZ (md := false) [39] noGo mixed conHl Try.func7 rfl (by kernel_rfl) fun ⟨Z, ⟨zp, zc, l⟩⟩ R hz hR => ?_
  have hz : ZE Z zp l := hz
  have hQ : R (.sb true) [some (fzO Z)] := hR
  (conv => whnf)
  refine ⟨(Z, zp, zc, l), [0], hz, rfl, by (repeat' (first | exact True.intro | rfl | assumption | exact mc_ok rfl | exact mr_ok | exact fun _ => rfl | exact mt_keep _ _ | exact ms_ok | exact c_keep _ _ _ | (refine And.intro ?_ ?_) | (intro _ _; rfl) | ((conv => whnf); (first | exact True.intro | (refine And.intro ?_ ?_))))), by (repeat' (first | exact True.intro | rfl | assumption | exact mc_ok rfl | exact mr_ok | exact fun _ => rfl | exact mt_keep _ _ | exact ms_ok | exact c_keep _ _ _ | (refine And.intro ?_ ?_) | (intro _ _; rfl) | ((conv => whnf); (first | exact True.intro | (refine And.intro ?_ ?_))))), fun bo hbo => ?_⟩
  have hbo : bo = true → few3 50 l := hbo
  (conv => whnf)
  constructor
  · intro h1
    (conv => whnf)
    refine ⟨(), [], trivial, rfl, by (repeat' (first | exact True.intro | rfl | assumption | exact mc_ok rfl | exact mr_ok | exact fun _ => rfl | exact mt_keep _ _ | exact ms_ok | exact c_keep _ _ _ | (refine And.intro ?_ ?_) | (intro _ _; rfl) | ((conv => whnf); (first | exact True.intro | (refine And.intro ?_ ?_))))), by (repeat' (first | exact True.intro | rfl | assumption | exact mc_ok rfl | exact mr_ok | exact fun _ => rfl | exact mt_keep _ _ | exact ms_ok | exact c_keep _ _ _ | (refine And.intro ?_ ?_) | (intro _ _; rfl) | ((conv => whnf); (first | exact True.intro | (refine And.intro ?_ ?_))))), ?_⟩
    (conv => whnf)
    refine ⟨[], _, _, hQ, ?_⟩
    (repeat' (first | exact True.intro | rfl | assumption | exact mc_ok rfl | exact mr_ok | exact fun _ => rfl | exact mt_keep _ _ | exact ms_ok | exact c_keep _ _ _ | (refine And.intro ?_ ?_) | (intro _ _; rfl) | ((conv => whnf); (first | exact True.intro | (refine And.intro ?_ ?_)))))
  · intro h1
    have hf : few3 50 l := hbo (not_f h1)
    have hml : (mkE l).length ≤ 50 := mkE_le hf.1
    have hac : Ac (mkE l) := mkE_ac l (by have := hf.1; omega)
    have hnl : (ndK (mkE l)).length ≤ 100 := by have := ndK_len (E := mkE l); omega
    have hsl : (sortedE (mkE l)).length ≤ 100 := by rw [(topo_ti hac).2]; exact hnl
    have hsc := sorted_chk hac
    (conv => whnf)
    refine ⟨(Z, zp, zc, l), [0], ⟨hz, few3_up hf (by omega)⟩, rfl, by (repeat' (first | exact True.intro | rfl | assumption | exact mc_ok rfl | exact mr_ok | exact fun _ => rfl | exact mt_keep _ _ | exact ms_ok | exact c_keep _ _ _ | (refine And.intro ?_ ?_) | (intro _ _; rfl) | ((conv => whnf); (first | exact True.intro | (refine And.intro ?_ ?_))))), by (repeat' (first | exact True.intro | rfl | assumption | exact mc_ok rfl | exact mr_ok | exact fun _ => rfl | exact mt_keep _ _ | exact ms_ok | exact c_keep _ _ _ | (refine And.intro ?_ ?_) | (intro _ _; rfl) | ((conv => whnf); (first | exact True.intro | (refine And.intro ?_ ?_))))), fun g hG => ?_⟩
    have hG : MG 1000 1000 (mkE l) 250 g := hG
    have hsS : szL (sortedE (mkE l)) := ⟨by omega, fun x hx => nd_size hG (sorted_sub _ x hx)⟩
    have hv := hG.valid
    (conv => whnf)
    refine ⟨(g, mkE l, 250), [1, 2, 3, 4, 5], ⟨hG, by show (mkE l).length ≤ 300; omega, by show (250 : Int) < 100000000; omega⟩, rfl, by (repeat' (first | exact True.intro | rfl | assumption | exact mc_ok rfl | exact mr_ok | exact fun _ => rfl | exact mt_keep _ _ | exact ms_ok | exact c_keep _ _ _ | (refine And.intro ?_ ?_) | (intro _ _; rfl) | ((conv => whnf); (first | exact True.intro | (refine And.intro ?_ ?_))))), by (repeat' (first | exact True.intro | rfl | assumption | exact mc_ok rfl | exact mr_ok | exact fun _ => rfl | exact mt_keep _ _ | exact ms_ok | exact c_keep _ _ _ | (refine And.intro ?_ ?_) | (intro _ _; rfl) | ((conv => whnf); (first | exact True.intro | (refine And.intro ?_ ?_))))), fun g1 hG1 => ?_⟩
    have hG1 : MG 1000 1000 (mkE l) 251 g1 := hG1
    (conv => whnf)
    refine ⟨fun _ => ?_, fun hh => absurd hh (by decide)⟩
    (conv => whnf)
    refine ⟨((g1, mkE l, 251), -1, sortedE (mkE l), sortedE (mkE l)), [1, 2, 3, 4, 5, 8], ⟨⟨hG1, by show (mkE l).length ≤ 300; omega, by show (251 : Int) < 100000000; omega⟩, hsS, hsc, List.prefix_rfl⟩, rfl, by (repeat' (first | exact True.intro | rfl | assumption | exact mc_ok rfl | exact mr_ok | exact fun _ => rfl | exact mt_keep _ _ | exact ms_ok | exact c_keep _ _ _ | (refine And.intro ?_ ?_) | (intro _ _; rfl) | ((conv => whnf); (first | exact True.intro | (refine And.intro ?_ ?_))))), by (repeat' (first | exact True.intro | rfl | assumption | exact mc_ok rfl | exact mr_ok | exact fun _ => rfl | exact mt_keep _ _ | exact ms_ok | exact c_keep _ _ _ | (refine And.intro ?_ ?_) | (intro _ _; rfl) | ((conv => whnf); (first | exact True.intro | (refine And.intro ?_ ?_))))), fun g2 hG2 => ?_⟩
    have hG2 : MG 1000 1000 (mkE l) 252 g2 := hG2
    (conv => whnf)
    refine ⟨fun hh => Bool.noConfusion (show (!true) = true from hh), fun _ => ?_⟩
    refine exLet (ndK (mkE l)) fun Nd hNd => ?_
    refine exLet (mkE l) fun E hE => ?_
    have hG2' : MG 1000 1000 E 1000 g2 := by rw [hE]; exact hG2.up (by omega)
    rw [← hNd] at hnl
    rw [← hE] at hml hac hv hNd
    (conv => whnf)
    refine ⟨(g2, Nd), [1, 2, 3, 4, 5], ⟨⟨hG2'.gu.gt, hG2'.gu.n1⟩, hG2'.nodes.trans hNd.symm⟩, rfl, by (repeat' (first | exact True.intro | rfl | assumption | exact mc_ok rfl | exact mr_ok | exact fun _ => rfl | exact mt_keep _ _ | exact ms_ok | exact c_keep _ _ _ | (refine And.intro ?_ ?_) | (intro _ _; rfl) | ((conv => whnf); (first | exact True.intro | (refine And.intro ?_ ?_))))), by (repeat' (first | exact True.intro | rfl | assumption | exact mc_ok rfl | exact mr_ok | exact fun _ => rfl | exact mt_keep _ _ | exact ms_ok | exact c_keep _ _ _ | (refine And.intro ?_ ?_) | (intro _ _; rfl) | ((conv => whnf); (first | exact True.intro | (refine And.intro ?_ ?_))))), ?_⟩
    clear hsS hsc hsl hG1 hG hG2
    have hvn : ∀ x ∈ Nd, validK x = true := fun x hx => nodes_valid hv (by rw [hNd] at hx; exact hx)
    (conv => whnf)
    refine .inl ⟨Nat × GG, fun x => [(3, .ptr 1 0), (7, .sl 6 0 1 Nd.length false), (8, i64 x.1)], fun x => some (fzO Z) :: (x.2.all fun i => i + 1) ++ [some (stR Nd)], fun x => Nd.length - x.1, fun x => x.1 ≤ Nd.length ∧ MG 1000 1000 E (1000 + (x.1 : Int) * 1000) x.2, 7, ⟨(0, g2), [some 1, some 2, some 3, some 4, some 5, some 9], ⟨Nat.zero_le _, hG2'.up (by show (1000 : Int) ≤ 1000 + ((0 : Nat) : Int) * 1000; omega)⟩, ?_⟩, fun _ => rfl, fun ⟨i, g⟩ ⟨hi, hG⟩ => ?_⟩
    · (repeat' (first | exact True.intro | rfl | assumption | exact mc_ok rfl | exact mr_ok | exact fun _ => rfl | exact mt_keep _ _ | exact ms_ok | exact c_keep _ _ _ | (refine And.intro ?_ ?_) | (intro _ _; rfl) | ((conv => whnf); (first | exact True.intro | (refine And.intro ?_ ?_)))))
    have hi : i ≤ Nd.length := hi
    have hG : MG 1000 1000 E (1000 + (i : Int) * 1000) g := hG
    have ei := zero_add_toNat i
    clear hG2'
    (conv => whnf)
    constructor
    · intro h
      have h : i < Nd.length := by have : (i : Int) < (Nd.length : Int) := of_decide_eq_true h; omega
      refine exLet (Nd.getD (0 + (i : Int).toNat) eS) fun a ha => ?_
      have ham : a ∈ Nd := by
        rw [ha, ei, List.getD_eq_getElem?_getD, List.getElem?_eq_getElem h]
        exact List.getElem_mem h
      have hav : validK a = true := hvn a ham
      have has : a.size ≤ 1000000 := by
        have := (validK_iff.1 hav).2
        have : a.size ≤ 250 := this
        omega
      have e0 : eK a = 0 := if_pos hav
      (conv => whnf)
      refine ⟨by show (0 : Int) ≤ (i : Int); omega, by show (i : Int) < (Nd.length : Int); omega, ?_⟩
      (conv => whnf)
      refine ⟨by rw [ei]; exact h, ?_⟩
      (conv => whnf)
      refine ⟨((g, E, 1000 + (i : Int) * 1000), a), [1, 2, 3, 4, 5], ⟨⟨hG, by show E.length ≤ 300; omega, by show 1000 + (i : Int) * 1000 < 100000000; omega⟩, has⟩, rfl, ?_, by (repeat' (first | exact True.intro | rfl | assumption | exact mc_ok rfl | exact mr_ok | exact fun _ => rfl | exact mt_keep _ _ | exact ms_ok | exact c_keep _ _ _ | (refine And.intro ?_ ?_) | (intro _ _; rfl) | ((conv => whnf); (first | exact True.intro | (refine And.intro ?_ ?_))))), fun g1 hG1 => ?_⟩
      · (repeat' (first | exact True.intro | rfl | assumption | exact mc_ok rfl | exact mr_ok | exact fun _ => rfl | exact mt_keep _ _ | exact ms_ok | exact c_keep _ _ _ | (refine And.intro ?_ ?_) | (intro _ _; rfl) | ((conv => whnf); (first | exact True.intro | (refine And.intro ?_ ?_)))))
        all_goals exact congrArg V.str ha
      have hG1 : MG 1000 1000 E (1000 + (i : Int) * 1000 + 1) g1 := hG1
      (conv => whnf)
      refine ⟨((g1, E, 1000 + (i : Int) * 1000 + 1), a), [1, 2, 3, 4, 5], ⟨⟨hG1, by show E.length ≤ 300; omega, by show 1000 + (i : Int) * 1000 + 1 < 100000000; omega⟩, has⟩, rfl, ?_, by (repeat' (first | exact True.intro | rfl | assumption | exact mc_ok rfl | exact mr_ok | exact fun _ => rfl | exact mt_keep _ _ | exact ms_ok | exact c_keep _ _ _ | (refine And.intro ?_ ?_) | (intro _ _; rfl) | ((conv => whnf); (first | exact True.intro | (refine And.intro ?_ ?_))))), fun g2 M O hG2 hO hM => ?_⟩
      · (repeat' (first | exact True.intro | rfl | assumption | exact mc_ok rfl | exact mr_ok | exact fun _ => rfl | exact mt_keep _ _ | exact ms_ok | exact c_keep _ _ _ | (refine And.intro ?_ ?_) | (intro _ _; rfl) | ((conv => whnf); (first | exact True.intro | (refine And.intro ?_ ?_)))))
        all_goals exact congrArg V.str ha
      have hG2 : MG 1000 1000 E (1000 + (i : Int) * 1000 + 1 + 1) g2 := hG2
      have hO : levs O = levE E a := hO
      have hM : OI M O := hM
      rw [e0]
      (conv => whnf)
      refine ⟨fun _ => ?_, fun hh => Bool.noConfusion (show (!decide ((0 : Int) = 0)) = true from hh)⟩
      (conv => whnf)
      refine ⟨fun hh => Bool.noConfusion (show (!decide ((0 : Int) = 0)) = true from hh), fun _ => ?_⟩
      (conv => whnf)
      refine .inl ⟨Nat × GG, fun x => [(3, .ptr 1 0), (7, .sl 6 0 1 Nd.length false), (8, i64 i), (9, .str a), (10, .sl 7 0 1 (belE E a).length false), (12, .sl 8 0 1 O.length false), (14, i64 x.1)], fun x => some (fzO Z) :: (x.2.all fun i => i + 1) ++ [some (stR Nd), some (stR (belE E a)), some (loR 9 O), some (msO M)], fun x => Nd.length - x.1, fun x => x.1 ≤ Nd.length ∧ MG 1000 1000 E (1002 + (i : Int) * 1000 + (x.1 : Int) * 2) x.2, 10,
        ⟨(0, g2), [some 1, some 2, some 3, some 4, some 5, some 6, some 7, some 8, some 9], ⟨Nat.zero_le _, hG2.up (by show 1000 + (i : Int) * 1000 + 1 + 1 ≤ 1002 + (i : Int) * 1000 + ((0 : Nat) : Int) * 2; omega)⟩, ?_⟩, fun _ => rfl, fun ⟨k, g3⟩ ⟨hk, hG3⟩ => ?_⟩
      · (repeat' (first | exact True.intro | rfl | assumption | exact mc_ok rfl | exact mr_ok | exact fun _ => rfl | exact mt_keep _ _ | exact ms_ok | exact c_keep _ _ _ | (refine And.intro ?_ ?_) | (intro _ _; rfl) | ((conv => whnf); (first | exact True.intro | (refine And.intro ?_ ?_)))))
        all_goals exact congrArg V.str ha
      have hk : k ≤ Nd.length := hk
      have hG3 : MG 1000 1000 E (1002 + (i : Int) * 1000 + (k : Int) * 2) g3 := hG3
      have ek := zero_add_toNat k
      (conv => whnf)
      constructor
      · intro h2
        have h2 : k < Nd.length := by have : (k : Int) < (Nd.length : Int) := of_decide_eq_true h2; omega
        refine exLet (Nd.getD (0 + (k : Int).toNat) eS) fun b hb => ?_
        have hbm : b ∈ Nd := by
          rw [hb, ek, List.getD_eq_getElem?_getD, List.getElem?_eq_getElem h2]
          exact List.getElem_mem h2
        have hbv : validK b = true := hvn b hbm
        have hbs : b.size ≤ 1000000 := by
          have := (validK_iff.1 hbv).2
          have : b.size ≤ 250 := this
          omega
        have e1 : eK b = 0 := if_pos hbv
        refine exLet ((srch (chE E) a b).1) fun is his => ?_
        refine exLet (((srch (chE E) a b).2 : Int)) fun n1 hn1 => ?_
        have r1 : rReach E a b 1048576 = (is, n1, 0) := by rw [rReach_ok hav hbv (by omega), his, hn1]
        have q1 : hasB (belE E a) b = is := by rw [Bool.eq_iff_iff, hasB_iff, belE_iff hac (by omega) hav, his, srch_iff (by omega)]
        have q2 : hasB (aboE E b) a = is := by rw [Bool.eq_iff_iff, hasB_iff, aboE_iff hac (by omega) hbv, his, srch_iff (by omega)]
        have hbl := belE_len E a
        have hal := aboE_len E b
        clear hn1 his
        (conv => whnf)
        refine ⟨by show (0 : Int) ≤ (k : Int); omega, by show (k : Int) < (Nd.length : Int); omega, ?_⟩
        (conv => whnf)
        refine ⟨by rw [ek]; exact h2, ?_⟩
        (conv => whnf)
        refine ⟨((g3, E, 1002 + (i : Int) * 1000 + (k : Int) * 2), b), [1, 2, 3, 4, 5], ⟨⟨hG3, by show E.length ≤ 300; omega, by show 1002 + (i : Int) * 1000 + (k : Int) * 2 < 100000000; omega⟩, hbs⟩, rfl, ?_, by (repeat' (first | exact True.intro | rfl | assumption | exact mc_ok rfl | exact mr_ok | exact fun _ => rfl | exact mt_keep _ _ | exact ms_ok | exact c_keep _ _ _ | (refine And.intro ?_ ?_) | (intro _ _; rfl) | ((conv => whnf); (first | exact True.intro | (refine And.intro ?_ ?_))))), fun g4 hG4 => ?_⟩
        · (repeat' (first | exact True.intro | rfl | assumption | exact mc_ok rfl | exact mr_ok | exact fun _ => rfl | exact mt_keep _ _ | exact ms_ok | exact c_keep _ _ _ | (refine And.intro ?_ ?_) | (intro _ _; rfl) | ((conv => whnf); (first | exact True.intro | (refine And.intro ?_ ?_)))))
          all_goals exact congrArg V.str hb
        have hG4 : MG 1000 1000 E (1002 + (i : Int) * 1000 + (k : Int) * 2 + 1) g4 := hG4
        rw [e1]
        (conv => whnf)
        refine ⟨(g4, a, b, 1048576, is, n1, 0), [1, 2, 3, 4, 5], ⟨⟨hG4.gu, hG4.sb (by omega)⟩, ⟨has, hbs⟩, (hG4.reach a b 1048576).trans r1⟩, rfl, ?_, by (repeat' (first | exact True.intro | rfl | assumption | exact mc_ok rfl | exact mr_ok | exact fun _ => rfl | exact mt_keep _ _ | exact ms_ok | exact c_keep _ _ _ | (refine And.intro ?_ ?_) | (intro _ _; rfl) | ((conv => whnf); (first | exact True.intro | (refine And.intro ?_ ?_))))), fun M1 ns sr k1 k2 k3 => ?_⟩
        · (repeat' (first | exact True.intro | rfl | assumption | exact mc_ok rfl | exact mr_ok | exact fun _ => rfl | exact mt_keep _ _ | exact ms_ok | exact c_keep _ _ _ | (refine And.intro ?_ ?_) | (intro _ _; rfl) | ((conv => whnf); (first | exact True.intro | (refine And.intro ?_ ?_)))))
          all_goals exact congrArg V.str hb
        have hG5 := hG4.mark k1 k2 k3
        (conv => whnf)
        refine ⟨fun _ => ?_, fun hh => Bool.noConfusion (show (!decide ((0 : Int) = 0)) = true from hh)⟩
        (conv => whnf)
        refine ⟨fun _ => ?_, fun hh => Bool.noConfusion (show (!decide ((0 : Int) = 0)) = true from hh)⟩
        (conv => whnf)
        refine .inl ⟨((belE E a, belE E a), b, is), [7], ⟨List.prefix_rfl, by show (belE E a).length ≤ 1000000; omega, q1⟩, rfl, ?_, by (repeat' (first | exact True.intro | rfl | assumption | exact mc_ok rfl | exact mr_ok | exact fun _ => rfl | exact mt_keep _ _ | exact ms_ok | exact c_keep _ _ _ | (refine And.intro ?_ ?_) | (intro _ _; rfl) | ((conv => whnf); (first | exact True.intro | (refine And.intro ?_ ?_))))), ?_⟩
        · (repeat' (first | exact True.intro | rfl | assumption | exact mc_ok rfl | exact mr_ok | exact fun _ => rfl | exact mt_keep _ _ | exact ms_ok | exact c_keep _ _ _ | (refine And.intro ?_ ?_) | (intro _ _; rfl) | ((conv => whnf); (first | exact True.intro | (refine And.intro ?_ ?_)))))
          all_goals exact congrArg V.str hb
        (conv => whnf)
        refine ⟨fun _ => ?_, fun hh => e_no hh⟩
        (conv => whnf)
        refine .inl ⟨((aboE E b, aboE E b), a, is), [10], ⟨List.prefix_rfl, by show (aboE E b).length ≤ 1000000; omega, q2⟩, rfl, by (repeat' (first | exact True.intro | rfl | assumption | exact mc_ok rfl | exact mr_ok | exact fun _ => rfl | exact mt_keep _ _ | exact ms_ok | exact c_keep _ _ _ | (refine And.intro ?_ ?_) | (intro _ _; rfl) | ((conv => whnf); (first | exact True.intro | (refine And.intro ?_ ?_))))), by (repeat' (first | exact True.intro | rfl | assumption | exact mc_ok rfl | exact mr_ok | exact fun _ => rfl | exact mt_keep _ _ | exact ms_ok | exact c_keep _ _ _ | (refine And.intro ?_ ?_) | (intro _ _; rfl) | ((conv => whnf); (first | exact True.intro | (refine And.intro ?_ ?_))))), ?_⟩
        (conv => whnf)
        refine ⟨fun hh => e_no hh, fun _ => ?_⟩
        (conv => whnf)
        refine ⟨(k + 1, _), [some 1, some 2, some 3, some 4, some 5, some 6, some 7, some 8, some 9], by show Nd.length - (k + 1) < Nd.length - k; omega, ⟨by show k + 1 ≤ Nd.length; omega, hG5.up (by show 1002 + (i : Int) * 1000 + (k : Int) * 2 + 1 + 1 ≤ 1002 + (i : Int) * 1000 + ((k + 1 : Nat) : Int) * 2; omega)⟩, ?_⟩
        (repeat' (first | exact True.intro | rfl | assumption | exact mc_ok rfl | exact mr_ok | exact fun _ => rfl | exact mt_keep _ _ | exact ms_ok | exact c_keep _ _ _ | (refine And.intro ?_ ?_) | (intro _ _; rfl) | ((conv => whnf); (first | exact True.intro | (refine And.intro ?_ ?_)))))
        all_goals exact (wrap_inc h2 (by omega)).symm
      · intro h2
        clear h2
        (conv => whnf)
        refine .inr ⟨9, ?_⟩
        (conv => whnf)
        refine fam_row (M := M) (l := [a]) rfl (fun q hq => ?_) fun p1 C1 hC1 hp1 => ?_
        · have hq : q < 1 := hq
          obtain rfl : q = 0 := by omega
          rfl
        refine exLet (setM M p1 ([a], C1)) fun N hN => ?_
        have hNp : N p1 = some ([a], C1) := by rw [hN]; exact setM_same
        have hat : ∀ d, d < O.length → ∃ C, N (O.getD d lr0).1 = some ((O.getD d lr0).2.1, C) := fun d hd => by
          obtain ⟨C, hC⟩ := hM.at_ (O.getD d lr0) (by rw [List.getD_eq_getElem?_getD, List.getElem?_eq_getElem hd]; exact List.getElem_mem _)
          refine ⟨C, ?_⟩
          rw [hN, setM_ne (show (O.getD d lr0).1 ≠ p1 from fun q => by rw [q, hp1] at hC; cases hC)]
          exact hC
        have hOl : O.length ≤ 100000 := by
          have := levE_len E a
          rw [← hO] at this
          unfold levs at this
          rw [List.length_map] at this
          exact Nat.le_trans this (by decide)
        have htot : ∀ d, d < O.length → (O.getD d lr0).2.1.length ≤ 1000000 := fun d hd => by
          have h1 := belE_len E a
          unfold belE at h1
          rw [← hO] at h1
          have h2 := (List.sublist_flatten_of_mem (show (O.getD d lr0).2.1 ∈ levs O from List.mem_map.2 ⟨_, by rw [List.getD_eq_getElem?_getD, List.getElem?_eq_getElem hd]; exact List.getElem_mem _, rfl⟩)).length_le
          omega
        have hL : LvsOk E a (levs O) := by
          rw [hO, show levE E a = levK (chE E) a from if_pos hav]
          exact (levK_ok hac (by omega) a).1
        have hG3' : MG 1000 1000 E (1000 + ((i + 1 : Nat) : Int) * 1000) g3 := hG3.up (by show 1002 + (i : Int) * 1000 + (k : Int) * 2 ≤ 1000 + ((i + 1 : Nat) : Int) * 1000; omega)
        clear hO hM hG3 hk ek hG1 hG2 hG
        (conv => whnf)
        refine .inl ⟨Nat × Nat × Nat, fun x => [(3, .ptr 1 0), (7, .sl 6 0 1 Nd.length false), (8, i64 i), (9, .str a), (12, .sl 7 0 1 O.length false), (21, asS 8 (some x.2.1) (befL a O x.1).length x.2.2), (22, i64 x.1)], fun _ => some (fzO Z) :: (g3.all fun i => i + 1) ++ [some (stR Nd), some (loR 8 O), some (msO N)], fun x => O.length - x.1, fun x => x.1 ≤ O.length ∧ ∃ C, N x.2.1 = some (befL a O x.1, C), 9,
          ⟨(0, p1, C1), [some 1, some 2, some 3, some 4, some 5, some 6, some 8, some 9], ⟨Nat.zero_le _, C1, hNp⟩, ?_⟩, fun _ => rfl, fun ⟨d, p, c⟩ ⟨hd, pC, hpC⟩ => ?_⟩
        · rw [hN]
          (repeat' (first | exact True.intro | rfl | assumption | exact mc_ok rfl | exact mr_ok | exact fun _ => rfl | exact mt_keep _ _ | exact ms_ok | exact c_keep _ _ _ | (refine And.intro ?_ ?_) | (intro _ _; rfl) | ((conv => whnf); (first | exact True.intro | (refine And.intro ?_ ?_)))))
        clear hNp hN hp1 hC1
        have hd : d ≤ O.length := hd
        have hpC : N p = some (befL a O d, pC) := hpC
        have ed := zero_add_toNat d
        (conv => whnf)
        constructor
        · intro h2
          have h2 : d < O.length := by have : (d : Int) < (O.length : Int) := of_decide_eq_true h2; omega
          refine exIt (hat d h2) fun C2 hC2 => ?_
          have hLl := htot d h2
          have hLv := hL.each d (by unfold levs; rw [List.length_map]; exact h2)
          have hge : ∀ y, y < O.length → (levs O).getD y [] = (O.getD y lr0).2.1 := fun y hy => by
            unfold levs
            rw [List.getD_eq_getElem?_getD, List.getElem?_map, List.getD_eq_getElem?_getD, List.getElem?_eq_getElem hy]
            rfl
          rw [hge d h2] at hLv
          refine exLet ((O.getD d lr0).2.1) fun Ld hLd => ?_
          rw [← hLd] at hC2 hLl hLv
          have hdd : O.getD (0 + (d : Int).toNat) lr0 = O.getD d lr0 := by rw [ed]
          have hLd2 : Ld = (O.getD (0 + (d : Int).toNat) lr0).2.1 := by rw [hdd]; exact hLd
          refine exLet (befL a O d) fun B hB => ?_
          have hBl : B.length ≤ 1000000 := by
            rw [hB]
            unfold befL
            split
            · show 1 ≤ 1000000; omega
            · exact htot _ (by omega)
          rw [← hB] at hpC
          have hbl : (befL a O d).length = B.length := by rw [hB]
          refine .inl ⟨Nat, fun x => [(3, .ptr 1 0), (7, .sl 6 0 1 Nd.length false), (8, i64 i), (9, .str a), (12, .sl 7 0 1 O.length false), (21, asS 8 (some p) B.length c), (22, i64 d), (23, i64 x)], fun _ => some (fzO Z) :: (g3.all fun i => i + 1) ++ [some (stR Nd), some (loR 8 O), some (msO N)], fun x => Ld.length - x, fun x => x ≤ Ld.length, 9,
            ⟨0, [some 1, some 2, some 3, some 4, some 5, some 6, some 7, some 8], Nat.zero_le _, ?_⟩, fun _ => rfl, fun k hk => ?_⟩
          · (repeat' (first | exact True.intro | rfl | assumption | exact mc_ok rfl | exact mr_ok | exact fun _ => rfl | exact mt_keep _ _ | exact ms_ok | exact c_keep _ _ _ | (refine And.intro ?_ ?_) | (intro _ _; rfl) | ((conv => whnf); (first | exact True.intro | (refine And.intro ?_ ?_)))))
            all_goals first | exact hbl | exact hbl.symm
          clear hbl
          have hk : k ≤ Ld.length := hk
          have ek := zero_add_toNat k
          (conv => whnf)
          refine ⟨by show (0 : Int) ≤ (d : Int); omega, by show (d : Int) < (O.length : Int); omega, ?_⟩
          (conv => whnf)
          refine ⟨by rw [ed]; exact h2, ?_⟩
          (conv => whnf)
          constructor
          · intro h3
            have h3 : k < Ld.length := by have h3 : (k : Int) < ((O.getD (0 + (d : Int).toNat) lr0).2.1.length : Int) := of_decide_eq_true h3; rw [← hLd2] at h3; omega
            refine exLet (Ld.getD (0 + (k : Int).toNat) eS) fun y hy => ?_
            have hpl : (prE E y).length ≤ E.length := prE_len E y
            have hym : y ∈ Ld := by
              rw [hy, ek, List.getD_eq_getElem?_getD, List.getElem?_eq_getElem h3]
              exact List.getElem_mem h3
            have hLy := hLv y hym
            have hys : y.size ≤ 1000000 := by
              obtain ⟨pp, hpp, _⟩ := hLy.1
              have := (validK_iff.1 (hv _ hpp).2).2
              have : y.size ≤ 250 := this
              omega
            (conv => whnf)
            refine ⟨by show (0 : Int) ≤ (d : Int); omega, by show (d : Int) < (O.length : Int); omega, ?_⟩
            (conv => whnf)
            refine ⟨by rw [ed]; exact h2, ?_⟩
            (conv => whnf)
            refine ⟨by show (0 : Int) ≤ (k : Int); omega, by show (k : Int) < ((O.getD (0 + (d : Int).toNat) lr0).2.1.length : Int); rw [← hLd2]; omega, (O.getD (0 + (d : Int).toNat) lr0).1, 0, rfl, ?_⟩
            (conv => whnf)
            refine ⟨Ld.length, C2, fun q => [.str (Ld.getD q eS)], by show (N (O.getD (0 + (d : Int).toNat) lr0).1).map rwS = _; rw [hdd, hC2]; rfl, by show 0 + (k : Int).toNat < Ld.length; rw [ek]; exact h3, ?_⟩
            (conv => whnf)
            refine ⟨(g3, y, prE E y), [1, 2, 3, 4, 5], ⟨⟨hG3'.gu.gt, hG3'.gu.n1, hys, hG3'.gu.ei⟩, hG3'.rel.pa hG3'.pu y⟩, rfl, ?_, by (repeat' (first | exact True.intro | rfl | assumption | exact mc_ok rfl | exact mr_ok | exact fun _ => rfl | exact mt_keep _ _ | exact ms_ok | exact c_keep _ _ _ | (refine And.intro ?_ ?_) | (intro _ _; rfl) | ((conv => whnf); (first | exact True.intro | (refine And.intro ?_ ?_))))), ?_⟩
            · (repeat' (first | exact True.intro | rfl | assumption | exact mc_ok rfl | exact mr_ok | exact fun _ => rfl | exact mt_keep _ _ | exact ms_ok | exact c_keep _ _ _ | (refine And.intro ?_ ?_) | (intro _ _; rfl) | ((conv => whnf); (first | exact True.intro | (refine And.intro ?_ ?_)))))
              all_goals exact congrArg V.str hy
            clear hy
            (conv => whnf)
            refine .inl ⟨Nat × Bool, fun x => [(3, .ptr 1 0), (7, .sl 6 0 1 Nd.length false), (8, i64 i), (9, .str a), (12, .sl 7 0 1 O.length false), (21, asS 8 (some p) B.length c), (22, i64 d), (23, i64 k), (24, .sl 9 0 1 (prE E y).length false), (25, .sb x.2), (26, i64 x.1)], fun _ => some (fzO Z) :: (g3.all fun i => i + 1) ++ [some (stR Nd), some (loR 8 O), some (msO N), some (stR (prE E y))], fun x => (prE E y).length - x.1, fun x => x.1 ≤ (prE E y).length ∧ x.2 = ((prE E y).take x.1).any fun q => hasB B q, 10,
              ⟨(0, false), [some 1, some 2, some 3, some 4, some 5, some 6, some 7, some 8, some 9], ⟨Nat.zero_le _, rfl⟩, ?_⟩, fun _ => rfl, fun ⟨j, near⟩ ⟨hj, hnear⟩ => ?_⟩
            · (repeat' (first | exact True.intro | rfl | assumption | exact mc_ok rfl | exact mr_ok | exact fun _ => rfl | exact mt_keep _ _ | exact ms_ok | exact c_keep _ _ _ | (refine And.intro ?_ ?_) | (intro _ _; rfl) | ((conv => whnf); (first | exact True.intro | (refine And.intro ?_ ?_)))))
            have hj : j ≤ (prE E y).length := hj
            have hnear : near = ((prE E y).take j).any fun q => hasB B q := hnear
            have ej := zero_add_toNat j
            (conv => whnf)
            constructor
            · intro h4
              have h4 : j < (prE E y).length := by have : (j : Int) < ((prE E y).length : Int) := of_decide_eq_true h4; omega
              refine exLet (((prE E y).take (j + 1)).any fun q => hasB B q) fun nn hnn => ?_
              have hn1 : nn = (near || hasB B ((prE E y).getD j eS)) := by
                rw [hnn, hnear, take_snoc (d := eS) h4, List.any_append]
                simp
              have hym2 : (prE E y).getD j eS ∈ prE E y := by
                rw [List.getD_eq_getElem?_getD, List.getElem?_eq_getElem h4]
                exact List.getElem_mem h4
              refine ⟨Unit, fun _ => [(3, .ptr 1 0), (7, .sl 6 0 1 Nd.length false), (8, i64 i), (9, .str a), (12, .sl 7 0 1 O.length false), (21, asS 8 (some p) B.length c), (22, i64 d), (23, i64 k), (24, .sl 9 0 1 (prE E y).length false), (25, .sb nn), (26, i64 j)], fun _ => some (fzO Z) :: (g3.all fun i => i + 1) ++ [some (stR Nd), some (loR 8 O), some (msO N), some (stR (prE E y))], fun _ => True, 10, fun _ => rfl, ?_, fun _ _ => ?_⟩
              · (conv => whnf)
                constructor
                · intro h5
                  have h5 : near = false := h5
                  have h6 : nn = hasB B ((prE E y).getD (0 + (j : Int).toNat) eS) := by rw [hn1, h5, ej]; rfl
                  (conv => whnf)
                  refine ⟨by show (0 : Int) ≤ (j : Int); omega, by show (j : Int) < ((prE E y).length : Int); omega, ?_⟩
                  (conv => whnf)
                  refine ⟨by rw [ej]; exact h4, ?_⟩
                  (conv => whnf)
                  refine .inr ⟨((N, some p, c), B, (prE E y).getD (0 + (j : Int).toNat) eS, nn), [8], ⟨.inr ⟨p, pC, rfl, hpC⟩, hBl, h6.symm⟩, rfl, by (repeat' (first | exact True.intro | rfl | assumption | exact mc_ok rfl | exact mr_ok | exact fun _ => rfl | exact mt_keep _ _ | exact ms_ok | exact c_keep _ _ _ | (refine And.intro ?_ ?_) | (intro _ _; rfl) | ((conv => whnf); (first | exact True.intro | (refine And.intro ?_ ?_))))), by (repeat' (first | exact True.intro | rfl | assumption | exact mc_ok rfl | exact mr_ok | exact fun _ => rfl | exact mt_keep _ _ | exact ms_ok | exact c_keep _ _ _ | (refine And.intro ?_ ?_) | (intro _ _; rfl) | ((conv => whnf); (first | exact True.intro | (refine And.intro ?_ ?_))))), ?_⟩
                  (conv => whnf)
                  refine ⟨(), [some 1, some 2, some 3, some 4, some 5, some 6, some 7, some 8, some 9], trivial, ?_⟩
                  (repeat' (first | exact True.intro | rfl | assumption | exact mc_ok rfl | exact mr_ok | exact fun _ => rfl | exact mt_keep _ _ | exact ms_ok | exact c_keep _ _ _ | (refine And.intro ?_ ?_) | (intro _ _; rfl) | ((conv => whnf); (first | exact True.intro | (refine And.intro ?_ ?_)))))
                · intro h5
                  have h5 : near = true := h5
                  have h6 : true = nn := by rw [hn1, h5]; rfl
                  (conv => whnf)
                  refine ⟨(), [some 1, some 2, some 3, some 4, some 5, some 6, some 7, some 8, some 9], trivial, ?_⟩
                  (repeat' (first | exact True.intro | rfl | assumption | exact mc_ok rfl | exact mr_ok | exact fun _ => rfl | exact mt_keep _ _ | exact ms_ok | exact c_keep _ _ _ | (refine And.intro ?_ ?_) | (intro _ _; rfl) | ((conv => whnf); (first | exact True.intro | (refine And.intro ?_ ?_)))))
                  all_goals first | exact h6 | exact h6.symm
              · (conv => whnf)
                refine .inl ⟨Nat, fun x => [(3, .ptr 1 0), (7, .sl 6 0 1 Nd.length false), (8, i64 i), (9, .str a), (12, .sl 7 0 1 O.length false), (21, asS 8 (some p) B.length c), (22, i64 d), (23, i64 k), (24, .sl 9 0 1 (prE E y).length false), (25, .sb nn), (26, i64 j), (27, i64 x)], fun _ => some (fzO Z) :: (g3.all fun i => i + 1) ++ [some (stR Nd), some (loR 8 O), some (msO N), some (stR (prE E y))], fun x => O.length - x, fun x => x ≤ O.length, 10, ⟨0, [some 1, some 2, some 3, some 4, some 5, some 6, some 7, some 8, some 9], Nat.zero_le _, ?_⟩, fun _ => rfl, fun x hx => ?_⟩
                · (repeat' (first | exact True.intro | rfl | assumption | exact mc_ok rfl | exact mr_ok | exact fun _ => rfl | exact mt_keep _ _ | exact ms_ok | exact c_keep _ _ _ | (refine And.intro ?_ ?_) | (intro _ _; rfl) | ((conv => whnf); (first | exact True.intro | (refine And.intro ?_ ?_)))))
                have hx : x ≤ O.length := hx
                have ex := zero_add_toNat x
                have hfar := hLy.2 _ (mem_prE.1 hym2)
                have ew := wrap_id (n := (d : Int) - 1) (by omega) (by omega)
                (conv => whnf)
                constructor
                · intro h5
                  have h5 : x + 1 < d := by have h5 : (x : Int) < (d : Int) - 1 := by rw [← ew]; exact of_decide_eq_true h5
                                            omega
                  have hnf : hasB (O.getD (0 + (x : Int).toNat) lr0).2.1 ((prE E y).getD (0 + (j : Int).toNat) eS) = false := by
                    rw [ex, ej, ← hge x (by omega), Bool.eq_false_iff]
                    exact fun q => hfar.1 x h5 (hasB_iff.1 q)
                  refine exIt (hat x (by omega)) fun C5 hC5 => ?_
                  have hx5 := htot x (by omega)
                  (conv => whnf)
                  refine ⟨by show (0 : Int) ≤ (x : Int); omega, by show (x : Int) < (O.length : Int); omega, ?_⟩
                  (conv => whnf)
                  refine ⟨by rw [ex]; omega, ?_⟩
                  (conv => whnf)
                  refine ⟨by show (0 : Int) ≤ (j : Int); omega, by show (j : Int) < ((prE E y).length : Int); omega, ?_⟩
                  (conv => whnf)
                  refine ⟨by rw [ej]; exact h4, ?_⟩
                  (conv => whnf)
                  refine .inr ⟨((N, some (O.getD (0 + (x : Int).toNat) lr0).1, (O.getD (0 + (x : Int).toNat) lr0).2.2), (O.getD (0 + (x : Int).toNat) lr0).2.1, (prE E y).getD (0 + (j : Int).toNat) eS, false), [8], ⟨.inr ⟨_, C5, rfl, by rw [ex]; exact hC5⟩, by rw [ex]; exact hx5, hnf⟩, rfl, by (repeat' (first | exact True.intro | rfl | assumption | exact mc_ok rfl | exact mr_ok | exact fun _ => rfl | exact mt_keep _ _ | exact ms_ok | exact c_keep _ _ _ | (refine And.intro ?_ ?_) | (intro _ _; rfl) | ((conv => whnf); (first | exact True.intro | (refine And.intro ?_ ?_))))), by (repeat' (first | exact True.intro | rfl | assumption | exact mc_ok rfl | exact mr_ok | exact fun _ => rfl | exact mt_keep _ _ | exact ms_ok | exact c_keep _ _ _ | (refine And.intro ?_ ?_) | (intro _ _; rfl) | ((conv => whnf); (first | exact True.intro | (refine And.intro ?_ ?_))))), ?_⟩
                  (conv => whnf)
                  refine ⟨fun hh => Bool.noConfusion (show false = true from hh), fun _ => ?_⟩
                  (conv => whnf)
                  refine ⟨x + 1, [some 1, some 2, some 3, some 4, some 5, some 6, some 7, some 8, some 9], by show O.length - (x + 1) < O.length - x; omega, by show x + 1 ≤ O.length; omega, ?_⟩
                  (repeat' (first | exact True.intro | rfl | assumption | exact mc_ok rfl | exact mr_ok | exact fun _ => rfl | exact mt_keep _ _ | exact ms_ok | exact c_keep _ _ _ | (refine And.intro ?_ ?_) | (intro _ _; rfl) | ((conv => whnf); (first | exact True.intro | (refine And.intro ?_ ?_)))))
                  all_goals exact (wrap_inc (show x < O.length by omega) (by omega)).symm
                · intro h5
                  clear h5
                  (conv => whnf)
                  constructor
                  · intro h6
                    have h6 : 0 < d := by have h6 : (0 : Int) < (d : Int) := of_decide_eq_true h6; omega
                    have hpa : ¬ (prE E y).getD (0 + (j : Int).toNat) eS = a := by rw [ej]; exact hfar.2 h6
                    (conv => whnf)
                    refine ⟨by show (0 : Int) ≤ (j : Int); omega, by show (j : Int) < ((prE E y).length : Int); omega, ?_⟩
                    (conv => whnf)
                    refine ⟨by rw [ej]; exact h4, ?_⟩
                    (conv => whnf)
                    refine ⟨fun hh => absurd (of_decide_eq_true hh) hpa, fun _ => ?_⟩
                    (conv => whnf)
                    refine ⟨(j + 1, nn), [some 1, some 2, some 3, some 4, some 5, some 6, some 7, some 8, some 9], by show (prE E y).length - (j + 1) < (prE E y).length - j; omega, ⟨by show j + 1 ≤ (prE E y).length; omega, hnn⟩, ?_⟩
                    (repeat' (first | exact True.intro | rfl | assumption | exact mc_ok rfl | exact mr_ok | exact fun _ => rfl | exact mt_keep _ _ | exact ms_ok | exact c_keep _ _ _ | (refine And.intro ?_ ?_) | (intro _ _; rfl) | ((conv => whnf); (first | exact True.intro | (refine And.intro ?_ ?_)))))
                    all_goals exact (wrap_inc h4 (by omega)).symm
                  · intro h6
                    clear h6
                    (conv => whnf)
                    refine ⟨(j + 1, nn), [some 1, some 2, some 3, some 4, some 5, some 6, some 7, some 8, some 9], by show (prE E y).length - (j + 1) < (prE E y).length - j; omega, ⟨by show j + 1 ≤ (prE E y).length; omega, hnn⟩, ?_⟩
                    (repeat' (first | exact True.intro | rfl | assumption | exact mc_ok rfl | exact mr_ok | exact fun _ => rfl | exact mt_keep _ _ | exact ms_ok | exact c_keep _ _ _ | (refine And.intro ?_ ?_) | (intro _ _; rfl) | ((conv => whnf); (first | exact True.intro | (refine And.intro ?_ ?_)))))
                    all_goals exact (wrap_inc h4 (by omega)).symm
            · intro h4
              have h4 : ¬ j < (prE E y).length := by have : ¬ (j : Int) < ((prE E y).length : Int) := of_decide_eq_false h4; omega
              have hnt : near = true := by
                obtain ⟨pp, hpp, hpp2⟩ := hLy.1
                rw [hnear, List.take_of_length_le (by omega), List.any_eq_true]
                refine ⟨pp, mem_prE.2 hpp, hasB_iff.2 ?_⟩
                rw [hB]
                unfold befL
                split at hpp2
                · rename_i e0
                  rw [if_pos e0, hpp2]
                  exact List.mem_singleton.2 rfl
                · rename_i e0
                  rw [if_neg e0, ← hge (d - 1) (by omega)]
                  exact hpp2
              (conv => whnf)
              refine ⟨fun hh => (by first | exact t_no hnt hh | exact t_no2 hnt hh), fun _ => ?_⟩
              (conv => whnf)
              refine ⟨k + 1, [some 1, some 2, some 3, some 4, some 5, some 6, some 7, some 8], by show Ld.length - (k + 1) < Ld.length - k; omega, by show k + 1 ≤ Ld.length; omega, ?_⟩
              (repeat' (first | exact True.intro | rfl | assumption | exact mc_ok rfl | exact mr_ok | exact fun _ => rfl | exact mt_keep _ _ | exact ms_ok | exact c_keep _ _ _ | (refine And.intro ?_ ?_) | (intro _ _; rfl) | ((conv => whnf); (first | exact True.intro | (refine And.intro ?_ ?_)))))
              all_goals exact (wrap_inc h3 (by omega)).symm
          · intro h3
            have h3 : ¬ k < Ld.length := by have h3 : ¬ (k : Int) < ((O.getD (0 + (d : Int).toNat) lr0).2.1.length : Int) := of_decide_eq_false h3; rw [← hLd2] at h3; omega
            (conv => whnf)
            refine ⟨by show (0 : Int) ≤ (d : Int); omega, by show (d : Int) < (O.length : Int); omega, ?_⟩
            (conv => whnf)
            refine ⟨by rw [ed]; exact h2, ?_⟩
            (conv => whnf)
            have hbf : befL a O (d + 1) = (O.getD (0 + (d : Int).toNat) lr0).2.1 := by rw [hdd]; rfl
            refine ⟨(d + 1, (O.getD (0 + (d : Int).toNat) lr0).1, (O.getD (0 + (d : Int).toNat) lr0).2.2), [some 1, some 2, some 3, some 4, some 5, some 6, some 7, some 8], by show O.length - (d + 1) < O.length - d; omega, ⟨by show d + 1 ≤ O.length; omega, C2, by show N _ = some (befL a O (d + 1), C2); rw [hbf, ← hLd2, hdd]; exact hC2⟩, ?_⟩
            (repeat' (first | exact True.intro | rfl | assumption | exact mc_ok rfl | exact mr_ok | exact fun _ => rfl | exact mt_keep _ _ | exact ms_ok | exact c_keep _ _ _ | (refine And.intro ?_ ?_) | (intro _ _; rfl) | ((conv => whnf); (first | exact True.intro | (refine And.intro ?_ ?_)))))
            all_goals first | exact (wrap_inc h2 (by omega)).symm | exact congrArg List.length hbf
        · intro h2
          (conv => whnf)
          refine ⟨(i + 1, g3), [some 1, some 2, some 3, some 4, some 5, some 6], by show Nd.length - (i + 1) < Nd.length - i; omega, ⟨by show i + 1 ≤ Nd.length; omega, hG3'⟩, ?_⟩
          (repeat' (first | exact True.intro | rfl | assumption | exact mc_ok rfl | exact mr_ok | exact fun _ => rfl | exact mt_keep _ _ | exact ms_ok | exact c_keep _ _ _ | (refine And.intro ?_ ?_) | (intro _ _; rfl) | ((conv => whnf); (first | exact True.intro | (refine And.intro ?_ ?_)))))
          all_goals exact (wrap_inc h (by omega)).symm
    · intro h
      (conv => whnf)
      refine ⟨(), [], trivial, rfl, by (repeat' (first | exact True.intro | rfl | assumption | exact mc_ok rfl | exact mr_ok | exact fun _ => rfl | exact mt_keep _ _ | exact ms_ok | exact c_keep _ _ _ | (refine And.intro ?_ ?_) | (intro _ _; rfl) | ((conv => whnf); (first | exact True.intro | (refine And.intro ?_ ?_))))), by (repeat' (first | exact True.intro | rfl | assumption | exact mc_ok rfl | exact mr_ok | exact fun _ => rfl | exact mt_keep _ _ | exact ms_ok | exact c_keep _ _ _ | (refine And.intro ?_ ?_) | (intro _ _; rfl) | ((conv => whnf); (first | exact True.intro | (refine And.intro ?_ ?_))))), ?_⟩
      (conv => whnf)
      refine ⟨[], _, _, hQ, ?_⟩
      (repeat' (first | exact True.intro | rfl | assumption | exact mc_ok rfl | exact mr_ok | exact fun _ => rfl | exact mt_keep _ _ | exact ms_ok | exact c_keep _ _ _ | (refine And.intro ?_ ?_) | (intro _ _; rfl) | ((conv => whnf); (first | exact True.intro | (refine And.intro ?_ ?_)))))
end Go.Proofs.Ytddionboojdjlaa
