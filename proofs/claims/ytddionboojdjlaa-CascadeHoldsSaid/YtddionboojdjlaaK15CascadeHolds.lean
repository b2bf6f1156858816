/- One text out of 3. -/
import Derived.Test.YtddionboojdjlaaCaKnownR
import Derived.Test.YtddionboojdjlaaK9CascadeHolds
import Derived.Test.YtddionboojdjlaaSyCR
section
namespace Go.Proofs.Ytddionboojdjlaa
open Go Go.RowKit Sy Tb Gr
set_option maxRecDepth 100000
set_option maxHeartbeats 16000000

theorem flB_all (l : List Bs) : flB l l = [] := by
  unfold flB
  rw [List.filter_eq_nil_iff]
  intro x hx
  rw [hasB_iff.2 hx]
  exact Bool.false_ne_true
theorem flB_none (l : List Bs) : flB [] l = l := by
  unfold flB
  exact List.filter_eq_self.2 fun _ _ => rfl
theorem mkE_le {l : List Ed} {n : Nat} (h : l.length ≤ n) : (mkE l).length ≤ n := Nat.le_trans (mkE_len l) h
theorem few3_up {n m : Nat} {l : List Ed} (h : few3 n l) (hn : n ≤ m) : few3 m l := ⟨Nat.le_trans h.1 hn, h.2⟩
theorem nd_size {l : List Ed} {g : GG} {s : Int} (hG : MG 1000 1000 (mkE l) s g) {x : Bs} (hx : x ∈ ndK (mkE l)) : x.size ≤ 1000000 := by
  have := (validK_iff.1 (nodes_valid hG.valid hx)).2
  have : x.size ≤ 250 := this
  omega
theorem conTL : ConOk Try.prog (conOf [(8, SEdges3.T), (9, SKnown.T), (10, SMadeZ.T), (16, SRTombs.T), (15, fun a s K => SLTmZN.T a s K ∨ SLTmN0.T a s K ∨ SLTm0N.T a s K), (17, SRNodes.T)]) :=
  conOf_cons (LSpec.call SEdges3_nt SEdges3_ok) (conOf_cons (LSpec.call SKnown_nt SKnown_ok) (conOf_cons (LSpec.call SMadeZ_nt SMadeZ_ok) (conOf_cons (LSpec.call SRTombs_nt SRTombs_ok) (conOf_cons (orC (LSpec.call SLTmZN_nt SLTmZN_ok) (orC (LSpec.call SLTmN0_nt SLTmN0_ok) (LSpec.call SLTm0N_nt SLTm0N_ok))) (conOf_cons (LSpec.call SRNodes_nt SRNodes_ok) conOf_nil)))))
def STombsL : LSpec where
  X := (Nat → Option Obj) × (Option (Nat × Nat) × Nat × List Ed) × (Option (Nat × Nat) × Nat × List Bs)
  k := 1
  pre x := ZE x.1 x.2.1.1 x.2.1.2.2 ∧ ZS x.1 x.2.2.1 x.2.2.2.2 ∧ x.2.2.2.2.length ≤ x.2.2.2.1
  args x θ := [.zsl (θ 0) x.2.1.1 2 x.2.1.2.2.length x.2.1.2.1, .zsl (θ 0) x.2.2.1 1 x.2.2.2.2.length x.2.2.2.1]
  objs x _ := [fzO x.1]
  out x _ R := R (.sb true) [some (fzO x.1)]
theorem STombsL_top : STombsL.TopZ Try.prog 4 := by
  refine LSpec.topZ (md := false) [] noGo mixed conTL Try.func4 rfl (by kernel_rfl) fun ⟨Z, ⟨zp, zc, l⟩, ⟨tp, tc, L⟩⟩ R ⟨hz, ht, htc⟩ hR => ?_
  have hz : ZE Z zp l := hz
  have ht : ZS Z tp L := ht
  have htc : L.length ≤ tc := htc
  have hQ : R (.sb true) [some (fzO Z)] := hR
  (conv => whnf)
  refine ⟨(Z, zp, zc, l), [0], hz, rfl, by (repeat' (first | exact True.intro | rfl | assumption | exact mc_ok rfl | exact mr_ok | exact fun _ => rfl | exact mt_keep _ _ | exact ms_ok | exact c_keep _ _ _ | (refine And.intro ?_ ?_) | (intro _ _; rfl) | ((conv => whnf); (first | exact True.intro | (refine And.intro ?_ ?_))))), by (repeat' (first | exact True.intro | rfl | assumption | exact mc_ok rfl | exact mr_ok | exact fun _ => rfl | exact mt_keep _ _ | exact ms_ok | exact c_keep _ _ _ | (refine And.intro ?_ ?_) | (intro _ _; rfl) | ((conv => whnf); (first | exact True.intro | (refine And.intro ?_ ?_))))), fun bo hbo => ?_⟩
  have hbo : bo = true → few3 50 l := hbo
  (conv => whnf)
  constructor
  · intro h1
    have hf : few3 50 l := hbo (not_f h1)
    (conv => whnf)
    constructor
    · intro h2
      (conv => whnf)
      refine ⟨(), [], trivial, rfl, by (repeat' (first | exact True.intro | rfl | assumption | exact mc_ok rfl | exact mr_ok | exact fun _ => rfl | exact mt_keep _ _ | exact ms_ok | exact c_keep _ _ _ | (refine And.intro ?_ ?_) | (intro _ _; rfl) | ((conv => whnf); (first | exact True.intro | (refine And.intro ?_ ?_))))), by (repeat' (first | exact True.intro | rfl | assumption | exact mc_ok rfl | exact mr_ok | exact fun _ => rfl | exact mt_keep _ _ | exact ms_ok | exact c_keep _ _ _ | (refine And.intro ?_ ?_) | (intro _ _; rfl) | ((conv => whnf); (first | exact True.intro | (refine And.intro ?_ ?_))))), ?_⟩
      (conv => whnf)
      refine ⟨[], _, _, hQ, ?_⟩
      (repeat' (first | exact True.intro | rfl | assumption | exact mc_ok rfl | exact mr_ok | exact fun _ => rfl | exact mt_keep _ _ | exact ms_ok | exact c_keep _ _ _ | (refine And.intro ?_ ?_) | (intro _ _; rfl) | ((conv => whnf); (first | exact True.intro | (refine And.intro ?_ ?_)))))
    · intro h2
      have h2 : L.length ≤ 50 := by have : ¬ (50 : Int) < (L.length : Int) := of_decide_eq_false h2; omega
      (conv => whnf)
      refine .inl ⟨Nat, fun i => [(0, .zsl 0 zp 2 l.length zc), (1, .zsl 0 tp 1 L.length tc), (5, i64 i)], fun _ => [some (fzO Z)], fun i => L.length - i, fun i => i ≤ L.length, 1, ⟨0, [], Nat.zero_le _, ?_⟩, fun _ => rfl, fun i hi => ?_⟩
      · (repeat' (first | exact True.intro | rfl | assumption | exact mc_ok rfl | exact mr_ok | exact fun _ => rfl | exact mt_keep _ _ | exact ms_ok | exact c_keep _ _ _ | (refine And.intro ?_ ?_) | (intro _ _; rfl) | ((conv => whnf); (first | exact True.intro | (refine And.intro ?_ ?_)))))
      have hi : i ≤ L.length := hi
      (conv => whnf)
      constructor
      · intro h
        have h : i < L.length := by have : (i : Int) < (L.length : Int) := of_decide_eq_true h; omega
        obtain ⟨bb, oo, hpp, hat⟩ := ht.at_ h
        (conv => whnf)
        refine ⟨by show (0 : Int) ≤ (i : Int); omega, by show (i : Int) < (L.length : Int); omega, bb, oo, hpp, ?_⟩
        (conv => whnf)
        refine ⟨_, hat, ?_⟩
        (conv => whnf)
        constructor
        · intro h3
          (conv => whnf)
          refine ⟨(), [], trivial, rfl, by (repeat' (first | exact True.intro | rfl | assumption | exact mc_ok rfl | exact mr_ok | exact fun _ => rfl | exact mt_keep _ _ | exact ms_ok | exact c_keep _ _ _ | (refine And.intro ?_ ?_) | (intro _ _; rfl) | ((conv => whnf); (first | exact True.intro | (refine And.intro ?_ ?_))))), by (repeat' (first | exact True.intro | rfl | assumption | exact mc_ok rfl | exact mr_ok | exact fun _ => rfl | exact mt_keep _ _ | exact ms_ok | exact c_keep _ _ _ | (refine And.intro ?_ ?_) | (intro _ _; rfl) | ((conv => whnf); (first | exact True.intro | (refine And.intro ?_ ?_))))), ?_⟩
          (conv => whnf)
          refine ⟨[], _, _, hQ, ?_⟩
          (repeat' (first | exact True.intro | rfl | assumption | exact mc_ok rfl | exact mr_ok | exact fun _ => rfl | exact mt_keep _ _ | exact ms_ok | exact c_keep _ _ _ | (refine And.intro ?_ ?_) | (intro _ _; rfl) | ((conv => whnf); (first | exact True.intro | (refine And.intro ?_ ?_)))))
        · intro h3
          (conv => whnf)
          refine ⟨i + 1, [], by show L.length - (i + 1) < L.length - i; omega, by show i + 1 ≤ L.length; omega, ?_⟩
          (repeat' (first | exact True.intro | rfl | assumption | exact mc_ok rfl | exact mr_ok | exact fun _ => rfl | exact mt_keep _ _ | exact ms_ok | exact c_keep _ _ _ | (refine And.intro ?_ ?_) | (intro _ _; rfl) | ((conv => whnf); (first | exact True.intro | (refine And.intro ?_ ?_)))))
          all_goals exact (wrap_inc h (by omega)).symm
      · intro h
        (conv => whnf)
        refine ⟨(Z, zp, zc, l), [0], ⟨hz, few3_up hf (by omega)⟩, rfl, by (repeat' (first | exact True.intro | rfl | assumption | exact mc_ok rfl | exact mr_ok | exact fun _ => rfl | exact mt_keep _ _ | exact ms_ok | exact c_keep _ _ _ | (refine And.intro ?_ ?_) | (intro _ _; rfl) | ((conv => whnf); (first | exact True.intro | (refine And.intro ?_ ?_))))), by (repeat' (first | exact True.intro | rfl | assumption | exact mc_ok rfl | exact mr_ok | exact fun _ => rfl | exact mt_keep _ _ | exact ms_ok | exact c_keep _ _ _ | (refine And.intro ?_ ?_) | (intro _ _; rfl) | ((conv => whnf); (first | exact True.intro | (refine And.intro ?_ ?_))))), fun g hG => ?_⟩
        have hG : MG 1000 1000 (mkE l) 250 g := hG
        have hml : (mkE l).length ≤ 50 := mkE_le hf.1
        have hnl : (ndK (mkE l)).length ≤ 100 := by have := ndK_len (E := mkE l); omega
        (conv => whnf)
        refine ⟨((Z, tp, tc, L), (1000, 1000, mkE l)), [6, 0], ⟨⟨ht, htc⟩, by show L.length ≤ 1000000; omega, by show (mkE l).length ≤ 10000; omega⟩, rfl, by (repeat' (first | exact True.intro | rfl | assumption | exact mc_ok rfl | exact mr_ok | exact fun _ => rfl | exact mt_keep _ _ | exact ms_ok | exact c_keep _ _ _ | (refine And.intro ?_ ?_) | (intro _ _; rfl) | ((conv => whnf); (first | exact True.intro | (refine And.intro ?_ ?_))))), by (repeat' (first | exact True.intro | rfl | assumption | exact mc_ok rfl | exact mr_ok | exact fun _ => rfl | exact mt_keep _ _ | exact ms_ok | exact c_keep _ _ _ | (refine And.intro ?_ ?_) | (intro _ _; rfl) | ((conv => whnf); (first | exact True.intro | (refine And.intro ?_ ?_))))), ?_⟩
        (conv => whnf)
        refine .inl ⟨((g, mkE l, 250), (Z, tp, tc), L, flB L (ndK (mkE l))), [1, 2, 3, 4, 5, 0, 8], ⟨⟨hG, by show (mkE l).length ≤ 300; omega, by show (250 : Int) < 100000000; omega⟩, by show L.length ≤ 100000; omega, rfl, ht⟩, rfl, by (repeat' (first | exact True.intro | rfl | assumption | exact mc_ok rfl | exact mr_ok | exact fun _ => rfl | exact mt_keep _ _ | exact ms_ok | exact c_keep _ _ _ | (refine And.intro ?_ ?_) | (intro _ _; rfl) | ((conv => whnf); (first | exact True.intro | (refine And.intro ?_ ?_))))), by (repeat' (first | exact True.intro | rfl | assumption | exact mc_ok rfl | exact mr_ok | exact fun _ => rfl | exact mt_keep _ _ | exact ms_ok | exact c_keep _ _ _ | (refine And.intro ?_ ?_) | (intro _ _; rfl) | ((conv => whnf); (first | exact True.intro | (refine And.intro ?_ ?_))))), fun g1 hG1 => ?_⟩
        have hG1 : MG 1000 1000 (mkE l) 251 g1 := hG1
        (conv => whnf)
        refine ⟨fun _ => ?_, fun hh => Bool.noConfusion (show true = false from hh)⟩
        (conv => whnf)
        refine ⟨(1000, 1000, mkE l), [6], by show (mkE l).length ≤ 10000; omega, rfl, by (repeat' (first | exact True.intro | rfl | assumption | exact mc_ok rfl | exact mr_ok | exact fun _ => rfl | exact mt_keep _ _ | exact ms_ok | exact c_keep _ _ _ | (refine And.intro ?_ ?_) | (intro _ _; rfl) | ((conv => whnf); (first | exact True.intro | (refine And.intro ?_ ?_))))), by (repeat' (first | exact True.intro | rfl | assumption | exact mc_ok rfl | exact mr_ok | exact fun _ => rfl | exact mt_keep _ _ | exact ms_ok | exact c_keep _ _ _ | (refine And.intro ?_ ?_) | (intro _ _; rfl) | ((conv => whnf); (first | exact True.intro | (refine And.intro ?_ ?_))))), ?_⟩
        (conv => whnf)
        refine .inr (.inl ⟨((g1, mkE l, 251), ndK (mkE l), ndK (mkE l), []), [1, 2, 3, 4, 5, 9], ⟨⟨hG1, by show (mkE l).length ≤ 300; omega, by show (251 : Int) < 100000000; omega⟩, by show (ndK (mkE l)).length ≤ 100000; omega, flB_all _, List.prefix_rfl, rfl⟩, rfl, by (repeat' (first | exact True.intro | rfl | assumption | exact mc_ok rfl | exact mr_ok | exact fun _ => rfl | exact mt_keep _ _ | exact ms_ok | exact c_keep _ _ _ | (refine And.intro ?_ ?_) | (intro _ _; rfl) | ((conv => whnf); (first | exact True.intro | (refine And.intro ?_ ?_))))), by (repeat' (first | exact True.intro | rfl | assumption | exact mc_ok rfl | exact mr_ok | exact fun _ => rfl | exact mt_keep _ _ | exact ms_ok | exact c_keep _ _ _ | (refine And.intro ?_ ?_) | (intro _ _; rfl) | ((conv => whnf); (first | exact True.intro | (refine And.intro ?_ ?_))))), fun g2 hG2 => ?_⟩)
        have hG2 : MG 1000 1000 (mkE l) 252 g2 := hG2
        (conv => whnf)
        refine ⟨fun _ => ?_, fun hh => Bool.noConfusion (show true = false from hh)⟩
        (conv => whnf)
        refine ⟨(1000, 1000, mkE l), [6], by show (mkE l).length ≤ 10000; omega, rfl, by (repeat' (first | exact True.intro | rfl | assumption | exact mc_ok rfl | exact mr_ok | exact fun _ => rfl | exact mt_keep _ _ | exact ms_ok | exact c_keep _ _ _ | (refine And.intro ?_ ?_) | (intro _ _; rfl) | ((conv => whnf); (first | exact True.intro | (refine And.intro ?_ ?_))))), by (repeat' (first | exact True.intro | rfl | assumption | exact mc_ok rfl | exact mr_ok | exact fun _ => rfl | exact mt_keep _ _ | exact ms_ok | exact c_keep _ _ _ | (refine And.intro ?_ ?_) | (intro _ _; rfl) | ((conv => whnf); (first | exact True.intro | (refine And.intro ?_ ?_))))), ?_⟩
        (conv => whnf)
        refine .inr (.inr ⟨((g2, mkE l, 252), (), [], ndK (mkE l)), [1, 2, 3, 4, 5, 10], ⟨⟨hG2, by show (mkE l).length ≤ 300; omega, by show (252 : Int) < 100000000; omega⟩, Nat.zero_le _, flB_none _, rfl⟩, rfl, by (repeat' (first | exact True.intro | rfl | assumption | exact mc_ok rfl | exact mr_ok | exact fun _ => rfl | exact mt_keep _ _ | exact ms_ok | exact c_keep _ _ _ | (refine And.intro ?_ ?_) | (intro _ _; rfl) | ((conv => whnf); (first | exact True.intro | (refine And.intro ?_ ?_))))), by (repeat' (first | exact True.intro | rfl | assumption | exact mc_ok rfl | exact mr_ok | exact fun _ => rfl | exact mt_keep _ _ | exact ms_ok | exact c_keep _ _ _ | (refine And.intro ?_ ?_) | (intro _ _; rfl) | ((conv => whnf); (first | exact True.intro | (refine And.intro ?_ ?_))))), fun g3 hG3 => ?_⟩)
        (conv => whnf)
        refine ⟨fun _ => ?_, fun hh => Bool.noConfusion (show true = false from hh)⟩
        (conv => whnf)
        refine ⟨(), [], trivial, rfl, by (repeat' (first | exact True.intro | rfl | assumption | exact mc_ok rfl | exact mr_ok | exact fun _ => rfl | exact mt_keep _ _ | exact ms_ok | exact c_keep _ _ _ | (refine And.intro ?_ ?_) | (intro _ _; rfl) | ((conv => whnf); (first | exact True.intro | (refine And.intro ?_ ?_))))), by (repeat' (first | exact True.intro | rfl | assumption | exact mc_ok rfl | exact mr_ok | exact fun _ => rfl | exact mt_keep _ _ | exact ms_ok | exact c_keep _ _ _ | (refine And.intro ?_ ?_) | (intro _ _; rfl) | ((conv => whnf); (first | exact True.intro | (refine And.intro ?_ ?_))))), ?_⟩
        (conv => whnf)
        refine ⟨[], _, _, hQ, ?_⟩
        (repeat' (first | exact True.intro | rfl | assumption | exact mc_ok rfl | exact mr_ok | exact fun _ => rfl | exact mt_keep _ _ | exact ms_ok | exact c_keep _ _ _ | (refine And.intro ?_ ?_) | (intro _ _; rfl) | ((conv => whnf); (first | exact True.intro | (refine And.intro ?_ ?_)))))
  · intro h1
    (conv => whnf)
    refine ⟨(), [], trivial, rfl, by (repeat' (first | exact True.intro | rfl | assumption | exact mc_ok rfl | exact mr_ok | exact fun _ => rfl | exact mt_keep _ _ | exact ms_ok | exact c_keep _ _ _ | (refine And.intro ?_ ?_) | (intro _ _; rfl) | ((conv => whnf); (first | exact True.intro | (refine And.intro ?_ ?_))))), by (repeat' (first | exact True.intro | rfl | assumption | exact mc_ok rfl | exact mr_ok | exact fun _ => rfl | exact mt_keep _ _ | exact ms_ok | exact c_keep _ _ _ | (refine And.intro ?_ ?_) | (intro _ _; rfl) | ((conv => whnf); (first | exact True.intro | (refine And.intro ?_ ?_))))), ?_⟩
    (conv => whnf)
    refine ⟨[], _, _, hQ, ?_⟩
    (repeat' (first | exact True.intro | rfl | assumption | exact mc_ok rfl | exact mr_ok | exact fun _ => rfl | exact mt_keep _ _ | exact ms_ok | exact c_keep _ _ _ | (refine And.intro ?_ ?_) | (intro _ _; rfl) | ((conv => whnf); (first | exact True.intro | (refine And.intro ?_ ?_)))))
end Go.Proofs.Ytddionboojdjlaa
end
section
namespace Go.Proofs.Ytddionboojdjlaa
set_option maxRecDepth 100000
open Go Go.RowKit Go.ChangeShapes Go.WideShapes Go.Deep Sy Tb Gr

set_option maxRecDepth 100000 in
theorem edge_of {H : Type} {enc : TypeId × Value → H} {W : World} {spare : Nat → Bool} {held : Bool} (a : Addr) (y : DataW H × List MemPlace) (n : Nat)
    (h : (W.cells? 0 a 2).bind (DataW.trod enc Try.prog W 0 spare held n 43) = some y) :
    ∃ (x : Ed) (l : List Value), W.cells? 0 a 2 = some l ∧ czl emptyR [.str x.1, .str x.2] = some l := by
  obtain ⟨cs, hcs, htr⟩ := Option.bind_eq_some_iff.1 h
  obtain ⟨xs, m, _, _, hl, hlen, hfs⟩ := DataW.trod_struct Try.underlying43 htr
  have hl4 : cs.length = 2 := hl.trans (by kernel_rfl)
  match cs, hl4 with
  | [c0, c1], _ =>
    match xs, hlen with
    | [y0, y1], _ =>
      have k0 : DataW.trod enc Try.prog W 0 spare held m 9 [c0] = some y0 := by
        have := hfs 0 _ rfl
        simpa [show Try.prog.cellsOf 9 = 1 from by kernel_rfl] using this
      have k1 : DataW.trod enc Try.prog W 0 spare held m 9 [c1] = some y1 := by
        have := hfs 1 _ rfl
        simpa [show Try.prog.cellsOf 9 = 1 from by kernel_rfl] using this
      obtain ⟨m0, e0, _, _⟩ := DataW.trod_string Try.underlying9 k0
      obtain ⟨m1, e1, _, _⟩ := DataW.trod_string Try.underlying9 k1
      simp at e0 e1
      subst e0 e1
      exact ⟨(m0, m1), _, hcs, rfl⟩
theorem edges_of {H : Type} {enc : TypeId × Value → H} {W : World} {spare : Nat → Bool} {held : Bool} {r : Reach} {b0 : Nat} {v : Value} {d : DataW H} {p : List MemPlace} (hv : Value.okWide Try.prog W r b0 22 v) (h : DataW.Trod enc Try.prog W 0 spare held 22 v d p) :
    ∃ l : List Ed, Nonempty (RoArg W v l.length (fun j => [.str (l.getD j e00).1, .str (l.getD j e00).2]) 2) := by
  obtain ⟨n, A, _, ⟨h⟩⟩ := roArg_of e00 (fun x : Ed => [.str x.1, .str x.2]) (sz := 2) Try.underlying22 (by kernel_rfl) (fun a y m h => edge_of a y m h) hv h
  obtain ⟨l, _, h⟩ := RoArg.list (F := fun x : Ed => ([.str x.1, .str x.2] : List V)) (A := A) e00 h
  exact ⟨l, h⟩
theorem ed_ok (l : List Ed) : RowOk l.length (fun j => [.str (l.getD j e00).1, .str (l.getD j e00).2]) 2 := fun _ _ => ⟨rfl, rfl⟩
end Go.Proofs.Ytddionboojdjlaa
end
section
namespace Go.Proofs.Ytddionboojdjlaa
set_option maxRecDepth 100000
open Go Go.RowKit Go.ChangeShapes Go.WideShapes Go.Deep Sy Tb Gr

theorem str_of {H : Type} {enc : TypeId × Value → H} {W : World} {spare : Nat → Bool} {held : Bool} (a : Addr) (y : DataW H × List MemPlace) (n : Nat)
    (h : (W.cells? 0 a 1).bind (DataW.trod enc Try.prog W 0 spare held n 9) = some y) :
    ∃ (x : Bs) (l : List Value), W.cells? 0 a 1 = some l ∧ czl emptyR [.str x] = some l := by
  obtain ⟨cs, hcs, htr⟩ := Option.bind_eq_some_iff.1 h
  obtain ⟨m0, e0, _, _⟩ := DataW.trod_string Try.underlying9 htr
  subst e0
  exact ⟨m0, _, hcs, rfl⟩
theorem strs_of {H : Type} {enc : TypeId × Value → H} {W : World} {spare : Nat → Bool} {held : Bool} {r : Reach} {b0 : Nat} {v : Value} {d : DataW H} {p : List MemPlace} (hv : Value.okWide Try.prog W r b0 23 v) (h : DataW.Trod enc Try.prog W 0 spare held 23 v d p) :
    ∃ l : List Bs, Nonempty (RoArg W v l.length (fun j => [.str (l.getD j eS)]) 1) := by
  obtain ⟨n, A, _, ⟨h⟩⟩ := roArg_of eS (fun x : Bs => [.str x]) (sz := 1) Try.underlying23 (by kernel_rfl) (fun a y m h => str_of a y m h) hv h
  obtain ⟨l, _, h⟩ := RoArg.list (F := fun x : Bs => ([.str x] : List V)) (A := A) eS h
  exact ⟨l, h⟩
theorem lTombs (l : List Ed) (L : List Bs) (W : World) (v v' : Value) (h : Nonempty (RoArg W v l.length (fun j => [.str (l.getD j e00).1, .str (l.getD j e00).2]) 2)) (h' : Nonempty (RoArg W v' L.length (fun j => [.str (L.getD j eS)]) 1)) :
    Calls Try.prog 4 #[v, v'] W fun e w' => e = .returned (.bool true) ∧ Below W.heap.size W w' := by
  obtain ⟨h⟩ := h
  obtain ⟨h'⟩ := h'
  obtain ⟨p, c, hc, _, hz⟩ := h.fz (by decide) (ed_ok l)
  obtain ⟨p', c', hc', hle, hz'⟩ := h'.fz (by decide) (fun _ _ => ⟨rfl, rfl⟩)
  refine STombsL_top W (_, (p, c, l), (p', c', L)) ⟨hz, hz', hle⟩ rfl ⟨rfl, rfl⟩ [v, v'] ?_
  show czl _ [V.zsl 0 p 2 l.length c, V.zsl 0 p' 1 L.length c'] = some [v, v']
  simp only [czl, hc, hc']
end Go.Proofs.Ytddionboojdjlaa
end
