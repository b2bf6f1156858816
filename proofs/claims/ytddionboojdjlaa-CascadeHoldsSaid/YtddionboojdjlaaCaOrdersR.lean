/- The law CascadeOrders. -/
import Derived.Test.YtddionboojdjlaaK15CascadeHolds
namespace Go.Proofs.Ytddionboojdjlaa
open Go Go.RowKit Sy Tb Gr
set_option maxRecDepth 100000
set_option maxHeartbeats 16000000

theorem sorted_sub (E : List Ed) : ∀ x ∈ sortedE E, x ∈ ndK E := by
  have : ∀ (f : Nat) (out : List Bs), (∀ x ∈ out, x ∈ ndK E) → ∀ x ∈ topo E f out, x ∈ ndK E := by
    intro f
    induction f with
    | zero => intro out h; exact h
    | succ f ih =>
      intro out h
      cases e : nextE E out with
      | none => rw [topo_none e]; exact h
      | some y =>
        rw [topo_some e]
        refine ih _ fun x hx => ?_
        rcases List.mem_append.1 hx with q | q
        · exact h x q
        · rw [List.mem_singleton] at q
          subst q
          exact (nextE_some e).1
  exact this _ [] fun _ h => absurd h List.not_mem_nil
/-- All come, each after its parents. -/
theorem topo_full {E : List Ed} (hac : Ac E) : ∀ (n : Nat) (out : List Bs), TI E out → (ndK E).length - out.length = n → TI E (sortedE E) ∧ (sortedE E).length = (ndK E).length := by
  intro n
  induction n with
  | zero =>
    intro out h hn
    have e := h.full (by omega)
    rw [← e]
    exact ⟨h, by have := h.len; omega⟩
  | succ n ih =>
    intro out h hn
    obtain ⟨y, hy⟩ := TI.more hac (E := E) (out := out) (by omega)
    exact ih _ (h.next hy) (by rw [List.length_append, List.length_singleton]; omega)
theorem topo_ti {E : List Ed} (hac : Ac E) : TI E (sortedE E) ∧ (sortedE E).length = (ndK E).length := topo_full hac _ [] TI.zero rfl
/-- Each one is free when it comes. -/
def FreeIn (E : List Ed) (out : List Bs) : Prop := ∀ i, i < out.length → ∀ p, (p, out.getD i eS) ∈ E → p ∈ out.take i
theorem topo_free {E : List Ed} : ∀ (f : Nat) (out : List Bs), FreeIn E out → FreeIn E (topo E f out) := by
  intro f
  induction f with
  | zero => intro out h; exact h
  | succ f ih =>
    intro out h
    cases e : nextE E out with
    | none => rw [topo_none e]; exact h
    | some y =>
      rw [topo_some e]
      refine ih _ fun i hi p hp => ?_
      rw [List.length_append, List.length_singleton] at hi
      rcases Nat.lt_or_ge i out.length with q | q
      · rw [List.getD_eq_getElem?_getD, List.getElem?_append_left q, ← List.getD_eq_getElem?_getD] at hp
        rw [List.take_append_of_le_length (by omega)]
        exact h i q p hp
      · obtain rfl : i = out.length := by omega
        rw [List.getD_eq_getElem?_getD, List.getElem?_append_right (Nat.le_refl _), Nat.sub_self] at hp
        rw [List.take_left' rfl]
        exact (nextE_some e).2.2 p hp
theorem sorted_chk {E : List Ed} (hac : Ac E) : chkK E (sortedE E) = -1 := by
  obtain ⟨hT, hl⟩ := topo_ti hac
  have hf : FreeIn E (sortedE E) := topo_free _ [] fun i hi => absurd hi (Nat.not_lt_zero i)
  rw [chk_end fun j hj => ?_, if_neg (by omega)]
  have e : (sortedE E).getD j ByteArray.empty = (sortedE E)[j] := by rw [List.getD_eq_getElem?_getD, List.getElem?_eq_getElem hj]; rfl
  unfold badAt
  rw [show hasB (ndK E) ((sortedE E).getD j ByteArray.empty) = true from hasB_iff.2 (by rw [e]; exact hT.sub _ (List.getElem_mem hj))]
  rw [show freeB E ((sortedE E).getD j ByteArray.empty) ((sortedE E).take j) = true from freeB_iff.2 fun p hp => hf j hj p hp]
  have : hasB ((sortedE E).take j) ((sortedE E).getD j ByteArray.empty) = false := by
    cases h : hasB ((sortedE E).take j) ((sortedE E).getD j ByteArray.empty) with
    | false => rfl
    | true =>
      exfalso
      have hm := hasB_iff.1 h
      rw [e] at hm
      obtain ⟨q, hq, e2⟩ := List.getElem_of_mem hm
      rw [List.length_take] at hq
      rw [List.getElem_take] at e2
      have := (List.getElem_inj (h₀ := by omega) (h₁ := hj) hT.nd).1 e2
      omega
  rw [this]
  rfl
theorem sz_keys {L : List Bs} (h1 : L.length ≤ 50) (h2 : ∀ j, j < L.length → (L.getD j eS).size ≤ 300) : szL L := ⟨by omega, fun k hk => by
  obtain ⟨j, hj, e⟩ := List.getElem_of_mem hk
  have := h2 j hj
  rw [List.getD_eq_getElem?_getD, List.getElem?_eq_getElem hj, Option.getD_some, e] at this
  omega⟩
theorem conOL : ConOk Try.prog (conOf [(8, SEdges3.T), (9, SKnown.T), (10, SMadeZ.T), (11, SRSortE.T), (12, SLSorted.T), (13, fun a s K => SLChkN.T a s K ∨ SLChkZ.T a s K), (14, fun a s K => SRChkN.T a s K ∨ SRChkZ.T a s K)]) :=
  conOf_cons (LSpec.call SEdges3_nt SEdges3_ok) (conOf_cons (LSpec.call SKnown_nt SKnown_ok) (conOf_cons (LSpec.call SMadeZ_nt SMadeZ_ok) (conOf_cons (LSpec.call SRSortE_nt SRSortE_ok) (conOf_cons (LSpec.call SLSorted_nt SLSorted_ok) (conOf_cons (orC (LSpec.call SLChkN_nt SLChkN_ok) (LSpec.call SLChkZ_nt SLChkZ_ok)) (conOf_cons (orC (LSpec.call SRChkN_nt SRChkN_ok) (LSpec.call SRChkZ_nt SRChkZ_ok)) conOf_nil))))))
theorem tmod_nat {u : Int} {n : Nat} (hn : 0 < n) (h0 : 0 ≤ u) (h1 : u < 1000000) : ∃ a : Nat, (IntKind.i64.wrap u).tmod (n : Int) = (a : Int) ∧ a < n := by
  rw [wrap_id (by omega) (by omega)]
  have h2 := Int.tmod_nonneg (n : Int) h0
  have h3 := Int.tmod_lt_of_pos u (show (0 : Int) < (n : Int) by omega)
  exact ⟨(u.tmod (n : Int)).toNat, by omega, by omega⟩
def u8v (n : Int) : V := .int .u8 n
def SOrdersL : LSpec where
  X := (Nat → Option Obj) × (Option (Nat × Nat) × Nat × List Ed) × (Option (Nat × Nat) × Nat × List Bs) × Int × Int
  k := 1
  pre x := ZE x.1 x.2.1.1 x.2.1.2.2 ∧ (ZS x.1 x.2.2.1.1 x.2.2.1.2.2 ∧ x.2.2.1.2.2.length ≤ x.2.2.1.2.1) ∧ (0 ≤ x.2.2.2.1 ∧ x.2.2.2.1 < 256) ∧ (0 ≤ x.2.2.2.2 ∧ x.2.2.2.2 < 256)
  args x θ := [.zsl (θ 0) x.2.1.1 2 x.2.1.2.2.length x.2.1.2.1, .zsl (θ 0) x.2.2.1.1 1 x.2.2.1.2.2.length x.2.2.1.2.1, u8v x.2.2.2.1, u8v x.2.2.2.2]
  objs x _ := [fzO x.1]
  out x _ R := R (.sb true) [some (fzO x.1)]
theorem SOrdersL_top : SOrdersL.TopZ Try.prog 3 := by
  refine LSpec.topZ (md := false) [] noGo mixed conOL Try.func3 rfl (by kernel_rfl) fun ⟨Z, ⟨zp, zc, l⟩, ⟨tp, tc, L⟩, ui, uk⟩ R ⟨hz, ⟨ht, htc⟩, hui, huk⟩ hR => ?_
  have hz : ZE Z zp l := hz
  have ht : ZS Z tp L := ht
  have htc : L.length ≤ tc := htc
  have hui : 0 ≤ ui ∧ ui < 256 := hui
  have huk : 0 ≤ uk ∧ uk < 256 := huk
  have hQ : R (.sb true) [some (fzO Z)] := hR
  (conv => whnf)
  refine ⟨(Z, zp, zc, l), [0], hz, rfl, by (repeat' (first | exact True.intro | rfl | assumption | exact mc_ok rfl | exact mr_ok | exact fun _ => rfl | exact mt_keep _ _ | exact ms_ok | exact c_keep _ _ _ | (refine And.intro ?_ ?_) | (intro _ _; rfl) | ((conv => whnf); (first | exact True.intro | (refine And.intro ?_ ?_))))), by (repeat' (first | exact True.intro | rfl | assumption | exact mc_ok rfl | exact mr_ok | exact fun _ => rfl | exact mt_keep _ _ | exact ms_ok | exact c_keep _ _ _ | (refine And.intro ?_ ?_) | (intro _ _; rfl) | ((conv => whnf); (first | exact True.intro | (refine And.intro ?_ ?_))))), fun bo hbo => ?_⟩
  have hbo : bo = true → few3 50 l := hbo
  (conv => whnf)
  constructor
  · intro h1
    have hf : few3 50 l := hbo (not_f h1)
    (conv => whnf)
    constructor
    · intro h2
      (conv => whnf)
      refine ⟨(), [], trivial, rfl, by (repeat' (first | exact True.intro | rfl | assumption | exact mc_ok rfl | exact mr_ok | exact fun _ => rfl | exact mt_keep _ _ | exact ms_ok | exact c_keep _ _ _ | (refine And.intro ?_ ?_) | (intro _ _; rfl) | ((conv => whnf); (first | exact True.intro | (refine And.intro ?_ ?_))))), by (repeat' (first | exact True.intro | rfl | assumption | exact mc_ok rfl | exact mr_ok | exact fun _ => rfl | exact mt_keep _ _ | exact ms_ok | exact c_keep _ _ _ | (refine And.intro ?_ ?_) | (intro _ _; rfl) | ((conv => whnf); (first | exact True.intro | (refine And.intro ?_ ?_))))), ?_⟩
      (conv => whnf)
      refine ⟨[], _, _, hQ, ?_⟩
      (repeat' (first | exact True.intro | rfl | assumption | exact mc_ok rfl | exact mr_ok | exact fun _ => rfl | exact mt_keep _ _ | exact ms_ok | exact c_keep _ _ _ | (refine And.intro ?_ ?_) | (intro _ _; rfl) | ((conv => whnf); (first | exact True.intro | (refine And.intro ?_ ?_)))))
    · intro h2
      have h2 : L.length ≤ 50 := by have : ¬ (50 : Int) < (L.length : Int) := of_decide_eq_false h2; omega
      (conv => whnf)
      refine .inl ⟨Nat, fun i => [(0, .zsl 0 zp 2 l.length zc), (1, .zsl 0 tp 1 L.length tc), (2, u8v ui), (3, u8v uk), (9, i64 i)], fun _ => [some (fzO Z)], fun i => L.length - i, fun i => i ≤ L.length ∧ ∀ j, j < i → (L.getD j eS).size ≤ 300, 1, ⟨0, [], ⟨Nat.zero_le _, fun j hj => absurd hj (Nat.not_lt_zero j)⟩, ?_⟩, fun _ => rfl, fun i ⟨hi, hb⟩ => ?_⟩
      · (repeat' (first | exact True.intro | rfl | assumption | exact mc_ok rfl | exact mr_ok | exact fun _ => rfl | exact mt_keep _ _ | exact ms_ok | exact c_keep _ _ _ | (refine And.intro ?_ ?_) | (intro _ _; rfl) | ((conv => whnf); (first | exact True.intro | (refine And.intro ?_ ?_)))))
      have hi : i ≤ L.length := hi
      have hb : ∀ j, j < i → (L.getD j eS).size ≤ 300 := hb
      (conv => whnf)
      constructor
      · intro h
        have h : i < L.length := by have : (i : Int) < (L.length : Int) := of_decide_eq_true h; omega
        obtain ⟨bb, oo, hpp, hat⟩ := ht.at_ h
        (conv => whnf)
        refine ⟨by show (0 : Int) ≤ (i : Int); omega, by show (i : Int) < (L.length : Int); omega, bb, oo, hpp, ?_⟩
        (conv => whnf)
        refine ⟨_, hat, ?_⟩
        (conv => whnf)
        constructor
        · intro h3
          (conv => whnf)
          refine ⟨(), [], trivial, rfl, by (repeat' (first | exact True.intro | rfl | assumption | exact mc_ok rfl | exact mr_ok | exact fun _ => rfl | exact mt_keep _ _ | exact ms_ok | exact c_keep _ _ _ | (refine And.intro ?_ ?_) | (intro _ _; rfl) | ((conv => whnf); (first | exact True.intro | (refine And.intro ?_ ?_))))), by (repeat' (first | exact True.intro | rfl | assumption | exact mc_ok rfl | exact mr_ok | exact fun _ => rfl | exact mt_keep _ _ | exact ms_ok | exact c_keep _ _ _ | (refine And.intro ?_ ?_) | (intro _ _; rfl) | ((conv => whnf); (first | exact True.intro | (refine And.intro ?_ ?_))))), ?_⟩
          (conv => whnf)
          refine ⟨[], _, _, hQ, ?_⟩
          (repeat' (first | exact True.intro | rfl | assumption | exact mc_ok rfl | exact mr_ok | exact fun _ => rfl | exact mt_keep _ _ | exact ms_ok | exact c_keep _ _ _ | (refine And.intro ?_ ?_) | (intro _ _; rfl) | ((conv => whnf); (first | exact True.intro | (refine And.intro ?_ ?_)))))
        · intro h3
          have h3 : ¬ (300 : Int) < ((L.getD i eS).size : Int) := of_decide_eq_false h3
          (conv => whnf)
          refine ⟨i + 1, [], by show L.length - (i + 1) < L.length - i; omega, ⟨by show i + 1 ≤ L.length; omega, fun j hj => ?_⟩, ?_⟩
          · rcases Nat.lt_or_ge j i with q | q
            · exact hb j q
            · obtain rfl : j = i := by have : j < i + 1 := hj; omega
              omega
          (repeat' (first | exact True.intro | rfl | assumption | exact mc_ok rfl | exact mr_ok | exact fun _ => rfl | exact mt_keep _ _ | exact ms_ok | exact c_keep _ _ _ | (refine And.intro ?_ ?_) | (intro _ _; rfl) | ((conv => whnf); (first | exact True.intro | (refine And.intro ?_ ?_)))))
          all_goals exact (wrap_inc h (by omega)).symm
      · intro h
        have h : ¬ i < L.length := by have : ¬ (i : Int) < (L.length : Int) := of_decide_eq_false h; omega
        have hsL : szL L := sz_keys h2 fun j hj => hb j (by omega)
        have hml : (mkE l).length ≤ 50 := mkE_le hf.1
        have hac : Ac (mkE l) := mkE_ac l (by have := hf.1; omega)
        have hnl : (ndK (mkE l)).length ≤ 100 := by have := ndK_len (E := mkE l); omega
        have hsl : (sortedE (mkE l)).length ≤ 100 := by rw [(topo_ti hac).2]; exact hnl
        have hsc := sorted_chk hac
        (conv => whnf)
        refine ⟨(Z, zp, zc, l), [0], ⟨hz, few3_up hf (by omega)⟩, rfl, by (repeat' (first | exact True.intro | rfl | assumption | exact mc_ok rfl | exact mr_ok | exact fun _ => rfl | exact mt_keep _ _ | exact ms_ok | exact c_keep _ _ _ | (refine And.intro ?_ ?_) | (intro _ _; rfl) | ((conv => whnf); (first | exact True.intro | (refine And.intro ?_ ?_))))), by (repeat' (first | exact True.intro | rfl | assumption | exact mc_ok rfl | exact mr_ok | exact fun _ => rfl | exact mt_keep _ _ | exact ms_ok | exact c_keep _ _ _ | (refine And.intro ?_ ?_) | (intro _ _; rfl) | ((conv => whnf); (first | exact True.intro | (refine And.intro ?_ ?_))))), fun g hG => ?_⟩
        have hG : MG 1000 1000 (mkE l) 250 g := hG
        have hsS : szL (sortedE (mkE l)) := ⟨by omega, fun x hx => nd_size hG (sorted_sub _ x hx)⟩
        (conv => whnf)
        refine ⟨(1000, 1000, mkE l), [6], ⟨by show (mkE l).length ≤ 10000; omega, hac⟩, rfl, by (repeat' (first | exact True.intro | rfl | assumption | exact mc_ok rfl | exact mr_ok | exact fun _ => rfl | exact mt_keep _ _ | exact ms_ok | exact c_keep _ _ _ | (refine And.intro ?_ ?_) | (intro _ _; rfl) | ((conv => whnf); (first | exact True.intro | (refine And.intro ?_ ?_))))), by (repeat' (first | exact True.intro | rfl | assumption | exact mc_ok rfl | exact mr_ok | exact fun _ => rfl | exact mt_keep _ _ | exact ms_ok | exact c_keep _ _ _ | (refine And.intro ?_ ?_) | (intro _ _; rfl) | ((conv => whnf); (first | exact True.intro | (refine And.intro ?_ ?_))))), ?_⟩
        obtain ⟨all, hall⟩ : ∃ all, all = sortedE (mkE l) := ⟨_, rfl⟩
        rw [← hall] at hsl hsc hsS
        (conv => whnf)
        refine ⟨((g, mkE l, 250), all), [1, 2, 3, 4, 5, 8], ⟨⟨hG, by show (mkE l).length ≤ 300; omega, by show (250 : Int) < 100000000; omega⟩, hall.symm⟩, rfl, ?_, ?_, fun g1 hG1 => ?_⟩
        · rw [hall]
          (repeat' (first | exact True.intro | rfl | assumption | exact mc_ok rfl | exact mr_ok | exact fun _ => rfl | exact mt_keep _ _ | exact ms_ok | exact c_keep _ _ _ | (refine And.intro ?_ ?_) | (intro _ _; rfl) | ((conv => whnf); (first | exact True.intro | (refine And.intro ?_ ?_)))))
        · rw [hall]
          (repeat' (first | exact True.intro | rfl | assumption | exact mc_ok rfl | exact mr_ok | exact fun _ => rfl | exact mt_keep _ _ | exact ms_ok | exact c_keep _ _ _ | (refine And.intro ?_ ?_) | (intro _ _; rfl) | ((conv => whnf); (first | exact True.intro | (refine And.intro ?_ ?_)))))
        have hG1 : MG 1000 1000 (mkE l) 251 g1 := hG1
        rw [← hall]
        (conv => whnf)
        refine ⟨fun _ => ?_, fun hh => Bool.noConfusion (show (!true) = true from hh)⟩
        (conv => whnf)
        refine .inl ⟨((g1, mkE l, 251), -1, all, all), [1, 2, 3, 4, 5, 8], ⟨⟨hG1, by show (mkE l).length ≤ 300; omega, by show (251 : Int) < 100000000; omega⟩, hsS, hsc, List.prefix_rfl⟩, rfl, ?_, ?_, fun g2 hG2 => ?_⟩
        · rw [hall]
          (repeat' (first | exact True.intro | rfl | assumption | exact mc_ok rfl | exact mr_ok | exact fun _ => rfl | exact mt_keep _ _ | exact ms_ok | exact c_keep _ _ _ | (refine And.intro ?_ ?_) | (intro _ _; rfl) | ((conv => whnf); (first | exact True.intro | (refine And.intro ?_ ?_)))))
        · rw [hall]
          (repeat' (first | exact True.intro | rfl | assumption | exact mc_ok rfl | exact mr_ok | exact fun _ => rfl | exact mt_keep _ _ | exact ms_ok | exact c_keep _ _ _ | (refine And.intro ?_ ?_) | (intro _ _; rfl) | ((conv => whnf); (first | exact True.intro | (refine And.intro ?_ ?_)))))
        have hG2 : MG 1000 1000 (mkE l) 252 g2 := hG2
        (conv => whnf)
        refine ⟨fun _ => ?_, fun hh => Bool.noConfusion (show (!true) = true from hh)⟩
        (conv => whnf)
        refine .inr ⟨((Z, tp, tc, L), (1000, 1000, mkE l)), [6, 0], ⟨⟨ht, htc⟩, by show L.length ≤ 100000; omega, by show (mkE l).length ≤ 10000; omega⟩, rfl, by (repeat' (first | exact True.intro | rfl | assumption | exact mc_ok rfl | exact mr_ok | exact fun _ => rfl | exact mt_keep _ _ | exact ms_ok | exact c_keep _ _ _ | (refine And.intro ?_ ?_) | (intro _ _; rfl) | ((conv => whnf); (first | exact True.intro | (refine And.intro ?_ ?_))))), by (repeat' (first | exact True.intro | rfl | assumption | exact mc_ok rfl | exact mr_ok | exact fun _ => rfl | exact mt_keep _ _ | exact ms_ok | exact c_keep _ _ _ | (refine And.intro ?_ ?_) | (intro _ _; rfl) | ((conv => whnf); (first | exact True.intro | (refine And.intro ?_ ?_))))), ?_⟩
        (conv => whnf)
        refine .inr ⟨((g2, mkE l, 252), chkK (mkE l) L, (Z, tp, tc), L), [1, 2, 3, 4, 5, 0], ⟨⟨hG2, by show (mkE l).length ≤ 300; omega, by show (252 : Int) < 100000000; omega⟩, hsL, rfl, ht⟩, rfl, by (repeat' (first | exact True.intro | rfl | assumption | exact mc_ok rfl | exact mr_ok | exact fun _ => rfl | exact mt_keep _ _ | exact ms_ok | exact c_keep _ _ _ | (refine And.intro ?_ ?_) | (intro _ _; rfl) | ((conv => whnf); (first | exact True.intro | (refine And.intro ?_ ?_))))), by (repeat' (first | exact True.intro | rfl | assumption | exact mc_ok rfl | exact mr_ok | exact fun _ => rfl | exact mt_keep _ _ | exact ms_ok | exact c_keep _ _ _ | (refine And.intro ?_ ?_) | (intro _ _; rfl) | ((conv => whnf); (first | exact True.intro | (refine And.intro ?_ ?_))))), fun g3 hG3 => ?_⟩
        have hG3 : MG 1000 1000 (mkE l) 253 g3 := hG3
        (conv => whnf)
        refine ⟨fun hh => Bool.noConfusion (show (!true) = true from hh), fun _ => ?_⟩
        (conv => whnf)
        constructor
        · intro h4
          have h4 : 0 < all.length := by have : (0 : Int) < (all.length : Int) := of_decide_eq_true h4; omega
          obtain ⟨a, ha, han⟩ := tmod_nat (u := ui) h4 hui.1 (by omega)
          obtain ⟨b, hb2, hbn⟩ := tmod_nat (u := uk) h4 huk.1 (by omega)
          have eA : 0 + ((IntKind.i64.wrap ui).tmod (all.length : Int)).toNat = a := by rw [ha]; omega
          have eB : 0 + ((IntKind.i64.wrap uk).tmod (all.length : Int)).toNat = b := by rw [hb2]; omega
          have bA : 0 ≤ (IntKind.i64.wrap ui).tmod (all.length : Int) ∧ (IntKind.i64.wrap ui).tmod (all.length : Int) < (all.length : Int) := by rw [ha]; omega
          have bB : 0 ≤ (IntKind.i64.wrap uk).tmod (all.length : Int) ∧ (IntKind.i64.wrap uk).tmod (all.length : Int) < (all.length : Int) := by rw [hb2]; omega
          have hA : 0 + ((IntKind.i64.wrap ui).tmod (all.length : Int)).toNat < all.length := by rw [eA]; exact han
          have hB : 0 + ((IntKind.i64.wrap uk).tmod (all.length : Int)).toNat < all.length := by rw [eB]; exact hbn
          obtain ⟨all2, hall2⟩ : ∃ all2, all2 = (all.set a (all.getD b eS)).set b (all.getD a eS) := ⟨_, rfl⟩
          have h2l : all2.length = all.length := by rw [hall2, List.length_set, List.length_set]
          have hs2 : szL all2 := ⟨by omega, fun x hx => by
            rw [hall2] at hx
            have hga : ∀ j, j < all.length → all.getD j eS ∈ all := fun j hj => by rw [List.getD_eq_getElem?_getD, List.getElem?_eq_getElem hj]; exact List.getElem_mem hj
            rcases List.mem_or_eq_of_mem_set hx with q | q
            · rcases List.mem_or_eq_of_mem_set q with q | q
              · exact hsS.2 x q
              · rw [q]; exact hsS.2 _ (hga b hbn)
            · rw [q]; exact hsS.2 _ (hga a han)⟩
          (conv => whnf)
          refine ⟨by omega, ?_⟩
          (conv => whnf)
          refine ⟨by omega, ?_⟩
          (conv => whnf)
          refine ⟨bB.1, bB.2, ?_⟩
          (conv => whnf)
          refine ⟨hB, ?_⟩
          (conv => whnf)
          refine ⟨bA.1, bA.2, ?_⟩
          (conv => whnf)
          refine ⟨hA, ?_⟩
          (conv => whnf)
          refine ⟨bA.1, bA.2, ?_⟩
          (conv => whnf)
          refine ⟨some (fun q => [.str ((all.set a (all.getD b eS)).getD q eS)]), ?_⟩
          (conv => whnf)
          refine ⟨hA, ?_⟩
          (conv => whnf)
          refine ⟨fun q _ => ?_, ?_⟩
          · show ([.str ((all.set a (all.getD b eS)).getD q eS)] : List V) = bif Nat.beq q (0 + ((IntKind.i64.wrap ui).tmod (all.length : Int)).toNat) then putD 0 [.str (all.getD q eS)] [.str (all.getD (0 + ((IntKind.i64.wrap uk).tmod (all.length : Int)).toNat) eS)] else [.str (all.getD q eS)]
            rw [eA, eB]
            exact stS_view all a _ han q
          (conv => whnf)
          (repeat (first | refine And.intro rfl ?_ | fail))
          (conv => whnf)
          refine ⟨bB.1, bB.2, ?_⟩
          (conv => whnf)
          refine ⟨some (fun q => [.str (all2.getD q eS)]), ?_⟩
          (conv => whnf)
          refine ⟨hB, ?_⟩
          (conv => whnf)
          refine ⟨fun q _ => ?_, ?_⟩
          · show ([.str (all2.getD q eS)] : List V) = bif Nat.beq q (0 + ((IntKind.i64.wrap uk).tmod (all.length : Int)).toNat) then putD 0 [.str ((all.set a (all.getD b eS)).getD q eS)] [.str (all.getD (0 + ((IntKind.i64.wrap ui).tmod (all.length : Int)).toNat) eS)] else [.str ((all.set a (all.getD b eS)).getD q eS)]
            rw [eA, eB, hall2]
            exact stS_view _ b _ (by rw [List.length_set]; exact hbn) q
          (conv => whnf)
          (repeat (first | refine And.intro rfl ?_ | fail))
          (conv => whnf)
          refine .inl ⟨((all2, all2), (1000, 1000, mkE l)), [6, 8], ⟨List.prefix_rfl, by show all2.length ≤ 100000; omega, by show (mkE l).length ≤ 10000; omega⟩, rfl, ?_, ?_, ?_⟩
          · (repeat' (first | exact True.intro | rfl | assumption | exact mc_ok rfl | exact mr_ok | exact fun _ => rfl | exact mt_keep _ _ | exact ms_ok | exact c_keep _ _ _ | (refine And.intro ?_ ?_) | (intro _ _; rfl) | ((conv => whnf); (first | exact True.intro | (refine And.intro ?_ ?_)))))
            all_goals exact h2l
          · (repeat' (first | exact True.intro | rfl | assumption | exact mc_ok rfl | exact mr_ok | exact fun _ => rfl | exact mt_keep _ _ | exact ms_ok | exact c_keep _ _ _ | (refine And.intro ?_ ?_) | (intro _ _; rfl) | ((conv => whnf); (first | exact True.intro | (refine And.intro ?_ ?_)))))
            all_goals exact h2l
          (conv => whnf)
          (repeat (first | refine And.intro rfl ?_ | fail))
          (conv => whnf)
          refine .inl ⟨((g3, mkE l, 253), chkK (mkE l) all2, all2, all2), [1, 2, 3, 4, 5, 8], ⟨⟨hG3, by show (mkE l).length ≤ 300; omega, by show (253 : Int) < 100000000; omega⟩, hs2, rfl, List.prefix_rfl⟩, rfl, ?_, ?_, fun g4 hG4 => ?_⟩
          · (repeat' (first | exact True.intro | rfl | assumption | exact mc_ok rfl | exact mr_ok | exact fun _ => rfl | exact mt_keep _ _ | exact ms_ok | exact c_keep _ _ _ | (refine And.intro ?_ ?_) | (intro _ _; rfl) | ((conv => whnf); (first | exact True.intro | (refine And.intro ?_ ?_)))))
            all_goals exact h2l
          · (repeat' (first | exact True.intro | rfl | assumption | exact mc_ok rfl | exact mr_ok | exact fun _ => rfl | exact mt_keep _ _ | exact ms_ok | exact c_keep _ _ _ | (refine And.intro ?_ ?_) | (intro _ _; rfl) | ((conv => whnf); (first | exact True.intro | (refine And.intro ?_ ?_)))))
            all_goals exact h2l
          have hG4 : MG 1000 1000 (mkE l) 254 g4 := hG4
          have hta : (all2.take a).length = a := by rw [List.length_take]; omega
          have hta2 : (all2.take a).length = ((IntKind.i64.wrap ui).tmod (all.length : Int)).toNat - 0 := by rw [hta]; omega
          have hs3 : szL (all2.take a) := ⟨by omega, fun x hx => hs2.2 x (List.mem_of_mem_take hx)⟩
          (conv => whnf)
          (repeat (first | refine And.intro rfl ?_ | fail))
          (conv => whnf)
          refine ⟨fun _ => ?_, fun hh => Bool.noConfusion (show (!true) = true from hh)⟩
          (conv => whnf)
          refine ⟨bA.1, ?_⟩
          (conv => whnf)
          refine .inl ⟨Nat.zero_le _, by omega, .inr rfl, fun g => Bool.noConfusion g, ?_⟩
          (conv => whnf)
          refine ⟨bA.1, ?_⟩
          (conv => whnf)
          refine .inl ⟨Nat.zero_le _, by omega, .inr rfl, fun g => Bool.noConfusion g, ?_⟩
          (conv => whnf)
          refine .inl ⟨((all2, all2.take a), (1000, 1000, mkE l)), [6, 8], ⟨List.take_prefix a all2, by show (all2.take a).length ≤ 100000; omega, by show (mkE l).length ≤ 10000; omega⟩, rfl, ?_, by (repeat' (first | exact True.intro | rfl | assumption | exact mc_ok rfl | exact mr_ok | exact fun _ => rfl | exact mt_keep _ _ | exact ms_ok | exact c_keep _ _ _ | (refine And.intro ?_ ?_) | (intro _ _; rfl) | ((conv => whnf); (first | exact True.intro | (refine And.intro ?_ ?_))))), ?_⟩
          · (repeat' (first | exact True.intro | rfl | assumption | exact mc_ok rfl | exact mr_ok | exact fun _ => rfl | exact mt_keep _ _ | exact ms_ok | exact c_keep _ _ _ | (refine And.intro ?_ ?_) | (intro _ _; rfl) | ((conv => whnf); (first | exact True.intro | (refine And.intro ?_ ?_)))))
            all_goals exact hta2
          (conv => whnf)
          (repeat (first | refine And.intro rfl ?_ | fail))
          (conv => whnf)
          refine .inl ⟨((g4, mkE l, 254), chkK (mkE l) (all2.take a), all2, all2.take a), [1, 2, 3, 4, 5, 8], ⟨⟨hG4, by show (mkE l).length ≤ 300; omega, by show (254 : Int) < 100000000; omega⟩, hs3, rfl, List.take_prefix a all2⟩, rfl, ?_, by (repeat' (first | exact True.intro | rfl | assumption | exact mc_ok rfl | exact mr_ok | exact fun _ => rfl | exact mt_keep _ _ | exact ms_ok | exact c_keep _ _ _ | (refine And.intro ?_ ?_) | (intro _ _; rfl) | ((conv => whnf); (first | exact True.intro | (refine And.intro ?_ ?_))))), fun g5 hG5 => ?_⟩
          · (repeat' (first | exact True.intro | rfl | assumption | exact mc_ok rfl | exact mr_ok | exact fun _ => rfl | exact mt_keep _ _ | exact ms_ok | exact c_keep _ _ _ | (refine And.intro ?_ ?_) | (intro _ _; rfl) | ((conv => whnf); (first | exact True.intro | (refine And.intro ?_ ?_)))))
            all_goals exact hta2
          (conv => whnf)
          (repeat (first | refine And.intro rfl ?_ | fail))
          (conv => whnf)
          refine ⟨fun hh => Bool.noConfusion (show (!true) = true from hh), fun _ => ?_⟩
          (conv => whnf)
          refine ⟨(), [], trivial, rfl, by (repeat' (first | exact True.intro | rfl | assumption | exact mc_ok rfl | exact mr_ok | exact fun _ => rfl | exact mt_keep _ _ | exact ms_ok | exact c_keep _ _ _ | (refine And.intro ?_ ?_) | (intro _ _; rfl) | ((conv => whnf); (first | exact True.intro | (refine And.intro ?_ ?_))))), by (repeat' (first | exact True.intro | rfl | assumption | exact mc_ok rfl | exact mr_ok | exact fun _ => rfl | exact mt_keep _ _ | exact ms_ok | exact c_keep _ _ _ | (refine And.intro ?_ ?_) | (intro _ _; rfl) | ((conv => whnf); (first | exact True.intro | (refine And.intro ?_ ?_))))), ?_⟩
          (conv => whnf)
          refine ⟨[], _, _, hQ, ?_⟩
          (repeat' (first | exact True.intro | rfl | assumption | exact mc_ok rfl | exact mr_ok | exact fun _ => rfl | exact mt_keep _ _ | exact ms_ok | exact c_keep _ _ _ | (refine And.intro ?_ ?_) | (intro _ _; rfl) | ((conv => whnf); (first | exact True.intro | (refine And.intro ?_ ?_)))))
        · intro h4
          (conv => whnf)
          refine ⟨(), [], trivial, rfl, by (repeat' (first | exact True.intro | rfl | assumption | exact mc_ok rfl | exact mr_ok | exact fun _ => rfl | exact mt_keep _ _ | exact ms_ok | exact c_keep _ _ _ | (refine And.intro ?_ ?_) | (intro _ _; rfl) | ((conv => whnf); (first | exact True.intro | (refine And.intro ?_ ?_))))), by (repeat' (first | exact True.intro | rfl | assumption | exact mc_ok rfl | exact mr_ok | exact fun _ => rfl | exact mt_keep _ _ | exact ms_ok | exact c_keep _ _ _ | (refine And.intro ?_ ?_) | (intro _ _; rfl) | ((conv => whnf); (first | exact True.intro | (refine And.intro ?_ ?_))))), ?_⟩
          (conv => whnf)
          refine ⟨[], _, _, hQ, ?_⟩
          (repeat' (first | exact True.intro | rfl | assumption | exact mc_ok rfl | exact mr_ok | exact fun _ => rfl | exact mt_keep _ _ | exact ms_ok | exact c_keep _ _ _ | (refine And.intro ?_ ?_) | (intro _ _; rfl) | ((conv => whnf); (first | exact True.intro | (refine And.intro ?_ ?_)))))
  · intro h1
    (conv => whnf)
    refine ⟨(), [], trivial, rfl, by (repeat' (first | exact True.intro | rfl | assumption | exact mc_ok rfl | exact mr_ok | exact fun _ => rfl | exact mt_keep _ _ | exact ms_ok | exact c_keep _ _ _ | (refine And.intro ?_ ?_) | (intro _ _; rfl) | ((conv => whnf); (first | exact True.intro | (refine And.intro ?_ ?_))))), by (repeat' (first | exact True.intro | rfl | assumption | exact mc_ok rfl | exact mr_ok | exact fun _ => rfl | exact mt_keep _ _ | exact ms_ok | exact c_keep _ _ _ | (refine And.intro ?_ ?_) | (intro _ _; rfl) | ((conv => whnf); (first | exact True.intro | (refine And.intro ?_ ?_))))), ?_⟩
    (conv => whnf)
    refine ⟨[], _, _, hQ, ?_⟩
    (repeat' (first | exact True.intro | rfl | assumption | exact mc_ok rfl | exact mr_ok | exact fun _ => rfl | exact mt_keep _ _ | exact ms_ok | exact c_keep _ _ _ | (refine And.intro ?_ ?_) | (intro _ _; rfl) | ((conv => whnf); (first | exact True.intro | (refine And.intro ?_ ?_)))))
end Go.Proofs.Ytddionboojdjlaa
