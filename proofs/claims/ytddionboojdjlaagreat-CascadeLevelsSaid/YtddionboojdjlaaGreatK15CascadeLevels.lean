/- One text out of 3. -/
import Derived.Test.YtddionboojdjlaaGreatSyCR
import Derived.Shelf.SlSortCmp.WholeK
import Derived.Test.YtddionboojdjlaaGreatK6CascadeLevels
section
namespace Go.Proofs.YtddionboojdjlaaGreat
open Go Go.RowKit
namespace Sy
theorem rel_no (w : World) : Rel ⟨fun _ => none, fun _ => 0, fun _ => 0, fun _ => false, fun _ => none, fun _ _ => False⟩ (locS []) w := by
  have no : ∀ i o, ¬ (locS []).H.get i = some o := fun i o hi => by
    rw [(locS_is (l := []) (by simp)).get] at hi
    simp at hi
  exact ⟨fun i o hi => absurd hi (no i o), fun i j oi oj k _ _ hk => hk.elim, fun i o k _ hk => hk.elim, fun i hi => ⟨rfl, rfl, rfl⟩, fun i o hi => absurd hi (no i o), fun i v hv => (by cases hv), fun i b hb => (by cases hb)⟩
theorem world_grown {w w' : World} (h1 : w'.os = w.os) (h2 : w'.tape = w.tape) (h3 : w'.output = w.output) (hd : w.drawn ≤ w'.drawn) (hs : w.heap.size ≤ w'.heap.size) (hk : ∀ k, k < w.heap.size → w'.heap[k]? = w.heap[k]?) :
    ∃ q os', w' = Go.Sort.grow (w.drewN q) os' := by
  refine ⟨w'.drawn - w.drawn, w'.heap.extract w.heap.size w'.heap.size, ?_⟩
  obtain ⟨h, t, d, o, out⟩ := w
  obtain ⟨h', t', d', o', out'⟩ := w'
  simp only at h1 h2 h3 hd hs hk
  subst h1 h2 h3
  unfold Go.Sort.grow World.drewN
  have e1 : d + (d' - d) = d' := by omega
  have e2 : h' = h ++ h'.extract h.size h'.size := by
    apply Array.ext_getElem?
    intro i
    rcases Nat.lt_or_ge i h.size with g | g
    · rw [hk i g, Array.getElem?_append_left g]
    · rw [Array.getElem?_append_right g, Array.getElem?_extract]
      split
      · congr 1; omega
      · rw [Array.getElem?_eq_none (by omega)]
  simp only [e1]
  congr 1
theorem LSpec.exact {S : LSpec} {P : Program} {f : FuncId} (h : S.OkM true P f) (hN : NoGo P) {fn : Func} (hfn : P.funcs[f]? = some fn) (hb : fn.body.isNone = false) {x : S.X} (hp : S.pre x) (ho : S.objs x id = []) {v0 : V} {r : Value} (hout : S.out x id fun v _ => v = v0) (hr : ∀ ρ, cz ρ v0 = some r)
    {args' : List Value} (ha : ∀ ρ, czl ρ (S.args x id) = some args') (w : World) : Calls P f args'.toArray w fun e w' => e = .returned r ∧ ∃ q os', w' = Go.Sort.grow (w.drewN q) os' := by
  have h : CallM true P f (S.args x id) (locS (S.objs x id)) (fun v s' => ∃ l', v = v0 ∧ LocIsO l' s') := fun {_ _ _} hr' hc' => h x _ hp hout hr' hc'
  rw [ho] at h
  have no : ∀ i o, ¬ (locS []).H.get i = some o := fun i o hi => by
    rw [(locS_is (l := []) (by simp)).get] at hi
    simp at hi
  have fin : ∀ {v' : Value} {w' : World} {v : V} {s' : St} {ρ0 ρ' : Ren}, (∃ l', v = v0 ∧ LocIsO l' s') → Step true (locS []).n (locS []) ρ0 w s' ρ' w' → cz ρ' v = some v' → v' = r ∧ ∃ q os', w' = Go.Sort.grow (w.drewN q) os' := fun ⟨_, hv, _⟩ st hc => by
    rw [hv, hr] at hc
    exact ⟨(Option.some.inj hc).symm, world_grown st.os st.tape st.output (st.drawn rfl) st.size fun k hk => st.keep k hk fun i o hi => absurd hi (no i o)⟩
  rcases h (rel_no w) (ha _) with ⟨_, hcall⟩ | ⟨v', w', hrun, _⟩
  · refine callsIn_wide.1 (CallsIn.mono hcall fun e w' hp => ?_)
    obtain ⟨v', v, s', ρ', rfl, hk, hst, hv⟩ := hp
    obtain ⟨rfl, h2⟩ := fin hk hst hv
    exact ⟨rfl, h2⟩
  · have hb' : ¬ fn.body = none := fun e => by rw [e] at hb; cases hb
    simp [callFunc, run_program, hfn, hN f fn hfn, hb'] at hrun
end Sy
end Go.Proofs.YtddionboojdjlaaGreat
end
section
namespace Go.Proofs.YtddionboojdjlaaGreat
open Go Go.RowKit Sy Tb Gr
set_option maxRecDepth 100000

/-- What cmp.Compare returns. -/
def cmpS (a b : Bs) : Int := if strLt a b = true then -1 else if strLt b a = true then 1 else 0
def SCmpS : LSpec where
  X := Bs × Bs
  k := 0
  pre _ := True
  args x _ := [.str x.1, .str x.2]
  objs _ _ := []
  out x _ R := R (i64 (cmpS x.1 x.2)) []
theorem SCmpS_nt : SCmpS.Nt := ⟨fun _ _ => rfl, fun _ _ => rfl, fun _ _ _ h => h⟩
theorem conNaS {md : Bool} : ConOkM md Tryz.prog (conOf [(56, inl Tryz.prog (conOf []) Tryz.f56)]) :=
  conOf_cons (inl_ok noGo mixed conOf_nil Tryz.func56 (by kernel_rfl)) conOf_nil
theorem SCmpS_ok {md : Bool} : SCmpS.OkM md Tryz.prog 37 := by
  refine LSpec.of_body noGo mixed conNaS Tryz.func37 rfl (by kernel_rfl) fun ⟨a, b⟩ R _ hR => ?_
  have hR : R (i64 (cmpS a b)) [] := hR
  unfold cmpS at hR
  (conv => whnf)
  refine ⟨fun hh => absurd (show (!decide (a = a)) = true from hh) (by simp), fun _ => ?_⟩
  (conv => whnf)
  refine ⟨fun hh => absurd (show (!decide (b = b)) = true from hh) (by simp), fun _ => ?_⟩
  (conv => whnf)
  constructor
  · intro h1
    have h1 : strLt a b = true := h1
    rw [if_pos h1] at hR
    (conv => whnf)
    refine ⟨[], _, _, hR, ?_⟩
    (repeat' (first | exact True.intro | rfl | assumption | exact mc_ok rfl | exact mr_ok | exact fun _ => rfl | (refine And.intro ?_ ?_) | (intro _ _; rfl) | ((conv => whnf); (first | exact True.intro | (refine And.intro ?_ ?_)))))
  · intro h1
    have h1 : ¬ strLt a b = true := fun q => by rw [show strLt a b = false from h1] at q; cases q
    rw [if_neg h1] at hR
    (conv => whnf)
    constructor
    · intro h2
      have h2 : strLt b a = true := h2
      rw [if_pos h2] at hR
      (conv => whnf)
      refine ⟨[], _, _, hR, ?_⟩
      (repeat' (first | exact True.intro | rfl | assumption | exact mc_ok rfl | exact mr_ok | exact fun _ => rfl | (refine And.intro ?_ ?_) | (intro _ _; rfl) | ((conv => whnf); (first | exact True.intro | (refine And.intro ?_ ?_)))))
    · intro h2
      have h2 : ¬ strLt b a = true := fun q => by rw [show strLt b a = false from h2] at q; cases q
      rw [if_neg h2] at hR
      (conv => whnf)
      refine ⟨[], _, _, hR, ?_⟩
      (repeat' (first | exact True.intro | rfl | assumption | exact mc_ok rfl | exact mr_ok | exact fun _ => rfl | (refine And.intro ?_ ?_) | (intro _ _; rfl) | ((conv => whnf); (first | exact True.intro | (refine And.intro ?_ ?_)))))
theorem cmpS_lt {a b : Bs} : cmpS a b < 0 ↔ strLt a b = true := by
  unfold cmpS
  split
  · rename_i h; simp [h]
  · rename_i h
    split <;> simp [h]
theorem cmpS_eq {a b : Bs} : cmpS a b = 0 ↔ a = b := by
  unfold cmpS
  split
  · rename_i h
    refine ⟨fun q => absurd q (by decide), fun q => ?_⟩
    rw [q] at h
    exact absurd h (lt_irr b)
  · rename_i h
    split
    · rename_i h2
      refine ⟨fun q => absurd q (by decide), fun q => ?_⟩
      rw [q] at h2
      exact absurd h2 (lt_irr b)
    · rename_i h2
      exact ⟨fun _ => lt_tri h h2, fun _ => rfl⟩
def edL (c : Ed) : List V := [.str c.1, .str c.2]
def edV (c : Ed) : V := .agg (edL c)
def cmpE (a b : Ed) : Int := if cmpS a.1 b.1 ≠ 0 then cmpS a.1 b.1 else cmpS a.2 b.2
theorem conCmE {md : Bool} : ConOkM md Tryz.prog (conOf [(37, SCmpS.T), (36, inl Tryz.prog (conOf []) Tryz.f36)]) :=
  conOf_cons (LSpec.call SCmpS_nt SCmpS_ok) (conOf_cons (inl_ok noGo mixed conOf_nil Tryz.func36 (by kernel_rfl)) conOf_nil)
def SCmpE : LSpec where
  X := Ed × Ed
  k := 0
  pre _ := True
  args x _ := [edV x.1, edV x.2]
  objs _ _ := []
  out x _ R := R (i64 (cmpE x.1 x.2)) []
theorem SCmpE_nt : SCmpE.Nt := ⟨fun _ _ => rfl, fun _ _ => rfl, fun _ _ _ h => h⟩
theorem SCmpE_ok {md : Bool} : SCmpE.OkM md Tryz.prog 35 := by
  refine LSpec.of_body noGo mixed conCmE Tryz.func35 rfl (by kernel_rfl) fun ⟨a, b⟩ R _ hR => ?_
  have hR : R (i64 (cmpE a b)) [] := hR
  (conv => whnf)
  refine ⟨(a.1, b.1), [], trivial, rfl, by (repeat' (first | exact True.intro | rfl | assumption | exact mc_ok rfl | exact mr_ok | exact fun _ => rfl | (refine And.intro ?_ ?_) | (intro _ _; rfl) | ((conv => whnf); (first | exact True.intro | (refine And.intro ?_ ?_))))), by (repeat' (first | exact True.intro | rfl | assumption | exact mc_ok rfl | exact mr_ok | exact fun _ => rfl | (refine And.intro ?_ ?_) | (intro _ _; rfl) | ((conv => whnf); (first | exact True.intro | (refine And.intro ?_ ?_))))), ?_⟩
  (conv => whnf)
  (repeat (first | refine And.intro rfl ?_ | fail))
  (conv => whnf)
  refine ⟨(a.2, b.2), [], trivial, rfl, by (repeat' (first | exact True.intro | rfl | assumption | exact mc_ok rfl | exact mr_ok | exact fun _ => rfl | (refine And.intro ?_ ?_) | (intro _ _; rfl) | ((conv => whnf); (first | exact True.intro | (refine And.intro ?_ ?_))))), by (repeat' (first | exact True.intro | rfl | assumption | exact mc_ok rfl | exact mr_ok | exact fun _ => rfl | (refine And.intro ?_ ?_) | (intro _ _; rfl) | ((conv => whnf); (first | exact True.intro | (refine And.intro ?_ ?_))))), ?_⟩
  (conv => whnf)
  (repeat (first | refine And.intro rfl ?_ | fail))
  (conv => whnf)
  refine .inr ?_
  (conv => whnf)
  refine ⟨fun _ => ?_, fun hh => absurd (show decide ((0 : Int) < 2) = false from hh) (by decide)⟩
  (conv => whnf)
  refine ⟨by decide, by decide, ?_⟩
  (conv => whnf)
  refine ⟨by decide, ?_⟩
  (conv => whnf)
  constructor
  · intro h
    have h : cmpS a.1 b.1 ≠ 0 := fun e => by
      have h : (!decide (cmpS a.1 b.1 = 0)) = true := h
      rw [e] at h
      exact absurd h (by decide)
    have e : cmpE a b = cmpS a.1 b.1 := if_pos h
    rw [e] at hR
    (conv => whnf)
    refine ⟨[], _, _, hR, ?_⟩
    (repeat' (first | exact True.intro | rfl | assumption | exact mc_ok rfl | exact mr_ok | exact fun _ => rfl | (refine And.intro ?_ ?_) | (intro _ _; rfl) | ((conv => whnf); (first | exact True.intro | (refine And.intro ?_ ?_)))))
  · intro h
    have h : ¬ cmpS a.1 b.1 ≠ 0 := fun e => by
      have h : (!decide (cmpS a.1 b.1 = 0)) = false := h
      rw [decide_eq_false e] at h
      exact absurd h (by decide)
    have e : cmpE a b = cmpS a.2 b.2 := if_neg h
    rw [e] at hR
    (conv => whnf)
    refine .inr ?_
    (conv => whnf)
    refine ⟨fun _ => ?_, fun hh => absurd hh (by decide)⟩
    (conv => whnf)
    refine ⟨by decide, by decide, ?_⟩
    (conv => whnf)
    refine ⟨by decide, ?_⟩
    (conv => whnf)
    constructor
    · intro h
      (conv => whnf)
      refine ⟨[], _, _, hR, ?_⟩
      (repeat' (first | exact True.intro | rfl | assumption | exact mc_ok rfl | exact mr_ok | exact fun _ => rfl | (refine And.intro ?_ ?_) | (intro _ _; rfl) | ((conv => whnf); (first | exact True.intro | (refine And.intro ?_ ?_)))))
    · intro h
      have h : cmpS a.2 b.2 = 0 := Decidable.byContradiction fun e => by
        have h : (!decide (cmpS a.2 b.2 = 0)) = false := h
        rw [decide_eq_false e] at h
        exact absurd h (by decide)
      rw [h] at hR
      (conv => whnf)
      refine .inr ?_
      (conv => whnf)
      refine ⟨fun hh => absurd hh (by decide), fun _ => ?_⟩
      (conv => whnf)
      refine ⟨[], _, _, hR, ?_⟩
      (repeat' (first | exact True.intro | rfl | assumption | exact mc_ok rfl | exact mr_ok | exact fun _ => rfl | (refine And.intro ?_ ?_) | (intro _ _; rfl) | ((conv => whnf); (first | exact True.intro | (refine And.intro ?_ ?_)))))
theorem cmpE_lt {a b : Ed} : cmpE a b < 0 ↔ ltE a b = true := by
  rw [ltE_iff]
  unfold cmpE
  by_cases h : cmpS a.1 b.1 = 0
  · rw [if_neg (by simpa using h), cmpS_lt]
    have e := cmpS_eq.1 h
    rw [e]
    exact ⟨fun q => .inr ⟨rfl, q⟩, fun q => q.elim (fun q => absurd q (lt_irr _)) fun q => q.2⟩
  · rw [if_pos h, cmpS_lt]
    exact ⟨.inl, fun q => q.elim (fun q => q) fun q => absurd (cmpS_eq.2 q.1) h⟩
end Go.Proofs.YtddionboojdjlaaGreat
end
section
namespace Go.Proofs
open Go.Shelf
def YtddionboojdjlaaGreat.edgL_ren : Go.Shelf.Ren := ⟨fun | 6 => 34 | 15 => 55 | 14 => 54 | 28 => 81 | 29 => 82 | 20 => 73 | 21 => 74 | 22 => 75 | 23 => 76 | 24 => 77 | 25 => 78 | 26 => 79 | 27 => 80 | 46 => 97 | 47 => 98 | 48 => 99 | 49 => 100 | 50 => 101 | 57 => 107 | n => n, fun | 22 => 22 | 24 => 43 | 25 => 77 | 3 => 3 | 39 => 95 | 0 => 0 | 53 => 126 | 55 => 49 | 4 => 4 | 46 => 119 | 45 => 118 | 50 => 123 | 5 => 5 | 9 => 9 | 66 => 141 | 70 => 111 | 76 => 150 | 77 => 107 | n => n, fun | n => n⟩
theorem YtddionboojdjlaaGreat.edgL : Go.Proofs.SlLaysF0.n6 Tryz.prog YtddionboojdjlaaGreat.edgL_ren := {
  mixed := by kernel_rfl
  f6 := ⟨Tryz.f34.name, by decide, Tryz.func34.trans (congrArg some (by kernel_rfl))⟩
  f14 := ⟨Tryz.f54.name, by decide, Tryz.func54.trans (congrArg some (by kernel_rfl))⟩
  f15 := Tryz.func55.trans (congrArg some (by kernel_rfl))
  f20 := ⟨Tryz.f73.name, by decide, Tryz.func73.trans (congrArg some (by kernel_rfl))⟩
  f21 := ⟨Tryz.f74.name, by decide, Tryz.func74.trans (congrArg some (by kernel_rfl))⟩
  f22 := ⟨Tryz.f75.name, by decide, Tryz.func75.trans (congrArg some (by kernel_rfl))⟩
  f23 := ⟨Tryz.f76.name, by decide, Tryz.func76.trans (congrArg some (by kernel_rfl))⟩
  f24 := ⟨Tryz.f77.name, by decide, Tryz.func77.trans (congrArg some (by kernel_rfl))⟩
  f25 := ⟨Tryz.f78.name, by decide, Tryz.func78.trans (congrArg some (by kernel_rfl))⟩
  f26 := ⟨Tryz.f79.name, by decide, Tryz.func79.trans (congrArg some (by kernel_rfl))⟩
  f27 := ⟨Tryz.f80.name, by decide, Tryz.func80.trans (congrArg some (by kernel_rfl))⟩
  f28 := Tryz.func81.trans (congrArg some (by kernel_rfl))
  f29 := Tryz.func82.trans (congrArg some (by kernel_rfl))
  f46 := ⟨Tryz.f97.name, by decide, Tryz.func97.trans (congrArg some (by kernel_rfl))⟩
  f47 := Tryz.func98.trans (congrArg some (by kernel_rfl))
  f48 := Tryz.func99.trans (congrArg some (by kernel_rfl))
  f49 := ⟨Tryz.f100.name, by decide, Tryz.func100.trans (congrArg some (by kernel_rfl))⟩
  f50 := ⟨Tryz.f101.name, by decide, Tryz.func101.trans (congrArg some (by kernel_rfl))⟩
  f57 := ⟨Tryz.f107.name, by decide, Tryz.func107.trans (congrArg some (by kernel_rfl))⟩
  t0 := Tryz.underlying0
  a0 := Tryz.isAgg0
  z0 := Tryz.sizeOf0
  v0 := Tryz.zeroValue0
  t3 := Tryz.underlying3
  a3 := Tryz.isAgg3
  z3 := Tryz.sizeOf3
  v3 := Tryz.zeroValue3
  t4 := Tryz.underlying4
  a4 := Tryz.isAgg4
  z4 := Tryz.sizeOf4
  v4 := Tryz.zeroValue4
  t5 := Tryz.underlying5
  a5 := Tryz.isAgg5
  z5 := Tryz.sizeOf5
  v5 := Tryz.zeroValue5
  t9 := Tryz.underlying9
  a9 := Tryz.isAgg9
  z9 := Tryz.sizeOf9
  v9 := Tryz.zeroValue9
  t22 := Tryz.underlying22
  a22 := Tryz.isAgg22
  z22 := Tryz.sizeOf22
  v22 := Tryz.zeroValue22
  t25 := Tryz.underlying77
  a25 := Tryz.isAgg77
  z25 := Tryz.sizeOf77
  v25 := Tryz.zeroValue77
  t39 := Tryz.underlying95
  a39 := Tryz.isAgg95
  z39 := Tryz.sizeOf95
  v39 := Tryz.zeroValue95
  t45 := Tryz.underlying118
  a45 := Tryz.isAgg118
  z45 := Tryz.sizeOf118
  v45 := Tryz.zeroValue118
  t46 := Tryz.underlying119
  a46 := Tryz.isAgg119
  z46 := Tryz.sizeOf119
  v46 := Tryz.zeroValue119
  t50 := Tryz.underlying123
  a50 := Tryz.isAgg123
  z50 := Tryz.sizeOf123
  v50 := Tryz.zeroValue123
  t53 := Tryz.underlying126
  a53 := Tryz.isAgg126
  z53 := Tryz.sizeOf126
  v53 := Tryz.zeroValue126
  t55 := Tryz.underlying49
  a55 := Tryz.isAgg49
  z55 := Tryz.sizeOf49
  v55 := Tryz.zeroValue49
  t66 := Tryz.underlying141
  a66 := Tryz.isAgg141
  z66 := Tryz.sizeOf141
  v66 := Tryz.zeroValue141
  t70 := Tryz.underlying111
  a70 := Tryz.isAgg111
  z70 := Tryz.sizeOf111
  v70 := Tryz.zeroValue111
  t76 := Tryz.underlying150
  a76 := Tryz.isAgg150
  z76 := Tryz.sizeOf150
  v76 := Tryz.zeroValue150
  t77 := Tryz.underlying107
  a77 := Tryz.isAgg107
  z77 := Tryz.sizeOf107
  v77 := Tryz.zeroValue107 }
end Go.Proofs
end
