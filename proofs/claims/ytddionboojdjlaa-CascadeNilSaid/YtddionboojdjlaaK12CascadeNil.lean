/- One text out of 2. -/
import Derived.Test.YtddionboojdjlaaCaKnownR
section
namespace Go.Proofs.Ytddionboojdjlaa
open Go Go.RowKit Sy Tb Gr
set_option maxRecDepth 100000
set_option maxHeartbeats 16000000

abbrev iP (Φ : Con) (fn : Func) := inl Try.prog Φ fn
abbrev cn1 : Con := conOf [(48, iP (conOf []) Try.f48)]
theorem cn1_ok : ConOk Try.prog cn1 := conOf_cons (inl_ok noGo mixed conOf_nil Try.func48 (by kernel_rfl)) conOf_nil
abbrev cn2 : Con := conOf [(53, iP cn1 Try.f53)]
theorem cn2_ok : ConOk Try.prog cn2 := conOf_cons (inl_ok noGo mixed cn1_ok Try.func53 (by kernel_rfl)) conOf_nil
abbrev cn3 : Con := conOf [(29, iP cn2 Try.f29)]
theorem cn3_ok : ConOk Try.prog cn3 := conOf_cons (inl_ok noGo mixed cn2_ok Try.func29 (by kernel_rfl)) conOf_nil
abbrev cn4 : Con := conOf [(44, iP cn3 Try.f44)]
theorem cn4_ok : ConOk Try.prog cn4 := conOf_cons (inl_ok noGo mixed cn3_ok Try.func44 (by kernel_rfl)) conOf_nil
abbrev cn5 : Con := conOf [(51, iP cn4 Try.f51)]
theorem cn5_ok : ConOk Try.prog cn5 := conOf_cons (inl_ok noGo mixed cn4_ok Try.func51 (by kernel_rfl)) conOf_nil
abbrev cnG : Con := conOf [(71, iP (conOf []) Try.f71)]
theorem cnG_ok : ConOk Try.prog cnG := conOf_cons (inl_ok noGo mixed conOf_nil Try.func71 (by kernel_rfl)) conOf_nil
abbrev cnB : Con := conOf [(27, iP cn5 Try.f27), (50, iP cnG Try.f50)]
theorem cnB_ok : ConOk Try.prog cnB := conOf_cons (inl_ok noGo mixed cn5_ok Try.func27 (by kernel_rfl)) (conOf_cons (inl_ok noGo mixed cnG_ok Try.func50 (by kernel_rfl)) conOf_nil)
abbrev cnC : Con := conOf [(26, iP cnB Try.f26)]
theorem cnC_ok : ConOk Try.prog cnC := conOf_cons (inl_ok noGo mixed cnB_ok Try.func26 (by kernel_rfl)) conOf_nil
abbrev cnS : Con := conOf [(38, iP (conOf []) Try.f38)]
theorem cnS_ok : ConOk Try.prog cnS := conOf_cons (inl_ok noGo mixed conOf_nil Try.func38 (by kernel_rfl)) conOf_nil
abbrev cL1 : Con := conOf [(27, iP cn5 Try.f27), (36, iP cnS Try.f36)]
theorem cL1_ok : ConOk Try.prog cL1 := conOf_cons (inl_ok noGo mixed cn5_ok Try.func27 (by kernel_rfl)) (conOf_cons (inl_ok noGo mixed cnS_ok Try.func36 (by kernel_rfl)) conOf_nil)
abbrev cL2 : Con := conOf [(26, iP cnB Try.f26), (43, iP cnC Try.f43), (36, iP cnS Try.f36)]
theorem cL2_ok : ConOk Try.prog cL2 := conOf_cons (inl_ok noGo mixed cnB_ok Try.func26 (by kernel_rfl)) (conOf_cons (inl_ok noGo mixed cnC_ok Try.func43 (by kernel_rfl)) (conOf_cons (inl_ok noGo mixed cnS_ok Try.func36 (by kernel_rfl)) conOf_nil))
abbrev cL3 : Con := conOf [(28, iP cn5 Try.f28), (36, iP cnS Try.f36)]
theorem cL3_ok : ConOk Try.prog cL3 := conOf_cons (inl_ok noGo mixed cn5_ok Try.func28 (by kernel_rfl)) (conOf_cons (inl_ok noGo mixed cnS_ok Try.func36 (by kernel_rfl)) conOf_nil)
abbrev cL4 : Con := conOf [(24, iP cn4 Try.f24), (36, iP cnS Try.f36)]
theorem cL4_ok : ConOk Try.prog cL4 := conOf_cons (inl_ok noGo mixed cn4_ok Try.func24 (by kernel_rfl)) (conOf_cons (inl_ok noGo mixed cnS_ok Try.func36 (by kernel_rfl)) conOf_nil)
abbrev cL5 : Con := conOf [(37, iP cn4 Try.f37), (38, iP (conOf []) Try.f38)]
theorem cL5_ok : ConOk Try.prog cL5 := conOf_cons (inl_ok noGo mixed cn4_ok Try.func37 (by kernel_rfl)) (conOf_cons (inl_ok noGo mixed conOf_nil Try.func38 (by kernel_rfl)) conOf_nil)
abbrev cL6 : Con := conOf [(39, iP cn4 Try.f39), (38, iP (conOf []) Try.f38), (36, iP cnS Try.f36)]
theorem cL6_ok : ConOk Try.prog cL6 := conOf_cons (inl_ok noGo mixed cn4_ok Try.func39 (by kernel_rfl)) (conOf_cons (inl_ok noGo mixed conOf_nil Try.func38 (by kernel_rfl)) (conOf_cons (inl_ok noGo mixed cnS_ok Try.func36 (by kernel_rfl)) conOf_nil))
theorem conNl : ConOk Try.prog (conOf [(9, SKnown.T), (19, iP cL1 Try.f19), (21, iP cL2 Try.f21), (23, iP cL3 Try.f23), (12, iP cL4 Try.f12), (13, iP cL5 Try.f13), (15, iP cL6 Try.f15)]) :=
  conOf_cons (LSpec.call SKnown_nt SKnown_ok) (conOf_cons (inl_ok noGo mixed cL1_ok Try.func19 (by kernel_rfl)) (conOf_cons (inl_ok noGo mixed cL2_ok Try.func21 (by kernel_rfl)) (conOf_cons (inl_ok noGo mixed cL3_ok Try.func23 (by kernel_rfl)) (conOf_cons (inl_ok noGo mixed cL4_ok Try.func12 (by kernel_rfl)) (conOf_cons (inl_ok noGo mixed cL5_ok Try.func13 (by kernel_rfl)) (conOf_cons (inl_ok noGo mixed cL6_ok Try.func15 (by kernel_rfl)) conOf_nil))))))
def SNilL : LSpec where
  X := Bs
  k := 0
  pre _ := True
  args x _ := [.str x]
  objs _ _ := []
  out _ _ R := R (.sb true) []
theorem SNilL_top : SNilL.Top Try.prog 6 := by
  refine LSpec.top (md := false) noGo mixed conNl Try.func6 rfl (by kernel_rfl) fun key R _ hR => ?_
  have hQ : R (.sb true) [] := hR
  (conv => whnf)
  constructor
  · intro h1
    (conv => whnf)
    refine ⟨(), [], trivial, rfl, by (repeat' (first | exact True.intro | rfl | assumption | exact mc_ok rfl | exact mr_ok | exact fun _ => rfl | exact mt_keep _ _ | exact ms_ok | exact c_keep _ _ _ | (refine And.intro ?_ ?_) | (intro _ _; rfl) | ((conv => whnf); (first | exact True.intro | (refine And.intro ?_ ?_))))), by (repeat' (first | exact True.intro | rfl | assumption | exact mc_ok rfl | exact mr_ok | exact fun _ => rfl | exact mt_keep _ _ | exact ms_ok | exact c_keep _ _ _ | (refine And.intro ?_ ?_) | (intro _ _; rfl) | ((conv => whnf); (first | exact True.intro | (refine And.intro ?_ ?_))))), ?_⟩
    (conv => whnf)
    refine ⟨[], _, _, hQ, ?_⟩
    (repeat' (first | exact True.intro | rfl | assumption | exact mc_ok rfl | exact mr_ok | exact fun _ => rfl | exact mt_keep _ _ | exact ms_ok | exact c_keep _ _ _ | (refine And.intro ?_ ?_) | (intro _ _; rfl) | ((conv => whnf); (first | exact True.intro | (refine And.intro ?_ ?_)))))
  · intro h1
    (conv => whnf)
    refine .inr ?_
    (conv => whnf)
    (repeat (first | (refine And.intro (fun hh => absurd hh (by decide)) (fun _ => ?_); (conv => whnf)) | (refine And.intro (fun _ => ?_) (fun hh => absurd hh (by decide)); (conv => whnf)) | (refine And.intro (by decide) ?_; (conv => whnf)) | (refine Or.inr ?_; (conv => whnf)) | (refine Exists.intro (none : Option (Nat → List V)) ?_; (conv => whnf)) | (refine And.intro (fun hh => absurd hh (by simp <;> rfl)) (fun _ => ?_); (conv => whnf)) | (refine And.intro (fun _ => ?_) (fun hh => absurd hh (by simp <;> rfl)); (conv => whnf))))
    refine ⟨(), [], trivial, rfl, by (repeat' (first | exact True.intro | rfl | assumption | exact mc_ok rfl | exact mr_ok | exact fun _ => rfl | exact mt_keep _ _ | exact ms_ok | exact c_keep _ _ _ | (refine And.intro ?_ ?_) | (intro _ _; rfl) | ((conv => whnf); (first | exact True.intro | (refine And.intro ?_ ?_))))), by (repeat' (first | exact True.intro | rfl | assumption | exact mc_ok rfl | exact mr_ok | exact fun _ => rfl | exact mt_keep _ _ | exact ms_ok | exact c_keep _ _ _ | (refine And.intro ?_ ?_) | (intro _ _; rfl) | ((conv => whnf); (first | exact True.intro | (refine And.intro ?_ ?_))))), ?_⟩
    (conv => whnf)
    refine ⟨[], _, _, hQ, ?_⟩
    (repeat' (first | exact True.intro | rfl | assumption | exact mc_ok rfl | exact mr_ok | exact fun _ => rfl | exact mt_keep _ _ | exact ms_ok | exact c_keep _ _ _ | (refine And.intro ?_ ?_) | (intro _ _; rfl) | ((conv => whnf); (first | exact True.intro | (refine And.intro ?_ ?_)))))
end Go.Proofs.Ytddionboojdjlaa
end
section
namespace Go.Proofs.Ytddionboojdjlaa
set_option maxRecDepth 100000
open Go Go.RowKit Sy Tb Gr
/-- Nothing is known of a state of no objects. -/
theorem rel_none (w : World) : Rel ⟨fun _ => none, fun _ => 0, fun _ => 0, fun _ => false, fun _ => none, fun _ _ => False⟩ (locS []) w := by
  have no : ∀ i o, ¬ (locS []).H.get i = some o := fun i o hi => by
    rw [(locS_is (l := []) (by simp)).get] at hi
    simp at hi
  exact ⟨fun i o hi => absurd hi (no i o), fun i j oi oj k _ _ hk => hk.elim, fun i o k _ hk => hk.elim, fun i hi => ⟨rfl, rfl, rfl⟩, fun i o hi => absurd hi (no i o), fun i v hv => (by cases hv), fun i b hb => (by cases hb)⟩
theorem lNil (key : Bs) (W : World) : Calls Try.prog 6 #[.string key] W fun e w' => e = .returned (.bool true) ∧ Below W.heap.size W w' :=
  SNilL_top key trivial ⟨rfl, rfl⟩ (fun o ho => by cases ho) _ W [.string key] (rel_none W) (fun i c n f e sz k _ hk => hk.elim) rfl
end Go.Proofs.Ytddionboojdjlaa
end
