/- The abstract evaluator is right: calls, rounds, and the whole. -/
import Derived.Test.YtollflfkgcgdkaaAeAll
namespace Go.Proofs.Ytollflfkgcgdkaa
open Go Go.RowKit
namespace Ae

section
variable {P : Program} {B : Nat} {ρ : Ren} {s : ASt} {w : World} {o : Oper} {a : AAct} {act : Act} {y : Out} {F : Facts} {ev : Task → ASt → R Out} {r r' : Option Nat} {out : Out} {Q : Exit → Act → World → Prop}

theorem end_ok {fn : Func} {s0 : ASt} {o x : Out} (hx : endA P fn o = .ok x) (hr : Rel P B ρ s0 w) {ρ1 : Ren} {w1 : World} {e : Exit} (h1 : Step P B s0 ρ w o.s ρ1 w1) (h2 : RelA ρ1 o.a act) (h3 : ExitIs o.e e) {Post : Ending → World → Prop} (hP : ∀ e w2, CallPost P B s0 ρ w x e w2 → Post e w2) :
    (e = .normal ∨ e = .ret) ∧ LeavesInM Fence.wide 0 P fn act.tmps Post act.defers .returning w1 := by
  have fin : (dropMarks o.s o.a.marks fun s => match resultsA P o.a.tmps s fn.results.toList with
      | .ok [v] => .ok ⟨.normal, noAct, v, s⟩
      | .ok vs => .ok ⟨.normal, noAct, .tuple vs.toArray, s⟩
      | .err c p => .err c (p ++ fn.name)) = .ok x → LeavesInM Fence.wide 0 P fn act.tmps Post act.defers .returning w1 := fun hd => by
    refine marks_ok hd h1.rel h2.m fun s1 w2 hk hst => ?_
    have key : ∀ vs, resultsA P o.a.tmps s1 fn.results.toList = .ok vs → ∃ vs', czl ρ1 vs = some vs' ∧ (results fn act.tmps).run P w2 = .ok (if h : vs'.toArray.size = 1 then vs'.toArray[0] else .tuple vs'.toArray) w2 := fun vs hvs => by
      obtain ⟨vs', g1, g2⟩ := results_ok hst.rel h2.t hvs
      refine ⟨vs', g1, ?_⟩
      rw [results_eq]
      rw [Array.mapM_eq_mapM_toList]
      simp [g2]
    split at hk
    · rename_i v hv
      cases hk
      obtain ⟨vs', g1, g2⟩ := key _ hv
      obtain ⟨v', l', g3, g4, rfl⟩ := czl_cons.1 g1
      simp only [czl, Option.some.injEq] at g4
      subst g4
      exact ⟨v', by simpa using g2, hP _ _ ⟨v', ρ1, rfl, Step.trans hr h1 hst, g3⟩⟩
    · rename_i vs hne hv
      cases hk
      obtain ⟨vs', g1, g2⟩ := key _ hv
      have hl := czl_length g1
      have hn : ¬ vs'.toArray.size = 1 := fun e => by
        simp only [List.size_toArray] at e
        rw [e] at hl
        match vs, hl, hne with
        | [v], _, hne => exact hne v rfl
      rw [dif_neg hn] at g2
      exact ⟨_, g2, hP _ _ ⟨_, ρ1, rfl, Step.trans hr h1 hst, by simp [cz, cza, g1]⟩⟩
    · cases hk
  unfold endA at hx
  simp only at hx
  split at hx
  · rename_i he
    rw [he] at h3
    exact ⟨.inl (exit_normal h3), fin hx⟩
  · rename_i he
    rw [he] at h3
    exact ⟨.inr (exit_ret h3), fin hx⟩
  · cases hx

theorem call_ok (hN : ∀ (g : FuncId) (fn : Func), P.funcs[g]? = some fn → fn.name ≠ "runtime.NumGoroutine") (hS : SelfOk P F ev) {f : FuncId} {args args' : List Value} (h : step P F ev (.call f args) s = .ok out) (hr : Rel P B ρ s w) (hB : B ≤ w.heap.size) (hF : FactsAt P F B ρ w) (hc : czl ρ args = some args') :
    (∃ fn, P.funcs[f]? = some fn ∧ fn.body.isSome = true) ∧ CallsIn Fence.wide 0 P f args'.toArray w (CallPost P B s ρ w out) := by
  simp only [step] at h
  split at h
  · rename_i o ho
    cases h
    exact hF.sum ho hr hB hc
  obtain ⟨fn, hfn, h⟩ := ofOpt_ok h
  split at h
  · rename_i c hb
    obtain ⟨t, h, ht⟩ := putArgs_ok h hc
    have h := natK_ok h
    have hA : RelA ρ ⟨_, t, []⟩ { tmps := args'.toArray ++ Array.replicate (fn.ntmps - args'.toArray.size) undef, defers := [] } := ⟨relT_args (n := fn.ntmps) hc ht, trivial⟩
    split at h
    · rename_i o ho
      refine ⟨⟨fn, hfn, by rw [hb]; rfl⟩, callsIn_of_wp_marks hfn hb trivial ?_⟩
      refine wpIn_mono (hS.code ho hr hB hF hA (r' := none) trivial) fun e act w1 hp => ?_
      obtain ⟨ρ1, h1, h2, h3⟩ := hp
      obtain ⟨rfl | rfl, hl⟩ := end_ok h hr h1 h2 h3 (fun _ _ h => h)
      · exact hl
      · exact hl
    · rename_i c0 p0 ho
      obtain ⟨_, h⟩ : Nat.beq c0 155 = true ∧ _ := bif_ok h
      split at h
      · rename_i os hos
        split at h
        · rename_i fs hfs
          refine ⟨⟨fn, hfn, by rw [hb]; rfl⟩, callsIn_of_wp_marks hfn hb trivial ?_⟩
          have hr0 : Rel P B ρ ⟨s.n, s.n, s.H⟩ w := ⟨hr.obj, hr.inj, hr.dom, hr.fresh, hr.lt, hr.sig⟩
          refine wpIn_mono (codeM_ok hN hS _ c hos hr0 hB hF hA) fun e act w1 hp => ?_
          obtain ⟨o, hom, ρ1, h1, h2, h3⟩ := hp
          obtain ⟨x, hxm, hx⟩ := endsM_ok hfs o hom
          obtain ⟨rfl | rfl, hl⟩ := end_ok hx hr0 h1 h2 h3 (fun _ _ hp => joinM_ok h hr hxm hp)
          · exact hl
          · exact hl
        · cases h
      · cases h
  · cases h

theorem RelT.put {sz i : Nat} {t t1 : Tr Value} {tm : Array Value} {v v' : Value} (ht : RelT ρ sz t tm) (hi : i < sz) (h : ∀ m, t1.get m = if m = i then some v else t.get m) (hv : cz ρ v = some v') : RelT ρ sz t1 (tm.setIfInBounds i v') := by
  refine ⟨by simp [ht.size], fun j u hu => ?_⟩
  rw [h] at hu
  by_cases e : j = i
  · subst e
    rw [if_pos rfl] at hu
    cases hu
    exact ⟨v', hv, by simp [ht.size, hi]⟩
  · rw [if_neg e] at hu
    obtain ⟨u', h3, h4⟩ := ht.get j u hu
    refine ⟨u', h3, ?_⟩
    rw [Array.getElem?_setIfInBounds_ne (Ne.symm e)]
    exact h4

theorem putParams_ok {k : Tr Value → R Out} : ∀ {ps : List Tmp} {args args' : List Value} {sz : Nat} {t : Tr Value} {tm : Array Value}, putParams sz ps args t k = .ok out → czl ρ args = some args' → RelT ρ sz t tm →
    ∃ t', k t' = .ok out ∧ args'.length = ps.length ∧ RelT ρ sz t' ((ps.zip args').foldl (fun tmps p => tmps.setIfInBounds p.1 p.2) tm)
  | [], [], args', sz, t, tm, h, hc, ht => by
    simp only [czl, Option.some.injEq] at hc
    subst hc
    exact ⟨t, h, rfl, ht⟩
  | i :: ps, v :: l, args', sz, t, tm, h, hc, ht => by
    obtain ⟨v', l', h1, h2, rfl⟩ := czl_cons.1 hc
    simp only [putParams] at h
    obtain ⟨hlt, h⟩ := bif_ok h
    obtain ⟨t1, h3, h4⟩ := get_setK _ _ _ _ _ _ h
    obtain ⟨t', h5, h6, h7⟩ := putParams_ok h3 h2 (ht.put (blt_lt hlt) h4 h1)
    exact ⟨t', h5, by simp [h6], by simpa using h7⟩
  | [], _ :: _, _, _, _, _, h, _, _ => by cases h
  | _ :: _, [], _, _, _, _, h, _, _ => by cases h

theorem yield_ok (hS : SelfOk P F ev) {l l' : Nat} {args args' : List Value} (h : step P F ev (.yield l args) s = .ok out) (hr : Rel P B ρ s w) (hB : B ≤ w.heap.size) (hF : FactsAt P F B ρ w) (hl : czB ρ l = some l') (hc : czl ρ args = some args') :
    ∃ f tmps asg bo, (Instr.yield l' args'.toArray).run P w = .ok (.round l' f tmps asg bo) w ∧ RoundIn Fence.wide 0 P l' f tmps asg bo w (CallPost P B s ρ w out) := by
  simp only [step] at h
  have hlb := czB_some.1 hl
  -- what is known of a record at l
  have hrec : ∀ {s1 : ASt} {ρ1 : Ren} {w1 : World}, Rel P B ρ1 s1 w1 → Ext ρ ρ1 → ∀ {st pend fn sz t ps asg bo D}, s1.H.get l = some (.loop st pend fn sz t ps asg bo D) →
      ∃ fnc tm D', RelT ρ1 sz t tm ∧ czB ρ1 D = some D' ∧ w1.heap[l']? = some (.loop { state := st, pending := pend, fn := fnc, tmps := tm, params := ps.toArray, assign := asg, body := bo, defers := D' }) := by
    intro s1 ρ1 w1 hr1 hx st pend fn sz t ps asg bo D hg
    obtain ⟨b, d, c, q1, q2, q3⟩ := hr1.obj _ _ hg
    simp only [OR] at q3
    obtain ⟨q3, fnc, tm, D', q4, q5, rfl⟩ := q3
    have := hx.β _ _ hlb
    rw [q1] at this
    cases this
    exact ⟨fnc, tm, D', q4, q5, q2⟩
  have hput : ∀ {s1 : ASt} {ρ1 : Ren} {w1 : World}, Rel P B ρ1 s1 w1 → Ext ρ ρ1 → ∀ {st pend fn sz t ps asg bo D st' pend' fnc tm D' H}, s1.H.get l = some (.loop st pend fn sz t ps asg bo D) → RelT ρ1 sz t tm → czB ρ1 D = some D' →
      (∀ m, H.get m = if m = l then some (.loop st' pend' fn sz t ps asg bo D) else s1.H.get m) →
      Step P B s1 ρ1 w1 ⟨s1.n, min l s1.low, H⟩ ρ1 (w1.putObj l' (.loop { state := st', pending := pend', fn := fnc, tmps := tm, params := ps.toArray, assign := asg, body := bo, defers := D' })) := by
    intro s1 ρ1 w1 hr1 hx st pend fn sz t ps asg bo D st' pend' fnc tm D' H hg htm hD hH
    have hb := hx.β _ _ hlb
    have hlt := (hr1.lt _ _ _ hb).2
    exact Step.set hr1 hb (by rw [hg]; rfl) hH ⟨rfl, fnc, tm, D', htm, hD, rfl⟩ (World.putObj_heap_same hlt) (fun _ hk => World.putObj_heap_other hk) World.putObj_size rfl rfl rfl
  split at h
  · rename_i st0 pend0 fn0 sz0 t0 ps0 asg0 bo0 D0 hg0
    obtain ⟨fnc, tm, D', q4, q5, q6⟩ := hrec hr (Ext.refl ρ) hg0
    obtain ⟨t', h, hlen, ht'⟩ := putParams_ok h hc q4
    split at h
    · rename_i o ho
      split at h
      · rename_i pend1 fn1 sz1 t1 ps1 asg1 bo1 D1 he hg1
        obtain ⟨H1, hH1, h⟩ := setObjK_ok h
        split at h
        · rename_i o2 ho2
          split at h
          · rename_i st2 pend2 fn2 sz2 t2 ps2 asg2 bo2 D2 hg2
            refine ⟨_, _, _, _, run_yield q6 (by simpa using hlen), roundIn_of_wpIn trivial ?_⟩
            have hA : RelA ρ ⟨sz0, t', []⟩ { tmps := (ps0.toArray.zip args'.toArray).foldl (fun tmps p => tmps.setIfInBounds p.1 p.2) tm, defers := [] } := ⟨by simpa using ht', trivial⟩
            refine wpIn_mono (Q := CodePost P B s ρ w o) (hS.code ho hr hB hF hA (r' := some l') hl) fun e act1 w1 hp => ?_
            obtain ⟨ρ1, p1, p2, p3⟩ := hp
            rw [he] at p3
            rw [exit_normal p3]
            obtain ⟨fnc1, tm1, D1', u4, u5, u6⟩ := hrec p1.rel p1.ext hg1
            have stb := hput p1.rel p1.ext (st' := .busy) (pend' := pend1) (fnc := fnc1) hg1 u4 u5 hH1
            have st1b := Step.trans hr p1 stb
            refine ⟨_, run_beginRound u6 rfl, ?_⟩
            refine wpIn_mono (Q := CodePost P B _ ρ1 _ o2) (hS.code ho2 stb.rel (Nat.le_trans hB st1b.size) (FactsAt.step hr hB st1b hF) p2 (r' := some l') (czB_ext p1.ext hl)) fun e2 act2 w2 hp2 => ?_
            obtain ⟨ρ2, v1, v2, v3⟩ := hp2
            have st12 := Step.trans hr st1b v1
            obtain ⟨fnc2, tm2, D2', x4, x5, x6⟩ := hrec v1.rel st12.ext hg2
            split at h
            · rename_i he2
              rw [he2] at v3
              rw [exit_normal v3]
              obtain ⟨H2, hH2, h⟩ := setObjK_ok h
              cases h
              exact ⟨_, _, run_endRound none x6, _, ρ2, rfl, Step.trans hr st12 (hput v1.rel st12.ext (st' := .ready) (pend' := none) (fnc := fnc2) hg2 x4 x5 hH2), rfl⟩
            · rename_i he2
              rw [he2] at v3
              rw [exit_ret v3]
              obtain ⟨H2, hH2, h⟩ := setObjK_ok h
              cases h
              exact ⟨_, _, run_endRound (some .ret) x6, _, ρ2, rfl, Step.trans hr st12 (hput v1.rel st12.ext (st' := .done) (pend' := some .ret) (fnc := fnc2) hg2 x4 x5 hH2), rfl⟩
            · rename_i i he2
              rw [he2] at v3
              rw [exit_exit v3]
              obtain ⟨H2, hH2, h⟩ := setObjK_ok h
              cases h
              exact ⟨_, _, run_endRound (some (.exit i)) x6, _, ρ2, rfl, Step.trans hr st12 (hput v1.rel st12.ext (st' := .done) (pend' := some (.exit i)) (fnc := fnc2) hg2 x4 x5 hH2), rfl⟩
          · cases h
        · cases h
      · cases h
    · cases h
  · cases h

theorem step_ok (hN : ∀ (g : FuncId) (fn : Func), P.funcs[g]? = some fn → fn.name ≠ "runtime.NumGoroutine") (hD : DrawOk P F) (hS : SelfOk P F ev) : SelfOk P F (step P F ev) where
  code h _ _ _ _ _ hr hB hF ha hro := code_ok hN hD hS h hr hB hF ha hro
  call h _ _ _ _ hr hB hF hc := call_ok hN hS h hr hB hF hc
  yield h _ _ _ _ _ hr hB hF hl hc := yield_ok hS h hr hB hF hl hc

theorem run_ok (hN : ∀ (g : FuncId) (fn : Func), P.funcs[g]? = some fn → fn.name ≠ "runtime.NumGoroutine") (hD : DrawOk P F) : ∀ n, SelfOk P F (run P F n)
  | 0 => ⟨(by intro _ _ _ _ _ _ h; cases h), (by intro _ _ _ _ h; cases h), (by intro _ _ _ _ h; cases h)⟩
  | n + 1 => step_ok hN hD (run_ok hN hD n)
end
end Ae
end Go.Proofs.Ytollflfkgcgdkaa
