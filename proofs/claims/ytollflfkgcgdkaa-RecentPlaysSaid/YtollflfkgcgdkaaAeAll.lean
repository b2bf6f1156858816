/- The abstract evaluator is right, all of it but regions that draw their order, which come in as a hypothesis. -/
import Derived.Test.YtollflfkgcgdkaaAeMulti
namespace Go.Proofs.Ytollflfkgcgdkaa
open Go Go.RowKit
namespace Ae

section
variable {P : Program} {B : Nat} {ρ : Ren} {s : ASt} {w : World} {o : Oper} {a : AAct} {act : Act} {y : Out} {F : Facts} {ev : Task → ASt → R Out} {r r' : Option Nat} {out : Out} {Q : Exit → Act → World → Prop}

/-- A region that draws its order. -/
def DrawOk (P : Program) (F : Facts) : Prop := ∀ ev, SelfOk P F ev → ∀ {id ops a s out}, regionA P F ev ops a s = .ok out → ∀ {B ρ w r' act}, Rel P B ρ s w → B ≤ w.heap.size → FactsAt P F B ρ w → RelA ρ a act →
  (Code.region id ops true).wpIn (FW r') 0 P (CodePost P B s ρ w out) act w

theorem cz_yield {l l' : Nat} (h : czB ρ l = some l') : cz ρ (.func (.yield l) #[] #[]) = some (.func (.yield l') #[] #[]) := by simp [cz, cza, czl, h]

theorem code_ok (hN : ∀ (g : FuncId) (fn : Func), P.funcs[g]? = some fn → fn.name ≠ "runtime.NumGoroutine") (hD : DrawOk P F) (hS : SelfOk P F ev) {fn : FuncId} {c : Code} (h : step P F ev (.code r fn c a) s = .ok out)
    (hr : Rel P B ρ s w) (hB : B ≤ w.heap.size) (hF : FactsAt P F B ρ w) (ha : RelA ρ a act) (hro : RoundIs ρ r r') : c.wpIn (FW r') 0 P (CodePost P B s ρ w out) act w := by
  simp only [step] at h
  cases c with
  | skip => cases h; exact wpIn_skip ⟨ρ, Step.refl hr, ha, trivial⟩
  | label l => cases h; exact wpIn_label ⟨ρ, Step.refl hr, ha, trivial⟩
  | exit id => cases h; exact wpIn_exit ⟨ρ, Step.refl hr, ha, rfl⟩
  | ret => cases h; exact wpIn_ret ⟨ρ, Step.refl hr, ha, trivial⟩
  | seq x z =>
    simp only at h
    split at h
    · rename_i o ho
      refine wpIn_seq (wpIn_mono (hS.code ho hr hB hF ha hro) fun e act1 w1 hp => ?_)
      obtain ⟨ρ1, h1, h2, h3⟩ := hp
      split at h
      · rename_i he
        rw [he] at h3
        rw [exit_normal h3]
        show z.wpIn (FW r') 0 P _ act1 w1
        exact wpIn_mono (hS.code h h1.rel (Nat.le_trans hB h1.size) (FactsAt.step hr hB h1 hF) h2 (hro.ext h1.ext)) fun e a w hq => post_trans hr h1 hq
      · rename_i e' hne
        cases h
        have hpost : CodePost P B s ρ w ⟨o.e, o.a, undef, o.s⟩ e act1 w1 := ⟨ρ1, h1, h2, h3⟩
        cases e with
        | normal => cases hoe : o.e <;> rw [hoe] at h3 <;> first | exact absurd hoe hne | cases h3
        | exit i => exact hpost
        | ret => exact hpost
        | goto l => exact hpost
        | panic c => exact hpost
        | outgrown => exact hpost
    · cases h
  | cond c x z =>
    simp only at h
    split at h
    · rename_i hc
      have := opd_ok ha.t hc
      simp only [cz, Option.some.injEq] at this
      exact wpIn_cond_true this.symm (hS.code h hr hB hF ha hro)
    · rename_i hc
      have := opd_ok ha.t hc
      simp only [cz, Option.some.injEq] at this
      exact wpIn_cond_false this.symm (hS.code h hr hB hF ha hro)
    · cases h
    · cases h
  | block id x =>
    simp only at h
    split at h
    · rename_i o ho
      refine wpIn_block (wpIn_mono (hS.code ho hr hB hF ha hro) fun e act1 w1 hp => ?_)
      obtain ⟨ρ1, h1, h2, h3⟩ := hp
      split at h
      · rename_i j he
        rw [he] at h3
        rw [exit_exit h3]
        cases hj : Nat.beq j id with
        | true =>
          rw [hj, cond_true] at h
          cases h
          have hj' : j = id := by simpa using hj
          simp only [Exit.inBlock, if_pos hj']
          exact ⟨ρ1, h1, h2, trivial⟩
        | false =>
          rw [hj, cond_false] at h
          cases h
          have hj' : ¬ j = id := fun e => by rw [e] at hj; simp at hj
          simp only [Exit.inBlock, if_neg hj']
          exact ⟨ρ1, h1, h2, rfl⟩
      · rename_i e' hne
        cases h
        have hpost : CodePost P B s ρ w ⟨o.e, o.a, undef, o.s⟩ e act1 w1 := ⟨ρ1, h1, h2, h3⟩
        cases e with
        | normal => exact hpost
        | exit i => cases hoe : o.e <;> rw [hoe] at h3 <;> first | exact absurd hoe (hne _) | cases h3
        | ret => exact hpost
        | goto l => exact hpost
        | panic c => exact hpost
        | outgrown => exact hpost
    · cases h
  | loop x => exact wpIn_loop_rounds _ (loop_ok hS h hr hB hF ha hro)
  | region id ops draw =>
    cases draw with
    | false =>
      refine wpIn_region_list (ops_ok hN hS h hr hB hF ha fun ρ' act' w' h1 h2 h3 => ⟨ρ', h1, h2, ?_⟩)
      exact h3
    | true => exact hD ev hS h hr hB hF ha
  | rangeFunc f ps asg body =>
    simp only at h
    split at h
    · rename_i g fi ca hf
      cases r with
      | some l => cases h
      | none =>
        have hr'0 : r' = none := by cases r' with | none => rfl | some x => exact hro.elim
        subst hr'0
        simp only at h
        obtain ⟨H1, hH1, h⟩ := newObjK_ok h
        obtain ⟨H2, hH2, h⟩ := newObjK_ok h
        have hfc := opd_ok ha.t hf
        simp only [cz] at hfc
        cases e1 : cza ρ fi with
        | none => simp [e1] at hfc
        | some fi' => cases e2 : cza ρ ca with
          | none => simp [e1, e2] at hfc
          | some ca' =>
            simp only [e1, e2, Option.some.injEq] at hfc
            refine wpIn_rangeFunc fun fn' _ => ?_
            have st1 := Step.alloc hr hB (o := .deferred true) (c := .deferred (some [])) 0 hH1 ⟨rfl, rfl⟩ (w' := w.alloc (.deferred (some []))) ⟨w.drawn, rfl⟩
            have hf1 := hr.fresh _ (Nat.le_refl s.n)
            have hB1 : B ≤ (w.alloc (.deferred (some []))).heap.size := Nat.le_trans hB st1.size
            have hD1 : czB (ρ.add s.n (w.heap.size, 0) 0) s.n = some w.heap.size := czB_some.2 (by simp [Ren.add])
            have hext2 : Ext (ρ.add s.n (w.heap.size, 0) 0) ((ρ.add s.n (w.heap.size, 0) 0).add (s.n + 1) ((w.alloc (.deferred (some []))).heap.size, 0) 0) := Ext.add (st1.rel.fresh _ (Nat.le_refl _)) _ _
            have st2 := Step.alloc st1.rel hB1 (o := .loop .ready none fn a.sz a.tmps ps.toList asg body s.n)
              (c := .loop { state := .ready, pending := none, fn := fn', tmps := act.tmps, params := ps, assign := asg, body := body, defers := w.heap.size }) 0 hH2
              ⟨rfl, fn', act.tmps, w.heap.size, (ha.t.ext st1.ext).ext hext2, czB_ext hext2 hD1, by simp⟩ (w' := (w.alloc (.deferred (some []))).alloc (.loop { state := .ready, pending := none, fn := fn', tmps := act.tmps, params := ps, assign := asg, body := body, defers := w.heap.size })) ⟨w.drawn, rfl⟩
            have st12 := Step.trans hr st1 st2
            split at h
            · rename_i o ho
              have hl2 : czB ((ρ.add s.n (w.heap.size, 0) 0).add (s.n + 1) ((w.alloc (.deferred (some []))).heap.size, 0) 0) (s.n + 1) = some (w.heap.size + 1) := czB_some.2 (by simp [Ren.add])
              have hyv : cz ((ρ.add s.n (w.heap.size, 0) 0).add (s.n + 1) ((w.alloc (.deferred (some []))).heap.size, 0) 0) (.func (.yield (s.n + 1)) #[] #[]) = some (.func (.yield (w.heap.size + 1)) #[] #[]) := cz_yield hl2
              have hargs := czl_append (cza_toList.1 (cza_ext st12.ext fi e1)) (czl_cons.2 ⟨_, _, hyv, cza_toList.1 (cza_ext st12.ext ca e2), rfl⟩)
              obtain ⟨⟨gf, hgf, hbody⟩, hcall⟩ := hS.call ho st12.rel (Nat.le_trans hB st12.size) (FactsAt.step hr hB st12 hF) hargs
              have hbn : gf.body.isNone = false := by cases hb : gf.body <;> simp_all
              have hent := run_enterLoop_outer (P := P) (w := w) fn' act.tmps ps asg body
              obtain ⟨W, hW⟩ : ∃ W, W = (w.alloc (.deferred (some []))).alloc (.loop { state := .ready, pending := none, fn := fn', tmps := act.tmps, params := ps, assign := asg, body := body, defers := w.heap.size }) := ⟨_, rfl⟩
              rw [← hW] at hent hcall st12
              refine ⟨w.heap.size + 1, [{ target := .collected w.heap.size, args := #[] }], W, { target := .fn (.func g) ca', args := fi' ++ #[.func (.yield (w.heap.size + 1)) #[] #[]] }, W, g, fi' ++ #[.func (.yield (w.heap.size + 1)) #[] #[]] ++ ca', W, hent, ?_, fun _ _ => trivial, ?_, fun hh => by simp [FW, Fence.wide] at hh, ?_⟩
              · have er : rangeCall f (w.heap.size + 1) = { callee := .value f, args := #[.const (.func (.yield (w.heap.size + 1)) #[] #[])], argTypes := #[] } := rfl
                rw [er]
                have e : ∀ v, act.eval (.const v) = v := fun _ => rfl
                simp [resolve, ← hfc, Deferred.ofValue, e]
              · simp only [invoke, callFunc, Sem.run_bind, run_program, Result.andThen_ok, hgf]
                simp [hN g gf hgf, hbn]
              · have eargs : (fi'.toList ++ (.func (.yield (w.heap.size + 1)) #[] #[] :: ca'.toList)).toArray = fi' ++ #[.func (.yield (w.heap.size + 1)) #[] #[]] ++ ca' := by apply Array.toList_inj.1; simp
                rw [eargs] at hcall
                refine CallsIn.mono (F := FW none) (show CallsIn (FW none) (0 - 1) P g _ _ _ from hcall) fun e w3 hp => ?_
                obtain ⟨v', ρ3, rfl, st3, hv⟩ := hp
                have st123 := Step.trans hr st12 st3
                split at h
                · cases h
                · rename_i stt pend fnx szx tx psx asx box Dx hnb hgl
                  obtain ⟨H3, hH3, h⟩ := setObjK_ok h
                  obtain ⟨b, d, c, q1, q2, q3⟩ := st3.rel.obj _ _ hgl
                  simp only [OR] at q3
                  obtain ⟨q3, fnc, tm, D', q4, q5, rfl⟩ := q3
                  subst q3
                  have hb : b = w.heap.size + 1 := by
                    have := st3.ext.β _ _ (czB_some.1 hl2)
                    rw [q1] at this
                    cases this
                    rfl
                  subst hb
                  have hlt := (st3.rel.lt _ _ _ q1).2
                  have st4 := Step.set st3.rel q1 (by rw [hgl]; rfl) hH3 (c := .loop { state := .exhausted, pending := pend, fn := fnc, tmps := tm, params := psx.toArray, assign := asx, body := box, defers := D' }) ⟨rfl, fnc, tm, D', q4, q5, rfl⟩
                    (w' := w3.putObj (w.heap.size + 1) (.loop { state := .exhausted, pending := pend, fn := fnc, tmps := tm, params := psx.toArray, assign := asx, body := box, defers := D' })) (World.putObj_heap_same hlt) (fun _ hk => World.putObj_heap_other hk) World.putObj_size rfl rfl rfl
                  have st1234 := Step.trans hr st123 st4
                  have hact : RelA ρ3 ⟨a.sz, a.tmps, s.n :: a.marks⟩ { act with defers := [{ target := .collected w.heap.size, args := #[] }] ++ act.defers } :=
                    ⟨ha.t.ext st123.ext, ⟨⟨w.heap.size, czB_ext st3.ext (czB_ext hext2 hD1), rfl⟩, ha.m.ext st123.ext⟩⟩
                  refine ⟨pend, _, run_endLoop q2 (fun e => hnb e), ?_⟩
                  split at h
                  · cases h
                    exact ⟨ρ3, st1234, hact, trivial⟩
                  · rename_i c'
                    exact wpIn_mono (hS.code h st4.rel (Nat.le_trans hB st1234.size) (FactsAt.step hr hB st1234 hF) hact trivial) fun e a w hq => post_trans hr st1234 hq
                · cases h
            · cases h
    · cases h
    · cases h
  | scope x =>
    simp only at h
    refine wpIn_scope (fun l a w hp => ?_) (hS.code h hr hB hF ha hro)
    obtain ⟨_, _, _, h3⟩ := hp
    cases ho : out.e <;> rw [ho] at h3 <;> cases h3
  | goto l => cases h
  | refuse m => cases h
end
end Ae
end Go.Proofs.Ytollflfkgcgdkaa
