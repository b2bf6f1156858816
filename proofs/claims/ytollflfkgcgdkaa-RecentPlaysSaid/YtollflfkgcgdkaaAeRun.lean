/- The abstract evaluator is right: what it says of a call is true. -/
import Derived.Test.YtollflfkgcgdkaaAeCode
import Derived.LoopNIn
namespace Go.Proofs.Ytollflfkgcgdkaa
open Go Go.RowKit
namespace Ae

section
variable {P : Program} {B : Nat} {ρ : Ren} {s : ASt} {w : World} {o : Oper} {a : AAct} {act : Act} {y : Out} {F : Facts} {ev : Task → ASt → R Out} {r r' : Option Nat} {out : Out} {Q : Exit → Act → World → Prop}

theorem post_trans {s1 : ASt} {ρ1 : Ren} {w1 : World} {out : Out} (hr : Rel P B ρ s w) (h : Step P B s ρ w s1 ρ1 w1) {e : Exit} {act : Act} {w2 : World} (h2 : CodePost P B s1 ρ1 w1 out e act w2) : CodePost P B s ρ w out e act w2 := by
  obtain ⟨ρ2, h3, h4, h5⟩ := h2
  exact ⟨ρ2, Step.trans hr h h3, h4, h5⟩

theorem exit_normal {e : Exit} (h : ExitIs .normal e) : e = .normal := by cases e <;> first | rfl | cases h
theorem exit_ret {e : Exit} (h : ExitIs .ret e) : e = .ret := by cases e <;> first | rfl | cases h
theorem exit_exit {e : Exit} {i : Nat} (h : ExitIs (.exit i) e) : e = .exit i := by cases e <;> first | (cases h; rfl) | cases h

theorem loop_ok (hS : SelfOk P F ev) {fn : FuncId} {x : Code} : ∀ {n : Nat} {a : AAct} {s : ASt} {ρ : Ren} {w : World} {act : Act} {out : Out}, loopA (fun a s => ev (.code r fn x a) s) n a s = .ok out → Rel P B ρ s w → B ≤ w.heap.size → FactsAt P F B ρ w → RelA ρ a act → RoundIs ρ r r' →
    Code.roundsIn (FW r') 0 P x (CodePost P B s ρ w out) n act w
  | 0, _, _, _, _, _, _, h, _, _, _, _, _ => by cases h
  | n + 1, a, s, ρ, w, act, out, h, hr, hB, hF, ha, hro => by
    simp only [loopA] at h
    rw [roundsIn_succ]
    split at h
    · rename_i o ho
      refine wpIn_mono (hS.code ho hr hB hF ha hro) fun e act1 w1 hp => ?_
      obtain ⟨ρ1, h1, h2, h3⟩ := hp
      split at h
      · rename_i he
        rw [he] at h3
        rw [exit_normal h3]
        have ih := loop_ok hS h h1.rel (Nat.le_trans hB h1.size) (FactsAt.step hr hB h1 hF) h2 (hro.ext h1.ext)
        show Code.roundsIn (FW r') 0 P x _ n act1 w1
        exact rounds_mono n ih fun e a w hq => post_trans hr h1 hq
      · rename_i e' hne
        cases h
        have hpost : CodePost P B s ρ w ⟨o.e, o.a, undef, o.s⟩ e act1 w1 := ⟨ρ1, h1, h2, h3⟩
        cases e with
        | normal => cases hoe : o.e <;> rw [hoe] at h3 <;> first | exact absurd hoe hne | cases h3
        | exit i => exact hpost
        | ret => exact hpost
        | goto l => exact hpost
        | panic c => exact hpost
        | outgrown => exact hpost
    · cases h
where
  rounds_mono {x : Code} {Q Q' : Exit → Act → World → Prop} : ∀ (n : Nat) {a : Act} {w : World}, Code.roundsIn (FW r') 0 P x Q n a w → (∀ e a w, Q e a w → Q' e a w) → Code.roundsIn (FW r') 0 P x Q' n a w
    | 0, _, _, h, _ => h
    | n + 1, a, w, h, hq => by
      rw [roundsIn_succ] at h ⊢
      refine wpIn_mono h fun e a w he => ?_
      cases e with
      | normal => exact rounds_mono n he hq
      | exit i => exact hq _ _ _ he
      | ret => exact hq _ _ _ he
      | goto l => exact hq _ _ _ he
      | panic c => exact hq _ _ _ he
      | outgrown => exact hq _ _ _ he

theorem putArgs_ok {k : Tr Value → R Out} : ∀ {args args' : List Value} {i : Nat} {t : Tr Value}, putArgs i args t k = .ok out → czl ρ args = some args' →
    ∃ t', k t' = .ok out ∧ ∀ j, (i ≤ j ∧ j < i + args.length → ∃ v v', t'.get j = some v ∧ args'[j - i]? = some v' ∧ cz ρ v = some v') ∧ (¬ (i ≤ j ∧ j < i + args.length) → t'.get j = t.get j)
  | [], args', i, t, h, hc => ⟨t, h, fun j => ⟨fun hj => by simp at hj; omega, fun _ => rfl⟩⟩
  | v :: l, args', i, t, h, hc => by
    obtain ⟨v', l', h1, h2, rfl⟩ := czl_cons.1 hc
    simp only [putArgs] at h
    obtain ⟨t1, h3, h4⟩ := get_setK _ _ _ _ _ _ h
    obtain ⟨t', h5, h6⟩ := putArgs_ok h3 h2
    refine ⟨t', h5, fun j => ⟨fun hj => ?_, fun hj => ?_⟩⟩
    · by_cases e : j = i
      · subst e
        have := (h6 j).2 (by omega)
        rw [h4, if_pos rfl] at this
        exact ⟨v, v', this, by simp, h1⟩
      · have hj2 : i + 1 ≤ j ∧ j < i + 1 + l.length := by simp at hj; omega
        obtain ⟨u, u', g1, g2, g3⟩ := (h6 j).1 hj2
        exact ⟨u, u', g1, by rw [show j - i = j - (i + 1) + 1 by omega]; simpa using g2, g3⟩
    · have := (h6 j).2 (by simp at hj; omega)
      rw [this, h4, if_neg (by simp at hj; omega)]

theorem relT_args {args args' : List Value} {n : Nat} (hc : czl ρ args = some args') {t' : Tr Value}
    (h : ∀ j, (0 ≤ j ∧ j < 0 + args.length → ∃ v v', t'.get j = some v ∧ args'[j - 0]? = some v' ∧ cz ρ v = some v') ∧ (¬ (0 ≤ j ∧ j < 0 + args.length) → t'.get j = (Tr.leaf : Tr Value).get j)) :
    RelT ρ (args.length + (n - args.length)) t' (args'.toArray ++ Array.replicate (n - args'.toArray.size) undef) := by
  have hl := czl_length hc
  refine ⟨by simp [hl], fun i v hv => ?_⟩
  by_cases hi : i < args.length
  · obtain ⟨u, u', g1, g2, g3⟩ := (h i).1 (by omega)
    rw [hv] at g1
    cases g1
    refine ⟨u', g3, ?_⟩
    rw [Array.getElem?_append_left (by simp [hl]; exact hi)]
    simpa using g2
  · have := (h i).2 (by omega)
    rw [hv] at this
    simp [Tr.get] at this

def resF (tmps : Array Value) : ResultVar → Sem Value
  | .tmp t => pure (tmps.getD t undef)
  | .cell a t => do loadVar t (← asAddr (tmps.getD a undef))
theorem results_eq (fn : Func) (tmps : Array Value) : results fn tmps = (do let vs ← fn.results.mapM (resF tmps); pure (if h : vs.size = 1 then vs[0] else .tuple vs)) := by
  unfold results
  congr 1

theorem results_ok (hr : Rel P B ρ s w) {sz : Nat} {t : Tr Value} {tmps : Array Value} (ht : RelT ρ sz t tmps) : ∀ {rs : List ResultVar} {vs : List Value}, resultsA P t s rs = .ok vs →
    ∃ vs', czl ρ vs = some vs' ∧ (rs.mapM (resF tmps)).run P w = .ok vs' w
  | [], vs, h => by cases h; exact ⟨[], by simp [czl], by simp⟩
  | .tmp i :: rs, vs, h => by
    simp only [resultsA] at h
    split at h
    · rename_i v hv
      split at h
      · rename_i vs1 hvs
        cases h
        obtain ⟨vs', h1, h2⟩ := results_ok hr ht hvs
        obtain ⟨v', h3, h4⟩ := ht.get i v hv
        refine ⟨v' :: vs', czl_cons.2 ⟨_, _, h3, h1, rfl⟩, ?_⟩
        have h5 : (resF tmps (.tmp i)).run P w = .ok v' w := by simp [resF, h4]
        simp [List.mapM_cons, h2, h5]
      · cases h
    · cases h
  | .cell i ty :: rs, vs, h => by
    simp only [resultsA] at h
    split at h
    · rename_i ad hv
      split at h
      · rename_i v hld
        split at h
        · rename_i vs1 hvs
          cases h
          obtain ⟨vs', h1, h2⟩ := results_ok hr ht hvs
          obtain ⟨v', h3, h4⟩ := ht.get i _ hv
          simp only [cz, Option.map_eq_some_iff] at h3
          obtain ⟨ad', had, rfl⟩ := h3
          obtain ⟨u', h5, h6⟩ := loadA_ok hr had hld
          refine ⟨u' :: vs', czl_cons.2 ⟨_, _, h5, h1, rfl⟩, ?_⟩
          have h7 : (resF tmps (.cell i ty)).run P w = .ok u' w := by simp [resF, h4, asAddr, h6]
          simp [List.mapM_cons, h2, h7]
        · cases h
      · cases h
    · cases h

theorem marks_ok {fn : Func} {tmps : Array Value} {RR : Ending → World → Prop} {k : ASt → R Out} : ∀ {ms : List Nat} {ds : List Deferred} {s : ASt} {ρ : Ren} {w : World}, dropMarks s ms k = .ok out → Rel P B ρ s w → MarksOk ρ ms ds →
    (∀ s1 w1, k s1 = .ok out → Step P B s ρ w s1 ρ w1 → ∃ v, (results fn tmps).run P w1 = .ok v w1 ∧ RR (.returned v) w1) → LeavesInM Fence.wide 0 P fn tmps RR ds .returning w
  | [], [], s, ρ, w, h, hr, _, hk => hk s w h (Step.refl hr)
  | [], _ :: _, _, _, _, _, _, hm, _ => hm.elim
  | _ :: _, [], _, _, _, _, _, hm, _ => hm.elim
  | D :: ms, d :: ds, s, ρ, w, h, hr, hm, hk => by
    obtain ⟨⟨D', hD, rfl⟩, hm⟩ := hm
    simp only [dropMarks] at h
    split at h
    · rename_i hg
      obtain ⟨H, hH, h⟩ := setObjK_ok h
      obtain ⟨b, d0, c, h1, h2, h3, rfl⟩ := hr.obj D _ hg
      subst h3
      have := czB_some.1 hD
      rw [h1] at this
      cases this
      have hlt := (hr.lt _ _ _ h1).2
      have hst : Step P B s ρ w ⟨s.n, min D s.low, H⟩ ρ (w.putObj _ (.deferred none)) := Step.set hr h1 (by rw [hg]; rfl) hH (c := .deferred none) ⟨rfl, rfl⟩ (World.putObj_heap_same hlt) (fun _ hk => World.putObj_heap_other hk) World.putObj_size rfl rfl rfl
      refine ⟨by simp, .inl ⟨_, _, rfl, run_takeDeferred (by simpa using h2), ?_⟩⟩
      exact marks_ok h hst.rel hm fun s1 w1 hk1 hs1 => hk s1 w1 hk1 (Step.trans hr hst hs1)
    · cases h
end
end Ae
end Go.Proofs.Ytollflfkgcgdkaa
