/- The abstract evaluator is right: regions that draw their order, and all. -/
import Derived.Test.YtollflfkgcgdkaaAeDraw2
namespace Go.Proofs.Ytollflfkgcgdkaa
open Go Go.RowKit
namespace Ae

section
variable {P : Program} {B : Nat} {ρ : Ren} {s : ASt} {w : World} {o : Oper} {a : AAct} {act : Act} {y : Out} {F : Facts} {ev : Task → ASt → R Out} {r r' : Option Nat} {out : Out} {Q : Exit → Act → World → Prop} {ops : Array Oper}
variable {L : Nat → Nat} {V : Nat → Value} {T : Nat → Tr Value} {S : Nat → ASt} {sz : Nat}

structure Inv (P : Program) (B : Nat) (ρ : Ren) (w : World) (ops : Array Oper) (act : Act) (L : Nat → Nat) (V : Nat → Value) (S : Nat → ASt) (listed : Array Bool) (act' : Act) (ρ' : Ren) (w' : World) (m : Nat) : Prop where
  lsz : listed.size = ops.size
  closed : Closed ops listed
  mle : m ≤ ops.size
  cut : ∀ i, i < ops.size → L i = 2 → (i < m ↔ Listed listed i)
  st : Step P B (S 0) ρ w (S m) ρ' w'
  size : act'.tmps.size = act.tmps.size
  defers : act'.defers = act.defers
  vals : ∀ i o d, ops[i]? = some o → o.dst = some d → Listed listed i → ∃ v', cz ρ' (V i) = some v' ∧ act'.tmps[d]? = some v'
  rest : ∀ d, (∀ i o, ops[i]? = some o → o.dst = some d → ¬ Listed listed i) → act'.tmps[d]? = act.tmps[d]?

theorem listed_set {listed : Array Bool} {i j : Nat} : Listed (listed.setIfInBounds i true) j → j = i ∨ Listed listed j := fun h => by
  by_cases e : j = i
  · exact .inl e
  · right
    unfold Listed at *
    rwa [getD_set_ne false (Ne.symm e)] at h
theorem listed_mono {listed : Array Bool} {i j : Nat} (h : Listed listed j) : Listed (listed.setIfInBounds i true) j := by
  by_cases e : j = i
  · subst e
    unfold Listed at *
    have hlt : j < listed.size := by
      rcases Nat.lt_or_ge j listed.size with g | g
      · exact g
      · rw [Array.getD_eq_getD_getElem?, Array.getElem?_eq_none g] at h; cases h
    simp [Array.getD_eq_getD_getElem?, hlt]
  · unfold Listed at *
    rw [getD_set_ne false (Ne.symm e)]
    exact h
theorem listed_self {listed : Array Bool} {i : Nat} (h : i < listed.size) : Listed (listed.setIfInBounds i true) i := by
  unfold Listed
  simp [Array.getD_eq_getD_getElem?, h]

/-- One operation is done: what holds after. -/
theorem Inv.next (hT : DT P F ev ops sz L V T S) (hsz : act.tmps.size = sz) {listed : Array Bool} {act' : Act} {ρ' ρ'' : Ren} {w' w'' : World} {m m' i : Nat} (h : Inv P B ρ w ops act L V S listed act' ρ' w' m) (hr : Rel P B ρ (S 0) w)
    (hoi : ops[i]? = some o) (hun : ¬ Listed listed i) (hedge : ∀ e ∈ o.after, Region.binds .any e = true → Listed listed e.on) (hm : m' ≤ ops.size)
    (hcut : ∀ j, j < ops.size → L j = 2 → (j < m' ↔ j = i ∨ Listed listed j)) (hst : Step P B (S m) ρ' w' (S m') ρ'' w'') {v' : Value} (hv : cz ρ'' (V i) = some v') :
    Inv P B ρ w ops act L V S (listed.setIfInBounds i true) (act'.put o.dst v') ρ'' w'' m' where
  lsz := by simp [h.lsz]
  closed j oj hj hl e he hb := by
    rcases listed_set hl with rfl | hl
    · rw [hoi] at hj
      cases hj
      exact listed_mono (hedge e he hb)
    · exact listed_mono (h.closed j oj hj hl e he hb)
  mle := hm
  cut j hj hl := (hcut j hj hl).trans ⟨fun g => by
    rcases g with rfl | g
    · exact listed_self (by rw [h.lsz]; exact hj)
    · exact listed_mono g, listed_set⟩
  st := Step.trans hr h.st hst
  size := by
    cases hd : o.dst with
    | none => exact h.size
    | some d => simp [Act.put, h.size]
  defers := by
    cases hd : o.dst with
    | none => exact h.defers
    | some d => exact h.defers
  vals j oj d hj hd hl := by
    by_cases e : j = i
    · subst e
      rw [hoi] at hj
      cases hj
      have hlt := (hT.ent _ _ hoi).1 d hd
      exact ⟨v', hv, by rw [hd]; simp [Act.put, h.size, hsz, hlt]⟩
    · obtain ⟨u, h1, h2⟩ := h.vals j oj d hj hd ((listed_set hl).resolve_left e)
      refine ⟨u, cz_ext hst.ext _ h1, ?_⟩
      rw [← h2]
      cases hd' : o.dst with
      | none => rfl
      | some d' =>
        have hne : d' ≠ d := fun e' => by
          subst e'
          rcases Nat.lt_or_ge i j with g | g
          · exact (hT.words g hoi hj).2.1 _ hd' hd
          · exact (hT.words (by omega) hj hoi).2.1 _ hd hd'
        simp only [Act.put]
        exact Array.getElem?_setIfInBounds_ne hne
  rest d hd := by
    rw [← h.rest d fun j oj hj hdj hl => hd j oj hj hdj (listed_mono hl)]
    cases hd' : o.dst with
    | none => rfl
    | some d' =>
      have hne : d' ≠ d := fun e' => by
        subst e'
        exact hd i o hoi hd' (listed_self (by rw [h.lsz]; exact lt_of_some hoi))
      simp only [Act.put]
      exact Array.getElem?_setIfInBounds_ne hne

theorem any_ok (hN : ∀ (g : FuncId) (fn : Func), P.funcs[g]? = some fn → fn.name ≠ "runtime.NumGoroutine") (hS : SelfOk P F ev) (hT : DT P F ev ops sz L V T S) (hsz : act.tmps.size = sz) (hr : Rel P B ρ (S 0) w) (hB : B ≤ w.heap.size) (hF : FactsAt P F B ρ w) (ht : RelT ρ sz (T 0) act.tmps)
    (hQ : ∀ act' ρ' w', Step P B (S 0) ρ w (S ops.size) ρ' w' → RelT ρ' sz (T ops.size) act'.tmps → act'.defers = act.defers → Q .normal act' w') :
    ∀ (fuel : Nat) {listed : Array Bool} {act' : Act} {ρ' : Ren} {w' : World} {m : Nat} {U : List Nat}, Inv P B ρ w ops act L V S listed act' ρ' w' m → (∀ i, i < ops.size → ¬ Listed listed i → i ∈ U) → U.length ≤ fuel →
      wpAnyIn (FW r') 0 P .any ops Q fuel listed act' w' := by
  -- all are listed
  have done : ∀ {listed : Array Bool} {act' : Act} {ρ' : Ren} {w' : World} {m : Nat}, Inv P B ρ w ops act L V S listed act' ρ' w' m → (∀ i, i < ops.size → Listed listed i) → Q .normal act' w' := by
    intro listed act' ρ' w' m h hall
    have hm : S ops.size = S m := S_const hT h.mle (Nat.le_refl _) fun j h1 h2 h3 => by
      have := (h.cut j h2 h3).2 (hall j h2)
      omega
    refine hQ act' ρ' w' (by rw [hm]; exact h.st) ⟨by rw [h.size, hsz], fun t v hv => ?_⟩ h.defers
    rcases T_get hT (Nat.le_refl _) t with ⟨j, oj, h1, h2, h3, h4⟩ | ⟨h1, h2⟩
    · rw [h4] at hv
      cases hv
      exact h.vals j oj t h2 h3 (hall j h1)
    · rw [h2] at hv
      obtain ⟨v', g1, g2⟩ := ht.get t v hv
      refine ⟨v', cz_ext h.st.ext _ g1, ?_⟩
      rw [h.rest t fun j oj hj hd _ => h1 j oj (lt_of_some hj) hj hd]
      exact g2
  -- where none is ready all are listed
  have all : ∀ {listed : Array Bool}, listed.size = ops.size → Region.ready .any ops listed = [] → ∀ i, i < ops.size → Listed listed i := by
    intro listed hls hrd i
    induction i using Nat.strongRecOn with
    | _ i ih =>
      intro hi
      cases hl : listed.getD i false with
      | true => exact hl
      | false =>
        exfalso
        have hoi : ops[i]? = some ops[i] := Array.getElem?_eq_getElem hi
        have : i ∈ Region.ready .any ops listed := mem_ready.2 ⟨by
          rw [Array.getD_eq_getD_getElem?, Array.getElem?_eq_getElem (by omega)] at hl ⊢
          exact hl, _, hoi, fun e he hb => ih e.on (hT.edge hoi he hb) (Nat.lt_trans (hT.edge hoi he hb) hi)⟩
        rw [hrd] at this
        cases this
  intro fuel
  induction fuel with
  | zero =>
    intro listed act' ρ' w' m U h hU hlen
    have hU0 : U = [] := List.length_eq_zero_iff.1 (Nat.le_zero.1 hlen)
    subst hU0
    have hall : ∀ i, i < ops.size → Listed listed i := fun i hi => Classical.byContradiction fun hn => by cases hU i hi hn
    refine ⟨?_, done h hall⟩
    rw [List.eq_nil_iff_forall_not_mem]
    intro i hi
    obtain ⟨g1, o, g2, g3⟩ := mem_ready.1 hi
    have hlt := lt_of_some g2
    have := hall i hlt
    unfold Listed at this
    rw [Array.getD_eq_getD_getElem?, Array.getElem?_eq_getElem (by rw [h.lsz]; exact hlt)] at this g1
    simp only [Option.getD_some] at this g1
    rw [this] at g1
    cases g1
  | succ fuel ih =>
    intro listed act' ρ' w' m U h hU hlen
    refine ⟨fun hrd => done h (all h.lsz hrd), fun i hi => ?_⟩
    obtain ⟨g1, o, hoi, hedge⟩ := mem_ready.1 hi
    have hlt := lt_of_some hoi
    have hun : ¬ Listed listed i := fun hl => by
      unfold Listed at hl
      rw [Array.getD_eq_getD_getElem?, Array.getElem?_eq_getElem (by rw [h.lsz]; exact hlt)] at hl g1
      simp only [Option.getD_some] at hl g1
      rw [hl] at g1
      cases g1
    have hbit : ∀ j, bef ops j i → Listed listed j := fun j hb => hT.bit h.closed i hoi hedge hb
    have hnot : ∀ k ok, ops[k]? = some ok → bef ops i k → ¬ Listed listed k := fun k ok hk hb hl => hun (hT.bit h.closed k hk (h.closed k ok hk hl) hb)
    -- what comes after
    have next : ∀ {m' : Nat} {ρ'' : Ren} {w'' : World} {v' : Value}, m' ≤ ops.size → (∀ j, j < ops.size → L j = 2 → (j < m' ↔ j = i ∨ Listed listed j)) → Step P B (S m) ρ' w' (S m') ρ'' w'' → cz ρ'' (V i) = some v' →
        wpAnyIn (FW r') 0 P .any ops Q fuel (listed.setIfInBounds i true) (act'.put o.dst v') w'' := fun h1 h2 h3 h4 =>
      ih (U := U.erase i) (h.next hT hsz hr hoi hun hedge h1 h2 h3 h4) (fun j hj hn => by
        have hji : j ≠ i := fun e => hn (by subst e; exact listed_self (by rw [h.lsz]; exact hj))
        exact (List.mem_erase_of_ne hji).2 (hU j hj fun hl => hn (listed_mono hl))) (by
        rw [List.length_erase_of_mem (hU i hlt hun)]; omega)
    -- what it sees
    have view : View ρ' (T i) act' (namesOf ops o) := by
      intro t ht' v hv
      rcases T_get hT (Nat.le_of_lt hlt) t with ⟨j, oj, h1, h2, h3, h4⟩ | ⟨h1, h2⟩
      · rw [h4] at hv
        cases hv
        exact h.vals j oj t h2 h3 (hbit j ((hT.words h1 h2 hoi).1 (.inl ⟨t, h3, ht'⟩)))
      · rw [h2] at hv
        obtain ⟨v', g1, g2⟩ := ht.get t v hv
        refine ⟨v', cz_ext h.st.ext _ g1, ?_⟩
        rw [h.rest t fun k ok hk hd hl => ?_]
        · exact g2
        · rcases Nat.lt_trichotomy k i with g | g | g
          · exact h1 k ok g hk hd
          · subst g; exact hun hl
          · exact hnot k ok hk ((hT.words g hoi hk).1 (.inr ⟨t, hd, ht'⟩)) hl
    have hF' := FactsAt.step hr hB h.st hF
    have hB' := Nat.le_trans hB h.st.size
    have hself : ∀ j, L i ≠ 2 → j < ops.size → L j = 2 → (j < m ↔ j = i ∨ Listed listed j) := fun j hi2 hj hl => by
      rw [h.cut j hj hl]
      exact ⟨.inr, fun g => g.resolve_left fun e => hi2 (e ▸ hl)⟩
    show wpOpIn (FW r') 0 P ops Q i _ act' w'
    unfold wpOpIn
    rw [hoi]
    simp only
    have quiet : ∀ {m1 : Nat}, S m = S m1 → L i ≠ 2 → QuietAt P F ev o (T i) (S m1) (V i) → o.wpIn (FW r') 0 P act' w' (fun a w => wpAnyIn (FW r') 0 P .any ops Q fuel (listed.setIfInBounds i true) a w) Q := by
      intro m1 hSm hl2 ⟨r0, hr0, hv, hlow, hpl⟩
      have hrel : Rel P B ρ' (S m1) w' := by rw [← hSm]; exact h.st.rel
      refine oper_ok hN hS (hrel.relow (l := (S m1).n)) hB' hF' (fun x hx => view_opd view hx) hr0 fun v s1 v' ρ'' w'' k1 k2 k3 => ?_
      unfold outK at k1
      cases k1
      simp only at hv hlow hpl
      have q1 := Step.quiet hrel k2 hlow
      have q2 := quiet_cz hrel k2 hpl k3
      rw [hv] at q2
      have q3 : Step P B (S m) ρ' w' (S m) ρ' w'' := by rw [hSm]; exact q1
      exact next h.mle (fun j hj hl' => hself j hl2 hj hl') q3 q2
    rcases (hT.ent i o hoi).2.2 with ⟨hw, hv, hl, hs⟩ | ⟨hw, hp, hl, hs, r0, hr0, hv⟩ | ⟨hw, hl, hs, hqt⟩ | ⟨hw, hl, r0, hr0, hv, hs⟩
    · rw [if_neg (by rw [view_want view hw]; simp)]
      exact ⟨fun _ _ => trivial, next h.mle (fun j hj hl' => hself j (by omega) hj hl') (Step.refl h.st.rel) (by rw [hv]; simp [undef, cz, cza, czl])⟩
    · rw [if_pos (view_want view hw)]
      obtain ⟨v, v', k1, k2, k3⟩ := pure_ok hF'.ok hp (fun x hx => view_opd view hx) hr0
      have hvv : v = V i := by
        unfold outK at k1
        cases k1
        exact hv
      subst hvv
      have hnd : ∀ c, o.op ≠ .defer c := fun c e => by simp [pureOp, e] at hp
      refine wpIn_of_run hnd ?_
      rw [k3]
      exact next h.mle (fun j hj hl' => hself j (by omega) hj hl') (Step.refl h.st.rel) k2
    · rw [if_pos (view_want view hw)]
      rcases hl with hl | hl
      · have hS0 : S i = S 0 := S_const hT (Nat.zero_le _) (Nat.le_of_lt hlt) fun j _ h2 h3 => (hT.words h2 (Array.getElem?_eq_getElem (Nat.lt_trans h2 hlt)) hoi).2.2.1 ⟨h3, hl⟩
        have hSm : S m = S 0 := S_const hT (Nat.zero_le _) h.mle fun j _ h2 h3 => by
          have hj : j < ops.size := Nat.lt_of_lt_of_le h2 h.mle
          have hlj := (h.cut j hj h3).1 h2
          have hoj : ops[j]? = some ops[j] := Array.getElem?_eq_getElem hj
          rcases Nat.lt_trichotomy j i with g | g | g
          · exact (hT.words g hoj hoi).2.2.1 ⟨h3, hl⟩
          · subst g; exact hun hlj
          · exact hnot j _ hoj ((hT.words g hoi hoj).2.2.2.1 hl h3) hlj
        exact quiet (m1 := i) (hSm.trans hS0.symm) (by omega) hqt
      · refine quiet (m1 := m) rfl (by omega) (hT.read_ok hoi hl h.mle fun j hj hj2 => ⟨fun hlt' hb => ?_, fun hnl hb => ?_⟩)
        · exact hnot j _ (Array.getElem?_eq_getElem hj) hb ((h.cut j hj hj2).1 hlt')
        · exact hnl ((h.cut j hj hj2).2 (hbit j hb))
    · rw [if_pos (view_want view hw)]
      have hmi : m ≤ i := by
        rcases Nat.lt_or_ge i m with g | g
        · exact absurd ((h.cut i hlt hl).1 g) hun
        · exact g
      have hSm : S i = S m := S_const hT hmi (Nat.le_of_lt hlt) fun j h1 h2 h3 => by
        have hj : j < ops.size := Nat.lt_trans h2 hlt
        have hb := (hT.words h2 (Array.getElem?_eq_getElem hj) hoi).2.2.2.2 h3 hl
        have := (h.cut j hj h3).2 (hbit j hb)
        omega
      have hrel : Rel P B ρ' (S i) w' := by rw [hSm]; exact h.st.rel
      refine oper_ok hN hS (hrel.relow (l := (S i).n)) hB' hF' (fun x hx => view_opd view hx) hr0 fun v s1 v' ρ'' w'' k1 k2 k3 => ?_
      unfold outK at k1
      cases k1
      simp only at hv hs
      have q1 := k2.relow
      rw [← hs, hSm] at q1
      rw [hv] at k3
      refine next hlt (fun j hj hl' => ?_) q1 k3
      constructor
      · intro g
        rcases Nat.lt_or_eq_of_le (Nat.le_of_lt_succ g) with g | g
        · exact .inr (hbit j ((hT.words g (Array.getElem?_eq_getElem hj) hoi).2.2.2.2 hl' hl))
        · exact .inl g
      · intro g
        rcases g with rfl | g
        · omega
        · have := (h.cut j hj hl').2 g
          omega

theorem draw_any (hN : ∀ (g : FuncId) (fn : Func), P.funcs[g]? = some fn → fn.name ≠ "runtime.NumGoroutine") {l : List Oper} (hl : ops.toList = l) (hS : SelfOk P F ev) (h : drawA P F ev ops l [] false [(0, s)] [] a s = .ok out)
    (hr : Rel P B ρ s w) (hB : B ≤ w.heap.size) (hF : FactsAt P F B ρ w) (ht : RelT ρ a.sz a.tmps act.tmps)
    (hQ : ∀ act' ρ' w', Step P B s ρ w out.s ρ' w' → RelT ρ' a.sz out.a.tmps act'.tmps → act'.defers = act.defers → out.a.sz = a.sz → out.a.marks = a.marks → out.e = .normal →
      (∀ d, (∀ (i : Nat) (o : Oper), ops[i]? = some o → o.dst ≠ some d) → out.a.tmps.get d = a.tmps.get d) → Q .normal act' w') {fuel : Nat} (hfu : ops.size ≤ fuel) :
    wpAnyIn (FW r') 0 P .any ops Q fuel (Array.replicate ops.size false) act w := by
  subst hl
  obtain ⟨L, V, T, S, stsF, rdF, g1, g2, g3, g4, g5, g6, g7, ⟨g8, g8'⟩, g9, ga, gb, gc, gd⟩ := draw_trace h
  have hT : DT P F ev ops a.sz L V T S := ⟨fun i o hi => g9 i o (by simpa using hi), by simpa using g8, stsF, rdF, by simpa using g8', by rw [g2]; exact ga _ (List.mem_cons_self ..), fun i hi hl => by simpa using gc i (by simpa using hi) hl, fun i o hi hl => by simpa using gd i o (by simpa using hi) hl⟩
  subst g2
  have hnone : ∀ i, ¬ Listed (Array.replicate ops.size false) i := fun i hl => by
    unfold Listed at hl
    rw [Array.getD_eq_getD_getElem?, Array.getElem?_replicate] at hl
    split at hl <;> cases hl
  have g3 : T ops.size = out.a.tmps := by simpa using g3
  have g4 : S ops.size = out.s := by simpa using g4
  refine any_ok hN hS hT ht.size hr hB hF (by rw [g1]; exact ht) (fun act' ρ' w' h1 h2 h3 => ?_) fuel (U := List.range ops.size) (m := 0)
    (ρ' := ρ) ⟨by simp, fun j o hj hl => absurd hl (hnone j), Nat.zero_le _, fun i _ _ => ⟨fun h => by omega, fun h => absurd h (hnone i)⟩, Step.refl hr, rfl, rfl, fun i o d _ _ hl => absurd hl (hnone i), fun _ _ => rfl⟩ (fun i hi _ => List.mem_range.2 hi) (by simpa using hfu)
  refine hQ act' ρ' w' (by rw [← g4]; exact h1) (by rw [← g3]; exact h2) h3 g5 g6 g7 fun d hd => ?_
  rw [← g3, ← g1]
  rcases T_get hT (Nat.le_refl _) d with ⟨j, oj, k1, k2, k3, k4⟩ | ⟨k1, k2⟩
  · exact absurd k3 (hd j oj k2)
  · exact k2
end
end Ae
end Go.Proofs.Ytollflfkgcgdkaa
