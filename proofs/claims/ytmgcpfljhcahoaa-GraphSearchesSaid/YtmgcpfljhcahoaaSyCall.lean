/- Symbolic states: code and calls. -/
import Derived.Test.YtmgcpfljhcahoaaSyDraw
import Derived.RangeFuncLeaves
namespace Go.Proofs.Ytmgcpfljhcahoaa
open Go Go.RowKit
namespace Sy
variable {md : Bool}

def ExitIs : Ex → Exit → Prop
  | .normal, .normal => True
  | .exit i, .exit j => i = j
  | .ret, .ret => True
  | _, _ => False
def MarksOk (ρ : Ren) : List Nat → List Deferred → Prop
  | [], [] => True
  | D :: l, d :: ds => (∃ D', ρ.β D = some D' ∧ d = { target := .collected D', args := #[] }) ∧ MarksOk ρ l ds
  | _, _ => False
theorem MarksOk.ext {ρ ρ' : Ren} (h : Ext ρ ρ') : ∀ {l : List Nat} {ds : List Deferred}, MarksOk ρ l ds → MarksOk ρ' l ds
  | [], [], _ => trivial
  | _ :: _, _ :: _, ⟨⟨D', h1, h2⟩, h3⟩ => ⟨⟨D', β_ext h h1, h2⟩, h3.ext h⟩
  | [], _ :: _, h => h.elim
  | _ :: _, [], h => h.elim
theorem MarksOk.cast {ρ : Ren} {φ : Nat → Option Nat} : ∀ {l1 l : List Nat} {ds : List Deferred}, MarksOk ρ l ds → marksC φ l1 l → MarksOk (ρ.comp φ) l1 ds
  | [], [], [], _, _ => trivial
  | i :: l1, D :: l, d :: ds, ⟨⟨D', h1, h2⟩, h3⟩, ⟨h4, h5⟩ => by
    refine ⟨⟨D', ?_, h2⟩, h3.cast h5⟩
    split at h4
    · rename_i i' hi
      have : i' = D := Nat.eq_of_beq_eq_true h4
      subst this
      simp [Ren.comp, hi, h1]
    · exact h4.elim
  | [], _ :: _, _, _, h => h.elim
  | _ :: _, [], _, _, h => h.elim
  | [], [], _ :: _, h, _ => h.elim
  | _ :: _, _ :: _, [], h, _ => h.elim
def CodePost (md : Bool) (pr sz : Nat) (s : St) (ρ : Ren) (w : World) (K : Kont) (e : Exit) (act : Act) (w' : World) : Prop :=
  ∃ e' ms' t' s' ρ', K e' ms' t' s' ∧ Step md pr s ρ w s' ρ' w' ∧ pr ≤ s'.n ∧ RelT ρ' sz t' act.tmps ∧ MarksOk ρ' ms' act.defers ∧ ExitIs e' e
/-- What is to be shown of a code is enough. -/
def CodeOk (md : Bool) (P : Program) (Φ : Con) (C : List Nat) (n : Nat) : Prop := ∀ {Y : Yld} {rd : Bool} {pr sz : Nat} {c : Code} {ms : List Nat} {t : Tr V} {s : St} {ρ : Ren} {w : World} {act : Act} {K : Kont} {r' : Option Nat}, codeP P Φ C n Y rd pr sz c ms t s K → YOk md P Y → codeS c = true → pr ≤ s.n → Rel ρ s w → RelT ρ sz t act.tmps → MarksOk ρ ms act.defers → (rd = false → r' = none) →
  c.wpIn (FW r') 0 P (CodePost md pr sz s ρ w K) act w

def LoopOk (md : Bool) (P : Program) (Φ : Con) (C : List Nat) (n : Nat) : Prop := ∀ {Y : Yld} {rd : Bool} {pr sz : Nat} {x : Code} {ms : List Nat} {t : Tr V} {s : St} {ρ : Ren} {w : World} {act : Act} {K : Kont} {r' : Option Nat}, codeP P Φ C n Y rd pr sz (.loop x) ms t s K → YOk md P Y → codeS x = true → pr ≤ s.n → Rel ρ s w → RelT ρ sz t act.tmps → MarksOk ρ ms act.defers → (rd = false → r' = none) →
  ∀ b k cs, b.roundOf = (FW r').round → (FW r').fn b.fn → (FW r').room (cs.length + 1 + 0) → ∃ e a' w', CodePost md pr sz s ρ w K e a' w' ∧ ArrivesIn (Machine.fenced P (FW r')) P (lone (b.atR act (.code x :: .inLoop x :: k)) cs w) b k cs e a' w'

section
variable {P : Program} {Φ : Con} {C : List Nat} {Y : Yld} {ρ ρ' : Ren} {s s' : St} {w w' : World} {o : Oper} {a act : Act} {t : Tr V} {r' : Option Nat} {Q : Exit → Act → World → Prop} {ops : Array Oper} {pr sz : Nat}

theorem stepR_scope {b : Frame} {k : List Item} {cs : List Frame} {c : Code} : Go.step P (lone (b.atR act (.code (.scope c) :: k)) cs w) = .next (lone (b.atR act (.code c :: .inScope c :: k)) cs w) :=
  step_lone_go (by simp [stepG, stepG.exec, Frame.atR])
theorem stepR_inScope {b : Frame} {k : List Item} {cs : List Frame} {c : Code} : Go.step P (lone (b.atR act (.inScope c :: k)) cs w) = .next (lone (b.atR act k) cs w) :=
  step_lone_go (by simp [stepG, stepG.exec, Frame.atR])
/-- A scope whose code ends in no jump to a label. -/
theorem wpIn_scope {Fc : Fence} {n : Nat} {c : Code} (hg : ∀ l a w, ¬ Q (.goto l) a w) (h : c.wpIn Fc n P Q act w) : (Code.scope c).wpIn Fc n P Q act w := by
  intro b k cs hro hb hr
  have h0 : (lone (b.atR act (.code (.scope c) :: k)) cs w).fenced P Fc := fenced_calm hb hr rfl
  obtain ⟨e, a₁, w₁, hq, harr⟩ := h b (.inScope c :: k) cs hro hb hr
  cases e with
  | normal => exact ⟨.normal, a₁, w₁, hq, .head h0 stepR_scope (StepsIn.trans harr (.one (fenced_calm hb hr rfl) stepR_inScope))⟩
  | exit id =>
    have hx : exitTo id (.inScope c :: k) = exitTo id k := by simp [exitTo]
    exact ⟨.exit id, a₁, w₁, hq, fun k' hk => .head h0 stepR_scope (harr.1 k' (by rw [hx]; exact hk)),
      fun hr' hk => let ⟨k₁, h1, h2⟩ := harr.2 hr' (by rw [hx]; exact hk); ⟨k₁, h1, .head h0 stepR_scope h2⟩⟩
  | goto l => exact (hg _ _ _ hq).elim
  | ret => exact ⟨_, a₁, w₁, hq, .of_steps (.one h0 stepR_scope) harr⟩
  | panic ch => exact ⟨_, a₁, w₁, hq, .of_steps (.one h0 stepR_scope) harr⟩
  | outgrown => exact ⟨_, a₁, w₁, hq, .of_steps (.one h0 stepR_scope) harr⟩

/-- A loop that is under way arrives. -/
def Arr (P : Program) (Fc : Fence) (c : Code) (Q : Exit → Act → World → Prop) (b : Frame) (k : List Item) (cs : List Frame) (act : Act) (w : World) : Prop :=
  ∃ e a' w', Q e a' w' ∧ ArrivesIn (Machine.fenced P Fc) P (lone (b.atR act (.code c :: .inLoop c :: k)) cs w) b k cs e a' w'
theorem wpIn_of_arr {Fc : Fence} {n : Nat} {c : Code} (h : ∀ b k cs, b.roundOf = Fc.round → Fc.fn b.fn → Fc.room (cs.length + 1 + n) → Arr P Fc c Q b k cs act w) : (Code.loop c).wpIn Fc n P Q act w := by
  intro b k cs hro hb hr
  obtain ⟨e, a', w', hq, harr⟩ := h b k cs hro hb hr
  exact ⟨e, a', w', hq, .of_steps (.one (fenced_calm hb hr rfl) stepR_loop) harr⟩
theorem arr_step {Fc : Fence} {n : Nat} {c : Code} {b : Frame} {k : List Item} {cs : List Frame} (hro : b.roundOf = Fc.round) (hb : Fc.fn b.fn) (hr : Fc.room (cs.length + 1 + n)) (h : c.wpIn Fc n P (Exit.then (fun a w => Arr P Fc c Q b k cs a w) Q) act w) : Arr P Fc c Q b k cs act w := by
  obtain ⟨e, a₁, w₁, hq, harr⟩ := h b (.inLoop c :: k) cs hro hb hr
  cases e with
  | normal =>
    obtain ⟨e₂, a₂, w₂, hq₂, harr₂⟩ := hq
    exact ⟨e₂, a₂, w₂, hq₂, .of_steps (StepsIn.trans harr (.one (fenced_calm hb hr rfl) stepR_inLoop)) harr₂⟩
  | exit id => exact ⟨_, a₁, w₁, hq, .pass (x := .inLoop c) rfl (fun _ _ => .inl (by simp)) harr⟩
  | goto l => exact ⟨_, a₁, w₁, hq, .pass (x := .inLoop c) rfl (fun _ _ => .inl (by simp)) harr⟩
  | ret => exact ⟨_, a₁, w₁, hq, .pass (x := .inLoop c) rfl (fun _ _ => .inl (by simp)) harr⟩
  | panic ch => exact ⟨_, a₁, w₁, hq, .pass (x := .inLoop c) rfl (fun _ _ => .inl (by simp)) harr⟩
  | outgrown => exact ⟨_, a₁, w₁, hq, .pass (x := .inLoop c) rfl (fun _ _ => .inl (by simp)) harr⟩
theorem arr_mono {Fc : Fence} {c : Code} {Q' : Exit → Act → World → Prop} {b : Frame} {k : List Item} {cs : List Frame} (h : Arr P Fc c Q b k cs act w) (hq : ∀ e a w, Q e a w → Q' e a w) : Arr P Fc c Q' b k cs act w :=
  let ⟨e, a', w', h1, h2⟩ := h; ⟨e, a', w', hq _ _ _ h1, h2⟩

theorem exit_normal {e : Exit} (h : ExitIs .normal e) : e = .normal := by cases e <;> first | rfl | cases h
theorem exit_ret {e : Exit} (h : ExitIs .ret e) : e = .ret := by cases e <;> first | rfl | cases h
theorem exit_exit {e : Exit} {i : Nat} (h : ExitIs (.exit i) e) : e = .exit i := by cases e <;> first | (cases h; rfl) | cases h

theorem post_trans {s1 : St} {ρ1 : Ren} {w1 : World} {K : Kont} (h : Step md pr s ρ w s1 ρ1 w1) {e : Exit} {act : Act} {w2 : World} (h2 : CodePost md pr sz s1 ρ1 w1 K e act w2) : CodePost md pr sz s ρ w K e act w2 := by
  obtain ⟨e', ms', t', s', ρ', h3, h4, h5⟩ := h2
  exact ⟨e', ms', t', s', ρ', h3, Step.trans h h4, h5⟩
theorem drew (hr : Rel ρ s w) : Step md s.n s ρ w s ρ { w with drawn := w.drawn + 1 } := Step.more hr ⟨rfl, rfl, rfl, Nat.le_refl _, fun _ _ => rfl⟩

/-! Functions -/
theorem putArgs_ok {k : Tr V → Prop} : ∀ {args : List V} {args' : List Value} {i : Nat} {t : Tr V}, putArgs i args t k → czl ρ args = some args' →
    ∃ t', k t' ∧ ∀ j, (i ≤ j ∧ j < i + args.length → ∃ v v', t'.get j = some v ∧ args'[j - i]? = some v' ∧ cz ρ v = some v') ∧ (¬ (i ≤ j ∧ j < i + args.length) → t'.get j = t.get j)
  | [], args', i, t, h, hc => ⟨t, h, fun j => ⟨fun hj => by simp at hj; omega, fun _ => rfl⟩⟩
  | v :: l, args', i, t, h, hc => by
    obtain ⟨v', l', h1, h2, rfl⟩ := czl_cons.1 hc
    simp only [putArgs] at h
    obtain ⟨t1, h3, h4⟩ := Tr.put_get _ _ _ _ _ h
    obtain ⟨t', h5, h6⟩ := putArgs_ok h3 h2
    refine ⟨t', h5, fun j => ⟨fun hj => ?_, fun hj => ?_⟩⟩
    · by_cases e : j = i
      · subst e
        have := (h6 j).2 (by omega)
        rw [h4, if_pos rfl] at this
        exact ⟨v, v', this, by simp, h1⟩
      · have hj2 : i + 1 ≤ j ∧ j < i + 1 + l.length := by simp at hj; omega
        obtain ⟨u, u', g1, g2, g3⟩ := (h6 j).1 hj2
        exact ⟨u, u', g1, by rw [show j - i = j - (i + 1) + 1 by omega]; simpa using g2, g3⟩
    · have := (h6 j).2 (by simp at hj; omega)
      rw [this, h4, if_neg (by simp at hj; omega)]
theorem relT_args {args : List V} {args' : List Value} {n : Nat} (hc : czl ρ args = some args') {t' : Tr V}
    (h : ∀ j, (0 ≤ j ∧ j < 0 + args.length → ∃ v v', t'.get j = some v ∧ args'[j - 0]? = some v' ∧ cz ρ v = some v') ∧ (¬ (0 ≤ j ∧ j < 0 + args.length) → t'.get j = (Tr.leaf : Tr V).get j)) :
    RelT ρ (args.length + (n - args.length)) t' (args'.toArray ++ Array.replicate (n - args'.toArray.size) undef) := by
  have hl := czl_length hc
  refine ⟨by simp [hl], fun i v hv => ?_⟩
  by_cases hi : i < args.length
  · obtain ⟨u, u', g1, g2, g3⟩ := (h i).1 (by omega)
    rw [hv] at g1
    cases g1
    refine ⟨u', g3, ?_⟩
    rw [Array.getElem?_append_left (by simp [hl]; exact hi)]
    simpa using g2
  · have := (h i).2 (by omega)
    rw [hv] at this
    simp [Tr.get] at this

def resF (tmps : Array Value) : ResultVar → Sem Value
  | .tmp t => pure (tmps.getD t undef)
  | .cell a t => do loadVar t (← asAddr (tmps.getD a undef))
theorem results_eq (fn : Func) (tmps : Array Value) : results fn tmps = (do let vs ← fn.results.mapM (resF tmps); pure (if h : vs.size = 1 then vs[0] else .tuple vs)) := by
  unfold results
  congr 1
theorem results_ok (hr : Rel ρ s w) {tmps : Array Value} (ht : RelT ρ sz t tmps) : ∀ {rs : List ResultVar} {K : List V → Prop}, resultsP P t s rs K →
    ∃ vs vs', K vs ∧ czl ρ vs = some vs' ∧ (rs.mapM (resF tmps)).run P w = .ok vs' w
  | [], K, h => ⟨[], [], h, by simp [czl], by simp⟩
  | .tmp i :: rs, K, h => by
    simp only [resultsP] at h
    replace h := withO_ok h; obtain ⟨v, hv, h⟩ := h
    obtain ⟨vs, vs', h0, h1, h2⟩ := results_ok hr ht h
    obtain ⟨v', h3, h4⟩ := ht.get i v hv
    refine ⟨v :: vs, v' :: vs', h0, czl_cons.2 ⟨_, _, h3, h1, rfl⟩, ?_⟩
    have h5 : (resF tmps (.tmp i)).run P w = .ok v' w := by simp [resF, h4]
    simp [List.mapM_cons, h2, h5]
  | .cell i ty :: rs, K, h => by
    simp only [resultsP] at h
    replace h := withO_ok h; obtain ⟨u, hu, h⟩ := h
    obtain ⟨v, h, hld⟩ := loadP_ok h
    obtain ⟨vs, vs', h0, h1, h2⟩ := results_ok hr ht h
    obtain ⟨u', h3, h4⟩ := ht.get i u hu
    obtain ⟨b, q, v', g1, g2, g3⟩ := hld hr h3
    subst g1
    refine ⟨v :: vs, v' :: vs', h0, czl_cons.2 ⟨_, _, g2, h1, rfl⟩, ?_⟩
    have h7 : (resF tmps (.cell i ty)).run P w = .ok v' w := by simp [resF, h4, asAddr, g3]
    simp [List.mapM_cons, h2, h7]

theorem marks_ok {fn : Func} {tmps : Array Value} {RR : Ending → World → Prop} {K : St → Prop} : ∀ {ms : List Nat} {ds : List Deferred} {s : St} {w : World}, marksP ms s K → Rel ρ s w → MarksOk ρ ms ds →
    (∀ s1 w1, K s1 → Step md s.n s ρ w s1 ρ w1 → ∃ v, (results fn tmps).run P w1 = .ok v w1 ∧ RR (.returned v) w1) → LeavesInM Fence.wide 0 P fn tmps RR ds .returning w
  | [], [], s, w, h, hr, _, hk => hk s w h (Step.refl hr)
  | [], _ :: _, _, _, _, _, hm, _ => hm.elim
  | _ :: _, [], _, _, _, _, hm, _ => hm.elim
  | D :: ms, d :: ds, s, w, h, hr, hm, hk => by
    obtain ⟨⟨D', hD, rfl⟩, hm⟩ := hm
    simp only [marksP] at h
    replace h := withO_ok h; obtain ⟨o, hg, h⟩ := h
    split at h
    · replace h := setP_ok h; obtain ⟨H, hH, h⟩ := h
      obtain ⟨b, h1, h2, h3⟩ := hr.obj D _ hg
      rw [hD] at h1
      cases h1
      have hlt := hr.blt _ _ hD
      have st1 : Step md s.n s ρ w ⟨s.n, s.H⟩ ρ w := Step.refl hr
      have hother : ∀ k, ¬ ρ.fp D k → (w.putObj D' (.deferred none)).heap[k]? = w.heap[k]? := fun k hk => World.putObj_heap_other fun e => hk ((h3 k).2 e)
      have hst : Step md s.n s ρ w ⟨s.n, H⟩ ρ (w.putObj D' (.deferred none)) := by
        have hg' : ∀ j oj, H.get j = some oj → j ≠ D ∧ s.H.get j = some oj := fun j oj hj => by
          rw [hH] at hj
          split at hj
          · cases hj
          · exact ⟨by assumption, hj⟩
        refine ⟨fun j _ => Agree.refl ρ j, ⟨fun j oj hj => ?_, fun j k oj ok x hj hk => hr.dis j k oj ok x (hg' j oj hj).2 (hg' k ok hk).2, fun j oj k hj hf => ?_, hr.fresh, fun j oj hj => hr.live j oj (hg' j oj hj).2, hr.sig, fun j b hb => ?_⟩, fun k _ hn => hother k (hn D _ hg), fun j oj k hj hf => .inr ⟨j, oj, (hg' j oj hj).2, hf⟩, ?_, rfl, rfl, rfl, by show min _ _ ≤ s.n; omega, fun _ => Nat.le_refl _⟩
        · exact (hr.obj j oj (hg' j oj hj).2).keep fun k hf => hother k fun g => (hg' j oj hj).1 (hr.dis j D oj _ k (hg' j oj hj).2 hg hf g)
        · rw [World.putObj_size]; exact hr.flt j oj k (hg' j oj hj).2 hf
        · rw [World.putObj_size]; exact hr.blt j b hb
        · rw [World.putObj_size]; exact Nat.le_refl _
      refine ⟨by simp, .inl ⟨_, _, rfl, run_takeDeferred (by simpa using h2), ?_⟩⟩
      exact marks_ok h hst.rel hm fun s1 w1 hk1 hs1 => hk s1 w1 hk1 (Step.trans hst hs1)
    · exact h.elim

theorem end_ok {fn : Func} {ms : List Nat} {s0 : St} {ρ0 : Ren} {w0 : World} {K : V → St → Prop} (h : endP P fn ms t s K) (h0 : Step md s0.n s0 ρ0 w0 s ρ w) (hle : s0.n ≤ s.n) {tmps : Array Value} {ds : List Deferred} (ht : RelT ρ sz t tmps) (hm : MarksOk ρ ms ds) :
    LeavesInM Fence.wide 0 P fn tmps (CallPost md s0 ρ0 w0 K) ds .returning w := by
  unfold endP at h
  refine marks_ok (md := md) h h0.rel hm fun s1 w1 h1 hst => ?_
  obtain ⟨vs, vs', h2, h3, h4⟩ := results_ok hst.rel ht h1
  have st := Step.trans h0 (hst.less hle)
  have hrun : (results fn tmps).run P w1 = .ok (if h : vs'.toArray.size = 1 then vs'.toArray[0] else .tuple vs'.toArray) w1 := by
    rw [results_eq, Array.mapM_eq_mapM_toList]
    simp [h4]
  split at h2
  · rename_i v
    obtain ⟨v', l', g1, g2, rfl⟩ := czl_cons.1 h3
    obtain rfl : l' = [] := by simpa [czl] using g2
    exact ⟨v', by simpa using hrun, v', v, s1, ρ, rfl, h2, st, g1⟩
  · rename_i hne
    have hl := czl_length h3
    have hn : ¬ vs'.toArray.size = 1 := fun e => by
      simp only [List.size_toArray] at e
      rw [e] at hl
      match vs, hl, hne with
      | [v], _, hne => exact hne v rfl
    rw [dif_neg hn] at hrun
    exact ⟨_, hrun, _, _, s1, ρ, rfl, h2, st, by simp only [cz, h3, Option.map_some]⟩

/-- What a function's body does is what a call does. -/
theorem body_ok {n : Nat} (ih : CodeOk md P Φ C n) (hY : YOk md P Y) {f : FuncId} {fn : Func} {c : Code} {args : List V} {args' : List Value} {K : V → St → Prop} (hfn : P.funcs[f]? = some fn) (hb : fn.body = some c) (hS : codeS c = true) (hr : Rel ρ s w) (hc : czl ρ args = some args')
    (h : putArgs 0 args .leaf fun t => lenK args 0 fun k => natP (k + (fn.ntmps - k)) fun sz => codeP P Φ C n Y false s.n sz c [] t s fun e ms t s => match e with
      | .exit _ => False
      | _ => endP P fn ms t s K) : CallsIn Fence.wide 0 P f args'.toArray w (CallPost md s ρ w K) := by
  obtain ⟨t, h, ht⟩ := putArgs_ok h hc
  have h := natP_ok (lenK_ok h)
  rw [Nat.zero_add] at h
  refine callsIn_of_wp_marks hfn hb trivial ?_
  refine wpIn_mono (ih (r' := none) h hY hS (Nat.le_refl _) hr (act := { tmps := args'.toArray ++ Array.replicate (fn.ntmps - args'.toArray.size) undef, defers := [] }) (relT_args (n := fn.ntmps) hc ht) trivial fun _ => rfl) fun e act w1 hq => ?_
  obtain ⟨e', ms1, t1, s1, ρ1, h1, h2, h3, h4, h5, h6⟩ := hq
  cases e' with
  | normal => rw [exit_normal h6]; exact end_ok h1 h2 h3 h4 h5
  | ret => rw [exit_ret h6]; exact end_ok h1 h2 h3 h4 h5
  | exit i => exact h1.elim

theorem RelT.put {i : Nat} {t1 : Tr V} {tm : Array Value} {v : V} {v' : Value} (ht : RelT ρ sz t tm) (hi : i < sz) (h : ∀ m, t1.get m = if m = i then some v else t.get m) (hv : cz ρ v = some v') : RelT ρ sz t1 (tm.setIfInBounds i v') := by
  refine ⟨by simp [ht.size], fun j u hu => ?_⟩
  rw [h] at hu
  by_cases e : j = i
  · subst e
    rw [if_pos rfl] at hu
    cases hu
    exact ⟨v', hv, by simp [ht.size, hi]⟩
  · rw [if_neg e] at hu
    obtain ⟨u', h3, h4⟩ := ht.get j u hu
    refine ⟨u', h3, ?_⟩
    rw [Array.getElem?_setIfInBounds_ne (Ne.symm e)]
    exact h4
theorem putParams_ok {k : Tr V → Prop} : ∀ {ps : List Tmp} {args : List V} {args' : List Value} {t : Tr V} {tm : Array Value}, putParams sz ps args t k → czl ρ args = some args' → RelT ρ sz t tm →
    ∃ t', k t' ∧ args'.length = ps.length ∧ RelT ρ sz t' ((ps.zip args').foldl (fun tmps p => tmps.setIfInBounds p.1 p.2) tm)
  | [], [], args', t, tm, h, hc, ht => by
    simp only [czl, Option.some.injEq] at hc
    subst hc
    exact ⟨t, h, rfl, ht⟩
  | i :: ps, v :: l, args', t, tm, h, hc, ht => by
    obtain ⟨v', l', h1, h2, rfl⟩ := czl_cons.1 hc
    simp only [putParams] at h
    obtain ⟨hlt, h⟩ := need_ok h
    obtain ⟨t1, h3, h4⟩ := Tr.put_get _ _ _ _ _ h
    obtain ⟨t', h5, h6, h7⟩ := putParams_ok h3 h2 (ht.put (blt_lt hlt) h4 h1)
    exact ⟨t', h5, by simp [h6], by simpa using h7⟩
  | [], _ :: _, _, _, _, h, _, _ => h.elim
  | _ :: _, [], _, _, _, h, _, _ => h.elim

/-- A round. -/
theorem yield_ok {n : Nat} (ih : CodeOk md P Φ C n) (hY : YOk md P Y) (l0 : Nat) : YOk md P (yieldP (fun pr sz c => codeP P Φ C n Y true pr sz c) l0) := by
  intro l args s K h ρ w l' args' hr hl hc
  unfold yieldP at h
  obtain ⟨_, h⟩ := need_ok h
  replace h := withO_ok h; obtain ⟨o, hg0, h⟩ := h
  -- what is known of a record at l
  have hrec : ∀ {s1 : St} {ρ1 : Ren} {w1 : World}, Rel ρ1 s1 w1 → ρ1.β l = some l' → ∀ {st pend sz t ps asg bo D}, s1.H.get l = some (.loop st pend sz t ps asg bo D) →
      ∃ fnc tm D', RelT ρ1 sz t tm ∧ ρ1.β D = some D' ∧ w1.heap[l']? = some (.loop { state := st, pending := pend, fn := fnc, tmps := tm, params := ps.toArray, assign := asg, body := bo, defers := D' }) := by
    intro s1 ρ1 w1 hr1 hx st pend sz t ps asg bo D hg
    obtain ⟨b, fnc, tm, D', q1, q2, q3, q4, _⟩ := hr1.obj _ _ hg
    rw [hx] at q1
    cases q1
    exact ⟨fnc, tm, D', q2, q3, q4⟩
  have hput : ∀ {s1 : St} {ρ1 : Ren} {w1 : World}, Rel ρ1 s1 w1 → ρ1.β l = some l' → ∀ {st pend sz t ps asg bo D st' pend' fnc tm D' H}, s1.H.get l = some (.loop st pend sz t ps asg bo D) → RelT ρ1 sz t tm → ρ1.β D = some D' →
      (∀ m, H.get m = if m = l then some (.loop st' pend' sz t ps asg bo D) else s1.H.get m) →
      Step md s1.n s1 ρ1 w1 ⟨s1.n, H⟩ ρ1 (w1.putObj l' (.loop { state := st', pending := pend', fn := fnc, tmps := tm, params := ps.toArray, assign := asg, body := bo, defers := D' })) := by
    intro s1 ρ1 w1 hr1 hx st pend sz t ps asg bo D st' pend' fnc tm D' H hg htm hD hH
    have hlt := hr1.blt _ _ hx
    obtain ⟨b, _, _, _, q1, _, _, _, q5⟩ := hr1.obj _ _ hg
    rw [hx] at q1
    cases q1
    exact Step.set hr1 hg hH ⟨l', fnc, tm, D', hx, htm, hD, World.putObj_heap_same hlt, q5⟩ (fun k hk => World.putObj_heap_other fun e => hk ((q5 k).2 e)) World.putObj_size rfl rfl rfl
  have hll : l < s.n := hr.live _ _ hg0
  split at h
  · rename_i st0 pend0 sz0 t0 ps0 asg0 bo0 D0
    obtain ⟨hSab, h⟩ := need_ok h
    simp only [Bool.and_eq_true] at hSab
    obtain ⟨hSa, hSb⟩ := hSab
    obtain ⟨fnc, tm, D', q4, q5, q6⟩ := hrec hr hl hg0
    obtain ⟨t', h, hlen, ht'⟩ := putParams_ok h hc q4
    refine ⟨_, _, _, _, run_yield q6 (by simpa using hlen), roundIn_of_wpIn trivial ?_⟩
    refine wpIn_mono (ih (r' := some l') h hY hSa (Nat.le_refl _) hr (act := { tmps := (ps0.toArray.zip args'.toArray).foldl (fun tmps p => tmps.setIfInBounds p.1 p.2) tm, defers := [] }) (by simpa using ht') trivial fun e => by cases e) fun e act1 w1 hp => ?_
    obtain ⟨e1, ms1, t1, s1, ρ1, p1, p2, p3, p4, p5, p6⟩ := hp
    have hl1 : ρ1.β l = some l' := (p2.agree l hll).β.trans hl
    split at p1
    · rw [exit_normal p6]
      replace p1 := withO_ok p1; obtain ⟨o1, hg1, p1⟩ := p1
      split at p1
      · rename_i pend1 sz2 t2 ps2 asg2 bo2 D2
        obtain ⟨hb, p1⟩ := need_ok p1
        have hsz : sz0 = sz2 := Nat.eq_of_beq_eq_true hb
        subst hsz
        replace p1 := setP_ok p1; obtain ⟨H1, hH1, p1⟩ := p1
        obtain ⟨fnc1, tm1, D1', u4, u5, u6⟩ := hrec p2.rel hl1 hg1
        have stb := hput p2.rel hl1 (st' := .busy) (pend' := pend1) (fnc := fnc1) hg1 u4 u5 hH1
        have st1b := Step.trans p2 (stb.less p3)
        refine ⟨_, run_beginRound u6 rfl, ?_⟩
        refine wpIn_mono (ih (r' := some l') p1 hY hSb p3 stb.rel p4 p5 fun e => by cases e) fun e2 act2 w2 hp2 => ?_
        obtain ⟨e', ms2, t3, s2, ρ2, v1, v2, v3, v4, v5, v6⟩ := hp2
        have st12 := Step.trans st1b v2
        have hl2 : ρ2.β l = some l' := (st12.agree l hll).β.trans hl
        replace v1 := withO_ok v1; obtain ⟨o2, hg2, v1⟩ := v1
        split at v1
        · rename_i st2 pend2 sz3 t3' ps3 asg3 bo3 D3
          obtain ⟨fnc2, tm2, D2', x4, x5, x6⟩ := hrec v2.rel hl2 hg2
          cases e' with
          | normal =>
            rw [exit_normal v6]
            replace v1 := setP_ok v1; obtain ⟨H2, hH2, v1⟩ := v1
            exact ⟨_, _, run_endRound none x6, _, _, _, ρ2, rfl, v1, Step.trans st12 ((hput v2.rel hl2 (st' := .ready) (pend' := none) (fnc := fnc2) hg2 x4 x5 hH2).less v3), rfl⟩
          | ret =>
            rw [exit_ret v6]
            replace v1 := setP_ok v1; obtain ⟨H2, hH2, v1⟩ := v1
            exact ⟨_, _, run_endRound (some .ret) x6, _, _, _, ρ2, rfl, v1, Step.trans st12 ((hput v2.rel hl2 (st' := .done) (pend' := some .ret) (fnc := fnc2) hg2 x4 x5 hH2).less v3), rfl⟩
          | exit i =>
            rw [exit_exit v6]
            replace v1 := setP_ok v1; obtain ⟨H2, hH2, v1⟩ := v1
            exact ⟨_, _, run_endRound (some (.exit i)) x6, _, _, _, ρ2, rfl, v1, Step.trans st12 ((hput v2.rel hl2 (st' := .done) (pend' := some (.exit i)) (fnc := fnc2) hg2 x4 x5 hH2).less v3), rfl⟩
        · exact v1.elim
      · exact p1.elim
    · exact p1.elim
  · exact h.elim
theorem noYld_ok : YOk md P noYld := fun _ _ _ _ h => h.elim

theorem loop_ok {n : Nat} (ih : CodeOk md P Φ C n) (ihl : LoopOk md P Φ C n) : LoopOk md P Φ C (n + 1) := by
  intro Y rd pr sz x ms t s ρ w act K r' h hY hS hp hr ht hd hrd b k cs hro hb hrm
  have h : codeF P Φ C (codeP P Φ C n) Y rd pr sz (.loop x) ms t s K := h
  simp only [codeF] at h
  show Arr P (FW r') x (CodePost md pr sz s ρ w K) b k cs act w
  rcases h with h | h
  · unfold loopP at h
    split at h
    · obtain ⟨X, T', S', m, G, kk, ⟨x0, L, hG, hc⟩, hkk, hstep⟩ := h
      have hlk : ∀ x, (⟨kk, Tr.ofLO 0 (S' x) .leaf⟩ : St) = locSO (S' x) := fun x => by rw [← Nat.eq_of_beq_eq_true (hkk x)]; rfl
      simp only [hlk] at hstep
      obtain ⟨hc1, hc2⟩ := castL_ok hc
      obtain ⟨T, hT⟩ : ∃ T : X → Tr V, ∀ x, T x = tOf (T' x) := ⟨_, fun _ => rfl⟩
      obtain ⟨S, hS'⟩ : ∃ S : X → St, ∀ x, S x = locSO (S' x) := ⟨_, fun _ => rfl⟩
      simp only [← hT, ← hS'] at hstep hc1 hc2
      have st0 := (Step.refl (md := md) (pr := pr) hr).cast hc1
      have hn1 : pr ≤ (S x0).n := by have := Nat.eq_of_beq_eq_true hc1.1; omega
      have hd0 : ∀ {ρ : Ren} {ds : List Deferred}, MarksOk ρ [] ds → ds = [] := fun h => by
        rename_i ρ ds
        cases ds with
        | nil => rfl
        | cons d ds => exact h.elim
      have rounds : ∀ (j : Nat) (y : X) {ρ1 : Ren} {w1 : World} {act1 : Act}, m y ≤ j → G y → Step md pr s ρ w (S y) ρ1 w1 → pr ≤ (S y).n → RelT ρ1 sz (T y) act1.tmps → act1.defers = [] → Arr P (FW r') x (CodePost md pr sz s ρ w K) b k cs act1 w1 := by
        intro j
        induction j with
        | zero =>
          intro y ρ1 w1 act1 hm hG hst hn ht1 hd1
          refine arr_step hro hb hrm (wpIn_mono (ih (hstep y hG) hY hS hn hst.rel ht1 (by rw [hd1]; trivial) hrd) fun e act2 w2 hq => ?_)
          obtain ⟨e', ms2, t2, s2, ρ2, h1, h2, h3, h4, h5, h6⟩ := hq
          cases e' with
          | normal =>
            cases ms2 with
            | nil => obtain ⟨x', L', hm', _⟩ := h1; omega
            | cons => exact h1.elim
          | exit i => rw [exit_exit h6]; exact ⟨_, ms2, t2, s2, ρ2, h1, Step.trans hst h2, h3, h4, h5, rfl⟩
          | ret => rw [exit_ret h6]; exact ⟨_, ms2, t2, s2, ρ2, h1, Step.trans hst h2, h3, h4, h5, trivial⟩
        | succ j ihk =>
          intro y ρ1 w1 act1 hm hG hst hn ht1 hd1
          refine arr_step hro hb hrm (wpIn_mono (ih (hstep y hG) hY hS hn hst.rel ht1 (by rw [hd1]; trivial) hrd) fun e act2 w2 hq => ?_)
          obtain ⟨e', ms2, t2, s2, ρ2, h1, h2, h3, h4, h5, h6⟩ := hq
          cases e' with
          | normal =>
            cases ms2 with
            | nil =>
              obtain ⟨x', L', hm', hG', hc'⟩ := h1
              obtain ⟨c1, c2⟩ := castL_ok hc'
              rw [← hT] at c2
              rw [← hS'] at c1
              rw [exit_normal h6]
              exact ihk x' (by omega) hG' ((Step.trans hst h2).cast c1) (by have := Nat.eq_of_beq_eq_true c1.1; omega) (h4.cast c2) (hd0 h5)
            | cons => exact h1.elim
          | exit i => rw [exit_exit h6]; exact ⟨_, ms2, t2, s2, ρ2, h1, Step.trans hst h2, h3, h4, h5, rfl⟩
          | ret => rw [exit_ret h6]; exact ⟨_, ms2, t2, s2, ρ2, h1, Step.trans hst h2, h3, h4, h5, trivial⟩
      exact rounds (m x0) x0 (Nat.le_refl _) hG st0 hn1 (ht.cast hc2) (hd0 hd)
    · exact h.elim
  · refine arr_step hro hb hrm (wpIn_mono (ih h hY hS hp hr ht hd hrd) fun e act1 w1 hq => ?_)
    obtain ⟨e', ms1, t1, s1, ρ1, h1, h2, h3, h4, h5, h6⟩ := hq
    cases e' with
    | normal =>
      rw [exit_normal h6]
      exact arr_mono (Q := CodePost md pr sz s1 ρ1 w1 K) (ihl h1 hY hS h3 h2.rel h4 h5 hrd b k cs hro hb hrm) fun e a w hq => post_trans h2 hq
    | exit i =>
      rw [exit_exit h6]
      exact ⟨_, ms1, t1, s1, ρ1, h1, h2, h3, h4, h5, rfl⟩
    | ret =>
      rw [exit_ret h6]
      exact ⟨_, ms1, t1, s1, ρ1, h1, h2, h3, h4, h5, trivial⟩

theorem both_ok (hN : NoGo P) (hmix : P.follows .mixedOrders = true) (hΦ : ConOkM md P Φ) : ∀ (n : Nat), CodeOk md P Φ C n ∧ LoopOk md P Φ C n
  | 0 => ⟨fun h => h.elim, fun h => h.elim⟩
  | n + 1 => by
    obtain ⟨ih, ihl⟩ := both_ok hN hmix hΦ n
    refine ⟨?_, loop_ok ih ihl⟩
    intro Y rd pr sz c ms t s ρ w act K r' h hY hS hp hr ht hd hrd
    have h : codeF P Φ C (codeP P Φ C n) Y rd pr sz c ms t s K := h
    simp only [codeF] at h
    cases c with
    | skip => exact wpIn_skip ⟨_, _, _, _, _, h, Step.refl hr, hp, ht, hd, trivial⟩
    | label l => exact wpIn_label ⟨_, _, _, _, _, h, Step.refl hr, hp, ht, hd, trivial⟩
    | exit id => exact wpIn_exit ⟨_, _, _, _, _, h, Step.refl hr, hp, ht, hd, rfl⟩
    | ret => exact wpIn_ret ⟨_, _, _, _, _, h, Step.refl hr, hp, ht, hd, trivial⟩
    | seq x y =>
      simp only [codeS, Bool.and_eq_true] at hS
      simp only at h
      split at h
      · rename_i hcut
        obtain ⟨X, T', S', G, kk, hkk, h1, hstep⟩ := h
        have hlk : ∀ x, (⟨kk, Tr.ofLO 0 (S' x) .leaf⟩ : St) = locSO (S' x) := fun x => by rw [← Nat.eq_of_beq_eq_true (hkk x)]; rfl
        simp only [hlk] at hstep
        refine wpIn_seq (wpIn_mono (ih h1 hY hS.1 hp hr ht hd hrd) fun e act1 w1 hq => ?_)
        obtain ⟨e', ms1, t1, s1, ρ1, g1, g2, g3, g4, g5, g6⟩ := hq
        cases e' with
        | normal =>
          rw [exit_normal g6]
          cases ms1 with
          | cons => exact g1.elim
          | nil =>
            obtain ⟨x, L, hG, hc⟩ := g1
            obtain ⟨c1, c2⟩ := castL_ok hc
            have st := g2.cast c1
            have hn1 : pr ≤ (locSO (S' x)).n := by have := Nat.eq_of_beq_eq_true c1.1; omega
            have hds : act1.defers = [] := by
              cases hq : act1.defers with
              | nil => rfl
              | cons d ds => rw [hq] at g5; exact g5.elim
            show y.wpIn (FW r') 0 P _ act1 w1
            exact wpIn_mono (ih (hstep x hG) hY hS.2 hn1 st.rel (g4.cast c2) (by rw [hds]; trivial) hrd) fun e a w hq => post_trans st hq
        | exit i => rw [exit_exit g6]; exact ⟨_, ms1, t1, s1, ρ1, g1, g2, g3, g4, g5, rfl⟩
        | ret => rw [exit_ret g6]; exact ⟨_, ms1, t1, s1, ρ1, g1, g2, g3, g4, g5, trivial⟩
      · rename_i hcut
        obtain ⟨X, T', S', M, G, kk, hkk, h1, hstep⟩ := h
        have hlk : ∀ x, (⟨kk, Tr.ofLO 0 (S' x) .leaf⟩ : St) = locSO (S' x) := fun x => by rw [← Nat.eq_of_beq_eq_true (hkk x)]; rfl
        simp only [hlk] at hstep
        refine wpIn_seq (wpIn_mono (ih h1 hY hS.1 hp hr ht hd hrd) fun e act1 w1 hq => ?_)
        obtain ⟨e', ms1, t1, s1, ρ1, g1, g2, g3, g4, g5, g6⟩ := hq
        cases e' with
        | normal =>
          rw [exit_normal g6]
          obtain ⟨x, L, hG, hc, hmk⟩ := g1
          obtain ⟨c1, c2⟩ := castL_ok hc
          have st := g2.cast c1
          have hn1 : pr ≤ (locSO (S' x)).n := by have := Nat.eq_of_beq_eq_true c1.1; omega
          show y.wpIn (FW r') 0 P _ act1 w1
          exact wpIn_mono (ih (hstep x hG) hY hS.2 hn1 st.rel (g4.cast c2) (g5.cast hmk) hrd) fun e a w hq => post_trans st hq
        | exit i => rw [exit_exit g6]; exact ⟨_, ms1, t1, s1, ρ1, g1, g2, g3, g4, g5, rfl⟩
        | ret => rw [exit_ret g6]; exact ⟨_, ms1, t1, s1, ρ1, g1, g2, g3, g4, g5, trivial⟩
      · refine wpIn_seq (wpIn_mono (ih h hY hS.1 hp hr ht hd hrd) fun e act1 w1 hq => ?_)
        obtain ⟨e', ms1, t1, s1, ρ1, h1, h2, h3, h4, h5, h6⟩ := hq
        cases e' with
        | normal =>
          rw [exit_normal h6]
          show y.wpIn (FW r') 0 P _ act1 w1
          exact wpIn_mono (ih h1 hY hS.2 h3 h2.rel h4 h5 hrd) fun e a w hq => post_trans h2 hq
        | exit i =>
          rw [exit_exit h6]
          exact ⟨_, ms1, t1, s1, ρ1, h1, h2, h3, h4, h5, rfl⟩
        | ret =>
          rw [exit_ret h6]
          exact ⟨_, ms1, t1, s1, ρ1, h1, h2, h3, h4, h5, trivial⟩
    | cond c x y =>
      simp only [codeS, Bool.and_eq_true] at hS
      replace h := withO_ok h; obtain ⟨v, hv, h⟩ := h
      have hc := opd_ok ht c v hv
      split at h
      · simp only [cz, Option.some.injEq] at hc
        exact wpIn_cond_true hc.symm (ih h hY hS.1 hp hr ht hd hrd)
      · simp only [cz, Option.some.injEq] at hc
        exact wpIn_cond_false hc.symm (ih h hY hS.2 hp hr ht hd hrd)
      · simp only [cz, Option.some.injEq] at hc
        exact wpIn_cond_split hc.symm (fun e => ih (h.1 e) hY hS.1 hp hr ht hd hrd) (fun e => ih (h.2 e) hY hS.2 hp hr ht hd hrd)
      · exact h.elim
    | block id x =>
      refine wpIn_block (wpIn_mono (ih h hY hS hp hr ht hd hrd) fun e act1 w1 hq => ?_)
      obtain ⟨e', ms1, t1, s1, ρ1, h1, h2, h3, h4, h5, h6⟩ := hq
      cases e' with
      | normal =>
        rw [exit_normal h6]
        exact ⟨_, ms1, t1, s1, ρ1, h1, h2, h3, h4, h5, trivial⟩
      | exit j =>
        rw [exit_exit h6]
        simp only at h1
        split at h1
        · rename_i hj
          have hj' : j = id := Nat.eq_of_beq_eq_true hj
          simp only [Exit.inBlock, if_pos hj']
          exact ⟨_, ms1, t1, s1, ρ1, h1, h2, h3, h4, h5, trivial⟩
        · rename_i hj
          have hj' : ¬ j = id := fun e => by rw [e] at hj; simp at hj
          simp only [Exit.inBlock, if_neg hj']
          exact ⟨_, ms1, t1, s1, ρ1, h1, h2, h3, h4, h5, rfl⟩
      | ret =>
        rw [exit_ret h6]
        exact ⟨_, ms1, t1, s1, ρ1, h1, h2, h3, h4, h5, trivial⟩
    | loop x =>
      refine wpIn_of_arr fun b k cs hro hb hrm => ?_
      exact loop_ok ih ihl h hY hS hp hr ht hd hrd b k cs hro hb hrm
    | scope x =>
      refine wpIn_scope (fun l a w hq => ?_) (ih h hY hS hp hr ht hd hrd)
      obtain ⟨e', _, _, _, _, _, _, _, _, _, h3⟩ := hq
      cases e' <;> cases h3
    | region id ops draw =>
      cases draw with
      | false =>
        refine wpIn_region_list (opsP_ok hN hΦ hY h hr ht fun t' s' ρ' act' w' h1 h2 h4 h5 => ⟨_, ms, t', s', ρ', h1, h2.less hp, Nat.le_trans hp h2.mono, h4, by rw [h5]; exact hd.ext (h2.ext hr (Nat.le_refl _)), trivial⟩)
      | true =>
        have st0 := drew (md := md) hr
        refine wpIn_region_any hmix (drawP_ok hN hΦ hY hS h st0.rel ht (fun t' s' ρ' act' w' h1 h2 h3 h4 => ⟨_, ms, t', s', ρ', h1, ?_, ?_, h3, by rw [h4]; exact hd.ext (h2.ext st0.rel (Nat.le_refl _)), trivial⟩) (Nat.le_refl _))
        · exact (Step.trans st0 h2).less hp
        · have := h2.mono; omega
    | rangeFunc f ps asg body =>
      cases rd with
      | true => exact h.elim
      | false =>
        have hr'0 := hrd rfl
        subst hr'0
        simp only at h
        replace h := withO_ok h; obtain ⟨v, hf, h⟩ := h
        split at h
        · rename_i g fi ca
          replace h := withO_ok h; obtain ⟨gf, hgf, h⟩ := h
          replace h := withO_ok h; obtain ⟨gc, hgc, h⟩ := h
          obtain ⟨hSg, h⟩ := need_ok h
          replace h := newP_ok h; obtain ⟨H1, hH1, h⟩ := h
          replace h := newP_ok h; obtain ⟨H2, hH2, h⟩ := h
          have hfc := opd_ok ht f _ hf
          simp only [cz, fnOk, if_true] at hfc
          cases e1 : czl ρ fi with
          | none => simp [e1] at hfc
          | some fi' => cases e2 : czl ρ ca with
            | none => simp [e1, e2] at hfc
            | some ca' =>
              simp only [e1, e2, Option.some.injEq] at hfc
              refine wpIn_rangeFunc fun fn' _ => ?_
              obtain ⟨W1, hW1⟩ : ∃ W1, W1 = w.alloc (.deferred (some [])) := ⟨_, rfl⟩
              have hs1 : W1.heap.size = w.heap.size + 1 := by rw [hW1, World.size_alloc]
              have st1 : Step md s.n s ρ w ⟨s.n + 1, H1⟩ (ρ.add s.n (some w.heap.size) 0 0 false none (· = w.heap.size)) W1 := by
                subst hW1
                exact Step.new1 hr hH1 ⟨w.heap.size, by simp [Ren.add], heap_alloc_new w _, fun k => by simp [Ren.add]⟩ (fun k hk => Below.heap_alloc w _ k hk) (fun k hk => by subst hk; omega) (fun x hx => by cases hx; omega) (fun x hx => by cases hx) (by omega) rfl rfl rfl
              have hD1 : (ρ.add s.n (some w.heap.size) 0 0 false none (· = w.heap.size)).β s.n = some w.heap.size := by simp [Ren.add]
              obtain ⟨ρ1, hρ1⟩ : ∃ ρ1, ρ1 = ρ.add s.n (some w.heap.size) 0 0 false none (· = w.heap.size) := ⟨_, rfl⟩
              rw [← hρ1] at st1 hD1
              obtain ⟨W2, hW2⟩ : ∃ W2, W2 = W1.alloc (.loop { state := .ready, pending := none, fn := fn', tmps := act.tmps, params := ps, assign := asg, body := body, defers := w.heap.size }) := ⟨_, rfl⟩
              have hs2 : W2.heap.size = W1.heap.size + 1 := by rw [hW2, World.size_alloc]
              obtain ⟨ρ2, hρ2⟩ : ∃ ρ2, ρ2 = ρ1.add (s.n + 1) (some W1.heap.size) 0 0 false none (· = W1.heap.size) := ⟨_, rfl⟩
              have hx2 : Ext ρ1 ρ2 := by rw [hρ2]; exact add_ext (st1.rel.fresh (s.n + 1) (Nat.le_refl _)) _ _ _ _ _ _
              have hl2 : ρ2.β (s.n + 1) = some W1.heap.size := by rw [hρ2]; simp [Ren.add]
              have st2 : Step md (s.n + 1) ⟨s.n + 1, H1⟩ ρ1 W1 ⟨s.n + 1 + 1, H2⟩ ρ2 W2 := by
                subst hW2
                subst hρ2
                exact Step.new1 st1.rel hH2 ⟨W1.heap.size, fn', act.tmps, w.heap.size, by simp [Ren.add], (ht.ext (st1.ext hr (Nat.le_refl _))).ext hx2, β_ext hx2 hD1, by simpa using heap_alloc_new W1 _, fun k => by simp [Ren.add]⟩ (fun k hk => Below.heap_alloc W1 _ k hk) (fun k hk => by subst hk; omega) (fun x hx => by cases hx; omega) (fun x hx => by cases hx) (by omega) rfl rfl rfl
              have st12 := Step.trans st1 (st2.less (Nat.le_succ _))
              have hx12 := st12.ext hr (Nat.le_refl _)
              have hyv : cz ρ2 (.yl (s.n + 1)) = some (.func (.yield W1.heap.size) #[] #[]) := by simp [cz, hl2]
              have hargs := czl_append (czl_ext hx12 fi e1) (czl_cons.2 ⟨_, _, hyv, czl_ext hx12 ca e2, rfl⟩)
              have hcall := body_ok ih (yield_ok ih hY (s.n + 1)) hgf hgc hSg st12.rel hargs h
              have hbn : gf.body.isNone = false := by rw [hgc]; rfl
              have hent := run_enterLoop_outer (P := P) (w := w) fn' act.tmps ps asg body
              rw [← hW1, ← hW2] at hent
              refine ⟨W1.heap.size, [{ target := .collected w.heap.size, args := #[] }], W2, { target := .fn (.func g) ca'.toArray, args := fi'.toArray ++ #[.func (.yield W1.heap.size) #[] #[]] }, W2, g, fi'.toArray ++ #[.func (.yield W1.heap.size) #[] #[]] ++ ca'.toArray, W2, by rw [hs1]; exact hent, ?_, fun _ _ => trivial, ?_, fun hh => by simp [FW, Fence.wide] at hh, ?_⟩
              · have er : rangeCall f W1.heap.size = { callee := .value f, args := #[.const (.func (.yield W1.heap.size) #[] #[])], argTypes := #[] } := rfl
                rw [er]
                have e : ∀ v, act.eval (.const v) = v := fun _ => rfl
                simp [resolve, ← hfc, Deferred.ofValue, e]
              · simp only [invoke, callFunc, Sem.run_bind, run_program, Result.andThen_ok, hgf]
                simp [hN g gf hgf, hbn]
              · have eargs : (fi' ++ (.func (.yield W1.heap.size) #[] #[] :: ca')).toArray = fi'.toArray ++ #[.func (.yield W1.heap.size) #[] #[]] ++ ca'.toArray := by apply Array.toList_inj.1; simp
                rw [eargs] at hcall
                refine CallsIn.mono (F := FW none) (show CallsIn (FW none) (0 - 1) P g _ _ _ from hcall) fun e w3 hp => ?_
                obtain ⟨v', v, s3, ρ3, rfl, hk, st3, hv⟩ := hp
                have st123 := Step.trans st12 (st3.less (by show s.n ≤ s.n + 1 + 1; omega))
                have hx123 := st123.ext hr (Nat.le_refl _)
                have hn3 := st123.mono
                replace hk := withO_ok hk; obtain ⟨ol, hgl, hk⟩ := hk
                split at hk
                · exact hk.elim
                · rename_i stt pend szx tx psx asx box Dx hnb
                  replace hk := setP_ok hk; obtain ⟨H3, hH3, hk⟩ := hk
                  obtain ⟨b, fnc, tm, D', q1, q4, q5, q6, q7⟩ := st3.rel.obj _ _ hgl
                  have hb : b = W1.heap.size := by
                    have := (st3.agree (s.n + 1) (Nat.lt_succ_self _)).β.trans hl2
                    rw [q1] at this
                    cases this
                    rfl
                  subst hb
                  have hlt := st3.rel.blt _ _ q1
                  have st4 : Step md s3.n s3 ρ3 w3 ⟨s3.n, H3⟩ ρ3 (w3.putObj W1.heap.size (.loop { state := .exhausted, pending := pend, fn := fnc, tmps := tm, params := psx.toArray, assign := asx, body := box, defers := D' })) :=
                    Step.set st3.rel hgl hH3 ⟨_, fnc, tm, D', q1, q4, q5, World.putObj_heap_same hlt, q7⟩ (fun k hk => World.putObj_heap_other fun e => hk ((q7 k).2 e)) World.putObj_size rfl rfl rfl
                  have st1234 := Step.trans st123 (st4.less hn3)
                  have hact : RelT ρ3 sz t act.tmps := ht.ext hx123
                  have hmk : MarksOk ρ3 (s.n :: ms) ([{ target := .collected w.heap.size, args := #[] }] ++ act.defers) := ⟨⟨w.heap.size, (st3.agree s.n (by show s.n < s.n + 1 + 1; omega)).β.trans (β_ext hx2 hD1), rfl⟩, hd.ext hx123⟩
                  refine ⟨pend, _, run_endLoop q6 (fun e => hnb e), ?_⟩
                  split at hk
                  · exact ⟨_, _, _, _, ρ3, hk, st1234.less hp, Nat.le_trans hp hn3, hact, hmk, trivial⟩
                  · rename_i c'
                    obtain ⟨hSc, hk⟩ := need_ok hk
                    exact wpIn_mono (ih (act := { act with defers := [{ target := .collected w.heap.size, args := #[] }] ++ act.defers }) hk hY hSc (Nat.le_trans hp hn3) st4.rel hact hmk fun _ => rfl) fun e a w hq => post_trans (st1234.less hp) hq
                · exact hk.elim
        · exact h.elim
    | goto l => exact h.elim
    | refuse m => exact h.elim

theorem code_ok (hN : NoGo P) (hmix : P.follows .mixedOrders = true) (hΦ : ConOkM md P Φ) (n : Nat) : CodeOk md P Φ C n := (both_ok hN hmix hΦ n).1
theorem call_of_body (hN : NoGo P) (hmix : P.follows .mixedOrders = true) (hΦ : ConOkM md P Φ) {f : FuncId} {fn : Func} {c : Code} {args : List V} {K : V → St → Prop} (hfn : P.funcs[f]? = some fn) (hb : fn.body = some c) (hS : codeS c = true) (h : bodyP P Φ C fn c args s K) : CallM md P f args s K := by
  intro ρ w args' hr hc
  refine .inl ⟨⟨fn, hfn, by rw [hb]; rfl⟩, body_ok (code_ok hN hmix hΦ 100000) noYld_ok hfn hb hS hr hc h⟩

/-- The result, under other names. -/
theorem CallT.cast {f : FuncId} {args : List V} {K : V → St → Prop} (h : CallM md P f args s fun v s' => ∃ L v1 s1, K v1 s1 ∧ CastS s.n L s' s1 ∧ matchV (phi s.n s'.n L) v1 v) : CallM md P f args s K := by
  intro ρ w args' hr hc
  have key : ∀ {v' : Value} {v : V} {s' : St} {ρ' : Ren} {w' : World}, (∃ L v1 s1, K v1 s1 ∧ CastS s.n L s' s1 ∧ matchV (phi s.n s'.n L) v1 v) → Step md s.n s ρ w s' ρ' w' → cz ρ' v = some v' → ∃ v s' ρ', K v s' ∧ Step md s.n s ρ w s' ρ' w' ∧ cz ρ' v = some v' :=
    fun ⟨L, v1, s1, h1, h2, h3⟩ hst hv => ⟨v1, s1, _, h1, hst.cast h2, matchV_cz h3 hv⟩
  rcases h hr hc with ⟨h1, h2⟩ | ⟨v', w', h1, v, s', ρ', h2, h3, h4⟩
  · refine .inl ⟨h1, CallsIn.mono h2 fun e w' hp => ?_⟩
    obtain ⟨v', v, s', ρ', rfl, k1, k2, k3⟩ := hp
    obtain ⟨v, s', ρ', q1, q2, q3⟩ := key k1 k2 k3
    exact ⟨v', v, s', ρ', rfl, q1, q2, q3⟩
  · exact .inr ⟨v', w', h1, key h2 h3 h4⟩
theorem CallT.mono {f : FuncId} {args : List V} {K K' : V → St → Prop} (h : CallM md P f args s K) (hK : ∀ v s', K v s' → K' v s') : CallM md P f args s K' := by
  intro ρ w args' hr hc
  rcases h hr hc with ⟨h1, h2⟩ | ⟨v', w', h1, v, s', ρ', h2, h3, h4⟩
  · refine .inl ⟨h1, CallsIn.mono h2 fun e w' hp => ?_⟩
    obtain ⟨v', v, s', ρ', rfl, k1, k2, k3⟩ := hp
    exact ⟨v', v, s', ρ', rfl, hK _ _ k1, k2, k3⟩
  · exact .inr ⟨v', w', h1, v, s', ρ', hK _ _ h2, h3, h4⟩

/-! Tables of contracts -/
def conOf : List (FuncId × (List V → St → (V → St → Prop) → Prop)) → Con
  | [], _, _, _, _ => False
  | (g, T) :: l, f, args, s, K => match Nat.beq f g with
    | true => T args s K
    | false => conOf l f args s K
theorem conOf_nil : ConOkM md P (conOf []) := fun _ _ _ _ h => h.elim
theorem conOf_cons {g : FuncId} {T : List V → St → (V → St → Prop) → Prop} {l : List (FuncId × (List V → St → (V → St → Prop) → Prop))} (hT : ∀ args s K, T args s K → CallM md P g args s K) (hl : ConOkM md P (conOf l)) : ConOkM md P (conOf ((g, T) :: l)) := fun f args s K h => by
  simp only [conOf] at h
  split at h
  · rename_i e
    have e : f = g := Nat.eq_of_beq_eq_true e
    subst e
    intro ρ w args' hr hc
    exact hT _ _ _ h hr hc
  · intro ρ w args' hr hc
    exact hl _ _ _ _ h hr hc
/-- A call, seen through. -/
def inl (P : Program) (Φ : Con) (fn : Func) (args : List V) (s : St) (K : V → St → Prop) : Prop := match fn.body with
  | some c => bodyP P Φ [] fn c args s K
  | none => False
theorem inl_ok (hN : NoGo P) (hmix : P.follows .mixedOrders = true) (hΦ : ConOkM md P Φ) {f : FuncId} {fn : Func} (hfn : P.funcs[f]? = some fn) (hS : (match fn.body with | some c => codeS c | none => true) = true) : ∀ args s K, inl P Φ fn args s K → CallM md P f args s K := fun args s K h => by
  unfold inl at h
  split at h
  · rename_i c hc
    rw [hc] at hS
    exact call_of_body hN hmix hΦ hfn hc hS h
  · exact h.elim

/-! The whole -/
def emptyR : Ren := ⟨fun _ => none, fun _ => 0, fun _ => 0, fun _ => false, fun _ => none, fun _ _ => False⟩
theorem rel_empty (w : World) : Rel emptyR ⟨0, .leaf⟩ w :=
  ⟨fun i o h => by simp [Tr.get] at h, fun i j oi oj k h => by simp [Tr.get] at h, fun i o k h => by simp [Tr.get] at h, fun i _ => ⟨rfl, rfl, rfl⟩, fun i o h => by simp [Tr.get] at h, fun i v h => (by cases h), fun i b h => (by cases h)⟩
end
end Sy
end Go.Proofs.Ytmgcpfljhcahoaa
