/- The abstract evaluator is right where code has several outcomes: ranges over maps of several entries. -/
import Derived.Test.YtollflfkgcgdkaaAeRun
import Derived.Test.YtollflfkgcgdkaaAeJoin
namespace Go.Proofs.Ytollflfkgcgdkaa
open Go Go.RowKit
namespace Ae

section
variable {P : Program} {B : Nat} {ρ : Ren} {s : ASt} {w : World} {o : Oper} {a : AAct} {act : Act} {y : Out} {F : Facts} {ev : Task → ASt → R Out} {r r' : Option Nat} {out : Out} {Q : Exit → Act → World → Prop}

theorem stepR_scope {b : Frame} {k : List Item} {cs : List Frame} {c : Code} : Go.step P (lone (b.atR act (.code (.scope c) :: k)) cs w) = .next (lone (b.atR act (.code c :: .inScope c :: k)) cs w) :=
  step_lone_go (by simp [stepG, stepG.exec, Frame.atR])
theorem stepR_inScope {b : Frame} {k : List Item} {cs : List Frame} {c : Code} : Go.step P (lone (b.atR act (.inScope c :: k)) cs w) = .next (lone (b.atR act k) cs w) :=
  step_lone_go (by simp [stepG, stepG.exec, Frame.atR])
/-- A scope whose code ends in no jump to a label. -/
theorem wpIn_scope {Fc : Fence} {n : Nat} {c : Code} (hg : ∀ l a w, ¬ Q (.goto l) a w) (h : c.wpIn Fc n P Q act w) : (Code.scope c).wpIn Fc n P Q act w := by
  intro b k cs hro hb hr
  have h0 : (lone (b.atR act (.code (.scope c) :: k)) cs w).fenced P Fc := fenced_calm hb hr rfl
  obtain ⟨e, a₁, w₁, hq, harr⟩ := h b (.inScope c :: k) cs hro hb hr
  cases e with
  | normal => exact ⟨.normal, a₁, w₁, hq, .head h0 stepR_scope (StepsIn.trans harr (.one (fenced_calm hb hr rfl) stepR_inScope))⟩
  | exit id =>
    have hx : exitTo id (.inScope c :: k) = exitTo id k := by simp [exitTo]
    exact ⟨.exit id, a₁, w₁, hq, fun k' hk => .head h0 stepR_scope (harr.1 k' (by rw [hx]; exact hk)),
      fun hr' hk => let ⟨k₁, h1, h2⟩ := harr.2 hr' (by rw [hx]; exact hk); ⟨k₁, h1, .head h0 stepR_scope h2⟩⟩
  | goto l => exact (hg _ _ _ hq).elim
  | ret => exact ⟨_, a₁, w₁, hq, .of_steps (.one h0 stepR_scope) harr⟩
  | panic ch => exact ⟨_, a₁, w₁, hq, .of_steps (.one h0 stepR_scope) harr⟩
  | outgrown => exact ⟨_, a₁, w₁, hq, .of_steps (.one h0 stepR_scope) harr⟩

def ManyPost (P : Program) (B : Nat) (s : ASt) (ρ : Ren) (w : World) (outs : List Out) (e : Exit) (act : Act) (w' : World) : Prop := ∃ o ∈ outs, CodePost P B s ρ w o e act w'

theorem putTM_ok {β : Type} {d : Option Tmp} {v v' : Value} {k : AAct → R β} {y : β} (ha : RelA ρ a act) (hv : cz ρ v = some v') (h : putTM a d v k = .ok y) : ∃ a1, k a1 = .ok y ∧ RelA ρ a1 (act.put d v') := by
  cases d with
  | none => exact ⟨a, h, ha⟩
  | some d =>
    obtain ⟨hlt, h⟩ := bif_ok h
    obtain ⟨t', h1, h2⟩ := get_setK _ _ _ _ _ _ h
    refine ⟨_, h1, ⟨?_, fun i u hu => ?_⟩, ha.m⟩
    · simp [Act.put, ha.t.size]
    · rw [h2] at hu
      have hd := blt_lt hlt
      by_cases e : i = d
      · subst e
        rw [if_pos rfl] at hu
        cases hu
        exact ⟨v', hv, by simp [Act.put, ha.t.size, hd]⟩
      · rw [if_neg e] at hu
        obtain ⟨u', h3, h4⟩ := ha.t.get i u hu
        refine ⟨u', h3, ?_⟩
        simp only [Act.put]
        rw [Array.getElem?_setIfInBounds_ne (Ne.symm e)]
        exact h4

theorem appK_ok {α β : Type} {y : β} : ∀ {l q : List α} {k : List α → R β}, appK l q k = .ok y → k (l ++ q) = .ok y
  | [], _, _, h => h
  | x :: l, _, k, h => appK_ok (l := l) (k := fun r => k (x :: r)) h
theorem blocksM_ok {β : Type} {y : β} {id : Nat} : ∀ {l : List Out} {k : List Out → R β}, blocksM id l k = .ok y → k (l.map (blockM id)) = .ok y
  | [], _, h => h
  | o :: l, k, h => by
    simp only [blocksM] at h
    exact blocksM_ok (l := l) (k := fun q => k (blockM id o :: q)) h
theorem eachM_ok {α β : Type} {f : α → R (List β)} : ∀ {l : List α} {r : List β}, eachM f l = .ok r → ∀ x ∈ l, ∃ q, f x = .ok q ∧ ∀ z ∈ q, z ∈ r
  | [], _, _, x, hx => by cases hx
  | x0 :: l, r, h, x, hx => by
    simp only [eachM] at h
    split at h
    · rename_i r1 hr1
      split at h
      · rename_i q1 hq1
        have h := appK_ok h
        cases h
        rcases List.mem_cons.1 hx with rfl | hx
        · exact ⟨r1, hr1, fun z hz => List.mem_append_left _ hz⟩
        · obtain ⟨q, g1, g2⟩ := eachM_ok hq1 x hx
          exact ⟨q, g1, fun z hz => List.mem_append_right _ (g2 z hz)⟩
      · cases h
    · cases h

theorem nextsL_ok {it m since c : Nat} {seen : List Nat} : ∀ {l : List MapEntry} {vs : List (Value × ASt)}, nextsL s it m since seen c l = .ok vs → ∀ (k : Nat) (e : MapEntry), l[k]? = some e →
    ∃ H : Tr AObj, (Value.tuple #[.bool true, e.key, e.val], (⟨s.n, min it s.low, H⟩ : ASt)) ∈ vs ∧ ∀ j, H.get j = if j = it then some (.mapIter (some m) since (seen ++ [e.born]) c) else s.H.get j
  | [], _, _, k, e, hk => by simp at hk
  | e0 :: l, vs, h, k, e, hk => by
    simp only [nextsL] at h
    split at h
    · rename_i s1 hs1
      obtain ⟨H, h1, h2⟩ := get_setK _ _ _ _ _ _ hs1
      have h1 := minK_ok (k := fun low => R.ok (⟨s.n, low, H⟩ : ASt)) h1
      cases h1
      split at h
      · rename_i r hr
        cases h
        cases k with
        | zero =>
          simp only [List.getElem?_cons_zero, Option.some.injEq] at hk
          subst hk
          exact ⟨H, List.mem_cons_self .., h2⟩
        | succ k =>
          obtain ⟨H', g1, g2⟩ := nextsL_ok hr k e (by simpa using hk)
          exact ⟨H', List.mem_cons_of_mem _ g1, g2⟩
      · cases h
    · cases h

theorem nexts_ok (hr : Rel P B ρ s w) {x : Operand} (hop : o.op = .next x false) {it : Value} {vs : List (Value × ASt)} (hcz : cz ρ it = some (act.eval x)) (h : nextsA s it = .ok vs) :
    ∃ z ∈ vs, ∃ v' w', (execOp act.eval o).run P w = .ok (.value v') w' ∧ Step P B s ρ w z.2 ρ w' ∧ cz ρ z.1 = some v' := by
  unfold nextsA at h
  split at h
  · rename_i ad
    obtain ⟨hoff, h⟩ := bif_ok h
    have hoff' : ad.off = 0 := by simpa using hoff
    simp only [cz, Option.map_eq_some_iff] at hcz
    obtain ⟨ad', had, hev⟩ := hcz
    obtain ⟨b, d, hsp, hb, rfl⟩ := czA_some.1 had
    split at h
    · rename_i m since seen last hg
      obtain ⟨b', d', c, q1, q2, q3⟩ := hr.obj _ _ hg
      rw [hb] at q1
      cases q1
      obtain ⟨rfl, m', ⟨r', hr', rfl⟩, rfl⟩ := q3
      split at h
      · rename_i es cl hgm
        obtain ⟨bm, es', h1, h2, h3⟩ := hr.map hgm
        have := czB_some.1 hr'
        rw [h1] at this
        cases this
        obtain ⟨hb3, h⟩ := bif_ok h
        simp only [Bool.and_eq_true] at hb3
        obtain ⟨⟨hne, hall⟩, hlen2⟩ := hb3
        have hlen := czes_length h3
        have hany := czes_any (fun n => Nat.blt n last) h3
        have hfil := czes_filter (fun n => !(seen.any (Nat.beq n))) h3
        have hseen : ∀ n, seen.toArray.contains n = seen.any (Nat.beq n) := fun n => by
          rw [Array.contains_eq_any_beq]
          simp only [List.any_toArray]
          congr 1
          funext a
          rw [Bool.eq_iff_iff]
          simp
        have hun : (!seen.toArray.isEmpty && !es'.toArray.isEmpty && es'.toArray.all (fun e => decide (e.born ≥ last))) = false := by
          have e1 : seen.toArray.isEmpty = seen.isEmpty := by simp
          have e2 : es'.toArray.isEmpty = es.isEmpty := by
            cases es with
            | nil => cases es' with
              | nil => rfl
              | cons _ _ => simp at hlen
            | cons _ _ => cases es' with
              | nil => simp at hlen
              | cons _ _ => rfl
          rw [e1, e2]
          simp only [Bool.or_eq_true] at hne
          rcases hne with (g | g) | g
          · simp [g]
          · simp [g]
          · have : es'.toArray.all (fun e => decide (e.born ≥ last)) = false := by
              rw [← hany] at g
              rw [Bool.eq_false_iff]
              intro g2
              rw [List.any_eq_true] at g
              obtain ⟨e, he, hl⟩ := g
              have := blt_lt hl
              rw [Array.all_eq_true_iff_forall_mem] at g2
              have := g2 e (by simpa using he)
              simp at this
              omega
            rw [this]
            simp
        have hleft : es'.toArray.filter (fun e => !seen.toArray.contains e.born) = (es'.filter fun e => !(seen.any (Nat.beq e.born))).toArray := by
          rw [← List.filter_toArray]
          congr 1
          funext e
          rw [hseen]
        generalize hL : es.filter (fun e => !(seen.any (Nat.beq e.born))) = L at h hall hlen2 hfil
        generalize hL' : es'.filter (fun e => !(seen.any (Nat.beq e.born))) = L' at hleft hfil
        have hll := czes_length hfil
        have hlen2 := Nat.le_of_ble_eq_true hlen2
        have hborn : ∀ e ∈ L', e.born < since := fun e he => by
          obtain ⟨k, hk, rfl⟩ := List.mem_iff_getElem.1 he
          have hk1 : L[k]? = some L[k] := List.getElem?_eq_getElem (by omega)
          obtain ⟨v', g1, g2⟩ := czes_get k hfil hk1
          rw [List.getElem?_eq_getElem hk] at g1
          cases g1
          rw [(cze_ok.1 g2).2.2]
          exact blt_lt (List.all_eq_true.1 hall _ (List.getElem_mem (by omega)))
        have hold : L'.toArray.filter (fun e => decide (e.born < since)) = L'.toArray := by
          rw [List.filter_toArray, List.filter_eq_self.2 (fun e he => by simpa using hborn e he)]
        have hnew : L'.toArray.filter (fun e => decide (e.born ≥ since)) = #[] := by
          rw [List.filter_toArray, List.filter_eq_nil_iff.2 (fun e he => by have := hborn e he; simp; omega)]
        have hsz : ¬ L'.length ≤ 1 := by omega
        have hkl : (Question.mapNext L'.length).cut (w.tape w.drawn (.mapNext L'.length)) < L'.length := by
          show (w.tape w.drawn (.mapNext L'.length)) % L'.length < L'.length
          exact Nat.mod_lt _ (by omega)
        generalize hk : (Question.mapNext L'.length).cut (w.tape w.drawn (.mapNext L'.length)) = k at hkl
        have hk1 : L[k]? = some L[k] := List.getElem?_eq_getElem (by omega)
        obtain ⟨e', g1, g2⟩ := czes_get k hfil hk1
        obtain ⟨k1, k2, k3⟩ := cze_ok.1 g2
        obtain ⟨H, hm, hH⟩ := nextsL_ok h k _ hk1
        have hlt := (hr.lt _ _ _ hb).2
        refine ⟨_, hm, .tuple #[.bool true, e'.key, e'.val], { w.putObj b (.mapIter (some r') since (seen ++ [L[k].born]).toArray cl) with drawn := w.drawn + 1 }, ?_,
          Step.set hr hb (by rw [hg]; rfl) hH (c := .mapIter (some r') since (seen ++ [L[k].born]).toArray cl) ⟨rfl, some r', ⟨r', hr', rfl⟩, rfl⟩ (World.putObj_heap_same hlt) (fun _ hk => World.putObj_heap_other hk) World.putObj_size rfl rfl rfl, by simp [cz, cza, czl, k1, k2]⟩
        have hfo : (Question.mapNext L'.length).forced = false := by simp [Question.forced, hsz]
        have hemp : L'.toArray.isEmpty = false := by
          cases L' with
          | nil => simp at hsz
          | cons _ _ => rfl
        have hcand : ((#[] : Array (Option MapEntry)) ++ (L'.toArray ++ #[]).map some) = (L'.map some).toArray := by simp
        simp only [execOp, hop, ← hev, hoff', Nat.zero_add, Instr.next, Sem.run_bind, run_mapIter (P := P) q2, run_getMap (P := P) h2, Result.andThen_ok, hun, Bool.false_eq_true, if_false, hleft, hold, hnew, hemp, hcand]
        simp only [List.size_toArray, List.length_map, Sem.run_bind, run_choose, hfo, Bool.false_eq_true, if_false, Result.andThen_ok, hk, List.getElem?_toArray, List.getElem?_map, g1, Option.map_some]
        rw [run_setIter (P := P) (w := { w with drawn := w.drawn + 1 }) q2]
        simp [k3, World.putObj]
      · cases h
    · cases h
  · cases h

theorem opsM_ok (hN : ∀ (g : FuncId) (fn : Func), P.funcs[g]? = some fn → fn.name ≠ "runtime.NumGoroutine") (hS : SelfOk P F ev) {ops : Array Oper} : ∀ {l : List Oper} {a : AAct} {s : ASt} {ρ : Ren} {w : World} {act : Act} {outs : List Out}, opsM P F ev ops l a s = .ok outs → Rel P B ρ s w → B ≤ w.heap.size → FactsAt P F B ρ w → RelA ρ a act →
    (∀ ρ' act' w' o, o ∈ outs → Step P B s ρ w o.s ρ' w' → RelA ρ' o.a act' → ExitIs o.e .normal → Q .normal act' w') → wpListIn (FW r') 0 P ops Q l act w
  | [], a, s, ρ, w, act, outs, h, hr, _, _, ha, hQ => by
    cases h
    exact hQ ρ act w _ (List.mem_cons_self ..) (Step.refl hr) ha trivial
  | o :: l, a, s, ρ, w, act, outs, h, hr, hB, hF, ha, hQ => by
    simp only [opsM] at h
    unfold wpListIn
    split at h
    · rename_i hw
      rw [if_pos (wantA_ok ha hw)]
      split at h
      · rename_i r0 hr0
        refine oper_ok hN hS hr hB hF (fun z _ => opdOk_of ha z) hr0 fun v s1 v' ρ' w' hk hst hv => ?_
        unfold outK at hk
        cases hk
        obtain ⟨a1, hk, ha1⟩ := putTM_ok (ha.ext hst.ext) hv h
        exact opsM_ok hN hS hk hst.rel (Nat.le_trans hB hst.size) (FactsAt.step hr hB hst hF) ha1 fun ρ2 act2 w2 o2 ho2 hst2 ha2 he => hQ ρ2 act2 w2 o2 ho2 (Step.trans hr hst hst2) ha2 he
      · split at h
        · rename_i x hop
          split at h
          · rename_i it hit
            split at h
            · rename_i vs hvs
              obtain ⟨z, hz, v', w', k1, k2, k3⟩ := nexts_ok hr hop (opdOk_of ha x _ hit) hvs
              obtain ⟨q, hq, hsub⟩ := eachM_ok h z hz
              refine wpIn_of_run (fun c e => by rw [hop] at e; cases e) ?_
              rw [k1]
              obtain ⟨a1, hk, ha1⟩ := putTM_ok (ha.ext k2.ext) k3 hq
              exact opsM_ok hN hS hk k2.rel (Nat.le_trans hB k2.size) (FactsAt.step hr hB k2 hF) ha1 fun ρ2 act2 w2 o2 ho2 hst2 ha2 he => hQ ρ2 act2 w2 o2 (hsub _ ho2) (Step.trans hr k2 hst2) ha2 he
            · cases h
          · cases h
        · cases h
    · rename_i hw
      rw [if_neg (by rw [wantA_ok ha hw]; simp)]
      obtain ⟨a1, hk, ha1⟩ := putTM_ok ha (v' := undef) (by simp [undef, cz, cza, czl]) h
      exact ⟨fun _ _ => trivial, opsM_ok hN hS hk hr hB hF ha1 hQ⟩
    · cases h

/-- What code with several outcomes leads to. -/
def ManyOk (P : Program) (F : Facts) (x : Code) (evm : AAct → ASt → R (List Out)) : Prop := ∀ {a s outs}, evm a s = .ok outs → ∀ {B ρ w act}, Rel P B ρ s w → B ≤ w.heap.size → FactsAt P F B ρ w → RelA ρ a act → x.wpIn (FW none) 0 P (ManyPost P B s ρ w outs) act w

theorem go_many {B : Nat} {s : ASt} {ρ : Ren} {w : World} {os outs : List Out} {f : Out → R (List Out)} (h : eachM (goM f) os = .ok outs) {K : Act → World → Prop} {Q : Exit → Act → World → Prop}
    {e : Exit} {act1 : Act} {w1 : World} (hp : ManyPost P B s ρ w os e act1 w1)
    (hn : ∀ o q ρ1, f o = .ok q → (∀ z ∈ q, z ∈ outs) → Step P B s ρ w o.s ρ1 w1 → RelA ρ1 o.a act1 → K act1 w1) (hq : ∀ e a w', ManyPost P B s ρ w outs e a w' → Q e a w') : Exit.then K Q e act1 w1 := by
  obtain ⟨⟨eo, ao, vo, so⟩, ho, ρ1, h1, h2, h3⟩ := hp
  obtain ⟨q, hqq, hsub⟩ := eachM_ok h _ ho
  cases eo with
  | normal =>
    rw [exit_normal h3]
    exact hn _ q ρ1 hqq hsub h1 h2
  | exit i =>
    have hqq : R.ok [(⟨.exit i, ao, undef, so⟩ : Out)] = .ok q := hqq
    cases hqq
    rw [exit_exit h3]
    exact hq _ _ _ ⟨_, hsub _ (List.mem_cons_self ..), ρ1, h1, h2, rfl⟩
  | ret =>
    have hqq : R.ok [(⟨.ret, ao, undef, so⟩ : Out)] = .ok q := hqq
    cases hqq
    rw [exit_ret h3]
    exact hq _ _ _ ⟨_, hsub _ (List.mem_cons_self ..), ρ1, h1, h2, trivial⟩

theorem many_trans {s1 : ASt} {ρ1 : Ren} {w1 : World} {q outs : List Out} (hr : Rel P B ρ s w) (h : Step P B s ρ w s1 ρ1 w1) (hsub : ∀ z ∈ q, z ∈ outs) {e : Exit} {act : Act} {w2 : World} (h2 : ManyPost P B s1 ρ1 w1 q e act w2) : ManyPost P B s ρ w outs e act w2 := by
  obtain ⟨o, ho, hp⟩ := h2
  exact ⟨o, hsub _ ho, post_trans hr h hp⟩

theorem loopM_ok {x : Code} {evm : AAct → ASt → R (List Out)} (ih : ManyOk P F x evm) : ∀ {n : Nat} {a : AAct} {s : ASt} {ρ : Ren} {w : World} {act : Act} {outs : List Out}, loopM evm n a s = .ok outs → Rel P B ρ s w → B ≤ w.heap.size → FactsAt P F B ρ w → RelA ρ a act →
    Code.roundsIn (FW none) 0 P x (ManyPost P B s ρ w outs) n act w
  | 0, _, _, _, _, _, _, h, _, _, _, _ => by cases h
  | n + 1, a, s, ρ, w, act, outs, h, hr, hB, hF, ha => by
    simp only [loopM] at h
    rw [roundsIn_succ]
    split at h
    · rename_i os hos
      refine wpIn_mono (ih hos hr hB hF ha) fun e act1 w1 hp => go_many h hp (fun o q ρ1 hq hsub h1 h2 => ?_) fun _ _ _ h => h
      exact loop_ok.rounds_mono n (loopM_ok ih hq h1.rel (Nat.le_trans hB h1.size) (FactsAt.step hr hB h1 hF) h2) fun e a w hp => many_trans hr h1 hsub hp
    · cases h

theorem codeM_ok (hN : ∀ (g : FuncId) (fn : Func), P.funcs[g]? = some fn → fn.name ≠ "runtime.NumGoroutine") (hS : SelfOk P F ev) {fn : FuncId} : ∀ (n : Nat) (c : Code), ManyOk P F c (codeM P F ev fn n c) := by
  have leaf : ∀ (c : Code) {a s outs}, (match ev (.code none fn c a) s with | .ok o => R.ok [o] | .err c p => .err c p) = .ok outs → ∀ {B ρ w act}, Rel P B ρ s w → B ≤ w.heap.size → FactsAt P F B ρ w → RelA ρ a act → c.wpIn (FW none) 0 P (ManyPost P B s ρ w outs) act w := by
    intro c a s outs h B ρ w act hr hB hF ha
    split at h
    · rename_i o ho
      cases h
      exact wpIn_mono (hS.code ho hr hB hF ha (r' := none) trivial) fun e act w' hp => ⟨o, List.mem_cons_self .., hp⟩
    · cases h
  intro n
  induction n with
  | zero => intro c a s outs h; cases h
  | succ n ih =>
  intro c
  cases c with
  | seq x z =>
    intro a s outs h B ρ w act hr hB hF ha
    simp only [codeM] at h
    split at h
    · rename_i os hos
      refine wpIn_seq (wpIn_mono (ih x hos hr hB hF ha) fun e act1 w1 hp => go_many h hp (fun o q ρ1 hq hsub h1 h2 => ?_) fun _ _ _ h => h)
      exact wpIn_mono (ih z hq h1.rel (Nat.le_trans hB h1.size) (FactsAt.step hr hB h1 hF) h2) fun e a w hp => many_trans hr h1 hsub hp
    · cases h
  | cond c x z =>
    intro a s outs h B ρ w act hr hB hF ha
    simp only [codeM] at h
    split at h
    · rename_i hc
      have := opd_ok ha.t hc
      simp only [cz, Option.some.injEq] at this
      exact wpIn_cond_true this.symm (ih x h hr hB hF ha)
    · rename_i hc
      have := opd_ok ha.t hc
      simp only [cz, Option.some.injEq] at this
      exact wpIn_cond_false this.symm (ih z h hr hB hF ha)
    · cases h
    · cases h
  | block id x =>
    intro a s outs h B ρ w act hr hB hF ha
    simp only [codeM] at h
    split at h
    · rename_i os hos
      have h := blocksM_ok h
      cases h
      refine wpIn_block (wpIn_mono (ih x hos hr hB hF ha) fun e act1 w1 hp => ?_)
      obtain ⟨⟨eo, ao, vo, so⟩, ho, ρ1, h1, h2, h3⟩ := hp
      have hm : blockM id ⟨eo, ao, vo, so⟩ ∈ os.map (blockM id) := List.mem_map_of_mem ho
      cases eo with
      | exit j =>
        rw [exit_exit h3]
        cases hj : Nat.beq j id with
        | true =>
          have hj' : j = id := by simpa using hj
          have hbm : blockM id ⟨.exit j, ao, vo, so⟩ = ⟨.normal, ao, undef, so⟩ := by simp [blockM, hj]
          rw [hbm] at hm
          simp only [Exit.inBlock, if_pos hj']
          exact ⟨_, hm, ρ1, h1, h2, trivial⟩
        | false =>
          have hj' : ¬ j = id := fun e => by rw [e] at hj; simp at hj
          have hbm : blockM id ⟨.exit j, ao, vo, so⟩ = ⟨.exit j, ao, undef, so⟩ := by simp [blockM, hj]
          rw [hbm] at hm
          simp only [Exit.inBlock, if_neg hj']
          exact ⟨_, hm, ρ1, h1, h2, rfl⟩
      | normal =>
        rw [exit_normal h3]
        exact ⟨_, hm, ρ1, h1, h2, trivial⟩
      | ret =>
        rw [exit_ret h3]
        exact ⟨_, hm, ρ1, h1, h2, trivial⟩
    · cases h
  | scope x =>
    intro a s outs h B ρ w act hr hB hF ha
    simp only [codeM] at h
    refine wpIn_scope (fun l a w hp => ?_) (ih x h hr hB hF ha)
    obtain ⟨o, _, _, _, _, h3⟩ := hp
    cases ho : o.e <;> rw [ho] at h3 <;> cases h3
  | loop x =>
    intro a s outs h B ρ w act hr hB hF ha
    simp only [codeM] at h
    exact wpIn_loop_rounds _ (loopM_ok (F := F) (evm := fun a s => codeM P F ev fn n x a s) (ih x) h hr hB hF ha)
  | region id ops draw =>
    cases draw with
    | false =>
      intro a s outs h B ρ w act hr hB hF ha
      simp only [codeM] at h
      exact wpIn_region_list (opsM_ok hN hS h hr hB hF ha fun ρ' act' w' o ho h1 h2 h3 => ⟨o, ho, ρ', h1, h2, h3⟩)
    | true =>
      intro a s outs h B ρ w act hr hB hF ha
      simp only [codeM] at h
      exact leaf _ h hr hB hF ha
  | _ =>
    intro a s outs h B ρ w act hr hB hF ha
    simp only [codeM] at h
    exact leaf _ h hr hB hF ha

/-! The end of a call -/
theorem endsM_ok {fn : Func} : ∀ {os fs : List Out}, endsM P fn os = .ok fs → ∀ o ∈ os, ∃ x ∈ fs, endA P fn o = .ok x
  | [], _, _, o, ho => by cases ho
  | o0 :: l, fs, h, o, ho => by
    simp only [endsM] at h
    split at h
    · rename_i x hx
      split at h
      · rename_i q hq
        cases h
        rcases List.mem_cons.1 ho with rfl | ho
        · exact ⟨x, List.mem_cons_self .., hx⟩
        · obtain ⟨x', g1, g2⟩ := endsM_ok hq o ho
          exact ⟨x', List.mem_cons_of_mem _ g1, g2⟩
      · cases h
    · cases h

theorem same_pl (n0 i : Nat) : pAt n0 [] i = i := by
  unfold pAt
  cases Nat.blt i n0 <;> simp
theorem joinM_ok {fs : List Out} (h : joinM s fs = .ok out) (hr : Rel P B ρ s w) {f : Out} (hf : f ∈ fs) {e : Ending} {w' : World} (hp : CallPost P B ⟨s.n, s.n, s.H⟩ ρ w f e w') : CallPost P B s ρ w out e w' := by
  unfold joinM at h
  split at h
  · cases h
  · rename_i f0 rest
    cases hq : (plain f0.v && (f0 :: rest).all (fun f => Nat.ble s.n f.s.low && eqV (pAt s.n []) f0.v f.v)) with
    | true =>
      rw [hq, cond_true] at h
      cases h
      simp only [Bool.and_eq_true] at hq
      have hq2 := List.all_eq_true.1 hq.2 f hf
      simp only [Bool.and_eq_true] at hq2
      obtain ⟨v', ρ1, rfl, st, hcv⟩ := hp
      refine ⟨v', ρ, rfl, Step.quiet hr st (Nat.le_of_ble_eq_true hq2.1), ?_⟩
      rw [← eqV_cz (ρ := ρ1) hq2.2, cz_plain hq.1] at hcv
      rw [cz_plain hq.1]
      exact hcv
    | false =>
    rw [hq, cond_false] at h
    obtain ⟨hb, h⟩ := bif_ok h
    simp only [Bool.and_eq_true] at hb
    obtain ⟨hb1, hb2⟩ := hb
    have hb1 := Nat.le_of_ble_eq_true hb1
    have hb2 := List.all_eq_true.1 hb2 f hf
    simp only [Bool.and_eq_true] at hb2
    obtain ⟨hn, hv⟩ := hb2
    have hn := Nat.eq_of_beq_eq_true hn
    obtain ⟨low, h, hl1, hl2⟩ := lowOf_ok h
    obtain ⟨H, h, hH, hH0⟩ := joinH_ok h
    have h := minK_ok (k := fun low' => R.ok (⟨.normal, noAct, f0.v, ⟨f0.s.n, low', H⟩⟩ : Out)) h
    cases h
    have hfm : (([] : List Nat), f) ∈ ((f0 :: rest).map fun f => (([] : List Nat), f)) := List.mem_map_of_mem hf
    obtain ⟨v', ρ1, rfl, st, hcv⟩ := hp
    have hpl : PlOk s.n f0.s.n (pAt s.n []) := ⟨hb1, fun i _ => same_pl _ i, fun i _ => same_pl _ i, fun i h1 h2 => by rw [same_pl]; exact ⟨h1, h2⟩, fun i j e => by rwa [same_pl, same_pl] at e⟩
    have st2 := join_step (H := H) hr st hpl hn hl1 (hl2 _ hfm) (fun j b hj => by
      rcases hH j b hj with ⟨f1, f2⟩ | ⟨f1, _, f2⟩
      · refine .inl ⟨f1, ?_⟩
        obtain ⟨_, _, _, f3, _⟩ := hr.obj j b f1
        have f4 := hr.lt_n f3
        omega
      · have f3 := List.all_eq_true.1 f2 _ hfm
        simp only at f3
        split at f3
        · rename_i b' hb'
          exact .inr ⟨f1, b', hb', f3⟩
        · cases f3) (fun j hj => hH0 j hj)
    exact ⟨v', _, rfl, st2, by rw [eqV_cz hv]; exact hcv⟩
end
end Ae
end Go.Proofs.Ytollflfkgcgdkaa
