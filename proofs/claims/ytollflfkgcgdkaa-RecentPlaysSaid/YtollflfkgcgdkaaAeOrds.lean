/- The abstract evaluator is right: regions that draw their order, in all orders: what is the same after all of them. -/
import Derived.Test.YtollflfkgcgdkaaAeOrd1
namespace Go.Proofs.Ytollflfkgcgdkaa
open Go Go.RowKit
namespace Ae

section
variable {P : Program} {B : Nat} {ρ : Ren} {s : ASt} {w : World} {o : Oper} {a : AAct} {act : Act} {y : Out} {F : Facts} {ev : Task → ASt → R Out} {r r' : Option Nat} {out : Out} {Q : Exit → Act → World → Prop} {ops : Array Oper}

/-! What the runs say -/
theorem natsK_ok {β : Type} : ∀ {l : List Nat} {k : List Nat → R β} {y : β}, natsK l k = .ok y → k l = .ok y
  | [], _, _, h => h
  | n :: l, k, _, h => natsK_ok (l := l) (k := fun l => k (n :: l)) (natK_ok h)

theorem runOrds_ok {s0 : ASt} {bs tails : List Nat} : ∀ {l : List (List Nat)} {k : List (List Nat × Out) → R Out}, runOrds P F ev ops a s0 bs tails l k = .ok out →
    ∃ os, k os = .ok out ∧ (∀ x ∈ os, ordOk ops.size ops.toList x.1 = true) ∧ ∀ tau ∈ l, ∃ ord o, (ord, o) ∈ os ∧ ordOk ops.size ops.toList ord = true ∧ drawA P F ev (reA ops tau ord) (reOps ops.toList tau ord ord) [] false [(0, s0)] [] a s0 = .ok o
  | [], k, h => ⟨[], h, fun _ h => (by cases h), fun _ h => (by cases h)⟩
  | tau :: l, k, h => by
    simp only [runOrds] at h
    have h := natsK_ok h
    generalize fullOrd bs tails ops.size ops.size tau 0 = ord at h
    obtain ⟨h1, h⟩ := bif_ok h
    split at h
    · rename_i o ho
      obtain ⟨os, g1, g0, g2⟩ := runOrds_ok h
      refine ⟨_, g1, fun x hx => ?_, fun t ht => ?_⟩
      · rcases List.mem_cons.1 hx with rfl | hx
        · exact h1
        · exact g0 x hx
      rcases List.mem_cons.1 ht with rfl | ht
      · exact ⟨ord, o, List.mem_cons_self .., h1, ho⟩
      · obtain ⟨ord', o', k1, k2, k3⟩ := g2 t ht
        exact ⟨ord', o', List.mem_cons_of_mem _ k1, k2, k3⟩
    · cases h

theorem named_ok {β : Type} {n0 n1 : Nat} {pa : List (Nat × Nat × Nat)} {y : β} : ∀ {os : List (List Nat × Out)} {k : List (List Nat × Out) → R β}, named n0 n1 pa os k = .ok y →
    ∃ ps, k ps = .ok y ∧ ∀ ord o, (ord, o) ∈ os → ∃ pl, (pl, o) ∈ ps ∧ plOk n0 n1 pl = true ∧ o.s.n = n1
  | [], k, h => ⟨[], h, fun _ _ h => by cases h⟩
  | (ord, o) :: l, k, h => by
    simp only [named] at h
    have h := natsK_ok h
    generalize (List.range (n1 - n0)).map (fun i => nameAs pa (madeBy ord (stampsOf o.v)) (n0 + i)) = pl at h
    obtain ⟨h1, h⟩ := bif_ok h
    simp only [Bool.and_eq_true] at h1
    obtain ⟨ps, g1, g2⟩ := named_ok h
    refine ⟨_, g1, fun ord' o' hm => ?_⟩
    rcases List.mem_cons.1 hm with e | hm
    · cases e
      exact ⟨pl, List.mem_cons_self .., h1.1, Nat.eq_of_beq_eq_true h1.2⟩
    · obtain ⟨pl', k1, k2⟩ := g2 _ _ hm
      exact ⟨pl', List.mem_cons_of_mem _ k1, k2⟩

theorem joinT_ok {β : Type} {n0 : Nat} {os : List (List Nat × Out)} {TA : Tr Value} {y : β} : ∀ {l : List Oper} {T : Tr Value} {k : Tr Value → R β}, joinT n0 os TA l T k = .ok y →
    ∃ T', k T' = .ok y ∧ ∀ d v, T'.get d = some v → (T.get d = some v ∧ ∀ o ∈ l, o.dst ≠ some d) ∨ keepVal n0 d v os = true
  | [], T, k, h => ⟨T, h, fun d v hd => .inl ⟨hd, fun _ h => by cases h⟩⟩
  | o :: l, T, k, h => by
    have fin : ∀ {d0 : Nat} {x : Option Value}, o.dst = some d0 → (∀ v, x = some v → keepVal n0 d0 v os = true) → (T.setK 60 d0 x fun T => joinT n0 os TA l T k) = .ok y →
        ∃ T', k T' = .ok y ∧ ∀ d v, T'.get d = some v → (T.get d = some v ∧ ∀ o' ∈ o :: l, o'.dst ≠ some d) ∨ keepVal n0 d v os = true := fun {d0 x} hd hx h => by
      obtain ⟨T1, h1, h2⟩ := get_setK _ _ _ _ _ _ h
      obtain ⟨T', g1, g2⟩ := joinT_ok h1
      refine ⟨T', g1, fun d v hv => ?_⟩
      rcases g2 d v hv with ⟨e1, e2⟩ | e1
      · rw [h2] at e1
        by_cases e : d = d0
        · rw [if_pos e] at e1; subst e; exact .inr (hx v e1)
        · rw [if_neg e] at e1
          refine .inl ⟨e1, fun o' ho' => ?_⟩
          rcases List.mem_cons.1 ho' with rfl | ho'
          · rw [hd]; exact fun h => e (Option.some.inj h).symm
          · exact e2 o' ho'
      · exact .inr e1
    simp only [joinT] at h
    split at h
    · rename_i hd
      obtain ⟨T', g1, g2⟩ := joinT_ok h
      refine ⟨T', g1, fun d v hv => ?_⟩
      rcases g2 d v hv with ⟨e1, e2⟩ | e1
      · refine .inl ⟨e1, fun o' ho' => ?_⟩
        rcases List.mem_cons.1 ho' with rfl | ho'
        · rw [hd]; exact fun h => by cases h
        · exact e2 o' ho'
      · exact .inr e1
    · rename_i d0 hd
      split at h
      · rename_i v hv
        cases hk : keepVal n0 d0 v os with
        | true => rw [hk, cond_true] at h; exact fin hd (fun v' e => by cases e; exact hk) h
        | false => rw [hk, cond_false] at h; exact fin hd (fun v' e => by cases e) h
      · exact fin hd (fun v' e => by cases e) h

theorem distinct_ok : ∀ {l : List Nat}, distinct l = true → l.Nodup
  | [], _ => List.nodup_nil
  | x :: l, h => by
    simp only [distinct, Bool.and_eq_true, Bool.not_eq_true'] at h
    rw [List.nodup_cons]
    refine ⟨fun hx => ?_, distinct_ok h.2⟩
    have : l.any (Nat.beq x) = true := List.any_eq_true.2 ⟨x, hx, by simp⟩
    rw [this] at h
    cases h.1

theorem plOk_ok {n0 n1 : Nat} {pl : List Nat} (h : plOk n0 n1 pl = true) : PlOk n0 n1 (pAt n0 pl) := by
  simp only [plOk, Bool.and_eq_true] at h
  obtain ⟨⟨h1, h2⟩, h3⟩ := h
  have h1 : n0 + pl.length = n1 := Nat.eq_of_beq_eq_true h1
  have h2 := fun x hx => List.all_eq_true.1 h2 x hx
  simp only [Bool.and_eq_true] at h2
  have h3 := distinct_ok h3
  have lo : ∀ i, i < n0 → pAt n0 pl i = i := fun i hi => by
    unfold pAt
    rw [show Nat.blt i n0 = true from Nat.ble_eq_true_of_le hi]
    rfl
  have hi' : ∀ i, n0 ≤ i → pAt n0 pl i = pl.getD (i - n0) i := fun i hi => by
    unfold pAt
    cases hb : Nat.blt i n0 with
    | true => have := blt_lt hb; omega
    | false => rfl
  have hout : ∀ i, n1 ≤ i → pAt n0 pl i = i := fun i hi => by
    rw [hi' i (by omega)]
    simp [List.getD_eq_getElem?_getD, List.getElem?_eq_none (show pl.length ≤ i - n0 by omega)]
  have hget : ∀ i, n0 ≤ i → i < n1 → ∃ hk : i - n0 < pl.length, pAt n0 pl i = pl[i - n0] := fun i g1 g2 => by
    have hk : i - n0 < pl.length := by omega
    exact ⟨hk, by rw [hi' i g1]; simp [List.getD_eq_getElem?_getD, List.getElem?_eq_getElem hk]⟩
  have hmid : ∀ i, n0 ≤ i → i < n1 → n0 ≤ pAt n0 pl i ∧ pAt n0 pl i < n1 := fun i g1 g2 => by
    obtain ⟨hk, e⟩ := hget i g1 g2
    rw [e]
    have := h2 _ (List.getElem_mem hk)
    exact ⟨Nat.le_of_ble_eq_true this.1, blt_lt this.2⟩
  refine ⟨by omega, lo, hout, hmid, fun i j e => ?_⟩
  rcases Nat.lt_or_ge i n0 with gi | gi
  · rw [lo i gi] at e
    rcases Nat.lt_or_ge j n0 with gj | gj
    · rw [lo j gj] at e; exact e
    · rcases Nat.lt_or_ge j n1 with gj1 | gj1
      · have := (hmid j gj gj1).1; omega
      · rw [hout j gj1] at e; exact e
  · rcases Nat.lt_or_ge i n1 with gi1 | gi1
    · rcases Nat.lt_or_ge j n0 with gj | gj
      · rw [lo j gj] at e; have := (hmid i gi gi1).1; omega
      · rcases Nat.lt_or_ge j n1 with gj1 | gj1
        · obtain ⟨k1, e1⟩ := hget i gi gi1
          obtain ⟨k2, e2⟩ := hget j gj gj1
          rw [e1, e2] at e
          rcases Nat.lt_trichotomy (i - n0) (j - n0) with g | g | g
          · exact absurd e (List.pairwise_iff_getElem.1 h3 _ _ k1 k2 g)
          · omega
          · exact absurd e.symm (List.pairwise_iff_getElem.1 h3 _ _ k2 k1 g)
        · rw [hout j gj1] at e; have := (hmid i gi gi1).2; omega
    · rw [hout i gi1] at e
      rcases Nat.lt_or_ge j n0 with gj | gj
      · rw [lo j gj] at e; exact e
      · rcases Nat.lt_or_ge j n1 with gj1 | gj1
        · have := (hmid j gj gj1).2; omega
        · rw [hout j gj1] at e; exact e

theorem drew_step (hr : Rel P B ρ s w) : Step P B s ρ w s ρ { w with drawn := w.drawn + 1 } :=
  ⟨Ext.refl ρ, ⟨hr.obj, hr.inj, hr.dom, hr.fresh, hr.lt, hr.sig⟩, Nat.le_refl _, Nat.le_refl _, fun _ _ _ => rfl, fun _ _ _ => rfl, fun i b d hi hb => (by rw [hr.fresh i hi] at hb; cases hb), Nat.le_refl _, rfl, rfl, rfl⟩

theorem multi_ok (hN : ∀ (g : FuncId) (fn : Func), P.funcs[g]? = some fn → fn.name ≠ "runtime.NumGoroutine") (hmix : P.follows .mixedOrders = true) (hS : SelfOk P F ev) {id : Nat} (h : multiA P F ev ops a s = .ok out)
    (hr : Rel P B ρ s w) (hB : B ≤ w.heap.size) (hF : FactsAt P F B ρ w) (ha : RelA ρ a act) : (Code.region id ops true).wpIn (FW r') 0 P (CodePost P B s ρ w out) act w := by
  unfold multiA at h
  simp only at h
  obtain ⟨_, h⟩ : (Nat.ble (tailsOf 0 ops.toList).length 7 && Nat.ble (perms (befores ops.toList []) (tailsOf 0 ops.toList).length (tailsOf 0 ops.toList)).length 12) = true ∧ _ := bif_ok h
  obtain ⟨os, h, hos0, hos⟩ := runOrds_ok h
  split at h
  · cases h
  · rename_i ordA oA rest
    have hE : EdgesLt ops := (ordOk_ok (hos0 _ (List.mem_cons_self ..))).edges
    generalize hosE : (ordA, oA) :: rest = os at hos h
    obtain ⟨ps, h, hps⟩ := named_ok h
    obtain ⟨low, h, hl1, hl2⟩ := lowOf_ok h
    obtain ⟨H, h, hH, hH0⟩ := joinH_ok h
    obtain ⟨T, h, hT⟩ := joinT_ok h
    have h := minK_ok h
    cases h
    refine wpIn_region_draw fun t => ?_
    simp only [Region.schedule, hmix, Bool.true_or, if_true]
    obtain ⟨g1, g2, g3⟩ := order_in hE t
    generalize Region.linearise .any ops t = ordT at g1 g2 g3
    obtain ⟨ord, o, k1, k2, k3⟩ := hos _ g3
    obtain ⟨pl, q1, q2, q3⟩ := hps _ _ k1
    have hO := ordOk_ok k2
    refine re_ops (tau := ordT.filter (isT ops)) hO g2 ?_
    have hst0 := drew_step hr
    have hr0 : Rel P B ρ ⟨s.n, s.n, s.H⟩ { w with drawn := w.drawn + 1 } := hst0.rel.relow
    refine any_prec (done := []) (listed := Array.replicate (reA ops (ordT.filter (isT ops)) ord).size false) (fuel := max (reA ops (ordT.filter (isT ops)) ord).size (ordT.map (posIn ord)).length) _ (by simp) (fun i => ⟨fun hl => ?_, fun h => by cases h⟩)
      (re_prec (done := []) hO (fun i hi => by cases hi) (by simp) g1) (Nat.le_max_right _ _)
      (draw_any hN rfl hS k3 hr0 hB (FactsAt.step hr hB hst0 hF) ha.t (fun act' ρ' w' e1 e2 e3 e4 e5 e6 e7 => ?_) (Nat.le_max_left _ _))
    · exfalso
      unfold Listed at hl
      rw [Array.getD_eq_getD_getElem?, Array.getElem?_replicate] at hl
      split at hl <;> cases hl
    · have hp := plOk_ok q2
      have st : Step P B s ρ { w with drawn := w.drawn + 1 } ⟨oA.s.n, min low s.low, H⟩ (ren ρ' (pAt s.n pl)) w' := by
        refine join_step hst0.rel e1 hp q3 hl1 (hl2 _ q1) (fun j b hj => ?_) (fun j hj => ?_)
        · rcases hH j b hj with ⟨f1, f2⟩ | ⟨f1, _, f2⟩
          · refine .inl ⟨f1, ?_⟩
            obtain ⟨_, _, _, f3, _⟩ := hr.obj j b f1
            have f4 := hr.lt_n f3
            have f5 := hp.le
            omega
          · have f3 := List.all_eq_true.1 f2 _ q1
            simp only at f3
            split at f3
            · rename_i b' hb'
              exact .inr ⟨f1, b', hb', f3⟩
            · cases f3
        · exact hH0 j hj
      refine ⟨ren ρ' (pAt s.n pl), Step.trans hr hst0 st, ⟨⟨e2.size, fun d v hv => ?_⟩, ?_⟩, trivial⟩
      · rcases hT d v hv with ⟨f1, f2⟩ | f1
        · obtain ⟨v', f3, f4⟩ := ha.t.get d v f1
          have f5 := e7 d fun i o' hi => ?_
          · rw [← f5] at f1
            obtain ⟨v1, f6, f7⟩ := e2.get d v f1
            rw [cz_ext e1.ext v f3] at f6
            cases f6
            exact ⟨v', cz_ext st.ext v f3, f7⟩
          · have hi' := lt_of_some hi
            rw [hO.size] at hi'
            rw [hO.at hi'] at hi
            cases hx : ops[ord.getD i ops.size]? with
            | none => rw [hx] at hi; cases hi
            | some ox =>
              rw [hx] at hi
              simp only [Option.map_some, Option.some.injEq] at hi
              subst hi
              exact f2 ox (by simpa using Array.mem_of_getElem? hx)
        · have f2 := List.all_eq_true.1 f1 _ q1
          simp only at f2
          split at f2
          · rename_i v' hv'
            obtain ⟨v1, f6, f7⟩ := e2.get d v' hv'
            exact ⟨v1, by rw [eqV_cz f2]; exact f6, f7⟩
          · cases f2
      · show MarksOk _ a.marks _
        rw [e3]
        exact ha.m.ext st.ext
  
end
end Ae
end Go.Proofs.Ytollflfkgcgdkaa
