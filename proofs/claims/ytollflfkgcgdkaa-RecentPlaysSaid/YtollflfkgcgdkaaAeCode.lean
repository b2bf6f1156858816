/- The abstract evaluator is right: code. -/
import Derived.Test.YtollflfkgcgdkaaAeStep
import Derived.RangeFuncLeaves
import Derived.TacticsIn
import Derived.Laws.Externs
import Derived.Shelf.SlMaps.Clone
namespace Go.Proofs.Ytollflfkgcgdkaa
open Go Go.RowKit
namespace Ae

/-- No fence, in a round or in none. -/
def FW (r : Option Nat) : Fence := { Fence.wide with round := r }

def MarksOk (ρ : Ren) : List Nat → List Deferred → Prop
  | [], [] => True
  | D :: l, d :: ds => (∃ D', czB ρ D = some D' ∧ d = { target := .collected D', args := #[] }) ∧ MarksOk ρ l ds
  | _, _ => False
theorem MarksOk.ext {ρ ρ' : Ren} (h : Ext ρ ρ') : ∀ {l : List Nat} {ds : List Deferred}, MarksOk ρ l ds → MarksOk ρ' l ds
  | [], [], _ => trivial
  | _ :: _, _ :: _, ⟨⟨D', h1, h2⟩, h3⟩ => ⟨⟨D', czB_ext h h1, h2⟩, h3.ext h⟩
  | [], _ :: _, h => h.elim
  | _ :: _, [], h => h.elim

structure RelA (ρ : Ren) (a : AAct) (act : Act) : Prop where
  t : RelT ρ a.sz a.tmps act.tmps
  m : MarksOk ρ a.marks act.defers
theorem RelA.ext {ρ ρ' : Ren} (h : Ext ρ ρ') {a : AAct} {act : Act} (ha : RelA ρ a act) : RelA ρ' a act := ⟨ha.t.ext h, ha.m.ext h⟩

def ExitIs : AExit → Exit → Prop
  | .normal, .normal => True
  | .exit i, .exit j => i = j
  | .ret, .ret => True
  | _, _ => False

def RoundIs (ρ : Ren) : Option Nat → Option Nat → Prop
  | none, none => True
  | some l, some l' => czB ρ l = some l'
  | _, _ => False
theorem RoundIs.ext {ρ ρ' : Ren} (h : Ext ρ ρ') : ∀ {r r' : Option Nat}, RoundIs ρ r r' → RoundIs ρ' r r'
  | none, none, _ => trivial
  | some _, some _, g => czB_ext h g
  | none, some _, g => g.elim
  | some _, none, g => g.elim

def CodePost (P : Program) (B : Nat) (s : ASt) (ρ : Ren) (w : World) (out : Out) (e : Exit) (act : Act) (w' : World) : Prop :=
  ∃ ρ', Step P B s ρ w out.s ρ' w' ∧ RelA ρ' out.a act ∧ ExitIs out.e e

structure SelfOk (P : Program) (F : Facts) (ev : Task → ASt → R Out) : Prop where
  code : ∀ {r fn c a s out}, ev (.code r fn c a) s = .ok out → ∀ {B ρ w r' act}, Rel P B ρ s w → B ≤ w.heap.size → FactsAt P F B ρ w → RelA ρ a act → RoundIs ρ r r' → c.wpIn (FW r') 0 P (CodePost P B s ρ w out) act w
  call : ∀ {f args s out}, ev (.call f args) s = .ok out → ∀ {B ρ w args'}, Rel P B ρ s w → B ≤ w.heap.size → FactsAt P F B ρ w → czl ρ args = some args' →
    (∃ fn, P.funcs[f]? = some fn ∧ fn.body.isSome = true) ∧ CallsIn Fence.wide 0 P f args'.toArray w (CallPost P B s ρ w out)
  yield : ∀ {l args s out}, ev (.yield l args) s = .ok out → ∀ {B ρ w l' args'}, Rel P B ρ s w → B ≤ w.heap.size → FactsAt P F B ρ w → czB ρ l = some l' → czl ρ args = some args' →
    ∃ f tmps asg bo, (Instr.yield l' args'.toArray).run P w = .ok (.round l' f tmps asg bo) w ∧ RoundIn Fence.wide 0 P l' f tmps asg bo w (CallPost P B s ρ w out)

section
variable {P : Program} {B : Nat} {ρ : Ren} {s : ASt} {w : World} {o : Oper} {a : AAct} {act : Act} {y : Out} {F : Facts} {ev : Task → ASt → R Out} {r r' : Option Nat} {out : Out} {Q : Exit → Act → World → Prop}

theorem putT_ok {d : Option Tmp} {v v' : Value} {k : AAct → R Out} (ha : RelA ρ a act) (hv : cz ρ v = some v') (h : putT a d v k = .ok out) : ∃ a1, k a1 = .ok out ∧ RelA ρ a1 (act.put d v') := by
  cases d with
  | none => exact ⟨a, h, ha⟩
  | some d =>
    obtain ⟨hlt, h⟩ := bif_ok h
    obtain ⟨t', h1, h2⟩ := get_setK _ _ _ _ _ _ h
    refine ⟨_, h1, ⟨?_, fun i u hu => ?_⟩, ha.m⟩
    · simp [Act.put, ha.t.size]
    · rw [h2] at hu
      have hd := blt_lt hlt
      by_cases e : i = d
      · subst e
        rw [if_pos rfl] at hu
        cases hu
        exact ⟨v', hv, by simp [Act.put, ha.t.size, hd]⟩
      · rw [if_neg e] at hu
        obtain ⟨u', h3, h4⟩ := ha.t.get i u hu
        refine ⟨u', h3, ?_⟩
        simp only [Act.put]
        rw [Array.getElem?_setIfInBounds_ne (Ne.symm e)]
        exact h4

theorem wantA_ok {ops : Array Oper} {b : Bool} (ha : RelA ρ a act) (h : wantA ops o a.tmps = .ok b) : Region.wanted o (yielded ops act.tmps) = b := by
  unfold wantA at h
  unfold Region.wanted
  split at h
  · rename_i hg
    cases h
    simp [hg]
  · rename_i j want hg
    simp only [hg]
    split at h
    · rename_i oj hj
      split at h
      · rename_i d hd
        have hj' : ops[j]? = some oj := by simpa using hj
        split at h
        · rename_i b' hb
          cases h
          obtain ⟨v', h1, h2⟩ := ha.t.get d _ hb
          simp only [cz, Option.some.injEq] at h1
          subst h1
          simp [yielded, hj', hd, h2]
        · rename_i vs hb
          cases h
          obtain ⟨v', h1, h2⟩ := ha.t.get d _ hb
          simp only [cz, Option.map_eq_some_iff] at h1
          obtain ⟨vs', _, rfl⟩ := h1
          simp [yielded, hj', hd, h2]
        · cases h
      · cases h
    · cases h

theorem opdOk_of (ha : RelA ρ a act) (x : Operand) : OpdOk ρ a.tmps act x := fun _ h => opd_ok ha.t h

/-- What is left of an operation's rule without a fence. -/
theorem wpIn_of_run {K : Act → World → Prop} (hnd : ∀ c, o.op ≠ .defer c) (h : o.uponIn (FW r') 0 P act K Q ((execOp act.eval o).run P w)) : o.wpIn (FW r') 0 P act w K Q :=
  ⟨fun _ _ => trivial, by rw [Oper.semAt_eq _ _ _ hnd]; exact h⟩
theorem wpIn_of_sound {k : Value → ASt → R Out} {K : Act → World → Prop} (hnd : ∀ c, o.op ≠ .defer c) (h : Sound P B s ρ w o act k y)
    (hK : ∀ v s1 v' ρ' w', k v s1 = .ok y → Step P B s ρ w s1 ρ' w' → cz ρ' v = some v' → K (act.put o.dst v') w') : o.wpIn (FW r') 0 P act w K Q := by
  obtain ⟨v, s1, v', ρ', w', h1, h2, h3, h4⟩ := h
  refine wpIn_of_run hnd ?_
  rcases h4 with h4 | ⟨h4, rfl⟩
  · rw [h4]; exact hK v s1 v' ρ' w' h1 h2 h3
  · rw [h4]; exact hK v s1 _ ρ' w' h1 h2 h3

theorem find_clone {fn : Func} (hn : fn.name = "maps.clone") : Extern.find fn = some Extern.MapsClone.clone := by
  have e1 : Extern.allGenericRows.lookup "maps.clone" = none := by kernel_rfl
  have e2 : Extern.allTypedRows.lookup "maps.clone" = none := by kernel_rfl
  have e3 : Extern.allRows.lookup "maps.clone" = some Extern.MapsClone.clone := by kernel_rfl
  simp [Extern.find, hn, e1, e2, e3]
theorem isClone_ok {g : FuncId} (h : isClone P g = true) (args : Array Value) (w : World) : (callFunc g args).run P w = ((Extern.MapsClone.clone args).run P w).andThen fun v w' => .ok (.value v) w' := by
  unfold isClone at h
  split at h
  · rename_i fn hfn
    split at h
    · cases h
    · rename_i hb
      simp only [Bool.and_eq_true, beq_iff_eq] at h
      have hfn' : P.funcs[g]? = some fn := hfn
      exact run_callFunc_extern hfn' (by rw [h.1]; rfl) (by rw [hb]; rfl) (by simpa using h.2) (find_clone h.1) args w
  · cases h

theorem oper_ok (hN : ∀ (g : FuncId) (fn : Func), P.funcs[g]? = some fn → fn.name ≠ "runtime.NumGoroutine") (hS : SelfOk P F ev) (hr : Rel P B ρ s w) (hB : B ≤ w.heap.size) (hF : FactsAt P F B ρ w) {t : Tr Value} {k : Value → ASt → R Out} {K : Act → World → Prop}
    (hx : ∀ z ∈ o.op.operands, OpdOk ρ t act z) (h : operA P F ev o t s k = .ok y) (hK : ∀ v s1 v' ρ' w', k v s1 = .ok y → Step P B s ρ w s1 ρ' w' → cz ρ' v = some v' → K (act.put o.dst v') w') : o.wpIn (FW r') 0 P act w K Q := by
  unfold operA at h
  split at h
  · rename_i c hop
    have hnd : ∀ c', o.op ≠ .defer c' := fun c' e => by rw [hop] at e; cases e
    split at h
    · rename_i vs hvs
      have hargs0 : ∀ xs : List Operand, (∀ x ∈ xs, OpdOk ρ t act x) → ∀ vs, opds t xs = .ok vs → czl ρ vs = some (xs.map act.eval) := by
        intro xs
        induction xs with
        | nil => intro _ vs hv; cases hv; simp [czl]
        | cons x xs ih =>
          intro hxs vs hv
          simp only [opds] at hv
          split at hv
          · rename_i v hv1
            split at hv
            · rename_i vs' hvs
              cases hv
              exact czl_cons.2 ⟨_, _, hxs x (by simp) _ hv1, ih (fun x hx => hxs x (by simp [hx])) _ hvs, rfl⟩
            · cases hv
          · cases hv
      have hsub : ∀ x ∈ c.args.toList, OpdOk ρ t act x := fun x hx' => hx x (by rw [hop]; simp [Op.operands, Call.operands]; right; simpa using hx')
      have hargs := hargs0 _ hsub vs hvs
      split at h
      · rename_i b hcb
        exact wpIn_of_sound hnd (builtin_ok hr hB hF.ok hop hcb hargs h) hK
      · rename_i f hcf
        split at h
        · rename_i fv hfv
          have hfc := hx f (by rw [hop]; simp [Op.operands, Call.operands, hcf]) _ hfv
          unfold callA at h
          split at h
          · rename_i g fi ca
            cases hcl : isClone P g with
            | true =>
              rw [hcl, cond_true] at h
              simp only [cz] at hfc
              cases h1 : cza ρ fi with
              | none => simp [h1] at hfc
              | some fi' => cases h2 : cza ρ ca with
                | none => simp [h1, h2] at hfc
                | some ca' =>
                  simp only [h1, h2, Option.some.injEq] at hfc
                  have hall := czl_append (cza_toList.1 h1) (czl_append hargs (cza_toList.1 h2))
                  split at h
                  · rename_i ty r hl
                    rw [hl] at hall
                    split at h
                    · rename_i es cl hg
                      obtain ⟨H, hH, h⟩ := newObjK_ok h
                      obtain ⟨x', l', k1, k2, k3⟩ := czl_cons.1 hall
                      have hl' : l' = [] := by simpa [czl] using k2
                      subst hl'
                      simp only [cz, Option.map_eq_some_iff] at k1
                      obtain ⟨_, ⟨r', hr', rfl⟩, rfl⟩ := k1
                      obtain ⟨b, d, co, q1, q2, q3⟩ := hr.obj _ _ hg
                      simp only [OR] at q3
                      obtain ⟨rfl, es', q4, rfl⟩ := q3
                      have := czB_some.1 hr'
                      rw [q1] at this
                      cases this
                      have hfr := hr.fresh _ (Nat.le_refl s.n)
                      have hx := Ext.add hfr (w.heap.size, 0) 0
                      have st := Step.alloc hr hB (o := .map es cl) (c := .map es'.toArray cl) 0 hH ⟨rfl, es', czes_ext hx q4, rfl⟩ (w' := w.alloc (.map es'.toArray cl)) ⟨w.drawn, rfl⟩
                      have hnew : cz (ρ.add s.n (w.heap.size, 0) 0) (.iface ty (.map (some s.n))) = some (.iface ty (.map (some w.heap.size))) := by
                        have : czB (ρ.add s.n (w.heap.size, 0) 0) s.n = some w.heap.size := czB_some.2 (by simp [Ren.add])
                        simp [cz, this]
                      have eargs : fi' ++ (c.args.map act.eval) ++ ca' = #[.iface ty (.map (some r'))] := by apply Array.toList_inj.1; simpa using k3
                      refine wpIn_of_sound (k := k) (y := y) hnd ⟨_, _, _, _, _, h, st, hnew, .inl ?_⟩ hK
                      simp only [execOp, hop, Sem.run_bind, resolve, hcf, ← hfc, Deferred.ofValue, Sem.run_pure, Result.andThen_ok, invoke]
                      rw [show fi' ++ Array.map act.eval c.args ++ ca' = #[.iface ty (.map (some r'))] from eargs, isClone_ok hcl, run_maps_clone_sl w ty q2]
                      rfl
                    · cases h
                  · cases h
            | false =>
            rw [hcl, cond_false] at h
            split at h
            · rename_i o' ho'
              simp only [cz] at hfc
              cases h1 : cza ρ fi with
              | none => simp [h1] at hfc
              | some fi' => cases h2 : cza ρ ca with
                | none => simp [h1, h2] at hfc
                | some ca' =>
                  simp only [h1, h2, Option.some.injEq] at hfc
                  obtain ⟨⟨fn, hfn, hbody⟩, hcall⟩ := hS.call ho' hr hB hF (czl_append (cza_toList.1 h1) (czl_append hargs (cza_toList.1 h2)))
                  refine wpIn_of_run hnd ?_
                  have hbn : fn.body.isNone = false := by cases hb : fn.body <;> simp_all
                  have e : (execOp act.eval o).run P w = .ok (.enter g (fi' ++ (c.args.map act.eval) ++ ca')) w := by
                    simp only [execOp, hop, Sem.run_bind, resolve, hcf, ← hfc, Deferred.ofValue, Sem.run_pure, Result.andThen_ok, invoke, callFunc, run_program, hfn]
                    simp [hN g fn hfn, hbn]
                  rw [e, Oper.uponIn_enter]
                  refine ⟨fun hh => by simp [FW, Fence.wide] at hh, ?_⟩
                  have eargs : (fi'.toList ++ (c.args.toList.map act.eval ++ ca'.toList)).toArray = fi' ++ (c.args.map act.eval) ++ ca' := by apply Array.toList_inj.1; simp
                  rw [eargs] at hcall
                  refine CallsIn.mono (F := FW r') (show CallsIn (FW r') (0 - 1) P g _ w _ from hcall) fun e' w' hp => ?_
                  obtain ⟨v', ρ', rfl, hst, hv⟩ := hp
                  exact hK _ _ _ _ _ h hst hv
            · cases h
          · rename_i l fi ca
            split at h
            · rename_i o' ho'
              simp only [cz] at hfc
              cases h1 : cza ρ fi with
              | none => simp [h1] at hfc
              | some fi' => cases h2 : cza ρ ca with
                | none => simp [h1, h2] at hfc
                | some ca' => cases h3 : czB ρ l with
                  | none => simp [h1, h2, h3] at hfc
                  | some l' =>
                    simp only [h1, h2, h3, Option.some.injEq] at hfc
                    obtain ⟨f', tmps, asg, bo, hy, hround⟩ := hS.yield ho' hr hB hF h3 (czl_append (cza_toList.1 h1) hargs)
                    refine wpIn_of_run hnd ?_
                    have eargs : (fi'.toList ++ c.args.toList.map act.eval).toArray = fi' ++ (c.args.map act.eval) := by apply Array.toList_inj.1; simp
                    rw [eargs] at hy
                    have e : (execOp act.eval o).run P w = .ok (.round l' f' tmps asg bo) w := by
                      simp only [execOp, hop, Sem.run_bind, resolve, hcf, ← hfc, Deferred.ofValue, Sem.run_pure, Result.andThen_ok, invoke, hy]
                    rw [e, Oper.uponIn_round]
                    refine ⟨fun hh => by simp [FW, Fence.wide] at hh, ?_⟩
                    refine RoundIn.mono (F := FW r') (show RoundIn (FW r') (0 - 1) P l' f' tmps asg bo w _ from hround) fun e' w' hp => ?_
                    obtain ⟨v', ρ', rfl, hst, hv⟩ := hp
                    exact hK _ _ _ _ _ h hst hv
            · cases h
          · cases h
        · cases h
      · cases h
    · cases h
  · rename_i hnc
    have hnd : ∀ c', o.op ≠ .defer c' := fun c' e => by simp [simpleA, e] at h
    exact wpIn_of_sound hnd (simple_ok hr hB hF.ok hx h) hK

theorem ops_ok (hN : ∀ (g : FuncId) (fn : Func), P.funcs[g]? = some fn → fn.name ≠ "runtime.NumGoroutine") (hS : SelfOk P F ev) {ops : Array Oper} : ∀ {l : List Oper} {a : AAct} {s : ASt} {ρ : Ren} {w : World} {act : Act}, opsA P F ev ops l a s = .ok out → Rel P B ρ s w → B ≤ w.heap.size → FactsAt P F B ρ w → RelA ρ a act →
    (∀ ρ' act' w', Step P B s ρ w out.s ρ' w' → RelA ρ' out.a act' → ExitIs out.e .normal → Q .normal act' w') → wpListIn (FW r') 0 P ops Q l act w
  | [], a, s, ρ, w, act, h, hr, _, _, ha, hQ => by
    cases h
    exact hQ ρ act w (Step.refl hr) ha trivial
  | o :: l, a, s, ρ, w, act, h, hr, hB, hF, ha, hQ => by
    simp only [opsA] at h
    unfold wpListIn
    split at h
    · rename_i hw
      rw [if_pos (wantA_ok ha hw)]
      refine oper_ok hN hS hr hB hF (fun z _ => opdOk_of ha z) h fun v s1 v' ρ' w' hk hst hv => ?_
      obtain ⟨a1, hk, ha1⟩ := putT_ok (ha.ext hst.ext) hv hk
      exact ops_ok hN hS hk hst.rel (Nat.le_trans hB hst.size) (FactsAt.step hr hB hst hF) ha1 fun ρ2 act2 w2 hst2 ha2 he => hQ ρ2 act2 w2 (Step.trans hr hst hst2) ha2 he
    · rename_i hw
      rw [if_neg (by rw [wantA_ok ha hw]; simp)]
      obtain ⟨a1, hk, ha1⟩ := putT_ok ha (v' := undef) (by simp [undef, cz, cza, czl]) h
      exact ⟨fun _ _ => trivial, ops_ok hN hS hk hr hB hF ha1 hQ⟩
    · cases h
end
end Ae
end Go.Proofs.Ytollflfkgcgdkaa
