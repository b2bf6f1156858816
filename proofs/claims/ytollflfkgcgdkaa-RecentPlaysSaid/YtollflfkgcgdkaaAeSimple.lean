/- The abstract evaluator is right: operations that are no calls. -/
import Derived.Test.YtollflfkgcgdkaaAeMap
namespace Go.Proofs.Ytollflfkgcgdkaa
open Go Go.RowKit
namespace Ae

section
variable {P : Program} {B : Nat} {ρ : Ren} {s : ASt} {w : World} {o : Oper} {a : Act} {β : Type} {k : Value → ASt → R Out} {y : Out} {sz : Nat} {t : Tr Value} {F : Facts}

theorem newOr {l l' : List Value} {e : TypeId} (g : Nat) (h : czl ρ l = some l') (hf : ρ.β s.n = none) : OR P (ρ.add s.n (w.heap.size, 0) g) s.n 0 (.cells l e false) (.cells l'.toArray e) :=
  ⟨[], l', [], czl_ext (Ext.add hf _ _) _ h, by simp, rfl, fun h => by cases h⟩
theorem ptr_new {g : Nat} : cz (ρ.add s.n (w.heap.size, 0) g) (.pointer (some ⟨s.n, 0, none⟩)) = some (.pointer (some ⟨w.heap.size, 0, none⟩)) := by
  simp only [cz, Option.map_eq_some_iff]
  exact ⟨_, czA_some.2 ⟨w.heap.size, 0, rfl, by simp [Ren.add], rfl⟩, rfl⟩

theorem new_sound (hr : Rel P B ρ s w) (hB : B ≤ w.heap.size) {l l' : List Value} {e : TypeId} {H : Tr AObj} {v v' : Value} (hl : czl ρ l = some l') (hH : ∀ m, H.get m = if m = s.n then some (.cells l e false) else s.H.get m)
    (hk : k v ⟨s.n + 1, s.low, H⟩ = .ok y) (hv : cz (ρ.add s.n (w.heap.size, 0) 0) v = some v') (hrun : (execOp a.eval o).run P w = .ok (.value v') (w.alloc (.cells l'.toArray e))) : Sound P B s ρ w o a k y :=
  ⟨v, _, v', _, _, hk, Step.alloc hr hB 0 hH (newOr 0 hl (hr.fresh _ (Nat.le_refl _))) ⟨w.drawn, rfl⟩, hv, .inl hrun⟩

theorem arr_list (a : Array Value) : a = a.toList.toArray := by simp

theorem alloc_ok (hr : Rel P B ρ s w) (hB : B ≤ w.heap.size) {e : TypeId} (hop : o.op = .alloc e) (h : simpleA P F o t s k = .ok y) : Sound P B s ρ w o a k y := by
  simp only [simpleA, hop] at h
  obtain ⟨z, hz, h⟩ := ofOpt_ok h
  obtain ⟨hp, h⟩ := bif_ok h
  obtain ⟨H, hH, h⟩ := newObjK_ok h
  have hcz : cz ρ z = some z := cz_plain hp
  refine new_sound hr hB (czl_cellsOf hr.sig hcz) hH h ptr_new ?_
  simp only [execOp, hop, Instr.alloc, Sem.run_bind, run_zeroValue hz, Result.andThen_ok, newVar, newRow, run_newObj_alloc, Sem.run_pure]
theorem box_ok (hr : Rel P B ρ s w) (hB : B ≤ w.heap.size) {e : TypeId} {x : Operand} (hop : o.op = .box e x) (hx : OpdOk ρ t a x) (h : simpleA P F o t s k = .ok y) : Sound P B s ρ w o a k y := by
  simp only [simpleA, hop] at h
  split at h
  · rename_i v hv
    obtain ⟨H, hH, h⟩ := newObjK_ok h
    refine new_sound hr hB (czl_cellsOf hr.sig (hx _ hv)) hH h ptr_new ?_
    simp only [execOp, hop, Instr.box, Sem.run_bind, newVar, newRow, run_newObj_alloc, Sem.run_pure, Result.andThen_ok]
  · cases h
theorem load_ok (hr : Rel P B ρ s w) {ty : TypeId} {x : Operand} (hop : o.op = .load ty x) (hx : OpdOk ρ t a x) (h : simpleA P F o t s k = .ok y) : Sound P B s ρ w o a k y := by
  simp only [simpleA, hop] at h
  split at h
  · rename_i ad hv
    obtain ⟨v, h1, h2⟩ := val_ok h
    have hcz := hx _ hv
    simp only [cz, Option.map_eq_some_iff] at hcz
    obtain ⟨ad', had, e⟩ := hcz
    obtain ⟨v', h3, h4⟩ := loadA_ok hr had h1
    refine .pure hr h2 h3 ?_
    simp only [execOp, hop, ← e, Instr.loadAt, Instr.sureAddr, Sem.run_bind, Sem.run_pure, Result.andThen_ok, h4]
  · cases h
  · cases h
theorem store_ok (hr : Rel P B ρ s w) {ty : TypeId} {x z : Operand} (hop : o.op = .store ty x z) (hx : OpdOk ρ t a x) (hz : OpdOk ρ t a z) (h : simpleA P F o t s k = .ok y) : Sound P B s ρ w o a k y := by
  simp only [simpleA, hop] at h
  split at h
  · rename_i ad v hv hv2
    have hcz := hx _ hv
    simp only [cz, Option.map_eq_some_iff] at hcz
    obtain ⟨ad', had, e⟩ := hcz
    obtain ⟨s1, w', h1, h2, h3⟩ := storeA_ok hr had (hz _ hv2) h
    refine ⟨undef, s1, undef, ρ, w', h1, h2, by simp [undef, cz, cza, czl], .inr ⟨?_, rfl⟩⟩
    simp only [execOp, hop, ← e, Instr.storeAt, Instr.sureAddr, Sem.run_bind, Sem.run_pure, Result.andThen_ok, h3]
  · cases h
theorem makeMap_ok (hr : Rel P B ρ s w) (hB : B ≤ w.heap.size) {ty : TypeId} {x : Option Operand} (hop : o.op = .makeMap ty x) (hx : ∀ x', x = some x' → OpdOk ρ t a x') (h : simpleA P F o t s k = .ok y) : Sound P B s ρ w o a k y := by
  have key : ∀ H : Tr AObj, (∀ m, H.get m = if m = s.n then some (.map [] 0) else s.H.get m) → k (.map (some s.n)) ⟨s.n + 1, s.low, H⟩ = .ok y →
      (execOp a.eval o).run P w = .ok (.value (.map (some w.heap.size))) (w.alloc (.map #[] 0)) → Sound P B s ρ w o a k y := fun H hH h hrun =>
    ⟨_, _, .map (some w.heap.size), _, _, h, Step.alloc hr hB 0 hH (c := .map #[] 0) ⟨rfl, [], by simp [czes], rfl⟩ ⟨w.drawn, rfl⟩, by
      simp only [cz, Option.map_eq_some_iff]
      exact ⟨_, czB_some.2 (by simp [Ren.add]), rfl⟩, .inl hrun⟩
  cases x with
  | none =>
    simp only [simpleA, hop] at h
    obtain ⟨H, hH, h⟩ := newObjK_ok h
    refine key H hH h ?_
    simp [execOp, hop, Instr.makeMap]
  | some x =>
    simp only [simpleA, hop] at h
    split at h
    · rename_i kk n kt e hv hu
      obtain ⟨H, hH, h⟩ := newObjK_ok h
      have hcz := hx x rfl _ hv
      simp only [cz, Option.some.injEq] at hcz
      refine key H hH h ?_
      simp [execOp, hop, Instr.makeMap, ← hcz, run_underlying hu, asInt, asIntOf]
    · cases h
theorem mapUpdate_ok (hr : Rel P B ρ s w) (hF : FactsOk P F ρ.σ) {ty : TypeId} {x i z : Operand} (hop : o.op = .mapUpdate ty x i z ∨ o.op = .insert ty x i z) (hx : OpdOk ρ t a x) (hi : OpdOk ρ t a i) (hz : OpdOk ρ t a z)
    (h : simpleA P F o t s k = .ok y) : Sound P B s ρ w o a k y := by
  rcases hop with hop | hop <;> simp only [simpleA, hop] at h
  all_goals
    split at h
    · rename_i m key v hm hk hv
      obtain ⟨s1, w', h1, h2, h3⟩ := putA_ok hr hF (hx _ hm) (hi _ hk) (hz _ hv) h
      refine ⟨undef, s1, undef, ρ, w', h1, h2, by simp [undef, cz, cza, czl], .inr ⟨?_, rfl⟩⟩
      simp only [execOp, hop, Sem.run_bind, h3, Result.andThen_ok, Sem.run_pure]
    · cases h
theorem makeFunc_ok (hr : Rel P B ρ s w) {fn : Fn} {fi ca : Array Operand} (hop : o.op = .makeFunc fn fi ca) (hx : ∀ x ∈ fi.toList ++ ca.toList, OpdOk ρ t a x) (h : simpleA P F o t s k = .ok y) : Sound P B s ρ w o a k y := by
  have hl : ∀ (xs : List Operand), (∀ x ∈ xs, OpdOk ρ t a x) → ∀ vs, opds t xs = .ok vs → czl ρ vs = some (xs.map a.eval) := by
    intro xs
    induction xs with
    | nil => intro _ vs hv; cases hv; simp [czl]
    | cons x xs ih =>
      intro hxs vs hv
      simp only [opds] at hv
      split at hv
      · rename_i v hv1
        split at hv
        · rename_i vs' hvs
          cases hv
          exact czl_cons.2 ⟨_, _, hxs x (by simp) _ hv1, ih (fun x hx => hxs x (by simp [hx])) _ hvs, rfl⟩
        · cases hv
      · cases hv
  simp only [simpleA, hop] at h
  split at h
  · rename_i fi' ca' h1 h2
    have g1 := hl _ (fun x hx' => hx x (List.mem_append_left _ hx')) _ h1
    have g2 := hl _ (fun x hx' => hx x (List.mem_append_right _ hx')) _ h2
    have e1 : cza ρ fi'.toArray = some (fi.map a.eval) := cza_toList.2 (by simpa using g1)
    have e2 : cza ρ ca'.toArray = some (ca.map a.eval) := cza_toList.2 (by simpa using g2)
    split at h
    · rename_i f
      refine .pure hr h (v' := .func (.func f) (fi.map a.eval) (ca.map a.eval)) (by simp only [cz, e1, e2]) ?_
      simp [execOp, hop, Instr.makeFunc]
    · rename_i f1 f2 f3 f4
      refine .pure hr h (v' := .func (.via f1 f2 f3 f4) (fi.map a.eval) (ca.map a.eval)) (by simp only [cz, e1, e2]) ?_
      simp [execOp, hop, Instr.makeFunc]
    · cases h
  · cases h
theorem makeInterface_ok (hr : Rel P B ρ s w) {ty : TypeId} {x : Operand} (hop : o.op = .makeInterface ty x) (hx : OpdOk ρ t a x) (h : simpleA P F o t s k = .ok y) : Sound P B s ρ w o a k y := by
  simp only [simpleA, hop] at h
  split at h
  · rename_i v d hv hd
    have hcz := hx _ hv
    have hne : (∀ ms, d ≠ .interface ms) ∧ k (.iface ty v) s = .ok y := by
      split at h
      · cases h
      · rename_i hno; exact ⟨fun ms e => hno ms e, h⟩
    refine .pure hr hne.2 (v' := .iface ty (a.eval x)) (by simp [cz, hcz]) ?_
    simp only [execOp, hop, Instr.makeInterface, Sem.run_bind, run_underlying hd, Result.andThen_ok]
    cases d <;> first | rfl | exact absurd rfl (hne.1 _)
  · cases h
theorem typeAssert_ok (hr : Rel P B ρ s w) {xt ty : TypeId} {x : Operand} (hop : o.op = .typeAssert x xt ty false) (hx : OpdOk ρ t a x) (h : simpleA P F o t s k = .ok y) : Sound P B s ρ w o a k y := by
  simp only [simpleA, hop] at h
  split at h
  · cases h
  · rename_i u v d hno hv hd
    obtain ⟨hb, h⟩ := bif_ok h
    have hcz := hx _ hv
    simp only [cz, Option.map_eq_some_iff] at hcz
    obtain ⟨v', hv', e⟩ := hcz
    have hb' : u = ty := by simpa using hb
    refine .pure hr h hv' ?_
    simp only [execOp, hop, ← e, Instr.typeAssert, Sem.run_bind, run_underlying hd, Result.andThen_ok]
    cases d <;> first | (simp [hb']; done) | exact absurd rfl (hno _ _)
  · cases h

/-! build -/
theorem opdPairs_ok : ∀ {xs : List (Nat × Operand)} {vs : List (Nat × Value)}, (∀ x ∈ xs, OpdOk ρ t a x.2) → opdPairs t xs = .ok vs →
    ∃ vs' : List (Nat × Value), (xs.map fun p => (p.1, a.eval p.2)) = vs' ∧ vs'.map (·.1) = vs.map (·.1) ∧ czl ρ (vs.map (·.2)) = some (vs'.map (·.2))
  | [], vs, _, h => by cases h; exact ⟨[], rfl, rfl, by simp [czl]⟩
  | (i, x) :: xs, vs, hx, h => by
    simp only [opdPairs] at h
    split at h
    · rename_i v hv
      split at h
      · rename_i vs1 hvs
        cases h
        obtain ⟨vs', h1, h2, h3⟩ := opdPairs_ok (fun x hx' => hx x (by simp [hx'])) hvs
        refine ⟨(i, a.eval x) :: vs', by simp [h1], by simp [h2], ?_⟩
        exact czl_cons.2 ⟨_, _, hx (i, x) (by simp) v hv, h3, rfl⟩
      · cases h
    · cases h
theorem take_set_succ {α : Type} (v : α) : ∀ (n : Nat) (l : List α), n < l.length → (l.set n v).take (n + 1) = l.take n ++ [v]
  | _, [], h => by simp at h
  | 0, x :: l, _ => by simp
  | n + 1, x :: l, h => by simpa using take_set_succ v n l (by simpa using h)
theorem foldl_set (off : Nat) : ∀ (vs : List Value) (j : Nat) (cs : Array Value), off + j + vs.length ≤ cs.size →
    (vs.zipIdx j).foldl (fun (cs : Array Value) (p : Value × Nat) => cs.setIfInBounds (off + p.2) p.1) cs = (cs.toList.take (off + j) ++ vs ++ cs.toList.drop (off + j + vs.length)).toArray
  | [], j, cs, _ => by simp
  | v :: vs, j, cs, h => by
    simp only [List.zipIdx_cons, List.foldl_cons, List.length_cons] at h ⊢
    rw [foldl_set off vs (j + 1) _ (by simp; omega)]
    apply Array.ext'
    simp only [Array.toList_setIfInBounds]
    rw [show off + (j + 1) = off + j + 1 by omega, take_set_succ _ _ _ (by simp; omega), List.drop_set_of_lt (by omega), show off + j + 1 + vs.length = off + j + (vs.length + 1) by omega]
    simp
theorem fillA_ok {place place' : Nat → Option (Nat × Nat)} (hp : ∀ i x, place i = some x → place' i = some x) (hσ : ∀ i, (ρ.σ i).oneCell' = true) : ∀ {vs vs' : List (Nat × Value)} {l l' : List Value} {k : List Value → R Out} {y : Out},
    vs'.map (·.1) = vs.map (·.1) → czl ρ (vs.map (·.2)) = some (vs'.map (·.2)) → czl ρ l = some l' → fillA place vs l k = .ok y → ∃ r r', k r = .ok y ∧ czl ρ r = some r' ∧ r.length = l.length ∧ Instr.fill place' l'.toArray vs' = some r'.toArray
  | [], [], l, l', k, y, _, _, hl, h => ⟨l, l', h, hl, rfl, rfl⟩
  | [], _ :: _, _, _, _, _, h, _, _, _ => by simp at h
  | (i, v) :: vs, [], _, _, _, _, h, _, _, _ => by simp at h
  | (i, v) :: vs, (i', v') :: vs', l, l', k, y, h1, h2, hl, h => by
    simp only [List.map_cons, List.cons.injEq] at h1
    obtain ⟨rfl, h1⟩ := h1
    obtain ⟨u, us, g1, g2, e⟩ := czl_cons.1 h2
    simp only [List.map_cons, List.cons.injEq] at e
    obtain ⟨rfl, rfl⟩ := e
    simp only [fillA] at h
    split at h
    · rename_i off size hpl
      obtain ⟨hb, h⟩ := bif_ok h
      obtain ⟨h, hle⟩ := putAtK_ok h
      have hc := czl_cellsOf hσ g1
      have hlen := czl_length hc
      have hll := czl_length hl
      have hs : v'.cells.size = size := by rw [cellsOf_length hσ g1]; simpa using hb
      have hl2 := czl_append (czl_append (czl_take off hl) hc) (czl_drop (off + (cellsOf v).length) hl)
      obtain ⟨r, r', q1, q2, q3, q4⟩ := fillA_ok hp hσ h1 g2 hl2 h
      refine ⟨r, r', q1, q2, by rw [q3]; simp; omega, ?_⟩
      simp only [Instr.fill, hp _ _ hpl]
      rw [if_neg (by simp at hlen ⊢; omega)]
      have hf := foldl_set off v'.cells.toList 0 l'.toArray (by simp at hlen ⊢; omega)
      have hz : v'.cells.zipIdx.foldl (fun cs (p : Value × Nat) => cs.setIfInBounds (off + p.2) p.1) l'.toArray = ((v'.cells.toList.zipIdx).foldl (fun (cs : Array Value) (p : Value × Nat) => cs.setIfInBounds (off + p.2) p.1) l'.toArray) := by
        rw [← Array.foldl_toList]
        simp
      simp only [Nat.add_zero] at hf
      rw [← hlen] at q4
      exact (congrArg (fun x => Instr.fill place' x vs') (hz.trans hf)).trans q4
    · cases h
end
end Ae
end Go.Proofs.Ytollflfkgcgdkaa
