/- Maps keyed by references, with bools: look-up and store. -/
import Derived.Test.YtiiiciehilfmfaaHo09
import Derived.Maps.RangeRun
import Derived.RangeFuncRecord
namespace Go.Proofs.Ytiiiciehilfmfaa
open Go.RowKit

def rk (k : Int × Int) : Value := .agg #[.int .i64 k.1, .int .i64 k.2]
theorem eq_ref (k j : Int × Int) (w : World) : (Op.equal 30 (rk k) (rk j)).run Try.prog w = .ok (decide (k = j)) w := by
  obtain ⟨a, b⟩ := k
  obtain ⟨c, d⟩ := j
  unfold rk Op.equal
  rw [show Op.maxDepth = 9999 + 1 from rfl, run_equalIn_struct _ _ _ _ _ (by kernel_rfl) (by kernel_rfl)]
  go_simp
  by_cases h1 : a = c <;> by_cases h2 : b = d <;> simp [h1, h2]
theorem check_ref (b : Bool) (k : Int × Int) (w : World) : (Instr.checkKey b 10000 30 (rk k)).run Try.prog w = .ok () w := by
  unfold rk
  cases b
  · kernel_rfl
  · kernel_rfl

/-- Where a key lies. -/
def TM.at (k : Int × Int) : TM → Nat → Option (Nat × Value)
  | [], _ => none
  | x :: M, i => if k = x.1 then some (i, .bool x.2) else TM.at k M (i + 1)
def enc1 (x : (Int × Int) × Bool) : Value × Value := (rk x.1, .bool x.2)

theorem ask_ref (k : Int × Int) (w : World) : ∀ (es : List MapEntry) (M : TM) (i : Nat), es.map (fun e => (e.key, e.val)) = M.map enc1 → (Instr.findAsking 30 (rk k) es i).run Try.prog w = .ok (TM.at k M i) w := by
  intro es
  induction es with
  | nil =>
    intro M i h
    cases M with
    | nil => simp [Instr.findAsking, TM.at]
    | cons x M => simp at h
  | cons e es ih =>
    intro M i h
    cases M with
    | nil => simp at h
    | cons x M =>
      simp only [List.map_cons, List.cons.injEq, enc1, Prod.mk.injEq] at h
      obtain ⟨⟨h1, h2⟩, h3⟩ := h
      simp only [Instr.findAsking, Sem.run_bind, h1, eq_ref, Result.andThen_ok, TM.at]
      by_cases hk : k = x.1
      · simp [hk, h2]
      · simp only [hk, decide_false, Bool.false_eq_true, if_false]
        exact ih M (i + 1) h3
theorem find_ref (k : Int × Int) (w : World) (es : List MapEntry) (M : TM) (h : es.map (fun e => (e.key, e.val)) = M.map enc1) : (Instr.findKey 30 (rk k) es).run Try.prog w = .ok (TM.at k M 0) w := by
  have ha := ask_ref k w es M 0 h
  unfold Instr.findKey
  rw [Sem.run_bind, run_underlying Try.underlying30]
  cases es with
  | nil =>
    simp [Instr.findAsking] at ha
    simp [Instr.findNow, ha]
  | cons e es =>
    simp only [Result.andThen_ok, Instr.findNow, Instr.sameNow]
    exact ha

/-- A map in memory. -/
structure MpAt (w : World) (b : Nat) (M : TM) (es : Array MapEntry) (c : Nat) : Prop where
  hb : w.heap[b]? = some (.map es c)
  he : es.toList.map (fun e => (e.key, e.val)) = M.map enc1
  born : ∀ e ∈ es.toList, e.born < c
  once : (es.toList.map MapEntry.born).Nodup

theorem look_ref (k : Int × Int) {w : World} {b : Nat} {M : TM} {es : Array MapEntry} {c : Nat} (h : MpAt w b M es c) (ok : Bool) :
    (Instr.lookup 37 (.map (some b)) (rk k) ok).run Try.prog w = .ok (let p : Value × Bool := match TM.at k M 0 with | some (_, v) => (v, true) | none => (.bool false, false); if ok then .tuple #[p.1, .bool p.2] else p.1) w := by
  have hg : (getObj b).run Try.prog w = .ok (.map es c) w := by simp [getObj, Sem.run, h.hb]
  have hz : ∀ w, (zeroValue 4).run Try.prog w = .ok (.bool false) w := fun w => by kernel_rfl
  simp only [Instr.lookup, Sem.run_bind, run_underlying Try.underlying37, Result.andThen_ok, hg, Sem.run_pure, check_ref, find_ref k w es.toList M h.he]
  cases TM.at k M 0 with
  | none => simp [hz]
  | some p => simp

theorem TM.at_none {k : Int × Int} : ∀ {M : TM} {i : Nat}, TM.at k M i = none → k ∉ M.map Prod.fst := by
  intro M
  induction M with
  | nil => intro i _; simp
  | cons x M ih =>
    intro i h
    unfold TM.at at h
    by_cases hk : k = x.1
    · rw [if_pos hk] at h; cases h
    · rw [if_neg hk] at h
      simp only [List.map_cons, List.mem_cons, not_or]
      exact ⟨hk, ih h⟩
theorem TM.map_same {k : Int × Int} {b : Bool} {M : TM} (h : k ∉ M.map Prod.fst) : M.map (fun x => if x.1 = k then (k, b) else x) = M := by
  conv => rhs; rw [← List.map_id M]
  refine List.map_congr_left fun x hx => if_neg fun e => h (List.mem_map.2 ⟨x, hx, e⟩)
theorem TM.at_some {k : Int × Int} {b : Bool} : ∀ {M : TM} {i j : Nat} {v : Value}, (M.map Prod.fst).Nodup → TM.at k M i = some (j, v) → ∃ d, j = i + d ∧ d < M.length ∧ (M.map enc1)[d]?.map Prod.fst = some (rk k) ∧ k ∈ M.map Prod.fst ∧ M.map (fun x => if x.1 = k then (k, b) else x) = M.set d (k, b) ∧ ∃ b0, v = .bool b0 ∧ (k, b0) ∈ M := by
  intro M
  induction M with
  | nil => intro i j v _ h; cases h
  | cons x M ih =>
    intro i j v hn h
    simp only [List.map_cons, List.nodup_cons] at hn
    unfold TM.at at h
    by_cases hk : k = x.1
    · rw [if_pos hk] at h
      simp only [Option.some.injEq, Prod.mk.injEq] at h
      obtain ⟨rfl, rfl⟩ := h
      refine ⟨0, rfl, by simp, by simp [enc1, hk], by simp [hk], ?_, x.2, rfl, by simp [hk]⟩
      simp only [List.map_cons, List.set_cons_zero, hk, if_true]
      rw [TM.map_same hn.1]
    · rw [if_neg hk] at h
      obtain ⟨d, rfl, hd, h1, h2, h3, b0, h4, h5⟩ := ih hn.2 h
      refine ⟨d + 1, by omega, by simpa using hd, by simpa using h1, List.mem_cons_of_mem _ h2, ?_, b0, h4, List.mem_cons_of_mem _ h5⟩
      simp only [List.map_cons, List.set_cons_succ, if_neg (fun e => hk (Eq.symm e) : ¬ x.1 = k), h3]
theorem map_modify {α β : Type} (g : α → β) (f : α → α) : ∀ (l : List α) (j : Nat) (e : α), l[j]? = some e → (l.modify j f).map g = (l.map g).set j (g (f e)) := by
  intro l
  induction l with
  | nil => intro j e h; simp at h
  | cons x l ih =>
    intro j e h
    cases j with
    | zero => simp at h; subst h; simp
    | succ j => simp at h; simp [ih j e h]
theorem set_born {l : List MapEntry} {j : Nat} {e : MapEntry} (h : l[j]? = some e) : (l.map MapEntry.born).set j e.born = l.map MapEntry.born := by
  apply List.ext_getElem? 
  intro i
  by_cases hi : j = i
  · subst hi
    rw [List.getElem?_set_self (by have := List.getElem?_eq_some_iff.1 h; simpa using this.1)]
    simp [h]
  · rw [List.getElem?_set_ne hi]
theorem same_rk (k : Int × Int) : Instr.sameBits 10000 (rk k) (rk k) = true := by
  unfold rk
  simp [Instr.sameBits]

theorem store_ref (k : Int × Int) (v : Bool) {w : World} {b : Nat} {M : TM} {es : Array MapEntry} {c : Nat} (h : MpAt w b M es c) (hn : (M.map Prod.fst).Nodup) :
    ∃ es' c', (Instr.mapUpdate 37 (.map (some b)) (rk k) (.bool v)).run Try.prog w = .ok () (w.putObj b (.map es' c')) ∧ MpAt (w.putObj b (.map es' c')) b (M.put k v) es' c' := by
  have hg : (getObj b).run Try.prog w = .ok (.map es c) w := by simp [getObj, Sem.run, h.hb]
  have hset : ∀ o, (setObj b o).run Try.prog w = .ok () (w.putObj b o) := fun o => by simp [setObj, Sem.run, h.hb, World.putObj]
  have hlt := lt_of_block h.hb
  cases ha : TM.at k M 0 with
  | none =>
    have hk := TM.at_none ha
    refine ⟨es.push ⟨rk k, .bool v, c⟩, c + 1, ?_, World.putObj_heap_same hlt, ?_, ?_, ?_⟩
    · simp only [Instr.mapUpdate, Sem.run_bind, run_underlying Try.underlying37, Result.andThen_ok, hg, check_ref, find_ref k w es.toList M h.he, ha, hset]
    · unfold TM.put
      rw [if_neg hk]
      simp [h.he, enc1]
    · intro e he
      simp at he
      rcases he with he | rfl
      · have := h.born e (by simpa using he); omega
      · simp
    · simp only [Array.toList_push, List.map_append, List.map_cons, List.map_nil]
      refine List.nodup_append.2 ⟨h.once, by simp, fun x hx y hy => ?_⟩
      rw [List.mem_singleton] at hy
      obtain ⟨e, he, rfl⟩ := List.mem_map.1 hx
      have := h.born e he
      omega
  | some p =>
    obtain ⟨j, v0⟩ := p
    obtain ⟨d, hj, hd, h1, h2, h3, _⟩ := TM.at_some (b := v) hn ha
    have hj : j = d := by omega
    subst hj
    rw [← h.he] at h1
    simp only [List.getElem?_map, Option.map_map] at h1
    obtain ⟨e0, he0, hk0⟩ := Option.map_eq_some_iff.1 h1
    have he0' : es[j]? = some e0 := by simpa using he0
    have hk0 : e0.key = rk k := hk0
    refine ⟨es.modify j fun e => { e with key := rk k, val := .bool v }, c, ?_, World.putObj_heap_same hlt, ?_, ?_, ?_⟩
    · simp only [Instr.mapUpdate, Sem.run_bind, run_underlying Try.underlying37, Result.andThen_ok, hg, check_ref, find_ref k w es.toList M h.he, ha]
      simp only [he0', Option.map_some, Option.getD_some, hk0, Instr.keyThatStays, same_rk, if_true, Sem.run_pure, Result.andThen_ok, hset]
    · unfold TM.put
      rw [if_pos h2, h3, Array.toList_modify, map_modify _ _ _ _ _ he0, h.he, List.map_set]
      rfl
    · intro e he
      rw [Array.toList_modify] at he
      have hm : (es.toList.modify j fun e => { e with key := rk k, val := .bool v }).map MapEntry.born = es.toList.map MapEntry.born := by
        rw [map_modify _ _ _ _ _ he0]
        have hs := set_born he0
        exact hs
      have h4 : e.born ∈ es.toList.map MapEntry.born := hm ▸ List.mem_map.2 ⟨e, he, rfl⟩
      obtain ⟨e1, h5, h6⟩ := List.mem_map.1 h4
      rw [← h6]
      exact h.born e1 h5
    · have hm : (es.toList.modify j fun e => { e with key := rk k, val := .bool v }).map MapEntry.born = es.toList.map MapEntry.born := by
        rw [map_modify _ _ _ _ _ he0]
        have hs := set_born he0
        exact hs
      rw [Array.toList_modify, hm]
      exact h.once
end Go.Proofs.Ytiiiciehilfmfaa
