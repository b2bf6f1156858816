/- The abstract evaluator is right: regions that draw their order, in all orders: the orders. -/
import Derived.Test.YtollflfkgcgdkaaAeDraw3
namespace Go.Proofs.Ytollflfkgcgdkaa
open Go Go.RowKit
namespace Ae

section
variable {P : Program} {B : Nat} {ρ : Ren} {s : ASt} {w : World} {o : Oper} {a : AAct} {act : Act} {y : Out} {F : Facts} {ev : Task → ASt → R Out} {r r' : Option Nat} {out : Out} {Q : Exit → Act → World → Prop} {ops : Array Oper}
variable {Fc : Fence} {n : Nat} {ord tau : List Nat}

/-- An order in which the operations may come up, from where these are done. -/
def Prec (ops : Array Oper) : List Nat → List Nat → Prop
  | done, [] => ∀ i, i < ops.size → i ∈ done
  | done, i :: l => i < ops.size ∧ i ∉ done ∧ (∀ o, ops[i]? = some o → ∀ e ∈ o.after, Region.binds .any e = true → e.on ∈ done) ∧ Prec ops (i :: done) l

def EdgesLt (ops : Array Oper) : Prop := ∀ (j : Nat) (o : Oper), ops[j]? = some o → ∀ e ∈ o.after, Region.binds .any e = true → e.on < j

theorem all_of_none (hE : EdgesLt ops) {listed : Array Bool} (hls : listed.size = ops.size) (hrd : Region.ready .any ops listed = []) : ∀ i, i < ops.size → Listed listed i := by
  intro i
  induction i using Nat.strongRecOn with
  | _ i ih =>
    intro hi
    cases hl : listed.getD i false with
    | true => exact hl
    | false =>
      exfalso
      have hoi : ops[i]? = some ops[i] := Array.getElem?_eq_getElem hi
      have : i ∈ Region.ready .any ops listed := mem_ready.2 ⟨by
        rw [Array.getD_eq_getD_getElem?, Array.getElem?_eq_getElem (by omega)] at hl ⊢
        exact hl, _, hoi, fun e he hb => ih e.on (hE i _ hoi e he hb) (Nat.lt_trans (hE i _ hoi e he hb) hi)⟩
      rw [hrd] at this
      cases this

theorem unlisted {listed : Array Bool} (hls : listed.size = ops.size) {i : Nat} (hi : i < ops.size) : listed.getD i true = false ↔ ¬ Listed listed i := by
  unfold Listed
  rw [Array.getD_eq_getD_getElem?, Array.getD_eq_getD_getElem?, Array.getElem?_eq_getElem (by omega)]
  simp

theorem none_of_all {listed : Array Bool} (hls : listed.size = ops.size) (hall : ∀ i, i < ops.size → Listed listed i) : Region.ready .any ops listed = [] := by
  rw [List.eq_nil_iff_forall_not_mem]
  intro i hi
  obtain ⟨g1, o, g2, g3⟩ := mem_ready.1 hi
  have hlt := lt_of_some g2
  exact (unlisted hls hlt).1 g1 (hall i hlt)

theorem listedAs_set {listed : Array Bool} {done : List Nat} (hd : ∀ i, Listed listed i ↔ i ∈ done) {i : Nat} (hi : i < listed.size) : ∀ j, Listed (listed.setIfInBounds i true) j ↔ j ∈ i :: done := fun j => by
  rw [List.mem_cons]
  constructor
  · intro h
    exact (listed_set h).imp_right (hd j).1
  · rintro (rfl | h)
    · exact listed_self hi
    · exact listed_mono ((hd j).2 h)

theorem lin_prec (hE : EdgesLt ops) : ∀ (fuel t : Nat) {listed : Array Bool} {done U : List Nat}, listed.size = ops.size → (∀ i, Listed listed i ↔ i ∈ done) → (∀ i, i < ops.size → ¬ Listed listed i → i ∈ U) → U.length ≤ fuel →
    Prec ops done (Region.linearise.go .any ops fuel t listed []) := by
  intro fuel
  induction fuel with
  | zero =>
    intro t listed done U hls hd hU hl
    have hU0 : U = [] := List.length_eq_zero_iff.1 (Nat.le_zero.1 hl)
    subst hU0
    simp only [Region.linearise.go, List.reverse_nil]
    exact fun i hi => (hd i).1 (Classical.byContradiction fun hn => by cases hU i hi hn)
  | succ fuel ih =>
    intro t listed done U hls hd hU hl
    simp only [Region.linearise.go]
    change Prec ops done (match (Region.ready .any ops listed)[t % (Region.ready .any ops listed).length]? with
      | some i => Region.linearise.go .any ops fuel (t / (Region.ready .any ops listed).length) (listed.setIfInBounds i true) [i]
      | none => [].reverse)
    cases hi : (Region.ready .any ops listed)[t % (Region.ready .any ops listed).length]? with
    | none =>
      have hnil : Region.ready .any ops listed = [] := by
        cases hr : Region.ready .any ops listed with
        | nil => rfl
        | cons x xs =>
          rw [hr] at hi
          have hlt : t % (x :: xs).length < (x :: xs).length := Nat.mod_lt _ (by simp)
          simp at hi
          simp at hlt
          omega
      exact fun i hi => (hd i).1 (all_of_none hE hls hnil i hi)
    | some i =>
      simp only []
      rw [linearise_go_acc, List.reverse_singleton, List.singleton_append]
      obtain ⟨g1, o, hoi, hedge⟩ := mem_ready.1 (List.mem_of_getElem? hi)
      have hlt := lt_of_some hoi
      have hun := (unlisted hls hlt).1 g1
      refine ⟨hlt, fun h => hun ((hd i).2 h), fun o' ho' e he hb => ?_, ih _ (U := U.erase i) (by simp [hls]) (listedAs_set hd (by omega)) (fun j hj hn => ?_) ?_⟩
      · rw [hoi] at ho'
        cases ho'
        exact (hd _).1 (hedge e he hb)
      · have hji : j ≠ i := fun e => hn (by subst e; exact listed_self (by omega))
        exact (List.mem_erase_of_ne hji).2 (hU j hj fun hl => hn (listed_mono hl))
      · rw [List.length_erase_of_mem (hU i hlt hun)]; omega

theorem any_prec : ∀ (ord : List Nat) {fuel : Nat} {listed : Array Bool} {done : List Nat} {act : Act} {w : World}, listed.size = ops.size → (∀ i, Listed listed i ↔ i ∈ done) → Prec ops done ord → ord.length ≤ fuel →
    wpAnyIn Fc n P .any ops Q fuel listed act w → wpOpsIn Fc n P ops Q ord act w
  | [], fuel, listed, done, act, w, hls, hd, hp, hf, h => by
    have hnil := none_of_all hls fun i hi => (hd i).2 (hp i hi)
    simp only [wpOpsIn]
    cases fuel with
    | zero => exact h.2
    | succ fuel => exact h.1 hnil
  | i :: l, 0, listed, done, act, w, hls, hd, hp, hf, h => by simp at hf
  | i :: l, fuel + 1, listed, done, act, w, hls, hd, hp, hf, h => by
    obtain ⟨hlt, hnd, he, hp⟩ := hp
    rw [wpOpsIn_cons]
    have hoi : ops[i]? = some ops[i] := Array.getElem?_eq_getElem hlt
    exact wpOpIn_mono (fun a w h => any_prec l (by simp [hls]) (listedAs_set hd (by omega)) hp (by simpa using hf) h)
      (h.2 i (mem_ready.2 ⟨(unlisted hls hlt).2 fun hl => hnd ((hd i).1 hl), _, hoi, fun e he' hb => (hd e.on).2 (he _ hoi e he' hb)⟩))

/-! The same operations in another order of the text -/
structure OrdOk (ops : Array Oper) (ord : List Nat) : Prop where
  len : ord.length = ops.size
  lt : ∀ i, i < ops.size → posIn ord i < ops.size
  pos : ∀ i, i < ops.size → ord.getD (posIn ord i) ops.size = i
  bound : ∀ j, j < ops.size → ord.getD j ops.size < ops.size
  inv : ∀ j, j < ops.size → posIn ord (ord.getD j ops.size) = j
  edges : EdgesLt ops
  guard : ∀ (i : Nat) (o : Oper) (g : Nat) (b : Bool), ops[i]? = some o → o.guard = some (g, b) → g < ops.size

theorem edgesOk_ok : ∀ {l : List Oper} {j0 : Nat}, edgesOk j0 l = true → ∀ (k : Nat) (o : Oper), l[k]? = some o → ∀ e ∈ o.after, Region.binds .any e = true → e.on < j0 + k
  | [], _, _, k, o, h => by simp at h
  | x :: l, j0, h, k, o, h1 => by
    simp only [edgesOk, Bool.and_eq_true] at h
    cases k with
    | zero =>
      simp only [List.getElem?_cons_zero, Option.some.injEq] at h1
      subst h1
      intro e he hb
      have := List.all_eq_true.1 h.1 e (by simpa using he)
      rw [hb] at this
      exact blt_lt (by simpa using this)
    | succ k =>
      have := edgesOk_ok h.2 k o (by simpa using h1)
      rw [show j0 + (k + 1) = j0 + 1 + k by omega]
      exact this

theorem ordOk_ok (h : ordOk ops.size ops.toList ord = true) : OrdOk ops ord := by
  simp only [ordOk, Bool.and_eq_true] at h
  obtain ⟨⟨⟨h1, h2⟩, h3⟩, h4⟩ := h
  have h2 := fun i hi => List.all_eq_true.1 h2 i (List.mem_range.2 hi)
  simp only [Bool.and_eq_true] at h2
  refine ⟨Nat.eq_of_beq_eq_true h1, fun i hi => blt_lt (h2 i hi).1.1.1, fun i hi => Nat.eq_of_beq_eq_true (h2 i hi).1.1.2, fun i hi => blt_lt (h2 i hi).1.2, fun i hi => Nat.eq_of_beq_eq_true (h2 i hi).2, fun j o hj e he hb => ?_, fun i o g b hi hg => ?_⟩
  · have := edgesOk_ok h3 j o (by simpa using hj) e he hb
    omega
  · have := List.all_eq_true.1 h4 o (by simpa using Array.mem_of_getElem? hi)
    rw [hg] at this
    exact blt_lt this

def reA (ops : Array Oper) (tau ord : List Nat) : Array Oper := (reOps ops.toList tau ord ord).toArray

theorem reOps_get {l0 : List Oper} {tau ord : List Nat} : ∀ {l : List Nat}, (∀ i ∈ l, i < l0.length) → (reOps l0 tau ord l).length = l.length ∧ ∀ k : Nat, (reOps l0 tau ord l)[k]? = (l[k]?).bind fun i => (l0[i]?).map (reOper ord tau i)
  | [], _ => ⟨rfl, fun k => by simp [reOps]⟩
  | i :: l, h => by
    obtain ⟨h1, h2⟩ := reOps_get (l0 := l0) (tau := tau) (ord := ord) (l := l) fun j hj => h j (List.mem_cons_of_mem _ hj)
    have hi0 : i < l0.length := h i (List.mem_cons_self ..)
    have hi : l0[i]? = some l0[i] := List.getElem?_eq_getElem hi0
    refine ⟨by simp only [reOps, hi, List.length_cons, h1], fun k => ?_⟩
    simp only [reOps, hi]
    cases k with
    | zero => simp [hi]
    | succ k => simpa using h2 k

theorem OrdOk.mem (hO : OrdOk ops ord) : ∀ i ∈ ord, i < ops.size := fun i hi => by
  obtain ⟨k, hk, rfl⟩ := List.mem_iff_getElem.1 hi
  have := hO.bound k (by rw [← hO.len]; exact hk)
  simpa [List.getD_eq_getElem?_getD, List.getElem?_eq_getElem hk] using this
theorem OrdOk.size (hO : OrdOk ops ord) : (reA ops tau ord).size = ops.size := by
  unfold reA
  rw [List.size_toArray, (reOps_get fun i hi => by simpa using hO.mem i hi).1, hO.len]
theorem OrdOk.at (hO : OrdOk ops ord) {k : Nat} (hk : k < ops.size) : (reA ops tau ord)[k]? = (ops[ord.getD k ops.size]?).map (reOper ord tau (ord.getD k ops.size)) := by
  unfold reA
  have hl := hO.len
  rw [List.getElem?_toArray, (reOps_get fun i hi => by simpa using hO.mem i hi).2 k, List.getElem?_eq_getElem (by omega)]
  simp [List.getD_eq_getElem?_getD, List.getElem?_eq_getElem (show k < ord.length by omega)]
theorem OrdOk.get (hO : OrdOk ops ord) {i : Nat} (hi : i < ops.size) : (reA ops tau ord)[posIn ord i]? = (ops[i]?).map (reOper ord tau i) := by
  rw [hO.at (hO.lt i hi), hO.pos i hi]
theorem OrdOk.inj (hO : OrdOk ops ord) {i j : Nat} (hi : i < ops.size) (hj : j < ops.size) (h : posIn ord i = posIn ord j) : i = j := by
  rw [← hO.pos i hi, h, hO.pos j hj]

theorem re_op (hO : OrdOk ops ord) {i : Nat} (hi : i < ops.size) {K K' : Act → World → Prop} (hK : ∀ a w, K' a w → K a w) (h : wpOpIn Fc n P (reA ops tau ord) Q (posIn ord i) K' act w) : wpOpIn Fc n P ops Q i K act w := by
  refine wpOpIn_mono hK ?_
  have hoi : ops[i]? = some ops[i] := Array.getElem?_eq_getElem hi
  unfold wpOpIn at h ⊢
  rw [hO.get hi, hoi] at h
  rw [hoi]
  simp only [Option.map_some] at h ⊢
  have hw : Region.wanted (reOper ord tau i ops[i]) (yielded (reA ops tau ord) act.tmps) = Region.wanted ops[i] (yielded ops act.tmps) := by
    unfold Region.wanted
    cases hg : ops[i].guard with
    | none => simp [reOper, hg]
    | some g =>
      obtain ⟨g, b⟩ := g
      have hlt := hO.guard i _ g b hoi hg
      have hog : ops[g]? = some ops[g] := Array.getElem?_eq_getElem hlt
      have : yielded (reA ops tau ord) act.tmps (posIn ord g) = yielded ops act.tmps g := by
        unfold yielded
        rw [hO.get hlt, hog]
        rfl
      simp only [reOper, hg, Option.map_some, this]
  rw [hw] at h
  exact h

theorem re_ops (hO : OrdOk ops ord) : ∀ {l : List Nat} {act : Act} {w : World}, (∀ i ∈ l, i < ops.size) → wpOpsIn Fc n P (reA ops tau ord) Q (l.map (posIn ord)) act w → wpOpsIn Fc n P ops Q l act w
  | [], act, w, _, h => by simpa [wpOpsIn] using h
  | i :: l, act, w, hl, h => by
    rw [List.map_cons, wpOpsIn_cons] at h
    rw [wpOpsIn_cons]
    exact re_op hO (hl i (List.mem_cons_self ..)) (fun a w h => re_ops hO (fun j hj => hl j (List.mem_cons_of_mem _ hj)) h) h

def isT (ops : Array Oper) (i : Nat) : Bool := match ops[i]? with
  | some o => tailish o
  | none => false

theorem upTo_app {i x : Nat} : ∀ {A B : List Nat}, x ∈ upTo (A ++ i :: B) i → x ∈ A
  | [], B, h => by simp [upTo] at h
  | a :: A, B, h => by
    simp only [List.cons_append, upTo] at h
    cases hb : Nat.beq a i with
    | true => rw [hb, cond_true] at h; cases h
    | false =>
      rw [hb, cond_false] at h
      rcases List.mem_cons.1 h with h | h
      · exact List.mem_cons.2 (.inl h)
      · exact List.mem_cons.2 (.inr (upTo_app h))

theorem re_prec (hO : OrdOk ops ord) : ∀ {l done : List Nat}, (∀ i ∈ done, i < ops.size) → tau = done.reverse.filter (isT ops) ++ l.filter (isT ops) → Prec ops done l → Prec (reA ops tau ord) (done.map (posIn ord)) (l.map (posIn ord))
  | [], done, hd, ht, hp => by
    intro i hi
    rw [hO.size] at hi
    rw [← hO.inv i hi]
    exact List.mem_map_of_mem (hp _ (hO.bound i hi))
  | i :: l, done, hd, ht, hp => by
    obtain ⟨hlt, hnd, he, hp⟩ := hp
    have hoi : ops[i]? = some ops[i] := Array.getElem?_eq_getElem hlt
    refine ⟨by rw [hO.size]; exact hO.lt i hlt, fun h => ?_, fun o' ho' e he' hb => ?_, ?_⟩
    · obtain ⟨j, hj, e⟩ := List.mem_map.1 h
      have := hO.inj (hd j hj) hlt e
      subst this
      exact hnd hj
    · rw [hO.get hlt, hoi] at ho'
      simp only [Option.map_some, Option.some.injEq] at ho'
      subst ho'
      simp only [reOper, List.mem_toArray, List.mem_append] at he'
      rcases he' with he' | he'
      · obtain ⟨e0, h0, rfl⟩ := List.mem_map.1 he'
        exact List.mem_map_of_mem (he _ hoi e0 (by simpa using h0) hb)
      · cases ht' : tailish ops[i] with
        | false => rw [ht'] at he'; simp at he'
        | true =>
          rw [ht', cond_true] at he'
          obtain ⟨x, hx, rfl⟩ := List.mem_map.1 he'
          have hti : isT ops i = true := by unfold isT; rw [hoi]; exact ht'
          rw [ht, List.filter_cons_of_pos hti] at hx
          have := upTo_app hx
          exact List.mem_map_of_mem (by simpa using (List.mem_filter.1 this).1)
    · have := re_prec hO (l := l) (done := i :: done) (fun j hj => by
        rcases List.mem_cons.1 hj with rfl | hj
        · exact hlt
        · exact hd j hj) (by
        rw [ht, List.reverse_cons, List.filter_append, List.append_assoc]
        congr 1
        cases hti : isT ops i <;> simp [hti]) hp
      exact this

/-! All orders of what acts on memory -/
theorem eraseN_eq {x : Nat} : ∀ {l : List Nat}, eraseN x l = l.erase x
  | [] => rfl
  | y :: l => by
    simp only [eraseN, List.erase_cons, eraseN_eq (l := l)]
    by_cases e : x = y
    · subst e; simp
    · have h1 : Nat.beq x y = false := by
        cases hb : Nat.beq x y with
        | true => exact absurd (Nat.eq_of_beq_eq_true hb) e
        | false => rfl
      have h2 : (y == x) = false := by simpa using fun h => e h.symm
      rw [h1, h2]; rfl

theorem permsH_mem {bs l : List Nat} {f : List Nat → List (List Nat)} {x : Nat} {m : List Nat} (hc : ∀ y ∈ l, befB bs y x = false) (hm : m ∈ f (eraseN x l)) : ∀ {xs : List Nat}, x ∈ xs → x :: m ∈ permsH bs l f xs
  | [], h => by cases h
  | y :: xs, h => by
    simp only [permsH]
    rcases List.mem_cons.1 h with rfl | h
    · have : (l.all fun y => !befB bs y x) = true := List.all_eq_true.2 fun y hy => by rw [hc y hy]; rfl
      rw [this, cond_true]
      exact List.mem_append_left _ (List.mem_map_of_mem hm)
    · have ih := permsH_mem (xs := xs) hc hm h
      cases hb : (l.all fun z => !befB bs z y) with
      | true => rw [cond_true]; exact List.mem_append_right _ ih
      | false => exact ih

def ClosedL (ops : Array Oper) (done : List Nat) : Prop := ∀ j ∈ done, ∀ o, ops[j]? = some o → ∀ e ∈ o.after, Region.binds .any e = true → e.on ∈ done

theorem bit_in (hE : EdgesLt ops) {done : List Nat} (hc : ClosedL ops done) {i : Nat} : ∀ (j : Nat) {o : Oper}, ops[j]? = some o → (∀ e ∈ o.after, Region.binds .any e = true → e.on ∈ done) → befB (befores ops.toList []) i j = true → i ∈ done := by
  intro j
  induction j using Nat.strongRecOn with
  | _ j ih =>
    intro o hj he hb
    obtain ⟨acc', h1, h2⟩ := (befores_ok (l := ops.toList) (acc := [])).2 j o (by simpa using hj)
    simp only [List.length_nil, Nat.zero_add] at h1 h2
    unfold befB at hb
    rw [h1] at hb
    rcases foldB_bit hb with hb | ⟨e, g1, g2, g3⟩
    · simp at hb
    · have hm : e ∈ o.after := by simpa using g1
      have hlt := hE j o hj e hm g2
      rcases g3 with rfl | g3
      · exact he e hm g2
      · rw [h2 _ hlt] at g3
        have hlt' : e.on < ops.size := Nat.lt_trans hlt (lt_of_some hj)
        have hoe : ops[e.on]? = some ops[e.on] := Array.getElem?_eq_getElem hlt'
        exact ih e.on hlt hoe (hc _ (he e hm g2) _ hoe) g3

theorem perms_mem (hE : EdgesLt ops) : ∀ {l done rem : List Nat}, ClosedL ops done → rem.Nodup → (∀ x, x ∈ rem ↔ isT ops x = true ∧ x ∉ done) → Prec ops done l → l.filter (isT ops) ∈ perms (befores ops.toList []) rem.length rem
  | [], done, rem, hc, hn, hr, hp => by
    have : rem = [] := by
      rw [List.eq_nil_iff_forall_not_mem]
      intro x hx
      obtain ⟨h1, h2⟩ := (hr x).1 hx
      refine h2 (hp x ?_)
      unfold isT at h1
      split at h1
      · rename_i o ho; exact lt_of_some ho
      · cases h1
    subst this
    simp [perms]
  | i :: l, done, rem, hc, hn, hr, hp => by
    obtain ⟨hlt, hnd, he, hp⟩ := hp
    have hoi : ops[i]? = some ops[i] := Array.getElem?_eq_getElem hlt
    have hc' : ClosedL ops (i :: done) := fun j hj o ho e he' hb => by
      rcases List.mem_cons.1 hj with rfl | hj
      · exact List.mem_cons_of_mem _ (he o ho e he' hb)
      · exact List.mem_cons_of_mem _ (hc j hj o ho e he' hb)
    cases hti : isT ops i with
    | false =>
      rw [List.filter_cons_of_neg (by simp [hti])]
      refine perms_mem hE hc' hn (fun x => ?_) hp
      rw [hr x, List.mem_cons]
      constructor
      · rintro ⟨h1, h2⟩
        exact ⟨h1, fun h => h.elim (fun e => by subst e; rw [hti] at h1; cases h1) h2⟩
      · rintro ⟨h1, h2⟩
        exact ⟨h1, fun h => h2 (.inr h)⟩
    | true =>
      rw [List.filter_cons_of_pos hti]
      have him : i ∈ rem := (hr i).2 ⟨hti, hnd⟩
      have ih := perms_mem hE (rem := rem.erase i) hc' (hn.erase i) (fun x => by
        rw [hn.mem_erase_iff, hr x, List.mem_cons]
        constructor
        · rintro ⟨h0, h1, h2⟩
          exact ⟨h1, fun h => h.elim h0 h2⟩
        · rintro ⟨h1, h2⟩
          exact ⟨fun e => h2 (.inl e), h1, fun h => h2 (.inr h)⟩) hp
      have hlen : rem.length = (rem.erase i).length + 1 := by
        rw [List.length_erase_of_mem him]
        have := List.length_pos_of_mem him
        omega
      rw [hlen]
      refine permsH_mem (fun y hy => ?_) (by rw [eraseN_eq]; exact ih) him
      cases hb : befB (befores ops.toList []) y i with
      | false => rfl
      | true => exact absurd (bit_in hE hc i hoi (he _ hoi) hb) ((hr y).1 hy).2

theorem tailsOf_mem : ∀ {l : List Oper} {i0 x : Nat}, x ∈ tailsOf i0 l ↔ ∃ k o, x = i0 + k ∧ l[k]? = some o ∧ tailish o = true
  | [], i0, x => by simp [tailsOf]
  | o :: l, i0, x => by
    have ih := tailsOf_mem (l := l) (i0 := i0 + 1) (x := x)
    have step : x ∈ tailsOf i0 (o :: l) ↔ (tailish o = true ∧ x = i0) ∨ x ∈ tailsOf (i0 + 1) l := by
      simp only [tailsOf]
      cases ht : tailish o <;> simp
    rw [step, ih]
    constructor
    · rintro (⟨h1, h2⟩ | ⟨k, o', h1, h2, h3⟩)
      · exact ⟨0, o, by omega, by simp, h1⟩
      · exact ⟨k + 1, o', by omega, by simpa using h2, h3⟩
    · rintro ⟨k, o', h1, h2, h3⟩
      cases k with
      | zero =>
        simp only [List.getElem?_cons_zero, Option.some.injEq] at h2
        subst h2
        exact .inl ⟨h3, by omega⟩
      | succ k => exact .inr ⟨k, o', by omega, by simpa using h2, h3⟩
theorem tailsOf_nodup : ∀ {l : List Oper} {i0 : Nat}, (tailsOf i0 l).Nodup
  | [], _ => by simp [tailsOf]
  | o :: l, i0 => by
    have ih := tailsOf_nodup (l := l) (i0 := i0 + 1)
    simp only [tailsOf]
    cases ht : tailish o with
    | false => exact ih
    | true =>
      rw [cond_true, List.nodup_cons]
      refine ⟨fun h => ?_, ih⟩
      obtain ⟨k, _, e, _⟩ := tailsOf_mem.1 h
      omega

/-- Every order that is drawn is one of those that are gone through. -/
theorem order_in (hE : EdgesLt ops) (t : Nat) : let ord := Region.linearise .any ops t
    Prec ops [] ord ∧ (∀ i ∈ ord, i < ops.size) ∧ ord.filter (isT ops) ∈ perms (befores ops.toList []) (tailsOf 0 ops.toList).length (tailsOf 0 ops.toList) := by
  have hnone : ∀ i, ¬ Listed (Array.replicate ops.size false) i := fun i hl => by
    unfold Listed at hl
    rw [Array.getD_eq_getD_getElem?, Array.getElem?_replicate] at hl
    split at hl <;> cases hl
  have hp : Prec ops [] (Region.linearise .any ops t) := lin_prec hE ops.size t (U := List.range ops.size) (by simp) (fun i => ⟨fun h => absurd h (hnone i), fun h => by cases h⟩) (fun i hi _ => List.mem_range.2 hi) (by simp)
  refine ⟨hp, ?_, perms_mem hE (fun j hj => by cases hj) tailsOf_nodup (fun x => ?_) hp⟩
  · generalize Region.linearise .any ops t = ord at hp
    have key : ∀ {l done : List Nat}, Prec ops done l → ∀ i ∈ l, i < ops.size := by
      intro l
      induction l with
      | nil => intro _ _ i hi; cases hi
      | cons x l ih =>
        intro done hp i hi
        rcases List.mem_cons.1 hi with rfl | hi
        · exact hp.1
        · exact ih hp.2.2.2 i hi
    exact key hp
  · rw [tailsOf_mem]
    unfold isT
    constructor
    · rintro ⟨k, o, rfl, h1, h2⟩
      rw [Nat.zero_add, show ops[k]? = some o by simpa using h1]
      exact ⟨h2, by simp⟩
    · rintro ⟨h1, _⟩
      split at h1
      · rename_i o ho
        exact ⟨x, o, by omega, by simpa using ho, h1⟩
      · cases h1
end
end Ae
end Go.Proofs.Ytollflfkgcgdkaa
