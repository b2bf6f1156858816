/- One text out of 2. -/
import Derived.Test.YtddionboojdjlaaCaFnsR
import Derived.Test.YtddionboojdjlaaK11CascadeLong
import Derived.Test.YtddionboojdjlaaCaTopoR
import Derived.Test.YtddionboojdjlaaCaRefHR
import Derived.Test.YtddionboojdjlaaGrRef3R
section
namespace Go.Proofs.Ytddionboojdjlaa
open Go Go.RowKit Sy Tb
namespace Gr
variable {E : List Ed} {a x p : Bs}
theorem not_path {a x : Bs} (S : List Bs) (ha : a ∈ S) (hc : ∀ p ∈ S, ∀ y, (p, y) ∈ E → y ∈ S) (h : Path E a x) : x ∈ S := by
  induction h with
  | one h => exact hc _ ha _ h
  | cons h _ ih => exact ih (hc _ ha _ h)
/-- As far as the search has come: the levels P, the last one. -/
structure BI (E : List Ed) (a : Bs) (P : List (List Bs)) (met last : List Bs) : Prop where
  nd : met.Nodup
  mem : ∀ x, x ∈ met ↔ x = a ∨ x ∈ P.flatten
  lst : ∀ x, x ∈ last ↔ if P = [] then x = a else x ∈ P.getLast?.getD []
  cl : ∀ p ∈ met, p ∉ last → ∀ x, (p, x) ∈ E → x ∈ met
  pth : ∀ x ∈ met, x = a ∨ Path E a x
/-- A level: each key has a parent in the one before, and none in an earlier one. -/
def LvOk (E : List Ed) (a : Bs) (P : List (List Bs)) (d : Nat) (l : List Bs) : Prop := ∀ x ∈ l, (∃ p, (p, x) ∈ E ∧ if d = 0 then p = a else p ∈ P.getD (d - 1) []) ∧ ∀ p, (p, x) ∈ E → (∀ y, y + 1 < d → p ∉ P.getD y []) ∧ (0 < d → p ≠ a)
structure LvsOk (E : List Ed) (a : Bs) (P : List (List Bs)) : Prop where
  each : ∀ d, d < P.length → LvOk E a P d (P.getD d [])
theorem lvD_app {P : List (List Bs)} {l : List Bs} {d : Nat} (h : d < P.length) : (P ++ [l]).getD d [] = P.getD d [] := by
  rw [List.getD_eq_getElem?_getD, List.getElem?_append_left h, ← List.getD_eq_getElem?_getD]
theorem lvD_end {P : List (List Bs)} {l : List Bs} : (P ++ [l]).getD P.length [] = l := by
  rw [List.getD_eq_getElem?_getD, List.getElem?_append_right (Nat.le_refl _), Nat.sub_self]
  rfl
theorem mem_lv {P : List (List Bs)} {y : Nat} (h : p ∈ P.getD y []) : p ∈ P.flatten := by
  rw [List.getD_eq_getElem?_getD] at h
  cases e : P[y]? with
  | none => rw [e] at h; exact absurd h List.not_mem_nil
  | some l =>
    rw [e] at h
    exact List.mem_flatten.2 ⟨l, List.mem_of_getElem? e, h⟩
theorem bfs_ok (hac : Ac E) : ∀ (f : Nat) (P : List (List Bs)) (met last : List Bs), BI E a P met last → LvsOk E a P → (a :: P.flatten).Nodup → E.length + 1 < met.length + f →
    LvsOk E a (P ++ bfs (chE E) f met last) ∧ (∀ x, x ∈ (P ++ bfs (chE E) f met last).flatten ↔ Path E a x) := by
  intro f
  induction f with
  | zero =>
    intro P met last h hL hn hf
    exfalso
    have : met.length ≤ (a :: E.map (·.2)).length := nodup_sub h.nd fun x hx => by
      rcases h.pth x hx with rfl | q
      · exact List.mem_cons_self ..
      · refine List.mem_cons_of_mem _ ?_
        have : ∀ {a x : Bs}, Path E a x → x ∈ E.map (·.2) := fun q => by
          induction q with
          | one h => exact List.mem_map.2 ⟨_, h, rfl⟩
          | cons _ _ ih => exact ih
        exact this q
    rw [List.length_cons, List.length_map] at this
    omega
  | succ f ih =>
    intro P met last h hL hn hf
    obtain ⟨v1, v2⟩ := lvl_ok (ch := chE E) (last := last) h.nd
    have hmem : ∀ y, y ∈ (lvl (chE E) met last).2 ↔ y ∉ met ∧ ∃ k ∈ last, (k, y) ∈ E := fun y => by
      rw [v2]
      simp only [mem_chE]
    unfold bfs
    by_cases e : (lvl (chE E) met last).2 = []
    · rw [if_pos e, List.append_nil]
      refine ⟨hL, fun x => ⟨fun hx => ?_, fun hx => ?_⟩⟩
      · rcases h.pth x ((h.mem x).2 (.inr hx)) with rfl | q
        · rw [List.nodup_cons] at hn; exact absurd hx hn.1
        · exact q
      · have hm : x ∈ met := not_path met ((h.mem a).2 (.inl rfl)) (fun p hp y hy => by
          by_cases hl : p ∈ last
          · refine Classical.byContradiction fun q => ?_
            have := (hmem y).2 ⟨q, p, hl, hy⟩
            rw [e] at this
            exact List.not_mem_nil this
          · exact h.cl p hp hl y hy) hx
        rcases (h.mem x).1 hm with rfl | q
        · exact absurd hx (hac x)
        · exact q
    · rw [if_neg e]
      obtain ⟨nw, hnw⟩ : ∃ nw, nw = sortK (lvl (chE E) met last).2 := ⟨_, rfl⟩
      have hnm : ∀ y, y ∈ nw ↔ y ∉ met ∧ ∃ k ∈ last, (k, y) ∈ E := fun y => by rw [hnw, (sortK_perm _).mem_iff]; exact hmem y
      have hm' : ∀ y, y ∈ (lvl (chE E) met last).1 ↔ y ∈ met ∨ y ∈ nw := fun y => by rw [v1.eq, List.mem_append, hnw, (sortK_perm _).mem_iff]
      have hnwn : nw.Nodup := by rw [hnw]; exact (sortK_perm _).nodup_iff.2 (lvl_nd h.nd)
      have hlen : met.length + 1 ≤ (lvl (chE E) met last).1.length := by
        rw [v1.eq, List.length_append]
        have : 0 < (lvl (chE E) met last).2.length := by
          cases q : (lvl (chE E) met last).2 with
          | nil => exact absurd q e
          | cons _ _ => exact Nat.succ_pos _
        omega
      rw [← hnw]
      have hla : ∀ k ∈ last, k ∈ met := fun k hk => by
        have := (h.lst k).1 hk
        split at this
        · rw [this]; exact (h.mem a).2 (.inl rfl)
        · rename_i hne
          refine (h.mem k).2 (.inr ?_)
          cases q : P.getLast? with
          | none => rw [q] at this; exact absurd this List.not_mem_nil
          | some l => rw [q] at this; exact List.mem_flatten.2 ⟨l, List.mem_of_getLast? q, this⟩
      have hB : BI E a (P ++ [nw]) (lvl (chE E) met last).1 nw := by
        refine ⟨v1.nd, fun x => ?_, fun x => ?_, fun p hp hpn x hx => ?_, fun x hx => ?_⟩
        · rw [hm', h.mem, List.flatten_append, List.mem_append, or_assoc]
          simp
        · rw [if_neg (by simp), List.getLast?_concat]
          rfl
        · rcases (hm' p).1 hp with q | q
          · by_cases hl : p ∈ last
            · by_cases g : x ∈ met
              · exact (hm' x).2 (.inl g)
              · exact (hm' x).2 (.inr ((hnm x).2 ⟨g, p, hl, hx⟩))
            · exact (hm' x).2 (.inl (h.cl p q hl x hx))
          · exact absurd q hpn
        · rcases (hm' x).1 hx with q | q
          · exact h.pth x q
          · obtain ⟨_, k, hk, hkx⟩ := (hnm x).1 q
            rcases h.pth k (hla k hk) with rfl | g
            · exact .inr (.one hkx)
            · exact .inr (g.snoc hkx)
      have hN : (a :: (P ++ [nw]).flatten).Nodup := by
        rw [List.flatten_append, ← List.cons_append, List.nodup_append]
        refine ⟨hn, by simpa using hnwn, fun x hx y hy exy => ?_⟩
        subst exy
        have hy : x ∈ nw := by simpa using hy
        refine ((hnm x).1 hy).1 ((h.mem x).2 ?_)
        exact List.mem_cons.1 hx
      have hLv : LvsOk E a (P ++ [nw]) := by
        refine ⟨fun d hd => ?_⟩
        rw [List.length_append, List.length_singleton] at hd
        rcases Nat.lt_or_ge d P.length with g | g
        · rw [lvD_app g]
          intro x hx
          obtain ⟨⟨p, h1, h2⟩, h3⟩ := hL.each d g x hx
          refine ⟨⟨p, h1, ?_⟩, fun p hp => ⟨fun y hy => ?_, (h3 p hp).2⟩⟩
          · split at h2
            · rename_i e0; rw [if_pos e0]; exact h2
            · rename_i e0; rw [if_neg e0, lvD_app (by omega)]; exact h2
          · rw [lvD_app (by omega)]; exact (h3 p hp).1 y hy
        · obtain rfl : d = P.length := by omega
          rw [lvD_end]
          intro x hx
          obtain ⟨hxm, k, hk, hkx⟩ := (hnm x).1 hx
          have hno : ∀ p, (p, x) ∈ E → p ∈ met → p ∈ last := fun p hp hpm => Classical.byContradiction fun q => hxm (h.cl p hpm q x hp)
          refine ⟨⟨k, hkx, ?_⟩, fun p hp => ⟨fun y hy q => ?_, fun hd e2 => ?_⟩⟩
          · have := (h.lst k).1 hk
            split at this
            · rename_i e0; rw [if_pos (by rw [e0]; rfl)]; exact this
            · rename_i e0
              have hpos : 0 < P.length := List.length_pos_iff.2 e0
              rw [if_neg (by omega), lvD_app (by omega), List.getD_eq_getElem?_getD]
              rw [List.getLast?_eq_getElem?] at this
              exact this
          · rw [lvD_app (by omega)] at q
            have hpl := hno p hp ((h.mem p).2 (.inr (mem_lv q)))
            have hpos : P ≠ [] := fun e0 => by rw [e0] at hy; exact absurd hy (Nat.not_lt_zero _)
            have := (h.lst p).1 hpl
            rw [if_neg hpos, List.getLast?_eq_getElem?] at this
            have hn2 : P.flatten.Pairwise (fun u v => u ≠ v) := (List.nodup_cons.1 hn).2
            rw [List.pairwise_flatten] at hn2
            have hpw := List.pairwise_iff_getElem.1 hn2.2 y (P.length - 1) (by omega) (by omega) (by omega)
            rw [List.getD_eq_getElem?_getD, List.getElem?_eq_getElem (show y < P.length by omega)] at q
            rw [List.getElem?_eq_getElem (show P.length - 1 < P.length by omega)] at this
            exact hpw _ q _ this rfl
          · subst e2
            have hpl := hno p hp ((h.mem p).2 (.inl rfl))
            have hpos : P ≠ [] := fun e0 => by rw [e0] at hd; exact absurd hd (Nat.lt_irrefl _)
            have := (h.lst p).1 hpl
            rw [if_neg hpos, List.getLast?_eq_getElem?] at this
            rw [List.getElem?_eq_getElem (show P.length - 1 < P.length by have := List.length_pos_iff.2 hpos; omega)] at this
            exact (List.nodup_cons.1 hn).1 (List.mem_flatten.2 ⟨_, List.getElem_mem _, this⟩)
      have hr := ih (P ++ [nw]) _ nw hB hLv hN (by omega)
      rw [List.append_assoc, List.singleton_append] at hr
      exact hr
theorem levK_ok (hac : Ac E) (hl : E.length ≤ 1000) (a : Bs) : LvsOk E a (levK (chE E) a) ∧ ∀ x, x ∈ (levK (chE E) a).flatten ↔ Path E a x := by
  have := bfs_ok (a := a) hac lfuel [] [a] [a] ⟨List.pairwise_singleton .., fun x => by simp, fun x => by simp, fun p hp hq => absurd hp hq, fun x hx => .inl (List.mem_singleton.1 hx)⟩ ⟨fun d hd => absurd hd (Nat.not_lt_zero d)⟩ (by simp) (by show E.length + 1 < 1 + lfuel; have : lfuel = 100000 := rfl; omega)
  rw [List.nil_append] at this
  exact this
/-- The edges turned about. -/
def rvE (E : List Ed) : List Ed := E.map fun e => (e.2, e.1)
theorem mem_rvE : (p, x) ∈ rvE E ↔ (x, p) ∈ E := by
  unfold rvE
  rw [List.mem_map]
  constructor
  · rintro ⟨e, he, q⟩
    cases q
    exact he
  · exact fun h => ⟨_, h, rfl⟩
theorem path_rv : Path (rvE E) a x ↔ Path E x a := by
  have key : ∀ {F G : List Ed}, (∀ u v, (u, v) ∈ F → (v, u) ∈ G) → ∀ {u v : Bs}, Path F u v → Path G v u := fun hs => by
    intro u v h
    induction h with
    | one h => exact .one (hs _ _ h)
    | cons h _ ih => exact ih.snoc (hs _ _ h)
  exact ⟨key fun u v h => mem_rvE.1 h, key fun u v h => mem_rvE.2 h⟩
theorem ch_rv : chE (rvE E) = prE E := by
  funext k
  unfold chE prE rvE
  rw [List.filter_map, List.map_map]
  rfl
theorem levP_ok (hac : Ac E) (hl : E.length ≤ 1000) (a : Bs) : ∀ x, x ∈ (levK (prE E) a).flatten ↔ Path E x a := fun x => by
  have h := (levK_ok (E := rvE E) (fun y q => hac y (path_rv.1 q)) (by unfold rvE; rw [List.length_map]; exact hl) a).2 x
  rw [ch_rv] at h
  rw [h, path_rv]
end Gr
end Go.Proofs.Ytddionboojdjlaa
end
section
namespace Go.Proofs.Ytddionboojdjlaa
open Go Go.RowKit Sy Tb Gr
set_option maxRecDepth 100000
set_option maxHeartbeats 4000000

theorem bfs_nd {ch : Bs → List Bs} : ∀ (f : Nat) (met last : List Bs), met.Nodup → (bfs ch f met last).flatten.Nodup ∧ ∀ x ∈ (bfs ch f met last).flatten, x ∉ met := fun f => by
  induction f with
  | zero => intro met last _; exact ⟨List.nodup_nil, fun x hx => absurd hx List.not_mem_nil⟩
  | succ f ih =>
    intro met last h
    unfold bfs
    split
    · exact ⟨List.nodup_nil, fun x hx => absurd hx List.not_mem_nil⟩
    · obtain ⟨v1, v2⟩ := lvl_ok (ch := ch) (last := last) h
      obtain ⟨i1, i2⟩ := ih (lvl ch met last).1 (sortK (lvl ch met last).2) v1.nd
      have hm : ∀ y, y ∈ sortK (lvl ch met last).2 ↔ y ∈ (lvl ch met last).2 := fun y => (sortK_perm _).mem_iff
      rw [List.flatten_cons]
      refine ⟨List.nodup_append.2 ⟨(sortK_perm _).nodup_iff.2 (lvl_nd h), i1, fun x hx y hy e => ?_⟩, fun x hx => ?_⟩
      · subst e
        refine i2 x hy ?_
        rw [v1.eq]
        exact List.mem_append_right _ ((hm x).1 hx)
      · rcases List.mem_append.1 hx with q | q
        · exact ((v2 x).1 ((hm x).1 q)).1
        · exact fun g => i2 x q (by rw [v1.eq]; exact List.mem_append_left _ g)
end Go.Proofs.Ytddionboojdjlaa
end
