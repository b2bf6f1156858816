/- One text out of 2. -/
import Derived.Test.YtddionboojdjlaaK9CascadeHolds
section
namespace Go.Proofs.Ytddionboojdjlaa
open Go Go.RowKit Sy Tb
namespace Gr
variable {ns : List NS} {E : List Ed}
def edF1 (ns : List NS) (i : Nat) : List Ed := (lsE false (ns.getD i ns0)).map fun j => (keyAt ns i, keyAt ns j)
def edN (ns : List NS) (i : Nat) : List Ed := (List.range i).flatMap (edF1 ns)
theorem edN_succ (i : Nat) : edN ns (i + 1) = edN ns i ++ edF1 ns i := by
  unfold edN
  rw [List.range_succ, List.flatMap_append, List.flatMap_singleton]
theorem edN_mono : ∀ {n i : Nat}, i ≤ n → (edN ns i).length ≤ (edN ns n).length
  | 0, i, h => by rw [show i = 0 by omega]; exact Nat.le_refl _
  | n + 1, i, h => by
    rcases Nat.lt_or_ge i (n + 1) with g | g
    · rw [edN_succ, List.length_append]
      have := edN_mono (n := n) (i := i) (by omega)
      omega
    · rw [show i = n + 1 by omega]
      exact Nat.le_refl _
theorem edN_mem (hp : PU ns) {p c : Bs} : (p, c) ∈ edN ns ns.length ↔ edge ns p c = true := by
  unfold edN edF1
  rw [List.mem_flatMap, edge_iff hp]
  constructor
  · rintro ⟨i, hi, h⟩
    rw [List.mem_range] at hi
    obtain ⟨j, hj, e⟩ := List.mem_map.1 h
    cases e
    exact ⟨i, j, hi, hp.lt false i hi j hj, rfl, rfl, hj⟩
  · rintro ⟨i, j, hi, hj, rfl, rfl, hm⟩
    exact ⟨i, List.mem_range.2 hi, List.mem_map.2 ⟨j, hm, rfl⟩⟩
theorem edN_nodup (hp : PU ns) : (edN ns ns.length).Nodup := by
  unfold edN
  show List.Pairwise _ _
  rw [List.pairwise_flatMap]
  refine ⟨fun i hi => ?_, ?_⟩
  · rw [List.mem_range] at hi
    unfold edF1
    rw [List.pairwise_map]
    exact (hp.nd false i hi).imp_of_mem fun {a b} ha hb hab q => hab (hp.dk a b (hp.lt false i hi a ha) (hp.lt false i hi b hb) (congrArg Prod.snd q))
  · refine (List.nodup_range (n := ns.length)).imp_of_mem fun {a b} ha hb hab x hx y hy q => ?_
    rw [List.mem_range] at ha hb
    obtain ⟨j, _, rfl⟩ := List.mem_map.1 hx
    obtain ⟨k, _, rfl⟩ := List.mem_map.1 hy
    exact hab (hp.dk a b ha hb (congrArg Prod.fst q))
theorem RelE.perm (h : RelE ns E) (hp : PU ns) : (edN ns ns.length).Perm E :=
  (List.perm_ext_iff_of_nodup (edN_nodup hp) h.srt.nodup).2 fun ⟨p, c⟩ => by rw [edN_mem hp, h.ed]
/-- A list in order is the list that has its elements. -/
theorem srtE_uniq {l : List Ed} (h : l.Perm E) (hs : SrtE E) (hl : l.Pairwise fun a b => ¬ ltE b a = true) : l = E := by
  refine List.Perm.eq_of_pairwise (le := fun a b => ¬ ltE b a = true) (fun a b _ _ h1 h2 => ?_) hl (hs.imp fun {a b} q r => ltE_irr a (ltE_tr q r)) h
  exact Decidable.byContradiction fun q => h2 (Decidable.byContradiction fun r => r (ltE_tri h1 fun e => q e.symm))
theorem take_get {α β : Type} {l : List α} {f : α → β} {t : Nat} {d : α} (h : t < l.length) : (l.take (t + 1)).map f = (l.take t).map f ++ [f (l.getD t d)] := by
  rw [take_snoc (d := d) h, List.map_append]
  rfl
end Gr
end Go.Proofs.Ytddionboojdjlaa
end
section
namespace Go.Proofs.Ytddionboojdjlaa
open Go Go.RowKit Sy Tb
namespace Gr
variable {E : List Ed} {N M : Int}
theorem Ac.nil : Ac [] := fun x h => by
  cases h with
  | one h => exact absurd h List.not_mem_nil
  | cons h _ => exact absurd h List.not_mem_nil
theorem Ac.addE (h : Ac E) (hl : E.length ≤ 100000) (p c : Bs) : Ac (rAddE N M E p c) := by
  unfold rAddE
  split
  · rename_i g
    unfold rAddR at g
    split at g
    · split at g
      · cases g
      · split at g
        · cases g
        · rename_i q
          rw [not_or] at q
          exact h.ins (fun r => q.1 ((srch_iff hl c p).2 r)) q.2
    · cases g
  · exact h
theorem getD_mem {l : List Ed} {k : Nat} (h : k < l.length) : l.getD k e00 ∈ l := by
  rw [List.getD_eq_getElem?_getD, List.getElem?_eq_getElem h]
  exact List.getElem_mem h
theorem drop_head {l : List Ed} {k : Nat} (h : k < l.length) : l.drop k = l.getD k e00 :: l.drop (k + 1) := by
  rw [List.drop_eq_getElem_cons h, List.getD_eq_getElem?_getD, List.getElem?_eq_getElem h]
  rfl
theorem back_add (hs : SrtE E) (hac : Ac E) (hv : ∀ e ∈ E, validK e.1 = true ∧ validK e.2 = true) (hl : E.length ≤ 60) {k : Nat} (hk : k < E.length) :
    rAddR 1000 1000 (E.drop (k + 1)) (E.getD k e00).1 (E.getD k e00).2 = (true, 0) ∧ rAddE 1000 1000 (E.drop (k + 1)) (E.getD k e00).1 (E.getD k e00).2 = E.drop k := by
  have hm := getD_mem hk
  have hd := drop_head hk
  obtain ⟨v1, v2⟩ := hv _ hm
  have hs2 : SrtE (E.drop k) := hs.sublist (List.drop_sublist k E)
  rw [hd] at hs2
  have hins : insE (E.getD k e00) (E.drop (k + 1)) = E.drop k := by rw [insE_head hs2, hd]
  have hlen : (E.drop k).length ≤ 60 := by rw [List.length_drop]; omega
  have hnl := nds_len (E.drop k)
  have key : rAddR 1000 1000 (E.drop (k + 1)) (E.getD k e00).1 (E.getD k e00).2 = (true, 0) := by
    unfold rAddR
    rw [if_pos (by rw [v1, v2]; rfl), if_neg, if_neg, if_neg]
    · show ¬ (1000 < ((insE (E.getD k e00) (E.drop (k + 1))).length : Int) ∨ 1000 < ((ndsE (insE (E.getD k e00) (E.drop (k + 1)))).length : Int))
      rw [hins]
      omega
    · intro q
      rcases q with q | q
      · have := (srch_iff (by rw [List.length_drop]; omega) _ _).1 q
        exact hac _ (.cons hm (this.mono fun e he => List.mem_of_mem_drop he))
      · refine hac (E.getD k e00).1 (.one ?_)
        have e : E.getD k e00 = ((E.getD k e00).1, (E.getD k e00).1) := Prod.ext rfl q.symm
        rw [← e]; exact hm
    · intro q
      have := hasE_iff.1 q
      exact ltE_irr _ ((List.pairwise_cons.1 hs2).1 _ this)
  refine ⟨key, ?_⟩
  unfold rAddE
  rw [key]
  exact hins
/-- What may be asked of a graph that has the edges E. -/
theorem rReach_ok {a b : Bs} (ha : validK a = true) (hb : validK b = true) {most : Int} (hm : (E.length : Int) ≤ most) : rReach E a b most = ((srch (chE E) a b).1, ((srch (chE E) a b).2 : Int), 0) := by
  unfold rReach
  have := srch_le E a b
  rw [if_pos (by rw [ha, hb]; rfl), if_neg (by omega), if_neg (by omega)]
theorem hasB_snoc {l : List Bs} {j : Nat} {s : Bs} (h : j < l.length) : hasB (l.take (j + 1)) s = (hasB (l.take j) s || decide (l.getD j ByteArray.empty = s)) := by
  unfold hasB
  rw [take_snoc (d := ByteArray.empty) h, List.any_append]
  simp
theorem hasB_prE (a b : Bs) : hasB (prE E b) a = hasE E (a, b) := by
  rw [Bool.eq_iff_iff, hasB_iff, hasE_iff, mem_prE]
end Gr
section
open Gr
variable {N M : Int} {E : List Ed} {s : Int} {g : GG}
theorem MG.up (h : MG N M E s g) {t : Int} (ht : s ≤ t) : MG N M E t g := ⟨h.eN, h.eE, h.gu, h.pu, h.rel, h.lk, Int.le_trans h.srb ht, h.eM⟩
theorem MG.sb (h : MG N M E s g) (hs : s < 1000000000) : g.sr < 1000000000 := by have := h.srb; omega
theorem MG.valid (h : MG N M E s g) : ∀ e ∈ E, validK e.1 = true ∧ validK e.2 = true := fun ⟨p, c⟩ he => by
  obtain ⟨i, j, hi, hj, rfl, rfl, _⟩ := (edge_iff h.pu).1 ((h.rel.ed p c).1 he)
  exact ⟨h.pu.ks i hi, h.pu.ks j hj⟩
theorem MG.nodes (h : MG N M E s g) : sortK (keyL g.ns) = sortK (ndsE E) := sortK_congr (h.rel.nodes h.pu)
theorem MG.edge (h : MG N M E s g) (a b : Bs) : edge g.ns a b = hasE E (a, b) := by
  rw [Bool.eq_iff_iff, hasE_iff]
  exact (h.rel.ed a b).symm
theorem nodes_valid (hv : ∀ e ∈ E, validK e.1 = true ∧ validK e.2 = true) {x : Bs} (hx : x ∈ sortK (ndsE E)) : validK x = true := by
  obtain ⟨e, he, q⟩ := nds_mem.1 ((sortK_perm _).mem_iff.1 hx)
  rcases q with rfl | rfl
  · exact (hv e he).1
  · exact (hv e he).2
end
end Go.Proofs.Ytddionboojdjlaa
end
