/- What the theorem of the stage needs: plain. -/
import Derived.Test.YtmgcpfljhcahoaaGrMg
import Derived.Test.YtmgcpfljhcahoaaGrEds
namespace Go.Proofs.Ytmgcpfljhcahoaa
open Go Go.RowKit Sy Tb
namespace Gr
variable {E : List Ed} {N M : Int}
theorem Ac.nil : Ac [] := fun x h => by
  cases h with
  | one h => exact absurd h List.not_mem_nil
  | cons h _ => exact absurd h List.not_mem_nil
theorem Ac.addE (h : Ac E) (hl : E.length ≤ 100000) (p c : Bs) : Ac (rAddE N M E p c) := by
  unfold rAddE
  split
  · rename_i g
    unfold rAddR at g
    split at g
    · split at g
      · cases g
      · split at g
        · cases g
        · rename_i q
          rw [not_or] at q
          exact h.ins (fun r => q.1 ((srch_iff hl c p).2 r)) q.2
    · cases g
  · exact h
theorem getD_mem {l : List Ed} {k : Nat} (h : k < l.length) : l.getD k e00 ∈ l := by
  rw [List.getD_eq_getElem?_getD, List.getElem?_eq_getElem h]
  exact List.getElem_mem h
theorem drop_head {l : List Ed} {k : Nat} (h : k < l.length) : l.drop k = l.getD k e00 :: l.drop (k + 1) := by
  rw [List.drop_eq_getElem_cons h, List.getD_eq_getElem?_getD, List.getElem?_eq_getElem h]
  rfl
theorem back_add (hs : SrtE E) (hac : Ac E) (hv : ∀ e ∈ E, validK e.1 = true ∧ validK e.2 = true) (hl : E.length ≤ 60) {k : Nat} (hk : k < E.length) :
    rAddR 1000 1000 (E.drop (k + 1)) (E.getD k e00).1 (E.getD k e00).2 = (true, 0) ∧ rAddE 1000 1000 (E.drop (k + 1)) (E.getD k e00).1 (E.getD k e00).2 = E.drop k := by
  have hm := getD_mem hk
  have hd := drop_head hk
  obtain ⟨v1, v2⟩ := hv _ hm
  have hs2 : SrtE (E.drop k) := hs.sublist (List.drop_sublist k E)
  rw [hd] at hs2
  have hins : insE (E.getD k e00) (E.drop (k + 1)) = E.drop k := by rw [insE_head hs2, hd]
  have hlen : (E.drop k).length ≤ 60 := by rw [List.length_drop]; omega
  have hnl := nds_len (E.drop k)
  have key : rAddR 1000 1000 (E.drop (k + 1)) (E.getD k e00).1 (E.getD k e00).2 = (true, 0) := by
    unfold rAddR
    rw [if_pos (by rw [v1, v2]; rfl), if_neg, if_neg, if_neg]
    · show ¬ (1000 < ((insE (E.getD k e00) (E.drop (k + 1))).length : Int) ∨ 1000 < ((ndsE (insE (E.getD k e00) (E.drop (k + 1)))).length : Int))
      rw [hins]
      omega
    · intro q
      rcases q with q | q
      · have := (srch_iff (by rw [List.length_drop]; omega) _ _).1 q
        exact hac _ (.cons hm (this.mono fun e he => List.mem_of_mem_drop he))
      · refine hac (E.getD k e00).1 (.one ?_)
        have e : E.getD k e00 = ((E.getD k e00).1, (E.getD k e00).1) := Prod.ext rfl q.symm
        rw [← e]; exact hm
    · intro q
      have := hasE_iff.1 q
      exact ltE_irr _ ((List.pairwise_cons.1 hs2).1 _ this)
  refine ⟨key, ?_⟩
  unfold rAddE
  rw [key]
  exact hins
/-- What may be asked of a graph that has the edges E. -/
theorem rReach_ok {a b : Bs} (ha : validK a = true) (hb : validK b = true) {most : Int} (hm : (E.length : Int) ≤ most) : rReach E a b most = ((srch (chE E) a b).1, ((srch (chE E) a b).2 : Int), 0) := by
  unfold rReach
  have := srch_le E a b
  rw [if_pos (by rw [ha, hb]; rfl), if_neg (by omega), if_neg (by omega)]
theorem hasB_snoc {l : List Bs} {j : Nat} {s : Bs} (h : j < l.length) : hasB (l.take (j + 1)) s = (hasB (l.take j) s || decide (l.getD j ByteArray.empty = s)) := by
  unfold hasB
  rw [take_snoc (d := ByteArray.empty) h, List.any_append]
  simp
theorem hasB_prE (a b : Bs) : hasB (prE E b) a = hasE E (a, b) := by
  rw [Bool.eq_iff_iff, hasB_iff, hasE_iff, mem_prE]
end Gr
section
open Gr
variable {N M : Int} {E : List Ed} {s : Int} {g : GG}
theorem MG.up (h : MG N M E s g) {t : Int} (ht : s ≤ t) : MG N M E t g := ⟨h.eN, h.eE, h.gu, h.pu, h.rel, h.lk, Int.le_trans h.srb ht, h.eM⟩
theorem MG.sb (h : MG N M E s g) (hs : s < 1000000000) : g.sr < 1000000000 := by have := h.srb; omega
theorem MG.valid (h : MG N M E s g) : ∀ e ∈ E, validK e.1 = true ∧ validK e.2 = true := fun ⟨p, c⟩ he => by
  obtain ⟨i, j, hi, hj, rfl, rfl, _⟩ := (edge_iff h.pu).1 ((h.rel.ed p c).1 he)
  exact ⟨h.pu.ks i hi, h.pu.ks j hj⟩
theorem MG.nodes (h : MG N M E s g) : sortK (keyL g.ns) = sortK (ndsE E) := sortK_congr (h.rel.nodes h.pu)
theorem MG.edge (h : MG N M E s g) (a b : Bs) : edge g.ns a b = hasE E (a, b) := by
  rw [Bool.eq_iff_iff, hasE_iff]
  exact (h.rel.ed a b).symm
theorem nodes_valid (hv : ∀ e ∈ E, validK e.1 = true ∧ validK e.2 = true) {x : Bs} (hx : x ∈ sortK (ndsE E)) : validK x = true := by
  obtain ⟨e, he, q⟩ := nds_mem.1 ((sortK_perm _).mem_iff.1 hx)
  rcases q with rfl | rfl
  · exact (hv e he).1
  · exact (hv e he).2
end
end Go.Proofs.Ytmgcpfljhcahoaa
