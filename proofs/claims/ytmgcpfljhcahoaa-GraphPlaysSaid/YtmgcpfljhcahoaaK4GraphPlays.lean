/- One text out of 2. -/
import Derived.Test.YtmgcpfljhcahoaaGrPathR
import Derived.Test.YtmgcpfljhcahoaaGrMgR
section
namespace Go.Proofs.Ytmgcpfljhcahoaa
open Go Go.RowKit Sy Tb
namespace Gr
variable {ns : List NS} {E : List Ed}
def edF1 (ns : List NS) (i : Nat) : List Ed := (lsE false (ns.getD i ns0)).map fun j => (keyAt ns i, keyAt ns j)
def edN (ns : List NS) (i : Nat) : List Ed := (List.range i).flatMap (edF1 ns)
theorem edN_succ (i : Nat) : edN ns (i + 1) = edN ns i ++ edF1 ns i := by
  unfold edN
  rw [List.range_succ, List.flatMap_append, List.flatMap_singleton]
theorem edN_mono : ∀ {n i : Nat}, i ≤ n → (edN ns i).length ≤ (edN ns n).length
  | 0, i, h => by rw [show i = 0 by omega]; exact Nat.le_refl _
  | n + 1, i, h => by
    rcases Nat.lt_or_ge i (n + 1) with g | g
    · rw [edN_succ, List.length_append]
      have := edN_mono (n := n) (i := i) (by omega)
      omega
    · rw [show i = n + 1 by omega]
      exact Nat.le_refl _
theorem edN_mem (hp : PU ns) {p c : Bs} : (p, c) ∈ edN ns ns.length ↔ edge ns p c = true := by
  unfold edN edF1
  rw [List.mem_flatMap, edge_iff hp]
  constructor
  · rintro ⟨i, hi, h⟩
    rw [List.mem_range] at hi
    obtain ⟨j, hj, e⟩ := List.mem_map.1 h
    cases e
    exact ⟨i, j, hi, hp.lt false i hi j hj, rfl, rfl, hj⟩
  · rintro ⟨i, j, hi, hj, rfl, rfl, hm⟩
    exact ⟨i, List.mem_range.2 hi, List.mem_map.2 ⟨j, hm, rfl⟩⟩
theorem edN_nodup (hp : PU ns) : (edN ns ns.length).Nodup := by
  unfold edN
  show List.Pairwise _ _
  rw [List.pairwise_flatMap]
  refine ⟨fun i hi => ?_, ?_⟩
  · rw [List.mem_range] at hi
    unfold edF1
    rw [List.pairwise_map]
    exact (hp.nd false i hi).imp_of_mem fun {a b} ha hb hab q => hab (hp.dk a b (hp.lt false i hi a ha) (hp.lt false i hi b hb) (congrArg Prod.snd q))
  · refine (List.nodup_range (n := ns.length)).imp_of_mem fun {a b} ha hb hab x hx y hy q => ?_
    rw [List.mem_range] at ha hb
    obtain ⟨j, _, rfl⟩ := List.mem_map.1 hx
    obtain ⟨k, _, rfl⟩ := List.mem_map.1 hy
    exact hab (hp.dk a b ha hb (congrArg Prod.fst q))
theorem RelE.perm (h : RelE ns E) (hp : PU ns) : (edN ns ns.length).Perm E :=
  (List.perm_ext_iff_of_nodup (edN_nodup hp) h.srt.nodup).2 fun ⟨p, c⟩ => by rw [edN_mem hp, h.ed]
/-- A list in order is the list that has its elements. -/
theorem srtE_uniq {l : List Ed} (h : l.Perm E) (hs : SrtE E) (hl : l.Pairwise fun a b => ¬ ltE b a = true) : l = E := by
  refine List.Perm.eq_of_pairwise (le := fun a b => ¬ ltE b a = true) (fun a b _ _ h1 h2 => ?_) hl (hs.imp fun {a b} q r => ltE_irr a (ltE_tr q r)) h
  exact Decidable.byContradiction fun q => h2 (Decidable.byContradiction fun r => r (ltE_tri h1 fun e => q e.symm))
theorem take_get {α β : Type} {l : List α} {f : α → β} {t : Nat} {d : α} (h : t < l.length) : (l.take (t + 1)).map f = (l.take t).map f ++ [f (l.getD t d)] := by
  rw [take_snoc (d := d) h, List.map_append]
  rfl
end Gr
end Go.Proofs.Ytmgcpfljhcahoaa
end
section
namespace Go.Proofs.Ytmgcpfljhcahoaa
open Go Go.RowKit Sy Tb
namespace Gr
variable {E : List Ed} {N M : Int}
theorem Ac.nil : Ac [] := fun x h => by
  cases h with
  | one h => exact absurd h List.not_mem_nil
  | cons h _ => exact absurd h List.not_mem_nil
theorem Ac.addE (h : Ac E) (hl : E.length ≤ 100000) (p c : Bs) : Ac (rAddE N M E p c) := by
  unfold rAddE
  split
  · rename_i g
    unfold rAddR at g
    split at g
    · split at g
      · cases g
      · split at g
        · cases g
        · rename_i q
          rw [not_or] at q
          exact h.ins (fun r => q.1 ((srch_iff hl c p).2 r)) q.2
    · cases g
  · exact h
end Gr
section
open Gr
variable {N M : Int} {E : List Ed} {s : Int} {g : GG}
theorem MG.up (h : MG N M E s g) {t : Int} (ht : s ≤ t) : MG N M E t g := ⟨h.eN, h.eE, h.gu, h.pu, h.rel, h.lk, Int.le_trans h.srb ht, h.eM⟩
theorem MG.sb (h : MG N M E s g) (hs : s < 1000000000) : g.sr < 1000000000 := by have := h.srb; omega
theorem MG.valid (h : MG N M E s g) : ∀ e ∈ E, validK e.1 = true ∧ validK e.2 = true := fun ⟨p, c⟩ he => by
  obtain ⟨i, j, hi, hj, rfl, rfl, _⟩ := (edge_iff h.pu).1 ((h.rel.ed p c).1 he)
  exact ⟨h.pu.ks i hi, h.pu.ks j hj⟩
theorem MG.nodes (h : MG N M E s g) : sortK (keyL g.ns) = sortK (ndsE E) := sortK_congr (h.rel.nodes h.pu)
theorem MG.edge (h : MG N M E s g) (a b : Bs) : edge g.ns a b = hasE E (a, b) := by
  rw [Bool.eq_iff_iff, hasE_iff]
  exact (h.rel.ed a b).symm
theorem nodes_valid (hv : ∀ e ∈ E, validK e.1 = true ∧ validK e.2 = true) {x : Bs} (hx : x ∈ sortK (ndsE E)) : validK x = true := by
  obtain ⟨e, he, q⟩ := nds_mem.1 ((sortK_perm _).mem_iff.1 hx)
  rcases q with rfl | rfl
  · exact (hv e he).1
  · exact (hv e he).2
end
end Go.Proofs.Ytmgcpfljhcahoaa
end
