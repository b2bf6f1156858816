/- One text out of 4. -/
import Derived.Test.YtddionboojdjlaaK7CascadeLong
import Derived.Test.YtddionboojdjlaaK6CascadeLong
section
namespace Go.Proofs.Ytddionboojdjlaa
open Go Go.RowKit Sy Tb
namespace Gr
/-- A key is met; it comes into the level if it is new. -/
def visT (st : List Bs × List Bs) (x : Bs) : List Bs × List Bs := if hasB st.1 x = true then st else (st.1 ++ [x], st.2 ++ [x])
def visK (ch : Bs → List Bs) (st : List Bs × List Bs) (k : Bs) : List Bs × List Bs := (ch k).foldl visT st
def lvl (ch : Bs → List Bs) (met last : List Bs) : List Bs × List Bs := last.foldl (visK ch) (met, [])
/-- The levels, each in order; the next one is looked for in this order. -/
def bfs (ch : Bs → List Bs) : Nat → List Bs → List Bs → List (List Bs)
  | 0, _, _ => []
  | f + 1, met, last => if (lvl ch met last).2 = [] then [] else sortK (lvl ch met last).2 :: bfs ch f (lvl ch met last).1 (sortK (lvl ch met last).2)
def lfuel : Nat := 100000
def levK (ch : Bs → List Bs) (a : Bs) : List (List Bs) := bfs ch lfuel [a] [a]
/-- What is kept: the new ones are those that were met and were not known. -/
structure VI (met0 : List Bs) (st : List Bs × List Bs) : Prop where
  nd : st.1.Nodup
  eq : st.1 = met0 ++ st.2
theorem VI.zero {met : List Bs} (h : met.Nodup) : VI met (met, []) := ⟨h, (List.append_nil _).symm⟩
theorem VI.vis {met0 : List Bs} {st : List Bs × List Bs} (h : VI met0 st) (x : Bs) : VI met0 (visT st x) := by
  unfold visT
  split
  · exact h
  · rename_i g
    refine ⟨?_, ?_⟩
    · have := addK_nodup (k := x) h.nd
      unfold addK at this
      rwa [if_neg g] at this
    · show st.1 ++ [x] = met0 ++ (st.2 ++ [x])
      rw [h.eq, List.append_assoc]
theorem vis_mem (st : List Bs × List Bs) (x y : Bs) : y ∈ (visT st x).1 ↔ y ∈ st.1 ∨ y = x := by
  unfold visT
  split
  · rename_i g
    exact ⟨.inl, fun h => h.elim (fun q => q) fun q => q ▸ hasB_iff.1 g⟩
  · show y ∈ st.1 ++ [x] ↔ _
    rw [List.mem_append, List.mem_singleton]
theorem visL_ok {met0 : List Bs} : ∀ (l : List Bs) (st : List Bs × List Bs), VI met0 st → VI met0 (l.foldl visT st) ∧ ∀ y, y ∈ (l.foldl visT st).1 ↔ y ∈ st.1 ∨ y ∈ l
  | [], st, h => ⟨h, fun y => by simp⟩
  | x :: l, st, h => by
    rw [List.foldl_cons]
    obtain ⟨h1, h2⟩ := visL_ok l (visT st x) (h.vis x)
    refine ⟨h1, fun y => ?_⟩
    rw [h2, vis_mem, List.mem_cons, or_assoc]
theorem visKs_ok {ch : Bs → List Bs} {met0 : List Bs} : ∀ (l : List Bs) (st : List Bs × List Bs), VI met0 st → VI met0 (l.foldl (visK ch) st) ∧ ∀ y, y ∈ (l.foldl (visK ch) st).1 ↔ y ∈ st.1 ∨ ∃ k ∈ l, y ∈ ch k
  | [], st, h => ⟨h, fun y => by simp⟩
  | x :: l, st, h => by
    rw [List.foldl_cons]
    obtain ⟨h0, h0'⟩ := visL_ok (ch x) st h
    obtain ⟨h1, h2⟩ := visKs_ok l (visK ch st x) h0
    refine ⟨h1, fun y => ?_⟩
    rw [h2]
    show (y ∈ ((ch x).foldl visT st).1 ∨ _) ↔ _
    rw [h0', or_assoc]
    simp only [List.mem_cons, exists_eq_or_imp]
theorem lvl_ok {ch : Bs → List Bs} {met last : List Bs} (h : met.Nodup) : VI met (lvl ch met last) ∧ ∀ y, y ∈ (lvl ch met last).2 ↔ y ∉ met ∧ ∃ k ∈ last, y ∈ ch k := by
  obtain ⟨h1, h2⟩ := visKs_ok (ch := ch) last (met, []) (VI.zero h)
  have h1 : VI met (lvl ch met last) := h1
  refine ⟨h1, fun y => ?_⟩
  have h2 : ∀ y, y ∈ (lvl ch met last).1 ↔ y ∈ met ∨ ∃ k ∈ last, y ∈ ch k := h2
  have hnd : (met ++ (lvl ch met last).2).Nodup := by rw [← h1.eq]; exact h1.nd
  rw [List.nodup_append] at hnd
  constructor
  · intro hy
    have hm : y ∈ (lvl ch met last).1 := by rw [h1.eq]; exact List.mem_append_right _ hy
    have hn : y ∉ met := fun q => hnd.2.2 y q y hy rfl
    exact ⟨hn, ((h2 y).1 hm).resolve_left hn⟩
  · rintro ⟨hn, hk⟩
    have := (h2 y).2 (.inr hk)
    rw [h1.eq, List.mem_append] at this
    exact this.resolve_left hn
theorem lvl_nd {ch : Bs → List Bs} {met last : List Bs} (h : met.Nodup) : (lvl ch met last).2.Nodup := by
  have h1 := (lvl_ok (ch := ch) (last := last) h).1
  have hnd : (met ++ (lvl ch met last).2).Nodup := by rw [← h1.eq]; exact h1.nd
  exact (List.nodup_append.1 hnd).2.1
/-- The order in which a level is looked at does not matter to the set of the next one. -/
theorem lvl_congr {ch : Bs → List Bs} {met met' last last' : List Bs} (h : met.Nodup) (h' : met'.Nodup) (hm : ∀ x, x ∈ met ↔ x ∈ met') (hl : ∀ x, x ∈ last ↔ x ∈ last') : (lvl ch met last).2.Perm (lvl ch met' last').2 := by
  refine (List.perm_ext_iff_of_nodup (lvl_nd h) (lvl_nd h')).2 fun y => ?_
  rw [(lvl_ok h).2, (lvl_ok h').2, hm]
  simp only [hl]
theorem lvl_met {ch : Bs → List Bs} {met met' last last' : List Bs} (h : met.Nodup) (h' : met'.Nodup) (hm : ∀ x, x ∈ met ↔ x ∈ met') (hl : ∀ x, x ∈ last ↔ x ∈ last') (x : Bs) : x ∈ (lvl ch met last).1 ↔ x ∈ (lvl ch met' last').1 := by
  rw [(lvl_ok h).1.eq, (lvl_ok h').1.eq, List.mem_append, List.mem_append, hm, (lvl_congr h h' hm hl).mem_iff]
/-- The reference goes on in the order in which keys were met. -/
def bfsR (ch : Bs → List Bs) : Nat → List Bs → List Bs → List (List Bs)
  | 0, _, _ => []
  | f + 1, met, last => if (lvl ch met last).2 = [] then [] else sortK (lvl ch met last).2 :: bfsR ch f (lvl ch met last).1 (lvl ch met last).2
theorem bfs_eq {ch : Bs → List Bs} : ∀ (f : Nat) {met met' last last' : List Bs}, met.Nodup → met'.Nodup → (∀ x, x ∈ met ↔ x ∈ met') → (∀ x, x ∈ last ↔ x ∈ last') → bfs ch f met last = bfsR ch f met' last'
  | 0, _, _, _, _, _, _, _, _ => rfl
  | f + 1, met, met', last, last', h, h', hm, hl => by
    have hp := lvl_congr (ch := ch) h h' hm hl
    unfold bfs bfsR
    by_cases e : (lvl ch met last).2 = []
    · rw [if_pos e, if_pos (by rw [e] at hp; exact hp.symm.eq_nil)]
    · rw [if_neg e, if_neg (fun q => e (by rw [q] at hp; exact hp.eq_nil)), sortK_congr hp]
      congr 1
      exact bfs_eq f (lvl_ok h).1.nd (lvl_ok h').1.nd (lvl_met h h' hm hl) fun x => by rw [(sortK_perm _).mem_iff]
theorem levK_ref (ch : Bs → List Bs) (a : Bs) : levK ch a = bfsR ch lfuel [a] [a] := bfs_eq _ (List.pairwise_singleton ..) (List.pairwise_singleton ..) (fun _ => Iff.rfl) fun _ => Iff.rfl
end Gr
end Go.Proofs.Ytddionboojdjlaa
end
section
namespace Go.Proofs.Ytddionboojdjlaa
open Go Go.RowKit Sy Tb Gr
set_option maxRecDepth 100000

/-! A set of strings, as a map -/
def mtE (L : List Bs) : List (Key × V) := L.map fun k => (Key.s k, V.bool true)
def mtO (L : List Bs) : SObj := .map .s (mtE L)
theorem mtO_ren (θ : Nat → Nat) (L : List Bs) : (mtO L).ren θ = mtO L := by
  simp only [mtO, SObj.ren, mtE, List.map_map]
  rfl
theorem hasB_cons {k x : Bs} {L : List Bs} : hasB (k :: L) x = (decide (k = x) || hasB L x) := rfl
theorem mt_get (k : Bs) : ∀ L : List Bs, getE (.s k) (mtE L) = if hasB L k = true then some (.bool true) else none
  | [] => rfl
  | x :: L => by
    show (if Key.s x = Key.s k then some (V.bool true) else getE (.s k) (mtE L)) = _
    rw [hasB_cons, mt_get k L]
    by_cases e : x = k
    · rw [if_pos (by rw [e]), decide_eq_true e]; rfl
    · rw [if_neg (fun q => e (Key.s.inj q)), decide_eq_false e]; rfl
theorem mt_set {k : Bs} : ∀ {L : List Bs}, hasB L k = false → setE (.s k) (.bool true) (mtE L) = mtE (L ++ [k])
  | [], _ => rfl
  | x :: L, h => by
    rw [hasB_cons, Bool.or_eq_false_iff] at h
    have e : ¬ x = k := of_decide_eq_false h.1
    show (if Key.s x = Key.s k then (Key.s k, V.bool true) :: mtE L else (Key.s x, V.bool true) :: setE (.s k) (.bool true) (mtE L)) = _
    rw [if_neg (fun q => e (Key.s.inj q)), mt_set h.2]
    rfl
theorem mt_look {P : V → Prop} {Q : Prop} {k : Bs} {L : List Bs} (h1 : hasB L k = true → P (.bool true)) (h2 : hasB L k = false → Q) : (∀ v, getE (.s k) (mtE L) = some v → P v) ∧ (getE (.s k) (mtE L) = none → Q) := by
  rw [mt_get]
  cases h : hasB L k with
  | true => exact ⟨fun v hv => (by cases hv; exact h1 h), fun hv => by cases hv⟩
  | false => exact ⟨fun v hv => (by cases hv), fun _ => h2 h⟩
theorem mt_keep (φ : Nat → Option Nat) (L : List Bs) : ∀ p ∈ mtE L, V.mapN φ p.2 = p.2 := fun p hp => by
  obtain ⟨k, _, rfl⟩ := List.mem_map.1 hp
  rfl
theorem ms_ok {φ : Nat → Option Nat} {M : RowsS} : ∀ b N C f, (fun b => (M b).map rwS) b = some (N, C, f) → ∃ f', (fun b => (M b).map rwS) b = some (N, C, f') ∧ ∀ q, q < N → mapNl φ (f q) = f' q := fun b N C f hb => by
  refine ⟨f, hb, fun q _ => ?_⟩
  obtain ⟨r, _, e⟩ := Option.map_eq_some_iff.1 hb
  cases e
  rfl
/-! Rows of slices -/
abbrev Lr := Nat × List Bs × Nat
def lr0 : Lr := (0, [], 0)
def lrV (i : Nat) (x : Lr) : List V := [asS i (some x.1) x.2.1.length x.2.2]
def loR (i : Nat) (O : List Lr) : SObj := .row O.length (fun q => lrV i (O.getD q lr0)) 23 1
theorem loR_ren (θ : Nat → Nat) (i : Nat) (O : List Lr) : (loR i O).ren θ = loR (θ i) O := rfl
def levs (O : List Lr) : List (List Bs) := O.map (·.2.1)
structure OI (M : RowsS) (O : List Lr) : Prop where
  at_ : ∀ x ∈ O, ∃ C, M x.1 = some (x.2.1, C)
  nd : (O.map (·.1)).Nodup
/-- A level that grows, beside rows that stay. -/
structure LvI (M0 : RowsS) (D : List Nat) (M : RowsS) (p : Option Nat) (lv : List Bs) (c : Nat) : Prop where
  keep : ∀ b ∈ D, M b = M0 b
  at_ : (p = none ∧ lv = [] ∧ c = 0) ∨ ∃ b C, p = some b ∧ M b = some (lv, C) ∧ lv.length ≤ c ∧ c ≤ C ∧ b ∉ D ∧ lv ≠ []
variable {M0 M : RowsS} {D : List Nat} {p : Option Nat} {lv : List Bs} {c : Nat}
theorem LvI.zero : LvI M D M none [] 0 := ⟨fun _ _ => rfl, .inl ⟨rfl, rfl, rfl⟩⟩
theorem LvI.is (h : LvI M0 D M p lv c) : IsS M p lv := by
  rcases h.at_ with ⟨h1, h2, _⟩ | ⟨b, C, h1, h2, _⟩
  · exact .inl ⟨h1, h2⟩
  · exact .inr ⟨b, C, h1, h2⟩
theorem LvI.le (h : LvI M0 D M p lv c) : lv.length ≤ c := by
  rcases h.at_ with ⟨_, h2, h3⟩ | ⟨b, C, _, _, h3, _⟩
  · rw [h2]; exact Nat.zero_le _
  · exact h3
theorem LvI.push (h : LvI M0 D M p lv c) (hD : ∀ b ∈ D, M0 b ≠ none) {x : Bs} {b c' C' : Nat} (h1 : lv.length + 1 ≤ c') (h2 : c' ≤ C') (hb : M b = none ∨ (p = some b ∧ c' = c)) :
    LvI M0 D (setM M b (lv ++ [x], C')) (some b) (lv ++ [x]) c' := by
  have hn : b ∉ D := fun q => by
    rcases hb with hb | ⟨hb, hc⟩
    · exact hD b q ((h.keep b q).symm.trans hb)
    · rcases h.at_ with ⟨e, _⟩ | ⟨b', C, e, _, _, _, g, _⟩
      · rw [e] at hb; cases hb
      · rw [e] at hb; cases hb; exact g q
  refine ⟨fun d hd => by rw [setM_ne (show d ≠ b from fun e => hn (by rw [← e]; exact hd))]; exact h.keep d hd, .inr ⟨b, C', rfl, setM_same, by rw [List.length_append]; exact h1, h2, hn, by simp⟩⟩
theorem LvI.hold (h : LvI M0 D M p lv c) (x : Bs) (i : Nat) : (lv.length = 0 ∧ c = 0) ∨ (i = i ∧ ∃ b N C f, p.map (fun b => (b, 0)) = some (b, 0) ∧ (M b).map rwS = some (N, C, f) ∧ lv.length ≤ N ∧ c ≤ C ∧ ∀ q, q < lv.length → ([V.str ((lv ++ [x]).getD q eS)] : List V) = f q) := by
  rcases h.at_ with ⟨_, h2, h3⟩ | ⟨b, C, h1, h2, _, h4, _⟩
  · exact .inl ⟨by rw [h2]; rfl, h3⟩
  · refine .inr ⟨rfl, b, _, C, _, by rw [h1]; rfl, by rw [h2]; rfl, Nat.le_refl _, h4, fun q hq => ?_⟩
    rw [List.getD_eq_getElem?_getD, List.getElem?_append_left hq, ← List.getD_eq_getElem?_getD]
theorem lv_src {x : Bs} (q : Nat) (hq : q < 1) : ([V.str ((lv ++ [x]).getD (lv.length + q) eS)] : List V) = chunk [.str x] 1 (0 + q) := by
  obtain rfl : q = 0 := by omega
  rw [List.getD_eq_getElem?_getD, List.getElem?_append_right (by omega), Nat.add_zero, Nat.sub_self]
  rfl
theorem lv_new {b c' i : Nat} (h : (M b).map rwS = none ∨ (i = i ∧ p.map (fun b => (b, 0)) = some (b, 0) ∧ c' = c)) : M b = none ∨ (p = some b ∧ c' = c) := by
  rcases h with h | ⟨_, h1, h2⟩
  · exact .inl (by simpa using h)
  · refine .inr ⟨?_, h2⟩
    obtain ⟨b', e, q⟩ := Option.map_eq_some_iff.1 h1
    cases q
    exact e
theorem lv_row {x : Bs} {b C : Nat} : (setM M b (lv ++ [x], C) b).map rwS = some (lv.length + 1, C, fun q => [.str ((lv ++ [x]).getD q eS)]) := by
  rw [setM_same]
  show some ((lv ++ [x]).length, _, _) = _
  rw [List.length_append]
  rfl
theorem lv_ne {x : Bs} {b C q : Nat} (h : q ≠ b) : (setM M b (lv ++ [x], C) q).map rwS = (M q).map rwS := by rw [setM_ne h]
theorem lo_push {i : Nat} {O : List Lr} {x : Lr} (q : Nat) (hq : q < O.length + 1) : lrV i ((O ++ [x]).getD q lr0) = appF O.length (fun q => lrV i (O.getD (0 + q) lr0)) (fun q => chunk (lrV i x) 1 (0 + q)) q := by
  refine (push_view (F := lrV i) (d := lr0) q hq).trans ?_
  by_cases h : q < O.length
  · rw [appF_lt h, appF_lt h]
  · rw [appF_ge (by omega), appF_ge (by omega), show q - O.length = 0 by omega]
    rfl
/-- The level is in order and comes to the others. -/
theorem LvI.done {O : List Lr} {lp : Option Nat} (h : LvI M0 (O.map (·.1) ++ lp.toList) M p lv c) (hO : OI M0 O) (hne : lv ≠ []) : ∃ b, p = some b ∧ IsS (sortM M p lv) (some b) (sortK lv) ∧ OI (sortM M p lv) (O ++ [(b, sortK lv, c)]) := by
  rcases h.at_ with ⟨_, h2, _⟩ | ⟨b, C, rfl, hM, _, _, hb, _⟩
  · exact absurd h2 hne
  have hs : sortM M (some b) lv = setM M b (sortK lv, C) := by unfold sortM; simp only [hM]
  have hbO : b ∉ O.map (·.1) := fun q => hb (List.mem_append_left _ q)
  refine ⟨b, rfl, .inr ⟨b, C, rfl, by rw [hs, setM_same]⟩, fun x hx => ?_, ?_⟩
  · rw [hs]
    rcases List.mem_append.1 hx with hx | hx
    · obtain ⟨C', hC⟩ := hO.at_ x hx
      have hm : x.1 ∈ O.map (·.1) := List.mem_map.2 ⟨x, hx, rfl⟩
      exact ⟨C', by rw [setM_ne (show x.1 ≠ b from fun e => hbO (by rw [← e]; exact hm)), h.keep x.1 (List.mem_append_left _ hm)]; exact hC⟩
    · rw [List.mem_singleton] at hx
      subst hx
      exact ⟨C, setM_same⟩
  · rw [List.map_append, List.nodup_append]
    refine ⟨hO.nd, by simp, fun y hy z hz => ?_⟩
    have hz : z = b := by simpa using hz
    subst hz
    exact fun e => hbO (e ▸ hy)
theorem LvI.none {O : List Lr} {lp : Option Nat} (h : LvI M0 (O.map (·.1) ++ lp.toList) M p [] c) (hO : OI M0 O) : p = none ∧ OI (sortM M p []) O ∧ IsS (sortM M p []) none [] := by
  rcases h.at_ with ⟨rfl, _, _⟩ | ⟨_, _, _, _, _, _, _, g⟩
  · refine ⟨rfl, ⟨fun x hx => ?_, hO.nd⟩, .inl ⟨rfl, rfl⟩⟩
    have hm : x.1 ∈ O.map (·.1) := List.mem_map.2 ⟨x, hx, rfl⟩
    show ∃ C, M x.1 = _
    rw [h.keep x.1 (List.mem_append_left _ hm)]
    exact hO.at_ x hx
  · exact absurd rfl g
end Go.Proofs.Ytddionboojdjlaa
end
section
namespace Go.Proofs.Ytddionboojdjlaa
open Go Go.RowKit Sy Tb
namespace Gr
variable {ns : List NS} {E : List Ed}
end Gr
end Go.Proofs.Ytddionboojdjlaa
end
section
namespace Go.Proofs.Ytddionboojdjlaa
open Go Go.RowKit Sy Tb
namespace Gr
variable {E : List Ed} {N M : Int}
theorem Ac.nil : Ac [] := fun x h => by
  cases h with
  | one h => exact absurd h List.not_mem_nil
  | cons h _ => exact absurd h List.not_mem_nil
theorem Ac.addE (h : Ac E) (hl : E.length ≤ 100000) (p c : Bs) : Ac (rAddE N M E p c) := by
  unfold rAddE
  split
  · rename_i g
    unfold rAddR at g
    split at g
    · split at g
      · cases g
      · split at g
        · cases g
        · rename_i q
          rw [not_or] at q
          exact h.ins (fun r => q.1 ((srch_iff hl c p).2 r)) q.2
    · cases g
  · exact h
end Gr
section
open Gr
variable {N M : Int} {E : List Ed} {s : Int} {g : GG}
theorem MG.up (h : MG N M E s g) {t : Int} (ht : s ≤ t) : MG N M E t g := ⟨h.eN, h.eE, h.gu, h.pu, h.rel, h.lk, Int.le_trans h.srb ht, h.eM⟩
theorem MG.sb (h : MG N M E s g) (hs : s < 1000000000) : g.sr < 1000000000 := by have := h.srb; omega
theorem MG.valid (h : MG N M E s g) : ∀ e ∈ E, validK e.1 = true ∧ validK e.2 = true := fun ⟨p, c⟩ he => by
  obtain ⟨i, j, hi, hj, rfl, rfl, _⟩ := (edge_iff h.pu).1 ((h.rel.ed p c).1 he)
  exact ⟨h.pu.ks i hi, h.pu.ks j hj⟩
theorem MG.nodes (h : MG N M E s g) : sortK (keyL g.ns) = sortK (ndsE E) := sortK_congr (h.rel.nodes h.pu)
theorem MG.edge (h : MG N M E s g) (a b : Bs) : edge g.ns a b = hasE E (a, b) := by
  rw [Bool.eq_iff_iff, hasE_iff]
  exact (h.rel.ed a b).symm
theorem nodes_valid (hv : ∀ e ∈ E, validK e.1 = true ∧ validK e.2 = true) {x : Bs} (hx : x ∈ sortK (ndsE E)) : validK x = true := by
  obtain ⟨e, he, q⟩ := nds_mem.1 ((sortK_perm _).mem_iff.1 hx)
  rcases q with rfl | rfl
  · exact (hv e he).1
  · exact (hv e he).2
end
end Go.Proofs.Ytddionboojdjlaa
end
