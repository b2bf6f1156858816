/- A chain of edges and edges that skip some of it: plain. -/
import Derived.Test.YtddionboojdjlaaK12CascadeLong
import Derived.Test.YtddionboojdjlaaCaMadeR
namespace Go.Proofs.Ytddionboojdjlaa
open Go Go.RowKit Sy Tb
namespace Gr
set_option maxRecDepth 100000

def nmL (n : Nat) : List Int := [48 + (n : Int) / 100 % 10, 48 + (n : Int) / 10 % 10, 48 + (n : Int) % 10]
def nm (n : Nat) : Bs := (⟨#[107]⟩ : ByteArray) ++ strB (nmL n)
theorem nm_all : (List.range 200).all (fun i => strLt (nm i) (nm (i + 1))) = true := by kernel_rfl
theorem nm_val : (List.range 201).all (fun i => validK (nm i) && decide ((nm i).size ≤ 20)) = true := by kernel_rfl
theorem nm_lt {i : Nat} : ∀ {j : Nat}, i < j → j ≤ 200 → strLt (nm i) (nm j) = true
  | 0, h, _ => absurd h (Nat.not_lt_zero _)
  | j + 1, h, hj => by
    have h1 := List.all_eq_true.1 nm_all j (List.mem_range.2 (by omega))
    rcases Nat.lt_or_ge i j with g | g
    · exact lt_tr (nm_lt g (by omega)) h1
    · obtain rfl : i = j := by omega
      exact h1
theorem nm_inj {i j : Nat} (hi : i ≤ 200) (hj : j ≤ 200) (h : nm i = nm j) : i = j := by
  rcases Nat.lt_trichotomy i j with g | g | g
  · exact absurd (h ▸ nm_lt g hj) (lt_irr _)
  · exact g
  · exact absurd (h ▸ nm_lt g hi) (lt_irr _)
theorem nm_valid {i : Nat} (hi : i ≤ 200) : validK (nm i) = true ∧ (nm i).size ≤ 20 := by
  have := List.all_eq_true.1 nm_val i (List.mem_range.2 (by omega))
  rw [Bool.and_eq_true, decide_eq_true_iff] at this
  exact this
/-- Edges that go up. -/
def Asc (n : Nat) (E : List Ed) : Prop := ∀ e ∈ E, ∃ i j, i < j ∧ j ≤ n ∧ e = (nm i, nm j)
variable {E : List Ed} {n : Nat}
theorem Asc.path (h : Asc n E) (hn : n ≤ 200) {x y : Bs} (hp : Path E x y) : ∃ i j, i < j ∧ j ≤ n ∧ x = nm i ∧ y = nm j := by
  induction hp with
  | one he =>
    obtain ⟨i, j, h1, h2, e⟩ := h _ he
    cases e
    exact ⟨i, j, h1, h2, rfl, rfl⟩
  | cons he _ ih =>
    obtain ⟨i, j, h1, h2, e⟩ := h _ he
    cases e
    obtain ⟨k, l, h3, h4, e1, e2⟩ := ih
    have := nm_inj (by omega) (by omega) e1
    exact ⟨i, l, by omega, h4, rfl, e2⟩
theorem Asc.add (h : Asc n E) (hn : n ≤ 200) (hl : E.length ≤ 400) {i j : Nat} (hij : i < j) (hj : j ≤ n) : Asc n (rAddE 1000 1000 E (nm i) (nm j)) ∧ ∀ e, e ∈ rAddE 1000 1000 E (nm i) (nm j) ↔ e ∈ E ∨ e = (nm i, nm j) := by
  have key : ∀ e, e ∈ rAddE 1000 1000 E (nm i) (nm j) ↔ e ∈ E ∨ e = (nm i, nm j) := fun e => by
    have hv : (validK (nm i) && validK (nm j)) = true := by rw [(nm_valid (show i ≤ 200 by omega)).1, (nm_valid (show j ≤ 200 by omega)).1]; rfl
    have hno : ¬ ((srch (chE E) (nm j) (nm i)).1 = true ∨ nm i = nm j) := fun q => by
      rcases q with q | q
      · obtain ⟨a, b, h1, h2, e1, e2⟩ := h.path hn ((srch_iff (by omega) _ _).1 q)
        have := nm_inj (by omega) (by omega) e1
        have := nm_inj (by omega) (by omega) e2
        omega
      · have := nm_inj (by omega) (by omega) q
        omega
    have hlen : (insE (nm i, nm j) E).length = E.length + 1 := by rw [insE_eq]; exact len_insG
    have h3 := nds_len (insE (nm i, nm j) E)
    have e1 : rAddR 1000 1000 E (nm i) (nm j) = if hasE E (nm i, nm j) = true then (false, 0) else (true, 0) := by
      unfold rAddR
      rw [if_pos hv]
      by_cases he : hasE E (nm i, nm j) = true
      · rw [if_pos he, if_pos he]
      · rw [if_neg he, if_neg he, if_neg hno, if_neg (by rw [hlen]; omega)]
    unfold rAddE
    rw [e1]
    by_cases he : hasE E (nm i, nm j) = true
    · rw [if_pos he, if_neg (by exact Bool.false_ne_true)]
      have := hasE_iff.1 he
      exact ⟨.inl, fun q => q.elim id fun q => q ▸ this⟩
    · rw [if_neg he, if_pos rfl, mem_insE]
      exact or_comm
  exact ⟨fun e he => by
    rcases (key e).1 he with q | q
    · exact h e q
    · exact ⟨i, j, hij, hj, q⟩, key⟩
theorem Asc.made : ∀ {l : List Ed}, Asc n l → n ≤ 200 → l.length ≤ 300 → Asc n (mkE l) ∧ ∀ e, e ∈ mkE l ↔ e ∈ l := by
  have : ∀ (l E : List Ed), Asc n E → Asc n l → n ≤ 200 → E.length + l.length ≤ 300 → Asc n (l.foldl (fun E e => rAddE 1000 1000 E e.1 e.2) E) ∧ ∀ e, e ∈ l.foldl (fun E e => rAddE 1000 1000 E e.1 e.2) E ↔ e ∈ E ∨ e ∈ l := fun l => by
    induction l with
    | nil => intro E h _ _ _; exact ⟨h, fun e => by simp⟩
    | cons x l ih =>
      intro E h hl hn hlen
      obtain ⟨i, j, h1, h2, rfl⟩ := hl x (List.mem_cons_self ..)
      rw [List.length_cons] at hlen
      obtain ⟨a1, a2⟩ := h.add hn (by omega) h1 h2
      have hle := rAddE_len 1000 1000 E (nm i) (nm j)
      rw [List.foldl_cons]
      obtain ⟨b1, b2⟩ := ih _ a1 (fun e he => hl e (List.mem_cons_of_mem _ he)) hn (by show (rAddE 1000 1000 E (nm i) (nm j)).length + _ ≤ _; omega)
      refine ⟨b1, fun e => ?_⟩
      rw [b2]
      show e ∈ rAddE 1000 1000 E (nm i) (nm j) ∨ _ ↔ _
      rw [a2, List.mem_cons, or_assoc]
  intro l h hn hl
  obtain ⟨a, b⟩ := this l [] (fun e he => absurd he List.not_mem_nil) h hn (by rw [List.length_nil]; omega)
  exact ⟨a, fun e => ⟨fun q => ((b e).1 q).resolve_left List.not_mem_nil, fun q => (b e).2 (.inr q)⟩⟩
def nms (n : Nat) : List Bs := (List.range n).map nm
theorem nms_len (n : Nat) : (nms n).length = n := by unfold nms; rw [List.length_map, List.length_range]
theorem mem_nms {n : Nat} {x : Bs} : x ∈ nms n ↔ ∃ i, i < n ∧ x = nm i := by
  unfold nms
  rw [List.mem_map]
  exact ⟨fun ⟨i, h, e⟩ => ⟨i, List.mem_range.1 h, e.symm⟩, fun ⟨i, h, e⟩ => ⟨i, List.mem_range.2 h, e.symm⟩⟩
theorem nms_srt {n : Nat} (hn : n ≤ 201) : (nms n).Pairwise fun a b => strLt a b = true := by
  unfold nms
  rw [List.pairwise_map]
  exact (List.pairwise_lt_range).imp_of_mem fun {a b} _ hb h => nm_lt h (by have := List.mem_range.1 hb; omega)
theorem nms_nd {n : Nat} (hn : n ≤ 201) : (nms n).Nodup := List.Pairwise.imp (S := fun a b => a ≠ b) (fun {a b} hab e => by rw [e] at hab; exact lt_irr _ hab) (nms_srt hn)
theorem nms_snoc (n : Nat) : nms (n + 1) = nms n ++ [nm n] := by unfold nms; rw [List.range_succ, List.map_append]; rfl
theorem nms_get {n i : Nat} (h : i < n) : (nms n).getD i ByteArray.empty = nm i := by
  unfold nms
  rw [List.getD_eq_getElem?_getD, List.getElem?_map, List.getElem?_range h]
  rfl
/-- The whole chain is there. -/
structure Chn (n : Nat) (E : List Ed) : Prop where
  asc : Asc n E
  all : ∀ i, i < n → (nm i, nm (i + 1)) ∈ E
theorem Chn.nodes (h : Chn n E) (hn : n ≤ 200) (h0 : 0 < n) : ndK E = nms (n + 1) := by
  have : sortK (ndsE E) = nms (n + 1) := sortK_uniq (nds_nodup E) (nms_nd (by omega)) (nms_srt (by omega)) fun x => by
    rw [nds_mem, mem_nms]
    constructor
    · rintro ⟨e, he, q⟩
      obtain ⟨i, j, h1, h2, rfl⟩ := h.asc e he
      rcases q with rfl | rfl
      · exact ⟨i, by omega, rfl⟩
      · exact ⟨j, by omega, rfl⟩
    · rintro ⟨i, hi, rfl⟩
      rcases Nat.lt_or_ge i n with g | g
      · exact ⟨_, h.all i g, .inl rfl⟩
      · obtain ⟨m, rfl⟩ : ∃ m, n = m + 1 := ⟨n - 1, by omega⟩
        obtain rfl : i = m + 1 := by omega
        exact ⟨_, h.all m (by omega), .inr rfl⟩
  exact this
theorem Chn.sorted (h : Chn n E) (hn : n ≤ 200) (h0 : 0 < n) : sortedE E = nms (n + 1) := by
  have hnd := h.nodes hn h0
  have step : ∀ i, i ≤ n → nextE E (nms i) = some (nm i) := fun i hi => by
    unfold nextE
    rw [hnd]
    have := find_at (p := rdyB E (nms i)) (l := nms (n + 1)) (i := i) (by rw [nms_len]; omega) (fun j hj => ?_) ?_
    · rwa [nms_get (by omega)] at this
    · rw [nms_get (by omega)]
      exact Bool.eq_false_iff.2 fun q => (rdyB_iff.1 q).1 (mem_nms.2 ⟨j, hj, rfl⟩)
    · rw [nms_get (by omega)]
      refine rdyB_iff.2 ⟨fun q => ?_, fun p hp => ?_⟩
      · obtain ⟨j, hj, e⟩ := mem_nms.1 q
        have := nm_inj (by omega) (by omega) e
        omega
      · obtain ⟨a, b, h1, h2, e⟩ := h.asc _ hp
        have e1 := congrArg Prod.fst e
        have e2 := congrArg Prod.snd e
        have := nm_inj (by omega) (by omega) e2
        exact mem_nms.2 ⟨a, by omega, e1⟩
  have go : ∀ f i, i + f = n + 1 → topo E f (nms i) = nms (n + 1) := fun f => by
    induction f with
    | zero => intro i hi; rw [← hi]; rfl
    | succ f ih =>
      intro i hi
      rw [topo_some (step i (by omega)), ← nms_snoc]
      exact ih (i + 1) (by omega)
  unfold sortedE
  rw [hnd, nms_len]
  exact go (n + 1) 0 (by omega)
theorem Chn.path (h : Chn n E) {i : Nat} : ∀ {j : Nat}, i < j → j ≤ n → Path E (nm i) (nm j)
  | 0, hi, _ => absurd hi (Nat.not_lt_zero _)
  | j + 1, hi, hj => by
    rcases Nat.lt_or_ge i j with g | g
    · exact (h.path g (by omega)).snoc (h.all j (by omega))
    · obtain rfl : i = j := by omega
      exact .one (h.all i (by omega))
theorem Chn.above (h : Chn n E) (hn : n ≤ 200) (hac : Ac E) (hl : E.length ≤ 1000) : aboE E (nm n) = nms n := by
  unfold aboE
  rw [if_pos (nm_valid hn).1]
  refine sortK_uniq (bfs_nd lfuel [nm n] [nm n] (List.pairwise_singleton ..)).1 (nms_nd (by omega)) (nms_srt (by omega)) fun x => ?_
  refine (levP_ok hac hl (nm n) x).trans ?_
  rw [mem_nms]
  constructor
  · intro q
    obtain ⟨i, j, h1, h2, e1, e2⟩ := h.asc.path hn q
    have := nm_inj hn (by omega) e2
    exact ⟨i, by omega, e1⟩
  · rintro ⟨i, hi, rfl⟩
    exact h.path hi (Nat.le_refl _)
end Gr
end Go.Proofs.Ytddionboojdjlaa
