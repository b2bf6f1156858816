/- The order of use, in plain Lean: a ring of links and the list that it is. -/
import Derived.Test.YtollflfkgcgdkaaSyClone
namespace Go.Proofs.Ytollflfkgcgdkaa
open Go Sy

abbrev Ent := List (Int × Int × Int)
def linkV (p : Int × Int) : V := .agg [.int .i64 p.1, .int .i64 p.2]
def entE (L : Ent) : List (Key × V) := L.map fun p => (.i p.1, linkV p.2)
def lk : Ent → Int → Option (Int × Int)
  | [], _ => none
  | p :: L, n => if p.1 = n then some p.2 else lk L n
def st (n : Int) (v : Int × Int) : Ent → Ent
  | [] => [(n, v)]
  | p :: L => if p.1 = n then (n, v) :: L else p :: st n v L
def dl (n : Int) : Ent → Ent
  | [] => []
  | p :: L => if p.1 = n then L else p :: dl n L
theorem getE_ent (n : Int) : ∀ L : Ent, getE (.i n) (entE L) = (lk L n).map linkV
  | [] => rfl
  | p :: L => by
    simp only [entE, List.map_cons, getE, lk, Key.i.injEq]
    by_cases h : p.1 = n
    · simp [h]
    · rw [if_neg h, if_neg h]; exact getE_ent n L
theorem setE_ent (n : Int) (v : Int × Int) : ∀ L : Ent, setE (.i n) (linkV v) (entE L) = entE (st n v L)
  | [] => rfl
  | p :: L => by
    simp only [entE, List.map_cons, setE, st, Key.i.injEq]
    by_cases h : p.1 = n
    · simp [h]
    · rw [if_neg h, if_neg h]; simp only [List.map_cons]; exact congrArg _ (setE_ent n v L)
theorem delE_ent (n : Int) : ∀ L : Ent, delE (.i n) (entE L) = entE (dl n L)
  | [] => rfl
  | p :: L => by
    simp only [entE, List.map_cons, delE, dl, Key.i.injEq]
    by_cases h : p.1 = n
    · simp [h]
    · rw [if_neg h, if_neg h]; simp only [List.map_cons]; exact congrArg _ (delE_ent n L)
theorem lk_st (n : Int) (v : Int × Int) (m : Int) : ∀ L : Ent, lk (st n v L) m = if m = n then some v else lk L m
  | [] => by simp [st, lk, eq_comm]
  | p :: L => by
    have ih := lk_st n v m L
    simp only [st]
    by_cases h : p.1 = n
    · rw [if_pos h]
      simp only [lk]
      by_cases e : m = n
      · simp [e]
      · rw [if_neg (fun h => e h.symm), if_neg e, h, if_neg (fun h => e h.symm)]
    · rw [if_neg h]
      simp only [lk, ih]
      by_cases e : m = n
      · subst e; rw [if_neg h, if_pos rfl, if_pos rfl]
      · rw [if_neg e, if_neg e]
theorem st_length (n : Int) (v : Int × Int) : ∀ {L : Ent}, lk L n ≠ none → (st n v L).length = L.length
  | [], h => absurd rfl h
  | p :: L, h => by
    simp only [st]
    by_cases e : p.1 = n
    · rw [if_pos e]; rfl
    · rw [if_neg e]
      simp only [lk, if_neg e] at h
      simp [st_length n v h]
theorem st_length_new (n : Int) (v : Int × Int) : ∀ {L : Ent}, lk L n = none → (st n v L).length = L.length + 1
  | [], _ => rfl
  | p :: L, h => by
    simp only [lk] at h
    by_cases e : p.1 = n
    · rw [if_pos e] at h; cases h
    · rw [if_neg e] at h
      simp [st, if_neg e, st_length_new n v h]
theorem lk_mem {n : Int} : ∀ {L : Ent}, lk L n ≠ none ↔ n ∈ L.map (·.1)
  | [] => by simp [lk]
  | p :: L => by
    simp only [lk, List.map_cons, List.mem_cons]
    by_cases e : p.1 = n
    · simp [e]
    · rw [if_neg e, lk_mem]; simp [Ne.symm e]
theorem st_keys (n : Int) (v : Int × Int) : ∀ L : Ent, (st n v L).map (·.1) = if n ∈ L.map (·.1) then L.map (·.1) else L.map (·.1) ++ [n]
  | [] => rfl
  | p :: L => by
    simp only [st]
    by_cases e : p.1 = n
    · simp [e]
    · rw [if_neg e]
      simp only [List.map_cons, st_keys n v L, List.mem_cons]
      by_cases h : n ∈ L.map (·.1)
      · rw [if_pos h, if_pos (.inr h)]
      · rw [if_neg h, if_neg (by rintro (g | g); exact e g.symm; exact h g)]; rfl
theorem st_nd {n : Int} {v : Int × Int} {L : Ent} (h : (L.map (·.1)).Nodup) : ((st n v L).map (·.1)).Nodup := by
  rw [st_keys]
  by_cases e : n ∈ L.map (·.1)
  · rw [if_pos e]; exact h
  · rw [if_neg e]; exact List.nodup_append.2 ⟨h, by simp, fun a ha b hb => by rw [List.mem_singleton.1 hb]; rintro rfl; exact e ha⟩
theorem dl_keys (n : Int) : ∀ L : Ent, (dl n L).map (·.1) = (L.map (·.1)).erase n
  | [] => rfl
  | p :: L => by
    simp only [dl]
    by_cases e : p.1 = n
    · simp [e]
    · rw [if_neg e, List.map_cons, List.map_cons, List.erase_cons_tail (by simpa using e), dl_keys n L]
theorem lk_dl {n : Int} (m : Int) : ∀ {L : Ent}, (L.map (·.1)).Nodup → lk (dl n L) m = if m = n then none else lk L m
  | [], _ => by simp [dl, lk]
  | p :: L, h => by
    simp only [List.map_cons, List.nodup_cons] at h
    simp only [dl]
    by_cases e : p.1 = n
    · rw [if_pos e]
      by_cases em : m = n
      · rw [if_pos em, em]
        cases hq : lk L n with
        | none => rfl
        | some q => exact absurd (lk_mem.1 (by rw [hq]; simp)) (e ▸ h.1)
      · rw [if_neg em]
        simp only [lk]
        rw [if_neg (fun g => em (g.symm.trans e))]
    · rw [if_neg e]
      simp only [lk, lk_dl m h.2]
      by_cases em : m = n
      · subst em; rw [if_neg e, if_pos rfl, if_pos rfl]
      · rw [if_neg em, if_neg em]
theorem dl_length {n : Int} : ∀ {L : Ent}, lk L n ≠ none → (dl n L).length + 1 = L.length
  | [], h => absurd rfl h
  | p :: L, h => by
    simp only [dl]
    by_cases e : p.1 = n
    · rw [if_pos e]; rfl
    · rw [if_neg e]
      simp only [lk, if_neg e] at h
      simp [← dl_length h]

/-! Rings -/
def Seg (M : Int → Option (Int × Int)) : Int → List Int → Int → Prop
  | _, [], _ => True
  | p, x :: l, q => M x = some (p, l.headD q) ∧ Seg M x l q
theorem seg_congr {M M' : Int → Option (Int × Int)} : ∀ {l : List Int} {p q : Int}, (∀ x ∈ l, M' x = M x) → Seg M p l q → Seg M' p l q
  | [], _, _, _, _ => trivial
  | x :: l, p, q, h, ⟨h1, h2⟩ => ⟨(h x (by simp)).trans h1, seg_congr (fun y hy => h y (by simp [hy])) h2⟩
theorem seg_append {M : Int → Option (Int × Int)} : ∀ {a b : List Int} {p q : Int}, Seg M p (a ++ b) q ↔ Seg M p a (b.headD q) ∧ Seg M (a.getLastD p) b q
  | [], b, p, q => by simp [Seg]
  | x :: a, b, p, q => by
    simp only [List.cons_append, Seg, seg_append (a := a)]
    cases a with
    | nil => simp [and_assoc]
    | cons y a => simp only [List.getLastD_cons, List.headD_cons, List.cons_append, and_assoc]
theorem seg_last {M : Int → Option (Int × Int)} {a : List Int} {x p q : Int} : Seg M p (a ++ [x]) q ↔ Seg M p a x ∧ M x = some (a.getLastD p, q) := by
  rw [seg_append]; simp [Seg]

theorem gl_append : ∀ (a b : List Int) (d : Int), (a ++ b).getLastD d = b.getLastD (a.getLastD d)
  | [], _, _ => rfl
  | x :: a, b, d => by rw [List.cons_append, List.getLastD_cons, List.getLastD_cons, gl_append a b x]
theorem hd_append (a b : List Int) (d : Int) : (a ++ b).headD d = a.headD (b.headD d) := by cases a <;> rfl
def slot (n : Int) : Prop := 0 ≤ n ∧ n < 1048576
instance (n : Int) : Decidable (slot n) := by unfold slot; infer_instance
structure Ring (L : Ent) (l : List Int) : Prop where
  nd : (L.map (·.1)).Nodup
  ndl : l.Nodup
  slots : ∀ x ∈ l, slot x
  last : lk L (-1) = some (l.getLastD (-1), l.headD (-1))
  seg : Seg (lk L) (-1) l (-1)
  len : L.length = l.length + 1
  out : ∀ n, n ≠ -1 → n ∉ l → lk L n = none
theorem Ring.end {L : Ent} {l : List Int} (h : Ring L l) : (-1 : Int) ∉ l := fun g => by have := (h.slots _ g).1; omega
theorem seg_mem {M : Int → Option (Int × Int)} : ∀ {l : List Int} {p q : Int}, Seg M p l q → ∀ x ∈ l, M x ≠ none
  | y :: l, p, q, ⟨h1, h2⟩, x, hx => by
    rcases List.mem_cons.1 hx with rfl | hx
    · rw [h1]; simp
    · exact seg_mem h2 x hx
  | [], _, _, _, x, hx => by cases hx
theorem Ring.has {L : Ent} {l : List Int} (h : Ring L l) (n : Int) : lk L n ≠ none ↔ n = -1 ∨ n ∈ l := by
  constructor
  · intro g
    by_cases e : n = -1
    · exact .inl e
    · exact .inr (Classical.byContradiction fun hn => g (h.out n e hn))
  · rintro (rfl | g)
    · rw [h.last]; simp
    · exact seg_mem h.seg n g

def join (L : Ent) (a b : Int) : Ent := let x := (lk L a).getD (0, 0); let L1 := st a (x.1, b) L; let y := (lk L1 b).getD (0, 0); st b (a, y.2) L1
theorem lk_join {L : Ent} {a b : Int} (m : Int) : lk (join L a b) m = if m = b then some (a, if a = b then b else ((lk L b).getD (0, 0)).2) else if m = a then some (((lk L a).getD (0, 0)).1, b) else lk L m := by
  unfold join
  simp only [lk_st]
  by_cases h : a = b
  · subst h; simp
  · simp [h, Ne.symm h]
theorem join_len {L : Ent} {a b : Int} (ha : lk L a ≠ none) (hb : lk L b ≠ none) : (join L a b).length = L.length := by
  unfold join
  rw [st_length, st_length _ _ ha]
  rw [lk_st]
  by_cases h : b = a
  · simp [h]
  · rw [if_neg h]; exact hb
theorem join_nd {L : Ent} {a b : Int} (h : (L.map (·.1)).Nodup) : ((join L a b).map (·.1)).Nodup := st_nd (st_nd h)

def addL (L : Ent) (n : Int) : Ent := join (join (st n (0, 0) L) ((lk L (-1)).getD (0, 0)).1 n) n (-1)
def rmL (L : Ent) (n : Int) : Ent := let x := (lk L n).getD (0, 0); join (dl n L) x.1 x.2

theorem Ring.add {L : Ent} {l : List Int} (h : Ring L l) {n : Int} (hn : slot n) (hl : n ∉ l) : Ring (addL L n) (l ++ [n]) := by
  have hne : n ≠ -1 := fun e => by have := hn.1; omega
  have hno := h.out n hne hl
  have hend := h.end
  unfold addL
  rw [h.last]
  simp only [Option.getD_some]
  rcases List.eq_nil_or_concat l with rfl | ⟨a, x, rfl⟩
  · have hM : ∀ m, lk (join (join (st n (0, 0) L) (-1) n) n (-1)) m = if m = -1 then some (n, n) else if m = n then some (-1, -1) else lk L m := fun m => by
      have hlast := h.last
      simp only [List.getLastD_nil, List.headD_nil] at hlast
      simp only [lk_join, lk_st]
      by_cases e1 : m = -1
      · subst e1; simp [hne, Ne.symm hne, hlast]
      · by_cases e2 : m = n
        · subst e2; simp [e1, Ne.symm hne]
        · simp [e1, e2]
    refine ⟨join_nd (join_nd (st_nd h.nd)), by simp, by simpa using hn, by rw [List.getLastD_nil]; simp [hM], ?_, ?_, fun m h1 h2 => ?_⟩
    · simp [Seg, hM, hne]
    · have e1 : lk (st n (0, 0) L) (-1) ≠ none := by rw [lk_st, if_neg (Ne.symm hne), h.last]; simp
      have e2 : lk (st n (0, 0) L) n ≠ none := by rw [lk_st, if_pos rfl]; simp
      rw [List.getLastD_nil, join_len, join_len e1 e2, st_length_new _ _ hno, h.len]
      · rfl
      · rw [lk_join]; simp
      · rw [lk_join, if_neg (Ne.symm hne), if_pos rfl]; simp
    · rw [List.getLastD_nil, hM, if_neg h1]
      have : m ≠ n := by simpa using h2
      rw [if_neg this]
      exact h.out m h1 (by simp)
  · simp only [List.concat_eq_append] at *
    have hlast := h.last
    have hseg := h.seg
    rw [seg_last] at hseg
    have hx1 : x ≠ -1 := fun e => hend (by simp [e])
    have hxn : x ≠ n := fun e => hl (by simp [e])
    have hxa : x ∉ a := by have := h.ndl; rw [List.nodup_append] at this; exact fun g => this.2.2 x g x (by simp) rfl
    have hM : ∀ m, lk (join (join (st n (0, 0) L) x n) n (-1)) m = if m = -1 then some (n, (a ++ [x]).headD (-1)) else if m = n then some (x, -1) else if m = x then some (a.getLastD (-1), n) else lk L m := fun m => by
      simp only [lk_join, lk_st]
      by_cases e1 : m = -1
      · subst e1; simp [hne, Ne.symm hne, hlast, Ne.symm hx1]
      · by_cases e2 : m = n
        · subst e2; simp [e1, hxn]
        · by_cases e3 : m = x
          · subst e3; simp [e1, e2, hseg.2]
          · simp [e1, e2, e3]
    have hg : (a ++ [x]).getLastD (-1) = x := by simp
    rw [hg]
    refine ⟨join_nd (join_nd (st_nd h.nd)), ?_, fun y hy => ?_, ?_, ?_, ?_, fun m h1 h2 => ?_⟩
    · exact List.nodup_append.2 ⟨h.ndl, by simp, fun u hu v hv => by rw [List.mem_singleton.1 hv]; rintro rfl; exact hl hu⟩
    · rcases List.mem_append.1 hy with hy | hy
      · exact h.slots y hy
      · rw [List.mem_singleton.1 hy]; exact hn
    · rw [hM, if_pos rfl]
      have q1 : (a ++ [x] ++ [n]).getLastD (-1) = n := by simp
      have q2 : (a ++ [x] ++ [n]).headD (-1) = (a ++ [x]).headD (-1) := by cases a <;> rfl
      rw [q1, q2]
    · rw [seg_last, seg_last]
      refine ⟨⟨seg_congr (fun y hy => ?_) hseg.1, ?_⟩, ?_⟩
      · have y1 : y ≠ -1 := fun e => hend (by rw [← e]; simp [hy])
        have y2 : y ≠ n := fun e => hl (by rw [← e]; simp [hy])
        have y3 : y ≠ x := fun e => hxa (by rw [← e]; exact hy)
        rw [hM, if_neg y1, if_neg y2, if_neg y3]
      · rw [hM, if_neg hx1, if_neg hxn, if_pos rfl]
      · rw [hM, if_neg hne, if_pos rfl]; simp
    · have e1 : lk (st n (0, 0) L) x ≠ none := by rw [lk_st, if_neg hxn, hseg.2]; simp
      have e2 : lk (st n (0, 0) L) n ≠ none := by rw [lk_st, if_pos rfl]; simp
      rw [join_len, join_len e1 e2, st_length_new _ _ hno, h.len]
      · simp
      · rw [lk_join]; simp
      · rw [lk_join, if_neg (Ne.symm hne), if_neg (Ne.symm hx1), lk_st, if_neg (Ne.symm hne), hlast]; simp
    · have m2 : m ≠ n := fun e => h2 (by simp [e])
      have m3 : m ≠ x := fun e => h2 (by simp [e])
      rw [hM, if_neg h1, if_neg m2, if_neg m3]
      exact h.out m h1 fun g => h2 (List.mem_append_left _ g)

/-- A list without a number. -/
def wo (l : List Int) (n : Int) : List Int := l.filter fun x => decide (x ≠ n)
theorem wo_split {a b : List Int} {n : Int} (h : (a ++ n :: b).Nodup) : wo (a ++ n :: b) n = a ++ b := by
  rw [List.nodup_append, List.nodup_cons] at h
  unfold wo
  rw [List.filter_append, List.filter_cons_of_neg (by simp), List.filter_eq_self.2, List.filter_eq_self.2]
  · intro x hx; simp; rintro rfl; exact h.2.1.1 hx
  · intro x hx; simp; rintro rfl; exact h.2.2 x hx x (by simp) rfl
theorem Ring.rm {L : Ent} {l : List Int} (h : Ring L l) {n : Int} (hl : n ∈ l) : Ring (rmL L n) (wo l n) := by
  have hend := h.end
  obtain ⟨a, b, rfl⟩ := List.append_of_mem hl
  rw [wo_split h.ndl]
  have hne : n ≠ -1 := fun e => hend (by simp [e])
  have hnd := h.ndl
  rw [List.nodup_append, List.nodup_cons] at hnd
  obtain ⟨hna, ⟨hnb, hndb⟩, hdis⟩ := hnd
  have hnna : n ∉ a := fun g => hdis n g n (by simp) rfl
  have hseg := h.seg
  rw [seg_append] at hseg
  obtain ⟨hs1, hs2, hs3⟩ := hseg
  have hlast := h.last
  unfold rmL
  rw [hs2]
  simp only [Option.getD_some]
  have hD : ∀ m, lk (dl n L) m = if m = n then none else lk L m := fun m => lk_dl m h.nd
  have hP : lk (dl n L) (a.getLastD (-1)) ≠ none := by
    rw [hD]
    rcases List.eq_nil_or_concat a with rfl | ⟨a', x, rfl⟩
    · rw [List.getLastD_nil, if_neg (Ne.symm hne), hlast]; simp
    · simp only [List.concat_eq_append] at *
      have : (a' ++ [x]).getLastD (-1) = x := by simp
      rw [this, if_neg fun e => hnna (by simp [e])]
      exact (h.has x).2 (.inr (by simp))
  have hQ : lk (dl n L) (b.headD (-1)) ≠ none := by
    rw [hD]
    cases b with
    | nil => rw [List.headD_nil, if_neg (Ne.symm hne), hlast]; simp
    | cons y b =>
      rw [List.headD_cons, if_neg fun e => hnb (by simp [e])]
      exact (h.has y).2 (.inr (by simp))
  have hM : ∀ m, lk (join (dl n L) (a.getLastD (-1)) (b.headD (-1))) m = if m = b.headD (-1) then some (a.getLastD (-1), if a.getLastD (-1) = b.headD (-1) then b.headD (-1) else ((lk (dl n L) (b.headD (-1))).getD (0, 0)).2)
      else if m = a.getLastD (-1) then some (((lk (dl n L) (a.getLastD (-1))).getD (0, 0)).1, b.headD (-1)) else if m = n then none else lk L m := fun m => by
    rw [lk_join]
    by_cases e1 : m = b.headD (-1)
    · rw [if_pos e1, if_pos e1]
    · by_cases e2 : m = a.getLastD (-1)
      · rw [if_neg e1, if_pos e2, if_neg e1, if_pos e2]
      · rw [if_neg e1, if_neg e2, if_neg e1, if_neg e2, hD]
  have hae : ∀ y ∈ a, y ≠ -1 := fun y hy e => hend (by rw [← e]; simp [hy])
  have hbe : ∀ y ∈ b, y ≠ -1 := fun y hy e => hend (by rw [← e]; simp [hy])
  have hab : ∀ y ∈ a, y ∉ b := fun y hy hb => hdis y hy y (by simp [hb]) rfl
  refine ⟨join_nd (by rw [dl_keys]; exact h.nd.erase n), List.nodup_append.2 ⟨hna, hndb, fun u hu v hv e => hdis u hu v (by simp [hv]) e⟩, fun y hy => h.slots y (by rcases List.mem_append.1 hy with g | g <;> simp [g]), ?_, ?_, ?_, fun m h1 h2 => ?_⟩
  · -- the end
    rw [hM]
    rw [gl_append, hd_append] at hlast
    simp only [List.getLastD_cons, List.headD_cons] at hlast
    rw [gl_append, hd_append]
    have hlen : lk (dl n L) (-1) = lk L (-1) := by rw [hD, if_neg (Ne.symm hne)]
    rcases List.eq_nil_or_concat a with rfl | ⟨a', x, rfl⟩
    · cases b with
      | nil => simp
      | cons y b =>
        have hy : y ≠ -1 := hbe y (by simp)
        simp only [List.getLastD_nil, List.headD_cons, if_neg (Ne.symm hy), if_true, hlen, hlast, Option.getD_some, List.getLastD_cons, List.headD_nil]
    · simp only [List.concat_eq_append] at *
      have hg : (a' ++ [x]).getLastD (-1) = x := by rw [gl_append]; rfl
      have hx : x ≠ -1 := hae x (by simp)
      have hh : ∀ d, (a' ++ [x]).headD d = a'.headD x := fun d => by rw [hd_append]; rfl
      rw [hg]
      cases b with
      | nil => simp only [List.headD_nil, if_true, if_neg hx, hlen, hlast, Option.getD_some, List.getLastD_nil, hh]
      | cons y b =>
        have hy : y ≠ -1 := hbe y (by simp)
        simp only [List.headD_cons, if_neg (Ne.symm hy), if_neg (Ne.symm hx), if_neg (Ne.symm hne), hlast, List.getLastD_cons, hh]
  · -- the others
    rw [seg_append]
    constructor
    · rcases List.eq_nil_or_concat a with rfl | ⟨a', x, rfl⟩
      · trivial
      · simp only [List.concat_eq_append] at *
        rw [seg_last] at hs1 ⊢
        have hx : x ≠ -1 := hae x (by simp)
        have hxn : x ≠ n := fun e => hnna (by simp [e])
        have hxb : x ≠ b.headD (-1) := by
          cases b with
          | nil => exact hx
          | cons y b => exact fun e => hab x (by simp) (by simp [e])
        have hg : (a' ++ [x]).getLastD (-1) = x := by simp
        rw [hg] at hM
        refine ⟨seg_congr (fun y hy => ?_) hs1.1, ?_⟩
        · have y1 : y ≠ n := fun e => hnna (by rw [← e]; simp [hy])
          have y2 : y ≠ x := fun e => by
            rw [List.nodup_append] at hna
            exact hna.2.2 y hy x (by simp) e
          have y3 : y ≠ b.headD (-1) := by
            cases b with
            | nil => exact hae y (by simp [hy])
            | cons z b => exact fun e => hab y (by simp [hy]) (by simp [e])
          rw [hg, hM, if_neg y3, if_neg y2, if_neg y1]
        · rw [hg, hM, if_neg hxb, if_pos rfl, hD, if_neg hxn, hs1.2]; simp
    · cases b with
      | nil => trivial
      | cons y b =>
        obtain ⟨g1, g2⟩ := hs3
        have hy : y ≠ -1 := hbe y (by simp)
        have hyn : y ≠ n := fun e => hnb (by simp [e])
        have hya : a.getLastD (-1) ≠ y := by
          rcases List.eq_nil_or_concat a with rfl | ⟨a', x, rfl⟩
          · simpa using Ne.symm hy
          · simp only [List.concat_eq_append] at *
            have hg : (a' ++ [x]).getLastD (-1) = x := by simp
            rw [hg]
            exact fun e => hab x (by simp) (by simp [e])
        obtain ⟨u, hu⟩ : ∃ u, u = a.getLastD (-1) := ⟨_, rfl⟩
        replace hM : ∀ m, lk (join (dl n L) u y) m = if m = y then some (u, if u = y then y else ((lk (dl n L) y).getD (0, 0)).2) else if m = u then some (((lk (dl n L) u).getD (0, 0)).1, y) else if m = n then none else lk L m := by rw [hu]; exact hM
        rw [← hu] at hya ⊢
        refine ⟨?_, seg_congr (fun z hz => ?_) g2⟩
        · simp only [List.headD_cons]
          rw [hM]; simp [hya, hD, hyn, g1]
        · have z1 : z ≠ n := fun e => hnb (by rw [← e]; simp [hz])
          have z2 : z ≠ y := fun e => (List.nodup_cons.1 hndb).1 (by rw [← e]; exact hz)
          have z3 : z ≠ u := by
            rw [hu]
            rcases List.eq_nil_or_concat a with rfl | ⟨a', x, rfl⟩
            · simpa using hbe z (by simp [hz])
            · simp only [List.concat_eq_append] at *
              have hg : (a' ++ [x]).getLastD (-1) = x := by simp
              rw [hg]
              exact fun e => hab x (by simp) (by simp [← e, hz])
          simp only [List.headD_cons]
          rw [hM, if_neg z2, if_neg z3, if_neg z1]
  · rw [join_len hP hQ]
    have := dl_length (L := L) (n := n) (by rw [hs2]; simp)
    have := h.len
    simp at this ⊢
    omega
  · have hmn : ∀ y ∈ a ++ b, m ≠ y := fun y hy e => h2 (by rw [e]; exact hy)
    have m1 : m ≠ b.headD (-1) := by
      cases b with
      | nil => exact h1
      | cons y b => exact hmn y (by simp)
    have m2 : m ≠ a.getLastD (-1) := by
      rcases List.eq_nil_or_concat a with rfl | ⟨a', x, rfl⟩
      · simpa using h1
      · simp only [List.concat_eq_append] at *
        have hg : (a' ++ [x]).getLastD (-1) = x := by simp
        rw [hg]
        exact hmn x (by simp)
    rw [hM, if_neg m1, if_neg m2]
    by_cases e : m = n
    · rw [if_pos e]
    · rw [if_neg e]
      exact h.out m h1 fun g => by
        rcases List.mem_append.1 g with g | g
        · exact h2 (by simp [g])
        · rcases List.mem_cons.1 g with g | g
          · exact e g
          · exact h2 (by simp [g])
end Go.Proofs.Ytollflfkgcgdkaa
