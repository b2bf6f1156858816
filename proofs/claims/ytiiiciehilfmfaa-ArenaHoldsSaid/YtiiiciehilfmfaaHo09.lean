/- ArenaHolds: the plain law. M: the map of what is there, as a list of keys with their answers. -/
import Derived.Test.YtiiiciehilfmfaaPl09
namespace Go.Proofs.Ytiiiciehilfmfaa
open Go.RowKit

abbrev TM := List ((Int × Int) × Bool)
def TM.put (M : TM) (k : Int × Int) (b : Bool) : TM := if k ∈ M.map Prod.fst then M.map (fun x => if x.1 = k then (k, b) else x) else M ++ [(k, b)]
def TM.get (M : TM) (k : Int × Int) : Option Bool := (M.find? fun x => decide (x.1 = k)).map Prod.snd

theorem hasR_iff2 {gens : List Int} {taken : List Bool} {n g : Int} : hasR gens taken n g = true ↔ 0 ≤ n ∧ n < gens.length ∧ taken.getD n.toNat false = true ∧ g = gens.getD n.toNat 0 := by
  unfold hasR atR
  by_cases hc : 0 ≤ n ∧ n < gens.length ∧ taken.getD n.toNat false = true
  · rw [if_pos hc]
    simp only [beq_self_eq_true, Bool.true_and, beq_iff_eq]
    exact ⟨fun h => ⟨hc.1, hc.2.1, hc.2.2, h.symm⟩, fun h => h.2.2.2.symm⟩
  · rw [if_neg hc]
    simp only [show ((9 : Int) == 0) = false from rfl, Bool.false_and, Bool.false_eq_true, false_iff]
    exact fun h => hc ⟨h.1, h.2.1, h.2.2.1⟩

theorem TM.get_none {M : TM} {k : Int × Int} : M.get k = none ↔ k ∉ M.map Prod.fst := by
  unfold TM.get
  simp only [Option.map_eq_none_iff, List.find?_eq_none, decide_eq_true_eq]
  constructor
  · intro h hk
    obtain ⟨y, hy, e⟩ := List.mem_map.1 hk
    exact h y hy e
  · intro h x hx e
    exact h (List.mem_map.2 ⟨x, hx, e⟩)
theorem TM.get_some {M : TM} (hn : (M.map Prod.fst).Nodup) {k : Int × Int} {b : Bool} : M.get k = some b ↔ (k, b) ∈ M := by
  induction M with
  | nil => simp [TM.get]
  | cons x M ih =>
    simp only [List.map_cons, List.nodup_cons] at hn
    have ih := ih hn.2
    unfold TM.get at ih ⊢
    by_cases hx : x.1 = k
    · subst hx
      simp only [List.find?_cons, decide_true, Option.map_some, Option.some.injEq, List.mem_cons]
      constructor
      · intro h; subst h; exact .inl rfl
      · rintro (h | h)
        · rw [← h]
        · exact absurd (List.mem_map.2 ⟨_, h, rfl⟩) hn.1
    · simp only [List.find?_cons, hx, decide_false, List.mem_cons]
      rw [ih]
      constructor
      · intro h; exact .inr h
      · rintro (h | h)
        · exact absurd (by rw [← h]) hx
        · exact h
theorem TM.put_keys (M : TM) (k : Int × Int) (b : Bool) : (M.put k b).map Prod.fst = if k ∈ M.map Prod.fst then M.map Prod.fst else M.map Prod.fst ++ [k] := by
  unfold TM.put
  split
  · rw [List.map_map]
    refine List.map_congr_left fun x _ => ?_
    simp only [Function.comp]
    split
    · rename_i h; exact h.symm
    · rfl
  · simp
theorem TM.put_nodup {M : TM} (h : (M.map Prod.fst).Nodup) (k : Int × Int) (b : Bool) : ((M.put k b).map Prod.fst).Nodup := by
  rw [TM.put_keys]
  split
  · exact h
  · rename_i hk
    refine List.nodup_append.2 ⟨h, by simp, fun a ha c hc => ?_⟩
    rw [List.mem_singleton] at hc
    subst hc
    exact fun e => hk (e ▸ ha)
theorem TM.mem_put {M : TM} {k : Int × Int} {b : Bool} {x : (Int × Int) × Bool} (h : x ∈ M.put k b) : x = (k, b) ∨ (x ∈ M ∧ x.1 ≠ k) := by
  unfold TM.put at h
  split at h
  · obtain ⟨y, hy, rfl⟩ := List.mem_map.1 h
    by_cases e : y.1 = k
    · rw [if_pos e]; exact .inl rfl
    · rw [if_neg e]; exact .inr ⟨hy, e⟩
  · rename_i hk
    rcases List.mem_append.1 h with h | h
    · exact .inr ⟨h, fun e => hk (List.mem_map.2 ⟨x, h, e⟩)⟩
    · exact .inl (by simpa using h)
theorem TM.put_mem (M : TM) (k : Int × Int) (b : Bool) : (k, b) ∈ M.put k b := by
  unfold TM.put
  split
  · rename_i h
    obtain ⟨y, hy, hk⟩ := List.mem_map.1 h
    exact List.mem_map.2 ⟨y, hy, by rw [if_pos hk]⟩
  · simp
theorem TM.put_other {M : TM} {k : Int × Int} {b : Bool} {x : (Int × Int) × Bool} (h : x ∈ M) (hk : x.1 ≠ k) : x ∈ M.put k b := by
  unfold TM.put
  split
  · exact List.mem_map.2 ⟨x, h, by rw [if_neg hk]⟩
  · exact List.mem_append.2 (.inl h)

/-- The map says what the arena holds. -/
structure TJ (R : RA) (M : TM) : Prop where
  has : ∀ x ∈ M, hasR R.gens R.taken x.1.1 x.1.2 = x.2
  old : ∀ x ∈ M, 0 ≤ x.1.1 ∧ x.1.1 < R.gens.length ∧ (x.2 = false → x.1.2 < R.gens.getD x.1.1.toNat 0)
  nodup : (M.map Prod.fst).Nodup
  all : ∀ k g, hasR R.gens R.taken k g = true → ((k, g), true) ∈ M

theorem TJ.get {R : RA} {M : TM} (h : TJ R M) (n g : Int) : (M.get (n, g)).getD false = hasR R.gens R.taken n g := by
  cases hg : M.get (n, g) with
  | none =>
    have := TM.get_none.1 hg
    cases hh : hasR R.gens R.taken n g with
    | false => rfl
    | true => exact absurd (List.mem_map.2 ⟨_, h.all n g hh, rfl⟩) this
  | some b => exact (h.has _ ((TM.get_some h.nodup).1 hg)).symm

/-- A slot is freed. -/
theorem TJ.rel {R : RA} {M : TM} {i : Nat} (ok : R.Ok i) (h : TJ R M) {n g : Int} (hh : hasR R.gens R.taken n g = true) : TJ (R.rel n g).2 (M.put (n, g) false) := by
  obtain ⟨h1, h2, h3, h4⟩ := hasR_iff2.1 hh
  obtain ⟨k, rfl⟩ := Int.eq_ofNat_of_zero_le h1
  rw [Int.toNat_natCast] at h3 h4
  have hk : k < R.gens.length := by omega
  have hkt : k < R.taken.length := by rw [ok.len]; exact hk
  have e : (R.rel k g).2 = ⟨R.gens.set k (g + 1), R.taken.set k false, R.free ++ [(k : Int)]⟩ := by simp [RA.rel, hh]
  rw [e]
  have hne : ∀ m g' : Int, m ≠ k → hasR (R.gens.set k (g + 1)) (R.taken.set k false) m g' = hasR R.gens R.taken m g' := fun m g' hm => by
    by_cases hm0 : 0 ≤ m
    · have hmk : m.toNat ≠ k := by omega
      unfold hasR atR
      rw [List.length_set, getD_set_ne _ _ _ hmk, getD_set_ne _ _ _ hmk]
    · have a1 : ¬ hasR (R.gens.set k (g + 1)) (R.taken.set k false) m g' = true := fun q => hm0 (hasR_iff2.1 q).1
      have a2 : ¬ hasR R.gens R.taken m g' = true := fun q => hm0 (hasR_iff2.1 q).1
      rw [Bool.not_eq_true] at a1 a2
      rw [a1, a2]
  have hk0 : ∀ g', hasR (R.gens.set k (g + 1)) (R.taken.set k false) k g' = false := fun g' => by
    rw [← Bool.not_eq_true]
    intro q
    have := (hasR_iff2.1 q).2.2.1
    rw [Int.toNat_natCast, getD_set_eq _ _ _ hkt] at this
    cases this
  refine ⟨fun x hx => ?_, fun x hx => ?_, TM.put_nodup h.nodup _ _, fun m g' hm => ?_⟩
  · rcases TM.mem_put hx with rfl | ⟨hx, hn⟩
    · exact hk0 g
    · by_cases hm : x.1.1 = k
      · rw [hm, hk0]
        have := h.has x hx
        rw [hm] at this
        rw [← this]
        symm
        rw [← Bool.not_eq_true]
        intro q
        refine hn (Prod.ext hm ?_)
        have q4 := (hasR_iff2.1 q).2.2.2
        rw [Int.toNat_natCast] at q4
        show x.1.2 = g
        rw [q4, h4]
      · rw [hne _ _ hm]; exact h.has x hx
  · rcases TM.mem_put hx with rfl | ⟨hx, hn⟩
    · refine ⟨h1, by simpa using h2, fun _ => ?_⟩
      show g < _
      rw [Int.toNat_natCast, getD_set_eq _ _ _ hk]
      omega
    · obtain ⟨o1, o2, o3⟩ := h.old x hx
      refine ⟨o1, by simpa using o2, fun hf => ?_⟩
      have := o3 hf
      by_cases hm : x.1.1.toNat = k
      · rw [hm] at this ⊢
        rw [getD_set_eq _ _ _ hk]
        show x.1.2 < g + 1
        omega
      · rw [getD_set_ne _ _ _ hm]; exact this
  · by_cases he : m = k
    · subst he; rw [hk0] at hm; cases hm
    · rw [hne _ _ he] at hm
      exact TM.put_other (h.all m g' hm) (fun q => he (congrArg Prod.fst q))

/-- A map after a key was put in that was not there. -/
theorem TJ.add {R R' : RA} {M : TM} (h : TJ R M) {k : Nat} {v : Int} (hnk : (((k : Int), v)) ∉ M.map Prod.fst) (hk : k < R'.gens.length) (hle : R.gens.length ≤ R'.gens.length)
    (h1 : ∀ m g : Int, m ≠ k → hasR R'.gens R'.taken m g = hasR R.gens R.taken m g) (h2 : ∀ g : Int, hasR R'.gens R'.taken k g = decide (g = v)) (h3 : ∀ g : Int, hasR R.gens R.taken k g = false)
    (h4 : ∀ j, j < R.gens.length → R'.gens.getD j 0 = R.gens.getD j 0) : TJ R' (M.put (k, v) true) := by
  refine ⟨fun x hx => ?_, fun x hx => ?_, TM.put_nodup h.nodup _ _, fun m g hm => ?_⟩
  · rcases TM.mem_put hx with rfl | ⟨hx, hn⟩
    · simp [h2]
    · by_cases he : x.1.1 = k
      · have := h.has x hx
        rw [he, h3] at this
        rw [he, h2, ← this]
        simp only [decide_eq_false_iff_not]
        exact fun q => hn (Prod.ext he q)
      · rw [h1 _ _ he]; exact h.has x hx
  · rcases TM.mem_put hx with rfl | ⟨hx, hn⟩
    · exact ⟨by simp, by simpa using hk, fun q => by cases q⟩
    · obtain ⟨o1, o2, o3⟩ := h.old x hx
      refine ⟨o1, by omega, fun q => ?_⟩
      rw [h4 _ (by omega)]
      exact o3 q
  · by_cases he : m = k
    · subst he
      rw [h2] at hm
      have := of_decide_eq_true hm
      subst this
      exact TM.put_mem _ _ _
    · rw [h1 _ _ he] at hm
      exact TM.put_other (h.all m g hm) (fun q => he (congrArg Prod.fst q))

/-- A slot is taken. -/
theorem TJ.take {R : RA} {M : TM} {i : Nat} (ok : R.Ok i) (h : TJ R M) {most : Int} (he : (R.take most).1.2.2 = 0) :
    ((R.take most).1.1, (R.take most).1.2.1) ∉ M.map Prod.fst ∧ TJ (R.take most).2 (M.put ((R.take most).1.1, (R.take most).1.2.1) true) := by
  obtain ⟨gens, taken, free⟩ := R
  have hl := ok.len
  simp only at hl
  rcases List.eq_nil_or_concat free with rfl | ⟨fr, n, rfl⟩
  · by_cases hm : most ≤ (gens.length : Int)
    · exfalso
      simp [RA.take, hm] at he
    · have e : RA.take ⟨gens, taken, []⟩ most = (((gens.length : Int), 1, 0), ⟨gens ++ [1], taken ++ [true], []⟩) := by simp [RA.take, hm]
      rw [e]
      have hnk : (((gens.length : Nat) : Int), (1 : Int)) ∉ M.map Prod.fst := fun q => by
        obtain ⟨x, hx, hx1⟩ := List.mem_map.1 q
        have := (h.old x hx).2.1
        rw [hx1] at this
        simp at this
      refine ⟨hnk, h.add hnk (by simp) (by simp) (fun m g hm => ?_) (fun g => ?_) (fun g => ?_) (fun j hj => ?_)⟩
      · by_cases hb : 0 ≤ m ∧ m < gens.length
        · have hb2 : m.toNat < gens.length := by omega
          unfold hasR atR
          simp only [List.length_append, List.length_cons, List.length_nil]
          have e1 : (gens ++ [1]).getD m.toNat 0 = gens.getD m.toNat 0 := by simp [List.getD_eq_getElem?_getD, List.getElem?_append, hb2]
          have e2 : (taken ++ [true]).getD m.toNat false = taken.getD m.toNat false := by simp [List.getD_eq_getElem?_getD, List.getElem?_append, hl, hb2]
          rw [e1, e2]
          have p1 : (0 ≤ m ∧ m < ((gens.length + 0 + 1 : Nat) : Int) ∧ taken.getD m.toNat false = true) ↔ (0 ≤ m ∧ m < (gens.length : Int) ∧ taken.getD m.toNat false = true) := ⟨fun q => ⟨q.1, hb.2, q.2.2⟩, fun q => ⟨q.1, by omega, q.2.2⟩⟩
          simp only [Nat.zero_add] at *
          by_cases c : 0 ≤ m ∧ m < (gens.length : Int) ∧ taken.getD m.toNat false = true
          · rw [if_pos c, if_pos ⟨c.1, by omega, c.2.2⟩]
          · rw [if_neg c, if_neg (fun q => c ⟨q.1, hb.2, q.2.2⟩)]
        · have a1 : ¬ hasR (gens ++ [1]) (taken ++ [true]) m g = true := fun q => by
            have := hasR_iff2.1 q
            simp at this
            omega
          have a2 : ¬ hasR gens taken m g = true := fun q => by
            have := hasR_iff2.1 q
            omega
          rw [Bool.not_eq_true] at a1 a2
          rw [a1, a2]
      · rw [Bool.eq_iff_iff, hasR_iff2, decide_eq_true_eq]
        have e1 : (gens ++ [(1 : Int)]).getD gens.length 0 = 1 := by simp [List.getD_eq_getElem?_getD]
        have e2 : (taken ++ [true]).getD gens.length false = true := by rw [← hl]; simp [List.getD_eq_getElem?_getD]
        rw [Int.toNat_natCast, e1, e2]
        simp
        intro _
        omega
      · rw [← Bool.not_eq_true]
        intro q
        have := (hasR_iff2.1 q).2.1
        simp at this
      · simp only at hj
        simp [List.getD_eq_getElem?_getD, List.getElem?_append, hj]
  · rw [List.concat_eq_append] at *
    obtain ⟨k, rfl, hk, ht⟩ := ok.mem n (by simp)
    simp only at hk ht
    have e : RA.take ⟨gens, taken, fr ++ [(k : Int)]⟩ most = (((k : Int), gens.getD k 0, 0), ⟨gens, taken.set k true, fr⟩) := by simp [RA.take]
    rw [e]
    have h0 : ∀ g : Int, hasR gens taken k g = false := fun g => by
      rw [← Bool.not_eq_true]
      intro q
      have := (hasR_iff2.1 q).2.2.1
      rw [Int.toNat_natCast, ht] at this
      cases this
    have hnk : ((k : Int), gens.getD k 0) ∉ M.map Prod.fst := fun q => by
      obtain ⟨x, hx, hx1⟩ := List.mem_map.1 q
      have b := h.has x hx
      have o := (h.old x hx).2.2
      rw [hx1] at b o
      simp only [h0, Int.toNat_natCast] at b o
      have := o b.symm
      omega
    refine ⟨hnk, h.add hnk hk (Nat.le_refl _) (fun m g hm => ?_) (fun g => ?_) h0 (fun j hj => rfl)⟩
    · by_cases hb : 0 ≤ m
      · have hmk : m.toNat ≠ k := by omega
        unfold hasR atR
        simp only
        rw [getD_set_ne _ _ _ hmk]
      · have a1 : ¬ hasR gens (taken.set k true) m g = true := fun q => hb (hasR_iff2.1 q).1
        have a2 : ¬ hasR gens taken m g = true := fun q => hb (hasR_iff2.1 q).1
        rw [Bool.not_eq_true] at a1 a2
        rw [a1, a2]
    · rw [Bool.eq_iff_iff, hasR_iff2, decide_eq_true_eq, Int.toNat_natCast, getD_set_eq _ _ _ (by omega)]
      simp
      omega
end Go.Proofs.Ytiiiciehilfmfaa
