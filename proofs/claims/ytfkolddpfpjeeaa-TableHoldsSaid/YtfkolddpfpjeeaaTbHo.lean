/- TableHolds: calls that keep what the map says. -/
import Derived.Test.YtfkolddpfpjeeaaTbHm
namespace Go.Proofs.Ytfkolddpfpjeeaa
open Go Go.RowKit Sy Tb Al
set_option maxRecDepth 100000

def HPut : LSpec where
  X := (Int × Nat × Tab × KE) × ByteArray × Int
  k := 2
  pre x := Ht x.1.1 x.1.2.1 x.1.2.2.1 x.1.2.2.2 ∧ liv x.1.2.2.2 ≤ 10000 ∧ 2 * x.1.2.1 ≤ 32768
  args x θ := [.ptr (θ 0) 0, .str x.2.1, i64 x.2.2]
  objs x θ := [tbC (θ 1) x.1.1 x.1.2.1 (liv x.1.2.2.2), tbR x.1.2.1 x.1.2.2.1]
  out x θ R := ∀ e m' E' D', PutOut x.1.2.2.2 x.2.1 x.2.2 x.1.2.1 e m' E' → Ht x.1.1 m' D' E' → R (i64 e) [some (tbC (θ 2) x.1.1 m' (liv E')), none, some (tbR m' D')]
theorem HPut_nt : HPut.Nt := ⟨fun _ _ => rfl, fun _ _ => rfl, fun _ _ _ h => h⟩
theorem HPut_ok : HPut.Ok Try.prog 12 := fun ⟨⟨s, m, D, E⟩, k, v⟩ R ⟨ht, h1, h2⟩ h => by
  have ht : Ht s m D E := ht
  have h1 : liv E ≤ 10000 := h1
  have h : ∀ e m' E' D', PutOut E k v m e m' E' → Ht s m' D' E' → R (i64 e) [some (tbC 2 s m' (liv E')), none, some (tbR m' D')] := h
  refine SPut_ok ((s, m, (liv E : Int), D), k, v) R ⟨ht.t, by show cnt D m ≤ 10000; rw [ht.cnt]; exact h1, h2⟩ ⟨fun hc => ?_, fun hc hi => ?_, fun hc hn => ?_⟩
  · exact h 2 m E D (.inl ⟨hc, rfl, rfl, rfl⟩) ht
  · exact h 11 m E D (.inr (.inl ⟨hc, (ht.key (chk_ok hc).1).1 hi, rfl, rfl, rfl⟩)) ht
  · have hn : ¬ keyIn m D k := hn
    have hl : live E k = false := by
      cases hb : live E k with
      | false => rfl
      | true => exact absurd ((ht.key (chk_ok hc).1).2 hb) hn
    obtain ⟨p1, p2, p3⟩ : _ ∧ liv (st k v E) = liv E + 1 ∧ Ht s (putM m D) (putT s m D k v) (st k v E) := ht.put h2 h1 (chk_ok hc).1 (chk_ok hc).2 hl
    have := h 0 _ _ _ (.inr (.inr ⟨hc, hl, rfl, p1, rfl⟩)) p3
    rw [show ((liv (st k v E) : Nat) : Int) = (liv E : Int) + 1 by omega] at this
    exact this
def HSet : LSpec where
  X := (Int × Nat × Tab × KE) × ByteArray × Int
  k := 2
  pre x := Ht x.1.1 x.1.2.1 x.1.2.2.1 x.1.2.2.2
  args x θ := [.ptr (θ 0) 0, .str x.2.1, i64 x.2.2]
  objs x θ := [tbC (θ 1) x.1.1 x.1.2.1 (liv x.1.2.2.2), tbR x.1.2.1 x.1.2.2.1]
  out x θ R := ∀ n e E' D', SetOut x.1.2.2.2 x.2.1 x.2.2 n e E' → liv E' = liv x.1.2.2.2 → Ht x.1.1 x.1.2.1 D' E' → R (.tup [i64 n, i64 e]) [some (tbC (θ 1) x.1.1 x.1.2.1 (liv E')), some (tbR x.1.2.1 D')]
theorem HSet_nt : HSet.Nt := ⟨fun _ _ => rfl, fun _ _ => rfl, fun _ _ _ h => h⟩
theorem HSet_ok : HSet.Ok Try.prog 18 := fun ⟨⟨s, m, D, E⟩, k, v⟩ R ht h => by
  have ht : Ht s m D E := ht
  have h : ∀ n e E' D', SetOut E k v n e E' → liv E' = liv E → Ht s m D' E' → R (.tup [i64 n, i64 e]) [some (tbC 1 s m (liv E')), some (tbR m D')] := h
  refine SSet_ok ((s, m, (liv E : Int), D), k, v) R ht.t ⟨fun hc => ?_, fun hc hn => ?_, fun hc i hi e => ?_⟩
  · exact h 0 2 E D (.inl ⟨hc, rfl, rfl, rfl⟩) rfl ht
  · have hn : ¬ keyIn m D k := hn
    refine h 0 9 E D (.inr (.inl ⟨hc, ?_, rfl, rfl, rfl⟩)) rfl ht
    cases hb : live E k with
    | false => rfl
    | true => exact absurd ((ht.key (chk_ok hc).1).2 hb) hn
  · obtain ⟨p1, p2, p3, p4⟩ := ht.set (chk_ok hc).1 (chk_ok hc).2 hi e
    have := h _ 0 _ _ (.inr (.inr ⟨hc, p2, p1, rfl, rfl⟩)) p3 p4
    rw [p3] at this
    exact this
def HDel : LSpec where
  X := (Int × Nat × Tab × KE) × ByteArray
  k := 2
  pre x := Ht x.1.1 x.1.2.1 x.1.2.2.1 x.1.2.2.2
  args x θ := [.ptr (θ 0) 0, .str x.2]
  objs x θ := [tbC (θ 1) x.1.1 x.1.2.1 (liv x.1.2.2.2), tbR x.1.2.1 x.1.2.2.1]
  out x θ R := ∀ n e m' E' D', DelOut x.1.2.2.2 x.2 x.1.2.1 n e m' E' → Ht x.1.1 m' D' E' → R (.tup [i64 n, i64 e]) [some (tbC (θ 2) x.1.1 m' (liv E')), none, some (tbR m' D')]
theorem HDel_nt : HDel.Nt := ⟨fun _ _ => rfl, fun _ _ => rfl, fun _ _ _ h => h⟩
theorem HDel_ok : HDel.Ok Try.prog 23 := fun ⟨⟨s, m, D, E⟩, k⟩ R ht h => by
  have ht : Ht s m D E := ht
  have h : ∀ n e m' E' D', DelOut E k m n e m' E' → Ht s m' D' E' → R (.tup [i64 n, i64 e]) [some (tbC 2 s m' (liv E')), none, some (tbR m' D')] := h
  refine SDel_ok ((s, m, (liv E : Int), D), k) R ht.t ⟨fun hc => ?_, fun hc hn => ?_, fun hc i hi e => ?_⟩
  · exact h 0 2 m E D (.inl ⟨hc, rfl, rfl, rfl, rfl⟩) ht
  · have hn : ¬ keyIn m D k := hn
    refine h 0 9 m E D (.inr (.inl ⟨hc, ?_, rfl, rfl, rfl, rfl⟩)) ht
    cases hb : live E k with
    | false => rfl
    | true => exact absurd ((ht.key (chk_ok hc).1).2 hb) hn
  · obtain ⟨p0, p1, p2, p3, p4⟩ : _ ∧ lk E k = some (D i).2 ∧ live E k = true ∧ liv (st k (-1) E) + 1 = liv E ∧ Ht s (delM m D) (delT s m D i) (st k (-1) E) := ht.del (chk_ok hc).1 hi e
    have := h _ 0 _ _ _ (.inr (.inr ⟨hc, p2, p1, rfl, p0, rfl⟩)) p4
    rw [show ((liv (st k (-1) E) : Nat) : Int) = (liv E : Int) - 1 by omega] at this
    exact this
/-- What Get of a key of the map returns. -/
def HGets : LSpec where
  X := (Int × Nat × Tab × KE) × ByteArray × Int
  k := 2
  pre x := Ht x.1.1 x.1.2.1 x.1.2.2.1 x.1.2.2.2 ∧ valid x.2.1 ∧ lk x.1.2.2.2 x.2.1 = some x.2.2
  args x θ := [.ptr (θ 0) 0, .str x.2.1, i64 (if x.2.2 < 0 then 0 else x.2.2), i64 (if x.2.2 < 0 then 9 else 0)]
  objs x θ := [tbC (θ 1) x.1.1 x.1.2.1 (liv x.1.2.2.2), tbR x.1.2.1 x.1.2.2.1]
  out x θ R := R (.sb true) [some (tbC (θ 1) x.1.1 x.1.2.1 (liv x.1.2.2.2)), some (tbR x.1.2.1 x.1.2.2.1)]
theorem HGets_nt : HGets.Nt := ⟨fun _ _ => rfl, fun _ _ => rfl, fun _ _ _ h => h⟩
theorem HGets_ok : HGets.Ok Try.prog 21 := fun ⟨⟨s, m, D, E⟩, k, v⟩ R ⟨ht, hk, hl⟩ h => by
  have ht : Ht s m D E := ht
  have hk : valid k := hk
  have hl : lk E k = some v := hl
  have hc : chk k 0 = 0 := chk_valid.2 hk
  have hl2 : live E k = decide (0 ≤ v) := by unfold live; rw [hl]
  refine SGets_ok ((s, m, (liv E : Int), D), k, (if v < 0 then 0 else v), (if v < 0 then 9 else 0)) R ⟨ht.t, fun g => absurd hc g, fun _ hn => ?_, fun _ u hu => ?_⟩ h
  · have hv : v < 0 := by
      rcases Int.lt_or_le v 0 with g | g
      · exact g
      · exact absurd ((ht.key hk).2 (by rw [hl2]; exact decide_eq_true g)) hn
    rw [if_pos hv, if_pos hv]
    exact ⟨rfl, rfl⟩
  · obtain ⟨h1, h2⟩ := (ht.h k u hk).1 hu
    rw [hl] at h1
    cases h1
    rw [if_neg (by omega), if_neg (by omega)]
    exact ⟨rfl, rfl⟩
theorem conHo : ConOk Try.prog (conOf [(8, trueT), (22, SSmall.T), (9, SNew.T), (12, HPut.T), (18, HSet.T), (23, HDel.T), (21, HGets.T), (14, SLen.T), (13, SSize.T), (24, SCells.T), (26, sumT), (25, indexT)]) :=
  conOf_cons (true_ok ⟨_, Try.func8, rfl⟩ known_any) (conOf_cons (LSpec.call SSmall_nt SSmall_ok) (conOf_cons (LSpec.call SNew_nt SNew_ok) (conOf_cons (LSpec.call HPut_nt HPut_ok) (conOf_cons (LSpec.call HSet_nt HSet_ok) (conOf_cons (LSpec.call HDel_nt HDel_ok) (conOf_cons (LSpec.call HGets_nt HGets_ok)
    (conOf_cons (LSpec.call SLen_nt SLen_ok) (conOf_cons (LSpec.call SSize_nt SSize_ok) (conOf_cons (LSpec.call SCells_nt SCells_ok) (conOf_cons sumT_ok (conOf_cons indexT_ok conOf_nil)))))))))))
/-- How many of the entries that were met are there. -/
def livm : KE → List Nat → List Nat → Nat
  | p :: E, b :: B, arr => (if b ∈ arr then w01 p.2 else 0) + livm E B arr
  | _, _, _ => 0
def left : List Nat → List Nat → Nat
  | [], _ => 0
  | b :: B, arr => (if b ∈ arr then 0 else 1) + left B arr
def entK (E : KE) : List (Key × V) := ents Key.s i64 E
theorem livm_nil : ∀ (E : KE) (B : List Nat), livm E B [] = 0
  | [], _ => rfl
  | _ :: _, [] => rfl
  | p :: E, b :: B => by simp [livm, livm_nil E B]
theorem livm_all : ∀ {E : KE} {B arr : List Nat}, B.length = E.length → (∀ b ∈ B, b ∈ arr) → livm E B arr = liv E
  | [], _, _, _, _ => rfl
  | _ :: _, [], _, h, _ => by simp at h
  | p :: E, b :: B, arr, h, ha => by
    simp only [livm, liv]
    rw [if_pos (ha b (List.mem_cons_self ..)), livm_all (by simpa using h) fun x hx => ha x (List.mem_cons_of_mem _ hx)]
theorem livm_out : ∀ {E : KE} {B arr : List Nat} {b : Nat}, b ∉ B → livm E B (arr ++ [b]) = livm E B arr
  | [], _, _, _, _ => rfl
  | _ :: _, [], _, _, _ => rfl
  | p :: E, b' :: B, arr, b, h => by
    simp only [List.mem_cons, not_or] at h
    simp only [livm, List.mem_append, List.mem_singleton]
    rw [livm_out h.2]
    simp [Ne.symm h.1]
theorem livm_in : ∀ {E : KE} {B arr : List Nat} {q : Key × V × Nat}, B.Nodup → q ∈ zipB (entK E) B → q.2.2 ∉ arr → ∃ p ∈ E, q.1 = .s p.1 ∧ q.2.1 = i64 p.2 ∧ livm E B (arr ++ [q.2.2]) = livm E B arr + w01 p.2
  | [], _, _, _, _, h, _ => by cases h
  | _ :: _, [], _, _, _, h, _ => by cases h
  | p :: E, b :: B, arr, q, hn, h, ha => by
    have h : q ∈ (Key.s p.1, i64 p.2, b) :: zipB (entK E) B := h
    obtain ⟨n1, n2⟩ := List.nodup_cons.1 hn
    rcases List.mem_cons.1 h with rfl | h
    · refine ⟨p, List.mem_cons_self .., rfl, rfl, ?_⟩
      have ha : b ∉ arr := ha
      show (if b ∈ arr ++ [b] then w01 p.2 else 0) + livm E B (arr ++ [b]) = (if b ∈ arr then w01 p.2 else 0) + livm E B arr + w01 p.2
      rw [livm_out n1, if_pos (by simp), if_neg ha]
      omega
    · obtain ⟨p', h1, h2, h3, h4⟩ := livm_in n2 h ha
      refine ⟨p', List.mem_cons_of_mem _ h1, h2, h3, ?_⟩
      have hb : q.2.2 ≠ b := fun e => by
        refine n1 ?_
        have hm : q.2.2 ∈ (zipB (entK E) B).map fun p => p.2.2 := List.mem_map_of_mem h
        rw [← e]
        have : ∀ (E : List (Key × V)) (B : List Nat), ∀ x ∈ (zipB E B).map (fun p => p.2.2), x ∈ B := by
          intro E
          induction E with
          | nil => intro B x hx; cases hx
          | cons p E ih =>
            intro B x hx
            cases B with
            | nil => cases hx
            | cons b B =>
              simp only [zipB, List.map_cons, List.mem_cons] at hx ⊢
              exact hx.imp id (ih B x)
        exact this _ _ _ hm
      simp only [livm, List.mem_append, List.mem_singleton]
      rw [h4]
      simp [Ne.symm hb]
      omega
theorem zipB_born {E : List (Key × V)} {B : List Nat} {q : Key × V × Nat} (h : q ∈ zipB E B) : q.2.2 ∈ B := by
  induction E generalizing B with
  | nil => cases h
  | cons p E ih =>
    cases B with
    | nil => cases h
    | cons b B =>
      rcases List.mem_cons.1 (show q ∈ (p.1, p.2, b) :: zipB E B from h) with rfl | h
      · exact List.mem_cons_self ..
      · exact List.mem_cons_of_mem _ (ih h)
theorem left_le : ∀ (B arr : List Nat) (b : Nat), left B (arr ++ [b]) ≤ left B arr
  | [], _, _ => Nat.le_refl _
  | x :: B, arr, b => by
    simp only [left, List.mem_append]
    have := left_le B arr b
    by_cases e : x ∈ arr
    · simp [e, this]
    · simp only [e, false_or, if_false]
      split <;> omega
theorem left_lt : ∀ {B arr : List Nat} {b : Nat}, b ∈ B → b ∉ arr → left B (arr ++ [b]) < left B arr
  | [], _, _, h, _ => by cases h
  | x :: B, arr, b, h, ha => by
    simp only [left, List.mem_append, List.mem_singleton]
    by_cases e : x = b
    · have := left_le B arr b
      rw [e, if_pos (by simp), if_neg ha]
      omega
    · have := left_lt (List.mem_cons.1 h |>.resolve_left (Ne.symm e)) ha
      simp only [e, or_false]
      omega
end Go.Proofs.Ytfkolddpfpjeeaa
