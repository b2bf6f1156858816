/- Symbolic states: ranges over maps. -/
import Derived.Test.YtmgcpfljhcahoaaSyMap
import Derived.Maps.RangeRun
namespace Go.Proofs.Ytmgcpfljhcahoaa
open Go Go.RowKit
namespace Sy
variable {md : Bool}

def zipB : List (Key × V) → List Nat → List (Key × V × Nat)
  | p :: E, b :: B => (p.1, p.2, b) :: zipB E B
  | _, _ => []
def keyV : Key → KT → V
  | .i n, .i k => .int k n
  | .i n, .s => .int .i64 n
  | .s b, _ => .str b
/-- The entries' numbers and the clock of a map, laid open. -/
def exposeP (s : St) (i : Nat) (κ : KT) (E : List (Key × V)) (K : Nat → List (Key × V × Nat) → St → Prop) : Prop :=
  ∀ (B : List Nat) (c : Nat), B.length = E.length → B.Nodup → (∀ b ∈ B, b < c) → setP s i (some (.mapb κ (zipB E B) c)) fun s => K c (zipB E B) s
/-- A range over a map begins. -/
def rangeP (P : Program) (s : St) (ty : TypeId) (m : V) (K : V → St → Prop) : Prop := match P.underlying ty, m with
  | some (.map _ _), .mp i => withO (s.H.get i) fun o => match o with
    | .map κ E => exposeP s i κ E fun c _ s => newP s (.iter i c [] c) fun j s => K (.ptr j 0) s
    | .mapb _ _ c => newP s (.iter i c [] c) fun j s => K (.ptr j 0) s
    | _ => False
  | _, _ => False
/-- The next entry: whichever is left. -/
def nextP (s : St) (it : V) (K : V → St → Prop) : Prop := match it with
  | .ptr j 0 => withO (s.H.get j) fun o => match o with
    | .iter m since arr c => withO (s.H.get m) fun o => match o with
      | .mapb κ E c' => (∀ p ∈ E, p.2.2 < since) ∧ since ≤ c ∧ ((∀ p ∈ E, p.2.2 ∈ arr) → K (.tup [.bool false]) s) ∧ ∀ p, p ∈ E → p.2.2 ∉ arr → setP s j (some (.iter m since (arr ++ [p.2.2]) c')) fun s => K (.tup [.bool true, keyV p.1 κ, p.2.1]) s
      | _ => False
    | _ => False
  | _ => False
/-- The entry that came out last, read again. -/
def entryP (s : St) (it : V) (K : V → St → Prop) : Prop := match it with
  | .ptr j 0 => withO (s.H.get j) fun o => match o with
    | .iter m _ arr c => withO (s.H.get m) fun o => match o with
      | .mapb κ E c' => c = c' ∧ ∃ p arr', arr = arr' ++ [p.2.2] ∧ p ∈ E ∧ K (.tup [keyV p.1 κ, p.2.1]) s
      | _ => False
    | _ => False
  | _ => False
/-- The entry of a key, and its number: made where there is none. -/
def getB (k : Key) : List (Key × V × Nat) → Option (V × Nat)
  | [] => none
  | p :: l => if p.1 = k then some p.2 else getB k l
def entP (P : Program) (s : St) (i : Nat) (κ : KT) (c : Nat) (E : List (Key × V × Nat)) (k : Key) (e : TypeId) (K : V → St → Prop) : Prop :=
  withO (zeroT P e) fun z => withO (ofV z) fun zv => (∀ v b, getB k E = some (v, b) → K (.tup [v, .int .i64 b]) s) ∧ (getB k E = none → setP s i (some (.mapb κ (E ++ [(k, zv, c)]) (c + 1))) fun s => K (.tup [zv, .int .i64 c]) s)
def mapEntP (P : Program) (s : St) (ty : TypeId) (m key : V) (K : V → St → Prop) : Prop :=
  withO (keyK P ty) fun q => withO (keyOf q.1 key) fun k => match m with
    | .mp i => withO (s.H.get i) fun o => match o with
      | .map κ E => need (ktEq κ q.1) (exposeP s i κ E fun c E s => entP P s i κ c E k q.2 K)
      | .mapb κ E c => need (ktEq κ q.1) (entP P s i κ c E k q.2 K)
      | _ => False
    | _ => False
/-- The entry of a number gets a value. -/
def entSetP (s : St) (m stamp v : V) (K : St → Prop) : Prop := match m, stamp with
  | .mp i, .int _ n => withO (s.H.get i) fun o => match o with
    | .mapb κ E c => (∃ p ∈ E, (p.2.2 : Int) = n) ∧ ∃ E', E' = (E.map fun p => if (p.2.2 : Int) = n then (p.1, v, p.2.2) else p) ∧ setP s i (some (.mapb κ E' c)) K
    | _ => False
  | _, _ => False

section
variable {P : Program} {ρ ρ' : Ren} {s s' : St} {w w' : World} {o : Oper} {a act : Act} {t : Tr V}

theorem zipB_fst : ∀ {E : List (Key × V)} {B : List Nat}, B.length = E.length → ((zipB E B).map fun p => (p.1, p.2.1)) = E
  | [], [], _ => rfl
  | (_, _) :: E, _ :: B, h => by simp only [zipB, List.map_cons]; rw [zipB_fst (E := E) (B := B) (by simpa using h)]
theorem zipB_snd : ∀ {E : List (Key × V)} {B : List Nat}, B.length = E.length → ((zipB E B).map fun p => p.2.2) = B
  | [], [], _ => rfl
  | (_, _) :: E, _ :: B, h => by simp only [zipB, List.map_cons]; rw [zipB_snd (E := E) (B := B) (by simpa using h)]
theorem exposeP_ok {i : Nat} {κ : KT} {E : List (Key × V)} {K : Nat → List (Key × V × Nat) → St → Prop} (h : exposeP s i κ E K) (hr : Rel ρ s w) (ho : s.H.get i = some (.map κ E)) :
    ∃ c E' H, K c E' ⟨s.n, H⟩ ∧ Step md s.n s ρ w ⟨s.n, H⟩ ρ w ∧ H.get i = some (.mapb κ E' c) := by
  obtain ⟨b, es, c, g1, g2, g3, g4, g5⟩ := hr.obj i _ ho
  have hl : (es.map (·.born)).length = E.length := by rw [List.length_map]; exact czE_length g3
  have hp := h (es.map (·.born)) c hl (List.pairwise_map.2 g4.2) (fun x hx => by obtain ⟨e, he, rfl⟩ := List.mem_map.1 hx; exact g4.1 e he)
  obtain ⟨H, hH, hp⟩ := setP_ok hp
  refine ⟨c, _, H, hp, Step.set hr ho hH ⟨b, es, g1, g2, by rw [zipB_fst hl]; exact g3, by rw [zipB_snd hl], g4, g5⟩ (fun _ _ => rfl) rfl rfl rfl rfl, by rw [hH, if_pos rfl]⟩
theorem Step.iter (h : Rel ρ s w) {i b c : Nat} (hi : i < s.n) (hb : ρ.β i = some b) {H : Tr SObj} (hH : ∀ m, H.get m = if m = s.n then some (.iter i c [] c) else s.H.get m) :
    Step md s.n s ρ w ⟨s.n + 1, H⟩ (ρ.add s.n (some w.heap.size) 0 0 false none (· = w.heap.size)) (w.alloc (.mapIter (some b) c #[] c)) := by
  refine Step.new1 h hH ⟨w.heap.size, b, by simp [Ren.add], ?_, heap_alloc_new w _, fun k => by simp [Ren.add]⟩ (fun k hk => Below.heap_alloc w _ k hk) (fun k hk => ?_) (fun x hx => ?_) (fun x hx => by cases hx) ?_ rfl rfl rfl
  · have : (ρ.add s.n (some w.heap.size) 0 0 false none (· = w.heap.size)).β i = ρ.β i := if_neg (Nat.ne_of_lt hi)
    rw [this]; exact hb
  · subst hk; exact ⟨Nat.le_refl _, by show _ < (w.alloc _).heap.size; rw [World.size_alloc]; omega⟩
  · cases hx; show _ < (w.alloc _).heap.size; rw [World.size_alloc]; omega
  · show _ ≤ (w.alloc _).heap.size; rw [World.size_alloc]; omega
theorem rangeP_ok {ty : TypeId} {m : V} {K : V → St → Prop} (h : rangeP P s ty m K) (hr : Rel ρ s w) {m' : Value} (hm : cz ρ m = some m') :
    ∃ v s' ρ' w' v', K v s' ∧ Step md s.n s ρ w s' ρ' w' ∧ cz ρ' v = some v' ∧ (Instr.range ty m').run P w = .ok v' w' := by
  unfold rangeP at h
  split at h
  · rename_i kt e i hu
    replace h := withO_ok h; obtain ⟨ob, ho, h⟩ := h
    have hi := hr.live i _ ho
    split at h
    · rename_i κ E
      obtain ⟨c, E', H, h, st, hg⟩ := exposeP_ok h hr ho
      obtain ⟨H2, hH2, h⟩ := newP_ok h
      obtain ⟨b, es, g1, g2, g3, g6, g4, g5⟩ := st.rel.obj i _ hg
      simp only [cz, g1, Option.map_some, Option.some.injEq] at hm
      subst hm
      exact ⟨_, _, _, _, _, h, st.trans (Step.iter st.rel hi g1 hH2), cz_ptr_new _, run_range_map w ty kt e b es.toArray c hu g2⟩
    · rename_i κ E c
      obtain ⟨H2, hH2, h⟩ := newP_ok h
      obtain ⟨b, es, g1, g2, g3, g6, g4, g5⟩ := hr.obj i _ ho
      simp only [cz, g1, Option.map_some, Option.some.injEq] at hm
      subst hm
      exact ⟨_, _, _, _, _, h, Step.iter hr hi g1 hH2, cz_ptr_new _, run_range_map w ty kt e b es.toArray c hu g2⟩
    · exact h.elim
  · exact h.elim
theorem keyV_ok {κ : KT} {k : Key} {v : Value} (h : kval κ k = some v) : cz ρ (keyV k κ) = some v := by
  cases κ <;> cases k <;> simp_all [kval, keyV, cz]
theorem czE_mem {κ : KT} : ∀ {E : List (Key × V × Nat)} {es : List MapEntry}, czE ρ κ (E.map fun p => (p.1, p.2.1)) es → es.map (·.born) = (E.map fun p => p.2.2) → ∀ e ∈ es, ∃ p ∈ E, kval κ p.1 = some e.key ∧ cz ρ p.2.1 = some e.val ∧ p.2.2 = e.born
  | [], [], _, _, e, he => by cases he
  | [], _ :: _, h, _, _, _ => h.elim
  | _ :: _, [], h, _, _, _ => h.elim
  | p :: E, e0 :: es, h, hb, e, he => by
    obtain ⟨h1, h2, h3⟩ := h
    simp only [List.map_cons, List.cons.injEq] at hb
    rcases List.mem_cons.1 he with rfl | he
    · exact ⟨p, List.mem_cons_self .., h1, h2, hb.1.symm⟩
    · obtain ⟨q, hq, g⟩ := czE_mem h3 hb.2 e he
      exact ⟨q, List.mem_cons_of_mem _ hq, g⟩
theorem nextP_ok {ty : TypeId} {it : V} {K : V → St → Prop} (h : nextP s it K) (hr : Rel ρ s w) {it' : Value} (hm : cz ρ it = some it') :
    ∃ v s' w' v', K v s' ∧ Step md s.n s ρ w s' ρ w' ∧ cz ρ v = some v' ∧ (Instr.next it' false ty).run P w = .ok v' w' := by
  unfold nextP at h
  split at h
  · rename_i j
    replace h := withO_ok h; obtain ⟨ob, ho, h⟩ := h
    split at h
    · rename_i m since arr c
      replace h := withO_ok h; obtain ⟨ob2, ho2, h⟩ := h
      split at h
      · rename_i κ E c'
        obtain ⟨hlt, hsc, hend, hgo⟩ := h
        obtain ⟨b, r, q1, q2, q3, q4⟩ := hr.obj j _ ho
        obtain ⟨b2, es, g1, g2, g3, g6, g4, g5⟩ := hr.obj m _ ho2
        rw [q2] at g1
        cases g1
        simp only [cz, q1, Option.map_some, Option.some.injEq] at hm
        subst hm
        have hold : ∀ x ∈ es.toArray.toList, x.born < since := fun x hx => by
          obtain ⟨p, hp, _, _, e⟩ := czE_mem g3 g6 x (by simpa using hx)
          rw [← e]; exact hlt p hp
        rcases run_next_at (P := P) w ty b r since c arr.toArray es.toArray c' q3 g2 hold hsc with ⟨h0, hn⟩ | ⟨e, he, w1, hw1, hn⟩
        · refine ⟨_, _, _, _, hend fun p hp => ?_, Step.refl hr, rfl, hn⟩
          have : p.2.2 ∈ es.map (·.born) := by rw [g6]; exact List.mem_map_of_mem hp
          obtain ⟨x, hx, ex⟩ := List.mem_map.1 this
          rw [← ex]
          refine Decidable.byContradiction fun hno => ?_
          have : x ∈ leftOf es.toArray arr.toArray := by unfold leftOf; simp [hx, hno]
          have h1 := Array.eq_empty_of_size_eq_zero h0
          rw [h1] at this
          simp at this
        · have hmem : e ∈ es ∧ e.born ∉ arr := by unfold leftOf at he; simpa using he
          obtain ⟨p, hp, k1, k2, k3⟩ := czE_mem g3 g6 e hmem.1
          obtain ⟨H, hH, h⟩ := setP_ok (hgo p hp (by rw [k3]; exact hmem.2))
          have hblt := hr.blt j b q1
          refine ⟨_, _, _, _, h, Step.set hr ho hH ⟨b, r, q1, q2, ?_, q4⟩ (fun k hk => ?_) ?_ ?_ ?_ ?_ (by rcases hw1 with rfl | rfl <;> first | exact Nat.le_refl _ | exact Nat.le_succ _), ?_, hn⟩
          · have hh : w1.heap = w.heap := by rcases hw1 with rfl | rfl <;> rfl
            simp [ChangeMaps.setBlock, hh, hblt, k3]
          · have hh : w1.heap = w.heap := by rcases hw1 with rfl | rfl <;> rfl
            have hne : b ≠ k := fun e => hk ((q4 k).2 e.symm)
            simp [ChangeMaps.setBlock, hh, hne]
          · have hh : w1.heap = w.heap := by rcases hw1 with rfl | rfl <;> rfl
            simp [ChangeMaps.setBlock, hh]
          · rcases hw1 with rfl | rfl <;> rfl
          · rcases hw1 with rfl | rfl <;> rfl
          · rcases hw1 with rfl | rfl <;> rfl
          · simp [cz, czl, keyV_ok k1, k2]
      · exact h.elim
    · exact h.elim
  · exact h.elim
theorem czE_mem2 {κ : KT} : ∀ {E : List (Key × V × Nat)} {es : List MapEntry}, czE ρ κ (E.map fun p => (p.1, p.2.1)) es → es.map (·.born) = (E.map fun p => p.2.2) → ∀ p ∈ E, ∃ e ∈ es, kval κ p.1 = some e.key ∧ cz ρ p.2.1 = some e.val ∧ p.2.2 = e.born
  | [], [], _, _, p, hp => by cases hp
  | [], _ :: _, h, _, _, _ => h.elim
  | _ :: _, [], h, _, _, _ => h.elim
  | q :: E, e0 :: es, h, hb, p, hp => by
    obtain ⟨h1, h2, h3⟩ := h
    simp only [List.map_cons, List.cons.injEq] at hb
    rcases List.mem_cons.1 hp with rfl | hp
    · exact ⟨e0, List.mem_cons_self .., h1, h2, hb.1.symm⟩
    · obtain ⟨e, he, g⟩ := czE_mem2 h3 hb.2 p hp
      exact ⟨e, List.mem_cons_of_mem _ he, g⟩
theorem entryP_ok {it : V} {K : V → St → Prop} (h : entryP s it K) (hr : Rel ρ s w) {it' : Value} (hm : cz ρ it = some it') :
    ∃ v v', K v s ∧ cz ρ v = some v' ∧ (Instr.entry it').run P w = .ok v' w := by
  unfold entryP at h
  split at h
  · rename_i j
    replace h := withO_ok h; obtain ⟨ob, ho, h⟩ := h
    split at h
    · rename_i m since arr c
      replace h := withO_ok h; obtain ⟨ob2, ho2, h⟩ := h
      split at h
      · rename_i κ E c'
        obtain ⟨rfl, p, arr', rfl, hp, h⟩ := h
        obtain ⟨b, r, q1, q2, q3, q4⟩ := hr.obj j _ ho
        obtain ⟨b2, es, g1, g2, g3, g6, g4, g5⟩ := hr.obj m _ ho2
        rw [q2] at g1
        cases g1
        simp only [cz, q1, Option.map_some, Option.some.injEq] at hm
        subst hm
        obtain ⟨e, he, k1, k2, k3⟩ := czE_mem2 g3 g6 p hp
        rw [k3] at q3
        refine ⟨_, .tuple #[e.key, e.val], h, by simp [cz, czl, keyV_ok k1, k2], run_entry_at w b r since arr'.toArray es.toArray c e (by rw [q3]; simp) g2 (by simpa using he) ?_⟩
        exact List.pairwise_map.2 g4.2
      · exact h.elim
    · exact h.elim
  · exact h.elim
/-- What a search finds, with the number. -/
theorem findB_ok {κ : KT} {k : Key} {u : Value} (hu : kval κ k = some u) : ∀ {E : List (Key × V × Nat)} {es : List MapEntry} {i : Nat}, czE ρ κ (E.map fun p => (p.1, p.2.1)) es → es.map (·.born) = (E.map fun p => p.2.2) →
    (getB k E = none ∧ Instr.findNow (descOf κ) u es i = some none) ∨
    ∃ j v e, getB k E = some (v, e.born) ∧ cz ρ v = some e.val ∧ Instr.findNow (descOf κ) u es i = some (some (i + j, e.val)) ∧ es[j]? = some e ∧ e.key = u ∧ Instr.sameBits 10000 e.key u = true
  | [], [], i, _, _ => .inl ⟨rfl, rfl⟩
  | (k', v', b') :: E, e :: es, i, ⟨h1, h2, h3⟩, hb => by
    simp only [List.map_cons, List.cons.injEq] at hb
    obtain ⟨g1, g2⟩ := same_ok hu h1
    by_cases hk : k' = k
    · right
      obtain ⟨g3, g4⟩ := g2 hk
      refine ⟨0, v', e, by simp [getB, hk, hb.1], h2, ?_, rfl, g3, g4⟩
      simp only [Instr.findNow, g1, hk, decide_true, Nat.add_zero]
    · have hf : Instr.findNow (descOf κ) u (e :: es) i = Instr.findNow (descOf κ) u es (i + 1) := by simp only [Instr.findNow, g1, hk, decide_false]
      rcases findB_ok hu (i := i + 1) h3 hb.2 with ⟨q1, q2⟩ | ⟨j, v, e', q1, q2, q3, q4, q5, q6⟩
      · exact .inl ⟨by simp [getB, hk, q1], hf.trans q2⟩
      · exact .inr ⟨j + 1, v, e', by simp [getB, hk, q1], q2, by rw [hf, q3]; congr 3; omega, by simpa using q4, q5, q6⟩
  | [], _ :: _, _, h, _ => h.elim
  | _ :: _, [], _, h, _ => h.elim
theorem modify_same {f : MapEntry → MapEntry} : ∀ (j : Nat) {es : List MapEntry}, (∀ e, es[j]? = some e → f e = e) → es.modify j f = es
  | _, [], _ => by simp
  | 0, e :: es, h => by simp [h e (by simp)]
  | j + 1, e :: es, h => by simpa using modify_same j fun x hx => h x (by simpa using hx)
theorem entP_ok {ty e kt : TypeId} {i : Nat} {κ : KT} {c : Nat} {E : List (Key × V × Nat)} {k : Key} {K : V → St → Prop} (h : entP P s i κ c E k e K) (hr : Rel ρ s w) (ho : s.H.get i = some (.mapb κ E c)) (hu : P.underlying ty = some (.map kt e)) (hko : KindOk P kt κ)
    {m' key' : Value} (hm : cz ρ (.mp i) = some m') (hkv : kval κ k = some key') :
    ∃ v s' w' v', K v s' ∧ Step md s.n s ρ w s' ρ w' ∧ cz ρ v = some v' ∧ (Instr.mapEntry ty m' key').run P w = .ok v' w' := by
  unfold entP at h
  replace h := withO_ok h; obtain ⟨z, hz, h⟩ := h
  replace h := withO_ok h; obtain ⟨zv, hzv, h1, h2⟩ := h
  have hck := fun (u : Value) b w => check_ok (P := P) hko u b w
  obtain ⟨b, es, g1, g2, g3, g6, g4, g5⟩ := hr.obj i _ ho
  simp only [cz, g1, Option.map_some, Option.some.injEq] at hm
  subst hm
  have hlt := hr.blt i b g1
  rcases findB_ok hkv (i := 0) g3 g6 with ⟨q1, q2⟩ | ⟨j, v0, e', q1, q2, q3, q4, q5, q6⟩
  · obtain ⟨H, hH, h⟩ := setP_ok (h2 q1)
    have hE2 := czE_push (e := ⟨key', z, c⟩) hkv (cz_ofV (ρ := ρ) hzv) g3
    refine ⟨_, _, _, .tuple #[z, .int .i64 c], h, Step.set hr ho hH ⟨b, es ++ [⟨key', z, c⟩], g1, World.putObj_heap_same hlt, by simpa using hE2, by simp [g6], g4.push (e := ⟨key', z, c⟩) rfl, g5⟩ (fun k hk => World.putObj_heap_other fun e => hk ((g5 k).2 e)) World.putObj_size rfl rfl rfl, by simp [cz, czl, cz_ofV (ρ := ρ) hzv], ?_⟩
    simp only [Instr.mapEntry, Sem.run_bind, run_underlying hu, Result.andThen_ok, run_getMap (P := P) g2, hck, run_findKey (P := P) hko q2 w, run_zeroValue hz, run_setMap (P := P) g2, Sem.run_pure, goInt]
    simp
  · have hg := h1 _ _ q1
    have hmod : es.modify j (fun e => { e with key := key' }) = es := modify_same j fun x hx => by
      rw [q4] at hx; cases hx; cases e'; simp only at q5; simp [q5]
    refine ⟨_, s, w.putObj b (.map es.toArray c), .tuple #[e'.val, .int .i64 e'.born], hg, ?_, by simp [cz, czl, q2], ?_⟩
    · have st : Step md s.n s ρ w ⟨s.n, s.H⟩ ρ (w.putObj b (.map es.toArray c)) := Step.set hr ho (o := .mapb κ E c) (fun m => by by_cases e : m = i <;> simp [e, ho]) ⟨b, es, g1, World.putObj_heap_same hlt, g3, g6, g4, g5⟩ (fun k hk => World.putObj_heap_other fun e => hk ((g5 k).2 e)) World.putObj_size rfl rfl rfl
      exact st
    · rw [Nat.zero_add] at q3
      simp only [Instr.mapEntry, Sem.run_bind, run_underlying hu, Result.andThen_ok, run_getMap (P := P) g2, hck, run_findKey (P := P) hko q3 w]
      simp only [List.getElem?_toArray, q4, Option.map_some, Option.getD_some, Instr.keyThatStays, q6, if_true, Sem.run_pure, Result.andThen_ok, run_setMap (P := P) g2, goInt, List.modify_toArray, hmod]
theorem mapEntP_ok {ty : TypeId} {m key : V} {K : V → St → Prop} (h : mapEntP P s ty m key K) (hr : Rel ρ s w) {m' key' : Value} (hm : cz ρ m = some m') (hkey : cz ρ key = some key') :
    ∃ v s' w' v', K v s' ∧ Step md s.n s ρ w s' ρ w' ∧ cz ρ v = some v' ∧ (Instr.mapEntry ty m' key').run P w = .ok v' w' := by
  unfold mapEntP at h
  replace h := withO_ok h; obtain ⟨⟨κ, e⟩, hq, h⟩ := h
  replace h := withO_ok h; obtain ⟨k, hk, h⟩ := h
  obtain ⟨kt, hu, hko⟩ := keyK_ok hq
  split at h
  · rename_i i
    replace h := withO_ok h; obtain ⟨ob, ho, h⟩ := h
    split at h
    · rename_i κ' E
      obtain ⟨hb, h⟩ := need_ok h
      have := ktEq_ok hb
      subst this
      obtain ⟨c, E', H, h, st, hg⟩ := exposeP_ok h hr ho
      obtain ⟨v, s2, w2, v', h1, h2, h3, h4⟩ := entP_ok h st.rel hg hu hko hm (keyOf_ok hk hkey)
      exact ⟨v, s2, w2, v', h1, st.trans h2, h3, h4⟩
    · rename_i κ' E c
      obtain ⟨hb, h⟩ := need_ok h
      have := ktEq_ok hb
      subst this
      exact entP_ok h hr ho hu hko hm (keyOf_ok hk hkey)
    · exact h.elim
  · exact h.elim
theorem mapE_id {v : V} {n : Int} : ∀ {E : List (Key × V × Nat)}, (∀ p ∈ E, (p.2.2 : Int) ≠ n) → (E.map fun p => if (p.2.2 : Int) = n then (p.1, v, p.2.2) else p) = E
  | [], _ => rfl
  | p :: E, h => by
    simp only [List.map_cons]
    rw [if_neg (h p (List.mem_cons_self ..)), mapE_id fun q hq => h q (List.mem_cons_of_mem _ hq)]
theorem findE_ok {κ : KT} {v : V} {v' : Value} {n : Int} (hv : cz ρ v = some v') : ∀ {E : List (Key × V × Nat)} {es : List MapEntry}, czE ρ κ (E.map fun p => (p.1, p.2.1)) es → es.map (·.born) = (E.map fun p => p.2.2) → (es.Pairwise fun a b => a.born ≠ b.born) → (∃ p ∈ E, (p.2.2 : Int) = n) →
    ∃ j, es.findIdx? (fun e => (e.born : Int) == n) = some j ∧ czE ρ κ ((E.map fun p => if (p.2.2 : Int) = n then (p.1, v, p.2.2) else p).map fun p => (p.1, p.2.1)) (es.modify j fun e => { e with val := v' })
  | [], _, _, _, _, h => by obtain ⟨p, hp, _⟩ := h; cases hp
  | _ :: _, [], h, _, _, _ => h.elim
  | (k, v0, b) :: E, e :: es, ⟨h1, h2, h3⟩, hb, hn, h => by
    simp only [List.map_cons, List.cons.injEq] at hb
    by_cases hk : (b : Int) = n
    · refine ⟨0, by simp [List.findIdx?_cons, hb.1, hk], ?_⟩
      have : ∀ p ∈ E, (p.2.2 : Int) ≠ n := fun p hp e' => by
        obtain ⟨x, hx, _, _, ex⟩ := czE_mem2 h3 hb.2 p hp
        refine (List.pairwise_cons.1 hn).1 x hx ?_
        omega
      simp only [List.map_cons, hk, if_true]
      rw [mapE_id this]
      exact ⟨h1, hv, h3⟩
    · obtain ⟨p, hp, ep⟩ := h
      obtain ⟨j, q1, q2⟩ := findE_ok hv h3 hb.2 (List.pairwise_cons.1 hn).2 ⟨p, (List.mem_cons.1 hp).resolve_left (fun e' => hk (by rw [← ep, e'])), ep⟩
      refine ⟨j + 1, by simp [List.findIdx?_cons, hb.1, hk, q1], ?_⟩
      rw [List.modify_succ_cons]
      simp only [List.map_cons, if_neg hk]
      exact ⟨h1, h2, q2⟩
theorem entSetP_ok {ty : TypeId} {m stamp v : V} {K : St → Prop} (h : entSetP s m stamp v K) (hr : Rel ρ s w) {m' stamp' v' : Value} (hm : cz ρ m = some m') (hst : cz ρ stamp = some stamp') (hv : cz ρ v = some v') :
    ∃ s' w', K s' ∧ Step md s.n s ρ w s' ρ w' ∧ (Instr.entryStore ty m' stamp' v').run P w = .ok () w' := by
  unfold entSetP at h
  split at h
  · rename_i i k n
    replace h := withO_ok h; obtain ⟨ob, ho, h⟩ := h
    split at h
    · rename_i κ E c
      obtain ⟨hex, E', rfl, h⟩ := h
      obtain ⟨H, hH, h⟩ := setP_ok h
      obtain ⟨b, es, g1, g2, g3, g6, g4, g5⟩ := hr.obj i _ ho
      simp only [cz, g1, Option.map_some, Option.some.injEq] at hm hst
      subst hm hst
      have hlt := hr.blt i b g1
      obtain ⟨j, q1, q2⟩ := findE_ok hv g3 g6 g4.2 hex
      have hmb : ∀ (es : List MapEntry) (j : Nat), (es.modify j fun e => { e with val := v' }).map (·.born) = es.map (·.born) := fun es => by
        induction es with
        | nil => intro j; simp
        | cons x l ih =>
          intro j
          cases j with
          | zero => simp
          | succ j => simpa using ih j
      refine ⟨_, w.putObj b (.map (es.modify j fun e => { e with val := v' }).toArray c), h, Step.set hr ho hH ⟨b, es.modify j fun e => { e with val := v' }, g1, World.putObj_heap_same hlt, q2, ?_, g4.modify (f := fun e => { e with val := v' }) (fun _ => rfl) j, g5⟩ (fun k hk => World.putObj_heap_other fun e => hk ((g5 k).2 e)) World.putObj_size rfl rfl rfl, ?_⟩
      · rw [hmb, g6, List.map_map]
        apply List.map_congr_left
        intro p hp
        simp only [Function.comp]
        split <;> rfl
      · simp only [Instr.entryStore, Sem.run_bind, Result.andThen_ok, run_getMap (P := P) g2, Sem.run_pure, asInt, asIntOf, List.findIdx?_toArray, q1, run_setMap (P := P) g2, List.modify_toArray]
    · exact h.elim
  · exact h.elim
end
end Sy
end Go.Proofs.Ytmgcpfljhcahoaa
