/- The abstract evaluator is right: maps. -/
import Derived.Test.YtollflfkgcgdkaaAePure
import Derived.RangeFuncRecord
namespace Go.Proofs.Ytollflfkgcgdkaa
open Go Go.RowKit
namespace Ae

section
variable {P : Program} {B : Nat} {ρ : Ren} {s : ASt} {w : World} {o : Oper} {a : Act} {β : Type} {k : Value → ASt → R Out} {y : Out} {sz : Nat} {t : Tr Value} {F : Facts}

theorem setEntryK_ok {β : Type} {f : MapEntry → MapEntry} {y : β} : ∀ {i : Nat} {l : List MapEntry} {k : List MapEntry → R β}, setEntryK i l f k = .ok y → k (l.modify i f) = .ok y ∧ i < l.length
  | _, [], _, h => by cases ‹Nat› <;> simp [setEntryK] at h
  | 0, e :: l, _, h => by simpa [setEntryK] using h
  | i + 1, e :: l, k, h => by
    have := setEntryK_ok (i := i) (l := l) (k := fun l => k (e :: l)) h
    simpa [List.modify] using this
theorem pushEntryK_ok {β : Type} {x : MapEntry} {y : β} : ∀ {l : List MapEntry} {k : List MapEntry → R β}, pushEntryK l x k = .ok y → k (l ++ [x]) = .ok y
  | [], _, h => h
  | e :: l, k, h => pushEntryK_ok (l := l) (k := fun l => k (e :: l)) h
theorem dropEntryK_ok {β : Type} {y : β} : ∀ {i : Nat} {l : List MapEntry} {k : List MapEntry → R β}, dropEntryK i l k = .ok y → k (l.eraseIdx i) = .ok y ∧ i < l.length
  | _, [], _, h => by cases ‹Nat› <;> simp [dropEntryK] at h
  | 0, e :: l, _, h => by simpa [dropEntryK] using h
  | i + 1, e :: l, k, h => by
    have := dropEntryK_ok (i := i) (l := l) (k := fun l => k (e :: l)) h
    simpa using this

theorem cze_ok {e e' : MapEntry} : cze ρ e = some e' ↔ cz ρ e.key = some e'.key ∧ cz ρ e.val = some e'.val ∧ e'.born = e.born := by
  unfold cze
  obtain ⟨k', v', b'⟩ := e'
  cases h1 : cz ρ e.key with
  | none => simp
  | some k => cases h2 : cz ρ e.val with
    | none => simp
    | some v => simp; intro _ _; exact eq_comm
theorem czes_length : ∀ {l l' : List MapEntry}, czes ρ l = some l' → l'.length = l.length
  | [], _, h => by simp [czes] at h; subst h; rfl
  | v :: l, _, h => by
    obtain ⟨v', l1, _, h2, rfl⟩ := czes_cons.1 h
    simp [czes_length h2]
theorem czes_get : ∀ {l l' : List MapEntry} (j : Nat) {v : MapEntry}, czes ρ l = some l' → l[j]? = some v → ∃ v', l'[j]? = some v' ∧ cze ρ v = some v'
  | [], _, _, _, _, h => by simp at h
  | v :: l, _, 0, u, h, h' => by
    obtain ⟨v', l1, h1, h2, rfl⟩ := czes_cons.1 h
    simp at h'; subst h'
    exact ⟨v', rfl, h1⟩
  | v :: l, _, j + 1, u, h, h' => by
    obtain ⟨v', l1, h1, h2, rfl⟩ := czes_cons.1 h
    simpa using czes_get j h2 (by simpa using h')
theorem czes_modify {f f' : MapEntry → MapEntry} (hf : ∀ e e', cze ρ e = some e' → cze ρ (f e) = some (f' e')) : ∀ (i : Nat) {l l' : List MapEntry}, czes ρ l = some l' → czes ρ (l.modify i f) = some (l'.modify i f')
  | _, [], _, h => by simp [czes] at h; subst h; simp [czes]
  | 0, v :: l, _, h => by
    obtain ⟨v', l1, h1, h2, rfl⟩ := czes_cons.1 h
    simpa using czes_cons.2 ⟨_, _, hf v v' h1, h2, rfl⟩
  | i + 1, v :: l, _, h => by
    obtain ⟨v', l1, h1, h2, rfl⟩ := czes_cons.1 h
    simpa using czes_cons.2 ⟨_, _, h1, czes_modify hf i h2, rfl⟩
theorem czes_push : ∀ {l l' : List MapEntry} {x x' : MapEntry}, czes ρ l = some l' → cze ρ x = some x' → czes ρ (l ++ [x]) = some (l' ++ [x'])
  | [], _, _, _, h, hx => by simp [czes] at h; subst h; exact czes_cons.2 ⟨_, [], hx, by simp [czes], rfl⟩
  | v :: l, _, _, _, h, hx => by
    obtain ⟨v', l1, h1, h2, rfl⟩ := czes_cons.1 h
    exact czes_cons.2 ⟨_, _, h1, czes_push h2 hx, rfl⟩
theorem czes_erase : ∀ (i : Nat) {l l' : List MapEntry}, czes ρ l = some l' → czes ρ (l.eraseIdx i) = some (l'.eraseIdx i)
  | _, [], _, h => by simp [czes] at h; subst h; simp [czes]
  | 0, v :: l, _, h => by
    obtain ⟨v', l1, h1, h2, rfl⟩ := czes_cons.1 h
    simpa using h2
  | i + 1, v :: l, _, h => by
    obtain ⟨v', l1, h1, h2, rfl⟩ := czes_cons.1 h
    simpa using czes_cons.2 ⟨_, _, h1, czes_erase i h2, rfl⟩

theorem bytes_beq (a b : ByteArray) : (a == b) = (a.data.toList == b.data.toList) := by
  rw [show (a == b) = (a.data == b.data) from rfl, Bool.eq_iff_iff, beq_iff_eq, beq_iff_eq, Array.toList_inj]
theorem bytes_eq_of {a b : ByteArray} (h : (a == b) = true) : a = b := by
  have : a.data = b.data := by rw [show (a == b) = (a.data == b.data) from rfl] at h; simpa using h
  cases a; cases b; simp at this; rw [this]
theorem bytes_self (a : ByteArray) : (a == a) = true := by rw [show (a == a) = (a.data == a.data) from rfl]; simp

theorem sameBytes_eq : ∀ {l m : List UInt8}, sameA.sameBytes l m = true → l = m
  | [], [], _ => rfl
  | a :: l, b :: m, h => by
    simp only [sameA.sameBytes, Bool.and_eq_true] at h
    rw [UInt8.toNat_inj.1 (Nat.eq_of_beq_eq_true h.1), sameBytes_eq h.2]
  | [], _ :: _, h => by cases h
  | _ :: _, [], h => by cases h
theorem sameCells_eq : ∀ {l m : List Value}, sameA.sameCells l m = true → l = m := by
  intro l
  induction l with
  | nil =>
    intro m h
    cases m with
    | nil => rfl
    | cons _ _ => simp [sameA.sameCells] at h
  | cons u l ih =>
    intro m h
    cases m with
    | nil => cases u <;> simp [sameA.sameCells] at h
    | cons v m =>
      unfold sameA.sameCells at h
      split at h
      · rename_i e _; cases e
      · rename_i e1 e2
        cases e1; cases e2
        simp only [Bool.and_eq_true, decide_eq_true_eq] at h
        rw [h.1.1, h.1.2, ih h.2]
      · rename_i a l' b m' e1 e2
        cases e1; cases e2
        simp only [Bool.and_eq_true] at h
        have := sameBytes_eq h.1
        have hab : a = b := ByteArray.ext (Array.toList_inj.1 this)
        rw [hab, ih h.2]
      · cases h
theorem sameKey_eq {u v : Value} (h : sameA.sameKey u v = true) : u = v := by
  unfold sameA.sameKey at h
  split at h
  · congr 1; exact Array.toList_inj.1 (sameCells_eq h)
  · cases h

/-- What is said of a kind of keys. -/
def KindOk (P : Program) (kt : TypeId) (kd : TypeDesc) : Prop := (P.underlying kt = some kd ∧ ((∃ i, kd = .int i) ∨ kd = .string)) ∨ (kd = .pointer kt ∧ ∃ fs, P.underlying kt = some (.struct fs))
def EqlOk (P : Program) (kd : TypeDesc) (u v : Value) (b : Bool) : Prop := match kd with
  | .pointer kt => ∀ w, (Op.equal kt u v).run P w = .ok b w
  | kd => Instr.sameNow kd u v = some b

theorem sameA_ok (hF : FactsOk P F ρ.σ) {kd : TypeDesc} {u v u' v' : Value} {b : Bool} (h : sameA P F kd u v = some b) (hu : cz ρ u = some u') (hv : cz ρ v = some v') :
    EqlOk P kd u' v' b ∧ (b = true → v' = u' ∧ Instr.sameBits 10000 v' u' = true) := by
  unfold sameA at h
  split at h
  · rename_i kt
    cases hp : plain u && plain v with
    | false => rw [hp, cond_false] at h; cases h
    | true =>
      rw [hp, cond_true] at h
      simp only [Bool.and_eq_true] at hp
      rw [cz_plain hp.1] at hu
      rw [cz_plain hp.2] at hv
      cases hu
      cases hv
      split at h
      · rename_i hq
        cases hs : sameA.sameKey u v && Instr.sameBits 10000 v u with
        | false => rw [hs, cond_false] at h; cases h
        | true =>
          rw [hs, cond_true] at h
          cases h
          simp only [Bool.and_eq_true] at hs
          exact ⟨fun w => pureRun_ok hq w, fun _ => ⟨(sameKey_eq hs.1).symm, hs.2⟩⟩
      · rename_i hq
        cases h
        exact ⟨fun w => pureRun_ok hq w, fun e => by cases e⟩
      · cases h
  · rename_i kk
    split at h
    · rename_i j p j' q
      cases hj : decide (j = j') with
      | false => simp [hj] at h
      | true =>
        have hj' : j = j' := by simpa using hj
        subst hj'
        simp at h
        simp only [cz, Option.some.injEq] at hu hv
        subst hu hv
        refine ⟨?_, fun hb => ?_⟩
        · show Instr.sameNow _ _ _ = _
          simp only [Instr.sameNow, if_true]
          rw [← h]
          congr 1
        · subst hb
          have : p = q := by simpa using h
          subst this
          exact ⟨rfl, by simp [Instr.sameBits]⟩
    · split at h
      · rename_i r hr
        obtain ⟨_, j, p, q, h2, h3, h4⟩ := hF.bin ρ rfl _ _ _ _ hr
        rw [hu] at h2
        rw [hv] at h3
        cases h2
        cases h3
        simp only [intBin, Option.some.injEq, Value.bool.injEq] at h4
        cases h
        refine ⟨by show Instr.sameNow _ _ _ = _; simp only [Instr.sameNow, if_true]; rw [h4], fun hb => ?_⟩
        subst hb
        have : p = q := by simpa using h4
        subst this
        exact ⟨rfl, by simp [Instr.sameBits]⟩
      · cases h
  · split at h
    · rename_i p q
      simp only [cz, Option.some.injEq] at hu hv h
      subst hu hv
      refine ⟨?_, fun hb => ?_⟩
      · show Instr.sameNow _ _ _ = _
        simp only [Instr.sameNow, bytes_beq]
        rw [h]
      · rw [hb, ← bytes_beq] at h
        have : p = q := bytes_eq_of h
        subst this
        exact ⟨rfl, by simp [Instr.sameBits, bytes_self]⟩
    · cases h
  · cases h

/-- What a search finds. -/
def Found (ρ : Ren) (es es' : List MapEntry) (k' : Value) (i : Nat) : Option (Nat × Value) → Option (Nat × Value) → Prop
  | none, none => True
  | some (j, v), some (j', v') => j = j' ∧ i ≤ j ∧ cz ρ v = some v' ∧ ∃ e e', es[j - i]? = some e ∧ es'[j - i]? = some e' ∧ e.val = v ∧ e'.val = v' ∧ e'.key = k' ∧ Instr.sameBits 10000 e'.key k' = true
  | _, _ => False
def FindOk (P : Program) (kt : TypeId) (kd : TypeDesc) (u : Value) (es : List MapEntry) (i : Nat) (r : Option (Nat × Value)) : Prop := match kd with
  | .pointer _ => ∀ w, (Instr.findAsking kt u es i).run P w = .ok r w
  | kd => Instr.findNow kd u es i = some r
theorem findA_ok (hF : FactsOk P F ρ.σ) {kt : TypeId} {kd : TypeDesc} (hk : KindOk P kt kd) {u u' : Value} (hu : cz ρ u = some u') : ∀ {es es' : List MapEntry} {i : Nat} {r : Option (Nat × Value)}, findA P F kd u es i = some r → czes ρ es = some es' →
    ∃ r', FindOk P kt kd u' es' i r' ∧ Found ρ es es' u' i r r'
  | [], _, i, r, h, he => by
    simp [czes] at he
    subst he
    simp [findA] at h
    subst h
    refine ⟨none, ?_, trivial⟩
    unfold FindOk
    split
    · intro w; simp [Instr.findAsking]
    · rfl
  | e :: es, _, i, r, h, he => by
    obtain ⟨e', es', h1, h2, rfl⟩ := czes_cons.1 he
    obtain ⟨hkk, hv, _⟩ := cze_ok.1 h1
    simp only [findA] at h
    cases hs : sameA P F kd u e.key with
    | none => simp [hs] at h
    | some b =>
      obtain ⟨h3, h4⟩ := sameA_ok hF hs hu hkk
      rw [hs] at h
      have step : ∀ r', (b = true → r' = some (i, e'.val)) → (b = false → FindOk P kt kd u' es' (i + 1) r') → FindOk P kt kd u' (e' :: es') i r' := fun r' ht hf => by
        rcases hk with ⟨_, hkd⟩ | ⟨rfl, _⟩
        · have e1 : FindOk P kt kd u' (e' :: es') i r' = (Instr.findNow kd u' (e' :: es') i = some r') := by rcases hkd with ⟨_, rfl⟩ | rfl <;> rfl
          have e2 : FindOk P kt kd u' es' (i + 1) r' = (Instr.findNow kd u' es' (i + 1) = some r') := by rcases hkd with ⟨_, rfl⟩ | rfl <;> rfl
          have e3 : EqlOk P kd u' e'.key b = (Instr.sameNow kd u' e'.key = some b) := by rcases hkd with ⟨_, rfl⟩ | rfl <;> rfl
          rw [e3] at h3
          rw [e2] at hf
          rw [e1]
          simp only [Instr.findNow, h3]
          cases b with
          | true => simp [ht rfl]
          | false => exact hf rfl
        · intro w
          have h3 : ∀ w, (Op.equal kt u' e'.key).run P w = .ok b w := h3
          simp only [Instr.findAsking, Sem.run_bind, h3 w, Result.andThen_ok]
          cases b with
          | true => simp [ht rfl]
          | false => simpa using hf rfl w
      cases b with
      | true =>
        simp only [Option.some.injEq] at h
        subst h
        obtain ⟨h5, h6⟩ := h4 rfl
        exact ⟨_, step _ (fun _ => rfl) (fun e => by cases e), rfl, Nat.le_refl _, hv, e, e', by simp, by simp, rfl, rfl, h5, h6⟩
      | false =>
        obtain ⟨r', h5, h6⟩ := findA_ok hF hk hu h h2
        refine ⟨r', step _ (fun e => by cases e) (fun _ => h5), ?_⟩
        cases r with
        | none => cases r' with
          | none => trivial
          | some x => exact h6
        | some x => cases r' with
          | none => exact h6
          | some x' =>
            obtain ⟨j, v⟩ := x
            obtain ⟨j', v'⟩ := x'
            obtain ⟨rfl, g2, g3, e1, e1', g4, g5, g6, g7, g8, g9⟩ := h6
            refine ⟨rfl, by omega, g3, e1, e1', ?_, ?_, g6, g7, g8, g9⟩
            · rw [show j - i = j - (i + 1) + 1 by omega]; simpa using g4
            · rw [show j - i = j - (i + 1) + 1 by omega]; simpa using g5

theorem keyKind_ok {ty : TypeId} {kd : TypeDesc} {e : TypeId} (h : keyKind P ty = some (kd, e)) : ∃ kt, P.underlying ty = some (.map kt e) ∧ KindOk P kt kd := by
  unfold keyKind at h
  split at h
  · rename_i kt e' hu
    split at h
    · rename_i i hk
      simp at h
      obtain ⟨rfl, rfl⟩ := h
      exact ⟨kt, hu, .inl ⟨hk, .inl ⟨i, rfl⟩⟩⟩
    · rename_i hk
      simp at h
      obtain ⟨rfl, rfl⟩ := h
      exact ⟨kt, hu, .inl ⟨hk, .inr rfl⟩⟩
    · rename_i fs hk
      simp at h
      obtain ⟨rfl, rfl⟩ := h
      exact ⟨kt, hu, .inr ⟨rfl, fs, hk⟩⟩
    · cases h
  · cases h

theorem check_ok {kt : TypeId} {kd : TypeDesc} (h : KindOk P kt kd) {u u' : Value} (hko : keyOk P kd u = true) (hu : cz ρ u = some u') (b : Bool) (w : World) : (Instr.checkKey b 10000 kt u').run P w = .ok () w := by
  rcases h with ⟨h, hk⟩ | ⟨rfl, _⟩
  · show (Instr.checkKey b (9999 + 1) kt u').run P w = _
    unfold Instr.checkKey
    rw [Sem.run_bind, run_underlying h]
    rcases hk with ⟨i, rfl⟩ | rfl <;> rfl
  · simp only [keyOk, Bool.and_eq_true] at hko
    rw [cz_plain hko.1.1] at hu
    cases hu
    obtain ⟨x1, h1⟩ := Option.isSome_iff_exists.1 hko.1.2
    obtain ⟨x2, h2⟩ := Option.isSome_iff_exists.1 hko.2
    cases b with
    | true => exact pureRun_ok h1 w
    | false => exact pureRun_ok h2 w
theorem findK_ok (hF : FactsOk P F ρ.σ) {kt : TypeId} {kd : TypeDesc} (hk : KindOk P kt kd) {u u' : Value} (hu : cz ρ u = some u') {es es' : List MapEntry} {r : Option (Nat × Value)} (h : findK P F kd u es = some r) (he : czes ρ es = some es') :
    (∀ b w, (Instr.checkKey b 10000 kt u').run P w = .ok () w) ∧ ∃ r', FindOk P kt kd u' es' 0 r' ∧ Found ρ es es' u' 0 r r' := by
  unfold findK at h
  cases hko : keyOk P kd u with
  | false => rw [hko, cond_false] at h; cases h
  | true =>
    rw [hko, cond_true] at h
    exact ⟨fun b w => check_ok hk hko hu b w, findA_ok hF hk hu h he⟩
theorem run_findKey {kt : TypeId} {kd : TypeDesc} (h : KindOk P kt kd) {u : Value} {es : List MapEntry} {r : Option (Nat × Value)} (hf : FindOk P kt kd u es 0 r) (w : World) :
    (Instr.findKey kt u es).run P w = .ok r w := by
  unfold Instr.findKey
  rcases h with ⟨h, hk⟩ | ⟨rfl, fs, h⟩
  · have e1 : FindOk P kt kd u es 0 r = (Instr.findNow kd u es 0 = some r) := by rcases hk with ⟨_, rfl⟩ | rfl <;> rfl
    rw [e1] at hf
    rw [Sem.run_bind, run_underlying h]
    simp [hf]
  · rw [Sem.run_bind, run_underlying h]
    have hf : ∀ w, (Instr.findAsking kt u es 0).run P w = .ok r w := hf
    cases es with
    | nil =>
      have := hf w
      simp [Instr.findAsking] at this
      subst this
      simp [Instr.findNow]
    | cons e es =>
      have : Instr.findNow (.struct fs) u (e :: es) 0 = none := by simp [Instr.findNow, Instr.sameNow]
      simp only [Result.andThen_ok, this]
      exact hf w
theorem run_getMap {r : Nat} {es : Array MapEntry} {c : Nat} (h : w.heap[r]? = some (.map es c)) : (getObj r).run P w = .ok (.map es c) w := by simp [getObj, Sem.run, h]
theorem run_setMap {r : Nat} {es : Array MapEntry} {c : Nat} (h : w.heap[r]? = some (.map es c)) (o : Obj) : (setObj r o).run P w = .ok () (w.putObj r o) := by simp [setObj, Sem.run, h, World.putObj]

/-- A map in memory. -/
theorem Rel.map (h : Rel P B ρ s w) {i : Nat} {es : List MapEntry} {c : Nat} (hi : s.H.get i = some (.map es c)) : ∃ b es', ρ.β i = some (b, 0) ∧ w.heap[b]? = some (.map es'.toArray c) ∧ czes ρ es = some es' := by
  obtain ⟨b, d, x, h1, h2, rfl, es', h3, rfl⟩ := h.obj i _ hi
  exact ⟨b, es', h1, h2, h3⟩
theorem Step.setMap (hr : Rel P B ρ s w) {i b : Nat} {es es1 es1' : List MapEntry} {c c' : Nat} {H : Tr AObj} (hg : s.H.get i = some (.map es c)) (hb : ρ.β i = some (b, 0)) (hlt : b < w.heap.size) (he : czes ρ es1 = some es1')
    (hH : ∀ m, H.get m = if m = i then some (.map es1 c') else s.H.get m) : Step P B s ρ w ⟨s.n, min i s.low, H⟩ ρ (w.putObj b (.map es1'.toArray c')) :=
  Step.set hr hb (by rw [hg]; rfl) hH (c := .map es1'.toArray c') ⟨rfl, es1', he, rfl⟩ (World.putObj_heap_same hlt) (fun _ hk => World.putObj_heap_other hk) World.putObj_size rfl rfl rfl

theorem entriesA_ok {β : Type} (hr : Rel P B ρ s w) {m m' : Value} {k : List MapEntry → Nat → R β} {y : β} (hm : cz ρ m = some m') (h : entriesA s m k = .ok y) :
    ∃ es c es', k es c = .ok y ∧ czes ρ es = some es' ∧ ((m' = .map none ∧ es' = []) ∨ ∃ r c', m' = .map (some r) ∧ w.heap[r]? = some (.map es'.toArray c')) := by
  unfold entriesA at h
  split at h
  · simp only [cz, Option.some.injEq] at hm
    exact ⟨[], 0, [], h, by simp [czes], .inl ⟨hm.symm, rfl⟩⟩
  · rename_i r
    simp only [cz, Option.map_eq_some_iff] at hm
    obtain ⟨r', hr', rfl⟩ := hm
    split at h
    · rename_i es c hg
      obtain ⟨b, es', h1, h2, h3⟩ := hr.map hg
      have := czB_some.1 hr'
      rw [h1] at this
      cases this
      exact ⟨es, c, es', h, h3, .inr ⟨_, c, rfl, h2⟩⟩
    · cases h
  · cases h

theorem lookup_ok (hr : Rel P B ρ s w) (hF : FactsOk P F ρ.σ) {ty : TypeId} {x i : Operand} {ok : Bool} (hop : o.op = .lookup ty x i ok) (hx : OpdOk ρ t a x) (hi : OpdOk ρ t a i) (h : simpleA P F o t s k = .ok y) : Sound P B s ρ w o a k y := by
  simp only [simpleA, hop] at h
  split at h
  · rename_i m key hm hkey
    split at h
    · rename_i kd e hkk
      obtain ⟨kt, hu, hk⟩ := keyKind_ok hkk
      obtain ⟨z, hz, h⟩ := ofOpt_ok h
      obtain ⟨hpz, h⟩ := bif_ok h
      obtain ⟨es, c, es', h, hes, hm'⟩ := entriesA_ok hr (hx _ hm) h
      have hzc : cz ρ z = some z := cz_plain hpz
      have hrun : ∀ (f : Option (Nat × Value)), (∀ b w, (Instr.checkKey b 10000 kt (a.eval i)).run P w = .ok () w) → FindOk P kt kd (a.eval i) es' 0 f →
          (execOp a.eval o).run P w = .ok (.value (let p : Value × Bool := match f with | some (_, v) => (v, true) | none => (z, false); if ok then .tuple #[p.1, .bool p.2] else p.1)) w := by
        intro f hck hf
        simp only [execOp, hop, Instr.lookup, Sem.run_bind, run_underlying hu, Result.andThen_ok]
        rcases hm' with ⟨e1, e2⟩ | ⟨r, c', e1, e2⟩
        · subst e2
          have hf' := run_findKey (P := P) hk hf w
          simp only [e1, Sem.run_pure, Result.andThen_ok, hck, hf', Sem.run_bind]
          cases f with
          | none => simp [run_zeroValue hz]
          | some p => simp
        · simp only [e1, Sem.run_bind, run_getMap (P := P) e2, Sem.run_pure, Result.andThen_ok, hck, run_findKey (P := P) hk hf w]
          cases f with
          | none => simp [run_zeroValue hz]
          | some p => simp
      split at h
      · rename_i j v hfa
        obtain ⟨hck, r', h1, h2⟩ := findK_ok hF hk (hi _ hkey) hfa hes
        cases r' with
        | none => exact h2.elim
        | some p =>
          obtain ⟨j', v'⟩ := p
          obtain ⟨_, _, hv, _⟩ := h2
          cases ok with
          | false => exact .pure hr h hv (by simpa using hrun _ hck h1)
          | true => exact .pure hr h (v' := .tuple #[v', .bool true]) (by simp [cz, cza, czl, hv]) (by simpa using hrun _ hck h1)
      · rename_i hfa
        obtain ⟨hck, r', h1, h2⟩ := findK_ok hF hk (hi _ hkey) hfa hes
        cases r' with
        | some p => exact h2.elim
        | none =>
          cases ok with
          | false => exact .pure hr h hzc (by simpa using hrun _ hck h1)
          | true => exact .pure hr h (v' := .tuple #[z, .bool false]) (by simp [cz, cza, czl, hzc]) (by simpa using hrun _ hck h1)
      · cases h
    · cases h
  · cases h

theorem putA_ok {β : Type} (hr : Rel P B ρ s w) (hF : FactsOk P F ρ.σ) {ty : TypeId} {m key v m' key' v' : Value} {k : ASt → R β} {y : β} (hm : cz ρ m = some m') (hkey : cz ρ key = some key') (hv : cz ρ v = some v') (h : putA P F s ty m key v k = .ok y) :
    ∃ s1 w', k s1 = .ok y ∧ Step P B s ρ w s1 ρ w' ∧ (Instr.mapUpdate ty m' key' v').run P w = .ok () w' := by
  unfold putA at h
  split at h
  · rename_i kd e r hkk
    obtain ⟨kt, hu, hk⟩ := keyKind_ok hkk
    split at h
    · rename_i es c hg
      obtain ⟨b, es', h1, h2, h3⟩ := hr.map hg
      simp only [cz, Option.map_eq_some_iff] at hm
      obtain ⟨r', hr', rfl⟩ := hm
      have := czB_some.1 hr'
      rw [h1] at this
      cases this
      have hlt := (hr.lt _ _ _ h1).2
      split at h
      · rename_i j v0 hfa
        obtain ⟨hck, f, g1, g2⟩ := findK_ok hF hk hkey hfa h3
        cases f with
        | none => exact g2.elim
        | some p =>
          obtain ⟨j', v1⟩ := p
          obtain ⟨rfl, _, _, e0, e0', q1, q2, q3, q4, q5, q6⟩ := g2
          obtain ⟨h, hj⟩ := setEntryK_ok h
          obtain ⟨H, hH, h⟩ := setObjK_ok h
          have hmod := czes_modify (ρ := ρ) (f := fun e => { e with key := key, val := v }) (f' := fun e => { e with key := key', val := v' })
            (fun x x' hx => cze_ok.2 ⟨hkey, hv, (cze_ok.1 hx).2.2⟩) j h3
          refine ⟨_, _, h, Step.setMap hr hg h1 hlt hmod hH, ?_⟩
          have q2' : es'[j]? = some e0' := by simpa using q2
          simp only [Instr.mapUpdate, Sem.run_bind, run_underlying hu, Result.andThen_ok, run_getMap (P := P) h2, hck, run_findKey (P := P) hk g1 w]
          simp only [List.getElem?_toArray, q2', Option.map_some, Option.getD_some, Instr.keyThatStays, q6, if_true, Sem.run_pure, Result.andThen_ok, run_setMap (P := P) h2]
          congr 2
          simp [List.modify_toArray]
      · rename_i hfa
        obtain ⟨hck, f, g1, g2⟩ := findK_ok hF hk hkey hfa h3
        cases f with
        | some p => exact g2.elim
        | none =>
          have h := natK_ok h
          have h := pushEntryK_ok h
          obtain ⟨H, hH, h⟩ := setObjK_ok h
          have hpush := czes_push h3 (x := ⟨key, v, c⟩) (x' := ⟨key', v', c⟩) (cze_ok.2 ⟨hkey, hv, rfl⟩)
          refine ⟨_, _, h, Step.setMap hr hg h1 hlt hpush hH, ?_⟩
          simp only [Instr.mapUpdate, Sem.run_bind, run_underlying hu, Result.andThen_ok, run_getMap (P := P) h2, hck, run_findKey (P := P) hk g1 w, run_setMap (P := P) h2]
          congr 2
          simp
      · cases h
    · cases h
  · cases h
end
end Ae
end Go.Proofs.Ytollflfkgcgdkaa
