/- What an abstract state says of a world. -/
import Derived.Test.YtollflfkgcgdkaaAe
import Derived.Test.YtollflfkgcgdkaaHeap
namespace Go.Proofs.Ytollflfkgcgdkaa
open Go
namespace Ae

structure Ren where
  β : Nat → Option (Nat × Nat)
  γ : Nat → Nat
  σ : Nat → Value

def czA (ρ : Ren) (a : Addr) : Option Addr := match a.spot, ρ.β a.block with
  | none, some (b, d) => some ⟨b, a.off + d, none⟩
  | _, _ => none
def czB (ρ : Ren) (r : Nat) : Option Nat := match ρ.β r with
  | some (b, 0) => some b
  | _ => none

/-- The empty slice behind the end of a row. -/
def tailZ (ρ : Ren) (blk o1 o2 c : Nat) : Option Value := match ρ.β blk with
  | some (b, d) => bif Nat.ble (c / 2) (ρ.γ blk) then some (.slice (some ⟨b, (if ρ.γ blk = c / 2 then o1 else o2) + d, none⟩) 0 (ρ.γ blk - c / 2)) else none
  | none => none
mutual
def cz (ρ : Ren) : Value → Option Value
  | .bool b => some (.bool b)
  | .int k n => some (.int k n)
  | .string s => some (.string s)
  | .float .f64 i => some (ρ.σ i)
  | .float .f32 e => tailZ ρ (e / tailM / tailM / tailM) (e / tailM / tailM % tailM) (e / tailM % tailM) (e % tailM)
  | .pointer none => some (.pointer none)
  | .pointer (some a) => (czA ρ a).map fun a' => .pointer (some a')
  | .slice none n c => if c = 0 then some (.slice none n 0) else none
  | .slice (some a) n c => match czA ρ a with
    | some a' => bif isOpen c then (bif Nat.ble (n + c / 2) (ρ.γ a.block) then some (.slice (some a') n (ρ.γ a.block - c / 2)) else none) else some (.slice (some a') n (c / 2))
    | none => none
  | .map none => some (.map none)
  | .map (some r) => (czB ρ r).map fun r' => .map (some r')
  | .chan none => some (.chan none)
  | .nilFunc => some .nilFunc
  | .nilIface => some .nilIface
  | .func fn fi ca => match fn with
    | .func f => match cza ρ fi, cza ρ ca with
      | some fi', some ca' => some (.func (.func f) fi' ca')
      | _, _ => none
    | .via a b c d => match cza ρ fi, cza ρ ca with
      | some fi', some ca' => some (.func (.via a b c d) fi' ca')
      | _, _ => none
    | .yield l => match cza ρ fi, cza ρ ca, czB ρ l with
      | some fi', some ca', some l' => some (.func (.yield l') fi' ca')
      | _, _, _ => none
    | _ => none
  | .iface t v => (cz ρ v).map fun v' => .iface t v'
  | .agg a => (cza ρ a).map .agg
  | .tuple a => (cza ρ a).map .tuple
  | _ => none
def cza (ρ : Ren) : Array Value → Option (Array Value)
  | ⟨l⟩ => (czl ρ l).map List.toArray
def czl (ρ : Ren) : List Value → Option (List Value)
  | [] => some []
  | v :: l => match cz ρ v, czl ρ l with
    | some v', some l' => some (v' :: l')
    | _, _ => none
end

/-- ρ' knows what ρ knows. -/
structure Ext (ρ ρ' : Ren) : Prop where
  β : ∀ i x, ρ.β i = some x → ρ'.β i = some x
  γ : ∀ i x, ρ.β i = some x → ρ'.γ i = ρ.γ i
  σ : ρ'.σ = ρ.σ

theorem Ext.refl (ρ : Ren) : Ext ρ ρ := ⟨fun _ _ h => h, fun _ _ _ => rfl, rfl⟩
theorem Ext.trans {ρ ρ' ρ'' : Ren} (h : Ext ρ ρ') (k : Ext ρ' ρ'') : Ext ρ ρ'' :=
  ⟨fun i x hx => k.β i x (h.β i x hx), fun i x hx => (k.γ i x (h.β i x hx)).trans (h.γ i x hx), k.σ.trans h.σ⟩

section
variable {ρ ρ' : Ren}

theorem czA_some {a a' : Addr} : czA ρ a = some a' ↔ ∃ b d, a.spot = none ∧ ρ.β a.block = some (b, d) ∧ a' = ⟨b, a.off + d, none⟩ := by
  unfold czA
  obtain ⟨b, o, sp⟩ := a
  cases sp <;> cases h : ρ.β b <;> simp
  rename_i x
  obtain ⟨b', d⟩ := x
  simp
  constructor
  · rintro rfl; exact ⟨b', d, ⟨rfl, rfl⟩, rfl⟩
  · rintro ⟨_, _, ⟨rfl, rfl⟩, rfl⟩; rfl
theorem czB_some {r r' : Nat} : czB ρ r = some r' ↔ ρ.β r = some (r', 0) := by
  unfold czB
  split <;> simp_all

theorem czA_ext (h : Ext ρ ρ') {a a' : Addr} (ha : czA ρ a = some a') : czA ρ' a = some a' := by
  obtain ⟨b, d, h1, h2, h3⟩ := czA_some.1 ha
  exact czA_some.2 ⟨b, d, h1, h.β _ _ h2, h3⟩
theorem czB_ext (h : Ext ρ ρ') {a a' : Nat} (ha : czB ρ a = some a') : czB ρ' a = some a' := czB_some.2 (h.β _ _ (czB_some.1 ha))

theorem tailZ_some {blk o1 o2 c : Nat} {v : Value} : tailZ ρ blk o1 o2 c = some v ↔ ∃ b d, ρ.β blk = some (b, d) ∧ c / 2 ≤ ρ.γ blk ∧ v = .slice (some ⟨b, (if ρ.γ blk = c / 2 then o1 else o2) + d, none⟩) 0 (ρ.γ blk - c / 2) := by
  unfold tailZ
  cases h : ρ.β blk with
  | none => simp
  | some x =>
    obtain ⟨b, d⟩ := x
    simp only
    cases hl : Nat.ble (c / 2) (ρ.γ blk) with
    | true =>
      have := Nat.le_of_ble_eq_true hl
      constructor
      · intro e
        cases e
        exact ⟨b, d, rfl, this, rfl⟩
      · rintro ⟨b1, d1, e, _, rfl⟩
        cases e
        rfl
    | false =>
      have : ¬ c / 2 ≤ ρ.γ blk := fun g => by rw [Nat.ble_eq_true_of_le g] at hl; cases hl
      simp [this]
theorem tailZ_ext (h : Ext ρ ρ') {blk o1 o2 c : Nat} {v : Value} (hv : tailZ ρ blk o1 o2 c = some v) : tailZ ρ' blk o1 o2 c = some v := by
  obtain ⟨b, d, h1, h2, h3⟩ := tailZ_some.1 hv
  exact tailZ_some.2 ⟨b, d, h.β _ _ h1, by rw [h.γ _ _ h1]; exact h2, by rw [h.γ _ _ h1]; exact h3⟩

mutual
theorem cz_ext (h : Ext ρ ρ') : ∀ (v : Value) {v' : Value}, cz ρ v = some v' → cz ρ' v = some v'
  | .bool _, _, e => e
  | .int _ _, _, e => e
  | .string _, _, e => e
  | .float .f64 i, _, e => by simp only [cz] at e ⊢; rw [h.σ]; exact e
  | .float .f32 i, _, e => by simp only [cz] at e ⊢; exact tailZ_ext h e
  | .complex .., _, e => by simp [cz] at e
  | .pointer none, _, e => e
  | .pointer (some a), v', e => by
    simp only [cz, Option.map_eq_some_iff] at e ⊢
    obtain ⟨a', ha, rfl⟩ := e
    exact ⟨a', czA_ext h ha, rfl⟩
  | .slice none _ _, _, e => by simpa only [cz] using e
  | .slice (some a) n c, v', e => by
    simp only [cz] at e ⊢
    cases ha : czA ρ a with
    | none => simp [ha] at e
    | some a' =>
      obtain ⟨b, d, h1, h2, h3⟩ := czA_some.1 ha
      rw [czA_ext h ha, h.γ _ _ h2]
      simpa [ha] using e
  | .map none, _, e => by simpa only [cz] using e
  | .map (some r), v', e => by
    simp only [cz, Option.map_eq_some_iff] at e ⊢
    obtain ⟨a', ha, rfl⟩ := e
    exact ⟨a', czB_ext h ha, rfl⟩
  | .chan none, _, e => by simpa only [cz] using e
  | .chan (some _), _, e => by simp [cz] at e
  | .nilFunc, _, e => by simpa only [cz] using e
  | .nilIface, _, e => by simpa only [cz] using e
  | .func fn fi ca, v', e => by
    cases fn with
    | func f =>
      simp only [cz] at e ⊢
      cases h1 : cza ρ fi with
      | none => simp [h1] at e
      | some fi' => cases h2 : cza ρ ca with
        | none => simp [h1, h2] at e
        | some ca' => rw [cza_ext h fi h1, cza_ext h ca h2]; simpa [h1, h2] using e
    | via a b c d =>
      simp only [cz] at e ⊢
      cases h1 : cza ρ fi with
      | none => simp [h1] at e
      | some fi' => cases h2 : cza ρ ca with
        | none => simp [h1, h2] at e
        | some ca' => rw [cza_ext h fi h1, cza_ext h ca h2]; simpa [h1, h2] using e
    | yield l =>
      simp only [cz] at e ⊢
      cases h1 : cza ρ fi with
      | none => simp [h1] at e
      | some fi' => cases h2 : cza ρ ca with
        | none => simp [h1, h2] at e
        | some ca' => cases h3 : czB ρ l with
          | none => simp [h1, h2, h3] at e
          | some l' => rw [cza_ext h fi h1, cza_ext h ca h2, czB_ext h h3]; simpa [h1, h2, h3] using e
    | method n => simp [cz] at e
    | methodOf t n => simp [cz] at e
  | .iface t v, v', e => by
    simp only [cz, Option.map_eq_some_iff] at e ⊢
    obtain ⟨a', ha, rfl⟩ := e
    exact ⟨a', cz_ext h v ha, rfl⟩
  | .agg a, v', e => by
    simp only [cz, Option.map_eq_some_iff] at e ⊢
    obtain ⟨a', ha, rfl⟩ := e
    exact ⟨a', cza_ext h a ha, rfl⟩
  | .tuple a, v', e => by
    simp only [cz, Option.map_eq_some_iff] at e ⊢
    obtain ⟨a', ha, rfl⟩ := e
    exact ⟨a', cza_ext h a ha, rfl⟩
theorem cza_ext (h : Ext ρ ρ') : ∀ (a : Array Value) {a' : Array Value}, cza ρ a = some a' → cza ρ' a = some a'
  | ⟨l⟩, a', e => by
    simp only [cza, Option.map_eq_some_iff] at e ⊢
    obtain ⟨l', ha, rfl⟩ := e
    exact ⟨l', czl_ext h l ha, rfl⟩
theorem czl_ext (h : Ext ρ ρ') : ∀ (l : List Value) {l' : List Value}, czl ρ l = some l' → czl ρ' l = some l'
  | [], _, e => by simpa only [czl] using e
  | v :: l, l', e => by
    simp only [czl] at e ⊢
    cases h1 : cz ρ v with
    | none => simp [h1] at e
    | some v' => cases h2 : czl ρ l with
      | none => simp [h1, h2] at e
      | some l1 => rw [cz_ext h v h1, czl_ext h l h2]; simpa [h1, h2] using e
end

theorem czl_cons {v : Value} {l r : List Value} : czl ρ (v :: l) = some r ↔ ∃ v' l', cz ρ v = some v' ∧ czl ρ l = some l' ∧ r = v' :: l' := by
  simp only [czl]
  cases h1 : cz ρ v with
  | none => simp
  | some v' => cases h2 : czl ρ l with
    | none => simp
    | some l' => simp [eq_comm]
theorem czl_length : ∀ {l l' : List Value}, czl ρ l = some l' → l'.length = l.length
  | [], _, h => by simp [czl] at h; subst h; rfl
  | v :: l, _, h => by
    obtain ⟨v', l1, _, h2, rfl⟩ := czl_cons.1 h
    simp [czl_length h2]
theorem czl_append : ∀ {l m l' m' : List Value}, czl ρ l = some l' → czl ρ m = some m' → czl ρ (l ++ m) = some (l' ++ m')
  | [], _, _, _, h, h' => by simp [czl] at h; subst h; simpa using h'
  | v :: l, m, _, m', h, h' => by
    obtain ⟨v', l1, h1, h2, rfl⟩ := czl_cons.1 h
    exact czl_cons.2 ⟨v', l1 ++ m', h1, czl_append h2 h', rfl⟩
theorem czl_take : ∀ (n : Nat) {l l' : List Value}, czl ρ l = some l' → czl ρ (l.take n) = some (l'.take n)
  | 0, _, _, _ => by simp [czl]
  | n + 1, [], _, h => by simp [czl] at h; subst h; simp [czl]
  | n + 1, v :: l, _, h => by
    obtain ⟨v', l1, h1, h2, rfl⟩ := czl_cons.1 h
    exact czl_cons.2 ⟨v', _, h1, czl_take n h2, rfl⟩
theorem czl_drop : ∀ (n : Nat) {l l' : List Value}, czl ρ l = some l' → czl ρ (l.drop n) = some (l'.drop n)
  | 0, _, _, h => by simpa using h
  | n + 1, [], _, h => by simp [czl] at h; subst h; simp [czl]
  | n + 1, v :: l, _, h => by
    obtain ⟨v', l1, h1, h2, rfl⟩ := czl_cons.1 h
    simpa using czl_drop n h2
theorem czl_get : ∀ {l l' : List Value} (j : Nat) {v : Value}, czl ρ l = some l' → l[j]? = some v → ∃ v', l'[j]? = some v' ∧ cz ρ v = some v'
  | [], _, _, _, _, h => by simp at h
  | v :: l, _, 0, u, h, h' => by
    obtain ⟨v', l1, h1, h2, rfl⟩ := czl_cons.1 h
    simp at h'; subst h'
    exact ⟨v', rfl, h1⟩
  | v :: l, _, j + 1, u, h, h' => by
    obtain ⟨v', l1, h1, h2, rfl⟩ := czl_cons.1 h
    simpa using czl_get j h2 (by simpa using h')
theorem cza_toList {a a' : Array Value} : cza ρ a = some a' ↔ czl ρ a.toList = some a'.toList := by
  obtain ⟨l⟩ := a
  obtain ⟨l'⟩ := a'
  simp only [cza, Option.map_eq_some_iff]
  constructor
  · rintro ⟨x, h, e⟩; have : x = l' := by injection e
    subst this; exact h
  · intro h; exact ⟨l', h, rfl⟩

theorem cz_plain1 : ∀ {v : Value}, plain1 v = true → cz ρ v = some v := by
  intro v h
  unfold plain1 at h
  split at h <;> first | (simp [cz]; done) | cases h
theorem czl_plain1 : ∀ {l : List Value}, l.all plain1 = true → czl ρ l = some l
  | [], _ => by simp [czl]
  | v :: l, h => by
    simp only [List.all_cons, Bool.and_eq_true] at h
    exact czl_cons.2 ⟨v, l, cz_plain1 h.1, czl_plain1 h.2, rfl⟩
theorem cz_plain {v : Value} (h : plain v = true) : cz ρ v = some v := by
  unfold plain at h
  split at h
  · simp only [cz, Option.map_eq_some_iff]; exact ⟨_, cza_toList.2 (czl_plain1 h), rfl⟩
  · simp only [cz, Option.map_eq_some_iff]; exact ⟨_, cza_toList.2 (czl_plain1 h), rfl⟩
  · exact cz_plain1 h
theorem cz_one (hσ : ∀ i, (ρ.σ i).oneCell' = true) {v v' : Value} (h : cz ρ v = some v') (hv : oneCells [v] = true) : v'.oneCell' = true := by
  cases v with
  | agg a => simp [oneCells] at hv
  | tuple a => simp [oneCells] at hv
  | float k i => cases k with
    | f32 => simp only [cz] at h; obtain ⟨_, _, _, _, rfl⟩ := tailZ_some.1 h; rfl
    | f64 => simp only [cz, Option.some.injEq] at h; rw [← h]; exact hσ i
  | complex => simp [cz] at h
  | pointer a => cases a with
    | none => simp [cz] at h; subst h; rfl
    | some a => simp only [cz, Option.map_eq_some_iff] at h; obtain ⟨_, _, rfl⟩ := h; rfl
  | map a => cases a with
    | none => simp [cz] at h; subst h; rfl
    | some a => simp only [cz, Option.map_eq_some_iff] at h; obtain ⟨_, _, rfl⟩ := h; rfl
  | chan a => cases a with
    | none => simp [cz] at h; subst h; rfl
    | some a => simp [cz] at h
  | slice a n c => cases a with
    | none => simp [cz] at h; obtain ⟨_, rfl⟩ := h; rfl
    | some a =>
      simp only [cz] at h
      cases ha : czA ρ a with
      | none => simp [ha] at h
      | some a' =>
        simp only [ha] at h
        cases ho : isOpen c with
        | false => simp [ho] at h; subst h; rfl
        | true =>
          simp only [ho, cond_true] at h
          cases hl : Nat.ble (n + c / 2) (ρ.γ a.block) with
          | false => simp [hl] at h
          | true => simp [hl] at h; subst h; rfl
  | func fn fi ca =>
    cases fn <;> simp only [cz] at h
    case func f =>
      cases h1 : cza ρ fi <;> cases h2 : cza ρ ca <;> simp [h1, h2] at h
      subst h; rfl
    case via =>
      cases h1 : cza ρ fi <;> cases h2 : cza ρ ca <;> simp [h1, h2] at h
      subst h; rfl
    case yield l =>
      cases h1 : cza ρ fi <;> cases h2 : cza ρ ca <;> cases h3 : czB ρ l <;> simp [h1, h2, h3] at h
      subst h; rfl
    all_goals cases h
  | iface t x => simp only [cz, Option.map_eq_some_iff] at h; obtain ⟨_, _, rfl⟩ := h; rfl
  | _ => simp [cz] at h; subst h; rfl
theorem cells_of_one {v : Value} (h : v.oneCell' = true) : v.cells = #[v] := by cases v <;> first | rfl | cases h
theorem czl_cellsOf {v v' : Value} (hσ : ∀ i, (ρ.σ i).oneCell' = true) (h : cz ρ v = some v') : czl ρ (cellsOf v) = some v'.cells.toList := by
  have hone : ∀ {u : Value}, cellsOf v = [v] → u.cells = #[u] → v' = u → czl ρ (cellsOf v) = some v'.cells.toList := fun h1 h2 e => by
    subst e
    rw [h1, h2]
    exact czl_cons.2 ⟨_, [], h, by simp [czl], rfl⟩
  cases v with
  | agg a =>
    simp only [cz, Option.map_eq_some_iff] at h
    obtain ⟨a', ha, rfl⟩ := h
    exact cza_toList.1 ha
  | tuple a =>
    have h' := h
    simp only [cz, Option.map_eq_some_iff] at h'
    obtain ⟨a', ha, rfl⟩ := h'
    exact hone rfl rfl rfl
  | _ => exact hone rfl (cells_of_one (cz_one hσ h rfl)) rfl
theorem czl_ones (hσ : ∀ i, (ρ.σ i).oneCell' = true) : ∀ {l l' : List Value}, czl ρ l = some l' → oneCells l = true → ∀ v ∈ l', v.oneCell' = true
  | [], _, h, _ => by simp [czl] at h; subst h; simp
  | v :: l, _, h, h1 => by
    obtain ⟨v', l1, h2, h3, rfl⟩ := czl_cons.1 h
    have hv : oneCells [v] = true ∧ oneCells l = true := by cases v <;> simp_all [oneCells]
    intro u hu
    rcases List.mem_cons.1 hu with rfl | hu
    · exact cz_one hσ h2 hv.1
    · exact czl_ones hσ h3 hv.2 u hu
theorem cellsOf_length {v v' : Value} (hσ : ∀ i, (ρ.σ i).oneCell' = true) (h : cz ρ v = some v') : v'.cells.size = (cellsOf v).length := by
  have := czl_length (czl_cellsOf hσ h)
  simpa using this

/-! Tries -/
theorem get_setK {α β : Type} : ∀ (f : Nat) (t : Tr α) (n : Nat) (x : Option α) (k : Tr α → R β) (y : β), t.setK f n x k = .ok y → ∃ t', k t' = .ok y ∧ ∀ m, t'.get m = if m = n then x else t.get m := by
  intro f
  induction f with
  | zero => intro t n x k y h; simp [Tr.setK] at h
  | succ f ih =>
    intro t n x k y h
    have hdm : ∀ m : Nat, m = 2 * (m / 2) + m % 2 ∧ m % 2 < 2 := fun m => ⟨by omega, by omega⟩
    cases t with
    | leaf =>
      simp only [Tr.setK] at h
      cases n with
      | zero =>
        refine ⟨_, h, fun m => ?_⟩
        cases m with
        | zero => simp [Tr.get]
        | succ m => simp only [Tr.get]; cases Nat.beq (m % 2) 0 <;> simp
      | succ n =>
        cases hb : Nat.beq (n % 2) 0 with
        | true =>
          simp only [hb, cond_true] at h
          obtain ⟨t', h1, h2⟩ := ih _ _ _ _ _ h
          refine ⟨_, h1, fun m => ?_⟩
          cases m with
          | zero => simp [Tr.get]
          | succ m =>
            have hb' : n % 2 = 0 := by simpa using hb
            simp only [Tr.get]
            cases hm : Nat.beq (m % 2) 0 with
            | true =>
              have hm' : m % 2 = 0 := by simpa using hm
              simp only [cond_true, h2, Tr.get]
              by_cases e : m / 2 = n / 2
              · rw [if_pos e, if_pos (by omega)]
              · rw [if_neg e, if_neg (by omega)]
            | false =>
              have hm' : m % 2 ≠ 0 := fun e => by rw [e] at hm; cases hm
              simp only [cond_false]
              rw [if_neg (by omega)]
        | false =>
          simp only [hb, cond_false] at h
          obtain ⟨t', h1, h2⟩ := ih _ _ _ _ _ h
          refine ⟨_, h1, fun m => ?_⟩
          cases m with
          | zero => simp [Tr.get]
          | succ m =>
            have hb' : n % 2 ≠ 0 := fun e => by rw [e] at hb; cases hb
            simp only [Tr.get]
            cases hm : Nat.beq (m % 2) 0 with
            | false =>
              have hm' : m % 2 ≠ 0 := fun e => by rw [e] at hm; cases hm
              simp only [cond_false, h2, Tr.get]
              by_cases e : m / 2 = n / 2
              · rw [if_pos e, if_pos (by omega)]
              · rw [if_neg e, if_neg (by omega)]
            | true =>
              have hm' : m % 2 = 0 := by simpa using hm
              simp only [cond_true]
              rw [if_neg (by omega)]
    | node v l r =>
      simp only [Tr.setK] at h
      cases n with
      | zero =>
        refine ⟨_, h, fun m => ?_⟩
        cases m <;> simp [Tr.get]
      | succ n =>
        cases hb : Nat.beq (n % 2) 0 with
        | true =>
          simp only [hb, cond_true] at h
          obtain ⟨t', h1, h2⟩ := ih _ _ _ _ _ h
          refine ⟨_, h1, fun m => ?_⟩
          cases m with
          | zero => simp [Tr.get]
          | succ m =>
            have hb' : n % 2 = 0 := by simpa using hb
            simp only [Tr.get]
            cases hm : Nat.beq (m % 2) 0 with
            | true =>
              have hm' : m % 2 = 0 := by simpa using hm
              simp only [cond_true, h2]
              by_cases e : m / 2 = n / 2
              · rw [if_pos e, if_pos (by omega)]
              · rw [if_neg e, if_neg (by omega)]
            | false =>
              have hm' : m % 2 ≠ 0 := fun e => by rw [e] at hm; cases hm
              simp only [cond_false]
              rw [if_neg (by omega)]
        | false =>
          simp only [hb, cond_false] at h
          obtain ⟨t', h1, h2⟩ := ih _ _ _ _ _ h
          refine ⟨_, h1, fun m => ?_⟩
          cases m with
          | zero => simp [Tr.get]
          | succ m =>
            have hb' : n % 2 ≠ 0 := fun e => by rw [e] at hb; cases hb
            simp only [Tr.get]
            cases hm : Nat.beq (m % 2) 0 with
            | false =>
              have hm' : m % 2 ≠ 0 := fun e => by rw [e] at hm; cases hm
              simp only [cond_false, h2]
              by_cases e : m / 2 = n / 2
              · rw [if_pos e, if_pos (by omega)]
              · rw [if_neg e, if_neg (by omega)]
            | true =>
              have hm' : m % 2 = 0 := by simpa using hm
              simp only [cond_true]
              rw [if_neg (by omega)]

theorem natK_ok {β : Type} {n : Nat} {k : Nat → R β} {y : β} (h : natK n k = .ok y) : k n = .ok y := by cases n <;> exact h
theorem intK_ok {β : Type} {n : Int} {k : Int → R β} {y : β} (h : intK n k = .ok y) : k n = .ok y := by
  cases n <;> exact natK_ok (k := fun m => k _) h
theorem boolK_ok {β : Type} {n : Bool} {k : Bool → R β} {y : β} (h : boolK n k = .ok y) : k n = .ok y := by cases n <;> exact h
theorem valK_ok {β : Type} {v : Value} {k : Value → R β} {y : β} (h : valK v k = .ok y) : k v = .ok y := by
  cases v <;> first | exact intK_ok (k := fun n => k _) h | exact boolK_ok (k := fun n => k _) h | exact h
theorem takeK_ok {β : Type} : ∀ {n : Nat} {l : List Value} {k : List Value → R β} {y : β}, takeK n l k = .ok y → k (l.take n) = .ok y ∧ n ≤ l.length
  | 0, _, _, _, h => by simpa [takeK] using h
  | _ + 1, [], _, _, h => by simp [takeK] at h
  | n + 1, v :: l, _, _, h => by
    have := takeK_ok (n := n) (l := l) (k := fun l => _) h
    simpa using this
theorem dropK_ok {β : Type} : ∀ {n : Nat} {l : List Value} {k : List Value → R β} {y : β}, dropK n l k = .ok y → k (l.drop n) = .ok y ∧ n ≤ l.length
  | 0, _, _, _, h => by simpa [dropK] using h
  | _ + 1, [], _, _, h => by simp [dropK] at h
  | n + 1, v :: l, _, _, h => by
    have := dropK_ok (n := n) (l := l) h
    simpa using this
theorem overK_ok {β : Type} : ∀ {vs l : List Value} {k : List Value → R β} {y : β}, overK vs l k = .ok y → k (vs ++ l.drop vs.length) = .ok y ∧ vs.length ≤ l.length
  | [], _, _, _, h => by simpa [overK] using h
  | _ :: _, [], _, _, h => by simp [overK] at h
  | v :: vs, x :: l, _, _, h => by
    have := overK_ok (vs := vs) (l := l) (k := fun l => _) h
    simpa using this
theorem putAtK_ok {β : Type} : ∀ {n : Nat} {l vs : List Value} {k : List Value → R β} {y : β}, putAtK n l vs k = .ok y → k (l.take n ++ vs ++ l.drop (n + vs.length)) = .ok y ∧ n + vs.length ≤ l.length
  | 0, l, vs, _, _, h => by have := overK_ok h; simpa using this
  | _ + 1, [], _, _, _, h => by simp [putAtK] at h
  | n + 1, x :: l, vs, _, _, h => by
    have := putAtK_ok (n := n) (l := l) (k := fun l => _) h
    simp only [List.cons_append, List.take_succ_cons, List.length_cons]
    refine ⟨?_, by omega⟩
    rw [show n + 1 + vs.length = n + vs.length + 1 by omega, List.drop_succ_cons]
    exact this.1
theorem overListK_ok {β : Type} : ∀ {l m : List Value} {k : List Value → R β} {y : β}, appendA.overListK l m k = .ok y → k (l ++ m) = .ok y
  | [], _, _, _, h => h
  | v :: l, m, _, _, h => by
    have := overListK_ok (l := l) (k := fun l => _) h
    simpa using this
theorem minK_ok {β : Type} {a b : Nat} {k : Nat → R β} {y : β} (h : minK a b k = .ok y) : k (min a b) = .ok y := by
  unfold minK at h
  cases hb : Nat.ble a b with
  | true => rw [hb] at h; rw [Nat.min_eq_left (Nat.le_of_ble_eq_true hb)]; exact h
  | false =>
    rw [hb] at h
    have : ¬ a ≤ b := fun g => by rw [Nat.ble_eq_true_of_le g] at hb; cases hb
    rw [Nat.min_eq_right (by omega)]; exact h
theorem ofOpt_ok {α β : Type} {c : Nat} {p : String} {x : Option α} {k : α → R β} {y : β} (h : ofOpt c p x k = .ok y) : ∃ a, x = some a ∧ k a = .ok y := by
  cases x with
  | none => cases h
  | some a => exact ⟨a, rfl, h⟩
theorem bif_ok {β : Type} {b : Bool} {x : R β} {c : Nat} {p : String} {y : β} (h : (bif b then x else .err c p) = .ok y) : b = true ∧ x = .ok y := by
  cases b with
  | true => exact ⟨rfl, h⟩
  | false => cases h
end
end Ae
end Go.Proofs.Ytollflfkgcgdkaa
