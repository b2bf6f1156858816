/- Symbolic states: the same state under other names, with less said of it. -/
import Derived.Test.YtmgcpfljhcahoaaSyMap
namespace Go.Proofs.Ytmgcpfljhcahoaa
open Go Go.RowKit
namespace Sy
variable {md : Bool}

/-- A value that stands for nothing. -/
def badV : V := .fn (.yield 0) [] []
mutual
def V.mapN (φ : Nat → Option Nat) : V → V
  | .tok i => match φ i with
    | some j => .tok j
    | none => badV
  | .ptr i off => match φ i with
    | some j => .ptr j off
    | none => badV
  | .ep i j sz fo => match φ i with
    | some i' => .ep i' j sz fo
    | none => badV
  | .mp i => match φ i with
    | some j => .mp j
    | none => badV
  | .yl i => match φ i with
    | some j => .yl j
    | none => badV
  | .sl i lo sz n full => match φ i with
    | some j => .sl j lo sz n full
    | none => bif Nat.beq lo 0 && Nat.beq n 0 then .nils else badV
  | .sle i sz n => match φ i with
    | some j => .sle j sz n
    | none => badV
  | .fn f fi ca => .fn f (mapNl φ fi) (mapNl φ ca)
  | .iface t v => .iface t (V.mapN φ v)
  | .agg l => .agg (mapNl φ l)
  | .tup l => .tup (mapNl φ l)
  | .ap i b off => match φ i with
    | some j => .ap j b off
    | none => badV
  | .ae i b j sz fo => match φ i with
    | some i' => .ae i' b j sz fo
    | none => badV
  | .asl i p sz n c => match φ i with
    | some j => .asl j p sz n c
    | none => badV
  | v => v
def mapNl (φ : Nat → Option Nat) : List V → List V
  | [] => []
  | v :: l => V.mapN φ v :: mapNl φ l
end

def Ren.comp (ρ : Ren) (φ : Nat → Option Nat) : Ren :=
  ⟨fun i => (φ i).bind ρ.β, fun i => match φ i with | some j => ρ.δ j | none => 0, fun i => match φ i with | some j => ρ.γ j | none => 0,
   fun i => match φ i with | some j => ρ.ν j | none => true, fun i => (φ i).bind ρ.σ, fun i => match φ i with | some j => ρ.fp j | none => fun _ => False⟩

section
variable {ρ ρ' ρ'' : Ren} {s s' s'' s1 : St} {w w' w'' : World} {pr pr' : Nat} {φ : Nat → Option Nat}

theorem cz_bad : cz ρ badV = none := by simp [badV, cz, fnOk]
mutual
theorem cz_map : ∀ (v : V) {v' : Value}, cz ρ (v.mapN φ) = some v' → cz (ρ.comp φ) v = some v'
  | .int _ _, _, e => e
  | .bool _, _, e => e
  | .sb _, _, e => e
  | .str _, _, e => e
  | .tok i, v', e => by
    simp only [V.mapN] at e
    split at e
    · rename_i j hj; simpa [cz, Ren.comp, hj] using e
    · rw [cz_bad] at e; cases e
  | .nilp, _, e => e
  | .ptr i off, v', e => by
    simp only [V.mapN] at e
    split at e
    · rename_i j hj; simpa [cz, Ren.comp, hj] using e
    · rw [cz_bad] at e; cases e
  | .ep i j sz fo, v', e => by
    simp only [V.mapN] at e
    split at e
    · rename_i j hj; simpa [cz, Ren.comp, hj] using e
    · rw [cz_bad] at e; cases e
  | .nils, _, e => e
  | .sl i lo sz n full, v', e => by
    simp only [V.mapN] at e
    split at e
    · rename_i j hj; simpa [cz, Ren.comp, hj] using e
    · rename_i hj
      cases hb : Nat.beq lo 0 && Nat.beq n 0 with
      | true =>
        rw [hb, cond_true] at e
        simp only [Bool.and_eq_true] at hb
        have h1 : lo = 0 := by simpa using hb.1
        have h2 : n = 0 := by simpa using hb.2
        simpa [cz, Ren.comp, hj, h1, h2] using e
      | false =>
        rw [hb, cond_false, cz_bad] at e; cases e
  | .sle i sz n, v', e => by
    simp only [V.mapN] at e
    split at e
    · rename_i j hj; simpa [cz, Ren.comp, hj] using e
    · rw [cz_bad] at e; cases e
  | .nilm, _, e => e
  | .mp i, v', e => by
    simp only [V.mapN] at e
    split at e
    · rename_i j hj; simpa [cz, Ren.comp, hj] using e
    · rw [cz_bad] at e; cases e
  | .nilf, _, e => e
  | .yl i, v', e => by
    simp only [V.mapN] at e
    split at e
    · rename_i j hj; simpa [cz, Ren.comp, hj] using e
    · rw [cz_bad] at e; cases e
  | .nili, _, e => e
  | .fn f fi ca, v', e => by
    simp only [V.mapN, cz] at e ⊢
    split at e
    · rename_i hf
      rw [if_pos hf]
      cases h1 : czl ρ (mapNl φ fi) with
      | none => simp [h1] at e
      | some fi' => cases h2 : czl ρ (mapNl φ ca) with
        | none => simp [h1, h2] at e
        | some ca' => rw [czl_map fi h1, czl_map ca h2]; simpa [h1, h2] using e
    · cases e
  | .iface t v, v', e => by
    simp only [V.mapN, cz, Option.map_eq_some_iff] at e ⊢
    obtain ⟨a', ha, rfl⟩ := e
    exact ⟨a', cz_map v ha, rfl⟩
  | .agg a, v', e => by
    simp only [V.mapN, cz, Option.map_eq_some_iff] at e ⊢
    obtain ⟨a', ha, rfl⟩ := e
    exact ⟨a', czl_map a ha, rfl⟩
  | .tup a, v', e => by
    simp only [V.mapN, cz, Option.map_eq_some_iff] at e ⊢
    obtain ⟨a', ha, rfl⟩ := e
    exact ⟨a', czl_map a ha, rfl⟩
  | .ap i b off, v', e => by
    simp only [V.mapN] at e
    split at e
    · simpa [cz] using e
    · rw [cz_bad] at e; cases e
  | .ae i b j sz fo, v', e => by
    simp only [V.mapN] at e
    split at e
    · simpa [cz] using e
    · rw [cz_bad] at e; cases e
  | .asl i p sz n c, v', e => by
    simp only [V.mapN] at e
    split at e
    · simpa [cz] using e
    · rw [cz_bad] at e; cases e
theorem czl_map : ∀ (l : List V) {l' : List Value}, czl ρ (mapNl φ l) = some l' → czl (ρ.comp φ) l = some l'
  | [], _, e => by simpa only [mapNl, czl] using e
  | v :: l, l', e => by
    simp only [mapNl, czl] at e ⊢
    cases h1 : cz ρ (v.mapN φ) with
    | none => simp [h1] at e
    | some v' => cases h2 : czl ρ (mapNl φ l) with
      | none => simp [h1, h2] at e
      | some l1 => rw [cz_map v h1, czl_map l h2]; simpa [h1, h2] using e
end
theorem mapNl_append : ∀ (l m : List V), mapNl φ (l ++ m) = mapNl φ l ++ mapNl φ m
  | [], _ => rfl
  | v :: l, m => by simp [mapNl, mapNl_append l m]
theorem rowL_map (f : Nat → List V) : ∀ n, rowL (fun j => mapNl φ (f j)) n = mapNl φ (rowL f n)
  | 0 => rfl
  | n + 1 => by rw [rowL_succ, rowL_succ, rowL_map f n, mapNl_append]
theorem mapNl_length : ∀ l : List V, (mapNl φ l).length = l.length
  | [] => rfl
  | _ :: l => by simp [mapNl, mapNl_length l]
theorem oneCells_map : ∀ {l : List V}, oneCells (mapNl φ l) = true → oneCells l = true
  | [], _ => rfl
  | v :: l, h => by
    have ih : oneCells (mapNl φ l) = true → oneCells l = true := oneCells_map
    cases v <;> simp_all [mapNl, V.mapN, oneCells]
    all_goals (apply ih; revert h; split <;> simp [badV, oneCells])
    cases hb : Nat.beq _ 0 && Nat.beq _ 0 <;> simp [oneCells]

/-! Matching -/
def Tr.allV {α : Type} (C : α → Prop) : Tr α → Prop
  | .leaf => True
  | .node v l r => (match v with | some o => C o | none => True) ∧ l.allV C ∧ r.allV C
theorem Tr.allV_ok {α : Type} {C : α → Prop} : ∀ {t : Tr α}, t.allV C → ∀ i v, t.get i = some v → C v
  | .leaf, _, i, v, h => by simp [Tr.get] at h
  | .node u l r, ⟨h1, h2, h3⟩, i, v, hv => by
    cases i with
    | zero =>
      simp only [Tr.get] at hv
      subst hv
      exact h1
    | succ m =>
      simp only [Tr.get] at hv
      cases hb : Nat.beq (m % 2) 0 with
      | true => rw [hb, cond_true] at hv; exact Tr.allV_ok h2 _ v hv
      | false => rw [hb, cond_false] at hv; exact Tr.allV_ok h3 _ v hv
def matchV1 (φ : Nat → Option Nat) : V → V → Prop
  | .int k n, .int k' n' => k = k' ∧ n = n'
  | .sb b, .bool b' => b = b'
  | .sb b, .sb b' => b = b'
  | .sl i lo sz n full, .sl j lo' sz' n' full' => φ i = some j ∧ lo = lo' ∧ sz = sz' ∧ n = n' ∧ full = full'
  | .ap i b off, .ap j b' off' => φ i = some j ∧ b = b' ∧ off = off'
  | .asl i p sz n c, .asl j p' sz' n' c' => φ i = some j ∧ p = p' ∧ sz = sz' ∧ n = n' ∧ c = c'
  | v1, v => v1.mapN φ = v
def matchL (φ : Nat → Option Nat) (l : List V) : List V → Prop := List.rec (motive := fun _ => List V → Prop) (fun m => match m with | [] => True | _ => False) (fun v _ ih m => match m with | u :: m => matchV1 φ v u ∧ ih m | [] => False) l
def matchV (φ : Nat → Option Nat) : V → V → Prop
  | .tup l, .tup m => matchL φ l m
  | .agg l, .agg m => matchL φ l m
  | v1, v => matchV1 φ v1 v
theorem matchV1_cz {v1 v : V} (h : matchV1 φ v1 v) {v' : Value} (hv : cz ρ v = some v') : cz (ρ.comp φ) v1 = some v' := by
  unfold matchV1 at h
  split at h
  · obtain ⟨rfl, rfl⟩ := h; exact hv
  · subst h; exact hv
  · subst h; exact hv
  · obtain ⟨h1, rfl, rfl, rfl, rfl⟩ := h
    exact cz_map _ (by simpa [V.mapN, h1] using hv)
  · obtain ⟨h1, rfl, rfl⟩ := h
    exact cz_map _ (by simpa [V.mapN, h1] using hv)
  · obtain ⟨h1, rfl, rfl, rfl, rfl⟩ := h
    exact cz_map _ (by simpa [V.mapN, h1] using hv)
  · subst h; exact cz_map _ hv
theorem matchL_cz : ∀ {l m : List V} {x : List Value}, matchL φ l m → czl ρ m = some x → czl (ρ.comp φ) l = some x
  | [], [], _, _, h => by rw [czl_nil.1 h]; simp [czl]
  | [], _ :: _, _, h, _ => h.elim
  | _ :: _, [], _, h, _ => h.elim
  | v :: l, u :: m, x, h0, h => by
    obtain ⟨h1, h2⟩ : matchV1 φ v u ∧ matchL φ l m := h0
    obtain ⟨u', m', g1, g2, rfl⟩ := czl_cons.1 h
    exact czl_cons.2 ⟨u', m', matchV1_cz h1 g1, matchL_cz h2 g2, rfl⟩
theorem matchV_cz {v1 v : V} (h : matchV φ v1 v) {v' : Value} (hv : cz ρ v = some v') : cz (ρ.comp φ) v1 = some v' := by
  unfold matchV at h
  split at h
  · simp only [cz, Option.map_eq_some_iff] at hv ⊢
    obtain ⟨x, hx, rfl⟩ := hv
    exact ⟨x, matchL_cz h hx, rfl⟩
  · simp only [cz, Option.map_eq_some_iff] at hv ⊢
    obtain ⟨x, hx, rfl⟩ := hv
    exact ⟨x, matchL_cz h hx, rfl⟩
  · exact matchV1_cz h hv

/-- o1, its names put through φ, is o. -/
def ObjM (φ : Nat → Option Nat) : SObj → SObj → Prop
  | .cells l e, .cells l' e' => matchL φ l l' ∧ e = e'
  | .row n f e sz, .row n' f' e' sz' => n = n' ∧ e = e' ∧ sz = sz' ∧ ∀ j, j < n → mapNl φ (f j) = f' j
  | .ro c n f e sz, .ro c' n' f' e' sz' => c = c' ∧ n = n' ∧ e = e' ∧ sz = sz' ∧ ∀ j, j < n → mapNl φ (f j) = f' j
  | .mark, .mark => True
  | .loop st pend sz t ps asg bo D, .loop st' pend' sz' t' ps' asg' bo' D' => st = st' ∧ pend = pend' ∧ sz = sz' ∧ t = t' ∧ ps = ps' ∧ asg = asg' ∧ bo = bo' ∧ φ D = some D' ∧ Tr.allV (fun v => v.mapN φ = v) t
  | .map κ E, .map κ' E' => κ = κ' ∧ E = E' ∧ ∀ p ∈ E, p.2.mapN φ = p.2
  | .map κ E, .mapb κ' E' _ => κ = κ' ∧ E = (E'.map fun p => (p.1, p.2.1)) ∧ ∀ p ∈ E, p.2.mapN φ = p.2
  | .mapb κ E c, .mapb κ' E' c' => κ = κ' ∧ E = E' ∧ c = c' ∧ ∀ p ∈ E, p.2.1.mapN φ = p.2.1
  | .iter m since arr c, .iter m' since' arr' c' => φ m = some m' ∧ since = since' ∧ arr = arr' ∧ c = c'
  | .memc T M, .memc T' M' => T = T' ∧ ∀ b l, M b = some l → M' b = some (mapNl φ l)
  | .memr e sz M, .memr e' sz' M' => e = e' ∧ sz = sz' ∧ ∀ b N C f, M b = some (N, C, f) → ∃ f', M' b = some (N, C, f') ∧ ∀ q, q < N → mapNl φ (f q) = f' q
  | .own kd I, .own kd' I' => kd = kd' ∧ I = I'
  | _, _ => False
/-- What φ makes of a value that is new: a row that is nil. -/
def NilM : SObj → Prop
  | .row n _ _ _ => n = 0
  | .memc _ M => ∀ b, M b = none
  | .memr _ _ M => ∀ b, M b = none
  | _ => False
theorem czE_map {κ : KT} : ∀ {E : List (Key × V)} {es : List MapEntry}, (∀ p ∈ E, p.2.mapN φ = p.2) → czE ρ κ E es → czE (ρ.comp φ) κ E es
  | [], [], _, _ => trivial
  | [], _ :: _, _, h => h.elim
  | _ :: _, [], _, h => h.elim
  | (k, v) :: E, e :: es, hv, h => by
    obtain ⟨h1, h2, h3⟩ := h
    exact ⟨h1, cz_map v (by rw [hv (k, v) (List.mem_cons_self ..)]; exact h2), czE_map (fun p hp => hv p (List.mem_cons_of_mem _ hp)) h3⟩
theorem OR.map {i j : Nat} (hj : φ i = some j) {o1 o : SObj} (hm : ObjM φ o1 o) (h : OR ρ w j o) : OR (ρ.comp φ) w i o1 := by
  have eβ : (ρ.comp φ).β i = ρ.β j := by simp [Ren.comp, hj]
  have eδ : (ρ.comp φ).δ i = ρ.δ j := by simp [Ren.comp, hj]
  have eγ : (ρ.comp φ).γ i = ρ.γ j := by simp [Ren.comp, hj]
  have eν : (ρ.comp φ).ν i = ρ.ν j := by simp [Ren.comp, hj]
  have eσ : (ρ.comp φ).σ i = ρ.σ j := by simp [Ren.comp, hj]
  have ef : (ρ.comp φ).fp i = ρ.fp j := by simp [Ren.comp, hj]
  have hrow : ∀ {n : Nat} {f f' : Nat → List V} {l' : List Value}, (∀ j, j < n → mapNl φ (f j) = f' j) → czl ρ (rowL f' n) = some l' → czl (ρ.comp φ) (rowL f n) = some l' := fun hp h => by
    apply czl_map
    rw [← rowL_map]
    rwa [rowL_congr hp]
  have hok : ∀ {n sz : Nat} {f f' : Nat → List V}, (∀ j, j < n → mapNl φ (f j) = f' j) → RowOk n f' sz → RowOk n f sz := fun hp h q hq => by
    have := h q hq
    rw [← hp q hq, mapNl_length] at this
    exact ⟨this.1, oneCells_map this.2⟩
  unfold ObjM at hm
  split at hm
  · obtain ⟨hm, rfl⟩ := hm
    obtain ⟨b, l', h1, h2, h3, h4⟩ := h
    exact ⟨b, l', eβ.trans h1, matchL_cz hm h2, h3, by rw [ef]; exact h4⟩
  · obtain ⟨rfl, rfl, rfl, hp⟩ := hm
    rcases h with ⟨h1, h3, h4⟩ | ⟨b, pre, l', tail, h1, h2, h3, h8, h4, h5, h6, h7⟩
    · refine .inl ⟨?_, h3, by rw [ef]; exact h4⟩
      rcases h1 with ⟨h1, h2⟩ | ⟨b, h1, h2⟩
      · exact .inl ⟨eβ.trans h1, eν.trans h2⟩
      · exact .inr ⟨b, eβ.trans h1, eγ.trans h2⟩
    · exact .inr ⟨b, pre, l', tail, eβ.trans h1, hrow hp h2, h3, by rw [eδ]; exact h8, by rw [eγ]; exact h4, hok hp h5, h6, by rw [ef]; exact h7⟩
  · obtain ⟨rfl, rfl, rfl, rfl, hp⟩ := hm
    rcases h with ⟨h3, h4⟩ | ⟨b, pre, l', tail, h1, h2, h3, h4, h8, h5, h6, h7⟩
    · exact .inl ⟨h3, by rw [ef]; exact h4⟩
    · exact .inr ⟨b, pre, l', tail, eβ.trans h1, hrow hp h2, h3, h4, by rw [eδ]; exact h8, hok hp h5, h6, by rw [ef]; exact h7⟩
  · obtain ⟨b, h1, h2, h3⟩ := h
    exact ⟨b, eβ.trans h1, h2, by rw [ef]; exact h3⟩
  · obtain ⟨rfl, rfl, rfl, rfl, rfl, rfl, rfl, hD, hv⟩ := hm
    obtain ⟨b, fn, tm, D', h1, h2, h3, h4, h5⟩ := h
    exact ⟨b, fn, tm, D', eβ.trans h1, ⟨h2.size, fun i v hi => let ⟨v', g1, g2⟩ := h2.get i v hi; ⟨v', cz_map v (by rw [Tr.allV_ok hv i v hi]; exact g1), g2⟩⟩, by simp [Ren.comp, hD, h3], h4, by rw [ef]; exact h5⟩
  · obtain ⟨rfl, rfl, hv⟩ := hm
    obtain ⟨b, es, c, h1, h2, h3, h4, h5⟩ := h
    exact ⟨b, es, c, eβ.trans h1, h2, czE_map hv h3, h4, by rw [ef]; exact h5⟩
  · obtain ⟨rfl, rfl, hv⟩ := hm
    obtain ⟨b, es, h1, h2, h3, h6, h4, h5⟩ := h
    exact ⟨b, es, _, eβ.trans h1, h2, czE_map hv h3, h4, by rw [ef]; exact h5⟩
  · obtain ⟨rfl, rfl, rfl, hv⟩ := hm
    obtain ⟨b, es, h1, h2, h3, h6, h4, h5⟩ := h
    exact ⟨b, es, eβ.trans h1, h2, czE_map (fun p hp => by obtain ⟨q, hq, rfl⟩ := List.mem_map.1 hp; exact hv q hq) h3, h6, h4, by rw [ef]; exact h5⟩
  · obtain ⟨hφ, rfl, rfl, rfl⟩ := hm
    obtain ⟨b, r, h1, h2, h3, h5⟩ := h
    exact ⟨b, r, eβ.trans h1, by simp [Ren.comp, hφ, h2], h3, by rw [ef]; exact h5⟩
  · obtain ⟨rfl, hp⟩ := hm
    intro b l hb
    obtain ⟨g0, l', g1, g2⟩ := h b _ (hp b l hb)
    exact ⟨by rw [ef]; exact g0, l', czl_map l g1, g2⟩
  · obtain ⟨rfl, rfl, hp⟩ := hm
    intro b N C f hb
    obtain ⟨f', hb', hf⟩ := hp b N C f hb
    obtain ⟨g0, h0, l', tail, g1, g2, g3, g4⟩ := h b _ _ _ hb'
    exact ⟨by rw [ef]; exact g0, h0, l', tail, hrow hf g1, g2, g3, hok hf g4⟩
  · obtain ⟨rfl, rfl⟩ := hm
    obtain ⟨v, h1, h2, h3⟩ := h
    exact ⟨v, eσ.trans h1, h2, by rw [ef]; exact h3⟩
  · exact hm.elim

def phi (pr n : Nat) (L : List (Option Nat)) (i : Nat) : Option Nat := bif Nat.blt i pr then some i else match L[i - pr]? with
  | some x => x
  | none => some (n + i)
def okL : List (Option Nat) → Bool
  | [] => true
  | none :: l => okL l
  | some j :: l => l.all (fun x => match x with | some k => !Nat.beq j k | none => true) && okL l
theorem okL_inj : ∀ {L : List (Option Nat)} {i i' j : Nat}, okL L = true → L[i]? = some (some j) → L[i']? = some (some j) → i = i'
  | none :: l, i, i', j, h, hi, hi' => by
    cases i with
    | zero => simp at hi
    | succ i => cases i' with
      | zero => simp at hi'
      | succ i' => exact congrArg (· + 1) (okL_inj (L := l) (i := i) (i' := i') (j := j) h (by simpa using hi) (by simpa using hi'))
  | some j' :: l, i, i', j, h, hi, hi' => by
    simp only [okL, Bool.and_eq_true] at h
    have hne : ∀ k, l[k]? = some (some j) → j' = j → False := fun k hk e => by
      have := List.all_eq_true.1 h.1 _ (List.mem_of_getElem? hk)
      simp [e] at this
    cases i with
    | zero => cases i' with
      | zero => rfl
      | succ i' => exact (hne i' (by simpa using hi') (by simpa using hi)).elim
    | succ i => cases i' with
      | zero => exact (hne i (by simpa using hi) (by simpa using hi')).elim
      | succ i' => exact congrArg (· + 1) (okL_inj (L := l) (i := i) (i' := i') (j := j) h.2 (by simpa using hi) (by simpa using hi'))
  | [], i, _, j, _, hi, _ => by simp at hi

def locS (l : List SObj) : St := ⟨l.length, Tr.ofL 0 l .leaf⟩
def Tr.ofLO {α : Type} : Nat → List (Option α) → Tr α → Tr α
  | _, [], t => t
  | i, x :: l, t => Tr.ofLO (i + 1) l (Tr.set 60 t i x)
def locSO (l : List (Option SObj)) : St := ⟨l.length, Tr.ofLO 0 l .leaf⟩
theorem Tr.set_get {α : Type} : ∀ (f : Nat) (t : Tr α) (n : Nat) (x : Option α), n < f → ∀ m, (t.set f n x).get m = if m = n then x else t.get m := by
  intro f
  induction f with
  | zero => intro t n x h; omega
  | succ f ih =>
    intro t n x hf m
    have key : ∀ (u : Option α) (l r : Tr α), (if m = n then x else (Tr.node u l r).get m) = (match n with | 0 => Tr.node x l r | k + 1 => bif Nat.beq (k % 2) 0 then .node u (l.set f (k / 2) x) r else .node u l (r.set f (k / 2) x)).get m := fun u l r => by
      cases n with
      | zero => cases m <;> simp [Tr.get]
      | succ k =>
        have hk : k / 2 < f := by omega
        cases m with
        | zero => cases hb : Nat.beq (k % 2) 0 <;> simp [Tr.get, hb]
        | succ m =>
          cases hb : Nat.beq (k % 2) 0 with
          | true =>
            have hb' : k % 2 = 0 := by simpa using hb
            simp only [hb, Tr.get, cond_true]
            cases hm : Nat.beq (m % 2) 0 with
            | true =>
              have hm' : m % 2 = 0 := by simpa using hm
              simp only [cond_true, ih l (k / 2) x hk]
              by_cases e : m / 2 = k / 2
              · rw [if_pos e, if_pos (by omega)]
              · rw [if_neg e, if_neg (by omega)]
            | false =>
              have hm' : m % 2 ≠ 0 := fun e => by rw [e] at hm; cases hm
              simp only [cond_false]
              rw [if_neg (by omega)]
          | false =>
            have hb' : k % 2 ≠ 0 := fun e => by rw [e] at hb; cases hb
            simp only [hb, Tr.get, cond_false]
            cases hm : Nat.beq (m % 2) 0 with
            | false =>
              have hm' : m % 2 ≠ 0 := fun e => by rw [e] at hm; cases hm
              simp only [cond_false, ih r (k / 2) x hk]
              by_cases e : m / 2 = k / 2
              · rw [if_pos e, if_pos (by omega)]
              · rw [if_neg e, if_neg (by omega)]
            | true =>
              have hm' : m % 2 = 0 := by simpa using hm
              simp only [cond_true]
              rw [if_neg (by omega)]
    cases t with
    | leaf =>
      have := key none .leaf .leaf
      have e : (Tr.node none .leaf .leaf : Tr α).get m = (Tr.leaf : Tr α).get m := by
        cases m with
        | zero => rfl
        | succ m => simp only [Tr.get]; cases Nat.beq (m % 2) 0 <;> rfl
      rw [e] at this
      rw [this]
      simp only [Tr.set]
      cases n <;> rfl
    | node u l r =>
      rw [key]
      simp only [Tr.set]
      cases n <;> rfl
theorem Tr.ofL_get {α : Type} : ∀ (l : List α) (i : Nat) (t : Tr α), i + l.length ≤ 60 → ∀ m, (Tr.ofL i l t).get m = if i ≤ m ∧ m < i + l.length then l[m - i]? else t.get m
  | [], i, t, _, m => by simp only [Tr.ofL, List.length_nil]; rw [if_neg (by omega)]
  | x :: l, i, t, h, m => by
    simp only [List.length_cons] at h
    rw [Tr.ofL, Tr.ofL_get l (i + 1) _ (by omega), Tr.set_get _ _ _ _ (by omega)]
    simp only [List.length_cons]
    by_cases e : m = i
    · subst e
      rw [if_neg (by omega), if_pos rfl, if_pos (by omega)]
      simp
    · by_cases e2 : i + 1 ≤ m ∧ m < i + 1 + l.length
      · rw [if_pos e2, if_pos (by omega), show m - i = (m - (i + 1)) + 1 by omega]
        simp
      · rw [if_neg e2, if_neg e, if_neg (by omega)]
theorem Tr.ofLO_get {α : Type} : ∀ (l : List (Option α)) (i : Nat) (t : Tr α), i + l.length ≤ 60 → ∀ m, (Tr.ofLO i l t).get m = if i ≤ m ∧ m < i + l.length then (l[m - i]?).bind id else t.get m
  | [], i, t, _, m => by simp only [Tr.ofLO, List.length_nil]; rw [if_neg (by omega)]
  | x :: l, i, t, h, m => by
    simp only [List.length_cons] at h
    rw [Tr.ofLO, Tr.ofLO_get l (i + 1) _ (by omega), Tr.set_get _ _ _ _ (by omega)]
    simp only [List.length_cons]
    by_cases e : m = i
    · subst e
      rw [if_neg (by omega), if_pos rfl, if_pos (by omega)]
      simp
    · by_cases e2 : i + 1 ≤ m ∧ m < i + 1 + l.length
      · rw [if_pos e2, if_pos (by omega), show m - i = (m - (i + 1)) + 1 by omega]
        simp
      · rw [if_neg e2, if_neg e, if_neg (by omega)]
/-- The state s1 says no more than s does, under names L from pr on. -/
def CastS (pr : Nat) (L : List (Option Nat)) (s s1 : St) : Prop :=
  Nat.beq s1.n (pr + L.length) = true ∧ Nat.ble pr s.n = true ∧ (okL L = true ∧ ∀ (i j : Nat), L[i]? = some (some j) → pr ≤ j ∨ s1.H.get j = none) ∧ L.all (fun x => match x with | some j => Nat.blt j s.n | none => true) = true ∧
    ∀ i o1, s1.H.get i = some o1 → Nat.blt i s1.n = true ∧ match phi pr s.n L i with
      | some j => withO (s.H.get j) fun o => ObjM (phi pr s.n L) o1 o
      | none => NilM o1
theorem blt_lt {a b : Nat} (h : Nat.blt a b = true) : a < b := Nat.le_of_ble_eq_true h
theorem Step.cast {s0 : St} {ρ0 : Ren} {w0 : World} {L : List (Option Nat)} (h : Step md pr s0 ρ0 w0 s ρ w) (hc : CastS pr L s s1) : Step md pr s0 ρ0 w0 s1 (ρ.comp (phi pr s.n L)) w := by
  obtain ⟨c1, c2, ⟨c3, c6⟩, c4, c5⟩ := hc
  have c1 : s1.n = pr + L.length := by simpa using c1
  have c2 := Nat.le_of_ble_eq_true c2
  have hlt : ∀ i, i < pr → phi pr s.n L i = some i := fun i hi => by
    have : Nat.blt i pr = true := Nat.ble_eq_true_of_le hi
    simp [phi, this]
  have hge : ∀ i, ¬ i < pr → phi pr s.n L i = match L[i - pr]? with | some x => x | none => some (s.n + i) := fun i hi => by
    cases hb : Nat.blt i pr with
    | true => exact absurd (blt_lt hb) hi
    | false => simp [phi, hb]
  have hobj : ∀ i o1, s1.H.get i = some o1 → i < s1.n ∧ ((∃ j o, phi pr s.n L i = some j ∧ s.H.get j = some o ∧ ObjM (phi pr s.n L) o1 o) ∨ (phi pr s.n L i = none ∧ NilM o1)) := fun i o1 hi => by
    obtain ⟨g1, g2⟩ := c5 i o1 hi
    refine ⟨blt_lt g1, ?_⟩
    split at g2
    · rename_i j hj
      replace g2 := withO_ok g2; obtain ⟨o, g3, g4⟩ := g2
      exact .inl ⟨j, o, hj, g3, g4⟩
    · rename_i hj
      exact .inr ⟨hj, g2⟩
  have hfp : ∀ i o1 k, s1.H.get i = some o1 → (ρ.comp (phi pr s.n L)).fp i k → ∃ j o, phi pr s.n L i = some j ∧ s.H.get j = some o ∧ ρ.fp j k := fun i o1 k hi hk => by
    rcases (hobj i o1 hi).2 with ⟨j, o, g1, g2, _⟩ | ⟨g1, _⟩
    · exact ⟨j, o, g1, g2, by simpa [Ren.comp, g1] using hk⟩
    · simp [Ren.comp, g1] at hk
  refine ⟨fun i hi => ?_, ⟨fun i o1 hi => ?_, fun i i' oi oj k hi hi' hk hk' => ?_, fun i o1 k hi hk => ?_, fun i hi => ?_, fun i o1 hi => (hobj i o1 hi).1, fun i v hv => ?_, fun i b hb => ?_⟩, h.keep, fun i o1 k hi hk => ?_, h.size, h.os, h.tape, h.output, by omega, h.drawn⟩
  · have e := hlt i hi
    refine Agree.trans (h.agree i hi) ⟨?_, ?_, ?_, ?_, ?_⟩ <;> simp [Ren.comp, e]
  · rcases (hobj i o1 hi).2 with ⟨j, o, g1, g2, g3⟩ | ⟨g1, g2⟩
    · exact OR.map g1 g3 (h.rel.obj j o g2)
    · cases o1 with
      | row n f e sz => exact .inl ⟨.inl ⟨by simp [Ren.comp, g1], by simp [Ren.comp, g1]⟩, g2, by simp [Ren.comp, g1]⟩
      | memc T M => exact fun b l hb => by have := g2 b; rw [hb] at this; cases this
      | memr e sz M => exact fun b N C f hb => by have := g2 b; rw [hb] at this; cases this
      | _ => exact g2.elim
  · obtain ⟨j, o, g1, g2, g3⟩ := hfp i oi k hi hk
    obtain ⟨j', o', g1', g2', g3'⟩ := hfp i' oj k hi' hk'
    have ej := h.rel.dis j j' o o' k g2 g2' g3 g3'
    subst ej
    have hjn := h.rel.live j o g2
    by_cases a : i < pr <;> by_cases a' : i' < pr
    · rw [hlt i a] at g1; rw [hlt i' a'] at g1'
      cases g1; cases g1'; rfl
    · rw [hlt i a] at g1; rw [hge i' a'] at g1'
      cases g1
      split at g1'
      · rename_i x hx
        subst g1'
        rcases c6 _ _ hx with q | q
        · omega
        · rw [q] at hi; cases hi
      · have := Option.some.inj g1'; omega
    · rw [hge i a] at g1; rw [hlt i' a'] at g1'
      cases g1'
      split at g1
      · rename_i x hx
        subst g1
        rcases c6 _ _ hx with q | q
        · omega
        · rw [q] at hi'; cases hi'
      · have := Option.some.inj g1; omega
    · rw [hge i a] at g1; rw [hge i' a'] at g1'
      split at g1
      · rename_i x hx
        subst g1
        split at g1'
        · rename_i x' hx'
          subst g1'
          have := okL_inj c3 hx hx'
          omega
        · have := Option.some.inj g1'; omega
      · have := Option.some.inj g1; omega
  · obtain ⟨j, o, g1, g2, g3⟩ := hfp i o1 k hi hk
    exact h.rel.flt j o k g2 g3
  · have hL : L[i - pr]? = none := by rw [List.getElem?_eq_none]; omega
    have e : phi pr s.n L i = some (s.n + i) := by rw [hge i (by omega), hL]
    have u := h.rel.fresh (s.n + i) (by omega)
    exact ⟨by simp [Ren.comp, e, u.1], by simp [Ren.comp, e, u.2.1], by simp [Ren.comp, e, u.2.2]⟩
  · cases hp : phi pr s.n L i with
    | none => simp [Ren.comp, hp] at hv
    | some j => exact h.rel.sig j v (by simpa [Ren.comp, hp] using hv)
  · cases hp : phi pr s.n L i with
    | none => simp [Ren.comp, hp] at hb
    | some j => exact h.rel.blt j b (by simpa [Ren.comp, hp] using hb)
  · obtain ⟨j, o, g1, g2, g3⟩ := hfp i o1 k hi hk
    exact h.new j o k g2 g3

/-- The temporaries t1 say no more than t do. -/
def CastT (φ : Nat → Option Nat) (t t1 : Tr V) : Prop := ∀ i v1, t1.get i = some v1 → withO (t.get i) fun v => matchV φ v1 v
theorem RelT.cast {sz : Nat} {t t1 : Tr V} {a : Array Value} (h : RelT ρ sz t a) (hc : CastT φ t t1) : RelT (ρ.comp φ) sz t1 a := by
  refine ⟨h.size, fun i v1 hv => ?_⟩
  have g := hc i v1 hv
  replace g := withO_ok g; obtain ⟨v, g1, g2⟩ := g
  obtain ⟨v', g3, g4⟩ := h.get i v g1
  exact ⟨v', matchV_cz g2 g3, g4⟩
/-! As lists -/
def tOf (l : List (Nat × V)) : Tr V := l.foldr (fun p t => Tr.set 100000 t p.1 (some p.2)) .leaf
theorem tOf_get : ∀ {l : List (Nat × V)} {i : Nat} {v : V}, l.all (fun p => Nat.blt p.1 100000) = true → (tOf l).get i = some v → (i, v) ∈ l
  | [], i, v, _, h => by simp [tOf, Tr.get] at h
  | p :: l, i, v, ha, h => by
    simp only [List.all_cons, Bool.and_eq_true] at ha
    have e : tOf (p :: l) = Tr.set 100000 (tOf l) p.1 (some p.2) := rfl
    rw [e, Tr.set_get _ _ _ _ (blt_lt ha.1)] at h
    by_cases hp : i = p.1
    · rw [if_pos hp] at h
      cases h
      subst hp
      exact List.mem_cons_self ..
    · rw [if_neg hp] at h
      exact List.mem_cons_of_mem _ (tOf_get ha.2 h)
def castB (pr n : Nat) (L : List (Option Nat)) (T : List (Nat × V)) (S : List (Option SObj)) : Bool :=
  Nat.beq S.length (pr + L.length) && Nat.ble pr n && (okL L && L.all (fun x => match x with | some j => Nat.ble pr j || (match S[j]? with | some (some _) => false | _ => true) | none => true)) && L.all (fun x => match x with | some j => Nat.blt j n | none => true) && Nat.ble S.length 60 && T.all (fun p => Nat.blt p.1 100000)
def objsC (φ : Nat → Option Nat) (s : St) (i : Nat) (l : List (Option SObj)) : Prop :=
  List.rec (motive := fun _ => Nat → Prop) (fun _ => True) (fun o1 _ ih i => match o1 with
    | none => ih (i + 1)
    | some o1 => (match φ i with
      | some j => withO (s.H.get j) fun o => ObjM φ o1 o
      | none => NilM o1) ∧ ih (i + 1)) l i
def tmpsC (φ : Nat → Option Nat) (t : Tr V) (l : List (Nat × V)) : Prop := List.rec (motive := fun _ => Prop) True (fun p _ ih => (withO (t.get p.1) fun u => matchV φ p.2 u) ∧ ih) l
/-- State and temporaries, as lists, say no more than they do, under names L from pr on. -/
def castL (pr : Nat) (L : List (Option Nat)) (t : Tr V) (s : St) (T : List (Nat × V)) (S : List (Option SObj)) : Prop := match s with
  | ⟨n, H⟩ => castB pr n L T S = true ∧ objsC (phi pr n L) ⟨n, H⟩ 0 S ∧ tmpsC (phi pr n L) t T
theorem objsC_ok : ∀ {l : List (Option SObj)} {i0 : Nat}, objsC φ s i0 l → ∀ (k : Nat) o1, (l[k]?).bind id = some o1 → match φ (i0 + k) with
    | some j => withO (s.H.get j) fun o => ObjM φ o1 o
    | none => NilM o1
  | [], _, _, k, o1, h => by simp at h
  | none :: l, i0, h, k, o1, hk => by
    cases k with
    | zero => simp at hk
    | succ k =>
      have := objsC_ok (l := l) h k o1 (by simpa using hk)
      rw [show i0 + (k + 1) = i0 + 1 + k by omega]
      exact this
  | some o :: l, i0, h, k, o1, hk => by
    cases k with
    | zero =>
      simp only [List.getElem?_cons_zero, Option.bind_some, id, Option.some.injEq] at hk
      subst hk
      exact h.1
    | succ k =>
      have := objsC_ok (l := l) h.2 k o1 (by simpa using hk)
      rw [show i0 + (k + 1) = i0 + 1 + k by omega]
      exact this
theorem tmpsC_ok {t : Tr V} : ∀ {l : List (Nat × V)}, tmpsC φ t l → ∀ p ∈ l, withO (t.get p.1) fun u => matchV φ p.2 u
  | [], _, p, hp => by cases hp
  | q :: l, h, p, hp => by
    rcases List.mem_cons.1 hp with rfl | hp
    · exact h.1
    · exact tmpsC_ok h.2 p hp
theorem castL_ok {L : List (Option Nat)} {t : Tr V} {T : List (Nat × V)} {S : List (Option SObj)} (h : castL pr L t s T S) : CastS pr L s (locSO S) ∧ CastT (phi pr s.n L) t (tOf T) := by
  obtain ⟨h1, h2, h3⟩ := h
  simp only [castB, Bool.and_eq_true] at h1
  obtain ⟨⟨⟨⟨⟨a1, a2⟩, a3⟩, a4⟩, a5⟩, a6⟩ := h1
  have a5 := Nat.le_of_ble_eq_true a5
  have e : ∀ i, (locSO S).H.get i = (if 0 ≤ i ∧ i < 0 + S.length then (S[i - 0]?).bind id else (Tr.leaf : Tr SObj).get i) := fun i => Tr.ofLO_get S 0 .leaf (by omega) i
  refine ⟨⟨a1, a2, ⟨a3.1, fun i j hij => ?_⟩, a4, fun i o1 hi => ?_⟩, fun i v1 hi => tmpsC_ok h3 (i, v1) (tOf_get a6 hi)⟩
  · have := List.all_eq_true.1 a3.2 _ (List.mem_of_getElem? hij)
    simp only [Bool.or_eq_true] at this
    rcases this with g | g
    · exact .inl (Nat.le_of_ble_eq_true g)
    · right
      rw [e]
      split
      · rw [Nat.sub_zero]
        split at g
        · cases g
        · rename_i hne
          cases hq : S[j]? with
          | none => rfl
          | some x => cases x with
            | none => rfl
            | some o => exact absurd hq (hne o)
      · rfl
  rw [e] at hi
  by_cases hlt : i < S.length
  · rw [if_pos (by omega), Nat.sub_zero] at hi
    have := objsC_ok h2 i o1 hi
    rw [Nat.zero_add] at this
    exact ⟨Nat.ble_eq_true_of_le hlt, this⟩
  · rw [if_neg (by omega)] at hi
    simp [Tr.get] at hi
end
end Sy
end Go.Proofs.Ytmgcpfljhcahoaa
