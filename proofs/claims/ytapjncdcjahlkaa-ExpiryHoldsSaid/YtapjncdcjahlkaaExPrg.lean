/- What the functions of package expiry compute: the inner ones. -/
import Derived.Test.YtapjncdcjahlkaaExSort
import Derived.Test.YtapjncdcjahlkaaExMath2
namespace Go.Proofs.Ytapjncdcjahlkaa
open Go Go.RowKit Sy Ex Al
set_option maxRecDepth 100000

def hpC (r m n : Nat) : SObj := .cells [.sl r 0 2 n false, .mp m] 55
def mpE (E : KM) : SObj := .map (.i .i64) (entI E)
theorem hpC_ren (θ : Nat → Nat) (r m n : Nat) : (hpC r m n).ren θ = hpC (θ r) (θ m) n := rfl
theorem tmR_ren (θ : Nat → Nat) (n : Nat) (D : Nat → Cell) : (tmR n D).ren θ = tmR n D := rfl
theorem mpE_ren (θ : Nat → Nat) (E : KM) : (mpE E).ren θ = mpE E := by
  simp only [mpE, SObj.ren, entI, ents, List.map_map]
  rfl
theorem i64_ren (θ : Nat → Nat) (n : Int) : (i64 n).ren θ = i64 n := rfl
theorem u64_ren (θ : Nat → Nat) (n : Int) : (u64 n).ren θ = u64 n := rfl
theorem tmV_ren (θ : Nat → Nat) (c : Cell) : (tmV c).ren θ = tmV c := rfl
def fnBefore (h : Nat) : V := .fn (.func 45) [.ptr h 0] []
def fnSwap (h : Nat) : V := .fn (.func 42) [.ptr h 0] []
def fnUp : V := .fn (.func 46) [] []
def fnDown : V := .fn (.func 48) [] []
theorem fnBefore_ren (θ : Nat → Nat) (h : Nat) : (fnBefore h).ren θ = fnBefore (θ h) := rfl
theorem fnSwap_ren (θ : Nat → Nat) (h : Nat) : (fnSwap h).ren θ = fnSwap (θ h) := rfl
theorem fnUp_ren (θ : Nat → Nat) : fnUp.ren θ = fnUp := rfl
theorem fnDown_ren (θ : Nat → Nat) : fnDown.ren θ = fnDown := rfl
theorem ren_all : type_of% (And.intro @map_all (And.intro @ptr_ren (And.intro @sb_ren (And.intro @int_ren (And.intro @tup_ren (And.intro @con_ren (And.intro @nil_ren (And.intro @hpC_ren (And.intro @tmR_ren (And.intro @mpE_ren (And.intro @i64_ren (And.intro @u64_ren (And.intro @tmV_ren (And.intro @fnBefore_ren (And.intro @fnSwap_ren (And.intro @fnUp_ren (@fnDown_ren))))))))))))))))) := And.intro @map_all (And.intro @ptr_ren (And.intro @sb_ren (And.intro @int_ren (And.intro @tup_ren (And.intro @con_ren (And.intro @nil_ren (And.intro @hpC_ren (And.intro @tmR_ren (And.intro @mpE_ren (And.intro @i64_ren (And.intro @u64_ren (And.intro @tmV_ren (And.intro @fnBefore_ren (And.intro @fnSwap_ren (And.intro @fnUp_ren (@fnDown_ren))))))))))))))))
theorem entI_keep (φ : Nat → Option Nat) (E : KM) : ∀ p ∈ entI E, V.mapN φ p.2 = p.2 := Al.keep (fun _ _ => rfl) φ E
theorem getB_ex {κ : Key} : ∀ {E : List (Key × V × Nat)} {v : V} {b : Nat}, getB κ E = some (v, b) → ∃ p ∈ E, ((p.2.2 : Nat) : Int) = (b : Int)
  | [], _, _, h => by cases h
  | p :: E, v, b, h => by
    unfold getB at h
    split at h
    · have := Option.some.inj h
      exact ⟨p, List.mem_cons_self .., by rw [this]⟩
    · obtain ⟨q, h1, h2⟩ := getB_ex h
      exact ⟨q, List.mem_cons_of_mem _ h1, h2⟩
def updT (L : Nat → Cell) (i : Nat) (c : Cell) : Nat → Cell := fun j => if j = i then c else L j
theorem updT_view (L : Nat → Cell) (s : Nat) (c : Cell) (q : Nat) : tmL (updT L s c q) = bif Nat.beq q s then putD 0 (tmL (L q)) (tmL c) else tmL (L q) := by
  unfold updT
  by_cases e : q = s
  · subst e
    rw [if_pos rfl, show Nat.beq q q = true from Nat.beq_refl q]
    rfl
  · rw [if_neg e]
    cases hb : Nat.beq q s with
    | true => exact absurd (Nat.eq_of_beq_eq_true hb) e
    | false => rfl
theorem updT_swp (L : Nat → Cell) (i k : Nat) : updT (updT L i (L k)) k (L i) = swp L i k := by
  funext j
  unfold updT swp
  by_cases h1 : j = k
  · by_cases h2 : j = i
    · rw [if_pos h1, if_pos h2, ← h1, ← h2]
    · rw [if_pos h1, if_neg h2, if_pos h1]
  · by_cases h2 : j = i
    · rw [if_neg h1, if_pos h2, if_pos h2]
    · rw [if_neg h1, if_neg h2, if_neg h2, if_neg h1]
theorem zero_add_toNat (n : Nat) : 0 + ((n : Nat) : Int).toNat = n := by simp

theorem conBf : ConOk Try.prog (conOf [(36, SCmp.T)]) := conOf_cons (LSpec.call SCmp_nt SCmp_ok) conOf_nil
def SBefore : LSpec where
  X := (Nat × Nat × (Nat → Cell) × KM) × Nat × Nat
  k := 3
  pre x := x.2.1 < x.1.1 ∧ x.2.2 < x.1.1 ∧ x.1.1 ≤ x.1.2.1
  args x θ := [.ptr (θ 0) 0, i64 x.2.1, i64 x.2.2]
  objs x θ := [hpC (θ 1) (θ 2) x.1.1, tmR x.1.2.1 x.1.2.2.1, mpE x.1.2.2.2]
  out x θ R := R (.sb (decide (lt (x.1.2.2.1 x.2.1) (x.1.2.2.1 x.2.2)))) [some (hpC (θ 1) (θ 2) x.1.1), some (tmR x.1.2.1 x.1.2.2.1), some (mpE x.1.2.2.2)]
theorem SBefore_nt : SBefore.Nt := ⟨fun _ _ => rfl, by unfold SBefore; (intros; simp only [ren_all] at *; try assumption), by unfold SBefore; (intros; simp only [ren_all] at *; try assumption)⟩
theorem SBefore_ok : SBefore.Ok Try.prog 45 := by
  refine LSpec.of_body noGo mixed conBf Try.func45 rfl (by kernel_rfl) fun ⟨⟨n, N, L, E⟩, i, k⟩ R ⟨hi, hk, hN⟩ hR => ?_
  have hi : i < n := hi
  have hk : k < n := hk
  have hN : n ≤ N := hN
  have ei := zero_add_toNat i
  have ek := zero_add_toNat k
  have hiN : 0 + ((i : Nat) : Int).toNat < N := by rw [ei]; omega
  have hkN : 0 + ((k : Nat) : Int).toNat < N := by rw [ek]; omega
  have b1 : (0 : Int) ≤ (i : Int) ∧ (i : Int) < (n : Int) := ⟨by omega, by omega⟩
  have b2 : (0 : Int) ≤ (k : Int) ∧ (k : Int) < (n : Int) := ⟨by omega, by omega⟩
  (conv => whnf)
  refine ⟨b1.1, b1.2, ?_⟩
  (conv => whnf)
  refine ⟨hiN, ?_⟩
  (conv => whnf)
  refine ⟨b2.1, b2.2, ?_⟩
  (conv => whnf)
  refine ⟨hkN, ?_⟩
  (conv => whnf)
  refine ⟨(L (0 + (i : Int).toNat), L (0 + (k : Int).toNat)), [], trivial, rfl, by (repeat' (first | exact True.intro | rfl | assumption | exact entI_keep _ _ | (refine And.intro ?_ ?_) | (intro _ _; rfl) | ((conv => whnf); (first | exact True.intro | (refine And.intro ?_ ?_))))), by (repeat' (first | exact True.intro | rfl | assumption | exact entI_keep _ _ | (refine And.intro ?_ ?_) | (intro _ _; rfl) | ((conv => whnf); (first | exact True.intro | (refine And.intro ?_ ?_))))), ?_⟩
  (conv => whnf)
  (repeat (first | refine And.intro rfl ?_ | fail))
  (conv => whnf)
  refine ⟨[], _, _, hR, ?_⟩
  (repeat' (first | exact True.intro | rfl | assumption | exact entI_keep _ _ | (refine And.intro ?_ ?_) | (intro _ _; rfl) | ((conv => whnf); (first | exact True.intro | (refine And.intro ?_ ?_)))))
  show decide (lt (L i) (L k)) = decide (cmpC (L (0 + (i : Int).toNat)) (L (0 + (k : Int).toNat)) < 0)
  rw [ei, ek, decide_eq_decide]
  exact cmpC_lt.symm

def SSwap : LSpec where
  X := (Nat × Nat × (Nat → Cell) × KM) × Nat × Nat
  k := 3
  pre x := x.2.1 < x.1.1 ∧ x.2.2 < x.1.1 ∧ x.1.1 ≤ x.1.2.1 ∧ MI x.1.1 x.1.2.2.1 x.1.2.2.2
  args x θ := [.ptr (θ 0) 0, i64 x.2.1, i64 x.2.2]
  objs x θ := [hpC (θ 1) (θ 2) x.1.1, tmR x.1.2.1 x.1.2.2.1, mpE x.1.2.2.2]
  out x θ R := ∀ E', MI x.1.1 (swp x.1.2.2.1 x.2.1 x.2.2) E' → R (.tup []) [some (hpC (θ 1) (θ 2) x.1.1), some (tmR x.1.2.1 (swp x.1.2.2.1 x.2.1 x.2.2)), some (mpE E')]
theorem SSwap_nt : SSwap.Nt := ⟨fun _ _ => rfl, by unfold SSwap; (intros; simp only [ren_all] at *; try assumption), by unfold SSwap; (intros; simp only [ren_all] at *; try assumption)⟩
theorem SSwap_ok : SSwap.Ok Try.prog 42 := by
  refine LSpec.of_body noGo mixed conOf_nil Try.func42 rfl (by kernel_rfl) fun ⟨⟨n, N, L, E⟩, i, k⟩ R ⟨hi, hk, hN, hm⟩ hR => ?_
  have hi : i < n := hi
  have hk : k < n := hk
  have hN : n ≤ N := hN
  have hm : MI n L E := hm
  have ei := zero_add_toNat i
  have ek := zero_add_toNat k
  have hiN : 0 + ((i : Nat) : Int).toNat < N := by rw [ei]; omega
  have hkN : 0 + ((k : Nat) : Int).toNat < N := by rw [ek]; omega
  have b1 : (0 : Int) ≤ (i : Int) ∧ (i : Int) < (n : Int) := ⟨by omega, by omega⟩
  have b2 : (0 : Int) ≤ (k : Int) ∧ (k : Int) < (n : Int) := ⟨by omega, by omega⟩
  have hms := hm.swap hi hk
  have hR2 := hR _ hms
  (conv => whnf)
  refine ⟨b2.1, b2.2, ?_⟩
  (conv => whnf)
  refine ⟨hkN, ?_⟩
  (conv => whnf)
  refine ⟨b1.1, b1.2, ?_⟩
  (conv => whnf)
  refine ⟨hiN, ?_⟩
  (conv => whnf)
  refine ⟨b1.1, b1.2, ?_⟩
  (conv => whnf)
  refine ⟨some (fun q => tmL (updT L i (L k) q)), ?_⟩
  (conv => whnf)
  refine ⟨hiN, ?_⟩
  (conv => whnf)
  refine ⟨fun q _ => ?_, ?_⟩
  · show tmL (updT L i (L k) q) = bif Nat.beq q (0 + (i : Int).toNat) then putD 0 (tmL (L q)) (tmL (L (0 + (k : Int).toNat))) else tmL (L q)
    rw [ei, ek]
    exact updT_view _ _ _ _
  (conv => whnf)
  (repeat (first | refine And.intro rfl ?_ | fail))
  (conv => whnf)
  refine ⟨b2.1, b2.2, ?_⟩
  (conv => whnf)
  refine ⟨some (fun q => tmL (swp L i k q)), ?_⟩
  (conv => whnf)
  refine ⟨hkN, ?_⟩
  (conv => whnf)
  refine ⟨fun q _ => ?_, ?_⟩
  · show tmL (swp L i k q) = bif Nat.beq q (0 + (k : Int).toNat) then putD 0 (tmL (updT L i (L k) q)) (tmL (L (0 + (i : Int).toNat))) else tmL (updT L i (L k) q)
    rw [ei, ek, ← updT_swp]
    exact updT_view _ _ _ _
  (conv => whnf)
  (repeat (first | refine And.intro rfl ?_ | fail))
  (conv => whnf)
  refine ⟨b1.1, b1.2, ?_⟩
  (conv => whnf)
  refine ⟨hiN, ?_⟩
  (conv => whnf)
  refine ⟨b2.1, b2.2, ?_⟩
  (conv => whnf)
  refine ⟨hkN, ?_⟩
  (conv => whnf)
  intro B c h1 h2 h3
  have h1 : B.length = E.length := h1.trans (List.length_map ..)
  have hlk : ∀ j, j < n → lk E (swp L i k j).1 ≠ none := fun j hj => by
    obtain ⟨j', g1, g2⟩ := (swp_same (L := L) hi hk (swp L i k j)).1 ⟨j, hj, rfl⟩
    rw [← g2, hm.here g1]
    simp
  (conv => whnf)
  refine ⟨fun v b hg => ?_, fun hg => ?_⟩
  · have hg : getB (.i (swp L i k (0 + (i : Int).toNat)).1) (zipB (entI E) B) = some (v, b) := hg
    rw [ei] at hg
    have hs1 := storeB_st (x := (i : Int)) h1 h2 hg
    (conv => whnf)
    refine ⟨getB_ex hg, zipB (entI (Al.st (swp L i k i).1 (i : Int) E)) B, by rw [← hs1]; exact (storeB_map _ _ _ _).symm, ?_⟩
    have h1' : B.length = (Al.st (swp L i k i).1 (i : Int) E).length := by rw [st_len (hlk i hi)]; exact h1
    (conv => whnf)
    refine ⟨fun v2 b2 hg2 => ?_, fun hg2 => ?_⟩
    · have hg2 : getB (.i (swp L i k (0 + (k : Int).toNat)).1) (zipB (entI (Al.st (swp L i k i).1 (i : Int) E)) B) = some (v2, b2) := hg2
      rw [ek] at hg2
      have hs2 := storeB_st (x := (k : Int)) h1' h2 hg2
      (conv => whnf)
      refine ⟨getB_ex hg2, zipB (entI (Al.st (swp L i k k).1 (k : Int) (Al.st (swp L i k i).1 (i : Int) E))) B, by rw [← hs2]; exact (storeB_map _ _ _ _).symm, ?_⟩
      have h1'' : B.length = (Al.st (swp L i k k).1 (k : Int) (Al.st (swp L i k i).1 (i : Int) E)).length := by rw [st_len (lk_st_ne (hlk k hk))]; exact h1'
      (conv => whnf)
      refine ⟨[], _, _, hR2, ?_⟩
      (repeat' (first | exact True.intro | rfl | assumption | exact entI_keep _ _ | (refine And.intro ?_ ?_) | (intro _ _; rfl) | ((conv => whnf); (first | exact True.intro | (refine And.intro ?_ ?_)))))
      exact (zipB_fst (h1''.trans (List.length_map ..).symm)).symm
    · obtain ⟨v2, b2, g⟩ := getB_some h1' (lk_st_ne (hlk k hk))
      have hg2 : getB (.i (swp L i k (0 + (k : Int).toNat)).1) (zipB (entI (Al.st (swp L i k i).1 (i : Int) E)) B) = none := hg2
      rw [ek, g] at hg2
      cases hg2
  · obtain ⟨v, b, g⟩ := getB_some h1 (hlk i hi)
    have hg : getB (.i (swp L i k (0 + (i : Int).toNat)).1) (zipB (entI E) B) = none := hg
    rw [ei, g] at hg
    cases hg
end Go.Proofs.Ytapjncdcjahlkaa
