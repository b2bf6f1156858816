/- What the functions of package table compute: the first ones. -/
import Derived.Test.YtfkolddpfpjeeaaTbHash
import Derived.Test.YtfkolddpfpjeeaaTbDel
namespace Go.Proofs.Ytfkolddpfpjeeaa
open Go Sy Tb
set_option maxRecDepth 100000

def i64 (n : Int) : V := .int .i64 n
def u64 (n : Int) : V := .int .u64 n
def cellV (c : Cell) : List V := [.str c.1, .int .i64 c.2]
def tbC (r : Nat) (seed : Int) (m : Nat) (n : Int) : SObj := .cells [u64 seed, .sl r 0 2 m false, i64 n] 64
def tbR (m : Nat) (D : Tab) : SObj := .row m (fun j => cellV (D j)) 73 2
theorem tbC_ren (θ : Nat → Nat) (r : Nat) (seed : Int) (m : Nat) (n : Int) : (tbC r seed m n).ren θ = tbC (θ r) seed m n := rfl
theorem tbR_ren (θ : Nat → Nat) (m : Nat) (D : Tab) : (tbR m D).ren θ = tbR m D := rfl
theorem i64_ren (θ : Nat → Nat) (n : Int) : (i64 n).ren θ = i64 n := rfl
theorem u64_ren (θ : Nat → Nat) (n : Int) : (u64 n).ren θ = u64 n := rfl
theorem str_ren (θ : Nat → Nat) (s : ByteArray) : (V.str s).ren θ = .str s := rfl
theorem slr_ren (θ : Nat → Nat) (i lo sz n : Nat) (f : Bool) : (V.sl i lo sz n f).ren θ = .sl (θ i) lo sz n f := rfl
theorem agg_ren (θ : Nat → Nat) (l : List V) : (V.agg l).ren θ = .agg (renl θ l) := rfl
theorem bool_ren (θ : Nat → Nat) (b : Bool) : (V.bool b).ren θ = .bool b := rfl
theorem ren_all : type_of% (And.intro @map_all (And.intro @ptr_ren (And.intro @sb_ren (And.intro @int_ren (And.intro @tup_ren (And.intro @con_ren (And.intro @nil_ren (And.intro @tbC_ren (And.intro @tbR_ren (And.intro @i64_ren (And.intro @u64_ren (And.intro @str_ren (And.intro @slr_ren (And.intro @agg_ren (@bool_ren))))))))))))))) := And.intro @map_all (And.intro @ptr_ren (And.intro @sb_ren (And.intro @int_ren (And.intro @tup_ren (And.intro @con_ren (And.intro @nil_ren (And.intro @tbC_ren (And.intro @tbR_ren (And.intro @i64_ren (And.intro @u64_ren (And.intro @str_ren (And.intro @slr_ren (And.intro @agg_ren (@bool_ren))))))))))))))

theorem cellEq (a : ByteArray) (n : Int) (b : ByteArray) (m : Int) : EqOk Try.prog 73 [.str a, .int .i64 n] [.str b, .int .i64 m] := by
  intro ρ l' m' h1 h2 w
  simp only [czl, cz, Option.some.injEq] at h1 h2
  subst h1 h2
  unfold Op.equal Op.maxDepth Op.equalIn
  simp only [Sem.run_bind, run_underlying Try.underlying73, Result.andThen_ok]
  have hs : Try.prog.stoodInHeld 73 = false := by kernel_rfl
  have e1 : ∀ c, (part 9 #[Value.string a, Value.int .i64 n] 0).run Try.prog c = .ok (.string a) c := fun c => run_part c (.inr ⟨by kernel_rfl, rfl⟩)
  have e2 : ∀ c, (part 9 #[Value.string b, Value.int .i64 m] 0).run Try.prog c = .ok (.string b) c := fun c => run_part c (.inr ⟨by kernel_rfl, rfl⟩)
  have e3 : ∀ c, (part 3 #[Value.string a, Value.int .i64 n] 1).run Try.prog c = .ok (.int .i64 n) c := fun c => run_part c (.inr ⟨by kernel_rfl, rfl⟩)
  have e4 : ∀ c, (part 3 #[Value.string b, Value.int .i64 m] 1).run Try.prog c = .ok (.int .i64 m) c := fun c => run_part c (.inr ⟨by kernel_rfl, rfl⟩)
  simp only [run_program, Result.andThen_ok, hs, Bool.false_eq_true, if_false, ← Array.forIn_toList, List.forIn_cons, List.forIn_nil, Sem.run_bind]
  have eb : (a.toList == b.toList) = decide (a = b) := by
    rw [Bool.eq_iff_iff]
    simp only [beq_iff_eq, decide_eq_true_eq, ByteArray.toList_eq]
    exact ⟨fun h => ByteArray.ext (Array.toList_inj.1 h), fun h => by rw [h]⟩
  have e5 : ∀ c, (Op.equalIn 9999 9 (.string a) (.string b)).run Try.prog c = .ok (decide (a = b)) c := fun c => by rw [← eb]; exact run_equalIn_string c 9998 9 a b Try.underlying9
  have e6 : ∀ c, (Op.equalIn 9999 3 (.int .i64 n) (.int .i64 m)).run Try.prog c = .ok (n == m) c := fun c => by
    have := run_equalIn_int c 9998 3 .i64 .i64 n m Try.underlying3
    simpa using this
  rw [if_pos (by decide), if_pos (by decide)]
  simp only [Sem.run_bind, e1, e2, e5, Result.andThen_ok, eqL, eq1]
  by_cases h1 : a = b
  · by_cases h2 : n = m
    · subst h1 h2
      simp [Sem.run_bind, e3, e6]
    · subst h1
      simp [h2, Sem.run_bind, e3, e4, e6]
  · by_cases h2 : n = m <;> simp [h1]
theorem cellGuard : Try.prog.eqGuardType Try.prog.depth 73 = false := by kernel_rfl

/-- A seed and a size. -/
structure TOk (seed : Int) (m : Nat) : Prop where
  seed : 0 ≤ seed ∧ seed < 18446744073709551616
  size : isSize m = true
  le : 8 ≤ m
  lt : m ≤ 32768
def hm (seed : Int) (m : Nat) (k : ByteArray) : Nat := (sumI seed k.data.toList % m).toNat
theorem TOk.hm {seed : Int} {m : Nat} (t : TOk seed m) (k : ByteArray) : ((hm seed m k : Nat) : Int) = sumI seed k.data.toList % m ∧ Go.Proofs.Ytfkolddpfpjeeaa.hm seed m k < m := by
  have h1 := t.le
  have h2 := Int.emod_nonneg (sumI seed k.data.toList) (b := (m : Int)) (by omega)
  have h3 := Int.emod_lt_of_pos (sumI seed k.data.toList) (b := (m : Int)) (by omega)
  unfold Go.Proofs.Ytfkolddpfpjeeaa.hm
  omega
theorem tmod_ad {m i : Nat} (hi : i < m) (hm : m ≤ 32768) : (IntKind.i64.wrap ((i : Int) + 1)).tmod (m : Int) = ((ad m i 1 : Nat) : Int) := by
  rw [wrap_id (by omega) (by omega), show ((i : Int) + 1) = ((i + 1 : Nat) : Int) by omega, Int.tmod_eq_emod_of_nonneg (by omega), ← Int.natCast_emod, ad_mod hi (by omega)]
def SNext : LSpec where
  X := (Int × Nat × Int × Tab) × Nat
  k := 2
  pre x := TOk x.1.1 x.1.2.1 ∧ x.2 < x.1.2.1
  args x θ := [.ptr (θ 0) 0, i64 x.2]
  objs x θ := [tbC (θ 1) x.1.1 x.1.2.1 x.1.2.2.1, tbR x.1.2.1 x.1.2.2.2]
  out x θ R := R (i64 (ad x.1.2.1 x.2 1 : Nat)) [some (tbC (θ 1) x.1.1 x.1.2.1 x.1.2.2.1), some (tbR x.1.2.1 x.1.2.2.2)]
theorem SNext_nt : SNext.Nt := ⟨fun _ _ => rfl, by unfold SNext; (intros; simp only [ren_all] at *; try assumption), by unfold SNext; (intros; simp only [ren_all] at *; try assumption)⟩
theorem SNext_ok : SNext.Ok Try.prog 44 := by
  refine LSpec.of_body noGo mixed conOf_nil Try.func44 rfl (by kernel_rfl) fun ⟨⟨seed, m, n, D⟩, i⟩ R ⟨ht, hi⟩ hR => ?_
  have hi : i < m := hi
  have ht : TOk seed m := ht
  have h8 := ht.le
  have hlt : m ≤ 32768 := ht.lt
  (conv => whnf)
  refine ⟨by show (m : Int) ≠ 0; omega, ?_⟩
  (conv => whnf)
  refine ⟨[], _, _, hR, ?_⟩
  (repeat' (first | exact True.intro | rfl | assumption | (refine And.intro ?_ ?_) | (intro _ _; rfl) | ((conv => whnf); (first | exact True.intro | (refine And.intro ?_ ?_)))))
  exact (tmod_ad hi hlt).symm

theorem conA : ConOk Try.prog (conOf [(26, sumT), (25, indexT)]) := conOf_cons sumT_ok (conOf_cons indexT_ok conOf_nil)
def SHome : LSpec where
  X := (Int × Nat × Int × Tab) × ByteArray
  k := 2
  pre x := TOk x.1.1 x.1.2.1 ∧ x.2.size ≤ 1000000
  args x θ := [.ptr (θ 0) 0, .str x.2]
  objs x θ := [tbC (θ 1) x.1.1 x.1.2.1 x.1.2.2.1, tbR x.1.2.1 x.1.2.2.2]
  out x θ R := R (i64 (hm x.1.1 x.1.2.1 x.2)) [some (tbC (θ 1) x.1.1 x.1.2.1 x.1.2.2.1), some (tbR x.1.2.1 x.1.2.2.2)]
theorem SHome_nt : SHome.Nt := ⟨fun _ _ => rfl, by unfold SHome; (intros; simp only [ren_all] at *; try assumption), by unfold SHome; (intros; simp only [ren_all] at *; try assumption)⟩
theorem SHome_ok : SHome.Ok Try.prog 45 := by
  refine LSpec.of_body noGo mixed conA Try.func45 rfl (by kernel_rfl) fun ⟨⟨seed, m, n, D⟩, k⟩ R ⟨ht, hk⟩ hR => ?_
  have ht : TOk seed m := ht
  have hk : k.size ≤ 1000000 := hk
  (conv => whnf)
  refine ⟨hk, ht.seed, ?_⟩
  (conv => whnf)
  refine ⟨rfl, sumI_range _ _, ht.size, ?_⟩
  (conv => whnf)
  have e1 := (ht.hm k).1
  refine ⟨[], _, _, hR, ?_⟩
  (repeat' (first | exact True.intro | rfl | assumption | (refine And.intro ?_ ?_) | (intro _ _; rfl) | ((conv => whnf); (first | exact True.intro | (refine And.intro ?_ ?_)))))

theorem conB : ConOk Try.prog (conOf [(44, SNext.T), (45, SHome.T)]) := conOf_cons (LSpec.call SNext_nt SNext_ok) (conOf_cons (LSpec.call SHome_nt SHome_ok) conOf_nil)
/-- From the home of a key to where it is, or to a free cell. -/
structure FindsAt (h : Nat) (m : Nat) (D : Tab) (k : ByteArray) (j : Nat) : Prop where
  lt : j < m
  no : ∀ d, d < j → free (D (ad m h d)) = false ∧ (D (ad m h d)).1 ≠ k
  yes : D (ad m h j) = e0 ∨ (free (D (ad m h j)) = false ∧ (D (ad m h j)).1 = k)
theorem eqL_cell (c : Cell) : eqL (cellV c) [.str ⟨#[]⟩, .int .i64 0] = decide (c = e0) := by
  unfold cellV eqL eqL eqL eq1
  obtain ⟨a, n⟩ := c
  rw [Bool.eq_iff_iff]
  simp only [Bool.and_eq_true, decide_eq_true_eq, and_true]
  unfold e0
  exact ⟨fun h => Prod.ext h.1 h.2, fun h => ⟨congrArg Prod.fst h, congrArg Prod.snd h⟩⟩
theorem zero_add_toNat (n : Nat) : 0 + ((n : Nat) : Int).toNat = n := by simp
def SFind : LSpec where
  X := (Int × Nat × Int × Tab) × ByteArray × Nat
  k := 2
  pre x := TOk x.1.1 x.1.2.1 ∧ x.2.1.size ≤ 1000000 ∧ FindsAt (hm x.1.1 x.1.2.1 x.2.1) x.1.2.1 x.1.2.2.2 x.2.1 x.2.2
  args x θ := [.ptr (θ 0) 0, .str x.2.1]
  objs x θ := [tbC (θ 1) x.1.1 x.1.2.1 x.1.2.2.1, tbR x.1.2.1 x.1.2.2.2]
  out x θ R := R (.tup [i64 (ad x.1.2.1 (hm x.1.1 x.1.2.1 x.2.1) x.2.2 : Nat), .sb (!free (x.1.2.2.2 (ad x.1.2.1 (hm x.1.1 x.1.2.1 x.2.1) x.2.2)))]) [some (tbC (θ 1) x.1.1 x.1.2.1 x.1.2.2.1), some (tbR x.1.2.1 x.1.2.2.2)]
theorem SFind_nt : SFind.Nt := ⟨fun _ _ => rfl, by unfold SFind; (intros; simp only [ren_all] at *; try assumption), by unfold SFind; (intros; simp only [ren_all] at *; try assumption)⟩
theorem SFind_ok : SFind.Ok Try.prog 34 := by
  refine LSpec.of_body noGo mixed conB Try.func34 rfl (by kernel_rfl) fun ⟨⟨seed, m, n, D⟩, k, j⟩ R ⟨ht, hk, hf⟩ hR => ?_
  have ht : TOk seed m := ht
  have hk : k.size ≤ 1000000 := hk
  have hf : FindsAt (hm seed m k) m D k j := hf
  have hlt := (ht.hm k).2
  have h8 := ht.le
  (conv => whnf)
  refine ⟨((seed, m, n, D), k), [0, 1], ⟨ht, hk⟩, rfl, by (repeat' (first | exact True.intro | rfl | assumption | (refine And.intro ?_ ?_) | (intro _ _; rfl) | ((conv => whnf); (first | exact True.intro | (refine And.intro ?_ ?_))))), by (repeat' (first | exact True.intro | rfl | assumption | (refine And.intro ?_ ?_) | (intro _ _; rfl) | ((conv => whnf); (first | exact True.intro | (refine And.intro ?_ ?_))))), ?_⟩
  (conv => whnf)
  refine .inl ⟨Nat, fun d => [(0, .ptr 0 0), (1, .str k), (6, i64 (ad m (hm seed m k) d : Nat))], fun _ => [some (tbC 1 seed m n), some (tbR m D)], fun d => j - d, fun d => d ≤ j, 2, ⟨0, [], Nat.zero_le _, ?_⟩, fun _ => rfl, fun d hd => ?_⟩
  · (repeat' (first | exact True.intro | rfl | assumption | (refine And.intro ?_ ?_) | (intro _ _; rfl) | ((conv => whnf); (first | exact True.intro | (refine And.intro ?_ ?_)))))
    rw [ad_zero hlt]
  have hd : d ≤ j := hd
  have hjm := hf.lt
  have hl := ad_lt hlt (show d ≤ m by omega)
  (conv => whnf)
  have ea := zero_add_toNat (ad m (hm seed m k) d)
  refine ⟨by omega, by omega, ?_⟩
  (conv => whnf)
  refine ⟨by rw [ea]; exact hl, ?_⟩
  (conv => whnf)
  refine ⟨cellGuard, cellEq _ _ _ _, ?_⟩
  (conv => whnf)
  constructor
  · intro h
    have h : (!eqL (cellV (D (0 + ((ad m (hm seed m k) d : Nat) : Int).toNat))) [.str ⟨#[]⟩, .int .i64 0]) = true := h
    rw [eqL_cell, ea] at h
    have h : D (ad m (hm seed m k) d) ≠ e0 := by simpa using h
    (conv => whnf)
    refine ⟨by omega, by omega, ?_⟩
    (conv => whnf)
    refine ⟨by rw [ea]; exact hl, ?_⟩
    (conv => whnf)
    constructor
    · intro h2
      have h2 : (D (0 + ((ad m (hm seed m k) d : Nat) : Int).toNat)).1 = k := of_decide_eq_true h2
      rw [ea] at h2
      have hdj : d = j := by
        rcases Nat.lt_or_ge d j with g | g
        · exact absurd h2 (hf.no d g).2
        · omega
      subst hdj
      (conv => whnf)
      refine ⟨[], _, _, hR, ?_⟩
      (repeat' (first | exact True.intro | rfl | assumption | (refine And.intro ?_ ?_) | (intro _ _; rfl) | ((conv => whnf); (first | exact True.intro | (refine And.intro ?_ ?_)))))
      show (!free (D (ad m (hm seed m k) d))) = true
      rw [(hf.yes.resolve_left h).1]
      rfl
    · intro h2
      have h2 : ¬ (D (0 + ((ad m (hm seed m k) d : Nat) : Int).toNat)).1 = k := of_decide_eq_false h2
      rw [ea] at h2
      have hdj : d < j := by
        rcases Nat.lt_or_ge d j with g | g
        · exact g
        · have : d = j := by omega
          rw [this] at h h2
          exact absurd (hf.yes.resolve_left h).2 h2
      (conv => whnf)
      refine ⟨((seed, m, n, D), ad m (hm seed m k) d), [0, 1], ⟨ht, hl⟩, rfl, by (repeat' (first | exact True.intro | rfl | assumption | (refine And.intro ?_ ?_) | (intro _ _; rfl) | ((conv => whnf); (first | exact True.intro | (refine And.intro ?_ ?_))))), by (repeat' (first | exact True.intro | rfl | assumption | (refine And.intro ?_ ?_) | (intro _ _; rfl) | ((conv => whnf); (first | exact True.intro | (refine And.intro ?_ ?_))))), ?_⟩
      (conv => whnf)
      refine ⟨d + 1, [], by show j - (d + 1) < j - d; omega, by show d + 1 ≤ j; omega, ?_⟩
      (repeat' (first | exact True.intro | rfl | assumption | (refine And.intro ?_ ?_) | (intro _ _; rfl) | ((conv => whnf); (first | exact True.intro | (refine And.intro ?_ ?_)))))
      show ((ad m (hm seed m k) (d + 1) : Nat) : Int) = ((ad m (ad m (hm seed m k) d) 1 : Nat) : Int)
      rw [ad_next (by omega) hlt (by omega)]
  · intro h
    have h : (!eqL (cellV (D (0 + ((ad m (hm seed m k) d : Nat) : Int).toNat))) [.str ⟨#[]⟩, .int .i64 0]) = false := h
    rw [eqL_cell, ea] at h
    have h : D (ad m (hm seed m k) d) = e0 := by simpa using h
    have hdj : d = j := by
      rcases Nat.lt_or_ge d j with g | g
      · have := (hf.no d g).1
        rw [h, free_e0] at this; cases this
      · omega
    subst hdj
    (conv => whnf)
    refine ⟨[], _, _, hR, ?_⟩
    (repeat' (first | exact True.intro | rfl | assumption | (refine And.intro ?_ ?_) | (intro _ _; rfl) | ((conv => whnf); (first | exact True.intro | (refine And.intro ?_ ?_)))))
    show (!free (D (ad m (hm seed m k) d))) = false
    rw [h]
    rfl
end Go.Proofs.Ytfkolddpfpjeeaa
