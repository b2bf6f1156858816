/- One call of the law. -/
import Derived.Test.YtfkolddpfpjeeaaTbLaw
namespace Go.Proofs.Ytfkolddpfpjeeaa
open Go Sy Tb
set_option maxRecDepth 100000

theorem TI.set {seed : Int} {m : Nat} {n : Int} {D : Tab} (t : TI seed m n D) {i : Nat} (hi : i < m) (hf : free (D i) = false) {v : Int} : TI seed m n (Tb.upd D i ((D i).1, v)) ∧ cnt (Tb.upd D i ((D i).1, v)) m = cnt D m := by
  have hc : cnt (Tb.upd D i ((D i).1, v)) m = cnt D m := by
    have := cnt_upd (D := D) (c := ((D i).1, v)) hi
    rw [hf, show free ((D i).1, v) = free (D i) from rfl, hf] at this
    simpa using this
  refine ⟨⟨t.ok, t.wf.set hi hf v, by rw [hc]; exact t.n, fun j hj => ?_⟩, hc⟩
  unfold Tb.upd
  by_cases e : j = i
  · rw [if_pos e]; exact t.ksz i hi
  · rw [if_neg e]; exact t.ksz j hj
theorem TI.cnt {seed : Int} {m : Nat} {n : Int} {D : Tab} (t : TI seed m n D) : TI seed m (Tb.cnt D m) D := ⟨t.ok, t.wf, rfl, t.ksz⟩
theorem free_valid {k : ByteArray} {D : Tab} {i : Nat} (e : (D i).1 = k) (hc : chk k 0 = 0) : free (D i) = false := free_key (chk_valid.1 hc).1 e
theorem chk_chk {k : ByteArray} {v : Int} (h : chk k v = 0) : chk k 0 = 0 := chk_valid.2 (chk_ok h).1

theorem weakO {S : LSpec} {f : FuncId} (h : S.Ok Try.prog f) (out : S.X → (Nat → Nat) → (V → List (Option SObj) → Prop) → Prop) (hh : ∀ x R, S.pre x → out x id R → S.out x id R) : LSpec.Ok { S with out := out } Try.prog f := fun x R h1 h2 => h x R h1 (hh x R h1 h2)
def WPut : LSpec := { SPut with
  pre := fun x => TI x.1.1 x.1.2.1 x.1.2.2.1 x.1.2.2.2 ∧ cnt x.1.2.2.2 x.1.2.1 ≤ 10000 ∧ 2 * x.1.2.1 ≤ 32768
  out := fun x θ R => ∀ e m' n' D', TI x.1.1 m' n' D' → R (i64 e) [some (tbC (θ 2) x.1.1 m' n'), none, some (tbR m' D')] }
theorem WPut_nt : WPut.Nt := ⟨fun _ _ => rfl, fun _ _ => rfl, fun _ _ _ h => h⟩
theorem WPut_ok : WPut.Ok Try.prog 12 := weakO SPut_ok _ fun ⟨⟨seed, m, n, D⟩, k, v⟩ R ⟨ht, h1, h2⟩ h => by
  have ht : TI seed m n D := ht
  exact ⟨fun _ => h 2 m n D ht, fun _ _ => h 11 m n D ht, fun hc hn => h 0 _ _ _ (ht.put h1 h2 (chk_ok hc).1 hn).1⟩
def WSet : LSpec := { SSet with out := fun x θ R => ∀ a b D', TI x.1.1 x.1.2.1 x.1.2.2.1 D' → R (.tup [i64 a, i64 b]) [some (tbC (θ 1) x.1.1 x.1.2.1 x.1.2.2.1), some (tbR x.1.2.1 D')] }
theorem WSet_nt : WSet.Nt := ⟨fun _ _ => rfl, fun _ _ => rfl, fun _ _ _ h => h⟩
theorem WSet_ok : WSet.Ok Try.prog 18 := weakO SSet_ok _ fun ⟨⟨seed, m, n, D⟩, k, v⟩ R ht h => by
  have ht : TI seed m n D := ht
  exact ⟨fun _ => h 0 2 D ht, fun _ _ => h 0 9 D ht, fun hc i hi e => h _ 0 _ (ht.set hi (free_valid e (chk_chk hc))).1⟩
def WDel : LSpec := { SDel with out := fun x θ R => ∀ a b m' n' D', TI x.1.1 m' n' D' → R (.tup [i64 a, i64 b]) [some (tbC (θ 2) x.1.1 m' n'), none, some (tbR m' D')] }
theorem WDel_nt : WDel.Nt := ⟨fun _ _ => rfl, fun _ _ => rfl, fun _ _ _ h => h⟩
theorem WDel_ok : WDel.Ok Try.prog 23 := weakO SDel_ok _ fun ⟨⟨seed, m, n, D⟩, k⟩ R ht h => by
  have ht : TI seed m n D := ht
  exact ⟨fun _ => h 0 2 _ _ _ ht, fun _ _ => h 0 9 _ _ _ ht, fun hc i hi e => h _ 0 _ _ _ (ht.delT hi (free_valid e hc)).1⟩
theorem orT {f : FuncId} {T1 T2 : List V → St → (V → St → Prop) → Prop} (h1 : ∀ args s K, T1 args s K → CallT Try.prog f args s K) (h2 : ∀ args s K, T2 args s K → CallT Try.prog f args s K) : ∀ args s K, (T1 args s K ∨ T2 args s K) → CallT Try.prog f args s K := fun a s K h => by
  rcases h with h | h
  · exact h1 a s K h
  · exact h2 a s K h

theorem conV : ConOk Try.prog (conOf [(12, fun a s K => SPut.T a s K ∨ WPut.T a s K), (11, SRPut.T), (37, SRGet.T), (21, SGets.T), (18, fun a s K => SSet.T a s K ∨ WSet.T a s K), (48, SRSet.T),
    (20, inl Try.prog (conOf []) Try.f20), (15, SRDel.T), (16, SDels.T), (28, SCopy.T), (23, WDel.T)]) :=
  conOf_cons (orT (LSpec.call SPut_nt SPut_ok) (LSpec.call WPut_nt WPut_ok)) (conOf_cons (LSpec.call SRPut_nt SRPut_ok) (conOf_cons (LSpec.call SRGet_nt SRGet_ok) (conOf_cons (LSpec.call SGets_nt SGets_ok) (conOf_cons (orT (LSpec.call SSet_nt SSet_ok) (LSpec.call WSet_nt WSet_ok)) (conOf_cons (LSpec.call SRSet_nt SRSet_ok)
    (conOf_cons (inl_ok noGo mixed conOf_nil Try.func20 (by kernel_rfl)) (conOf_cons (LSpec.call SRDel_nt SRDel_ok) (conOf_cons (LSpec.call SDels_nt SDels_ok) (conOf_cons (LSpec.call SCopy_nt SCopy_ok) (conOf_cons (LSpec.call WDel_nt WDel_ok) conOf_nil))))))))))

def actV (a : Int × ByteArray × Int) : V := .agg [.int .i64 a.1, .str a.2.1, .int .i64 a.2.2]
def SDo : LSpec where
  X := (Int × Nat × Tab) × (Int × ByteArray × Int)
  k := 4
  pre x := TI x.1.1 x.1.2.1 (cnt x.1.2.2 x.1.2.1) x.1.2.2 ∧ cnt x.1.2.2 x.1.2.1 ≤ 300 ∧ x.1.2.1 ≤ 1024
  args x θ := [.ptr (θ 0) 0, rfV (θ 2) (θ 3) x.1.1 x.1.2.1, actV x.2]
  objs x θ := [tbC (θ 1) x.1.1 x.1.2.1 (cnt x.1.2.2 x.1.2.1), tbR x.1.2.1 x.1.2.2, kR x.1.2.1 x.1.2.2, nR x.1.2.1 x.1.2.2]
  out x θ R := ∀ m' D', TI x.1.1 m' (cnt D' m') D' → cnt D' m' ≤ cnt x.1.2.2 x.1.2.1 + 1 → m' ≤ 1024 →
    R (.tup [.ptr (θ 4) 0, rfV (θ 6) (θ 7) x.1.1 m', .sb true]) [none, none, none, none, some (tbC (θ 5) x.1.1 m' (cnt D' m')), some (tbR m' D'), some (kR m' D'), some (nR m' D')]
theorem SDo_nt : SDo.Nt := ⟨fun _ _ => rfl, fun _ _ => rfl, fun _ _ _ h => h⟩
theorem putM_le {m : Nat} {D : Tab} (hc : cnt D m ≤ 300) (hm : m ≤ 1024) : putM m D ≤ 1024 := by unfold putM; split <;> omega
theorem delM_le {m : Nat} {D : Tab} (hm : m ≤ 1024) : delM m D ≤ 1024 := by unfold delM; split <;> omega
theorem SDo_ok : SDo.Ok Try.prog 27 := by
  refine LSpec.of_bodyC [18, 24, 25, 26] noGo mixed conV Try.func27 rfl (by kernel_rfl) fun ⟨⟨seed, m, D⟩, w, k, v⟩ R ⟨ht, hc, hm⟩ hR => ?_
  have ht : TI seed m (cnt D m) D := ht
  have hc : cnt D m ≤ 300 := hc
  have hm : m ≤ 1024 := hm
  have h8 := ht.ok.le
  have hsame := hR m D ht (Nat.le_succ _) hm
  (conv => whnf)
  constructor
  · intro h
    have e : w = 0 := of_decide_eq_true h
    (conv => whnf)
    have q1 : cnt D m ≤ 10000 := by omega
    have q2 : 2 * m ≤ 32768 := by omega
    refine .inl ⟨((seed, m, (cnt D m : Int), D), k, v), [0, 1], ⟨ht, q1, q2⟩, rfl, by (repeat' (first | exact True.intro | rfl | assumption | (refine And.intro ?_ ?_) | (intro _ _; rfl) | ((conv => whnf); (first | exact True.intro | (refine And.intro ?_ ?_))))), by (repeat' (first | exact True.intro | rfl | assumption | (refine And.intro ?_ ?_) | (intro _ _; rfl) | ((conv => whnf); (first | exact True.intro | (refine And.intro ?_ ?_))))), fun hk => ?_, fun hk hi => ?_, fun hk hn => ?_⟩
    · (conv => whnf)
      refine ⟨((seed, m, D), k, v), [2, 3], ⟨ht, q1, q2⟩, rfl, by (repeat' (first | exact True.intro | rfl | assumption | (refine And.intro ?_ ?_) | (intro _ _; rfl) | ((conv => whnf); (first | exact True.intro | (refine And.intro ?_ ?_))))), by (repeat' (first | exact True.intro | rfl | assumption | (refine And.intro ?_ ?_) | (intro _ _; rfl) | ((conv => whnf); (first | exact True.intro | (refine And.intro ?_ ?_))))), fun _ => ?_, fun g => absurd g hk, fun g => absurd g hk⟩
      (conv => whnf)
      refine ⟨[some 0, some 7, some 8, some 9], _, _, hsame, ?_⟩
      (repeat' (first | exact True.intro | rfl | assumption | (refine And.intro ?_ ?_) | (intro _ _; rfl) | ((conv => whnf); (first | exact True.intro | (refine And.intro ?_ ?_)))))
    · (conv => whnf)
      refine ⟨((seed, m, D), k, v), [2, 3], ⟨ht, q1, q2⟩, rfl, by (repeat' (first | exact True.intro | rfl | assumption | (refine And.intro ?_ ?_) | (intro _ _; rfl) | ((conv => whnf); (first | exact True.intro | (refine And.intro ?_ ?_))))), by (repeat' (first | exact True.intro | rfl | assumption | (refine And.intro ?_ ?_) | (intro _ _; rfl) | ((conv => whnf); (first | exact True.intro | (refine And.intro ?_ ?_))))), fun g => absurd hk g, fun _ _ => ?_, fun _ g => absurd hi g⟩
      (conv => whnf)
      refine ⟨[some 0, some 7, some 8, some 9], _, _, hsame, ?_⟩
      (repeat' (first | exact True.intro | rfl | assumption | (refine And.intro ?_ ?_) | (intro _ _; rfl) | ((conv => whnf); (first | exact True.intro | (refine And.intro ?_ ?_)))))
    · obtain ⟨p1, p2, _⟩ := ht.put q1 q2 (chk_ok hk).1 hn (v := v)
      have hh := hR _ _ p1.cnt (Nat.le_of_eq p2) (putM_le hc hm)
      have hi : ((cnt (putT seed m D k v) (putM m D) : Nat) : Int) = (cnt D m : Int) + 1 := by rw [p2]; rfl
      rw [hi] at hh
      (conv => whnf)
      refine ⟨((seed, m, D), k, v), [2, 3], ⟨ht, q1, q2⟩, rfl, by (repeat' (first | exact True.intro | rfl | assumption | (refine And.intro ?_ ?_) | (intro _ _; rfl) | ((conv => whnf); (first | exact True.intro | (refine And.intro ?_ ?_))))), by (repeat' (first | exact True.intro | rfl | assumption | (refine And.intro ?_ ?_) | (intro _ _; rfl) | ((conv => whnf); (first | exact True.intro | (refine And.intro ?_ ?_))))), fun g => absurd hk g, fun _ g => absurd g hn, fun _ _ => ?_⟩
      (conv => whnf)
      refine ⟨[some 0, some 7, some 8, some 9], _, _, hh, ?_⟩
      (repeat' (first | exact True.intro | rfl | assumption | (refine And.intro ?_ ?_) | (intro _ _; rfl) | ((conv => whnf); (first | exact True.intro | (refine And.intro ?_ ?_)))))
  intro h0
  (conv => whnf)
  constructor
  · intro h
    (conv => whnf)
    refine ⟨((seed, m, D), k), [2, 3], ht, rfl, by (repeat' (first | exact True.intro | rfl | assumption | (refine And.intro ?_ ?_) | (intro _ _; rfl) | ((conv => whnf); (first | exact True.intro | (refine And.intro ?_ ?_))))), by (repeat' (first | exact True.intro | rfl | assumption | (refine And.intro ?_ ?_) | (intro _ _; rfl) | ((conv => whnf); (first | exact True.intro | (refine And.intro ?_ ?_))))), fun hk => ?_, fun hk hn => ?_, fun hk i hi e => ?_⟩
    · (conv => whnf)
      refine ⟨((seed, m, (cnt D m : Int), D), k, 0, 2), [0, 1], ⟨ht, fun _ => ⟨rfl, rfl⟩, fun g => absurd g hk, fun g => absurd g hk⟩, rfl, by (repeat' (first | exact True.intro | rfl | assumption | (refine And.intro ?_ ?_) | (intro _ _; rfl) | ((conv => whnf); (first | exact True.intro | (refine And.intro ?_ ?_))))), by (repeat' (first | exact True.intro | rfl | assumption | (refine And.intro ?_ ?_) | (intro _ _; rfl) | ((conv => whnf); (first | exact True.intro | (refine And.intro ?_ ?_))))), ?_⟩
      (conv => whnf)
      (repeat (first | refine And.intro rfl ?_ | fail))
      (conv => whnf)
      refine ⟨[some 0, some 1, some 2, some 3], _, _, hsame, ?_⟩
      (repeat' (first | exact True.intro | rfl | assumption | (refine And.intro ?_ ?_) | (intro _ _; rfl) | ((conv => whnf); (first | exact True.intro | (refine And.intro ?_ ?_)))))
    · (conv => whnf)
      refine ⟨((seed, m, (cnt D m : Int), D), k, 0, 9), [0, 1], ⟨ht, fun g => absurd hk g, fun _ _ => ⟨rfl, rfl⟩, fun _ u hu => absurd (has_key.2 ⟨u, hu⟩) hn⟩, rfl, by (repeat' (first | exact True.intro | rfl | assumption | (refine And.intro ?_ ?_) | (intro _ _; rfl) | ((conv => whnf); (first | exact True.intro | (refine And.intro ?_ ?_))))), by (repeat' (first | exact True.intro | rfl | assumption | (refine And.intro ?_ ?_) | (intro _ _; rfl) | ((conv => whnf); (first | exact True.intro | (refine And.intro ?_ ?_))))), ?_⟩
      (conv => whnf)
      (repeat (first | refine And.intro rfl ?_ | fail))
      (conv => whnf)
      refine ⟨[some 0, some 1, some 2, some 3], _, _, hsame, ?_⟩
      (repeat' (first | exact True.intro | rfl | assumption | (refine And.intro ?_ ?_) | (intro _ _; rfl) | ((conv => whnf); (first | exact True.intro | (refine And.intro ?_ ?_)))))
    · have hi : i < m := hi
      have e : (D i).1 = k := e
      (conv => whnf)
      refine ⟨((seed, m, (cnt D m : Int), D), k, (D i).2, 0), [0, 1], ⟨ht, fun g => absurd hk g, fun _ g => absurd ⟨i, hi, e⟩ g, fun _ u hu => ⟨ht.wf.one (chk_valid.1 hk).1 ⟨i, hi, Prod.ext e rfl⟩ hu, rfl⟩⟩, rfl, by (repeat' (first | exact True.intro | rfl | assumption | (refine And.intro ?_ ?_) | (intro _ _; rfl) | ((conv => whnf); (first | exact True.intro | (refine And.intro ?_ ?_))))), by (repeat' (first | exact True.intro | rfl | assumption | (refine And.intro ?_ ?_) | (intro _ _; rfl) | ((conv => whnf); (first | exact True.intro | (refine And.intro ?_ ?_))))), ?_⟩
      (conv => whnf)
      (repeat (first | refine And.intro rfl ?_ | fail))
      (conv => whnf)
      refine ⟨[some 0, some 1, some 2, some 3], _, _, hsame, ?_⟩
      (repeat' (first | exact True.intro | rfl | assumption | (refine And.intro ?_ ?_) | (intro _ _; rfl) | ((conv => whnf); (first | exact True.intro | (refine And.intro ?_ ?_)))))
  intro h1
  (conv => whnf)
  constructor
  · intro h
    (conv => whnf)
    refine .inl ⟨((seed, m, (cnt D m : Int), D), k, v), [0, 1], ht, rfl, by (repeat' (first | exact True.intro | rfl | assumption | (refine And.intro ?_ ?_) | (intro _ _; rfl) | ((conv => whnf); (first | exact True.intro | (refine And.intro ?_ ?_))))), by (repeat' (first | exact True.intro | rfl | assumption | (refine And.intro ?_ ?_) | (intro _ _; rfl) | ((conv => whnf); (first | exact True.intro | (refine And.intro ?_ ?_))))), fun hk => ?_, fun hk hn => ?_, fun hk i hi e => ?_⟩
    · (conv => whnf)
      refine ⟨((seed, m, D), k, v), [2, 3], ht, rfl, by (repeat' (first | exact True.intro | rfl | assumption | (refine And.intro ?_ ?_) | (intro _ _; rfl) | ((conv => whnf); (first | exact True.intro | (refine And.intro ?_ ?_))))), by (repeat' (first | exact True.intro | rfl | assumption | (refine And.intro ?_ ?_) | (intro _ _; rfl) | ((conv => whnf); (first | exact True.intro | (refine And.intro ?_ ?_))))), fun _ => ?_, fun g => absurd g hk, fun g => absurd g hk⟩
      (conv => whnf)
      repeat' (first | exact rfl | (intro hh; exact absurd (show (_ : Bool) = false from hh) (by simp)) | (intro (_ : _ = true); (conv => whnf)) | refine And.intro ?_ ?_ | ((conv => whnf); refine And.intro ?_ ?_))
      all_goals (conv => whnf)
      all_goals first | (refine ⟨[some 0, some 1, some 7, some 8], _, _, hsame, ?_⟩; (repeat' (first | exact True.intro | rfl | assumption | (refine And.intro ?_ ?_) | (intro _ _; rfl) | ((conv => whnf); (first | exact True.intro | (refine And.intro ?_ ?_))))); done) | (refine ⟨[some 0, some 1, some 7, some 8], _, _, hsame, ?_⟩; (repeat' (first | exact True.intro | rfl | assumption | (refine And.intro ?_ ?_) | (intro _ _; rfl) | ((conv => whnf); (first | exact True.intro | (refine And.intro ?_ ?_))))); show true = decide _; simp; done) | trace_state
    · (conv => whnf)
      refine ⟨((seed, m, D), k, v), [2, 3], ht, rfl, by (repeat' (first | exact True.intro | rfl | assumption | (refine And.intro ?_ ?_) | (intro _ _; rfl) | ((conv => whnf); (first | exact True.intro | (refine And.intro ?_ ?_))))), by (repeat' (first | exact True.intro | rfl | assumption | (refine And.intro ?_ ?_) | (intro _ _; rfl) | ((conv => whnf); (first | exact True.intro | (refine And.intro ?_ ?_))))), fun g => absurd hk g, fun _ _ => ?_, fun _ i hi e => absurd ⟨i, hi, e⟩ hn⟩
      (conv => whnf)
      repeat' (first | exact rfl | (intro hh; exact absurd (show (_ : Bool) = false from hh) (by simp)) | (intro (_ : _ = true); (conv => whnf)) | refine And.intro ?_ ?_ | ((conv => whnf); refine And.intro ?_ ?_))
      all_goals (conv => whnf)
      all_goals first | (refine ⟨[some 0, some 1, some 7, some 8], _, _, hsame, ?_⟩; (repeat' (first | exact True.intro | rfl | assumption | (refine And.intro ?_ ?_) | (intro _ _; rfl) | ((conv => whnf); (first | exact True.intro | (refine And.intro ?_ ?_))))); done) | (refine ⟨[some 0, some 1, some 7, some 8], _, _, hsame, ?_⟩; (repeat' (first | exact True.intro | rfl | assumption | (refine And.intro ?_ ?_) | (intro _ _; rfl) | ((conv => whnf); (first | exact True.intro | (refine And.intro ?_ ?_))))); show true = decide _; simp; done) | trace_state
    · have hi : i < m := hi
      have e : (D i).1 = k := e
      have hf := free_valid e (chk_chk hk)
      obtain ⟨p1, p2⟩ := ht.set hi hf (v := v)
      have hh := hR _ _ p1.cnt (by show cnt (Tb.upd D i ((D i).1, v)) m ≤ cnt D m + 1; omega) hm
      rw [p2] at hh
      (conv => whnf)
      refine ⟨((seed, m, D), k, v), [2, 3], ht, rfl, by (repeat' (first | exact True.intro | rfl | assumption | (refine And.intro ?_ ?_) | (intro _ _; rfl) | ((conv => whnf); (first | exact True.intro | (refine And.intro ?_ ?_))))), by (repeat' (first | exact True.intro | rfl | assumption | (refine And.intro ?_ ?_) | (intro _ _; rfl) | ((conv => whnf); (first | exact True.intro | (refine And.intro ?_ ?_))))), fun g => absurd hk g, fun _ g => absurd ⟨i, hi, e⟩ g, fun _ j hj ej => ?_⟩
      have hij : j = i := ht.wf.u j i hj hi (free_valid ej (chk_chk hk)) (ej.trans e.symm)
      subst hij
      (conv => whnf)
      repeat' (first | exact rfl | (intro hh; exact absurd (show (_ : Bool) = false from hh) (by simp)) | (intro (_ : _ = true); (conv => whnf)) | refine And.intro ?_ ?_ | ((conv => whnf); refine And.intro ?_ ?_))
      all_goals (conv => whnf)
      all_goals first | (refine ⟨[some 0, some 1, some 7, some 8], _, _, hh, ?_⟩; (repeat' (first | exact True.intro | rfl | assumption | (refine And.intro ?_ ?_) | (intro _ _; rfl) | ((conv => whnf); (first | exact True.intro | (refine And.intro ?_ ?_))))); done) | (refine ⟨[some 0, some 1, some 7, some 8], _, _, hh, ?_⟩; (repeat' (first | exact True.intro | rfl | assumption | (refine And.intro ?_ ?_) | (intro _ _; rfl) | ((conv => whnf); (first | exact True.intro | (refine And.intro ?_ ?_))))); show true = decide _; simp; done) | trace_state
  intro h2
  (conv => whnf)
  constructor
  · intro h3
    have e3 : w = 3 := of_decide_eq_true h3
    (conv => whnf)
    refine ⟨fun _ => ?_, fun g => absurd (h3.symm.trans g) (by simp)⟩
    (conv => whnf)
    refine ⟨ByteArray, fun key => [(0, .ptr 0 0), (4, .ptr 4 0), (7, .ptr 5 0), (9, .str key)], fun _ => [some (tbC 1 seed m (cnt D m)), some (tbR m D), some (kR m D), some (nR m D), some (rfC 2 3 seed m), some (.cells [u64 0, .nils, .nils] 29)], fun _ => True, 6, fun _ => rfl, ?_, fun key _ => ?_⟩
    · have h4 : decide (w = 4) = false := decide_eq_false (by omega)
      (conv => whnf)
      refine ⟨fun g => absurd (g.symm.trans h4) (by simp), fun _ => ?_⟩
      (conv => whnf)
      refine ⟨k, [some 4, some 6], trivial, ?_⟩
      (repeat' (first | exact True.intro | rfl | assumption | (refine And.intro ?_ ?_) | (intro _ _; rfl) | ((conv => whnf); (first | exact True.intro | (refine And.intro ?_ ?_)))))
    (conv => whnf)
    refine ⟨((seed, m, D), key), [2, 3], ht, rfl, by (repeat' (first | exact True.intro | rfl | assumption | (refine And.intro ?_ ?_) | (intro _ _; rfl) | ((conv => whnf); (first | exact True.intro | (refine And.intro ?_ ?_))))), by (repeat' (first | exact True.intro | rfl | assumption | (refine And.intro ?_ ?_) | (intro _ _; rfl) | ((conv => whnf); (first | exact True.intro | (refine And.intro ?_ ?_))))), fun hk => ?_, fun hk hn => ?_, fun hk i hi e => ?_⟩
    · (conv => whnf)
      refine ⟨((seed, m, (cnt D m : Int), D), key, 0, 2), [0, 1], ⟨ht, fun _ => ⟨rfl, rfl⟩, fun g => absurd g hk, fun g => absurd g hk⟩, rfl, by (repeat' (first | exact True.intro | rfl | assumption | (refine And.intro ?_ ?_) | (intro _ _; rfl) | ((conv => whnf); (first | exact True.intro | (refine And.intro ?_ ?_))))), by (repeat' (first | exact True.intro | rfl | assumption | (refine And.intro ?_ ?_) | (intro _ _; rfl) | ((conv => whnf); (first | exact True.intro | (refine And.intro ?_ ?_))))), fun _ => ?_, fun g => absurd g hk⟩
      (conv => whnf)
      (repeat (first | refine And.intro rfl ?_ | fail))
      (conv => whnf)
      refine ⟨[some 0, some 9, some 6, some 7], _, _, hsame, ?_⟩
      (repeat' (first | exact True.intro | rfl | assumption | (refine And.intro ?_ ?_) | (intro _ _; rfl) | ((conv => whnf); (first | exact True.intro | (refine And.intro ?_ ?_)))))
    · (conv => whnf)
      refine ⟨((seed, m, (cnt D m : Int), D), key, 0, 9), [0, 1], ⟨ht, fun g => absurd hk g, fun _ _ => ⟨rfl, rfl⟩, fun _ u hu => absurd (has_key.2 ⟨u, hu⟩) hn⟩, rfl, by (repeat' (first | exact True.intro | rfl | assumption | (refine And.intro ?_ ?_) | (intro _ _; rfl) | ((conv => whnf); (first | exact True.intro | (refine And.intro ?_ ?_))))), by (repeat' (first | exact True.intro | rfl | assumption | (refine And.intro ?_ ?_) | (intro _ _; rfl) | ((conv => whnf); (first | exact True.intro | (refine And.intro ?_ ?_))))), fun _ => ?_, fun _ j hj e => absurd ⟨j, hj, e⟩ hn⟩
      (conv => whnf)
      (repeat (first | refine And.intro rfl ?_ | fail))
      (conv => whnf)
      refine ⟨[some 0, some 9, some 6, some 7], _, _, hsame, ?_⟩
      (repeat' (first | exact True.intro | rfl | assumption | (refine And.intro ?_ ?_) | (intro _ _; rfl) | ((conv => whnf); (first | exact True.intro | (refine And.intro ?_ ?_)))))
    · have hi : i < m := hi
      have e : (D i).1 = key := e
      have hf := free_valid e hk
      obtain ⟨p1, p2, _⟩ := ht.delT hi hf
      have p3 := cnt_pos hi hf
      have hh := hR _ _ p1.cnt (by show cnt (delT seed m D i) (delM m D) ≤ cnt D m + 1; omega) (delM_le hm)
      have hz : ((cnt (delT seed m D i) (delM m D) : Nat) : Int) = (cnt D m : Int) - 1 := by omega
      rw [hz] at hh
      (conv => whnf)
      refine ⟨((seed, m, (cnt D m : Int), D), key, (D i).2, 0), [0, 1], ⟨ht, fun g => absurd hk g, fun _ g => absurd ⟨i, hi, e⟩ g, fun _ u hu => ⟨ht.wf.one (chk_valid.1 hk).1 ⟨i, hi, Prod.ext e rfl⟩ hu, rfl⟩⟩, rfl, by (repeat' (first | exact True.intro | rfl | assumption | (refine And.intro ?_ ?_) | (intro _ _; rfl) | ((conv => whnf); (first | exact True.intro | (refine And.intro ?_ ?_))))), by (repeat' (first | exact True.intro | rfl | assumption | (refine And.intro ?_ ?_) | (intro _ _; rfl) | ((conv => whnf); (first | exact True.intro | (refine And.intro ?_ ?_))))), fun g => g.elim (fun g => absurd hk g) (fun g => absurd ⟨i, hi, e⟩ g), fun _ j hj ej => ?_⟩
      have hij : j = i := ht.wf.u j i hj hi (free_valid ej hk) (ej.trans e.symm)
      subst hij
      (conv => whnf)
      (repeat (first | refine And.intro rfl ?_ | fail))
      (conv => whnf)
      refine ⟨[some 0, some 9, some 6, some 7], _, _, hh, ?_⟩
      (repeat' (first | exact True.intro | rfl | assumption | (refine And.intro ?_ ?_) | (intro _ _; rfl) | ((conv => whnf); (first | exact True.intro | (refine And.intro ?_ ?_)))))
  intro h3
  (conv => whnf)
  constructor
  · intro h4
    have e4 : w = 4 := of_decide_eq_true h4
    (conv => whnf)
    refine ⟨ByteArray, fun key => [(0, .ptr 0 0), (4, .ptr 4 0), (7, .ptr 5 0), (9, .str key)], fun _ => [some (tbC 1 seed m (cnt D m)), some (tbR m D), some (kR m D), some (nR m D), some (rfC 2 3 seed m), some (.cells [u64 0, .nils, .nils] 29)], fun _ => True, 6, fun _ => rfl, ?_, fun key _ => ?_⟩
    · (conv => whnf)
      refine ⟨fun _ => ?_, fun g => absurd (h4.symm.trans g) (by simp)⟩
      (conv => whnf)
      constructor
      · intro hv
        have hv : 0 ≤ v := of_decide_eq_true hv
        (conv => whnf)
        refine ⟨by show (m : Int) ≠ 0; omega, ?_⟩
        (conv => whnf)
        have hr0 : 0 ≤ v.tmod (m : Int) := Int.tmod_nonneg _ hv
        have hr1 : v.tmod (m : Int) < (m : Int) := Int.tmod_lt_of_pos _ (by omega)
        refine ⟨hr0, hr1, ?_⟩
        (conv => whnf)
        refine ⟨by show 0 + (v.tmod (m : Int)).toNat < m; omega, ?_⟩
        (conv => whnf)
        repeat' (first | exact rfl | refine And.intro ?_ ?_ | ((conv => whnf); refine And.intro ?_ ?_))
        all_goals (conv => whnf)
        all_goals (refine ⟨(D (0 + (v.tmod (m : Int)).toNat)).1, [some 4, some 6], trivial, ?_⟩; (repeat' (first | exact True.intro | rfl | assumption | (refine And.intro ?_ ?_) | (intro _ _; rfl) | ((conv => whnf); (first | exact True.intro | (refine And.intro ?_ ?_))))))
      · intro hv
        (conv => whnf)
        refine ⟨k, [some 4, some 6], trivial, ?_⟩
        (repeat' (first | exact True.intro | rfl | assumption | (refine And.intro ?_ ?_) | (intro _ _; rfl) | ((conv => whnf); (first | exact True.intro | (refine And.intro ?_ ?_)))))
    (conv => whnf)
    refine ⟨((seed, m, D), key), [2, 3], ht, rfl, by (repeat' (first | exact True.intro | rfl | assumption | (refine And.intro ?_ ?_) | (intro _ _; rfl) | ((conv => whnf); (first | exact True.intro | (refine And.intro ?_ ?_))))), by (repeat' (first | exact True.intro | rfl | assumption | (refine And.intro ?_ ?_) | (intro _ _; rfl) | ((conv => whnf); (first | exact True.intro | (refine And.intro ?_ ?_))))), fun hk => ?_, fun hk hn => ?_, fun hk i hi e => ?_⟩
    · (conv => whnf)
      refine ⟨((seed, m, (cnt D m : Int), D), key, 0, 2), [0, 1], ⟨ht, fun _ => ⟨rfl, rfl⟩, fun g => absurd g hk, fun g => absurd g hk⟩, rfl, by (repeat' (first | exact True.intro | rfl | assumption | (refine And.intro ?_ ?_) | (intro _ _; rfl) | ((conv => whnf); (first | exact True.intro | (refine And.intro ?_ ?_))))), by (repeat' (first | exact True.intro | rfl | assumption | (refine And.intro ?_ ?_) | (intro _ _; rfl) | ((conv => whnf); (first | exact True.intro | (refine And.intro ?_ ?_))))), fun _ => ?_, fun g => absurd g hk⟩
      (conv => whnf)
      (repeat (first | refine And.intro rfl ?_ | fail))
      (conv => whnf)
      refine ⟨[some 0, some 9, some 6, some 7], _, _, hsame, ?_⟩
      (repeat' (first | exact True.intro | rfl | assumption | (refine And.intro ?_ ?_) | (intro _ _; rfl) | ((conv => whnf); (first | exact True.intro | (refine And.intro ?_ ?_)))))
    · (conv => whnf)
      refine ⟨((seed, m, (cnt D m : Int), D), key, 0, 9), [0, 1], ⟨ht, fun g => absurd hk g, fun _ _ => ⟨rfl, rfl⟩, fun _ u hu => absurd (has_key.2 ⟨u, hu⟩) hn⟩, rfl, by (repeat' (first | exact True.intro | rfl | assumption | (refine And.intro ?_ ?_) | (intro _ _; rfl) | ((conv => whnf); (first | exact True.intro | (refine And.intro ?_ ?_))))), by (repeat' (first | exact True.intro | rfl | assumption | (refine And.intro ?_ ?_) | (intro _ _; rfl) | ((conv => whnf); (first | exact True.intro | (refine And.intro ?_ ?_))))), fun _ => ?_, fun _ j hj e => absurd ⟨j, hj, e⟩ hn⟩
      (conv => whnf)
      (repeat (first | refine And.intro rfl ?_ | fail))
      (conv => whnf)
      refine ⟨[some 0, some 9, some 6, some 7], _, _, hsame, ?_⟩
      (repeat' (first | exact True.intro | rfl | assumption | (refine And.intro ?_ ?_) | (intro _ _; rfl) | ((conv => whnf); (first | exact True.intro | (refine And.intro ?_ ?_)))))
    · have hi : i < m := hi
      have e : (D i).1 = key := e
      have hf := free_valid e hk
      obtain ⟨p1, p2, _⟩ := ht.delT hi hf
      have p3 := cnt_pos hi hf
      have hh := hR _ _ p1.cnt (by show cnt (delT seed m D i) (delM m D) ≤ cnt D m + 1; omega) (delM_le hm)
      have hz : ((cnt (delT seed m D i) (delM m D) : Nat) : Int) = (cnt D m : Int) - 1 := by omega
      rw [hz] at hh
      (conv => whnf)
      refine ⟨((seed, m, (cnt D m : Int), D), key, (D i).2, 0), [0, 1], ⟨ht, fun g => absurd hk g, fun _ g => absurd ⟨i, hi, e⟩ g, fun _ u hu => ⟨ht.wf.one (chk_valid.1 hk).1 ⟨i, hi, Prod.ext e rfl⟩ hu, rfl⟩⟩, rfl, by (repeat' (first | exact True.intro | rfl | assumption | (refine And.intro ?_ ?_) | (intro _ _; rfl) | ((conv => whnf); (first | exact True.intro | (refine And.intro ?_ ?_))))), by (repeat' (first | exact True.intro | rfl | assumption | (refine And.intro ?_ ?_) | (intro _ _; rfl) | ((conv => whnf); (first | exact True.intro | (refine And.intro ?_ ?_))))), fun g => g.elim (fun g => absurd hk g) (fun g => absurd ⟨i, hi, e⟩ g), fun _ j hj ej => ?_⟩
      have hij : j = i := ht.wf.u j i hj hi (free_valid ej hk) (ej.trans e.symm)
      subst hij
      (conv => whnf)
      (repeat (first | refine And.intro rfl ?_ | fail))
      (conv => whnf)
      refine ⟨[some 0, some 9, some 6, some 7], _, _, hh, ?_⟩
      (repeat' (first | exact True.intro | rfl | assumption | (refine And.intro ?_ ?_) | (intro _ _; rfl) | ((conv => whnf); (first | exact True.intro | (refine And.intro ?_ ?_)))))
  intro h4
  (conv => whnf)
  refine ⟨(seed, m, (cnt D m : Int), D), [0, 1], ⟨h8, by show m ≤ 32768; omega⟩, rfl, by (repeat' (first | exact True.intro | rfl | assumption | (refine And.intro ?_ ?_) | (intro _ _; rfl) | ((conv => whnf); (first | exact True.intro | (refine And.intro ?_ ?_))))), by (repeat' (first | exact True.intro | rfl | assumption | (refine And.intro ?_ ?_) | (intro _ _; rfl) | ((conv => whnf); (first | exact True.intro | (refine And.intro ?_ ?_))))), ?_⟩
  (conv => whnf)
  refine ⟨Nat × Int × Tab, fun _ => [(0, .ptr 0 0), (4, .ptr 4 0), (7, .ptr 5 0), (23, .ptr 7 0)], fun x => [some (tbC 8 seed x.1 x.2.1), none, some (kR m D), some (nR m D), some (rfC 2 3 seed m), some (.cells [u64 0, .nils, .nils] 29), some (tbR m D), some (tbC 6 seed m (cnt D m)), some (tbR x.1 x.2.2)], fun x => TI seed x.1 x.2.1 x.2.2, 9, fun _ => rfl, ?_, fun ⟨m1, n1, D1⟩ ht1 => ?_⟩
  · (conv => whnf)
    refine .inr ⟨((seed, m, (cnt D m : Int), D), ⟨#[111, 108, 100]⟩, 1), [0, 1], ⟨ht, by show cnt D m ≤ 10000; omega, by show 2 * m ≤ 32768; omega⟩, rfl, by (repeat' (first | exact True.intro | rfl | assumption | (refine And.intro ?_ ?_) | (intro _ _; rfl) | ((conv => whnf); (first | exact True.intro | (refine And.intro ?_ ?_))))), by (repeat' (first | exact True.intro | rfl | assumption | (refine And.intro ?_ ?_) | (intro _ _; rfl) | ((conv => whnf); (first | exact True.intro | (refine And.intro ?_ ?_))))), fun e m' n' D' ht' => ?_⟩
    (conv => whnf)
    refine ⟨(m', n', D'), [some 4, some 6, some 8, some 7, some 9], ht', ?_⟩
    (repeat' (first | exact True.intro | rfl | assumption | (refine And.intro ?_ ?_) | (intro _ _; rfl) | ((conv => whnf); (first | exact True.intro | (refine And.intro ?_ ?_)))))
  have ht1 : TI seed m1 n1 D1 := ht1
  (conv => whnf)
  refine ⟨Nat × Int × Tab, fun _ => [(0, .ptr 0 0), (4, .ptr 4 0), (7, .ptr 5 0), (23, .ptr 7 0)], fun x => [some (tbC 8 seed x.1 x.2.1), none, some (kR m D), some (nR m D), some (rfC 2 3 seed m), some (.cells [u64 0, .nils, .nils] 29), some (tbR m D), some (tbC 6 seed m (cnt D m)), some (tbR x.1 x.2.2)], fun x => TI seed x.1 x.2.1 x.2.2, 9, fun _ => rfl, ?_, fun ⟨m1, n1, D1⟩ ht1 => ?_⟩
  · (conv => whnf)
    refine .inr ⟨((seed, m1, n1, D1), ⟨#[97]⟩, 99), [0, 8], ht1, rfl, by (repeat' (first | exact True.intro | rfl | assumption | (refine And.intro ?_ ?_) | (intro _ _; rfl) | ((conv => whnf); (first | exact True.intro | (refine And.intro ?_ ?_))))), by (repeat' (first | exact True.intro | rfl | assumption | (refine And.intro ?_ ?_) | (intro _ _; rfl) | ((conv => whnf); (first | exact True.intro | (refine And.intro ?_ ?_))))), fun a b D' ht' => ?_⟩
    (conv => whnf)
    refine ⟨(m1, n1, D'), [some 4, some 5, some 6, some 7, some 8], ht', ?_⟩
    (repeat' (first | exact True.intro | rfl | assumption | (refine And.intro ?_ ?_) | (intro _ _; rfl) | ((conv => whnf); (first | exact True.intro | (refine And.intro ?_ ?_)))))
  have ht1 : TI seed m1 n1 D1 := ht1
  (conv => whnf)
  refine ⟨Nat × Int × Tab, fun _ => [(0, .ptr 0 0), (4, .ptr 4 0), (7, .ptr 5 0), (23, .ptr 7 0)], fun x => [some (tbC 8 seed x.1 x.2.1), none, some (kR m D), some (nR m D), some (rfC 2 3 seed m), some (.cells [u64 0, .nils, .nils] 29), some (tbR m D), some (tbC 6 seed m (cnt D m)), some (tbR x.1 x.2.2)], fun x => TI seed x.1 x.2.1 x.2.2, 9, fun _ => rfl, ?_, fun ⟨m1, n1, D1⟩ ht1 => ?_⟩
  · (conv => whnf)
    refine ⟨((seed, m1, n1, D1), ⟨#[98]⟩), [0, 8], ht1, rfl, by (repeat' (first | exact True.intro | rfl | assumption | (refine And.intro ?_ ?_) | (intro _ _; rfl) | ((conv => whnf); (first | exact True.intro | (refine And.intro ?_ ?_))))), by (repeat' (first | exact True.intro | rfl | assumption | (refine And.intro ?_ ?_) | (intro _ _; rfl) | ((conv => whnf); (first | exact True.intro | (refine And.intro ?_ ?_))))), fun a b m' n' D' ht' => ?_⟩
    (conv => whnf)
    refine ⟨(m', n', D'), [some 4, some 5, some 6, some 7, some 9], ht', ?_⟩
    (repeat' (first | exact True.intro | rfl | assumption | (refine And.intro ?_ ?_) | (intro _ _; rfl) | ((conv => whnf); (first | exact True.intro | (refine And.intro ?_ ?_)))))
  (conv => whnf)
  (repeat (first | refine And.intro rfl ?_ | fail))
  (conv => whnf)
  refine ⟨[some 7, some 6, some 2, some 3], _, _, hsame, ?_⟩
  (repeat' (first | exact True.intro | rfl | assumption | (refine And.intro ?_ ?_) | (intro _ _; rfl) | ((conv => whnf); (first | exact True.intro | (refine And.intro ?_ ?_)))))
end Go.Proofs.Ytfkolddpfpjeeaa
