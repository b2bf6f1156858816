/- TablePlays: the loop. -/
import Derived.Test.YtfkolddpfpjeeaaTbDo
import Derived.Test.YtfkolddpfpjeeaaSyTop
import Derived.Test.YtfkolddpfpjeeaaLaw10K
namespace Go.Proofs.Ytfkolddpfpjeeaa
open Go Go.RowKit Sy Tb
set_option maxRecDepth 100000

abbrev Act := Int × ByteArray × Int
def act0 : Act := (0, ⟨#[]⟩, 0)
def actC (a : Act) : List V := [.int .i64 a.1, .str a.2.1, .int .i64 a.2.2]
def actO (c : Obj) (l : List Act) (e : TypeId) : SObj := .ro c l.length (fun j => actC (l.getD j act0)) e 3
def SSmall : LSpec where
  X := Obj × List Act × TypeId
  k := 1
  pre _ := True
  args x θ := [.sl (θ 0) 0 3 x.2.1.length false]
  objs x _ := [actO x.1 x.2.1 x.2.2]
  out x _ R := ∀ b, (b = true → x.2.1.length ≤ 120) → R (.sb b) [some (actO x.1 x.2.1 x.2.2)]
theorem SSmall_nt : SSmall.Nt := ⟨fun _ _ => rfl, fun _ _ => rfl, fun _ _ _ h => h⟩
theorem SSmall_ok : SSmall.Ok Try.prog 22 := by
  refine LSpec.of_body noGo mixed conOf_nil Try.func22 rfl (by kernel_rfl) fun ⟨c, l, e⟩ R _ hR => ?_
  have hR0 := hR false (fun g => Bool.noConfusion g)
  have hR1 := hR (decide ((l.length : Int) ≤ 120)) (fun g => by have := of_decide_eq_true g; show l.length ≤ 120; omega)
  (conv => whnf)
  refine .inl ⟨Nat, fun i => [(0, .sl 0 0 3 l.length false), (3, i64 i)], fun i => [some (actO c l e)], fun i => 121 - i, fun i => i ≤ 121, 1, ⟨0, [], Nat.zero_le _, ?_⟩, fun _ => rfl, fun i hi => ?_⟩
  · (repeat' (first | exact True.intro | rfl | assumption | (refine And.intro ?_ ?_) | (intro _ _; rfl) | ((conv => whnf); (first | exact True.intro | (refine And.intro ?_ ?_)))))
  have hi : i ≤ 121 := hi
  (conv => whnf)
  constructor
  · intro h
    have h : (i : Int) < (l.length : Int) := of_decide_eq_true h
    (conv => whnf)
    constructor
    · intro h2
      have h2 : (i : Int) < 121 := of_decide_eq_true h2
      (conv => whnf)
      refine ⟨by show (0 : Int) ≤ (i : Int); omega, h, ?_⟩
      (conv => whnf)
      refine ⟨by show 0 + (i : Int).toNat < l.length; omega, ?_⟩
      (conv => whnf)
      constructor
      · intro _
        (conv => whnf)
        refine ⟨[], _, _, hR0, ?_⟩
        (repeat' (first | exact True.intro | rfl | assumption | (refine And.intro ?_ ?_) | (intro _ _; rfl) | ((conv => whnf); (first | exact True.intro | (refine And.intro ?_ ?_)))))
      · intro _
        (conv => whnf)
        refine ⟨i + 1, [], by show 121 - (i + 1) < 121 - i; omega, by show i + 1 ≤ 121; omega, ?_⟩
        (repeat' (first | exact True.intro | rfl | assumption | (refine And.intro ?_ ?_) | (intro _ _; rfl) | ((conv => whnf); (first | exact True.intro | (refine And.intro ?_ ?_)))))
        exact (wrap_id (by omega) (by omega)).symm
    · intro h2
      (conv => whnf)
      refine ⟨[], _, _, hR1, ?_⟩
      (repeat' (first | exact True.intro | rfl | assumption | (refine And.intro ?_ ?_) | (intro _ _; rfl) | ((conv => whnf); (first | exact True.intro | (refine And.intro ?_ ?_)))))
  · intro h
    (conv => whnf)
    (repeat' (first | (refine And.intro (fun hh => ?_) (fun hh => ?_) <;> first | (exfalso; simp [*] at hh; done) | (exfalso; simp_all; done) | (conv => whnf)) | fail))
    refine ⟨[], _, _, hR1, ?_⟩
    (repeat' (first | exact True.intro | rfl | assumption | (refine And.intro ?_ ?_) | (intro _ _; rfl) | ((conv => whnf); (first | exact True.intro | (refine And.intro ?_ ?_)))))
theorem conW : ConOk Try.prog (conOf [(8, trueT), (22, SSmall.T), (9, SNew.T), (10, SRNew.T), (27, SDo.T), (17, SLooks.T)]) :=
  conOf_cons (true_ok ⟨_, Try.func8, rfl⟩ known_any) (conOf_cons (LSpec.call SSmall_nt SSmall_ok) (conOf_cons (LSpec.call SNew_nt SNew_ok) (conOf_cons (LSpec.call SRNew_nt SRNew_ok) (conOf_cons (LSpec.call SDo_nt SDo_ok) (conOf_cons (LSpec.call SLooks_nt SLooks_ok) conOf_nil)))))
theorem TI.new {seed : Int} (h0 : 0 ≤ seed) (h1 : seed < 18446744073709551616) : TI seed 8 (Tb.cnt (fun _ => e0) 8) (fun _ => e0) := by
  have ok : TOk seed 8 := ⟨⟨h0, h1⟩, (isSize_iff _).2 ⟨3, by omega, rfl⟩, by omega, by omega⟩
  exact ⟨ok, empty_wf (fun k => (ok.hm k).2), rfl, fun i _ => Nat.zero_le _⟩

def SPlays : LSpec where
  X := (Obj × List Act × TypeId) × Int
  k := 1
  pre x := 0 ≤ x.2 ∧ x.2 < 18446744073709551616
  args x θ := [u64 x.2, .sl (θ 0) 0 3 x.1.2.1.length false]
  objs x _ := [actO x.1.1 x.1.2.1 x.1.2.2]
  out x _ R := R (.sb true) [some (actO x.1.1 x.1.2.1 x.1.2.2)]
theorem SPlays_top : SPlays.Top Try.prog 6 := by
  refine LSpec.top noGo mixed conW Try.func6 rfl (by kernel_rfl) fun ⟨⟨c, l, e⟩, seed⟩ R ⟨hs0, hs1⟩ hR => ?_
  have hs0 : 0 ≤ seed := hs0
  have hs1 : seed < 18446744073709551616 := hs1
  have tnew := TI.new hs0 hs1
  have hz : cnt (fun _ => e0) 8 = 0 := cnt_zero 8
  (conv => whnf)
  refine ⟨(c, l, e), [0], trivial, rfl, by (repeat' (first | exact True.intro | rfl | assumption | (refine And.intro ?_ ?_) | (intro _ _; rfl) | ((conv => whnf); (first | exact True.intro | (refine And.intro ?_ ?_))))), by (repeat' (first | exact True.intro | rfl | assumption | (refine And.intro ?_ ?_) | (intro _ _; rfl) | ((conv => whnf); (first | exact True.intro | (refine And.intro ?_ ?_))))), fun b hb => ?_⟩
  (conv => whnf)
  constructor
  · intro h
    (conv => whnf)
    refine ⟨[], _, _, hR, ?_⟩
    (repeat' (first | exact True.intro | rfl | assumption | (refine And.intro ?_ ?_) | (intro _ _; rfl) | ((conv => whnf); (first | exact True.intro | (refine And.intro ?_ ?_)))))
  · intro h
    have hl : l.length ≤ 120 := hb (by simpa using h)
    (conv => whnf)
    refine ⟨seed, [], trivial, rfl, by (repeat' (first | exact True.intro | rfl | assumption | (refine And.intro ?_ ?_) | (intro _ _; rfl) | ((conv => whnf); (first | exact True.intro | (refine And.intro ?_ ?_))))), by (repeat' (first | exact True.intro | rfl | assumption | (refine And.intro ?_ ?_) | (intro _ _; rfl) | ((conv => whnf); (first | exact True.intro | (refine And.intro ?_ ?_))))), ?_⟩
    (conv => whnf)
    refine ⟨seed, [], trivial, rfl, by (repeat' (first | exact True.intro | rfl | assumption | (refine And.intro ?_ ?_) | (intro _ _; rfl) | ((conv => whnf); (first | exact True.intro | (refine And.intro ?_ ?_))))), by (repeat' (first | exact True.intro | rfl | assumption | (refine And.intro ?_ ?_) | (intro _ _; rfl) | ((conv => whnf); (first | exact True.intro | (refine And.intro ?_ ?_))))), ?_⟩
    (conv => whnf)
    refine .inl ⟨Nat × Nat × Tab, fun x => [(5, .ptr 1 0), (6, .ptr 5 0), (20, .sl 0 0 3 l.length false), (21, i64 l.length), (22, i64 x.1)],
      fun x => [some (actO c l e), some (tbC 2 seed x.2.1 (cnt x.2.2 x.2.1)), some (tbR x.2.1 x.2.2), some (kR x.2.1 x.2.2), some (nR x.2.1 x.2.2), some (rfC 3 4 seed x.2.1)], fun x => l.length - x.1, fun x => x.1 ≤ l.length ∧ TI seed x.2.1 (cnt x.2.2 x.2.1) x.2.2 ∧ cnt x.2.2 x.2.1 ≤ x.1 ∧ x.2.1 ≤ 1024, 6, ⟨(0, 8, fun _ => e0), [some 1, some 2, some 3, some 4, some 5], ⟨Nat.zero_le _, tnew, by show cnt (fun _ => e0) 8 ≤ 0; omega, by show 8 ≤ 1024; omega⟩, ?_⟩, fun _ => rfl, fun ⟨i, m, D⟩ ⟨hi, ht, hc, hm⟩ => ?_⟩
    · (repeat' (first | exact True.intro | rfl | assumption | (refine And.intro ?_ ?_) | (intro _ _; rfl) | ((conv => whnf); (first | exact True.intro | (refine And.intro ?_ ?_)))))
    have hi : i ≤ l.length := hi
    have ht : TI seed m (cnt D m) D := ht
    have hc : cnt D m ≤ i := hc
    have hm : m ≤ 1024 := hm
    (conv => whnf)
    constructor
    · intro h
      (conv => whnf)
      have hi2 := dec_lt h
      refine ⟨by simp, by simpa using h, by simpa using h, ?_⟩
      (conv => whnf)
      refine ⟨((seed, m, D), l.getD (0 + (i : Int).toNat) act0), [1, 2, 3, 4], ⟨ht, by show cnt D m ≤ 300; omega, hm⟩, rfl, by (repeat' (first | exact True.intro | rfl | assumption | (refine And.intro ?_ ?_) | (intro _ _; rfl) | ((conv => whnf); (first | exact True.intro | (refine And.intro ?_ ?_))))), by (repeat' (first | exact True.intro | rfl | assumption | (refine And.intro ?_ ?_) | (intro _ _; rfl) | ((conv => whnf); (first | exact True.intro | (refine And.intro ?_ ?_))))), fun m' D' ht' hc' hm' => ?_⟩
      have ht' : TI seed m' (cnt D' m') D' := ht'
      have hc' : cnt D' m' ≤ cnt D m + 1 := hc'
      (conv => whnf)
      refine ⟨fun _ => ?_, fun g => Bool.noConfusion (show false = true from g)⟩
      (conv => whnf)
      refine ⟨(seed, m', D'), [7, 8, 9, 10], ht', rfl, by (repeat' (first | exact True.intro | rfl | assumption | (refine And.intro ?_ ?_) | (intro _ _; rfl) | ((conv => whnf); (first | exact True.intro | (refine And.intro ?_ ?_))))), by (repeat' (first | exact True.intro | rfl | assumption | (refine And.intro ?_ ?_) | (intro _ _; rfl) | ((conv => whnf); (first | exact True.intro | (refine And.intro ?_ ?_))))), ?_⟩
      (conv => whnf)
      refine ⟨fun g => Bool.noConfusion (show false = true from g), fun _ => ?_⟩
      (conv => whnf)
      refine ⟨(i + 1, m', D'), [some 7, some 8, some 9, some 10, some 5], by show l.length - (i + 1) < l.length - i; omega, ⟨by show i + 1 ≤ l.length; omega, ht', by show cnt D' m' ≤ i + 1; omega, hm'⟩, ?_⟩
      (repeat' (first | exact True.intro | rfl | assumption | (refine And.intro ?_ ?_) | (intro _ _; rfl) | ((conv => whnf); (first | exact True.intro | (refine And.intro ?_ ?_)))))
      exact (wrap_inc hi2 (by omega)).symm
    · intro h
      (conv => whnf)
      have hi2 : i = l.length := by have := dec_ge h; omega
      refine ⟨[], _, _, hR, ?_⟩
      (repeat' (first | exact True.intro | rfl | assumption | (refine And.intro ?_ ?_) | (intro _ _; rfl) | ((conv => whnf); (first | exact True.intro | (refine And.intro ?_ ?_)))))
end Go.Proofs.Ytfkolddpfpjeeaa
