/- RecentPlays: the loop. -/
import Derived.Test.YtollflfkgcgdkaaRcLaw
import Derived.Test.YtollflfkgcgdkaaSyTop
import Derived.Test.YtollflfkgcgdkaaAeB
namespace Go.Proofs.Ytollflfkgcgdkaa
open Go Go.RowKit Sy
set_option maxRecDepth 100000

theorem knownGood : Ae.good Try.prog Ae.noFacts 100000 16 [] = true := by kernel_rfl
theorem known_any (w : World) : Calls Try.prog 16 #[] w fun e w' => e = .returned (.bool true) ∧ Below w.heap.size w w' :=
  Ae.good_known (by kernel_rfl) (by kernel_rfl) knownGood w
theorem con11 : ConOk Try.prog (conOf [(16, trueT), (8, SNew.T), (21, SDo.T), (22, SLooks.T)]) :=
  conOf_cons (true_ok ⟨_, Try.func16, rfl⟩ known_any) (conOf_cons (LSpec.call SNew_nt SNew_ok) (conOf_cons (LSpec.call SDo_nt SDo_ok) (conOf_cons (LSpec.call SLooks_nt SLooks_ok) conOf_nil)))

def actC (a : Int × Int) : List V := [.int .i64 a.1, .int .i64 a.2]
def actO (c : Obj) (l : List (Int × Int)) (e : TypeId) : SObj := .ro c l.length (fun j => actC (l.getD j (0, 0))) e 2
def hist (l : List (Int × Int)) (i : Nat) : List Int := (l.take i).foldl acts []
theorem acts_len (l : List Int) (a : Int × Int) : (acts l a).length ≤ l.length + 1 := by
  have hw := wo_length l a.2
  unfold acts
  repeat' split
  all_goals (try simp only [List.length_append, List.length_cons, List.length_nil]); omega
theorem hist_succ {l : List (Int × Int)} {i : Nat} (h : i < l.length) : hist l (i + 1) = acts (hist l i) (l.getD i (0, 0)) := by
  unfold hist
  rw [List.take_succ_eq_append_getElem h, List.foldl_append]
  have : l.getD i (0, 0) = l[i] := by simp [h]
  rw [this]
  rfl
theorem hist_len (l : List (Int × Int)) : ∀ i, (hist l i).length ≤ i
  | 0 => by simp [hist]
  | i + 1 => by
    rcases Nat.lt_or_ge i l.length with h | h
    · rw [hist_succ h]
      have := acts_len (hist l i) (l.getD i (0, 0))
      have := hist_len l i
      omega
    · have : hist l (i + 1) = hist l i := by unfold hist; rw [List.take_of_length_le (by omega), List.take_of_length_le h]
      rw [this]
      have := hist_len l i
      omega

def SPlays : LSpec where
  X := Obj × List (Int × Int) × TypeId
  k := 1
  pre _ := True
  args x θ := [.sl (θ 0) 0 2 x.2.1.length false]
  objs x _ := [actO x.1 x.2.1 x.2.2]
  out x _ R := R (.sb true) [some (actO x.1 x.2.1 x.2.2)]
theorem SPlays_top : SPlays.Top Try.prog 5 := by
  refine LSpec.top noGo mixed con11 Try.func5 rfl (by kernel_rfl) fun ⟨c, l, e⟩ R _ hR => ?_
  (conv => whnf)
  constructor
  · intro h
    (conv => whnf)
    refine ⟨[], _, _, hR, ?_⟩
    (repeat' (first | exact True.intro | rfl | assumption | exact ent_keep _ _ | (refine And.intro ?_ ?_) | (intro _ _; rfl) | ((conv => whnf); (first | exact True.intro | (refine And.intro ?_ ?_)))))
  · intro h
    have hl : l.length ≤ 100 := by simp at h; omega
    (conv => whnf)
    refine ⟨(), [], trivial, rfl, by (repeat' (first | exact True.intro | rfl | assumption | exact ent_keep _ _ | (refine And.intro ?_ ?_) | (intro _ _; rfl) | ((conv => whnf); (first | exact True.intro | (refine And.intro ?_ ?_))))), by (repeat' (first | exact True.intro | rfl | assumption | exact ent_keep _ _ | (refine And.intro ?_ ?_) | (intro _ _; rfl) | ((conv => whnf); (first | exact True.intro | (refine And.intro ?_ ?_))))), fun L hL => ?_⟩
    (conv => whnf)
    refine .inl ⟨Nat × Ent × Bool, fun x => [(0, .sl 0 0 2 l.length false), (3, .ptr 1 0), (4, slI 3 (hist l x.1) x.2.2), (15, .sl 0 0 2 l.length false), (16, i64 l.length), (17, i64 x.1)],
      fun x => [some (actO c l e), some (rcC 2), some (rcM x.2.1), some (rowO (hist l x.1))], fun x => l.length - x.1, fun x => x.1 ≤ l.length ∧ Ring x.2.1 (hist l x.1), 4, ⟨(0, L, false), [some 1, some 2, none], ?_, ?_⟩, fun _ => rfl, fun ⟨i, L, full⟩ ⟨hi, hr⟩ => ?_⟩
    · exact ⟨Nat.zero_le _, hL⟩
    · (repeat' (first | exact True.intro | rfl | assumption | exact ent_keep _ _ | (refine And.intro ?_ ?_) | (intro _ _; rfl) | ((conv => whnf); (first | exact True.intro | (refine And.intro ?_ ?_)))))
    have hhl := hist_len l i
    have hi : i ≤ l.length := hi
    (conv => whnf)
    constructor
    · intro h
      (conv => whnf)
      have hi2 := dec_lt h
      refine ⟨by simp, by simpa using h, by simpa using h, ?_⟩
      (conv => whnf)
      refine ⟨((L, hist l i), full, l.getD (0 + (i : Int).toNat) (0, 0)), [1, 2, 3], ⟨hr, by show (hist l i).length < 10000; omega⟩, rfl, by (repeat' (first | exact True.intro | rfl | assumption | exact ent_keep _ _ | (refine And.intro ?_ ?_) | (intro _ _; rfl) | ((conv => whnf); (first | exact True.intro | (refine And.intro ?_ ?_))))), by (repeat' (first | exact True.intro | rfl | assumption | exact ent_keep _ _ | (refine And.intro ?_ ?_) | (intro _ _; rfl) | ((conv => whnf); (first | exact True.intro | (refine And.intro ?_ ?_))))), ?_⟩
      have hs : hist l (i + 1) = acts (hist l i) (l.getD (0 + (i : Int).toNat) (0, 0)) := by rw [hist_succ hi2]; congr 1; simp
      have hal := acts_len (hist l i) (l.getD (0 + (i : Int).toNat) (0, 0))
      intro L' hL'
      have hL' : Ring L' (acts (hist l i) (l.getD (0 + (i : Int).toNat) (0, 0))) := hL'
      refine ⟨fun ea => ?_, ?_, fun ea => ?_⟩
      · have ea : acts (hist l i) (l.getD (0 + (i : Int).toNat) (0, 0)) = hist l i := ea
        have he : hist l (i + 1) = hist l i := by rw [hs, ea]
        have hL2 : Ring L' (hist l i) := by rw [← ea]; exact hL'
        (conv => whnf)
        refine ⟨fun _ => ?_, fun h => Bool.noConfusion (show false = true from h)⟩
        (conv => whnf)
        refine ⟨((L', hist l i), full, (l.getD (0 + (i : Int).toNat) (0, 0)).2), [1, 2, 3], ⟨hL2, by show (hist l i).length < 10000; omega⟩, rfl, by (repeat' (first | exact True.intro | rfl | assumption | exact ent_keep _ _ | (refine And.intro ?_ ?_) | (intro _ _; rfl) | ((conv => whnf); (first | exact True.intro | (refine And.intro ?_ ?_))))), by (repeat' (first | exact True.intro | rfl | assumption | exact ent_keep _ _ | (refine And.intro ?_ ?_) | (intro _ _; rfl) | ((conv => whnf); (first | exact True.intro | (refine And.intro ?_ ?_))))), ?_⟩
        (conv => whnf)
        refine ⟨fun h => Bool.noConfusion (show false = true from h), fun _ => ?_⟩
        (conv => whnf)
        refine ⟨(i + 1, L', full), [some 1, some 2, some 3], by show l.length - (i + 1) < l.length - i; omega, ⟨by show i + 1 ≤ l.length; omega, by show Ring L' (hist l (i + 1)); rw [hs, ea]; exact hL2⟩, ?_⟩
        refine ⟨rfl, ?_, ?_⟩
        · (repeat' (first | exact True.intro | rfl | assumption | exact ent_keep _ _ | (refine And.intro ?_ ?_) | (intro _ _; rfl) | ((conv => whnf); (first | exact True.intro | (refine And.intro ?_ ?_)))))
          · exact congrArg List.length he
          · exact fun j _ => congrArg (rowI · j) he
        · (repeat' (first | exact True.intro | rfl | assumption | exact ent_keep _ _ | (refine And.intro ?_ ?_) | (intro _ _; rfl) | ((conv => whnf); (first | exact True.intro | (refine And.intro ?_ ?_)))))
          · exact congrArg List.length he
          · exact (wrap_inc hi2 (by omega)).symm
      · have he := hs
        (conv => whnf)
        refine ⟨fun _ => ?_, fun h => Bool.noConfusion (show false = true from h)⟩
        (conv => whnf)
        refine ⟨((L', acts (hist l i) (l.getD (0 + (i : Int).toNat) (0, 0))), false, (l.getD (0 + (i : Int).toNat) (0, 0)).2), [1, 2, 5], ⟨hL', by show (acts (hist l i) (l.getD (0 + (i : Int).toNat) (0, 0))).length < 10000; omega⟩, rfl, by (repeat' (first | exact True.intro | rfl | assumption | exact ent_keep _ _ | (refine And.intro ?_ ?_) | (intro _ _; rfl) | ((conv => whnf); (first | exact True.intro | (refine And.intro ?_ ?_))))), by (repeat' (first | exact True.intro | rfl | assumption | exact ent_keep _ _ | (refine And.intro ?_ ?_) | (intro _ _; rfl) | ((conv => whnf); (first | exact True.intro | (refine And.intro ?_ ?_))))), ?_⟩
        (conv => whnf)
        refine ⟨fun h => Bool.noConfusion (show false = true from h), fun _ => ?_⟩
        (conv => whnf)
        refine ⟨(i + 1, L', false), [some 1, some 2, some 5], by show l.length - (i + 1) < l.length - i; omega, ⟨by show i + 1 ≤ l.length; omega, by show Ring L' (hist l (i + 1)); rw [hs]; exact hL'⟩, ?_⟩
        refine ⟨rfl, ?_, ?_⟩
        · (repeat' (first | exact True.intro | rfl | assumption | exact ent_keep _ _ | (refine And.intro ?_ ?_) | (intro _ _; rfl) | ((conv => whnf); (first | exact True.intro | (refine And.intro ?_ ?_)))))
          · exact congrArg List.length he
          · exact fun j _ => congrArg (rowI · j) he
        · (repeat' (first | exact True.intro | rfl | assumption | exact ent_keep _ _ | (refine And.intro ?_ ?_) | (intro _ _; rfl) | ((conv => whnf); (first | exact True.intro | (refine And.intro ?_ ?_)))))
          · exact congrArg List.length he
          · exact (wrap_inc hi2 (by omega)).symm
      · have ea : acts (hist l i) (l.getD (0 + (i : Int).toNat) (0, 0)) = hist l i := ea
        have he : hist l (i + 1) = hist l i := by rw [hs, ea]
        have hL2 : Ring L' (hist l i) := by rw [← ea]; exact hL'
        (conv => whnf)
        refine ⟨fun _ => ?_, fun h => Bool.noConfusion (show false = true from h)⟩
        (conv => whnf)
        refine ⟨((L', hist l i), full, (l.getD (0 + (i : Int).toNat) (0, 0)).2), [5, 6, 3], ⟨hL2, by show (hist l i).length < 10000; omega⟩, rfl, by (repeat' (first | exact True.intro | rfl | assumption | exact ent_keep _ _ | (refine And.intro ?_ ?_) | (intro _ _; rfl) | ((conv => whnf); (first | exact True.intro | (refine And.intro ?_ ?_))))), by (repeat' (first | exact True.intro | rfl | assumption | exact ent_keep _ _ | (refine And.intro ?_ ?_) | (intro _ _; rfl) | ((conv => whnf); (first | exact True.intro | (refine And.intro ?_ ?_))))), ?_⟩
        (conv => whnf)
        refine ⟨fun h => Bool.noConfusion (show false = true from h), fun _ => ?_⟩
        (conv => whnf)
        refine ⟨(i + 1, L', full), [some 5, some 6, some 3], by show l.length - (i + 1) < l.length - i; omega, ⟨by show i + 1 ≤ l.length; omega, by show Ring L' (hist l (i + 1)); rw [hs, ea]; exact hL2⟩, ?_⟩
        refine ⟨rfl, ?_, ?_⟩
        · (repeat' (first | exact True.intro | rfl | assumption | exact ent_keep _ _ | (refine And.intro ?_ ?_) | (intro _ _; rfl) | ((conv => whnf); (first | exact True.intro | (refine And.intro ?_ ?_)))))
          · exact congrArg List.length he
          · exact fun j _ => congrArg (rowI · j) he
        · (repeat' (first | exact True.intro | rfl | assumption | exact ent_keep _ _ | (refine And.intro ?_ ?_) | (intro _ _; rfl) | ((conv => whnf); (first | exact True.intro | (refine And.intro ?_ ?_)))))
          · exact congrArg List.length he
          · exact (wrap_inc hi2 (by omega)).symm
    · intro h
      (conv => whnf)
      have hi2 : i = l.length := by have := dec_ge h; omega
      refine ⟨[], _, _, hR, ?_⟩
      (repeat' (first | exact True.intro | rfl | assumption | exact ent_keep _ _ | (refine And.intro ?_ ?_) | (intro _ _; rfl) | ((conv => whnf); (first | exact True.intro | (refine And.intro ?_ ?_)))))
end Go.Proofs.Ytollflfkgcgdkaa
