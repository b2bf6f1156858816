/- RecentHolds: the walk. -/
import Derived.Test.YtollflfkgcgdkaaRcPlays
import Derived.Test.YtollflfkgcgdkaaRcWhen
namespace Go.Proofs.Ytollflfkgcgdkaa
open Go Go.RowKit Sy
set_option maxRecDepth 100000

def whO (E : WhE) : SObj := .map (.i .i64) (whE E)
theorem con12 : ConOk Try.prog (conOf [(16, trueT), (8, SNew.T), (10, SRAdd.T), (12, SRRem.T), (11, SRUse.T), (18, SROld.T), (19, SRNext.T), (20, SLAll.T)]) :=
  conOf_cons (true_ok ⟨_, Try.func16, rfl⟩ known_any) (conOf_cons (LSpec.call SNew_nt SNew_ok) (conOf_cons (LSpec.call SRAdd_nt SRAdd_ok) (conOf_cons (LSpec.call SRRem_nt SRRem_ok) (conOf_cons (LSpec.call SRUse_nt SRUse_ok) (conOf_cons (LSpec.call SROld_nt SROld_ok) (conOf_cons (LSpec.call SRNext_nt SRNext_ok) (conOf_cons (LSpec.call SLAll_nt SLAll_ok) conOf_nil)))))))

theorem rem_ok {l : List Int} {n : Int} (e : remE l n = 0) : n ∈ l := by
  unfold remE at e
  split at e
  · omega
  · split at e
    · omega
    · rename_i h; exact Decidable.byContradiction h
theorem rem_in {L : Ent} {l : List Int} (h : Ring L l) {n : Int} (hn : n ∈ l) : remE l n = 0 := by
  unfold remE
  rw [if_neg (not_not_intro (h.slots n hn)), if_neg (not_not_intro hn)]
theorem nd_get {l : List Int} (h : l.Nodup) {j k : Nat} (hj : j < l.length) (hk : k < l.length) (e : l.getD j 0 = l.getD k 0) : j = k := by
  have e : l[j] = l[k] := by simpa [hj, hk] using e
  rcases Nat.lt_trichotomy j k with g | g | g
  · exact absurd e (List.pairwise_iff_getElem.1 h j k hj hk g)
  · exact g
  · exact absurd e.symm (List.pairwise_iff_getElem.1 h k j hk hj g)
theorem mem_get {l : List Int} {j : Nat} (hj : j < l.length) : l.getD j 0 ∈ l := by simp [hj]
theorem next_at {L : Ent} {l : List Int} (h : Ring L l) {j : Nat} (hj : j < l.length) : (j + 1 < l.length → nextV l (l.getD j 0) = l.getD (j + 1) 0 ∧ nextE l (l.getD j 0) = 0) ∧ (j + 1 = l.length → nextE l (l.getD j 0) ≠ 0) := by
  obtain ⟨k, h1, h2, h3, _⟩ := atI_at (i := 0) (mem_get hj)
  have hk : k = j := nd_get h.ndl h2 hj h3
  subst hk
  have e1 : atI l (l.getD k 0) 0 = k := by omega
  have e : nextE l (l.getD k 0) = if (k : Int) = (l.length : Int) - 1 then 16 else 0 := by
    unfold nextE
    rw [if_neg (not_not_intro (h.slots _ (mem_get hj))), if_neg (not_not_intro (mem_get hj)), e1]
  refine ⟨fun g => ?_, fun g => ?_⟩
  · rw [if_neg (by omega)] at e
    refine ⟨?_, e⟩
    unfold nextV
    rw [if_pos e, e1]
    congr 1
  · rw [e, if_pos (by omega)]
    decide
structure HInv (L : Ent) (l : List Int) (E : WhE) (i : Nat) : Prop where
  ring : Ring L l
  when : When E l i
  len : l.length ≤ i
def SHolds : LSpec where
  X := Obj × List (Int × Int) × TypeId
  k := 1
  pre _ := True
  args x θ := [.sl (θ 0) 0 2 x.2.1.length false]
  objs x _ := [actO x.1 x.2.1 x.2.2]
  out x _ R := R (.sb true) [some (actO x.1 x.2.1 x.2.2)]
set_option maxHeartbeats 2000000 in
theorem SHolds_top : SHolds.Top Try.prog 4 := by
  refine LSpec.topC [11, 27] noGo mixed con12 Try.func4 rfl (by kernel_rfl) fun ⟨c, l, e⟩ R _ hR => ?_
  (conv => whnf)
  constructor
  · intro h
    (conv => whnf)
    refine ⟨[], _, _, hR, ?_⟩
    (repeat' (first | exact True.intro | rfl | assumption | exact ent_keep _ _ | exact whE_keep _ _ | (refine And.intro ?_ ?_) | (intro _ _; rfl) | ((conv => whnf); (first | exact True.intro | (refine And.intro ?_ ?_)))))
  · intro h
    have hl : l.length ≤ 100 := by simp at h; omega
    (conv => whnf)
    refine ⟨(), [], trivial, rfl, by (repeat' (first | exact True.intro | rfl | assumption | exact ent_keep _ _ | exact whE_keep _ _ | (refine And.intro ?_ ?_) | (intro _ _; rfl) | ((conv => whnf); (first | exact True.intro | (refine And.intro ?_ ?_))))), by (repeat' (first | exact True.intro | rfl | assumption | exact ent_keep _ _ | exact whE_keep _ _ | (refine And.intro ?_ ?_) | (intro _ _; rfl) | ((conv => whnf); (first | exact True.intro | (refine And.intro ?_ ?_))))), fun L hL => ?_⟩
    (conv => whnf)
    refine .inl ⟨Nat × Ent × List Int × WhE, fun x => [(3, .ptr 1 0), (4, .mp 3), (25, .sl 0 0 2 l.length false), (26, i64 l.length), (27, i64 x.1)],
      fun x => [some (actO c l e), some (rcC 2), some (rcM x.2.1), some (whO x.2.2.2)], fun x => l.length - x.1, fun x => x.1 ≤ l.length ∧ HInv x.2.1 x.2.2.1 x.2.2.2 x.1, 4, ⟨(0, L, [], []), [some 1, some 2, some 3], ?_, ?_⟩, fun _ => rfl, fun ⟨i, L, o, E⟩ ⟨hi, hr⟩ => ?_⟩
    · exact ⟨Nat.zero_le _, hL, When.none, Nat.le_refl _⟩
    · (repeat' (first | exact True.intro | rfl | assumption | exact ent_keep _ _ | exact whE_keep _ _ | (refine And.intro ?_ ?_) | (intro _ _; rfl) | ((conv => whnf); (first | exact True.intro | (refine And.intro ?_ ?_)))))
    have hi : i ≤ l.length := hi
    have hr : HInv L o E i := hr
    have hring := hr.ring
    have hlen := hr.len
    (conv => whnf)
    constructor
    · intro h
      (conv => whnf)
      have hi2 := dec_lt h
      refine ⟨by simp, by simpa using h, by simpa using h, ?_⟩
      (conv => whnf)
      refine ⟨Unit, fun _ => [(3, .ptr 1 0), (4, .mp 3), (5, i64 i), (6, .ptr 4 0), (8, .sb (decide ((l.getD (0 + (i : Int).toNat) (0, 0)).2 ∈ o))), (25, .sl 0 0 2 l.length false), (26, i64 l.length), (27, i64 i)],
        fun _ => [some (actO c l e), some (rcC 2), some (rcM L), some (whO E), some (.cells (actC (l.getD (0 + (i : Int).toNat) (0, 0))) 34)], fun _ => True, 5, fun _ => rfl, ?_, fun _ _ => ?_⟩
      · (conv => whnf)
        constructor
        · intro v hv
          obtain ⟨p, hq, rfl⟩ := whE_some hv
          have e1 : decide ((l.getD (0 + (i : Int).toNat) (0, 0)).2 ∈ o) = true := decide_eq_true ((hr.when.has _).1 (by rw [hq]; simp))
          (conv => whnf)
          refine ⟨(), [some 1, some 2, some 3, some 4], trivial, ?_⟩
          (repeat' (first | exact True.intro | rfl | assumption | exact ent_keep _ _ | exact whE_keep _ _ | (refine And.intro ?_ ?_) | (intro _ _; rfl) | ((conv => whnf); (first | exact True.intro | (refine And.intro ?_ ?_)))))
        · intro hv
          have hv := whE_none hv
          have e1 : decide ((l.getD (0 + (i : Int).toNat) (0, 0)).2 ∈ o) = false := decide_eq_false fun g => (hr.when.has _).2 g hv
          (conv => whnf)
          refine ⟨(), [some 1, some 2, some 3, some 4], trivial, ?_⟩
          (repeat' (first | exact True.intro | rfl | assumption | exact ent_keep _ _ | exact whE_keep _ _ | (refine And.intro ?_ ?_) | (intro _ _; rfl) | ((conv => whnf); (first | exact True.intro | (refine And.intro ?_ ?_)))))
      (conv => whnf)
      generalize l.getD (0 + (i : Int).toNat) (0, 0) = a
      refine ⟨Ent × List Int × WhE, fun _ => [(3, .ptr 1 0), (4, .mp 3), (25, .sl 0 0 2 l.length false), (26, i64 l.length), (27, i64 i)],
        fun x => [some (actO c l e), some (rcC 2), some (rcM x.1), some (whO x.2.2)], fun x => HInv x.1 x.2.1 x.2.2 (i + 1), 4, fun _ => rfl, ?_, fun ⟨L, o, E⟩ hr => ?_⟩
      · (conv => whnf)
        constructor
        · intro h
          have h0 := of_decide_eq_true h
          (conv => whnf)
          refine ⟨(L, o, a.2), [1, 2], hring, rfl, by (repeat' (first | exact True.intro | rfl | assumption | exact ent_keep _ _ | exact whE_keep _ _ | (refine And.intro ?_ ?_) | (intro _ _; rfl) | ((conv => whnf); (first | exact True.intro | (refine And.intro ?_ ?_))))), by (repeat' (first | exact True.intro | rfl | assumption | exact ent_keep _ _ | exact whE_keep _ _ | (refine And.intro ?_ ?_) | (intro _ _; rfl) | ((conv => whnf); (first | exact True.intro | (refine And.intro ?_ ?_))))), ?_⟩
          (conv => whnf)
          refine ⟨fun e0 L' hL' => ?_, fun e0 => ?_⟩
          · have e0 : addE o a.2 = 0 := e0
            have hL' : Ring L' (o ++ [a.2]) := hL'
            have hn : a.2 ∉ o := fun g => by unfold addE at e0; split at e0; · omega
                                             simp at e0
            (conv => whnf)
            (repeat' (refine And.intro (fun hh => ?_) (fun hh => ?_) <;> first | (exfalso; simp [*] at hh; done) | (exfalso; simp_all; done) | (conv => whnf)))
            refine ⟨whE (Al.st a.2 i E), (Al.setE_ents ki a.2 (i : Int) E).symm, ?_⟩
            (conv => whnf)
            have hw := hr.when.put hring.ndl a.2
            rw [wo_no hn] at hw
            refine ⟨(L', o ++ [a.2], Al.st a.2 i E), [some 1, some 2, some 3], ⟨hL', hw, by show (o ++ [a.2]).length ≤ i + 1; simp; omega⟩, ?_⟩
            (repeat' (first | exact True.intro | rfl | assumption | exact ent_keep _ _ | exact whE_keep _ _ | (refine And.intro ?_ ?_) | (intro _ _; rfl) | ((conv => whnf); (first | exact True.intro | (refine And.intro ?_ ?_)))))
          · have e0 : ¬ addE o a.2 = 0 := e0
            have e11 : addE o a.2 = 11 → a.2 ∈ o := fun g => by unfold addE at g; split at g; · omega
                                                                split at g; · assumption
                                                                omega
            (conv => whnf)
            (repeat' (refine And.intro (fun hh => ?_) (fun hh => ?_) <;> first | (exfalso; simp [*] at hh; done) | (exfalso; simp_all; done) | (conv => whnf)))
            all_goals (refine ⟨(L, o, E), [some 1, some 2, some 3], ⟨hring, hr.when.more, by show o.length ≤ i + 1; omega⟩, ?_⟩; (repeat' (first | exact True.intro | rfl | assumption | exact ent_keep _ _ | exact whE_keep _ _ | (refine And.intro ?_ ?_) | (intro _ _; rfl) | ((conv => whnf); (first | exact True.intro | (refine And.intro ?_ ?_))))))
        · intro h
          have h0 := of_decide_eq_false h
          (conv => whnf)
          constructor
          · intro h
            have h1 := of_decide_eq_true h
            (conv => whnf)
            refine ⟨(L, o, a.2), [1, 2], hring, rfl, by (repeat' (first | exact True.intro | rfl | assumption | exact ent_keep _ _ | exact whE_keep _ _ | (refine And.intro ?_ ?_) | (intro _ _; rfl) | ((conv => whnf); (first | exact True.intro | (refine And.intro ?_ ?_))))), by (repeat' (first | exact True.intro | rfl | assumption | exact ent_keep _ _ | exact whE_keep _ _ | (refine And.intro ?_ ?_) | (intro _ _; rfl) | ((conv => whnf); (first | exact True.intro | (refine And.intro ?_ ?_))))), ?_⟩
            (conv => whnf)
            refine ⟨fun e0 L' hL' => ?_, fun e0 => ?_⟩
            · have e0 : remE o a.2 = 0 := e0
              have hL' : Ring L' (wo o a.2 ++ [a.2]) := hL'
              have hn : a.2 ∈ o := rem_ok e0
              (conv => whnf)
              (repeat' (refine And.intro (fun hh => ?_) (fun hh => ?_) <;> first | (exfalso; simp [*] at hh; done) | (exfalso; simp_all; done) | (conv => whnf)))
              refine ⟨whE (Al.st a.2 i E), (Al.setE_ents ki a.2 (i : Int) E).symm, ?_⟩
              (conv => whnf)
              have hw := hr.when.put hring.ndl a.2
              refine ⟨(L', wo o a.2 ++ [a.2], Al.st a.2 i E), [some 1, some 2, some 3], ⟨hL', hw, by show (wo o a.2 ++ [a.2]).length ≤ i + 1; have := wo_length o a.2; simp; omega⟩, ?_⟩
              (repeat' (first | exact True.intro | rfl | assumption | exact ent_keep _ _ | exact whE_keep _ _ | (refine And.intro ?_ ?_) | (intro _ _; rfl) | ((conv => whnf); (first | exact True.intro | (refine And.intro ?_ ?_)))))
            · have e0 : ¬ remE o a.2 = 0 := e0
              have hn : a.2 ∉ o := fun g => e0 (rem_in hring g)
              (conv => whnf)
              (repeat' (refine And.intro (fun hh => ?_) (fun hh => ?_) <;> first | (exfalso; simp [*] at hh; done) | (exfalso; simp_all; done) | (conv => whnf)))
              all_goals (refine ⟨(L, o, E), [some 1, some 2, some 3], ⟨hring, hr.when.more, by show o.length ≤ i + 1; omega⟩, ?_⟩; (repeat' (first | exact True.intro | rfl | assumption | exact ent_keep _ _ | exact whE_keep _ _ | (refine And.intro ?_ ?_) | (intro _ _; rfl) | ((conv => whnf); (first | exact True.intro | (refine And.intro ?_ ?_))))))
          · intro h
            have h1 := of_decide_eq_false h
            (conv => whnf)
            constructor
            · intro h
              have h2 := of_decide_eq_true h
              (conv => whnf)
              refine ⟨(L, o, a.2), [1, 2], hring, rfl, by (repeat' (first | exact True.intro | rfl | assumption | exact ent_keep _ _ | exact whE_keep _ _ | (refine And.intro ?_ ?_) | (intro _ _; rfl) | ((conv => whnf); (first | exact True.intro | (refine And.intro ?_ ?_))))), by (repeat' (first | exact True.intro | rfl | assumption | exact ent_keep _ _ | exact whE_keep _ _ | (refine And.intro ?_ ?_) | (intro _ _; rfl) | ((conv => whnf); (first | exact True.intro | (refine And.intro ?_ ?_))))), ?_⟩
              (conv => whnf)
              refine ⟨fun e0 L' hL' => ?_, fun e0 => ?_⟩
              · have e0 : remE o a.2 = 0 := e0
                have hL' : Ring L' (wo o a.2) := hL'
                have hn : a.2 ∈ o := rem_ok e0
                (conv => whnf)
                (repeat' (refine And.intro (fun hh => ?_) (fun hh => ?_) <;> first | (exfalso; simp [*] at hh; done) | (exfalso; simp_all; done) | (conv => whnf)))
                refine ⟨whE (Al.dl a.2 E), (Al.delE_ents ki a.2 E).symm, ?_⟩
                (conv => whnf)
                have hw := hr.when.del hring.ndl a.2
                refine ⟨(L', wo o a.2, Al.dl a.2 E), [some 1, some 2, some 3], ⟨hL', hw, by show (wo o a.2).length ≤ i + 1; have := wo_length o a.2; omega⟩, ?_⟩
                (repeat' (first | exact True.intro | rfl | assumption | exact ent_keep _ _ | exact whE_keep _ _ | (refine And.intro ?_ ?_) | (intro _ _; rfl) | ((conv => whnf); (first | exact True.intro | (refine And.intro ?_ ?_)))))
              · have e0 : ¬ remE o a.2 = 0 := e0
                have hn : a.2 ∉ o := fun g => e0 (rem_in hring g)
                have hd : Al.dl a.2 E = E := Al.dl_no (Classical.byContradiction fun q => hn ((hr.when.has _).1 q))
                (conv => whnf)
                (repeat' (refine And.intro (fun hh => ?_) (fun hh => ?_) <;> first | (exfalso; simp [*] at hh; done) | (exfalso; simp_all; done) | (conv => whnf)))
                refine ⟨whE (Al.dl a.2 E), (Al.delE_ents ki a.2 E).symm, ?_⟩
                rw [hd]
                (conv => whnf)
                (refine ⟨(L, o, E), [some 1, some 2, some 3], ⟨hring, hr.when.more, by show o.length ≤ i + 1; omega⟩, ?_⟩; (repeat' (first | exact True.intro | rfl | assumption | exact ent_keep _ _ | exact whE_keep _ _ | (refine And.intro ?_ ?_) | (intro _ _; rfl) | ((conv => whnf); (first | exact True.intro | (refine And.intro ?_ ?_))))))
            · intro h
              (conv => whnf)
              (refine ⟨(L, o, E), [some 1, some 2, some 3], ⟨hring, hr.when.more, by show o.length ≤ i + 1; omega⟩, ?_⟩; (repeat' (first | exact True.intro | rfl | assumption | exact ent_keep _ _ | exact whE_keep _ _ | (refine And.intro ?_ ?_) | (intro _ _; rfl) | ((conv => whnf); (first | exact True.intro | (refine And.intro ?_ ?_))))))
      have hr : HInv L o E (i + 1) := hr
      have hring := hr.ring
      have hlen := hr.len
      have hel := hr.when.len
      (conv => whnf)
      refine ⟨(L, o), [1, 2], ⟨hring, by show o.length < 1000000; omega⟩, rfl, by (repeat' (first | exact True.intro | rfl | assumption | exact ent_keep _ _ | exact whE_keep _ _ | (refine And.intro ?_ ?_) | (intro _ _; rfl) | ((conv => whnf); (first | exact True.intro | (refine And.intro ?_ ?_))))), by (repeat' (first | exact True.intro | rfl | assumption | exact ent_keep _ _ | exact whE_keep _ _ | (refine And.intro ?_ ?_) | (intro _ _; rfl) | ((conv => whnf); (first | exact True.intro | (refine And.intro ?_ ?_))))), ?_⟩
      (conv => whnf)
      refine .inl ⟨Nat × Int × Int, fun x => [(3, .ptr 1 0), (4, .mp 3), (10, slI 4 (o.take x.1) false), (11, i64 x.2.1), (12, i64 x.2.2), (25, .sl 0 0 2 l.length false), (26, i64 l.length), (27, i64 i)],
        fun x => [some (actO c l e), some (rcC 2), some (rcM L), some (whO E), some (rowO (o.take x.1))], fun x => o.length - x.1, fun x => x.1 ≤ o.length ∧ (x.1 < o.length → x.2.1 = o.getD x.1 0 ∧ x.2.2 = 0) ∧ (x.1 = o.length → x.2.2 ≠ 0), 5, ⟨(0, oldV o, oldE o), [some 1, some 2, some 3, none], ?_, ?_⟩, fun _ => rfl, fun ⟨j, v, ev⟩ ⟨hj, hj1, hj2⟩ => ?_⟩
      · refine ⟨Nat.zero_le _, fun h => ⟨rfl, ?_⟩, fun h => ?_⟩
        · have h : 0 < o.length := h
          show oldE o = 0
          unfold oldE
          rw [if_neg (by omega)]
        · have h : 0 = o.length := h
          show oldE o ≠ 0
          unfold oldE
          rw [if_pos (by omega)]
          decide
      · (repeat' (first | exact True.intro | rfl | assumption | exact ent_keep _ _ | exact whE_keep _ _ | (refine And.intro ?_ ?_) | (intro _ _; rfl) | ((conv => whnf); (first | exact True.intro | (refine And.intro ?_ ?_)))))
      have hj : j ≤ o.length := hj
      have hj1 : j < o.length → v = o.getD j 0 ∧ ev = 0 := hj1
      have hj2 : j = o.length → ev ≠ 0 := hj2
      have c1 : ((o.take j).length : Int) ≤ ((whE E).length : Int) := by rw [whE_len, List.length_take]; omega
      rcases Nat.lt_or_ge j o.length with hlt | hge
      · obtain ⟨rfl, rfl⟩ := hj1 hlt
        have hw : (o.take j).length ≤ j := by rw [List.length_take]; omega
        (conv => whnf)
        (repeat' (refine And.intro (fun hh => ?_) (fun hh => ?_) <;> first | (exfalso; simp [*] at hh; done) | (exfalso; simp_all; done) | (conv => whnf)))
        refine ⟨some (rowI (o.take (j + 1))), ?_⟩
        (conv => whnf)
        refine ⟨by simp, by simp, app_small (by show (o.take j).length ≤ 1000000; omega), fun q hq => ?_, ?_⟩
        · show rowI (o.take (j + 1)) q = _
          rw [List.take_succ_eq_append_getElem hlt]
          have : o.getD j 0 = o[j] := by simp [hlt]
          rw [this]
          exact rowI_push _ _ q hq
        (conv => whnf)
        refine ⟨(L, o, o.getD j 0), [1, 2], hring, rfl, by (repeat' (first | exact True.intro | rfl | assumption | exact ent_keep _ _ | exact whE_keep _ _ | (refine And.intro ?_ ?_) | (intro _ _; rfl) | ((conv => whnf); (first | exact True.intro | (refine And.intro ?_ ?_))))), by (repeat' (first | exact True.intro | rfl | assumption | exact ent_keep _ _ | exact whE_keep _ _ | (refine And.intro ?_ ?_) | (intro _ _; rfl) | ((conv => whnf); (first | exact True.intro | (refine And.intro ?_ ?_))))), ?_⟩
        (conv => whnf)
        have e1 : (o.take (j + 1)).length = (o.take j).length + 1 := by rw [List.length_take, List.length_take]; omega
        refine ⟨(j + 1, nextV o (o.getD j 0), nextE o (o.getD j 0)), [some 1, some 2, some 3, some 6], by show o.length - (j + 1) < o.length - j; omega, ⟨by show j + 1 ≤ o.length; omega, next_at hring hlt⟩, ?_⟩
        (repeat' (first | exact True.intro | rfl | assumption | exact ent_keep _ _ | exact whE_keep _ _ | (refine And.intro ?_ ?_) | (intro _ _; rfl) | ((conv => whnf); (first | exact True.intro | (refine And.intro ?_ ?_)))))
      · have hje : j = o.length := by omega
        have hev := hj2 hje
        subst hje
        have c2 : ((o.take o.length).length : Int) = ((whE E).length : Int) := by rw [whE_len, List.length_take]; omega
        have ht := List.take_length (l := o)
        (conv => whnf)
        (repeat' (refine And.intro (fun hh => ?_) (fun hh => ?_) <;> first | (exfalso; simp [*] at hh; done) | (exfalso; simp_all; done) | (conv => whnf)))
        refine ⟨((L, o), (o.take o.length, false)), [1, 2, 4], ⟨hring, by show o.length < 1000000; omega⟩, rfl, by (repeat' (first | exact True.intro | rfl | assumption | exact ent_keep _ _ | exact whE_keep _ _ | (refine And.intro ?_ ?_) | (intro _ _; rfl) | ((conv => whnf); (first | exact True.intro | (refine And.intro ?_ ?_))))), by (repeat' (first | exact True.intro | rfl | assumption | exact ent_keep _ _ | exact whE_keep _ _ | (refine And.intro ?_ ?_) | (intro _ _; rfl) | ((conv => whnf); (first | exact True.intro | (refine And.intro ?_ ?_))))), ?_⟩
        (conv => whnf)
        (repeat' (refine And.intro (fun hh => ?_) (fun hh => ?_) <;> first | (exfalso; simp [*] at hh; done) | (exfalso; simp_all; done) | (conv => whnf)))
        refine .inl ⟨Nat, fun k => [(3, .ptr 1 0), (4, .mp 3), (10, slI 4 o false), (25, .sl 0 0 2 l.length false), (26, i64 l.length), (27, i64 i), (127, slI 4 o false), (128, i64 o.length), (129, i64 k)],
          fun _ => [some (actO c l e), some (rcC 2), some (rcM L), some (whO E), some (rowO o)], fun k => o.length - k, fun k => k ≤ o.length, 5, ⟨0, [some 1, some 2, some 3, some 4], Nat.zero_le _, ?_⟩, fun _ => rfl, fun k hk => ?_⟩
        · (repeat' (first | exact True.intro | rfl | assumption | exact ent_keep _ _ | exact whE_keep _ _ | (refine And.intro ?_ ?_) | (intro _ _; rfl) | ((conv => whnf); (first | exact True.intro | (refine And.intro ?_ ?_)))))
          all_goals first | exact congrArg List.length ht.symm | exact fun j _ => congrArg (rowI · j) ht.symm | exact congrArg (fun l : List Int => (l.length : Int)) ht.symm
        have hk : k ≤ o.length := hk
        (conv => whnf)
        constructor
        · intro h
          (conv => whnf)
          have hk2 := dec_lt h
          refine ⟨by simp, by simpa using h, by simpa using h, ?_⟩
          (conv => whnf)
          have e1 : o.getD (0 + (k : Int).toNat) 0 = o.getD k 0 := by simp
          constructor
          · intro v hv
            obtain ⟨p, hq, rfl⟩ := whE_some hv
            rw [e1] at hq
            have hp : p = whn E (o.getD k 0) := by rw [hr.when.at (mem_get hk2)] at hq; exact (Option.some.inj hq).symm
            subst hp
            (conv => whnf)
            constructor
            · intro h
              have h0 : 0 < k := by have := of_decide_eq_true h; omega
              have hw : IntKind.i64.wrap ((k : Int) - 1) = ((k - 1 : Nat) : Int) := by rw [wrap_id (by omega) (by omega)]; omega
              have e2 : o.getD (0 + (IntKind.i64.wrap ((k : Int) - 1)).toNat) 0 = o.getD (k - 1) 0 := by rw [hw]; simp
              have hk3 : k - 1 < o.length := by omega
              (conv => whnf)
              refine ⟨by rw [hw]; omega, by rw [hw]; omega, ?_⟩
              (conv => whnf)
              refine ⟨by rw [hw]; omega, ?_⟩
              (conv => whnf)
              constructor
              · intro v hv
                obtain ⟨p, hq, rfl⟩ := whE_some hv
                rw [e2] at hq
                have hp : p = whn E (o.getD (k - 1) 0) := by rw [hr.when.at (mem_get hk3)] at hq; exact (Option.some.inj hq).symm
                subst hp
                (conv => whnf)
                constructor
                · intro v hv
                  obtain ⟨p, hq, rfl⟩ := whE_some hv
                  rw [e1] at hq
                  have hp : p = whn E (o.getD k 0) := by rw [hr.when.at (mem_get hk2)] at hq; exact (Option.some.inj hq).symm
                  subst hp
                  have hlt : whn E (o.getD (k - 1) 0) < whn E (o.getD k 0) := by have := hr.when.asc (j := k - 1) (by omega); rwa [show k - 1 + 1 = k by omega] at this
                  have hge : decide (whn E (o.getD k 0) ≤ whn E (o.getD (k - 1) 0)) = false := decide_eq_false (by omega)
                  (conv => whnf)
                  refine ⟨fun hh => (by rw [hge] at hh; exact absurd hh (by decide)), fun hh => ?_⟩
                  (conv => whnf)
                  refine ⟨k + 1, [some 1, some 2, some 3, some 4], by show o.length - (k + 1) < o.length - k; omega, by show k + 1 ≤ o.length; omega, ?_⟩
                  (repeat' (first | exact True.intro | rfl | assumption | exact ent_keep _ _ | exact whE_keep _ _ | (refine And.intro ?_ ?_) | (intro _ _; rfl) | ((conv => whnf); (first | exact True.intro | (refine And.intro ?_ ?_)))))
                  exact (wrap_inc hk2 (by omega)).symm
                · intro hv
                  have hv := whE_none hv
                  rw [e1] at hv
                  exact absurd hv ((hr.when.has _).2 (mem_get hk2))
              · intro hv
                have hv := whE_none hv
                rw [e2] at hv
                exact absurd hv ((hr.when.has _).2 (mem_get hk3))
            · intro h
              have h0 : k = 0 := by have := of_decide_eq_false h; omega
              (conv => whnf)
              (repeat' (refine And.intro (fun hh => ?_) (fun hh => ?_) <;> first | (exfalso; simp [*] at hh; done) | (exfalso; simp_all; done) | (conv => whnf)))
              refine ⟨k + 1, [some 1, some 2, some 3, some 4], by show o.length - (k + 1) < o.length - k; omega, by show k + 1 ≤ o.length; omega, ?_⟩
              (repeat' (first | exact True.intro | rfl | assumption | exact ent_keep _ _ | exact whE_keep _ _ | (refine And.intro ?_ ?_) | (intro _ _; rfl) | ((conv => whnf); (first | exact True.intro | (refine And.intro ?_ ?_)))))
              exact (wrap_inc hk2 (by omega)).symm
          · intro hv
            have hv := whE_none hv
            rw [e1] at hv
            exact absurd hv ((hr.when.has _).2 (mem_get hk2))
        · intro h
          (conv => whnf)
          have hk2 := dec_ge h
          constructor
          · intro h
            have h0 : 0 < o.length := by have := of_decide_eq_true h; omega
            have hw : IntKind.i64.wrap ((o.length : Int) - 1) = ((o.length - 1 : Nat) : Int) := by rw [wrap_id (by omega) (by omega)]; omega
            have e2 : o.getD (0 + (IntKind.i64.wrap ((o.length : Int) - 1)).toNat) 0 = o.getD (o.length - 1) 0 := by rw [hw]; simp
            (conv => whnf)
            refine ⟨by rw [hw]; omega, by rw [hw]; omega, ?_⟩
            (conv => whnf)
            refine ⟨by rw [hw]; omega, ?_⟩
            (conv => whnf)
            have hm := mem_get (l := o) (j := o.length - 1) (by omega)
            have hm2 := rem_in hring hm
            have hwl := wo_last hring.ndl h0
            refine ⟨(L, o, o.getD (0 + (IntKind.i64.wrap ((o.length : Int) - 1)).toNat) 0), [1, 2], hring, rfl, by (repeat' (first | exact True.intro | rfl | assumption | exact ent_keep _ _ | exact whE_keep _ _ | (refine And.intro ?_ ?_) | (intro _ _; rfl) | ((conv => whnf); (first | exact True.intro | (refine And.intro ?_ ?_))))), by (repeat' (first | exact True.intro | rfl | assumption | exact ent_keep _ _ | exact whE_keep _ _ | (refine And.intro ?_ ?_) | (intro _ _; rfl) | ((conv => whnf); (first | exact True.intro | (refine And.intro ?_ ?_))))), ?_⟩
            (conv => whnf)
            refine ⟨fun e0 L' hL' => ?_, fun e0 => ?_⟩
            · have hL' : Ring L' (wo o (o.getD (0 + (IntKind.i64.wrap ((o.length : Int) - 1)).toNat) 0) ++ [o.getD (0 + (IntKind.i64.wrap ((o.length : Int) - 1)).toNat) 0]) := hL'
              rw [e2, hwl] at hL'
              (conv => whnf)
              (repeat' (refine And.intro (fun hh => ?_) (fun hh => ?_) <;> first | (exfalso; simp [*] at hh; done) | (exfalso; simp_all; done) | (conv => whnf)))
              refine ⟨((L', o), (o, false)), [1, 2, 4], ⟨hL', by show o.length < 1000000; omega⟩, rfl, by (repeat' (first | exact True.intro | rfl | assumption | exact ent_keep _ _ | exact whE_keep _ _ | (refine And.intro ?_ ?_) | (intro _ _; rfl) | ((conv => whnf); (first | exact True.intro | (refine And.intro ?_ ?_))))), by (repeat' (first | exact True.intro | rfl | assumption | exact ent_keep _ _ | exact whE_keep _ _ | (refine And.intro ?_ ?_) | (intro _ _; rfl) | ((conv => whnf); (first | exact True.intro | (refine And.intro ?_ ?_))))), ?_⟩
              (conv => whnf)
              (repeat' (refine And.intro (fun hh => ?_) (fun hh => ?_) <;> first | (exfalso; simp [*] at hh; done) | (exfalso; simp_all; done) | (conv => whnf)))
              refine ⟨(i + 1, L', o, E), [some 1, some 2, some 3], by show l.length - (i + 1) < l.length - i; omega, ⟨by show i + 1 ≤ l.length; omega, { hr with ring := hL' }⟩, ?_⟩
              (repeat' (first | exact True.intro | rfl | assumption | exact ent_keep _ _ | exact whE_keep _ _ | (refine And.intro ?_ ?_) | (intro _ _; rfl) | ((conv => whnf); (first | exact True.intro | (refine And.intro ?_ ?_)))))
              exact (wrap_inc hi2 (by omega)).symm
            · exact absurd (show remE o (o.getD (0 + (IntKind.i64.wrap ((o.length : Int) - 1)).toNat) 0) = 0 by rw [e2]; exact hm2) e0
          · intro h
            have h0 : o.length = 0 := by have := of_decide_eq_false h; omega
            (conv => whnf)
            (repeat' (refine And.intro (fun hh => ?_) (fun hh => ?_) <;> first | (exfalso; simp [*] at hh; done) | (exfalso; simp_all; done) | (conv => whnf)))
            refine ⟨(i + 1, L, o, E), [some 1, some 2, some 3], by show l.length - (i + 1) < l.length - i; omega, ⟨by show i + 1 ≤ l.length; omega, hr⟩, ?_⟩
            (repeat' (first | exact True.intro | rfl | assumption | exact ent_keep _ _ | exact whE_keep _ _ | (refine And.intro ?_ ?_) | (intro _ _; rfl) | ((conv => whnf); (first | exact True.intro | (refine And.intro ?_ ?_)))))
            exact (wrap_inc hi2 (by omega)).symm
    · intro h
      (conv => whnf)
      have hi2 : i = l.length := by have := dec_ge h; omega
      refine ⟨[], _, _, hR, ?_⟩
      (repeat' (first | exact True.intro | rfl | assumption | exact ent_keep _ _ | exact whE_keep _ _ | (refine And.intro ?_ ?_) | (intro _ _; rfl) | ((conv => whnf); (first | exact True.intro | (refine And.intro ?_ ?_)))))
end Go.Proofs.Ytollflfkgcgdkaa
