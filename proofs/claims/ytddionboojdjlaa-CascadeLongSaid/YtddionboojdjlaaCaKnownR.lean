/- What the law's own function known computes: true. -/
import Derived.Test.YtddionboojdjlaaCaLevsR
import Derived.Test.YtddionboojdjlaaCaKnR
namespace Go.Proofs.Ytddionboojdjlaa
open Go Go.RowKit Sy Tb Gr
set_option maxRecDepth 100000
set_option maxHeartbeats 16000000

theorem conKn : ConOk Try.prog (conOf [(10, SMadeN.T), (19, SLLev.T), (21, fun a s K => SLBelN.T a s K ∨ SLBel0.T a s K), (23, fun a s K => SLAboN.T a s K ∨ SLAbo0.T a s K), (12, SLSorted.T), (13, fun a s K => SLChkN.T a s K ∨ SLChk0.T a s K), (15, SLTmNN.T)]) :=
  conOf_cons (LSpec.call SMadeN_nt SMadeN_ok) (conOf_cons (LSpec.call SLLev_nt SLLev_ok) (conOf_cons (orC (LSpec.call SLBelN_nt SLBelN_ok) (LSpec.call SLBel0_nt SLBel0_ok)) (conOf_cons (orC (LSpec.call SLAboN_nt SLAboN_ok) (LSpec.call SLAbo0_nt SLAbo0_ok)) (conOf_cons (LSpec.call SLSorted_nt SLSorted_ok) (conOf_cons (orC (LSpec.call SLChkN_nt SLChkN_ok) (LSpec.call SLChk0_nt SLChk0_ok)) (conOf_cons (LSpec.call SLTmNN_nt SLTmNN_ok) conOf_nil))))))
theorem fam_row {M : RowsS} {l : List Bs} {n : Nat} {f : Nat → List V} (hn : l.length = n) (hf : ∀ q, q < n → ([.str (l.getD q eS)] : List V) = f q) {P : Nat → Nat → (Nat → Option (Nat × Nat × (Nat → List V))) → Prop}
    (h : ∀ b C, n ≤ C → M b = none → P b C fun x => (setM M b (l, C) x).map rwS) : ∀ b C, n ≤ C → (M b).map rwS = none → ∃ M' f', (M' b = some (n, C, f') ∧ (∀ q, q < n → f' q = f q) ∧ ∀ x, x ≠ b → M' x = (M x).map rwS) ∧ P b C M' := by
  intro b C hC hb
  refine ⟨fun x => (setM M b (l, C) x).map rwS, fun q => [.str (l.getD q eS)], ⟨?_, hf, fun x hx => ?_⟩, h b C hC (by simpa using hb)⟩
  · show (setM M b (l, C) b).map rwS = _
    rw [setM_same, ← hn]
    rfl
  · show (setM M b (l, C) x).map rwS = _
    rw [setM_ne hx]
def SKnown : LSpec where
  X := Unit
  k := 0
  pre _ := True
  args _ _ := []
  objs _ _ := []
  out _ _ R := R (.sb true) []
theorem SKnown_nt : SKnown.Nt := ⟨fun _ _ => rfl, fun _ _ => rfl, fun _ _ _ h => h⟩
theorem SKnown_ok : SKnown.Ok Try.prog 9 := by
  refine LSpec.of_bodyC [2] noGo mixed conKn Try.func9 rfl (by kernel_rfl) fun _ R _ hR => ?_
  have hQ : R (.sb true) [] := hR
  (conv => whnf)
  refine ⟨GG, fun _ => [(1, .ptr 0 0)], fun g => g.all _root_.id ++ [some (msO fun _ => none)], fun g => MG 1000 1000 kEd 250 g, 6, fun _ => rfl, ?_, fun g hG => ?_⟩
  · (conv => whnf)
    refine ⟨kEd, [0], ⟨trivial, kEd_few⟩, rfl, by (repeat' (first | exact True.intro | rfl | assumption | exact mc_ok rfl | exact mr_ok | exact fun _ => rfl | exact mt_keep _ _ | exact ms_ok | exact c_keep _ _ _ | (refine And.intro ?_ ?_) | (intro _ _; rfl) | ((conv => whnf); (first | exact True.intro | (refine And.intro ?_ ?_))))), ?_, fun g hG => ?_⟩
    · (repeat' (first | exact True.intro | rfl | assumption | exact mc_ok rfl | exact mr_ok | exact fun _ => rfl | exact mt_keep _ _ | exact ms_ok | exact c_keep _ _ _ | (refine And.intro ?_ ?_) | (intro _ _; rfl) | ((conv => whnf); (first | exact True.intro | (refine And.intro ?_ ?_)))))
      intro j hj
      have hj : j < 7 := hj
      match j, hj with
      | 0, _ | 1, _ | 2, _ | 3, _ | 4, _ | 5, _ | 6, _ => rfl
    have hG : MG 1000 1000 kEd 250 g := by rw [← k_mk]; exact hG
    (conv => whnf)
    refine ⟨g, [some 1, some 2, some 3, some 4, some 5, none], hG, ?_⟩
    (repeat' (first | exact True.intro | rfl | assumption | exact mc_ok rfl | exact mr_ok | exact fun _ => rfl | exact mt_keep _ _ | exact ms_ok | exact c_keep _ _ _ | (refine And.intro ?_ ?_) | (intro _ _; rfl) | ((conv => whnf); (first | exact True.intro | (refine And.intro ?_ ?_)))))
  · have hG : MG 1000 1000 kEd 250 g := hG
    (conv => whnf)
    refine .inr ⟨5, ?_⟩
    (conv => whnf)
    refine fam_row (M := fun _ => none) (l := [b1 98, b1 99]) rfl (fun q hq => ?_) fun p1 C1 hC1 hp1 => ?_
    · match q, hq with
      | 0, _ | 1, _ => rfl
    (conv => whnf)
    refine .inr ⟨5, ?_⟩
    (conv => whnf)
    refine fam_row (M := setM (fun _ => none) p1 ([b1 98, b1 99], C1)) (l := [b1 100, b1 101]) rfl (fun q hq => ?_) fun p2 C2 hC2 hp2 => ?_
    · match q, hq with
      | 0, _ | 1, _ => rfl
    (conv => whnf)
    refine .inr ⟨5, ?_⟩
    (conv => whnf)
    refine fam_row (M := setM (setM (fun _ => none) p1 ([b1 98, b1 99], C1)) p2 ([b1 100, b1 101], C2)) (l := [b1 102]) rfl (fun q hq => ?_) fun p3 C3 hC3 hp3 => ?_
    · match q, hq with
      | 0, _ => rfl
    (conv => whnf)
    refine ⟨((g, kEd, 250), b1 97, (setM (setM (setM (fun _ => none) p1 ([b1 98, b1 99], C1)) p2 ([b1 100, b1 101], C2)) p3 ([b1 102], C3), [(p1, [b1 98, b1 99], C1), (p2, [b1 100, b1 101], C2), (p3, [b1 102], C3)]), 0), [0, 1, 2, 3, 4, 6, 5], ⟨⟨hG, by show 7 ≤ 300; omega, by show (250 : Int) < 100000000; omega⟩, by show 1 ≤ 1000000; omega, k_lev.symm, ⟨fun x hx => ?_, ?_⟩, rfl⟩, rfl, by (repeat' (first | exact True.intro | rfl | assumption | exact mc_ok rfl | exact mr_ok | exact fun _ => rfl | exact mt_keep _ _ | exact ms_ok | exact c_keep _ _ _ | (refine And.intro ?_ ?_) | (intro _ _; rfl) | ((conv => whnf); (first | exact True.intro | (refine And.intro ?_ ?_))))), ?_, fun g1 hg => ?_⟩
    · have n12 : p2 ≠ p1 := fun e => by rw [e, setM_same] at hp2; cases hp2
      have n13 : p3 ≠ p1 := fun e => by rw [e, setM_ne (fun q => n12 q.symm), setM_same] at hp3; cases hp3
      have n23 : p3 ≠ p2 := fun e => by rw [e, setM_same] at hp3; cases hp3
      rcases List.mem_cons.1 hx with rfl | hx
      · exact ⟨C1, by show setM _ _ _ p1 = _; rw [setM_ne (fun q => n13 q.symm), setM_ne (fun q => n12 q.symm), setM_same]⟩
      rcases List.mem_cons.1 hx with rfl | hx
      · exact ⟨C2, by show setM _ _ _ p2 = _; rw [setM_ne (fun q => n23 q.symm), setM_same]⟩
      rw [List.mem_singleton] at hx
      subst hx
      exact ⟨C3, setM_same⟩
    · have n12 : p2 ≠ p1 := fun e => by rw [e, setM_same] at hp2; cases hp2
      have n13 : p3 ≠ p1 := fun e => by rw [e, setM_ne (fun q => n12 q.symm), setM_same] at hp3; cases hp3
      have n23 : p3 ≠ p2 := fun e => by rw [e, setM_same] at hp3; cases hp3
      show [p1, p2, p3].Nodup
      simp [n12.symm, n13.symm, n23.symm]
    · (repeat' (first | exact True.intro | rfl | assumption | exact mc_ok rfl | exact mr_ok | exact fun _ => rfl | exact mt_keep _ _ | exact ms_ok | exact c_keep _ _ _ | (refine And.intro ?_ ?_) | (intro _ _; rfl) | ((conv => whnf); (first | exact True.intro | (refine And.intro ?_ ?_)))))
      all_goals (intro j hj; have hj : j < 3 := hj; match j, hj with | 0, _ | 1, _ | 2, _ => rfl)
    have hG1 : MG 1000 1000 kEd 251 g1 := hg
    (conv => whnf)
    refine ⟨fun _ => ?_, fun hh => Bool.noConfusion (show (!true) = true from hh)⟩
    (conv => whnf)
    refine .inl ?_
    (conv => whnf)
    refine .inl ⟨((g1, kEd, 251), b1 99, [b1 100, b1 101, b1 102], 0), [0, 1, 2, 3, 4, 7], ⟨⟨⟨hG1, by show 7 ≤ 300; omega, by show (251 : Int) < 100000000; omega⟩, by show (251 : Int) + 2 < 100000000; omega⟩, by show ByteArray.size _ ≤ 1000000; exact Nat.le_of_ble_eq_true rfl, k_bel_c, rfl⟩, rfl, by (repeat' (first | exact True.intro | rfl | assumption | exact mc_ok rfl | exact mr_ok | exact fun _ => rfl | exact mt_keep _ _ | exact ms_ok | exact c_keep _ _ _ | (refine And.intro ?_ ?_) | (intro _ _; rfl) | ((conv => whnf); (first | exact True.intro | (refine And.intro ?_ ?_))))), ?_, fun g2 hg => ?_⟩
    · (repeat' (first | exact True.intro | rfl | assumption | exact mc_ok rfl | exact mr_ok | exact fun _ => rfl | exact mt_keep _ _ | exact ms_ok | exact c_keep _ _ _ | (refine And.intro ?_ ?_) | (intro _ _; rfl) | ((conv => whnf); (first | exact True.intro | (refine And.intro ?_ ?_)))))
      all_goals (intro j hj; have hj : j < 3 := hj; match j, hj with | 0, _ | 1, _ | 2, _ => rfl)
    have hG2 : MG 1000 1000 kEd 253 g2 := hg
    (conv => whnf)
    refine ⟨fun _ => ?_, fun hh => Bool.noConfusion (show (!true) = true from hh)⟩
    (conv => whnf)
    refine .inl ?_
    (conv => whnf)
    refine .inl ⟨((g2, kEd, 253), b1 120, [b1 101], 0), [0, 1, 2, 3, 4, 8], ⟨⟨⟨hG2, by show 7 ≤ 300; omega, by show (253 : Int) < 100000000; omega⟩, by show (253 : Int) + 2 < 100000000; omega⟩, by show ByteArray.size _ ≤ 1000000; exact Nat.le_of_ble_eq_true rfl, k_bel_x, rfl⟩, rfl, by (repeat' (first | exact True.intro | rfl | assumption | exact mc_ok rfl | exact mr_ok | exact fun _ => rfl | exact mt_keep _ _ | exact ms_ok | exact c_keep _ _ _ | (refine And.intro ?_ ?_) | (intro _ _; rfl) | ((conv => whnf); (first | exact True.intro | (refine And.intro ?_ ?_))))), ?_, fun g3 hg => ?_⟩
    · (repeat' (first | exact True.intro | rfl | assumption | exact mc_ok rfl | exact mr_ok | exact fun _ => rfl | exact mt_keep _ _ | exact ms_ok | exact c_keep _ _ _ | (refine And.intro ?_ ?_) | (intro _ _; rfl) | ((conv => whnf); (first | exact True.intro | (refine And.intro ?_ ?_)))))
      all_goals (intro j hj; have hj : j < 1 := hj; match j, hj with | 0, _ => rfl)
    have hG3 : MG 1000 1000 kEd 255 g3 := hg
    (conv => whnf)
    refine ⟨fun _ => ?_, fun hh => Bool.noConfusion (show (!true) = true from hh)⟩
    (conv => whnf)
    refine .inr ⟨((g3, kEd, 255), b1 102, [], 0), [0, 1, 2, 3, 4], ⟨⟨⟨hG3, by show 7 ≤ 300; omega, by show (255 : Int) < 100000000; omega⟩, by show (255 : Int) + 2 < 100000000; omega⟩, by show ByteArray.size _ ≤ 1000000; exact Nat.le_of_ble_eq_true rfl, k_bel_f, rfl, rfl⟩, rfl, by (repeat' (first | exact True.intro | rfl | assumption | exact mc_ok rfl | exact mr_ok | exact fun _ => rfl | exact mt_keep _ _ | exact ms_ok | exact c_keep _ _ _ | (refine And.intro ?_ ?_) | (intro _ _; rfl) | ((conv => whnf); (first | exact True.intro | (refine And.intro ?_ ?_))))), by (repeat' (first | exact True.intro | rfl | assumption | exact mc_ok rfl | exact mr_ok | exact fun _ => rfl | exact mt_keep _ _ | exact ms_ok | exact c_keep _ _ _ | (refine And.intro ?_ ?_) | (intro _ _; rfl) | ((conv => whnf); (first | exact True.intro | (refine And.intro ?_ ?_))))), fun g4 hg => ?_⟩
    have hG4 : MG 1000 1000 kEd 257 g4 := hg
    (conv => whnf)
    refine ⟨fun _ => ?_, fun hh => Bool.noConfusion (show (!true) = true from hh)⟩
    (conv => whnf)
    refine .inl ?_
    (conv => whnf)
    refine .inl ⟨((g4, kEd, 257), b1 101, [b1 97, b1 99, b1 120], 0), [0, 1, 2, 3, 4, 9], ⟨⟨⟨hG4, by show 7 ≤ 300; omega, by show (257 : Int) < 100000000; omega⟩, by show (257 : Int) + 2 < 100000000; omega⟩, by show ByteArray.size _ ≤ 1000000; exact Nat.le_of_ble_eq_true rfl, k_abo_e, rfl⟩, rfl, by (repeat' (first | exact True.intro | rfl | assumption | exact mc_ok rfl | exact mr_ok | exact fun _ => rfl | exact mt_keep _ _ | exact ms_ok | exact c_keep _ _ _ | (refine And.intro ?_ ?_) | (intro _ _; rfl) | ((conv => whnf); (first | exact True.intro | (refine And.intro ?_ ?_))))), ?_, fun g5 hg => ?_⟩
    · (repeat' (first | exact True.intro | rfl | assumption | exact mc_ok rfl | exact mr_ok | exact fun _ => rfl | exact mt_keep _ _ | exact ms_ok | exact c_keep _ _ _ | (refine And.intro ?_ ?_) | (intro _ _; rfl) | ((conv => whnf); (first | exact True.intro | (refine And.intro ?_ ?_)))))
      all_goals (intro j hj; have hj : j < 3 := hj; match j, hj with | 0, _ | 1, _ | 2, _ => rfl)
    have hG5 : MG 1000 1000 kEd 258 g5 := hg
    (conv => whnf)
    refine ⟨fun _ => ?_, fun hh => Bool.noConfusion (show (!true) = true from hh)⟩
    (conv => whnf)
    refine .inr ⟨((g5, kEd, 258), b1 97, [], 0), [0, 1, 2, 3, 4], ⟨⟨⟨hG5, by show 7 ≤ 300; omega, by show (258 : Int) < 100000000; omega⟩, by show (258 : Int) + 2 < 100000000; omega⟩, by show ByteArray.size _ ≤ 1000000; exact Nat.le_of_ble_eq_true rfl, k_abo_a, rfl, rfl⟩, rfl, by (repeat' (first | exact True.intro | rfl | assumption | exact mc_ok rfl | exact mr_ok | exact fun _ => rfl | exact mt_keep _ _ | exact ms_ok | exact c_keep _ _ _ | (refine And.intro ?_ ?_) | (intro _ _; rfl) | ((conv => whnf); (first | exact True.intro | (refine And.intro ?_ ?_))))), by (repeat' (first | exact True.intro | rfl | assumption | exact mc_ok rfl | exact mr_ok | exact fun _ => rfl | exact mt_keep _ _ | exact ms_ok | exact c_keep _ _ _ | (refine And.intro ?_ ?_) | (intro _ _; rfl) | ((conv => whnf); (first | exact True.intro | (refine And.intro ?_ ?_))))), fun g6 hg => ?_⟩
    have hG6 : MG 1000 1000 kEd 259 g6 := hg
    (conv => whnf)
    refine ⟨fun hh => Bool.noConfusion (show (!true) = true from hh), fun _ => ?_⟩
    (conv => whnf)
    refine .inl ?_
    (conv => whnf)
    refine ⟨((g6, kEd, 259), kAll), [0, 1, 2, 3, 4, 10], ⟨⟨hG6, by show 7 ≤ 300; omega, by show (259 : Int) < 100000000; omega⟩, k_all⟩, rfl, by (repeat' (first | exact True.intro | rfl | assumption | exact mc_ok rfl | exact mr_ok | exact fun _ => rfl | exact mt_keep _ _ | exact ms_ok | exact c_keep _ _ _ | (refine And.intro ?_ ?_) | (intro _ _; rfl) | ((conv => whnf); (first | exact True.intro | (refine And.intro ?_ ?_))))), ?_, fun g7 hg => ?_⟩
    · (repeat' (first | exact True.intro | rfl | assumption | exact mc_ok rfl | exact mr_ok | exact fun _ => rfl | exact mt_keep _ _ | exact ms_ok | exact c_keep _ _ _ | (refine And.intro ?_ ?_) | (intro _ _; rfl) | ((conv => whnf); (first | exact True.intro | (refine And.intro ?_ ?_)))))
      all_goals (intro j hj; have hj : j < 7 := hj; match j, hj with | 0, _ | 1, _ | 2, _ | 3, _ | 4, _ | 5, _ | 6, _ => rfl)
    have hG7 : MG 1000 1000 kEd 260 g7 := hg
    (conv => whnf)
    refine ⟨fun _ => ?_, fun hh => Bool.noConfusion (show (!true) = true from hh)⟩
    (conv => whnf)
    refine .inl ⟨((g7, kEd, 260), -1, kAll, kAll), [0, 1, 2, 3, 4, 10], ⟨⟨hG7, by show 7 ≤ 300; omega, by show (260 : Int) < 100000000; omega⟩, ⟨by show 7 ≤ 100000; omega, fun k hk => ?_⟩, k_chk0, List.prefix_rfl⟩, rfl, by (repeat' (first | exact True.intro | rfl | assumption | exact mc_ok rfl | exact mr_ok | exact fun _ => rfl | exact mt_keep _ _ | exact ms_ok | exact c_keep _ _ _ | (refine And.intro ?_ ?_) | (intro _ _; rfl) | ((conv => whnf); (first | exact True.intro | (refine And.intro ?_ ?_))))), ?_, fun g8 hg => ?_⟩
    · have hk : k ∈ [b1 97, b1 98, b1 99, b1 100, b1 102, b1 120, b1 101] := hk
      simp only [List.mem_cons, List.not_mem_nil, or_false] at hk
      rcases hk with rfl | rfl | rfl | rfl | rfl | rfl | rfl <;> exact Nat.le_of_ble_eq_true rfl
    · (repeat' (first | exact True.intro | rfl | assumption | exact mc_ok rfl | exact mr_ok | exact fun _ => rfl | exact mt_keep _ _ | exact ms_ok | exact c_keep _ _ _ | (refine And.intro ?_ ?_) | (intro _ _; rfl) | ((conv => whnf); (first | exact True.intro | (refine And.intro ?_ ?_)))))
      all_goals (intro j hj; have hj : j < 7 := hj; match j, hj with | 0, _ | 1, _ | 2, _ | 3, _ | 4, _ | 5, _ | 6, _ => rfl)
    have hG8 : MG 1000 1000 kEd 261 g8 := hg
    (conv => whnf)
    refine ⟨fun _ => ?_, fun hh => Bool.noConfusion (show (!true) = true from hh)⟩
    (conv => whnf)
    refine .inl ?_
    (conv => whnf)
    refine .inl ⟨((g8, kEd, 261), 3, [b1 97, b1 120, b1 98, b1 100], [b1 97, b1 120, b1 98, b1 100]), [0, 1, 2, 3, 4, 11], ⟨⟨hG8, by show 7 ≤ 300; omega, by show (261 : Int) < 100000000; omega⟩, ⟨by show 4 ≤ 100000; omega, fun k hk => ?_⟩, k_chk1, List.prefix_rfl⟩, rfl, by (repeat' (first | exact True.intro | rfl | assumption | exact mc_ok rfl | exact mr_ok | exact fun _ => rfl | exact mt_keep _ _ | exact ms_ok | exact c_keep _ _ _ | (refine And.intro ?_ ?_) | (intro _ _; rfl) | ((conv => whnf); (first | exact True.intro | (refine And.intro ?_ ?_))))), ?_, fun g9 hg => ?_⟩
    · have hk : k ∈ [b1 97, b1 120, b1 98, b1 100] := hk
      simp only [List.mem_cons, List.not_mem_nil, or_false] at hk
      rcases hk with rfl | rfl | rfl | rfl <;> exact Nat.le_of_ble_eq_true rfl
    · (repeat' (first | exact True.intro | rfl | assumption | exact mc_ok rfl | exact mr_ok | exact fun _ => rfl | exact mt_keep _ _ | exact ms_ok | exact c_keep _ _ _ | (refine And.intro ?_ ?_) | (intro _ _; rfl) | ((conv => whnf); (first | exact True.intro | (refine And.intro ?_ ?_)))))
      all_goals (intro j hj; have hj : j < 4 := hj; match j, hj with | 0, _ | 1, _ | 2, _ | 3, _ => rfl)
    have hG9 : MG 1000 1000 kEd 262 g9 := hg
    (conv => whnf)
    refine ⟨fun _ => ?_, fun hh => Bool.noConfusion (show (!true) = true from hh)⟩
    (conv => whnf)
    refine .inl ?_
    (conv => whnf)
    refine .inl ⟨((g9, kEd, 262), 4, [b1 97, b1 98, b1 99, b1 100], [b1 97, b1 98, b1 99, b1 100]), [0, 1, 2, 3, 4, 12], ⟨⟨hG9, by show 7 ≤ 300; omega, by show (262 : Int) < 100000000; omega⟩, ⟨by show 4 ≤ 100000; omega, fun k hk => ?_⟩, k_chk2, List.prefix_rfl⟩, rfl, by (repeat' (first | exact True.intro | rfl | assumption | exact mc_ok rfl | exact mr_ok | exact fun _ => rfl | exact mt_keep _ _ | exact ms_ok | exact c_keep _ _ _ | (refine And.intro ?_ ?_) | (intro _ _; rfl) | ((conv => whnf); (first | exact True.intro | (refine And.intro ?_ ?_))))), ?_, fun g10 hg => ?_⟩
    · have hk : k ∈ [b1 97, b1 98, b1 99, b1 100] := hk
      simp only [List.mem_cons, List.not_mem_nil, or_false] at hk
      rcases hk with rfl | rfl | rfl | rfl <;> exact Nat.le_of_ble_eq_true rfl
    · (repeat' (first | exact True.intro | rfl | assumption | exact mc_ok rfl | exact mr_ok | exact fun _ => rfl | exact mt_keep _ _ | exact ms_ok | exact c_keep _ _ _ | (refine And.intro ?_ ?_) | (intro _ _; rfl) | ((conv => whnf); (first | exact True.intro | (refine And.intro ?_ ?_)))))
      all_goals (intro j hj; have hj : j < 4 := hj; match j, hj with | 0, _ | 1, _ | 2, _ | 3, _ => rfl)
    have hG10 : MG 1000 1000 kEd 263 g10 := hg
    (conv => whnf)
    refine ⟨fun hh => Bool.noConfusion (show (!true) = true from hh), fun _ => ?_⟩
    (conv => whnf)
    refine .inl ?_
    (conv => whnf)
    refine .inl ⟨((g10, kEd, 263), 1, [b1 97, b1 113], [b1 97, b1 113]), [0, 1, 2, 3, 4, 13], ⟨⟨hG10, by show 7 ≤ 300; omega, by show (263 : Int) < 100000000; omega⟩, ⟨by show 2 ≤ 100000; omega, fun k hk => ?_⟩, k_chk3, List.prefix_rfl⟩, rfl, by (repeat' (first | exact True.intro | rfl | assumption | exact mc_ok rfl | exact mr_ok | exact fun _ => rfl | exact mt_keep _ _ | exact ms_ok | exact c_keep _ _ _ | (refine And.intro ?_ ?_) | (intro _ _; rfl) | ((conv => whnf); (first | exact True.intro | (refine And.intro ?_ ?_))))), ?_, fun g11 hg => ?_⟩
    · have hk : k ∈ [b1 97, b1 113] := hk
      simp only [List.mem_cons, List.not_mem_nil, or_false] at hk
      rcases hk with rfl | rfl <;> exact Nat.le_of_ble_eq_true rfl
    · (repeat' (first | exact True.intro | rfl | assumption | exact mc_ok rfl | exact mr_ok | exact fun _ => rfl | exact mt_keep _ _ | exact ms_ok | exact c_keep _ _ _ | (refine And.intro ?_ ?_) | (intro _ _; rfl) | ((conv => whnf); (first | exact True.intro | (refine And.intro ?_ ?_)))))
      all_goals (intro j hj; have hj : j < 2 := hj; match j, hj with | 0, _ | 1, _ => rfl)
    have hG11 : MG 1000 1000 kEd 264 g11 := hg
    (conv => whnf)
    refine ⟨fun _ => ?_, fun hh => Bool.noConfusion (show true = false from hh)⟩
    (conv => whnf)
    refine .inl ?_
    (conv => whnf)
    refine .inl ⟨((g11, kEd, 264), 1, [b1 97, b1 97], [b1 97, b1 97]), [0, 1, 2, 3, 4, 14], ⟨⟨hG11, by show 7 ≤ 300; omega, by show (264 : Int) < 100000000; omega⟩, ⟨by show 2 ≤ 100000; omega, fun k hk => ?_⟩, k_chk4, List.prefix_rfl⟩, rfl, by (repeat' (first | exact True.intro | rfl | assumption | exact mc_ok rfl | exact mr_ok | exact fun _ => rfl | exact mt_keep _ _ | exact ms_ok | exact c_keep _ _ _ | (refine And.intro ?_ ?_) | (intro _ _; rfl) | ((conv => whnf); (first | exact True.intro | (refine And.intro ?_ ?_))))), ?_, fun g12 hg => ?_⟩
    · have hk : k ∈ [b1 97, b1 97] := hk
      simp only [List.mem_cons, List.not_mem_nil, or_false] at hk
      rcases hk with rfl | rfl <;> exact Nat.le_of_ble_eq_true rfl
    · (repeat' (first | exact True.intro | rfl | assumption | exact mc_ok rfl | exact mr_ok | exact fun _ => rfl | exact mt_keep _ _ | exact ms_ok | exact c_keep _ _ _ | (refine And.intro ?_ ?_) | (intro _ _; rfl) | ((conv => whnf); (first | exact True.intro | (refine And.intro ?_ ?_)))))
      all_goals (intro j hj; have hj : j < 2 := hj; match j, hj with | 0, _ | 1, _ => rfl)
    have hG12 : MG 1000 1000 kEd 265 g12 := hg
    (conv => whnf)
    refine ⟨fun _ => ?_, fun hh => Bool.noConfusion (show true = false from hh)⟩
    (conv => whnf)
    refine .inr ⟨((g12, kEd, 265), 0, (), []), [0, 1, 2, 3, 4], ⟨⟨hG12, by show 7 ≤ 300; omega, by show (265 : Int) < 100000000; omega⟩, ⟨Nat.zero_le _, fun k hk => absurd hk List.not_mem_nil⟩, k_chk5, rfl⟩, rfl, by (repeat' (first | exact True.intro | rfl | assumption | exact mc_ok rfl | exact mr_ok | exact fun _ => rfl | exact mt_keep _ _ | exact ms_ok | exact c_keep _ _ _ | (refine And.intro ?_ ?_) | (intro _ _; rfl) | ((conv => whnf); (first | exact True.intro | (refine And.intro ?_ ?_))))), by (repeat' (first | exact True.intro | rfl | assumption | exact mc_ok rfl | exact mr_ok | exact fun _ => rfl | exact mt_keep _ _ | exact ms_ok | exact c_keep _ _ _ | (refine And.intro ?_ ?_) | (intro _ _; rfl) | ((conv => whnf); (first | exact True.intro | (refine And.intro ?_ ?_))))), fun g13 hg => ?_⟩
    have hG13 : MG 1000 1000 kEd 266 g13 := hg
    (conv => whnf)
    refine ⟨fun _ => ?_, fun hh => Bool.noConfusion (show true = false from hh)⟩
    (conv => whnf)
    refine .inl ?_
    (conv => whnf)
    refine .inl ?_
    (conv => whnf)
    refine ⟨((g13, kEd, 266), [b1 97, b1 102, b1 113], [b1 97, b1 102, b1 113], [b1 98, b1 99, b1 100, b1 101, b1 120]), [0, 1, 2, 3, 4, 15, 16], ⟨⟨hG13, by show 7 ≤ 300; omega, by show (266 : Int) < 100000000; omega⟩, by show 3 ≤ 100000; omega, k_tmb, List.prefix_rfl⟩, rfl, by (repeat' (first | exact True.intro | rfl | assumption | exact mc_ok rfl | exact mr_ok | exact fun _ => rfl | exact mt_keep _ _ | exact ms_ok | exact c_keep _ _ _ | (refine And.intro ?_ ?_) | (intro _ _; rfl) | ((conv => whnf); (first | exact True.intro | (refine And.intro ?_ ?_))))), ?_, fun g14 hg => ?_⟩
    · (repeat' (first | exact True.intro | rfl | assumption | exact mc_ok rfl | exact mr_ok | exact fun _ => rfl | exact mt_keep _ _ | exact ms_ok | exact c_keep _ _ _ | (refine And.intro ?_ ?_) | (intro _ _; rfl) | ((conv => whnf); (first | exact True.intro | (refine And.intro ?_ ?_)))))
      · intro j hj; have hj : j < 3 := hj; match j, hj with | 0, _ | 1, _ | 2, _ => rfl
      · intro j hj; have hj : j < 5 := hj; match j, hj with | 0, _ | 1, _ | 2, _ | 3, _ | 4, _ => rfl
    have hG14 : MG 1000 1000 kEd 267 g14 := hg
    (conv => whnf)
    refine ⟨fun _ => ?_, fun hh => Bool.noConfusion (show true = false from hh)⟩
    (conv => whnf)
    refine .inr ⟨((g14, kEd, 267), b1 113, [], 0), [0, 1, 2, 3, 4], ⟨⟨⟨hG14, by show 7 ≤ 300; omega, by show (267 : Int) < 100000000; omega⟩, by show (267 : Int) + 2 < 100000000; omega⟩, by show ByteArray.size _ ≤ 1000000; exact Nat.le_of_ble_eq_true rfl, k_bel_q, rfl, rfl⟩, rfl, by (repeat' (first | exact True.intro | rfl | assumption | exact mc_ok rfl | exact mr_ok | exact fun _ => rfl | exact mt_keep _ _ | exact ms_ok | exact c_keep _ _ _ | (refine And.intro ?_ ?_) | (intro _ _; rfl) | ((conv => whnf); (first | exact True.intro | (refine And.intro ?_ ?_))))), by (repeat' (first | exact True.intro | rfl | assumption | exact mc_ok rfl | exact mr_ok | exact fun _ => rfl | exact mt_keep _ _ | exact ms_ok | exact c_keep _ _ _ | (refine And.intro ?_ ?_) | (intro _ _; rfl) | ((conv => whnf); (first | exact True.intro | (refine And.intro ?_ ?_))))), fun g15 hg => ?_⟩
    have hG15 : MG 1000 1000 kEd 269 g15 := hg
    (conv => whnf)
    refine ⟨fun _ => ?_, fun hh => Bool.noConfusion (show true = false from hh)⟩
    (conv => whnf)
    refine .inr ⟨((g15, kEd, 269), ⟨#[]⟩, [], 2), [0, 1, 2, 3, 4], ⟨⟨⟨hG15, by show 7 ≤ 300; omega, by show (269 : Int) < 100000000; omega⟩, by show (269 : Int) + 2 < 100000000; omega⟩, by show ByteArray.size _ ≤ 1000000; exact Nat.le_of_ble_eq_true rfl, k_bel_0, rfl, rfl⟩, rfl, by (repeat' (first | exact True.intro | rfl | assumption | exact mc_ok rfl | exact mr_ok | exact fun _ => rfl | exact mt_keep _ _ | exact ms_ok | exact c_keep _ _ _ | (refine And.intro ?_ ?_) | (intro _ _; rfl) | ((conv => whnf); (first | exact True.intro | (refine And.intro ?_ ?_))))), by (repeat' (first | exact True.intro | rfl | assumption | exact mc_ok rfl | exact mr_ok | exact fun _ => rfl | exact mt_keep _ _ | exact ms_ok | exact c_keep _ _ _ | (refine And.intro ?_ ?_) | (intro _ _; rfl) | ((conv => whnf); (first | exact True.intro | (refine And.intro ?_ ?_))))), fun g16 hg => ?_⟩
    have hG16 : MG 1000 1000 kEd 271 g16 := hg
    (conv => whnf)
    refine ⟨[], _, _, hQ, ?_⟩
    (repeat' (first | exact True.intro | rfl | assumption | exact mc_ok rfl | exact mr_ok | exact fun _ => rfl | exact mt_keep _ _ | exact ms_ok | exact c_keep _ _ _ | (refine And.intro ?_ ?_) | (intro _ _; rfl) | ((conv => whnf); (first | exact True.intro | (refine And.intro ?_ ?_)))))
end Go.Proofs.Ytddionboojdjlaa
