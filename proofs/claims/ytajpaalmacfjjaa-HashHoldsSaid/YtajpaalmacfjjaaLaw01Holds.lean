/- HashHolds: the walk, part after part. -/
import Derived.Test.YtajpaalmacfjjaaLaw01
namespace Go.Proofs.Ytajpaalmacfjjaa
open Go.RowKit

/-- The index in a table of twice the size: the same, or greater by the size. -/
theorem mod_twice (s q : Int) (hq : 0 < q) : 0 ≤ s % q ∧ s % q < q ∧ 0 ≤ s % (2 * q) ∧ s % (2 * q) < 2 * q ∧ (s % (2 * q) = s % q ∨ s % (2 * q) = s % q + q) := by
  have h1 := Int.emod_nonneg s (show q ≠ 0 by omega)
  have h2 := Int.emod_lt_of_pos s hq
  have h3 := Int.emod_nonneg s (show 2 * q ≠ 0 by omega)
  have h4 := Int.emod_lt_of_pos s (show 0 < 2 * q by omega)
  refine ⟨h1, h2, h3, h4, ?_⟩
  have e : s % (2 * q) % q = s % q := Int.emod_emod_of_dvd s (Int.dvd_mul_left 2 q)
  by_cases h : s % (2 * q) < q
  · left; rw [← e, Int.emod_eq_of_lt h3 h]
  · right
    have : (s % (2 * q) - q) % q = s % q := by rw [← e]; simp
    rw [Int.emod_eq_of_lt (by omega) (by omega)] at this
    omega

theorem powI_idem (n : Int) (hn : 1 ≤ n ∧ n ≤ 16777216) : powI (powI n) = powI n := by
  have hb := powI_bounds n hn
  obtain ⟨k, hk, e⟩ := (isSize_iff _).1 hb.2.2.2
  rw [← powI_of (powI n) k ⟨by omega, hb.2.2.1⟩ (by omega) (by
    rw [e]
    cases k with
    | zero => exact .inl rfl
    | succ k => right; rw [Nat.add_sub_cancel, Int.pow_succ]; have : (0 : Int) < 2 ^ k := Int.pow_pos (by omega); omega)]
  exact e.symm

theorem pow2_size (k : Nat) (hk : k ≤ 24) : ∃ q : Nat, (2 : Int) ^ k = q ∧ 1 ≤ q ∧ q ≤ 16777216 ∧ isSize (q : Int) = true :=
  ⟨2 ^ k, by simp, Nat.two_pow_pos k, Nat.pow_le_pow_right (show 0 < 2 by omega) hk, (isSize_iff _).2 ⟨k, hk, by simp⟩⟩

set_option maxHeartbeats 1000000 in
set_option maxRecDepth 100000 in
theorem lHolds (h : Int) (a b : ByteArray) (x n : Int) (w : World) (hh : 0 ≤ h ∧ h < 18446744073709551616) (ha : a.size ≤ maxLen) (hb : b.size ≤ maxLen) :
    Calls Try.prog 7 #[.int .u64 h, .string a, .string b, .int .i64 x, .int .i64 n] w (Law w.heap.size w) := by
  have HH := Lib.hid hh; clear hh
  unfold maxLen at ha hb
  by_cases h1 : 300 < a.size
  · go_enter Try.func7, Try.ntmps7
    go_wp2_with fail
    refine (known_any _).mono ?_
    rintro e w' ⟨rfl, hb⟩
    go_wp2_with fail
    go_ret
    exact ⟨rfl, hb⟩
  by_cases h2 : 300 < b.size
  · go_enter Try.func7, Try.ntmps7
    go_wp2_with fail
    refine (known_any _).mono ?_
    rintro e w' ⟨rfl, hb⟩
    go_wp2_with fail
    go_ret
    exact ⟨rfl, hb⟩
  clear ha hb
  have hcv := fun (w : World) (s : ByteArray) => Lib.run_convert_string_bytes (P := Try.prog) w 9 28 5 s Try.underlying9 Try.underlying28 Try.underlying5
  go_enter Try.func7, Try.ntmps7
  go_wp2_with fail
  go_loop [11, 12] (fun x i => ∃ k : Nat, k ≤ a.size ∧ i = .int .i64 k ∧ x = .int .u64 (foldI h (a.data.toList.take k))) (fun _ i => a.size - (intOf i).toNat)
  case atStart => exact ⟨0, Nat.zero_le _, rfl, rfl⟩
  case round =>
    obtain ⟨k, hk, rfl, rfl⟩ := hrel
    by_cases hlt : k < a.size
    · have hts := foldI_snoc h (a.data.toList.take k) a[k]
      rw [← bytes_take_snoc a k hlt] at hts
      have HS := Lib.hid hts; clear hts
      have HC := Lib.hid (u64_in (a[k].toNat : Int) ⟨by omega, by have := a[k].toNat_lt; omega⟩)
      go_wp2
      go_round
      case rel => exact ⟨k + 1, by omega, by go_num, by rw [HS.out, HC.out]⟩
      case measure => simp [intOf]; omega
    · go_wp2_with fail
      rw [List.take_of_length_le (by simp; omega)]
      have hl : (a ++ b).size = a.size + b.size := by simp
      have hm : (a ++ b).size ≤ maxLen := by unfold maxLen; omega
      have HM := Lib.hid hm; clear hm
      have hd : (a ++ b).data.toList = a.data.toList ++ b.data.toList := by simp
      have HD := Lib.hid (show sumI (foldI h a.data.toList) b.data.toList = sumI h (a ++ b).data.toList from by rw [hd, sumI, sumI, foldI_append])
      have HF := Lib.hid (show sumI h a.data.toList = mixI (foldI h a.data.toList) from rfl)
      have hr := sumI_range h (a ++ b).data.toList
      clear hd
      have hc : (a ++ b).data.toList.length = (a ++ b).size := by simp
      refine (sum_any _ _ _ HM.out).mono ?_
      rintro e w' ⟨rfl, rfl⟩
      generalize hs : (a ++ b) = s at *
      have HSs := Lib.hid hs; clear hs
      clear hl
      generalize hF : foldI h a.data.toList = F at *
      clear hF
      go_wp2_with fail
      refine (mix_any _ _).mono ?_
      rintro e w' ⟨rfl, rfl⟩
      go_wp2_with fail
      refine (sum_any _ _ _ (by unfold maxLen; omega)).mono ?_
      rintro e w' ⟨rfl, rfl⟩
      rw [HF.out]
      have hq : (mixI F != mixI F) = false := by simp
      go_wp2_with fail
      clear hq
      refine (sum_any _ _ _ (by unfold maxLen; omega)).mono ?_
      rintro e w' ⟨rfl, rfl⟩
      rw [HD.out]
      generalize hS : sumI h s.data.toList = S at *
      have HS := Lib.hid hS; clear hS
      have hq : (S != S) = false := by simp
      go_wp2_with fail
      rw [HSs.out]
      have hlen : a.size + b.size = s.data.toList.length := by rw [← HSs.out]; simp
      rw [hlen]
      refine (bytes_any h w.heap.size 0 s.data.toList _ _ (by rw [hc]; exact HM.out) (fun j hj => by rw [Nat.zero_add]; exact Lib.bytesWorld_cell w _ s j (by rw [← hc]; exact hj))).mono ?_
      rintro e w' ⟨rfl, rfl⟩
      rw [HS.out]
      have hB : Below w.heap.size w (Lib.bytesWorld w 5 s) := ⟨rfl, rfl, rfl, by rw [Lib.bytesWorld_size]; omega, fun k hk => Lib.bytesWorld_at_old w _ s k hk⟩
      have hz := Lib.hid (Lib.bytesWorld_size w 5 s)
      generalize Lib.bytesWorld w 5 s = w1 at *
      clear hcv hlen hc HH
      have hk1 := Lib.hid (known_any w1)
      by_cases hx : 0 ≤ x ∧ x ≤ 23
      · obtain ⟨y, rfl⟩ := Int.eq_ofNat_of_zero_le hx.1
        obtain ⟨qq, hqe, hq1, hq2, hqs⟩ := pow2_size y (by omega)
        obtain ⟨rr, hre, hr1, hr2, hrs⟩ := pow2_size (y + 1) (by omega)
        rw [Int.pow_succ, hqe] at hre
        obtain rfl : rr = qq * 2 := by omega
        obtain ⟨m1, m2, m3, m4, m5⟩ := mod_twice S qq (by omega)
        have hqy := Lib.hid hqe; clear hqe hre
        have HX := Lib.hid (index_yes S qq w1 hr hqs)
        have HY := Lib.hid (index_yes S (2 * qq) w1 hr (by rw [show 2 * (qq : Int) = ((qq * 2 : Nat) : Int) by omega]; exact hrs))
        clear hqs hrs
        generalize hS1 : S % (qq : Int) = X at *
        generalize hS2 : S % (2 * (qq : Int)) = Y at *
        have hS1' := Lib.hid hS1; clear hS1
        have hS2' := Lib.hid hS2; clear hS2
        have hm5 := Lib.hid m5; clear m5
        obtain ⟨hx1, hx2⟩ := hx
        have hw2 : wrap64 ((2 : Int) ^ y) = qq := by rw [hqy.out]; exact IntWalk.wrap64_in _ ⟨by omega, by omega⟩
        go_wp2_with fail
        refine HX.out.mono ?_
        rintro e w' ⟨rfl, rfl⟩
        go_wp2_with fail
        refine HY.out.mono ?_
        rintro e w' ⟨rfl, rfl⟩
        clear hw2
        rcases hm5.out with h5 | h5
        · have t1 : (Y != X) = false := by simp [h5]
          clear h5
          by_cases hn : 1 ≤ n ∧ n ≤ 16777216
          · have HP := Lib.hid (power_yes n w1 hn)
            have hpb := powI_bounds n hn
            have HQ := Lib.hid (lpower_of (powI n) (powI n) 0 (powI (powI n)) 0 w1 (Lib.hid (power_yes (powI n) w1 ⟨by omega, hpb.2.2.1⟩)))
            rw [powI_idem n hn] at HQ
            obtain ⟨p1, p2, p3, p4⟩ := hpb
            clear p4
            generalize powI n = pw at *
            have tq : (pw == pw) = true := by simp
            go_wp2_with fail
            refine HP.out.mono ?_
            rintro e w' ⟨rfl, rfl⟩
            go_wp2_with fail
            refine HQ.out.mono ?_
            rintro e w' ⟨rfl, rfl⟩
            go_wp2_with fail
            refine hk1.out.mono ?_
            rintro e w' ⟨rfl, hb1⟩
            go_wp2_with fail
            go_ret
            exact ⟨rfl, hB.trans (hb1.mono (by rw [hz.out]; omega))⟩
          · have HP := Lib.hid (power_no n w1 (by omega))
            go_wp2_with fail
            refine HP.out.mono ?_
            rintro e w' ⟨rfl, rfl⟩
            by_cases hn1 : n < 1
            · go_wp2_with fail
              refine hk1.out.mono ?_
              rintro e w' ⟨rfl, hb1⟩
              go_wp2_with fail
              go_ret
              exact ⟨rfl, hB.trans (hb1.mono (by rw [hz.out]; omega))⟩
            · have hn2 : 16777216 < n := by omega
              go_wp2_with fail
              refine hk1.out.mono ?_
              rintro e w' ⟨rfl, hb1⟩
              go_wp2_with fail
              go_ret
              exact ⟨rfl, hB.trans (hb1.mono (by rw [hz.out]; omega))⟩
        · have t1 : (Y != X) = true := by simp; omega
          have t2 : (Y != X + (qq : Int)) = false := by simp [h5]
          clear h5
          by_cases hn : 1 ≤ n ∧ n ≤ 16777216
          · have HP := Lib.hid (power_yes n w1 hn)
            have hpb := powI_bounds n hn
            have HQ := Lib.hid (lpower_of (powI n) (powI n) 0 (powI (powI n)) 0 w1 (Lib.hid (power_yes (powI n) w1 ⟨by omega, hpb.2.2.1⟩)))
            rw [powI_idem n hn] at HQ
            obtain ⟨p1, p2, p3, p4⟩ := hpb
            clear p4
            generalize powI n = pw at *
            have tq : (pw == pw) = true := by simp
            go_wp2_with fail
            refine HP.out.mono ?_
            rintro e w' ⟨rfl, rfl⟩
            go_wp2_with fail
            refine HQ.out.mono ?_
            rintro e w' ⟨rfl, rfl⟩
            go_wp2_with fail
            refine hk1.out.mono ?_
            rintro e w' ⟨rfl, hb1⟩
            go_wp2_with fail
            go_ret
            exact ⟨rfl, hB.trans (hb1.mono (by rw [hz.out]; omega))⟩
          · have HP := Lib.hid (power_no n w1 (by omega))
            go_wp2_with fail
            refine HP.out.mono ?_
            rintro e w' ⟨rfl, rfl⟩
            by_cases hn1 : n < 1
            · go_wp2_with fail
              refine hk1.out.mono ?_
              rintro e w' ⟨rfl, hb1⟩
              go_wp2_with fail
              go_ret
              exact ⟨rfl, hB.trans (hb1.mono (by rw [hz.out]; omega))⟩
            · have hn2 : 16777216 < n := by omega
              go_wp2_with fail
              refine hk1.out.mono ?_
              rintro e w' ⟨rfl, hb1⟩
              go_wp2_with fail
              go_ret
              exact ⟨rfl, hB.trans (hb1.mono (by rw [hz.out]; omega))⟩
      · by_cases hx0 : x < 0
        · clear hx
          by_cases hn : 1 ≤ n ∧ n ≤ 16777216
          · have HP := Lib.hid (power_yes n w1 hn)
            have hpb := powI_bounds n hn
            have HQ := Lib.hid (lpower_of (powI n) (powI n) 0 (powI (powI n)) 0 w1 (Lib.hid (power_yes (powI n) w1 ⟨by omega, hpb.2.2.1⟩)))
            rw [powI_idem n hn] at HQ
            obtain ⟨p1, p2, p3, p4⟩ := hpb
            clear p4
            generalize powI n = pw at *
            have tq : (pw == pw) = true := by simp
            go_wp2_with fail
            refine HP.out.mono ?_
            rintro e w' ⟨rfl, rfl⟩
            go_wp2_with fail
            refine HQ.out.mono ?_
            rintro e w' ⟨rfl, rfl⟩
            go_wp2_with fail
            refine hk1.out.mono ?_
            rintro e w' ⟨rfl, hb1⟩
            go_wp2_with fail
            go_ret
            exact ⟨rfl, hB.trans (hb1.mono (by rw [hz.out]; omega))⟩
          · have HP := Lib.hid (power_no n w1 (by omega))
            go_wp2_with fail
            refine HP.out.mono ?_
            rintro e w' ⟨rfl, rfl⟩
            by_cases hn1 : n < 1
            · go_wp2_with fail
              refine hk1.out.mono ?_
              rintro e w' ⟨rfl, hb1⟩
              go_wp2_with fail
              go_ret
              exact ⟨rfl, hB.trans (hb1.mono (by rw [hz.out]; omega))⟩
            · have hn2 : 16777216 < n := by omega
              go_wp2_with fail
              refine hk1.out.mono ?_
              rintro e w' ⟨rfl, hb1⟩
              go_wp2_with fail
              go_ret
              exact ⟨rfl, hB.trans (hb1.mono (by rw [hz.out]; omega))⟩
        · have hx1 : 23 < x := by omega
          clear hx
          by_cases hn : 1 ≤ n ∧ n ≤ 16777216
          · have HP := Lib.hid (power_yes n w1 hn)
            have hpb := powI_bounds n hn
            have HQ := Lib.hid (lpower_of (powI n) (powI n) 0 (powI (powI n)) 0 w1 (Lib.hid (power_yes (powI n) w1 ⟨by omega, hpb.2.2.1⟩)))
            rw [powI_idem n hn] at HQ
            obtain ⟨p1, p2, p3, p4⟩ := hpb
            clear p4
            generalize powI n = pw at *
            have tq : (pw == pw) = true := by simp
            go_wp2_with fail
            refine HP.out.mono ?_
            rintro e w' ⟨rfl, rfl⟩
            go_wp2_with fail
            refine HQ.out.mono ?_
            rintro e w' ⟨rfl, rfl⟩
            go_wp2_with fail
            refine hk1.out.mono ?_
            rintro e w' ⟨rfl, hb1⟩
            go_wp2_with fail
            go_ret
            exact ⟨rfl, hB.trans (hb1.mono (by rw [hz.out]; omega))⟩
          · have HP := Lib.hid (power_no n w1 (by omega))
            go_wp2_with fail
            refine HP.out.mono ?_
            rintro e w' ⟨rfl, rfl⟩
            by_cases hn1 : n < 1
            · go_wp2_with fail
              refine hk1.out.mono ?_
              rintro e w' ⟨rfl, hb1⟩
              go_wp2_with fail
              go_ret
              exact ⟨rfl, hB.trans (hb1.mono (by rw [hz.out]; omega))⟩
            · have hn2 : 16777216 < n := by omega
              go_wp2_with fail
              refine hk1.out.mono ?_
              rintro e w' ⟨rfl, hb1⟩
              go_wp2_with fail
              go_ret
              exact ⟨rfl, hB.trans (hb1.mono (by rw [hz.out]; omega))⟩
end Go.Proofs.Ytajpaalmacfjjaa
