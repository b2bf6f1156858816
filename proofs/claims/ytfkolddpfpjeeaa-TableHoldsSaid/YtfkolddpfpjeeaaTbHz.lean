/- TableHolds: the loops. -/
import Derived.Test.YtfkolddpfpjeeaaTbHo
import Derived.Test.YtfkolddpfpjeeaaTbOpen
namespace Go.Proofs.Ytfkolddpfpjeeaa
open Go Go.RowKit Sy Tb Al
set_option maxRecDepth 100000
theorem s_inj : ∀ a b : ByteArray, Key.s a = Key.s b → a = b := fun _ _ h => Key.s.inj h

theorem entK_keep (φ : Nat → Option Nat) (E : KE) : ∀ p ∈ entK E, V.mapN φ p.2 = p.2 := Al.keep (fun _ _ => rfl) φ E

theorem zipB_keep (φ : Nat → Option Nat) (E : KE) (B : List Nat) : ∀ p ∈ zipB (entK E) B, V.mapN φ p.2.1 = p.2.1 := fun p hp => by
  have : (p.1, p.2.1) ∈ entK E := by
    generalize entK E = L at hp
    induction L generalizing B with
    | nil => cases hp
    | cons q L ih =>
      cases B with
      | nil => cases hp
      | cons b B =>
        rcases List.mem_cons.1 (show p ∈ (q.1, q.2, b) :: zipB L B from hp) with rfl | h
        · exact List.mem_cons_self ..
        · exact List.mem_cons_of_mem _ (ih B h)
  exact entK_keep φ E _ this

def SHolds : LSpec where
  X := (Obj × List Act × TypeId) × Int × Int
  k := 1
  pre x := (0 ≤ x.2.1 ∧ x.2.1 < 18446744073709551616) ∧ (0 ≤ x.2.2 ∧ x.2.2 < 18446744073709551616)
  args x θ := [u64 x.2.1, u64 x.2.2, .sl (θ 0) 0 3 x.1.2.1.length false]
  objs x _ := [actO x.1.1 x.1.2.1 x.1.2.2]
  out x _ R := R (.sb true) [some (actO x.1.1 x.1.2.1 x.1.2.2)]
theorem Ht.new {s : Int} (h0 : 0 ≤ s) (h1 : s < 18446744073709551616) : Ht s 8 (fun _ => e0) [] :=
  ⟨by have := TI.new h0 h1; rw [cnt_zero] at this; exact this, fun k v hk => ⟨fun ⟨i, _, e⟩ => absurd (congrArg (fun c : Cell => c.1.size) e) (by have := hk.1; show ¬ 0 = k.size; omega), fun g => by cases g.1⟩, by decide, .inl rfl⟩
/-- What both tables and the map keep after i calls. -/
structure Gd (s1 s2 : Int) (i m : Nat) (D1 D2 : Tab) (E : KE) : Prop where
  t1 : Ht s1 m D1 E
  t2 : Ht s2 m D2 E
  nd : (E.map (·.1)).Nodup
  vk : ∀ p ∈ E, valid p.1
  le : liv E ≤ i
  m : m ≤ 1024
theorem Gd.same {s1 s2 : Int} {i m : Nat} {D1 D2 D1' D2' : Tab} {E : KE} (g : Gd s1 s2 i m D1 D2 E) (h1 : Ht s1 m D1' E) (h2 : Ht s2 m D2' E) : Gd s1 s2 (i + 1) m D1' D2' E := ⟨h1, h2, g.nd, g.vk, Nat.le_succ_of_le g.le, g.m⟩
theorem Gd.st {s1 s2 : Int} {i m m' : Nat} {D1 D2 D1' D2' : Tab} {E : KE} (g : Gd s1 s2 i m D1 D2 E) {k : ByteArray} {v : Int} (h1 : Ht s1 m' D1' (st k v E)) (h2 : Ht s2 m' D2' (st k v E)) (hk : valid k) (hm : m' ≤ 1024) : Gd s1 s2 (i + 1) m' D1' D2' (st k v E) := by
  refine ⟨h1, h2, st_nd g.nd, fun p hp => ?_, ?_, hm⟩
  · have : p.1 ∈ (Al.st k v E).map (·.1) := List.mem_map_of_mem hp
    rw [st_keys] at this
    have : p.1 ∈ E.map (·.1) ∨ p.1 = k := by
      split at this
      · exact .inl this
      · simpa using this
    rcases this with h | h
    · obtain ⟨q, hq, e⟩ := List.mem_map.1 h
      have e : q.1 = p.1 := e
      rw [← e]; exact g.vk q hq
    · rw [h]; exact hk
  · have := liv_st k v E
    have := g.le
    have : w01 v ≤ 1 := by unfold w01; split <;> omega
    omega
theorem live_valid {E : KE} {k : ByteArray} (hvk : ∀ p ∈ E, valid p.1) (h : live E k = true) : valid k := by
  obtain ⟨u, hu, _⟩ := live_iff.1 h
  obtain ⟨q, hq, e⟩ := List.mem_map.1 (lk_mem.1 (show lk E k ≠ none by rw [hu]; simp))
  have e : q.1 = k := e
  rw [← e]; exact hvk q hq
theorem lk_of_mem : ∀ {E : KE}, (E.map (·.1)).Nodup → ∀ p ∈ E, lk E p.1 = some p.2
  | [], _, _, h => by cases h
  | q :: E, hn, p, h => by
    have hn : q.1 ∉ E.map (·.1) ∧ (E.map (·.1)).Nodup := List.nodup_cons.1 hn
    rcases List.mem_cons.1 h with rfl | h
    · simp [lk]
    · have : ¬ q.1 = p.1 := fun e => hn.1 (by rw [e]; exact List.mem_map_of_mem h)
      simp only [lk, if_neg this]
      exact lk_of_mem hn.2 p h
theorem livm_le : ∀ (E : KE) (B arr : List Nat), livm E B arr ≤ liv E
  | [], _, _ => Nat.zero_le _
  | _ :: _, [], _ => Nat.zero_le _
  | p :: E, b :: B, arr => by
    have := livm_le E B arr
    simp only [livm, liv]
    split <;> omega
set_option maxHeartbeats 4000000 in
theorem SHolds_top : SHolds.Top Try.prog 5 := by
  refine LSpec.topC [11, 12, 33, 45] noGo mixed conHo Try.func5 rfl (by kernel_rfl) fun ⟨⟨c, l, e⟩, s1, s2⟩ R ⟨⟨ha0, ha1⟩, hb0, hb1⟩ hR => ?_
  have ha0 : 0 ≤ s1 := ha0
  have ha1 : s1 < 18446744073709551616 := ha1
  have hb0 : 0 ≤ s2 := hb0
  have hb1 : s2 < 18446744073709551616 := hb1
  (conv => whnf)
  refine ⟨(c, l, e), [0], trivial, rfl, by (repeat' (first | exact True.intro | rfl | assumption | exact entK_keep _ _ | exact zipB_keep _ _ _ | (refine And.intro ?_ ?_) | (intro _ _; rfl) | ((conv => whnf); (first | exact True.intro | (refine And.intro ?_ ?_))))), by (repeat' (first | exact True.intro | rfl | assumption | exact entK_keep _ _ | exact zipB_keep _ _ _ | (refine And.intro ?_ ?_) | (intro _ _; rfl) | ((conv => whnf); (first | exact True.intro | (refine And.intro ?_ ?_))))), fun b hb => ?_⟩
  (conv => whnf)
  constructor
  · intro h
    (conv => whnf)
    refine ⟨[], _, _, hR, ?_⟩
    (repeat' (first | exact True.intro | rfl | assumption | exact entK_keep _ _ | exact zipB_keep _ _ _ | (refine And.intro ?_ ?_) | (intro _ _; rfl) | ((conv => whnf); (first | exact True.intro | (refine And.intro ?_ ?_)))))
  · intro h
    have hl : l.length ≤ 120 := hb (by simpa using h)
    (conv => whnf)
    refine ⟨s1, [], trivial, rfl, by (repeat' (first | exact True.intro | rfl | assumption | exact entK_keep _ _ | exact zipB_keep _ _ _ | (refine And.intro ?_ ?_) | (intro _ _; rfl) | ((conv => whnf); (first | exact True.intro | (refine And.intro ?_ ?_))))), by (repeat' (first | exact True.intro | rfl | assumption | exact entK_keep _ _ | exact zipB_keep _ _ _ | (refine And.intro ?_ ?_) | (intro _ _; rfl) | ((conv => whnf); (first | exact True.intro | (refine And.intro ?_ ?_))))), ?_⟩
    (conv => whnf)
    refine ⟨s2, [], trivial, rfl, by (repeat' (first | exact True.intro | rfl | assumption | exact entK_keep _ _ | exact zipB_keep _ _ _ | (refine And.intro ?_ ?_) | (intro _ _; rfl) | ((conv => whnf); (first | exact True.intro | (refine And.intro ?_ ?_))))), by (repeat' (first | exact True.intro | rfl | assumption | exact entK_keep _ _ | exact zipB_keep _ _ _ | (refine And.intro ?_ ?_) | (intro _ _; rfl) | ((conv => whnf); (first | exact True.intro | (refine And.intro ?_ ?_))))), ?_⟩
    (conv => whnf)
    refine .inl ⟨Nat × Nat × Tab × Tab × KE, fun x => [(0, u64 s1), (7, .ptr 1 0), (8, .ptr 3 0), (9, .mp 5), (50, .sl 0 0 3 l.length false), (51, i64 l.length), (52, i64 x.1)],
      fun x => [some (actO c l e), some (tbC 2 s1 x.2.1 (liv x.2.2.2.2)), some (tbR x.2.1 x.2.2.1), some (tbC 4 s2 x.2.1 (liv x.2.2.2.2)), some (tbR x.2.1 x.2.2.2.1), some (.map .s (entK x.2.2.2.2))], fun x => l.length - x.1,
      fun x => x.1 ≤ l.length ∧ Gd s1 s2 x.1 x.2.1 x.2.2.1 x.2.2.2.1 x.2.2.2.2, 6, ⟨(0, 8, fun _ => e0, fun _ => e0, []), [some 1, some 2, some 3, some 4, some 5], ⟨Nat.zero_le _, ⟨Ht.new ha0 ha1, Ht.new hb0 hb1, List.nodup_nil, fun p hp => (by cases hp), Nat.le_refl _, by decide⟩⟩, ?_⟩, fun _ => rfl, fun ⟨i, m, D1, D2, E⟩ ⟨hi, hg⟩ => ?_⟩
    · (repeat' (first | exact True.intro | rfl | assumption | exact entK_keep _ _ | exact zipB_keep _ _ _ | (refine And.intro ?_ ?_) | (intro _ _; rfl) | ((conv => whnf); (first | exact True.intro | (refine And.intro ?_ ?_)))))
    have hi : i ≤ l.length := hi
    have hg : Gd s1 s2 i m D1 D2 E := hg
    have ⟨t1, t2, hnd, hvk, hle, hm⟩ := hg
    have hle : liv E ≤ i := hle
    have h8 := t1.t.ok.le
    (conv => whnf)
    constructor
    · intro h
      have hi2 := dec_lt h
      (conv => whnf)
      refine ⟨by simp, by simpa using h, by simpa using h, ?_⟩
      (conv => whnf)
      refine ⟨Act × Int × Bool, fun x => [(0, u64 s1), (7, .ptr 1 0), (8, .ptr 3 0), (9, .mp 5), (50, .sl 0 0 3 l.length false), (51, i64 l.length), (52, i64 i), (11, .ptr 6 0), (12, i64 x.2.1), (13, .sb x.2.2)],
          fun x => [some (actO c l e), some (tbC 2 s1 m (liv E)), some (tbR m D1), some (tbC 4 s2 m (liv E)), some (tbR m D2), some (.map .s (entK E)), some (.cells (actC x.1) 51)],
          fun x => (x.2.2 = true → lk E x.1.2.1 = some x.2.1) ∧ (x.2.2 = false → lk E x.1.2.1 = none), 7, fun _ => rfl, ?_, fun ⟨⟨w, k, v⟩, n, th⟩ ⟨hn, hno⟩ => ?_⟩
      · constructor
        · intro q hq
          obtain ⟨n, h1, rfl⟩ := get_some (F := i64) s_inj hq
          (conv => whnf)
          refine ⟨(l.getD (0 + ((i : Nat) : Int).toNat) act0, n, true), [some 1, some 2, some 3, some 4, some 5, some 6], ⟨fun _ => h1, fun g => Bool.noConfusion (show true = false from g)⟩, ?_⟩
          (repeat' (first | exact True.intro | rfl | assumption | exact entK_keep _ _ | exact zipB_keep _ _ _ | (refine And.intro ?_ ?_) | (intro _ _; rfl) | ((conv => whnf); (first | exact True.intro | (refine And.intro ?_ ?_)))))
        · intro hq
          have h1 := get_none (F := i64) s_inj hq
          (conv => whnf)
          refine ⟨(l.getD (0 + ((i : Nat) : Int).toNat) act0, 0, false), [some 1, some 2, some 3, some 4, some 5, some 6], ⟨fun g => Bool.noConfusion (show false = true from g), fun _ => h1⟩, ?_⟩
          (repeat' (first | exact True.intro | rfl | assumption | exact entK_keep _ _ | exact zipB_keep _ _ _ | (refine And.intro ?_ ?_) | (intro _ _; rfl) | ((conv => whnf); (first | exact True.intro | (refine And.intro ?_ ?_)))))
      · have hn : th = true → lk E k = some n := hn
        have hno : th = false → lk E k = none := hno
        (conv => whnf)
        refine ⟨Bool, fun x => [(0, u64 s1), (7, .ptr 1 0), (8, .ptr 3 0), (9, .mp 5), (50, .sl 0 0 3 l.length false), (51, i64 l.length), (52, i64 i), (11, .ptr 6 0), (12, i64 n), (13, .sb x)],
          fun _ => [some (actO c l e), some (tbC 2 s1 m (liv E)), some (tbR m D1), some (tbC 4 s2 m (liv E)), some (tbR m D2), some (.map .s (entK E)), some (.cells (actC (w, k, v)) 51)],
          fun x => live E k = x ∧ (x = true → lk E k = some n), 7, fun _ => rfl, ?_, fun th ⟨hth, hn⟩ => ?_⟩
        · (conv => whnf)
          constructor
          · intro ht
            have hl := hn ht
            have e1 : live E k = decide (0 ≤ n) := by unfold live; rw [hl]
            (conv => whnf)
            refine ⟨decide (0 ≤ n), [some 1, some 2, some 3, some 4, some 5, some 6], ⟨e1, fun _ => hl⟩, ?_⟩
            (repeat' (first | exact True.intro | rfl | assumption | exact entK_keep _ _ | exact zipB_keep _ _ _ | (refine And.intro ?_ ?_) | (intro _ _; rfl) | ((conv => whnf); (first | exact True.intro | (refine And.intro ?_ ?_)))))
          · intro ht
            have hl := hno ht
            have e1 : live E k = false := by unfold live; rw [hl]
            (conv => whnf)
            refine ⟨false, [some 1, some 2, some 3, some 4, some 5, some 6], ⟨e1, fun g => Bool.noConfusion (show false = true from g)⟩, ?_⟩
            (repeat' (first | exact True.intro | rfl | assumption | exact entK_keep _ _ | exact zipB_keep _ _ _ | (refine And.intro ?_ ?_) | (intro _ _; rfl) | ((conv => whnf); (first | exact True.intro | (refine And.intro ?_ ?_)))))
        · have hth : live E k = th := hth
          have hn : th = true → lk E k = some n := hn
          (conv => whnf)
          refine ⟨Nat × Tab × Tab × KE, fun x => [(0, u64 s1), (7, .ptr 1 0), (8, .ptr 3 0), (9, .mp 5), (50, .sl 0 0 3 l.length false), (51, i64 l.length), (52, i64 i)],
            fun x => [some (actO c l e), some (tbC 2 s1 x.1 (liv x.2.2.2)), some (tbR x.1 x.2.1), some (tbC 4 s2 x.1 (liv x.2.2.2)), some (tbR x.1 x.2.2.1), some (.map .s (entK x.2.2.2))],
            fun x => Gd s1 s2 (i + 1) x.1 x.2.1 x.2.2.1 x.2.2.2, 6, fun _ => rfl, ?_, fun ⟨m', D1', D2', E'⟩ hg' => ?_⟩
          · have hL : liv E ≤ 10000 := by have : liv E ≤ i := hle; omega
            have hM : 2 * m ≤ 32768 := by omega
            (conv => whnf)
            constructor
            · intro hw
              (conv => whnf)
              refine ⟨((s1, m, D1, E), k, v), [1, 2], ⟨t1, hL, hM⟩, rfl, by (repeat' (first | exact True.intro | rfl | assumption | exact entK_keep _ _ | exact zipB_keep _ _ _ | (refine And.intro ?_ ?_) | (intro _ _; rfl) | ((conv => whnf); (first | exact True.intro | (refine And.intro ?_ ?_))))), by (repeat' (first | exact True.intro | rfl | assumption | exact entK_keep _ _ | exact zipB_keep _ _ _ | (refine And.intro ?_ ?_) | (intro _ _; rfl) | ((conv => whnf); (first | exact True.intro | (refine And.intro ?_ ?_))))), fun e1 m1 E1 D1' ho1 ht1 => ?_⟩
              (conv => whnf)
              (repeat (first | refine And.intro rfl ?_ | fail))
              (conv => whnf)
              refine ⟨((s2, m, D2, E), k, v), [3, 4], ⟨t2, hL, hM⟩, rfl, by (repeat' (first | exact True.intro | rfl | assumption | exact entK_keep _ _ | exact zipB_keep _ _ _ | (refine And.intro ?_ ?_) | (intro _ _; rfl) | ((conv => whnf); (first | exact True.intro | (refine And.intro ?_ ?_))))), by (repeat' (first | exact True.intro | rfl | assumption | exact entK_keep _ _ | exact zipB_keep _ _ _ | (refine And.intro ?_ ?_) | (intro _ _; rfl) | ((conv => whnf); (first | exact True.intro | (refine And.intro ?_ ?_))))), fun e2 m2 E2 D2' ho2 ht2 => ?_⟩
              rcases ho1 with ⟨hc, rfl, rfl, rfl⟩ | ⟨hc, hlv, rfl, rfl, rfl⟩ | ⟨hc, hlv, rfl, rfl, rfl⟩
              · rcases ho2 with ⟨_, rfl, rfl, rfl⟩ | ⟨g, _⟩ | ⟨g, _⟩
                · (conv => whnf)
                  (repeat (first | refine And.intro rfl ?_ | fail))
                  (conv => whnf)
                  (repeat' (first | (refine And.intro (fun hh => ?_) (fun hh => ?_) <;> first | (exfalso; simp [*] at hh; done) | (exfalso; simp_all; done) | (conv => whnf)) | fail))
                  refine ⟨(m, D1', D2', E), [some 1, some 7, some 3, some 8, some 5], hg.same ht1 ht2, ?_⟩
                  (repeat' (first | exact True.intro | rfl | assumption | exact entK_keep _ _ | exact zipB_keep _ _ _ | (refine And.intro ?_ ?_) | (intro _ _; rfl) | ((conv => whnf); (first | exact True.intro | (refine And.intro ?_ ?_)))))
                · exact absurd g hc
                · exact absurd g hc
              · rcases ho2 with ⟨g, _⟩ | ⟨_, _, rfl, rfl, rfl⟩ | ⟨_, g, _⟩
                · exact absurd hc g
                · obtain rfl : th = true := hth.symm.trans hlv
                  (conv => whnf)
                  (repeat (first | refine And.intro rfl ?_ | fail))
                  (conv => whnf)
                  (repeat' (first | (refine And.intro (fun hh => ?_) (fun hh => ?_) <;> first | (exfalso; simp [*] at hh; done) | (exfalso; simp_all; done) | (conv => whnf)) | fail))
                  refine ⟨(m, D1', D2', E), [some 1, some 7, some 3, some 8, some 5], hg.same ht1 ht2, ?_⟩
                  (repeat' (first | exact True.intro | rfl | assumption | exact entK_keep _ _ | exact zipB_keep _ _ _ | (refine And.intro ?_ ?_) | (intro _ _; rfl) | ((conv => whnf); (first | exact True.intro | (refine And.intro ?_ ?_)))))
                · exact absurd (hlv.symm.trans g) (by simp)
              · rcases ho2 with ⟨g, _⟩ | ⟨_, g, _⟩ | ⟨_, _, rfl, rfl, rfl⟩
                · exact absurd hc g
                · exact absurd (hlv.symm.trans g) (by simp)
                · obtain rfl : th = false := hth.symm.trans hlv
                  have hgs := hg.st ht1 ht2 (chk_ok hc).1 (by show (if 4 * (liv E + 1) > 3 * m then 2 * m else m) ≤ 1024; split <;> omega)
                  (conv => whnf)
                  (repeat (first | refine And.intro rfl ?_ | fail))
                  (conv => whnf)
                  (repeat' (first | (refine And.intro (fun hh => ?_) (fun hh => ?_) <;> first | (exfalso; simp [*] at hh; done) | (exfalso; simp_all; done) | (conv => whnf)) | fail))
                  refine ⟨entK (Al.st k v E), (setE_ents s_inj k v E).symm, ?_⟩
                  (conv => whnf)
                  refine ⟨(if 4 * (liv E + 1) > 3 * m then 2 * m else m, D1', D2', Al.st k v E), [some 1, some 7, some 3, some 8, some 5], hgs, ?_⟩
                  (repeat' (first | exact True.intro | rfl | assumption | exact entK_keep _ _ | exact zipB_keep _ _ _ | (refine And.intro ?_ ?_) | (intro _ _; rfl) | ((conv => whnf); (first | exact True.intro | (refine And.intro ?_ ?_)))))
            · intro hw0
              (conv => whnf)
              constructor
              · intro hw
                (conv => whnf)
                refine ⟨((s1, m, D1, E), k, v), [1, 2], t1, rfl, by (repeat' (first | exact True.intro | rfl | assumption | exact entK_keep _ _ | exact zipB_keep _ _ _ | (refine And.intro ?_ ?_) | (intro _ _; rfl) | ((conv => whnf); (first | exact True.intro | (refine And.intro ?_ ?_))))), by (repeat' (first | exact True.intro | rfl | assumption | exact entK_keep _ _ | exact zipB_keep _ _ _ | (refine And.intro ?_ ?_) | (intro _ _; rfl) | ((conv => whnf); (first | exact True.intro | (refine And.intro ?_ ?_))))), fun n1 e1 E1 D1' ho1 hl1 ht1 => ?_⟩
                (conv => whnf)
                refine ⟨((s2, m, D2, E), k, v), [3, 4], t2, rfl, by (repeat' (first | exact True.intro | rfl | assumption | exact entK_keep _ _ | exact zipB_keep _ _ _ | (refine And.intro ?_ ?_) | (intro _ _; rfl) | ((conv => whnf); (first | exact True.intro | (refine And.intro ?_ ?_))))), by (repeat' (first | exact True.intro | rfl | assumption | exact entK_keep _ _ | exact zipB_keep _ _ _ | (refine And.intro ?_ ?_) | (intro _ _; rfl) | ((conv => whnf); (first | exact True.intro | (refine And.intro ?_ ?_))))), fun n2 e2 E2 D2' ho2 hl2 ht2 => ?_⟩
                rcases ho1 with ⟨hc, rfl, rfl, rfl⟩ | ⟨hc, hlv, rfl, rfl, rfl⟩ | ⟨hc, hlv, hn1, rfl, rfl⟩
                · rcases ho2 with ⟨_, rfl, rfl, rfl⟩ | ⟨g, _⟩ | ⟨g, _⟩
                  · (conv => whnf)
                    (repeat' (first | (refine And.intro (fun hh => ?_) (fun hh => ?_) <;> first | (exfalso; simp [*] at hh; done) | (exfalso; simp_all; done) | (conv => whnf)) | fail))
                    refine ⟨(m, D1', D2', E), [some 1, some 2, some 3, some 4, some 5], hg.same ht1 ht2, ?_⟩
                    (repeat' (first | exact True.intro | rfl | assumption | exact entK_keep _ _ | exact zipB_keep _ _ _ | (refine And.intro ?_ ?_) | (intro _ _; rfl) | ((conv => whnf); (first | exact True.intro | (refine And.intro ?_ ?_)))))
                  · exact absurd g hc
                  · exact absurd g hc
                · rcases ho2 with ⟨g, _⟩ | ⟨_, _, rfl, rfl, rfl⟩ | ⟨_, g, _⟩
                  · exact absurd hc g
                  · obtain rfl : th = false := hth.symm.trans hlv
                    (conv => whnf)
                    (repeat' (first | (refine And.intro (fun hh => ?_) (fun hh => ?_) <;> first | (exfalso; simp [*] at hh; done) | (exfalso; simp_all; done) | (conv => whnf)) | fail))
                    refine ⟨(m, D1', D2', E), [some 1, some 2, some 3, some 4, some 5], hg.same ht1 ht2, ?_⟩
                    (repeat' (first | exact True.intro | rfl | assumption | exact entK_keep _ _ | exact zipB_keep _ _ _ | (refine And.intro ?_ ?_) | (intro _ _; rfl) | ((conv => whnf); (first | exact True.intro | (refine And.intro ?_ ?_)))))
                  · exact absurd (hlv.symm.trans g) (by simp)
                · rcases ho2 with ⟨g, _⟩ | ⟨_, g, _⟩ | ⟨_, _, hn2, rfl, rfl⟩
                  · exact absurd hc g
                  · exact absurd (hlv.symm.trans g) (by simp)
                  · obtain rfl : th = true := hth.symm.trans hlv
                    have hn := hn rfl
                    obtain rfl : n = n1 := Option.some.inj (hn.symm.trans hn1)
                    obtain rfl : n = n2 := Option.some.inj (hn.symm.trans hn2)
                    have hgs := hg.st ht1 ht2 (chk_ok hc).1 hm
                    (conv => whnf)
                    (repeat' (first | (refine And.intro (fun hh => ?_) (fun hh => ?_) <;> first | (exfalso; simp [*] at hh; done) | (exfalso; simp_all; done) | (conv => whnf)) | fail))
                    refine ⟨entK (Al.st k v E), (setE_ents s_inj k v E).symm, ?_⟩
                    (conv => whnf)
                    refine ⟨(m, D1', D2', Al.st k v E), [some 1, some 2, some 3, some 4, some 5], hgs, ?_⟩
                    (repeat' (first | exact True.intro | rfl | assumption | exact entK_keep _ _ | exact zipB_keep _ _ _ | (refine And.intro ?_ ?_) | (intro _ _; rfl) | ((conv => whnf); (first | exact True.intro | (refine And.intro ?_ ?_)))))
              · intro hw2
                (conv => whnf)
                constructor
                · intro hw
                  (conv => whnf)
                  refine ⟨((s1, m, D1, E), k), [1, 2], t1, rfl, by (repeat' (first | exact True.intro | rfl | assumption | exact entK_keep _ _ | exact zipB_keep _ _ _ | (refine And.intro ?_ ?_) | (intro _ _; rfl) | ((conv => whnf); (first | exact True.intro | (refine And.intro ?_ ?_))))), by (repeat' (first | exact True.intro | rfl | assumption | exact entK_keep _ _ | exact zipB_keep _ _ _ | (refine And.intro ?_ ?_) | (intro _ _; rfl) | ((conv => whnf); (first | exact True.intro | (refine And.intro ?_ ?_))))), fun n1 e1 m1 E1 D1' ho1 ht1 => ?_⟩
                  (conv => whnf)
                  refine ⟨((s2, m, D2, E), k), [3, 4], t2, rfl, by (repeat' (first | exact True.intro | rfl | assumption | exact entK_keep _ _ | exact zipB_keep _ _ _ | (refine And.intro ?_ ?_) | (intro _ _; rfl) | ((conv => whnf); (first | exact True.intro | (refine And.intro ?_ ?_))))), by (repeat' (first | exact True.intro | rfl | assumption | exact entK_keep _ _ | exact zipB_keep _ _ _ | (refine And.intro ?_ ?_) | (intro _ _; rfl) | ((conv => whnf); (first | exact True.intro | (refine And.intro ?_ ?_))))), fun n2 e2 m2 E2 D2' ho2 ht2 => ?_⟩
                  rcases ho1 with ⟨hc, rfl, rfl, rfl, rfl⟩ | ⟨hc, hlv, rfl, rfl, rfl, rfl⟩ | ⟨hc, hlv, hn1, rfl, rfl, rfl⟩
                  · rcases ho2 with ⟨_, rfl, rfl, rfl, rfl⟩ | ⟨g, _⟩ | ⟨g, _⟩
                    · obtain rfl : th = false := by
                        rw [← hth]
                        cases hb : live E k with
                        | false => rfl
                        | true => exact absurd (chk_valid.2 (live_valid hvk hb)) hc
                      (conv => whnf)
                      (repeat' (first | (refine And.intro (fun hh => ?_) (fun hh => ?_) <;> first | (exfalso; revert hh; decide) | (conv => whnf)) | fail))
                      refine ⟨(m, D1', D2', E), [some 1, some 7, some 3, some 8, some 5], hg.same ht1 ht2, ?_⟩
                      (repeat' (first | exact True.intro | rfl | assumption | exact entK_keep _ _ | exact zipB_keep _ _ _ | (refine And.intro ?_ ?_) | (intro _ _; rfl) | ((conv => whnf); (first | exact True.intro | (refine And.intro ?_ ?_)))))
                    · exact absurd g hc
                    · exact absurd g hc
                  · rcases ho2 with ⟨g, _⟩ | ⟨_, _, rfl, rfl, rfl, rfl⟩ | ⟨_, g, _⟩
                    · exact absurd hc g
                    · obtain rfl : th = false := hth.symm.trans hlv
                      (conv => whnf)
                      (repeat' (first | (refine And.intro (fun hh => ?_) (fun hh => ?_) <;> first | (exfalso; revert hh; decide) | (conv => whnf)) | fail))
                      refine ⟨(m, D1', D2', E), [some 1, some 7, some 3, some 8, some 5], hg.same ht1 ht2, ?_⟩
                      (repeat' (first | exact True.intro | rfl | assumption | exact entK_keep _ _ | exact zipB_keep _ _ _ | (refine And.intro ?_ ?_) | (intro _ _; rfl) | ((conv => whnf); (first | exact True.intro | (refine And.intro ?_ ?_)))))
                    · exact absurd (hlv.symm.trans g) (by simp)
                  · rcases ho2 with ⟨g, _⟩ | ⟨_, g, _⟩ | ⟨_, _, hn2, rfl, rfl, rfl⟩
                    · exact absurd hc g
                    · exact absurd (hlv.symm.trans g) (by simp)
                    · obtain rfl : th = true := hth.symm.trans hlv
                      have hn := hn rfl
                      obtain rfl : n = n1 := Option.some.inj (hn.symm.trans hn1)
                      obtain rfl : n = n2 := Option.some.inj (hn.symm.trans hn2)
                      have hgs := hg.st ht1 ht2 (chk_ok hc).1 (by show (if 8 < m ∧ 8 * (liv E - 1) < m then m / 2 else m) ≤ 1024; split <;> omega)
                      (conv => whnf)
                      (repeat' (first | (refine And.intro (fun hh => ?_) (fun hh => ?_) <;> first | (exfalso; simp [*] at hh; done) | (exfalso; simp_all; done) | (conv => whnf)) | fail))
                      refine ⟨entK (Al.st k (-1) E), (setE_ents s_inj k (-1) E).symm, ?_⟩
                      (conv => whnf)
                      refine ⟨(if 8 < m ∧ 8 * (liv E - 1) < m then m / 2 else m, D1', D2', Al.st k (-1) E), [some 1, some 7, some 3, some 8, some 5], hgs, ?_⟩
                      (repeat' (first | exact True.intro | rfl | assumption | exact entK_keep _ _ | exact zipB_keep _ _ _ | (refine And.intro ?_ ?_) | (intro _ _; rfl) | ((conv => whnf); (first | exact True.intro | (refine And.intro ?_ ?_)))))
                · intro hw3
                  (conv => whnf)
                  refine ⟨(m, D1, D2, E), [some 1, some 2, some 3, some 4, some 5], hg.same t1 t2, ?_⟩
                  (repeat' (first | exact True.intro | rfl | assumption | exact entK_keep _ _ | exact zipB_keep _ _ _ | (refine And.intro ?_ ?_) | (intro _ _; rfl) | ((conv => whnf); (first | exact True.intro | (refine And.intro ?_ ?_)))))
          · have hg : Gd s1 s2 (i + 1) m' D1' D2' E' := hg'
            clear hg' t1 t2 hnd hvk hle hm h8 hn hth
            clear hn hno hi h
            have ⟨t1, t2, hnd, hvk, hle, hmle⟩ := hg
            have h8 := t1.t.ok.le
            have hlt := t1.t.ok.lt
            have hhi := t1.hi
            have hlo := t1.lo
            have hle : liv E' ≤ i + 1 := hle
            have hi2 : i < l.length := hi2
            have hmem : ∀ p ∈ E', lk E' p.1 = some p.2 := lk_of_mem hnd
            (conv => whnf)
            intro B c0 hB1 hB2 hB3
            have hB1 : B.length = E'.length := by rw [hB1]; exact List.length_map ..
            (conv => whnf)
            refine .inl ⟨List Nat, fun x => [(0, u64 s1), (7, .ptr 1 0), (8, .ptr 3 0), (9, .mp 5), (50, .sl 0 0 3 l.length false), (51, i64 l.length), (52, i64 i), (24, i64 (livm E' B x)), (201, .ptr 6 0)],
              fun x => [some (actO c l e), some (tbC 2 s1 m' (liv E')), some (tbR m' D1'), some (tbC 4 s2 m' (liv E')), some (tbR m' D2'), some (.mapb .s (zipB (entK E') B) c0), some (.iter 5 c0 x c0)],
              fun x => left B x, fun _ => True, 7, ⟨[], [some 1, some 2, some 3, some 4, some 5, some 6], trivial, ?_⟩, fun _ => rfl, fun arr _ => ?_⟩
            · (repeat' (first | exact True.intro | rfl | assumption | exact entK_keep _ _ | exact zipB_keep _ _ _ | (refine And.intro ?_ ?_) | (intro _ _; rfl) | ((conv => whnf); (first | exact True.intro | (refine And.intro ?_ ?_)))))
              rw [livm_nil]
              rfl
            · (conv => whnf)
              refine ⟨fun p hp => hB3 _ (zipB_born hp), Nat.le_refl _, fun hall => ?_, fun p hp hno => ?_⟩
              · have hall : ∀ b ∈ B, b ∈ arr := fun b hb => by
                  have : b ∈ (zipB (entK E') B).map fun p => p.2.2 := by rw [zipB_snd (by rw [hB1]; exact (List.length_map ..).symm)]; exact hb
                  obtain ⟨p, hp, e⟩ := List.mem_map.1 this
                  rw [← e]; exact hall p hp
                have hlv := livm_all hB1 hall
                (conv => whnf)
                have hle2 : livm E' B arr ≤ 121 := by omega
                have hq : ((liv E' : Nat) : Int) = ((livm E' B arr : Nat) : Int) := by rw [hlv]
                rw [hlv]
                refine ⟨Unit, fun _ => [(0, u64 s1), (7, .ptr 1 0), (8, .ptr 3 0), (9, .mp 5), (50, .sl 0 0 3 l.length false), (51, i64 l.length), (52, i64 i)],
                  fun _ => [some (actO c l e), some (tbC 2 s1 m' (liv E')), some (tbR m' D1'), some (tbC 4 s2 m' (liv E')), some (tbR m' D2'), some (.map .s (entK E'))], fun _ => True, 6, fun _ => rfl, ?_, fun _ _ => ?_⟩
                · (conv => whnf)
                  refine ⟨(s1, m', (liv E' : Int), D1'), [1, 2], h8, rfl, by (repeat' (first | exact True.intro | rfl | assumption | exact entK_keep _ _ | exact zipB_keep _ _ _ | (refine And.intro ?_ ?_) | (intro _ _; rfl) | ((conv => whnf); (first | exact True.intro | (refine And.intro ?_ ?_))))), by (repeat' (first | exact True.intro | rfl | assumption | exact entK_keep _ _ | exact zipB_keep _ _ _ | (refine And.intro ?_ ?_) | (intro _ _; rfl) | ((conv => whnf); (first | exact True.intro | (refine And.intro ?_ ?_))))), ?_⟩
                  (conv => whnf)
                  (repeat (first | refine And.intro rfl ?_ | fail))
                  (conv => whnf)
                  (repeat' (first | (refine And.intro (fun hh => ?_) (fun hh => ?_) <;> first | (exfalso; simp [*] at hh; done) | (exfalso; simp_all; done) | (conv => whnf)) | fail))
                  refine ⟨(s2, m', (liv E' : Int), D2'), [3, 4], h8, rfl, by (repeat' (first | exact True.intro | rfl | assumption | exact entK_keep _ _ | exact zipB_keep _ _ _ | (refine And.intro ?_ ?_) | (intro _ _; rfl) | ((conv => whnf); (first | exact True.intro | (refine And.intro ?_ ?_))))), by (repeat' (first | exact True.intro | rfl | assumption | exact entK_keep _ _ | exact zipB_keep _ _ _ | (refine And.intro ?_ ?_) | (intro _ _; rfl) | ((conv => whnf); (first | exact True.intro | (refine And.intro ?_ ?_))))), ?_⟩
                  (conv => whnf)
                  (repeat (first | refine And.intro rfl ?_ | fail))
                  (conv => whnf)
                  (repeat' (first | (refine And.intro (fun hh => ?_) (fun hh => ?_) <;> first | (exfalso; simp [*] at hh; done) | (exfalso; simp_all; done) | (conv => whnf)) | fail))
                  have hw4 : IntKind.i64.wrap (4 * (liv E' : Int)) = 4 * (liv E' : Int) := wrap_id (by omega) (by omega)
                  have hw3 : IntKind.i64.wrap (3 * (m' : Int)) = 3 * (m' : Int) := wrap_id (by omega) (by omega)
                  have hw8 : IntKind.i64.wrap (8 * (liv E' : Int)) = 8 * (liv E' : Int) := wrap_id (by omega) (by omega)
                  have hd4 : ¬ IntKind.i64.wrap (3 * (m' : Int)) < IntKind.i64.wrap (4 * (liv E' : Int)) := by rw [hw4, hw3]; omega
                  refine ⟨(s1, m', (liv E' : Int), D1'), [1, 2], h8, rfl, by (repeat' (first | exact True.intro | rfl | assumption | exact entK_keep _ _ | exact zipB_keep _ _ _ | (refine And.intro ?_ ?_) | (intro _ _; rfl) | ((conv => whnf); (first | exact True.intro | (refine And.intro ?_ ?_))))), by (repeat' (first | exact True.intro | rfl | assumption | exact entK_keep _ _ | exact zipB_keep _ _ _ | (refine And.intro ?_ ?_) | (intro _ _; rfl) | ((conv => whnf); (first | exact True.intro | (refine And.intro ?_ ?_))))), ?_⟩
                  (conv => whnf)
                  (repeat (first | refine And.intro rfl ?_ | fail))
                  (conv => whnf)
                  refine ⟨(s2, m', (liv E' : Int), D2'), [3, 4], h8, rfl, by (repeat' (first | exact True.intro | rfl | assumption | exact entK_keep _ _ | exact zipB_keep _ _ _ | (refine And.intro ?_ ?_) | (intro _ _; rfl) | ((conv => whnf); (first | exact True.intro | (refine And.intro ?_ ?_))))), by (repeat' (first | exact True.intro | rfl | assumption | exact entK_keep _ _ | exact zipB_keep _ _ _ | (refine And.intro ?_ ?_) | (intro _ _; rfl) | ((conv => whnf); (first | exact True.intro | (refine And.intro ?_ ?_))))), ?_⟩
                  (conv => whnf)
                  (repeat (first | refine And.intro rfl ?_ | fail))
                  (conv => whnf)
                  (repeat' (first | (refine And.intro (fun hh => ?_) (fun hh => ?_) <;> first | (exfalso; simp [*] at hh; done) | (exfalso; simp_all; done) | (conv => whnf)) | fail))
                  refine ⟨(s1, m', (liv E' : Int), D1'), [1, 2], h8, rfl, by (repeat' (first | exact True.intro | rfl | assumption | exact entK_keep _ _ | exact zipB_keep _ _ _ | (refine And.intro ?_ ?_) | (intro _ _; rfl) | ((conv => whnf); (first | exact True.intro | (refine And.intro ?_ ?_))))), by (repeat' (first | exact True.intro | rfl | assumption | exact entK_keep _ _ | exact zipB_keep _ _ _ | (refine And.intro ?_ ?_) | (intro _ _; rfl) | ((conv => whnf); (first | exact True.intro | (refine And.intro ?_ ?_))))), ?_⟩
                  (conv => whnf)
                  (repeat (first | refine And.intro rfl ?_ | fail))
                  (conv => whnf)
                  refine ⟨fun _ => ?_, fun hh => absurd (show decide (IntKind.i64.wrap (3 * (m' : Int)) < IntKind.i64.wrap (4 * (liv E' : Int))) = true from hh) (by rw [decide_eq_false hd4]; decide)⟩
                  (conv => whnf)
                  refine ⟨(s1, m', (liv E' : Int), D1'), [1, 2], h8, rfl, by (repeat' (first | exact True.intro | rfl | assumption | exact entK_keep _ _ | exact zipB_keep _ _ _ | (refine And.intro ?_ ?_) | (intro _ _; rfl) | ((conv => whnf); (first | exact True.intro | (refine And.intro ?_ ?_))))), by (repeat' (first | exact True.intro | rfl | assumption | exact entK_keep _ _ | exact zipB_keep _ _ _ | (refine And.intro ?_ ?_) | (intro _ _; rfl) | ((conv => whnf); (first | exact True.intro | (refine And.intro ?_ ?_))))), ?_⟩
                  (conv => whnf)
                  (repeat (first | refine And.intro rfl ?_ | fail))
                  (conv => whnf)
                  have hnd8 : (8 : Int) < (m' : Int) → ¬ IntKind.i64.wrap (8 * (liv E' : Int)) < (m' : Int) := fun h => by rw [hw8]; rcases hlo with e | e <;> omega
                  constructor
                  · intro h9
                    have h9 : (8 : Int) < (m' : Int) := of_decide_eq_true h9
                    (conv => whnf)
                    refine ⟨(s1, m', (liv E' : Int), D1'), [1, 2], h8, rfl, by (repeat' (first | exact True.intro | rfl | assumption | exact entK_keep _ _ | exact zipB_keep _ _ _ | (refine And.intro ?_ ?_) | (intro _ _; rfl) | ((conv => whnf); (first | exact True.intro | (refine And.intro ?_ ?_))))), by (repeat' (first | exact True.intro | rfl | assumption | exact entK_keep _ _ | exact zipB_keep _ _ _ | (refine And.intro ?_ ?_) | (intro _ _; rfl) | ((conv => whnf); (first | exact True.intro | (refine And.intro ?_ ?_))))), ?_⟩
                    (conv => whnf)
                    (repeat (first | refine And.intro rfl ?_ | fail))
                    (conv => whnf)
                    refine ⟨fun hh => absurd (show decide (IntKind.i64.wrap (8 * (liv E' : Int)) < (m' : Int)) = true from hh) (by rw [decide_eq_false (hnd8 h9)]; decide), fun _ => ?_⟩
                    (conv => whnf)
                    refine ⟨(), [some 1, some 2, some 3, some 4, some 5], trivial, ?_⟩
                    (repeat' (first | exact True.intro | rfl | assumption | exact entK_keep _ _ | exact zipB_keep _ _ _ | (refine And.intro ?_ ?_) | (intro _ _; rfl) | ((conv => whnf); (first | exact True.intro | (refine And.intro ?_ ?_)))))
                    exact (zipB_fst (by rw [hB1]; exact (List.length_map ..).symm)).symm
                  · intro h9
                    (conv => whnf)
                    refine ⟨(), [some 1, some 2, some 3, some 4, some 5], trivial, ?_⟩
                    (repeat' (first | exact True.intro | rfl | assumption | exact entK_keep _ _ | exact zipB_keep _ _ _ | (refine And.intro ?_ ?_) | (intro _ _; rfl) | ((conv => whnf); (first | exact True.intro | (refine And.intro ?_ ?_)))))
                    exact (zipB_fst (by rw [hB1]; exact (List.length_map ..).symm)).symm
                · (conv => whnf)
                  refine ⟨(s1, m', (liv E' : Int), D1'), [1, 2], ⟨h8, hlt⟩, rfl, by (repeat' (first | exact True.intro | rfl | assumption | exact entK_keep _ _ | exact zipB_keep _ _ _ | (refine And.intro ?_ ?_) | (intro _ _; rfl) | ((conv => whnf); (first | exact True.intro | (refine And.intro ?_ ?_))))), by (repeat' (first | exact True.intro | rfl | assumption | exact entK_keep _ _ | exact zipB_keep _ _ _ | (refine And.intro ?_ ?_) | (intro _ _; rfl) | ((conv => whnf); (first | exact True.intro | (refine And.intro ?_ ?_))))), ?_⟩
                  (conv => whnf)
                  refine .inl ⟨Nat, fun x => [(0, u64 s1), (7, .ptr 1 0), (8, .ptr 3 0), (9, .mp 5), (50, .sl 0 0 3 l.length false), (51, i64 l.length), (52, i64 i), (29, .sl 6 0 1 m' false), (268, .sl 6 0 1 m' false), (269, i64 m'), (270, i64 x)],
                    fun _ => [some (actO c l e), some (tbC 2 s1 m' (liv E')), some (tbR m' D1'), some (tbC 4 s2 m' (liv E')), some (tbR m' D2'), some (.map .s (entK E')), some (kR m' D1'), some (nR m' D1')],
                    fun x => m' - x, fun x => x ≤ m', 8, ⟨0, [some 1, some 2, some 3, some 4, some 5, some 6, some 7], Nat.zero_le _, ?_⟩, fun _ => rfl, fun j hj => ?_⟩
                  · (repeat' (first | exact True.intro | rfl | assumption | exact entK_keep _ _ | exact zipB_keep _ _ _ | (refine And.intro ?_ ?_) | (intro _ _; rfl) | ((conv => whnf); (first | exact True.intro | (refine And.intro ?_ ?_)))))
                  have hj : j ≤ m' := hj
                  (conv => whnf)
                  constructor
                  · intro h
                    have hj2 : j < m' := dec_lt h
                    have ej := zero_add_toNat j
                    (conv => whnf)
                    refine ⟨by show (0 : Int) ≤ (j : Int); omega, by show (j : Int) < (m' : Int); omega, ?_⟩
                    (conv => whnf)
                    refine ⟨by rw [ej]; exact hj2, ?_⟩
                    (conv => whnf)
                    constructor
                    · intro hk
                      (conv => whnf)
                      refine ⟨j + 1, [some 1, some 2, some 3, some 4, some 5, some 6, some 7], by show m' - (j + 1) < m' - j; omega, by show j + 1 ≤ m'; omega, ?_⟩
                      (repeat' (first | exact True.intro | rfl | assumption | exact entK_keep _ _ | exact zipB_keep _ _ _ | (refine And.intro ?_ ?_) | (intro _ _; rfl) | ((conv => whnf); (first | exact True.intro | (refine And.intro ?_ ?_)))))
                      exact (wrap_inc hj2 (by omega)).symm
                    · intro hk
                      have hk : ¬ (D1' (0 + (j : Int).toNat)).1 = ⟨#[]⟩ := of_decide_eq_false hk
                      rw [ej] at hk
                      have hks := t1.t.ksz j hj2
                      have hfr : free (D1' j) = false := by rw [free_iff]; exact decide_eq_false hk
                      have hk0 : 0 < (D1' j).1.size := by unfold free at hfr; have := of_decide_eq_false hfr; omega
                      have eD : D1' (0 + (j : Int).toNat) = D1' j := by rw [ej]
                      obtain ⟨w1, w2, w3⟩ := t1.t.wf.way_to hk0 hj2 rfl
                      have hha := (t1.t.ok.hm (D1' j).1)
                      (conv => whnf)
                      refine ⟨by rw [ej]; omega, t1.t.ok.seed, ?_⟩
                      (conv => whnf)
                      refine ⟨sumI_range _ _, t1.t.ok.size, ?_⟩
                      (conv => whnf)
                      (repeat' (first | (refine And.intro (fun hh => ?_) (fun hh => ?_) <;> first | (exfalso; simp [*] at hh; done) | (exfalso; simp_all; done) | (conv => whnf)) | fail))
                      refine .inl ⟨Nat, fun x => [(0, u64 s1), (7, .ptr 1 0), (8, .ptr 3 0), (9, .mp 5), (50, .sl 0 0 3 l.length false), (51, i64 l.length), (52, i64 i), (29, .sl 6 0 1 m' false), (268, .sl 6 0 1 m' false), (269, i64 m'), (270, i64 j), (31, i64 j), (33, i64 (ad m' (hm s1 m' (D1' j).1) x : Nat))],
                        fun _ => [some (actO c l e), some (tbC 2 s1 m' (liv E')), some (tbR m' D1'), some (tbC 4 s2 m' (liv E')), some (tbR m' D2'), some (.map .s (entK E')), some (kR m' D1'), some (nR m' D1')],
                        fun x => m' - x, fun x => x ≤ way m' (hm s1 m' (D1' j).1) j, 8, ⟨0, [some 1, some 2, some 3, some 4, some 5, some 6, some 7], Nat.zero_le _, ?_⟩, fun _ => rfl, fun d hd => ?_⟩
                      · (repeat' (first | exact True.intro | rfl | assumption | exact entK_keep _ _ | exact zipB_keep _ _ _ | (refine And.intro ?_ ?_) | (intro _ _; rfl) | ((conv => whnf); (first | exact True.intro | (refine And.intro ?_ ?_)))))
                        rw [ad_zero hha.2, ej]; exact hha.1
                      have hd : d ≤ way m' (hm s1 m' (D1' j).1) j := hd
                      have hal := ad_lt hha.2 (show d ≤ m' by omega)
                      have ea := zero_add_toNat (ad m' (hm s1 m' (D1' j).1) d)
                      (conv => whnf)
                      constructor
                      · intro hne
                        have hne : (!decide (((ad m' (hm s1 m' (D1' j).1) d : Nat) : Int) = (j : Int))) = true := hne
                        have hdw : d < way m' (hm s1 m' (D1' j).1) j := by
                          rcases Nat.lt_or_ge d (way m' (hm s1 m' (D1' j).1) j) with g | g
                          · exact g
                          · have : d = way m' (hm s1 m' (D1' j).1) j := by omega
                            rw [this, w2] at hne
                            simp at hne
                        have hfd := (w3 d hdw).1
                        rw [free_iff] at hfd
                        have hfd := of_decide_eq_false hfd
                        (conv => whnf)
                        refine ⟨by show (0 : Int) ≤ ((ad m' (hm s1 m' (D1' j).1) d : Nat) : Int); omega, by show ((ad m' (hm s1 m' (D1' j).1) d : Nat) : Int) < (m' : Int); omega, ?_⟩
                        (conv => whnf)
                        refine ⟨by rw [ea]; exact hal, ?_⟩
                        (conv => whnf)
                        refine ⟨fun hh => absurd (of_decide_eq_true hh) (by rw [ea]; exact hfd), fun _ => ?_⟩
                        (conv => whnf)
                        refine ⟨by show (m' : Int) ≠ 0; omega, ?_⟩
                        (conv => whnf)
                        refine ⟨d + 1, [some 1, some 2, some 3, some 4, some 5, some 6, some 7], by show m' - (d + 1) < m' - d; omega, by show d + 1 ≤ _; omega, ?_⟩
                        (repeat' (first | exact True.intro | rfl | assumption | exact entK_keep _ _ | exact zipB_keep _ _ _ | (refine And.intro ?_ ?_) | (intro _ _; rfl) | ((conv => whnf); (first | exact True.intro | (refine And.intro ?_ ?_)))))
                        show ((ad m' (hm s1 m' (D1' j).1) (d + 1) : Nat) : Int) = (IntKind.i64.wrap (((ad m' (hm s1 m' (D1' j).1) d : Nat) : Int) + 1)).tmod (m' : Int)
                        rw [tmod_ad hal (by omega), ad_next (by omega) hha.2 (by omega)]
                      · intro hne
                        (conv => whnf)
                        refine ⟨j + 1, [some 1, some 2, some 3, some 4, some 5, some 6, some 7], by show m' - (j + 1) < m' - j; omega, by show j + 1 ≤ m'; omega, ?_⟩
                        (repeat' (first | exact True.intro | rfl | assumption | exact entK_keep _ _ | exact zipB_keep _ _ _ | (refine And.intro ?_ ?_) | (intro _ _; rfl) | ((conv => whnf); (first | exact True.intro | (refine And.intro ?_ ?_)))))
                        exact (wrap_inc hj2 (by omega)).symm
                  · intro h
                    (conv => whnf)
                    refine ⟨(i + 1, m', D1', D2', E'), [some 1, some 2, some 3, some 4, some 5], by show l.length - (i + 1) < l.length - i; omega, ⟨by show i + 1 ≤ l.length; omega, hg⟩, ?_⟩
                    (repeat' (first | exact True.intro | rfl | assumption | exact entK_keep _ _ | exact zipB_keep _ _ _ | (refine And.intro ?_ ?_) | (intro _ _; rfl) | ((conv => whnf); (first | exact True.intro | (refine And.intro ?_ ?_)))))
                    exact (wrap_inc hi2 (by omega)).symm
              · obtain ⟨p', hp1, hp2, hp3, hp4⟩ := livm_in hB2 hp hno
                have hlt2 := left_lt (zipB_born hp) hno
                obtain ⟨k0, v0, b0⟩ := p
                obtain ⟨kk, vv⟩ := p'
                have hp2 : k0 = .s kk := hp2
                have hp3 : v0 = i64 vv := hp3
                subst hp2 hp3
                have hkv := hvk _ hp1
                have hlk : lk E' kk = some vv := hmem _ hp1
                have hp4 : livm E' B (arr ++ [b0]) = livm E' B arr + w01 vv := hp4
                have hlm : livm E' B arr + w01 vv ≤ 121 := by have := livm_le E' B (arr ++ [b0]); omega
                (conv => whnf)
                refine ⟨rfl, (.s kk, i64 vv, b0), arr, rfl, hp, ?_⟩
                (conv => whnf)
                constructor
                · intro hv
                  have hv : vv < 0 := of_decide_eq_true hv
                  have hw : livm E' B (arr ++ [b0]) = livm E' B arr := by rw [hp4]; unfold w01; rw [if_neg (by omega)]; rfl
                  (conv => whnf)
                  refine ⟨((s1, m', D1', E'), kk, vv), [1, 2], ⟨t1, hkv, hlk⟩, rfl, ?_, by (repeat' (first | exact True.intro | rfl | assumption | exact entK_keep _ _ | exact zipB_keep _ _ _ | (refine And.intro ?_ ?_) | (intro _ _; rfl) | ((conv => whnf); (first | exact True.intro | (refine And.intro ?_ ?_))))), ?_⟩
                  · (repeat' (first | exact True.intro | rfl | assumption | exact entK_keep _ _ | exact zipB_keep _ _ _ | (refine And.intro ?_ ?_) | (intro _ _; rfl) | ((conv => whnf); (first | exact True.intro | (refine And.intro ?_ ?_)))))
                    · exact if_pos hv
                    · exact if_pos hv
                  (conv => whnf)
                  (repeat (first | refine And.intro rfl ?_ | fail))
                  (conv => whnf)
                  refine ⟨fun _ => ?_, fun hh => Bool.noConfusion (show false = true from hh)⟩
                  (conv => whnf)
                  refine ⟨((s2, m', D2', E'), kk, vv), [3, 4], ⟨t2, hkv, hlk⟩, rfl, ?_, by (repeat' (first | exact True.intro | rfl | assumption | exact entK_keep _ _ | exact zipB_keep _ _ _ | (refine And.intro ?_ ?_) | (intro _ _; rfl) | ((conv => whnf); (first | exact True.intro | (refine And.intro ?_ ?_))))), ?_⟩
                  · (repeat' (first | exact True.intro | rfl | assumption | exact entK_keep _ _ | exact zipB_keep _ _ _ | (refine And.intro ?_ ?_) | (intro _ _; rfl) | ((conv => whnf); (first | exact True.intro | (refine And.intro ?_ ?_)))))
                    · exact if_pos hv
                    · exact if_pos hv
                  (conv => whnf)
                  (repeat (first | refine And.intro rfl ?_ | fail))
                  (conv => whnf)
                  refine ⟨fun hh => Bool.noConfusion (show false = true from hh), fun _ => ?_⟩
                  (conv => whnf)
                  refine ⟨arr ++ [b0], [some 1, some 2, some 3, some 4, some 5, some 6], hlt2, trivial, ?_⟩
                  (repeat' (first | exact True.intro | rfl | assumption | exact entK_keep _ _ | exact zipB_keep _ _ _ | (refine And.intro ?_ ?_) | (intro _ _; rfl) | ((conv => whnf); (first | exact True.intro | (refine And.intro ?_ ?_)))))
                  exact congrArg Nat.cast hw
                · intro hv
                  have hv : ¬ vv < 0 := of_decide_eq_false hv
                  have hw : livm E' B (arr ++ [b0]) = livm E' B arr + 1 := by rw [hp4]; unfold w01; rw [if_pos (by omega)]
                  (conv => whnf)
                  refine ⟨((s1, m', D1', E'), kk, vv), [1, 2], ⟨t1, hkv, hlk⟩, rfl, ?_, by (repeat' (first | exact True.intro | rfl | assumption | exact entK_keep _ _ | exact zipB_keep _ _ _ | (refine And.intro ?_ ?_) | (intro _ _; rfl) | ((conv => whnf); (first | exact True.intro | (refine And.intro ?_ ?_))))), ?_⟩
                  · (repeat' (first | exact True.intro | rfl | assumption | exact entK_keep _ _ | exact zipB_keep _ _ _ | (refine And.intro ?_ ?_) | (intro _ _; rfl) | ((conv => whnf); (first | exact True.intro | (refine And.intro ?_ ?_)))))
                    · exact if_neg hv
                    · exact if_neg hv
                  (conv => whnf)
                  (repeat (first | refine And.intro rfl ?_ | fail))
                  (conv => whnf)
                  refine ⟨fun _ => ?_, fun hh => Bool.noConfusion (show false = true from hh)⟩
                  (conv => whnf)
                  refine ⟨((s2, m', D2', E'), kk, vv), [3, 4], ⟨t2, hkv, hlk⟩, rfl, ?_, by (repeat' (first | exact True.intro | rfl | assumption | exact entK_keep _ _ | exact zipB_keep _ _ _ | (refine And.intro ?_ ?_) | (intro _ _; rfl) | ((conv => whnf); (first | exact True.intro | (refine And.intro ?_ ?_))))), ?_⟩
                  · (repeat' (first | exact True.intro | rfl | assumption | exact entK_keep _ _ | exact zipB_keep _ _ _ | (refine And.intro ?_ ?_) | (intro _ _; rfl) | ((conv => whnf); (first | exact True.intro | (refine And.intro ?_ ?_)))))
                    · exact if_neg hv
                    · exact if_neg hv
                  (conv => whnf)
                  (repeat (first | refine And.intro rfl ?_ | fail))
                  (conv => whnf)
                  refine ⟨fun hh => Bool.noConfusion (show false = true from hh), fun _ => ?_⟩
                  (conv => whnf)
                  refine ⟨arr ++ [b0], [some 1, some 2, some 3, some 4, some 5, some 6], hlt2, trivial, ?_⟩
                  (repeat' (first | exact True.intro | rfl | assumption | exact entK_keep _ _ | exact zipB_keep _ _ _ | (refine And.intro ?_ ?_) | (intro _ _; rfl) | ((conv => whnf); (first | exact True.intro | (refine And.intro ?_ ?_)))))
                  show ((livm E' B (arr ++ [b0]) : Nat) : Int) = IntKind.i64.wrap ((livm E' B arr : Int) + 1)
                  rw [hw, wrap_id (by omega) (by omega)]
                  rfl
    · intro h
      (conv => whnf)
      refine ⟨[], _, _, hR, ?_⟩
      (repeat' (first | exact True.intro | rfl | assumption | exact entK_keep _ _ | exact zipB_keep _ _ _ | (refine And.intro ?_ ?_) | (intro _ _; rfl) | ((conv => whnf); (first | exact True.intro | (refine And.intro ?_ ?_)))))
theorem lHolds (s1 s2 : Int) (h1 : 0 ≤ s1 ∧ s1 < 18446744073709551616) (h2 : 0 ≤ s2 ∧ s2 < 18446744073709551616) (l : List Act) (W : World) (v : Value) (h : Nonempty (RoArg W v l.length (fun j => actC (l.getD j act0)) 3)) : Calls Try.prog 5 #[.int .u64 s1, .int .u64 s2, v] W fun e w' => e = .returned (.bool true) ∧ Below W.heap.size W w' := by
  obtain ⟨h⟩ := h
  obtain ⟨ρ, c, e, hr, hfp, hcz⟩ := ro_one h (by decide) (act_ok l)
  exact SHolds_top ((c, l, e), s1, s2) ⟨h1, h2⟩ ⟨rfl, rfl⟩ (fun o ho => ⟨c, _, _, e, 3, List.mem_singleton.1 ho⟩) ρ W [.int .u64 s1, .int .u64 s2, v] hr hfp (by
    show czl ρ [u64 s1, u64 s2, V.sl 0 0 3 l.length false] = some [.int .u64 s1, .int .u64 s2, v]
    simp only [czl, hcz]
    rfl)
end Go.Proofs.Ytfkolddpfpjeeaa
