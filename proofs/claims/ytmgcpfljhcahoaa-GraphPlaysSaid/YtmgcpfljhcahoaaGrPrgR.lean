/- What the functions of package graph compute: the cells. -/
import Derived.Test.YtmgcpfljhcahoaaK2GraphPlays
import Derived.Test.YtmgcpfljhcahoaaGrMathR
namespace Go.Proofs.Ytmgcpfljhcahoaa
open Go Sy Tb Gr
set_option maxRecDepth 100000

def i64 (n : Int) : V := .int .i64 n
def u64 (n : Int) : V := .int .u64 n
def ndV (i : Nat) (s : SL) : V := .asl i (s.1.map fun b => (b, 0)) 1 s.2.1 s.2.2
def ndL (i : Nat) (nd : ND) : List V := [.str nd.key, ndV i nd.d, ndV i nd.u, i64 nd.mark]
def mcO (i : Nat) (M : Nat → Option ND) : SObj := .memc 87 (fun b => (M b).map (ndL i))
def rwL (r : List Int × Nat) : Nat × Nat × (Nat → List V) := (r.1.length, r.2, fun q => [i64 (r.1.getD q 0)])
def mrO (M : RowsM) : SObj := .memr 3 1 (fun b => (M b).map rwL)
def lsR (i n : Nat) (adr : Nat → Nat) : SObj := .row n (fun j => [.ap i (adr j) 0]) 88 1
def ceR (m : Nat) (C : Nat → Int) : SObj := .row m (fun j => [i64 (C j)]) 3 1
def grC (l c : Nat) (N E seed : Int) (n m : Nat) (lk sr : Int) : SObj := .cells [i64 N, i64 E, u64 seed, .sl l 0 1 n false, .sl c 0 1 m false, i64 lk, i64 sr] 70
theorem i64_ren (θ : Nat → Nat) (n : Int) : (i64 n).ren θ = i64 n := rfl
theorem u64_ren (θ : Nat → Nat) (n : Int) : (u64 n).ren θ = u64 n := rfl
theorem str_ren (θ : Nat → Nat) (s : ByteArray) : (V.str s).ren θ = .str s := rfl
theorem slr_ren (θ : Nat → Nat) (i lo sz n : Nat) (f : Bool) : (V.sl i lo sz n f).ren θ = .sl (θ i) lo sz n f := rfl
theorem ep_ren (θ : Nat → Nat) (i j sz fo : Nat) : (V.ep i j sz fo).ren θ = .ep (θ i) j sz fo := rfl
theorem ap_ren (θ : Nat → Nat) (i b off : Nat) : (V.ap i b off).ren θ = .ap (θ i) b off := rfl
theorem agg_ren (θ : Nat → Nat) (l : List V) : (V.agg l).ren θ = .agg (renl θ l) := rfl
theorem bool_ren (θ : Nat → Nat) (b : Bool) : (V.bool b).ren θ = .bool b := rfl
theorem grC_ren (θ : Nat → Nat) (l c : Nat) (N E seed : Int) (n m : Nat) (lk sr : Int) : (grC l c N E seed n m lk sr).ren θ = grC (θ l) (θ c) N E seed n m lk sr := rfl
theorem lsR_ren (θ : Nat → Nat) (i n : Nat) (adr : Nat → Nat) : (lsR i n adr).ren θ = lsR (θ i) n adr := rfl
theorem ceR_ren (θ : Nat → Nat) (m : Nat) (C : Nat → Int) : (ceR m C).ren θ = ceR m C := rfl
theorem mcO_ren (θ : Nat → Nat) (i : Nat) (M : Nat → Option ND) : (mcO i M).ren θ = mcO (θ i) M := by
  exact congrArg (SObj.memc _) (funext fun b => by show Option.map (renl θ) (Option.map (ndL i) (M b)) = _; cases M b <;> rfl)
theorem mrO_ren (θ : Nat → Nat) (M : RowsM) : (mrO M).ren θ = mrO M := by
  exact congrArg (SObj.memr _ _) (funext fun b => by show Option.map _ (Option.map rwL (M b)) = _; cases M b <;> rfl)
def eS : Bs := ByteArray.empty
def stP (i : Nat) (K : List Bs) : SObj := .row i (fun j => [.str (K.getD j eS)]) 9 1
def stR (l : List Bs) : SObj := stP l.length l
def clO (x : Int) : SObj := .cells [i64 x] 3
def inP (i : Nat) (f : Nat → Int) : SObj := .row i (fun j => [i64 (f j)]) 3 1
def edP (i : Nat) (l : List (Bs × Bs)) : SObj := .row i (fun j => [.str (l.getD j (eS, eS)).1, .str (l.getD j (eS, eS)).2]) 50 2
def edR (l : List (Bs × Bs)) : SObj := edP l.length l
theorem stP_ren (θ : Nat → Nat) (i : Nat) (K : List Bs) : (stP i K).ren θ = stP i K := rfl
theorem stR_ren (θ : Nat → Nat) (K : List Bs) : (stR K).ren θ = stR K := rfl
theorem clO_ren (θ : Nat → Nat) (x : Int) : (clO x).ren θ = clO x := rfl
theorem inP_ren (θ : Nat → Nat) (i : Nat) (f : Nat → Int) : (inP i f).ren θ = inP i f := rfl
theorem edP_ren (θ : Nat → Nat) (i : Nat) (l : List (Bs × Bs)) : (edP i l).ren θ = edP i l := rfl
theorem edR_ren (θ : Nat → Nat) (l : List (Bs × Bs)) : (edR l).ren θ = edR l := rfl
theorem apn_ren (θ : Nat → Nat) (l m : List SObj) : (l ++ m).map (SObj.ren θ) = l.map (SObj.ren θ) ++ m.map (SObj.ren θ) := List.map_append
theorem apo_ren (θ : Nat → Nat) (l m : List (Option SObj)) : (l ++ m).map (Option.map (SObj.ren θ)) = l.map (Option.map (SObj.ren θ)) ++ m.map (Option.map (SObj.ren θ)) := List.map_append
theorem nd_ren (θ : Nat → Nat) (i : Nat) (s : SL) : (ndV i s).ren θ = ndV (θ i) s := rfl
theorem ren_all : type_of% (And.intro @map_all (And.intro @ptr_ren (And.intro @sb_ren (And.intro @int_ren (And.intro @tup_ren (And.intro @con_ren (And.intro @nil_ren (And.intro @nd_ren (And.intro @stP_ren (And.intro @stR_ren (And.intro @clO_ren (And.intro @inP_ren (And.intro @edP_ren (And.intro @edR_ren (And.intro @apn_ren (And.intro @apo_ren (And.intro @i64_ren (And.intro @u64_ren (And.intro @str_ren (And.intro @slr_ren (And.intro @ptr_ren (And.intro @ep_ren (And.intro @ap_ren (And.intro @agg_ren (And.intro @bool_ren (And.intro @sb_ren (And.intro @grC_ren (And.intro @lsR_ren (And.intro @ceR_ren (And.intro @mcO_ren (@mrO_ren))))))))))))))))))))))))))))))) := And.intro @map_all (And.intro @ptr_ren (And.intro @sb_ren (And.intro @int_ren (And.intro @tup_ren (And.intro @con_ren (And.intro @nil_ren (And.intro @nd_ren (And.intro @stP_ren (And.intro @stR_ren (And.intro @clO_ren (And.intro @inP_ren (And.intro @edP_ren (And.intro @edR_ren (And.intro @apn_ren (And.intro @apo_ren (And.intro @i64_ren (And.intro @u64_ren (And.intro @str_ren (And.intro @slr_ren (And.intro @ptr_ren (And.intro @ep_ren (And.intro @ap_ren (And.intro @agg_ren (And.intro @bool_ren (And.intro @sb_ren (And.intro @grC_ren (And.intro @lsR_ren (And.intro @ceR_ren (And.intro @mcO_ren (@mrO_ren))))))))))))))))))))))))))))))

theorem mc_ok {φ : Nat → Option Nat} {i j : Nat} {M : Nat → Option ND} (h : φ i = some j) : ∀ b l, (fun b => (M b).map (ndL i)) b = some l → (fun b => (M b).map (ndL j)) b = some (mapNl φ l) := fun b l hb => by
  obtain ⟨nd, hM, rfl⟩ := Option.map_eq_some_iff.1 hb
  show (M b).map (ndL j) = _
  rw [hM]
  simp [ndL, ndV, mapNl, V.mapN, h, i64]
theorem mr_ok {φ : Nat → Option Nat} {M : RowsM} : ∀ b N C f, (fun b => (M b).map rwL) b = some (N, C, f) → ∃ f', (fun b => (M b).map rwL) b = some (N, C, f') ∧ ∀ q, q < N → mapNl φ (f q) = f' q := fun b N C f hb => by
  refine ⟨f, hb, fun q _ => ?_⟩
  obtain ⟨r, _, e⟩ := Option.map_eq_some_iff.1 hb
  cases e
  rfl
theorem mr_eq {φ : Nat → Option Nat} {M M' : RowsM} (h : ∀ b, M b = M' b) : ∀ b N C f, (fun b => (M b).map rwL) b = some (N, C, f) → ∃ f', (fun b => (M' b).map rwL) b = some (N, C, f') ∧ ∀ q, q < N → mapNl φ (f q) = f' q := fun b N C f hb => by
  refine ⟨f, ?_, fun q _ => ?_⟩
  · show (M' b).map rwL = _
    rw [← h]; exact hb
  · obtain ⟨r, _, e⟩ := Option.map_eq_some_iff.1 hb
    cases e
    rfl

/-- A graph in memory. -/
structure GG where
  N : Int
  E : Int
  seed : Int
  adr : Nat → Nat
  M1 : Nat → Option ND
  M2 : RowsM
  ns : List NS
  m : Nat
  C : Nat → Int
  lk : Int
  sr : Int
def GG.objs (g : GG) (θ : Nat → Nat) : List SObj := [grC (θ 1) (θ 2) g.N g.E g.seed g.ns.length g.m g.lk g.sr, lsR (θ 3) g.ns.length g.adr, ceR g.m g.C, mcO (θ 4) g.M1, mrO g.M2]
def GG.all (g : GG) (θ : Nat → Nat) : List (Option SObj) := [some (grC (θ 1) (θ 2) g.N g.E g.seed g.ns.length g.m g.lk g.sr), some (lsR (θ 3) g.ns.length g.adr), some (ceR g.m g.C), some (mcO (θ 4) g.M1), some (mrO g.M2)]
/-- t nodes are in the cells. -/
structure GT (g : GG) (t : Nat) : Prop where
  ht : HT g.seed g.ns t g.m g.C
  gi : GI g.adr g.M1 g.M2 g.ns
  seed : 0 ≤ g.seed ∧ g.seed < 18446744073709551616
  m8 : 8 ≤ g.m
  mle : g.m ≤ 100000
  nle : g.ns.length ≤ 50000
  ev : g.m % 2 = 0
theorem Gr.GI.nd {adr : Nat → Nat} {M1 : Nat → Option ND} {M2 : RowsM} {ns : List NS} (h : GI adr M1 M2 ns) {i : Nat} (hi : i < ns.length) : ∃ nd, M1 (adr i) = some nd ∧ nd.key = keyAt ns i := by
  obtain ⟨o, pos, h⟩ := h.ex
  obtain ⟨_, nd, h1, h2, _⟩ := h i hi
  exact ⟨nd, h1, h2⟩
theorem zero_add_toNat (n : Nat) : 0 + ((n : Nat) : Int).toNat = n := by simp
theorem wrap_inc {i n : Nat} (h : i < n) (hn : n < 1000000000) : IntKind.i64.wrap ((i : Int) + 1) = ((i + 1 : Nat) : Int) := by rw [wrap_id (by omega) (by omega)]; rfl
theorem ce_set {C : Nat → Int} {j : Nat} {x : Int} (q : Nat) : [i64 (setC C j x q)] = bif Nat.beq q j then putD 0 [i64 (C q)] [i64 x] else [i64 (C q)] := by
  unfold setC
  by_cases g : q = j
  · subst g
    rw [if_pos rfl, show Nat.beq q q = true from Nat.beq_refl q]
    rfl
  · rw [if_neg g]
    cases hb : Nat.beq q j with
    | true => exact absurd (Nat.eq_of_beq_eq_true hb) g
    | false => rfl
theorem hg_tmod {seed : Int} {m : Nat} {k : Bs} (hm : 0 < m) : ((hg seed m k : Nat) : Int) = (sumI seed k.data.toList).tmod (m : Int) := by
  have h0 := (sumI_range seed k.data.toList).1
  rw [Int.tmod_eq_emod_of_nonneg h0]
  have h1 := Int.emod_nonneg (sumI seed k.data.toList) (show (m : Int) ≠ 0 by omega)
  unfold hg
  omega
theorem conCe : ConOk Try.prog (conOf [(70, sumT)]) := conOf_cons sumT_ok conOf_nil
def SCell : LSpec where
  X := GG × Nat × Bs
  k := 5
  pre x := GT x.1 x.2.1 ∧ x.2.2.size ≤ 1000000
  args x θ := [.ptr (θ 0) 0, .str x.2.2]
  objs x θ := x.1.objs θ
  out x θ R := ∀ j, CellIs x.1.seed x.1.ns x.2.1 x.1.m x.1.C x.2.2 j → R (.ep (θ 2) j 1 0) (x.1.all θ)
theorem SCell_nt : SCell.Nt := ⟨fun _ _ => rfl, by unfold SCell GG.objs; (intros; simp only [ren_all] at *; try assumption), by unfold SCell GG.all; (intros; simp only [ren_all] at *; try assumption)⟩
theorem SCell_ok : SCell.Ok Try.prog 59 := by
  refine LSpec.of_body noGo mixed conCe Try.func59 rfl (by kernel_rfl) fun ⟨⟨N, E, seed, adr, M1, M2, ns, m, C, lk, sr⟩, t, k⟩ R ⟨hG, hk⟩ hR => ?_
  have hG : GT ⟨N, E, seed, adr, M1, M2, ns, m, C, lk, sr⟩ t := hG
  have hk : k.size ≤ 1000000 := hk
  have ht : HT seed ns t m C := hG.ht
  have hgi : GI adr M1 M2 ns := hG.gi
  have hseed : 0 ≤ seed ∧ seed < 18446744073709551616 := hG.seed
  have h8 : 8 ≤ m := hG.m8
  have hm : m ≤ 100000 := hG.mle
  have hnl : ns.length ≤ 50000 := hG.nle
  have ew : IntKind.u64.wrap (m : Int) = m := u64_in _ ⟨by omega, by omega⟩
  have hlt := hg_lt (seed := seed) ht.pos k
  have htn := ht.tn
  have hQ : ∀ j, CellIs seed ns t m C k j → R (.ep 2 j 1 0) [some (grC 1 2 N E seed ns.length m lk sr), some (lsR 3 ns.length adr), some (ceR m C), some (mcO 4 M1), some (mrO M2)] := hR
  obtain ⟨d, hd, hno, hyes, hcell⟩ := ht.cell k
  (conv => whnf)
  refine ⟨hk, hseed, ?_⟩
  (conv => whnf)
  (repeat (first | refine And.intro rfl ?_ | fail))
  (conv => whnf)
  refine ⟨by show IntKind.u64.wrap (m : Int) ≠ 0; rw [ew]; omega, ?_⟩
  (conv => whnf)
  refine .inl ⟨Nat, fun e => [(0, .ptr 0 0), (1, .str k), (5, u64 (ad m (hg seed m k) e : Nat))], fun _ => [some (grC 1 2 N E seed ns.length m lk sr), some (lsR 3 ns.length adr), some (ceR m C), some (mcO 4 M1), some (mrO M2)], fun e => d - e, fun e => e ≤ d, 5, ⟨0, [], Nat.zero_le _, ?_⟩, fun _ => rfl, fun e he => ?_⟩
  · (repeat' (first | exact True.intro | rfl | assumption | exact mc_ok rfl | exact mr_ok | exact fun _ => rfl | (refine And.intro ?_ ?_) | (intro _ _; rfl) | ((conv => whnf); (first | exact True.intro | (refine And.intro ?_ ?_)))))
    rw [ad_zero hlt, ew]
    exact hg_tmod ht.pos
  have he : e ≤ d := he
  have hl : ad m (hg seed m k) e < m := ad_lt hlt (show e ≤ m by omega)
  have ea := zero_add_toNat (ad m (hg seed m k) e)
  have b0 : (0 : Int) ≤ ((ad m (hg seed m k) e : Nat) : Int) ∧ ((ad m (hg seed m k) e : Nat) : Int) < (m : Int) := ⟨by omega, by omega⟩
  (conv => whnf)
  have fin : (C (ad m (hg seed m k) e) = 0 ∨ keyAt ns (C (ad m (hg seed m k) e) - 1).toNat = k) → R (.ep 2 (0 + ((ad m (hg seed m k) e : Nat) : Int).toNat) 1 0) [some (grC 1 2 N E seed ns.length m lk sr), some (lsR 3 ns.length adr), some (ceR m C), some (mcO 4 M1), some (mrO M2)] := fun hz => by
    have : e = d := by
      rcases Nat.lt_or_ge e d with g | g
      · obtain ⟨g1, g2⟩ := hno e g
        rcases hz with hz | hz
        · exact absurd hz g1
        · exact absurd hz g2
      · omega
    rw [ea, this]
    exact hQ _ hcell
  refine ⟨b0.1, b0.2, ?_⟩
  (conv => whnf)
  refine ⟨by rw [ea]; exact hl, ?_⟩
  (conv => whnf)
  constructor
  · intro h1
    have h1 : C (ad m (hg seed m k) e) ≠ 0 := by
      have h1 : (!decide (C (0 + ((ad m (hg seed m k) e : Nat) : Int).toNat) = 0)) = true := h1
      rw [ea] at h1
      simpa using h1
    obtain ⟨i, hi, ei⟩ := ht.at hl h1
    have ei2 : C (0 + ((ad m (hg seed m k) e : Nat) : Int).toNat) = (i : Int) + 1 := by rw [ea]; exact ei
    have ew1 : IntKind.i64.wrap (C (0 + ((ad m (hg seed m k) e : Nat) : Int).toNat) - 1) = (i : Int) := by rw [ei2, wrap_id (by omega) (by omega)]; omega
    have ew2 : 0 + (IntKind.i64.wrap (C (0 + ((ad m (hg seed m k) e : Nat) : Int).toNat) - 1)).toNat = i := by rw [ew1]; omega
    obtain ⟨nd, hM, hkey⟩ := hgi.nd (Nat.lt_of_lt_of_le hi htn)
    (conv => whnf)
    refine ⟨b0.1, b0.2, ?_⟩
    (conv => whnf)
    refine ⟨by rw [ea]; exact hl, ?_⟩
    (conv => whnf)
    refine ⟨by show (0 : Int) ≤ IntKind.i64.wrap (C (0 + ((ad m (hg seed m k) e : Nat) : Int).toNat) - 1); rw [ew1]; omega, by show IntKind.i64.wrap (C (0 + ((ad m (hg seed m k) e : Nat) : Int).toNat) - 1) < (ns.length : Int); rw [ew1]; omega, ?_⟩
    (conv => whnf)
    refine ⟨by rw [ew2]; omega, ?_⟩
    (conv => whnf)
    refine ⟨ndL 4 nd, by show (M1 (adr (0 + (IntKind.i64.wrap (C (0 + ((ad m (hg seed m k) e : Nat) : Int).toNat) - 1)).toNat))).map (ndL 4) = _; rw [ew2, hM]; rfl, ?_⟩
    (conv => whnf)
    constructor
    · intro h2
      have h2 : nd.key ≠ k := by
        have h2 : (!decide (nd.key = k)) = true := h2
        simpa using h2
      have hlt2 : e < d := by
        rcases Nat.lt_or_ge e d with g | g
        · exact g
        · have : e = d := by omega
          subst this
          rcases hyes with g | g
          · exact absurd g h1
          · rw [ei, show ((i : Int) + 1 - 1).toNat = i by omega, ← hkey] at g
            exact absurd g h2
      (conv => whnf)
      refine ⟨by show IntKind.u64.wrap (m : Int) ≠ 0; rw [ew]; omega, ?_⟩
      (conv => whnf)
      refine ⟨e + 1, [], by show d - (e + 1) < d - e; omega, by show e + 1 ≤ d; omega, ?_⟩
      (repeat' (first | exact True.intro | rfl | assumption | exact mc_ok rfl | exact mr_ok | exact fun _ => rfl | (refine And.intro ?_ ?_) | (intro _ _; rfl) | ((conv => whnf); (first | exact True.intro | (refine And.intro ?_ ?_)))))
      show ((ad m (hg seed m k) (e + 1) : Nat) : Int) = (IntKind.u64.wrap (((ad m (hg seed m k) e : Nat) : Int) + 1)).tmod (IntKind.u64.wrap (m : Int))
      rw [ew, u64_in _ ⟨by omega, by omega⟩, Int.tmod_eq_emod_of_nonneg (by omega), ← ad_next (by omega) hlt (by omega), ← ad_mod hl (by omega), Int.natCast_emod, Int.natCast_add]
      rfl
    · intro h2
      have h2 : nd.key = k := by
        have h2 : (!decide (nd.key = k)) = false := h2
        simpa using h2
      have hfin := fin (.inr (by rw [ei, show ((i : Int) + 1 - 1).toNat = i by omega, ← hkey]; exact h2))
      (conv => whnf)
      refine ⟨b0.1, b0.2, ?_⟩
      (conv => whnf)
      refine ⟨[], _, _, hfin, ?_⟩
      (repeat' (first | exact True.intro | rfl | assumption | exact mc_ok rfl | exact mr_ok | exact fun _ => rfl | (refine And.intro ?_ ?_) | (intro _ _; rfl) | ((conv => whnf); (first | exact True.intro | (refine And.intro ?_ ?_)))))
  · intro h1
    have h1 : C (ad m (hg seed m k) e) = 0 := by
      have h1 : (!decide (C (0 + ((ad m (hg seed m k) e : Nat) : Int).toNat) = 0)) = !true := h1
      rw [ea] at h1
      simpa using h1
    have hfin := fin (.inl h1)
    (conv => whnf)
    refine ⟨b0.1, b0.2, ?_⟩
    (conv => whnf)
    refine ⟨[], _, _, hfin, ?_⟩
    (repeat' (first | exact True.intro | rfl | assumption | exact mc_ok rfl | exact mr_ok | exact fun _ => rfl | (refine And.intro ?_ ?_) | (intro _ _; rfl) | ((conv => whnf); (first | exact True.intro | (refine And.intro ?_ ?_)))))
end Go.Proofs.Ytmgcpfljhcahoaa
