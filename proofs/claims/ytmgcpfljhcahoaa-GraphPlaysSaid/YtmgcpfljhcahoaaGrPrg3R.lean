/- What the functions of package graph compute: Has, check. -/
import Derived.Test.YtmgcpfljhcahoaaGrPrg2R
namespace Go.Proofs.Ytmgcpfljhcahoaa
open Go Sy Tb Gr
set_option maxRecDepth 100000

def hasN (l : List Nat) (x : Int) : Bool := l.any fun y => decide (x = (y : Int))
theorem hasN_at {l : List Nat} {x : Int} {i : Nat} (hi : i < l.length) (e : x = ((l.getD i 0 : Nat) : Int)) : hasN l x = true :=
  List.any_eq_true.2 ⟨l[i], List.getElem_mem hi, decide_eq_true (by rw [e, List.getD_eq_getElem?_getD, List.getElem?_eq_getElem hi]; rfl)⟩
theorem hasN_no {l : List Nat} {x : Int} (h : ∀ i, i < l.length → x ≠ ((l.getD i 0 : Nat) : Int)) : hasN l x = false :=
  Bool.eq_false_iff.2 fun g => by
    obtain ⟨y, hy, e⟩ := List.any_eq_true.1 g
    obtain ⟨i, hi, rfl⟩ := List.mem_iff_getElem.1 hy
    refine h i hi ?_
    rw [List.getD_eq_getElem?_getD, List.getElem?_eq_getElem hi]
    exact of_decide_eq_true e
theorem map_getD (l : List Nat) (q : Nat) : (l.map Int.ofNat).getD q 0 = ((l.getD q 0 : Nat) : Int) := by
  rw [List.getD_eq_getElem?_getD, List.getD_eq_getElem?_getD, List.getElem?_map]
  cases l[q]? <;> rfl
theorem conCt : ConOk Try.prog (conOf [(65, inl Try.prog (conOf []) Try.f65)]) := conOf_cons (inl_ok noGo mixed conOf_nil Try.func65 (by kernel_rfl)) conOf_nil
def SContains : LSpec where
  X := RowsM × SL × List Nat × Int
  k := 1
  pre x := (∃ o id, RowIs x.1 o id x.2.1 x.2.2.1) ∧ x.2.2.1.length ≤ 1000000
  args x θ := [ndV (θ 0) x.2.1, i64 x.2.2.2]
  objs x _ := [mrO x.1]
  out x _ R := R (.sb (hasN x.2.2.1 x.2.2.2)) [some (mrO x.1)]
theorem SContains_nt : SContains.Nt := ⟨fun _ _ => rfl, by unfold SContains; (intros; simp only [ren_all] at *; try assumption), by unfold SContains; (intros; simp only [ren_all] at *; try assumption)⟩
theorem SContains_ok : SContains.Ok Try.prog 53 := by
  refine LSpec.of_body noGo mixed conCt Try.func53 rfl (by kernel_rfl) fun ⟨M, s, l, x⟩ R ⟨⟨o, id, h1, h2⟩, hl⟩ hR => ?_
  have h1 : s.2.1 = l.length := h1
  have h2 : (l = [] ∧ s.2.2 = 0) ∨ ∃ b C, s.1 = some b ∧ M b = some (l.map Int.ofNat, C) ∧ l.length ≤ s.2.2 ∧ s.2.2 ≤ C ∧ o b = id := h2
  have hl : l.length ≤ 1000000 := hl
  have hQ : R (.sb (hasN l x)) [some (mrO M)] := hR
  obtain ⟨p, n, c⟩ := s
  have h1 : n = l.length := h1
  subst h1
  (conv => whnf)
  refine .inl ⟨Nat, fun i => [(0, .asl 0 (p.map fun b => (b, 0)) 1 l.length c), (1, i64 x), (7, i64 l.length), (8, i64 i)], fun _ => [some (mrO M)], fun i => l.length - i, fun i => i ≤ l.length ∧ ∀ q, q < i → x ≠ ((l.getD q 0 : Nat) : Int), 1, ⟨0, [], ⟨Nat.zero_le _, fun q hq => absurd hq (Nat.not_lt_zero q)⟩, ?_⟩, fun _ => rfl, fun i ⟨hi, hno⟩ => ?_⟩
  · (repeat' (first | exact True.intro | rfl | assumption | exact mc_ok rfl | exact mr_ok | exact fun _ => rfl | (refine And.intro ?_ ?_) | (intro _ _; rfl) | ((conv => whnf); (first | exact True.intro | (refine And.intro ?_ ?_)))))
  have hi : i ≤ l.length := hi
  have hno : ∀ q, q < i → x ≠ ((l.getD q 0 : Nat) : Int) := hno
  have ei := zero_add_toNat i
  (conv => whnf)
  constructor
  · intro h
    have h : i < l.length := by have : (i : Int) < (l.length : Int) := of_decide_eq_true h; omega
    obtain ⟨b, C, hb, hM, hc, hC, _⟩ := h2.resolve_left fun g => by rw [g.1] at h; exact absurd h (Nat.not_lt_zero _)
    have hb : p = some b := hb
    (conv => whnf)
    refine ⟨by show (0 : Int) ≤ (i : Int); omega, by show (i : Int) < (l.length : Int); omega, b, 0, by rw [hb]; rfl, ?_⟩
    (conv => whnf)
    refine ⟨(l.map Int.ofNat).length, C, fun q => [i64 ((l.map Int.ofNat).getD q 0)], by show (M b).map rwL = _; rw [hM]; rfl, by rw [List.length_map]; show 0 + (i : Int).toNat < _; omega, ?_⟩
    have ex : (l.map Int.ofNat).getD (0 + (i : Int).toNat) 0 = ((l.getD i 0 : Nat) : Int) := by rw [ei]; exact map_getD l i
    (conv => whnf)
    constructor
    · intro he
      have he : x = (l.map Int.ofNat).getD (0 + (i : Int).toNat) 0 := of_decide_eq_true he
      rw [ex] at he
      have hh := hasN_at h he
      (conv => whnf)
      refine ⟨[], _, _, hQ, ?_⟩
      (repeat' (first | exact True.intro | rfl | assumption | exact mc_ok rfl | exact mr_ok | exact fun _ => rfl | (refine And.intro ?_ ?_) | (intro _ _; rfl) | ((conv => whnf); (first | exact True.intro | (refine And.intro ?_ ?_)))))
      all_goals (show hasN l x = decide ((0 : Int) ≤ (i : Int)); rw [hh, decide_eq_true (by omega)])
    · intro he
      have he : x ≠ (l.map Int.ofNat).getD (0 + (i : Int).toNat) 0 := of_decide_eq_false he
      rw [ex] at he
      (conv => whnf)
      refine ⟨i + 1, [], by show l.length - (i + 1) < l.length - i; omega, ⟨by show i + 1 ≤ l.length; omega, fun q hq => ?_⟩, ?_⟩
      · rcases Nat.lt_or_ge q i with g | g
        · exact hno q g
        · have : q = i := by omega
          rw [this]; exact he
      (repeat' (first | exact True.intro | rfl | assumption | exact mc_ok rfl | exact mr_ok | exact fun _ => rfl | (refine And.intro ?_ ?_) | (intro _ _; rfl) | ((conv => whnf); (first | exact True.intro | (refine And.intro ?_ ?_)))))
      exact (wrap_inc h (by omega)).symm
  · intro h
    have h : ¬ i < l.length := by have : ¬ (i : Int) < (l.length : Int) := of_decide_eq_false h; omega
    have hh : hasN l x = false := hasN_no fun q hq => hno q (by omega)
    (conv => whnf)
    refine ⟨[], _, _, hQ, ?_⟩
    (repeat' (first | exact True.intro | rfl | assumption | exact mc_ok rfl | exact mr_ok | exact fun _ => rfl | (refine And.intro ?_ ?_) | (intro _ _; rfl) | ((conv => whnf); (first | exact True.intro | (refine And.intro ?_ ?_)))))
    all_goals (show hasN l x = decide ((0 : Int) ≤ -1); rw [hh]; rfl)

/-! Edges -/
def edge (ns : List NS) (p c : Bs) : Bool := decide (0 ≤ idxI ns p) && (decide (0 ≤ idxI ns c) && hasN (ns.getD (idxI ns p).toNat ns0).dn (idxI ns c))
theorem conHs : ConOk Try.prog (conOf [(46, inl Try.prog (conOf []) Try.f46), (44, SFind.T), (53, SContains.T)]) :=
  conOf_cons (inl_ok noGo mixed conOf_nil Try.func46 (by kernel_rfl)) (conOf_cons (LSpec.call SFind_nt SFind_ok) (conOf_cons (LSpec.call SContains_nt SContains_ok) conOf_nil))
theorem Gr.GI.rows {adr : Nat → Nat} {M1 : Nat → Option ND} {M2 : RowsM} {ns : List NS} (h : GI adr M1 M2 ns) {i : Nat} (hi : i < ns.length) : ∃ nd, M1 (adr i) = some nd ∧ nd.key = keyAt ns i ∧ nd.mark = (ns.getD i ns0).mark ∧ (∃ o id, RowIs M2 o id nd.d (ns.getD i ns0).dn) ∧ ∃ o id, RowIs M2 o id nd.u (ns.getD i ns0).up := by
  obtain ⟨o, pos, h⟩ := h.ex
  obtain ⟨_, nd, h1, h2, h3, h4, h5⟩ := h i hi
  exact ⟨nd, h1, h2, h3, ⟨o, _, h4⟩, ⟨o, _, h5⟩⟩
def SHas : LSpec where
  X := GG × Bs × Bs
  k := 5
  pre x := GT x.1 x.1.ns.length ∧ 1 ≤ x.1.N ∧ x.2.1.size ≤ 1000000 ∧ x.2.2.size ≤ 1000000 ∧ ∀ i, i < x.1.ns.length → (x.1.ns.getD i ns0).dn.length ≤ 1000000
  args x θ := [.ptr (θ 0) 0, .str x.2.1, .str x.2.2]
  objs x θ := x.1.objs θ
  out x θ R := R (.sb (edge x.1.ns x.2.1 x.2.2)) (x.1.all θ)
theorem SHas_nt : SHas.Nt := ⟨fun _ _ => rfl, by unfold SHas GG.objs; (intros; simp only [ren_all] at *; try assumption), by unfold SHas GG.all; (intros; simp only [ren_all] at *; try assumption)⟩
theorem edge_in {ns : List NS} {p c : Bs} (h1 : 0 ≤ idxI ns p) (h2 : 0 ≤ idxI ns c) : edge ns p c = hasN (ns.getD (idxI ns p).toNat ns0).dn (idxI ns c) := by
  unfold edge
  rw [decide_eq_true h1, decide_eq_true h2]
  rfl
theorem edge_no1 {ns : List NS} {p c : Bs} (h1 : ¬ 0 ≤ idxI ns p) : edge ns p c = false := by
  unfold edge
  rw [decide_eq_false h1]
  rfl
theorem edge_no2 {ns : List NS} {p c : Bs} (h1 : ¬ 0 ≤ idxI ns c) : edge ns p c = false := by
  unfold edge
  rw [decide_eq_false h1]
  cases decide (0 ≤ idxI ns p) <;> rfl
theorem SHas_ok : SHas.Ok Try.prog 30 := by
  refine LSpec.of_body noGo mixed conHs Try.func30 rfl (by kernel_rfl) fun ⟨g, p, c⟩ R ⟨hG, hN, hp, hc, hln⟩ hR => ?_
  have hG : GT g g.ns.length := hG
  have hN : 1 ≤ g.N := hN
  have hp : p.size ≤ 1000000 := hp
  have hc : c.size ≤ 1000000 := hc
  have hln : ∀ i, i < g.ns.length → (g.ns.getD i ns0).dn.length ≤ 1000000 := hln
  have hgi := hG.gi
  have hQ : R (.sb (edge g.ns p c)) (g.all _root_.id) := hR
  (conv => whnf)
  refine ⟨fun hh => absurd (show decide (g.N = 0) = true from hh) (by rw [decide_eq_false (by omega)]; decide), fun _ => ?_⟩
  (conv => whnf)
  refine ⟨(g, p), [0, 1, 2, 3, 4], ⟨hG, hp⟩, rfl, by (repeat' (first | exact True.intro | rfl | assumption | exact mc_ok rfl | exact mr_ok | exact fun _ => rfl | (refine And.intro ?_ ?_) | (intro _ _; rfl) | ((conv => whnf); (first | exact True.intro | (refine And.intro ?_ ?_))))), by (repeat' (first | exact True.intro | rfl | assumption | exact mc_ok rfl | exact mr_ok | exact fun _ => rfl | (refine And.intro ?_ ?_) | (intro _ _; rfl) | ((conv => whnf); (first | exact True.intro | (refine And.intro ?_ ?_))))), ?_⟩
  (conv => whnf)
  refine ⟨(g, c), [0, 1, 2, 3, 4], ⟨hG, hc⟩, rfl, by (repeat' (first | exact True.intro | rfl | assumption | exact mc_ok rfl | exact mr_ok | exact fun _ => rfl | (refine And.intro ?_ ?_) | (intro _ _; rfl) | ((conv => whnf); (first | exact True.intro | (refine And.intro ?_ ?_))))), by (repeat' (first | exact True.intro | rfl | assumption | exact mc_ok rfl | exact mr_ok | exact fun _ => rfl | (refine And.intro ?_ ?_) | (intro _ _; rfl) | ((conv => whnf); (first | exact True.intro | (refine And.intro ?_ ?_))))), ?_⟩
  (conv => whnf)
  constructor
  · intro h1
    have h1 : 0 ≤ idxI g.ns p := of_decide_eq_true h1
    obtain ⟨q1, q2, q3⟩ := idx_at h1
    (conv => whnf)
    constructor
    · intro h2
      have h2 : 0 ≤ idxI g.ns c := of_decide_eq_true h2
      obtain ⟨nd, hM, hkey, hmk, ⟨o, id', hd⟩, _⟩ := hgi.rows q1
      have ez : 0 + (idxI g.ns p).toNat = (idxI g.ns p).toNat := Nat.zero_add _
      (conv => whnf)
      refine ⟨h1, q3, ?_⟩
      (conv => whnf)
      refine ⟨by rw [ez]; exact q1, ?_⟩
      (conv => whnf)
      refine ⟨ndL 4 nd, by show (g.M1 (g.adr (0 + (idxI g.ns p).toNat))).map (ndL 4) = _; rw [ez, hM]; rfl, ?_⟩
      (conv => whnf)
      refine ⟨(g.M2, nd.d, (g.ns.getD (idxI g.ns p).toNat ns0).dn, idxI g.ns c), [4], ⟨⟨o, id', hd⟩, hln _ q1⟩, rfl, by (repeat' (first | exact True.intro | rfl | assumption | exact mc_ok rfl | exact mr_ok | exact fun _ => rfl | (refine And.intro ?_ ?_) | (intro _ _; rfl) | ((conv => whnf); (first | exact True.intro | (refine And.intro ?_ ?_))))), by (repeat' (first | exact True.intro | rfl | assumption | exact mc_ok rfl | exact mr_ok | exact fun _ => rfl | (refine And.intro ?_ ?_) | (intro _ _; rfl) | ((conv => whnf); (first | exact True.intro | (refine And.intro ?_ ?_))))), ?_⟩
      (conv => whnf)
      (repeat (first | refine And.intro rfl ?_ | fail))
      (conv => whnf)
      refine ⟨[], _, _, hQ, ?_⟩
      (repeat' (first | exact True.intro | rfl | assumption | exact mc_ok rfl | exact mr_ok | exact fun _ => rfl | (refine And.intro ?_ ?_) | (intro _ _; rfl) | ((conv => whnf); (first | exact True.intro | (refine And.intro ?_ ?_)))))
      all_goals exact edge_in h1 h2
    · intro h2
      have h2 : ¬ 0 ≤ idxI g.ns c := of_decide_eq_false h2
      rw [edge_no2 h2] at hQ
      (conv => whnf)
      refine ⟨[], _, _, hQ, ?_⟩
      (repeat' (first | exact True.intro | rfl | assumption | exact mc_ok rfl | exact mr_ok | exact fun _ => rfl | (refine And.intro ?_ ?_) | (intro _ _; rfl) | ((conv => whnf); (first | exact True.intro | (refine And.intro ?_ ?_)))))
  · intro h1
    have h1 : ¬ 0 ≤ idxI g.ns p := of_decide_eq_false h1
    rw [edge_no1 h1] at hQ
    (conv => whnf)
    refine ⟨[], _, _, hQ, ?_⟩
    (repeat' (first | exact True.intro | rfl | assumption | exact mc_ok rfl | exact mr_ok | exact fun _ => rfl | (refine And.intro ?_ ?_) | (intro _ _; rfl) | ((conv => whnf); (first | exact True.intro | (refine And.intro ?_ ?_)))))
end Go.Proofs.Ytmgcpfljhcahoaa
