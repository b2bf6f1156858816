/- What the functions of package graph compute: Remove$1, pack. -/
import Derived.Test.YtmgcpfljhcahoaaGrPack0R
namespace Go.Proofs.Ytmgcpfljhcahoaa
open Go Sy Tb Gr
set_option maxRecDepth 100000
set_option maxHeartbeats 20000000

theorem conDr : ConOk Try.prog (conOf [(67, SDelete.T)]) := conOf_cons (LSpec.call SDelete_nt SDelete_ok) conOf_nil
def SDrop : LSpec where
  X := RowsM × SL × List Nat × Int
  k := 1
  pre x := (∃ o id, RowIs x.1 o id x.2.1 x.2.2.1) ∧ x.2.2.1.length ≤ 1000000
  args x θ := [ndV (θ 0) x.2.1, i64 x.2.2.2]
  objs x _ := [mrO x.1]
  out x θ R := ∀ M', DelOk x.1 x.2.1 x.2.2.1 (delN x.2.2.1 x.2.2.2) M' → R (ndV (θ 0) (x.2.1.1, (delN x.2.2.1 x.2.2.2).length, x.2.1.2.2)) [some (mrO M')]
theorem SDrop_nt : SDrop.Nt := ⟨fun _ _ => rfl, by unfold SDrop; (intros; simp only [ren_all] at *; try assumption), by unfold SDrop; (intros; simp only [ren_all] at *; try assumption)⟩
theorem SDrop_ok : SDrop.Ok Try.prog 66 := by
  refine LSpec.of_body noGo mixed conDr Try.func66 rfl (by kernel_rfl) fun ⟨M, s, l, x⟩ R ⟨h1, h2⟩ hR => ?_
  have hQ : ∀ M', DelOk M s l (delN l x) M' → R (ndV 0 (s.1, (delN l x).length, s.2.2)) [some (mrO M')] := hR
  show bodyP _ _ _ _ _ [ndV 0 s, i64 x] ⟨1, Tr.ofL 0 [mrO M] .leaf⟩ _
  (conv => whnf)
  refine ⟨(M, s, l, x), [0, 1], ⟨h1, h2⟩, rfl, by (repeat' (first | exact True.intro | rfl | assumption | exact mc_ok rfl | exact mr_ok | exact fun _ => rfl | (refine And.intro ?_ ?_) | (intro _ _; rfl) | ((conv => whnf); (first | exact True.intro | (refine And.intro ?_ ?_))))), by (repeat' (first | exact True.intro | rfl | assumption | exact mc_ok rfl | exact mr_ok | exact fun _ => rfl | (refine And.intro ?_ ?_) | (intro _ _; rfl) | ((conv => whnf); (first | exact True.intro | (refine And.intro ?_ ?_))))), fun M' hM' => ?_⟩
  have hF := hQ M' hM'
  (conv => whnf)
  refine ⟨[], _, _, hF, ?_⟩
  (repeat' (first | exact True.intro | rfl | assumption | exact mc_ok rfl | exact mr_ok | exact fun _ => rfl | (refine And.intro ?_ ?_) | (intro _ _; rfl) | ((conv => whnf); (first | exact True.intro | (refine And.intro ?_ ?_)))))
/-! pack -/
def toA (ns : List NS) (i : Nat) (q : Nat) : Int := if q < i ∧ live (ns.getD q ns0) = true then (toN ns q : Int) else 0
theorem setN_setN {e : Bool} {x : NS} {l l' : List Nat} : setN e (setN e x l) l' = setN e x l' := by cases e <;> rfl
theorem ls_setN' {e : Bool} {x : NS} {l : List Nat} : lsE e (setN e x l) = l := by cases e <;> rfl
theorem setN_ls {e : Bool} {x : NS} : setN e x (lsE e x) = x := by cases e <;> rfl
theorem nat_view {r : List Nat} {i v : Nat} (hi : i < r.length) (z : Nat) : [i64 (((r.set i v).map Int.ofNat).getD z 0)] = bif Nat.beq z i then putD 0 [i64 ((r.map Int.ofNat).getD z 0)] [i64 (v : Int)] else [i64 ((r.map Int.ofNat).getD z 0)] := by
  rw [List.map_set]
  exact set_view (by rw [List.length_map]; exact hi) z
theorem getD_setNat {r : List Nat} {i v z : Nat} (hi : i < r.length) : (r.set i v).getD z 0 = if z = i then v else r.getD z 0 := by
  rw [List.getD_eq_getElem?_getD, List.getD_eq_getElem?_getD, List.getElem?_set]
  by_cases e : i = z
  · subst e
    rw [if_pos rfl, if_pos hi, if_pos rfl]; rfl
  · rw [if_neg e, if_neg (fun g => e g.symm)]
structure PkX where
  g : GG
/-- What is asked ahead of pack. -/
structure PkP (g : GG) : Prop where
  gi : GI g.adr g.M1 g.M2 g.ns
  pu : PU g.ns
  seed : 0 ≤ g.seed ∧ g.seed < 18446744073709551616
  m8 : 8 ≤ g.m
  mle : g.m ≤ 100000
  nle : g.ns.length ≤ 9000
  ev : g.m % 2 = 0
  h2 : 2 * g.ns.length ≤ g.m
theorem toA_live {ns : List NS} {i : Nat} (h : live (ns.getD i ns0) = true) (q : Nat) : [i64 (toA ns (i + 1) q)] = bif Nat.beq q i then putD 0 [i64 (toA ns i q)] [i64 ((lv ns i).length : Nat)] else [i64 (toA ns i q)] := by
  by_cases e : q = i
  · subst e
    rw [Nat.beq_refl]
    show [i64 (toA ns (q + 1) q)] = [i64 ((lv ns q).length : Nat)]
    unfold toA
    rw [if_pos ⟨Nat.lt_succ_self q, h⟩]
    rfl
  · rw [show Nat.beq q i = false from by cases hb : Nat.beq q i with | false => rfl | true => exact absurd (Nat.eq_of_beq_eq_true hb) e]
    show [i64 (toA ns (i + 1) q)] = [i64 (toA ns i q)]
    unfold toA
    by_cases g : q < i ∧ live (ns.getD q ns0) = true
    · rw [if_pos g, if_pos ⟨by omega, g.2⟩]
    · rw [if_neg g, if_neg (fun r => g ⟨by omega, r.2⟩)]
theorem toA_dead {ns : List NS} {i : Nat} (h : ¬ live (ns.getD i ns0) = true) : toA ns (i + 1) = toA ns i := funext fun q => by
  unfold toA
  by_cases g : q < i ∧ live (ns.getD q ns0) = true
  · rw [if_pos g, if_pos ⟨by omega, g.2⟩]
  · rw [if_neg g, if_neg fun r => g ⟨(by
      rcases Nat.lt_or_ge q i with k | k
      · exact k
      · obtain rfl : q = i := by omega
        exact absurd r.2 h), r.2⟩]
theorem lv_view {ns : List NS} {i j : Nat} {adr : Nat → Nat} (q : Nat) (hq : q < (lv ns i).length + 1) : ([.ap j (adr ((lv ns i ++ [i]).getD q 0)) 0] : List V) = appF (lv ns i).length (fun q => [.ap j (adr ((lv ns i).getD (0 + q) 0)) 0]) (fun q => chunk [.ap j (adr i) 0] 1 (0 + q)) q := by
  unfold appF
  rcases Nat.lt_or_ge q (lv ns i).length with h | h
  · rw [show Nat.blt q (lv ns i).length = true from Nat.ble_eq_true_of_le h, List.getD_eq_getElem?_getD, List.getElem?_append_left h, ← List.getD_eq_getElem?_getD]
    simp only [cond_true, Nat.zero_add]
  · obtain rfl : q = (lv ns i).length := by omega
    rw [show Nat.blt (lv ns i).length (lv ns i).length = false from by cases hb : Nat.blt (lv ns i).length (lv ns i).length with | false => rfl | true => exact absurd (blt_lt hb) (by omega), List.getD_eq_getElem?_getD, List.getElem?_append_right (Nat.le_refl _), Nat.sub_self]
    simp only [cond_false]
    rfl
theorem natD_mem {l : List Nat} {i : Nat} (h : i < l.length) : l.getD i 0 ∈ l := by
  rw [List.getD_eq_getElem?_getD, List.getElem?_eq_getElem h]
  exact List.getElem_mem h
theorem set_self {l : List NS} {a : Nat} : l.set a (l.getD a ns0) = l := by
  refine List.ext_getElem (by rw [List.length_set]) fun j h1 h2 => ?_
  rw [List.getElem_set]
  split
  · rename_i e
    subst e
    rw [List.getD_eq_getElem?_getD, List.getElem?_eq_getElem h2]
    rfl
  · rfl
/-- The row of a node of which the first numbers are turned. -/
structure RwI (ns : List NS) (adr : Nat → Nat) (M1 : Nat → Option ND) (nsB : List NS) (a : Nat) (e : Bool) (l : List Nat) (i : Nat) (M : RowsM) (r : List Nat) : Prop where
  gi : GI adr M1 M (nsB.set a (setN e (nsB.getD a ns0) r))
  len : r.length = l.length
  lo : ∀ z, z < i → r.getD z 0 = toN ns (l.getD z 0)
  hi : ∀ z, i ≤ z → z < l.length → r.getD z 0 = l.getD z 0
section
variable {ns nsB : List NS} {adr : Nat → Nat} {M1 : Nat → Option ND} {M : RowsM} {a i : Nat} {e : Bool} {l r : List Nat} {nd : ND}
theorem RwI.zero (h : GI adr M1 M nsB) (hl : lsE e (nsB.getD a ns0) = l) : RwI ns adr M1 nsB a e l 0 M l :=
  ⟨by rw [← hl, setN_ls, set_self]; exact h, rfl, fun z hz => absurd hz (Nat.not_lt_zero z), fun _ _ _ => rfl⟩
theorem RwI.row (h : RwI ns adr M1 nsB a e l i M r) (ha : a < nsB.length) (hM : M1 (adr a) = some nd) (hi : i < l.length) : ∃ b C, (rowE e nd).1 = some b ∧ M b = some (r.map Int.ofNat, C) ∧ (rowE e nd).2.1 = r.length ∧ r.length ≤ (rowE e nd).2.2 ∧ (rowE e nd).2.2 ≤ C := by
  obtain ⟨o, id, h1, h2⟩ := h.gi.rowsE (i := a) (by rw [List.length_set]; exact ha) hM e
  rw [getD_set, if_pos ⟨rfl, ha⟩, ls_setN'] at h1 h2
  rcases h2 with ⟨g, _⟩ | ⟨b, C, g1, g2, g3, g4, _⟩
  · have := h.len
    rw [g] at this
    have : 0 = l.length := this
    omega
  · exact ⟨b, C, g1, g2, h1, g3, g4⟩
theorem RwI.next (h : RwI ns adr M1 nsB a e l i M r) (ha : a < nsB.length) (hM : M1 (adr a) = some nd) (hi : i < l.length) {b C : Nat} (g1 : (rowE e nd).1 = some b) (g2 : (rowE e nd).2.1 = r.length) (g3 : r.length ≤ (rowE e nd).2.2) (g4 : (rowE e nd).2.2 ≤ C) :
    RwI ns adr M1 nsB a e l (i + 1) (setF M b (some ((r.set i (toN ns (l.getD i 0))).map Int.ofNat, C))) (r.set i (toN ns (l.getD i 0))) := by
  have hlen := h.len
  refine ⟨?_, by rw [List.length_set]; exact hlen, fun z hz => ?_, fun z h1 h2 => ?_⟩
  · have := h.gi.keep (a := a) (by rw [List.length_set]; exact ha) hM e (b := b) (C := C) (l := r.set i (toN ns (l.getD i 0))) g1 (by rw [List.length_set]; exact g2.symm) (by rw [List.length_set]; omega) (by rw [List.length_set]; exact g3) g4
    rw [getD_set, if_pos ⟨rfl, ha⟩, setN_setN, List.set_set] at this
    exact this
  · rw [getD_setNat (by omega)]
    split
    · rename_i q; rw [q]
    · exact h.lo z (by omega)
  · rw [getD_setNat (by omega), if_neg (by omega)]
    exact h.hi z (by omega) h2
theorem RwI.done (h : RwI ns adr M1 nsB a e l i M r) (hi : l.length ≤ i) : r = l.map (toN ns) := by
  refine List.ext_getElem (by rw [List.length_map]; exact h.len) fun z h1 h2 => ?_
  rw [List.length_map] at h2
  have := h.lo z (by omega)
  rw [List.getD_eq_getElem?_getD, List.getD_eq_getElem?_getD, List.getElem?_eq_getElem h1, List.getElem?_eq_getElem h2] at this
  rw [List.getElem_map]
  exact this
end
def av (ns : List NS) (q : Nat) : Nat := (lv ns ns.length).getD q 0
theorem conPk : ConOk Try.prog (conOf [(60, SBuild.T)]) := conOf_cons (LSpec.call SBuild_nt SBuild_ok) conOf_nil
def SPack : LSpec where
  X := GG
  k := 5
  pre x := PkP x
  args _ θ := [.ptr (θ 0) 0]
  objs x θ := x.objs θ
  out x θ R := ∀ adr M2 C, GI adr x.M1 M2 (packN x.ns) → HT x.seed (packN x.ns) (packN x.ns).length x.m C → R (.tup []) [some (grC (θ 5) (θ 6) x.N x.E x.seed (packN x.ns).length x.m x.lk x.sr), none, none, some (mcO (θ 4) x.M1), some (mrO M2), some (lsR (θ 3) (packN x.ns).length adr), some (ceR x.m C)]
theorem SPack_nt : SPack.Nt := ⟨fun _ _ => rfl, by unfold SPack GG.objs; (intros; simp only [ren_all] at *; try assumption), by unfold SPack; (intros; simp only [ren_all] at *; try assumption)⟩
/-- The nodes of which the first q that live are renumbered. -/
def PkI (ns nsX : List NS) (q : Nat) : Prop := nsX.length = ns.length ∧ (∀ j, j ∈ (lv ns ns.length).take q → nsX.getD j ns0 = mapE ns (ns.getD j ns0)) ∧ ∀ j, j ∉ (lv ns ns.length).take q → nsX.getD j ns0 = ns.getD j ns0
theorem PkI.zero (ns : List NS) : PkI ns ns 0 := ⟨rfl, fun j h => by rw [List.take_zero] at h; exact absurd h List.not_mem_nil, fun _ _ => rfl⟩
theorem lv_take {ns : List NS} {q : Nat} (hq : q < (lv ns ns.length).length) : (lv ns ns.length).take (q + 1) = (lv ns ns.length).take q ++ [(lv ns ns.length).getD q 0] := by
  rw [List.take_succ_eq_append_getElem hq, List.getD_eq_getElem?_getD, List.getElem?_eq_getElem hq]
  rfl
theorem lv_notin {ns : List NS} {q : Nat} (hq : q < (lv ns ns.length).length) : (lv ns ns.length).getD q 0 ∉ (lv ns ns.length).take q := fun h => by
  have hn := lv_nodup (ns := ns) ns.length
  rw [← List.take_append_drop q (lv ns ns.length), List.nodup_append] at hn
  refine hn.2.2 _ h _ ?_ rfl
  have e : (lv ns ns.length).drop q = (lv ns ns.length).getD q 0 :: (lv ns ns.length).drop (q + 1) := by
    rw [List.drop_eq_getElem_cons hq, List.getD_eq_getElem?_getD, List.getElem?_eq_getElem hq]
    rfl
  rw [e]
  exact List.mem_cons_self ..
theorem PkI.next {ns nsX : List NS} {q : Nat} (h : PkI ns nsX q) (hq : q < (lv ns ns.length).length) : PkI ns ((nsX.set ((lv ns ns.length).getD q 0) (setN false (nsX.getD ((lv ns ns.length).getD q 0) ns0) ((lsE false (ns.getD ((lv ns ns.length).getD q 0) ns0)).map (toN ns)))).set ((lv ns ns.length).getD q 0) (setN true ((nsX.set ((lv ns ns.length).getD q 0) (setN false (nsX.getD ((lv ns ns.length).getD q 0) ns0) ((lsE false (ns.getD ((lv ns ns.length).getD q 0) ns0)).map (toN ns)))).getD ((lv ns ns.length).getD q 0) ns0) ((lsE true (ns.getD ((lv ns ns.length).getD q 0) ns0)).map (toN ns)))) (q + 1) := by
  obtain ⟨h1, h2, h3⟩ := h
  have ha := (lv_at hq).1
  generalize ea : (lv ns ns.length).getD q 0 = a at *
  have hna : a ∉ (lv ns ns.length).take q := by rw [← ea]; exact lv_notin hq
  refine ⟨by rw [List.length_set, List.length_set]; exact h1, fun j hj => ?_, fun j hj => ?_⟩
  all_goals rw [lv_take hq, ea, List.mem_append, List.mem_singleton] at hj
  · rw [getD_set, List.length_set]
    by_cases e : j = a
    · rw [if_pos ⟨e, by omega⟩, getD_set, if_pos ⟨rfl, by omega⟩, h3 a hna, e]
      rfl
    · rw [if_neg (fun q => e q.1), getD_set, if_neg (fun q => e q.1)]
      exact h2 j (hj.resolve_right e)
  · have e : j ≠ a := fun q => hj (.inr q)
    rw [getD_set, if_neg (fun q => e q.1), getD_set, if_neg (fun q => e q.1)]
    exact h3 j fun q => hj (.inl q)
theorem PkI.done {ns nsX : List NS} (h : PkI ns nsX (lv ns ns.length).length) : (lv ns ns.length).map (fun i => nsX.getD i ns0) = packN ns := by
  unfold packN
  refine List.map_congr_left fun i hi => h.2.1 i ?_
  rw [List.take_length]
  exact hi
theorem SPack_ok : SPack.Ok Try.prog 69 := by
  refine LSpec.of_bodyC [7] noGo mixed conPk Try.func69 rfl (by kernel_rfl) fun ⟨N, E, seed, adr, M1, M2, ns, m, C, lk, sr⟩ R hX hR => ?_
  have hgi : GI adr M1 M2 ns := hX.gi
  have hpu : PU ns := hX.pu
  have hseed : 0 ≤ seed ∧ seed < 18446744073709551616 := hX.seed
  have h8 : 8 ≤ m := hX.m8
  have hm : m ≤ 100000 := hX.mle
  have hnl : ns.length ≤ 9000 := hX.nle
  have hev : m % 2 = 0 := hX.ev
  have h2m : 2 * ns.length ≤ m := hX.h2
  have hQ : ∀ adr' M2' C', GI adr' M1 M2' (packN ns) → HT seed (packN ns) (packN ns).length m C' → R (.tup []) [some (grC 5 6 N E seed (packN ns).length m lk sr), none, none, some (mcO 4 M1), some (mrO M2'), some (lsR 3 (packN ns).length adr'), some (ceR m C')] := hR
  clear hX hR
  show bodyP _ _ _ _ _ [.ptr 0 0] ⟨5, Tr.ofL 0 (GG.objs ⟨N, E, seed, adr, M1, M2, ns, m, C, lk, sr⟩ _root_.id) .leaf⟩ _
  (conv => whnf)
  refine ⟨by omega, Int.le_refl _, by show (ns.length : Int) * (1 + 8) ≤ 1000000; omega, ?_⟩
  (conv => whnf)
  refine .inl ⟨Nat, fun i => [(0, .ptr 0 0), (2, .sl 5 0 1 ns.length false), (3, .sl 6 0 1 (lv ns i).length false), (21, .sl 1 0 1 ns.length false), (22, i64 ns.length), (23, i64 i)],
    fun i => (GG.all ⟨N, E, seed, adr, M1, M2, ns, m, C, lk, sr⟩ _root_.id) ++ [some (inP ns.length (toA ns i)), some (lsR 3 (lv ns i).length fun q => adr ((lv ns i).getD q 0))], fun i => ns.length - i, fun i => i ≤ ns.length, 7, ⟨0, [some 5, some 6], Nat.zero_le _, ?_⟩, fun _ => rfl, fun i hi => ?_⟩
  · (repeat' (first | exact True.intro | rfl | assumption | exact mc_ok rfl | exact mr_ok | exact fun _ => rfl | (refine And.intro ?_ ?_) | (intro _ _; rfl) | ((conv => whnf); (first | exact True.intro | (refine And.intro ?_ ?_)))))
    all_goals (intro j hj; exact absurd hj (Nat.not_lt_zero j))
  have hi : i ≤ ns.length := hi
  have ei := zero_add_toNat i
  have hll := lv_le (ns := ns) i
  (conv => whnf)
  constructor
  · intro h
    have h : i < ns.length := by have : (i : Int) < (ns.length : Int) := of_decide_eq_true h; omega
    have b1 : (0 : Int) ≤ (i : Int) ∧ (i : Int) < (ns.length : Int) := ⟨by omega, by omega⟩
    obtain ⟨nd, hM, hkey, _, ⟨o1, id1, hd⟩, ⟨o2, id2, hu⟩⟩ := hgi.rows h
    have hd1 : nd.d.2.1 = (ns.getD i ns0).dn.length := hd.1
    have hu1 : nd.u.2.1 = (ns.getD i ns0).up.length := hu.1
    have hdl : (ns.getD i ns0).dn.length ≤ ns.length := nodup_le (hpu.nd false i h) (hpu.lt false i h)
    have hul : (ns.getD i ns0).up.length ≤ ns.length := nodup_le (hpu.nd true i h) (hpu.lt true i h)
    have hMl : (M1 (adr i)).map (ndL 4) = some (ndL 4 nd) := by rw [hM]; rfl
    have wl : IntKind.i64.wrap ((nd.d.2.1 : Int) + (nd.u.2.1 : Int)) = (nd.d.2.1 : Int) + (nd.u.2.1 : Int) := wrap_id (by omega) (by omega)
    (conv => whnf)
    refine ⟨Unit, fun _ => [(0, .ptr 0 0), (2, .sl 5 0 1 ns.length false), (3, .sl 6 0 1 (lv ns (i + 1)).length false), (21, .sl 1 0 1 ns.length false), (22, i64 ns.length), (23, i64 i)],
      fun _ => (GG.all ⟨N, E, seed, adr, M1, M2, ns, m, C, lk, sr⟩ _root_.id) ++ [some (inP ns.length (toA ns (i + 1))), some (lsR 3 (lv ns (i + 1)).length fun q => adr ((lv ns (i + 1)).getD q 0))], fun _ => True, 7, fun _ => rfl, ?_, fun _ _ => ?_⟩
    · (conv => whnf)
      refine ⟨b1.1, b1.2, ?_⟩
      (conv => whnf)
      refine ⟨by rw [ei]; exact h, ?_⟩
      rw [ei]
      (conv => whnf)
      refine ⟨ndL 4 nd, hMl, ?_⟩
      (conv => whnf)
      refine ⟨ndL 4 nd, hMl, ?_⟩
      (conv => whnf)
      constructor
      · intro hv
        have hv : live (ns.getD i ns0) = true := by
          have hv := of_decide_eq_true hv
          rw [wl] at hv
          exact decide_eq_true (by omega)
        have hlv : lv ns (i + 1) = lv ns i ++ [i] := by rw [lv_succ, if_pos hv]
        rw [hlv]
        (conv => whnf)
        refine ⟨b1.1, b1.2, ?_⟩
        (conv => whnf)
        refine ⟨some (fun q => [i64 (toA ns (i + 1) q)]), ?_⟩
        (conv => whnf)
        refine ⟨by rw [ei]; exact h, ?_⟩
        (conv => whnf)
        refine ⟨fun q _ => ?_, ?_⟩
        · show [i64 (toA ns (i + 1) q)] = bif Nat.beq q (0 + (i : Int).toNat) then putD 0 [i64 (toA ns i q)] [i64 ((lv ns i).length : Nat)] else [i64 (toA ns i q)]
          rw [ei]
          exact toA_live hv q
        (conv => whnf)
        refine ⟨some (fun q => [.ap 3 (adr ((lv ns i ++ [i]).getD q 0)) 0]), ?_⟩
        (conv => whnf)
        refine ⟨by decide, by show 0 + (lv ns i).length ≤ (lv ns i).length; omega, by show ((lv ns i).length + 1) * (8 + 1) ≤ 1000000000; omega, fun q hq => lv_view q hq, ?_⟩
        (conv => whnf)
        refine ⟨(), [some 5, some 8], trivial, ?_⟩
        (repeat' (first | exact True.intro | rfl | assumption | exact mc_ok rfl | exact mr_ok | exact fun _ => rfl | (refine And.intro ?_ ?_) | (intro _ _; rfl) | ((conv => whnf); (first | exact True.intro | (refine And.intro ?_ ?_)))))
        all_goals exact List.length_append
      · intro hv
        have hv : ¬ live (ns.getD i ns0) = true := fun q => by
          have hv := of_decide_eq_false hv
          rw [wl] at hv
          have := of_decide_eq_true q
          omega
        have hlv : lv ns (i + 1) = lv ns i := by rw [lv_succ, if_neg hv, List.append_nil]
        rw [hlv, toA_dead hv]
        (conv => whnf)
        refine ⟨(), [some 5, some 6], trivial, ?_⟩
        (repeat' (first | exact True.intro | rfl | assumption | exact mc_ok rfl | exact mr_ok | exact fun _ => rfl | (refine And.intro ?_ ?_) | (intro _ _; rfl) | ((conv => whnf); (first | exact True.intro | (refine And.intro ?_ ?_)))))
    (conv => whnf)
    refine ⟨i + 1, [some 5, some 6], by show ns.length - (i + 1) < ns.length - i; omega, by show i + 1 ≤ ns.length; omega, ?_⟩
    (repeat' (first | exact True.intro | rfl | assumption | exact mc_ok rfl | exact mr_ok | exact fun _ => rfl | (refine And.intro ?_ ?_) | (intro _ _; rfl) | ((conv => whnf); (first | exact True.intro | (refine And.intro ?_ ?_)))))
    all_goals exact (wrap_inc h (by omega)).symm
  intro h
  have h : i = ns.length := by have : ¬ (i : Int) < (ns.length : Int) := of_decide_eq_false h; omega
  subst h
  have hLl := lv_le (ns := ns) ns.length
  (conv => whnf)
  refine .inl ⟨Nat × RowsM × List NS, fun x => [(0, .ptr 0 0), (2, .sl 5 0 1 ns.length false), (3, .sl 6 0 1 (lv ns ns.length).length false), (52, .sl 6 0 1 (lv ns ns.length).length false), (53, i64 (lv ns ns.length).length), (54, i64 x.1)],
    fun x => (GG.all ⟨N, E, seed, adr, M1, x.2.1, ns, m, C, lk, sr⟩ _root_.id) ++ [some (inP ns.length (toA ns ns.length)), some (lsR 3 (lv ns ns.length).length fun q => adr (av ns q))], fun x => (lv ns ns.length).length - x.1, fun x => x.1 ≤ (lv ns ns.length).length ∧ GI adr M1 x.2.1 x.2.2 ∧ PkI ns x.2.2 x.1, 7, ⟨(0, M2, ns), [some 5, some 6], ⟨Nat.zero_le _, hgi, PkI.zero ns⟩, ?_⟩, fun _ => rfl, fun ⟨q, Mq, nsX⟩ hq0 => ?_⟩
  · (repeat' (first | exact True.intro | rfl | assumption | exact mc_ok rfl | exact mr_ok | exact fun _ => rfl | (refine And.intro ?_ ?_) | (intro _ _; rfl) | ((conv => whnf); (first | exact True.intro | (refine And.intro ?_ ?_)))))
  have hq : q ≤ (lv ns ns.length).length := hq0.1
  have hgq : GI adr M1 Mq nsX := hq0.2.1
  have hpk : PkI ns nsX q := hq0.2.2
  clear hq0
  have eq := zero_add_toNat q
  (conv => whnf)
  constructor
  · intro h
    have h : q < (lv ns ns.length).length := by have : (q : Int) < ((lv ns ns.length).length : Int) := of_decide_eq_true h; omega
    have b1 : (0 : Int) ≤ (q : Int) ∧ (q : Int) < ((lv ns ns.length).length : Int) := ⟨by omega, by omega⟩
    obtain ⟨ha, _, _⟩ := lv_at h
    have ha : av ns q < ns.length := ha
    have hna : av ns q ∉ (lv ns ns.length).take q := lv_notin h
    have hnx : PkI ns ((nsX.set (av ns q) (setN false (nsX.getD (av ns q) ns0) ((lsE false (ns.getD (av ns q) ns0)).map (toN ns)))).set (av ns q) (setN true ((nsX.set (av ns q) (setN false (nsX.getD (av ns q) ns0) ((lsE false (ns.getD (av ns q) ns0)).map (toN ns)))).getD (av ns q) ns0) ((lsE true (ns.getD (av ns q) ns0)).map (toN ns)))) (q + 1) := hpk.next h
    have hxa := hpk.2.2 _ hna
    have hxl := hpk.1
    obtain ⟨nd, hM, hkey⟩ := hgi.nd ha
    have hMl : (M1 (adr (av ns q))).map (ndL 4) = some (ndL 4 nd) := by rw [hM]; rfl
    (conv => whnf)
    refine ⟨b1.1, b1.2, ?_⟩
    (conv => whnf)
    refine ⟨by rw [eq]; exact h, ?_⟩
    rw [eq]
    (conv => whnf)
    have hlx : lsE false (nsX.getD (av ns q) ns0) = lsE false (ns.getD (av ns q) ns0) := by rw [hxa]
    refine .inr ?_
    refine ⟨fun _ => ?_, fun hh => absurd hh (by decide)⟩
    (conv => whnf)
    refine ⟨ndL 4 nd, hMl, ?_⟩
    (conv => whnf)
    have h00 : (rowE false nd).2.1 = (lsE false (ns.getD (av ns q) ns0)).length := by
      obtain ⟨_, _, hh, _⟩ := hgq.rowsE (i := av ns q) (by omega) hM false
      rw [hlx] at hh
      exact hh
    have hn0 : (lsE false (ns.getD (av ns q) ns0)).length ≤ ns.length := nodup_le (hpu.nd false _ ha) (hpu.lt false _ ha)
    refine .inl ⟨Nat × RowsM × List Nat, fun x => [(0, .ptr 0 0), (2, .sl 5 0 1 ns.length false), (3, .sl 6 0 1 (lv ns ns.length).length false), (52, .sl 6 0 1 (lv ns ns.length).length false), (53, i64 (lv ns ns.length).length), (54, i64 q), (7, .ap 3 (adr (av ns q)) 0), (8, i64 0), (58, i64 0), (66, ndV 4 nd.d), (67, i64 nd.d.2.1), (68, i64 x.1)],
      fun x => (GG.all ⟨N, E, seed, adr, M1, x.2.1, ns, m, C, lk, sr⟩ _root_.id) ++ [some (inP ns.length (toA ns ns.length)), some (lsR 3 (lv ns ns.length).length fun q => adr (av ns q))], fun x => (lsE false (ns.getD (av ns q) ns0)).length - x.1, fun x => x.1 ≤ (lsE false (ns.getD (av ns q) ns0)).length ∧ RwI ns adr M1 nsX (av ns q) false (lsE false (ns.getD (av ns q) ns0)) x.1 x.2.1 x.2.2, 7, ⟨(0, Mq, lsE false (ns.getD (av ns q) ns0)), [some 5, some 6], ⟨Nat.zero_le _, RwI.zero hgq hlx⟩, ?_⟩, fun _ => rfl, fun ⟨z, Mz, r⟩ hz0 => ?_⟩
    · (repeat' (first | exact True.intro | rfl | assumption | exact mc_ok rfl | exact mr_ok | exact fun _ => rfl | (refine And.intro ?_ ?_) | (intro _ _; rfl) | ((conv => whnf); (first | exact True.intro | (refine And.intro ?_ ?_)))))
    have hz : z ≤ (lsE false (ns.getD (av ns q) ns0)).length := hz0.1
    have hrw : RwI ns adr M1 nsX (av ns q) false (lsE false (ns.getD (av ns q) ns0)) z Mz r := hz0.2
    clear hz0
    have ez := zero_add_toNat z
    (conv => whnf)
    constructor
    · intro h2
      have h0 : nd.d.2.1 = (lsE false (ns.getD (av ns q) ns0)).length := h00
      have h2 : z < (lsE false (ns.getD (av ns q) ns0)).length := by have : (z : Int) < (nd.d.2.1 : Int) := of_decide_eq_true h2; omega
      have b2 : (0 : Int) ≤ (z : Int) ∧ (z : Int) < (nd.d.2.1 : Int) := ⟨by omega, by omega⟩
      obtain ⟨b, Cb, g1, g2, g3, g4, g5⟩ := hrw.row (by omega) hM h2
      have hnx2 := hrw.next (by omega) hM h2 g1 g3 g4 g5
      have g1 : nd.d.1 = some b := g1
      have hrl := hrw.len
      have hrz : (r.map Int.ofNat).getD (0 + (z : Int).toNat) 0 = (((lsE false (ns.getD (av ns q) ns0)).getD z 0 : Nat) : Int) := by
        rw [ez, map_getD, hrw.hi z (Nat.le_refl z) h2]
      have hv : (lsE false (ns.getD (av ns q) ns0)).getD z 0 < ns.length := hpu.lt false _ ha _ (natD_mem h2)
      have hvl : live (ns.getD ((lsE false (ns.getD (av ns q) ns0)).getD z 0) ns0) = true := hpu.lv2 (e := false) ha (natD_mem h2)
      generalize (lsE false (ns.getD (av ns q) ns0)).getD z 0 = v at *
      have hMb : (Mz b).map rwL = some ((r.map Int.ofNat).length, Cb, fun q => [i64 ((r.map Int.ofNat).getD q 0)]) := by rw [g2]; rfl
      have hto : toA ns ns.length v = (toN ns v : Int) := if_pos ⟨hv, hvl⟩
      have ev := zero_add_toNat v
      (conv => whnf)
      refine ⟨b2.1, b2.2, b, 0, by rw [g1]; rfl, ?_⟩
      (conv => whnf)
      refine ⟨(r.map Int.ofNat).length, Cb, fun q => [i64 ((r.map Int.ofNat).getD q 0)], hMb, by rw [List.length_map]; show 0 + (z : Int).toNat < _; omega, ?_⟩
      (conv => whnf)
      refine ⟨ndL 4 nd, hMl, ?_⟩
      (conv => whnf)
      refine ⟨by show (0 : Int) ≤ (r.map Int.ofNat).getD (0 + (z : Int).toNat) 0; rw [hrz]; omega, by show (r.map Int.ofNat).getD (0 + (z : Int).toNat) 0 < (ns.length : Int); rw [hrz]; omega, ?_⟩
      (conv => whnf)
      refine ⟨by show 0 + ((r.map Int.ofNat).getD (0 + (z : Int).toNat) 0).toNat < ns.length; rw [hrz, ev]; exact hv, ?_⟩
      (conv => whnf)
      refine ⟨b2.1, b2.2, b, 0, by rw [g1]; rfl, ?_⟩
      (conv => whnf)
      refine ⟨(r.map Int.ofNat).length, Cb, fun q => [i64 ((r.map Int.ofNat).getD q 0)], hMb, by rw [List.length_map]; show 0 + (z : Int).toNat < _; omega, fun y => [i64 (((r.set z (toN ns v)).map Int.ofNat).getD y 0)], fun y => (setF Mz b (some ((r.set z (toN ns v)).map Int.ofNat, Cb)) y).map rwL, fun y _ => ?_, ⟨?_, fun y hy => ?_⟩, ?_⟩
      · show [i64 (((r.set z (toN ns v)).map Int.ofNat).getD y 0)] = bif Nat.beq y (0 + (z : Int).toNat) then putD 0 [i64 ((r.map Int.ofNat).getD y 0)] [i64 (toA ns ns.length (0 + ((r.map Int.ofNat).getD (0 + (z : Int).toNat) 0).toNat))] else [i64 ((r.map Int.ofNat).getD y 0)]
        rw [hrz, ez, ev, hto]
        exact nat_view (by omega) y
      · show (setF Mz b _ b).map rwL = _
        rw [setF_same]
        show some (((r.set z (toN ns v)).map Int.ofNat).length, Cb, _) = _
        rw [List.length_map, List.length_set, List.length_map]
      · show (setF Mz b _ y).map rwL = (Mz y).map rwL
        rw [setF_ne hy]
      (conv => whnf)
      refine ⟨(z + 1, setF Mz b (some ((r.set z (toN ns v)).map Int.ofNat, Cb)), r.set z (toN ns v)), [some 5, some 6], by show (lsE false (ns.getD (av ns q) ns0)).length - (z + 1) < (lsE false (ns.getD (av ns q) ns0)).length - z; omega, ⟨by show z + 1 ≤ (lsE false (ns.getD (av ns q) ns0)).length; omega, hnx2⟩, ?_⟩
      (repeat' (first | exact True.intro | rfl | assumption | exact mc_ok rfl | exact mr_ok | exact fun _ => rfl | (refine And.intro ?_ ?_) | (intro _ _; rfl) | ((conv => whnf); (first | exact True.intro | (refine And.intro ?_ ?_)))))
      all_goals exact (wrap_inc h2 (by omega)).symm
    intro h2
    have h2 : (lsE false (ns.getD (av ns q) ns0)).length ≤ z := by
      have h0 : nd.d.2.1 = (lsE false (ns.getD (av ns q) ns0)).length := h00
      have : ¬ (z : Int) < (nd.d.2.1 : Int) := of_decide_eq_false h2
      omega
    have hrd := hrw.done h2
    subst hrd
    have hg0 := hrw.gi
    clear hrw
    (conv => whnf)
    obtain ⟨nsY, hny⟩ : ∃ y, y = nsX.set (av ns q) (setN false (nsX.getD (av ns q) ns0) ((lsE false (ns.getD (av ns q) ns0)).map (toN ns))) := ⟨_, rfl⟩
    rw [← hny] at hg0 hnx
    have hgy := hg0
    have hly : lsE true (nsY.getD (av ns q) ns0) = lsE true (ns.getD (av ns q) ns0) := by rw [hny, getD_set, if_pos ⟨rfl, by omega⟩, ls_setN, if_neg (by decide), hxa]
    have hyl : nsY.length = ns.length := by rw [hny, List.length_set]; exact hxl
    refine .inr ?_
    refine ⟨fun _ => ?_, fun hh => absurd hh (by decide)⟩
    (conv => whnf)
    refine ⟨ndL 4 nd, hMl, ?_⟩
    (conv => whnf)
    have h01 : (rowE true nd).2.1 = (lsE true (ns.getD (av ns q) ns0)).length := by
      obtain ⟨_, _, hh, _⟩ := hgy.rowsE (i := av ns q) (by omega) hM true
      rw [hly] at hh
      exact hh
    have hn1 : (lsE true (ns.getD (av ns q) ns0)).length ≤ ns.length := nodup_le (hpu.nd true _ ha) (hpu.lt true _ ha)
    refine .inl ⟨Nat × RowsM × List Nat, fun x => [(0, .ptr 0 0), (2, .sl 5 0 1 ns.length false), (3, .sl 6 0 1 (lv ns ns.length).length false), (52, .sl 6 0 1 (lv ns ns.length).length false), (53, i64 (lv ns ns.length).length), (54, i64 q), (7, .ap 3 (adr (av ns q)) 0), (8, i64 1), (58, i64 1), (66, ndV 4 nd.u), (67, i64 nd.u.2.1), (68, i64 x.1)],
      fun x => (GG.all ⟨N, E, seed, adr, M1, x.2.1, ns, m, C, lk, sr⟩ _root_.id) ++ [some (inP ns.length (toA ns ns.length)), some (lsR 3 (lv ns ns.length).length fun q => adr (av ns q))], fun x => (lsE true (ns.getD (av ns q) ns0)).length - x.1, fun x => x.1 ≤ (lsE true (ns.getD (av ns q) ns0)).length ∧ RwI ns adr M1 nsY (av ns q) true (lsE true (ns.getD (av ns q) ns0)) x.1 x.2.1 x.2.2, 7, ⟨(0, Mz, lsE true (ns.getD (av ns q) ns0)), [some 5, some 6], ⟨Nat.zero_le _, RwI.zero hgy hly⟩, ?_⟩, fun _ => rfl, fun ⟨z, Mw, r⟩ hz0 => ?_⟩
    · (repeat' (first | exact True.intro | rfl | assumption | exact mc_ok rfl | exact mr_ok | exact fun _ => rfl | (refine And.intro ?_ ?_) | (intro _ _; rfl) | ((conv => whnf); (first | exact True.intro | (refine And.intro ?_ ?_)))))
    have hz : z ≤ (lsE true (ns.getD (av ns q) ns0)).length := hz0.1
    have hrw : RwI ns adr M1 nsY (av ns q) true (lsE true (ns.getD (av ns q) ns0)) z Mw r := hz0.2
    clear hz0
    have ez := zero_add_toNat z
    (conv => whnf)
    constructor
    · intro h2
      have h0 : nd.u.2.1 = (lsE true (ns.getD (av ns q) ns0)).length := h01
      have h2 : z < (lsE true (ns.getD (av ns q) ns0)).length := by have : (z : Int) < (nd.u.2.1 : Int) := of_decide_eq_true h2; omega
      have b2 : (0 : Int) ≤ (z : Int) ∧ (z : Int) < (nd.u.2.1 : Int) := ⟨by omega, by omega⟩
      obtain ⟨b, Cb, g1, g2, g3, g4, g5⟩ := hrw.row (by omega) hM h2
      have hnx2 := hrw.next (by omega) hM h2 g1 g3 g4 g5
      have g1 : nd.u.1 = some b := g1
      have hrl := hrw.len
      have hrz : (r.map Int.ofNat).getD (0 + (z : Int).toNat) 0 = (((lsE true (ns.getD (av ns q) ns0)).getD z 0 : Nat) : Int) := by
        rw [ez, map_getD, hrw.hi z (Nat.le_refl z) h2]
      have hv : (lsE true (ns.getD (av ns q) ns0)).getD z 0 < ns.length := hpu.lt true _ ha _ (natD_mem h2)
      have hvl : live (ns.getD ((lsE true (ns.getD (av ns q) ns0)).getD z 0) ns0) = true := hpu.lv2 (e := true) ha (natD_mem h2)
      generalize (lsE true (ns.getD (av ns q) ns0)).getD z 0 = v at *
      have hMb : (Mw b).map rwL = some ((r.map Int.ofNat).length, Cb, fun q => [i64 ((r.map Int.ofNat).getD q 0)]) := by rw [g2]; rfl
      have hto : toA ns ns.length v = (toN ns v : Int) := if_pos ⟨hv, hvl⟩
      have ev := zero_add_toNat v
      (conv => whnf)
      refine ⟨b2.1, b2.2, b, 0, by rw [g1]; rfl, ?_⟩
      (conv => whnf)
      refine ⟨(r.map Int.ofNat).length, Cb, fun q => [i64 ((r.map Int.ofNat).getD q 0)], hMb, by rw [List.length_map]; show 0 + (z : Int).toNat < _; omega, ?_⟩
      (conv => whnf)
      refine ⟨ndL 4 nd, hMl, ?_⟩
      (conv => whnf)
      refine ⟨by show (0 : Int) ≤ (r.map Int.ofNat).getD (0 + (z : Int).toNat) 0; rw [hrz]; omega, by show (r.map Int.ofNat).getD (0 + (z : Int).toNat) 0 < (ns.length : Int); rw [hrz]; omega, ?_⟩
      (conv => whnf)
      refine ⟨by show 0 + ((r.map Int.ofNat).getD (0 + (z : Int).toNat) 0).toNat < ns.length; rw [hrz, ev]; exact hv, ?_⟩
      (conv => whnf)
      refine ⟨b2.1, b2.2, b, 0, by rw [g1]; rfl, ?_⟩
      (conv => whnf)
      refine ⟨(r.map Int.ofNat).length, Cb, fun q => [i64 ((r.map Int.ofNat).getD q 0)], hMb, by rw [List.length_map]; show 0 + (z : Int).toNat < _; omega, fun y => [i64 (((r.set z (toN ns v)).map Int.ofNat).getD y 0)], fun y => (setF Mw b (some ((r.set z (toN ns v)).map Int.ofNat, Cb)) y).map rwL, fun y _ => ?_, ⟨?_, fun y hy => ?_⟩, ?_⟩
      · show [i64 (((r.set z (toN ns v)).map Int.ofNat).getD y 0)] = bif Nat.beq y (0 + (z : Int).toNat) then putD 0 [i64 ((r.map Int.ofNat).getD y 0)] [i64 (toA ns ns.length (0 + ((r.map Int.ofNat).getD (0 + (z : Int).toNat) 0).toNat))] else [i64 ((r.map Int.ofNat).getD y 0)]
        rw [hrz, ez, ev, hto]
        exact nat_view (by omega) y
      · show (setF Mw b _ b).map rwL = _
        rw [setF_same]
        show some (((r.set z (toN ns v)).map Int.ofNat).length, Cb, _) = _
        rw [List.length_map, List.length_set, List.length_map]
      · show (setF Mw b _ y).map rwL = (Mw y).map rwL
        rw [setF_ne hy]
      (conv => whnf)
      refine ⟨(z + 1, setF Mw b (some ((r.set z (toN ns v)).map Int.ofNat, Cb)), r.set z (toN ns v)), [some 5, some 6], by show (lsE true (ns.getD (av ns q) ns0)).length - (z + 1) < (lsE true (ns.getD (av ns q) ns0)).length - z; omega, ⟨by show z + 1 ≤ (lsE true (ns.getD (av ns q) ns0)).length; omega, hnx2⟩, ?_⟩
      (repeat' (first | exact True.intro | rfl | assumption | exact mc_ok rfl | exact mr_ok | exact fun _ => rfl | (refine And.intro ?_ ?_) | (intro _ _; rfl) | ((conv => whnf); (first | exact True.intro | (refine And.intro ?_ ?_)))))
      all_goals exact (wrap_inc h2 (by omega)).symm
    intro h2
    have h2 : (lsE true (ns.getD (av ns q) ns0)).length ≤ z := by
      have h0 : nd.u.2.1 = (lsE true (ns.getD (av ns q) ns0)).length := h01
      have : ¬ (z : Int) < (nd.u.2.1 : Int) := of_decide_eq_false h2
      omega
    have hrd := hrw.done h2
    subst hrd
    have hg1 := hrw.gi
    clear hrw
    (conv => whnf)
    refine .inr ?_
    refine ⟨fun hh => absurd hh (by decide), fun _ => ?_⟩
    (conv => whnf)
    refine ⟨(q + 1, Mw, nsY.set (av ns q) (setN true (nsY.getD (av ns q) ns0) ((lsE true (ns.getD (av ns q) ns0)).map (toN ns)))), [some 5, some 6], by show (lv ns ns.length).length - (q + 1) < (lv ns ns.length).length - q; omega, ⟨by show q + 1 ≤ (lv ns ns.length).length; omega, hg1, hnx⟩, ?_⟩
    (repeat' (first | exact True.intro | rfl | assumption | exact mc_ok rfl | exact mr_ok | exact fun _ => rfl | (refine And.intro ?_ ?_) | (intro _ _; rfl) | ((conv => whnf); (first | exact True.intro | (refine And.intro ?_ ?_)))))
    all_goals exact (wrap_inc h (by omega)).symm
  intro h
  have h : q = (lv ns ns.length).length := by have : ¬ (q : Int) < ((lv ns ns.length).length : Int) := of_decide_eq_false h; omega
  subst h
  have hgp : GI (fun q => adr (av ns q)) M1 Mq (packN ns) := by
    have := hgq.sub (l := lv ns ns.length) (fun i hi => by rw [hpk.1]; exact (mem_lv.1 hi).1) (lv_nodup _)
    rw [hpk.done] at this
    exact this
  have hpp := hpu.pack
  have hpl : (packN ns).length = (lv ns ns.length).length := packN_len
  (conv => whnf)
  refine ⟨(⟨N, E, seed, fun q => adr (av ns q), M1, Mq, packN ns, m, C, lk, sr⟩, m), [0, 6, 2, 3, 4], ⟨hgp, hpp.dk, fun i hi => ⟨(validK_iff.1 (hpp.ks i hi)).1, Nat.le_trans (validK_iff.1 (hpp.ks i hi)).2 (by omega)⟩, hseed, h8, hm, by show (packN ns).length + 1 < m; omega, by show (packN ns).length ≤ 50000; omega, hev⟩, rfl, ?_, by (repeat' (first | exact True.intro | rfl | assumption | exact mc_ok rfl | exact mr_ok | exact fun _ => rfl | (refine And.intro ?_ ?_) | (intro _ _; rfl) | ((conv => whnf); (first | exact True.intro | (refine And.intro ?_ ?_))))), fun C' ht' => ?_⟩
  · (repeat' (first | exact True.intro | rfl | assumption | exact mc_ok rfl | exact mr_ok | exact fun _ => rfl | (refine And.intro ?_ ?_) | (intro _ _; rfl) | ((conv => whnf); (first | exact True.intro | (refine And.intro ?_ ?_)))))
  have hRR := hQ (fun q => adr (av ns q)) Mq C' hgp ht'
  (conv => whnf)
  refine ⟨[some 6, some 7], _, _, hRR, ?_⟩
  (repeat' (first | exact True.intro | rfl | assumption | exact mc_ok rfl | exact mr_ok | exact fun _ => rfl | (refine And.intro ?_ ?_) | (intro _ _; rfl) | ((conv => whnf); (first | exact True.intro | (refine And.intro ?_ ?_)))))
end Go.Proofs.Ytmgcpfljhcahoaa
