/- One text out of 2. -/
import Derived.Test.YtddionboojdjlaaK5CascadeLong
import Derived.Test.YtddionboojdjlaaGrPrg6R
import Derived.Test.YtddionboojdjlaaK3CascadeLong
section
namespace Go.Proofs.Ytddionboojdjlaa
open Go Go.RowKit Sy Tb Gr
set_option maxRecDepth 100000
set_option maxHeartbeats 4000000
/-! The same, with what is returned named -/
def SNodesL : LSpec where
  X := GG × List Bs
  k := 5
  pre x := (GT x.1 x.1.ns.length ∧ 1 ≤ x.1.N) ∧ sortK (keyL x.1.ns) = x.2
  args _ θ := [.ptr (θ 0) 0]
  objs x θ := x.1.objs θ
  out x θ R := R (.sl (θ 5) 0 1 x.2.length false) (x.1.all θ ++ [some (stR x.2)])
theorem SNodesL_nt : SNodesL.Nt := ⟨fun _ _ => rfl, by unfold SNodesL GG.objs; (intros; simp only [ren_all] at *; try assumption), by unfold SNodesL GG.all; (intros; simp only [ren_all] at *; try assumption)⟩
theorem SNodesL_ok : SNodesL.Ok Try.prog 25 := fun ⟨g, L⟩ R ⟨h1, h2⟩ hR => SNodes_ok g R h1 (by have h2 : sortK (keyL g.ns) = L := h2; subst h2; exact hR)
def SEndsL (e : Bool) : LSpec where
  X := GG × Bs × List Bs
  k := 5
  pre x := (GT x.1 x.1.ns.length ∧ 1 ≤ x.1.N ∧ x.2.1.size ≤ 1000000 ∧ EI x.1.ns) ∧ keysE e x.1.ns x.2.1 = x.2.2
  args x θ := [.ptr (θ 0) 0, .str x.2.1]
  objs x θ := x.1.objs θ
  out x θ R := R (.sl (θ 5) 0 1 x.2.2.length false) (x.1.all θ ++ [some (stR x.2.2)])
theorem SEndsL_nt (e : Bool) : (SEndsL e).Nt := ⟨fun _ _ => rfl, by unfold SEndsL GG.objs; (intros; simp only [ren_all] at *; try assumption), by unfold SEndsL GG.all; (intros; simp only [ren_all] at *; try assumption)⟩
theorem SChL_ok : (SEndsL false).Ok Try.prog 47 := fun ⟨g, k, L⟩ R ⟨h1, h2⟩ hR => SChildren_ok (g, k) R h1 (by have h2 : keysE false g.ns k = L := h2; subst h2; exact hR)
theorem SPaL_ok : (SEndsL true).Ok Try.prog 31 := fun ⟨g, k, L⟩ R ⟨h1, h2⟩ hR => SParents_ok (g, k) R h1 (by have h2 : keysE true g.ns k = L := h2; subst h2; exact hR)
def SReachL : LSpec where
  X := GG × Bs × Bs × Int × Bool × Int × Int
  k := 5
  pre x := (GU x.1 ∧ x.1.sr < 1000000000) ∧ (x.2.1.size ≤ 1000000 ∧ x.2.2.1.size ≤ 1000000) ∧ reachR x.1.ns x.2.1 x.2.2.1 x.2.2.2.1 = x.2.2.2.2
  args x θ := [.ptr (θ 0) 0, .str x.2.1, .str x.2.2.1, i64 x.2.2.2.1]
  objs x θ := x.1.objs θ
  out x θ R := ∀ M1 ns sr, SameE x.1.ns ns → sr ≤ x.1.sr + 1 → GU { x.1 with M1 := M1, ns := ns, sr := sr } →
    R (.tup [.sb x.2.2.2.2.1, i64 x.2.2.2.2.2.1, i64 x.2.2.2.2.2.2]) (({ x.1 with M1 := M1, ns := ns, sr := sr } : GG).all θ)
theorem SReachL_nt : SReachL.Nt := ⟨fun _ _ => rfl, by unfold SReachL GG.objs; (intros; simp only [ren_all] at *; try assumption), by unfold SReachL GG.all; (intros; simp only [ren_all] at *; try assumption)⟩
theorem SReachL_ok : SReachL.Ok Try.prog 29 := fun ⟨g, a, b, m, r⟩ R ⟨⟨h1, h2⟩, ⟨h3, h4⟩, h5⟩ hR => SReach_ok (g, a, b, m) R ⟨h1, h3, h4⟩ (by
  have h5 : reachR g.ns a b m = r := h5
  have h2 : g.sr < 1000000000 := h2
  subst h5
  exact fun M1 ns sr k1 k2 k3 => hR M1 ns sr k1 k2 (k3 (by have k2 : sr ≤ g.sr + 1 := k2; omega)))
end Go.Proofs.Ytddionboojdjlaa
end
section
namespace Go.Proofs.Ytddionboojdjlaa
open Go Go.RowKit Sy Gr
set_option maxRecDepth 100000

/-- Rows of strings, by their blocks: what is known of each, and its room. -/
abbrev RowsS := Nat → Option (List Bs × Nat)
def rwS (r : List Bs × Nat) : Nat × Nat × (Nat → List V) := (r.1.length, r.2, fun q => [.str (r.1.getD q eS)])
def msO (M : RowsS) : SObj := .memr 9 1 (fun b => (M b).map rwS)
theorem msO_ren (θ : Nat → Nat) (M : RowsS) : (msO M).ren θ = msO M := by
  exact congrArg (SObj.memr _ _) (funext fun b => by show Option.map _ (Option.map rwS (M b)) = _; cases M b <;> rfl)
/-- A slice of strings in a family: where its row lies, its room. -/
def asS (i : Nat) (p : Option Nat) (n c : Nat) : V := .asl i (p.map fun b => (b, 0)) 1 n c
/-- A slice is a list. -/
def IsS (M : RowsS) (p : Option Nat) (l : List Bs) : Prop := (p = none ∧ l = []) ∨ ∃ b C, p = some b ∧ M b = some (l, C)
def sortM (M : RowsS) (p : Option Nat) (l : List Bs) : RowsS := match p with
  | none => M
  | some b => match M b with
    | some r => setM M b (sortK l, r.2)
    | none => M
def SSortA : LSpec where
  X := RowsS × Option Nat × List Bs × Nat
  k := 1
  pre x := IsS x.1 x.2.1 x.2.2.1 ∧ x.2.2.1.length ≤ 1000000
  args x θ := [asS (θ 0) x.2.1 x.2.2.1.length x.2.2.2]
  objs x _ := [msO x.1]
  out x _ R := R (.tup []) [some (msO (sortM x.1 x.2.1 x.2.2.1))]
theorem SSortA_nt : SSortA.Nt := ⟨fun _ _ => rfl, fun x θ => by show [msO x.1] = [(msO x.1).ren θ]; rw [msO_ren], fun x θ R h => by show R _ [some ((msO _).ren θ)]; rw [msO_ren]; exact h⟩
theorem sortM_nil {M : RowsS} {p : Option Nat} (h : IsS M p []) : sortM M p [] = M := by
  unfold sortM
  rcases h with ⟨rfl, _⟩ | ⟨b, C, rfl, hM⟩
  · rfl
  · simp only [hM]
    funext k
    unfold setM
    have e0 : sortK [] = [] := List.eq_nil_of_length_eq_zero (sortK_len [])
    split
    · rename_i h; rw [h, hM, e0]
    · rfl
theorem SSortA_ok {md : Bool} : SSortA.OkM md Try.prog 49 := by
  intro ⟨M, p, l, c⟩ R ⟨hI, hn⟩ hR ρ w args' hr hc
  have hI : IsS M p l := hI
  have hn : l.length ≤ 1000000 := hn
  have hR : R (.tup []) [some (msO (sortM M p l))] := hR
  have hr : Rel ρ (locS [msO M]) w := hr
  have hc : czl ρ [asS 0 p l.length c] = some args' := hc
  have hl1 := locS_is (l := [msO M]) (by simp)
  have hg : (locS [msO M]).H.get 0 = some (msO M) := by rw [hl1.get]; rfl
  obtain ⟨a, l1, ha, hc1, rfl⟩ := czl_cons.1 hc
  obtain rfl : l1 = [] := by simpa [czl] using hc1
  refine .inl ⟨⟨_, Try.func49, rfl⟩, ?_⟩
  show CallsIn _ _ _ _ #[a] w _
  simp only [asS, cz, Option.some.injEq] at ha
  subst ha
  by_cases h0 : l.length = 0
  · have hnil : l = [] := List.eq_nil_of_length_eq_zero h0
    subst hnil
    refine CallsIn.mono (callsIn_wide.2 (Any.slices_Sort_string_none Ytddionboojdjlaa.strL _ c w)) fun e w' hp => ?_
    obtain ⟨rfl, rfl⟩ := hp
    rw [sortM_nil hI] at hR
    refine ⟨_, .tup [], locS [msO M], ρ, rfl, ⟨[some (msO M)], hR, ?_⟩, Step.refl hr, rfl⟩
    exact ⟨hl1.n, fun i => by rw [hl1.get]; cases i <;> rfl⟩
  · obtain ⟨b, C, rfl, hM⟩ := hI.resolve_left fun q => h0 (by rw [q.2]; rfl)
    have hMb : (fun b => (M b).map rwS) b = some (l.length, C, fun q => [V.str (l.getD q eS)]) := by show (M b).map rwS = _; rw [hM]; rfl
    obtain ⟨q8, _, l', tail, q2, q3, q5, q6⟩ := hr.obj 0 _ hg b _ _ _ hMb
    rw [st_all] at q2
    cases q2
    have hb := hr.flt 0 _ b hg q8
    have hll : (l.map Value.string).length = l.length := List.length_map ..
    have hsz : (l.map (·.data.toList)).toArray.size = l.length := by simp
    have hH : Go.Sort.Holds encStr w b 0 (l.map (·.data.toList)).toArray := fun j hj => by
      rw [hsz] at hj
      have hget : (l.map Value.string ++ tail)[0 + j]? = some (encStr ((l.map (·.data.toList)).toArray[j]!)) := by
        rw [Nat.zero_add, List.getElem?_append_left (by omega)]
        exact bytes_get l hj
      constructor
      · unfold World.cell?
        simp only [q3]
        simpa using hget
      · unfold World.frozen?
        simp only [q3]
        simp
    have hcall := Any.slices_Sort_string Ytddionboojdjlaa.strL b 0 c (l.map (·.data.toList)) w hH hb (by rw [List.length_map]; omega)
    rw [List.length_map] at hcall
    refine CallsIn.mono (callsIn_wide.2 hcall) fun e w' hp => ?_
    obtain ⟨rfl, q, os, rfl⟩ := hp
    have hL : (srtB (l.map (·.data.toList))).length = l.length := by unfold srtB; rw [List.length_mergeSort, List.length_map]
    have hcells : (Go.Sort.putRow encStr (Go.Sort.ahead w q) b 0 (srtB (l.map (·.data.toList))).toArray).heap[b]? = some (.cells ((sortK l).map Value.string ++ tail).toArray 9 (0, 0)) := by
      show (w.heap.modify b (Go.Sort.onCells (Go.Sort.putCells encStr 0 (srtB (l.map (·.data.toList))).toArray)))[b]? = _
      rw [Array.getElem?_modify, if_pos rfl, q3]
      show some (Obj.cells (Go.Sort.putCells encStr ([] : List Value).length (srtB (l.map (·.data.toList))).toArray ([] ++ l.map Value.string ++ tail).toArray) _ _) = _
      rw [put_cellsS (l' := (sortK l).map Value.string) (by simp [hL]) (by rw [List.length_map, sortK_len]; simp [hL]) (fun j hj => srt_get _ (by simpa using hj))]
      rfl
    have hother : ∀ k, k ≠ b → (Go.Sort.putRow encStr (Go.Sort.ahead w q) b 0 (srtB (l.map (·.data.toList))).toArray).heap[k]? = w.heap[k]? := fun k hk => by
      show (w.heap.modify b _)[k]? = _
      rw [Array.getElem?_modify, if_neg (fun e => hk e.symm)]
    have hsm : sortM M (some b) l = setM M b (sortK l, C) := by unfold sortM; simp only [hM]
    rw [hsm] at hR
    have hl2 := locS_is (l := [msO (setM M b (sortK l, C))]) (by simp)
    have st1 : Step md (locS [msO M]).n (locS [msO M]) ρ w ⟨(locS [msO M]).n, (locS [msO (setM M b (sortK l, C))]).H⟩ ρ (Go.Sort.putRow encStr (Go.Sort.ahead w q) b 0 (srtB (l.map (·.data.toList))).toArray) := by
      refine Step.set hr hg (o := msO (setM M b (sortK l, C))) (fun m => ?_) (fun k N C' f hk => ?_) (fun k hk => ?_) ?_ rfl rfl rfl (Nat.le_add_right _ _)
      · show _ = if m = 0 then _ else (locS [msO M]).H.get m
        rw [hl2.get, hl1.get]
        cases m with
        | zero => rfl
        | succ m => rfl
      · by_cases e : k = b
        · subst e
          have hk : (setM M k (sortK l, C) k).map rwS = some (N, C', f) := hk
          rw [setM_same] at hk
          cases hk
          refine ⟨q8, Nat.le_refl _, _, tail, st_all _ _, hcells, ?_, fun j _ => ⟨rfl, rfl⟩⟩
          rw [List.length_append, List.length_map, sortK_len, ← hll, ← List.length_append]; exact q5
        · have hk : (setM M b (sortK l, C) k).map rwS = some (N, C', f) := hk
          rw [setM_ne e] at hk
          obtain ⟨g1, g2, l', tl, g3, g4, g5, g6⟩ := hr.obj 0 _ hg k _ _ _ hk
          exact ⟨g1, g2, l', tl, g3, by rw [hother k e]; exact g4, g5, g6⟩
      · exact hother k fun e => hk (e ▸ q8)
      · show (w.heap.modify b _).size = _
        simp
    have hbl : Below (Go.Sort.putRow encStr (Go.Sort.ahead w q) b 0 (srtB (l.map (·.data.toList))).toArray).heap.size (Go.Sort.putRow encStr (Go.Sort.ahead w q) b 0 (srtB (l.map (·.data.toList))).toArray) (Go.Sort.grow (Go.Sort.putRow encStr (Go.Sort.ahead w q) b 0 (srtB (l.map (·.data.toList))).toArray) os) := by
      refine ⟨rfl, rfl, rfl, ?_, fun k hk => ?_⟩
      · unfold Go.Sort.grow
        simp
      · unfold Go.Sort.grow
        exact Array.getElem?_append_left hk
    have st2 := Step.trans st1 (Step.more st1.rel hbl)
    exact ⟨_, .tup [], ⟨(locS [msO M]).n, (locS [msO (setM M b (sortK l, C))]).H⟩, ρ, rfl, ⟨_, hR, ⟨hl1.n, fun i => by rw [hl2.get]; cases i <;> rfl⟩⟩, st2, rfl⟩
end Go.Proofs.Ytddionboojdjlaa
end
