/- The sort of the library, said of symbolic states. -/
import Derived.Test.YtmgcpfljhcahoaaGrCmpR
import Derived.Test.YtmgcpfljhcahoaaGrShelfER
import Derived.Shelf.SlSortCmp.NoneTotal
namespace Go.Proofs.Ytmgcpfljhcahoaa
open Go Go.RowKit Sy Tb Gr
set_option maxRecDepth 100000

def encE (c : Ed) : List Value := [.string c.1, .string c.2]
def flatE (D : Nat → Ed) : Nat → List Value
  | 0 => []
  | n + 1 => flatE D n ++ encE (D n)
def edSF (n : Nat) (D : Nat → Ed) : SObj := .row n (fun j => edL (D j)) 50 2
theorem flatE_ok (ρ : Sy.Ren) (D : Nat → Ed) : ∀ n, czl ρ (rowL (fun j => edL (D j)) n) = some (flatE D n)
  | 0 => rfl
  | n + 1 => by
    rw [rowL_succ]
    exact czl_append (flatE_ok ρ D n) rfl
theorem flatE_length (D : Nat → Ed) : ∀ n, (flatE D n).length = n * 2
  | 0 => rfl
  | n + 1 => by
    show (flatE D n ++ encE (D n)).length = _
    rw [List.length_append, flatE_length D n]
    show _ + 2 = _
    omega
theorem flatE_get (D : Nat → Ed) : ∀ n j, j < n * 2 → (flatE D n)[j]? = some ((encE (D (j / 2)))[j % 2]!)
  | 0, j, h => by omega
  | n + 1, j, h => by
    show (flatE D n ++ encE (D n))[j]? = _
    rcases Nat.lt_or_ge j (n * 2) with g | g
    · rw [List.getElem?_append_left (by rw [flatE_length]; exact g), flatE_get D n j g]
    · rw [List.getElem?_append_right (by rw [flatE_length]; exact g), flatE_length]
      have e : j = n * 2 ∨ j = n * 2 + 1 := by omega
      rcases e with rfl | rfl
      · rw [show n * 2 / 2 = n by omega, show n * 2 % 2 = 0 by omega, Nat.sub_self]
        rfl
      · rw [show (n * 2 + 1) / 2 = n by omega, show (n * 2 + 1) % 2 = 1 by omega, show n * 2 + 1 - n * 2 = 1 by omega]
        rfl
def arrE (D : Nat → Ed) (n : Nat) : Array Ed := ((List.range n).map D).toArray
theorem arrE_size (D : Nat → Ed) (n : Nat) : (arrE D n).size = n := by simp [arrE]
theorem arrE_get (D : Nat → Ed) {n i : Nat} (h : i < n) : (arrE D n)[i]! = D i := by
  rw [getElem!_pos _ i (by rw [arrE_size]; exact h)]
  simp [arrE]
theorem flatK_getE (D : Nat → Ed) {n : Nat} {d : Array Ed} (hn : d.size = n) (hd : ∀ i, i < n → d[i]! = D i) {j : Nat} (h : j < n * 2) : (flatE D n)[j]? = some ((Go.Sort.flatK encE 2 d)[j]!) := by
  rw [Go.Sort.get_flatK _ _ _ j (by rw [hn]; exact h), hd _ (by omega), flatE_get D n j h]
theorem put_cellsE {pre l l' tail : List Value} {F : Array Value} (hl : l.length = F.size) (hl' : l'.length = F.size) (hF : ∀ j, j < F.size → l'[j]? = some F[j]!) :
    Go.Sort.putCells id pre.length F (pre ++ l ++ tail).toArray = (pre ++ l' ++ tail).toArray := by
  apply Array.ext_getElem?
  intro k
  unfold Go.Sort.putCells
  rw [Array.getElem?_mapIdx]
  simp only [List.getElem?_toArray]
  rcases Nat.lt_or_ge k pre.length with g | g
  · rw [List.append_assoc, List.append_assoc, List.getElem?_append_left g, List.getElem?_append_left g]
    have : ¬ (pre.length ≤ k ∧ k < pre.length + F.size) := by omega
    simp only [if_neg this]
    cases pre[k]? <;> rfl
  · rcases Nat.lt_or_ge k (pre.length + F.size) with g2 | g2
    · have h1 : (pre ++ l ++ tail)[k]? = l[k - pre.length]? := by
        rw [List.append_assoc, List.getElem?_append_right g, List.getElem?_append_left (by omega)]
      have h2 : (pre ++ l' ++ tail)[k]? = l'[k - pre.length]? := by
        rw [List.append_assoc, List.getElem?_append_right g, List.getElem?_append_left (by omega)]
      rw [h1, h2, hF _ (by omega)]
      rw [List.getElem?_eq_getElem (by omega)]
      simp only [Option.map_some, if_pos (show pre.length ≤ k ∧ k < pre.length + F.size from ⟨g, g2⟩)]
      rfl
    · have h1 : (pre ++ l ++ tail)[k]? = tail[k - pre.length - F.size]? := by
        rw [List.append_assoc, List.getElem?_append_right g, List.getElem?_append_right (by omega), hl]
      have h2 : (pre ++ l' ++ tail)[k]? = tail[k - pre.length - F.size]? := by
        rw [List.append_assoc, List.getElem?_append_right g, List.getElem?_append_right (by omega), hl']
      rw [h1, h2]
      have : ¬ (pre.length ≤ k ∧ k < pre.length + F.size) := by omega
      simp only [if_neg this]
      cases tail[k - pre.length - F.size]? <;> rfl
theorem cmpLaysE (blk off size : Nat) (w : World) : CmpLays Try.prog 48 #[] encE 2 cmpE blk off size w := fun _ _ _ _ x y =>
  LSpec.exact (S := SCmpE) (SCmpE_ok (md := true)) noGo Try.func48 rfl (x := (x, y)) trivial rfl (v0 := i64 (cmpE x y)) (r := .int .i64 (cmpE x y)) rfl (fun _ => rfl) (args' := [.agg (encE x).toArray, .agg (encE y).toArray]) (fun _ => rfl) _
theorem ltOf_cmpE (x y : Ed) : ltOf cmpE x y = ltE x y := by
  unfold ltOf
  rw [Bool.eq_iff_iff, decide_eq_true_iff]
  exact cmpE_lt
theorem swoE : Go.Sort.SWO (ltOf cmpE) where
  irrefl x := by rw [ltOf_cmpE]; exact Bool.eq_false_iff.2 (ltE_irr x)
  trans x y z h1 h2 := by rw [ltOf_cmpE] at *; exact ltE_tr h1 h2
  ntrans x y z h1 h2 := by
    rw [ltOf_cmpE] at *
    rw [Bool.eq_false_iff] at *
    intro q
    by_cases e1 : x = y
    · exact h2 (e1 ▸ q)
    · exact h2 (ltE_tr (ltE_tri h1 e1) q)
theorem ext_allE {d : Array Ed} {n : Nat} (h : d.size = n) : d.extract 0 n = d := by subst h; simp
def SSortE : LSpec where
  X := Nat × (Nat → Ed)
  k := 1
  pre x := x.1 ≤ 1000000
  args x θ := [.sl (θ 0) 0 2 x.1 false, .fn (.func 48) [] []]
  objs x _ := [edSF x.1 x.2]
  out x _ R := ∀ D', ((List.range x.1).map D').Perm ((List.range x.1).map x.2) → (∀ i j, i < j → j < x.1 → ¬ ltE (D' j) (D' i) = true) → R (.tup []) [some (edSF x.1 D')]
theorem SSortE_nt : SSortE.Nt := ⟨fun _ _ => rfl, fun _ _ => rfl, fun _ _ _ h => h⟩
theorem SSortE_ok {md : Bool} : SSortE.OkM md Try.prog 47 := by
  intro ⟨n, D⟩ R hn hR ρ w args' hr hc
  have hn : n ≤ 1000000 := hn
  have hR : ∀ D', ((List.range n).map D').Perm ((List.range n).map D) → (∀ i j, i < j → j < n → ¬ ltE (D' j) (D' i) = true) → R (.tup []) [some (edSF n D')] := hR
  have hr : Rel ρ (locS [edSF n D]) w := hr
  have hc : czl ρ [.sl 0 0 2 n false, .fn (.func 48) [] []] = some args' := hc
  have hl1 := locS_is (l := [edSF n D]) (by simp)
  have hg : (locS [edSF n D]).H.get 0 = some (edSF n D) := by rw [hl1.get]; rfl
  obtain ⟨a, l1, ha, hc1, rfl⟩ := czl_cons.1 hc
  obtain ⟨f', l2, hf, hc2, rfl⟩ := czl_cons.1 hc1
  obtain rfl : l2 = [] := by simpa [czl] using hc2
  obtain rfl : f' = .func (.func 48) #[] #[] := by simpa [cz, fnOk, czl] using hf.symm
  refine .inl ⟨⟨_, Try.func47, rfl⟩, ?_⟩
  show CallsIn _ _ _ _ #[a, .func (.func 48) #[] #[]] w _
  by_cases h0 : n = 0
  · subst h0
    have hd : ∃ p cap, a = .slice p 0 cap := by
      simp only [cz] at ha
      split at ha
      · split at ha
        · cases ha; exact ⟨_, _, rfl⟩
        · split at ha
          · cases ha; exact ⟨_, _, rfl⟩
          · cases ha
      · split at ha
        · cases ha; exact ⟨_, _, rfl⟩
        · cases ha
    obtain ⟨p, cap, rfl⟩ := hd
    refine CallsIn.mono (callsIn_wide.2 (AnyF.slices_SortFunc_none Ytmgcpfljhcahoaa.edgL p cap _ w)) fun e w' hp => ?_
    obtain ⟨rfl, rfl⟩ := hp
    refine ⟨_, .tup [], locS [edSF 0 D], ρ, rfl, ⟨[some (edSF 0 D)], hR D (List.Perm.refl _) (fun i j _ h => absurd h (Nat.not_lt_zero _)), ?_⟩, Step.refl hr, rfl⟩
    exact ⟨hl1.n, fun i => by rw [hl1.get]; cases i <;> rfl⟩
  · rcases hr.obj 0 _ hg with ⟨_, g, _⟩ | ⟨b, pre, l', tail, q1, q2, q3, q4, q5, q6, q7, q8⟩
    · exact absurd g h0
    rw [flatE_ok] at q2
    cases q2
    have hb := hr.blt 0 b q1
    have hll := flatE_length D n
    have hγ : n ≤ ρ.γ 0 := by
      rw [List.length_append, hll] at q5
      omega
    have hd : ∃ cap, a = .slice (some ⟨b, pre.length, none⟩) n cap := by
      simp only [cz, q1] at ha
      rw [if_neg (by decide), if_pos (by omega)] at ha
      rw [q4]
      cases ha
      exact ⟨_, by rw [Nat.zero_mul]; rfl⟩
    obtain ⟨cap, rfl⟩ := hd
    have hsz := arrE_size D n
    have hH : Go.Sort.HoldsK encE 2 w b pre.length (arrE D n) := fun j hj => by
      have hj : j < n * 2 := by rw [Go.Sort.size_flatK, hsz] at hj; exact hj
      have hget : (pre ++ flatE D n ++ tail)[pre.length + j]? = some ((Go.Sort.flatK encE 2 (arrE D n))[j]!) := by
        rw [List.append_assoc, List.getElem?_append_right (by omega), List.getElem?_append_left (by omega), Nat.add_sub_cancel_left]
        exact flatK_getE D hsz (fun i hi => arrE_get D hi) hj
      constructor
      · unfold World.cell?
        simp only [q3]
        simpa using hget
      · unfold World.frozen?
        simp only [q3]
        simp
    have eg : ∀ args w, (callFunc 48 args).run Try.prog w = .ok (.enter 48 args) w := enters_of Try.func48 (by kernel_rfl) rfl
    have hcall := AnyQ.slices_SortFunc Ytmgcpfljhcahoaa.edgL 2 Try.isAgg50 Try.sizeOf50 encE (fun _ => rfl) (fun x v hv => by simp [encE] at hv; rcases hv with rfl | rfl <;> rfl) cmpE swoE 48 #[] b pre.length cap (arrE D n) w eg (cmpLaysE _ _ _ _) hH hb (by rw [hsz]; omega)
    rw [hsz] at hcall
    refine CallsIn.mono (callsIn_wide.2 hcall) fun e w' hp => ?_
    obtain ⟨rfl, d', q, os, hperm, hsort, rfl⟩ := hp
    have hds : d'.size = n := by rw [hperm.1, hsz]
    have hFs : (Go.Sort.flatK encE 2 d').size = n * 2 := by rw [Go.Sort.size_flatK, hds]
    have hpl : ((List.range n).map fun j => d'[j]!).Perm ((List.range n).map D) := by
      have h := hperm.2.2
      rw [ext_allE hds, ext_allE hsz] at h
      have e1 : d'.toList = (List.range n).map fun j => d'[j]! := by
        apply List.ext_getElem?
        intro k
        rw [List.getElem?_map]
        rcases Nat.lt_or_ge k n with g | g
        · rw [List.getElem?_range g, Array.getElem?_toList, Array.getElem?_eq_getElem (by omega)]
          simp only [Option.map_some]
          rw [getElem!_pos d' k (by omega)]
        · rw [List.getElem?_eq_none (by simp; omega), List.getElem?_eq_none (by simp; omega)]
          rfl
      rw [← e1]
      exact h
    have hso : ∀ i j, i < j → j < n → ¬ ltE (d'[j]!) (d'[i]!) = true := fun i j h1 h2 => by
      have := hsort i j (Nat.zero_le _) h1 h2
      rw [ltOf_cmpE] at this
      simpa using this
    have q6' : RowOk n (fun j => edL (d'[j]!)) 2 := fun j _ => ⟨rfl, rfl⟩
    have hout := hR (fun j => d'[j]!) hpl hso
    have hcells : (Go.Sort.putRowK encE 2 (Go.Sort.ahead w q) b pre.length d').heap[b]? = some (.cells (pre ++ flatE (fun j => d'[j]!) n ++ tail).toArray 50 (0, 0)) := by
      show (w.heap.modify b (Go.Sort.onCells (Go.Sort.putCells id pre.length (Go.Sort.flatK encE 2 d'))))[b]? = _
      rw [Array.getElem?_modify, if_pos rfl, q3]
      show some (Obj.cells (Go.Sort.putCells id pre.length (Go.Sort.flatK encE 2 d') (pre ++ flatE D n ++ tail).toArray) _ _) = _
      rw [put_cellsE (l' := flatE (fun j => d'[j]!) n) (by rw [hll, hFs]) (by rw [flatE_length, hFs]) (fun j hj => flatK_getE _ hds (fun _ _ => rfl) (by rw [hFs] at hj; exact hj))]
    have hl2 := locS_is (l := [edSF n fun j => d'[j]!]) (by simp)
    have st1 : Step md (locS [edSF n D]).n (locS [edSF n D]) ρ w ⟨(locS [edSF n D]).n, (locS [edSF n fun j => d'[j]!]).H⟩ ρ (Go.Sort.putRowK encE 2 (Go.Sort.ahead w q) b pre.length d') := by
      refine Step.set hr hg (o := edSF n fun j => d'[j]!) (fun m => ?_) (.inr ⟨b, pre, flatE (fun j => d'[j]!) n, tail, q1, flatE_ok _ _ _, hcells, q4, ?_, q6', q7, q8⟩) (fun k hk => ?_) ?_ rfl rfl rfl (Nat.le_add_right _ _)
      · rw [hl2.get, hl1.get]
        cases m with
        | zero => rfl
        | succ m => rfl
      · rw [List.length_append, flatE_length, ← hll, ← List.length_append]; exact q5
      · show (w.heap.modify b _)[k]? = _
        rw [Array.getElem?_modify, if_neg (fun e => hk ((q8 k).2 e.symm))]
      · show (w.heap.modify b _).size = _
        simp
    have hbl : Below (Go.Sort.putRowK encE 2 (Go.Sort.ahead w q) b pre.length d').heap.size (Go.Sort.putRowK encE 2 (Go.Sort.ahead w q) b pre.length d') (sortWorldK encE 2 w b pre.length q d' os) := by
      refine ⟨rfl, rfl, rfl, ?_, fun k hk => ?_⟩
      · unfold sortWorldK Go.Sort.grow
        simp
      · unfold sortWorldK Go.Sort.grow
        exact Array.getElem?_append_left hk
    have st2 := Step.trans st1 (Step.more st1.rel hbl)
    exact ⟨_, .tup [], ⟨(locS [edSF n D]).n, (locS [edSF n fun j => d'[j]!]).H⟩, ρ, rfl, ⟨_, hout, ⟨hl1.n, fun i => by rw [hl2.get]; cases i <;> rfl⟩⟩, st2, rfl⟩
end Go.Proofs.Ytmgcpfljhcahoaa
