/- ExpiryPlays: the loop; a list of calls among the arguments. -/
import Derived.Test.YtapjncdcjahlkaaExLooks
import Derived.Test.YtapjncdcjahlkaaExOpen
namespace Go.Proofs.Ytapjncdcjahlkaa
open Go Go.RowKit Sy Ex Al
set_option maxRecDepth 100000

abbrev ActX := Int × Int × Int
def a0 : ActX := (0, 0, 0)
def actC (a : ActX) : List V := [i64 a.1, i64 a.2.1, u64 a.2.2]
def acO (c : Obj) (l : List ActX) (e : TypeId) : SObj := .ro c l.length (fun j => actC (l.getD j a0)) e 3
theorem conPl : ConOk Try.prog (conOf [(8, trueT), (9, SNew.T), (22, SDo.T), (23, SLooks.T)]) :=
  conOf_cons (true_ok ⟨_, Try.func8, rfl⟩ known_any) (conOf_cons (LSpec.call SNew_nt SNew_ok) (conOf_cons (LSpec.call SDo_nt SDo_ok) (conOf_cons (LSpec.call SLooks_nt SLooks_ok) conOf_nil)))
def SPlays : LSpec where
  X := Obj × List ActX × TypeId
  k := 1
  pre x := ∀ a ∈ x.2.1, timeOk a.2.2
  args x θ := [.sl (θ 0) 0 3 x.2.1.length false]
  objs x _ := [acO x.1 x.2.1 x.2.2]
  out x _ R := R (.sb true) [some (acO x.1 x.2.1 x.2.2)]
theorem SPlays_top : SPlays.Top Try.prog 5 := by
  refine LSpec.top noGo mixed conPl Try.func5 rfl (by kernel_rfl) fun ⟨c, l, e⟩ R hts hR => ?_
  have hts : ∀ a ∈ l, timeOk a.2.2 := hts
  (conv => whnf)
  constructor
  · intro h
    (conv => whnf)
    refine ⟨[], _, _, hR, ?_⟩
    (repeat' (first | exact True.intro | rfl | assumption | exact entI_keep _ _ | (refine And.intro ?_ ?_) | (intro _ _; rfl) | ((conv => whnf); (first | exact True.intro | (refine And.intro ?_ ?_)))))
  · intro h
    have hl : l.length ≤ 100 := by have : ¬ (100 : Int) < (l.length : Int) := of_decide_eq_false h; omega
    (conv => whnf)
    refine ⟨(), [], trivial, rfl, by (repeat' (first | exact True.intro | rfl | assumption | exact entI_keep _ _ | (refine And.intro ?_ ?_) | (intro _ _; rfl) | ((conv => whnf); (first | exact True.intro | (refine And.intro ?_ ?_))))), by (repeat' (first | exact True.intro | rfl | assumption | exact entI_keep _ _ | (refine And.intro ?_ ?_) | (intro _ _; rfl) | ((conv => whnf); (first | exact True.intro | (refine And.intro ?_ ?_))))), ?_⟩
    (conv => whnf)
    refine .inl ⟨Nat × HX, fun x => [(3, .ptr 1 0), (4, .sl 4 0 2 x.2.2.2.2.2.length false), (15, .sl 0 0 3 l.length false), (16, i64 l.length), (17, i64 x.1)],
      fun x => [some (acO c l e), some (hpC 2 3 x.2.1), some (tmR x.2.2.1 x.2.2.2.1), some (mpE x.2.2.2.2.1), some (wR x.2.2.2.2.2)], fun x => l.length - x.1, fun x => x.1 ≤ l.length ∧ HW x.2.1 x.2.2.1 x.2.2.2.1 x.2.2.2.2.1 x.2.2.2.2.2 ∧ x.2.2.2.2.2.length ≤ x.1, 5, ⟨(0, 0, 0, (fun _ => c0), [], []), [some 1, some 2, some 3, none], ⟨Nat.zero_le _, HW.new, Nat.le_refl _⟩, ?_⟩, fun _ => rfl, fun ⟨i, n, N, L, E, w⟩ ⟨hi, ht, hc⟩ => ?_⟩
    · (repeat' (first | exact True.intro | rfl | assumption | exact entI_keep _ _ | (refine And.intro ?_ ?_) | (intro _ _; rfl) | ((conv => whnf); (first | exact True.intro | (refine And.intro ?_ ?_)))))
    have hi : i ≤ l.length := hi
    have ht : HW n N L E w := ht
    have hc : w.length ≤ i := hc
    have hn := ht.len
    (conv => whnf)
    constructor
    · intro h
      have h : i < l.length := by have : (i : Int) < (l.length : Int) := of_decide_eq_true h; omega
      have ei := zero_add_toNat i
      have hto : timeOk (l.getD (0 + (i : Int).toNat) a0).2.2 := by
        rw [ei, List.getD_eq_getElem?_getD, List.getElem?_eq_getElem h]
        exact hts _ (List.getElem_mem h)
      (conv => whnf)
      refine ⟨by show (0 : Int) ≤ (i : Int); omega, by show (i : Int) < (l.length : Int); omega, ?_⟩
      (conv => whnf)
      refine ⟨by rw [ei]; exact h, ?_⟩
      (conv => whnf)
      refine ⟨((n, N, L, E, w), l.getD (0 + (i : Int).toNat) a0), [1, 2, 3, 4], ⟨ht, hto, by show n ≤ 1000; omega⟩, rfl, by (repeat' (first | exact True.intro | rfl | assumption | exact entI_keep _ _ | (refine And.intro ?_ ?_) | (intro _ _; rfl) | ((conv => whnf); (first | exact True.intro | (refine And.intro ?_ ?_))))), by (repeat' (first | exact True.intro | rfl | assumption | exact entI_keep _ _ | (refine And.intro ?_ ?_) | (intro _ _; rfl) | ((conv => whnf); (first | exact True.intro | (refine And.intro ?_ ?_))))), fun n' N' L' E' w' h' hl' => ?_⟩
      have hn' := h'.len
      have hl' : w'.length ≤ w.length + 1 := hl'
      (conv => whnf)
      refine ⟨fun _ => ?_, fun g => Bool.noConfusion (show false = true from g)⟩
      (conv => whnf)
      refine ⟨((n', N', L', E', w'), (l.getD (0 + (i : Int).toNat) a0).2.1), [6, 7, 8, 9], ⟨h', by show n' ≤ 10000; omega⟩, rfl, by (repeat' (first | exact True.intro | rfl | assumption | exact entI_keep _ _ | (refine And.intro ?_ ?_) | (intro _ _; rfl) | ((conv => whnf); (first | exact True.intro | (refine And.intro ?_ ?_))))), by (repeat' (first | exact True.intro | rfl | assumption | exact entI_keep _ _ | (refine And.intro ?_ ?_) | (intro _ _; rfl) | ((conv => whnf); (first | exact True.intro | (refine And.intro ?_ ?_))))), ?_⟩
      (conv => whnf)
      refine ⟨fun g => Bool.noConfusion (show false = true from g), fun _ => ?_⟩
      (conv => whnf)
      refine ⟨(i + 1, n', N', L', E', w'), [some 6, some 7, some 8, some 9], by show l.length - (i + 1) < l.length - i; omega, ⟨by show i + 1 ≤ l.length; omega, h', by show w'.length ≤ i + 1; omega⟩, ?_⟩
      (repeat' (first | exact True.intro | rfl | assumption | exact entI_keep _ _ | (refine And.intro ?_ ?_) | (intro _ _; rfl) | ((conv => whnf); (first | exact True.intro | (refine And.intro ?_ ?_)))))
      exact (wrap_inc h (by omega)).symm
    · intro h
      (conv => whnf)
      refine ⟨[], _, _, hR, ?_⟩
      (repeat' (first | exact True.intro | rfl | assumption | exact entI_keep _ _ | (refine And.intro ?_ ?_) | (intro _ _; rfl) | ((conv => whnf); (first | exact True.intro | (refine And.intro ?_ ?_)))))
abbrev TA := { a : ActX // timeOk a.2.2 }
def ta0 : TA := ⟨a0, by unfold timeOk; decide⟩
section
open Go.ChangeShapes Go.WideShapes Go.Deep
theorem act_of {H : Type} {enc : TypeId × Value → H} {W : World} {spare : Nat → Bool} {held : Bool} (a : Addr) (y : DataW H × List MemPlace) (n : Nat)
    (h : (W.cells? 0 a 3).bind (DataW.trod enc Try.prog W 0 spare held n 48) = some y) :
    ∃ (x : TA) (l : List Value), W.cells? 0 a 3 = some l ∧ czl emptyR (actC x.1) = some l := by
  obtain ⟨cs, hcs, htr⟩ := Option.bind_eq_some_iff.1 h
  obtain ⟨xs, m, _, _, hl, hlen, hfs⟩ := DataW.trod_struct Try.underlying48 htr
  have hl4 : cs.length = 3 := hl.trans (by kernel_rfl)
  match cs, hl4 with
  | [c0, c1, c2], _ =>
    match xs, hlen with
    | [y0, y1, y2], _ =>
      have k0 : DataW.trod enc Try.prog W 0 spare held m 3 [c0] = some y0 := by
        have := hfs 0 _ rfl
        simpa [show Try.prog.cellsOf 3 = 1 from by kernel_rfl] using this
      have k1 : DataW.trod enc Try.prog W 0 spare held m 3 [c1] = some y1 := by
        have := hfs 1 _ rfl
        simpa [show Try.prog.cellsOf 3 = 1 from by kernel_rfl] using this
      have k2 : DataW.trod enc Try.prog W 0 spare held m 24 [c2] = some y2 := by
        have := hfs 2 _ rfl
        simpa [show Try.prog.cellsOf 24 = 1 from by kernel_rfl] using this
      obtain ⟨m0, e0, _, _⟩ := DataW.trod_int Try.underlying3 k0
      obtain ⟨m1, e1, _, _⟩ := DataW.trod_int Try.underlying3 k1
      obtain ⟨m2, e2, _, hw⟩ := DataW.trod_int Try.underlying24 k2
      simp at e0 e1 e2
      subst e0 e1 e2
      exact ⟨⟨(m0, m1, m2), u64_wf hw⟩, _, hcs, rfl⟩
theorem acts_of {H : Type} {enc : TypeId × Value → H} {W : World} {spare : Nat → Bool} {held : Bool} {r : Reach} {b0 : Nat} {v : Value} {d : DataW H} {p : List MemPlace} (hv : Value.okWide Try.prog W r b0 46 v) (h : DataW.Trod enc Try.prog W 0 spare held 46 v d p) :
    ∃ l : List ActX, (∀ a ∈ l, timeOk a.2.2) ∧ Nonempty (RoArg W v l.length (fun j => actC (l.getD j a0)) 3) := by
  obtain ⟨n, A, _, ⟨h⟩⟩ := roArg_of ta0 (fun x : TA => actC x.1) (sz := 3) Try.underlying46 (by kernel_rfl) (fun a y m h => act_of a y m h) hv h
  obtain ⟨l, _, ⟨h⟩⟩ := RoArg.list (F := fun x : TA => actC x.1) (A := A) ta0 h
  refine ⟨l.map (·.1), fun t ht => ?_, ?_⟩
  · obtain ⟨x, _, rfl⟩ := List.mem_map.1 ht
    exact x.2
  · have e : (fun j => actC ((l.map (·.1)).getD j a0)) = fun j => actC (l.getD j ta0).1 := by
      funext j
      rw [List.getD_eq_getElem?_getD, List.getD_eq_getElem?_getD, List.getElem?_map]
      cases l[j]? <;> rfl
    rw [e, List.length_map]
    exact ⟨h⟩
end
theorem ac_ok (l : List ActX) : RowOk l.length (fun j => actC (l.getD j a0)) 3 := fun _ _ => ⟨rfl, rfl⟩
theorem lPlays (l : List ActX) (hts : ∀ a ∈ l, timeOk a.2.2) (W : World) (v : Value) (h : Nonempty (RoArg W v l.length (fun j => actC (l.getD j a0)) 3)) : Calls Try.prog 5 #[v] W fun e w' => e = .returned (.bool true) ∧ Below W.heap.size W w' := by
  obtain ⟨h⟩ := h
  obtain ⟨ρ, c, e, hr, hfp, hcz⟩ := ro_one h (by decide) (ac_ok l)
  exact SPlays_top (c, l, e) hts ⟨rfl, rfl⟩ (fun o ho => ⟨c, _, _, e, 3, List.mem_singleton.1 ho⟩) ρ W [v] hr hfp (by
    show czl ρ [V.sl 0 0 3 l.length false] = some [v]
    simp only [czl, hcz])
end Go.Proofs.Ytapjncdcjahlkaa
