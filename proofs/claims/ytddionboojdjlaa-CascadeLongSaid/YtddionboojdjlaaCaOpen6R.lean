/- CascadeLong at the law's arguments. -/
import Derived.Test.YtddionboojdjlaaCaLongR
namespace Go.Proofs.Ytddionboojdjlaa
set_option maxRecDepth 100000
open Go Go.RowKit Sy Tb Gr
theorem rel_none (w : World) : Rel ⟨fun _ => none, fun _ => 0, fun _ => 0, fun _ => false, fun _ => none, fun _ _ => False⟩ (locS []) w := by
  have no : ∀ i o, ¬ (locS []).H.get i = some o := fun i o hi => by
    rw [(locS_is (l := []) (by simp)).get] at hi
    simp at hi
  exact ⟨fun i o hi => absurd hi (no i o), fun i j oi oj k _ _ hk => hk.elim, fun i o k _ hk => hk.elim, fun i hi => ⟨rfl, rfl, rfl⟩, fun i o hi => absurd hi (no i o), fun i v hv => (by cases hv), fun i b hb => (by cases hb)⟩
theorem lLong (a b c : Int) (W : World) : Calls Try.prog 5 #[.int .i64 a, .int .i64 b, .int .i64 c] W fun e w' => e = .returned (.bool true) ∧ Below W.heap.size W w' :=
  SLongL_top (a, b, c) trivial ⟨rfl, rfl⟩ (fun o ho => by cases ho) _ W [.int .i64 a, .int .i64 b, .int .i64 c] (rel_none W) (fun i c n f e sz k _ hk => hk.elim) rfl
end Go.Proofs.Ytddionboojdjlaa
