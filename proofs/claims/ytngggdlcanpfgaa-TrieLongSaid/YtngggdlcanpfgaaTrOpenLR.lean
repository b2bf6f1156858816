/- TrieLong at its arguments. -/
import Derived.Test.YtngggdlcanpfgaaTrOpenR
import Derived.Test.YtngggdlcanpfgaaTrLongR
namespace Go.Proofs.Ytngggdlcanpfgaa
open Go Go.RowKit Sy Ti
set_option maxRecDepth 100000
/-- Nothing is known of a state of no objects. -/
theorem rel_none (w : World) : Rel ⟨fun _ => none, fun _ => 0, fun _ => 0, fun _ => false, fun _ => none, fun _ _ => False⟩ (locS []) w := by
  have no : ∀ i o, ¬ (locS []).H.get i = some o := fun i o hi => by
    rw [(locS_is (l := []) (by simp)).get] at hi
    simp at hi
  exact ⟨fun i o hi => absurd hi (no i o), fun i j oi oj k _ _ hk => hk.elim, fun i o k _ hk => hk.elim, fun i hi => ⟨rfl, rfl, rfl⟩, fun i o hi => absurd hi (no i o), fun i v hv => (by cases hv), fun i b hb => (by cases hb)⟩
theorem lLong (b g : Int) (hb : 0 ≤ b ∧ b < 256) (hg : 0 ≤ g ∧ g < 256) (W : World) : Calls Try.prog 4 #[.int .u8 b, .int .u8 g] W fun e w' => e = .returned (.bool true) ∧ Below W.heap.size W w' :=
  SLongL_top (b, g) ⟨hb, hg⟩ ⟨rfl, rfl⟩ (fun o ho => by cases ho) _ W [.int .u8 b, .int .u8 g] (rel_none W) (fun i c n f e sz k _ hk => hk.elim) rfl
end Go.Proofs.Ytngggdlcanpfgaa
