/- ArenaHolds: the law, whatever the arguments. -/
import Derived.Test.YtiiiciehilfmfaaHo09B
namespace Go.Proofs.Ytiiiciehilfmfaa
open Go.RowKit

set_option maxRecDepth 100000 in
set_option maxHeartbeats 2000000 in
theorem holds_no (most : Int) (pl : Option Addr) (nl cl : Nat) (w : World) (h : most < 1 ∨ 20 < most ∨ 100 < nl) : Calls Try.prog 5 #[.int .i64 most, .slice pl nl cl] w (Law w.heap.size w) := by
  by_cases h1 : most < 1
  · go_enter Try.func5, Try.ntmps5
    go_wp2_with fail
    refine (known_any _).mono ?_
    rintro e w' ⟨rfl, hb2⟩
    go_wp2_with fail
    go_ret
    exact ⟨rfl, hb2⟩
  · by_cases h2 : 20 < most
    · go_enter Try.func5, Try.ntmps5
      go_wp2_with fail
      refine (known_any _).mono ?_
      rintro e w' ⟨rfl, hb2⟩
      go_wp2_with fail
      go_ret
      exact ⟨rfl, hb2⟩
    · have h3 : 100 < nl := by omega
      clear h
      go_enter Try.func5, Try.ntmps5
      go_wp2_with fail
      refine (known_any _).mono ?_
      rintro e w' ⟨rfl, hb2⟩
      go_wp2_with fail
      go_ret
      exact ⟨rfl, hb2⟩
theorem lHolds (most : Int) (pl : Option Addr) (nl cl : Nat) (aw an ag : Nat → Int) (w : World) (hA : ActsAt w nl pl aw an ag) :
    Calls Try.prog 5 #[.int .i64 most, .slice pl nl cl] w (Law w.heap.size w) := by
  by_cases h : most < 1 ∨ 20 < most ∨ 100 < nl
  · exact holds_no most pl nl cl w h
  · exact holds_yes most pl nl cl aw an ag w (by omega) (by omega) (by omega) hA
end Go.Proofs.Ytiiiciehilfmfaa
