/- QuerySplits (package quiverlaw18): for every input the call returns true, and the arguments read behind it as they did before: the TIED CARD: the listed package-level variables are tied to the program's text. Conditions: those of the row and of the card's form; none of ours. -/
import Derived.Test.YtpljgnjdlciicaaGreatDoorCards
import Derived.Test.YtpljgnjdlciicaaGreatDoorTie
import Derived.SevenTiedAt
import Derived.Test.YtpljgnjdlciicaaGreatDoorLyKQ42
namespace Go.Proofs.YtpljgnjdlciicaaGreatDoor
open Go
theorem querySplits_card_holds : Rows.QuerySplitsCardSaid :=
  Claim7.holds_tied_plain_at .later [] [.data, .data, .data, .data, .sentinel, .sentinel, .listed, .data, .pinned] true (true, "479036b9c3bd1b80019f2bd0086af5b8d4fa436fc7e75e5db313fccd5059bd68") true
    row_holds (fun _ h => by cases h) (by kernel_rfl) (fun _ h => by cases h) querySplits_row_tie rfl ⟨rfl, rfl⟩ (by kernel_rfl) rfl
    (fun f fn hf hfn => by
      obtain rfl : f = 5 := Option.some.inj ((show Tryz.prog.funcNamed "quiver/quiverlaw18.QuerySplits" = some 5 by kernel_rfl).symm.trans hf) |>.symm
      obtain rfl : fn = Tryz.f5 := (Option.some.inj (Tryz.func5.symm.trans hfn)).symm
      exact ⟨by kernel_rfl, fun j t ht => by
        rw [Tryz.params5] at ht
        have h3 : t = 9 := by
          rcases j with _ | j
          · simpa using ht.symm
          · simp at ht
        rw [h3]
        exact (show Tryz.prog.wantsStandIn 9 = false by kernel_rfl)⟩)
    (by kernel_rfl)
#print axioms querySplits_card_holds
end Go.Proofs.YtpljgnjdlciicaaGreatDoor
