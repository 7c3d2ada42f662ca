import Derived.Test.YtpljgnjdlciicaaGreatDoorCards
import Derived.Test.YtpljgnjdlciicaaGreatDoorTie
import Derived.SevenTiedAt
import Derived.Test.YtpljgnjdlciicaaGreatDoorLxKP47
namespace Go.Proofs.YtpljgnjdlciicaaGreatDoor
open Go
theorem parseEnds_card_holds : Rows.ParseEndsCardSaid :=
  Claim7.holds_tied_plain_at .later [] [.data, .data, .data, .data, .sentinel, .sentinel, .pinned] true (true, "479036b9c3bd1b80019f2bd0086af5b8d4fa436fc7e75e5db313fccd5059bd68") true
    row_holds (fun _ h => by cases h) (by kernel_rfl) (fun _ h => by cases h) parseEnds_row_tie rfl ⟨rfl, rfl⟩ (by kernel_rfl) rfl
    (fun f fn hf hfn => by
      obtain rfl : f = 3 := Option.some.inj ((show Tryz.prog.funcNamed "quiver/quiverlaw15.ParseEnds" = some 3 by kernel_rfl).symm.trans hf) |>.symm
      obtain rfl : fn = Tryz.f3 := (Option.some.inj (Tryz.func3.symm.trans hfn)).symm
      exact ⟨by kernel_rfl, fun j t ht => by
        rw [Tryz.params3] at ht
        have h3 : t = 9 := by
          rcases j with _ | j
          · simpa using ht.symm
          · simp at ht
        rw [h3]
        exact (show Tryz.prog.wantsStandIn 9 = false by kernel_rfl)⟩)
    (by kernel_rfl)
#print axioms parseEnds_card_holds
end Go.Proofs.YtpljgnjdlciicaaGreatDoor
