/- TextNumbers (package quiverlaw04): for every input the call returns true, and the arguments read behind it as they did before: the TIED CARD: the listed package-level variables are tied to the program's text. Conditions: those of the row and of the card's form; none of ours. -/
import Derived.Test.YtmjbmbmnnephjaaGreatDoorCards
import Derived.Test.YtmjbmbmnnephjaaGreatDoorTie
import Derived.SevenTiedAt
import Derived.Test.YtmjbmbmnnephjaaGreatDoorLxKN21
namespace Go.Proofs.YtmjbmbmnnephjaaGreatDoor
open Go
theorem textNumbers_card_holds : Rows.TextNumbersCardSaid :=
  Claim7.holds_tied_plain_at .later [] [.data, .data, .data, .data, .sentinel, .sentinel, .pinned] true (true, "0f2d91a25e5a5e476f249ecbd12b352ce9bf898730226e706558537d6d5b6763") true
    row_holds (fun _ h => by cases h) (by kernel_rfl) (fun _ h => by cases h) textNumbers_row_tie rfl ⟨rfl, rfl⟩ (by kernel_rfl) rfl
    (fun f fn hf hfn => by
      obtain rfl : f = 9 := Option.some.inj ((show Tryz.prog.funcNamed "quiver/quiverlaw04.TextNumbers" = some 9 by kernel_rfl).symm.trans hf) |>.symm
      obtain rfl : fn = Tryz.f9 := (Option.some.inj (Tryz.func9.symm.trans hfn)).symm
      exact ⟨by kernel_rfl, fun j t ht => by
        rw [Tryz.params9] at ht
        have h3 : t = 2 := by
          rcases j with _ | _ | j
          · simpa using ht.symm
          · simpa using ht.symm
          · simp at ht
        rw [h3]
        exact (show Tryz.prog.wantsStandIn 2 = false by kernel_rfl)⟩)
    (by kernel_rfl)
#print axioms textNumbers_card_holds
end Go.Proofs.YtmjbmbmnnephjaaGreatDoor
