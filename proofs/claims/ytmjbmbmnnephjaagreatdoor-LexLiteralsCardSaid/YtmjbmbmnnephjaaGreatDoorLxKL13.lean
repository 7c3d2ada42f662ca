/- LexLiterals (package quiverlaw14): for every input the call returns true, and the arguments read behind it as they did before: the TIED CARD: the listed package-level variables are tied to the program's text. Conditions: those of the row and of the card's form; none of ours. -/
import Derived.Test.YtmjbmbmnnephjaaGreatDoorCards
import Derived.Test.YtmjbmbmnnephjaaGreatDoorTie
import Derived.SevenTiedAt
import Derived.Test.YtmjbmbmnnephjaaGreatDoorLxKL12
namespace Go.Proofs.YtmjbmbmnnephjaaGreatDoor
open Go
theorem lexLiterals_card_holds : Rows.LexLiteralsCardSaid :=
  Claim7.holds_tied_plain_at .later [] [.data, .data, .data, .data, .sentinel, .sentinel, .pinned] true (true, "0f2d91a25e5a5e476f249ecbd12b352ce9bf898730226e706558537d6d5b6763") true
    row_holds (fun _ h => by cases h) (by kernel_rfl) (fun _ h => by cases h) lexLiterals_row_tie rfl ⟨rfl, rfl⟩ (by kernel_rfl) rfl
    (fun f fn hf hfn => by
      obtain rfl : f = 4 := Option.some.inj ((show Tryz.prog.funcNamed "quiver/quiverlaw14.LexLiterals" = some 4 by kernel_rfl).symm.trans hf) |>.symm
      obtain rfl : fn = Tryz.f4 := (Option.some.inj (Tryz.func4.symm.trans hfn)).symm
      exact ⟨by kernel_rfl, fun j t ht => by
        rw [Tryz.params4] at ht
        have h3 : t = 32 := by
          rcases j with _ | j
          · simpa using ht.symm
          · simp at ht
        rw [h3]
        exact (show Tryz.prog.wantsStandIn 32 = false by kernel_rfl)⟩)
    (by kernel_rfl)
#print axioms lexLiterals_card_holds
end Go.Proofs.YtmjbmbmnnephjaaGreatDoor
