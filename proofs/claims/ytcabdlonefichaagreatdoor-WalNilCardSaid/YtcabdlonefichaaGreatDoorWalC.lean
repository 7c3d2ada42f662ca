/- WalNil (package quiverlaw13): for every input the call returns true, and the arguments read behind it as they did before: the TIED CARD: the listed package-level variables are tied to the program's text. Conditions: those of the row and of the card's form; none of ours. -/
import Derived.Test.YtcabdlonefichaaGreatDoorCards
import Derived.Test.YtcabdlonefichaaGreatDoorTie
import Derived.SevenTiedAt
import Derived.Test.YtcabdlonefichaaGreatDoorWalP
namespace Go.Proofs.YtcabdlonefichaaGreatDoor
open Go
theorem walNil_card_holds : Rows.WalNilCardSaid :=
  Claim7.holds_tied_plain_at .later [] [.data, .data, .data, .sentinel, .sentinel] true (true, "add05b41845374b55ba71b3752f42186ed98b899eff3fb99a4edb71c657d0e30") true
    row_holds (fun _ h => by cases h) (by kernel_rfl) (fun _ h => by cases h) walNil_row_tie rfl ⟨rfl, rfl⟩ (by kernel_rfl) rfl
    (fun f fn hf hfn => by
      obtain rfl : f = 3 := Option.some.inj ((show Tryz.prog.funcNamed "quiver/quiverlaw13.WalNil" = some 3 by kernel_rfl).symm.trans hf) |>.symm
      obtain rfl : fn = Tryz.f3 := (Option.some.inj (Tryz.func3.symm.trans hfn)).symm
      exact ⟨by kernel_rfl, fun j t ht => by
        rw [Tryz.params3] at ht
        have h3 : t = 22 ∨ t = 23 := by
          rcases j with _ | _ | j
          · left; simpa using ht.symm
          · right; simpa using ht.symm
          · simp at ht
        rcases h3 with rfl | rfl
        · exact (show Tryz.prog.wantsStandIn 22 = false by kernel_rfl)
        · exact (show Tryz.prog.wantsStandIn 23 = false by kernel_rfl)⟩)
    (by kernel_rfl)
#print axioms walNil_card_holds
end Go.Proofs.YtcabdlonefichaaGreatDoor
