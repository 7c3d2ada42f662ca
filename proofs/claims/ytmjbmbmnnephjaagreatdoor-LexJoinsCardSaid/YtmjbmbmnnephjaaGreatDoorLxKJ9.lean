/- LexJoins: the walk: whatever the tokens and the text, the call returns true and leaves all that was there as it was. -/
import Derived.Test.YtmjbmbmnnephjaaGreatDoorLxKJ8
import Derived.Test.YtmjbmbmnnephjaaGreatDoorLxKJ5
import Derived.Test.YtmjbmbmnnephjaaGreatDoorLxKJ6
namespace Go.Proofs.YtmjbmbmnnephjaaGreatDoor
open Go Go.Ev Go.Proofs Go.RowKit
/-- Each block of cells as a list. -/
def lsW (W : World) (B : Nat) : Option Blk := match W.heap[B]? with
  | some (.cells c _ _) => some ⟨B, 0, 0, 1, c.toList⟩
  | _ => none
noncomputable def mapW (W : World) : Map := mapI Tryz.prog.globals.size (fun _ => 1) (fun _ => 1) (fun _ => none) (lsW W)
theorem mapW_ls (W : World) : AllLs (mapW W) W := fun B c el fr h => ⟨⟨B, 0, 0, 1, c.toList⟩, by show lsW W B = _; unfold lsW; rw [h], rfl⟩
theorem has5 : ∃ fn c, En.fn.get 5 = some fn ∧ fn.body = some c := by
  have h : (match En.fn.get 5 with | some fn => fn.body.isSome | none => false) = true := by kernel_rfl
  split at h
  · rename_i fn hfn
    obtain ⟨c, hc⟩ := Option.isSome_iff_exists.1 h
    exact ⟨fn, c, hfn, hc⟩
  · cases h
theorem walkJ (W : World) (v1 : Value) (s : ByteArray) (ts : List Tok) (hv : VRs (mapW W) [lstV (ts.map tokV)] [v1]) (hts : ∀ t, t ∈ ts → TokF t ∧ (bl t.text).length ≤ 140737488351232) (hn : ts.length ≤ 9223372036854775807) (hs : (bl s).length ≤ 140737488351232)
    (hgs : Tryz.prog.globals.size ≤ W.heap.size) :
    Calls Tryz.prog 5 #[v1, .string s] W (fun e W' => e = .returned (.bool true) ∧ Below W.heap.size W W') := by
  obtain ⟨v, s', rfl, f0, hrun⟩ := joins_ok ⟨layTabs [], gbase 300, []⟩ s hs ts (fun t h => (hts t h).1) hn (fun t h => (hts t h).2)
  have hr := hrun f0 (Nat.le_refl _)
  have ha : VRs (mapW W) [lstV (ts.map tokV), .string s] [v1, .string s] := hv.append (.cons (.string s) .nil)
  refine Calls.mono (ev_calls (B0 := W.heap.size) (w0 := W) enOK mixed hr has5 (by kernel_rfl) (ρ := mapW W) ⟨MR.tables (l := []) (fun _ h => by cases h) (fun _ h => by cases h) hgs (fun _ _ h => by cases h) (fun B x h => ?_), Below.refl _ _, Nat.le_refl _⟩ ⟨fun k h1 _ => ?_⟩ mapI_gl ha) ?_
  · unfold lsW at h
    split at h
    · rename_i c el fr hh
      obtain rfl := Option.some.inj h
      exact ⟨rfl, c, el, fr, hh, rfl⟩
    · cases h
  · exact mapI_high (gb300 _ k globals8 h1)
  · rintro e w' ⟨v', ρ', rfl, hv, hw⟩
    cases hv
    exact ⟨rfl, hw.bel⟩
end Go.Proofs.YtmjbmbmnnephjaaGreatDoor
