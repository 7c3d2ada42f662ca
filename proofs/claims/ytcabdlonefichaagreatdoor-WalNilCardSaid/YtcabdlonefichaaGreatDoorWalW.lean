/- WalNil: the walk: whatever the arguments, the call returns true and leaves all that was there as it was. -/
import Derived.Test.YtcabdlonefichaaGreatDoorEvS26
import Derived.Test.YtcabdlonefichaaGreatDoorWalKP
import Derived.Test.YtcabdlonefichaaGreatDoorWalE
namespace Go.Proofs.YtcabdlonefichaaGreatDoor
open Go Go.Ev Go.Proofs Go.RowKit
theorem has3 : ∃ fn c, walEnv.fn.get 3 = some fn ∧ fn.body = some c := ⟨Tryz.f3, body3, by kernel_rfl, by kernel_rfl⟩
theorem el184 : ∃ i, Tryz.prog.info? 184 = some i ∧ i.size = 20 := by
  have h : (Tryz.prog.info? 184).map (·.size) = some 20 := by kernel_rfl
  cases hi : Tryz.prog.info? 184 with
  | none => rw [hi] at h; cases h
  | some i => rw [hi] at h; exact ⟨i, rfl, by simpa using h⟩
theorem globals6 : Tryz.prog.globals.size = 6 := by kernel_rfl
theorem argAt_ne {g : Nat} (h : g < Tryz.prog.globals.size) : gbase g ≠ argAt := by
  rw [globals6] at h
  unfold argAt
  rw [gbase_eq, gbase_eq]
  omega
theorem fresh_low (N sz : Nat → Nat) (arg : Option Blk) : ∀ k, walSt.ctr ≤ k → k < 1000000000 → mapG Tryz.prog.globals.size N sz argAt arg k = none :=
  fun k _ h => mapG_low h (by unfold argAt; rw [gbase_eq]; omega)
theorem pow10_lit : pow10.all lit = true := by decide
theorem walk_none (W : World) (n : Int) (c : Array Value) (hheap : W.heap[2]? = some (.cells c 184 (0, 0))) (hsz : c.size = 20) (hc : ∀ (i : Nat) (v : Value), pow10[i]? = some v → c[i]? = some v) (hgs : Tryz.prog.globals.size ≤ W.heap.size) :
    Calls Tryz.prog 3 #[.slice none 0 0, .int .u64 n] W (fun e W' => e = .returned (.bool true) ∧ Below W.heap.size W W') := by
  refine ev_true (n := 1000000 + 5) (args := [noneP, .int .u64 n]) (s := walSt) (ρ := mapG Tryz.prog.globals.size (fun _ => 20) (fun _ => 20) argAt none) walOK mixed ?_ has3 ?_ (fresh_low _ _ _) (mapG_gl fun g hg => argAt_ne hg) (.cons .slN (.cons (.int _ _) .nil))
  · rw [upto_none]; exact none_false n
  · exact MR.table (by rw [globals6]; omega) (argAt_ne (by rw [globals6]; omega)) hheap hsz rfl el184 pow10_lit hc hgs (fun x e => by cases e)
theorem walk_some (W : World) (b off len cap : Nat) (n : Int) (hle : len ≤ cap) (hb : b < W.heap.size) (c : Array Value) (hheap : W.heap[2]? = some (.cells c 184 (0, 0))) (hsz : c.size = 20) (hc : ∀ (i : Nat) (v : Value), pow10[i]? = some v → c[i]? = some v)
    (hgs : Tryz.prog.globals.size ≤ W.heap.size) : Calls Tryz.prog 3 #[.slice (some ⟨b, off, none⟩) len cap, .int .u64 n] W (fun e W' => e = .returned (.bool true) ∧ Below W.heap.size W W') := by
  refine ev_true (n := 1000000 + 5) (args := [someP len cap, .int .u64 n]) (s := walSt) (ρ := mapG Tryz.prog.globals.size (fun _ => 20) (fun _ => 20) argAt (some ⟨b, off, 0, 1⟩)) walOK mixed ?_ has3 ?_ (fresh_low _ _ _) (mapG_gl fun g hg => argAt_ne hg)
    (.cons (VR.sl (x := ⟨b, off, 0, 1⟩) mapG_arg (.inl rfl) (by rw [capOf_lo]; exact Nat.le_refl _) (fun _ => by rw [capOf_lo]) (fun h => by rw [capOf_ex] at h; cases h) hle) (.cons (.int _ _) .nil))
  · rw [upto_some]
    cases decide ((200000 : Int) < .ofNat len) with
    | false => exact some_false len cap n
    | true => exact some_true len cap n
  · exact MR.table (by rw [globals6]; omega) (argAt_ne (by rw [globals6]; omega)) hheap hsz rfl el184 pow10_lit hc hgs (fun x e => by cases e; exact hb)
end Go.Proofs.YtcabdlonefichaaGreatDoor
