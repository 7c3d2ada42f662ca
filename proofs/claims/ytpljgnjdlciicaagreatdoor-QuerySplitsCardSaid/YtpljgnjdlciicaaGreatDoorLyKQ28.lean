/- What the evaluator takes for granted of the program, checked once by the kernel; the lexer's live(), evaluated. -/
import Derived.Test.YtpljgnjdlciicaaGreatDoorLyKQ25
import Derived.Test.YtpljgnjdlciicaaGreatDoorLyKQ20
import Derived.Test.YtpljgnjdlciicaaGreatDoorLyKQ21
import Derived.Test.YtpljgnjdlciicaaGreatDoorLyKQ27
import Derived.KernelRfl
namespace Go.Ev
open Go Go.RowKit
theorem GlOK.size {P : Program} {ρ : Map} {B0 : Nat} {m : Tr Slot} {w : World} (gl : GlOK P ρ) (r : MR P ρ B0 m w) : P.globals.size ≤ w.heap.size := by
  cases hn : P.globals.size with
  | zero => exact Nat.zero_le _
  | succ n =>
    obtain ⟨x, e1, e2, _⟩ := gl n (by omega)
    have := r.rng _ x e1
    omega
end Go.Ev
namespace Go.Proofs.YtpljgnjdlciicaaGreatDoor
open Go Go.Ev Go.Proofs Go.RowKit
theorem mixed : Tryz.prog.follows .mixedOrders = true := by kernel_rfl
theorem e165 : ∀ fn, Tryz.prog.funcs[165]? = some fn → Extern.findNext fn = none ∧ ∃ e, Extern.find fn = some e ∧ extSem 1 fn e := by
  intro fn h
  obtain rfl := Option.some.inj (Tryz.func165.symm.trans h)
  exact ⟨by kernel_rfl, Extern.BytealgIndexByte.indexByte, by kernel_rfl, rfl⟩
theorem e153 : ∀ fn, Tryz.prog.funcs[153]? = some fn → Extern.findNext fn = none ∧ ∃ e, Extern.find fn = some e ∧ extSem 2 fn e := by
  intro fn h
  obtain rfl := Option.some.inj (Tryz.func153.symm.trans h)
  exact ⟨by kernel_rfl, Extern.BytealgMakeNoZero.makeNoZero Tryz.f153.params Tryz.f153.resultTypes, by kernel_rfl, Tryz.f153.params, rfl⟩
theorem e152 : ∀ fn, Tryz.prog.funcs[152]? = some fn → Extern.findNext fn = none ∧ ∃ e, Extern.find fn = some e ∧ extSem 3 fn e := by
  intro fn h
  obtain rfl := Option.some.inj (Tryz.func152.symm.trans h)
  exact ⟨by kernel_rfl, Extern.AbiNoEscape.same, by kernel_rfl, rfl⟩
theorem exts (f c : Nat) (h : (f, c) ∈ extT) (fn : Func) (hfn : Tryz.prog.funcs[f]? = some fn) : Extern.findNext fn = none ∧ ∃ e, Extern.find fn = some e ∧ extSem c fn e := by
  simp only [extT, List.mem_cons, List.not_mem_nil, or_false, Prod.mk.injEq] at h
  rcases h with ⟨rfl, rfl⟩ | ⟨rfl, rfl⟩ | ⟨rfl, rfl⟩
  · exact e165 fn hfn
  · exact e153 fn hfn
  · exact e152 fn hfn
theorem zeros : Tryz.prog.types.toList.all zeroOk = true := by kernel_rfl
theorem codes : Tryz.prog.funcs.toList.all (funcOk Tryz.prog.globals.size) = true := by kernel_rfl
theorem enLOK : EnvOK Tryz.prog EnL := EnvOK.of zeros codes (fun f p h => by cases h) exts
theorem globals8 : Tryz.prog.globals.size ≤ 11 := of_decide_eq_true (by kernel_rfl)
theorem gb11 (ng k : Nat) (h1 : ng ≤ 11) (h2 : gbase 11 ≤ k) : gbase ng ≤ k := by
  have e1 := gbase_eq ng
  have e2 := gbase_eq 11
  omega
end Go.Proofs.YtpljgnjdlciicaaGreatDoor
