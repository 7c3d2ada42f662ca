/- WalNil: what the evaluator takes for granted of the program, checked once by the kernel. -/
import Derived.Test.YtcabdlonefichaaGreatDoorEvS26
import Derived.Test.YtcabdlonefichaaGreatDoorWalK
namespace Go.Proofs.YtcabdlonefichaaGreatDoor
open Go Go.Ev Go.Proofs
theorem mixed : Tryz.prog.follows .mixedOrders = true := by kernel_rfl
theorem e128 : ∀ fn, Tryz.prog.funcs[128]? = some fn → Extern.findNext fn = none ∧ ∃ e, Extern.find fn = some e ∧ extSem 2 fn e := by
  intro fn h
  obtain rfl := Option.some.inj (Tryz.func128.symm.trans h)
  exact ⟨by kernel_rfl, Extern.BytealgMakeNoZero.makeNoZero Tryz.f128.params Tryz.f128.resultTypes, by kernel_rfl, Tryz.f128.params, rfl⟩
theorem e145 : ∀ fn, Tryz.prog.funcs[145]? = some fn → Extern.findNext fn = none ∧ ∃ e, Extern.find fn = some e ∧ extSem 1 fn e := by
  intro fn h
  obtain rfl := Option.some.inj (Tryz.func145.symm.trans h)
  exact ⟨by kernel_rfl, Extern.BytealgIndexByte.indexByte, by kernel_rfl, rfl⟩
theorem e127 : ∀ fn, Tryz.prog.funcs[127]? = some fn → Extern.findNext fn = none ∧ ∃ e, Extern.find fn = some e ∧ extSem 3 fn e := by
  intro fn h
  obtain rfl := Option.some.inj (Tryz.func127.symm.trans h)
  exact ⟨by kernel_rfl, Extern.AbiNoEscape.same, by kernel_rfl, rfl⟩
theorem e62 : ∀ fn, Tryz.prog.funcs[62]? = some fn → Extern.findNext fn = none ∧ ∃ e, Extern.find fn = some e ∧ extSem 4 fn e := by
  intro fn h
  obtain rfl := Option.some.inj (Tryz.func62.symm.trans h)
  exact ⟨by kernel_rfl, Extern.MapsClone.clone, by kernel_rfl, rfl⟩
theorem walOK : EnvOK Tryz.prog walEnv := EnvOK.of (by kernel_rfl) (by kernel_rfl) (by
  intro f c h fn hfn
  simp only [walExt, List.mem_cons, List.not_mem_nil, or_false, Prod.mk.injEq] at h
  rcases h with ⟨rfl, rfl⟩ | ⟨rfl, rfl⟩ | ⟨rfl, rfl⟩ | ⟨rfl, rfl⟩
  · exact e128 fn hfn
  · exact e145 fn hfn
  · exact e127 fn hfn
  · exact e62 fn hfn)
end Go.Proofs.YtcabdlonefichaaGreatDoor
