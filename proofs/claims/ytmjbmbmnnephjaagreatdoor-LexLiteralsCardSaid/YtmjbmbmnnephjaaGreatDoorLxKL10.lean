/- What the evaluator takes for granted of the program: its oracles answer as the program's functions do. -/
import Derived.Test.YtmjbmbmnnephjaaGreatDoorLxKL9
namespace Go.Proofs.YtmjbmbmnnephjaaGreatDoor
open Go Go.Ev Go.Proofs Go.RowKit
theorem orcF_mem {f : Nat} {p : List Value → Prog} (h : orcF f = some p) : (f, p) ∈ orcT := by
  have key : ∀ (l : List (Nat × (List Value → Prog))), (l.foldr (fun (x : Nat × (List Value → Prog)) t => t.set x.1 (some x.2)) Tr.nil).get f = some p → (f, p) ∈ l := by
    intro l
    induction l with
    | nil => intro h; cases h
    | cons a l ih =>
      intro h
      obtain ⟨g, q⟩ := a
      rw [List.foldr_cons, Tr.get_set] at h
      split at h
      · rename_i e
        simp only [Option.some.injEq] at h
        subst h e
        exact List.mem_cons_self ..
      · exact List.mem_cons_of_mem _ (ih h)
  exact key orcT h
theorem enOK : EnvOK Tryz.prog En := EnvOK.of zeros codes (fun f p h => by
  have h := orcF_mem h
  simp only [orcT, List.mem_cons, List.not_mem_nil, or_false, Prod.mk.injEq] at h
  obtain ⟨rfl, rfl⟩ := h
  exact orc10) exts
end Go.Proofs.YtmjbmbmnnephjaaGreatDoor
