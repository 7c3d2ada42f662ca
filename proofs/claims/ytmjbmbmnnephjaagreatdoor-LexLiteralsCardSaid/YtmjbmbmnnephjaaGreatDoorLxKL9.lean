/- What the evaluator takes for granted of the program, checked once by the kernel; the lexer's live(), evaluated. -/
import Derived.Test.YtmjbmbmnnephjaaGreatDoorEvS26
import Derived.Test.YtmjbmbmnnephjaaGreatDoorLxKL1
import Derived.Test.YtmjbmbmnnephjaaGreatDoorLxKL2
import Derived.Test.YtmjbmbmnnephjaaGreatDoorLxKL8
import Derived.KernelRfl
namespace Go.Ev
open Go Go.RowKit
/-- The relation depends on the old blocks alone. -/
theorem MR.below {P : Program} {ρ : Map} {B0 : Nat} {m : Tr Slot} {w w' : World} (r : MR P ρ B0 m w) (h : Below w.heap.size w w') : MR P ρ B0 m w' := by
  have hb : ∀ (k : Nat) (o : Obj), w.heap[k]? = some o → w'.heap[k]? = some o := fun k o e => by
    have hk : k < w.heap.size := (Array.getElem?_eq_some_iff.1 e).1
    rw [h.block k hk, e]
  constructor
  · intro b hd e
    obtain ⟨x, c, lo, hi, e1, y⟩ := r.row b hd e
    exact ⟨x, c, lo, hi, e1, { y with heap := hb _ _ y.heap }⟩
  · intro b hd o v e e'
    obtain ⟨a, x, v', e1, y, z⟩ := r.cell b hd o v e e'
    refine ⟨a, x, v', e1, ?_, z⟩
    have hx := r.rng b x e1
    rw [← y]
    simp only [World.cell?, h.block _ hx]
  · exact r.sep
  · exact r.old
  · intro k o e i
    obtain ⟨x, ob, e1, e0, y, z, u⟩ := r.obj k o e i
    exact ⟨x, ob, e1, e0, y, hb _ _ z, u⟩
  · exact r.osep
  · exact r.dom
  · exact r.odom
  · intro b x e
    exact Nat.lt_of_lt_of_le (r.rng b x e) h.size
  · intro B x e
    obtain ⟨h1, ⟨c, el, fr, h2, h2'⟩, h3⟩ := r.frz B x e
    exact ⟨h1, ⟨c, el, fr, hb _ _ h2, h2'⟩, h3⟩
theorem GlOK.size {P : Program} {ρ : Map} {B0 : Nat} {m : Tr Slot} {w : World} (gl : GlOK P ρ) (r : MR P ρ B0 m w) : P.globals.size ≤ w.heap.size := by
  cases hn : P.globals.size with
  | zero => exact Nat.zero_le _
  | succ n =>
    obtain ⟨x, e1, e2, _⟩ := gl n (by omega)
    have := r.rng _ x e1
    omega
end Go.Ev
namespace Go.Proofs.YtmjbmbmnnephjaaGreatDoor
open Go Go.Ev Go.Proofs Go.RowKit
theorem mixed : Tryz.prog.follows .mixedOrders = true := by kernel_rfl
theorem e180 : ∀ fn, Tryz.prog.funcs[180]? = some fn → Extern.findNext fn = none ∧ ∃ e, Extern.find fn = some e ∧ extSem 1 fn e := by
  intro fn h
  obtain rfl := Option.some.inj (Tryz.func180.symm.trans h)
  exact ⟨by kernel_rfl, Extern.BytealgIndexByte.indexByte, by kernel_rfl, rfl⟩
theorem e183 : ∀ fn, Tryz.prog.funcs[183]? = some fn → Extern.findNext fn = none ∧ ∃ e, Extern.find fn = some e ∧ extSem 2 fn e := by
  intro fn h
  obtain rfl := Option.some.inj (Tryz.func183.symm.trans h)
  exact ⟨by kernel_rfl, Extern.BytealgMakeNoZero.makeNoZero Tryz.f183.params Tryz.f183.resultTypes, by kernel_rfl, Tryz.f183.params, rfl⟩
theorem e182 : ∀ fn, Tryz.prog.funcs[182]? = some fn → Extern.findNext fn = none ∧ ∃ e, Extern.find fn = some e ∧ extSem 3 fn e := by
  intro fn h
  obtain rfl := Option.some.inj (Tryz.func182.symm.trans h)
  exact ⟨by kernel_rfl, Extern.AbiNoEscape.same, by kernel_rfl, rfl⟩
theorem exts (f c : Nat) (h : (f, c) ∈ extT) (fn : Func) (hfn : Tryz.prog.funcs[f]? = some fn) : Extern.findNext fn = none ∧ ∃ e, Extern.find fn = some e ∧ extSem c fn e := by
  simp only [extT, List.mem_cons, List.not_mem_nil, or_false, Prod.mk.injEq] at h
  rcases h with ⟨rfl, rfl⟩ | ⟨rfl, rfl⟩ | ⟨rfl, rfl⟩
  · exact e180 fn hfn
  · exact e183 fn hfn
  · exact e182 fn hfn
theorem zeros : Tryz.prog.types.toList.all zeroOk = true := by kernel_rfl
theorem codes : Tryz.prog.funcs.toList.all (funcOk Tryz.prog.globals.size) = true := by kernel_rfl
theorem enLOK : EnvOK Tryz.prog EnL := EnvOK.of zeros codes (fun f p h => by cases h) exts
theorem globals8 : Tryz.prog.globals.size ≤ 100 := of_decide_eq_true (by kernel_rfl)
theorem has10 : ∃ fn c, EnL.fn.get 10 = some fn ∧ fn.body = some c := by
  have h : (match EnL.fn.get 10 with | some fn => fn.body.isSome | none => false) = true := by kernel_rfl
  split at h
  · rename_i fn hfn
    obtain ⟨c, hc⟩ := Option.isSome_iff_exists.1 h
    exact ⟨fn, c, hfn, hc⟩
  · cases h
theorem gb300 (ng k : Nat) (h1 : ng ≤ 100) (h2 : gbase 300 ≤ k) : gbase ng ≤ k := by
  have e1 := gbase_eq ng
  have e2 := gbase_eq 300
  omega
theorem orc10 : OrcOK Tryz.prog 10 liveP := by
  intro B0 w0 w ρ s s' v args args' h r fr gl ha
  cases ha with
  | cons a b => exact (fail_run h).elim
  | nil =>
    obtain ⟨rfl, rfl⟩ := ret_run h
    have hgs := gl.size r.mr
    refine Calls.mono (ev_true (n := 1000) (args := []) (s := liveSt) (ρ := mapI Tryz.prog.globals.size (fun _ => 0) (fun _ => 0) (fun _ => none) (fun _ => none)) enLOK mixed live_run has10 (by kernel_rfl) (MR.tables (l := []) (fun _ h => by cases h) (fun _ h => by cases h) hgs (fun _ _ h => by cases h) (fun _ _ h => by cases h))
      (fun k hk => ?_) mapI_gl .nil) ?_
    · exact mapI_high (gb300 _ k globals8 hk)
    · rintro e w' ⟨rfl, hb⟩
      have hB : B0 ≤ w.heap.size := Nat.le_trans r.hB r.bel.size
      exact ⟨ρ, .bool true, rfl, Gr.refl _ _ _, .bool true, r.mr.below hb, r.bel.trans (hb.mono hB), r.hB⟩
end Go.Proofs.YtmjbmbmnnephjaaGreatDoor
