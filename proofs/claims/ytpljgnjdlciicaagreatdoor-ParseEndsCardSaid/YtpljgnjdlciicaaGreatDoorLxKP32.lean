import Derived.Test.YtpljgnjdlciicaaGreatDoorLxKP31
namespace Go.Ev
open Go Go.RowKit
theorem ext_get : ∀ (ext : List (Nat × Nat)) (f c : Nat), (ext.foldr (fun x (t : Tr Nat) => t.set x.1 (some x.2)) .nil).get f = some c → (f, c) ∈ ext := by
  intro ext
  induction ext with
  | nil => intro f c h; simp [Tr.get_nil] at h
  | cons x l ih =>
    intro f c h
    rw [List.foldr_cons, Tr.get_set] at h
    split at h
    · rename_i hf
      simp only [Option.some.injEq] at h
      subst hf h
      exact List.mem_cons_self ..
    · exact List.mem_cons_of_mem _ (ih f c h)
def zeroOk (i : TypeInfo) : Bool := match i.zero with
  | some z => lit z && (Nat.beq (cellsL z).length i.size)
  | none => true
def funcOk (ng : Nat) (f : Func) : Bool := (match f.body with
  | some c => okCode ng c
  | none => true) && !(f.name == "runtime.NumGoroutine")
theorem EnvOK.of {P : Program} {ext : List (Nat × Nat)} {orc : Nat → Option (List Value → Prog)} {raw : Nat → Nat} {keep : Nat → Nat → Option (List Nat)} {kp nm : Bool} {shp : Nat → Nat → Option Nm} {bud : Nat} (hz : P.types.toList.all zeroOk = true) (hf : P.funcs.toList.all (funcOk P.globals.size) = true)
    (ho : ∀ f p, orc f = some p → OrcOK P f p) (hx : ∀ (f c : Nat), (f, c) ∈ ext → ∀ (fn : Func), P.funcs[f]? = some fn → Extern.findNext fn = none ∧ ∃ e, Extern.find fn = some e ∧ extSem c fn e) : EnvOK P (Env.of P ext orc raw keep kp nm shp bud) := by
  have gf : ∀ (f : Nat) (fn : Func), (Env.of P ext orc raw keep kp nm shp bud).fn.get f = some fn → P.funcs[f]? = some fn := by
    intro f fn h
    have h : (Tr.ofList 0 P.funcs.toList).get f = some fn := h
    rw [Tr.get_ofList] at h
    simpa using h
  have gt : ∀ (t : Nat) (i : TypeInfo), (Env.of P ext orc raw keep kp nm shp bud).ty.get t = some i → P.types[t]? = some i := by
    intro f fn h
    have h : (Tr.ofList 0 P.types.toList).get f = some fn := h
    rw [Tr.get_ofList] at h
    simpa using h
  have hmem : ∀ (f : Nat) (fn : Func), P.funcs[f]? = some fn → funcOk P.globals.size fn = true := fun f fn h => List.all_eq_true.1 hf fn (by
    have : P.funcs.toList[f]? = some fn := by simpa using h
    exact List.mem_of_getElem? this)
  have gi : ∀ (t : Nat) (i : TypeInfo), (Env.of P ext orc raw keep kp nm shp bud).ty.get t = some i → P.info? t = some i := by
    intro t i h
    have e := gt t i h
    have hlt : t < P.types.size := (Array.getElem?_eq_some_iff.1 e).1
    show Tables.info? _ t = some i
    unfold Tables.info?
    rw [if_pos hlt]
    exact e
  refine ⟨rfl, gf, gi, ?_, ?_, ?_, ho, ?_⟩
  · intro t i z h e
    have hm : zeroOk i = true := List.all_eq_true.1 hz i (by
      have : P.types.toList[t]? = some i := by simpa using gt t i h
      exact List.mem_of_getElem? this)
    unfold zeroOk at hm
    rw [e] at hm
    simp only [Bool.and_eq_true] at hm
    exact ⟨hm.1, Nat.eq_of_beq_eq_true hm.2⟩
  · intro f fn c h hb
    have := hmem f fn (gf f fn h)
    unfold funcOk at this
    rw [hb] at this
    simp only [Bool.and_eq_true] at this
    exact this.1
  · intro f fn h
    have := hmem f fn (gf f fn h)
    unfold funcOk at this
    simp only [Bool.and_eq_true, Bool.not_eq_true'] at this
    exact this.2
  · intro f fn c h hc
    exact hx f c (ext_get ext f c hc) fn (gf f fn h)
end Go.Ev
