/- Soundness, part 17: regions in their order. -/
import Derived.Test.YtcabdlonefichaaGreatDoorEvS16
namespace Go.Ev
open Go Go.RowKit
section
variable {P : Program} {E : Env} {B0 : Nat} {w0 : World}
theorem deferOf_ok {op : Op} {c : Call} (h : deferOf op = some c) : op = .defer c := by
  unfold deferOf at h
  split at h
  · simp only [Option.some.injEq] at h; rw [h]
  · cases h
theorem deferOf_none {op : Op} (h : deferOf op = none) : ∀ c, op ≠ .defer c := by
  rintro c rfl
  simp [deferOf] at h
theorem FR.put {ρ : Map} {fn : Nat} {tm : Tm} {df : List Deferred} {rd : Option Nat} {b : Frame} {a : Act} {cs : List Frame} (h : FR P ρ fn tm df rd b a cs) (d : Option Nat) {v v' : Value} (hv : VR ρ v v') :
    FR P ρ fn (putT tm d v) df rd b (a.put d v') cs :=
  ⟨h.hfn, h.htm.put d hv, by cases d <;> exact h.hdf, h.hrd, h.hkind, h.hdk⟩
theorem opsA_ok (ok : EnvOK P E) {n : Nat} (hm : Main P E B0 w0 n) {ops : Array Oper} (hops : ops.toList.all (okOper P.globals.size) = true) {fn : Nat} {rd : Option Nat} {K : Tm → List Deferred → Prog} : ∀ (l : List Oper) (i : Nat), ops.toList.drop i = l →
    ∀ (tm : Tm) (df : List Deferred) (s s' : St) (v : Value), (opsA E (runP E n) rd ops.toList l tm df K).run s = some (v, s') → ∀ (ρ : Map) (w : World) (b : Frame) (a : Act) (cs : List Frame) (kk : List Item),
    FR P ρ fn tm df rd b a cs → WR P ρ B0 w0 s.mem w → Fr ρ s.mem s.ctr s'.ctr → GlOK P ρ →
    ∃ tm1 df1 s1 ρ1 w1 a1, (K tm1 df1).run s1 = some (v, s') ∧ Gr ρ ρ1 s.ctr s1.ctr ∧ s.ctr ≤ s1.ctr ∧ FR P ρ1 fn tm1 df1 rd b a1 cs ∧ WR P ρ1 B0 w0 s1.mem w1 ∧
      Steps P (lone (b.atR a (.inRegion ops (List.range' i l.length) :: kk)) cs w) (lone (b.atR a1 (.inRegion ops [] :: kk)) cs w1) := by
  intro l
  induction l with
  | nil =>
    intro i _ tm df s s' v h ρ w b a cs kk fr r fresh gl
    exact ⟨tm, df, s, ρ, w, a, h, Gr.refl _ _ _, Nat.le_refl _, fr, r, Steps.refl _ _⟩
  | cons o rest ih =>
    intro i hd tm df s s' v h ρ w b a cs kk fr r fresh gl
    have hi : ops[i]? = some o := by
      have : (ops.toList.drop i)[0]? = some o := by rw [hd]; rfl
      simpa using this
    have hd1 : ops.toList.drop (i + 1) = rest := by
      have : (ops.toList.drop i).drop 1 = rest := by rw [hd]; rfl
      simpa [Nat.add_comm] using this
    have hoo : okOper P.globals.size o = true := List.all_eq_true.1 hops o (by
      have : ops.toList[i]? = some o := by simpa using hi
      exact List.mem_of_getElem? this)
    rw [List.length_cons, List.range'_succ]
    simp only [opsA] at h
    have hw := wanted_ok (ops := ops) fr.htm o
    split at h
    · rename_i hwf
      have hs := stepR_op_skip (P := P) (b := b) (a := a) (k := kk) (cs := cs) (w := w) (ops := ops) (i := i) (rest := List.range' (i + 1) rest.length) (by simp [hi, hw, hwf])
      simp only [hi, Option.bind_some] at hs
      obtain ⟨tm1, df1, s1, ρ1, w1, a1, q1, q2, q3, q4, q5, q6⟩ := ih (i + 1) hd1 _ df s s' v h ρ w b (a.put o.dst undef) cs kk (fr.put o.dst (U_VR ρ)) r fresh gl
      exact ⟨tm1, df1, s1, ρ1, w1, a1, q1, q2, q3, q4, q5, .head hs q6⟩
    · rename_i hwt
      have hst := stepGR_op (P := P) (b := b) (a := a) (k := kk) (cs := cs) (w := w) (rest := List.range' (i + 1) rest.length) hi (by rw [hw, hwt])
      split at h
      · rename_i c hdc
        have hop := deferOf_ok hdc
        obtain ⟨d, hda, h1⟩ := opt_run h
        unfold deferA at hda
        split at hda
        · rename_i f hcal
          split at hda
          · rename_i fv first captured hev
            simp only [Option.some.injEq] at hda
            subst hda
            have hro := fr.hrd.none_inv
            have hρ : ∀ x ∈ c.operands.toList, VR ρ (evO tm x) (a.eval x) := fun x hx => evO_ok fr.htm gl (List.all_eq_true.1 hoo x (by rw [hop]; exact hx))
            have hfv := hρ f (by simp [Call.operands, hcal])
            rw [hev] at hfv
            generalize hav : a.eval f = fu at hfv
            obtain ⟨fl⟩ := first
            obtain ⟨cl⟩ := captured
            cases hfv with
            | @fn _ fv' _ first' _ captured' h2 h3 h4 =>
            have hargs : VRs ρ (c.args.toList.map (evO tm)) (c.args.toList.map a.eval) := VRs.map _ _ _ (fun x hx => hρ x (by simp only [Call.operands, Array.toList_append, List.mem_append]; exact .inr hx))
            let d' : Deferred := ⟨.fn fv' ⟨captured'⟩, ⟨first'⟩ ++ c.args.map a.eval⟩
            have hdr : DR ρ ⟨.fn fv ⟨cl⟩, ⟨fl⟩ ++ c.args.map (evO tm)⟩ d' := by
              have e1 : (⟨fl⟩ ++ c.args.map (evO tm) : Array Value) = ⟨fl ++ c.args.toList.map (evO tm)⟩ := by apply Array.ext'; simp
              have e2 : (⟨first'⟩ ++ c.args.map a.eval : Array Value) = ⟨first' ++ c.args.toList.map a.eval⟩ := by apply Array.ext'; simp
              simp only [d', e1, e2]
              exact .fn h2 h4 (h3.append hargs)
            have hrun : (execOp a.eval o).run P w = .ok (.defer d') w := by
              simp only [execOp, hop, resolve, hcal, hav, Deferred.ofValue, Sem.run_bind, Sem.run_pure, Result.andThen_ok]
              rfl
            rw [hro, Oper.semAt_none] at hst
            have hs : step P (lone (b.atR a (.inRegion ops (i :: List.range' (i + 1) rest.length) :: kk)) cs w) =
                .next (lone (b.atR ({ a with defers := d' :: a.defers }.put o.dst undef) (.inRegion ops (List.range' (i + 1) rest.length) :: kk)) cs w) := by
              refine step_lone_go ?_
              rw [hst]
              have := Frame.finish_atR b { a with defers := d' :: a.defers } ops i (List.range' (i + 1) rest.length) kk undef
              rw [hi] at this
              simp only [stepG.apply, Sem.runT_eq, hrun, GStep.bare_after]
              exact congrArg (fun fr => GStep.go { frame := fr, callers := cs, status := .running, dying := none } w) this
            have fr1 : FR P ρ fn tm (⟨.fn fv ⟨cl⟩, ⟨fl⟩ ++ c.args.map (evO tm)⟩ :: df) none b { a with defers := d' :: a.defers } cs := ⟨fr.hfn, fr.htm, .cons hdr fr.hdf, fr.hrd, fr.hkind, fr.hdk⟩
            obtain ⟨tm1, df1, s1, ρ1, w1, a1, q1, q2, q3, q4, q5, q6⟩ := ih (i + 1) hd1 _ _ s s' v h1 ρ w b _ cs kk (fr1.put o.dst (U_VR ρ)) r fresh gl
            exact ⟨tm1, df1, s1, ρ1, w1, a1, q1, q2, q3, q4, q5, .head hs q6⟩
          · cases hda
        · cases hda
      · rename_i hdn
        obtain ⟨u, s1, h1, h2⟩ := call_run h
        rw [o.semAt_eq b.roundOf a.eval (deferOf_none hdn)] at hst
        have hle := Prog.ctr_le h2
        have hle1 := Prog.ctr_le h1
        obtain ⟨ρ1, w1, u', g1, g2, g3, g4, g5⟩ := opA_goes ok hm h1 r (fresh.before hle) gl fr.htm hoo (b.atR a (.inRegion ops (i :: List.range' (i + 1) rest.length) :: kk)) cs _ (.inl ⟨_, _, _, rfl⟩) (at_lone hst)
        rw [Frame.finish_atR] at g5
        simp only [hi, Option.bind_some] at g5
        obtain ⟨tm1, df1, s2, ρ2, w2, a1, q1, q2, q3, q4, q5, q6⟩ := ih (i + 1) hd1 _ df s1 s' v h2 ρ1 w1 b (a.put o.dst u') cs kk ((fr.ext g1.1).put o.dst g3) g4 (fresh.after g1 hle1) (gl.ext g1.1)
        exact ⟨tm1, df1, s2, ρ2, w2, a1, q1, g1.trans q2 hle1 q3, Nat.le_trans hle1 q3, q4, q5, g5.trans q6⟩
end
end Go.Ev
