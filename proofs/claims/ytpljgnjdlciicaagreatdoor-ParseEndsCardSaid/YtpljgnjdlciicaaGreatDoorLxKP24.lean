import Derived.Test.YtpljgnjdlciicaaGreatDoorLxKP23
namespace Go.Ev
open Go Go.RowKit
section
variable {P : Program} {E : Env} {B0 : Nat} {w0 : World}
theorem DsR.append {ρ : Map} {a a' b b' : List Deferred} (h : DsR ρ a a') (k : DsR ρ b b') : DsR ρ (a ++ b) (a' ++ b') := by
  induction h with
  | nil => exact k
  | cons x _ ih => exact .cons x ih
theorem dfOf_ok {o : Slot} {ds : List Deferred} (h : dfOf o = some ds) : o = .dfr (some ds) := by
  unfold dfOf at h
  split at h
  · simp only [Option.some.injEq] at h; rw [h]
  · cases h
theorem leaveA_ok (ok : EnvOK P E) {io : Rec} (hm : Main P B0 w0 io) {fn : Nat} {tm : Tm} : ∀ (k : Nat) (df : List Deferred) (s s' : St) (v : Value), (leaveA E io fn tm k df).run s = some (v, s') →
    ∀ (ρ : Map) (w : World) (fr : Frame) (cs : List Frame), fr.fn = fn → fr.mode = .returning → TR ρ tm fr.tmps → DsR ρ df fr.defers → WR P ρ B0 w0 s.mem w → Fr ρ s.mem s.ctr s'.ctr → GlOK P ρ →
    ∃ ρ' w' v' fr', Gr ρ ρ' s.ctr s'.ctr ∧ VR ρ' v v' ∧ WR P ρ' B0 w0 s'.mem w' ∧ Steps P (lone fr cs w) (lone fr' cs w') ∧ fr'.fn = fn ∧ fr'.kind = fr.kind ∧ fr'.mode = .returning ∧ fr'.defers = [] ∧
      ∃ f, P.funcs[fn]? = some f ∧ (results f fr'.tmps).run P w' = .ok v' w' := by
  intro k
  induction k with
  | zero => intro df s s' v h; exact (fail_run h).elim
  | succ k ih =>
    intro df s s' v h ρ w fr cs hfn hmode ht hdf r fresh gl
    cases df with
    | nil =>
      simp only [leaveA] at h
      obtain ⟨f, hf, h1⟩ := opt_run h
      obtain ⟨vs, vs', s1, q1, q2, q3, q4, q5⟩ := resultsA_ok ok ht f.results.toList _ s s' v h1 r
      obtain ⟨u, e1, e2⟩ := results_ok q5
      have hd : fr.defers = [] := by
        generalize fr.defers = dd at hdf
        cases hdf; rfl
      split at q1
      · obtain ⟨rfl, rfl⟩ := ret_run q1
        exact ⟨ρ, w, u, fr, Gr.refl _ _ _, e2 q4, q2 ▸ r, Steps.refl _ _, hfn, rfl, hmode, hd, f, ok.fn fn f hf, e1⟩
      · obtain ⟨ρ1, vs1, s2, b1, b2, b3, b4, b5⟩ := frzAs_ok (P := P) (B0 := B0) (w0 := w0) _ _ ρ vs vs' _ s1 w _ q1 q4 (q2 ▸ r)
        obtain ⟨rfl, rfl⟩ := ret_run b1
        exact ⟨ρ1, w, u, fr, b4.gr _ _, e2 b2, b3, Steps.refl _ _, hfn, rfl, hmode, hd, f, ok.fn fn f hf, e1⟩
    | cons d ds =>
      generalize hdd : fr.defers = dd at hdf
      cases hdf with
      | @cons _ d' _ ds2 hd hds =>
      obtain ⟨tgt, as_⟩ := d
      cases hd with
      | @fn f f' c c' a a' hf hc ha =>
        simp only [leaveA] at h
        cases hf with
        | func f =>
          obtain ⟨hg, h1⟩ := gd_run h
          obtain ⟨u, s1, h2, h3⟩ := call_run h1
          have hle := Prog.ctr_le h3
          have hle1 := Prog.ctr_le h2
          unfold callF at h2
          obtain ⟨fd, hfd, h4⟩ := opt_run h2
          have hsome : (∃ c, fd.body = some c) ∧ E.orc f = none := by
            unfold isGoF at hg
            rw [hfd] at hg
            simp only [Bool.and_eq_true, Option.isNone_iff_eq_none] at hg
            exact ⟨Option.isSome_iff_exists.1 hg.1, hg.2⟩
          obtain ⟨⟨body, hb⟩, horc⟩ := hsome
          rw [hb] at h4
          dsimp only at h4
          rw [horc] at h4
          dsimp only at h4
          obtain ⟨_, h6⟩ := ck_run h4
          have hargs : VRs ρ (a ++ c) (a' ++ c') := ha.append hc
          obtain ⟨ρ0, args1, s0, h7, ha1, r1, gl1, hc1⟩ := frzAs_ok (P := P) (B0 := B0) (w0 := w0) _ _ ρ (a ++ c) (a' ++ c') _ s w _ h6 hargs r
          obtain ⟨hlen, h5⟩ := ck_run h7
          have hlen := Nat.le_of_ble_eq_true hlen
          have fr1 : Fr ρ0 s0.mem s0.ctr s1.ctr := by rw [hc1]; exact gl1.fr (fresh.before hle)
          have hPf := ok.fn f fd hfd
          have hinv : (invoke (.fn (.func f) ⟨c'⟩) ⟨a'⟩).run P w = .ok (.enter f ⟨a' ++ c'⟩) w := by
            have e : (⟨a'⟩ ++ ⟨c'⟩ : Array Value) = ⟨a' ++ c'⟩ := by apply Array.ext'; simp
            simp only [invoke, e]
            unfold callFunc
            simp only [Sem.run_bind, show (program).run P w = .ok P w from rfl, Result.andThen_ok, hPf, ok.names f fd hfd, Bool.false_eq_true, if_false, hb, Option.isNone_some]
            rfl
          have hs := step_defer (P := P) (cs := cs) (w := w) (d := ⟨.fn (.func f) ⟨c'⟩, ⟨a'⟩⟩) (ds := ds2) (by rw [hmode]; simp) hdd rfl hinv
          let b : Frame := { (default : Frame) with fn := f, kind := .deferred }
          let act : Act := { tmps := (⟨a' ++ c'⟩ : Array Value) ++ Array.replicate (fd.ntmps - (⟨a' ++ c'⟩ : Array Value).size) undef, defers := [] }
          have henter : Frame.enter P f ⟨a' ++ c'⟩ .deferred = b.atR act [.code body] := by
            simp [Frame.enter, Frame.atR, hPf, hb, b, act]
            rfl
          obtain ⟨ρ1, w1, v1, g1, g2, g3, g4⟩ := hm f (frameTm fd.ntmps args1) [.code body] [] none s0 u s1 h5 (by simp [okItem, ok.code f fd body hfd hb]) ρ0 w b act ({ fr with defers := ds2 } :: cs)
            ⟨rfl, TR.enter ha1 hlen, .nil, trivial, fun q => absurd rfl q, by simp [b]⟩ r1 fr1 (gl.ext gl1.1)
          have g1 : Gr ρ ρ1 s.ctr s1.ctr := by
            rw [hc1] at g1
            exact (gl1.gr s.ctr s.ctr).trans g1 (Nat.le_refl _) hle1
          obtain ⟨frx, e1, e2, e3, e4, e5, fn', e6, e7⟩ := (show ∃ fr', Steps P (lone (b.atR act [.code body]) ({ fr with defers := ds2 } :: cs) w) (lone fr' ({ fr with defers := ds2 } :: cs) w1) ∧ fr'.fn = b.fn ∧ fr'.kind = b.kind ∧ fr'.mode = .returning ∧ fr'.defers = [] ∧
            ∃ f, P.funcs[b.fn]? = some f ∧ (results f fr'.tmps).run P w1 = .ok v1 w1 from g4)
          have hback := step_going_returned (P := P) (fr := frx) (c := { fr with defers := ds2 }) (cs := cs) (w := w1) (v := v1) e3 ⟨e4, e5, fn', by rw [e2]; exact e6, e7⟩
          obtain ⟨ρ', w', v', fr', q1, q2, q3, q4, q5, q6, q7, q8, q9⟩ := ih ds s1 s' v h3 ρ1 w1 { fr with defers := ds2, mode := settle fr.mode } cs hfn (by simp only [hmode]; rfl) (ht.ext g1.1) (hds.ext g1.1) g3 (fresh.after g1 hle1) (gl.ext g1.1)
          refine ⟨ρ', w', v', fr', g1.trans q1 hle1 hle, q2, q3, .head hs ?_, q5, q6, q7, q8, q9⟩
          rw [henter]
          exact e1.trans (.head hback q4)
        | method m => exact (fail_run h).elim
        | yield _ => exact (fail_run h).elim
      | @col rr x hx =>
        simp only [leaveA] at h
        obtain ⟨o, ho, n1, n2, h1⟩ := obj_run h
        obtain ⟨ds', hds', h2⟩ := opt_run h1
        obtain ⟨o0, ho0, m1, m2, h3⟩ := setObj_run h2
        obtain rfl := dfOf_ok hds'
        obtain ⟨ob, g1, g2, g3, g0⟩ := r.obj ho n1 n2 hx
        cases g2 with
        | @dfr _ dsc hdsc =>
        obtain ⟨e1, e2⟩ := r.setObj (k := rr) (o' := .dfr none) (ob' := .deferred none) ho0 m1 m2 hx rfl .dfrN
        have hs := step_collected (cs := cs) hmode hdd (run_takeDeferred (P := P) g3)
        obtain ⟨ρ', w', v', fr', q1, q2, q3, q4, q5, q6, q7, q8, q9⟩ := ih _ _ s' v h3 ρ _ { fr with defers := dsc ++ ds2 } cs hfn hmode ht (hdsc.append hds) e2 ⟨fresh.map⟩ gl
        exact ⟨ρ', w', v', fr', q1, q2, q3, .head hs q4, q5, q6, q7, q8, q9⟩
end
end Go.Ev
