import Derived.Test.YtpljgnjdlciicaaGreatDoorLxKP24
import Derived.RangeFuncIn
namespace Go.Ev
open Go Go.RowKit
section
variable {P : Program} {E : Env} {B0 : Nat} {w0 : World}
theorem beginRound_ok {ρ : Map} {w : World} {l : Nat} {s s' : St} {v : Value} {k : Prog} (h : (Prog.obj l fun o => opt (lpOf o) fun p => gd (isReady p.st) (.setObj l (.lp { p with st := .busy }) k)).run s = some (v, s')) (r : WR P ρ B0 w0 s.mem w) {x : Blk} (hx : ρ l = some x) :
    ∃ s1 w', k.run s1 = some (v, s') ∧ s1.ctr = s.ctr ∧ WR P ρ B0 w0 s1.mem w' ∧ (Instr.beginRound x.B).run P w = .ok () w' := by
  obtain ⟨o, ho, n1, n2, h1⟩ := obj_run h
  obtain ⟨p, hp, h2⟩ := opt_run h1
  obtain ⟨hr, h3⟩ := gd_run h2
  obtain ⟨o0, ho0, m1, m2, h4⟩ := setObj_run h3
  obtain rfl := lpOf_ok hp
  obtain ⟨ob, g1, g2, g3, g0⟩ := r.obj ho n1 n2 hx
  cases g2 with
  | @lp _ a y htm hd ha hb hpd =>
  have hready : p.st = .ready := by
    cases hst : p.st <;> rw [hst] at hr <;> first | rfl | cases hr
  obtain ⟨e1, e2⟩ := r.setObj (k := l) (o' := .lp { p with st := .busy }) ho0 m1 m2 hx rfl (ObR.lp (p := { p with st := .busy }) htm hd ha hb hpd)
  refine ⟨_, _, h4, rfl, e2, ?_⟩
  exact run_beginRound (P := P) g3 (by simp [hready, lst])
theorem isBusy_ok {p : Lp} (h : (!isBusy p.st) = true) : lst p.st ≠ .busy := by
  cases hst : p.st <;> rw [hst] at h <;> first | (cases h; done) | (intro e; cases e)
theorem rangeFuncA_ok (ok : EnvOK P E) {io ih : Rec} (hm : Main P B0 w0 io) {ρ : Map} {w : World} {fn : Nat} {tm : Tm} {f : Operand} {ps : Array Tmp} {assign body : Code} {k : List Item} {df : List Deferred} {b : Frame} {a : Act} {cs : List Frame} {s s' : St} {v : Value}
    (h : (rangeFuncA E io ih fn tm f ps.toList assign body k df).run s = some (v, s')) (fr : FR P ρ fn tm df none b a cs) (r : WR P ρ B0 w0 s.mem w) (fresh : Fr ρ s.mem s.ctr s'.ctr) (gl : GlOK P ρ)
    (hf : okO P.globals.size f = true) (ha : okCode P.globals.size assign = true) (hb : okCode P.globals.size body = true) (hk : k.all (okItem P.globals.size) = true) :
    ∃ todo' df' s1 ρ1 w1 a1, (ih fn tm todo' df' none).run s1 = some (v, s') ∧ todo'.all (okItem P.globals.size) = true ∧ FR P ρ1 fn tm df' none b a1 cs ∧ WR P ρ1 B0 w0 s1.mem w1 ∧ Gr ρ ρ1 s.ctr s1.ctr ∧ s.ctr ≤ s1.ctr ∧
      Steps P (lone (b.atR a (.code (.rangeFunc f ps assign body) :: k)) cs w) (lone (b.atR a1 todo') cs w1) := by
  unfold rangeFuncA at h
  have hro := fr.hrd.none_inv
  split at h
  · rename_i g first captured hev
    obtain ⟨hlv, h⟩ := ck_run h
    have hfv := evO_ok fr.htm gl hf hlv
    rw [hev] at hfv
    generalize hav : a.eval f = fu at hfv
    obtain ⟨fl⟩ := first
    obtain ⟨cl⟩ := captured
    cases hfv with
    | @fn _ g' _ first' _ captured' hg hfi hca =>
    have h1 := newObj_run h
    have h2 := newObj_run h1
    obtain ⟨u, s3, h3, h4⟩ := call_run h2
    obtain ⟨o, ho, n1, n2, h5⟩ := obj_run h4
    obtain ⟨p, hp, h6⟩ := opt_run h5
    obtain ⟨hbz, h7⟩ := gd_run h6
    obtain ⟨o0, ho0, m1, m2, h8⟩ := setObj_run h7
    obtain rfl := lpOf_ok hp
    have hle3 := Prog.ctr_le h3
    have hle8 := Prog.ctr_le h8
    simp only at hle3 hle8
    have fresh1 : Fr ρ s.mem s.ctr (s.ctr + 1) := fresh.before (by omega)
    obtain ⟨ρ1, g1, k1, r1⟩ := r.newObj (k := s.ctr) (o := .dfr (some [])) (ob := .deferred (some [])) fresh1 rfl (.dfr .nil)
    have fresh2 : Fr ρ1 (s.mem.set s.ctr (some (.dfr (some [])))) (s.ctr + 1) s'.ctr := fresh.after g1 (Nat.le_succ _)
    obtain ⟨ρ2, g2, k2, r2⟩ := r1.newObj (k := s.ctr + 1) (o := .lp ⟨.ready, none, fn, tm.nt, tm.lv, tm.t, ps.toList, assign, body, s.ctr⟩)
      (ob := .loop { state := .ready, pending := none, fn := fn, tmps := a.tmps, params := ps, assign, body, defers := w.heap.size }) (fresh2.before (by omega)) rfl
      (ObR.lp (p := ⟨.ready, none, fn, tm.nt, tm.lv, tm.t, ps.toList, assign, body, s.ctr⟩) (fr.htm.ext g1.1) k1 ha hb (fun c e => by cases e))
    have fresh3 : Fr ρ2 ((s.mem.set s.ctr (some (.dfr (some [])))).set (s.ctr + 1) (some (.lp ⟨.ready, none, fn, tm.nt, tm.lv, tm.t, ps.toList, assign, body, s.ctr⟩))) (s.ctr + 1 + 1) s'.ctr := fresh2.after g2 (Nat.le_succ _)
    have gl2 := (gl.ext g1.1).ext g2.1
    let L := (w.alloc (.deferred (some []))).heap.size
    let w2 := (w.alloc (.deferred (some []))).alloc (.loop { state := .ready, pending := none, fn := fn, tmps := a.tmps, params := ps, assign, body, defers := w.heap.size })
    let a2 : Act := { a with defers := ⟨.collected w.heap.size, #[]⟩ :: a.defers }
    let q : Sem Next := do let d ← resolve (b.atR a2 (.inRangeFunc L :: k)).eval (rangeCall f L) 0; invoke d.target d.args
    have hq : q.run P w2 = (invoke (.fn g' ⟨captured'⟩) ⟨first' ++ [.func (.yield L) #[] #[]]⟩).run P w2 := by
      have e0 : (b.atR a2 (.inRangeFunc L :: k)).eval f = .func g' ⟨first'⟩ ⟨captured'⟩ := by
        rw [Frame.eval_atR]; exact hav
      have e1 : (⟨first'⟩ ++ (#[.const (.func (.yield L) #[] #[])] : Array Operand).map (b.atR a2 (.inRangeFunc L :: k)).eval : Array Value) = ⟨first' ++ [.func (.yield L) #[] #[]]⟩ := by
        apply Array.ext'; simp; rfl
      simp only [q, resolve, e0, Deferred.ofValue, Sem.run_bind, Sem.run_pure, Result.andThen_ok, e1]
    have hargs : VRs ρ2 (fl ++ [.func (.yield (s.ctr + 1)) #[] #[]]) (first' ++ [.func (.yield L) #[] #[]]) :=
      ((hfi.ext g1.1).ext g2.1).append (.cons (.fn (.yield k2) .nil .nil) .nil)
    obtain ⟨ρ3, w3, u', g3, _, hu, r3, hsteps⟩ := callV_goes ok hm h3 r2 (fresh3.before (by have := Prog.ctr_le h8; simpa using this)) gl2 ((hg.ext g1.1).ext g2.1) ((hca.ext g1.1).ext g2.1) hargs hq
      (b.atR a2 (.inRangeFunc L :: k)) cs (lone (b.atR a (.code (.rangeFunc f ps assign body) :: k)) cs w) (.inr ⟨_, _, rfl⟩) (fun fr' cs' w' hgo => by
        refine step_lone_go ?_
        have he : (Instr.enterLoop b.fn a.tmps ps assign body b.roundOf).run P w = .ok (L, [⟨.collected w.heap.size, #[]⟩]) w2 := by
          rw [hro, fr.hfn, run_enterLoop_outer]
          have hL : w.heap.size + 1 = L := by
            show w.heap.size + 1 = (w.heap.push _).size
            rw [Array.size_push]
          rw [hL]
        rw [← hgo]
        simp only [stepG, stepG.exec, Frame.atR, Sem.runT_eq, he, GStep.bare_after]
        rfl)
    rw [finish_atR_inRangeFunc] at hsteps
    have k3 := g3.1 _ _ k2
    obtain ⟨ob, y1, y2, y3, y0⟩ := r3.obj ho n1 n2 k3
    cases y2 with
    | @lp _ at_ y htm hd has hbd hpd =>
    obtain ⟨e1, e2⟩ := r3.setObj (k := s.ctr + 1) (o' := .lp { p with st := .exhausted }) (ob' := .loop { state := .exhausted, pending := p.pending, fn := p.fn, tmps := at_, params := ⟨p.params⟩, assign := p.assign, body := p.body, defers := y.B }) ho0 m1 m2 k3 rfl
      (ObR.lp (p := { p with st := .exhausted }) htm hd has hbd hpd)
    have hend := run_endLoop (P := P) y3 (isBusy_ok hbz)
    have hstep := stepR_endRangeFunc (b := b) (a := a2) (k := k) (cs := cs) hend
    have gAll : Gr ρ ρ3 s.ctr s3.ctr := (g1.trans g2 (Nat.le_succ _) (Nat.le_succ _)).trans g3 (by omega) hle3
    refine ⟨_, _, _, ρ3, _, a2, h8, ?_, ⟨fr.hfn, fr.htm.ext gAll.1, .cons (.col (g3.1 _ _ (g2.1 _ _ k1))) (fr.hdf.ext gAll.1), fr.hrd.ext gAll.1, fr.hkind, fr.hdk⟩, e2, gAll, by simp only; omega, ?_⟩
    · cases hpn : p.pending with
      | none => exact hk
      | some c => simp only [List.all_cons, hk, Bool.and_true, okItem, hpd c hpn]
    · refine hsteps.trans (.one ?_)
      rw [hstep]
      cases p.pending <;> rfl
  · exact (fail_run h).elim
end
end Go.Ev
