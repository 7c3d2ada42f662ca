import Derived.Test.YtpljgnjdlciicaaGreatDoorLxKP20
namespace Go.Ev
open Go Go.RowKit
section
variable {P : Program} {E : Env} {ρ : Map} {B0 : Nat} {w0 w : World}
def PlaceF (F : Frame) : Prop := (∃ ops l k, F.todo = .inRegion ops l :: k) ∨ (∃ l k, F.todo = .inRangeFunc l :: k)
def Goes (P : Program) (ρ : Map) (B0 : Nat) (w0 : World) (s s' : St) (v : Value) (w : World) (q : Sem Next) : Prop :=
  ∀ (F : Frame) (cs : List Frame) (m0 : Machine), PlaceF F → (∀ fr' cs' w', (stepG.apply P true F cs none q w).bare = .go { frame := fr', callers := cs', status := .running, dying := none } w' → step P m0 = .next (lone fr' cs' w')) →
    ∃ ρ' w' v', Gr ρ ρ' s.ctr s'.ctr ∧ s.ctr ≤ s'.ctr ∧ VR ρ' v v' ∧ WR P ρ' B0 w0 s'.mem w' ∧ Steps P m0 (lone (F.finish v') cs w')
theorem at_lone {F : Frame} {cs : List Frame} {q : Sem Next} (hst : stepG P true { frame := F, callers := cs, status := .running, dying := none } w = stepG.apply P true F cs none q w) :
    ∀ fr' cs' w', (stepG.apply P true F cs none q w).bare = .go { frame := fr', callers := cs', status := .running, dying := none } w' → step P (lone F cs w) = .next (lone fr' cs' w') :=
  fun fr' cs' w' h => step_lone_go (by rw [hst]; exact h)
theorem NR.goes {s s' : St} {v : Value} {q : Sem Next} (h : NR P ρ B0 w0 s s' v (q.run P w)) : Goes P ρ B0 w0 s s' v w q := by
  intro F cs m0 _ hst
  obtain ⟨ρ', v', w', n, h1, h2, h3, h4, h5, h6⟩ := h
  refine ⟨ρ', w', v', h1, h2, h5, h6, .one (hst _ _ _ ?_)⟩
  rcases h4 with rfl | ⟨rfl, rfl⟩
  · simp [stepG.apply, h3]
  · simp [stepG.apply, h3]
theorem callF_goes (ok : EnvOK P E) {io : Rec} (hm : Main P B0 w0 io) {f : Nat} {args args' : List Value} {s s' : St} {v : Value} (h : (callF E io f args).run s = some (v, s')) (r : WR P ρ B0 w0 s.mem w)
    (fr : Fr ρ s.mem s.ctr s'.ctr) (gl : GlOK P ρ) (ha : VRs ρ args args') {q : Sem Next} (hq : q.run P w = (callFunc f ⟨args'⟩).run P w) : Goes P ρ B0 w0 s s' v w q := by
  unfold callF at h
  obtain ⟨fn, hf, h1⟩ := opt_run h
  have hPf := ok.fn f fn hf
  have hname := ok.names f fn hf
  split at h1
  · rename_i c hb
    have hcf : (callFunc f ⟨args'⟩).run P w = .ok (.enter f ⟨args'⟩) w := by
      unfold callFunc
      simp only [Sem.run_bind, show (program).run P w = .ok P w from rfl, Result.andThen_ok, hPf, hname, Bool.false_eq_true, if_false, hb, Option.isNone_some]
      rfl
    rw [hcf] at hq
    split at h1
    · rename_i p hp
      intro F cs m0 hpl hst
      have hstep : step P m0 = .next (lone (Frame.enter P f ⟨args'⟩ .normal) (F :: cs) w) := by
        refine hst _ _ _ ?_
        rcases hpl with ⟨ops, l, k, e⟩ | ⟨l, k, e⟩ <;> simp [stepG.apply, hq, e]
      obtain ⟨e, w', fr', ⟨ρ', v', rfl, g1, g2, g3⟩, hcomes, hfn, hleave⟩ := ok.orc f p hp B0 w0 w ρ s s' v args args' h1 r fr gl ha (F :: cs)
      exact ⟨ρ', w', v', g1, Prog.ctr_le h1, g2, g3, .head hstep ((show Steps P _ _ from hcomes).trans (.one (step_leave_returned hleave)))⟩
    obtain ⟨_, h5⟩ := ck_run h1
    obtain ⟨ρ1, args1, s1, h6, ha1, r1, gl1, hc1⟩ := frzAs_ok _ _ ρ args args' _ s w _ h5 ha r
    obtain ⟨hlen, h2⟩ := ck_run h6
    have hlen := Nat.le_of_ble_eq_true hlen
    have fr1 : Fr ρ1 s1.mem s1.ctr s'.ctr := by rw [hc1]; exact gl1.fr fr
    intro F cs m0 hp hst
    let b : Frame := { (default : Frame) with fn := f, kind := .normal }
    let a : Act := { tmps := (⟨args'⟩ : Array Value) ++ Array.replicate (fn.ntmps - (⟨args'⟩ : Array Value).size) undef, defers := [] }
    have henter : Frame.enter P f ⟨args'⟩ .normal = b.atR a [.code c] := by
      simp [Frame.enter, Frame.atR, hPf, hb, b, a]
      rfl
    have hstep : step P m0 = .next (lone (Frame.enter P f ⟨args'⟩ .normal) (F :: cs) w) := by
      refine hst _ _ _ ?_
      rcases hp with ⟨ops, l, k, e⟩ | ⟨l, k, e⟩ <;> simp [stepG.apply, hq, e]
    obtain ⟨ρ', w', v', g1, g2, g3, g4⟩ := hm f (frameTm fn.ntmps args1) [.code c] [] none s1 v s' h2 (by simp [okItem, ok.code f fn c hf hb]) ρ1 w b a (F :: cs)
      ⟨rfl, TR.enter ha1 hlen, .nil, trivial, fun q => absurd rfl q, by simp [b]⟩ r1 fr1 (gl.ext gl1.1)
    have g1 : Gr ρ ρ' s.ctr s'.ctr := by
      rw [hc1] at g1
      have hle := Prog.ctr_le h2
      rw [hc1] at hle
      exact (gl1.gr s.ctr s.ctr).trans g1 (Nat.le_refl _) hle
    have h2c : s.ctr ≤ s'.ctr := by rw [← hc1]; exact Prog.ctr_le h2
    obtain ⟨fr', e1, e2, e3, e4, e5, fn', e6, e7⟩ := (show ∃ fr', Steps P (lone (b.atR a [.code c]) (F :: cs) w) (lone fr' (F :: cs) w') ∧ fr'.fn = b.fn ∧ fr'.kind = b.kind ∧ fr'.mode = .returning ∧ fr'.defers = [] ∧
      ∃ f, P.funcs[b.fn]? = some f ∧ (results f fr'.tmps).run P w' = .ok v' w' from g4)
    refine ⟨ρ', w', v', g1, h2c, g2, g3, .head hstep ?_⟩
    rw [henter]
    exact e1.trans (.one (step_leave_returned ⟨e4, e5, e3, fn', by rw [e2]; exact e6, e7⟩))
  · rename_i hb
    obtain ⟨code, hc, h2⟩ := opt_run h1
    refine NR.goes ?_
    rw [hq]
    exact externA_ok ok hf hc hb h2 r fr ha
theorem TR.set {tm : Tm} {a : Array Value} (h : TR ρ tm a) (d : Nat) {v v' : Value} (hv : VR ρ v v') : TR ρ (tm.set d v) (a.setIfInBounds d v') :=
  TR.put (a := ⟨a, []⟩) h (some d) hv
theorem setPs_ok : ∀ {ps : List Nat} {vs vs' : List Value} {tm tm' : Tm} {a : Array Value}, setPs ps vs tm = some tm' → TR ρ tm a → VRs ρ vs vs' →
    vs'.length = ps.length ∧ TR ρ tm' ((ps.zip vs').foldl (fun tmps (p : Nat × Value) => tmps.setIfInBounds p.1 p.2) a) := by
  intro ps
  induction ps with
  | nil =>
    intro vs vs' tm tm' a h ht hv
    cases vs with
    | nil =>
      cases hv
      simp only [setPs, Option.some.injEq] at h
      subst h
      exact ⟨rfl, ht⟩
    | cons _ _ => simp [setPs] at h
  | cons p ps ih =>
    intro vs vs' tm tm' a h ht hv
    cases vs with
    | nil => simp [setPs] at h
    | cons v vs =>
      cases hv with
      | cons h1 h2 =>
      simp only [setPs] at h
      obtain ⟨e1, e2⟩ := ih h (ht.set p h1) h2
      exact ⟨by simp [e1], by simpa using e2⟩
theorem lpOf_ok {o : Slot} {p : Lp} (h : lpOf o = some p) : o = .lp p := by
  unfold lpOf at h
  split at h
  · simp only [Option.some.injEq] at h; rw [h]
  · cases h
theorem yield_goes {io : Rec} (hm : Main P B0 w0 io) {l : Nat} {captured args args' : List Value} {s s' : St} {v : Value} (h : (callV E io (.yield l) captured args).run s = some (v, s')) (r : WR P ρ B0 w0 s.mem w)
    (fr : Fr ρ s.mem s.ctr s'.ctr) (gl : GlOK P ρ) (ha : VRs ρ args args') {x : Blk} (hx : ρ l = some x) {q : Sem Next} (hq : q.run P w = (Instr.yield x.B ⟨args'⟩).run P w) : Goes P ρ B0 w0 s s' v w q := by
  unfold callV at h
  obtain ⟨o, ho, n1, n2, h1⟩ := obj_run h
  obtain ⟨p, hp, h2⟩ := opt_run h1
  obtain ⟨tm, ht, h3⟩ := opt_run h2
  obtain rfl := lpOf_ok hp
  obtain ⟨ob, g1, g2, g3, g0⟩ := r.obj ho n1 n2 hx
  cases g2 with
  | @lp _ at_ y htm hd has hbd hpd =>
  obtain ⟨hl, htr⟩ := setPs_ok ht htm ha
  let tmps : Array Value := (p.params.zip args').foldl (fun tmps (q : Nat × Value) => tmps.setIfInBounds q.1 q.2) at_
  have hy : (Instr.yield x.B ⟨args'⟩).run P w = .ok (.round x.B p.fn tmps p.assign p.body) w := by
    have hz : ((⟨p.params⟩ : Array Tmp).zip ⟨args'⟩).foldl (fun tmps (q : Tmp × Value) => tmps.setIfInBounds q.1 q.2) at_ = tmps := by
      rw [← Array.foldl_toList, Array.toList_zip]
    have hne : ¬ ((⟨args'⟩ : Array Value).size ≠ (⟨p.params⟩ : Array Tmp).size) := by simp [hl]
    simp only [Instr.yield, Instr.getLoop, Sem.run_bind, g1, Result.andThen_ok, Sem.run_pure, if_neg hne]
    rw [← hz]
  rw [hy] at hq
  intro F cs m0 hpl hst
  let b : Frame := { (default : Frame) with fn := p.fn, kind := .normal, roundOf := some x.B }
  let a : Act := { tmps, defers := [] }
  have hround : Frame.round x.B p.fn tmps p.assign p.body .normal = b.atR a [.code p.assign, .beginRound, .code p.body] := rfl
  have hstep : step P m0 = .next (lone (Frame.round x.B p.fn tmps p.assign p.body .normal) (F :: cs) w) := by
    refine hst _ _ _ ?_
    simp [stepG.apply, hq]
  obtain ⟨ρ', w', v', e1, e2, e3, e4⟩ := hm p.fn tm [.code p.assign, .beginRound, .code p.body] [] (some l) _ v s' h3 (by simp [okItem, has, hbd]) ρ w b a (F :: cs)
    ⟨rfl, htr, .nil, ⟨x, hx, rfl⟩, fun _ => ⟨rfl, by simp⟩, by simp [b]⟩ r fr gl
  refine ⟨ρ', w', v', e1, by have := Prog.ctr_le h3; exact this, e2, e3, .head hstep ?_⟩
  rw [hround]
  exact e4 F cs rfl
theorem callV_goes (ok : EnvOK P E) {io : Rec} (hm : Main P B0 w0 io) {fn fn' : Fn} {captured captured' args args' : List Value} {s s' : St} {v : Value} (h : (callV E io fn captured args).run s = some (v, s')) (r : WR P ρ B0 w0 s.mem w)
    (fr : Fr ρ s.mem s.ctr s'.ctr) (gl : GlOK P ρ) (hf : FnR ρ fn fn') (hc : VRs ρ captured captured') (ha : VRs ρ args args') {q : Sem Next} (hq : q.run P w = (invoke (.fn fn' ⟨captured'⟩) ⟨args'⟩).run P w) : Goes P ρ B0 w0 s s' v w q := by
  cases hf with
  | func f =>
    refine callF_goes ok hm (f := f) h r fr gl (ha.append hc) ?_
    rw [hq]
    simp [invoke]
  | method m => exact (fail_run h).elim
  | yield hx => exact yield_goes hm h r fr gl ha hx hq
theorem liveOs_mem {tm : Tm} {x : Operand} : ∀ {l : List Operand}, liveOs tm l = true → x ∈ l → liveO tm x = true := by
  intro l
  induction l with
  | nil => intro _ h; cases h
  | cons y l ih =>
    intro h hx
    simp only [liveOs, Bool.and_eq_true] at h
    rcases List.mem_cons.1 hx with rfl | hx
    · exact h.1
    · exact ih h.2 hx
theorem opA_goes (ok : EnvOK P E) {io : Rec} (hm : Main P B0 w0 io) {tm : Tm} {a : Act} {o : Oper} {s s' : St} {v : Value} (h : (opA E io tm o).run s = some (v, s')) (r : WR P ρ B0 w0 s.mem w)
    (fr : Fr ρ s.mem s.ctr s'.ctr) (gl : GlOK P ρ) (ht : TR ρ tm a.tmps) (ho : okOper P.globals.size o = true) (hlv : liveOs tm o.op.operands.toList = true) : Goes P ρ B0 w0 s s' v w (execOp a.eval o) := by
  have hρ : ∀ x ∈ o.op.operands.toList, VR ρ (evO tm x) (a.eval x) := fun x hx => evO_ok ht gl (List.all_eq_true.1 ho x hx) (liveOs_mem hlv hx)
  obtain ⟨dst, op, type, pos, after, gd0⟩ := o
  unfold opA at h
  dsimp only at h hρ
  split at h
  · rename_i c
    have hargs : VRs ρ (c.args.toList.map (evO tm)) (c.args.toList.map a.eval) := VRs.map _ _ _ (fun x hx => hρ x (by simp only [Op.operands, Call.operands, Array.toList_append, List.mem_append]; exact .inr hx))
    have harr : c.args.map a.eval = ⟨c.args.toList.map a.eval⟩ := by apply Array.ext'; simp
    split at h
    · rename_i b hcal
      refine NR.goes ?_
      obtain ⟨ρ', v', w', e1, e2, e3, e4, e5⟩ := builtinA_ok (ty := type) (cs := c.args.map fun | .const _ => true | _ => false) ok h r fr hargs
      refine ⟨ρ', v', w', .value v', e1, e2, ?_, .inl rfl, e4, e5⟩
      simp only [execOp, resolve, hcal, Sem.run_bind, Sem.run_pure, Result.andThen_ok, invoke, harr]
      exact e3
    · rename_i f hcal
      have hfv := hρ f (by simp [Op.operands, Call.operands, hcal])
      split at h
      · rename_i fn first captured hev
        have h1 := h
        rw [hev] at hfv
        generalize hav : a.eval f = fv at hfv
        obtain ⟨fl⟩ := first
        obtain ⟨cl⟩ := captured
        cases hfv with
        | @fn _ fn' _ first' _ captured' h2 h3 h4 =>
        refine callV_goes ok hm h1 r fr gl h2 h4 (h3.append hargs) ?_
        simp only [execOp, resolve, hcal, hav, Deferred.ofValue, Sem.run_bind, Sem.run_pure, Result.andThen_ok, harr]
        congr 2
        apply Array.ext'
        simp
      · exact (fail_run h).elim
    · exact (fail_run h).elim
  · exact NR.goes (plainOp_ok ok h r fr hρ)
end
end Go.Ev
