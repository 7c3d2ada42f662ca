/- Soundness, part 16: calls. -/
import Derived.Test.YtpljgnjdlciicaaGreatDoorLyKQ14
import Derived.RangeFuncRecord
namespace Go.Ev
open Go Go.RowKit
section
variable {P : Program} {E : Env} {ρ : Map} {B0 : Nat} {w0 w : World}

def PlaceF (F : Frame) : Prop := (∃ ops l k, F.todo = .inRegion ops l :: k) ∨ (∃ l k, F.todo = .inRangeFunc l :: k)
/-- What is applied at a frame's place comes to a value there. -/
def Goes (P : Program) (ρ : Map) (B0 : Nat) (w0 : World) (s s' : St) (v : Value) (w : World) (q : Sem Next) : Prop :=
  ∀ (F : Frame) (cs : List Frame) (m0 : Machine), PlaceF F → (∀ fr' cs' w', (stepG.apply P true F cs none q w).bare = .go { frame := fr', callers := cs', status := .running, dying := none } w' → step P m0 = .next (lone fr' cs' w')) →
    ∃ ρ' w' v', Gr ρ ρ' s.ctr s'.ctr ∧ s.ctr ≤ s'.ctr ∧ VR ρ' v v' ∧ WR P ρ' B0 w0 s'.mem w' ∧ Steps P m0 (lone (F.finish v') cs w')
theorem at_lone {F : Frame} {cs : List Frame} {q : Sem Next} (hst : stepG P true { frame := F, callers := cs, status := .running, dying := none } w = stepG.apply P true F cs none q w) :
    ∀ fr' cs' w', (stepG.apply P true F cs none q w).bare = .go { frame := fr', callers := cs', status := .running, dying := none } w' → step P (lone F cs w) = .next (lone fr' cs' w') :=
  fun fr' cs' w' h => step_lone_go (by rw [hst]; exact h)
theorem NR.goes {s s' : St} {v : Value} {q : Sem Next} (h : NR P ρ B0 w0 s s' v (q.run P w)) : Goes P ρ B0 w0 s s' v w q := by
  intro F cs m0 _ hst
  obtain ⟨ρ', v', w', n, h1, h2, h3, h4, h5, h6⟩ := h
  refine ⟨ρ', w', v', h1, h2, h5, h6, .one (hst _ _ _ ?_)⟩
  rcases h4 with rfl | ⟨rfl, rfl⟩
  · simp [stepG.apply, h3]
  · simp [stepG.apply, h3]
theorem callF_goes (ok : EnvOK P E) {io : Rec} (hm : Main P B0 w0 io) {f : Nat} {args args' : List Value} {s s' : St} {v : Value} (h : (callF E io f args).run s = some (v, s')) (r : WR P ρ B0 w0 s.mem w)
    (fr : Fr ρ s.mem s.ctr s'.ctr) (gl : GlOK P ρ) (ha : VRs ρ args args') {q : Sem Next} (hq : q.run P w = (callFunc f ⟨args'⟩).run P w) : Goes P ρ B0 w0 s s' v w q := by
  unfold callF at h
  obtain ⟨fn, hf, h1⟩ := opt_run h
  have hPf := ok.fn f fn hf
  have hname := ok.names f fn hf
  split at h1
  · rename_i c hb
    have hcf : (callFunc f ⟨args'⟩).run P w = .ok (.enter f ⟨args'⟩) w := by
      unfold callFunc
      simp only [Sem.run_bind, show (program).run P w = .ok P w from rfl, Result.andThen_ok, hPf, hname, Bool.false_eq_true, if_false, hb, Option.isNone_some]
      rfl
    rw [hcf] at hq
    split at h1
    · rename_i p hp
      intro F cs m0 hpl hst
      have hstep : step P m0 = .next (lone (Frame.enter P f ⟨args'⟩ .normal) (F :: cs) w) := by
        refine hst _ _ _ ?_
        rcases hpl with ⟨ops, l, k, e⟩ | ⟨l, k, e⟩ <;> simp [stepG.apply, hq, e]
      obtain ⟨e, w', fr', ⟨ρ', v', rfl, g1, g2, g3⟩, hcomes, hfn, hleave⟩ := ok.orc f p hp B0 w0 w ρ s s' v args args' h1 r fr gl ha (F :: cs)
      exact ⟨ρ', w', v', g1, Prog.ctr_le h1, g2, g3, .head hstep ((show Steps P _ _ from hcomes).trans (.one (step_leave_returned hleave)))⟩
    obtain ⟨_, h5⟩ := ck_run h1
    obtain ⟨ρ1, args1, s1, h6, ha1, r1, gl1, hc1⟩ := frzAs_ok _ _ ρ args args' _ s w _ h5 ha r
    obtain ⟨hlen, h2⟩ := ck_run h6
    have hlen := Nat.le_of_ble_eq_true hlen
    have fr1 : Fr ρ1 s1.mem s1.ctr s'.ctr := by rw [hc1]; exact gl1.fr fr
    intro F cs m0 hp hst
    let b : Frame := { (default : Frame) with fn := f, kind := .normal }
    let a : Act := { tmps := (⟨args'⟩ : Array Value) ++ Array.replicate (fn.ntmps - (⟨args'⟩ : Array Value).size) undef, defers := [] }
    have henter : Frame.enter P f ⟨args'⟩ .normal = b.atR a [.code c] := by
      simp [Frame.enter, Frame.atR, hPf, hb, b, a]
      rfl
    have hstep : step P m0 = .next (lone (Frame.enter P f ⟨args'⟩ .normal) (F :: cs) w) := by
      refine hst _ _ _ ?_
      rcases hp with ⟨ops, l, k, e⟩ | ⟨l, k, e⟩ <;> simp [stepG.apply, hq, e]
    obtain ⟨ρ', w', v', g1, g2, g3, g4⟩ := hm f (frameTm fn.ntmps args1) [.code c] [] none s1 v s' h2 (by simp [okItem, ok.code f fn c hf hb]) ρ1 w b a (F :: cs)
      ⟨rfl, TR.enter ha1 hlen, .nil, trivial, fun q => absurd rfl q, by simp [b]⟩ r1 fr1 (gl.ext gl1.1)
    have g1 : Gr ρ ρ' s.ctr s'.ctr := by
      rw [hc1] at g1
      have hle := Prog.ctr_le h2
      rw [hc1] at hle
      exact (gl1.gr s.ctr s.ctr).trans g1 (Nat.le_refl _) hle
    have h2c : s.ctr ≤ s'.ctr := by rw [← hc1]; exact Prog.ctr_le h2
    obtain ⟨fr', e1, e2, e3, e4, e5, fn', e6, e7⟩ := (show ∃ fr', Steps P (lone (b.atR a [.code c]) (F :: cs) w) (lone fr' (F :: cs) w') ∧ fr'.fn = b.fn ∧ fr'.kind = b.kind ∧ fr'.mode = .returning ∧ fr'.defers = [] ∧
      ∃ f, P.funcs[b.fn]? = some f ∧ (results f fr'.tmps).run P w' = .ok v' w' from g4)
    refine ⟨ρ', w', v', g1, h2c, g2, g3, .head hstep ?_⟩
    rw [henter]
    exact e1.trans (.one (step_leave_returned ⟨e4, e5, e3, fn', by rw [e2]; exact e6, e7⟩))
  · rename_i hb
    obtain ⟨code, hc, h2⟩ := opt_run h1
    refine NR.goes ?_
    rw [hq]
    exact externA_ok ok hf hc hb h2 r fr ha
theorem TR.set {tm : Tm} {a : Array Value} (h : TR ρ tm a) (d : Nat) {v v' : Value} (hv : VR ρ v v') : TR ρ (tm.set d v) (a.setIfInBounds d v') :=
  TR.put (a := ⟨a, []⟩) h (some d) hv
theorem setPs_ok : ∀ {ps : List Nat} {vs vs' : List Value} {tm tm' : Tm} {a : Array Value}, setPs ps vs tm = some tm' → TR ρ tm a → VRs ρ vs vs' →
    vs'.length = ps.length ∧ TR ρ tm' ((ps.zip vs').foldl (fun tmps (p : Nat × Value) => tmps.setIfInBounds p.1 p.2) a) := by
  intro ps
  induction ps with
  | nil =>
    intro vs vs' tm tm' a h ht hv
    cases vs with
    | nil =>
      cases hv
      simp only [setPs, Option.some.injEq] at h
      subst h
      exact ⟨rfl, ht⟩
    | cons _ _ => simp [setPs] at h
  | cons p ps ih =>
    intro vs vs' tm tm' a h ht hv
    cases vs with
    | nil => simp [setPs] at h
    | cons v vs =>
      cases hv with
      | cons h1 h2 =>
      simp only [setPs] at h
      obtain ⟨e1, e2⟩ := ih h (ht.set p h1) h2
      exact ⟨by simp [e1], by simpa using e2⟩
theorem lpOf_ok {o : Slot} {p : Lp} (h : lpOf o = some p) : o = .lp p := by
  unfold lpOf at h
  split at h
  · simp only [Option.some.injEq] at h; rw [h]
  · cases h
theorem yield_goes {io : Rec} (hm : Main P B0 w0 io) {l : Nat} {captured args args' : List Value} {s s' : St} {v : Value} (h : (callV E io (.yield l) captured args).run s = some (v, s')) (r : WR P ρ B0 w0 s.mem w)
    (fr : Fr ρ s.mem s.ctr s'.ctr) (gl : GlOK P ρ) (ha : VRs ρ args args') {x : Blk} (hx : ρ l = some x) {q : Sem Next} (hq : q.run P w = (Instr.yield x.B ⟨args'⟩).run P w) : Goes P ρ B0 w0 s s' v w q := by
  unfold callV at h
  obtain ⟨o, ho, n1, n2, h1⟩ := obj_run h
  obtain ⟨p, hp, h2⟩ := opt_run h1
  obtain ⟨tm, ht, h3⟩ := opt_run h2
  obtain rfl := lpOf_ok hp
  obtain ⟨ob, g1, g2, g3, g0⟩ := r.obj ho n1 n2 hx
  cases g2 with
  | @lp _ at_ y htm hd has hbd hpd =>
  obtain ⟨hl, htr⟩ := setPs_ok ht htm ha
  let tmps : Array Value := (p.params.zip args').foldl (fun tmps (q : Nat × Value) => tmps.setIfInBounds q.1 q.2) at_
  have hy : (Instr.yield x.B ⟨args'⟩).run P w = .ok (.round x.B p.fn tmps p.assign p.body) w := by
    have hz : ((⟨p.params⟩ : Array Tmp).zip ⟨args'⟩).foldl (fun tmps (q : Tmp × Value) => tmps.setIfInBounds q.1 q.2) at_ = tmps := by
      rw [← Array.foldl_toList, Array.toList_zip]
    have hne : ¬ ((⟨args'⟩ : Array Value).size ≠ (⟨p.params⟩ : Array Tmp).size) := by simp [hl]
    simp only [Instr.yield, Instr.getLoop, Sem.run_bind, g1, Result.andThen_ok, Sem.run_pure, if_neg hne]
    rw [← hz]
  rw [hy] at hq
  intro F cs m0 hpl hst
  let b : Frame := { (default : Frame) with fn := p.fn, kind := .normal, roundOf := some x.B }
  let a : Act := { tmps, defers := [] }
  have hround : Frame.round x.B p.fn tmps p.assign p.body .normal = b.atR a [.code p.assign, .beginRound, .code p.body] := rfl
  have hstep : step P m0 = .next (lone (Frame.round x.B p.fn tmps p.assign p.body .normal) (F :: cs) w) := by
    refine hst _ _ _ ?_
    simp [stepG.apply, hq]
  obtain ⟨ρ', w', v', e1, e2, e3, e4⟩ := hm p.fn tm [.code p.assign, .beginRound, .code p.body] [] (some l) _ v s' h3 (by simp [okItem, has, hbd]) ρ w b a (F :: cs)
    ⟨rfl, htr, .nil, ⟨x, hx, rfl⟩, fun _ => ⟨rfl, by simp⟩, by simp [b]⟩ r fr gl
  refine ⟨ρ', w', v', e1, by have := Prog.ctr_le h3; exact this, e2, e3, .head hstep ?_⟩
  rw [hround]
  exact e4 F cs rfl
/-- A call of a function value. -/
theorem callV_goes (ok : EnvOK P E) {io : Rec} (hm : Main P B0 w0 io) {fn fn' : Fn} {captured captured' args args' : List Value} {s s' : St} {v : Value} (h : (callV E io fn captured args).run s = some (v, s')) (r : WR P ρ B0 w0 s.mem w)
    (fr : Fr ρ s.mem s.ctr s'.ctr) (gl : GlOK P ρ) (hf : FnR ρ fn fn') (hc : VRs ρ captured captured') (ha : VRs ρ args args') {q : Sem Next} (hq : q.run P w = (invoke (.fn fn' ⟨captured'⟩) ⟨args'⟩).run P w) : Goes P ρ B0 w0 s s' v w q := by
  cases hf with
  | func f =>
    refine callF_goes ok hm (f := f) h r fr gl (ha.append hc) ?_
    rw [hq]
    simp [invoke]
  | method m => exact (fail_run h).elim
  | yield hx => exact yield_goes hm h r fr gl ha hx hq
theorem liveOs_mem {tm : Tm} {x : Operand} : ∀ {l : List Operand}, liveOs tm l = true → x ∈ l → liveO tm x = true := by
  intro l
  induction l with
  | nil => intro _ h; cases h
  | cons y l ih =>
    intro h hx
    simp only [liveOs, Bool.and_eq_true] at h
    rcases List.mem_cons.1 hx with rfl | hx
    · exact h.1
    · exact ih h.2 hx
/-- An operation. -/
theorem opA_goes (ok : EnvOK P E) {io : Rec} (hm : Main P B0 w0 io) {tm : Tm} {a : Act} {o : Oper} {s s' : St} {v : Value} (h : (opA E io tm o).run s = some (v, s')) (r : WR P ρ B0 w0 s.mem w)
    (fr : Fr ρ s.mem s.ctr s'.ctr) (gl : GlOK P ρ) (ht : TR ρ tm a.tmps) (ho : okOper P.globals.size o = true) (hlv : liveOs tm o.op.operands.toList = true) : Goes P ρ B0 w0 s s' v w (execOp a.eval o) := by
  have hρ : ∀ x ∈ o.op.operands.toList, VR ρ (evO tm x) (a.eval x) := fun x hx => evO_ok ht gl (List.all_eq_true.1 ho x hx) (liveOs_mem hlv hx)
  obtain ⟨dst, op, type, pos, after, gd0⟩ := o
  unfold opA at h
  dsimp only at h hρ
  split at h
  · rename_i c
    have hargs : VRs ρ (c.args.toList.map (evO tm)) (c.args.toList.map a.eval) := VRs.map _ _ _ (fun x hx => hρ x (by simp only [Op.operands, Call.operands, Array.toList_append, List.mem_append]; exact .inr hx))
    have harr : c.args.map a.eval = ⟨c.args.toList.map a.eval⟩ := by apply Array.ext'; simp
    split at h
    · rename_i b hcal
      refine NR.goes ?_
      obtain ⟨ρ', v', w', e1, e2, e3, e4, e5⟩ := builtinA_ok (ty := type) (cs := c.args.map fun | .const _ => true | _ => false) ok h r fr hargs
      refine ⟨ρ', v', w', .value v', e1, e2, ?_, .inl rfl, e4, e5⟩
      simp only [execOp, resolve, hcal, Sem.run_bind, Sem.run_pure, Result.andThen_ok, invoke, harr]
      exact e3
    · rename_i f hcal
      have hfv := hρ f (by simp [Op.operands, Call.operands, hcal])
      split at h
      · rename_i fn first captured hev
        have h1 := h
        rw [hev] at hfv
        generalize hav : a.eval f = fv at hfv
        obtain ⟨fl⟩ := first
        obtain ⟨cl⟩ := captured
        cases hfv with
        | @fn _ fn' _ first' _ captured' h2 h3 h4 =>
        refine callV_goes ok hm h1 r fr gl h2 h4 (h3.append hargs) ?_
        simp only [execOp, resolve, hcal, hav, Deferred.ofValue, Sem.run_bind, Sem.run_pure, Result.andThen_ok, harr]
        congr 2
        apply Array.ext'
        simp
      · exact (fail_run h).elim
    · exact (fail_run h).elim
  · exact NR.goes (plainOp_ok ok h r fr hρ)
end
end Go.Ev
/- Soundness, part 17: regions in their order. -/
namespace Go.Ev
open Go Go.RowKit
section
variable {P : Program} {E : Env} {B0 : Nat} {w0 : World}
/-! ### A value in the form of its type is the value -/
theorem nmK_eq {k : Kd} {v : Value} (h : okK k v = true) : nmK k v = v := by
  cases k with
  | int k =>
    simp only [okK] at h
    split at h
    · have := of_decide_eq_true h
      subst this
      rfl
    · cases h
  | bool =>
    simp only [okK] at h
    split at h
    · rfl
    · cases h
  | str =>
    simp only [okK] at h
    split at h
    · rfl
    · cases h
  | lst =>
    simp only [okK] at h
    unfold isLst at h
    split at h
    · rename_i t cs
      have := Nat.eq_of_beq_eq_true h
      subst this
      rfl
    · cases h
  | ptr =>
    simp only [okK] at h
    unfold isPt at h
    split at h
    · rfl
    · cases h
  | row =>
    simp only [okK] at h
    unfold isSl at h
    split at h
    · rfl
    · cases h
  | raw => rfl
theorem at_drop {vs : List Value} {i : Nat} {v : Value} {r : List Value} (h : vs.drop i = v :: r) : at_ vs i = v ∧ vs.drop (i + 1) = r := by
  have h1 : (vs.drop i)[0]? = some v := by rw [h]; rfl
  rw [List.getElem?_drop, Nat.add_zero] at h1
  refine ⟨by simp [at_, List.getD_eq_getElem?_getD, h1], ?_⟩
  have : (vs.drop i).drop 1 = r := by rw [h]; rfl
  simpa [Nat.add_comm] using this
theorem nmKs_eq : ∀ {ks : List Kd} {i : Nat} {vs : List Value}, okKs ks (vs.drop i) = true → nmKs ks i vs = vs.drop i := by
  intro ks
  induction ks with
  | nil =>
    intro i vs h
    simp only [okKs] at h
    split at h
    · rename_i e; rw [nmKs, e]
    · cases h
  | cons k ks ih =>
    intro i vs h
    simp only [okKs] at h
    split at h
    · cases h
    · rename_i v r e
      simp only [Bool.and_eq_true] at h
      obtain ⟨h1, h2⟩ := at_drop e
      rw [nmKs, h1, nmK_eq h.1, e, Nat.add_eq, ih (by rw [h2]; exact h.2), h2]
theorem nmN1_eq {k : Nm} {v : Value} (h : okN1 k v = true) : nmN1 k v = v := by
  cases k with
  | one k => exact nmK_eq h
  | agg ks =>
    simp only [okN1, Bool.and_eq_true] at h
    obtain ⟨h1, h2⟩ := h
    cases v <;> first | (simp [isAggV] at h1; done) | skip
    rename_i cs
    obtain ⟨cs⟩ := cs
    simp only [nmN1, aggOf] at h2 ⊢
    rw [nmKs_eq (i := 0) (by simpa using h2)]
    simp
  | tup _ => rfl
  | raw => rfl
theorem nmNs_eq : ∀ {ks : List Nm} {i : Nat} {vs : List Value}, okNs ks (vs.drop i) = true → nmNs ks i vs = vs.drop i := by
  intro ks
  induction ks with
  | nil =>
    intro i vs h
    simp only [okNs] at h
    split at h
    · rename_i e; rw [nmNs, e]
    · cases h
  | cons k ks ih =>
    intro i vs h
    simp only [okNs] at h
    split at h
    · cases h
    · rename_i v r e
      simp only [Bool.and_eq_true] at h
      obtain ⟨h1, h2⟩ := at_drop e
      rw [nmNs, h1, nmN1_eq h.1, e, Nat.add_eq, ih (by rw [h2]; exact h.2), h2]
theorem nmP_run {k : Nm} {v : Value} {c : Value → Prog} {s : St} {r : Value × St} (h : (nmP k v c).run s = some r) : (c v).run s = some r := by
  unfold nmP at h
  split at h
  · exact h
  · exact h
  · rename_i ks
    obtain ⟨h1, h2⟩ := gc_run h
    simp only [Bool.and_eq_true] at h1
    obtain ⟨h1, h3⟩ := h1
    cases v <;> first | (simp [isTupV] at h1; done) | skip
    rename_i cs
    obtain ⟨cs⟩ := cs
    simp only [tupOf] at h2 h3
    rw [nmNs_eq (i := 0) (by simpa using h3)] at h2
    simpa using h2
  · obtain ⟨h1, h2⟩ := gc_run h
    rw [nmN1_eq h1] at h2
    exact h2
/-! ### Operations with what comes behind them -/
def KR (q : (Value → Prog) → Prog) (p : Prog) : Prop := ∀ (k : Value → Prog) (s : St) (r : Value × St), (q k).run s = some r → (Prog.call p k).run s = some r
theorem KR.ret (v : Value) : KR (fun k => k v) (.ret v) := fun _ _ _ h => h
theorem KR.fail (p : Prog) : KR (fun _ => .fail) p := fun _ _ _ h => (fail_run h).elim
theorem KR.gc {b : Bool} {q : (Value → Prog) → Prog} {p : Prog} (h : KR q p) : KR (fun k => gc b (q k)) (gd b p) := fun k s r e => by
  obtain ⟨rfl, e⟩ := gc_run e
  have := h k s r e
  simpa [Prog.run, gd] using this
theorem KR.opt {α : Type} {x : Option α} {q : α → (Value → Prog) → Prog} {p : α → Prog} (h : ∀ a, KR (q a) (p a)) : KR (fun k => opt x fun a => q a k) (opt x p) := fun k s r e => by
  obtain ⟨a, rfl, e⟩ := opt_run e
  exact h a k s r e
theorem KR.natK {v : Value} {q : Nat → (Value → Prog) → Prog} {p : Nat → Prog} (h : ∀ n, KR (q n) (p n)) : KR (fun k => natK v fun n => q n k) (natP v p) := by
  unfold Ev.natK natP
  cases v <;> first | exact KR.fail _ | exact KR.gc (h _)
theorem KR.natOrK {d : Nat} {o : Option Value} {q : Nat → (Value → Prog) → Prog} {p : Nat → Prog} (h : ∀ n, KR (q n) (p n)) : KR (fun k => natOrK d o fun n => q n k) (natOrP d o p) := by
  cases o with
  | none => exact h d
  | some v => exact KR.natK h
theorem KR.callP (p : Prog) : KR (fun k => callP k p) p := fun k s r e => (callP_eq k s p).symm.trans e
theorem KR.run {q : (Value → Prog) → Prog} {p : Prog} (h : KR q p) {k : Value → Prog} {s : St} {r : Value × St} (e : (q k).run s = some r) : ∃ u s1, p.run s = some (u, s1) ∧ (k u).run s1 = some r := call_run (h k s r e)
theorem isEp_form {v : Value} (h : isEp v = true) : ∃ es, v = .iface 1000000002 (.agg ⟨es⟩) := by
  unfold isEp at h
  split at h
  · rename_i t es
    have := Nat.eq_of_beq_eq_true h
    subst this
    exact ⟨es.toList, rfl⟩
  · cases h
section
variable {E : Env}
theorem kr_opt (x : Option Value) : KR (fun k => opt x k) (opt x .ret) := KR.opt (q := fun a k => k a) fun _ => KR.ret _
theorem arithK_kr (op : BinOp) (d : IntKind) (x y : Int) : KR (arithK op d x y) (arithP op d x y) := by
  cases op <;> unfold arithK arithP <;> dsimp only <;> first | exact kr_opt _ | exact KR.gc (KR.ret _)
theorem shiftK_kr (op : BinOp) (d : IntKind) (x y : Int) : KR (shiftK op d x y) (shiftP op d x y) := by
  cases op <;> unfold shiftK shiftP <;> dsimp only <;> first | exact KR.fail _ | exact KR.gc (KR.ret _)
theorem strOpK_kr (op : BinOp) (x y : ByteArray) : KR (strOpK op x y) (strOpP op x y) := by
  cases op <;> unfold strOpK strOpP <;> dsimp only <;> first | exact kr_opt _ | exact KR.gc (KR.ret _)
theorem binK_kr (op : BinOp) (t : TypeId) (xo yo : Operand) (x y : Value) : KR (binK E op t xo yo x y) (binP E op t xo yo x y) := by
  have hi : ∀ (op : BinOp) (d d' : IntKind) (a b : Int), KR (fun k => match decide (d = d') with | true => arithK op d a b k | false => Prog.fail) (match decide (d = d') with | true => arithP op d a b | false => .fail) := by
    intro op d d' a b
    cases decide (d = d')
    · exact KR.fail _
    · exact arithK_kr _ _ _ _
  cases x
  case int d a =>
    cases y
    case int d' b =>
      cases op <;> unfold binK binP <;> dsimp only <;> first | exact hi _ _ _ _ _ | exact shiftK_kr _ _ _ _
    all_goals (cases op <;> unfold binK binP <;> dsimp only <;> exact kr_opt _)
  case string a =>
    cases y
    case string b => cases op <;> unfold binK binP <;> dsimp only <;> exact strOpK_kr _ _ _
    all_goals (cases op <;> unfold binK binP <;> dsimp only <;> exact kr_opt _)
  all_goals (cases op <;> unfold binK binP <;> dsimp only <;> exact kr_opt _)
theorem loadK_kr (t : TypeId) (cs : List Value) : KR (loadK E t cs) (loadE E t cs) := by
  unfold loadK loadE
  cases E.und t with
  | none => exact KR.fail _
  | some d =>
    dsimp only
    cases isAggD d with
    | true => exact KR.opt fun _ => KR.gc (KR.ret _)
    | false => exact KR.gc (KR.ret _)
theorem fieldAddrK_kr (t : TypeId) (x : Value) (f : Nat) : KR (fieldAddrK E t x f) (fieldAddrA E t x f) := by
  unfold fieldAddrK
  split
  · rename_i hep
    obtain ⟨es, rfl⟩ := isEp_form hep
    unfold fieldAddrA
    split
    · rename_i fs he
      simp only [he]
      show KR (fun k => opt fs[f]? fun fd => match E.size fd.type with | some (_ + 1) => _ | _ => .fail) (opt fs[f]? fun fd => match E.size fd.type with | some (_ + 1) => _ | _ => .fail)
      refine KR.opt fun fd => ?_
      cases E.size fd.type with
      | none => exact KR.fail _
      | some n =>
        cases n with
        | zero => exact KR.fail _
        | succ n => exact KR.gc (KR.ret _)
    · exact KR.fail _
  · exact KR.callP _
theorem indexAddrK_kr (t : TypeId) (x i : Value) : KR (indexAddrK E t x i) (indexAddrA E t x i) := by
  unfold indexAddrK indexAddrA
  cases isL x with
  | true =>
    refine KR.natK fun n => ?_
    dsimp only
    split
    · rename_i e he
      simp only [he]
      exact KR.opt fun _ => KR.gc (KR.ret _)
    · exact KR.fail _
  | false =>
    refine KR.natK fun n => ?_
    dsimp only
    split
    · rename_i e a len c he
      simp only [he]
      exact KR.opt fun _ => KR.gc (KR.ret _)
    · rename_i len e a he
      simp only [he]
      exact KR.opt fun _ => KR.gc (KR.ret _)
    · exact KR.fail _
theorem indexK_kr (t : TypeId) (x i : Value) : KR (indexK E t x i) (indexOp E t x i) := by
  unfold indexK indexOp
  refine KR.natK fun n => ?_
  split
  · rename_i he
    simp only [he]
    exact KR.gc (KR.ret _)
  · rename_i he
    simp only [he]
    exact KR.opt fun _ => KR.gc (kr_opt _)
  · exact KR.fail _
theorem sliceK_kr (t : TypeId) (x : Value) (lo hi mx : Option Value) : KR (sliceK E t x lo hi mx) (sliceA E t x lo hi mx) := by
  unfold sliceK
  split
  · rename_i hL
    unfold sliceA
    rw [hL]
    refine KR.natOrK fun l => ?_
    dsimp only
    split
    · rename_i e he
      simp only [he]
      refine KR.opt fun _ => KR.natOrK fun h => ?_
      cases mx with
      | none => exact KR.gc (KR.ret _)
      | some m => exact KR.natK fun _ => KR.gc (KR.gc (KR.ret _))
    · exact KR.fail _
  · rename_i hL
    split
    · unfold sliceA
      rw [hL]
      refine KR.natOrK fun l => ?_
      dsimp only
      split
      · rename_i he
        simp only [he]
        exact KR.natOrK fun _ => KR.gc (KR.ret _)
      · exact KR.fail _
    · exact KR.callP _
theorem plainK_kr (ρ : Operand → Value) (op : Op) : KR (plainK E ρ op) (plainOp E ρ op) := by
  unfold plainK
  split
  · exact KR.ret _
  · exact KR.ret _
  · rename_i c a b
    simp only [plainOp]
    split
    · rename_i t hct
      simp only [hct]
      split
      · rename_i hb
        simp only [Bool.and_eq_true] at hb
        obtain ⟨ha, hb⟩ := hb
        intro k s r h
        have ea : ∀ v : Value, isBoolV v = true → v = .bool (boolOf v) := by
          intro v hv
          cases v <;> first | rfl | (simp [isBoolV] at hv)
        cases t with
        | true =>
          show (k (ρ a)).run s = some r
          rw [ea _ ha]
          exact h
        | false =>
          show (k (ρ b)).run s = some r
          rw [ea _ hb]
          exact h
      · intro k s r h
        cases t <;> exact h
    · exact KR.fail _
  · rename_i t a
    split
    · rename_i hep
      obtain ⟨es, he⟩ := isEp_form hep
      simp only [plainOp, he, isEp, elems]
      exact loadK_kr t es
    · exact KR.callP _
  · simp only [plainOp]; exact binK_kr _ _ _ _ _ _
  · simp only [plainOp]; exact sliceK_kr _ _ _ _ _
  · simp only [plainOp]; exact fieldAddrK_kr _ _ _
  · simp only [plainOp]; exact indexAddrK_kr _ _ _
  · simp only [plainOp]; exact indexK_kr _ _ _
  · exact KR.callP _
end
theorem opK_run {E : Env} {ih : Rec} {tm : Tm} {o : Oper} {k : Value → Prog} {s : St} {r : Value × St} (h : (opK E ih tm o k).run s = some r) : ∃ u s1, (opA E ih tm o).run s = some (u, s1) ∧ (k u).run s1 = some r := by
  obtain ⟨dst, op, type, pos, after, gd0⟩ := o
  unfold opK at h
  unfold opA
  dsimp only at h ⊢
  split at h
  · split at h
    · exact callP_run h
    · split at h
      · exact call_run h
      · exact (fail_run h).elim
    · exact (fail_run h).elim
  · exact (plainK_kr _ _).run h
theorem deferOf_ok {op : Op} {c : Call} (h : deferOf op = some c) : op = .defer c := by
  unfold deferOf at h
  split at h
  · simp only [Option.some.injEq] at h; rw [h]
  · cases h
theorem deferOf_none {op : Op} (h : deferOf op = none) : ∀ c, op ≠ .defer c := by
  rintro c rfl
  simp [deferOf] at h
theorem FR.put {ρ : Map} {fn : Nat} {tm : Tm} {df : List Deferred} {rd : Option Nat} {b : Frame} {a : Act} {cs : List Frame} (h : FR P ρ fn tm df rd b a cs) (d : Option Nat) {v v' : Value} (hv : VR ρ v v') :
    FR P ρ fn (putT tm d v) df rd b (a.put d v') cs :=
  ⟨h.hfn, h.htm.put d hv, by cases d <;> exact h.hdf, h.hrd, h.hkind, h.hdk⟩
theorem opsA_ok (ok : EnvOK P E) {io : Rec} (hm : Main P B0 w0 io) {ops : Array Oper} (hops : ops.toList.all (okOper P.globals.size) = true) {fn : Nat} {rd : Option Nat} {K : Tm → List Deferred → Prog} : ∀ (l : List Oper) (i : Nat), ops.toList.drop i = l →
    ∀ (tm : Tm) (df : List Deferred) (s s' : St) (v : Value), (opsA E io fn rd ops.toList l tm df K).run s = some (v, s') → ∀ (ρ : Map) (w : World) (b : Frame) (a : Act) (cs : List Frame) (kk : List Item),
    FR P ρ fn tm df rd b a cs → WR P ρ B0 w0 s.mem w → Fr ρ s.mem s.ctr s'.ctr → GlOK P ρ →
    ∃ tm1 df1 s1 ρ1 w1 a1, (K tm1 df1).run s1 = some (v, s') ∧ Gr ρ ρ1 s.ctr s1.ctr ∧ s.ctr ≤ s1.ctr ∧ FR P ρ1 fn tm1 df1 rd b a1 cs ∧ WR P ρ1 B0 w0 s1.mem w1 ∧
      Steps P (lone (b.atR a (.inRegion ops (List.range' i l.length) :: kk)) cs w) (lone (b.atR a1 (.inRegion ops [] :: kk)) cs w1) := by
  intro l
  induction l with
  | nil =>
    intro i _ tm df s s' v h ρ w b a cs kk fr r fresh gl
    exact ⟨tm, df, s, ρ, w, a, h, Gr.refl _ _ _, Nat.le_refl _, fr, r, Steps.refl _ _⟩
  | cons o rest ih =>
    intro i hd tm df s s' v h ρ w b a cs kk fr r fresh gl
    have hi : ops[i]? = some o := by
      have : (ops.toList.drop i)[0]? = some o := by rw [hd]; rfl
      simpa using this
    have hd1 : ops.toList.drop (i + 1) = rest := by
      have : (ops.toList.drop i).drop 1 = rest := by rw [hd]; rfl
      simpa [Nat.add_comm] using this
    have hoo : okOper P.globals.size o = true := List.all_eq_true.1 hops o (by
      have : ops.toList[i]? = some o := by simpa using hi
      exact List.mem_of_getElem? this)
    rw [List.length_cons, List.range'_succ]
    simp only [opsA, opsL] at h
    obtain ⟨hchk, h⟩ := ck_run h
    simp only [chk, Bool.and_eq_true] at hchk
    obtain ⟨hlg, hlo⟩ := hchk
    have hw := wanted_ok (ops := ops) fr.htm o hlg
    obtain ⟨tm', hsame, h⟩ := guardC_run hlg h
    have hlo' : liveOs tm' o.op.operands.toList = true := by
      rw [← hlo]
      exact liveOs_congr fun x _ => liveO_congr fun t _ => congrArg Prod.snd (hsame.2 t)
    have frs : FR P ρ fn tm' df rd b a cs := { fr with htm := fr.htm.same hsame }
    rcases h with ⟨hwt, h⟩ | ⟨hwf, h⟩
    rotate_left
    · have hs := stepR_op_skip (P := P) (b := b) (a := a) (k := kk) (cs := cs) (w := w) (ops := ops) (i := i) (rest := List.range' (i + 1) rest.length) (by simp [hi, hw, hwf])
      simp only [hi, Option.bind_some] at hs
      obtain ⟨tm1, df1, s1, ρ1, w1, a1, q1, q2, q3, q4, q5, q6⟩ := ih (i + 1) hd1 _ df s s' v h ρ w b (a.put o.dst undef) cs kk (frs.put o.dst (U_VR ρ)) r fresh gl
      exact ⟨tm1, df1, s1, ρ1, w1, a1, q1, q2, q3, q4, q5, .head hs q6⟩
    · have hst := stepGR_op (P := P) (b := b) (a := a) (k := kk) (cs := cs) (w := w) (rest := List.range' (i + 1) rest.length) hi (by rw [hw, hwt])
      split at h
      · rename_i c hdc
        have hop := deferOf_ok hdc
        obtain ⟨d, hda, h1⟩ := opt_run h
        unfold deferA at hda
        split at hda
        · rename_i f hcal _ _
          split at hda
          · rename_i fv first captured hev
            simp only [Option.some.injEq] at hda
            subst hda
            have hro := frs.hrd.none_inv
            have hρ : ∀ x ∈ c.operands.toList, VR ρ (evO tm' x) (a.eval x) := fun x hx => evO_ok frs.htm gl (List.all_eq_true.1 hoo x (by rw [hop]; exact hx)) (liveOs_mem hlo' (by rw [hop]; exact hx))
            have hfv := hρ f (by simp [Call.operands, hcal])
            rw [hev] at hfv
            generalize hav : a.eval f = fu at hfv
            obtain ⟨fl⟩ := first
            obtain ⟨cl⟩ := captured
            cases hfv with
            | @fn _ fv' _ first' _ captured' h2 h3 h4 =>
            have hargs : VRs ρ (c.args.toList.map (evO tm')) (c.args.toList.map a.eval) := VRs.map _ _ _ (fun x hx => hρ x (by simp only [Call.operands, Array.toList_append, List.mem_append]; exact .inr hx))
            let d' : Deferred := ⟨.fn fv' ⟨captured'⟩, ⟨first'⟩ ++ c.args.map a.eval⟩
            have hdr : DR ρ ⟨.fn fv ⟨cl⟩, ⟨fl⟩ ++ c.args.map (evO tm')⟩ d' := by
              have e1 : (⟨fl⟩ ++ c.args.map (evO tm') : Array Value) = ⟨fl ++ c.args.toList.map (evO tm')⟩ := by apply Array.ext'; simp
              have e2 : (⟨first'⟩ ++ c.args.map a.eval : Array Value) = ⟨first' ++ c.args.toList.map a.eval⟩ := by apply Array.ext'; simp
              simp only [d', e1, e2]
              exact .fn h2 h4 (h3.append hargs)
            have hrun : (execOp a.eval o).run P w = .ok (.defer d') w := by
              simp only [execOp, hop, resolve, hcal, hav, Deferred.ofValue, Sem.run_bind, Sem.run_pure, Result.andThen_ok]
              rfl
            rw [hro, Oper.semAt_none] at hst
            have hs : step P (lone (b.atR a (.inRegion ops (i :: List.range' (i + 1) rest.length) :: kk)) cs w) =
                .next (lone (b.atR ({ a with defers := d' :: a.defers }.put o.dst undef) (.inRegion ops (List.range' (i + 1) rest.length) :: kk)) cs w) := by
              refine step_lone_go ?_
              rw [hst]
              have := Frame.finish_atR b { a with defers := d' :: a.defers } ops i (List.range' (i + 1) rest.length) kk undef
              rw [hi] at this
              simp only [stepG.apply, Sem.runT_eq, hrun, GStep.bare_after]
              exact congrArg (fun fr => GStep.go { frame := fr, callers := cs, status := .running, dying := none } w) this
            have fr1 : FR P ρ fn tm' (⟨.fn fv ⟨cl⟩, ⟨fl⟩ ++ c.args.map (evO tm')⟩ :: df) none b { a with defers := d' :: a.defers } cs := ⟨frs.hfn, frs.htm, .cons hdr frs.hdf, frs.hrd, frs.hkind, frs.hdk⟩
            obtain ⟨tm1, df1, s1, ρ1, w1, a1, q1, q2, q3, q4, q5, q6⟩ := ih (i + 1) hd1 _ _ s s' v h1 ρ w b _ cs kk (fr1.put o.dst (U_VR ρ)) r fresh gl
            exact ⟨tm1, df1, s1, ρ1, w1, a1, q1, q2, q3, q4, q5, .head hs q6⟩
          · cases hda
        · cases hda
      · rename_i hdn
        obtain ⟨u, s1, h1, h2⟩ := opK_run h
        replace h2 := nmP_run h2
        rw [o.semAt_eq b.roundOf a.eval (deferOf_none hdn)] at hst
        have hle := Prog.ctr_le h2
        have hle1 := Prog.ctr_le h1
        obtain ⟨ρ1, w1, u', g1, g2, g3, g4, g5⟩ := opA_goes ok hm h1 r (fresh.before hle) gl frs.htm hoo hlo' (b.atR a (.inRegion ops (i :: List.range' (i + 1) rest.length) :: kk)) cs _ (.inl ⟨_, _, _, rfl⟩) (at_lone hst)
        rw [Frame.finish_atR] at g5
        simp only [hi, Option.bind_some] at g5
        obtain ⟨tm1, df1, s2, ρ2, w2, a1, q1, q2, q3, q4, q5, q6⟩ := ih (i + 1) hd1 _ df s1 s' v h2 ρ1 w1 b (a.put o.dst u') cs kk ((frs.ext g1.1).put o.dst g3) g4 (fresh.after g1 hle1) (gl.ext g1.1)
        exact ⟨tm1, df1, s2, ρ2, w2, a1, q1, g1.trans q2 hle1 q3, Nat.le_trans hle1 q3, q4, q5, g5.trans q6⟩
end
end Go.Ev
/- Soundness, part 18: leaving a frame. -/
namespace Go.Ev
open Go Go.RowKit
section
variable {P : Program} {E : Env} {B0 : Nat} {w0 : World}
theorem loadT_pure (ok : EnvOK P E) {ρ : Map} {w : World} {t b o : Nat} {s s' : St} {v : Value} (h : (loadT E t b o).run s = some (v, s')) (r : WR P ρ B0 w0 s.mem w) {x : Blk} (hb : ρ b = some x) :
    ∃ v', (loadVar t ⟨x.B, x.sh + o, none⟩).run P w = .ok v' w ∧ VR ρ v v' ∧ s'.mem = s.mem ∧ s'.ctr = s.ctr := by
  unfold loadT at h
  split at h
  · rename_i d hd
    split at h
    · rename_i hag
      obtain ⟨n, hn, h⟩ := opt_run h
      obtain ⟨vs, s1, hr, h⟩ := rd_run h
      obtain ⟨rfl, rfl⟩ := ret_run h
      obtain ⟨hm, hc, _, _, _⟩ := St.rd_spec hr
      obtain ⟨vs', hl, hv, hcell⟩ := r.mr.rd hr hb
      refine ⟨.agg ⟨vs'⟩, ?_, .agg hv, hm, hc⟩
      simp only [loadVar, Sem.run_bind, isAgg_run ok hd, hag, Result.andThen_ok, if_true, run_size ok hn, run_loadRow hl hcell, Sem.run_pure]
    · rename_i hag
      obtain ⟨vs, s1, hr, h⟩ := rd_run h
      split at h
      · rename_i u
        obtain ⟨rfl, rfl⟩ := ret_run h
        obtain ⟨hm, hc, _, _, _⟩ := St.rd_spec hr
        obtain ⟨vs', hl, hv, hcell⟩ := r.mr.rd hr hb
        cases hv with
        | cons hv htl =>
          have h0 := hcell 0 _ rfl
          simp only [Nat.add_zero] at h0
          refine ⟨_, ?_, hv, hm, hc⟩
          simp only [loadVar, Sem.run_bind, isAgg_run ok hd, hag, Result.andThen_ok, Bool.false_eq_true, if_false, run_load, h0]
      · cases h
  · cases h
def resF (tmps : Array Value) : ResultVar → Sem Value
  | .tmp t => pure (tmps.getD t undef)
  | .cell a t => do loadVar t (← asAddr (tmps.getD a undef))
theorem results_eq (fn : Func) (tmps : Array Value) : results fn tmps = (do let vs ← fn.results.mapM (resF tmps); pure (if h : vs.size = 1 then vs[0] else .tuple vs)) := by
  unfold results
  congr
theorem resultsA_ok (ok : EnvOK P E) {ρ : Map} {tm : Tm} {tmps : Array Value} {w : World} (ht : TR ρ tm tmps) : ∀ (l : List ResultVar) (K : List Value → Prog) (s s' : St) (v : Value), (resultsA E tm l K).run s = some (v, s') → WR P ρ B0 w0 s.mem w →
    ∃ vs vs' s1, (K vs).run s1 = some (v, s') ∧ s1.mem = s.mem ∧ s1.ctr = s.ctr ∧ VRs ρ vs vs' ∧
      (l.mapM (resF tmps)).run P w = .ok vs' w := by
  intro l
  induction l with
  | nil => intro K s s' v h r; exact ⟨[], [], s, h, rfl, rfl, .nil, by simp⟩
  | cons x l ih =>
    intro K s s' v h r
    cases x with
    | tmp t =>
      simp only [resultsA] at h
      obtain ⟨hlv, h⟩ := ck_run h
      obtain ⟨vs, vs', s1, q1, q2, q3, q4, q5⟩ := ih _ s s' v h r
      refine ⟨_, _ :: vs', s1, q1, q2, q3, .cons (ht.2 t hlv) q4, ?_⟩
      rw [List.mapM_cons]
      simp only [resF, Sem.run_bind, Sem.run_pure, Result.andThen_ok]
      rw [q5]
      rfl
    | cell a t =>
      simp only [resultsA] at h
      split at h
      · rename_i ad had
        obtain ⟨hlv, h⟩ := ck_run h
        obtain ⟨u, s1, h1, h2⟩ := call_run h
        have ha := ht.2 a hlv
        rw [had] at ha
        obtain ⟨y, hy, hs, he⟩ := ha.ptr_inv
        obtain ⟨u', e1, e2, e3, e4⟩ := loadT_pure ok h1 r hy
        obtain ⟨vs, vs', s2, q1, q2, q3, q4, q5⟩ := ih _ s1 s' v h2 (e3 ▸ r)
        refine ⟨_, u' :: vs', s2, q1, q2.trans e3, q3.trans e4, .cons e2 q4, ?_⟩
        rw [List.mapM_cons]
        have e5 : ((do loadVar t (← asAddr (tmps.getD a undef))) : Sem Value).run P w = .ok u' w := by
          rw [he]
          exact e1
        rw [Sem.run_bind, show (resF tmps (.cell a t)).run P w = .ok u' w from e5, Result.andThen_ok, Sem.run_bind, q5]
        rfl
      · exact (fail_run h).elim
theorem results_ok {fn : Func} {tmps : Array Value} {w : World} {vs' : List Value}
    (h : (fn.results.toList.mapM (resF tmps)).run P w = .ok vs' w) :
    ∃ u, (results fn tmps).run P w = .ok u w ∧ (∀ {ρ : Map} {vs : List Value}, VRs ρ vs vs' → VR ρ (resultV vs) u) := by
  refine ⟨resultV vs', ?_, fun hv => ?_⟩
  · rw [results_eq, Array.mapM_eq_mapM_toList]
    simp only [map_eq_pure_bind, bind_assoc, pure_bind, Sem.run_bind]
    rw [h, Result.andThen_ok]
    cases vs' with
    | nil => rfl
    | cons a l => cases l with
      | nil => rfl
      | cons b l => simp [resultV]
  · cases hv with
    | nil => exact .tuple .nil
    | cons h1 h2 => cases h2 with
      | nil => exact h1
      | cons h2 h3 => exact .tuple (.cons h1 (.cons h2 h3))
theorem step_collected {fr : Frame} {cs : List Frame} {w w' : World} {B : Nat} {as_ : Array Value} {ds ds' : List Deferred} (hm : fr.mode = .returning) (hd : fr.defers = ⟨.collected B, as_⟩ :: ds)
    (ht : (Instr.takeDeferred B).run P w = .ok ds' w') : step P (lone fr cs w) = .next (lone { fr with defers := ds' ++ ds } cs w') :=
  step_lone_go (by simp [stepG, unwind, hm, hd, ht])
end
end Go.Ev
