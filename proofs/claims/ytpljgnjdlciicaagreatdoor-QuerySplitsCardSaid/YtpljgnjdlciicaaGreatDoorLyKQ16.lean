/- Soundness, part 19: the deferred calls, then the results. -/
import Derived.Test.YtpljgnjdlciicaaGreatDoorLyKQ15
import Derived.RangeFuncIn
import Derived.Test.YtpljgnjdlciicaaGreatDoorLyKQ3
namespace Go.Ev
open Go Go.RowKit
section
variable {P : Program} {E : Env} {B0 : Nat} {w0 : World}
theorem DsR.append {ρ : Map} {a a' b b' : List Deferred} (h : DsR ρ a a') (k : DsR ρ b b') : DsR ρ (a ++ b) (a' ++ b') := by
  induction h with
  | nil => exact k
  | cons x _ ih => exact .cons x ih
theorem dfOf_ok {o : Slot} {ds : List Deferred} (h : dfOf o = some ds) : o = .dfr (some ds) := by
  unfold dfOf at h
  split at h
  · simp only [Option.some.injEq] at h; rw [h]
  · cases h
theorem leaveA_ok (ok : EnvOK P E) {io : Rec} (hm : Main P B0 w0 io) {fn : Nat} {tm : Tm} : ∀ (k : Nat) (df : List Deferred) (s s' : St) (v : Value), (leaveA E io fn tm k df).run s = some (v, s') →
    ∀ (ρ : Map) (w : World) (fr : Frame) (cs : List Frame), fr.fn = fn → fr.mode = .returning → TR ρ tm fr.tmps → DsR ρ df fr.defers → WR P ρ B0 w0 s.mem w → Fr ρ s.mem s.ctr s'.ctr → GlOK P ρ →
    ∃ ρ' w' v' fr', Gr ρ ρ' s.ctr s'.ctr ∧ VR ρ' v v' ∧ WR P ρ' B0 w0 s'.mem w' ∧ Steps P (lone fr cs w) (lone fr' cs w') ∧ fr'.fn = fn ∧ fr'.kind = fr.kind ∧ fr'.mode = .returning ∧ fr'.defers = [] ∧
      ∃ f, P.funcs[fn]? = some f ∧ (results f fr'.tmps).run P w' = .ok v' w' := by
  intro k
  induction k with
  | zero => intro df s s' v h; exact (fail_run h).elim
  | succ k ih =>
    intro df s s' v h ρ w fr cs hfn hmode ht hdf r fresh gl
    cases df with
    | nil =>
      simp only [leaveA] at h
      obtain ⟨f, hf, h1⟩ := opt_run h
      obtain ⟨vs, vs', s1, q1, q2, q3, q4, q5⟩ := resultsA_ok ok ht f.results.toList _ s s' v h1 r
      obtain ⟨u, e1, e2⟩ := results_ok q5
      have hd : fr.defers = [] := by
        generalize fr.defers = dd at hdf
        cases hdf; rfl
      split at q1
      · obtain ⟨rfl, rfl⟩ := ret_run q1
        exact ⟨ρ, w, u, fr, Gr.refl _ _ _, e2 q4, q2 ▸ r, Steps.refl _ _, hfn, rfl, hmode, hd, f, ok.fn fn f hf, e1⟩
      · obtain ⟨ρ1, vs1, s2, b1, b2, b3, b4, b5⟩ := frzAs_ok (P := P) (B0 := B0) (w0 := w0) _ _ ρ vs vs' _ s1 w _ q1 q4 (q2 ▸ r)
        obtain ⟨rfl, rfl⟩ := ret_run b1
        exact ⟨ρ1, w, u, fr, b4.gr _ _, e2 b2, b3, Steps.refl _ _, hfn, rfl, hmode, hd, f, ok.fn fn f hf, e1⟩
    | cons d ds =>
      generalize hdd : fr.defers = dd at hdf
      cases hdf with
      | @cons _ d' _ ds2 hd hds =>
      obtain ⟨tgt, as_⟩ := d
      cases hd with
      | @fn f f' c c' a a' hf hc ha =>
        simp only [leaveA] at h
        cases hf with
        | func f =>
          obtain ⟨hg, h1⟩ := gd_run h
          obtain ⟨u, s1, h2, h3⟩ := call_run h1
          have hle := Prog.ctr_le h3
          have hle1 := Prog.ctr_le h2
          unfold callF at h2
          obtain ⟨fd, hfd, h4⟩ := opt_run h2
          have hsome : (∃ c, fd.body = some c) ∧ E.orc f = none := by
            unfold isGoF at hg
            rw [hfd] at hg
            simp only [Bool.and_eq_true, Option.isNone_iff_eq_none] at hg
            exact ⟨Option.isSome_iff_exists.1 hg.1, hg.2⟩
          obtain ⟨⟨body, hb⟩, horc⟩ := hsome
          rw [hb] at h4
          dsimp only at h4
          rw [horc] at h4
          dsimp only at h4
          obtain ⟨_, h6⟩ := ck_run h4
          have hargs : VRs ρ (a ++ c) (a' ++ c') := ha.append hc
          obtain ⟨ρ0, args1, s0, h7, ha1, r1, gl1, hc1⟩ := frzAs_ok (P := P) (B0 := B0) (w0 := w0) _ _ ρ (a ++ c) (a' ++ c') _ s w _ h6 hargs r
          obtain ⟨hlen, h5⟩ := ck_run h7
          have hlen := Nat.le_of_ble_eq_true hlen
          have fr1 : Fr ρ0 s0.mem s0.ctr s1.ctr := by rw [hc1]; exact gl1.fr (fresh.before hle)
          have hPf := ok.fn f fd hfd
          have hinv : (invoke (.fn (.func f) ⟨c'⟩) ⟨a'⟩).run P w = .ok (.enter f ⟨a' ++ c'⟩) w := by
            have e : (⟨a'⟩ ++ ⟨c'⟩ : Array Value) = ⟨a' ++ c'⟩ := by apply Array.ext'; simp
            simp only [invoke, e]
            unfold callFunc
            simp only [Sem.run_bind, show (program).run P w = .ok P w from rfl, Result.andThen_ok, hPf, ok.names f fd hfd, Bool.false_eq_true, if_false, hb, Option.isNone_some]
            rfl
          have hs := step_defer (P := P) (cs := cs) (w := w) (d := ⟨.fn (.func f) ⟨c'⟩, ⟨a'⟩⟩) (ds := ds2) (by rw [hmode]; simp) hdd rfl hinv
          let b : Frame := { (default : Frame) with fn := f, kind := .deferred }
          let act : Act := { tmps := (⟨a' ++ c'⟩ : Array Value) ++ Array.replicate (fd.ntmps - (⟨a' ++ c'⟩ : Array Value).size) undef, defers := [] }
          have henter : Frame.enter P f ⟨a' ++ c'⟩ .deferred = b.atR act [.code body] := by
            simp [Frame.enter, Frame.atR, hPf, hb, b, act]
            rfl
          obtain ⟨ρ1, w1, v1, g1, g2, g3, g4⟩ := hm f (frameTm fd.ntmps args1) [.code body] [] none s0 u s1 h5 (by simp [okItem, ok.code f fd body hfd hb]) ρ0 w b act ({ fr with defers := ds2 } :: cs)
            ⟨rfl, TR.enter ha1 hlen, .nil, trivial, fun q => absurd rfl q, by simp [b]⟩ r1 fr1 (gl.ext gl1.1)
          have g1 : Gr ρ ρ1 s.ctr s1.ctr := by
            rw [hc1] at g1
            exact (gl1.gr s.ctr s.ctr).trans g1 (Nat.le_refl _) hle1
          obtain ⟨frx, e1, e2, e3, e4, e5, fn', e6, e7⟩ := (show ∃ fr', Steps P (lone (b.atR act [.code body]) ({ fr with defers := ds2 } :: cs) w) (lone fr' ({ fr with defers := ds2 } :: cs) w1) ∧ fr'.fn = b.fn ∧ fr'.kind = b.kind ∧ fr'.mode = .returning ∧ fr'.defers = [] ∧
            ∃ f, P.funcs[b.fn]? = some f ∧ (results f fr'.tmps).run P w1 = .ok v1 w1 from g4)
          have hback := step_going_returned (P := P) (fr := frx) (c := { fr with defers := ds2 }) (cs := cs) (w := w1) (v := v1) e3 ⟨e4, e5, fn', by rw [e2]; exact e6, e7⟩
          obtain ⟨ρ', w', v', fr', q1, q2, q3, q4, q5, q6, q7, q8, q9⟩ := ih ds s1 s' v h3 ρ1 w1 { fr with defers := ds2, mode := settle fr.mode } cs hfn (by simp only [hmode]; rfl) (ht.ext g1.1) (hds.ext g1.1) g3 (fresh.after g1 hle1) (gl.ext g1.1)
          refine ⟨ρ', w', v', fr', g1.trans q1 hle1 hle, q2, q3, .head hs ?_, q5, q6, q7, q8, q9⟩
          rw [henter]
          exact e1.trans (.head hback q4)
        | method m => exact (fail_run h).elim
        | yield _ => exact (fail_run h).elim
      | @col rr x hx =>
        simp only [leaveA] at h
        obtain ⟨o, ho, n1, n2, h1⟩ := obj_run h
        obtain ⟨ds', hds', h2⟩ := opt_run h1
        obtain ⟨o0, ho0, m1, m2, h3⟩ := setObj_run h2
        obtain rfl := dfOf_ok hds'
        obtain ⟨ob, g1, g2, g3, g0⟩ := r.obj ho n1 n2 hx
        cases g2 with
        | @dfr _ dsc hdsc =>
        obtain ⟨e1, e2⟩ := r.setObj (k := rr) (o' := .dfr none) (ob' := .deferred none) ho0 m1 m2 hx rfl .dfrN
        have hs := step_collected (cs := cs) hmode hdd (run_takeDeferred (P := P) g3)
        obtain ⟨ρ', w', v', fr', q1, q2, q3, q4, q5, q6, q7, q8, q9⟩ := ih _ _ s' v h3 ρ _ { fr with defers := dsc ++ ds2 } cs hfn hmode ht (hdsc.append hds) e2 ⟨fresh.map⟩ gl
        exact ⟨ρ', w', v', fr', q1, q2, q3, .head hs q4, q5, q6, q7, q8, q9⟩
end
end Go.Ev
/- Soundness, part 20: ranges over functions. -/
namespace Go.Ev
open Go Go.RowKit
section
variable {P : Program} {E : Env} {B0 : Nat} {w0 : World}
/-- A round begins. -/
theorem beginRound_ok {ρ : Map} {w : World} {l : Nat} {s s' : St} {v : Value} {k : Prog} (h : (Prog.obj l fun o => opt (lpOf o) fun p => gd (isReady p.st) (.setObj l (.lp { p with st := .busy }) k)).run s = some (v, s')) (r : WR P ρ B0 w0 s.mem w) {x : Blk} (hx : ρ l = some x) :
    ∃ s1 w', k.run s1 = some (v, s') ∧ s1.ctr = s.ctr ∧ WR P ρ B0 w0 s1.mem w' ∧ (Instr.beginRound x.B).run P w = .ok () w' := by
  obtain ⟨o, ho, n1, n2, h1⟩ := obj_run h
  obtain ⟨p, hp, h2⟩ := opt_run h1
  obtain ⟨hr, h3⟩ := gd_run h2
  obtain ⟨o0, ho0, m1, m2, h4⟩ := setObj_run h3
  obtain rfl := lpOf_ok hp
  obtain ⟨ob, g1, g2, g3, g0⟩ := r.obj ho n1 n2 hx
  cases g2 with
  | @lp _ a y htm hd ha hb hpd =>
  have hready : p.st = .ready := by
    cases hst : p.st <;> rw [hst] at hr <;> first | rfl | cases hr
  obtain ⟨e1, e2⟩ := r.setObj (k := l) (o' := .lp { p with st := .busy }) ho0 m1 m2 hx rfl (ObR.lp (p := { p with st := .busy }) htm hd ha hb hpd)
  refine ⟨_, _, h4, rfl, e2, ?_⟩
  exact run_beginRound (P := P) g3 (by simp [hready, lst])
theorem isBusy_ok {p : Lp} (h : (!isBusy p.st) = true) : lst p.st ≠ .busy := by
  cases hst : p.st <;> rw [hst] at h <;> first | (cases h; done) | (intro e; cases e)
theorem rangeFuncA_ok (ok : EnvOK P E) {io ih : Rec} (hm : Main P B0 w0 io) {ρ : Map} {w : World} {fn : Nat} {tm : Tm} {f : Operand} {ps : Array Tmp} {assign body : Code} {k : List Item} {df : List Deferred} {b : Frame} {a : Act} {cs : List Frame} {s s' : St} {v : Value}
    (h : (rangeFuncA E io ih fn tm f ps.toList assign body k df).run s = some (v, s')) (fr : FR P ρ fn tm df none b a cs) (r : WR P ρ B0 w0 s.mem w) (fresh : Fr ρ s.mem s.ctr s'.ctr) (gl : GlOK P ρ)
    (hf : okO P.globals.size f = true) (ha : okCode P.globals.size assign = true) (hb : okCode P.globals.size body = true) (hk : k.all (okItem P.globals.size) = true) :
    ∃ todo' df' s1 ρ1 w1 a1, (ih fn tm todo' df' none).run s1 = some (v, s') ∧ todo'.all (okItem P.globals.size) = true ∧ FR P ρ1 fn tm df' none b a1 cs ∧ WR P ρ1 B0 w0 s1.mem w1 ∧ Gr ρ ρ1 s.ctr s1.ctr ∧ s.ctr ≤ s1.ctr ∧
      Steps P (lone (b.atR a (.code (.rangeFunc f ps assign body) :: k)) cs w) (lone (b.atR a1 todo') cs w1) := by
  unfold rangeFuncA at h
  have hro := fr.hrd.none_inv
  split at h
  · rename_i g first captured hev
    obtain ⟨hlv, h⟩ := ck_run h
    have hfv := evO_ok fr.htm gl hf hlv
    rw [hev] at hfv
    generalize hav : a.eval f = fu at hfv
    obtain ⟨fl⟩ := first
    obtain ⟨cl⟩ := captured
    cases hfv with
    | @fn _ g' _ first' _ captured' hg hfi hca =>
    have h1 := newObj_run h
    have h2 := newObj_run h1
    obtain ⟨u, s3, h3, h4⟩ := call_run h2
    obtain ⟨o, ho, n1, n2, h5⟩ := obj_run h4
    obtain ⟨p, hp, h6⟩ := opt_run h5
    obtain ⟨hbz, h7⟩ := gd_run h6
    obtain ⟨o0, ho0, m1, m2, h8⟩ := setObj_run h7
    obtain rfl := lpOf_ok hp
    have hle3 := Prog.ctr_le h3
    have hle8 := Prog.ctr_le h8
    simp only at hle3 hle8
    have fresh1 : Fr ρ s.mem s.ctr (s.ctr + 1) := fresh.before (by omega)
    obtain ⟨ρ1, g1, k1, r1⟩ := r.newObj (k := s.ctr) (o := .dfr (some [])) (ob := .deferred (some [])) fresh1 rfl (.dfr .nil)
    have fresh2 : Fr ρ1 (s.mem.set s.ctr (some (.dfr (some [])))) (s.ctr + 1) s'.ctr := fresh.after g1 (Nat.le_succ _)
    obtain ⟨ρ2, g2, k2, r2⟩ := r1.newObj (k := s.ctr + 1) (o := .lp ⟨.ready, none, fn, tm.nt, tm.lv, tm.t, ps.toList, assign, body, s.ctr⟩)
      (ob := .loop { state := .ready, pending := none, fn := fn, tmps := a.tmps, params := ps, assign, body, defers := w.heap.size }) (fresh2.before (by omega)) rfl
      (ObR.lp (p := ⟨.ready, none, fn, tm.nt, tm.lv, tm.t, ps.toList, assign, body, s.ctr⟩) (fr.htm.ext g1.1) k1 ha hb (fun c e => by cases e))
    have fresh3 : Fr ρ2 ((s.mem.set s.ctr (some (.dfr (some [])))).set (s.ctr + 1) (some (.lp ⟨.ready, none, fn, tm.nt, tm.lv, tm.t, ps.toList, assign, body, s.ctr⟩))) (s.ctr + 1 + 1) s'.ctr := fresh2.after g2 (Nat.le_succ _)
    have gl2 := (gl.ext g1.1).ext g2.1
    let L := (w.alloc (.deferred (some []))).heap.size
    let w2 := (w.alloc (.deferred (some []))).alloc (.loop { state := .ready, pending := none, fn := fn, tmps := a.tmps, params := ps, assign, body, defers := w.heap.size })
    let a2 : Act := { a with defers := ⟨.collected w.heap.size, #[]⟩ :: a.defers }
    let q : Sem Next := do let d ← resolve (b.atR a2 (.inRangeFunc L :: k)).eval (rangeCall f L) 0; invoke d.target d.args
    have hq : q.run P w2 = (invoke (.fn g' ⟨captured'⟩) ⟨first' ++ [.func (.yield L) #[] #[]]⟩).run P w2 := by
      have e0 : (b.atR a2 (.inRangeFunc L :: k)).eval f = .func g' ⟨first'⟩ ⟨captured'⟩ := by
        rw [Frame.eval_atR]; exact hav
      have e1 : (⟨first'⟩ ++ (#[.const (.func (.yield L) #[] #[])] : Array Operand).map (b.atR a2 (.inRangeFunc L :: k)).eval : Array Value) = ⟨first' ++ [.func (.yield L) #[] #[]]⟩ := by
        apply Array.ext'; simp; rfl
      simp only [q, resolve, e0, Deferred.ofValue, Sem.run_bind, Sem.run_pure, Result.andThen_ok, e1]
    have hargs : VRs ρ2 (fl ++ [.func (.yield (s.ctr + 1)) #[] #[]]) (first' ++ [.func (.yield L) #[] #[]]) :=
      ((hfi.ext g1.1).ext g2.1).append (.cons (.fn (.yield k2) .nil .nil) .nil)
    obtain ⟨ρ3, w3, u', g3, _, hu, r3, hsteps⟩ := callV_goes ok hm h3 r2 (fresh3.before (by have := Prog.ctr_le h8; simpa using this)) gl2 ((hg.ext g1.1).ext g2.1) ((hca.ext g1.1).ext g2.1) hargs hq
      (b.atR a2 (.inRangeFunc L :: k)) cs (lone (b.atR a (.code (.rangeFunc f ps assign body) :: k)) cs w) (.inr ⟨_, _, rfl⟩) (fun fr' cs' w' hgo => by
        refine step_lone_go ?_
        have he : (Instr.enterLoop b.fn a.tmps ps assign body b.roundOf).run P w = .ok (L, [⟨.collected w.heap.size, #[]⟩]) w2 := by
          rw [hro, fr.hfn, run_enterLoop_outer]
          have hL : w.heap.size + 1 = L := by
            show w.heap.size + 1 = (w.heap.push _).size
            rw [Array.size_push]
          rw [hL]
        rw [← hgo]
        simp only [stepG, stepG.exec, Frame.atR, Sem.runT_eq, he, GStep.bare_after]
        rfl)
    rw [finish_atR_inRangeFunc] at hsteps
    have k3 := g3.1 _ _ k2
    obtain ⟨ob, y1, y2, y3, y0⟩ := r3.obj ho n1 n2 k3
    cases y2 with
    | @lp _ at_ y htm hd has hbd hpd =>
    obtain ⟨e1, e2⟩ := r3.setObj (k := s.ctr + 1) (o' := .lp { p with st := .exhausted }) (ob' := .loop { state := .exhausted, pending := p.pending, fn := p.fn, tmps := at_, params := ⟨p.params⟩, assign := p.assign, body := p.body, defers := y.B }) ho0 m1 m2 k3 rfl
      (ObR.lp (p := { p with st := .exhausted }) htm hd has hbd hpd)
    have hend := run_endLoop (P := P) y3 (isBusy_ok hbz)
    have hstep := stepR_endRangeFunc (b := b) (a := a2) (k := k) (cs := cs) hend
    have gAll : Gr ρ ρ3 s.ctr s3.ctr := (g1.trans g2 (Nat.le_succ _) (Nat.le_succ _)).trans g3 (by omega) hle3
    refine ⟨_, _, _, ρ3, _, a2, h8, ?_, ⟨fr.hfn, fr.htm.ext gAll.1, .cons (.col (g3.1 _ _ (g2.1 _ _ k1))) (fr.hdf.ext gAll.1), fr.hrd.ext gAll.1, fr.hkind, fr.hdk⟩, e2, gAll, by simp only; omega, ?_⟩
    · cases hpn : p.pending with
      | none => exact hk
      | some c => simp only [List.all_cons, hk, Bool.and_true, okItem, hpd c hpn]
    · refine hsteps.trans (.one ?_)
      rw [hstep]
      cases p.pending <;> rfl
  · exact (fail_run h).elim
end
end Go.Ev
/- Orders: what many operations leave behind does not hang on the order in which they were carried out, if those that touch what another writes keep theirs. No program in sight. -/
namespace Go.Ev

section
variable {K V : Type}
/-- n operations, carried out one behind the other: 'val i k': what is at place k ahead of operation i. -/
structure Turns (n : Nat) (W T : Nat → K → Prop) (mask : Nat → Nat → Prop) (val : Nat → K → V) : Prop where
  wt : ∀ j k, W j k → T j k
  /-- Who touches what another writes keeps its turn. -/
  conf : ∀ j i k, j < i → i < n → (W j k ∧ T i k) ∨ (T j k ∧ W i k) → mask i j
  keep : ∀ i k, i < n → ¬ W i k → val (i + 1) k = val i k
/-- What is there now, when the operations in L have been carried out, in whatever order. -/
def Now (n : Nat) (W : Nat → K → Prop) (val : Nat → K → V) (L : Nat → Prop) (cur : K → V) : Prop :=
  ∀ i, i ≤ n → ∀ k, (∀ j, j < i → W j k → L j) → (∀ j, i ≤ j → j < n → W j k → ¬ L j) → cur k = val i k
variable {n : Nat} {W T : Nat → K → Prop} {mask : Nat → Nat → Prop} {val : Nat → K → V} {L : Nat → Prop} {cur cur' : K → V}
theorem Now.first (h : ∀ k, cur k = val 0 k) (t : Turns n W T mask val) (hL : ∀ j, ¬ L j) : Now n W val L cur := by
  intro i hi k h1 _
  have : ∀ m, m ≤ i → val m k = val 0 k := by
    intro m
    induction m with
    | zero => intro _; rfl
    | succ m ih =>
      intro hm
      rw [t.keep m k (by omega) (fun hw => hL m (h1 m (by omega) hw))]
      exact ih (by omega)
  rw [h k, this i (Nat.le_refl _)]
/-- What an operation looks at, whose turn it is. -/
theorem Now.view (h : Now n W val L cur) (t : Turns n W T mask val) (closed : ∀ j i, L i → mask i j → L j) {p : Nat} (hp : p < n) (hn : ¬ L p) (hm : ∀ j, mask p j → L j) {k : K} (hk : T p k) : cur k = val p k := by
  refine h p (Nat.le_of_lt hp) k (fun j hj hw => hm j (t.conf j p k hj hp (.inl ⟨hw, hk⟩))) (fun j hj hjn hw hl => ?_)
  by_cases e : j = p
  · exact hn (e ▸ hl)
  · exact hn (closed p j hl (t.conf p j k (by omega) hjn (.inr ⟨hk, hw⟩)))
theorem Now.step (h : Now n W val L cur) (t : Turns n W T mask val) (closed : ∀ j i, L i → mask i j → L j) {p : Nat} (hp : p < n) (hn : ¬ L p) (hw : ∀ k, W p k → cur' k = val (p + 1) k) (hk : ∀ k, ¬ W p k → cur' k = cur k) :
    Now n W val (fun j => L j ∨ j = p) cur' := by
  intro i hi k h1 h2
  by_cases hpk : W p k
  · have hpi : p < i := by
      rcases Nat.lt_or_ge p i with h | h
      · exact h
      · exact absurd (.inr rfl) (h2 p h hp hpk)
    rw [hw k hpk]
    have : ∀ m, p + 1 ≤ m → m ≤ i → val m k = val (p + 1) k := by
      intro m
      induction m with
      | zero => intro a; omega
      | succ m ih =>
        intro a b
        by_cases e : m = p
        · rw [e]
        · rw [t.keep m k (by omega) (fun hwm => ?_)]
          · exact ih (by omega) (by omega)
          · rcases h1 m (by omega) hwm with hl | hl
            · exact hn (closed p m hl (t.conf p m k (by omega) (by omega) (.inl ⟨hpk, t.wt m k hwm⟩)))
            · exact e hl
    exact (this i (by omega) (Nat.le_refl _)).symm
  · rw [hk k hpk]
    refine h i hi k (fun j hj hwj => ?_) (fun j hj hjn hwj hl => h2 j hj hjn hwj (.inl hl))
    rcases h1 j hj hwj with hl | hl
    · exact hl
    · exact absurd (hl ▸ hwj) hpk
theorem Now.last (h : Now n W val L cur) (hL : ∀ j, j < n → L j) (k : K) : cur k = val n k :=
  h n (Nat.le_refl _) k (fun j hj _ => hL j hj) (fun j hj hjn _ => absurd hjn (by omega))
end
end Go.Ev
/- Soundness, part 21: regions of open order: what the evaluator's own run in the text's order says of each operation. -/
namespace Go.Ev
open Go Go.RowKit

theorem chk_congr {ops : Array Oper} {tm tm' : Tm} (o : Oper) (h : ∀ t, t ∈ o.looksAt ops → Nat.testBit tm.lv t = Nat.testBit tm'.lv t) : chk ops.toList tm o = chk ops.toList tm' o := by
  unfold chk
  have h1 : liveG ops.toList tm o = liveG ops.toList tm' o := by
    unfold liveG
    cases hg : o.guard with
    | none => rfl
    | some g =>
      obtain ⟨j, want⟩ := g
      dsimp only
      have e : ops.toList[j]? = ops[j]? := by simp
      rw [e]
      cases hj : ops[j]? with
      | none => rfl
      | some oj =>
        dsimp only
        cases hd : oj.dst with
        | none => rfl
        | some d =>
          dsimp only
          exact h d (by simp [Oper.looksAt, hg, hj, hd])
  have h2 : liveOs tm o.op.operands.toList = liveOs tm' o.op.operands.toList := liveOs_congr fun x hx => liveO_congr fun t e => h t (by
    subst e
    exact List.mem_append_left _ (List.mem_filterMap.2 ⟨.tmp t, hx, rfl⟩))
  rw [h1, h2]
theorem wantedA_congr {ops : Array Oper} {tm tm' : Tm} (o : Oper) (h : ∀ t, t ∈ o.looksAt ops → tm.get t = tm'.get t) : wantedA ops.toList tm o = wantedA ops.toList tm' o := by
  unfold wantedA
  cases hg : o.guard with
  | none => rfl
  | some g =>
    obtain ⟨j, want⟩ := g
    dsimp only
    have e : ops.toList[j]? = ops[j]? := by simp
    rw [e]
    cases hj : ops[j]? with
    | none => rfl
    | some oj =>
      dsimp only
      cases hd : oj.dst with
      | none => rfl
      | some d =>
        dsimp only
        rw [h d (by simp [Oper.looksAt, hg, hj, hd])]
/-- One operation's turn: the temporaries, the memory and the next number ahead of it; its value; what it touched; who keeps ahead of it. -/
structure Rc where
  tm : Tm
  m : Tr Slot
  c : Nat
  v : Value
  sg : List Acc
  mask : Nat
  pu : Bool
/-- The turns of a region, one behind the other. -/
structure Turn (E : Env) (ih : Rec) (ops : Array Oper) (R : Nat → Rc) (i : Nat) (o : Oper) : Prop where
  op : ops[i]? = some o
  edges : edgesOk i o = true
  chk : Ev.chk ops.toList (R i).tm o = true
  tmn : Same (putT (R i).tm o.dst (R i).v) (R (i + 1)).tm
  skip : wantedA ops.toList (R i).tm o = false → (R i).v = U ∧ (R i).sg = [] ∧ (R (i + 1)).m = (R i).m ∧ (R (i + 1)).c = (R i).c
  run : wantedA ops.toList (R i).tm o = true → deferOf o.op = none ∧ (opA E ih (R i).tm o).run ⟨(R i).m, (R i).c, []⟩ = some ((R i).v, ⟨(R (i + 1)).m, (R (i + 1)).c, (R i).sg⟩)
/-- What has been carried out ahead of operation i and has looked at memory, the last first. -/
def doneOf (R : Nat → Rc) : Nat → List Done
  | 0 => []
  | i + 1 => if (R i).pu = true then doneOf R i else ⟨i, writesOf (R i).sg, (R i).sg⟩ :: doneOf R i
def masksOf (R : Nat → Rc) (i : Nat) : List Nat := (List.range i).map fun j => (R j).mask
theorem doneOf_congr {R R' : Nat → Rc} : ∀ {i : Nat}, (∀ j, j < i → R' j = R j) → doneOf R' i = doneOf R i
  | 0, _ => rfl
  | i + 1, h => by
    simp only [doneOf]
    rw [h i (Nat.lt_succ_self i), doneOf_congr (i := i) fun j hj => h j (by omega)]
theorem masksOf_congr {R R' : Nat → Rc} {i : Nat} (h : ∀ j, j < i → R' j = R j) : masksOf R' i = masksOf R i := by
  unfold masksOf
  refine List.map_congr_left fun j hj => ?_
  rw [h j (List.mem_range.1 hj)]
theorem anyHits_nil (l : List Acc) : anyHits l [] = false := by
  induction l with
  | nil => rfl
  | cons a l ih => simp [anyHits, hits, ih]
theorem apartLogs_left (wb b : List Acc) : apartLogs (writesOf []) [] wb b = true := by
  unfold apartLogs
  rw [anyHits_nil]
  cases wb <;> rfl
theorem apartLogs_right (wa a : List Acc) : apartLogs wa a (writesOf []) [] = true := by
  unfold apartLogs
  rw [anyHits_nil]
  cases wa <;> rfl
/-- What 'freeT' says: of each that has gone ahead. -/
theorem freeT_spec {ops : Array Oper} {o : Oper} {mask i : Nat} : ∀ (l : List Oper) (j0 : Nat), ops.toList.drop j0 = l → freeT ops o mask i j0 l = true → ∀ j oj, j0 ≤ j → j < i → ops[j]? = some oj → Nat.testBit mask j = true ∨ oj.apart ops o = true := by
  intro l
  induction l with
  | nil =>
    intro j0 hd _ j oj h1 _ ho
    have : (ops.toList.drop j0)[j - j0]? = some oj := by
      rw [List.getElem?_drop, show j0 + (j - j0) = j from by omega]
      simpa using ho
    rw [hd] at this
    simp at this
  | cons x l ih =>
    intro j0 hd h j oj h1 h2 ho
    have hx : ops[j0]? = some x := by
      have : (ops.toList.drop j0)[0]? = some x := by rw [hd]; rfl
      simpa using this
    have hd1 : ops.toList.drop (j0 + 1) = l := by
      have : (ops.toList.drop j0).drop 1 = l := by rw [hd]; rfl
      simpa [Nat.add_comm] using this
    simp only [freeT] at h
    have hlt : Nat.blt j0 i = true := Nat.ble_eq_true_of_le (show j0 + 1 ≤ i by omega)
    rw [hlt] at h
    simp only [Bool.and_eq_true, Bool.or_eq_true] at h
    by_cases e : j = j0
    · subst e
      rw [ho] at hx
      obtain rfl := Option.some.inj hx
      exact h.1
    · exact ih (j0 + 1) hd1 h.2 j oj (by omega) h2 ho
/-- What 'freeL' says. -/
theorem freeL_spec {R : Nat → Rc} {mask : Nat} {ws all : List Acc} : ∀ {i : Nat}, freeL mask ws all (doneOf R i) = true → ∀ j, j < i → (R j).pu = false →
    Nat.testBit mask j = true ∨ apartLogs (writesOf (R j).sg) (R j).sg ws all = true := by
  intro i
  induction i with
  | zero => intro _ j hj; omega
  | succ i ih =>
    intro h j hj hp
    simp only [doneOf] at h
    split at h
    · rename_i hpu
      by_cases e : j = i
      · subst e; rw [hpu] at hp; cases hp
      · exact ih h j (by omega) hp
    · simp only [freeL, Bool.and_eq_true, Bool.or_eq_true] at h
      by_cases e : j = i
      · subst e; exact h.1
      · exact ih h.2 j (by omega) hp
theorem gdL_run {mask : Nat} {ws all : List Acc} {done : List Done} {k : Prog} {s : St} {r : Value × St} (h : (gdL mask ws all done k).run s = some r) : freeL mask ws all done = true ∧ k.run s = some r := by
  cases done with
  | nil => exact ⟨rfl, h⟩
  | cons d ds => exact gd_run h
/-- The turns, and what comes behind them. -/
theorem opsD_turns {fn : Nat} {E : Env} {ih : Rec} {ops : Array Oper} {K : Tm → Prog} {v : Value} {s' : St} : ∀ (l : List Oper) (i : Nat) (tm : Tm) (s : St) (R0 : Nat → Rc), (∀ j, j < i → (R0 j).pu = true → (R0 j).sg = []) → i ≤ ops.size → ops.toList.drop i = l →
    (opsD E ih fn ops ops.toList l i (masksOf R0 i) (doneOf R0 i) tm K).run s = some (v, s') →
    ∃ R : Nat → Rc, (∀ j, j < i → R j = R0 j) ∧ Same tm (R i).tm ∧ (R i).m = s.mem ∧ (R i).c = s.ctr ∧
      (∀ j, i ≤ j → j < ops.size → ∃ o, Turn E ih ops R j o ∧ (R j).mask = maskOf (masksOf R j) o ∧ ∀ j' oj, j' < j → ops[j']? = some oj → Nat.testBit (R j).mask j' = true ∨ (oj.apart ops o = true ∧ apartLogs (writesOf (R j').sg) (R j').sg (writesOf (R j).sg) (R j).sg = true)) ∧
      ∃ s1, (K (R ops.size).tm).run s1 = some (v, s') ∧ s1.mem = (R ops.size).m ∧ s1.ctr = (R ops.size).c := by
  intro l
  induction l with
  | nil =>
    intro i tm s R0 hp0 hi hd h
    have hin : i = ops.size := by
      have : (ops.toList.drop i).length = 0 := by rw [hd]; rfl
      rw [List.length_drop] at this
      simp at this
      omega
    subst hin
    refine ⟨fun j => if j < ops.size then R0 j else ⟨tm, s.mem, s.ctr, U, [], 0, true⟩, fun j hj => if_pos hj, ?_, ?_, ?_, fun j h1 h2 => absurd h2 (by omega), s, ?_, ?_, ?_⟩
    · simp only [Nat.lt_irrefl, if_false]; exact Same.refl tm
    all_goals simp
    exact h
  | cons o rest IH =>
    intro i tm s R0 hp0 hi hd h
    have hoi : ops[i]? = some o := by
      have : (ops.toList.drop i)[0]? = some o := by rw [hd]; rfl
      simpa using this
    have hlt : i < ops.size := (Array.getElem?_eq_some_iff.1 hoi).1
    have hd1 : ops.toList.drop (i + 1) = rest := by
      have : (ops.toList.drop i).drop 1 = rest := by rw [hd]; rfl
      simpa [Nat.add_comm] using this
    simp only [opsD, opsDL] at h
    obtain ⟨hgd, h1⟩ := ck_run h
    simp only [Bool.and_eq_true] at hgd
    obtain ⟨⟨hedge, hfree⟩, hchk⟩ := hgd
    have hT := freeT_spec (ops := ops) ops.toList 0 rfl hfree
    obtain ⟨tm', hsame, h1⟩ := guardC_run (by simp only [chk, Bool.and_eq_true] at hchk; exact hchk.1) h1
    have hchk' : chk ops.toList tm' o = true := by rw [chk_congr (ops := ops) (tm' := tm) o fun t _ => congrArg Prod.snd (hsame.2 t)]; exact hchk
    have hwt' : wantedA ops.toList tm' o = wantedA ops.toList tm o := wantedA_congr o fun t _ => congrArg Prod.fst (hsame.2 t)
    -- what both cases share
    have both : ∀ (u : Value) (sg : List Acc) (pu : Bool) (s1 : St), (pu = true → sg = []) → (pu = false → freeL (maskOf (masksOf R0 i) o) (writesOf sg) sg (doneOf R0 i) = true) →
        (opsD E ih fn ops ops.toList rest (i + 1) (masksOf R0 i ++ [maskOf (masksOf R0 i) o]) (if pu = true then doneOf R0 i else ⟨i, writesOf sg, sg⟩ :: doneOf R0 i) (putT tm' o.dst u) K).run s1 = some (v, s') →
        (∀ R : Nat → Rc, R i = ⟨tm', s.mem, s.ctr, u, sg, maskOf (masksOf R0 i) o, pu⟩ → Same (putT tm' o.dst u) (R (i + 1)).tm → (R (i + 1)).m = s1.mem → (R (i + 1)).c = s1.ctr → Turn E ih ops R i o) →
        ∃ R : Nat → Rc, (∀ j, j < i → R j = R0 j) ∧ Same tm (R i).tm ∧ (R i).m = s.mem ∧ (R i).c = s.ctr ∧
          (∀ j, i ≤ j → j < ops.size → ∃ o, Turn E ih ops R j o ∧ (R j).mask = maskOf (masksOf R j) o ∧ ∀ j' oj, j' < j → ops[j']? = some oj → Nat.testBit (R j).mask j' = true ∨ (oj.apart ops o = true ∧ apartLogs (writesOf (R j').sg) (R j').sg (writesOf (R j).sg) (R j).sg = true)) ∧
          ∃ s1, (K (R ops.size).tm).run s1 = some (v, s') ∧ s1.mem = (R ops.size).m ∧ s1.ctr = (R ops.size).c := by
      intro u sg pu s1 hpu hlog hrun hturn
      let R1 : Nat → Rc := fun j => if j < i then R0 j else ⟨tm', s.mem, s.ctr, u, sg, maskOf (masksOf R0 i) o, pu⟩
      have hR1 : ∀ j, j < i → R1 j = R0 j := fun j hj => if_pos hj
      have hRi : R1 i = ⟨tm', s.mem, s.ctr, u, sg, maskOf (masksOf R0 i) o, pu⟩ := if_neg (by omega)
      have hp1 : ∀ j, j < i + 1 → (R1 j).pu = true → (R1 j).sg = [] := by
        intro j hj hq
        by_cases e : j = i
        · subst e
          rw [hRi] at hq ⊢
          exact hpu hq
        · rw [hR1 j (by omega)] at hq ⊢
          exact hp0 j (by omega) hq
      have em : masksOf R1 (i + 1) = masksOf R0 i ++ [maskOf (masksOf R0 i) o] := by
        have : masksOf R1 (i + 1) = masksOf R1 i ++ [(R1 i).mask] := by
          unfold masksOf
          rw [List.range_succ, List.map_append]
          rfl
        rw [this, masksOf_congr hR1, hRi]
      have ed : doneOf R1 (i + 1) = if pu = true then doneOf R0 i else ⟨i, writesOf sg, sg⟩ :: doneOf R0 i := by
        simp only [doneOf, hRi]
        rw [doneOf_congr hR1]
      obtain ⟨R, q1, q2, q3, q4, q5, q6⟩ := IH (i + 1) (putT tm' o.dst u) s1 R1 hp1 (by omega) hd1 (by rw [em, ed]; exact hrun)
      have eRi : R i = ⟨tm', s.mem, s.ctr, u, sg, maskOf (masksOf R0 i) o, pu⟩ := (q1 i (by omega)).trans hRi
      have eR0 : ∀ j, j < i → R j = R0 j := fun j hj => (q1 j (by omega)).trans (hR1 j hj)
      refine ⟨R, eR0, by rw [eRi]; exact hsame, by rw [eRi], by rw [eRi], fun j h1 h2 => ?_, q6⟩
      by_cases hj : j = i
      · subst hj
        refine ⟨o, hturn R eRi q2 q3 q4, ?_, fun j' oj hj' ho' => ?_⟩
        · rw [eRi, masksOf_congr eR0]
        · rw [eRi, eR0 j' hj']
          rcases hT j' oj (Nat.zero_le _) hj' ho' with hb | ha
          · exact .inl hb
          · cases hq : pu with
            | true =>
              refine .inr ⟨ha, ?_⟩
              rw [hpu hq]
              exact apartLogs_right _ _
            | false =>
              cases hq' : (R0 j').pu with
              | true =>
                refine .inr ⟨ha, ?_⟩
                rw [hp0 j' hj' hq']
                exact apartLogs_left _ _
              | false =>
                rcases freeL_spec (hlog hq) j' hj' hq' with hb | hl
                · exact .inl hb
                · exact .inr ⟨ha, hl⟩
      · exact q5 j (by omega) h2
    rw [← hwt'] at h1
    rcases h1 with ⟨hw, h1⟩ | ⟨hw, h1⟩
    rotate_left
    · refine both U [] true s (fun _ => rfl) (fun h => by cases h) h1 (fun R e1 e2 e3 e4 => ⟨hoi, hedge, by rw [e1]; exact hchk', ?_, fun _ => ?_, fun hc => ?_⟩)
      · rw [e1]; exact e2
      · rw [e1, e3, e4]; exact ⟨rfl, rfl, rfl, rfl⟩
      · rw [e1] at hc
        simp only at hc
        rw [hw] at hc; cases hc
    · split at h1
      · exact (fail_run h1).elim
      · rename_i hdn
        split at h1
        · rename_i hpure
          simp only [Bool.and_eq_true] at hpure
          obtain ⟨u, s1, hr, h4⟩ := opK_run h1
          obtain ⟨e0, hp⟩ := pure_run hpure.2 hr
          rw [e0] at h4
          replace h4 := nmP_run h4
          refine both u [] true s (fun _ => rfl) (fun h => by cases h) h4 (fun R e1 e2 e3 e4 => ⟨hoi, hedge, by rw [e1]; exact hchk', ?_, fun hc => ?_, fun _ => ?_⟩)
          · rw [e1]; exact e2
          · rw [e1] at hc
            simp only at hc
            rw [hw] at hc; cases hc
          · rw [e1, e3, e4]
            exact ⟨hdn, hp _⟩
        · obtain ⟨u, s1, h2, h3⟩ := seg_run h1
          obtain ⟨hf, h4⟩ := gdL_run h3
          replace h4 := nmP_run h4
          refine both u s1.log false ⟨s1.mem, s1.ctr, s1.log ++ s.log⟩ (fun h => by cases h) (fun _ => hf) h4 (fun R e1 e2 e3 e4 => ⟨hoi, hedge, by rw [e1]; exact hchk', ?_, fun hc => ?_, fun _ => ?_⟩)
          · rw [e1]; exact e2
          · rw [e1] at hc
            simp only at hc
            rw [hw] at hc; cases hc
          · rw [e1, e3, e4]
            exact ⟨hdn, h2⟩
end Go.Ev
