import Derived.Test.YtpljgnjdlciicaaGreatDoorLxKP22
import Derived.RangeFuncRecord
namespace Go.Ev
open Go Go.RowKit
section
variable {P : Program} {E : Env} {B0 : Nat} {w0 : World}
theorem loadT_pure (ok : EnvOK P E) {ρ : Map} {w : World} {t b o : Nat} {s s' : St} {v : Value} (h : (loadT E t b o).run s = some (v, s')) (r : WR P ρ B0 w0 s.mem w) {x : Blk} (hb : ρ b = some x) :
    ∃ v', (loadVar t ⟨x.B, x.sh + o, none⟩).run P w = .ok v' w ∧ VR ρ v v' ∧ s'.mem = s.mem ∧ s'.ctr = s.ctr := by
  unfold loadT at h
  split at h
  · rename_i d hd
    split at h
    · rename_i hag
      obtain ⟨n, hn, h⟩ := opt_run h
      obtain ⟨vs, s1, hr, h⟩ := rd_run h
      obtain ⟨rfl, rfl⟩ := ret_run h
      obtain ⟨hm, hc, _, _, _⟩ := St.rd_spec hr
      obtain ⟨vs', hl, hv, hcell⟩ := r.mr.rd hr hb
      refine ⟨.agg ⟨vs'⟩, ?_, .agg hv, hm, hc⟩
      simp only [loadVar, Sem.run_bind, isAgg_run ok hd, hag, Result.andThen_ok, if_true, run_size ok hn, run_loadRow hl hcell, Sem.run_pure]
    · rename_i hag
      obtain ⟨vs, s1, hr, h⟩ := rd_run h
      split at h
      · rename_i u
        obtain ⟨rfl, rfl⟩ := ret_run h
        obtain ⟨hm, hc, _, _, _⟩ := St.rd_spec hr
        obtain ⟨vs', hl, hv, hcell⟩ := r.mr.rd hr hb
        cases hv with
        | cons hv htl =>
          have h0 := hcell 0 _ rfl
          simp only [Nat.add_zero] at h0
          refine ⟨_, ?_, hv, hm, hc⟩
          simp only [loadVar, Sem.run_bind, isAgg_run ok hd, hag, Result.andThen_ok, Bool.false_eq_true, if_false, run_load, h0]
      · cases h
  · cases h
def resF (tmps : Array Value) : ResultVar → Sem Value
  | .tmp t => pure (tmps.getD t undef)
  | .cell a t => do loadVar t (← asAddr (tmps.getD a undef))
theorem results_eq (fn : Func) (tmps : Array Value) : results fn tmps = (do let vs ← fn.results.mapM (resF tmps); pure (if h : vs.size = 1 then vs[0] else .tuple vs)) := by
  unfold results
  congr
theorem resultsA_ok (ok : EnvOK P E) {ρ : Map} {tm : Tm} {tmps : Array Value} {w : World} (ht : TR ρ tm tmps) : ∀ (l : List ResultVar) (K : List Value → Prog) (s s' : St) (v : Value), (resultsA E tm l K).run s = some (v, s') → WR P ρ B0 w0 s.mem w →
    ∃ vs vs' s1, (K vs).run s1 = some (v, s') ∧ s1.mem = s.mem ∧ s1.ctr = s.ctr ∧ VRs ρ vs vs' ∧
      (l.mapM (resF tmps)).run P w = .ok vs' w := by
  intro l
  induction l with
  | nil => intro K s s' v h r; exact ⟨[], [], s, h, rfl, rfl, .nil, by simp⟩
  | cons x l ih =>
    intro K s s' v h r
    cases x with
    | tmp t =>
      simp only [resultsA] at h
      obtain ⟨hlv, h⟩ := ck_run h
      obtain ⟨vs, vs', s1, q1, q2, q3, q4, q5⟩ := ih _ s s' v h r
      refine ⟨_, _ :: vs', s1, q1, q2, q3, .cons (ht.2 t hlv) q4, ?_⟩
      rw [List.mapM_cons]
      simp only [resF, Sem.run_bind, Sem.run_pure, Result.andThen_ok]
      rw [q5]
      rfl
    | cell a t =>
      simp only [resultsA] at h
      split at h
      · rename_i ad had
        obtain ⟨hlv, h⟩ := ck_run h
        obtain ⟨u, s1, h1, h2⟩ := call_run h
        have ha := ht.2 a hlv
        rw [had] at ha
        obtain ⟨y, hy, hs, he⟩ := ha.ptr_inv
        obtain ⟨u', e1, e2, e3, e4⟩ := loadT_pure ok h1 r hy
        obtain ⟨vs, vs', s2, q1, q2, q3, q4, q5⟩ := ih _ s1 s' v h2 (e3 ▸ r)
        refine ⟨_, u' :: vs', s2, q1, q2.trans e3, q3.trans e4, .cons e2 q4, ?_⟩
        rw [List.mapM_cons]
        have e5 : ((do loadVar t (← asAddr (tmps.getD a undef))) : Sem Value).run P w = .ok u' w := by
          rw [he]
          exact e1
        rw [Sem.run_bind, show (resF tmps (.cell a t)).run P w = .ok u' w from e5, Result.andThen_ok, Sem.run_bind, q5]
        rfl
      · exact (fail_run h).elim
theorem results_ok {fn : Func} {tmps : Array Value} {w : World} {vs' : List Value}
    (h : (fn.results.toList.mapM (resF tmps)).run P w = .ok vs' w) :
    ∃ u, (results fn tmps).run P w = .ok u w ∧ (∀ {ρ : Map} {vs : List Value}, VRs ρ vs vs' → VR ρ (resultV vs) u) := by
  refine ⟨resultV vs', ?_, fun hv => ?_⟩
  · rw [results_eq, Array.mapM_eq_mapM_toList]
    simp only [map_eq_pure_bind, bind_assoc, pure_bind, Sem.run_bind]
    rw [h, Result.andThen_ok]
    cases vs' with
    | nil => rfl
    | cons a l => cases l with
      | nil => rfl
      | cons b l => simp [resultV]
  · cases hv with
    | nil => exact .tuple .nil
    | cons h1 h2 => cases h2 with
      | nil => exact h1
      | cons h2 h3 => exact .tuple (.cons h1 (.cons h2 h3))
theorem step_collected {fr : Frame} {cs : List Frame} {w w' : World} {B : Nat} {as_ : Array Value} {ds ds' : List Deferred} (hm : fr.mode = .returning) (hd : fr.defers = ⟨.collected B, as_⟩ :: ds)
    (ht : (Instr.takeDeferred B).run P w = .ok ds' w') : step P (lone fr cs w) = .next (lone { fr with defers := ds' ++ ds } cs w') :=
  step_lone_go (by simp [stepG, unwind, hm, hd, ht])
end
end Go.Ev
