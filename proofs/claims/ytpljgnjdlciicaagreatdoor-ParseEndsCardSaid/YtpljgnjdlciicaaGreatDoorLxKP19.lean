import Derived.Test.YtpljgnjdlciicaaGreatDoorLxKP18
import Derived.AtR
import Derived.Defers
namespace Go.Ev
open Go Go.RowKit
def okItem (ng : Nat) : Item → Bool
  | .code c => okCode ng c
  | .inBlock _ => true
  | .inLoop b => okCode ng b
  | .inScope b => okCode ng b
  | .beginRound => true
  | _ => false
theorem exitTo_ok {ng id : Nat} : ∀ {k k' : List Item}, exitTo id k = some k' → k.all (okItem ng) = true → k'.all (okItem ng) = true := by
  intro k
  induction k with
  | nil => intro k' h; simp [exitTo] at h
  | cons x k ih =>
    intro k' h hk
    simp only [List.all_cons, Bool.and_eq_true] at hk
    cases x <;> simp only [exitTo] at h <;> first
      | exact ih h hk.2
      | (split at h
         · simp only [Option.some.injEq] at h
           subst h
           exact hk.2
         · exact ih h hk.2)
theorem findLabel_ok {ng l : Nat} : ∀ {c c' : Code}, findLabel c l = some c' → okCode ng c = true → okCode ng c' = true := by
  intro c
  induction c with
  | seq a b iha ihb =>
    intro c' h hc
    simp only [okCode, Bool.and_eq_true] at hc
    simp only [findLabel] at h
    split at h
    · rename_i r hr
      simp only [Option.some.injEq] at h
      subst h
      simp only [okCode, Bool.and_eq_true]
      exact ⟨iha hr hc.1, hc.2⟩
    · exact ihb h hc.2
  | label l' =>
    intro c' h hc
    simp only [findLabel] at h
    split at h
    · simp only [Option.some.injEq] at h
      subst h
      rfl
    · cases h
  | _ => intro c' h; simp [findLabel] at h
theorem gotoIn_ok {ng l : Nat} : ∀ {k k' : List Item}, gotoIn l k = some k' → k.all (okItem ng) = true → k'.all (okItem ng) = true := by
  intro k
  induction k with
  | nil => intro k' h; simp [gotoIn] at h
  | cons x k ih =>
    intro k' h hk
    simp only [List.all_cons, Bool.and_eq_true] at hk
    cases x <;> simp only [gotoIn] at h <;> first
      | exact ih h hk.2
      | (split at h
         · rename_i r hr
           simp only [Option.some.injEq] at h
           subst h
           simp only [List.all_cons, Bool.and_eq_true]
           exact ⟨findLabel_ok hr hk.1, hk.1, hk.2⟩
         · exact ih h hk.2)
def RdR (ρ : Map) : Option Nat → Option Nat → Prop
  | none, none => True
  | some l, some B => ∃ x, ρ l = some x ∧ B = x.B
  | _, _ => False
theorem RdR.ext {ρ ρ' : Map} (h : Ext ρ ρ') {a b : Option Nat} (r : RdR ρ a b) : RdR ρ' a b := by
  cases a <;> cases b <;> first | trivial | exact r.elim | exact (let ⟨x, e, q⟩ := r; ⟨x, h _ _ e, q⟩)
def Ends (P : Program) (b : Frame) (cs : List Frame) (m0 : Machine) (w' : World) (v' : Value) : Prop :=
  match b.roundOf with
  | none => ∃ fr', Steps P m0 (lone fr' cs w') ∧ fr'.fn = b.fn ∧ fr'.kind = b.kind ∧ fr'.mode = .returning ∧ fr'.defers = [] ∧ ∃ f, P.funcs[b.fn]? = some f ∧ (results f fr'.tmps).run P w' = .ok v' w'
  | some _ => ∀ c cs', cs = c :: cs' → Steps P m0 (lone (c.finish v') cs' w')
theorem Ends.of_steps {P : Program} {b : Frame} {cs : List Frame} {m0 m1 : Machine} {w' : World} {v' : Value} (h : Steps P m0 m1) (e : Ends P b cs m1 w' v') : Ends P b cs m0 w' v' := by
  unfold Ends at *
  split at e
  · obtain ⟨fr', h1, h2⟩ := e; exact ⟨fr', h.trans h1, h2⟩
  · exact fun c cs' hc => h.trans (e c cs' hc)
structure FR (P : Program) (ρ : Map) (fn : Nat) (tm : Tm) (df : List Deferred) (rd : Option Nat) (b : Frame) (a : Act) (cs : List Frame) : Prop where
  hfn : b.fn = fn
  htm : TR ρ tm a.tmps
  hdf : DsR ρ df a.defers
  hrd : RdR ρ rd b.roundOf
  hkind : rd ≠ none → b.kind = .normal ∧ cs ≠ []
  hdk : b.kind ≠ .early
theorem FR.ext {P : Program} {ρ ρ' : Map} (h : Ext ρ ρ') {fn : Nat} {tm : Tm} {df : List Deferred} {rd : Option Nat} {b : Frame} {a : Act} {cs : List Frame} (r : FR P ρ fn tm df rd b a cs) : FR P ρ' fn tm df rd b a cs :=
  ⟨r.hfn, r.htm.ext h, r.hdf.ext h, r.hrd.ext h, r.hkind, r.hdk⟩
def MainAt (P : Program) (B0 : Nat) (w0 : World) (q : Prog) (fn : Nat) (tm : Tm) (todo : List Item) (df : List Deferred) (rd : Option Nat) : Prop :=
  ∀ (s : St) (v : Value) (s' : St), q.run s = some (v, s') → todo.all (okItem P.globals.size) = true → ∀ (ρ : Map) (w : World) (b : Frame) (a : Act) (cs : List Frame), FR P ρ fn tm df rd b a cs →
    WR P ρ B0 w0 s.mem w → Fr ρ s.mem s.ctr s'.ctr → (∀ g, g < P.globals.size → ∃ x, ρ (gbase g) = some x ∧ x.B = g ∧ x.sh = 0) →
    ∃ ρ' w' v', Gr ρ ρ' s.ctr s'.ctr ∧ VR ρ' v v' ∧ WR P ρ' B0 w0 s'.mem w' ∧ Ends P b cs (lone (b.atR a todo) cs w) w' v'
def Main (P : Program) (B0 : Nat) (w0 : World) (io : Rec) : Prop := ∀ fn tm todo df rd, MainAt P B0 w0 (io fn tm todo df rd) fn tm todo df rd
theorem MainAt.step {P : Program} {B0 : Nat} {w0 : World} {q : Prog} {fn : Nat} {tm : Tm} {todo todo' : List Item} {df : List Deferred} {rd : Option Nat} (h : MainAt P B0 w0 q fn tm todo' df rd)
    (hok : todo.all (okItem P.globals.size) = true → todo'.all (okItem P.globals.size) = true)
    (hs : ∀ (ρ : Map) (b : Frame) (a : Act) (cs : List Frame) (w : World), FR P ρ fn tm df rd b a cs → (∀ g, g < P.globals.size → ∃ x, ρ (gbase g) = some x ∧ x.B = g ∧ x.sh = 0) → todo.all (okItem P.globals.size) = true →
      step P (lone (b.atR a todo) cs w) = .next (lone (b.atR a todo') cs w)) : MainAt P B0 w0 q fn tm todo df rd := by
  intro s v s' hr hk ρ w b a cs fr r fresh hg
  obtain ⟨ρ', w', v', h1, h2, h3, h4⟩ := h s v s' hr (hok hk) ρ w b a cs fr r fresh hg
  exact ⟨ρ', w', v', h1, h2, h3, h4.of_steps (.one (hs ρ b a cs w fr hg hk))⟩
theorem evO_ok {P : Program} {ρ : Map} {tm : Tm} {a : Act} (h : TR ρ tm a.tmps) (hg : ∀ g, g < P.globals.size → ∃ x, ρ (gbase g) = some x ∧ x.B = g ∧ x.sh = 0) {x : Operand} (ho : okO P.globals.size x = true) (hl : liveO tm x = true) : VR ρ (evO tm x) (a.eval x) := by
  cases x with
  | tmp t => exact h.2 t hl
  | const v => exact lit_VR ho ρ
  | global g =>
    obtain ⟨y, e1, e2, e3⟩ := hg g (Nat.le_of_ble_eq_true ho)
    have := VR.ptr (ρ := ρ) (o := 0) e1
    rw [e2, e3] at this
    exact this
  | func f => exact .fn (.func f) .nil .nil
theorem RdR.none_inv {ρ : Map} {o : Option Nat} (h : RdR ρ none o) : o = none := by
  cases o with
  | none => rfl
  | some _ => exact h.elim
theorem RdR.some_inv {ρ : Map} {l : Nat} {o : Option Nat} (h : RdR ρ (some l) o) : ∃ x, ρ l = some x ∧ o = some x.B := by
  cases o with
  | none => exact h.elim
  | some B => obtain ⟨x, e, rfl⟩ := h; exact ⟨x, e, rfl⟩
theorem GlOK.ext {P : Program} {ρ ρ' : Map} (h : Ext ρ ρ') (g : GlOK P ρ) : GlOK P ρ' := fun i hi => let ⟨x, a, b⟩ := g i hi; ⟨x, h _ _ a, b⟩
theorem endRound_run {P : Program} {ρ : Map} {B0 : Nat} {w0 w : World} {l : Nat} {jump : Option Code} {s s' : St} {v : Value} (hj : ∀ c, jump = some c → okCode P.globals.size c = true)
    (h : (endRoundA l jump).run s = some (v, s')) (r : WR P ρ B0 w0 s.mem w) {x : Blk} (hx : ρ l = some x) :
    ∃ w', (Instr.endRound x.B jump).run P w = .ok (.bool jump.isNone) w' ∧ v = .bool jump.isNone ∧ WR P ρ B0 w0 s'.mem w' ∧ s'.ctr = s.ctr := by
  unfold endRoundA at h
  obtain ⟨o, ho, n1, n2, h1⟩ := obj_run h
  obtain ⟨p, hp, h2⟩ := opt_run h1
  obtain ⟨o0, ho0, m1, m2, h3⟩ := setObj_run h2
  obtain ⟨rfl, rfl⟩ := ret_run h3
  obtain ⟨ob, g1, g2, g3, g0⟩ := r.obj ho n1 n2 hx
  have ho' : o = .lp p := by
    unfold lpOf at hp
    split at hp
    · simp only [Option.some.injEq] at hp; rw [hp]
    · cases hp
  subst ho'
  cases g2 with
  | @lp _ a y htm hd ha hb hpd =>
  obtain ⟨e1, e2⟩ := r.setObj (k := l) (o' := .lp { p with st := afterR jump, pending := jump })
    (ob' := .loop { state := (if jump.isNone then .ready else .done), pending := jump, fn := p.fn, tmps := a, params := ⟨p.params⟩, assign := p.assign, body := p.body, defers := y.B }) ho0 m1 m2 hx rfl (by
      have e : (if jump.isNone then LoopState.ready else .done) = lst (afterR jump) := by cases jump <;> rfl
      rw [e]
      exact .lp (p := { p with st := afterR jump, pending := jump }) htm hd ha hb hj)
  refine ⟨_, ?_, rfl, e2, rfl⟩
  simp only [Instr.endRound, Instr.getLoop, Sem.run_bind, g1, Result.andThen_ok, Sem.run_pure, e1]
end Go.Ev
