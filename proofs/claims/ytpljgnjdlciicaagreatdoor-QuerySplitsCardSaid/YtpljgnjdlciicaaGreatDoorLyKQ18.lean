/- Soundness, part 24: the main theorem: what the evaluator answers, every run of the machine comes to. -/
import Derived.Test.YtpljgnjdlciicaaGreatDoorLyKQ17
namespace Go.Ev
open Go Go.RowKit
section
variable {P : Program} {E : Env} {B0 : Nat} {w0 : World}
theorem stepR_scope {b : Frame} {a : Act} {k : List Item} {cs : List Frame} {w : World} {c : Code} :
    step P (lone (b.atR a (.code (.scope c) :: k)) cs w) = .next (lone (b.atR a (.code c :: .inScope c :: k)) cs w) :=
  step_lone_go (by simp [stepG, stepG.exec, Frame.atR])
theorem stepR_inScope {b : Frame} {a : Act} {k : List Item} {cs : List Frame} {w : World} {c : Code} :
    step P (lone (b.atR a (.inScope c :: k)) cs w) = .next (lone (b.atR a k) cs w) :=
  step_lone_go (by simp [stepG, stepG.exec, Frame.atR])
/-- What a frame's run comes to, from a machine. -/
def ComesTo (P : Program) (B0 : Nat) (w0 : World) (ρ : Map) (s s' : St) (v : Value) (b : Frame) (cs : List Frame) (m0 : Machine) : Prop :=
  ∃ ρ' w' v', Gr ρ ρ' s.ctr s'.ctr ∧ VR ρ' v v' ∧ WR P ρ' B0 w0 s'.mem w' ∧ Ends P b cs m0 w' v'
theorem FR.keep {ρ : Map} {fn : Nat} {tm : Tm} {df : List Deferred} {rd : Option Nat} {b : Frame} {a : Act} {cs : List Frame} (r : FR P ρ fn tm df rd b a cs) (l : List Nat) : FR P ρ fn (keepT tm l) df rd b a cs :=
  ⟨r.hfn, r.htm.keep l, r.hdf, r.hrd, r.hkind, r.hdk⟩
theorem nxt_run {io ih : Rec} {fn : Nat} {tm : Tm} {todo : List Item} {df : List Deferred} {rd : Option Nat} {s : St} {q : Value × St} (h : (nxt E io ih fn tm todo df rd).run s = some q) :
    (ih fn tm todo df rd).run s = some q ∨ ∃ l, (io fn (keepT tm l) todo df rd).run s = some q := by
  unfold nxt at h
  split at h
  · exact .inl h
  · split at h
    · split at h
      · exact .inr ⟨_, h⟩
      · exact .inl h
    · exact .inl h
theorem glueI {io : Rec} (hm : Main P B0 w0 io) {fn : Nat} {tm1 : Tm} {todo1 : List Item} {df1 : List Deferred} {rd : Option Nat} {s s1 s' : St} {v : Value} {ρ ρ1 : Map} {w1 : World} {b : Frame} {a1 : Act} {cs : List Frame} {m0 : Machine}
    (h : (io fn tm1 todo1 df1 rd).run s1 = some (v, s')) (hk : todo1.all (okItem P.globals.size) = true) (fr : FR P ρ1 fn tm1 df1 rd b a1 cs) (r : WR P ρ1 B0 w0 s1.mem w1) (g : Gr ρ ρ1 s.ctr s1.ctr) (hle : s.ctr ≤ s1.ctr)
    (fresh : Fr ρ s.mem s.ctr s'.ctr) (gl : GlOK P ρ) (hs : Steps P m0 (lone (b.atR a1 todo1) cs w1)) : ComesTo P B0 w0 ρ s s' v b cs m0 := by
  obtain ⟨ρ', w', v', h1, h2, h3, h4⟩ := hm fn tm1 todo1 df1 rd s1 v s' h hk ρ1 w1 b a1 cs fr r (fresh.after g hle) (gl.ext g.1)
  exact ⟨ρ', w', v', g.trans h1 hle (Prog.ctr_le h), h2, h3, h4.of_steps hs⟩
theorem glue {io ih : Rec} (hm : Main P B0 w0 io) (hi : Main P B0 w0 ih) {fn : Nat} {tm1 : Tm} {todo1 : List Item} {df1 : List Deferred} {rd : Option Nat} {s s1 s' : St} {v : Value} {ρ ρ1 : Map} {w1 : World} {b : Frame} {a1 : Act} {cs : List Frame} {m0 : Machine}
    (h0 : (nxt E io ih fn tm1 todo1 df1 rd).run s1 = some (v, s')) (hk : todo1.all (okItem P.globals.size) = true) (fr : FR P ρ1 fn tm1 df1 rd b a1 cs) (r : WR P ρ1 B0 w0 s1.mem w1) (g : Gr ρ ρ1 s.ctr s1.ctr) (hle : s.ctr ≤ s1.ctr)
    (fresh : Fr ρ s.mem s.ctr s'.ctr) (gl : GlOK P ρ) (hs : Steps P m0 (lone (b.atR a1 todo1) cs w1)) : ComesTo P B0 w0 ρ s s' v b cs m0 := by
  rcases nxt_run h0 with h | ⟨l, h⟩
  · exact glueI hi h hk fr r g hle fresh gl hs
  · exact glueI hm h hk (fr.keep l) r g hle fresh gl hs
theorem leaveS_ok (ok : EnvOK P E) {io : Rec} (hm : Main P B0 w0 io) {fn : Nat} {tm : Tm} {df : List Deferred} {rd : Option Nat} {jump : Option Code} {s s' : St} {v : Value} {ρ : Map} {w : World} {b : Frame} {a : Act} {cs : List Frame} {todo : List Item}
    (hj : ∀ c, jump = some c → okCode P.globals.size c = true) (h : (leaveS E io fn tm df rd jump).run s = some (v, s')) (fr : FR P ρ fn tm df rd b a cs) (r : WR P ρ B0 w0 s.mem w) (fresh : Fr ρ s.mem s.ctr s'.ctr) (gl : GlOK P ρ)
    (h1 : b.roundOf = none → (jump = none ∨ jump = some .ret) → step P (lone (b.atR a todo) cs w) = .next (lone { b.atR a todo with mode := .returning } cs w))
    (h2 : ∀ l c cs' u w', b.roundOf = some l → b.kind = .normal → cs = c :: cs' → (Instr.endRound l jump).run P w = .ok u w' → step P (lone (b.atR a todo) cs w) = .next (lone (c.finish u) cs' w')) :
    ComesTo P B0 w0 ρ s s' v b cs (lone (b.atR a todo) cs w) := by
  unfold leaveS at h
  have fun_case : rd = none → (jump = none ∨ jump = some .ret) → (leaveA E io fn tm 64 df).run s = some (v, s') → ComesTo P B0 w0 ρ s s' v b cs (lone (b.atR a todo) cs w) := by
    intro hr hjj hl
    subst hr
    have hro := fr.hrd.none_inv
    obtain ⟨ρ', w', v', fr', e1, e2, e3, e4, e5, e6, e7, e8, e9⟩ := leaveA_ok ok hm 64 df s s' v hl ρ w { b.atR a todo with mode := .returning } cs fr.hfn rfl fr.htm fr.hdf r fresh gl
    refine ⟨ρ', w', v', e1, e2, e3, ?_⟩
    unfold Ends
    rw [hro]
    refine ⟨fr', .head (h1 hro hjj) e4, e5.trans fr.hfn.symm, e6, e7, e8, ?_⟩
    rw [fr.hfn]; exact e9
  split at h
  · split at h
    · exact fun_case rfl (.inl rfl) h
    · exact fun_case rfl (.inr rfl) h
    · exact (fail_run h).elim
  · rename_i l
    split at h
    · obtain ⟨x, hx, hro⟩ := fr.hrd.some_inv
      obtain ⟨hkn, hcs⟩ := fr.hkind (by simp)
      obtain ⟨w', e1, e2, e3, e4⟩ := endRound_run hj h r hx
      refine ⟨ρ, w', .bool jump.isNone, Gr.refl _ _ _, ?_, e3, ?_⟩
      · rw [e2]; exact .bool _
      · unfold Ends
        rw [hro]
        exact fun c cs' hc => .one (h2 _ c cs' _ w' hro hkn hc e1)
    · exact (fail_run h).elim
theorem stepA_ok (ok : EnvOK P E) (mixed : P.follows .mixedOrders = true) {io ih : Rec} (hm : Main P B0 w0 io) (hi : Main P B0 w0 ih) (fn : Nat) (tm : Tm) (todo : List Item) (df : List Deferred) (rd : Option Nat) :
    MainAt P B0 w0 (stepA E io ih fn tm todo df rd) fn tm todo df rd := by
  intro s v s' h hk ρ w b a cs fr r fresh gl
  show ComesTo P B0 w0 ρ s s' v b cs (lone (b.atR a todo) cs w)
  have go : ∀ {todo1 : List Item}, (nxt E io ih fn tm todo1 df rd).run s = some (v, s') → todo1.all (okItem P.globals.size) = true → step P (lone (b.atR a todo) cs w) = .next (lone (b.atR a todo1) cs w) →
      ComesTo P B0 w0 ρ s s' v b cs (lone (b.atR a todo) cs w) := fun h1 h2 h3 => glue hm hi h1 h2 fr r (Gr.refl _ _ _) (Nat.le_refl _) fresh gl (.one h3)
  cases todo with
  | nil =>
    simp only [stepA] at h
    refine leaveS_ok ok hm (fun c e => by cases e) h fr r fresh gl (fun h1 _ => stepR_end h1) (fun l c cs' u w' h1 h2 h3 h4 => ?_)
    subst h3
    exact stepR_round_end h1 h2 h4
  | cons x k =>
    simp only [List.all_cons, Bool.and_eq_true] at hk
    obtain ⟨hx, hk⟩ := hk
    cases x with
    | code c =>
      simp only [okItem] at hx
      cases c with
      | ret =>
        simp only [stepA] at h
        refine leaveS_ok ok hm (fun c e => by cases e; rfl) h fr r fresh gl (fun h1 _ => stepR_ret h1) (fun l c cs' u w' h1 h2 h3 h4 => ?_)
        subst h3
        exact stepR_round_ret h1 h2 h4
      | skip => exact go h hk stepR_skip
      | label l => exact go h hk stepR_label
      | seq x y =>
        simp only [okCode, Bool.and_eq_true] at hx
        exact go h (by simp [okItem, hx.1, hx.2, hk]) stepR_seq
      | cond c x y =>
        simp only [okCode, Bool.and_eq_true] at hx
        obtain ⟨⟨hc, hx1⟩, hx2⟩ := hx
        simp only [stepA] at h
        obtain ⟨hlv, h⟩ := ck_run h
        have hv := evO_ok fr.htm gl hc hlv
        split at h
        · rename_i t hev
          rw [hev] at hv
          generalize hav : a.eval c = u at hv
          cases hv
          cases t with
          | true => exact go h (by simp [okItem, hx1, hk]) (stepR_cond hav)
          | false => exact go h (by simp [okItem, hx2, hk]) (stepR_cond hav)
        · exact (fail_run h).elim
      | block id c => exact go h (by simp only [okCode] at hx; simp [okItem, hx, hk]) stepR_block
      | loop c => exact go h (by simp only [okCode] at hx; simp [okItem, hx, hk]) stepR_loop
      | scope c => exact go h (by simp only [okCode] at hx; simp [okItem, hx, hk]) stepR_scope
      | exit id =>
        simp only [stepA] at h
        split at h
        · rename_i k' he
          exact go h (exitTo_ok he hk) (stepR_exit he)
        · rename_i he
          refine leaveS_ok ok hm (fun c e => by cases e; rfl) h fr r fresh gl (fun _ h2 => by rcases h2 with h2 | h2 <;> cases h2) (fun l c cs' u w' h1 h2 h3 h4 => ?_)
          subst h3
          exact stepR_round_exit h1 h2 he h4
      | goto l =>
        simp only [stepA] at h
        split at h
        · rename_i k' he
          exact go h (gotoIn_ok he hk) (stepR_goto he)
        · rename_i he
          refine leaveS_ok ok hm (fun c e => by cases e; rfl) h fr r fresh gl (fun _ h2 => by rcases h2 with h2 | h2 <;> cases h2) (fun l c cs' u w' h1 h2 h3 h4 => ?_)
          subst h3
          exact stepR_round_goto h1 h2 he h4
      | region id ops draw =>
        have hops : ops.toList.all (okOper P.globals.size) = true := by simpa only [okCode] using hx
        cases draw with
        | false =>
          simp only [stepA] at h
          obtain ⟨tm1, df1, s1, ρ1, w1, a1, q1, q2, q3, q4, q5, q6⟩ := opsA_ok ok hm hops ops.toList 0 rfl tm df s s' v h ρ w b a cs k fr r fresh gl
          have e : List.range' 0 ops.toList.length = List.range ops.size := by rw [List.range_eq_range']; rfl
          rw [e] at q6
          exact glue hm hi q1 hk q4 q5 q2 q3 fresh gl (.head stepR_region (q6.trans (.one stepR_region_end)))
        | true =>
          simp only [stepA] at h
          obtain ⟨tm1, s1, ρ1, w1, a1, q1, q2, q3, q4, q5, q6⟩ := opsD_ok (id := id) ok mixed hm hops h fr r fresh gl
          exact glue hm hi q1 hk q4 q5 q2 q3 fresh gl q6
      | rangeFunc f ps assign body =>
        simp only [stepA] at h
        simp only [okCode, Bool.and_eq_true] at hx
        obtain ⟨⟨hf, ha⟩, hb⟩ := hx
        cases rd with
        | none =>
          obtain ⟨todo1, df1, s1, ρ1, w1, a1, q1, q2, q3, q4, q5, q6, q7⟩ := rangeFuncA_ok ok hm h fr r fresh gl hf ha hb hk
          exact glueI hi q1 q2 q3 q4 q5 q6 fresh gl q7
        | some l => exact (fail_run h).elim
      | refuse why => exact (fail_run h).elim
    | inBlock id => exact go h hk stepR_inBlock
    | inScope c => exact go h hk stepR_inScope
    | inLoop c =>
      simp only [okItem] at hx
      exact go h (by simp [okItem, hx, hk]) stepR_inLoop
    | beginRound =>
      simp only [stepA] at h
      obtain ⟨l, hrd, h1⟩ := opt_run h
      subst hrd
      obtain ⟨x, hx, hro⟩ := fr.hrd.some_inv
      obtain ⟨s1, w', q1, q2, q3, q4⟩ := beginRound_ok h1 r hx
      exact glue hm hi q1 hk fr q3 (by rw [q2]; exact Gr.refl _ _ _) (by omega) fresh gl (.one (stepR_beginRound hro q4))
    | _ => exact (fail_run h).elim
theorem runI_ok (ok : EnvOK P E) (mixed : P.follows .mixedOrders = true) {io : Rec} (hm : Main P B0 w0 io) : ∀ n, Main P B0 w0 (runI E io n) := by
  intro n
  induction n with
  | zero => intro fn tm todo df rd s v s' h; exact (fail_run h).elim
  | succ n ih => exact fun fn tm todo df rd => stepA_ok ok mixed hm ih fn tm todo df rd
theorem main_ok (ok : EnvOK P E) (mixed : P.follows .mixedOrders = true) : ∀ n, Main P B0 w0 (runP E n) := by
  intro n
  induction n with
  | zero => intro fn tm todo df rd s v s' h; exact (fail_run h).elim
  | succ n ih => exact fun fn tm todo df rd => runI_ok ok mixed ih E.bud fn tm todo df rd
end
end Go.Ev
/- Soundness, part 25: from the evaluator's answer to a contract on a call; the memory when the call begins. -/
namespace Go.Ev
open Go Go.RowKit
section
variable {P : Program} {E : Env} {B0 : Nat} {w0 : World}
theorem ev_calls (ok : EnvOK P E) (mixed : P.follows .mixedOrders = true) {n f : Nat} {args args' : List Value} {s s' : St} {v : Value} (h : (callF E (runP E n) f args).run s = some (v, s')) (hb : ∃ fn c, E.fn.get f = some fn ∧ fn.body = some c) (horc : E.orc f = none)
    {ρ : Map} {w : World} (r : WR P ρ B0 w0 s.mem w) (fresh : Fr ρ s.mem s.ctr s'.ctr) (gl : GlOK P ρ) (ha : VRs ρ args args') :
    Calls P f ⟨args'⟩ w (fun e w' => ∃ v' ρ', e = .returned v' ∧ VR ρ' v v' ∧ WR P ρ' B0 w0 s'.mem w' ∧ Gr ρ ρ' s.ctr s'.ctr) := by
  intro cs
  obtain ⟨fn, c, hf, hb⟩ := hb
  unfold callF at h
  rw [hf] at h
  simp only [opt, hb, horc] at h
  obtain ⟨_, h5⟩ := ck_run h
  obtain ⟨ρ1, args1, s1, h6, ha1, r1, gl1, hc1⟩ := frzAs_ok _ _ ρ args args' _ s w _ h5 ha r
  obtain ⟨hlen, h2⟩ := ck_run h6
  have hlen := Nat.le_of_ble_eq_true hlen
  have fr1 : Fr ρ1 s1.mem s1.ctr s'.ctr := by rw [hc1]; exact gl1.fr fresh
  have hPf := ok.fn f fn hf
  let b : Frame := { (default : Frame) with fn := f, kind := .normal }
  let a : Act := { tmps := (⟨args'⟩ : Array Value) ++ Array.replicate (fn.ntmps - (⟨args'⟩ : Array Value).size) undef, defers := [] }
  have henter : Frame.enter P f ⟨args'⟩ .normal = b.atR a [.code c] := by
    simp [Frame.enter, Frame.atR, hPf, hb, b, a]
    rfl
  obtain ⟨ρ', w', v', g1, g2, g3, g4⟩ := main_ok (B0 := B0) (w0 := w0) ok mixed n f (frameTm fn.ntmps args1) [.code c] [] none s1 v s' h2 (by simp [okItem, ok.code f fn c hf hb]) ρ1 w b a cs
    ⟨rfl, TR.enter ha1 hlen, .nil, trivial, fun q => absurd rfl q, by simp [b]⟩ r1 fr1 (gl.ext gl1.1)
  obtain ⟨fr', e1, e2, e3, e4, e5, fn', e6, e7⟩ := (show ∃ fr', Steps P (lone (b.atR a [.code c]) cs w) (lone fr' cs w') ∧ fr'.fn = b.fn ∧ fr'.kind = b.kind ∧ fr'.mode = .returning ∧ fr'.defers = [] ∧
    ∃ f, P.funcs[b.fn]? = some f ∧ (results f fr'.tmps).run P w' = .ok v' w' from g4)
  have g1 : Gr ρ ρ' s.ctr s'.ctr := by
    rw [hc1] at g1
    have hle := Prog.ctr_le h2
    rw [hc1] at hle
    exact (gl1.gr s.ctr s.ctr).trans g1 (Nat.le_refl _) hle
  refine ⟨.returned v', w', fr', ⟨v', ρ', rfl, g2, g3, g1⟩, ?_, e2, e4, e5, e3, fn', by rw [e2]; exact e6, e7⟩
  rw [henter]
  exact e1
/-- The closed form: the evaluator answers 'true'. -/
theorem ev_true (ok : EnvOK P E) (mixed : P.follows .mixedOrders = true) {n f : Nat} {args args' : List Value} {s : St} (h : isTrue ((callF E (runP E n) f args).run s) = true) (hb : ∃ fn c, E.fn.get f = some fn ∧ fn.body = some c) (horc : E.orc f = none)
    {ρ : Map} {w : World} (r : MR P ρ w.heap.size s.mem w) (fresh : ∀ k, s.ctr ≤ k → ρ k = none) (gl : GlOK P ρ) (ha : VRs ρ args args') :
    Calls P f ⟨args'⟩ w (fun e w' => e = .returned (.bool true) ∧ Below w.heap.size w w') := by
  unfold isTrue at h
  split at h
  · rename_i s' hr
    refine Calls.mono (ev_calls (B0 := w.heap.size) (w0 := w) ok mixed hr hb horc ⟨r, Below.refl _ _, Nat.le_refl _⟩ ⟨fun k h1 _ => fresh k h1⟩ gl ha) ?_
    rintro e w' ⟨v', ρ', rfl, hv, hw, _⟩
    cases hv
    exact ⟨rfl, hw.bel⟩
  · cases h
/-- A package-level variable that is read: its cells, as the evaluator has them. -/
structure Tab where
  g : Nat
  el : Nat
  cells : List Value
noncomputable def layTabs : List Tab → Tr Slot
  | [] => .nil
  | t :: l => layGlobal t.g t.el t.cells (layTabs l)
theorem gbase_eq (g : Nat) : gbase g = 1 + g * 65536 := by simp [gbase]
/-- Where the package-level variables lie; what else is spoken of; the lists. -/
def mapI (ng : Nat) (N sz : Nat → Nat) (px ls : Nat → Option Blk) : Map := ⟨fun k =>
  if 1 ≤ k ∧ (k - 1) % 65536 = 0 ∧ (k - 1) / 65536 < ng then some ⟨(k - 1) / 65536, 0, N ((k - 1) / 65536), sz ((k - 1) / 65536), []⟩ else px k, ls, ls⟩
theorem mapI_at {ng : Nat} {N sz : Nat → Nat} {px ls : Nat → Option Blk} {g : Nat} (h : g < ng) : mapI ng N sz px ls (gbase g) = some ⟨g, 0, N g, sz g, []⟩ := by
  have h0 : gbase g - 1 = g * 65536 := by rw [gbase_eq]; omega
  have h1 : (g * 65536) / 65536 = g := Nat.mul_div_cancel _ (by omega)
  have h2 : (g * 65536) % 65536 = 0 := Nat.mul_mod_left _ _
  have h3 : 1 ≤ gbase g := by rw [gbase_eq]; omega
  show (if _ then _ else _) = _
  rw [h0, h1, h2, if_pos ⟨h3, rfl, h⟩]
theorem mapI_high {ng : Nat} {N sz : Nat → Nat} {px ls : Nat → Option Blk} {k : Nat} (h : gbase ng ≤ k) : mapI ng N sz px ls k = px k := by
  show (if _ then _ else _) = _
  rw [if_neg]
  rintro ⟨_, _, h1⟩
  rw [gbase_eq] at h
  omega
theorem mapI_gl {N sz : Nat → Nat} {px ls : Nat → Option Blk} : GlOK P (mapI P.globals.size N sz px ls) := fun g hg => ⟨_, mapI_at hg, rfl, rfl⟩
theorem layTabs_get : ∀ {l : List Tab} {k : Nat} {s : Slot}, (layTabs l).get k = some s → ∃ t ∈ l, (k = gbase t.g ∧ s = .hdr ⟨t.cells.length, t.el, true, true, true, 0, false, false, []⟩) ∨
    (∃ v, s = .cell (gbase t.g) v ∧ gbase t.g + 1 ≤ k ∧ t.cells[k - (gbase t.g + 1)]? = some v) := by
  intro l
  induction l with
  | nil => intro k s e; rw [layTabs, Tr.get_nil] at e; cases e
  | cons t l ih =>
    intro k s e
    unfold layTabs layGlobal at e
    simp only [Nat.add_eq] at e
    rw [layCells_get] at e
    split at e
    · rename_i hin
      cases hv : t.cells[k - (gbase t.g + 1)]? with
      | none => rw [hv] at e; cases e
      | some v => rw [hv] at e; exact ⟨t, List.mem_cons_self .., .inr ⟨v, (Option.some.inj e).symm, hin.1, hv⟩⟩
    · rw [Tr.get_set] at e
      split at e
      · rename_i hk; exact ⟨t, List.mem_cons_self .., .inl ⟨hk, (Option.some.inj e).symm⟩⟩
      · obtain ⟨t', h1, h2⟩ := ih e
        exact ⟨t', List.mem_cons_of_mem _ h1, h2⟩
theorem gbase_inj {g g' : Nat} (h : gbase g = gbase g') : g = g' := by rw [gbase_eq, gbase_eq] at h; omega
/-- What must be so of the variables that are laid. -/
structure TabOK (P : Program) (ρ : Map) (w : World) (N sz : Nat → Nat) (t : Tab) : Prop where
  lt : t.g < P.globals.size
  heap : ∃ c, w.heap[t.g]? = some (.cells c t.el (0, 0)) ∧ c.size = t.cells.length ∧ ∀ (i : Nat) (v : Value), t.cells[i]? = some v → ∃ v', c[i]? = some v' ∧ VR ρ v v'
  n : N t.g = t.cells.length
  el : ∃ i, P.info? t.el = some i ∧ i.size = sz t.g
theorem MR.tables {N sz : Nat → Nat} {px ls : Nat → Option Blk} {w : World} {l : List Tab} (hd : ∀ t ∈ l, ∀ t' ∈ l, t.g = t'.g → t = t') (hok : ∀ t ∈ l, TabOK P (mapI P.globals.size N sz px ls) w N sz t) (hgs : P.globals.size ≤ w.heap.size)
    (hpx : ∀ k x, px k = some x → x.B < w.heap.size) (hls : ∀ B x, ls B = some x → x.B = B ∧ ∃ c el fr, w.heap[B]? = some (.cells c el fr) ∧ c.toList = x.fc) : MR P (mapI P.globals.size N sz px ls) w.heap.size (layTabs l) w := by
  have hhdr : ∀ k hd, (layTabs l).get k = some (.hdr hd) → ∃ t ∈ l, k = gbase t.g ∧ hd = ⟨t.cells.length, t.el, true, true, true, 0, false, false, []⟩ := by
    intro k hd e
    obtain ⟨t, h1, ⟨h2, h3⟩ | ⟨v, h, _⟩⟩ := layTabs_get e
    · exact ⟨t, h1, h2, by simpa using h3⟩
    · cases h
  have hnobj : ∀ k o, (layTabs l).get k = some o → o.isObj = true → False := by
    intro k o e hi
    obtain ⟨t, h1, ⟨_, h⟩ | ⟨v, h, _⟩⟩ := layTabs_get e <;> subst h <;> simp [Slot.isObj] at hi
  constructor
  · intro k h e
    obtain ⟨t, ht, rfl, rfl⟩ := hhdr k h e
    obtain ⟨hlt, ⟨c, hc, hsz, _⟩, hn, hel⟩ := hok t ht
    exact ⟨_, c, 0, 0, mapI_at hlt, hc, (by rw [hsz, hn]), hel, (by simp [hn]), fun _ => (by simp [hn]), fun _ => rfl, fun h => (by cases h), Nat.le_refl _, fun _ i h1 h2 => (by omega), fun _ _ i h1 h2 => (by omega), (by simp)⟩
  · intro k h o v e e'
    obtain ⟨t, ht, rfl, rfl⟩ := hhdr k h e
    obtain ⟨t', ht', ⟨h1, h2⟩ | ⟨u, h1, h2, h3⟩⟩ := layTabs_get e'
    · cases h2
    · simp only [Slot.cell.injEq] at h1
      obtain ⟨h4, rfl⟩ := h1
      obtain rfl := hd t ht t' ht' (gbase_inj h4)
      rw [show gbase t.g + 1 + o - (gbase t.g + 1) = o from by omega] at h3
      obtain ⟨hlt, ⟨c, hc, hsz, hv⟩, hn, hel⟩ := hok t ht
      obtain ⟨v', e1, e2⟩ := hv o v h3
      refine ⟨(List.getElem?_eq_some_iff.1 h3).1, _, v', mapI_at hlt, ?_, e2⟩
      rw [cell_of hc]
      simpa using e1
  · intro k h k2 h2 x x2 e e2 hne e3 e4 e5
    obtain ⟨t, ht, rfl, rfl⟩ := hhdr k h e
    obtain ⟨t', ht', rfl, rfl⟩ := hhdr k2 h2 e2
    rw [mapI_at (hok t ht).lt] at e3
    rw [mapI_at (hok t' ht').lt] at e4
    obtain rfl := Option.some.inj e3
    obtain rfl := Option.some.inj e4
    simp only at e5
    exact absurd (by rw [e5]) hne
  · intro k h k2 h2 e hm
    obtain ⟨t, ht, rfl, rfl⟩ := hhdr k h e
    simp at hm
  · intro k o e hi; exact (hnobj k o e hi).elim
  · intro k o k2 o2 x x2 e hi; exact (hnobj k o e hi).elim
  · intro j b v e
    obtain ⟨t, ht, ⟨_, h⟩ | ⟨u, h, _⟩⟩ := layTabs_get e
    · cases h
    · simp only [Slot.cell.injEq] at h
      rw [h.1]
      exact ⟨_, mapI_at (hok t ht).lt⟩
  · intro k h b2 e hm
    obtain ⟨t, ht, rfl, rfl⟩ := hhdr k h e
    simp at hm
  · intro k x e
    have e : (if 1 ≤ k ∧ (k - 1) % 65536 = 0 ∧ (k - 1) / 65536 < P.globals.size then some (⟨(k - 1) / 65536, 0, N ((k - 1) / 65536), sz ((k - 1) / 65536), []⟩ : Blk) else px k) = some x := e
    split at e
    · rename_i h
      simp only [Option.some.injEq] at e
      subst e
      exact Nat.lt_of_lt_of_le h.2.2 hgs
    · exact hpx k x e
  · intro B x e
    obtain ⟨h1, h2⟩ := hls B x e
    refine ⟨h1, h2, fun b h y e1 _ _ => ?_⟩
    obtain ⟨t, ht, rfl, rfl⟩ := hhdr b h e1
    rfl
  · exact fun B x e => .inr e
end
end Go.Ev
/- Soundness, part 26: what is checked of a program once. -/
namespace Go.Ev
open Go Go.RowKit
theorem ext_get : ∀ (ext : List (Nat × Nat)) (f c : Nat), (ext.foldr (fun x (t : Tr Nat) => t.set x.1 (some x.2)) .nil).get f = some c → (f, c) ∈ ext := by
  intro ext
  induction ext with
  | nil => intro f c h; simp [Tr.get_nil] at h
  | cons x l ih =>
    intro f c h
    rw [List.foldr_cons, Tr.get_set] at h
    split at h
    · rename_i hf
      simp only [Option.some.injEq] at h
      subst hf h
      exact List.mem_cons_self ..
    · exact List.mem_cons_of_mem _ (ih f c h)
def zeroOk (i : TypeInfo) : Bool := match i.zero with
  | some z => lit z && (Nat.beq (cellsL z).length i.size)
  | none => true
def funcOk (ng : Nat) (f : Func) : Bool := (match f.body with
  | some c => okCode ng c
  | none => true) && !(f.name == "runtime.NumGoroutine")
theorem EnvOK.of {P : Program} {ext : List (Nat × Nat)} {orc : Nat → Option (List Value → Prog)} {raw : Nat → Nat} {keep : Nat → Nat → Option (List Nat)} {kp nm : Bool} {shp : Nat → Nat → Option Nm} {bud : Nat} (hz : P.types.toList.all zeroOk = true) (hf : P.funcs.toList.all (funcOk P.globals.size) = true)
    (ho : ∀ f p, orc f = some p → OrcOK P f p) (hx : ∀ (f c : Nat), (f, c) ∈ ext → ∀ (fn : Func), P.funcs[f]? = some fn → Extern.findNext fn = none ∧ ∃ e, Extern.find fn = some e ∧ extSem c fn e) : EnvOK P (Env.of P ext orc raw keep kp nm shp bud) := by
  have gf : ∀ (f : Nat) (fn : Func), (Env.of P ext orc raw keep kp nm shp bud).fn.get f = some fn → P.funcs[f]? = some fn := by
    intro f fn h
    have h : (Tr.ofList 0 P.funcs.toList).get f = some fn := h
    rw [Tr.get_ofList] at h
    simpa using h
  have gt : ∀ (t : Nat) (i : TypeInfo), (Env.of P ext orc raw keep kp nm shp bud).ty.get t = some i → P.types[t]? = some i := by
    intro f fn h
    have h : (Tr.ofList 0 P.types.toList).get f = some fn := h
    rw [Tr.get_ofList] at h
    simpa using h
  have hmem : ∀ (f : Nat) (fn : Func), P.funcs[f]? = some fn → funcOk P.globals.size fn = true := fun f fn h => List.all_eq_true.1 hf fn (by
    have : P.funcs.toList[f]? = some fn := by simpa using h
    exact List.mem_of_getElem? this)
  have gi : ∀ (t : Nat) (i : TypeInfo), (Env.of P ext orc raw keep kp nm shp bud).ty.get t = some i → P.info? t = some i := by
    intro t i h
    have e := gt t i h
    have hlt : t < P.types.size := (Array.getElem?_eq_some_iff.1 e).1
    show Tables.info? _ t = some i
    unfold Tables.info?
    rw [if_pos hlt]
    exact e
  refine ⟨rfl, gf, gi, ?_, ?_, ?_, ho, ?_⟩
  · intro t i z h e
    have hm : zeroOk i = true := List.all_eq_true.1 hz i (by
      have : P.types.toList[t]? = some i := by simpa using gt t i h
      exact List.mem_of_getElem? this)
    unfold zeroOk at hm
    rw [e] at hm
    simp only [Bool.and_eq_true] at hm
    exact ⟨hm.1, Nat.eq_of_beq_eq_true hm.2⟩
  · intro f fn c h hb
    have := hmem f fn (gf f fn h)
    unfold funcOk at this
    rw [hb] at this
    simp only [Bool.and_eq_true] at this
    exact this.1
  · intro f fn h
    have := hmem f fn (gf f fn h)
    unfold funcOk at this
    simp only [Bool.and_eq_true, Bool.not_eq_true'] at this
    exact this.2
  · intro f fn c h hc
    exact hx f c (ext_get ext f c hc) fn (gf f fn h)
end Go.Ev
