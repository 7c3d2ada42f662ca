import Derived.Test.YtpljgnjdlciicaaGreatDoorLxKP29
namespace Go.Ev
open Go Go.RowKit
section
variable {P : Program} {E : Env} {B0 : Nat} {w0 : World}
theorem stepR_scope {b : Frame} {a : Act} {k : List Item} {cs : List Frame} {w : World} {c : Code} :
    step P (lone (b.atR a (.code (.scope c) :: k)) cs w) = .next (lone (b.atR a (.code c :: .inScope c :: k)) cs w) :=
  step_lone_go (by simp [stepG, stepG.exec, Frame.atR])
theorem stepR_inScope {b : Frame} {a : Act} {k : List Item} {cs : List Frame} {w : World} {c : Code} :
    step P (lone (b.atR a (.inScope c :: k)) cs w) = .next (lone (b.atR a k) cs w) :=
  step_lone_go (by simp [stepG, stepG.exec, Frame.atR])
def ComesTo (P : Program) (B0 : Nat) (w0 : World) (ρ : Map) (s s' : St) (v : Value) (b : Frame) (cs : List Frame) (m0 : Machine) : Prop :=
  ∃ ρ' w' v', Gr ρ ρ' s.ctr s'.ctr ∧ VR ρ' v v' ∧ WR P ρ' B0 w0 s'.mem w' ∧ Ends P b cs m0 w' v'
theorem FR.keep {ρ : Map} {fn : Nat} {tm : Tm} {df : List Deferred} {rd : Option Nat} {b : Frame} {a : Act} {cs : List Frame} (r : FR P ρ fn tm df rd b a cs) (l : List Nat) : FR P ρ fn (keepT tm l) df rd b a cs :=
  ⟨r.hfn, r.htm.keep l, r.hdf, r.hrd, r.hkind, r.hdk⟩
theorem nxt_run {io ih : Rec} {fn : Nat} {tm : Tm} {todo : List Item} {df : List Deferred} {rd : Option Nat} {s : St} {q : Value × St} (h : (nxt E io ih fn tm todo df rd).run s = some q) :
    (ih fn tm todo df rd).run s = some q ∨ ∃ l, (io fn (keepT tm l) todo df rd).run s = some q := by
  unfold nxt at h
  split at h
  · exact .inl h
  · split at h
    · split at h
      · exact .inr ⟨_, h⟩
      · exact .inl h
    · exact .inl h
theorem glueI {io : Rec} (hm : Main P B0 w0 io) {fn : Nat} {tm1 : Tm} {todo1 : List Item} {df1 : List Deferred} {rd : Option Nat} {s s1 s' : St} {v : Value} {ρ ρ1 : Map} {w1 : World} {b : Frame} {a1 : Act} {cs : List Frame} {m0 : Machine}
    (h : (io fn tm1 todo1 df1 rd).run s1 = some (v, s')) (hk : todo1.all (okItem P.globals.size) = true) (fr : FR P ρ1 fn tm1 df1 rd b a1 cs) (r : WR P ρ1 B0 w0 s1.mem w1) (g : Gr ρ ρ1 s.ctr s1.ctr) (hle : s.ctr ≤ s1.ctr)
    (fresh : Fr ρ s.mem s.ctr s'.ctr) (gl : GlOK P ρ) (hs : Steps P m0 (lone (b.atR a1 todo1) cs w1)) : ComesTo P B0 w0 ρ s s' v b cs m0 := by
  obtain ⟨ρ', w', v', h1, h2, h3, h4⟩ := hm fn tm1 todo1 df1 rd s1 v s' h hk ρ1 w1 b a1 cs fr r (fresh.after g hle) (gl.ext g.1)
  exact ⟨ρ', w', v', g.trans h1 hle (Prog.ctr_le h), h2, h3, h4.of_steps hs⟩
theorem glue {io ih : Rec} (hm : Main P B0 w0 io) (hi : Main P B0 w0 ih) {fn : Nat} {tm1 : Tm} {todo1 : List Item} {df1 : List Deferred} {rd : Option Nat} {s s1 s' : St} {v : Value} {ρ ρ1 : Map} {w1 : World} {b : Frame} {a1 : Act} {cs : List Frame} {m0 : Machine}
    (h0 : (nxt E io ih fn tm1 todo1 df1 rd).run s1 = some (v, s')) (hk : todo1.all (okItem P.globals.size) = true) (fr : FR P ρ1 fn tm1 df1 rd b a1 cs) (r : WR P ρ1 B0 w0 s1.mem w1) (g : Gr ρ ρ1 s.ctr s1.ctr) (hle : s.ctr ≤ s1.ctr)
    (fresh : Fr ρ s.mem s.ctr s'.ctr) (gl : GlOK P ρ) (hs : Steps P m0 (lone (b.atR a1 todo1) cs w1)) : ComesTo P B0 w0 ρ s s' v b cs m0 := by
  rcases nxt_run h0 with h | ⟨l, h⟩
  · exact glueI hi h hk fr r g hle fresh gl hs
  · exact glueI hm h hk (fr.keep l) r g hle fresh gl hs
theorem leaveS_ok (ok : EnvOK P E) {io : Rec} (hm : Main P B0 w0 io) {fn : Nat} {tm : Tm} {df : List Deferred} {rd : Option Nat} {jump : Option Code} {s s' : St} {v : Value} {ρ : Map} {w : World} {b : Frame} {a : Act} {cs : List Frame} {todo : List Item}
    (hj : ∀ c, jump = some c → okCode P.globals.size c = true) (h : (leaveS E io fn tm df rd jump).run s = some (v, s')) (fr : FR P ρ fn tm df rd b a cs) (r : WR P ρ B0 w0 s.mem w) (fresh : Fr ρ s.mem s.ctr s'.ctr) (gl : GlOK P ρ)
    (h1 : b.roundOf = none → (jump = none ∨ jump = some .ret) → step P (lone (b.atR a todo) cs w) = .next (lone { b.atR a todo with mode := .returning } cs w))
    (h2 : ∀ l c cs' u w', b.roundOf = some l → b.kind = .normal → cs = c :: cs' → (Instr.endRound l jump).run P w = .ok u w' → step P (lone (b.atR a todo) cs w) = .next (lone (c.finish u) cs' w')) :
    ComesTo P B0 w0 ρ s s' v b cs (lone (b.atR a todo) cs w) := by
  unfold leaveS at h
  have fun_case : rd = none → (jump = none ∨ jump = some .ret) → (leaveA E io fn tm 64 df).run s = some (v, s') → ComesTo P B0 w0 ρ s s' v b cs (lone (b.atR a todo) cs w) := by
    intro hr hjj hl
    subst hr
    have hro := fr.hrd.none_inv
    obtain ⟨ρ', w', v', fr', e1, e2, e3, e4, e5, e6, e7, e8, e9⟩ := leaveA_ok ok hm 64 df s s' v hl ρ w { b.atR a todo with mode := .returning } cs fr.hfn rfl fr.htm fr.hdf r fresh gl
    refine ⟨ρ', w', v', e1, e2, e3, ?_⟩
    unfold Ends
    rw [hro]
    refine ⟨fr', .head (h1 hro hjj) e4, e5.trans fr.hfn.symm, e6, e7, e8, ?_⟩
    rw [fr.hfn]; exact e9
  split at h
  · split at h
    · exact fun_case rfl (.inl rfl) h
    · exact fun_case rfl (.inr rfl) h
    · exact (fail_run h).elim
  · rename_i l
    split at h
    · obtain ⟨x, hx, hro⟩ := fr.hrd.some_inv
      obtain ⟨hkn, hcs⟩ := fr.hkind (by simp)
      obtain ⟨w', e1, e2, e3, e4⟩ := endRound_run hj h r hx
      refine ⟨ρ, w', .bool jump.isNone, Gr.refl _ _ _, ?_, e3, ?_⟩
      · rw [e2]; exact .bool _
      · unfold Ends
        rw [hro]
        exact fun c cs' hc => .one (h2 _ c cs' _ w' hro hkn hc e1)
    · exact (fail_run h).elim
theorem stepA_ok (ok : EnvOK P E) (mixed : P.follows .mixedOrders = true) {io ih : Rec} (hm : Main P B0 w0 io) (hi : Main P B0 w0 ih) (fn : Nat) (tm : Tm) (todo : List Item) (df : List Deferred) (rd : Option Nat) :
    MainAt P B0 w0 (stepA E io ih fn tm todo df rd) fn tm todo df rd := by
  intro s v s' h hk ρ w b a cs fr r fresh gl
  show ComesTo P B0 w0 ρ s s' v b cs (lone (b.atR a todo) cs w)
  have go : ∀ {todo1 : List Item}, (nxt E io ih fn tm todo1 df rd).run s = some (v, s') → todo1.all (okItem P.globals.size) = true → step P (lone (b.atR a todo) cs w) = .next (lone (b.atR a todo1) cs w) →
      ComesTo P B0 w0 ρ s s' v b cs (lone (b.atR a todo) cs w) := fun h1 h2 h3 => glue hm hi h1 h2 fr r (Gr.refl _ _ _) (Nat.le_refl _) fresh gl (.one h3)
  cases todo with
  | nil =>
    simp only [stepA] at h
    refine leaveS_ok ok hm (fun c e => by cases e) h fr r fresh gl (fun h1 _ => stepR_end h1) (fun l c cs' u w' h1 h2 h3 h4 => ?_)
    subst h3
    exact stepR_round_end h1 h2 h4
  | cons x k =>
    simp only [List.all_cons, Bool.and_eq_true] at hk
    obtain ⟨hx, hk⟩ := hk
    cases x with
    | code c =>
      simp only [okItem] at hx
      cases c with
      | ret =>
        simp only [stepA] at h
        refine leaveS_ok ok hm (fun c e => by cases e; rfl) h fr r fresh gl (fun h1 _ => stepR_ret h1) (fun l c cs' u w' h1 h2 h3 h4 => ?_)
        subst h3
        exact stepR_round_ret h1 h2 h4
      | skip => exact go h hk stepR_skip
      | label l => exact go h hk stepR_label
      | seq x y =>
        simp only [okCode, Bool.and_eq_true] at hx
        exact go h (by simp [okItem, hx.1, hx.2, hk]) stepR_seq
      | cond c x y =>
        simp only [okCode, Bool.and_eq_true] at hx
        obtain ⟨⟨hc, hx1⟩, hx2⟩ := hx
        simp only [stepA] at h
        obtain ⟨hlv, h⟩ := ck_run h
        have hv := evO_ok fr.htm gl hc hlv
        split at h
        · rename_i t hev
          rw [hev] at hv
          generalize hav : a.eval c = u at hv
          cases hv
          cases t with
          | true => exact go h (by simp [okItem, hx1, hk]) (stepR_cond hav)
          | false => exact go h (by simp [okItem, hx2, hk]) (stepR_cond hav)
        · exact (fail_run h).elim
      | block id c => exact go h (by simp only [okCode] at hx; simp [okItem, hx, hk]) stepR_block
      | loop c => exact go h (by simp only [okCode] at hx; simp [okItem, hx, hk]) stepR_loop
      | scope c => exact go h (by simp only [okCode] at hx; simp [okItem, hx, hk]) stepR_scope
      | exit id =>
        simp only [stepA] at h
        split at h
        · rename_i k' he
          exact go h (exitTo_ok he hk) (stepR_exit he)
        · rename_i he
          refine leaveS_ok ok hm (fun c e => by cases e; rfl) h fr r fresh gl (fun _ h2 => by rcases h2 with h2 | h2 <;> cases h2) (fun l c cs' u w' h1 h2 h3 h4 => ?_)
          subst h3
          exact stepR_round_exit h1 h2 he h4
      | goto l =>
        simp only [stepA] at h
        split at h
        · rename_i k' he
          exact go h (gotoIn_ok he hk) (stepR_goto he)
        · rename_i he
          refine leaveS_ok ok hm (fun c e => by cases e; rfl) h fr r fresh gl (fun _ h2 => by rcases h2 with h2 | h2 <;> cases h2) (fun l c cs' u w' h1 h2 h3 h4 => ?_)
          subst h3
          exact stepR_round_goto h1 h2 he h4
      | region id ops draw =>
        have hops : ops.toList.all (okOper P.globals.size) = true := by simpa only [okCode] using hx
        cases draw with
        | false =>
          simp only [stepA] at h
          obtain ⟨tm1, df1, s1, ρ1, w1, a1, q1, q2, q3, q4, q5, q6⟩ := opsA_ok ok hm hops ops.toList 0 rfl tm df s s' v h ρ w b a cs k fr r fresh gl
          have e : List.range' 0 ops.toList.length = List.range ops.size := by rw [List.range_eq_range']; rfl
          rw [e] at q6
          exact glue hm hi q1 hk q4 q5 q2 q3 fresh gl (.head stepR_region (q6.trans (.one stepR_region_end)))
        | true =>
          simp only [stepA] at h
          obtain ⟨tm1, s1, ρ1, w1, a1, q1, q2, q3, q4, q5, q6⟩ := opsD_ok (id := id) ok mixed hm hops h fr r fresh gl
          exact glue hm hi q1 hk q4 q5 q2 q3 fresh gl q6
      | rangeFunc f ps assign body =>
        simp only [stepA] at h
        simp only [okCode, Bool.and_eq_true] at hx
        obtain ⟨⟨hf, ha⟩, hb⟩ := hx
        cases rd with
        | none =>
          obtain ⟨todo1, df1, s1, ρ1, w1, a1, q1, q2, q3, q4, q5, q6, q7⟩ := rangeFuncA_ok ok hm h fr r fresh gl hf ha hb hk
          exact glueI hi q1 q2 q3 q4 q5 q6 fresh gl q7
        | some l => exact (fail_run h).elim
      | refuse why => exact (fail_run h).elim
    | inBlock id => exact go h hk stepR_inBlock
    | inScope c => exact go h hk stepR_inScope
    | inLoop c =>
      simp only [okItem] at hx
      exact go h (by simp [okItem, hx, hk]) stepR_inLoop
    | beginRound =>
      simp only [stepA] at h
      obtain ⟨l, hrd, h1⟩ := opt_run h
      subst hrd
      obtain ⟨x, hx, hro⟩ := fr.hrd.some_inv
      obtain ⟨s1, w', q1, q2, q3, q4⟩ := beginRound_ok h1 r hx
      exact glue hm hi q1 hk fr q3 (by rw [q2]; exact Gr.refl _ _ _) (by omega) fresh gl (.one (stepR_beginRound hro q4))
    | _ => exact (fail_run h).elim
theorem runI_ok (ok : EnvOK P E) (mixed : P.follows .mixedOrders = true) {io : Rec} (hm : Main P B0 w0 io) : ∀ n, Main P B0 w0 (runI E io n) := by
  intro n
  induction n with
  | zero => intro fn tm todo df rd s v s' h; exact (fail_run h).elim
  | succ n ih => exact fun fn tm todo df rd => stepA_ok ok mixed hm ih fn tm todo df rd
theorem main_ok (ok : EnvOK P E) (mixed : P.follows .mixedOrders = true) : ∀ n, Main P B0 w0 (runP E n) := by
  intro n
  induction n with
  | zero => intro fn tm todo df rd s v s' h; exact (fail_run h).elim
  | succ n ih => exact fun fn tm todo df rd => runI_ok ok mixed ih E.bud fn tm todo df rd
end
end Go.Ev
