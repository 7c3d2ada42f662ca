import Derived.Test.YtpljgnjdlciicaaGreatDoorLxKP30
namespace Go.Ev
open Go Go.RowKit
section
variable {P : Program} {E : Env} {B0 : Nat} {w0 : World}
theorem ev_calls (ok : EnvOK P E) (mixed : P.follows .mixedOrders = true) {n f : Nat} {args args' : List Value} {s s' : St} {v : Value} (h : (callF E (runP E n) f args).run s = some (v, s')) (hb : ∃ fn c, E.fn.get f = some fn ∧ fn.body = some c) (horc : E.orc f = none)
    {ρ : Map} {w : World} (r : WR P ρ B0 w0 s.mem w) (fresh : Fr ρ s.mem s.ctr s'.ctr) (gl : GlOK P ρ) (ha : VRs ρ args args') :
    Calls P f ⟨args'⟩ w (fun e w' => ∃ v' ρ', e = .returned v' ∧ VR ρ' v v' ∧ WR P ρ' B0 w0 s'.mem w' ∧ Gr ρ ρ' s.ctr s'.ctr) := by
  intro cs
  obtain ⟨fn, c, hf, hb⟩ := hb
  unfold callF at h
  rw [hf] at h
  simp only [opt, hb, horc] at h
  obtain ⟨_, h5⟩ := ck_run h
  obtain ⟨ρ1, args1, s1, h6, ha1, r1, gl1, hc1⟩ := frzAs_ok _ _ ρ args args' _ s w _ h5 ha r
  obtain ⟨hlen, h2⟩ := ck_run h6
  have hlen := Nat.le_of_ble_eq_true hlen
  have fr1 : Fr ρ1 s1.mem s1.ctr s'.ctr := by rw [hc1]; exact gl1.fr fresh
  have hPf := ok.fn f fn hf
  let b : Frame := { (default : Frame) with fn := f, kind := .normal }
  let a : Act := { tmps := (⟨args'⟩ : Array Value) ++ Array.replicate (fn.ntmps - (⟨args'⟩ : Array Value).size) undef, defers := [] }
  have henter : Frame.enter P f ⟨args'⟩ .normal = b.atR a [.code c] := by
    simp [Frame.enter, Frame.atR, hPf, hb, b, a]
    rfl
  obtain ⟨ρ', w', v', g1, g2, g3, g4⟩ := main_ok (B0 := B0) (w0 := w0) ok mixed n f (frameTm fn.ntmps args1) [.code c] [] none s1 v s' h2 (by simp [okItem, ok.code f fn c hf hb]) ρ1 w b a cs
    ⟨rfl, TR.enter ha1 hlen, .nil, trivial, fun q => absurd rfl q, by simp [b]⟩ r1 fr1 (gl.ext gl1.1)
  obtain ⟨fr', e1, e2, e3, e4, e5, fn', e6, e7⟩ := (show ∃ fr', Steps P (lone (b.atR a [.code c]) cs w) (lone fr' cs w') ∧ fr'.fn = b.fn ∧ fr'.kind = b.kind ∧ fr'.mode = .returning ∧ fr'.defers = [] ∧
    ∃ f, P.funcs[b.fn]? = some f ∧ (results f fr'.tmps).run P w' = .ok v' w' from g4)
  have g1 : Gr ρ ρ' s.ctr s'.ctr := by
    rw [hc1] at g1
    have hle := Prog.ctr_le h2
    rw [hc1] at hle
    exact (gl1.gr s.ctr s.ctr).trans g1 (Nat.le_refl _) hle
  refine ⟨.returned v', w', fr', ⟨v', ρ', rfl, g2, g3, g1⟩, ?_, e2, e4, e5, e3, fn', by rw [e2]; exact e6, e7⟩
  rw [henter]
  exact e1
theorem ev_true (ok : EnvOK P E) (mixed : P.follows .mixedOrders = true) {n f : Nat} {args args' : List Value} {s : St} (h : isTrue ((callF E (runP E n) f args).run s) = true) (hb : ∃ fn c, E.fn.get f = some fn ∧ fn.body = some c) (horc : E.orc f = none)
    {ρ : Map} {w : World} (r : MR P ρ w.heap.size s.mem w) (fresh : ∀ k, s.ctr ≤ k → ρ k = none) (gl : GlOK P ρ) (ha : VRs ρ args args') :
    Calls P f ⟨args'⟩ w (fun e w' => e = .returned (.bool true) ∧ Below w.heap.size w w') := by
  unfold isTrue at h
  split at h
  · rename_i s' hr
    refine Calls.mono (ev_calls (B0 := w.heap.size) (w0 := w) ok mixed hr hb horc ⟨r, Below.refl _ _, Nat.le_refl _⟩ ⟨fun k h1 _ => fresh k h1⟩ gl ha) ?_
    rintro e w' ⟨v', ρ', rfl, hv, hw, _⟩
    cases hv
    exact ⟨rfl, hw.bel⟩
  · cases h
structure Tab where
  g : Nat
  el : Nat
  cells : List Value
def layTabs : List Tab → Tr Slot
  | [] => .nil
  | t :: l => layGlobal t.g t.el t.cells (layTabs l)
theorem gbase_eq (g : Nat) : gbase g = 1 + g * 65536 := by simp [gbase]
def mapI (ng : Nat) (N sz : Nat → Nat) (px ls : Nat → Option Blk) : Map := ⟨fun k =>
  if 1 ≤ k ∧ (k - 1) % 65536 = 0 ∧ (k - 1) / 65536 < ng then some ⟨(k - 1) / 65536, 0, N ((k - 1) / 65536), sz ((k - 1) / 65536), []⟩ else px k, ls⟩
theorem mapI_at {ng : Nat} {N sz : Nat → Nat} {px ls : Nat → Option Blk} {g : Nat} (h : g < ng) : mapI ng N sz px ls (gbase g) = some ⟨g, 0, N g, sz g, []⟩ := by
  have h0 : gbase g - 1 = g * 65536 := by rw [gbase_eq]; omega
  have h1 : (g * 65536) / 65536 = g := Nat.mul_div_cancel _ (by omega)
  have h2 : (g * 65536) % 65536 = 0 := Nat.mul_mod_left _ _
  have h3 : 1 ≤ gbase g := by rw [gbase_eq]; omega
  show (if _ then _ else _) = _
  rw [h0, h1, h2, if_pos ⟨h3, rfl, h⟩]
theorem mapI_high {ng : Nat} {N sz : Nat → Nat} {px ls : Nat → Option Blk} {k : Nat} (h : gbase ng ≤ k) : mapI ng N sz px ls k = px k := by
  show (if _ then _ else _) = _
  rw [if_neg]
  rintro ⟨_, _, h1⟩
  rw [gbase_eq] at h
  omega
theorem mapI_gl {N sz : Nat → Nat} {px ls : Nat → Option Blk} : GlOK P (mapI P.globals.size N sz px ls) := fun g hg => ⟨_, mapI_at hg, rfl, rfl⟩
theorem layTabs_get : ∀ {l : List Tab} {k : Nat} {s : Slot}, (layTabs l).get k = some s → ∃ t ∈ l, (k = gbase t.g ∧ s = .hdr ⟨t.cells.length, t.el, true, true, true, 0, false, false, []⟩) ∨
    (∃ v, s = .cell (gbase t.g) v ∧ gbase t.g + 1 ≤ k ∧ t.cells[k - (gbase t.g + 1)]? = some v) := by
  intro l
  induction l with
  | nil => intro k s e; rw [layTabs, Tr.get_nil] at e; cases e
  | cons t l ih =>
    intro k s e
    unfold layTabs layGlobal at e
    simp only [Nat.add_eq] at e
    rw [layCells_get] at e
    split at e
    · rename_i hin
      cases hv : t.cells[k - (gbase t.g + 1)]? with
      | none => rw [hv] at e; cases e
      | some v => rw [hv] at e; exact ⟨t, List.mem_cons_self .., .inr ⟨v, (Option.some.inj e).symm, hin.1, hv⟩⟩
    · rw [Tr.get_set] at e
      split at e
      · rename_i hk; exact ⟨t, List.mem_cons_self .., .inl ⟨hk, (Option.some.inj e).symm⟩⟩
      · obtain ⟨t', h1, h2⟩ := ih e
        exact ⟨t', List.mem_cons_of_mem _ h1, h2⟩
theorem gbase_inj {g g' : Nat} (h : gbase g = gbase g') : g = g' := by rw [gbase_eq, gbase_eq] at h; omega
structure TabOK (P : Program) (ρ : Map) (w : World) (N sz : Nat → Nat) (t : Tab) : Prop where
  lt : t.g < P.globals.size
  heap : ∃ c, w.heap[t.g]? = some (.cells c t.el (0, 0)) ∧ c.size = t.cells.length ∧ ∀ (i : Nat) (v : Value), t.cells[i]? = some v → ∃ v', c[i]? = some v' ∧ VR ρ v v'
  n : N t.g = t.cells.length
  el : ∃ i, P.info? t.el = some i ∧ i.size = sz t.g
theorem MR.tables {N sz : Nat → Nat} {px ls : Nat → Option Blk} {w : World} {l : List Tab} (hd : ∀ t ∈ l, ∀ t' ∈ l, t.g = t'.g → t = t') (hok : ∀ t ∈ l, TabOK P (mapI P.globals.size N sz px ls) w N sz t) (hgs : P.globals.size ≤ w.heap.size)
    (hpx : ∀ k x, px k = some x → x.B < w.heap.size) (hls : ∀ B x, ls B = some x → x.B = B ∧ ∃ c el fr, w.heap[B]? = some (.cells c el fr) ∧ c.toList = x.fc) : MR P (mapI P.globals.size N sz px ls) w.heap.size (layTabs l) w := by
  have hhdr : ∀ k hd, (layTabs l).get k = some (.hdr hd) → ∃ t ∈ l, k = gbase t.g ∧ hd = ⟨t.cells.length, t.el, true, true, true, 0, false, false, []⟩ := by
    intro k hd e
    obtain ⟨t, h1, ⟨h2, h3⟩ | ⟨v, h, _⟩⟩ := layTabs_get e
    · exact ⟨t, h1, h2, by simpa using h3⟩
    · cases h
  have hnobj : ∀ k o, (layTabs l).get k = some o → o.isObj = true → False := by
    intro k o e hi
    obtain ⟨t, h1, ⟨_, h⟩ | ⟨v, h, _⟩⟩ := layTabs_get e <;> subst h <;> simp [Slot.isObj] at hi
  constructor
  · intro k h e
    obtain ⟨t, ht, rfl, rfl⟩ := hhdr k h e
    obtain ⟨hlt, ⟨c, hc, hsz, _⟩, hn, hel⟩ := hok t ht
    exact ⟨_, c, 0, 0, mapI_at hlt, hc, (by rw [hsz, hn]), hel, (by simp [hn]), fun _ => (by simp [hn]), fun _ => rfl, fun h => (by cases h), Nat.le_refl _, fun _ i h1 h2 => (by omega), fun _ _ i h1 h2 => (by omega), (by simp)⟩
  · intro k h o v e e'
    obtain ⟨t, ht, rfl, rfl⟩ := hhdr k h e
    obtain ⟨t', ht', ⟨h1, h2⟩ | ⟨u, h1, h2, h3⟩⟩ := layTabs_get e'
    · cases h2
    · simp only [Slot.cell.injEq] at h1
      obtain ⟨h4, rfl⟩ := h1
      obtain rfl := hd t ht t' ht' (gbase_inj h4)
      rw [show gbase t.g + 1 + o - (gbase t.g + 1) = o from by omega] at h3
      obtain ⟨hlt, ⟨c, hc, hsz, hv⟩, hn, hel⟩ := hok t ht
      obtain ⟨v', e1, e2⟩ := hv o v h3
      refine ⟨(List.getElem?_eq_some_iff.1 h3).1, _, v', mapI_at hlt, ?_, e2⟩
      rw [cell_of hc]
      simpa using e1
  · intro k h k2 h2 x x2 e e2 hne e3 e4 e5
    obtain ⟨t, ht, rfl, rfl⟩ := hhdr k h e
    obtain ⟨t', ht', rfl, rfl⟩ := hhdr k2 h2 e2
    rw [mapI_at (hok t ht).lt] at e3
    rw [mapI_at (hok t' ht').lt] at e4
    obtain rfl := Option.some.inj e3
    obtain rfl := Option.some.inj e4
    simp only at e5
    exact absurd (by rw [e5]) hne
  · intro k h k2 h2 e hm
    obtain ⟨t, ht, rfl, rfl⟩ := hhdr k h e
    simp at hm
  · intro k o e hi; exact (hnobj k o e hi).elim
  · intro k o k2 o2 x x2 e hi; exact (hnobj k o e hi).elim
  · intro j b v e
    obtain ⟨t, ht, ⟨_, h⟩ | ⟨u, h, _⟩⟩ := layTabs_get e
    · cases h
    · simp only [Slot.cell.injEq] at h
      rw [h.1]
      exact ⟨_, mapI_at (hok t ht).lt⟩
  · intro k h b2 e hm
    obtain ⟨t, ht, rfl, rfl⟩ := hhdr k h e
    simp at hm
  · intro k x e
    have e : (if 1 ≤ k ∧ (k - 1) % 65536 = 0 ∧ (k - 1) / 65536 < P.globals.size then some (⟨(k - 1) / 65536, 0, N ((k - 1) / 65536), sz ((k - 1) / 65536), []⟩ : Blk) else px k) = some x := e
    split at e
    · rename_i h
      simp only [Option.some.injEq] at e
      subst e
      exact Nat.lt_of_lt_of_le h.2.2 hgs
    · exact hpx k x e
  · intro B x e
    obtain ⟨h1, h2⟩ := hls B x e
    refine ⟨h1, h2, fun b h y e1 _ _ => ?_⟩
    obtain ⟨t, ht, rfl, rfl⟩ := hhdr b h e1
    rfl
end
end Go.Ev
