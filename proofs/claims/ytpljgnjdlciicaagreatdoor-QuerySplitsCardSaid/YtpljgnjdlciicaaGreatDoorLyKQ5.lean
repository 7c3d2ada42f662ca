/- Soundness, part 3: stores, new rows and objects keep the relation. -/
import Derived.Test.YtpljgnjdlciicaaGreatDoorLyKQ4
namespace Go.Ev
open Go Go.RowKit
section
variable {P : Program} {ρ : Map} {B0 : Nat}

theorem VR.oneC {v v' : Value} (h : VR ρ v v') : oneC v' = oneC v := by cases h <;> rfl
theorem VRs.oneC {l l' : List Value} (h : VRs ρ l l') : l'.all Ev.oneC = l.all Ev.oneC := by
  induction l generalizing l' with
  | nil => cases h; rfl
  | cons v l ih => cases h with | cons a b => simp [ih b, VR.oneC a]
theorem cell_of {w : World} {B i : Nat} {c : Array Value} {e : TypeId} {fr : Nat × Nat} (h : w.heap[B]? = some (.cells c e fr)) : w.cell? ⟨B, i, none⟩ = c[i]? := by
  simp [World.cell?, h]
theorem cell_same {w w' : World} {B i : Nat} (h : w'.heap[B]? = w.heap[B]?) : w'.cell? ⟨B, i, none⟩ = w.cell? ⟨B, i, none⟩ := by
  simp [World.cell?, h]
theorem ObR.notCells {s : Slot} {o : Obj} (h : ObR P ρ s o) : ∀ c e fr, o ≠ .cells c e fr := by
  intro c e fr; cases h <;> simp

/-- Below a block number, the tape, the streams: as they were. -/
abbrev Bel (B0 : Nat) (w w' : World) : Prop := Below B0 w w'

/-- The header behind a store: its former places are gone. -/
theorem MR.purge {m : Tr Slot} {w : World} (r : MR P ρ B0 m w) {b : Nat} {h : Hdr} (hb : m.get b = some (.hdr h)) (hmv : h.mv = false) :
    MR P ρ B0 ((kill h.olds m).set b (some (.hdr { h with olds := [] }))) w ∧
    ∀ b2 h2 x x2, ((kill h.olds m).set b (some (.hdr { h with olds := [] }))).get b2 = some (.hdr h2) → b2 ≠ b → ρ b = some x → ρ b2 = some x2 → x2.B = x.B → False := by
  have hget : ∀ k s, ((kill h.olds m).set b (some (.hdr { h with olds := [] }))).get k = some s → (k = b ∧ s = .hdr { h with olds := [] }) ∨ (k ≠ b ∧ k ∉ h.olds ∧ m.get k = some s) := by
    intro k s e
    rw [Tr.get_set] at e
    by_cases hk : k = b
    · rw [if_pos hk] at e
      exact .inl ⟨hk, (Option.some.inj e).symm⟩
    · rw [if_neg hk, kill_get] at e
      by_cases ho : k ∈ h.olds
      · rw [if_pos ho] at e; cases e
      · rw [if_neg ho] at e; exact .inr ⟨hk, ho, e⟩
  have alone : ∀ b2 h2 x x2, m.get b2 = some (.hdr h2) → b2 ≠ b → b2 ∉ h.olds → ρ b = some x → ρ b2 = some x2 → x2.B = x.B → False := by
    intro b2 h2 x x2 e hne hno e1 e2 e3
    rcases r.sep b h b2 h2 x x2 hb e (Ne.symm hne) e1 e2 e3.symm with ⟨a, _⟩ | ⟨a, _⟩ | ⟨a, _⟩
    · rw [hmv] at a; cases a
    · exact hno a
    · have := r.old b2 h2 b h e a hb
      rw [hmv] at this; cases this
  refine ⟨?_, ?_⟩
  · constructor
    · intro k hd e
      rcases hget _ _ e with ⟨hkb, q⟩ | ⟨_, _, q⟩
      · subst hkb
        obtain ⟨x, c, lo, hi, a, y⟩ := r.row k h hb
        simp only [Slot.hdr.injEq] at q
        subst q
        exact ⟨x, c, lo, hi, a, { y with }⟩
      · exact r.row k hd q
    · intro k hd o v e e'
      have e2 : m.get (k + 1 + o) = some (.cell k v) := by
        rcases hget _ _ e' with ⟨_, q⟩ | ⟨_, _, q⟩
        · cases q
        · exact q
      rcases hget _ _ e with ⟨hkb, q⟩ | ⟨_, _, q⟩
      · subst hkb
        simp only [Slot.hdr.injEq] at q
        subst q
        exact r.cell k h o v hb e2
      · exact r.cell k hd o v q e2
    · intro k hd k2 hd2 x x2 e e2 hne e3 e4 e5
      rcases hget _ _ e with ⟨hkb, q⟩ | ⟨h1, h1', q⟩
      · subst hkb
        rcases hget _ _ e2 with ⟨hkb2, _⟩ | ⟨h2, h2', q2⟩
        · exact absurd hkb2.symm hne
        · exact (alone _ _ x x2 q2 h2 h2' e3 e4 e5.symm).elim
      · rcases hget _ _ e2 with ⟨hkb2, q2⟩ | ⟨h2, h2', q2⟩
        · subst hkb2
          exact (alone _ _ x2 x q h1 h1' e4 e3 e5).elim
        · exact r.sep k hd k2 hd2 x x2 q q2 hne e3 e4 e5
    · intro k hd k2 hd2 e hm e2
      have e3 : ∃ h3, m.get k2 = some (.hdr h3) ∧ h3.mv = hd2.mv := by
        rcases hget _ _ e2 with ⟨hkb, q⟩ | ⟨_, _, q⟩
        · subst hkb
          simp only [Slot.hdr.injEq] at q
          subst q
          exact ⟨h, hb, rfl⟩
        · exact ⟨hd2, q, rfl⟩
      obtain ⟨h3, e3, e4⟩ := e3
      rcases hget _ _ e with ⟨hkb, q⟩ | ⟨_, _, q⟩
      · simp only [Slot.hdr.injEq] at q
        subst q
        simp at hm
      · rw [← e4]; exact r.old k hd k2 h3 q hm e3
    · intro k o e hi
      rcases hget _ _ e with ⟨_, q⟩ | ⟨_, _, q⟩
      · subst q; simp [Slot.isObj] at hi
      · exact r.obj k o q hi
    · intro k o k2 o2 x x2 e hi e2 hi2
      rcases hget _ _ e with ⟨_, q⟩ | ⟨_, _, q⟩
      · subst q; simp [Slot.isObj] at hi
      · rcases hget _ _ e2 with ⟨_, q2⟩ | ⟨_, _, q2⟩
        · subst q2; simp [Slot.isObj] at hi2
        · exact r.osep k o k2 o2 x x2 q hi q2 hi2
    · intro j b3 v e
      rcases hget _ _ e with ⟨_, q⟩ | ⟨_, _, q⟩
      · cases q
      · exact r.dom j b3 v q
    · intro k hd b3 e hm
      rcases hget _ _ e with ⟨_, q⟩ | ⟨_, _, q⟩
      · simp only [Slot.hdr.injEq] at q
        subst q
        simp at hm
      · exact r.odom k hd b3 q hm
    · exact r.rng
    · intro B x e
      obtain ⟨h1, h2, h3⟩ := r.frz B x e
      refine ⟨h1, h2, fun j hd y e1 e2 e3 => ?_⟩
      rcases hget _ _ e1 with ⟨hkb, q⟩ | ⟨_, _, q⟩
      · subst hkb
        simp only [Slot.hdr.injEq] at q
        subst q
        exact h3 j h y hb e2 e3
      · exact h3 j hd y q e2 e3
    · exact r.lsB
  · intro b2 h2 x x2 e hne e1 e2 e3
    rcases hget _ _ e with ⟨hkb, _⟩ | ⟨h1, h1', q⟩
    · exact hne hkb
    · exact alone b2 h2 x x2 q h1 h1' e1 e2 e3

/-- A store into a row that shares its block with no other. -/
theorem MR.store {m : Tr Slot} {w : World} (r : MR P ρ B0 m w) {b : Nat} {h : Hdr} (hb : m.get b = some (.hdr h)) {x : Blk} (hx : ρ b = some x)
    (alone : ∀ b2 h2 x2, m.get b2 = some (.hdr h2) → b2 ≠ b → ρ b2 = some x2 → x2.B = x.B → False)
    (hro : h.ro = false) (hmv : h.mv = false) {o : Nat} (hfz : h.fz ≤ o) {vs vs' : List Value} (hv : VRs ρ vs vs') (hone : vs.all Ev.oneC = true) (hn : o + vs.length ≤ h.n) :
    ∃ w', (storeCells ⟨x.B, x.sh + o, none⟩ vs' 0).run P w = .ok () w' ∧ MR P ρ B0 (layCells b vs (b + 1 + o) m) w' ∧ Bel B0 w w' := by
  obtain ⟨x', c, lo, hi, hx', y⟩ := r.row b h hb
  rw [hx] at hx'
  obtain rfl := Option.some.inj hx'
  have hlen := hv.length
  have hle : x.sh + o + vs'.length ≤ c.size := by
    have := y.fits
    have := y.N
    omega
  refine ⟨setCells w x.B (x.sh + o) vs', ?_, ?_, ?_⟩
  · have hq : ∀ j, x.sh + o + 0 ≤ j → j < x.sh + o + 0 + vs'.length → ¬ (lo ≤ j ∧ j < hi) := by
      intro j h1 h2 h3
      have := y.N
      rcases y.fz hmv j h3.1 h3.2 with h4 | h4 <;> omega
    exact run_storeRow (P := P) x.B vs' (x.sh + o) 0 w c h.el (lo, hi) y.heap (by simpa using hle) (by rw [hv.oneC]; exact hone) hq
  · obtain ⟨⟨c', a1, a2, a3⟩, hother, hsize, _, _, _⟩ := setCells_spec x.B vs' (x.sh + o) w c h.el (lo, hi) y.heap hle
    have hget : ∀ k s, (layCells b vs (b + 1 + o) m).get k = some s → (∃ v, s = .cell b v ∧ vs[k - (b + 1 + o)]? = some v ∧ b + 1 + o ≤ k) ∨ (m.get k = some s ∧ ¬ (b + 1 + o ≤ k ∧ k < b + 1 + o + vs.length)) := by
      intro k s e
      rw [layCells_get] at e
      split at e
      · rename_i hin
        cases hv' : vs[k - (b + 1 + o)]? with
        | none => rw [hv'] at e; cases e
        | some v => rw [hv'] at e; exact .inl ⟨v, (Option.some.inj e).symm, rfl, hin.1⟩
      · rename_i hin
        exact .inr ⟨e, hin⟩
    have hhdr : ∀ k hd, (layCells b vs (b + 1 + o) m).get k = some (.hdr hd) → m.get k = some (.hdr hd) := by
      intro k hd e
      rcases hget k _ e with ⟨v, e, _⟩ | ⟨e, _⟩
      · cases e
      · exact e
    have hobj : ∀ k s, (layCells b vs (b + 1 + o) m).get k = some s → s.isObj = true → m.get k = some s := by
      intro k s e hi
      rcases hget k _ e with ⟨v, e, _⟩ | ⟨e, _⟩
      · subst e; simp [Slot.isObj] at hi
      · exact e
    have hblk : ∀ b2 h2 x2, m.get b2 = some (.hdr h2) → b2 ≠ b → ρ b2 = some x2 → (setCells w x.B (x.sh + o) vs').heap[x2.B]? = w.heap[x2.B]? := fun b2 h2 x2 e hne e2 =>
      hother x2.B fun e3 => alone b2 h2 x2 e hne e2 e3
    constructor
    · intro k hd e
      have q := hhdr k hd e
      by_cases hkb : k = b
      · subst hkb
        rw [hb] at q
        obtain rfl : h = hd := by simpa using q
        exact ⟨x, c', lo, hi, hx, { y with heap := a1, N := a2.trans y.N }⟩
      · obtain ⟨x2, c2, lo2, hi2, e2, y2⟩ := r.row k hd q
        exact ⟨x2, c2, lo2, hi2, e2, { y2 with heap := (hblk k hd x2 q hkb e2).trans y2.heap }⟩
    · intro k hd i v e e'
      have q := hhdr k hd e
      by_cases hkb : k = b
      · subst hkb
        rw [hb] at q
        obtain rfl : h = hd := by simpa using q
        rcases hget _ _ e' with ⟨v', e1, e2, e3⟩ | ⟨e1, e2⟩
        · obtain rfl : v = v' := by simpa using e1
          have hj : k + 1 + i - (k + 1 + o) = i - o := by omega
          rw [hj] at e2
          obtain ⟨v', e4, e5⟩ := hv.get e2
          have hlt : i - o < vs.length := (List.getElem?_eq_some_iff.1 e2).1
          refine ⟨by omega, x, v', hx, ?_, e5⟩
          rw [cell_of a1, a3, if_pos (by omega), show x.sh + i - (x.sh + o) = i - o from by omega]
          exact e4
        · obtain ⟨h1, x2, v', e3, e4, e5⟩ := r.cell k h i v hb e1
          rw [hx] at e3
          obtain rfl := Option.some.inj e3
          refine ⟨h1, x, v', hx, ?_, e5⟩
          rw [cell_of a1, a3, if_neg (by omega), ← cell_of y.heap]
          exact e4
      · rcases hget _ _ e' with ⟨v', e1, e2, e3⟩ | ⟨e1, e2⟩
        · simp only [Slot.cell.injEq] at e1
          exact absurd e1.1 hkb
        · obtain ⟨h1, x2, v', e3, e4, e5⟩ := r.cell k hd i v q e1
          exact ⟨h1, x2, v', e3, (cell_same (hblk k hd x2 q hkb e3)).trans e4, e5⟩
    · intro k hd k2 hd2 x1 x2 e e2
      exact r.sep k hd k2 hd2 x1 x2 (hhdr _ _ e) (hhdr _ _ e2)
    · intro k hd k2 hd2 e hm e2
      exact r.old k hd k2 hd2 (hhdr _ _ e) hm (hhdr _ _ e2)
    · intro k s e hi
      obtain ⟨x2, ob, e2, e0, e3, e4, e5⟩ := r.obj k s (hobj k s e hi) hi
      refine ⟨x2, ob, e2, e0, e3, ?_, e5⟩
      rw [hother x2.B (fun e6 => ?_)]
      · exact e4
      · rw [e6, y.heap] at e4
        exact e5.notCells _ _ _ (Option.some.inj e4).symm
    · intro k s k2 s2 x1 x2 e hi e2 hi2
      exact r.osep k s k2 s2 x1 x2 (hobj _ _ e hi) hi (hobj _ _ e2 hi2) hi2
    · intro j b3 v e
      rcases hget _ _ e with ⟨v', q, _⟩ | ⟨q, _⟩
      · simp only [Slot.cell.injEq] at q
        exact ⟨x, q.1 ▸ hx⟩
      · exact r.dom j b3 v q
    · intro k hd b3 e
      exact r.odom k hd b3 (hhdr _ _ e)
    · intro k y e
      rw [hsize]; exact r.rng k y e
    · intro B z e
      obtain ⟨h1, ⟨c2, el2, fr2, h2, h2'⟩, h3⟩ := r.frz B z e
      have hne : B ≠ x.B := fun q => by
        have := h3 b h x hb hx q.symm
        rw [hro] at this; cases this
      exact ⟨h1, ⟨c2, el2, fr2, (hother B hne).trans h2, h2'⟩, fun j hd y e1 => h3 j hd y (hhdr _ _ e1)⟩
    · exact r.lsB
  · obtain ⟨_, hother, hsize, h1, h2, h3⟩ := setCells_spec x.B vs' (x.sh + o) w c h.el (lo, hi) y.heap hle
    refine ⟨h1, h2, h3, by omega, fun k hk => hother k ?_⟩
    have := y.own hro
    omega

theorem purge_get (m : Tr Slot) (b : Nat) (h : Hdr) : ((kill h.olds m).set b (some (.hdr { h with olds := [] }))).get b = some (.hdr { h with olds := [] }) := by
  rw [Tr.get_set, if_pos rfl]
/-- A store. -/
theorem MR.wr {s s' : St} {w : World} (r : MR P ρ B0 s.mem w) {b o : Nat} {vs vs' : List Value} (e : s.wr b o vs = some s') (hv : VRs ρ vs vs') {x : Blk} (hx : ρ b = some x) :
    ∃ w', (storeCells ⟨x.B, x.sh + o, none⟩ vs' 0).run P w = .ok () w' ∧ MR P ρ B0 s'.mem w' ∧ Bel B0 w w' ∧ s'.ctr = s.ctr := by
  obtain ⟨m, c, l⟩ := s
  simp only [St.wr] at e
  split at e
  · rename_i n el ro ex z fz sy mv olds hg
    split at e
    · cases e
    · rename_i hc
      simp only [Bool.or_eq_false_iff, Bool.not_eq_false'] at hc
      obtain ⟨⟨⟨⟨h1, h2⟩, h3⟩, h4⟩, h5⟩ := hc
      have h3 := Nat.le_of_ble_eq_true h3
      have h5 := Nat.le_of_ble_eq_true h5
      simp only [Nat.add_eq] at h5 e
      subst h1 h2
      obtain ⟨r1, alone⟩ := r.purge hg rfl
      have hst : ∀ m1 : Tr Slot, MR P ρ B0 m1 w → m1.get b = some (.hdr ⟨n, el, false, ex, z, fz, sy, false, []⟩) →
          (∀ b2 h2 x x2, m1.get b2 = some (.hdr h2) → b2 ≠ b → ρ b = some x → ρ b2 = some x2 → x2.B = x.B → False) →
          ∃ w', (storeCells ⟨x.B, x.sh + o, none⟩ vs' 0).run P w = .ok () w' ∧ MR P ρ B0 (layCells b vs (b + 1 + o) m1) w' ∧ Bel B0 w w' := by
        intro m1 r1 hg1 al
        exact r1.store hg1 hx (fun b2 h2 x2 a a' a'' => al b2 h2 x x2 a a' hx a'') rfl rfl h3 hv h4 h5
      split at e
      · simp only [Option.some.injEq] at e
        subst e
        have hk : ∀ k, ((kill [] m).set b (some (.hdr ⟨n, el, false, ex, z, fz, sy, false, []⟩))).get k = m.get k := by
          intro k
          rw [Tr.get_set]
          by_cases h : k = b
          · rw [if_pos h, h]; exact hg.symm
          · rw [if_neg h]; rfl
        obtain ⟨w', a1, a2, a3⟩ := hst m r hg (fun b2 h2 x x2 a => alone b2 h2 x x2 (by rw [hk]; exact a))
        exact ⟨w', a1, a2, a3, rfl⟩
      · simp only [Option.some.injEq] at e
        subst e
        obtain ⟨w', a1, a2, a3⟩ := hst _ r1 (purge_get _ _ _) alone
        exact ⟨w', a1, a2, a3, rfl⟩
  · cases e

/-! ### New rows and objects -/
def upd (ρ : Map) (k : Nat) (x : Blk) : Map := ⟨fun j => if j = k then some x else ρ j, ρ.ls, ρ.l0⟩
def updL (ρ : Map) (B : Nat) (x : Blk) : Map := ⟨ρ.f, fun j => if j = B then some x else ρ.ls j, ρ.l0⟩
theorem updL_same (ρ : Map) (k : Nat) (x : Blk) : (updL ρ k x).ls k = some x := if_pos rfl
theorem updL_ne {ρ : Map} {k j : Nat} {x : Blk} (h : j ≠ k) : (updL ρ k x).ls j = ρ.ls j := if_neg h
theorem Ext.updL {ρ : Map} {k : Nat} (x : Blk) (h : ρ.ls k = none) : Ext ρ (updL ρ k x) := ⟨fun _ _ e => e, fun j y e => by
  have : j ≠ k := fun e' => by rw [e', h] at e; cases e
  rw [updL_ne this]; exact e, rfl⟩
theorem upd_same (ρ : Map) (k : Nat) (x : Blk) : upd ρ k x k = some x := if_pos rfl
theorem upd_ne {ρ : Map} {k j : Nat} {x : Blk} (h : j ≠ k) : upd ρ k x j = ρ j := if_neg h
theorem Ext.upd {ρ : Map} {k : Nat} (x : Blk) (h : ρ k = none) : Ext ρ (upd ρ k x) := ⟨fun j y e => by
  have : j ≠ k := fun e' => by rw [e', h] at e; cases e
  rw [upd_ne this]; exact e, fun _ _ e => e, rfl⟩
/-- The map has grown by what is within these numbers alone. -/
def Gr (ρ ρ' : Map) (a b : Nat) : Prop := Ext ρ ρ' ∧ ∀ k, ¬ (a ≤ k ∧ k < b) → ρ' k = ρ k
/-- Numbers that are not given out yet. -/
structure Fr (ρ : Map) (_m : Tr Slot) (a b : Nat) : Prop where
  map : ∀ k, a ≤ k → k < b → ρ k = none
theorem Fr.after {ρ ρ1 : Map} {m m1 : Tr Slot} {a c b : Nat} (h : Fr ρ m a b) (g : Gr ρ ρ1 a c) (hac : a ≤ c) : Fr ρ1 m1 c b :=
  ⟨fun k h1 h2 => (g.2 k (by omega)).trans (h.map k (by omega) h2)⟩
theorem Fr.before {ρ : Map} {m : Tr Slot} {a c b : Nat} (h : Fr ρ m a b) (hcb : c ≤ b) : Fr ρ m a c := ⟨fun k h1 h2 => h.map k h1 (by omega)⟩
theorem Gr.refl (ρ : Map) (a b : Nat) : Gr ρ ρ a b := ⟨Ext.refl ρ, fun _ _ => rfl⟩
theorem Gr.trans {ρ ρ1 ρ2 : Map} {a b c : Nat} (h : Gr ρ ρ1 a b) (h' : Gr ρ1 ρ2 b c) (hab : a ≤ b) (hbc : b ≤ c) : Gr ρ ρ2 a c :=
  ⟨h.1.trans h'.1, fun k hk => (h'.2 k (by omega)).trans (h.2 k (by omega))⟩

/-- A new row, in a new block, or behind what is known of an old one. -/
theorem MR.newRow {m : Tr Slot} {w : World} (r : MR P ρ B0 m w) {k n : Nat} {vs : List Value} {h : Hdr} (hh : h.n = n) (hmv : h.mv = false) (holds : h.olds = [])
    (fr : Fr ρ m k (k + n + 1)) {x : Blk} (hnew : ∀ b y, ρ b = some y → y.B ≠ x.B) (hnewL : ∀ B y, ρ.ls B = some y → B ≠ x.B) (hlen : vs.length ≤ n)
    {vs' : List Value} (hv : VRs ρ vs vs') {c : Array Value} {lo hi : Nat} (hrow : RowR P B0 h w x c lo hi)
    (hc : ∀ j v, vs'[j]? = some v → c[x.sh + j]? = some v) :
    MR P (upd ρ k x) B0 (layCells k vs (k + 1) (m.set k (some (.hdr h)))) w := by
  have hk0 : ρ k = none := fr.map k (Nat.le_refl _) (by omega)
  have hext : Ext ρ (upd ρ k x) := Ext.upd x hk0
  have hget : ∀ j s, (layCells k vs (k + 1) (m.set k (some (.hdr h)))).get j = some s →
      (∃ v, s = .cell k v ∧ k + 1 ≤ j ∧ vs[j - (k + 1)]? = some v) ∨ (j = k ∧ s = .hdr h) ∨ (m.get j = some s ∧ j ≠ k) := by
    intro j s e
    rw [layCells_get] at e
    split at e
    · rename_i hin
      cases hv' : vs[j - (k + 1)]? with
      | none => rw [hv'] at e; cases e
      | some v => rw [hv'] at e; exact .inl ⟨v, (Option.some.inj e).symm, hin.1, rfl⟩
    · rw [Tr.get_set] at e
      split at e
      · rename_i hjk
        exact .inr (.inl ⟨hjk, (Option.some.inj e).symm⟩)
      · rename_i hjk
        exact .inr (.inr ⟨e, hjk⟩)
  have hhdr : ∀ j hd, (layCells k vs (k + 1) (m.set k (some (.hdr h)))).get j = some (.hdr hd) → (j = k ∧ hd = h) ∨ (j ≠ k ∧ m.get j = some (.hdr hd)) := by
    intro j hd e
    rcases hget j _ e with ⟨v, q, _⟩ | ⟨q1, q2⟩ | ⟨q, hne⟩
    · cases q
    · simp only [Slot.hdr.injEq] at q2
      exact .inl ⟨q1, q2⟩
    · exact .inr ⟨hne, q⟩
  have hobj : ∀ j s, (layCells k vs (k + 1) (m.set k (some (.hdr h)))).get j = some s → s.isObj = true → j ≠ k ∧ m.get j = some s := by
    intro j s e hi
    rcases hget j _ e with ⟨v, q, _⟩ | ⟨q1, q2⟩ | ⟨q, hne⟩
    · subst q; simp [Slot.isObj] at hi
    · subst q2; simp [Slot.isObj] at hi
    · exact ⟨hne, q⟩
  constructor
  · intro j hd e
    rcases hhdr j hd e with ⟨rfl, rfl⟩ | ⟨hne, q⟩
    · exact ⟨x, c, lo, hi, upd_same _ _ _, hrow⟩
    · obtain ⟨y, c2, lo2, hi2, e1, e2⟩ := r.row j hd q
      exact ⟨y, c2, lo2, hi2, (upd_ne hne).trans e1, e2⟩
  · intro j hd o v e e'
    rcases hhdr j hd e with ⟨rfl, rfl⟩ | ⟨hne, q⟩
    · rcases hget _ _ e' with ⟨v', q1, q2, q3⟩ | ⟨q1, q2⟩ | ⟨q1, q2⟩
      · simp only [Slot.cell.injEq, true_and] at q1
        subst q1
        rw [show j + 1 + o - (j + 1) = o from by omega] at q3
        have hlt : o < vs.length := (List.getElem?_eq_some_iff.1 q3).1
        obtain ⟨v', e4, e5⟩ := hv.get q3
        exact ⟨by omega, x, v', upd_same _ _ _, (cell_of hrow.heap).trans (hc o v' e4), e5.ext hext⟩
      · cases q2
      · obtain ⟨y, hy⟩ := r.dom _ _ _ q1
        rw [hk0] at hy; cases hy
    · rcases hget _ _ e' with ⟨v', q1, q2, q3⟩ | ⟨q1, q2⟩ | ⟨q1, q2⟩
      · simp only [Slot.cell.injEq] at q1
        exact absurd q1.1 hne
      · cases q2
      · obtain ⟨h1, y, v', e1, e2, e3⟩ := r.cell j hd o v q q1
        exact ⟨h1, y, v', (upd_ne hne).trans e1, e2, e3.ext hext⟩
  · intro j hd j2 hd2 y y2 e e2 hne e3 e4 e5
    rcases hhdr j hd e with ⟨rfl, rfl⟩ | ⟨h1, q⟩
    · rcases hhdr j2 hd2 e2 with ⟨rfl, rfl⟩ | ⟨h2, q2⟩
      · exact absurd rfl hne
      · rw [upd_same] at e3
        obtain rfl := Option.some.inj e3
        rw [upd_ne h2] at e4
        exact absurd e5.symm (hnew _ _ e4)
    · rcases hhdr j2 hd2 e2 with ⟨rfl, rfl⟩ | ⟨h2, q2⟩
      · rw [upd_same] at e4
        obtain rfl := Option.some.inj e4
        rw [upd_ne h1] at e3
        exact absurd e5 (hnew _ _ e3)
      · rw [upd_ne h1] at e3
        rw [upd_ne h2] at e4
        exact r.sep j hd j2 hd2 y y2 q q2 hne e3 e4 e5
  · intro j hd j2 hd2 e hm e2
    rcases hhdr j hd e with ⟨rfl, rfl⟩ | ⟨h1, q⟩
    · rw [holds] at hm; simp at hm
    · rcases hhdr j2 hd2 e2 with ⟨rfl, rfl⟩ | ⟨h2, q2⟩
      · obtain ⟨y, hy⟩ := r.odom j hd _ q hm
        rw [hk0] at hy; cases hy
      · exact r.old j hd j2 hd2 q hm q2
  · intro j s e hi
    obtain ⟨hne, q⟩ := hobj j s e hi
    obtain ⟨y, ob, e1, e0, e2, e3, e4⟩ := r.obj j s q hi
    exact ⟨y, ob, (upd_ne hne).trans e1, e0, e2, e3, e4.ext hext⟩
  · intro j s j2 s2 y y2 e hi e2 hi2 hne e3 e4
    obtain ⟨h1, q⟩ := hobj j s e hi
    obtain ⟨h2, q2⟩ := hobj j2 s2 e2 hi2
    rw [upd_ne h1] at e3
    rw [upd_ne h2] at e4
    exact r.osep j s j2 s2 y y2 q hi q2 hi2 hne e3 e4
  · intro j b v e
    rcases hget _ _ e with ⟨v', q, _⟩ | ⟨_, q⟩ | ⟨q, _⟩
    · simp only [Slot.cell.injEq] at q
      exact ⟨x, by rw [q.1]; exact upd_same _ _ _⟩
    · cases q
    · obtain ⟨y, hy⟩ := r.dom j b v q
      exact ⟨y, hext _ _ hy⟩
  · intro j hd b2 e hm
    rcases hhdr j hd e with ⟨rfl, rfl⟩ | ⟨_, q⟩
    · rw [holds] at hm; simp at hm
    · obtain ⟨y, hy⟩ := r.odom j hd b2 q hm
      exact ⟨y, hext _ _ hy⟩
  · intro j y e
    by_cases hj : j = k
    · subst hj
      rw [upd_same] at e
      obtain rfl := Option.some.inj e
      have := (Array.getElem?_eq_some_iff.1 hrow.heap).1
      exact this
    · rw [upd_ne hj] at e
      exact r.rng j y e
  · intro B z e
    obtain ⟨h1, h2, h3⟩ := r.frz B z e
    refine ⟨h1, h2, fun j hd y e1 e2 e3 => ?_⟩
    rcases hhdr j hd e1 with ⟨rfl, rfl⟩ | ⟨hne, q⟩
    · rw [upd_same] at e2
      obtain rfl := Option.some.inj e2
      exact absurd e3.symm (hnewL _ _ e)
    · rw [upd_ne hne] at e2
      exact h3 j hd y q e2 e3
  · exact r.lsB

/-- More blocks. -/
theorem push_get {w w1 : World} {o : Obj} (h : w1.heap = w.heap.push o) {i : Nat} (hi : i < w.heap.size) : w1.heap[i]? = w.heap[i]? := by
  rw [h, Array.getElem?_push, if_neg (by omega)]
theorem push_new {w w1 : World} {o : Obj} (h : w1.heap = w.heap.push o) : w1.heap[w.heap.size]? = some o := by
  rw [h, Array.getElem?_push, if_pos rfl]
theorem lt_of_some {w : World} {i : Nat} {o : Obj} (h : w.heap[i]? = some o) : i < w.heap.size := (Array.getElem?_eq_some_iff.1 h).1
theorem MR.lsLt {m : Tr Slot} {w : World} (r : MR P ρ B0 m w) {B : Nat} {x : Blk} (h : ρ.ls B = some x) : B < w.heap.size := by
  obtain ⟨_, ⟨c, el, fr, h2, _⟩, _⟩ := r.frz B x h
  exact lt_of_some h2
/-- All that is spoken of stands as it did. -/
theorem MR.keep {m : Tr Slot} {w w1 : World} (r : MR P ρ B0 m w) (h : ∀ b x, ρ b = some x → w1.heap[x.B]? = w.heap[x.B]?) (hL : ∀ B x, ρ.ls B = some x → w1.heap[B]? = w.heap[B]?) (hs : w.heap.size ≤ w1.heap.size) : MR P ρ B0 m w1 where
  row b hd e := by
    obtain ⟨x, c, lo, hi, e1, y⟩ := r.row b hd e
    exact ⟨x, c, lo, hi, e1, { y with heap := (h b x e1).trans y.heap }⟩
  cell b hd o v e e' := by
    obtain ⟨a, x, v', e1, y, z⟩ := r.cell b hd o v e e'
    exact ⟨a, x, v', e1, (cell_same (h b x e1)).trans y, z⟩
  sep := r.sep
  old := r.old
  obj k o e i := by
    obtain ⟨x, ob, e1, e0, y, z, u⟩ := r.obj k o e i
    exact ⟨x, ob, e1, e0, y, (h k x e1).trans z, u⟩
  osep := r.osep
  dom := r.dom
  odom := r.odom
  rng b x e := Nat.lt_of_lt_of_le (r.rng b x e) hs
  frz B x e := by
    obtain ⟨h1, ⟨c, el, fr, h2, h2'⟩, h3⟩ := r.frz B x e
    exact ⟨h1, ⟨c, el, fr, (hL B x e).trans h2, h2'⟩, h3⟩
  lsB := r.lsB
theorem MR.push {m : Tr Slot} {w w1 : World} (r : MR P ρ B0 m w) {o : Obj} (h : w1.heap = w.heap.push o) : MR P ρ B0 m w1 :=
  r.keep (fun b x e => push_get h (r.rng b x e)) (fun B x e => push_get h (r.lsLt e)) (by rw [h, Array.size_push]; omega)
/-- A new row in a new block. -/
theorem MR.new {m : Tr Slot} {w w1 : World} (r : MR P ρ B0 m w) {k n : Nat} {vs vs' : List Value} {el : TypeId} {ex z sy : Bool} (fr : Fr ρ m k (k + n + 1)) (hlen : vs.length ≤ n)
    (hv : VRs ρ vs vs') {c : Array Value} {lo hi sz : Nat} (hw : w1.heap = w.heap.push (.cells c el (lo, hi))) (hB : B0 ≤ w.heap.size) (hc : ∀ (j : Nat) (v : Value), vs'[j]? = some v → c[j]? = some v)
    (hn : n ≤ c.size) (hex : ex = true → c.size = n) (hsz : ∃ i, P.info? el = some i ∧ i.size = sz) (hle : lo ≤ hi) (hfz : ∀ i, lo ≤ i → i < hi → c.size ≤ i) (hsy : sy = false → hi ≤ lo) :
    MR P (upd ρ k ⟨w.heap.size, 0, c.size, sz, []⟩) B0 (layCells k vs (k + 1) (m.set k (some (.hdr ⟨n, el, false, ex, z, 0, sy, false, []⟩)))) w1 := by
  refine (r.push hw).newRow (n := n) rfl rfl rfl fr (fun b y e => ?_) (fun B y e => ?_) hlen hv (c := c) (lo := lo) (hi := hi) ?_ (fun j v e => by simpa using hc j v e)
  · have := r.rng b y e
    show y.B ≠ w.heap.size
    omega
  · have := r.lsLt e
    show B ≠ w.heap.size
    omega
  · constructor
    · exact push_new hw
    · rfl
    · exact hsz
    · show 0 + n ≤ c.size; omega
    · intro h; have := hex h; show c.size = 0 + n; omega
    · intro _; rfl
    · intro _; exact hB
    · exact hle
    · intro _ i h1 h2; exact .inr (hfz i h1 h2)
    · intro _ h i h1 h2; have := hsy h; omega
    · exact Nat.zero_le _
/-- A new object. -/
theorem MR.newObj {m : Tr Slot} {w w1 : World} (r : MR P ρ B0 m w) {k : Nat} {o : Slot} {ob : Obj} (fr : Fr ρ m k (k + 1)) (ho : o.isObj = true) (hw : w1.heap = w.heap.push ob)
    (hB : B0 ≤ w.heap.size) (hR : ObR P ρ o ob) : MR P (upd ρ k ⟨w.heap.size, 0, 0, 0, []⟩) B0 (m.set k (some o)) w1 := by
  have hk0 : ρ k = none := fr.map k (Nat.le_refl _) (by omega)
  have hext : Ext ρ (upd ρ k ⟨w.heap.size, 0, 0, 0, []⟩) := Ext.upd _ hk0
  have r1 := r.push hw
  have hget : ∀ j s, (m.set k (some o)).get j = some s → (j = k ∧ s = o) ∨ (j ≠ k ∧ m.get j = some s) := by
    intro j s e
    rw [Tr.get_set] at e
    split at e
    · rename_i h; exact .inl ⟨h, (Option.some.inj e).symm⟩
    · rename_i h; exact .inr ⟨h, e⟩
  have hne_o : ∀ hd, Slot.hdr hd ≠ o := fun hd e => by subst e; simp [Slot.isObj] at ho
  have hne_c : ∀ b v, Slot.cell b v ≠ o := fun b v e => by subst e; simp [Slot.isObj] at ho
  have hhdr : ∀ j hd, (m.set k (some o)).get j = some (.hdr hd) → j ≠ k ∧ m.get j = some (.hdr hd) := by
    intro j hd e
    rcases hget _ _ e with ⟨_, q⟩ | q
    · exact absurd q (hne_o hd)
    · exact q
  constructor
  · intro j hd e
    obtain ⟨h1, q⟩ := hhdr j hd e
    obtain ⟨x, c, lo, hi, e1, y⟩ := r1.row j hd q
    exact ⟨x, c, lo, hi, (upd_ne h1).trans e1, y⟩
  · intro j hd i v e e'
    obtain ⟨h1, q⟩ := hhdr j hd e
    rcases hget _ _ e' with ⟨_, q'⟩ | ⟨_, q'⟩
    · exact absurd q' (hne_c _ _)
    · obtain ⟨h2, x, v', e1, e2, e3⟩ := r1.cell j hd i v q q'
      exact ⟨h2, x, v', (upd_ne h1).trans e1, e2, e3.ext hext⟩
  · intro j hd j2 hd2 x x2 e e2 hne e3 e4
    obtain ⟨h1, q⟩ := hhdr j hd e
    obtain ⟨h2, q2⟩ := hhdr j2 hd2 e2
    rw [upd_ne h1] at e3
    rw [upd_ne h2] at e4
    exact r1.sep j hd j2 hd2 x x2 q q2 hne e3 e4
  · intro j hd j2 hd2 e hm e2
    exact r1.old j hd j2 hd2 (hhdr _ _ e).2 hm (hhdr _ _ e2).2
  · intro j s e hi
    rcases hget _ _ e with ⟨rfl, rfl⟩ | ⟨h1, q⟩
    · exact ⟨_, ob, upd_same _ _ _, rfl, hB, push_new hw, hR.ext hext⟩
    · obtain ⟨x, ob', e1, e0, e2, e3, e4⟩ := r1.obj j s q hi
      exact ⟨x, ob', (upd_ne h1).trans e1, e0, e2, e3, e4.ext hext⟩
  · intro j s j2 s2 x x2 e hi e2 hi2 hne e3 e4 e5
    rcases hget _ _ e with ⟨rfl, rfl⟩ | ⟨h1, q⟩
    · rcases hget _ _ e2 with ⟨rfl, rfl⟩ | ⟨h2, q2⟩
      · exact hne rfl
      · rw [upd_same] at e3
        obtain rfl := Option.some.inj e3
        rw [upd_ne h2] at e4
        have := r.rng _ _ e4
        simp at e5
        omega
    · rcases hget _ _ e2 with ⟨rfl, rfl⟩ | ⟨h2, q2⟩
      · rw [upd_same] at e4
        obtain rfl := Option.some.inj e4
        rw [upd_ne h1] at e3
        have := r.rng _ _ e3
        simp at e5
        omega
      · rw [upd_ne h1] at e3
        rw [upd_ne h2] at e4
        exact r1.osep j s j2 s2 x x2 q hi q2 hi2 hne e3 e4 e5
  · intro j b v e
    rcases hget _ _ e with ⟨_, q⟩ | ⟨_, q⟩
    · exact absurd q (hne_c _ _)
    · obtain ⟨y, hy⟩ := r1.dom j b v q
      exact ⟨y, hext _ _ hy⟩
  · intro j hd b2 e hm
    obtain ⟨y, hy⟩ := r1.odom j hd b2 (hhdr _ _ e).2 hm
    exact ⟨y, hext _ _ hy⟩
  · intro j y e
    by_cases hj : j = k
    · subst hj
      rw [upd_same] at e
      obtain rfl := Option.some.inj e
      show w.heap.size < _
      rw [hw, Array.size_push]; omega
    · rw [upd_ne hj] at e
      exact r1.rng j y e
  · intro B z e
    obtain ⟨h1, h2, h3⟩ := r1.frz B z e
    refine ⟨h1, h2, fun j hd y e1 e2 e3 => ?_⟩
    obtain ⟨hne, q⟩ := hhdr j hd e1
    rw [upd_ne hne] at e2
    exact h3 j hd y q e2 e3
  · exact r.lsB
/-- An object is set. -/
theorem MR.setObj {m : Tr Slot} {w w1 : World} (r : MR P ρ B0 m w) {k : Nat} {o o' : Slot} {ob' : Obj} (hk : m.get k = some o) (ho : o.isObj = true) (ho' : o'.isObj = true)
    {x : Blk} (hx : ρ k = some x) (hw : w1.heap = w.heap.setIfInBounds x.B ob') (hR : ObR P ρ o' ob') : MR P ρ B0 (m.set k (some o')) w1 := by
  obtain ⟨x', ob, hx', h0, hB, hob, hOb⟩ := r.obj k o hk ho
  rw [hx] at hx'
  obtain rfl := Option.some.inj hx'
  have hother : ∀ i, i ≠ x.B → w1.heap[i]? = w.heap[i]? := fun i hi => by
    rw [hw, Array.getElem?_setIfInBounds_ne (fun e => hi e.symm)]
  have hget : ∀ j s, (m.set k (some o')).get j = some s → (j = k ∧ s = o') ∨ (j ≠ k ∧ m.get j = some s) := by
    intro j s e
    rw [Tr.get_set] at e
    split at e
    · rename_i h; exact .inl ⟨h, (Option.some.inj e).symm⟩
    · rename_i h; exact .inr ⟨h, e⟩
  have hne_o : ∀ hd, Slot.hdr hd ≠ o' := fun hd e => by subst e; simp [Slot.isObj] at ho'
  have hne_c : ∀ b v, Slot.cell b v ≠ o' := fun b v e => by subst e; simp [Slot.isObj] at ho'
  have hhdr : ∀ j hd, (m.set k (some o')).get j = some (.hdr hd) → j ≠ k ∧ m.get j = some (.hdr hd) := by
    intro j hd e
    rcases hget _ _ e with ⟨_, q⟩ | q
    · exact absurd q (hne_o hd)
    · exact q
  have hrow : ∀ j hd y, m.get j = some (.hdr hd) → ρ j = some y → w1.heap[y.B]? = w.heap[y.B]? := by
    intro j hd y e e1
    refine hother _ fun e2 => ?_
    obtain ⟨y', c, lo, hi, e3, e4⟩ := r.row j hd e
    rw [e1] at e3
    obtain rfl := Option.some.inj e3
    have := e4.heap
    rw [e2, hob] at this
    obtain ⟨_, ob2, q1, _, _, q2, q3⟩ := r.obj k o hk ho
    rw [hx] at q1
    obtain rfl := Option.some.inj q1
    rw [hob] at q2
    obtain rfl := Option.some.inj q2
    exact q3.notCells _ _ _ (Option.some.inj this)
  constructor
  · intro j hd e
    obtain ⟨h1, q⟩ := hhdr j hd e
    obtain ⟨y, c, lo, hi, e1, e2⟩ := r.row j hd q
    exact ⟨y, c, lo, hi, e1, { e2 with heap := (hrow j hd y q e1).trans e2.heap }⟩
  · intro j hd i v e e'
    obtain ⟨h1, q⟩ := hhdr j hd e
    rcases hget _ _ e' with ⟨_, q'⟩ | ⟨_, q'⟩
    · exact absurd q' (hne_c _ _)
    · obtain ⟨h2, y, v', e1, e2, e3⟩ := r.cell j hd i v q q'
      exact ⟨h2, y, v', e1, (cell_same (hrow j hd y q e1)).trans e2, e3⟩
  · intro j hd j2 hd2 y y2 e e2
    exact r.sep j hd j2 hd2 y y2 (hhdr _ _ e).2 (hhdr _ _ e2).2
  · intro j hd j2 hd2 e hm e2
    exact r.old j hd j2 hd2 (hhdr _ _ e).2 hm (hhdr _ _ e2).2
  · intro j s e hi
    rcases hget _ _ e with ⟨rfl, rfl⟩ | ⟨h1, q⟩
    · refine ⟨x, ob', hx, h0, hB, ?_, hR⟩
      rw [hw, Array.getElem?_setIfInBounds_self, if_pos (lt_of_some hob)]
    · obtain ⟨y, ob2, e1, e0, e2, e3, e4⟩ := r.obj j s q hi
      refine ⟨y, ob2, e1, e0, e2, (hother _ fun e5 => ?_).trans e3, e4⟩
      exact r.osep j s k o y x q hi hk ho h1 e1 hx e5
  · intro j s j2 s2 y y2 e hi e2 hi2 hne
    rcases hget _ _ e with ⟨rfl, rfl⟩ | ⟨h1, q⟩
    · rcases hget _ _ e2 with ⟨rfl, rfl⟩ | ⟨h2, q2⟩
      · exact absurd rfl hne
      · exact r.osep _ _ j2 s2 y y2 hk ho q2 hi2 hne
    · rcases hget _ _ e2 with ⟨rfl, rfl⟩ | ⟨h2, q2⟩
      · exact r.osep j s _ _ y y2 q hi hk ho hne
      · exact r.osep j s j2 s2 y y2 q hi q2 hi2 hne
  · intro j b v e
    rcases hget _ _ e with ⟨_, q⟩ | ⟨_, q⟩
    · exact absurd q (hne_c _ _)
    · exact r.dom j b v q
  · intro j hd b2 e
    exact r.odom j hd b2 (hhdr _ _ e).2
  · intro j y e
    rw [hw, Array.size_setIfInBounds]; exact r.rng j y e
  · intro B z e
    obtain ⟨h1, ⟨c2, el2, fr2, h2, h2'⟩, h3⟩ := r.frz B z e
    have hne : B ≠ x.B := fun q => by
      rw [q, hob] at h2
      exact hOb.notCells _ _ _ (Option.some.inj h2)
    exact ⟨h1, ⟨c2, el2, fr2, (hother B hne).trans h2, h2'⟩, fun j hd y e1 => h3 j hd y (hhdr _ _ e1).2⟩
  · exact r.lsB
end
end Go.Ev
