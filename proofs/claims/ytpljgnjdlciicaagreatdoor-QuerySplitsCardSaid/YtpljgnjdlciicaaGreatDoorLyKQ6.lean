/- Soundness, part 4: marks on a block; a row that is appended to while its capacity is not known. -/
import Derived.Test.YtpljgnjdlciicaaGreatDoorLyKQ5
namespace Go.Ev
open Go Go.RowKit
section
variable {P : Program} {ρ : Map} {B0 : Nat}

/-- Who shares a block with a row that has not been moved has been moved. -/
theorem MR.shares {m : Tr Slot} {w : World} (r : MR P ρ B0 m w) {b : Nat} {h : Hdr} (hb : m.get b = some (.hdr h)) (hmv : h.mv = false) {x : Blk} (hx : ρ b = some x)
    {j : Nat} {hj : Hdr} {y : Blk} (e : m.get j = some (.hdr hj)) (hne : j ≠ b) (hy : ρ j = some y) (hB : y.B = x.B) : hj.mv = true ∧ j ∈ h.olds ∧ y.sh + hj.n ≤ x.sh + h.n := by
  rcases r.sep b h j hj x y hb e (Ne.symm hne) hx hy hB.symm with ⟨a, _⟩ | ⟨a, a'⟩ | ⟨a, _⟩
  · rw [hmv] at a; cases a
  · exact ⟨r.old b h j hj hb a e, a, a'⟩
  · have := r.old j hj b h e a hb
    rw [hmv] at this; cases this

/-- A row's header with other marks, its block with another frozen range. -/
theorem MR.rehdr {m : Tr Slot} {w w1 : World} (r : MR P ρ B0 m w) {b : Nat} {h h' : Hdr} (hb : m.get b = some (.hdr h)) (hmv : h.mv = false) {x : Blk} (hx : ρ b = some x)
    (hn : h'.n = h.n) (hmv' : h'.mv = false) (holds : h'.olds = h.olds) (hro' : h'.ro = h.ro) {c : Array Value} {fr : Nat × Nat} (hc : w.heap[x.B]? = some (.cells c h.el fr))
    {lo hi : Nat} (hrow : RowR P B0 h' w1 x c lo hi) (hel : h'.el = h.el) (hother : ∀ i, i ≠ x.B → w1.heap[i]? = w.heap[i]?) (hsize : w1.heap.size = w.heap.size) :
    MR P ρ B0 (m.set b (some (.hdr h'))) w1 := by
  have hget : ∀ j s, (m.set b (some (.hdr h'))).get j = some s → (j = b ∧ s = .hdr h') ∨ (j ≠ b ∧ m.get j = some s) := by
    intro j s e
    rw [Tr.get_set] at e
    split at e
    · rename_i h; exact .inl ⟨h, (Option.some.inj e).symm⟩
    · rename_i h; exact .inr ⟨h, e⟩
  have hhdr : ∀ j hd, (m.set b (some (.hdr h'))).get j = some (.hdr hd) → (j = b ∧ hd = h') ∨ (j ≠ b ∧ m.get j = some (.hdr hd)) := by
    intro j hd e
    rcases hget _ _ e with ⟨q1, q2⟩ | q
    · exact .inl ⟨q1, by simpa using q2⟩
    · exact .inr q
  have hold : ∀ j hd, (m.set b (some (.hdr h'))).get j = some (.hdr hd) → ∃ hd0, m.get j = some (.hdr hd0) ∧ hd0.n = hd.n ∧ hd0.mv = hd.mv ∧ hd0.olds = hd.olds := by
    intro j hd e
    rcases hhdr _ _ e with ⟨rfl, rfl⟩ | ⟨_, q⟩
    · exact ⟨h, hb, hn.symm, by rw [hmv, hmv'], holds.symm⟩
    · exact ⟨hd, q, rfl, rfl, rfl⟩
  have hcell : ∀ i, w1.cell? ⟨x.B, i, none⟩ = w.cell? ⟨x.B, i, none⟩ := fun i => by rw [cell_of hrow.heap, cell_of hc]
  have hobj : ∀ j s, (m.set b (some (.hdr h'))).get j = some s → s.isObj = true → m.get j = some s := by
    intro j s e hi
    rcases hget _ _ e with ⟨_, q⟩ | ⟨_, q⟩
    · subst q; simp [Slot.isObj] at hi
    · exact q
  constructor
  · intro j hd e
    rcases hhdr _ _ e with ⟨rfl, rfl⟩ | ⟨hne, q⟩
    · exact ⟨x, c, lo, hi, hx, hrow⟩
    · obtain ⟨y, c2, lo2, hi2, e1, e2⟩ := r.row j hd q
      by_cases hB : y.B = x.B
      · obtain ⟨hm, _, _⟩ := r.shares hb hmv hx q hne e1 hB
        have e3 := e2.heap
        rw [hB, hc] at e3
        simp only [Option.some.injEq, Obj.cells.injEq] at e3
        obtain ⟨rfl, e4, _⟩ := e3
        refine ⟨y, c, lo, hi, e1, ?_⟩
        exact ⟨by rw [hB, hrow.heap, hel, e4], e2.N, e2.sz, e2.fits, e2.ex, e2.z, e2.own, hrow.le, fun h => (by rw [hm] at h; cases h), fun h => (by rw [hm] at h; cases h), e2.fn⟩
      · exact ⟨y, c2, lo2, hi2, e1, { e2 with heap := (hother _ hB).trans e2.heap }⟩
  · intro j hd i v e e'
    obtain ⟨hd0, q, q1, _, _⟩ := hold j hd e
    rcases hget _ _ e' with ⟨_, q'⟩ | ⟨_, q'⟩
    · cases q'
    · obtain ⟨h2, y, v', e1, e2, e3⟩ := r.cell j hd0 i v q q'
      refine ⟨by omega, y, v', e1, ?_, e3⟩
      by_cases hB : y.B = x.B
      · rw [hB, hcell, ← hB]; exact e2
      · rw [cell_same (hother _ hB)]; exact e2
  · intro j hd j2 hd2 y y2 e e2
    obtain ⟨hd0, q, q1, q2, q3⟩ := hold j hd e
    obtain ⟨hd02, p, p1, p2, p3⟩ := hold j2 hd2 e2
    have := r.sep j hd0 j2 hd02 y y2 q p
    rw [q1, q2, q3, p1, p2, p3] at this
    exact this
  · intro j hd j2 hd2 e hm e2
    obtain ⟨hd0, q, q1, q2, q3⟩ := hold j hd e
    obtain ⟨hd02, p, p1, p2, p3⟩ := hold j2 hd2 e2
    rw [← p2]
    exact r.old j hd0 j2 hd02 q (q3 ▸ hm) p
  · intro j s e hi
    obtain ⟨y, ob, e1, e0, e2, e3, e4⟩ := r.obj j s (hobj j s e hi) hi
    refine ⟨y, ob, e1, e0, e2, (hother _ fun e5 => ?_).trans e3, e4⟩
    rw [e5, hc] at e3
    exact e4.notCells _ _ _ (Option.some.inj e3).symm
  · intro j s j2 s2 y y2 e hi e2 hi2
    exact r.osep j s j2 s2 y y2 (hobj _ _ e hi) hi (hobj _ _ e2 hi2) hi2
  · intro j b2 v e
    rcases hget _ _ e with ⟨_, q⟩ | ⟨_, q⟩
    · cases q
    · exact r.dom j b2 v q
  · intro j hd b2 e hm
    obtain ⟨hd0, q, q1, q2, q3⟩ := hold j hd e
    exact r.odom j hd0 b2 q (q3 ▸ hm)
  · intro j y e
    rw [hsize]; exact r.rng j y e
  · intro B z e
    obtain ⟨h1, ⟨c2, el2, fr2, h2, h2'⟩, h3⟩ := r.frz B z e
    refine ⟨h1, ?_, fun j hd y e1 e2 e3 => ?_⟩
    · by_cases hB : B = x.B
      · rw [hB, hc] at h2
        simp only [Option.some.injEq, Obj.cells.injEq] at h2
        obtain ⟨rfl, rfl, _⟩ := h2
        exact ⟨c, _, _, by rw [hB]; exact hrow.heap, h2'⟩
      · exact ⟨c2, el2, fr2, (hother _ hB).trans h2, h2'⟩
    · rcases hhdr _ _ e1 with ⟨rfl, rfl⟩ | ⟨hne, q⟩
      · rw [hro']; exact h3 j h y hb e2 e3
      · exact h3 j hd y q e2 e3
  · exact r.lsB

/-- Cells behind all that is known of a row, and of who shares its block, are written: all is kept. -/
theorem MR.beyond {m : Tr Slot} {w : World} (r : MR P ρ B0 m w) {b : Nat} {h : Hdr} (hb : m.get b = some (.hdr h)) (hmv : h.mv = false) (hro : h.ro = false) {x : Blk} (hx : ρ b = some x)
    {c : Array Value} {fr : Nat × Nat} (hc : w.heap[x.B]? = some (.cells c h.el fr)) {o : Nat} (ho : x.sh + h.n ≤ o) {vs : List Value} (hlen : o + vs.length ≤ c.size) :
    MR P ρ B0 m (setCells w x.B o vs) := by
  obtain ⟨⟨c', a1, a2, a3⟩, hother, hsize, _, _, _⟩ := setCells_spec x.B vs o w c h.el fr hc hlen
  have hend : ∀ j hd y, m.get j = some (.hdr hd) → ρ j = some y → y.B = x.B → y.sh + hd.n ≤ x.sh + h.n := by
    intro j hd y e e1 e2
    by_cases hj : j = b
    · subst hj
      rw [hb] at e
      rw [hx] at e1
      obtain rfl : h = hd := by simpa using e
      obtain rfl := Option.some.inj e1
      exact Nat.le_refl _
    · exact (r.shares hb hmv hx e hj e1 e2).2.2
  constructor
  · intro j hd e
    obtain ⟨y, c2, lo2, hi2, e1, e2⟩ := r.row j hd e
    by_cases hB : y.B = x.B
    · have e3 := e2.heap
      rw [hB, hc] at e3
      simp only [Option.some.injEq, Obj.cells.injEq] at e3
      obtain ⟨rfl, e4, e5⟩ := e3
      subst e5
      exact ⟨y, c', lo2, hi2, e1, { e2 with heap := by rw [hB, a1, e4], N := a2.trans e2.N }⟩
    · exact ⟨y, c2, lo2, hi2, e1, { e2 with heap := (hother _ hB).trans e2.heap }⟩
  · intro j hd i v e e'
    obtain ⟨h2, y, v', e1, e2, e3⟩ := r.cell j hd i v e e'
    refine ⟨h2, y, v', e1, ?_, e3⟩
    by_cases hB : y.B = x.B
    · have := hend j hd y e e1 hB
      rw [hB, cell_of a1, a3, if_neg (by omega), ← cell_of hc, ← hB]
      exact e2
    · rw [cell_same (hother _ hB)]; exact e2
  · exact r.sep
  · exact r.old
  · intro j s e hi
    obtain ⟨y, ob, e1, e0, e2, e3, e4⟩ := r.obj j s e hi
    refine ⟨y, ob, e1, e0, e2, (hother _ fun e5 => ?_).trans e3, e4⟩
    rw [e5, hc] at e3
    exact e4.notCells _ _ _ (Option.some.inj e3).symm
  · exact r.osep
  · exact r.dom
  · exact r.odom
  · intro j y e
    rw [hsize]; exact r.rng j y e
  · intro B z e
    obtain ⟨h1, ⟨c2, el2, fr2, h2, h2'⟩, h3⟩ := r.frz B z e
    have hne : B ≠ x.B := fun q => by
      have := h3 b h x hb hx q.symm
      rw [hro] at this; cases this
    exact ⟨h1, ⟨c2, el2, fr2, (hother B hne).trans h2, h2'⟩, h3⟩
  · exact r.lsB

/-- A row that goes on from another one, which is moved: in a new block, or behind it in its own. -/
theorem MR.moved {m : Tr Slot} {w : World} (r : MR P ρ B0 m w) {b : Nat} {h : Hdr} (hb : m.get b = some (.hdr h)) (hmv : h.mv = false) (hro : h.ro = false) {x : Blk} (hx : ρ b = some x)
    {k n : Nat} {vs : List Value} {h2 : Hdr} (hn : h2.n = n) (hmv2 : h2.mv = false) (holds : h2.olds = b :: h.olds) (fr : Fr ρ m k (k + n + 1)) {x2 : Blk}
    (hnew : (∀ j y, ρ j = some y → y.B ≠ x2.B) ∨ (x2.B = x.B ∧ x.sh + h.n ≤ x2.sh + n)) (hnewL : ∀ B y, ρ.ls B = some y → x2.B = B → x2.B = x.B) (hlen : vs.length ≤ n)
    {vs' : List Value} (hv : VRs ρ vs vs') {c : Array Value} {lo hi : Nat} (hrow : RowR P B0 h2 w x2 c lo hi) (hc : ∀ (j : Nat) (v : Value), vs'[j]? = some v → c[x2.sh + j]? = some v) :
    MR P (upd ρ k x2) B0 (layCells k vs (k + 1) ((m.set b (some (.hdr { h with mv := true, olds := [] }))).set k (some (.hdr h2)))) w := by
  have hk0 : ρ k = none := fr.map k (Nat.le_refl _) (by omega)
  have hext : Ext ρ (upd ρ k x2) := Ext.upd x2 hk0
  have hbk : b ≠ k := fun e => by rw [e, hk0] at hx; cases hx
  have hget : ∀ j s, (layCells k vs (k + 1) ((m.set b (some (.hdr { h with mv := true, olds := [] }))).set k (some (.hdr h2)))).get j = some s →
      (∃ v, s = .cell k v ∧ k + 1 ≤ j ∧ vs[j - (k + 1)]? = some v) ∨ (j = k ∧ s = .hdr h2) ∨ (j = b ∧ s = .hdr { h with mv := true, olds := [] }) ∨ (j ≠ k ∧ j ≠ b ∧ m.get j = some s) := by
    intro j s e
    rw [layCells_get] at e
    split at e
    · rename_i hin
      cases hv' : vs[j - (k + 1)]? with
      | none => rw [hv'] at e; cases e
      | some v => rw [hv'] at e; exact .inl ⟨v, (Option.some.inj e).symm, hin.1, rfl⟩
    · rw [Tr.get_set] at e
      split at e
      · rename_i hjk
        exact .inr (.inl ⟨hjk, (Option.some.inj e).symm⟩)
      · rename_i hjk
        rw [Tr.get_set] at e
        split at e
        · rename_i hjb
          exact .inr (.inr (.inl ⟨hjb, (Option.some.inj e).symm⟩))
        · rename_i hjb
          exact .inr (.inr (.inr ⟨hjk, hjb, e⟩))
  have hhdr : ∀ j hd, (layCells k vs (k + 1) ((m.set b (some (.hdr { h with mv := true, olds := [] }))).set k (some (.hdr h2)))).get j = some (.hdr hd) →
      (j = k ∧ hd = h2) ∨ (j = b ∧ j ≠ k ∧ hd = { h with mv := true, olds := [] }) ∨ (j ≠ k ∧ j ≠ b ∧ m.get j = some (.hdr hd)) := by
    intro j hd e
    rcases hget _ _ e with ⟨v, q, _⟩ | ⟨q1, q2⟩ | ⟨q1, q2⟩ | q
    · cases q
    · exact .inl ⟨q1, by simpa using q2⟩
    · exact .inr (.inl ⟨q1, fun e => hbk (q1 ▸ e), by simpa using q2⟩)
    · exact .inr (.inr q)
  have hobj : ∀ j s, (layCells k vs (k + 1) ((m.set b (some (.hdr { h with mv := true, olds := [] }))).set k (some (.hdr h2)))).get j = some s → s.isObj = true → j ≠ k ∧ m.get j = some s := by
    intro j s e hi
    rcases hget _ _ e with ⟨v, q, _⟩ | ⟨_, q⟩ | ⟨_, q⟩ | ⟨q1, _, q⟩
    · subst q; simp [Slot.isObj] at hi
    · subst q; simp [Slot.isObj] at hi
    · subst q; simp [Slot.isObj] at hi
    · exact ⟨q1, q⟩
  -- whoever shares the new row's block
  have hsh : ∀ j hd y, m.get j = some (.hdr hd) → j ≠ b → ρ j = some y → y.B = x2.B → hd.mv = true ∧ j ∈ h2.olds ∧ y.sh + hd.n ≤ x2.sh + n := by
    intro j hd y e hne e1 e2
    rcases hnew with hnew | ⟨hnew, hle⟩
    · exact absurd e2 (hnew j y e1)
    · obtain ⟨a1, a2, a3⟩ := r.shares hb hmv hx e hne e1 (e2.trans hnew)
      exact ⟨a1, by rw [holds]; exact List.mem_cons_of_mem _ a2, by omega⟩
  constructor
  · intro j hd e
    rcases hhdr j hd e with ⟨rfl, rfl⟩ | ⟨rfl, h1, rfl⟩ | ⟨h1, h3, q⟩
    · exact ⟨x2, c, lo, hi, upd_same _ _ _, hrow⟩
    · obtain ⟨y, c2, lo2, hi2, e1, e2⟩ := r.row _ h hb
      exact ⟨y, c2, lo2, hi2, (upd_ne h1).trans e1, ⟨e2.heap, e2.N, e2.sz, e2.fits, e2.ex, e2.z, e2.own, e2.le, fun q => (by cases q), fun q => (by cases q), e2.fn⟩⟩
    · obtain ⟨y, c2, lo2, hi2, e1, e2⟩ := r.row j hd q
      exact ⟨y, c2, lo2, hi2, (upd_ne h1).trans e1, e2⟩
  · intro j hd o v e e'
    rcases hget _ _ e' with ⟨v', q1, q2, q3⟩ | ⟨_, q2⟩ | ⟨_, q2⟩ | ⟨_, _, q'⟩
    · simp only [Slot.cell.injEq] at q1
      obtain ⟨rfl, rfl⟩ := q1
      rw [show j + 1 + o - (j + 1) = o from by omega] at q3
      have hlt : o < vs.length := (List.getElem?_eq_some_iff.1 q3).1
      obtain ⟨v', e4, e5⟩ := hv.get q3
      rcases hhdr j hd e with ⟨_, rfl⟩ | ⟨_, h1, _⟩ | ⟨h1, _⟩
      · exact ⟨by omega, x2, v', upd_same _ _ _, (cell_of hrow.heap).trans (hc o v' e4), e5.ext hext⟩
      · exact absurd rfl h1
      · exact absurd rfl h1
    · cases q2
    · cases q2
    · rcases hhdr j hd e with ⟨rfl, _⟩ | ⟨rfl, h1, rfl⟩ | ⟨h1, _, q⟩
      · obtain ⟨y, hy⟩ := r.dom _ _ _ q'
        rw [hk0] at hy; cases hy
      · obtain ⟨a1, y, v', e1, e2, e3⟩ := r.cell _ h o v hb q'
        exact ⟨a1, y, v', (upd_ne h1).trans e1, e2, e3.ext hext⟩
      · obtain ⟨a1, y, v', e1, e2, e3⟩ := r.cell j hd o v q q'
        exact ⟨a1, y, v', (upd_ne h1).trans e1, e2, e3.ext hext⟩
  · intro j hd j2 hd2 y y2 e e2 hne e3 e4 e5
    have hb2 : ∀ j hd y, j ≠ k → m.get j = some (.hdr hd) → j ≠ b → ρ j = some y → y.B = x.B → hd.mv = true := fun j hd y _ e hne e1 e2 => (r.shares hb hmv hx e hne e1 e2).1
    rcases hhdr j hd e with ⟨rfl, rfl⟩ | ⟨rfl, h1, rfl⟩ | ⟨h1, h3, q⟩
    · rw [upd_same] at e3
      obtain rfl := Option.some.inj e3
      rcases hhdr j2 hd2 e2 with ⟨rfl, rfl⟩ | ⟨rfl, p1, rfl⟩ | ⟨p1, p3, p⟩
      · exact absurd rfl hne
      · rw [upd_ne p1, hx] at e4
        obtain rfl := Option.some.inj e4
        refine .inr (.inl ⟨by rw [holds]; exact List.mem_cons_self .., ?_⟩)
        rcases hnew with hnew | ⟨_, hle⟩
        · exact absurd e5.symm (hnew _ _ hx)
        · show _ ≤ _
          rw [hn]; exact hle
      · rw [upd_ne p1] at e4
        obtain ⟨a1, a2, a3⟩ := hsh j2 hd2 y2 p p3 e4 e5.symm
        exact .inr (.inl ⟨a2, by rw [hn]; exact a3⟩)
    · rw [upd_ne h1, hx] at e3
      obtain rfl := Option.some.inj e3
      rcases hhdr j2 hd2 e2 with ⟨rfl, rfl⟩ | ⟨rfl, _, _⟩ | ⟨p1, p3, p⟩
      · rw [upd_same] at e4
        obtain rfl := Option.some.inj e4
        refine .inr (.inr ⟨by rw [holds]; exact List.mem_cons_self .., ?_⟩)
        rcases hnew with hnew | ⟨_, hle⟩
        · exact absurd e5 (hnew _ _ hx)
        · show _ ≤ _
          rw [hn]; exact hle
      · exact absurd rfl hne
      · rw [upd_ne p1] at e4
        exact .inl ⟨rfl, hb2 j2 hd2 y2 p1 p p3 e4 e5.symm⟩
    · rw [upd_ne h1] at e3
      rcases hhdr j2 hd2 e2 with ⟨rfl, rfl⟩ | ⟨rfl, p1, rfl⟩ | ⟨p1, p3, p⟩
      · rw [upd_same] at e4
        obtain rfl := Option.some.inj e4
        obtain ⟨a1, a2, a3⟩ := hsh j hd y q h3 e3 e5
        exact .inr (.inr ⟨a2, by rw [hn]; exact a3⟩)
      · rw [upd_ne p1, hx] at e4
        obtain rfl := Option.some.inj e4
        exact .inl ⟨hb2 j hd y h1 q h3 e3 e5, rfl⟩
      · rw [upd_ne p1] at e4
        exact r.sep j hd j2 hd2 y y2 q p hne e3 e4 e5
  · intro j hd j2 hd2 e hm e2
    rcases hhdr j2 hd2 e2 with ⟨rfl, rfl⟩ | ⟨rfl, p1, rfl⟩ | ⟨p1, p3, p⟩
    · -- the new row is nobody's former place
      rcases hhdr j hd e with ⟨rfl, rfl⟩ | ⟨rfl, h1, rfl⟩ | ⟨h1, h3, q⟩
      · rw [holds] at hm
        rcases List.mem_cons.1 hm with h9 | h9
        · exact absurd h9.symm hbk
        · obtain ⟨y, hy⟩ := r.odom b h _ hb h9
          rw [hk0] at hy; cases hy
      · simp at hm
      · obtain ⟨y, hy⟩ := r.odom j hd _ q hm
        rw [hk0] at hy; cases hy
    · rfl
    · rcases hhdr j hd e with ⟨rfl, rfl⟩ | ⟨rfl, h1, rfl⟩ | ⟨h1, h3, q⟩
      · rw [holds] at hm
        rcases List.mem_cons.1 hm with h9 | h9
        · exact absurd h9 p3
        · exact r.old b h j2 hd2 hb h9 p
      · simp at hm
      · exact r.old j hd j2 hd2 q hm p
  · intro j s e hi
    obtain ⟨hne, q⟩ := hobj j s e hi
    obtain ⟨y, ob, e1, e0, e2, e3, e4⟩ := r.obj j s q hi
    exact ⟨y, ob, (upd_ne hne).trans e1, e0, e2, e3, e4.ext hext⟩
  · intro j s j2 s2 y y2 e hi e2 hi2 hne e3 e4
    obtain ⟨h1, q⟩ := hobj j s e hi
    obtain ⟨p1, p⟩ := hobj j2 s2 e2 hi2
    rw [upd_ne h1] at e3
    rw [upd_ne p1] at e4
    exact r.osep j s j2 s2 y y2 q hi p hi2 hne e3 e4
  · intro j b2 v e
    rcases hget _ _ e with ⟨v', q, _⟩ | ⟨_, q⟩ | ⟨_, q⟩ | ⟨_, _, q⟩
    · simp only [Slot.cell.injEq] at q
      exact ⟨x2, by rw [q.1]; exact upd_same _ _ _⟩
    · cases q
    · cases q
    · obtain ⟨y, hy⟩ := r.dom j b2 v q
      exact ⟨y, hext _ _ hy⟩
  · intro j hd b2 e hm
    rcases hhdr j hd e with ⟨rfl, rfl⟩ | ⟨rfl, h1, rfl⟩ | ⟨h1, h3, q⟩
    · rw [holds] at hm
      rcases List.mem_cons.1 hm with h9 | h9
      · exact ⟨x, by rw [h9]; exact hext _ _ hx⟩
      · obtain ⟨y, hy⟩ := r.odom b h b2 hb h9
        exact ⟨y, hext _ _ hy⟩
    · simp at hm
    · obtain ⟨y, hy⟩ := r.odom j hd b2 q hm
      exact ⟨y, hext _ _ hy⟩
  · intro j y e
    by_cases hj : j = k
    · subst hj
      rw [upd_same] at e
      obtain rfl := Option.some.inj e
      exact lt_of_some hrow.heap
    · rw [upd_ne hj] at e
      exact r.rng j y e
  · intro B z e
    obtain ⟨h1, h3, h4⟩ := r.frz B z e
    refine ⟨h1, h3, fun j hd y e1 e2 e3 => ?_⟩
    rcases hhdr j hd e1 with ⟨rfl, rfl⟩ | ⟨rfl, p1, rfl⟩ | ⟨p1, p3, q⟩
    · rw [upd_same] at e2
      obtain rfl := Option.some.inj e2
      have := h4 b h x hb hx ((hnewL B z e e3).symm.trans e3)
      rw [hro] at this; cases this
    · rw [upd_ne p1, hx] at e2
      obtain rfl := Option.some.inj e2
      exact h4 _ h _ hb hx e3
    · rw [upd_ne p1] at e2
      exact h4 j hd y q e2 e3
  · exact r.lsB

/-! ### Lists that nobody changes any more -/
/-- A block that no row may be written in is noted. -/
theorem MR.note {m : Tr Slot} {w : World} (r : MR P ρ B0 m w) {B sz : Nat} {c : Array Value} {el : TypeId} {fr : Nat × Nat} (hc : w.heap[B]? = some (.cells c el fr)) (hn : ρ.ls B = none) (hB : B0 ≤ B)
    (hrows : ∀ b h y, m.get b = some (.hdr h) → ρ b = some y → y.B = B → h.ro = true) : MR P (updL ρ B ⟨B, 0, c.size, sz, c.toList⟩) B0 m w := by
  have hext : Ext ρ (updL ρ B ⟨B, 0, c.size, sz, c.toList⟩) := Ext.updL _ hn
  have hback : ∀ k y z, ρ k = some y → updL ρ B ⟨B, 0, c.size, sz, c.toList⟩ k = some z → ρ k = some z := fun k y z _ e2 => e2
  constructor
  · intro b h e
    obtain ⟨x, c, lo, hi, e1, e2⟩ := r.row b h e
    exact ⟨x, c, lo, hi, hext _ _ e1, e2⟩
  · intro b h o v e e'
    obtain ⟨h1, x, v', e1, e2, e3⟩ := r.cell b h o v e e'
    exact ⟨h1, x, v', hext _ _ e1, e2, e3.ext hext⟩
  · intro b h b2 h2 x x2 e e2 hne e3 e4
    obtain ⟨_, _, _, _, q, _⟩ := r.row b h e
    obtain ⟨_, _, _, _, q2, _⟩ := r.row b2 h2 e2
    exact r.sep b h b2 h2 x x2 e e2 hne (hback _ _ _ q e3) (hback _ _ _ q2 e4)
  · exact r.old
  · intro k o e hi
    obtain ⟨x, ob, e1, e0, e2, e3, e4⟩ := r.obj k o e hi
    exact ⟨x, ob, hext _ _ e1, e0, e2, e3, e4.ext hext⟩
  · intro k o k2 o2 x x2 e hi e2 hi2 hne e3 e4
    obtain ⟨_, _, q, _⟩ := r.obj k o e hi
    obtain ⟨_, _, q2, _⟩ := r.obj k2 o2 e2 hi2
    exact r.osep k o k2 o2 x x2 e hi e2 hi2 hne (hback _ _ _ q e3) (hback _ _ _ q2 e4)
  · intro j b v e
    obtain ⟨y, hy⟩ := r.dom j b v e
    exact ⟨y, hext _ _ hy⟩
  · intro b h b2 e hm
    obtain ⟨y, hy⟩ := r.odom b h b2 e hm
    exact ⟨y, hext _ _ hy⟩
  · intro b x e
    exact r.rng b x e
  · intro B2 x e
    by_cases hb : B2 = B
    · subst hb
      rw [updL_same] at e
      obtain rfl := Option.some.inj e
      refine ⟨rfl, ⟨c, el, fr, hc, rfl⟩, fun b h y e1 e2 e3 => ?_⟩
      obtain ⟨_, _, _, _, q, _⟩ := r.row b h e1
      exact hrows b h y e1 (hback _ _ _ q e2) e3
    · rw [updL_ne hb] at e
      obtain ⟨h1, h2, h3⟩ := r.frz B2 x e
      refine ⟨h1, h2, fun b h y e1 e2 e3 => ?_⟩
      obtain ⟨_, _, _, _, q, _⟩ := r.row b h e1
      exact h3 b h y e1 (hback _ _ _ q e2) e3
  · intro B2 x e
    by_cases hb : B2 = B
    · subst hb; exact .inl hB
    · rw [updL_ne hb] at e
      exact r.lsB B2 x e
/-- A block that is not spoken of yet is in no list. -/
theorem MR.unlisted {m : Tr Slot} {w : World} (r : MR P ρ B0 m w) : ρ.ls w.heap.size = none := by
  cases h : ρ.ls w.heap.size with
  | none => rfl
  | some x =>
    have h1 := r.lsLt h
    omega
/-- A new block that is a list. -/
theorem MR.pushList {m : Tr Slot} {w w1 : World} (r : MR P ρ B0 m w) {c : Array Value} {el : TypeId} {fr : Nat × Nat} {sz : Nat} (hw : w1.heap = w.heap.push (.cells c el fr)) (hB : B0 ≤ w.heap.size) :
    MR P (updL ρ w.heap.size ⟨w.heap.size, 0, c.size, sz, c.toList⟩) B0 m w1 :=
  (r.push hw).note (push_new hw) r.unlisted hB (fun b h y e e1 e2 => by
    have := r.rng _ _ e1
    omega)
/-- A row becomes a list. -/
theorem MR.freeze {m : Tr Slot} {w : World} (r : MR P ρ B0 m w) {b : Nat} {h : Hdr} (hb : m.get b = some (.hdr h)) (hmv : h.mv = false) (hro : h.ro = false) {x : Blk} (hx : ρ b = some x) :
    ρ.ls x.B = none ∧ ∃ c el fr, w.heap[x.B]? = some (.cells c el fr) ∧ MR P (updL ρ x.B ⟨x.B, 0, c.size, 0, c.toList⟩) B0 ((kill h.olds m).set b none) w := by
  have hn : ρ.ls x.B = none := by
    cases hq : ρ.ls x.B with
    | none => rfl
    | some z =>
      have := (r.frz _ _ hq).2.2 b h x hb hx rfl
      rw [hro] at this; cases this
  obtain ⟨x', c, lo, hi, hx', y⟩ := r.row b h hb
  rw [hx] at hx'
  obtain rfl := Option.some.inj hx'
  obtain ⟨r1, alone⟩ := r.purge hb hmv
  have hsub : ∀ k s, ((kill h.olds m).set b none).get k = some s → ((kill h.olds m).set b (some (.hdr { h with olds := [] }))).get k = some s ∧ k ≠ b := by
    intro k s e
    rw [Tr.get_set] at e ⊢
    by_cases hk : k = b
    · rw [if_pos hk] at e; cases e
    · rw [if_neg hk] at e ⊢; exact ⟨e, hk⟩
  have r2 : MR P ρ B0 ((kill h.olds m).set b none) w := r1.sub fun k s e => (hsub k s e).1
  refine ⟨hn, c, h.el, (lo, hi), y.heap, r2.note y.heap hn (y.own hro) fun b2 h2 y2 e e1 e2 => ?_⟩
  obtain ⟨e3, hne⟩ := hsub _ _ e
  exact (alone b2 h2 x y2 e3 hne hx e1 e2).elim
theorem St.frz_spec {s s' : St} {b n o : Nat} {vs : List Value} (h : s.frz b n o = some (vs, s')) : ∃ hd, s.mem.get b = some (.hdr hd) ∧ hd.ro = false ∧ hd.mv = false ∧ (∃ s1, s.rd b n o = some (vs, s1)) ∧ vs.all Ev.oneC = true ∧
    s'.mem = (kill hd.olds s.mem).set b none ∧ s'.ctr = s.ctr := by
  obtain ⟨m, c, l⟩ := s
  simp only [St.frz] at h
  split at h
  · rename_i hn el ro ex z fz sy mv olds hb
    split at h
    · cases h
    · rename_i hg
      simp only [Bool.or_eq_false_iff] at hg
      split at h
      · rename_i vs' hr
        split at h
        rotate_left
        · cases h
        rename_i hall
        simp only [Option.some.injEq, Prod.mk.injEq] at h
        obtain ⟨rfl, rfl⟩ := h
        refine ⟨_, hb, hg.1, hg.2, ⟨⟨m, c, ⟨false, b + 1 + o, n⟩ :: ⟨false, b, 1⟩ :: l⟩, ?_⟩, hall, rfl, rfl⟩
        simp only [St.rd, hb, hr]
        rfl
      · cases h
  · cases h
end
end Go.Ev
