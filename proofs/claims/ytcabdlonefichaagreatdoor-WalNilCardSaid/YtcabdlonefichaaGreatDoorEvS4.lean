/- Soundness, part 4: marks on a block; a row that is appended to while its capacity is not known. -/
import Derived.Test.YtcabdlonefichaaGreatDoorEvS3
namespace Go.Ev
open Go Go.RowKit
section
variable {P : Program} {ρ : Map} {B0 : Nat}

/-- Who shares a block with a row that has not been moved has been moved. -/
theorem MR.shares {m : Tr Slot} {w : World} (r : MR P ρ B0 m w) {b : Nat} {h : Hdr} (hb : m.get b = some (.hdr h)) (hmv : h.mv = false) {x : Blk} (hx : ρ b = some x)
    {j : Nat} {hj : Hdr} {y : Blk} (e : m.get j = some (.hdr hj)) (hne : j ≠ b) (hy : ρ j = some y) (hB : y.B = x.B) : hj.mv = true ∧ j ∈ h.olds ∧ y.sh + hj.n ≤ x.sh + h.n := by
  rcases r.sep b h j hj x y hb e (Ne.symm hne) hx hy hB.symm with ⟨a, _⟩ | ⟨a, a'⟩ | ⟨a, _⟩
  · rw [hmv] at a; cases a
  · exact ⟨r.old b h j hj hb a e, a, a'⟩
  · have := r.old j hj b h e a hb
    rw [hmv] at this; cases this

/-- A row's header with other marks, its block with another frozen range. -/
theorem MR.rehdr {m : Tr Slot} {w w1 : World} (r : MR P ρ B0 m w) {b : Nat} {h h' : Hdr} (hb : m.get b = some (.hdr h)) (hmv : h.mv = false) {x : Blk} (hx : ρ b = some x)
    (hn : h'.n = h.n) (hmv' : h'.mv = false) (holds : h'.olds = h.olds) {c : Array Value} {fr : Nat × Nat} (hc : w.heap[x.B]? = some (.cells c h.el fr))
    {lo hi : Nat} (hrow : RowR P B0 h' w1 x c lo hi) (hel : h'.el = h.el) (hother : ∀ i, i ≠ x.B → w1.heap[i]? = w.heap[i]?) (hsize : w1.heap.size = w.heap.size) :
    MR P ρ B0 (m.set b (some (.hdr h'))) w1 := by
  have hget : ∀ j s, (m.set b (some (.hdr h'))).get j = some s → (j = b ∧ s = .hdr h') ∨ (j ≠ b ∧ m.get j = some s) := by
    intro j s e
    rw [Tr.get_set] at e
    split at e
    · rename_i h; exact .inl ⟨h, (Option.some.inj e).symm⟩
    · rename_i h; exact .inr ⟨h, e⟩
  have hhdr : ∀ j hd, (m.set b (some (.hdr h'))).get j = some (.hdr hd) → (j = b ∧ hd = h') ∨ (j ≠ b ∧ m.get j = some (.hdr hd)) := by
    intro j hd e
    rcases hget _ _ e with ⟨q1, q2⟩ | q
    · exact .inl ⟨q1, by simpa using q2⟩
    · exact .inr q
  have hold : ∀ j hd, (m.set b (some (.hdr h'))).get j = some (.hdr hd) → ∃ hd0, m.get j = some (.hdr hd0) ∧ hd0.n = hd.n ∧ hd0.mv = hd.mv ∧ hd0.olds = hd.olds := by
    intro j hd e
    rcases hhdr _ _ e with ⟨rfl, rfl⟩ | ⟨_, q⟩
    · exact ⟨h, hb, hn.symm, by rw [hmv, hmv'], holds.symm⟩
    · exact ⟨hd, q, rfl, rfl, rfl⟩
  have hcell : ∀ i, w1.cell? ⟨x.B, i, none⟩ = w.cell? ⟨x.B, i, none⟩ := fun i => by rw [cell_of hrow.heap, cell_of hc]
  have hobj : ∀ j s, (m.set b (some (.hdr h'))).get j = some s → s.isObj = true → m.get j = some s := by
    intro j s e hi
    rcases hget _ _ e with ⟨_, q⟩ | ⟨_, q⟩
    · subst q; simp [Slot.isObj] at hi
    · exact q
  constructor
  · intro j hd e
    rcases hhdr _ _ e with ⟨rfl, rfl⟩ | ⟨hne, q⟩
    · exact ⟨x, c, lo, hi, hx, hrow⟩
    · obtain ⟨y, c2, lo2, hi2, e1, e2⟩ := r.row j hd q
      by_cases hB : y.B = x.B
      · obtain ⟨hm, _, _⟩ := r.shares hb hmv hx q hne e1 hB
        have e3 := e2.heap
        rw [hB, hc] at e3
        simp only [Option.some.injEq, Obj.cells.injEq] at e3
        obtain ⟨rfl, e4, _⟩ := e3
        refine ⟨y, c, lo, hi, e1, ?_⟩
        exact ⟨by rw [hB, hrow.heap, hel, e4], e2.N, e2.sz, e2.fits, e2.ex, e2.z, e2.own, hrow.le, fun h => (by rw [hm] at h; cases h), fun h => (by rw [hm] at h; cases h), e2.fn⟩
      · exact ⟨y, c2, lo2, hi2, e1, { e2 with heap := (hother _ hB).trans e2.heap }⟩
  · intro j hd i v e e'
    obtain ⟨hd0, q, q1, _, _⟩ := hold j hd e
    rcases hget _ _ e' with ⟨_, q'⟩ | ⟨_, q'⟩
    · cases q'
    · obtain ⟨h2, y, v', e1, e2, e3⟩ := r.cell j hd0 i v q q'
      refine ⟨by omega, y, v', e1, ?_, e3⟩
      by_cases hB : y.B = x.B
      · rw [hB, hcell, ← hB]; exact e2
      · rw [cell_same (hother _ hB)]; exact e2
  · intro j hd j2 hd2 y y2 e e2
    obtain ⟨hd0, q, q1, q2, q3⟩ := hold j hd e
    obtain ⟨hd02, p, p1, p2, p3⟩ := hold j2 hd2 e2
    have := r.sep j hd0 j2 hd02 y y2 q p
    rw [q1, q2, q3, p1, p2, p3] at this
    exact this
  · intro j hd j2 hd2 e hm e2
    obtain ⟨hd0, q, q1, q2, q3⟩ := hold j hd e
    obtain ⟨hd02, p, p1, p2, p3⟩ := hold j2 hd2 e2
    rw [← p2]
    exact r.old j hd0 j2 hd02 q (q3 ▸ hm) p
  · intro j s e hi
    obtain ⟨y, ob, e1, e0, e2, e3, e4⟩ := r.obj j s (hobj j s e hi) hi
    refine ⟨y, ob, e1, e0, e2, (hother _ fun e5 => ?_).trans e3, e4⟩
    rw [e5, hc] at e3
    exact e4.notCells _ _ _ (Option.some.inj e3).symm
  · intro j s j2 s2 y y2 e hi e2 hi2
    exact r.osep j s j2 s2 y y2 (hobj _ _ e hi) hi (hobj _ _ e2 hi2) hi2
  · intro j b2 v e
    rcases hget _ _ e with ⟨_, q⟩ | ⟨_, q⟩
    · cases q
    · exact r.dom j b2 v q
  · intro j hd b2 e hm
    obtain ⟨hd0, q, q1, q2, q3⟩ := hold j hd e
    exact r.odom j hd0 b2 q (q3 ▸ hm)
  · intro j y e
    rw [hsize]; exact r.rng j y e

/-- Cells behind all that is known of a row, and of who shares its block, are written: all is kept. -/
theorem MR.beyond {m : Tr Slot} {w : World} (r : MR P ρ B0 m w) {b : Nat} {h : Hdr} (hb : m.get b = some (.hdr h)) (hmv : h.mv = false) {x : Blk} (hx : ρ b = some x)
    {c : Array Value} {fr : Nat × Nat} (hc : w.heap[x.B]? = some (.cells c h.el fr)) {o : Nat} (ho : x.sh + h.n ≤ o) {vs : List Value} (hlen : o + vs.length ≤ c.size) :
    MR P ρ B0 m (setCells w x.B o vs) := by
  obtain ⟨⟨c', a1, a2, a3⟩, hother, hsize, _, _, _⟩ := setCells_spec x.B vs o w c h.el fr hc hlen
  have hend : ∀ j hd y, m.get j = some (.hdr hd) → ρ j = some y → y.B = x.B → y.sh + hd.n ≤ x.sh + h.n := by
    intro j hd y e e1 e2
    by_cases hj : j = b
    · subst hj
      rw [hb] at e
      rw [hx] at e1
      obtain rfl : h = hd := by simpa using e
      obtain rfl := Option.some.inj e1
      exact Nat.le_refl _
    · exact (r.shares hb hmv hx e hj e1 e2).2.2
  constructor
  · intro j hd e
    obtain ⟨y, c2, lo2, hi2, e1, e2⟩ := r.row j hd e
    by_cases hB : y.B = x.B
    · have e3 := e2.heap
      rw [hB, hc] at e3
      simp only [Option.some.injEq, Obj.cells.injEq] at e3
      obtain ⟨rfl, e4, e5⟩ := e3
      subst e5
      exact ⟨y, c', lo2, hi2, e1, { e2 with heap := by rw [hB, a1, e4], N := a2.trans e2.N }⟩
    · exact ⟨y, c2, lo2, hi2, e1, { e2 with heap := (hother _ hB).trans e2.heap }⟩
  · intro j hd i v e e'
    obtain ⟨h2, y, v', e1, e2, e3⟩ := r.cell j hd i v e e'
    refine ⟨h2, y, v', e1, ?_, e3⟩
    by_cases hB : y.B = x.B
    · have := hend j hd y e e1 hB
      rw [hB, cell_of a1, a3, if_neg (by omega), ← cell_of hc, ← hB]
      exact e2
    · rw [cell_same (hother _ hB)]; exact e2
  · exact r.sep
  · exact r.old
  · intro j s e hi
    obtain ⟨y, ob, e1, e0, e2, e3, e4⟩ := r.obj j s e hi
    refine ⟨y, ob, e1, e0, e2, (hother _ fun e5 => ?_).trans e3, e4⟩
    rw [e5, hc] at e3
    exact e4.notCells _ _ _ (Option.some.inj e3).symm
  · exact r.osep
  · exact r.dom
  · exact r.odom
  · intro j y e
    rw [hsize]; exact r.rng j y e

/-- A row that goes on from another one, which is moved: in a new block, or behind it in its own. -/
theorem MR.moved {m : Tr Slot} {w : World} (r : MR P ρ B0 m w) {b : Nat} {h : Hdr} (hb : m.get b = some (.hdr h)) (hmv : h.mv = false) {x : Blk} (hx : ρ b = some x)
    {k n : Nat} {vs : List Value} {h2 : Hdr} (hn : h2.n = n) (hmv2 : h2.mv = false) (holds : h2.olds = b :: h.olds) (fr : Fr ρ m k (k + n + 1)) {x2 : Blk}
    (hnew : (∀ j y, ρ j = some y → y.B ≠ x2.B) ∨ (x2.B = x.B ∧ x.sh + h.n ≤ x2.sh + n)) (hlen : vs.length ≤ n)
    {vs' : List Value} (hv : VRs ρ vs vs') {c : Array Value} {lo hi : Nat} (hrow : RowR P B0 h2 w x2 c lo hi) (hc : ∀ (j : Nat) (v : Value), vs'[j]? = some v → c[x2.sh + j]? = some v) :
    MR P (upd ρ k x2) B0 (layCells k vs (k + 1) ((m.set b (some (.hdr { h with mv := true, olds := [] }))).set k (some (.hdr h2)))) w := by
  have hk0 : ρ k = none := fr.map k (Nat.le_refl _) (by omega)
  have hext : Ext ρ (upd ρ k x2) := Ext.upd x2 hk0
  have hbk : b ≠ k := fun e => by rw [e, hk0] at hx; cases hx
  have hget : ∀ j s, (layCells k vs (k + 1) ((m.set b (some (.hdr { h with mv := true, olds := [] }))).set k (some (.hdr h2)))).get j = some s →
      (∃ v, s = .cell k v ∧ k + 1 ≤ j ∧ vs[j - (k + 1)]? = some v) ∨ (j = k ∧ s = .hdr h2) ∨ (j = b ∧ s = .hdr { h with mv := true, olds := [] }) ∨ (j ≠ k ∧ j ≠ b ∧ m.get j = some s) := by
    intro j s e
    rw [layCells_get] at e
    split at e
    · rename_i hin
      cases hv' : vs[j - (k + 1)]? with
      | none => rw [hv'] at e; cases e
      | some v => rw [hv'] at e; exact .inl ⟨v, (Option.some.inj e).symm, hin.1, rfl⟩
    · rw [Tr.get_set] at e
      split at e
      · rename_i hjk
        exact .inr (.inl ⟨hjk, (Option.some.inj e).symm⟩)
      · rename_i hjk
        rw [Tr.get_set] at e
        split at e
        · rename_i hjb
          exact .inr (.inr (.inl ⟨hjb, (Option.some.inj e).symm⟩))
        · rename_i hjb
          exact .inr (.inr (.inr ⟨hjk, hjb, e⟩))
  have hhdr : ∀ j hd, (layCells k vs (k + 1) ((m.set b (some (.hdr { h with mv := true, olds := [] }))).set k (some (.hdr h2)))).get j = some (.hdr hd) →
      (j = k ∧ hd = h2) ∨ (j = b ∧ j ≠ k ∧ hd = { h with mv := true, olds := [] }) ∨ (j ≠ k ∧ j ≠ b ∧ m.get j = some (.hdr hd)) := by
    intro j hd e
    rcases hget _ _ e with ⟨v, q, _⟩ | ⟨q1, q2⟩ | ⟨q1, q2⟩ | q
    · cases q
    · exact .inl ⟨q1, by simpa using q2⟩
    · exact .inr (.inl ⟨q1, fun e => hbk (q1 ▸ e), by simpa using q2⟩)
    · exact .inr (.inr q)
  have hobj : ∀ j s, (layCells k vs (k + 1) ((m.set b (some (.hdr { h with mv := true, olds := [] }))).set k (some (.hdr h2)))).get j = some s → s.isObj = true → j ≠ k ∧ m.get j = some s := by
    intro j s e hi
    rcases hget _ _ e with ⟨v, q, _⟩ | ⟨_, q⟩ | ⟨_, q⟩ | ⟨q1, _, q⟩
    · subst q; simp [Slot.isObj] at hi
    · subst q; simp [Slot.isObj] at hi
    · subst q; simp [Slot.isObj] at hi
    · exact ⟨q1, q⟩
  -- whoever shares the new row's block
  have hsh : ∀ j hd y, m.get j = some (.hdr hd) → j ≠ b → ρ j = some y → y.B = x2.B → hd.mv = true ∧ j ∈ h2.olds ∧ y.sh + hd.n ≤ x2.sh + n := by
    intro j hd y e hne e1 e2
    rcases hnew with hnew | ⟨hnew, hle⟩
    · exact absurd e2 (hnew j y e1)
    · obtain ⟨a1, a2, a3⟩ := r.shares hb hmv hx e hne e1 (e2.trans hnew)
      exact ⟨a1, by rw [holds]; exact List.mem_cons_of_mem _ a2, by omega⟩
  constructor
  · intro j hd e
    rcases hhdr j hd e with ⟨rfl, rfl⟩ | ⟨rfl, h1, rfl⟩ | ⟨h1, h3, q⟩
    · exact ⟨x2, c, lo, hi, upd_same _ _ _, hrow⟩
    · obtain ⟨y, c2, lo2, hi2, e1, e2⟩ := r.row _ h hb
      exact ⟨y, c2, lo2, hi2, (upd_ne h1).trans e1, ⟨e2.heap, e2.N, e2.sz, e2.fits, e2.ex, e2.z, e2.own, e2.le, fun q => (by cases q), fun q => (by cases q), e2.fn⟩⟩
    · obtain ⟨y, c2, lo2, hi2, e1, e2⟩ := r.row j hd q
      exact ⟨y, c2, lo2, hi2, (upd_ne h1).trans e1, e2⟩
  · intro j hd o v e e'
    rcases hget _ _ e' with ⟨v', q1, q2, q3⟩ | ⟨_, q2⟩ | ⟨_, q2⟩ | ⟨_, _, q'⟩
    · simp only [Slot.cell.injEq] at q1
      obtain ⟨rfl, rfl⟩ := q1
      rw [show j + 1 + o - (j + 1) = o from by omega] at q3
      have hlt : o < vs.length := (List.getElem?_eq_some_iff.1 q3).1
      obtain ⟨v', e4, e5⟩ := hv.get q3
      rcases hhdr j hd e with ⟨_, rfl⟩ | ⟨_, h1, _⟩ | ⟨h1, _⟩
      · exact ⟨by omega, x2, v', upd_same _ _ _, (cell_of hrow.heap).trans (hc o v' e4), e5.ext hext⟩
      · exact absurd rfl h1
      · exact absurd rfl h1
    · cases q2
    · cases q2
    · rcases hhdr j hd e with ⟨rfl, _⟩ | ⟨rfl, h1, rfl⟩ | ⟨h1, _, q⟩
      · obtain ⟨y, hy⟩ := r.dom _ _ _ q'
        rw [hk0] at hy; cases hy
      · obtain ⟨a1, y, v', e1, e2, e3⟩ := r.cell _ h o v hb q'
        exact ⟨a1, y, v', (upd_ne h1).trans e1, e2, e3.ext hext⟩
      · obtain ⟨a1, y, v', e1, e2, e3⟩ := r.cell j hd o v q q'
        exact ⟨a1, y, v', (upd_ne h1).trans e1, e2, e3.ext hext⟩
  · intro j hd j2 hd2 y y2 e e2 hne e3 e4 e5
    have hb2 : ∀ j hd y, j ≠ k → m.get j = some (.hdr hd) → j ≠ b → ρ j = some y → y.B = x.B → hd.mv = true := fun j hd y _ e hne e1 e2 => (r.shares hb hmv hx e hne e1 e2).1
    rcases hhdr j hd e with ⟨rfl, rfl⟩ | ⟨rfl, h1, rfl⟩ | ⟨h1, h3, q⟩
    · rw [upd_same] at e3
      obtain rfl := Option.some.inj e3
      rcases hhdr j2 hd2 e2 with ⟨rfl, rfl⟩ | ⟨rfl, p1, rfl⟩ | ⟨p1, p3, p⟩
      · exact absurd rfl hne
      · rw [upd_ne p1, hx] at e4
        obtain rfl := Option.some.inj e4
        refine .inr (.inl ⟨by rw [holds]; exact List.mem_cons_self .., ?_⟩)
        rcases hnew with hnew | ⟨_, hle⟩
        · exact absurd e5.symm (hnew _ _ hx)
        · show _ ≤ _
          rw [hn]; exact hle
      · rw [upd_ne p1] at e4
        obtain ⟨a1, a2, a3⟩ := hsh j2 hd2 y2 p p3 e4 e5.symm
        exact .inr (.inl ⟨a2, by rw [hn]; exact a3⟩)
    · rw [upd_ne h1, hx] at e3
      obtain rfl := Option.some.inj e3
      rcases hhdr j2 hd2 e2 with ⟨rfl, rfl⟩ | ⟨rfl, _, _⟩ | ⟨p1, p3, p⟩
      · rw [upd_same] at e4
        obtain rfl := Option.some.inj e4
        refine .inr (.inr ⟨by rw [holds]; exact List.mem_cons_self .., ?_⟩)
        rcases hnew with hnew | ⟨_, hle⟩
        · exact absurd e5 (hnew _ _ hx)
        · show _ ≤ _
          rw [hn]; exact hle
      · exact absurd rfl hne
      · rw [upd_ne p1] at e4
        exact .inl ⟨rfl, hb2 j2 hd2 y2 p1 p p3 e4 e5.symm⟩
    · rw [upd_ne h1] at e3
      rcases hhdr j2 hd2 e2 with ⟨rfl, rfl⟩ | ⟨rfl, p1, rfl⟩ | ⟨p1, p3, p⟩
      · rw [upd_same] at e4
        obtain rfl := Option.some.inj e4
        obtain ⟨a1, a2, a3⟩ := hsh j hd y q h3 e3 e5
        exact .inr (.inr ⟨a2, by rw [hn]; exact a3⟩)
      · rw [upd_ne p1, hx] at e4
        obtain rfl := Option.some.inj e4
        exact .inl ⟨hb2 j hd y h1 q h3 e3 e5, rfl⟩
      · rw [upd_ne p1] at e4
        exact r.sep j hd j2 hd2 y y2 q p hne e3 e4 e5
  · intro j hd j2 hd2 e hm e2
    rcases hhdr j2 hd2 e2 with ⟨rfl, rfl⟩ | ⟨rfl, p1, rfl⟩ | ⟨p1, p3, p⟩
    · -- the new row is nobody's former place
      rcases hhdr j hd e with ⟨rfl, rfl⟩ | ⟨rfl, h1, rfl⟩ | ⟨h1, h3, q⟩
      · rw [holds] at hm
        rcases List.mem_cons.1 hm with h9 | h9
        · exact absurd h9.symm hbk
        · obtain ⟨y, hy⟩ := r.odom b h _ hb h9
          rw [hk0] at hy; cases hy
      · simp at hm
      · obtain ⟨y, hy⟩ := r.odom j hd _ q hm
        rw [hk0] at hy; cases hy
    · rfl
    · rcases hhdr j hd e with ⟨rfl, rfl⟩ | ⟨rfl, h1, rfl⟩ | ⟨h1, h3, q⟩
      · rw [holds] at hm
        rcases List.mem_cons.1 hm with h9 | h9
        · exact absurd h9 p3
        · exact r.old b h j2 hd2 hb h9 p
      · simp at hm
      · exact r.old j hd j2 hd2 q hm p
  · intro j s e hi
    obtain ⟨hne, q⟩ := hobj j s e hi
    obtain ⟨y, ob, e1, e0, e2, e3, e4⟩ := r.obj j s q hi
    exact ⟨y, ob, (upd_ne hne).trans e1, e0, e2, e3, e4.ext hext⟩
  · intro j s j2 s2 y y2 e hi e2 hi2 hne e3 e4
    obtain ⟨h1, q⟩ := hobj j s e hi
    obtain ⟨p1, p⟩ := hobj j2 s2 e2 hi2
    rw [upd_ne h1] at e3
    rw [upd_ne p1] at e4
    exact r.osep j s j2 s2 y y2 q hi p hi2 hne e3 e4
  · intro j b2 v e
    rcases hget _ _ e with ⟨v', q, _⟩ | ⟨_, q⟩ | ⟨_, q⟩ | ⟨_, _, q⟩
    · simp only [Slot.cell.injEq] at q
      exact ⟨x2, by rw [q.1]; exact upd_same _ _ _⟩
    · cases q
    · cases q
    · obtain ⟨y, hy⟩ := r.dom j b2 v q
      exact ⟨y, hext _ _ hy⟩
  · intro j hd b2 e hm
    rcases hhdr j hd e with ⟨rfl, rfl⟩ | ⟨rfl, h1, rfl⟩ | ⟨h1, h3, q⟩
    · rw [holds] at hm
      rcases List.mem_cons.1 hm with h9 | h9
      · exact ⟨x, by rw [h9]; exact hext _ _ hx⟩
      · obtain ⟨y, hy⟩ := r.odom b h b2 hb h9
        exact ⟨y, hext _ _ hy⟩
    · simp at hm
    · obtain ⟨y, hy⟩ := r.odom j hd b2 q hm
      exact ⟨y, hext _ _ hy⟩
  · intro j y e
    by_cases hj : j = k
    · subst hj
      rw [upd_same] at e
      obtain rfl := Option.some.inj e
      exact lt_of_some hrow.heap
    · rw [upd_ne hj] at e
      exact r.rng j y e
end
end Go.Ev
