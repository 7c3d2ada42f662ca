/- Oracles: a function of the library by its contract: it answers with a plain value, and leaves all that was there as it was; a table of the program's that it looks into is read by the evaluator too. -/
import Derived.Test.YtpljgnjdlciicaaGreatDoorLyKQ18
import Derived.Test.YtpljgnjdlciicaaGreatDoorLyKQ19
namespace Go.Ev
open Go Go.RowKit
/-- The relation depends on the old blocks alone. -/
theorem MR.belowO {P : Program} {ρ : Map} {B0 : Nat} {m : Tr Slot} {w w' : World} (r : MR P ρ B0 m w) (h : Below w.heap.size w w') : MR P ρ B0 m w' := by
  have hb : ∀ (k : Nat) (o : Obj), w.heap[k]? = some o → w'.heap[k]? = some o := fun k o e => by
    have hk : k < w.heap.size := (Array.getElem?_eq_some_iff.1 e).1
    rw [h.block k hk, e]
  constructor
  · intro b hd e
    obtain ⟨x, c, lo, hi, e1, y⟩ := r.row b hd e
    exact ⟨x, c, lo, hi, e1, { y with heap := hb _ _ y.heap }⟩
  · intro b hd o v e e'
    obtain ⟨a, x, v', e1, y, z⟩ := r.cell b hd o v e e'
    refine ⟨a, x, v', e1, ?_, z⟩
    have hx := r.rng b x e1
    rw [← y]
    simp only [World.cell?, h.block _ hx]
  · exact r.sep
  · exact r.old
  · intro k o e i
    obtain ⟨x, ob, e1, e0, y, z, u⟩ := r.obj k o e i
    exact ⟨x, ob, e1, e0, y, hb _ _ z, u⟩
  · exact r.osep
  · exact r.dom
  · exact r.odom
  · intro b x e
    exact Nat.lt_of_lt_of_le (r.rng b x e) h.size
  · intro B x e
    obtain ⟨h1, ⟨c, el, fr, h2, h2'⟩, h3⟩ := r.frz B x e
    exact ⟨h1, ⟨c, el, fr, hb _ _ h2, h2'⟩, h3⟩
  · exact r.lsB
theorem orc_plain {P : Program} {f : Nat} {p : List Value → Prog} (H : ∀ (B0 : Nat) (w : World) (ρ : Map) (s s' : St) (v : Value) (args args' : List Value), (p args).run s = some (v, s') → MR P ρ B0 s.mem w → GlOK P ρ → VRs ρ args args' →
    s'.mem = s.mem ∧ s'.ctr = s.ctr ∧ VR ρ v v ∧ Calls P f ⟨args'⟩ w fun e w' => e = .returned v ∧ Below w.heap.size w w') : OrcOK P f p := by
  intro B0 w0 w ρ s s' v args args' h r fr gl ha
  obtain ⟨h1, h2, h3, h4⟩ := H B0 w ρ s s' v args args' h r.mr gl ha
  refine Calls.mono h4 ?_
  rintro e w' ⟨rfl, hb⟩
  have hB : B0 ≤ w.heap.size := Nat.le_trans r.hB r.bel.size
  refine ⟨ρ, v, rfl, ?_, h3, ?_⟩
  · rw [h2]; exact Gr.refl _ _ _
  · rw [h1]; exact ⟨r.mr.belowO hb, r.bel.trans (hb.mono hB), r.hB⟩
/-! Tables. -/
section
variable {P : Program} {ρ : Map} {B0 : Nat} {w : World} {s : St}
theorem tab_run {g n : Nat} {k : List Value → Prog} {res : Value × St} (h : (tabP g n k).run s = some res) (r : MR P ρ B0 s.mem w) (gl : GlOK P ρ) (hg : g < P.globals.size) :
    ∃ vs s1, (k vs).run s1 = some res ∧ s1.mem = s.mem ∧ s1.ctr = s.ctr ∧ ∃ c el fr, w.heap[g]? = some (.cells c el fr) ∧ c.size = n ∧ vs.length = n ∧ ∀ (j : Nat) (v : Value), vs[j]? = some v → ∃ v', c[j]? = some v' ∧ VR ρ v v' := by
  obtain ⟨hd, e1, h⟩ := hd_run h
  obtain ⟨hb, h⟩ := gd_run h
  simp only [Bool.and_eq_true] at hb
  have hn := Nat.eq_of_beq_eq_true hb.2
  obtain ⟨vs, s2, h2, h⟩ := rd_run h
  simp only [St.rd, e1] at h2
  split at h2
  · rename_i vs' hrd
    simp only [Option.some.injEq, Prod.mk.injEq] at h2
    obtain ⟨rfl, rfl⟩ := h2
    obtain ⟨hl, hc⟩ := rdCells_spec _ _ _ _ _ hrd
    obtain ⟨x, c, lo, hi, ex, rr⟩ := r.row _ _ e1
    obtain ⟨x', ex', hB, hsh⟩ := gl g hg
    obtain rfl : x' = x := Option.some.inj (ex'.symm.trans ex)
    have hheap := rr.heap
    rw [hB] at hheap
    have hN := rr.ex hb.1
    refine ⟨vs', _, h, rfl, rfl, c, hd.el, (lo, hi), hheap, by rw [rr.N, hN, hsh, hn]; omega, hl, fun j v hv => ?_⟩
    have hcell := hc j v hv
    obtain ⟨_, y, v', ey, hy, hvr⟩ := r.cell _ _ (0 + j) v e1 hcell
    obtain rfl : y = x' := Option.some.inj (ey.symm.trans ex)
    rw [hB, hsh, cell_of hheap] at hy
    refine ⟨v', ?_, hvr⟩
    rw [← hy]
    congr 1
    omega
  · cases h2
end
structure TabOKx (P : Program) (ρ : Map) (w : World) (N sz : Nat → Nat) (t : Tab) : Prop where
  lt : t.g < P.globals.size
  heap : ∃ c lo hi, w.heap[t.g]? = some (.cells c t.el (lo, hi)) ∧ lo ≤ hi ∧ (∀ i, lo ≤ i → i < hi → False) ∧ c.size = t.cells.length ∧ ∀ (i : Nat) (v : Value), t.cells[i]? = some v → ∃ v', c[i]? = some v' ∧ VR ρ v v'
  n : N t.g = t.cells.length
  el : ∃ i, P.info? t.el = some i ∧ i.size = sz t.g
/-- Tables whose frozen part is empty. -/
theorem MR.tablesX {P : Program} {N sz : Nat → Nat} {px ls : Nat → Option Blk} {w : World} {l : List Tab} (hd : ∀ t ∈ l, ∀ t' ∈ l, t.g = t'.g → t = t') (hok : ∀ t ∈ l, TabOKx P (mapI P.globals.size N sz px ls) w N sz t) (hgs : P.globals.size ≤ w.heap.size)
    (hpx : ∀ k x, px k = some x → x.B < w.heap.size) (hls : ∀ B x, ls B = some x → x.B = B ∧ ∃ c el fr, w.heap[B]? = some (.cells c el fr) ∧ c.toList = x.fc) : MR P (mapI P.globals.size N sz px ls) w.heap.size (layTabs l) w := by
  have hhdr : ∀ k hd, (layTabs l).get k = some (.hdr hd) → ∃ t ∈ l, k = gbase t.g ∧ hd = ⟨t.cells.length, t.el, true, true, true, 0, false, false, []⟩ := by
    intro k hd e
    obtain ⟨t, h1, ⟨h2, h3⟩ | ⟨v, h, _⟩⟩ := layTabs_get e
    · exact ⟨t, h1, h2, by simpa using h3⟩
    · cases h
  have hnobj : ∀ k o, (layTabs l).get k = some o → o.isObj = true → False := by
    intro k o e hi
    obtain ⟨t, h1, ⟨_, h⟩ | ⟨v, h, _⟩⟩ := layTabs_get e <;> subst h <;> simp [Slot.isObj] at hi
  constructor
  · intro k h e
    obtain ⟨t, ht, rfl, rfl⟩ := hhdr k h e
    obtain ⟨hlt, ⟨c, lo, hi, hc, hle, hno, hsz, _⟩, hn, hel⟩ := hok t ht
    exact ⟨_, c, lo, hi, mapI_at hlt, hc, (by rw [hsz, hn]), hel, (by simp [hn]), fun _ => (by simp [hn]), fun _ => rfl, fun h => (by cases h), hle, fun _ i h1 h2 => (hno i h1 h2).elim, fun _ _ i h1 h2 => (hno i h1 h2).elim, (by simp)⟩
  · intro k h o v e e'
    obtain ⟨t, ht, rfl, rfl⟩ := hhdr k h e
    obtain ⟨t', ht', ⟨h1, h2⟩ | ⟨u, h1, h2, h3⟩⟩ := layTabs_get e'
    · cases h2
    · simp only [Slot.cell.injEq] at h1
      obtain ⟨h4, rfl⟩ := h1
      obtain rfl := hd t ht t' ht' (gbase_inj h4)
      rw [show gbase t.g + 1 + o - (gbase t.g + 1) = o from by omega] at h3
      obtain ⟨hlt, ⟨c, lo, hi, hc, hle, hno, hsz, hv⟩, hn, hel⟩ := hok t ht
      obtain ⟨v', e1, e2⟩ := hv o v h3
      refine ⟨(List.getElem?_eq_some_iff.1 h3).1, _, v', mapI_at hlt, ?_, e2⟩
      rw [cell_of hc]
      simpa using e1
  · intro k h k2 h2 x x2 e e2 hne e3 e4 e5
    obtain ⟨t, ht, rfl, rfl⟩ := hhdr k h e
    obtain ⟨t', ht', rfl, rfl⟩ := hhdr k2 h2 e2
    rw [mapI_at (hok t ht).lt] at e3
    rw [mapI_at (hok t' ht').lt] at e4
    obtain rfl := Option.some.inj e3
    obtain rfl := Option.some.inj e4
    simp only at e5
    exact absurd (by rw [e5]) hne
  · intro k h k2 h2 e hm
    obtain ⟨t, ht, rfl, rfl⟩ := hhdr k h e
    simp at hm
  · intro k o e hi; exact (hnobj k o e hi).elim
  · intro k o k2 o2 x x2 e hi; exact (hnobj k o e hi).elim
  · intro j b v e
    obtain ⟨t, ht, ⟨_, h⟩ | ⟨u, h, _⟩⟩ := layTabs_get e
    · cases h
    · simp only [Slot.cell.injEq] at h
      rw [h.1]
      exact ⟨_, mapI_at (hok t ht).lt⟩
  · intro k h b2 e hm
    obtain ⟨t, ht, rfl, rfl⟩ := hhdr k h e
    simp at hm
  · intro k x e
    have e : (if 1 ≤ k ∧ (k - 1) % 65536 = 0 ∧ (k - 1) / 65536 < P.globals.size then some (⟨(k - 1) / 65536, 0, N ((k - 1) / 65536), sz ((k - 1) / 65536), []⟩ : Blk) else px k) = some x := e
    split at e
    · rename_i h
      simp only [Option.some.injEq] at e
      subst e
      exact Nat.lt_of_lt_of_le h.2.2 hgs
    · exact hpx k x e
  · intro B x e
    obtain ⟨h1, h2⟩ := hls B x e
    refine ⟨h1, h2, fun b h y e1 _ _ => ?_⟩
    obtain ⟨t, ht, rfl, rfl⟩ := hhdr b h e1
    rfl
  · exact fun B x e => .inr e
theorem tabQ_run {P : Program} {ρ : Map} {B0 : Nat} {w : World} {s : St} {g n el : Nat} {k : List Value → Prog} {res : Value × St} (h : (tabQ g n el k).run s = some res) (r : MR P ρ B0 s.mem w) (gl : GlOK P ρ) (hg : g < P.globals.size) :
    ∃ vs s1, (k vs).run s1 = some res ∧ s1.mem = s.mem ∧ s1.ctr = s.ctr ∧ ∃ c lo hi, w.heap[g]? = some (.cells c el (lo, hi)) ∧ lo ≤ hi ∧ (∀ i, lo ≤ i → i < hi → False) ∧ c.size = n ∧ vs.length = n ∧ ∀ (j : Nat) (v : Value), vs[j]? = some v → ∃ v', c[j]? = some v' ∧ VR ρ v v' := by
  obtain ⟨hd, e1, h⟩ := hd_run h
  obtain ⟨hb, h⟩ := gd_run h
  simp only [Bool.and_eq_true, Bool.not_eq_true'] at hb
  obtain ⟨b1, b2, b3, b4, b5, b6⟩ := hb
  have hn := Nat.eq_of_beq_eq_true b2
  have hel := Nat.eq_of_beq_eq_true b3
  have hfz := Nat.eq_of_beq_eq_true b6
  obtain ⟨vs, s2, h2, h⟩ := rd_run h
  simp only [St.rd, e1] at h2
  split at h2
  · rename_i vs' hrd
    simp only [Option.some.injEq, Prod.mk.injEq] at h2
    obtain ⟨rfl, rfl⟩ := h2
    obtain ⟨hl, hc⟩ := rdCells_spec _ _ _ _ _ hrd
    obtain ⟨x, c, lo, hi, ex, rr⟩ := r.row _ _ e1
    obtain ⟨x', ex', hB, hsh⟩ := gl g hg
    obtain rfl : x' = x := Option.some.inj (ex'.symm.trans ex)
    have hheap := rr.heap
    rw [hB, hel] at hheap
    have hN := rr.ex b1
    have hsy := rr.sy b4 b5
    rw [hsh, hfz] at hsy
    refine ⟨vs', _, h, rfl, rfl, c, lo, hi, hheap, rr.le, fun i h1 h2 => by have := hsy i h1 h2; omega, by rw [rr.N, hN, hsh, hn]; omega, hl, fun j v hv => ?_⟩
    have hcell := hc j v hv
    obtain ⟨_, y, v', ey, hy, hvr⟩ := r.cell _ _ (0 + j) v e1 hcell
    obtain rfl : y = x' := Option.some.inj (ey.symm.trans ex)
    rw [hB, hsh, cell_of hheap] at hy
    refine ⟨v', ?_, hvr⟩
    rw [← hy]
    congr 1
    omega
  · cases h2
end Go.Ev
