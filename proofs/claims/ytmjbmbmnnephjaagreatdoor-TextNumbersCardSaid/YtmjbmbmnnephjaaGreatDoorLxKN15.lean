/- The oracle of text's live(): a closed run, over the tables as the world has them. -/
import Derived.Test.YtmjbmbmnnephjaaGreatDoorLxKN13
import Derived.Test.YtmjbmbmnnephjaaGreatDoorLxKN8
import Derived.Test.YtmjbmbmnnephjaaGreatDoorLxKN1
import Derived.Test.YtmjbmbmnnephjaaGreatDoorLxKN14
namespace Go.Ev
open Go Go.RowKit
structure TabOKx (P : Program) (ρ : Map) (w : World) (N sz : Nat → Nat) (t : Tab) : Prop where
  lt : t.g < P.globals.size
  heap : ∃ c lo hi, w.heap[t.g]? = some (.cells c t.el (lo, hi)) ∧ lo ≤ hi ∧ (∀ i, lo ≤ i → i < hi → False) ∧ c.size = t.cells.length ∧ ∀ (i : Nat) (v : Value), t.cells[i]? = some v → ∃ v', c[i]? = some v' ∧ VR ρ v v'
  n : N t.g = t.cells.length
  el : ∃ i, P.info? t.el = some i ∧ i.size = sz t.g
/-- Tables whose frozen part is empty. -/
theorem MR.tablesX {P : Program} {N sz : Nat → Nat} {px ls : Nat → Option Blk} {w : World} {l : List Tab} (hd : ∀ t ∈ l, ∀ t' ∈ l, t.g = t'.g → t = t') (hok : ∀ t ∈ l, TabOKx P (mapI P.globals.size N sz px ls) w N sz t) (hgs : P.globals.size ≤ w.heap.size)
    (hpx : ∀ k x, px k = some x → x.B < w.heap.size) (hls : ∀ B x, ls B = some x → x.B = B ∧ ∃ c el fr, w.heap[B]? = some (.cells c el fr) ∧ c.toList = x.fc) : MR P (mapI P.globals.size N sz px ls) w.heap.size (layTabs l) w := by
  have hhdr : ∀ k hd, (layTabs l).get k = some (.hdr hd) → ∃ t ∈ l, k = gbase t.g ∧ hd = ⟨t.cells.length, t.el, true, true, true, 0, false, false, []⟩ := by
    intro k hd e
    obtain ⟨t, h1, ⟨h2, h3⟩ | ⟨v, h, _⟩⟩ := layTabs_get e
    · exact ⟨t, h1, h2, by simpa using h3⟩
    · cases h
  have hnobj : ∀ k o, (layTabs l).get k = some o → o.isObj = true → False := by
    intro k o e hi
    obtain ⟨t, h1, ⟨_, h⟩ | ⟨v, h, _⟩⟩ := layTabs_get e <;> subst h <;> simp [Slot.isObj] at hi
  constructor
  · intro k h e
    obtain ⟨t, ht, rfl, rfl⟩ := hhdr k h e
    obtain ⟨hlt, ⟨c, lo, hi, hc, hle, hno, hsz, _⟩, hn, hel⟩ := hok t ht
    exact ⟨_, c, lo, hi, mapI_at hlt, hc, (by rw [hsz, hn]), hel, (by simp [hn]), fun _ => (by simp [hn]), fun _ => rfl, fun h => (by cases h), hle, fun _ i h1 h2 => (hno i h1 h2).elim, fun _ _ i h1 h2 => (hno i h1 h2).elim, (by simp)⟩
  · intro k h o v e e'
    obtain ⟨t, ht, rfl, rfl⟩ := hhdr k h e
    obtain ⟨t', ht', ⟨h1, h2⟩ | ⟨u, h1, h2, h3⟩⟩ := layTabs_get e'
    · cases h2
    · simp only [Slot.cell.injEq] at h1
      obtain ⟨h4, rfl⟩ := h1
      obtain rfl := hd t ht t' ht' (gbase_inj h4)
      rw [show gbase t.g + 1 + o - (gbase t.g + 1) = o from by omega] at h3
      obtain ⟨hlt, ⟨c, lo, hi, hc, hle, hno, hsz, hv⟩, hn, hel⟩ := hok t ht
      obtain ⟨v', e1, e2⟩ := hv o v h3
      refine ⟨(List.getElem?_eq_some_iff.1 h3).1, _, v', mapI_at hlt, ?_, e2⟩
      rw [cell_of hc]
      simpa using e1
  · intro k h k2 h2 x x2 e e2 hne e3 e4 e5
    obtain ⟨t, ht, rfl, rfl⟩ := hhdr k h e
    obtain ⟨t', ht', rfl, rfl⟩ := hhdr k2 h2 e2
    rw [mapI_at (hok t ht).lt] at e3
    rw [mapI_at (hok t' ht').lt] at e4
    obtain rfl := Option.some.inj e3
    obtain rfl := Option.some.inj e4
    simp only at e5
    exact absurd (by rw [e5]) hne
  · intro k h k2 h2 e hm
    obtain ⟨t, ht, rfl, rfl⟩ := hhdr k h e
    simp at hm
  · intro k o e hi; exact (hnobj k o e hi).elim
  · intro k o k2 o2 x x2 e hi; exact (hnobj k o e hi).elim
  · intro j b v e
    obtain ⟨t, ht, ⟨_, h⟩ | ⟨u, h, _⟩⟩ := layTabs_get e
    · cases h
    · simp only [Slot.cell.injEq] at h
      rw [h.1]
      exact ⟨_, mapI_at (hok t ht).lt⟩
  · intro k h b2 e hm
    obtain ⟨t, ht, rfl, rfl⟩ := hhdr k h e
    simp at hm
  · intro k x e
    have e : (if 1 ≤ k ∧ (k - 1) % 65536 = 0 ∧ (k - 1) / 65536 < P.globals.size then some (⟨(k - 1) / 65536, 0, N ((k - 1) / 65536), sz ((k - 1) / 65536), []⟩ : Blk) else px k) = some x := e
    split at e
    · rename_i h
      simp only [Option.some.injEq] at e
      subst e
      exact Nat.lt_of_lt_of_le h.2.2 hgs
    · exact hpx k x e
  · intro B x e
    obtain ⟨h1, h2⟩ := hls B x e
    refine ⟨h1, h2, fun b h y e1 _ _ => ?_⟩
    obtain ⟨t, ht, rfl, rfl⟩ := hhdr b h e1
    rfl
theorem tabQ_run {P : Program} {ρ : Map} {B0 : Nat} {w : World} {s : St} {g n el : Nat} {k : List Value → Prog} {res : Value × St} (h : (tabQ g n el k).run s = some res) (r : MR P ρ B0 s.mem w) (gl : GlOK P ρ) (hg : g < P.globals.size) :
    ∃ vs s1, (k vs).run s1 = some res ∧ s1.mem = s.mem ∧ s1.ctr = s.ctr ∧ ∃ c lo hi, w.heap[g]? = some (.cells c el (lo, hi)) ∧ lo ≤ hi ∧ (∀ i, lo ≤ i → i < hi → False) ∧ c.size = n ∧ vs.length = n ∧ ∀ (j : Nat) (v : Value), vs[j]? = some v → ∃ v', c[j]? = some v' ∧ VR ρ v v' := by
  obtain ⟨hd, e1, h⟩ := hd_run h
  obtain ⟨hb, h⟩ := gd_run h
  simp only [Bool.and_eq_true, Bool.not_eq_true'] at hb
  obtain ⟨b1, b2, b3, b4, b5, b6⟩ := hb
  have hn := Nat.eq_of_beq_eq_true b2
  have hel := Nat.eq_of_beq_eq_true b3
  have hfz := Nat.eq_of_beq_eq_true b6
  obtain ⟨vs, s2, h2, h⟩ := rd_run h
  simp only [St.rd, e1] at h2
  split at h2
  · rename_i vs' hrd
    simp only [Option.some.injEq, Prod.mk.injEq] at h2
    obtain ⟨rfl, rfl⟩ := h2
    obtain ⟨hl, hc⟩ := rdCells_spec _ _ _ _ _ hrd
    obtain ⟨x, c, lo, hi, ex, rr⟩ := r.row _ _ e1
    obtain ⟨x', ex', hB, hsh⟩ := gl g hg
    obtain rfl : x' = x := Option.some.inj (ex'.symm.trans ex)
    have hheap := rr.heap
    rw [hB, hel] at hheap
    have hN := rr.ex b1
    have hsy := rr.sy b4 b5
    rw [hsh, hfz] at hsy
    refine ⟨vs', _, h, rfl, rfl, c, lo, hi, hheap, rr.le, fun i h1 h2 => by have := hsy i h1 h2; omega, by rw [rr.N, hN, hsh, hn]; omega, hl, fun j v hv => ?_⟩
    have hcell := hc j v hv
    obtain ⟨_, y, v', ey, hy, hvr⟩ := r.cell _ _ (0 + j) v e1 hcell
    obtain rfl : y = x' := Option.some.inj (ey.symm.trans ex)
    rw [hB, hsh, cell_of hheap] at hy
    refine ⟨v', ?_, hvr⟩
    rw [← hy]
    congr 1
    omega
  · cases h2
end Go.Ev
namespace Go.Proofs.YtmjbmbmnnephjaaGreatDoor
open Go Go.Ev Go.Proofs Go.RowKit
theorem pow10L_eq : (Lib.pow10Tab.map fun z => Value.int .u64 z) = pow10L := by kernel_rfl
theorem pow10L_int : ∀ v, v ∈ pow10L → ∃ n, v = .int .u64 n := by
  rw [← pow10L_eq]
  intro v hv
  obtain ⟨z, _, rfl⟩ := List.mem_map.1 hv
  exact ⟨z, rfl⟩
theorem pow10L_len : pow10L.length = 20 := by kernel_rfl
theorem sz176 : ∃ i, Tryz.prog.info? 176 = some i ∧ i.size = 20 := by
  have h : (Tryz.prog.info? 176).map (·.size) = some 20 := by kernel_rfl
  cases hi : Tryz.prog.info? 176 with
  | none => rw [hi] at h; cases h
  | some i => rw [hi] at h; exact ⟨i, rfl, by simpa using h⟩
theorem sz103 : ∃ i, Tryz.prog.info? 103 = some i ∧ i.size = 1 := by
  have h : (Tryz.prog.info? 103).map (·.size) = some 1 := by kernel_rfl
  cases hi : Tryz.prog.info? 103 with
  | none => rw [hi] at h; cases h
  | some i => rw [hi] at h; exact ⟨i, rfl, by simpa using h⟩
theorem gsz8' : 8 ≤ Tryz.prog.globals.size := of_decide_eq_true (by kernel_rfl)
theorem has24 : ∃ fn c, EnL.fn.get 24 = some fn ∧ fn.body = some c := by
  have h : (match EnL.fn.get 24 with | some fn => fn.body.isSome | none => false) = true := by kernel_rfl
  split at h
  · rename_i fn hfn
    obtain ⟨c, hc⟩ := Option.isSome_iff_exists.1 h
    exact ⟨fn, c, hfn, hc⟩
  · cases h
theorem errV_eq {l : List Value} (h : errV l = true) : ∃ u b o, u < 1000000000 ∧ (l = [.iface u (.pointer (some ⟨b, o, none⟩))] ∨ l = [.iface u (.agg ⟨[.pointer (some ⟨b, o, none⟩)]⟩)]) := by
  unfold errV at h
  split at h
  · exact ⟨_, _, _, Nat.le_of_ble_eq_true h, .inl rfl⟩
  · exact ⟨_, _, _, Nat.le_of_ble_eq_true h, .inr rfl⟩
  · cases h
def px4 (x : Blk) (k : Nat) : Option Blk := if k = gbase 100 then some x else none
theorem map_px4 (x : Blk) (N sz : Nat → Nat) (ls : Nat → Option Blk) : mapI Tryz.prog.globals.size N sz (px4 x) ls (gbase 100) = some x := by
  have h : mapI Tryz.prog.globals.size N sz (px4 x) ls (gbase 100) = px4 x (gbase 100) := by
    refine mapI_high ?_
    have h := globals8
    have e1 := gbase_eq Tryz.prog.globals.size
    have e2 := gbase_eq 100
    generalize Tryz.prog.globals.size = ng at *
    omega
  rw [h]
  unfold px4
  rw [if_pos rfl]
theorem orcL24 : EnL.orc 24 = none := by kernel_rfl
theorem orc24 : OrcOK Tryz.prog 24 live4P := by
  intro B0 w0 w ρ s s' v args args' h rr fr gl ha
  cases ha with
  | cons a b => exact (fail_run h).elim
  | nil =>
    have g8 := gsz8'
    obtain ⟨vs, s1, h1, m1, c1, c, lo, hi, p1, p2, p3, p4, p5, p6⟩ := tabQ_run h rr.mr gl (by omega)
    obtain ⟨hvs, h2⟩ := gd_run h1
    have r1 : MR Tryz.prog ρ B0 s1.mem w := by rw [m1]; exact rr.mr
    obtain ⟨es, s2, h3, m2, c2, d, lo', hi', q1, q2, q3, q4, q5, q6⟩ := tabQ_run h2 r1 gl (by omega)
    obtain ⟨hes, h4⟩ := gd_run h3
    obtain ⟨rfl, rfl⟩ := ret_run h4
    have hvs := isTab_eq hvs
    rw [pow10L_eq] at hvs
    subst hvs
    have hgs := gl.size rr.mr
    -- the error's value, with a name of its own
    obtain ⟨u, x, e0, hx, hlt, hv0⟩ : ∃ (u : Nat) (x : Blk) (y : Value), (∃ o' : Nat, y = .pointer (some ⟨gbase 100, o', none⟩) ∨ y = .agg ⟨[.pointer (some ⟨gbase 100, o', none⟩)]⟩) ∧ x.B < w.heap.size ∧
        ∃ v', d[0]? = some v' ∧ ∀ ρ0 : Map, ρ0 (gbase 100) = some x → VR ρ0 (.iface u y) v' := by
      obtain ⟨u, b, o, hul, he⟩ := errV_eq hes
      rcases he with rfl | rfl
      · obtain ⟨v', e1, e2⟩ := q6 0 _ rfl
        cases e2 with
        | iface hu e2 =>
          cases e2 with
          | ptr e3 => exact ⟨u, _, _, ⟨o, .inl rfl⟩, rr.mr.rng _ _ e3, _, e1, fun ρ0 h0 => .iface hu (.ptr h0)⟩
      · obtain ⟨v', e1, e2⟩ := q6 0 _ rfl
        cases e2 with
        | iface hu e2 =>
          cases e2 with
          | agg e2 =>
            cases e2 with
            | cons e2 e4 =>
              cases e4
              cases e2 with
              | ptr e3 => exact ⟨u, _, _, ⟨o, .inr rfl⟩, rr.mr.rng _ _ e3, _, e1, fun ρ0 h0 => .iface hu (.agg (.cons (.ptr h0) .nil))⟩
        | lst => exact absurd hul (by decide)
        | xl => exact absurd hul (by decide)
        | ep => exact absurd hul (by decide)
    obtain ⟨v', hd0, hvr⟩ := hv0
    have hpx := map_px4 x (fun g => if g = 0 then 20 else 1) (fun g => if g = 0 then 20 else 1) (fun _ => none)
    have hf : ∀ k, (live4St (.iface u e0)).ctr ≤ k → mapI Tryz.prog.globals.size (fun g => if g = 0 then 20 else 1) (fun g => if g = 0 then 20 else 1) (px4 x) (fun _ => none) k = none := by
      intro k hk
      have hk : gbase 300 ≤ k := hk
      have e : mapI Tryz.prog.globals.size (fun g => if g = 0 then 20 else 1) (fun g => if g = 0 then 20 else 1) (px4 x) (fun _ => none) k = px4 x k := mapI_high (gb300 _ k globals8 hk)
      rw [e]
      unfold px4
      rw [if_neg]
      intro h
      have e1 := gbase_eq 300
      have e2 := gbase_eq 100
      omega
    have hMR : MR Tryz.prog (mapI Tryz.prog.globals.size (fun g => if g = 0 then 20 else 1) (fun g => if g = 0 then 20 else 1) (px4 x) (fun _ => none)) w.heap.size (layTabs (live4Tabs (.iface u e0))) w := by
      refine MR.tablesX ?_ ?_ hgs ?_ (fun _ _ h => by cases h)
      · intro t ht t' ht' h
        simp only [live4Tabs, List.mem_cons, List.not_mem_nil, or_false] at ht ht'
        rcases ht with rfl | rfl <;> rcases ht' with rfl | rfl
        · rfl
        · exact absurd h (by decide : ¬ (0 : Nat) = 6)
        · exact absurd h (by decide : ¬ (6 : Nat) = 0)
        · rfl
      · intro t ht
        simp only [live4Tabs, List.mem_cons, List.not_mem_nil, or_false] at ht
        rcases ht with rfl | rfl
        · refine ⟨by show 0 < _; omega, ⟨c, lo, hi, p1, p2, p3, by rw [p4]; exact pow10L_len.symm, fun i v hv => ?_⟩, by show 20 = _; exact pow10L_len.symm, sz176⟩
          obtain ⟨n, rfl⟩ := pow10L_int v (List.mem_of_getElem? hv)
          obtain ⟨v', e1, e2⟩ := p6 i _ hv
          cases e2
          exact ⟨_, e1, .int _ _⟩
        · refine ⟨by show 6 < _; omega, ⟨d, lo', hi', q1, q2, q3, q4, fun i v hv => ?_⟩, rfl, sz103⟩
          cases i with
          | zero =>
            simp only [List.getElem?_cons_zero, Option.some.injEq] at hv
            subst hv
            exact ⟨_, hd0, hvr _ hpx⟩
          | succ i => simp at hv
      · intro k y h
        unfold px4 at h
        split at h
        · cases h; exact hlt
        · cases h
    have hrun : Ev.isTrue ((callF EnL (runP EnL 1000) 24 []).run (live4St (.iface u e0))) = true := live4_run u e0
    have hm0 : (live4St (.iface u e0)).mem = layTabs (live4Tabs (.iface u e0)) := by simp only [live4St]
    rw [← hm0] at hMR
    clear hm0
    generalize live4St (.iface u e0) = S at hrun hMR hf
    have hcalls := ev_true (P := Tryz.prog) (E := EnL) (n := 1000) (f := 24) (args := []) (args' := []) (s := S) (w := w) enLOK mixed hrun has24 orcL24 hMR hf mapI_gl .nil
    refine Calls.mono hcalls ?_
    rintro e w' ⟨rfl, hb⟩
    have hB : B0 ≤ w.heap.size := Nat.le_trans rr.hB rr.bel.size
    have hm : s'.mem = s.mem := m2.trans m1
    have hc : s'.ctr = s.ctr := c2.trans c1
    refine ⟨ρ, .bool true, rfl, by rw [hc]; exact Gr.refl _ _ _, .bool true, ?_⟩
    rw [hm]
    exact ⟨rr.mr.below hb, rr.bel.trans (hb.mono hB), rr.hB⟩
end Go.Proofs.YtmjbmbmnnephjaaGreatDoor
