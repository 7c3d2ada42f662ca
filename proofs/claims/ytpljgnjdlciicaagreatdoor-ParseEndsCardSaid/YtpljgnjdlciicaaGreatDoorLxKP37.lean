import Derived.Test.YtpljgnjdlciicaaGreatDoorLxKP32
import Derived.Test.YtpljgnjdlciicaaGreatDoorLxKP33
import Derived.Test.YtpljgnjdlciicaaGreatDoorLxKP35
import Derived.Test.YtpljgnjdlciicaaGreatDoorLxKP36
import Derived.IntWalk
namespace Go.Ev
open Go Go.RowKit
theorem MR.belowO {P : Program} {ρ : Map} {B0 : Nat} {m : Tr Slot} {w w' : World} (r : MR P ρ B0 m w) (h : Below w.heap.size w w') : MR P ρ B0 m w' := by
  have hb : ∀ (k : Nat) (o : Obj), w.heap[k]? = some o → w'.heap[k]? = some o := fun k o e => by
    have hk : k < w.heap.size := (Array.getElem?_eq_some_iff.1 e).1
    rw [h.block k hk, e]
  constructor
  · intro b hd e
    obtain ⟨x, c, lo, hi, e1, y⟩ := r.row b hd e
    exact ⟨x, c, lo, hi, e1, { y with heap := hb _ _ y.heap }⟩
  · intro b hd o v e e'
    obtain ⟨a, x, v', e1, y, z⟩ := r.cell b hd o v e e'
    refine ⟨a, x, v', e1, ?_, z⟩
    have hx := r.rng b x e1
    rw [← y]
    simp only [World.cell?, h.block _ hx]
  · exact r.sep
  · exact r.old
  · intro k o e i
    obtain ⟨x, ob, e1, e0, y, z, u⟩ := r.obj k o e i
    exact ⟨x, ob, e1, e0, y, hb _ _ z, u⟩
  · exact r.osep
  · exact r.dom
  · exact r.odom
  · intro b x e
    exact Nat.lt_of_lt_of_le (r.rng b x e) h.size
  · intro B x e
    obtain ⟨h1, ⟨c, el, fr, h2, h2'⟩, h3⟩ := r.frz B x e
    exact ⟨h1, ⟨c, el, fr, hb _ _ h2, h2'⟩, h3⟩
theorem orc_plain {P : Program} {f : Nat} {p : List Value → Prog} (H : ∀ (B0 : Nat) (w : World) (ρ : Map) (s s' : St) (v : Value) (args args' : List Value), (p args).run s = some (v, s') → MR P ρ B0 s.mem w → GlOK P ρ → VRs ρ args args' →
    s'.mem = s.mem ∧ s'.ctr = s.ctr ∧ VR ρ v v ∧ Calls P f ⟨args'⟩ w fun e w' => e = .returned v ∧ Below w.heap.size w w') : OrcOK P f p := by
  intro B0 w0 w ρ s s' v args args' h r fr gl ha
  obtain ⟨h1, h2, h3, h4⟩ := H B0 w ρ s s' v args args' h r.mr gl ha
  refine Calls.mono h4 ?_
  rintro e w' ⟨rfl, hb⟩
  have hB : B0 ≤ w.heap.size := Nat.le_trans r.hB r.bel.size
  refine ⟨ρ, v, rfl, ?_, h3, ?_⟩
  · rw [h2]; exact Gr.refl _ _ _
  · rw [h1]; exact ⟨r.mr.belowO hb, r.bel.trans (hb.mono hB), r.hB⟩
section
variable {P : Program} {ρ : Map} {B0 : Nat} {w : World} {s : St}
theorem tab_run {g n : Nat} {k : List Value → Prog} {res : Value × St} (h : (tabP g n k).run s = some res) (r : MR P ρ B0 s.mem w) (gl : GlOK P ρ) (hg : g < P.globals.size) :
    ∃ vs s1, (k vs).run s1 = some res ∧ s1.mem = s.mem ∧ s1.ctr = s.ctr ∧ ∃ c el fr, w.heap[g]? = some (.cells c el fr) ∧ c.size = n ∧ vs.length = n ∧ ∀ (j : Nat) (v : Value), vs[j]? = some v → ∃ v', c[j]? = some v' ∧ VR ρ v v' := by
  obtain ⟨hd, e1, h⟩ := hd_run h
  obtain ⟨hb, h⟩ := gd_run h
  simp only [Bool.and_eq_true] at hb
  have hn := Nat.eq_of_beq_eq_true hb.2
  obtain ⟨vs, s2, h2, h⟩ := rd_run h
  simp only [St.rd, e1] at h2
  split at h2
  · rename_i vs' hrd
    simp only [Option.some.injEq, Prod.mk.injEq] at h2
    obtain ⟨rfl, rfl⟩ := h2
    obtain ⟨hl, hc⟩ := rdCells_spec _ _ _ _ _ hrd
    obtain ⟨x, c, lo, hi, ex, rr⟩ := r.row _ _ e1
    obtain ⟨x', ex', hB, hsh⟩ := gl g hg
    obtain rfl : x' = x := Option.some.inj (ex'.symm.trans ex)
    have hheap := rr.heap
    rw [hB] at hheap
    have hN := rr.ex hb.1
    refine ⟨vs', _, h, rfl, rfl, c, hd.el, (lo, hi), hheap, by rw [rr.N, hN, hsh, hn]; omega, hl, fun j v hv => ?_⟩
    have hcell := hc j v hv
    obtain ⟨_, y, v', ey, hy, hvr⟩ := r.cell _ _ (0 + j) v e1 hcell
    obtain rfl : y = x' := Option.some.inj (ey.symm.trans ex)
    rw [hB, hsh, cell_of hheap] at hy
    refine ⟨v', ?_, hvr⟩
    rw [← hy]
    congr 1
    omega
  · cases h2
end
structure TabOKx (P : Program) (ρ : Map) (w : World) (N sz : Nat → Nat) (t : Tab) : Prop where
  lt : t.g < P.globals.size
  heap : ∃ c lo hi, w.heap[t.g]? = some (.cells c t.el (lo, hi)) ∧ lo ≤ hi ∧ (∀ i, lo ≤ i → i < hi → False) ∧ c.size = t.cells.length ∧ ∀ (i : Nat) (v : Value), t.cells[i]? = some v → ∃ v', c[i]? = some v' ∧ VR ρ v v'
  n : N t.g = t.cells.length
  el : ∃ i, P.info? t.el = some i ∧ i.size = sz t.g
theorem MR.tablesX {P : Program} {N sz : Nat → Nat} {px ls : Nat → Option Blk} {w : World} {l : List Tab} (hd : ∀ t ∈ l, ∀ t' ∈ l, t.g = t'.g → t = t') (hok : ∀ t ∈ l, TabOKx P (mapI P.globals.size N sz px ls) w N sz t) (hgs : P.globals.size ≤ w.heap.size)
    (hpx : ∀ k x, px k = some x → x.B < w.heap.size) (hls : ∀ B x, ls B = some x → x.B = B ∧ ∃ c el fr, w.heap[B]? = some (.cells c el fr) ∧ c.toList = x.fc) : MR P (mapI P.globals.size N sz px ls) w.heap.size (layTabs l) w := by
  have hhdr : ∀ k hd, (layTabs l).get k = some (.hdr hd) → ∃ t ∈ l, k = gbase t.g ∧ hd = ⟨t.cells.length, t.el, true, true, true, 0, false, false, []⟩ := by
    intro k hd e
    obtain ⟨t, h1, ⟨h2, h3⟩ | ⟨v, h, _⟩⟩ := layTabs_get e
    · exact ⟨t, h1, h2, by simpa using h3⟩
    · cases h
  have hnobj : ∀ k o, (layTabs l).get k = some o → o.isObj = true → False := by
    intro k o e hi
    obtain ⟨t, h1, ⟨_, h⟩ | ⟨v, h, _⟩⟩ := layTabs_get e <;> subst h <;> simp [Slot.isObj] at hi
  constructor
  · intro k h e
    obtain ⟨t, ht, rfl, rfl⟩ := hhdr k h e
    obtain ⟨hlt, ⟨c, lo, hi, hc, hle, hno, hsz, _⟩, hn, hel⟩ := hok t ht
    exact ⟨_, c, lo, hi, mapI_at hlt, hc, (by rw [hsz, hn]), hel, (by simp [hn]), fun _ => (by simp [hn]), fun _ => rfl, fun h => (by cases h), hle, fun _ i h1 h2 => (hno i h1 h2).elim, fun _ _ i h1 h2 => (hno i h1 h2).elim, (by simp)⟩
  · intro k h o v e e'
    obtain ⟨t, ht, rfl, rfl⟩ := hhdr k h e
    obtain ⟨t', ht', ⟨h1, h2⟩ | ⟨u, h1, h2, h3⟩⟩ := layTabs_get e'
    · cases h2
    · simp only [Slot.cell.injEq] at h1
      obtain ⟨h4, rfl⟩ := h1
      obtain rfl := hd t ht t' ht' (gbase_inj h4)
      rw [show gbase t.g + 1 + o - (gbase t.g + 1) = o from by omega] at h3
      obtain ⟨hlt, ⟨c, lo, hi, hc, hle, hno, hsz, hv⟩, hn, hel⟩ := hok t ht
      obtain ⟨v', e1, e2⟩ := hv o v h3
      refine ⟨(List.getElem?_eq_some_iff.1 h3).1, _, v', mapI_at hlt, ?_, e2⟩
      rw [cell_of hc]
      simpa using e1
  · intro k h k2 h2 x x2 e e2 hne e3 e4 e5
    obtain ⟨t, ht, rfl, rfl⟩ := hhdr k h e
    obtain ⟨t', ht', rfl, rfl⟩ := hhdr k2 h2 e2
    rw [mapI_at (hok t ht).lt] at e3
    rw [mapI_at (hok t' ht').lt] at e4
    obtain rfl := Option.some.inj e3
    obtain rfl := Option.some.inj e4
    simp only at e5
    exact absurd (by rw [e5]) hne
  · intro k h k2 h2 e hm
    obtain ⟨t, ht, rfl, rfl⟩ := hhdr k h e
    simp at hm
  · intro k o e hi; exact (hnobj k o e hi).elim
  · intro k o k2 o2 x x2 e hi; exact (hnobj k o e hi).elim
  · intro j b v e
    obtain ⟨t, ht, ⟨_, h⟩ | ⟨u, h, _⟩⟩ := layTabs_get e
    · cases h
    · simp only [Slot.cell.injEq] at h
      rw [h.1]
      exact ⟨_, mapI_at (hok t ht).lt⟩
  · intro k h b2 e hm
    obtain ⟨t, ht, rfl, rfl⟩ := hhdr k h e
    simp at hm
  · intro k x e
    have e : (if 1 ≤ k ∧ (k - 1) % 65536 = 0 ∧ (k - 1) / 65536 < P.globals.size then some (⟨(k - 1) / 65536, 0, N ((k - 1) / 65536), sz ((k - 1) / 65536), []⟩ : Blk) else px k) = some x := e
    split at e
    · rename_i h
      simp only [Option.some.injEq] at e
      subst e
      exact Nat.lt_of_lt_of_le h.2.2 hgs
    · exact hpx k x e
  · intro B x e
    obtain ⟨h1, h2⟩ := hls B x e
    refine ⟨h1, h2, fun b h y e1 _ _ => ?_⟩
    obtain ⟨t, ht, rfl, rfl⟩ := hhdr b h e1
    rfl
theorem tabQ_run {P : Program} {ρ : Map} {B0 : Nat} {w : World} {s : St} {g n el : Nat} {k : List Value → Prog} {res : Value × St} (h : (tabQ g n el k).run s = some res) (r : MR P ρ B0 s.mem w) (gl : GlOK P ρ) (hg : g < P.globals.size) :
    ∃ vs s1, (k vs).run s1 = some res ∧ s1.mem = s.mem ∧ s1.ctr = s.ctr ∧ ∃ c lo hi, w.heap[g]? = some (.cells c el (lo, hi)) ∧ lo ≤ hi ∧ (∀ i, lo ≤ i → i < hi → False) ∧ c.size = n ∧ vs.length = n ∧ ∀ (j : Nat) (v : Value), vs[j]? = some v → ∃ v', c[j]? = some v' ∧ VR ρ v v' := by
  obtain ⟨hd, e1, h⟩ := hd_run h
  obtain ⟨hb, h⟩ := gd_run h
  simp only [Bool.and_eq_true, Bool.not_eq_true'] at hb
  obtain ⟨b1, b2, b3, b4, b5, b6⟩ := hb
  have hn := Nat.eq_of_beq_eq_true b2
  have hel := Nat.eq_of_beq_eq_true b3
  have hfz := Nat.eq_of_beq_eq_true b6
  obtain ⟨vs, s2, h2, h⟩ := rd_run h
  simp only [St.rd, e1] at h2
  split at h2
  · rename_i vs' hrd
    simp only [Option.some.injEq, Prod.mk.injEq] at h2
    obtain ⟨rfl, rfl⟩ := h2
    obtain ⟨hl, hc⟩ := rdCells_spec _ _ _ _ _ hrd
    obtain ⟨x, c, lo, hi, ex, rr⟩ := r.row _ _ e1
    obtain ⟨x', ex', hB, hsh⟩ := gl g hg
    obtain rfl : x' = x := Option.some.inj (ex'.symm.trans ex)
    have hheap := rr.heap
    rw [hB, hel] at hheap
    have hN := rr.ex b1
    have hsy := rr.sy b4 b5
    rw [hsh, hfz] at hsy
    refine ⟨vs', _, h, rfl, rfl, c, lo, hi, hheap, rr.le, fun i h1 h2 => by have := hsy i h1 h2; omega, by rw [rr.N, hN, hsh, hn]; omega, hl, fun j v hv => ?_⟩
    have hcell := hc j v hv
    obtain ⟨_, y, v', ey, hy, hvr⟩ := r.cell _ _ (0 + j) v e1 hcell
    obtain rfl : y = x' := Option.some.inj (ey.symm.trans ex)
    rw [hB, hsh, cell_of hheap] at hy
    refine ⟨v', ?_, hvr⟩
    rw [← hy]
    congr 1
    omega
  · cases h2
end Go.Ev
namespace Go.Ev
open Go
def Ok (p : Nat → Prog) (s : St) (Q : Value → St → Prop) : Prop := ∃ v s', Q v s' ∧ ∃ f0, ∀ f, f0 ≤ f → (p f).run s = some (v, s')
section
variable {s : St} {Q Q1 : Value → St → Prop} {p q : Nat → Prog} {b : Bool} {v : Value}
theorem Ok.ret (h : Q v s) : Ok (fun _ => .ret v) s Q := ⟨v, s, h, 0, fun _ _ => rfl⟩
theorem Ok.t (hb : b = true) (h : Ok p s Q) : Ok (fun f => cnd (p f) (q f) b) s Q := by subst hb; exact h
theorem Ok.f (hb : b = false) (h : Ok q s Q) : Ok (fun f => cnd (p f) (q f) b) s Q := by subst hb; exact h
theorem Ok.c (ht : b = true → Ok p s Q) (hf : b = false → Ok q s Q) : Ok (fun f => cnd (p f) (q f) b) s Q := by
  cases b with
  | true => exact ht rfl
  | false => exact hf rfl
theorem Ok.g (hb : b = true) (h : Ok p s Q) : Ok (fun f => gd b (p f)) s Q := by subst hb; exact h
theorem Ok.mono (h : Ok p s Q1) (hq : ∀ v s', Q1 v s' → Q v s') : Ok p s Q := by
  obtain ⟨v, s', h1, h2⟩ := h
  exact ⟨v, s', hq v s' h1, h2⟩
theorem Ok.step {P T : Nat → Prog} (e : ∀ f, P (f + 1) = T f) (h : Ok T s Q) : Ok P s Q := by
  obtain ⟨v, s', h1, f0, h2⟩ := h
  refine ⟨v, s', h1, f0 + 1, fun f hf => ?_⟩
  cases f with
  | zero => omega
  | succ f => rw [e]; exact h2 f (by omega)
theorem Ok.callE {p : Prog} {k : Value → Prog} {s1 : St} {r : Option (Value × St)} (h : p.run s = some (v, s1)) (e : (k v).run s1 = r) : (Prog.call p k).run s = r := by
  simp only [Prog.run, h]; exact e
theorem Ok.call {k : Nat → Value → Prog} (h : Ok p s Q1) (hk : ∀ v s1, Q1 v s1 → Ok (fun f => k f v) s1 Q) : Ok (fun f => .call (p f) (k f)) s Q := by
  obtain ⟨v, s1, h1, f1, h2⟩ := h
  obtain ⟨w, s2, h3, f2, h4⟩ := hk v s1 h1
  refine ⟨w, s2, h3, f1 + f2, fun f hf => ?_⟩
  exact Ok.callE (h2 f (by omega)) (h4 f (by omega))
theorem Ok.callP {k : Nat → Value → Prog} (h : Ok p s Q1) (hk : ∀ v s1, Q1 v s1 → Ok (fun f => k f v) s1 Q) : Ok (fun f => Ev.callP (k f) (p f)) s Q := by
  obtain ⟨v, s', h1, f0, h2⟩ := Ok.call h hk
  exact ⟨v, s', h1, f0, fun f hf => (callP_eq (k f) s (p f)).trans (h2 f hf)⟩
theorem Ok.seg {k : Nat → Value → List Acc → Nat → Prog} {Q1 : Value → St → Prop} (h : Ok p ⟨s.mem, s.ctr, []⟩ Q1)
    (hk : ∀ v s1, Q1 v s1 → Ok (fun f => k f v s1.log s1.ctr) ⟨s1.mem, s1.ctr, s1.log ++ s.log⟩ Q) : Ok (fun f => .seg (p f) (k f)) s Q := by
  obtain ⟨v, s1, h1, f1, h2⟩ := h
  obtain ⟨w, s2, h3, f2, h4⟩ := hk v s1 h1
  refine ⟨w, s2, h3, f1 + f2, fun f hf => ?_⟩
  obtain ⟨m, c, l⟩ := s
  obtain ⟨m1, c1, l1⟩ := s1
  have e1 := h2 f (by omega)
  have e2 := h4 f (by omega)
  simp only [Prog.run]
  simp only at e1 e2
  rw [e1]
  exact e2
theorem Ok.gdL {mask : Nat} {ws all : List Acc} {done : List Done} (hf : freeL mask ws all done = true) (h : Ok p s Q) : Ok (fun f => Ev.gdL mask ws all done (p f)) s Q := by
  cases done with
  | nil => exact h
  | cons d ds => exact Ok.g hf h
theorem Ok.opt {α : Type} {x : Option α} {a : α} {k : Nat → α → Prog} (hx : x = some a) (h : Ok (fun f => k f a) s Q) : Ok (fun f => Ev.opt x (k f)) s Q := by subst hx; exact h
end
end Go.Ev
namespace Go.Ev
open Go
def Cell (m : Tr Slot) (b o : Nat) (v : Value) : Prop := (∃ h, m.get b = some (.hdr h)) ∧ m.get (b + 1 + o) = some (.cell b v)
def scal (E : Env) (t : TypeId) : Bool := match E.und t with
  | some d => !isAggD d
  | none => false
def Reads (s s' : St) : Prop := s'.mem = s.mem ∧ s'.ctr = s.ctr ∧ ∃ l, s'.log = l ++ s.log ∧ writesOf l = []
theorem Reads.refl (s : St) : Reads s s := ⟨rfl, rfl, [], rfl, rfl⟩
theorem writesOf_append : ∀ (a b : List Acc), writesOf (a ++ b) = writesOf a ++ writesOf b
  | [], _ => rfl
  | x :: a, b => by
    simp only [List.cons_append, writesOf, writesOf_append a b]
    split <;> rfl
theorem Reads.trans {s s1 s2 : St} (h : Reads s s1) (g : Reads s1 s2) : Reads s s2 := by
  obtain ⟨e1, e2, l, e3, e4⟩ := h
  obtain ⟨g1, g2, k, g3, g4⟩ := g
  exact ⟨g1.trans e1, g2.trans e2, k ++ l, by rw [g3, e3, List.append_assoc], by rw [writesOf_append, e4, g4]; rfl⟩
theorem rd1 {s : St} {b o : Nat} {v : Value} (h : Cell s.mem b o v) : s.rd b 1 o = some ([v], ⟨s.mem, s.ctr, ⟨false, b + 1 + o, 1⟩ :: ⟨false, b, 1⟩ :: s.log⟩) := by
  obtain ⟨m, c, l⟩ := s
  obtain ⟨⟨hd, h1⟩, h2⟩ := h
  simp only at h1 h2
  simp only [St.rd, h1, rdCells, Nat.add_eq, h2, Nat.beq_refl]
theorem Ok.load1 {E : Env} {t b o : Nat} {v : Value} {s : St} (hs : scal E t = true) (h : Cell s.mem b o v) : Ok (fun _ => loadT E t b o) s (fun w s' => w = v ∧ s'.mem = s.mem ∧ s'.ctr = s.ctr ∧ s'.log = ⟨false, b + 1 + o, 1⟩ :: ⟨false, b, 1⟩ :: s.log) := by
  refine ⟨v, ⟨s.mem, s.ctr, ⟨false, b + 1 + o, 1⟩ :: ⟨false, b, 1⟩ :: s.log⟩, ⟨rfl, rfl, rfl, rfl⟩, 0, fun _ _ => ?_⟩
  unfold scal at hs
  unfold loadT
  cases hu : E.und t with
  | none => rw [hu] at hs; cases hs
  | some d =>
    rw [hu] at hs
    have hd : isAggD d = false := by simpa using hs
    simp only [hd, Prog.run, rd1 h]
theorem Ok.segLoad {E : Env} {t b o : Nat} {v : Value} {s : St} {Q : Value → St → Prop} {k : Nat → Value → List Acc → Nat → Prog} (hs : scal E t = true) (h : Cell s.mem b o v)
    (hk : ∀ s1, Reads s s1 → Ok (fun f => k f v [⟨false, b + 1 + o, 1⟩, ⟨false, b, 1⟩] s.ctr) s1 Q) : Ok (fun f => .seg (loadT E t b o) (k f)) s Q := by
  refine Ok.seg (Ok.load1 (s := ⟨s.mem, s.ctr, []⟩) hs h) ?_
  rintro w s1 ⟨rfl, e1, e2, e3⟩
  simp only at e1 e2 e3
  rw [e3, e1, e2]
  exact hk _ ⟨rfl, rfl, [⟨false, b + 1 + o, 1⟩, ⟨false, b, 1⟩], rfl, rfl⟩
theorem Cell.reads {s s1 : St} {b o : Nat} {v : Value} (h : Cell s.mem b o v) (r : Reads s s1) : Cell s1.mem b o v := by rw [r.1]; exact h
end Go.Ev
namespace Go.Ev
open Go
def Free (m : Tr Slot) (b n : Nat) : Prop := ∃ el ex z sy, m.get b = some (.hdr ⟨n, el, false, ex, z, 0, sy, false, []⟩)
theorem wr1 {s : St} {b o n : Nat} {v : Value} (h : Free s.mem b n) (ho : o < n) (hv : oneC v = true) :
    s.wr b o [v] = some ⟨s.mem.set (b + 1 + o) (some (.cell b v)), s.ctr, ⟨true, b + 1 + o, 1⟩ :: ⟨false, b, 1⟩ :: s.log⟩ := by
  obtain ⟨m, c, l⟩ := s
  obtain ⟨el, ex, z, sy, h⟩ := h
  simp only at h
  have hb : Nat.ble (o + 1) n = true := Nat.ble_eq_true_of_le ho
  have h0 : Nat.ble 0 o = true := Nat.ble_eq_true_of_le (Nat.zero_le o)
  simp [St.wr, h, hv, layCells, hb, h0]
theorem Ok.store1 {E : Env} {t b o n : Nat} {v : Value} {s : St} (hs : E.size t = some 1) (hc : cellsL v = [v]) (h : Free s.mem b n) (ho : o < n) (hv : oneC v = true) :
    Ok (fun _ => storeT E t b o v) s (fun w s' => w = U ∧ s' = ⟨s.mem.set (b + 1 + o) (some (.cell b v)), s.ctr, ⟨true, b + 1 + o, 1⟩ :: ⟨false, b, 1⟩ :: s.log⟩) := by
  refine ⟨U, _, ⟨rfl, rfl⟩, 0, fun _ _ => ?_⟩
  simp only [storeT, hs, Ev.opt, hc, gd, List.length_cons, List.length_nil, Nat.zero_add, Nat.beq_refl, Prog.run, wr1 h ho hv]
end Go.Ev
namespace Go.Ev
open Go
def CellsAt (m : Tr Slot) (b : Nat) : Nat → List Value → Prop
  | _, [] => True
  | k, v :: vs => m.get k = some (.cell b v) ∧ CellsAt m b (k + 1) vs
theorem CellsAt.congr {m m' : Tr Slot} {b : Nat} : ∀ {vs : List Value} {k : Nat}, CellsAt m b k vs → (∀ j, k ≤ j → j < k + vs.length → m'.get j = m.get j) → CellsAt m' b k vs
  | [], _, _, _ => trivial
  | v :: vs, k, h, e => by
    refine ⟨?_, CellsAt.congr h.2 fun j h1 h2 => e j (by omega) (by simp only [List.length_cons]; omega)⟩
    rw [e k (Nat.le_refl k) (by simp only [List.length_cons]; omega)]
    exact h.1
theorem CellsAt.rd {m : Tr Slot} {b : Nat} : ∀ {vs : List Value} {o : Nat}, CellsAt m b (b + 1 + o) vs → rdCells m b vs.length o = some vs
  | [], _, _ => rfl
  | v :: vs, o, h => by
    have h2 : CellsAt m b (b + 1 + (o + 1)) vs := h.2
    simp only [List.length_cons, rdCells, Nat.add_eq, h.1, Nat.beq_refl, CellsAt.rd h2]
theorem CellsAt.append {m : Tr Slot} {b : Nat} : ∀ {xs ys : List Value} {k : Nat}, CellsAt m b k xs → CellsAt m b (k + xs.length) ys → CellsAt m b k (xs ++ ys)
  | [], ys, k, _, h => by simpa using h
  | a :: xs, ys, k, h, g => by
    refine ⟨h.1, CellsAt.append h.2 ?_⟩
    rw [show k + 1 + xs.length = k + (a :: xs).length by simp only [List.length_cons]; omega]
    exact g
theorem lay_below (b : Nat) : ∀ (vs : List Value) (k : Nat) (m : Tr Slot) (j : Nat), (j < k ∨ k + vs.length ≤ j) → (layCells b vs k m).get j = m.get j
  | [], _, _, _, _ => rfl
  | v :: vs, k, m, j, h => by
    simp only [List.length_cons] at h
    simp only [layCells, Nat.add_eq]
    rw [lay_below b vs (k + 1) _ j (by omega), Tr.get_set, if_neg (by omega)]
theorem CellsAt.lay {b : Nat} : ∀ (vs : List Value) (k : Nat) (m : Tr Slot), CellsAt (layCells b vs k m) b k vs
  | [], _, _ => trivial
  | v :: vs, k, m => by
    simp only [layCells, Nat.add_eq]
    refine ⟨?_, CellsAt.lay vs (k + 1) _⟩
    rw [lay_below b vs (k + 1) _ k (by omega), Tr.get_set, if_pos rfl]
theorem CellsAt.get {m : Tr Slot} {b : Nat} : ∀ {vs : List Value} {k : Nat} (i : Nat) (v : Value), CellsAt m b k vs → vs[i]? = some v → m.get (k + i) = some (.cell b v)
  | [], _, _, _, _, e => by simp at e
  | x :: vs, k, 0, v, h, e => by
    simp only [List.getElem?_cons_zero, Option.some.injEq] at e
    subst e
    exact h.1
  | x :: vs, k, i + 1, v, h, e => by
    simp only [List.getElem?_cons_succ] at e
    have := CellsAt.get i v h.2 e
    rw [show k + (i + 1) = k + 1 + i by omega]
    exact this
theorem CellsAt.cell {m : Tr Slot} {b n : Nat} {vs : List Value} (i : Nat) {v : Value} (f : Free m b n) (h : CellsAt m b (b + 1) vs) (e : vs[i]? = some v) : Cell m b i v := by
  obtain ⟨el, ex, z, sy, hf⟩ := f
  exact ⟨⟨_, hf⟩, CellsAt.get i v h e⟩
theorem CellsAt.set {m : Tr Slot} {b : Nat} : ∀ {vs : List Value} {k : Nat} (i : Nat) (v : Value), CellsAt m b k vs → CellsAt (m.set (k + i) (some (.cell b v))) b k (vs.set i v)
  | [], _, _, _, _ => trivial
  | x :: vs, k, 0, v, h => by
    simp only [List.set_cons_zero]
    refine ⟨by rw [Nat.add_zero, Tr.get_set, if_pos rfl], CellsAt.congr h.2 fun j h1 h2 => by rw [Tr.get_set, if_neg (by omega)]⟩
  | x :: vs, k, i + 1, v, h => by
    simp only [List.set_cons_succ]
    refine ⟨by rw [Tr.get_set, if_neg (by omega)]; exact h.1, ?_⟩
    rw [show k + (i + 1) = k + 1 + i by omega]
    exact CellsAt.set i v h.2
theorem Free.congr {m m' : Tr Slot} {b n : Nat} (h : Free m b n) (e : m'.get b = m.get b) : Free m' b n := by
  obtain ⟨el, ex, z, sy, hf⟩ := h
  exact ⟨el, ex, z, sy, e.trans hf⟩
def Row (m : Tr Slot) (b : Nat) (vs : List Value) : Prop := Free m b vs.length ∧ CellsAt m b (b + 1) vs
theorem Row.congr {m m' : Tr Slot} {b : Nat} {vs : List Value} (h : Row m b vs) (e : ∀ j, b ≤ j → j < b + 1 + vs.length → m'.get j = m.get j) : Row m' b vs :=
  ⟨h.1.congr (e b (Nat.le_refl b) (by omega)), h.2.congr fun j h1 h2 => e j (by omega) h2⟩
theorem Row.cell {m : Tr Slot} {b : Nat} {vs : List Value} (i : Nat) {v : Value} (h : Row m b vs) (e : vs[i]? = some v) : Cell m b i v := CellsAt.cell i h.1 h.2 e
theorem Row.set {m : Tr Slot} {b : Nat} {vs : List Value} (i : Nat) (v : Value) (h : Row m b vs) : Row (m.set (b + 1 + i) (some (.cell b v))) b (vs.set i v) := by
  refine ⟨?_, CellsAt.set i v h.2⟩
  rw [List.length_set]
  exact h.1.congr (by rw [Tr.get_set, if_neg (by omega)])
theorem Ok.new {n el : Nat} {ex z sy : Bool} {vs : List Value} {g : Nat → Value} {s : St} (hn : vs.length = n) :
    Ok (fun _ => Prog.newH (Hdr.mk n el false ex z 0 sy false []) vs (fun k => Prog.ret (g k))) s
      (fun v s' => v = g s.ctr ∧ s'.ctr = s.ctr + n + 1 ∧ Row s'.mem s.ctr vs ∧ ∀ k, k < s.ctr → s'.mem.get k = s.mem.get k) := by
  obtain ⟨m, c, l⟩ := s
  subst hn
  have e : Nat.ble vs.length vs.length = true := Nat.ble_eq_true_of_le (Nat.le_refl _)
  refine ⟨g c, ⟨layCells c vs (c + 1) (m.set c (some (.hdr (Hdr.mk vs.length el false ex z 0 sy false [])))), c + vs.length + 1, ⟨true, c, vs.length + 1⟩ :: l⟩, ⟨rfl, rfl, ⟨⟨el, ex, z, sy, ?_⟩, CellsAt.lay _ _ _⟩, fun k hk => ?_⟩, 0, fun _ _ => ?_⟩
  · simp only
    rw [lay_below _ _ _ _ _ (by omega), Tr.get_set, if_pos rfl]
  · simp only at hk ⊢
    rw [lay_below _ _ _ _ _ (by omega), Tr.get_set, if_neg (by omega)]
  · simp only [Prog.run, e, St.newH, Nat.add_eq]
def aggr (E : Env) (t : TypeId) : Bool := match E.und t with
  | some d => isAggD d
  | none => false
theorem Ok.loadA {E : Env} {t b o n : Nat} {vs : List Value} {s : St} (ha : aggr E t = true) (hs : E.size t = some n) (hn : vs.length = n) (hh : ∃ h, s.mem.get b = some (.hdr h)) (h : CellsAt s.mem b (b + 1 + o) vs) :
    Ok (fun _ => loadT E t b o) s (fun w s' => w = .agg ⟨vs⟩ ∧ s'.mem = s.mem ∧ s'.ctr = s.ctr ∧ s'.log = ⟨false, b + 1 + o, n⟩ :: ⟨false, b, 1⟩ :: s.log) := by
  obtain ⟨m, c, l⟩ := s
  obtain ⟨hd, h1⟩ := hh
  simp only at h1 h
  subst hn
  refine ⟨_, ⟨m, c, ⟨false, b + 1 + o, vs.length⟩ :: ⟨false, b, 1⟩ :: l⟩, ⟨rfl, rfl, rfl, rfl⟩, 0, fun _ _ => ?_⟩
  unfold aggr at ha
  unfold loadT
  cases hu : E.und t with
  | none => rw [hu] at ha; cases ha
  | some d =>
    rw [hu] at ha
    simp only [ha, hs, Ev.opt, Prog.run, St.rd, h1, h.rd, Nat.add_eq]
theorem Ok.segLoadA {E : Env} {t b o n : Nat} {vs : List Value} {s : St} {Q : Value → St → Prop} {k : Nat → Value → List Acc → Nat → Prog} (ha : aggr E t = true) (hs : E.size t = some n) (hn : vs.length = n) (hh : ∃ h, s.mem.get b = some (.hdr h)) (h : CellsAt s.mem b (b + 1 + o) vs)
    (hk : ∀ s1, Reads s s1 → Ok (fun f => k f (.agg ⟨vs⟩) [⟨false, b + 1 + o, n⟩, ⟨false, b, 1⟩] s.ctr) s1 Q) : Ok (fun f => .seg (loadT E t b o) (k f)) s Q := by
  refine Ok.seg (Ok.loadA (s := ⟨s.mem, s.ctr, []⟩) ha hs hn hh h) ?_
  rintro w s1 ⟨rfl, e1, e2, e3⟩
  simp only at e1 e2 e3
  rw [e3, e1, e2]
  exact hk _ ⟨rfl, rfl, [⟨false, b + 1 + o, n⟩, ⟨false, b, 1⟩], rfl, rfl⟩
theorem Ok.storeRow {E : Env} {t b n : Nat} {vs ws : List Value} {s : St} (hs : E.size t = some n) (h : Row s.mem b vs) (hn : vs.length = n) (hw : ws.length = n) (hv : ws.all oneC = true) :
    Ok (fun _ => storeT E t b 0 (.agg ⟨ws⟩)) s (fun w s' => w = U ∧ s'.ctr = s.ctr ∧ Row s'.mem b ws ∧ ∀ k, (k ≤ b ∨ b + 1 + n ≤ k) → s'.mem.get k = s.mem.get k) := by
  obtain ⟨m, c, l⟩ := s
  obtain ⟨⟨el, ex, z, sy, hf⟩, hc⟩ := h
  simp only at hf hc
  have hb : Nat.ble (0 + ws.length) vs.length = true := Nat.ble_eq_true_of_le (by omega)
  have h0 : Nat.ble 0 0 = true := rfl
  have ec : cellsL (.agg ⟨ws⟩) = ws := rfl
  refine ⟨U, ⟨layCells b ws (b + 1 + 0) m, c, ⟨true, b + 1 + 0, ws.length⟩ :: ⟨false, b, 1⟩ :: l⟩, ⟨rfl, rfl, ⟨⟨el, ex, z, sy, ?_⟩, CellsAt.lay _ _ _⟩, fun k hk => ?_⟩, 0, fun _ _ => ?_⟩
  · simp only
    rw [lay_below _ _ _ _ _ (by omega), hf, hw, hn]
  · simp only
    rw [lay_below _ _ _ _ _ (by omega)]
  · simp only [storeT, hs, Ev.opt, ec, gd, hw, Nat.beq_refl, Prog.run, St.wr, hf, Bool.false_or, h0, hv, Bool.not_true, Nat.add_eq]
    rw [← hn, hn] at *
    simp only [hw] at hb
    simp only [hb, Bool.not_true]
theorem Ok.storeCell {E : Env} {t b o : Nat} {v : Value} {vs : List Value} {s : St} (hs : E.size t = some 1) (hc : cellsL v = [v]) (h : Row s.mem b vs) (ho : o < vs.length) (hv : oneC v = true) :
    Ok (fun _ => storeT E t b o v) s (fun w s' => w = U ∧ s'.ctr = s.ctr ∧ Row s'.mem b (vs.set o v) ∧ ∀ k, k ≠ b + 1 + o → s'.mem.get k = s.mem.get k) := by
  refine Ok.mono (Ok.store1 hs hc h.1 ho hv) ?_
  rintro w s' ⟨rfl, rfl⟩
  refine ⟨rfl, rfl, h.set o v, fun k hk => ?_⟩
  simp only
  rw [Tr.get_set, if_neg hk]
def Grow (m : Tr Slot) (lo hi el sz : Nat) (cs : List Value) (v : Value) : Prop :=
  cs.all oneC = true ∧ ((v = .slice none 0 0 ∧ cs = []) ∨
  ∃ r n sy olds, v = .slice (some ⟨r, 0, none⟩) n (capOf n false) ∧ cs.length = n * sz ∧ lo ≤ r ∧ r + 1 + cs.length ≤ hi ∧ (∀ k, k ∈ olds → lo ≤ k ∧ k < r) ∧
    m.get r = some (.hdr ⟨cs.length, el, false, false, true, 0, sy, false, olds⟩) ∧ CellsAt m r (r + 1) cs)
theorem Grow.nil (m : Tr Slot) (lo hi el sz : Nat) : Grow m lo hi el sz [] (.slice none 0 0) := ⟨rfl, .inl ⟨rfl, rfl⟩⟩
theorem Grow.congr {m m' : Tr Slot} {lo hi hi' el sz : Nat} {cs : List Value} {v : Value} (h : Grow m lo hi el sz cs v) (hh : hi ≤ hi') (e : ∀ j, lo ≤ j → j < hi → m'.get j = m.get j) : Grow m' lo hi' el sz cs v := by
  obtain ⟨h1, h2⟩ := h
  refine ⟨h1, ?_⟩
  rcases h2 with h2 | ⟨r, n, sy, olds, a1, a2, a3, a4, a5, a6, a7⟩
  · exact .inl h2
  · refine .inr ⟨r, n, sy, olds, a1, a2, a3, by omega, a5, ?_, a7.congr fun j b1 b2 => e j (by omega) (by omega)⟩
    rw [e r a3 (by omega)]
    exact a6
theorem Grow.one {m : Tr Slot} {lo hi el sz : Nat} {cs : List Value} {v : Value} (h : Grow m lo hi el sz cs v) : oneC v = true ∧ cellsL v = [v] := by
  rcases h.2 with ⟨rfl, _⟩ | ⟨r, n, sy, olds, rfl, _⟩
  · exact ⟨rfl, rfl⟩
  · exact ⟨rfl, rfl⟩
theorem Grow.len {m : Tr Slot} {lo hi el sz : Nat} {cs : List Value} {v : Value} (h : Grow m lo hi el sz cs v) (n : Nat) (hz : 0 < sz) (hn : cs.length = n * sz) : ∃ a c, v = .slice a n c := by
  rcases h.2 with ⟨rfl, rfl⟩ | ⟨r, n', sy, olds, rfl, h2, _⟩
  · refine ⟨none, 0, ?_⟩
    have : n = 0 := by
      cases n with
      | zero => rfl
      | succ n =>
        rw [Nat.succ_mul, List.length_nil] at hn
        omega
    rw [this]
  · have : n' = n := Nat.eq_of_mul_eq_mul_right hz (h2.symm.trans hn)
    exact ⟨_, _, by rw [this]⟩
def AppT (E : Env) (t el sz by_ : Nat) : Prop := E.und t = some (.slice el) ∧ E.size el = some sz ∧ E.bytes el = some by_ ∧ (E.zero el).isSome = true ∧ 0 < sz
theorem all_append {α : Type} (f : α → Bool) (a b : List α) (h : a.all f = true) (g : b.all f = true) : (a ++ b).all f = true := by
  rw [List.all_append, h, g]; rfl
theorem Ok.app {E : Env} {t el sz by_ lo : Nat} {cs : List Value} {v e : Value} {s : St} (ht : AppT E t el sz by_) (h : Grow s.mem lo s.ctr el sz cs v) (he : (cellsL e).length = sz) (he1 : (cellsL e).all oneC = true) (hlo : lo ≤ s.ctr)
    (hn : (cs.length + 1) * (by_ + 1) ≤ 1099511627776) :
    Ok (fun _ => builtinA E Builtin.append (t :: (t :: [])) (v :: (xlstV (e :: []) :: []))) s
      (fun w s' => Grow s'.mem lo s'.ctr el sz (cs ++ cellsL e) w ∧ s.ctr ≤ s'.ctr ∧ ∀ k, k < lo → s'.mem.get k = s.mem.get k) := by
  obtain ⟨m, c, l⟩ := s
  obtain ⟨hu, hs, hb, hz, hz0⟩ := ht
  obtain ⟨zv, hz⟩ := Option.isSome_iff_exists.1 hz
  obtain ⟨hone, hg⟩ := h
  have hel : elemOfSlice E t = some el := by unfold elemOfSlice; rw [hu]
  have hlen : lenA (xlstV [e]) = some 1 := rfl
  have hx : isL (xlstV [e]) = true := rfl
  have hxe : elems (xlstV [e]) = [e] := rfl
  have hok : hdOk sz [e] = true := by simp only [hdOk, he, Nat.beq_refl]
  have hfl : flatC ([e].take 1) = cellsL e := by simp [flatC]
  have hf1 : ∀ k, firstA sz 1 (xlstV [e]) k = gd (hdOk sz [e]) (k (flatC ([e].take 1))) := fun _ => rfl
  rcases hg with ⟨rfl, rfl⟩ | ⟨r, n, sy, olds, rfl, a2, a3, a4, a5, a6, a7⟩
  · have hd : decide ((0 + 1) * (by_ + 1) ≤ 1099511627776) = true := decide_eq_true (by simpa using hn)
    have hbl : Nat.ble (cellsL e).length (cellsL e).length = true := Nat.ble_eq_true_of_le (Nat.le_refl _)
    refine ⟨.slice (some ⟨c, 0, none⟩) 1 (capOf 1 false), ⟨layCells c (cellsL e) (c + 1) (m.set c (some (.hdr ⟨(cellsL e).length, el, false, false, true, 0, false, false, []⟩))), c + (cellsL e).length + 1, ⟨true, c, (cellsL e).length + 1⟩ :: l⟩, ⟨⟨?_, .inr ⟨c, 1, false, [], rfl, ?_, hlo, ?_, fun k hk => ?_, ?_, ?_⟩⟩, ?_, fun k hk => ?_⟩, 0, fun _ _ => ?_⟩
    · simpa using he1
    · simp [he]
    · simp; omega
    · cases hk
    · simp only [List.nil_append]
      rw [lay_below _ _ _ _ _ (by omega), Tr.get_set, if_pos rfl]
    · exact CellsAt.lay _ _ _
    · simp; omega
    · simp only at hlo ⊢
      rw [lay_below _ _ _ _ _ (by omega), Tr.get_set, if_neg (by omega)]
    · simp only [builtinA, appendA, appendB, hel, hu, hs, hb, Ev.opt, isIntD, appN, hlen, hz, gd, hd, appC, hf1, hok, hfl, Nat.zero_add, Prog.run, Prog.new, hbl, St.newH, Nat.add_eq]
  · simp only at a4 a6 a7 hlo
    have hcl : capLo (capOf n false) = n := by show (2 * n + 0) / 2 = n; omega
    have hce : capEx (capOf n false) = false := by
      simp only [capEx, capOf, Nat.add_eq, Nat.mul_eq, Nat.add_zero]
      have : Nat.mod (2 * n) 2 = 0 := by show (2 * n) % 2 = 0; omega
      rw [this]; rfl
    have hnn : n ≤ cs.length := by rw [a2]; exact Nat.le_mul_of_pos_right n hz0
    have hd : decide ((n + 1) * (by_ + 1) ≤ 1099511627776) = true := decide_eq_true (Nat.le_trans (Nat.mul_le_mul_right _ (by omega)) hn)
    have hble : Nat.ble (n + 1) n = false := by
      cases hq : Nat.ble (n + 1) n with
      | false => rfl
      | true => have := Nat.le_of_ble_eq_true hq; omega
    have hg2 : decide (True ∧ 0 + n * sz = cs.length ∧ True ∧ True ∧ True ∧ 0 ≤ n * sz + 1 * sz) = true := decide_eq_true ⟨trivial, by omega, trivial, trivial, trivial, Nat.zero_le _⟩
    have hrd : rdCells m r (n * sz) 0 = some cs := by rw [← a2]; exact CellsAt.rd a7
    have hlenc : (cs ++ cellsL e).length = n * sz + 1 * sz := by rw [List.length_append, a2, he, Nat.one_mul]
    have hbl : Nat.ble (cs ++ cellsL e).length (n * sz + 1 * sz) = true := Nat.ble_eq_true_of_le (by omega)
    refine ⟨.slice (some ⟨c, 0, none⟩) (n + 1) (capOf (n + 1) false), ⟨layCells c (cs ++ cellsL e) (c + 1) ((m.set r (some (.hdr ⟨cs.length, el, false, false, true, 0, sy, true, []⟩))).set c (some (.hdr ⟨n * sz + 1 * sz, el, false, false, true, 0, sy, false, r :: olds⟩))), c + (n * sz + 1 * sz) + 1, ⟨true, c, n * sz + 1 * sz + 1⟩ :: ⟨true, r, 1⟩ :: ⟨false, r + 1 + 0, n * sz⟩ :: ⟨false, r, 1⟩ :: ⟨false, r, 1⟩ :: l⟩, ⟨⟨?_, .inr ⟨c, n + 1, sy, r :: olds, rfl, ?_, hlo, ?_, fun k hk => ?_, ?_, ?_⟩⟩, ?_, fun k hk => ?_⟩, 0, fun _ _ => ?_⟩
    · exact all_append _ _ _ hone he1
    · rw [hlenc, Nat.add_mul]
    · simp only; omega
    · rcases List.mem_cons.1 hk with rfl | hk
      · exact ⟨a3, by omega⟩
      · have := a5 k hk; omega
    · simp only
      rw [lay_below _ _ _ _ _ (by omega), Tr.get_set, if_pos rfl, hlenc]
    · exact CellsAt.lay _ _ _
    · simp only; omega
    · simp only at hlo ⊢
      rw [lay_below _ _ _ _ _ (by omega), Tr.get_set, if_neg (by omega), Tr.get_set, if_neg (by omega)]
    · simp only [builtinA, appendA, appendB, hel, hu, hs, hb, Ev.opt, isIntD, appN, hlen, hz, gd, hd, hcl, hce, hble, appC, hf1, hok, hfl, Prog.run, St.hd, St.setHd, St.rd, a6, hg2, hrd, he1, hbl, St.newH, Nat.add_eq, Bool.true_and, Nat.beq_refl]
end Go.Ev
namespace Go.Ev
open Go
def Above (c : Nat) (s s' : St) : Prop := ∃ l, s'.log = l ++ s.log ∧ ∀ a, a ∈ writesOf l → c ≤ a.k
theorem Above.trans {c : Nat} {s s1 s2 : St} (h : Above c s s1) (g : Above c s1 s2) : Above c s s2 := by
  obtain ⟨l, e1, e2⟩ := h
  obtain ⟨k, e3, e4⟩ := g
  refine ⟨k ++ l, by rw [e3, e1, List.append_assoc], fun a ha => ?_⟩
  rw [writesOf_append] at ha
  rcases List.mem_append.1 ha with ha | ha
  · exact e4 a ha
  · exact e2 a ha
theorem hits_above (c : Nat) (a : Acc) (ha : c ≤ a.k) : ∀ (l : List Acc), (∀ b, b ∈ l → b.k + b.n ≤ c) → hits a l = false
  | [], _ => rfl
  | b :: l, h => by
    have hb := h b (List.mem_cons_self ..)
    have : Nat.blt a.k (Nat.add b.k b.n) = false := by
      cases hq : Nat.blt a.k (Nat.add b.k b.n) with
      | false => rfl
      | true =>
        have h2 : a.k < b.k + b.n := by
          have := Nat.le_of_ble_eq_true hq
          simpa [Nat.succ_le_iff] using this
        omega
    simp only [hits, overlap, this, Bool.false_and, Bool.false_or]
    exact hits_above c a ha l fun b hb => h b (List.mem_cons_of_mem _ hb)
theorem anyHits_above (c : Nat) : ∀ (ws : List Acc), (∀ a, a ∈ ws → c ≤ a.k) → ∀ (l : List Acc), (∀ b, b ∈ l → b.k + b.n ≤ c) → anyHits ws l = false
  | [], _, _, _ => rfl
  | a :: ws, h, l, g => by
    simp only [anyHits, hits_above c a (h a (List.mem_cons_self ..)) l g, Bool.false_or]
    exact anyHits_above c ws (fun a ha => h a (List.mem_cons_of_mem _ ha)) l g
theorem apart_above {c : Nat} {ws all rs : List Acc} (h : ∀ a, a ∈ ws → c ≤ a.k) (g : ∀ b, b ∈ rs → b.k + b.n ≤ c) : apartLogs ws all [] rs = true := by
  unfold apartLogs
  cases ws with
  | nil => rfl
  | cons a ws => simp only [anyHits_above c _ h rs g, Bool.not_false, Bool.and_true]
theorem Ok.newF {n el : Nat} {ex z sy : Bool} {vs : List Value} {g : Nat → Value} {s : St} (hn : vs.length = n) :
    Ok (fun _ => Prog.newH (Hdr.mk n el false ex z 0 sy false []) vs (fun k => Prog.ret (g k))) s
      (fun v s' => v = g s.ctr ∧ s'.ctr = s.ctr + n + 1 ∧ s'.mem.get s.ctr = some (.hdr (Hdr.mk n el false ex z 0 sy false [])) ∧ CellsAt s'.mem s.ctr (s.ctr + 1) vs ∧ (∀ k, k < s.ctr → s'.mem.get k = s.mem.get k) ∧ Above s.ctr s s') := by
  obtain ⟨m, c, l⟩ := s
  subst hn
  have e : Nat.ble vs.length vs.length = true := Nat.ble_eq_true_of_le (Nat.le_refl _)
  refine ⟨g c, ⟨layCells c vs (c + 1) (m.set c (some (.hdr (Hdr.mk vs.length el false ex z 0 sy false [])))), c + vs.length + 1, ⟨true, c, vs.length + 1⟩ :: l⟩, ⟨rfl, rfl, ?_, CellsAt.lay _ _ _, fun k hk => ?_, [⟨true, c, vs.length + 1⟩], rfl, fun a ha => ?_⟩, 0, fun _ _ => ?_⟩
  · simp only
    rw [lay_below _ _ _ _ _ (by omega), Tr.get_set, if_pos rfl]
  · simp only at hk ⊢
    rw [lay_below _ _ _ _ _ (by omega), Tr.get_set, if_neg (by omega)]
  · simp only [writesOf, List.mem_singleton] at ha
    subst ha
    exact Nat.le_refl _
  · simp only [Prog.run, e, St.newH, Nat.add_eq]
theorem Cell.congr {m m' : Tr Slot} {b o : Nat} {v : Value} (h : Cell m b o v) (e1 : m'.get b = m.get b) (e2 : m'.get (b + 1 + o) = m.get (b + 1 + o)) : Cell m' b o v := by
  obtain ⟨⟨hd, h1⟩, h2⟩ := h
  exact ⟨⟨hd, e1.trans h1⟩, e2.trans h2⟩
def Fresh (s s' : St) : Prop := s.ctr ≤ s'.ctr ∧ (∀ k, k < s.ctr → s'.mem.get k = s.mem.get k)
theorem Fresh.refl (s : St) : Fresh s s := ⟨Nat.le_refl _, fun _ _ => rfl⟩
theorem Fresh.trans {s s1 s2 : St} (h : Fresh s s1) (g : Fresh s1 s2) : Fresh s s2 := ⟨Nat.le_trans h.1 g.1, fun k hk => (g.2 k (Nat.lt_of_lt_of_le hk h.1)).trans (h.2 k hk)⟩
theorem Reads.fresh {s s' : St} (h : Reads s s') : Fresh s s' := ⟨Nat.le_of_eq h.2.1.symm, fun k _ => by rw [h.1]⟩
def u8s (l : List UInt8) : List Value := l.map fun b => .int .u8 b.toNat
theorem u8s_length (l : List UInt8) : (u8s l).length = l.length := by simp [u8s]
theorem u8s_one (l : List UInt8) : (u8s l).all oneC = true := by simp [u8s, oneC]
theorem u8s_ok : ∀ (l : List UInt8), allU8 (u8s l) = true
  | [] => rfl
  | b :: l => by
    have := u8s_ok l
    simp only [u8s, List.map_cons, allU8, u8V, Bool.true_and] at this ⊢
    exact this
theorem u8s_bytes : ∀ (l : List UInt8), bytesV (u8s l) = l
  | [] => rfl
  | b :: l => by
    have := u8s_bytes l
    simp only [u8s, List.map_cons, bytesV, intOf, Int.toNat_natCast] at this ⊢
    rw [this]
    simp
theorem Ok.copyStr {E : Env} {t e c n cap : Nat} {x : ByteArray} {vs : List Value} {el : TypeId} {ex z sy : Bool} {s : St} (ht : elemOfSlice E t = some e) (hs : E.size e = some 1) (hh : s.mem.get c = some (.hdr ⟨n, el, false, ex, z, 0, sy, false, []⟩)) (hv : vs.length = n)
    (hx : x.data.toList.length = n) (h0 : 0 < n) :
    Ok (fun _ => builtinA E Builtin.copy (t :: (9 :: [])) (Value.slice (some ⟨c, 0, none⟩) n cap :: (Value.string x :: []))) s
      (fun v s' => v = vInt n ∧ s'.ctr = s.ctr ∧ s'.mem.get c = s.mem.get c ∧ CellsAt s'.mem c (c + 1) (u8s x.data.toList) ∧ (∀ k, (k ≤ c ∨ c + 1 + n ≤ k) → s'.mem.get k = s.mem.get k) ∧ Above c s s') := by
  obtain ⟨m, cc, l⟩ := s
  simp only at hh
  have e1 : firstA 1 n (.string x) = fun k => gd (Nat.beq 1 1) (k ((x.data.toList.take n).map (fun b => .int .u8 b.toNat))) := rfl
  have e2 : x.data.toList.take n = x.data.toList := List.take_of_length_le (by omega)
  have hl : (x.data.toList.map (fun b : UInt8 => Value.int .u8 (b.toNat : Int))).length = n := by simp [hx]
  have ho : (x.data.toList.map (fun b : UInt8 => Value.int .u8 (b.toNat : Int))).all oneC = true := u8s_one _
  have hb : Nat.ble (0 + n) n = true := Nat.ble_eq_true_of_le (by omega)
  have h00 : Nat.ble 0 0 = true := rfl
  obtain ⟨n', rfl⟩ : ∃ n', n = n' + 1 := ⟨n - 1, by omega⟩
  refine ⟨vInt (n' + 1 : Nat), ⟨layCells c (x.data.toList.map (fun b : UInt8 => Value.int .u8 (b.toNat : Int))) (c + 1 + 0) m, cc, ⟨true, c + 1 + 0, n' + 1⟩ :: ⟨false, c, 1⟩ :: l⟩, ⟨rfl, rfl, ?_, CellsAt.lay _ _ _, fun k hk => ?_, [⟨true, c + 1 + 0, n' + 1⟩, ⟨false, c, 1⟩], rfl, fun a ha => ?_⟩, 0, fun _ _ => ?_⟩
  · simp only
    rw [lay_below _ _ _ _ _ (by omega)]
  · simp only
    rw [lay_below _ _ _ _ _ (by omega)]
  · simp only [writesOf, List.mem_singleton] at ha
    subst ha
    simp only; omega
  · simp only [builtinA, copyA, ht, hs, Ev.opt, lenA, hx, Nat.min_self, e1, e2, gd, Nat.beq_refl, Prog.run, St.wr, hh, Bool.false_or, h00, Bool.not_true, ho, hl, Nat.add_eq, hb]
    rfl
theorem Ok.unsafeStr {E : Env} {pt t2 e c n : Nat} {l : List UInt8} {ex : Bool} {s : St} (hp : ptrElem E pt = some e) (ho : isOne E e = true) (hh : s.mem.get c = some (.hdr ⟨n, e, false, ex, true, 0, false, false, []⟩)) (hl : l.length = n) (h0 : 0 < n) (hn : n ≤ 9223372036854775807)
    (hc : CellsAt s.mem c (c + 1) (u8s l)) :
    Ok (fun _ => builtinA E Builtin.unsafeString (pt :: (t2 :: [])) (Value.pointer (some ⟨c, 0, none⟩) :: (Value.int IntKind.i64 (n : Int) :: []))) s
      (fun v s' => v = .string (mkStr l) ∧ s'.ctr = s.ctr ∧ (∀ k, k ≠ c → s'.mem.get k = s.mem.get k) ∧ Above c s s') := by
  obtain ⟨m, cc, lg⟩ := s
  simp only at hh hc
  have hrd : rdCells m c n 0 = some (u8s l) := by
    have h1 : CellsAt m c (c + 1 + 0) (u8s l) := hc
    have h2 := h1.rd
    rw [u8s_length, hl] at h2
    exact h2
  have g1 : (decide ((0 : Int) ≤ (n : Int)) && decide ((n : Int) ≤ 9223372036854775807)) = true := by simp only [Bool.and_eq_true, decide_eq_true_eq]; omega
  have g2 : decide ((n : Int) = 0) = false := decide_eq_false (by omega)
  refine ⟨.string (mkStr l), ⟨m.set c (some (.hdr ⟨n, e, false, ex, true, Nat.max 0 n, false, false, []⟩)), cc, ⟨true, c, 1⟩ :: ⟨false, c + 1 + 0, n⟩ :: ⟨false, c, 1⟩ :: ⟨false, c, 1⟩ :: lg⟩,
    ⟨rfl, rfl, fun k hk => ?_, [⟨true, c, 1⟩, ⟨false, c + 1 + 0, n⟩, ⟨false, c, 1⟩, ⟨false, c, 1⟩], rfl, fun a ha => ?_⟩, 0, fun _ _ => ?_⟩
  · simp only
    rw [Tr.get_set, if_neg hk]
  · simp only [writesOf, List.mem_singleton] at ha
    subst ha
    simp only; omega
  · simp only [builtinA, gd, g1, g2, Prog.run, Ev.opt, hp, ck, ho, St.hd, hh, Nat.beq_refl, Bool.not_false, Bool.and_true, Bool.true_and, Int.toNat_natCast, St.rd, hrd, u8s_ok, St.setHd, u8s_bytes, Nat.add_eq]
end Go.Ev
namespace Go.Ev
open Go
theorem chunk1 : ∀ (n : Nat) (vs : List Value), vs.length = n → ∀ sz, chunkC true sz n vs = vs ∨ sz ≠ 1
  | 0, vs, h, sz => by
    have : vs = [] := List.length_eq_zero_iff.1 h
    subst this
    exact .inl rfl
  | n + 1, [], h, _ => by simp at h
  | n + 1, v :: vs, h, sz => by
    by_cases hs : sz = 1
    · subst hs
      rcases chunk1 n vs (by simpa using h) 1 with e | e
      · left
        simp only [chunkC, List.headD_cons, List.drop_succ_cons, List.drop_zero, e]
      · exact absurd rfl e
    · exact .inr hs
theorem Grow.frz {m : Tr Slot} {lo hi el sz : Nat} {cs : List Value} {r n c : Nat} {l : List Acc} (h : Grow m lo hi el sz cs (.slice (some ⟨r, 0, none⟩) n c)) :
    ∃ s', St.frz ⟨m, hi, l⟩ r (n * sz) 0 = some (cs, s') ∧ s'.ctr = hi ∧ (∀ k, k < lo → s'.mem.get k = m.get k) := by
  obtain ⟨h1, h2⟩ := h
  rcases h2 with ⟨e, _⟩ | ⟨r', n', sy, olds, e, a2, a3, a4, a5, a6, a7⟩
  · cases e
  · cases e
    have hrd : rdCells m r (n * sz) 0 = some cs := by rw [← a2]; exact CellsAt.rd a7
    refine ⟨⟨(kill olds m).set r none, hi, ⟨true, r, 1⟩ :: killLog olds (⟨false, Nat.add (Nat.add r 1) 0, n * sz⟩ :: l)⟩, by simp only [St.frz, a6, Bool.false_or, hrd, h1], rfl, fun k hk => ?_⟩
    simp only
    rw [Tr.get_set, if_neg (by omega), kill_at, if_neg]
    intro hm
    have := a5 k hm
    omega
section
variable {E : Env} {s : St} {Q : Value → St → Prop}
theorem Ok.frzO {b n o : Nat} {vs : List Value} {s1 : St} {k : Nat → List Value → Prog} (h : s.frz b n o = some (vs, s1)) (hk : Ok (fun f => k f vs) s1 Q) : Ok (fun f => .frz b n o (k f)) s Q := by
  obtain ⟨v, s', h1, f0, h2⟩ := hk
  refine ⟨v, s', h1, f0, fun f hf => ?_⟩
  simp only [Prog.run, h]
  exact h2 f hf
theorem Ok.frzL {e lo d : Nat} {cs : List Value} {v : Value} {p : Nat → Value → Prog} (hs : E.size e = some 1) (hsl : slots E 20 e = [none]) (h1 : isOneT E e = true) (h : Grow s.mem lo s.ctr e 1 cs v)
    (hk : ∀ s', s'.ctr = s.ctr → (∀ k, k < lo → s'.mem.get k = s.mem.get k) → Ok (fun f => p f (lstV cs)) s' Q) : Ok (fun f => Ev.frzL E (d + 1) e v (p f)) s Q := by
  obtain ⟨m, c, l⟩ := s
  have h' := h
  rcases h.2 with ⟨rfl, rfl⟩ | ⟨r, n, sy, olds, rfl, a2, _⟩
  · exact hk _ rfl fun _ _ => rfl
  · by_cases hn : n = 0
    · subst hn
      have : cs = [] := List.length_eq_zero_iff.1 (by omega)
      subst this
      exact hk _ rfl fun _ _ => rfl
    · obtain ⟨s', f1, f2, f3⟩ := Grow.frz (l := l) h'
      have hb : Nat.beq n 0 = false := by cases n with
        | zero => exact absurd rfl hn
        | succ n => rfl
      have hc : chunkC true 1 n cs = cs := by
        rcases chunk1 n cs (by omega) 1 with e | e
        · exact e
        · exact absurd rfl e
      have e2 : ∀ f, Ev.frzL E (d + 1) e (.slice (some ⟨r, 0, none⟩) n (capOf n false)) (p f) = .frz r (n * 1) 0 fun vs => p f (lstV (chunkC true 1 n vs)) := by
        intro f
        unfold Ev.frzL
        simp only [hb, hs, Ev.opt, ck, hsl, anySome, h1, Nat.mul_eq]
        rfl
      simp only [e2]
      refine Ok.frzO f1 ?_
      rw [hc]
      exact hk s' f2 f3
theorem Ok.frzNil {e d : Nat} {p : Nat → Value → Prog} (hk : Ok (fun f => p f (lstV [])) s Q) : Ok (fun f => Ev.frzL E (d + 1) e (.slice none 0 0) (p f)) s Q := hk
end
end Go.Ev
namespace Go.Proofs.YtpljgnjdlciicaaGreatDoor
open Go Go.Ev Go.Proofs
def isLetter (c : Int) : Bool := decide (97 ≤ c) && decide (c ≤ 122) || decide (65 ≤ c) && decide (c ≤ 90)
def isDigit (c : Int) : Bool := decide (48 ≤ c) && decide (c ≤ 57)
def isInside (c : Int) : Bool := isLetter c || (isDigit c || decide (c = 95))
theorem letter_ok (s : St) (c : Int) : Ok (fun f => callF En (runP En f) 86 [.int .u8 c]) s (fun v s' => v = .bool (isLetter c) ∧ s' = s) := by
  refine Ok.step (fun f => f86_eq f c) ?_
  unfold isLetter
  repeat' (first | refine Ok.c (fun h => ?_) (fun h => ?_) | exact Ok.ret ⟨by simp_all <;> omega, rfl⟩)
theorem digit_ok (s : St) (c : Int) : Ok (fun f => callF En (runP En f) 83 [.int .u8 c]) s (fun v s' => v = .bool (isDigit c) ∧ s' = s) := by
  refine Ok.step (fun f => f83_eq f c) ?_
  unfold isDigit
  repeat' (first | refine Ok.c (fun h => ?_) (fun h => ?_) | exact Ok.ret ⟨by simp_all <;> omega, rfl⟩)
theorem inside_ok (s : St) (c : Int) : Ok (fun f => callF En (runP En f) 87 [.int .u8 c]) s (fun v s' => v = .bool (isInside c) ∧ s' = s) := by
  refine Ok.step (fun f => f87_eq f c) ?_
  refine Ok.call (letter_ok s c) ?_
  rintro v s1 ⟨rfl, rfl⟩
  refine Ok.t rfl ?_
  refine Ok.c (fun h => ?_) (fun h => ?_)
  · exact Ok.ret ⟨by simp_all [isInside, boolOf], rfl⟩
  · refine Ok.call (digit_ok _ c) ?_
    rintro v s1 ⟨rfl, rfl⟩
    refine Ok.t rfl ?_
    refine Ok.c (fun h1 => ?_) (fun h1 => ?_)
    · exact Ok.ret ⟨by simp_all [isInside, boolOf], rfl⟩
    · exact Ok.ret ⟨by simp_all [isInside, boolOf], rfl⟩
end Go.Proofs.YtpljgnjdlciicaaGreatDoor
namespace Go.Proofs.YtpljgnjdlciicaaGreatDoor
open Go Go.Ev Go.Proofs
theorem wrap_in (n : Int) (h1 : -9223372036854775808 ≤ n) (h2 : n ≤ 9223372036854775807) : IntKind.i64.wrap n = n := by
  exact IntWalk.i64_in n ⟨h1, h2⟩
def byteOf (s : ByteArray) (i : Int) : Int := if i < Int.ofNat s.data.toList.length then Int.ofNat (byteAt s i.toNat) else 0
theorem peek_ok (s : St) (b : Nat) (str : ByteArray) (k n : Int) (h0 : Cell s.mem b 0 (.string str)) (h1 : Cell s.mem b 1 (.int .i64 k)) (hr : 0 ≤ k + n) (hm : k + n ≤ 9223372036854775807) :
    Ok (fun f => callF En (runP En f) 82 [.pointer (some ⟨b, 0, none⟩), .int .i64 n]) s (fun v s' => v = .int .u8 (byteOf str (k + n)) ∧ Reads s s') := by
  have hw : IntKind.i64.wrap (k + n) = k + n := wrap_in _ (by omega) hm
  have t3 : scal En 3 = true := by kernel_rfl
  have t9 : scal En 9 = true := by kernel_rfl
  refine Ok.step (fun f => f82_eq f b n) ?_
  refine Ok.segLoad t3 h1 fun s1 r1 => ?_
  refine Ok.t rfl ?_
  refine Ok.segLoad t9 (h0.reads r1) fun s2 r2 => ?_
  refine Ok.gdL (by kernel_rfl) ?_
  refine Ok.t rfl ?_
  have r2 := r1.trans r2
  simp only [intOf, strOf, hw]
  refine Ok.c (fun h => ?_) (fun h => ?_)
  · have h := of_decide_eq_true h
    refine Ok.segLoad t9 (h0.reads r2) fun s3 r3 => ?_
    have r3 := r2.trans r3
    refine Ok.t rfl ?_
    refine Ok.segLoad t3 (h1.reads r3) fun s4 r4 => ?_
    have r4 := r3.trans r4
    refine Ok.gdL (by kernel_rfl) ?_
    refine Ok.t rfl ?_
    simp only [intOf, strOf, hw]
    refine Ok.t (by simpa using hr) ?_
    refine Ok.t (Nat.ble_eq_true_of_le (by simp only [Int.ofNat_eq_natCast] at h; omega)) ?_
    exact Ok.ret ⟨by simp only [byteOf, if_pos h], r4⟩
  · have h := of_decide_eq_false h
    exact Ok.ret ⟨by simp only [byteOf, if_neg h], r2⟩
end Go.Proofs.YtpljgnjdlciicaaGreatDoor
namespace Go.Proofs.YtpljgnjdlciicaaGreatDoor
open Go Go.Ev Go.Proofs
def IsPred (g : Nat) (P : Int → Bool) : Prop := ∀ (s : St) (c : Int), Ok (fun f => callF En (runP En f) g [.int .u8 c]) s (fun v s' => v = .bool (P c) ∧ s' = s)
def byteI (str : ByteArray) (i : Int) : Int := Int.ofNat (byteAt str i.toNat)
def runV (str : ByteArray) (P : Int → Bool) (k : Int) (n : Nat) : Prop :=
  (k + n ≤ str.data.toList.length) ∧ (∀ i : Nat, i < n → P (byteI str (k + i)) = true) ∧ (k + n < str.data.toList.length → P (byteI str (k + n)) = false)
theorem run_loop {g : Nat} {P : Int → Bool} (hp : IsPred g P) {str : ByteArray} {b : Nat} {k : Int} (hk : 0 ≤ k) (hl : str.data.toList.length ≤ 4611686018427387904) : ∀ (m n : Nat) (s : St), k + n + m = str.data.toList.length →
    (∀ i : Nat, i < n → P (byteI str (k + i)) = true) → Cell s.mem b 0 (.string str) → Cell s.mem b 1 (.int .i64 k) →
    Ok (fun f => p35_2 f b g n) s (fun v s' => ∃ n' : Nat, runV str P k n' ∧ v = .string (mkStr ((str.data.toList.drop k.toNat).take n')) ∧ Reads s s') := by
  have t3 : scal En 3 = true := by kernel_rfl
  have t9 : scal En 9 = true := by kernel_rfl
  intro m
  induction m with
  | zero =>
    intro n s hm hi h0 h1
    have hw : IntKind.i64.wrap (k + (n : Int)) = k + n := wrap_in _ (by omega) (by omega)
    refine Ok.step (fun f => p35_2_eq f b g n) ?_
    refine Ok.segLoad t3 h1 fun s1 r1 => ?_
    refine Ok.t rfl ?_
    refine Ok.segLoad t9 (h0.reads r1) fun s2 r2 => ?_
    refine Ok.gdL (by kernel_rfl) ?_
    refine Ok.t rfl ?_
    have r2 := r1.trans r2
    simp only [intOf, strOf, hw]
    refine Ok.f (decide_eq_false (by simp only [Int.ofNat_eq_natCast]; omega)) ?_
    refine Ok.segLoad t9 (h0.reads r2) fun s3 r3 => ?_
    have r3 := r2.trans r3
    refine Ok.t rfl ?_
    refine Ok.segLoad t3 (h1.reads r3) fun s4 r4 => ?_
    have r4 := r3.trans r4
    refine Ok.gdL (by kernel_rfl) ?_
    refine Ok.t rfl ?_
    refine Ok.segLoad t3 (h1.reads r4) fun s5 r5 => ?_
    have r5 := r4.trans r5
    refine Ok.gdL (by kernel_rfl) ?_
    refine Ok.t rfl ?_
    simp only [intOf, strOf, hw]
    refine Ok.t (decide_eq_true hk) ?_
    refine Ok.t (decide_eq_true (by omega)) ?_
    refine Ok.t (by simp only [Bool.and_eq_true]; exact ⟨Nat.ble_eq_true_of_le (by omega), Nat.ble_eq_true_of_le (by omega)⟩) ?_
    refine Ok.ret ⟨n, ⟨by omega, hi, fun h => by omega⟩, ?_, r5⟩
    rw [show (k + (n : Int)).toNat - k.toNat = n by omega]
  | succ m IH =>
    intro n s hm hi h0 h1
    have hw : IntKind.i64.wrap (k + (n : Int)) = k + n := wrap_in _ (by omega) (by omega)
    have hw1 : IntKind.i64.wrap ((n : Int) + 1) = ((n + 1 : Nat) : Int) := by rw [wrap_in _ (by omega) (by omega)]; omega
    refine Ok.step (fun f => p35_2_eq f b g n) ?_
    refine Ok.segLoad t3 h1 fun s1 r1 => ?_
    refine Ok.t rfl ?_
    refine Ok.segLoad t9 (h0.reads r1) fun s2 r2 => ?_
    refine Ok.gdL (by kernel_rfl) ?_
    refine Ok.t rfl ?_
    have r2 := r1.trans r2
    simp only [intOf, strOf, hw]
    refine Ok.t (decide_eq_true (by simp only [Int.ofNat_eq_natCast]; omega)) ?_
    refine Ok.segLoad t9 (h0.reads r2) fun s3 r3 => ?_
    have r3 := r2.trans r3
    refine Ok.gdL (by kernel_rfl) ?_
    refine Ok.t rfl ?_
    refine Ok.segLoad t3 (h1.reads r3) fun s4 r4 => ?_
    have r4 := r3.trans r4
    refine Ok.gdL (by kernel_rfl) ?_
    refine Ok.t rfl ?_
    simp only [intOf, strOf, hw]
    refine Ok.t (decide_eq_true (by omega)) ?_
    refine Ok.t (Nat.ble_eq_true_of_le (by omega)) ?_
    refine Ok.seg (hp _ _) ?_
    rintro v s5 ⟨rfl, rfl⟩
    refine Ok.gdL (by kernel_rfl) ?_
    refine Ok.t rfl ?_
    simp only [boolOf, hw1]
    refine Ok.c (fun h => ?_) (fun h => ?_)
    · refine Ok.mono (IH (n + 1) _ (by push_cast; omega) (fun i hlt => ?_) (h0.reads r4) (h1.reads r4)) ?_
      · by_cases e : i = n
        · subst e; exact h
        · exact hi i (by omega)
      · rintro v s' ⟨n', a1, a2, a3⟩
        exact ⟨n', a1, a2, r4.trans a3⟩
    · refine Ok.segLoad t9 (h0.reads r4) fun s6 r6 => ?_
      have r6 := r4.trans r6
      refine Ok.t rfl ?_
      refine Ok.segLoad t3 (h1.reads r6) fun s7 r7 => ?_
      have r7 := r6.trans r7
      refine Ok.gdL (by kernel_rfl) ?_
      refine Ok.t rfl ?_
      refine Ok.segLoad t3 (h1.reads r7) fun s8 r8 => ?_
      have r8 := r7.trans r8
      refine Ok.gdL (by kernel_rfl) ?_
      refine Ok.t rfl ?_
      simp only [intOf, strOf, hw]
      refine Ok.t (decide_eq_true hk) ?_
      refine Ok.t (decide_eq_true (by omega)) ?_
      refine Ok.t (by simp only [Bool.and_eq_true]; exact ⟨Nat.ble_eq_true_of_le (by omega), Nat.ble_eq_true_of_le (by omega)⟩) ?_
      refine Ok.ret ⟨n, ⟨by omega, hi, fun _ => h⟩, ?_, r8⟩
      rw [show (k + (n : Int)).toNat - k.toNat = n by omega]
end Go.Proofs.YtpljgnjdlciicaaGreatDoor
namespace Go.Proofs.YtpljgnjdlciicaaGreatDoor
open Go Go.Ev Go.Proofs
theorem run_ok {g : Nat} {P : Int → Bool} (hp : IsPred g P) (s : St) {str : ByteArray} {b : Nat} {k : Int} (hk : 0 ≤ k) (hm : k ≤ str.data.toList.length) (hl : str.data.toList.length ≤ 4611686018427387904) (h0 : Cell s.mem b 0 (.string str)) (h1 : Cell s.mem b 1 (.int .i64 k)) :
    Ok (fun f => callF En (runP En f) 35 [.pointer (some ⟨b, 0, none⟩), .func (.func g) ⟨[]⟩ ⟨[]⟩]) s (fun v s' => ∃ n : Nat, runV str P k n ∧ v = .string (mkStr ((str.data.toList.drop k.toNat).take n)) ∧ Reads s s') := by
  refine Ok.step (fun f => f35_eq f b g) ?_
  exact run_loop hp hk hl (str.data.toList.length - k.toNat) 0 s (by simp only [Int.natCast_zero]; omega) (fun i h => by omega) h0 h1
end Go.Proofs.YtpljgnjdlciicaaGreatDoor
namespace Go.Proofs.YtpljgnjdlciicaaGreatDoor
open Go Go.Ev Go.Proofs
theorem fail_ok (s : St) (b : Nat) (e a k : Int) (h3 : Cell s.mem b 3 (.int .i64 k)) (hf : Free s.mem b 5) :
    Ok (fun f => callF En (runP En f) 38 [.pointer (some ⟨b, 0, none⟩), .int .i64 e, .int .i64 a]) s (fun v s' => v = .tuple ⟨[]⟩ ∧ s'.ctr = s.ctr ∧
      s'.mem = if k = 0 then (s.mem.set (b + 1 + 3) (some (.cell b (.int .i64 e)))).set (b + 1 + 4) (some (.cell b (.int .i64 a))) else s.mem) := by
  have t24 : scal En 24 = true := by kernel_rfl
  refine Ok.step (fun f => f38_eq f b e a) ?_
  refine Ok.callP (Ok.load1 t24 h3) ?_
  rintro v s1 ⟨rfl, e1, e2, e3⟩
  refine Ok.t rfl ?_
  refine Ok.c (fun h => ?_) (fun h => ?_)
  · have h := of_decide_eq_true h
    simp only [intOf] at h
    have hf1 : Free s1.mem b 5 := by rw [e1]; exact hf
    refine Ok.callP (Ok.store1 (n := 5) (by kernel_rfl) rfl hf1 (by omega) rfl) ?_
    rintro v s2 ⟨rfl, rfl⟩
    refine Ok.callP (Ok.store1 (n := 5) (by kernel_rfl) rfl ?_ (by omega) rfl) ?_
    · obtain ⟨el, ex, z, sy, hh⟩ := hf1
      refine ⟨el, ex, z, sy, ?_⟩
      simp only [Tr.get_set]
      rw [if_neg (by omega)]
      exact hh
    · rintro v s3 ⟨rfl, rfl⟩
      refine Ok.ret ⟨rfl, e2, ?_⟩
      simp only [if_pos h, e1]
  · have h := of_decide_eq_false h
    simp only [intOf] at h
    exact Ok.ret ⟨rfl, e2, by rw [if_neg h]; exact e1⟩
end Go.Proofs.YtpljgnjdlciicaaGreatDoor
namespace Go.Ev
open Go
def ints (l : List Value) : Bool := l.all fun v => match v with
  | .int _ _ => true
  | _ => false
theorem flatC_ints : ∀ (l : List Value), ints l = true → flatC l = l
  | [], _ => rfl
  | v :: l, h => by
    simp only [ints, List.all_cons, Bool.and_eq_true] at h
    have h2 := flatC_ints l h.2
    cases v with
    | int k n => simp only [flatC, h2]; rfl
    | _ => simp at h
theorem ints_one (l : List Value) (h : ints l = true) : l.all oneC = true := by
  simp only [ints, List.all_eq_true] at h ⊢
  intro v hv
  have := h v hv
  cases v <;> simp_all [oneC]
theorem ints_hd (l : List Value) (h : ints l = true) : hdOk 1 l = true := by
  cases l with
  | nil => rfl
  | cons v l =>
    simp only [ints, List.all_cons, Bool.and_eq_true] at h
    cases v with
    | int k n => rfl
    | _ => simp at h
theorem ints_append {a b : List Value} (ha : ints a = true) (hb : ints b = true) : ints (a ++ b) = true := by
  simp only [ints, List.all_append, Bool.and_eq_true] at *
  exact ⟨ha, hb⟩
def Buf (s : St) (lo el : Nat) (cs : List Value) (v : Value) : Prop := ints cs = true ∧ lo ≤ s.ctr ∧ (Grow s.mem lo s.ctr el 1 cs v ∨ v = xlstV cs)
theorem Buf.grow {s : St} {lo el : Nat} {cs : List Value} {v : Value} (h : Buf s lo el cs v) (e : ∃ a b c, v = Value.slice a b c) : Grow s.mem lo s.ctr el 1 cs v := by
  obtain ⟨a, b, c, rfl⟩ := e
  rcases h.2.2 with g | g
  · exact g
  · cases g
theorem Buf.fresh {s s' : St} {lo el : Nat} {cs : List Value} {v : Value} (h : Buf s lo el cs v) (f : Fresh s s') : Buf s' lo el cs v := by
  obtain ⟨h1, h2, h3⟩ := h
  refine ⟨h1, by have := f.1; omega, ?_⟩
  rcases h3 with h3 | h3
  · exact .inl (h3.congr f.1 fun j _ hj => f.2 j hj)
  · exact .inr h3
theorem Ok.appM {E : Env} {t el by_ lo : Nat} {cs es : List Value} {v : Value} {s : St} (ht : AppT E t el 1 by_) (h : Buf s lo el cs v) (he : ints es = true) (h0 : 0 < es.length) (hn : (cs.length + es.length) * (by_ + 1) ≤ 1099511627776) :
    Ok (fun _ => builtinA E Builtin.append (t :: (t :: [])) (v :: (xlstV es :: []))) s
      (fun w s' => Buf s' lo el (cs ++ es) w ∧ s.ctr ≤ s'.ctr ∧ (∀ k, k < lo → s'.mem.get k = s.mem.get k) ∧ ∃ a b c, w = Value.slice a b c) := by
  obtain ⟨m, c, l⟩ := s
  obtain ⟨hu, hs, hb, hz, hz0⟩ := ht
  obtain ⟨zv, hz⟩ := Option.isSome_iff_exists.1 hz
  obtain ⟨hi, hlo, hg⟩ := h
  have hel : elemOfSlice E t = some el := by unfold elemOfSlice; rw [hu]
  have hlen : lenA (xlstV es) = some es.length := rfl
  have hok : hdOk 1 es = true := ints_hd es he
  have hoke : hdOk 1 cs = true := ints_hd cs hi
  have hone := ints_one cs hi
  have hone2 := ints_one es he
  have hfl : flatC (es.take es.length) = es := by rw [List.take_length]; exact flatC_ints es he
  have hfl1 : flatC cs = cs := flatC_ints cs hi
  have hf1 : ∀ n k, firstA 1 n (xlstV es) k = gd (hdOk 1 es) (k (flatC (es.take n))) := fun _ _ => rfl
  obtain ⟨n1, hn1⟩ : ∃ n1, es.length = n1 + 1 := ⟨es.length - 1, by omega⟩
  have hbi := ints_append hi he
  rcases hg with ⟨_, ⟨rfl, rfl⟩ | ⟨r, n, sy, olds, rfl, a2, a3, a4, a5, a6, a7⟩⟩ | rfl
  · have hd : decide ((0 + (n1 + 1)) * (by_ + 1) ≤ 1099511627776) = true := decide_eq_true (by rw [← hn1]; simpa using hn)
    have hbl : Nat.ble es.length es.length = true := Nat.ble_eq_true_of_le (Nat.le_refl _)
    refine ⟨.slice (some ⟨c, 0, none⟩) (n1 + 1) (capOf (n1 + 1) false), ⟨layCells c es (c + 1) (m.set c (some (.hdr ⟨es.length, el, false, false, true, 0, false, false, []⟩))), c + es.length + 1, ⟨true, c, es.length + 1⟩ :: l⟩, ⟨⟨hbi, ?_, .inl ⟨?_, .inr ⟨c, n1 + 1, false, [], rfl, ?_, hlo, ?_, fun k hk => ?_, ?_, ?_⟩⟩⟩, ?_, fun k hk => ?_, ⟨_, _, _, rfl⟩⟩, 0, fun _ _ => ?_⟩
    · simp only at hlo ⊢; omega
    · simpa using hone2
    · simp [hn1]
    · simp; omega
    · cases hk
    · simp only [List.nil_append]
      rw [lay_below _ _ _ _ _ (by omega), Tr.get_set, if_pos rfl]
    · exact CellsAt.lay _ _ _
    · simp; omega
    · simp only at hlo ⊢
      rw [lay_below _ _ _ _ _ (by omega), Tr.get_set, if_neg (by omega)]
    · have hfl' : flatC (es.take (n1 + 1)) = es := by rw [← hn1]; exact hfl
      simp only [builtinA, appendA, appendB, hel, hu, hs, hb, Ev.opt, isIntD, appN, hlen, hn1, hz, gd, hd, appC, hf1, hok, hfl', Prog.run, Prog.new]
      rw [show Nat.ble (n1 + 1) (n1 + 1) = true from Nat.ble_eq_true_of_le (Nat.le_refl _)]
      simp only [St.newH, Nat.add_eq]
  · simp only at a4 a6 a7 hlo
    have hcl : capLo (capOf n false) = n := by show (2 * n + 0) / 2 = n; omega
    have hce : capEx (capOf n false) = false := by
      simp only [capEx, capOf, Nat.add_eq, Nat.mul_eq, Nat.add_zero]
      have : Nat.mod (2 * n) 2 = 0 := by show (2 * n) % 2 = 0; omega
      rw [this]; rfl
    have hd : decide ((n + (n1 + 1)) * (by_ + 1) ≤ 1099511627776) = true := decide_eq_true (by rw [← hn1, show n = cs.length by omega]; exact hn)
    have hble : Nat.ble (n + (n1 + 1)) n = false := by
      cases hq : Nat.ble (n + (n1 + 1)) n with
      | false => rfl
      | true => have := Nat.le_of_ble_eq_true hq; omega
    have hg2 : decide (True ∧ 0 + n * 1 = cs.length ∧ True ∧ True ∧ True ∧ 0 ≤ n * 1 + (n1 + 1) * 1) = true := decide_eq_true ⟨trivial, by omega, trivial, trivial, trivial, Nat.zero_le _⟩
    have hrd : rdCells m r (n * 1) 0 = some cs := by rw [← a2]; exact CellsAt.rd a7
    have hlenc : (cs ++ es).length = n * 1 + (n1 + 1) * 1 := by rw [List.length_append, hn1]; omega
    have hbl : Nat.ble (cs ++ es).length (n * 1 + (n1 + 1) * 1) = true := Nat.ble_eq_true_of_le (by omega)
    refine ⟨.slice (some ⟨c, 0, none⟩) (n + (n1 + 1)) (capOf (n + (n1 + 1)) false), ⟨layCells c (cs ++ es) (c + 1) ((m.set r (some (.hdr ⟨cs.length, el, false, false, true, 0, sy, true, []⟩))).set c (some (.hdr ⟨n * 1 + (n1 + 1) * 1, el, false, false, true, 0, sy, false, r :: olds⟩))), c + (n * 1 + (n1 + 1) * 1) + 1, ⟨true, c, n * 1 + (n1 + 1) * 1 + 1⟩ :: ⟨true, r, 1⟩ :: ⟨false, r + 1 + 0, n * 1⟩ :: ⟨false, r, 1⟩ :: ⟨false, r, 1⟩ :: l⟩, ⟨⟨hbi, ?_, .inl ⟨?_, .inr ⟨c, n + (n1 + 1), sy, r :: olds, rfl, ?_, hlo, ?_, fun k hk => ?_, ?_, ?_⟩⟩⟩, ?_, fun k hk => ?_, ⟨_, _, _, rfl⟩⟩, 0, fun _ _ => ?_⟩
    · simp only; omega
    · exact all_append _ _ _ hone hone2
    · rw [hlenc]; omega
    · simp only; omega
    · rcases List.mem_cons.1 hk with rfl | hk
      · exact ⟨a3, by omega⟩
      · have := a5 k hk; omega
    · simp only
      rw [lay_below _ _ _ _ _ (by omega), Tr.get_set, if_pos rfl, hlenc]
    · exact CellsAt.lay _ _ _
    · simp only; omega
    · simp only at hlo ⊢
      rw [lay_below _ _ _ _ _ (by omega), Tr.get_set, if_neg (by omega), Tr.get_set, if_neg (by omega)]
    · have hfl' : flatC (es.take (n1 + 1)) = es := by rw [← hn1]; exact hfl
      simp only [builtinA, appendA, appendB, hel, hu, hs, hb, Ev.opt, isIntD, appN, hlen, hn1, hz, gd, hd, hcl, hce, hble, appC, hf1, hok, hfl', Prog.run, St.hd, St.setHd, St.rd, a6, hg2, hrd, hone2, hbl, St.newH, Nat.add_eq, Bool.true_and, Nat.beq_refl]
  · have hx : isXl (xlstV cs) = true := rfl
    have hxe : elems (xlstV cs) = cs := rfl
    have hd : (hdOk 1 cs && decide ((cs.length + (n1 + 1)) * (by_ + 1) ≤ 1099511627776)) = true := by
      rw [hoke, Bool.true_and]; exact decide_eq_true (by rw [← hn1]; exact hn)
    have happ : appendA E (t :: (t :: [])) (xlstV cs :: (xlstV es :: [])) = appendX E t t cs (xlstV es) := rfl
    refine ⟨.slice (some ⟨c, 0, none⟩) (cs.length + (n1 + 1)) (capOf (cs.length + (n1 + 1)) false), ⟨layCells c (cs ++ es) (c + 1) (m.set c (some (.hdr ⟨(cs ++ es).length, el, false, false, true, 0, false, false, []⟩))), c + (cs ++ es).length + 1, ⟨true, c, (cs ++ es).length + 1⟩ :: l⟩, ⟨⟨hbi, ?_, .inl ⟨all_append _ _ _ hone hone2, .inr ⟨c, cs.length + (n1 + 1), false, [], rfl, ?_, hlo, ?_, fun k hk => ?_, ?_, ?_⟩⟩⟩, ?_, fun k hk => ?_, ⟨_, _, _, rfl⟩⟩, 0, fun _ _ => ?_⟩
    · simp only at hlo ⊢; omega
    · rw [List.length_append, hn1, Nat.mul_one]
    · simp only; omega
    · cases hk
    · simp only
      rw [lay_below _ _ _ _ _ (by omega), Tr.get_set, if_pos rfl]
    · exact CellsAt.lay _ _ _
    · simp only; omega
    · simp only at hlo ⊢
      rw [lay_below _ _ _ _ _ (by omega), Tr.get_set, if_neg (by omega)]
    · have hfl' : flatC (es.take (n1 + 1)) = es := by rw [← hn1]; exact hfl
      have hbl : Nat.ble (cs ++ es).length (cs ++ es).length = true := Nat.ble_eq_true_of_le (Nat.le_refl _)
      simp only [builtinA, happ, appendX, hel, hu, hs, hb, Ev.opt, isIntD, appN, hlen, hn1, hz, gd, hd, appC, hf1, hok, hfl', hfl1, Prog.run, Prog.new, hbl, St.newH, Nat.add_eq]
theorem Ok.convStr {E : Env} {src dst e : Nat} {lo el : Nat} {cs : List Value} {v : Value} {s : St} (h1 : E.und src = some (.slice e)) (h2 : E.und dst = some .string) (h3 : isU8 E e = true) (h : Grow s.mem lo s.ctr el 1 cs v) (hu : allU8 cs = true) :
    Ok (fun _ => convA E src dst v) s (fun w s' => w = .string (mkStr (bytesV cs)) ∧ Reads s s') := by
  obtain ⟨m, c, l⟩ := s
  rcases h.2 with ⟨rfl, rfl⟩ | ⟨r, n, sy, olds, rfl, a2, a3, a4, a5, a6, a7⟩
  · refine ⟨_, ⟨m, c, l⟩, ⟨rfl, Reads.refl _⟩, 0, fun _ _ => ?_⟩
    simp only [convA, h1, h2, Ev.opt, ck, h3, Prog.run, bytesV]
  · have hrd : rdCells m r n 0 = some cs := by
      have := CellsAt.rd (o := 0) a7
      rw [a2, Nat.mul_one] at this
      exact this
    refine ⟨_, ⟨m, c, ⟨false, Nat.add (Nat.add r 1) 0, n⟩ :: ⟨false, r, 1⟩ :: l⟩, ⟨rfl, rfl, rfl, [⟨false, Nat.add (Nat.add r 1) 0, n⟩, ⟨false, r, 1⟩], rfl, rfl⟩, 0, fun _ _ => ?_⟩
    simp only at a6
    simp only [convA, h1, h2, Ev.opt, ck, h3, Prog.run, St.rd, a6, hrd, hu, gd]
end Go.Ev
namespace Go.Ev
open Go
theorem CellsAt.right {m : Tr Slot} {b : Nat} : ∀ {xs ys : List Value} {k : Nat}, CellsAt m b k (xs ++ ys) → CellsAt m b (k + xs.length) ys
  | [], _, _, h => by simpa using h
  | x :: xs, ys, k, h => by
    have := CellsAt.right (xs := xs) h.2
    rw [show k + (x :: xs).length = k + 1 + xs.length by simp only [List.length_cons]; omega]
    exact this
end Go.Ev
namespace Go.Proofs.YtpljgnjdlciicaaGreatDoor
open Go Go.Ev Go.Proofs
abbrev bl (s : ByteArray) : List UInt8 := s.data.toList
theorem beqB_eq : ∀ (a b : List UInt8), beqB a b = decide (a = b)
  | [], [] => rfl
  | [], _ :: _ => rfl
  | _ :: _, [] => rfl
  | a :: x, b :: y => by
    unfold beqB
    cases h : Nat.beq a.toNat b.toNat with
    | true =>
      have : a = b := UInt8.toNat_inj.1 (Nat.eq_of_beq_eq_true h)
      subst this
      simp [beqB_eq x y]
    | false =>
      have : a ≠ b := fun e => by subst e; simp at h
      simp [this]
theorem bl_mk (l : List UInt8) : bl (mkStr l) = l := rfl
theorem mk_bl (x : ByteArray) : mkStr (bl x) = x := rfl
theorem byteAt_lt (x : ByteArray) (i : Nat) : byteAt x i < 256 := by
  unfold byteAt
  exact UInt8.toNat_lt _
structure Tok where
  kind : Int
  at_ : Int
  en : Int
  text : ByteArray
  t : Int
  n : List Value
  sy : List Value
  l : List Value
def Tok.cells (t : Tok) : List Value := [.int .i64 t.kind, .int .i64 t.at_, .int .i64 t.en, .string t.text, .int .i64 t.t, lstV t.n, lstV t.sy, lstV t.l]
def toksC : List Tok → List Value
  | [] => []
  | t :: ts => t.cells ++ toksC ts
theorem toksC_append : ∀ (a b : List Tok), toksC (a ++ b) = toksC a ++ toksC b
  | [], _ => rfl
  | t :: a, b => by simp only [List.cons_append, toksC, toksC_append a b, List.append_assoc]
theorem toksC_length : ∀ (a : List Tok), (toksC a).length = a.length * 8
  | [] => rfl
  | t :: a => by simp only [toksC, List.length_append, toksC_length a, List.length_cons, Nat.add_mul]; simp [Tok.cells]; omega
theorem appT23 : AppT En 42 50 8 120 := ⟨by kernel_rfl, by kernel_rfl, by kernel_rfl, by kernel_rfl, by omega⟩
theorem sl2 : slots En 20 2 = [none] := by kernel_rfl
theorem sl9 : slots En 20 9 = [none] := by kernel_rfl
theorem appT29 : AppT En 31 9 1 16 := ⟨by kernel_rfl, by kernel_rfl, by kernel_rfl, by kernel_rfl, by omega⟩
def tokV (t : Tok) : Value := .agg ⟨t.cells⟩
def sl34 : List (Option TypeId) := [none, none, none, none, none, some 2, some 9, some 34]
theorem slots34 : slots En 20 50 = sl34 := by kernel_rfl
theorem frzGo_toks : ∀ (ts : List Tok) (k : List Value → Prog), frzGo (frzL En 19) ((List.replicate ts.length ()).flatMap fun _ => sl34) (toksC ts) k = k (toksC ts)
  | [], _ => rfl
  | t :: ts, k => by
    have ih := frzGo_toks ts fun r => k (t.cells ++ r)
    show frzGo (frzL En 19) (sl34 ++ (List.replicate ts.length ()).flatMap fun _ => sl34) (t.cells ++ toksC ts) k = k (t.cells ++ toksC ts)
    rw [← ih]
    rfl
theorem chunk_toks : ∀ (ts : List Tok), chunkC false 8 ts.length (toksC ts) = ts.map tokV
  | [] => rfl
  | t :: ts => by
    have ih := chunk_toks ts
    show Value.agg ⟨(t.cells ++ toksC ts).take 8⟩ :: chunkC false 8 ts.length ((t.cells ++ toksC ts).drop 8) = tokV t :: ts.map tokV
    rw [← ih]
    rfl
theorem frz_toks {s : St} {lo : Nat} {ts : List Tok} {v : Value} {Q : Value → St → Prop} {p : Nat → Value → Prog} (h : Grow s.mem lo s.ctr 50 8 (toksC ts) v)
    (hk : ∀ s', s'.ctr = s.ctr → (∀ k, k < lo → s'.mem.get k = s.mem.get k) → Ok (fun f => p f (lstV (ts.map tokV))) s' Q) : Ok (fun f => frzL En 20 50 v (p f)) s Q := by
  obtain ⟨m, c, l⟩ := s
  have h' := h
  rcases h.2 with ⟨rfl, e⟩ | ⟨r, n, sy, olds, rfl, a2, _⟩
  · have : ts = [] := by
      cases ts with
      | nil => rfl
      | cons t ts => have := congrArg List.length e; rw [toksC_length] at this; simp at this
    subst this
    exact hk _ rfl fun _ _ => rfl
  · rw [toksC_length] at a2
    have hn : ts.length = n := by omega
    by_cases h0 : n = 0
    · subst h0
      have : ts = [] := List.length_eq_zero_iff.1 hn
      subst this
      exact hk _ rfl fun _ _ => rfl
    · obtain ⟨s', f1, f2, f3⟩ := Grow.frz (l := l) h'
      have hb : Nat.beq n 0 = false := by cases n with
        | zero => exact absurd rfl h0
        | succ n => rfl
      have hs : En.size 50 = some 8 := by kernel_rfl
      have h1 : isOneT En 50 = false := by kernel_rfl
      have e2 : ∀ f, frzL En (19 + 1) 50 (.slice (some ⟨r, 0, none⟩) n (capOf n false)) (p f) = .frz r (n * 8) 0 fun vs => frzGo (frzL En 19) ((List.replicate n ()).flatMap fun _ => sl34) vs fun vs => p f (lstV (chunkC false 8 n vs)) := by
        intro f
        unfold frzL
        simp only [hb, hs, Ev.opt, ck, slots34, h1, Nat.mul_eq]
        rfl
      have e3 : ∀ f, frzL En 20 50 (.slice (some ⟨r, 0, none⟩) n (capOf n false)) (p f) = .frz r (n * 8) 0 fun vs => frzGo (frzL En 19) ((List.replicate n ()).flatMap fun _ => sl34) vs fun vs => p f (lstV (chunkC false 8 n vs)) := e2
      simp only [e3]
      refine Ok.frzO f1 ?_
      subst hn
      simp only [frzGo_toks, chunk_toks]
      exact hk s' f2 f3
theorem appT65 : AppT En 122 5 1 1 := ⟨by kernel_rfl, by kernel_rfl, by kernel_rfl, by kernel_rfl, by omega⟩
theorem b65_1 (a : Int) : buildSliceA En 122 1 ((Prod.mk 0 (Value.int IntKind.u8 a)) :: []) = .ret (xlstV (Value.int IntKind.u8 a :: [])) := by kernel_rfl
theorem b65_4 (a b c d : Int) : buildSliceA En 122 4 ((Prod.mk 0 (Value.int IntKind.u8 a)) :: ((Prod.mk 1 (Value.int IntKind.u8 b)) :: ((Prod.mk 2 (Value.int IntKind.u8 c)) :: ((Prod.mk 3 (Value.int IntKind.u8 d)) :: [])))) =
  .ret (xlstV (Value.int IntKind.u8 a :: Value.int IntKind.u8 b :: Value.int IntKind.u8 c :: Value.int IntKind.u8 d :: [])) := by kernel_rfl
theorem allU8_append : ∀ (a b : List Value), allU8 a = true → allU8 b = true → allU8 (a ++ b) = true
  | [], _, _, h => h
  | v :: a, b, h, g => by
    simp only [allU8, Bool.and_eq_true, List.cons_append] at *
    exact ⟨h.1, allU8_append a b h.2 g⟩
theorem conv65 {lo : Nat} {cs : List Value} {v : Value} {s : St} (h : Grow s.mem lo s.ctr 5 1 cs v) (hu : allU8 cs = true) :
    Ok (fun _ => convA En 122 9 v) s (fun w s' => w = .string (mkStr (bytesV cs)) ∧ Reads s s') := Ok.convStr (e := 5) (by kernel_rfl) (by kernel_rfl) (by kernel_rfl) h hu
theorem push_seg {s : St} {lo : Nat} {cs es : List Value} {v : Value} {Q : Value → St → Prop} {k : Nat → Value → Prog} {bs : Prog} {i1 m : Nat} (hbs : bs = .ret (xlstV es)) (h : Buf s lo 5 cs v) (he : ints es = true) (h0 : 0 < es.length) (hn : cs.length + es.length ≤ 100000000) (hm : Nat.testBit m i1 = true)
    (hk : ∀ w s', Buf s' lo 5 (cs ++ es) w → (∃ a b c, w = .slice a b c) → s.ctr ≤ s'.ctr → (∀ k, k < lo → s'.mem.get k = s.mem.get k) → Ok (fun f => k f w) s' Q) :
    Ok (fun f => .seg bs fun v68 s69 _ => .seg (builtinA En Builtin.append (122 :: (122 :: [])) (v :: (v68 :: []))) fun v70 s71 _ => Ev.gdL m (writesOf s71) s71 [⟨i1, writesOf s69, s69⟩] (k f v70)) s Q := by
  subst hbs
  refine Ok.seg (Q1 := fun v s' => v = xlstV es ∧ s' = ⟨s.mem, s.ctr, []⟩) (Ok.ret ⟨rfl, rfl⟩) ?_
  rintro w s1 ⟨rfl, rfl⟩
  have h1 : Buf ⟨s.mem, s.ctr, []⟩ lo 5 cs v := h
  refine Ok.seg (Ok.appM appT65 h1 he h0 (by omega)) ?_
  rintro w s2 ⟨g1, g2, g3, g4⟩
  exact Ok.gdL (by simp [freeL, hm]) (hk w _ g1 g4 g2 g3)
theorem hexOk (c : Nat) (h : c < 256) : (Nat.ble (Nat.succ (Nat.mod c 16)) 16) = true ∧ (Nat.ble (Nat.succ (Int.toNat (IntKind.wrap IntKind.u8 (Int.ofNat (Nat.div c 16))))) 16) = true ∧ (decide ((0 : Int) ≤ (IntKind.wrap IntKind.u8 (Int.ofNat (Nat.div c 16))))) = true := by
  have hm : Nat.mod c 16 < 16 := Nat.mod_lt c (by omega)
  have hd : Nat.div c 16 < 16 := by show c / 16 < 16; omega
  have e : IntKind.wrap IntKind.u8 (Int.ofNat (Nat.div c 16)) = Int.ofNat (Nat.div c 16) := IntWalk.u8_in _ ⟨by simp only [Int.ofNat_eq_natCast]; omega, by simp only [Int.ofNat_eq_natCast]; omega⟩
  rw [e]
  exact ⟨Nat.ble_eq_true_of_le (by omega), Nat.ble_eq_true_of_le (by simp only [Int.ofNat_eq_natCast, Int.toNat_natCast]; omega), decide_eq_true (by simp only [Int.ofNat_eq_natCast]; omega)⟩
theorem bytesV_length : ∀ (l : List Value), (bytesV l).length = l.length
  | [] => rfl
  | a :: l => by simp [bytesV, bytesV_length l]
end Go.Proofs.YtpljgnjdlciicaaGreatDoor
namespace Go.Proofs.YtpljgnjdlciicaaGreatDoor
open Go Go.Ev Go.Proofs
theorem f165_eq (f : Nat) (x0 : ByteArray) (x1 : Int) : callF En (runP En f) 165 [(Value.string x0), (Value.int IntKind.u8 x1)] =
  gd (decide (0 ≤ x1) && decide (x1 < 256)) (.ret (vInt (findByte x1.toNat x0.data.toList 0))) := by kernel_rfl
theorem findByte_spec (c : Nat) : ∀ (l : List UInt8) (i : Nat), (findByte c l i = -1 ∧ ∀ b ∈ l, b.toNat ≠ c) ∨ ∃ j, j < l.length ∧ findByte c l i = Int.ofNat (i + j) ∧ (l.getD j 0).toNat = c ∧ ∀ k, k < j → (l.getD k 0).toNat ≠ c
  | [], i => .inl ⟨rfl, fun b h => by cases h⟩
  | x :: l, i => by
    unfold findByte
    cases h : Nat.beq x.toNat c with
    | true => exact .inr ⟨0, by simp, rfl, by simpa using Nat.eq_of_beq_eq_true h, fun k hk => by omega⟩
    | false =>
      have hx : x.toNat ≠ c := fun e => by subst e; simp at h
      rcases findByte_spec c l (i + 1) with ⟨a, b⟩ | ⟨j, a, b, d, e⟩
      · refine .inl ⟨a, fun y hy => ?_⟩
        rcases List.mem_cons.1 hy with rfl | hy
        · exact hx
        · exact b y hy
      · refine .inr ⟨j + 1, by simp; omega, ?_, by simpa using d, fun k hk => ?_⟩
        · simp only [Nat.add_eq]; rw [b]; congr 1; omega
        · cases k with
          | zero => simpa using hx
          | succ k => simpa using e k (by omega)
theorem indexByte_ok (s : St) (x : ByteArray) (c : Int) (h : 0 ≤ c ∧ c < 256) : Ok (fun f => callF En (runP En f) 91 [.string x, .int .u8 c]) s (fun v s' => v = .int .i64 (findByte c.toNat (bl x) 0) ∧ s' = s) := by
  refine Ok.step (fun f => f91_eq f x c) ?_
  refine Ok.call (Q1 := fun v s' => v = .int .i64 (findByte c.toNat (bl x) 0) ∧ s' = s) ?_ ?_
  · refine Ok.step (fun f => f128_eq f x c) ?_
    refine Ok.call (Q1 := fun v s' => v = .int .i64 (findByte c.toNat (bl x) 0) ∧ s' = s) ?_ ?_
    · simp only [f165_eq]
      exact Ok.g (by simp [h.1, h.2]) (Ok.ret ⟨rfl, rfl⟩)
    · rintro v s1 ⟨rfl, rfl⟩
      exact Ok.t rfl (Ok.ret ⟨rfl, rfl⟩)
  · rintro v s1 ⟨rfl, rfl⟩
    exact Ok.t rfl (Ok.ret ⟨rfl, rfl⟩)
def sufB (a b : List UInt8) : Bool := decide (b.length ≤ a.length) && decide (a.drop (a.length - b.length) = b)
theorem toInt_sub (a b : Nat) (h : b ≤ a) (ha : a ≤ 4611686018427387904) : IntKind.i64.wrap ((Int.ofNat a) + (Int.negOfNat b)) = Int.ofNat (a - b) := by
  rw [wrap_in _ (by simp only [Int.ofNat_eq_natCast, Int.negOfNat_eq]; omega) (by simp only [Int.ofNat_eq_natCast, Int.negOfNat_eq]; omega)]
  simp only [Int.ofNat_eq_natCast, Int.negOfNat_eq]; omega
theorem hasSuffix_ok (s : St) (a b : ByteArray) (ha : (bl a).length ≤ 4611686018427387904) : Ok (fun f => callF En (runP En f) 197 [.string a, .string b]) s (fun v s' => v = .bool (sufB (bl a) (bl b)) ∧ s' = s) := by
  refine Ok.step (fun f => f197_eq f a b) ?_
  refine Ok.c (fun h => ?_) (fun h => ?_)
  · have h := of_decide_eq_true h
    simp only [Int.ofNat_eq_natCast] at h
    have hle : (bl b).length ≤ (bl a).length := by simp only [bl]; omega
    have e := toInt_sub _ _ hle ha
    simp only [bl] at hle ha e
    refine Ok.t (decide_eq_true (by rw [e]; simp only [Int.ofNat_eq_natCast]; omega)) ?_
    refine Ok.t (by rw [e]; simp only [Bool.and_eq_true]; exact ⟨Nat.ble_eq_true_of_le (by simp), Nat.ble_eq_true_of_le (by omega)⟩) ?_
    refine Ok.ret ⟨?_, rfl⟩
    rw [e, Int.ofNat_eq_natCast, Int.toNat_natCast, List.take_of_length_le (by rw [List.length_drop]; omega), beqB_eq]
    simp only [sufB, bl, decide_eq_true hle, Bool.true_and]
  · have h := of_decide_eq_false h
    simp only [Int.ofNat_eq_natCast] at h
    refine Ok.ret ⟨?_, rfl⟩
    simp only [sufB, bl, decide_eq_false (show ¬ b.data.toList.length ≤ a.data.toList.length by omega), Bool.false_and]
def cutSuf (a b : List UInt8) : List UInt8 := if sufB a b then a.take (a.length - b.length) else a
def mk (l : List UInt8) : ByteArray := mkStr l
theorem cutSuffix_ok (s : St) (a b : ByteArray) (ha : (bl a).length ≤ 4611686018427387904) : Ok (fun f => callF En (runP En f) 121 [.string a, .string b]) s
    (fun v s' => v = .tuple ⟨[.string (mkStr (cutSuf (bl a) (bl b))), .bool (sufB (bl a) (bl b))]⟩ ∧ s' = s) := by
  refine Ok.step (fun f => f121_eq f a b) ?_
  refine Ok.call (Q1 := fun v s' => v = .tuple ⟨[.string (mkStr (cutSuf (bl a) (bl b))), .bool (sufB (bl a) (bl b))]⟩ ∧ s' = s) ?_ ?_
  · refine Ok.step (fun f => f154_eq f a b) ?_
    refine Ok.call (hasSuffix_ok s a b ha) ?_
    rintro v s1 ⟨rfl, rfl⟩
    refine Ok.t rfl ?_
    simp only [boolOf]
    refine Ok.c (fun h => ?_) (fun h => ?_)
    · have h : sufB (bl a) (bl b) = false := by simpa using h
      refine Ok.ret ⟨?_, rfl⟩
      simp only [cutSuf, h, Bool.false_eq_true, if_false]
      rfl
    · have h : sufB (bl a) (bl b) = true := by simpa using h
      have hle : (bl b).length ≤ (bl a).length := by
        simp only [sufB, Bool.and_eq_true, decide_eq_true_eq] at h
        exact h.1
      have e := toInt_sub _ _ hle ha
      simp only [bl] at hle ha e h
      refine Ok.t (decide_eq_true (by rw [e]; simp only [Int.ofNat_eq_natCast]; omega)) ?_
      refine Ok.t (by rw [e]; simp only [Bool.and_eq_true]; exact ⟨Nat.ble_eq_true_of_le (by simp), Nat.ble_eq_true_of_le (by simp)⟩) ?_
      refine Ok.ret ⟨?_, rfl⟩
      rw [e]
      simp only [cutSuf, bl, h, if_true, Int.ofNat_eq_natCast, Int.toNat_natCast, Nat.sub_zero]
  · rintro v s1 ⟨rfl, rfl⟩
    exact Ok.t rfl (Ok.ret ⟨rfl, rfl⟩)
def preB (a b : List UInt8) : Bool := decide (b.length ≤ a.length) && decide (a.take b.length = b)
theorem hasPrefix_ok (s : St) (a b : ByteArray) : Ok (fun f => callF En (runP En f) 239 [.string a, .string b]) s (fun v s' => v = .bool (preB (bl a) (bl b)) ∧ s' = s) := by
  refine Ok.step (fun f => f239_eq f a b) ?_
  refine Ok.c (fun h => ?_) (fun h => ?_)
  · have h := of_decide_eq_true h
    simp only [Int.ofNat_eq_natCast] at h
    refine Ok.t (by simp only [Bool.and_eq_true]; exact ⟨Nat.ble_eq_true_of_le (by simp), Nat.ble_eq_true_of_le (by omega)⟩) ?_
    refine Ok.ret ⟨?_, rfl⟩
    rw [beqB_eq]
    simp only [preB, bl, decide_eq_true (show b.data.toList.length ≤ a.data.toList.length by omega), Bool.true_and, Nat.sub_zero]
  · have h := of_decide_eq_false h
    simp only [Int.ofNat_eq_natCast] at h
    refine Ok.ret ⟨?_, rfl⟩
    simp only [preB, bl, decide_eq_false (show ¬ b.data.toList.length ≤ a.data.toList.length by omega), Bool.false_and]
def cutPre (a b : List UInt8) : List UInt8 := if preB a b then a.drop b.length else a
theorem cutPrefix_ok (s : St) (a b : ByteArray) : Ok (fun f => callF En (runP En f) 162 [.string a, .string b]) s
    (fun v s' => v = .tuple ⟨[.string (mkStr (cutPre (bl a) (bl b))), .bool (preB (bl a) (bl b))]⟩ ∧ s' = s) := by
  refine Ok.step (fun f => f162_eq f a b) ?_
  refine Ok.call (Q1 := fun v s' => v = .tuple ⟨[.string (mkStr (cutPre (bl a) (bl b))), .bool (preB (bl a) (bl b))]⟩ ∧ s' = s) ?_ ?_
  · refine Ok.step (fun f => f202_eq f a b) ?_
    refine Ok.call (hasPrefix_ok s a b) ?_
    rintro v s1 ⟨rfl, rfl⟩
    refine Ok.t rfl ?_
    simp only [boolOf]
    refine Ok.c (fun h => ?_) (fun h => ?_)
    · have h : preB (bl a) (bl b) = false := by simpa using h
      refine Ok.ret ⟨?_, rfl⟩
      simp only [cutPre, h, Bool.false_eq_true, if_false]
      rfl
    · have h : preB (bl a) (bl b) = true := by simpa using h
      have hle : (bl b).length ≤ (bl a).length := by
        simp only [preB, Bool.and_eq_true, decide_eq_true_eq] at h
        exact h.1
      simp only [bl] at hle h
      refine Ok.t (by simp only [Bool.and_eq_true]; exact ⟨Nat.ble_eq_true_of_le hle, Nat.ble_eq_true_of_le (by omega)⟩) ?_
      refine Ok.ret ⟨?_, rfl⟩
      simp only [cutPre, bl, h, if_true]
      rw [List.take_of_length_le (by rw [List.length_drop]; omega)]
  · rintro v s1 ⟨rfl, rfl⟩
    exact Ok.t rfl (Ok.ret ⟨rfl, rfl⟩)
end Go.Proofs.YtpljgnjdlciicaaGreatDoor
namespace Go.Proofs.YtpljgnjdlciicaaGreatDoor
open Go Go.Ev Go.Proofs
structure GhD where
  m0 : Tr Slot
  hi0 : Nat
abbrev Gh := Inhabited GhD
instance (priority := low) ghNone : Gh := ⟨⟨.nil, 0⟩⟩
def Gh.m0 [Gh] : Tr Slot := (default : GhD).m0
def Gh.hi0 [Gh] : Nat := (default : GhD).hi0
def Lib [Gh] (m : Tr Slot) (n : Nat) : Prop := ((∃ t x, Cell m 327681 0 (.iface t x)) ∧ (∃ t x, Cell m 393217 0 (.iface t x)) ∧ 393219 ≤ n) ∧ Gh.hi0 ≤ n ∧ ∀ k, k < Gh.hi0 → m.get k = Gh.m0.get k
theorem Lib.congr [Gh] {m m' : Tr Slot} {n n' : Nat} (h : Lib m n) (hn : n ≤ n') (e : ∀ k, k < n → m'.get k = m.get k) : Lib m' n' := by
  obtain ⟨⟨⟨t, x, h1⟩, ⟨t', x', h2⟩, h3⟩, h4, h5⟩ := h
  exact ⟨⟨⟨t, x, Cell.congr h1 (e _ (by omega)) (e _ (by omega))⟩, ⟨t', x', Cell.congr h2 (e _ (by omega)) (e _ (by omega))⟩, by omega⟩, by omega, fun k hk => by rw [e k (by omega), h5 k hk]⟩
theorem Lib.fresh [Gh] {s s' : St} (h : Lib s.mem s.ctr) (g : Fresh s s') : Lib s'.mem s'.ctr := h.congr g.1 g.2
theorem rep_length (n : Nat) : (rep ((Value.int IntKind.u8 (0 : Int)) :: []) n).length = n := by
  induction n with
  | zero => rfl
  | succ n ih => simp [rep, ih]
theorem clone_ok (s : St) (x : ByteArray) (hx : (bl x).length ≤ 1000000) : Ok (fun f => callF En (runP En f) 262 [.string x]) s (fun v s' => v = .string x ∧ Fresh s s' ∧ Above s.ctr s s') := by
  refine Ok.step (fun f => f262_eq f x) ?_
  refine Ok.c (fun h => ?_) (fun h => ?_)
  · have h := of_decide_eq_true h
    have h : bl x = [] := List.length_eq_zero_iff.1 (by simp only [Int.ofNat_eq_natCast] at h; simp only [bl]; omega)
    refine Ok.ret ⟨?_, Fresh.refl s, [], rfl, fun a ha => by cases ha⟩
    exact congrArg Value.string ((by rw [← h]; exact mk_bl x))
  · have h := of_decide_eq_false h
    simp only [Int.ofNat_eq_natCast] at h
    simp only [bl] at hx
    refine Ok.g rfl (Ok.g rfl (Ok.g (decide_eq_true ⟨Nat.le_refl _, ?_, ?_⟩) ?_))
    · simp only [Int.ofNat_eq_natCast, Int.toNat_natCast]
      rw [show TypeInfo.bytes Proofs.Tryz.t5 = 1 by kernel_rfl, Nat.one_mul]
      exact Nat.le_trans hx (by decide)
    · simp only [Int.ofNat_eq_natCast, Int.toNat_natCast]
      exact Nat.le_trans hx (by decide)
    refine Ok.callP (Ok.newF rfl) ?_
    rintro v s1 ⟨rfl, e1, e2, e3, e4, e5⟩
    rw [rep_length] at e1 e2
    simp only [Int.ofNat_eq_natCast, Int.toNat_natCast]
    refine Ok.callP (Ok.copyStr (e := 5) (by kernel_rfl) (by kernel_rfl) e2 (rep_length _) rfl (by omega)) ?_
    rintro v s2 ⟨rfl, g1, g2, g3, g4, g5⟩
    refine Ok.t rfl ?_
    have ei : ∀ (n c cap : Nat) (k : Value → Prog), indexAddrK En 122 (Value.slice (some ⟨c, 0, none⟩) n cap) (Value.int IntKind.i64 (0 : Int)) k = gc (Nat.blt 0 n && Nat.blt 0 1) (k (.pointer (some ⟨c, Nat.add 0 (Nat.mul 0 1), none⟩))) := fun _ _ _ _ => by kernel_rfl
    simp only [ei]
    refine Ok.t (by simp only [Bool.and_eq_true]; exact ⟨Nat.ble_eq_true_of_le (by omega), rfl⟩) ?_
    have el : ∀ (n c cap : Nat), builtinA En Builtin.len (122 :: []) (Value.slice (some ⟨c, 0, none⟩) n cap :: []) = .ret (vInt n) := fun _ _ _ => by kernel_rfl
    simp only [el]
    refine Ok.callP (Q1 := fun v s' => v = vInt (x.data.toList.length : Nat) ∧ s' = s2) (Ok.ret ⟨rfl, rfl⟩) ?_
    rintro v s3 ⟨rfl, rfl⟩
    refine Ok.t rfl ?_
    simp only [intOf, vInt]
    refine Ok.callP (Ok.unsafeStr (e := 5) (c := s.ctr) (n := x.data.toList.length) (l := x.data.toList) (by kernel_rfl) (by kernel_rfl) (by rw [g2]; exact e2) rfl (by omega) (by omega) g3) ?_
    rintro v s4 ⟨rfl, i1, i2, i3⟩
    refine Ok.ret ⟨rfl, ⟨by omega, fun k hk => ?_⟩, (e5.trans (g5.trans i3))⟩
    rw [i2 k (by omega), g4 k (by omega), e4 k hk]
theorem synErr_ok [Gh] (s : St) (a x : ByteArray) (hx : (bl x).length ≤ 1000000) (hl : Lib s.mem s.ctr) : Ok (fun f => callF En (runP En f) 243 [.string a, .string x]) s (fun v s' => (∃ p, v = .pointer (some p)) ∧ Fresh s s') := by
  obtain ⟨⟨⟨t, y, h1⟩, _, h3⟩, _, _⟩ := hl
  have hs : scal En 127 = true := by kernel_rfl
  refine Ok.step (fun f => f243_eq f a x) ?_
  refine Ok.seg (clone_ok ⟨s.mem, s.ctr, []⟩ x hx) ?_
  rintro v s1 ⟨rfl, f1, l1, a1, a2⟩
  simp only at a1 a2
  refine Ok.t rfl ?_
  have hc : Cell s1.mem 327681 0 (.iface t y) := Cell.congr h1 (f1.2 _ (by simp only; omega)) (f1.2 _ (by simp only; omega))
  refine Ok.segLoad hs hc fun s2 r2 => ?_
  refine Ok.gdL ?_ ?_
  · rw [a1, List.append_nil]
    simp only [freeL, Bool.and_true, writesOf]
    rw [Bool.or_eq_true]
    refine .inr (apart_above (c := s.ctr) a2 ?_)
    intro b hb
    simp only [List.mem_cons, List.mem_nil_iff, or_false] at hb
    rcases hb with rfl | rfl <;> simp only <;> omega
  have eb : ∀ (a b : ByteArray) (t : Nat) (y : Value), buildA En 277 ((Prod.mk 0 (Value.string a)) :: ((Prod.mk 1 (Value.string b)) :: ((Prod.mk 2 (.iface t y)) :: []))) = gd Bool.true (.ret (.agg ⟨[.string a, .string b, .iface t y]⟩)) := fun _ _ _ _ => by kernel_rfl
  simp only [eb]
  refine Ok.seg (Q1 := fun v s' => v = .agg ⟨[.string a, .string (strOf (Value.string x)), .iface t y]⟩ ∧ s' = ⟨s2.mem, s2.ctr, []⟩) (Ok.g rfl (Ok.ret ⟨rfl, rfl⟩)) ?_
  rintro v s3 ⟨rfl, rfl⟩
  refine Ok.gdL (by kernel_rfl) ?_
  refine Ok.seg (Q1 := fun v s' => (v = itP s2.ctr ∧ Fresh s2 s')) (Ok.g rfl ?_) ?_
  · refine Ok.mono (Ok.newF rfl) ?_
    rintro v s' ⟨rfl, e1, _, _, e4, _⟩
    exact ⟨rfl, by simp only at e1; omega, e4⟩
  rintro v s4 ⟨rfl, f4⟩
  refine Ok.gdL (by kernel_rfl) ?_
  refine Ok.t rfl (Ok.ret ⟨⟨_, rfl⟩, ?_⟩)
  refine ⟨?_, fun k hk => ?_⟩
  · have := f1.1; have := f4.1; have := r2.2.1; simp only at *; omega
  · have hk1 : k < s1.ctr := Nat.lt_of_lt_of_le hk f1.1
    have hk2 : k < s2.ctr := by rw [r2.2.1]; exact hk1
    simp only
    rw [f4.2 k hk2, r2.1]
    exact f1.2 k hk
theorem rngErr_ok [Gh] (s : St) (a x : ByteArray) (hx : (bl x).length ≤ 1000000) (hl : Lib s.mem s.ctr) : Ok (fun f => callF En (runP En f) 244 [.string a, .string x]) s (fun v s' => (∃ p, v = .pointer (some p)) ∧ Fresh s s') := by
  obtain ⟨⟨_, ⟨t, y, h1⟩, h3⟩, _, _⟩ := hl
  have hs : scal En 127 = true := by kernel_rfl
  refine Ok.step (fun f => f244_eq f a x) ?_
  refine Ok.seg (clone_ok ⟨s.mem, s.ctr, []⟩ x hx) ?_
  rintro v s1 ⟨rfl, f1, l1, a1, a2⟩
  simp only at a1 a2
  refine Ok.t rfl ?_
  have hc : Cell s1.mem 393217 0 (.iface t y) := Cell.congr h1 (f1.2 _ (by simp only; omega)) (f1.2 _ (by simp only; omega))
  refine Ok.segLoad hs hc fun s2 r2 => ?_
  refine Ok.gdL ?_ ?_
  · rw [a1, List.append_nil]
    simp only [freeL, Bool.and_true, writesOf]
    rw [Bool.or_eq_true]
    refine .inr (apart_above (c := s.ctr) a2 ?_)
    intro b hb
    simp only [List.mem_cons, List.mem_nil_iff, or_false] at hb
    rcases hb with rfl | rfl <;> simp only <;> omega
  have eb : ∀ (a b : ByteArray) (t : Nat) (y : Value), buildA En 277 ((Prod.mk 0 (Value.string a)) :: ((Prod.mk 1 (Value.string b)) :: ((Prod.mk 2 (.iface t y)) :: []))) = gd Bool.true (.ret (.agg ⟨[.string a, .string b, .iface t y]⟩)) := fun _ _ _ _ => by kernel_rfl
  simp only [eb]
  refine Ok.seg (Q1 := fun v s' => v = .agg ⟨[.string a, .string (strOf (Value.string x)), .iface t y]⟩ ∧ s' = ⟨s2.mem, s2.ctr, []⟩) (Ok.g rfl (Ok.ret ⟨rfl, rfl⟩)) ?_
  rintro v s3 ⟨rfl, rfl⟩
  refine Ok.gdL (by kernel_rfl) ?_
  refine Ok.seg (Q1 := fun v s' => (v = itP s2.ctr ∧ Fresh s2 s')) (Ok.g rfl ?_) ?_
  · refine Ok.mono (Ok.newF rfl) ?_
    rintro v s' ⟨rfl, e1, _, _, e4, _⟩
    exact ⟨rfl, by simp only at e1; omega, e4⟩
  rintro v s4 ⟨rfl, f4⟩
  refine Ok.gdL (by kernel_rfl) ?_
  refine Ok.t rfl (Ok.ret ⟨⟨_, rfl⟩, ?_⟩)
  refine ⟨?_, fun k hk => ?_⟩
  · have := f1.1; have := f4.1; have := r2.2.1; simp only at *; omega
  · have hk1 : k < s1.ctr := Nat.lt_of_lt_of_le hk f1.1
    have hk2 : k < s2.ctr := by rw [r2.2.1]; exact hk1
    simp only
    rw [f4.2 k hk2, r2.1]
    exact f1.2 k hk
end Go.Proofs.YtpljgnjdlciicaaGreatDoor
namespace Go.Proofs.YtpljgnjdlciicaaGreatDoor
open Go Go.Ev Go.Proofs
def lxC (str : ByteArray) (a : Int) (l : Value) (err bad : Int) : List Value := [.string str, .int .i64 a, l, .int .i64 err, .int .i64 bad]
def LXh [Gh] (m : Tr Slot) (hi : Nat) (b : Nat) (str : ByteArray) (a : Int) (ts : List Tok) (err bad : Int) : Prop :=
  ∃ l, Row m b (lxC str a l err bad) ∧ Grow m (b + 6) hi 50 8 (toksC ts) l ∧ b + 6 ≤ hi ∧ Lib m b
abbrev LX [Gh] (s : St) (b : Nat) (str : ByteArray) (a : Int) (ts : List Tok) (err bad : Int) : Prop := LXh s.mem s.ctr b str a ts err bad
theorem LXh.frame [Gh] {m m' : Tr Slot} {hi hi' b : Nat} {str : ByteArray} {a : Int} {ts : List Tok} {err bad : Int} (h : LXh m hi b str a ts err bad) (hc : hi ≤ hi') (e : ∀ k, k < hi → m'.get k = m.get k) : LXh m' hi' b str a ts err bad := by
  obtain ⟨l, h1, h2, h3, h4⟩ := h
  exact ⟨l, h1.congr fun j _ hj => e j (by simp [lxC] at hj; omega), h2.congr hc fun j _ hj => e j hj, by omega, h4.congr (Nat.le_refl b) fun j hj => e j (by omega)⟩
section
variable {s : St} {b : Nat} {str : ByteArray} {a : Int} {ts : List Tok} {err bad : Int}
theorem LXh.c0 [Gh] (h : LX s b str a ts err bad) : Cell s.mem b 0 (.string str) := by
  obtain ⟨l, h, _⟩ := h
  exact h.cell 0 rfl
theorem LXh.c1 [Gh] (h : LX s b str a ts err bad) : Cell s.mem b 1 (.int .i64 a) := by
  obtain ⟨l, h, _⟩ := h
  exact h.cell 1 rfl
theorem LXh.c3 [Gh] (h : LX s b str a ts err bad) : Cell s.mem b 3 (.int .i64 err) := by
  obtain ⟨l, h, _⟩ := h
  exact h.cell 3 rfl
theorem LXh.c4 [Gh] (h : LX s b str a ts err bad) : Cell s.mem b 4 (.int .i64 bad) := by
  obtain ⟨l, h, _⟩ := h
  exact h.cell 4 rfl
theorem LXh.free [Gh] (h : LX s b str a ts err bad) : Free s.mem b 5 := by
  obtain ⟨l, h, _⟩ := h
  exact h.1
theorem LXh.ctr [Gh] (h : LX s b str a ts err bad) : b + 6 ≤ s.ctr := by
  obtain ⟨l, _, _, h, _⟩ := h
  exact h
theorem LXh.lib [Gh] (h : LX s b str a ts err bad) : Lib s.mem s.ctr := by
  obtain ⟨l, _, _, h, g⟩ := h
  exact g.congr (by omega) fun _ _ => rfl
theorem LXh.frameX [Gh] {s' : St} (h : LX s b str a ts err bad) (hc : s.ctr ≤ s'.ctr) (e : ∀ k, k < s.ctr → s'.mem.get k = s.mem.get k) : LX s' b str a ts err bad := by
  obtain ⟨l, h1, h2, h3, h4⟩ := h
  exact ⟨l, h1.congr fun j _ hj => e j (by simp [lxC] at hj; omega), h2.congr hc fun j _ hj => e j hj, by omega, h4.congr (Nat.le_refl b) fun j hj => e j (by omega)⟩
theorem LXh.fresh [Gh] {s' : St} (h : LX s b str a ts err bad) (e : Fresh s s') : LX s' b str a ts err bad := h.frameX e.1 e.2
theorem LXh.reads [Gh] {s' : St} (h : LX s b str a ts err bad) (r : Reads s s') : LX s' b str a ts err bad := h.frameX (by rw [r.2.1]; exact Nat.le_refl _) fun k _ => by rw [r.1]
theorem setAt_ok [Gh] (h : LX s b str a ts err bad) (a' : Int) :
    Ok (fun _ => storeT En 3 b 1 (.int .i64 a')) s (fun w s' => w = U ∧ LX s' b str a' ts err bad ∧ s'.ctr = s.ctr ∧ ∀ k, k ≠ b + 2 → s'.mem.get k = s.mem.get k) := by
  obtain ⟨l, h1, h2, h3, h6⟩ := h
  refine Ok.mono (Ok.storeCell (by kernel_rfl) rfl h1 (by simp [lxC]) rfl) ?_
  rintro w s' ⟨rfl, e1, e2, e3⟩
  refine ⟨rfl, ⟨l, e2, h2.congr (by omega) fun j h4 h5 => e3 j (by omega), by omega, h6.congr (Nat.le_refl b) fun j hj => e3 j (by omega)⟩, e1, fun k hk => e3 k (by omega)⟩
theorem fail_lx [Gh] (h : LX s b str a ts err bad) (e p : Int) :
    Ok (fun f => callF En (runP En f) 38 [.pointer (some ⟨b, 0, none⟩), .int .i64 e, .int .i64 p]) s (fun v s' => v = .tuple ⟨[]⟩ ∧ LX s' b str a ts (if err = 0 then e else err) (if err = 0 then p else bad) ∧ s'.ctr = s.ctr ∧ ∀ k, k ≠ b + 4 → k ≠ b + 5 → s'.mem.get k = s.mem.get k) := by
  refine Ok.mono (fail_ok s b e p err h.c3 h.free) ?_
  rintro v s' ⟨rfl, h1, h2⟩
  refine ⟨rfl, ?_, h1, fun k k1 k2 => ?_⟩
  · by_cases he : err = 0
    · rw [if_pos he] at h2
      rw [if_pos he, if_pos he]
      obtain ⟨l, g1, g2, g3, g4⟩ := h
      refine ⟨l, ?_, g2.congr (by omega) fun j h4 h5 => ?_, by omega, g4.congr (Nat.le_refl b) fun j hj => by rw [h2, Tr.get_set, if_neg (by omega), Tr.get_set, if_neg (by omega)]⟩
      · have := (g1.set 3 (.int .i64 e)).set 4 (.int .i64 p)
        rw [h2]
        exact this
      · rw [h2, Tr.get_set, if_neg (by omega), Tr.get_set, if_neg (by omega)]
    · rw [if_neg he] at h2
      rw [if_neg he, if_neg he]
      exact h.frameX (by omega) fun k _ => by rw [h2]
  · rw [h2]
    split
    · rw [Tr.get_set, if_neg (by omega), Tr.get_set, if_neg (by omega)]
    · rfl
theorem add_ok [Gh] (h : LX s b str a ts err bad) (kind p : Int) (text : ByteArray) (t : Int) (n sy l : List Value) (hl : ts.length ≤ 20000) :
    Ok (fun f => callF En (runP En f) 88 [.pointer (some ⟨b, 0, none⟩), .int .i64 kind, .int .i64 p, .string text, .agg ⟨[.int .i64 t, lstV n, lstV sy, lstV l]⟩]) s
      (fun v s' => v = .tuple ⟨[]⟩ ∧ LX s' b str a (ts ++ [⟨kind, p, a, text, t, n, sy, l⟩]) err bad) := by
  obtain ⟨x, h1, h2, h3, h4⟩ := h
  have t3 : scal En 3 = true := by kernel_rfl
  have t23 : scal En 42 = true := by kernel_rfl
  refine Ok.step (fun f => f88_eq f b kind p text t n sy l) ?_
  refine Ok.g rfl ?_
  refine Ok.callP (Ok.new rfl) ?_
  rintro v s1 ⟨rfl, e1, e2, e3⟩
  refine Ok.t rfl ?_
  have g1 : Row s1.mem b (lxC str a x err bad) := h1.congr fun j _ hj => e3 j (by simp [lxC] at hj; omega)
  have g2 : Grow s1.mem (b + 6) s.ctr 50 8 (toksC ts) x := h2.congr (Nat.le_refl _) fun j _ hj => e3 j hj
  refine Ok.segLoad t23 (g1.cell 2 rfl) fun s2 r2 => ?_
  refine Ok.segLoad t3 ((g1.cell 1 rfl).reads r2) fun s3 r3 => ?_
  have r3 := r2.trans r3
  refine Ok.gdL (by kernel_rfl) ?_
  refine Ok.t rfl ?_
  refine Ok.segLoadA (n := 4) (by kernel_rfl) (by kernel_rfl) rfl ?_ (show CellsAt s3.mem s.ctr (s.ctr + 1 + 0) [.int .i64 t, lstV n, lstV sy, lstV l] by rw [r3.1]; exact e2.2) fun s4 r4 => ?_
  · obtain ⟨el, ex, z, sy', hf⟩ := e2.1
    exact ⟨_, by rw [r3.1]; exact hf⟩
  have r4 := r3.trans r4
  refine Ok.gdL (by kernel_rfl) ?_
  refine Ok.t rfl ?_
  refine Ok.g rfl ?_
  have eb : ∀ f : Nat, buildSliceA En 42 1 [(0, Value.agg ⟨[.int .i64 kind, .int .i64 p, .int .i64 a, .string text, .int .i64 t, lstV n, lstV sy, lstV l]⟩)] = .ret (xlstV [Value.agg ⟨[.int .i64 kind, .int .i64 p, .int .i64 a, .string text, .int .i64 t, lstV n, lstV sy, lstV l]⟩]) := fun _ => by kernel_rfl
  refine Ok.seg (Q1 := fun v s' => v = xlstV [Value.agg ⟨[.int .i64 kind, .int .i64 p, .int .i64 a, .string text, .int .i64 t, lstV n, lstV sy, lstV l]⟩] ∧ s'.mem = s4.mem ∧ s'.ctr = s4.ctr ∧ s'.log = []) ?_ ?_
  · refine Ok.mono (Q1 := fun v s' => v = xlstV [Value.agg ⟨[.int .i64 kind, .int .i64 p, .int .i64 a, .string text, .int .i64 t, lstV n, lstV sy, lstV l]⟩] ∧ s' = ⟨s4.mem, s4.ctr, []⟩) ?_ ?_
    · exact ⟨_, _, ⟨rfl, rfl⟩, 0, fun f _ => by
        show (buildSliceA En 42 1 [(0, Value.agg ⟨[.int .i64 kind, .int .i64 p, .int .i64 a, .string text, .int .i64 t, lstV n, lstV sy, lstV l]⟩)]).run _ = _
        rw [eb f]; rfl⟩
    · rintro v s' ⟨rfl, rfl⟩
      exact ⟨rfl, rfl, rfl, rfl⟩
  rintro v s5 ⟨rfl, m5, c5, l5⟩
  refine Ok.gdL (by rw [l5]; kernel_rfl) ?_
  have g5 : Grow s5.mem (b + 6) s5.ctr 50 8 (toksC ts) x := g2.congr (by rw [c5, r4.2.1]; omega) fun j _ _ => by rw [m5, r4.1]
  have c5' : s5.ctr = s1.ctr := by rw [c5, r4.2.1]
  refine Ok.seg (Ok.app (s := ⟨s5.mem, s5.ctr, []⟩) appT23 g5 rfl rfl (by simp only; omega) ?_) ?_
  · rw [toksC_length]; omega
  rintro w s6 ⟨a1, a2, a3⟩
  simp only at a2 a3
  refine Ok.gdL (by kernel_rfl) ?_
  have g6 : Row s6.mem b (lxC str a x err bad) := g1.congr fun j _ hj => by
    rw [a3 j (by simp [lxC] at hj; omega), m5, r4.1]
  have hw := a1.one
  refine Ok.seg (Ok.storeCell (s := ⟨s6.mem, s6.ctr, []⟩) (o := 2) (by kernel_rfl) hw.2 g6 (by simp [lxC]) hw.1) ?_
  rintro v s7 ⟨rfl, b1, b2, b3⟩
  simp only at b1 b3
  refine Ok.gdL (by kernel_rfl) ?_
  refine Ok.ret ⟨rfl, w, b2, ?_, ?_, h4.congr (Nat.le_refl b) fun j hj => ?_⟩
  · rw [toksC_append]
    exact a1.congr (by simp only; omega) fun j h4 _ => b3 j (by omega)
  · simp only; omega
  · simp only
    rw [b3 j (by omega), a3 j (by omega), m5, r4.1, e3 j (by omega)]
end
end Go.Proofs.YtpljgnjdlciicaaGreatDoor
namespace Go.Proofs.YtpljgnjdlciicaaGreatDoor
open Go Go.Ev Go.Proofs
def setL (P : Nat → Bool) : List Value := (List.range 256).map fun c => Value.bool (P c)
theorem setL_length (P : Nat → Bool) : (setL P).length = 256 := by simp [setL]
theorem setL_get (P : Nat → Bool) (c : Nat) (h : c < 256) : (setL P)[c]? = some (.bool (P c)) := by simp [setL, h]
theorem setL_set (P : Nat → Bool) (k : Nat) (h : k < 256) : (setL P).set k (.bool true) = setL fun c => decide (c = k) || P c := by
  apply List.ext_getElem?
  intro i
  rw [List.getElem?_set, setL_length]
  by_cases hi : i < 256
  · rw [setL_get _ _ hi]
    by_cases e : k = i
    · subst e; rw [if_pos rfl, if_pos hi, setL_get _ _ hi]; simp
    · rw [if_neg e, setL_get _ _ hi, decide_eq_false (fun x => e x.symm), Bool.false_or]
  · rw [List.getElem?_eq_none (l := setL fun c => decide (c = k) || P c) (by rw [setL_length]; omega)]
    by_cases e : k = i
    · subst e; simp [hi]
    · rw [if_neg e, List.getElem?_eq_none (by rw [setL_length]; omega)]
theorem setL_one (P : Nat → Bool) : (setL P).all oneC = true := by simp [setL, oneC]
def memB (l : List UInt8) (c : Nat) : Bool := l.any fun b => decide (b.toNat = c)
theorem drop_cons (l : List UInt8) (i : Nat) (h : i < l.length) : l.drop i = l.getD i 0 :: l.drop (i + 1) := by
  rw [List.drop_eq_getElem_cons h]
  simp [List.getD, h]
theorem ascii_loop (x : ByteArray) (hx : (bl x).length ≤ 100) (ha : ∀ i, byteAt x i < 128) (b : Nat) : ∀ (m i : Nat) (P : Nat → Bool) (s : St), i + m = (bl x).length → Row s.mem b (setL P) → b < s.ctr →
    Ok (fun f => p157_2 f x b 0 (i : Int)) s (fun v s' => v = .tuple ⟨[.agg ⟨setL fun c => P c || memB ((bl x).drop i) c⟩, .bool true]⟩ ∧ s'.ctr = s.ctr ∧ ∀ k, (k < b ∨ b + 257 ≤ k) → s'.mem.get k = s.mem.get k) := by
  intro m
  induction m with
  | zero =>
    intro i P s hm hr hb
    have e : (fun c => P c || memB ((bl x).drop i) c) = P := by
      funext c
      rw [List.drop_eq_nil_of_le (by omega)]
      simp [memB]
    rw [e]
    refine Ok.step (fun f => p157_2_eq f x b 0 (i : Int)) ?_
    refine Ok.f (decide_eq_false (by simp only [bl] at hm; simp only [Int.ofNat_eq_natCast]; omega)) ?_
    refine Ok.callP (Ok.loadA (n := 256) (vs := setL P) (by kernel_rfl) (by kernel_rfl) (setL_length _) ?_ hr.2) ?_
    · obtain ⟨el, ex, z, sy, hf⟩ := hr.1
      exact ⟨_, hf⟩
    rintro v s1 ⟨rfl, e1, e2, _⟩
    have hr1 : Row s1.mem b (setL P) := by rw [e1]; exact hr
    refine Ok.callP (Ok.storeRow (n := 256) (vs := setL P) (ws := setL P) (by kernel_rfl) hr1 (setL_length _) (setL_length _) (setL_one _)) ?_
    rintro v s2 ⟨rfl, f1, f2, f3⟩
    refine Ok.call (Ok.loadA (n := 256) (vs := setL P) (by kernel_rfl) (by kernel_rfl) (setL_length _) ?_ f2.2) ?_
    · obtain ⟨el, ex, z, sy, hf⟩ := f2.1
      exact ⟨_, hf⟩
    rintro v s3 ⟨rfl, g1, g2, _⟩
    refine Ok.ret ⟨rfl, by omega, fun k hk => ?_⟩
    rw [g1, f3 k (by omega), e1]
  | succ m IH =>
    intro i P s hm hr hb
    have hi : i < (bl x).length := by omega
    have hw : IntKind.i64.wrap ((i : Int) + 1) = ((i + 1 : Nat) : Int) := by rw [wrap_in _ (by omega) (by omega)]; omega
    have e : (fun c => P c || memB ((bl x).drop i) c) = fun c => (decide (c = byteAt x i) || P c) || memB ((bl x).drop (i + 1)) c := by
      funext c
      rw [drop_cons _ _ hi]
      have : (((bl x).getD i 0).toNat = c) = (c = byteAt x i) := by
        simp only [byteAt, bl]
        exact propext ⟨Eq.symm, Eq.symm⟩
      simp only [memB, List.any_cons, this]
      cases P c <;> cases decide (c = byteAt x i) <;> rfl
    rw [e]
    have hlt := ha i
    simp only [bl] at hi hm
    refine Ok.step (fun f => p157_2_eq f x b 0 (i : Int)) ?_
    refine Ok.t (decide_eq_true (by simp only [Int.ofNat_eq_natCast]; omega)) ?_
    refine Ok.t (decide_eq_true (by omega)) ?_
    refine Ok.t (Nat.ble_eq_true_of_le (by omega)) ?_
    refine Ok.f (decide_eq_false (by simp only [Int.toNat_natCast, Int.ofNat_eq_natCast]; omega)) ?_
    refine Ok.t (by rw [Bool.and_true]; exact Nat.ble_eq_true_of_le (by simp only [Int.toNat_natCast]; omega)) ?_
    simp only [Int.toNat_natCast, Nat.zero_add, Nat.mul_one, hw]
    refine Ok.callP (Ok.storeCell (o := byteAt x i) (vs := setL P) (by kernel_rfl) rfl hr (by rw [setL_length]; omega) rfl) ?_
    rintro v s1 ⟨rfl, e1, e2, e3⟩
    rw [setL_set _ _ (by omega)] at e2
    refine Ok.mono (IH (i + 1) _ s1 (by simp only [bl]; omega) e2 (by omega)) ?_
    rintro v s' ⟨rfl, f1, f2⟩
    exact ⟨rfl, by omega, fun k hk => by rw [f2 k hk, e3 k (by omega)]⟩
theorem f157_eq' (f : Nat) (x0 : ByteArray) : callF En (runP En (f + 1)) 157 [(Value.string x0)] =
  (callP (fun v11 =>
    (cnd
      (p157_2 f x0 (blkOf v11) (offOf v11) (0 : Int))
      Prog.fail
      (isPt v11)))
    (Prog.newH (Hdr.mk 256 192 Bool.false Bool.true Bool.true 0 Bool.false Bool.false []) (setL fun _ => false) (fun z => (Prog.ret (itP z))))) := by kernel_rfl
theorem asciiSet_ok (s : St) (x : ByteArray) (hx : (bl x).length ≤ 100) (ha : ∀ i, byteAt x i < 128) :
    Ok (fun f => callF En (runP En f) 157 [.string x]) s (fun v s' => v = .tuple ⟨[.agg ⟨setL (memB (bl x))⟩, .bool true]⟩ ∧ s.ctr ≤ s'.ctr ∧ ∀ k, k < s.ctr → s'.mem.get k = s.mem.get k) := by
  refine Ok.step (fun f => f157_eq' f x) ?_
  refine Ok.callP (Ok.new (setL_length _)) ?_
  rintro v s1 ⟨rfl, e1, e2, e3⟩
  refine Ok.t rfl ?_
  refine Ok.mono (ascii_loop x hx ha s.ctr (bl x).length 0 (fun _ => false) s1 (by omega) e2 (by omega)) ?_
  rintro v s' ⟨rfl, f1, f2⟩
  refine ⟨?_, by omega, fun k hk => by rw [f2 k (by omega), e3 k hk]⟩
  simp only [List.drop_zero, Bool.false_or]
theorem contains_ok (s : St) (b : Nat) (P : Nat → Bool) (c : Nat) (hr : Row s.mem b (setL P)) (hc : c < 256) :
    Ok (fun f => callF En (runP En f) 198 [.pointer (some ⟨b, 0, none⟩), .int .u8 (Int.ofNat c)]) s (fun v s' => v = .bool (P c) ∧ Reads s s') := by
  refine Ok.step (fun f => f198_eq f b (Int.ofNat c)) ?_
  refine Ok.t (decide_eq_true (by simp only [Int.ofNat_eq_natCast]; omega)) ?_
  refine Ok.t (by rw [Bool.and_true]; exact Nat.ble_eq_true_of_le (by simp only [Int.ofNat_eq_natCast, Int.toNat_natCast]; omega)) ?_
  simp only [Int.ofNat_eq_natCast, Int.toNat_natCast, Nat.zero_add, Nat.mul_one]
  refine Ok.callP (Ok.load1 (v := .bool (P c)) (by kernel_rfl) (hr.cell c (setL_get _ _ hc))) ?_
  rintro v s1 ⟨rfl, e1, e2, e3⟩
  exact Ok.t rfl (Ok.ret ⟨rfl, e1, e2, [⟨false, b + 1 + c, 1⟩, ⟨false, b, 1⟩], e3, rfl⟩)
def trimR (P : Nat → Bool) (l : List UInt8) : List UInt8 := (l.reverse.dropWhile fun b => P b.toNat).reverse
def trimL (P : Nat → Bool) (l : List UInt8) : List UInt8 := l.dropWhile fun b => P b.toNat
theorem sub1 (n : Nat) (h : 0 < n) (h2 : n ≤ 4611686018427387904) : IntKind.i64.wrap (Int.subNatNat n 1) = Int.ofNat (n - 1) := by
  have e : Int.subNatNat n 1 = Int.ofNat (n - 1) := by
    rw [Int.subNatNat_eq_coe]; simp only [Int.ofNat_eq_natCast]; omega
  rw [e, wrap_in _ (by simp only [Int.ofNat_eq_natCast]; omega) (by simp only [Int.ofNat_eq_natCast]; omega)]
theorem trimR_ok (b : Nat) (P : Nat → Bool) : ∀ (m : Nat) (x : ByteArray) (s : St), (bl x).length = m → (bl x).length ≤ 4611686018427387904 → Row s.mem b (setL P) →
    Ok (fun f => p159_1 f x b) s (fun v s' => v = .string (mkStr (trimR P (bl x))) ∧ Reads s s') := by
  intro m
  induction m with
  | zero =>
    intro x s hm hl hr
    refine Ok.step (fun f => p159_1_eq f x b) ?_
    refine Ok.f (decide_eq_false (by simp only [bl] at hm; simp only [Int.ofNat_eq_natCast]; omega)) ?_
    refine Ok.step (fun f => p159_4_eq f x) (Ok.ret ⟨?_, Reads.refl s⟩)
    have : bl x = [] := List.length_eq_zero_iff.1 hm
    rw [this]
    exact congrArg Value.string ((mk_bl x).symm.trans (by rw [this]; rfl))
  | succ m IH =>
    intro x s hm hl hr
    have e := sub1 (bl x).length (by omega) hl
    have hne : bl x ≠ [] := fun h => by rw [h] at hm; simp at hm
    have hx : bl x = (bl x).take ((bl x).length - 1) ++ [(bl x).getD ((bl x).length - 1) 0] := by
      have h1 := (List.dropLast_concat_getLast hne).symm
      rw [List.dropLast_eq_take, List.getLast_eq_getElem] at h1
      have h2 : (bl x).getD ((bl x).length - 1) 0 = (bl x)[(bl x).length - 1] := by
        rw [List.getD_eq_getElem?_getD, List.getElem?_eq_getElem (by omega)]; rfl
      rw [h2]; exact h1
    simp only [bl] at hm hl e
    refine Ok.step (fun f => p159_1_eq f x b) ?_
    refine Ok.t (decide_eq_true (by simp only [Int.ofNat_eq_natCast]; omega)) ?_
    rw [e]
    simp only [Int.ofNat_eq_natCast, Int.toNat_natCast]
    refine Ok.t (decide_eq_true (by omega)) ?_
    refine Ok.t (Nat.ble_eq_true_of_le (by omega)) ?_
    refine Ok.call (contains_ok s b P _ hr (byteAt_lt _ _)) ?_
    rintro v s1 ⟨rfl, r1⟩
    refine Ok.t rfl ?_
    simp only [boolOf]
    have hr1 : Row s1.mem b (setL P) := by rw [r1.1]; exact hr
    have hby : byteAt x (x.data.toList.length - 1) = ((bl x).getD ((bl x).length - 1) 0).toNat := rfl
    refine Ok.c (fun h => ?_) (fun h => ?_)
    · have h : P (byteAt x (x.data.toList.length - 1)) = false := by simpa using h
      refine Ok.step (fun f => p159_4_eq f x) (Ok.ret ⟨?_, r1⟩)
      have : trimR P (bl x) = bl x := by
        unfold trimR
        rw [hx, List.reverse_append, List.reverse_singleton, List.singleton_append, List.dropWhile_cons]
        rw [hby] at h
        rw [h]
        simp
      rw [this]
      rfl
    · have h : P (byteAt x (x.data.toList.length - 1)) = true := by simpa using h
      refine Ok.t (decide_eq_true (by omega)) ?_
      refine Ok.t (by simp only [Bool.and_eq_true]; exact ⟨Nat.ble_eq_true_of_le (by omega), Nat.ble_eq_true_of_le (by omega)⟩) ?_
      rw [Nat.sub_zero]
      refine Ok.mono (IH (mkStr (List.take (x.data.toList.length - 1) x.data.toList)) s1 (by simp only [bl_mk, List.length_take]; omega) (by simp only [bl_mk, List.length_take]; omega) hr1) ?_
      rintro v s' ⟨rfl, r2⟩
      refine ⟨?_, r1.trans r2⟩
      have : trimR P (bl x) = trimR P ((bl x).take ((bl x).length - 1)) := by
        unfold trimR
        conv => lhs; rw [hx, List.reverse_append, List.reverse_singleton, List.singleton_append, List.dropWhile_cons]
        rw [hby] at h
        rw [h]
        simp
      rw [this]
      rfl
theorem trimL_ok (b : Nat) (P : Nat → Bool) : ∀ (m : Nat) (x : ByteArray) (s : St), (bl x).length = m → Row s.mem b (setL P) →
    Ok (fun f => p158_1 f x b) s (fun v s' => v = .string (mkStr (trimL P (bl x))) ∧ Reads s s') := by
  intro m
  induction m with
  | zero =>
    intro x s hm hr
    refine Ok.step (fun f => p158_1_eq f x b) ?_
    refine Ok.f (decide_eq_false (by simp only [bl] at hm; simp only [Int.ofNat_eq_natCast]; omega)) ?_
    refine Ok.step (fun f => p158_4_eq f x) (Ok.ret ⟨?_, Reads.refl s⟩)
    have : bl x = [] := List.length_eq_zero_iff.1 hm
    rw [this]
    exact congrArg Value.string ((mk_bl x).symm.trans (by rw [this]; rfl))
  | succ m IH =>
    intro x s hm hr
    have hx : bl x = (bl x).getD 0 0 :: (bl x).drop 1 := drop_cons (bl x) 0 (by omega)
    simp only [bl] at hm
    refine Ok.step (fun f => p158_1_eq f x b) ?_
    refine Ok.t (decide_eq_true (by simp only [Int.ofNat_eq_natCast]; omega)) ?_
    refine Ok.t (Nat.ble_eq_true_of_le (by omega)) ?_
    refine Ok.call (contains_ok s b P _ hr (byteAt_lt _ _)) ?_
    rintro v s1 ⟨rfl, r1⟩
    refine Ok.t rfl ?_
    simp only [boolOf]
    have hr1 : Row s1.mem b (setL P) := by rw [r1.1]; exact hr
    have hby : byteAt x 0 = ((bl x).getD 0 0).toNat := rfl
    refine Ok.c (fun h => ?_) (fun h => ?_)
    · have h : P (byteAt x 0) = false := by simpa using h
      refine Ok.step (fun f => p158_4_eq f x) (Ok.ret ⟨?_, r1⟩)
      have : trimL P (bl x) = bl x := by
        unfold trimL
        rw [hx, List.dropWhile_cons]
        rw [hby] at h
        rw [h]
        simp
      rw [this]
      rfl
    · have h : P (byteAt x 0) = true := by simpa using h
      refine Ok.t (by simp only [Bool.and_eq_true]; exact ⟨Nat.ble_eq_true_of_le (by omega), Nat.ble_eq_true_of_le (by omega)⟩) ?_
      rw [List.take_of_length_le (by rw [List.length_drop]; omega)]
      refine Ok.mono (IH (mkStr (List.drop 1 x.data.toList)) s1 (by simp only [bl_mk, List.length_drop]; omega) hr1) ?_
      rintro v s' ⟨rfl, r2⟩
      refine ⟨?_, r1.trans r2⟩
      have : trimL P (bl x) = trimL P ((bl x).drop 1) := by
        unfold trimL
        conv => lhs; rw [hx, List.dropWhile_cons]
        rw [hby] at h
        rw [h]
        simp
      rw [this]
      rfl
end Go.Proofs.YtpljgnjdlciicaaGreatDoor
namespace Go.Proofs.YtpljgnjdlciicaaGreatDoor
open Go Go.Ev Go.Proofs
theorem f122_eq' (f : Nat) (x0 : ByteArray) (x1 : ByteArray) : callF En (runP En (f + 1)) 122 [(Value.string x0), (Value.string x1)] =
  (cnd
    (Prog.ret (Value.string x0))
    (cnd
      (Prog.ret (Value.string x0))
      (cnd
        (cnd
          (cnd
            (cnd
              (Prog.seg (callF En (runP En f) 156 [(Value.string x0), (Value.int IntKind.u8 (Int.ofNat (byteAt x1 0)))]) fun v21 s22 _ =>
                (cnd
                  (cnd
                    (Prog.seg (callF En (runP En f) 155 [(Value.string (strOf v21)), (Value.int IntKind.u8 (Int.ofNat (byteAt x1 0)))]) fun v23 s24 _ =>
                      (gdL 63 (writesOf s24) s24 [⟨3, writesOf s22, s22⟩]
                        (cnd
                          (Prog.ret (Value.string (strOf v23)))
                          Prog.fail
                          (okK Kd.str v23))))
                    Prog.fail
                    (Nat.ble 1 (List.length (Array.toList (ByteArray.data x1)))))
                  Prog.fail
                  (okK Kd.str v21)))
              Prog.fail
              (Nat.ble 1 (List.length (Array.toList (ByteArray.data x1)))))
            (Prog.call (callF En (runP En f) 157 [(Value.string x1)]) fun v25 =>
              (cnd
                (callP (fun v27 =>
                  (cnd
                    (callP (fun v28 =>
                      (cnd
                        (Prog.call (callF En (runP En f) 159 [(Value.string x0), (Value.pointer (Option.some (Addr.mk (blkOf v27) (offOf v27) Option.none)))]) fun v29 =>
                          (cnd
                            (Prog.call (callF En (runP En f) 158 [(Value.string (strOf v29)), (Value.pointer (Option.some (Addr.mk (blkOf v27) (offOf v27) Option.none)))]) fun v30 =>
                              (cnd
                                (Prog.ret (Value.string (strOf v30)))
                                Prog.fail
                                (okK Kd.str v30)))
                            Prog.fail
                            (okK Kd.str v29)))
                        (Prog.call (callF En (runP En f) 161 [(Value.string x0), (Value.string x1)]) fun v31 =>
                          (cnd
                            (Prog.call (callF En (runP En f) 160 [(Value.string (strOf v31)), (Value.string x1)]) fun v32 =>
                              (cnd
                                (Prog.ret (Value.string (strOf v32)))
                                Prog.fail
                                (okK Kd.str v32)))
                            Prog.fail
                            (okK Kd.str v31)))
                        (boolOf (at_ (tupOf v25) 1))))
                      (storeT En 192 (blkOf v27) (offOf v27) (at_ (tupOf v25) 0)))
                    Prog.fail
                    (isPt v27)))
                  (Prog.newH (Hdr.mk 256 192 Bool.false Bool.true Bool.true 0 Bool.false Bool.false []) (setL fun _ => false) (fun z26 => (Prog.ret (itP z26)))))
                Prog.fail
                ((isTupV v25) && (okNs (Nm.raw :: ((Nm.one Kd.bool) :: [])) (tupOf v25)))))
            (decide ((Int.ofNat (byteAt x1 0)) < (128 : Int))))
          Prog.fail
          (Nat.ble 1 (List.length (Array.toList (ByteArray.data x1)))))
        (Prog.call (callF En (runP En f) 157 [(Value.string x1)]) fun v33 =>
          (cnd
            (callP (fun v35 =>
              (cnd
                (callP (fun v36 =>
                  (cnd
                    (Prog.call (callF En (runP En f) 159 [(Value.string x0), (Value.pointer (Option.some (Addr.mk (blkOf v35) (offOf v35) Option.none)))]) fun v37 =>
                      (cnd
                        (Prog.call (callF En (runP En f) 158 [(Value.string (strOf v37)), (Value.pointer (Option.some (Addr.mk (blkOf v35) (offOf v35) Option.none)))]) fun v38 =>
                          (cnd
                            (Prog.ret (Value.string (strOf v38)))
                            Prog.fail
                            (okK Kd.str v38)))
                        Prog.fail
                        (okK Kd.str v37)))
                    (Prog.call (callF En (runP En f) 161 [(Value.string x0), (Value.string x1)]) fun v39 =>
                      (cnd
                        (Prog.call (callF En (runP En f) 160 [(Value.string (strOf v39)), (Value.string x1)]) fun v40 =>
                          (cnd
                            (Prog.ret (Value.string (strOf v40)))
                            Prog.fail
                            (okK Kd.str v40)))
                        Prog.fail
                        (okK Kd.str v39)))
                    (boolOf (at_ (tupOf v33) 1))))
                  (storeT En 192 (blkOf v35) (offOf v35) (at_ (tupOf v33) 0)))
                Prog.fail
                (isPt v35)))
              (Prog.newH (Hdr.mk 256 192 Bool.false Bool.true Bool.true 0 Bool.false Bool.false []) (setL fun _ => false) (fun z34 => (Prog.ret (itP z34)))))
            Prog.fail
            ((isTupV v33) && (okNs (Nm.raw :: ((Nm.one Kd.bool) :: [])) (tupOf v33)))))
        (decide ((Int.ofNat (List.length (Array.toList (ByteArray.data x1)))) = (1 : Int))))
      (beqB (Array.toList (ByteArray.data x1)) []))
    (beqB (Array.toList (ByteArray.data x0)) [])) := by kernel_rfl
theorem trim_ok (s : St) (x y : ByteArray) (hx : (bl x).length ≤ 4611686018427387904) (hy : 2 ≤ (bl y).length) (hy2 : (bl y).length ≤ 100) (ha : ∀ i, byteAt y i < 128) :
    Ok (fun f => callF En (runP En f) 122 [.string x, .string y]) s (fun v s' => v = .string (mkStr (trimL (memB (bl y)) (trimR (memB (bl y)) (bl x)))) ∧ s.ctr ≤ s'.ctr ∧ ∀ k, k < s.ctr → s'.mem.get k = s.mem.get k) := by
  refine Ok.step (fun f => f122_eq' f x y) ?_
  refine Ok.c (fun h => ?_) (fun _ => ?_)
  · rw [beqB_eq] at h
    have h : bl x = [] := of_decide_eq_true h
    refine Ok.ret ⟨?_, Nat.le_refl _, fun _ _ => rfl⟩
    rw [h]
    exact congrArg Value.string ((mk_bl x).symm.trans (by rw [h]; rfl))
  refine Ok.f (by rw [beqB_eq]; exact decide_eq_false (fun h => by have h : bl y = [] := h; rw [h] at hy; simp at hy)) ?_
  refine Ok.f (decide_eq_false (by simp only [bl] at hy; simp only [Int.ofNat_eq_natCast]; omega)) ?_
  refine Ok.call (asciiSet_ok s y hy2 ha) ?_
  rintro v s1 ⟨rfl, e1, e2⟩
  refine Ok.t rfl ?_
  refine Ok.callP (Ok.new (setL_length _)) ?_
  rintro v s2 ⟨rfl, g1, g2, g3⟩
  refine Ok.t rfl ?_
  refine Ok.callP (Ok.storeRow (n := 256) (vs := setL fun _ => false) (ws := setL (memB (bl y))) (by kernel_rfl) g2 (setL_length _) (setL_length _) (setL_one _)) ?_
  rintro v s3 ⟨rfl, i1, i2, i3⟩
  refine Ok.t rfl ?_
  refine Ok.call (Q1 := fun v s' => v = .string (mkStr (trimR (memB (bl y)) (bl x))) ∧ Reads s3 s') (Ok.step (fun f => f159_eq f x s1.ctr) (trimR_ok s1.ctr _ _ x s3 rfl hx i2)) ?_
  rintro v s4 ⟨rfl, r4⟩
  refine Ok.t rfl ?_
  refine Ok.call (Q1 := fun v s' => v = .string (mkStr (trimL (memB (bl y)) (trimR (memB (bl y)) (bl x)))) ∧ Reads s4 s') (Ok.step (fun f => f158_eq f _ s1.ctr) (trimL_ok s1.ctr _ _ _ s4 rfl (by rw [r4.1]; exact i2))) ?_
  rintro v s5 ⟨rfl, r5⟩
  refine Ok.t rfl (Ok.ret ⟨rfl, ?_, fun k hk => ?_⟩)
  · rw [r5.2.1, r4.2.1]; omega
  · have i3 : ∀ k, k ≤ s1.ctr ∨ s1.ctr + 1 + 256 ≤ k → s3.mem.get k = s2.mem.get k := i3
    rw [r5.1, r4.1, i3 k (by omega), g3 k (by omega), e2 k hk]
theorem dropWhile_nil (p : UInt8 → Bool) : ∀ (l : List UInt8), l.dropWhile p = [] ↔ ∀ b ∈ l, p b = true
  | [] => by simp
  | b :: l => by
    rw [List.dropWhile_cons]
    cases h : p b with
    | true => simp [dropWhile_nil p l, h]
    | false => simp [h]
theorem dropWhile_head (p : UInt8 → Bool) : ∀ (l : List UInt8) (b : UInt8) (r : List UInt8), l.dropWhile p = b :: r → p b = false
  | [], _, _, h => by simp at h
  | c :: l, b, r, h => by
    rw [List.dropWhile_cons] at h
    cases hc : p c with
    | true => rw [hc] at h; exact dropWhile_head p l b r (by simpa using h)
    | false =>
      rw [hc] at h
      simp at h
      rw [← h.1]
      exact hc
theorem trim_nil (P : Nat → Bool) (l : List UInt8) : trimL P (trimR P l) = [] ↔ ∀ b ∈ l, P b.toNat = true := by
  constructor
  · intro h
    have h1 := (dropWhile_nil _ _).1 h
    have h3 : (l.reverse.dropWhile fun b => P b.toNat) = [] := by
      cases hr : (l.reverse.dropWhile fun b => P b.toNat) with
      | nil => rfl
      | cons b r =>
        have hb := dropWhile_head _ _ _ _ hr
        have := h1 b (by unfold trimR; rw [hr]; simp)
        rw [hb] at this
        cases this
    have := (dropWhile_nil _ _).1 h3
    intro b hb
    exact this b (by simpa using hb)
  · intro h
    have h3 : (l.reverse.dropWhile fun b => P b.toNat) = [] := (dropWhile_nil _ _).2 fun b hb => h b (by simpa using hb)
    unfold trimR
    rw [h3]
    rfl
theorem blk_itP (c : Nat) : blkOf (itP c) = c := rfl
theorem off_itP (c : Nat) : offOf (itP c) = 0 := rfl
end Go.Proofs.YtpljgnjdlciicaaGreatDoor
namespace Go.Proofs.YtpljgnjdlciicaaGreatDoor
open Go Go.Ev Go.Proofs
theorem lower_ok (s : St) (x : Int) : Ok (fun f => callF En (runP En f) 241 [.int .u8 x]) s (fun v s' => (∃ y, v = .int .u8 y) ∧ s' = s) :=
  Ok.step (fun f => f241_eq f x) (Ok.ret ⟨⟨_, rfl⟩, rfl⟩)
def PU (v : Value) : Prop := ∃ n e, v = .tuple ⟨[.int .u64 n, e]⟩ ∧ (e = .nilIface ∨ e = .iface 261 (.int .i64 1) ∨ e = .iface 261 (.int .i64 2))
theorem PU.z (n : Int) : PU (.tuple ⟨[.int .u64 n, .nilIface]⟩) := ⟨n, _, rfl, .inl rfl⟩
theorem PU.r (n : Int) : PU (.tuple ⟨[.int .u64 n, .iface 261 (.int .i64 1)]⟩) := ⟨n, _, rfl, .inr (.inl rfl)⟩
theorem PU.s (n : Int) : PU (.tuple ⟨[.int .u64 n, .iface 261 (.int .i64 2)]⟩) := ⟨n, _, rfl, .inr (.inr rfl)⟩
theorem pu_loop (x1 x10 x11 : Int) (x9 : ByteArray) (c cap : Nat) (l : List UInt8) (hl : l.length ≤ 4611686018427387904) : ∀ (m i : Nat) (x13 : Int) (s : St), i + m = l.length → (∃ h, s.mem.get c = some (.hdr h)) → CellsAt s.mem c (c + 1) (u8s l) →
    Ok (fun f => p204_36 f x1 false x9 x10 x11 false x13 c 0 l.length cap (Int.ofNat l.length) (Int.ofNat i)) s (fun v s' => PU v ∧ Reads s s') := by
  intro m
  induction m with
  | zero =>
    intro i x13 s hm hh hc
    refine Ok.step (fun f => p204_36_eq f x1 false x9 x10 x11 false x13 c 0 l.length cap (Int.ofNat l.length) (Int.ofNat i)) ?_
    refine Ok.f (decide_eq_false (by simp only [Int.ofNat_eq_natCast]; omega)) ?_
    exact Ok.f rfl (Ok.ret ⟨PU.z _, Reads.refl s⟩)
  | succ m IH =>
    intro i x13 s hm hh hc
    refine Ok.step (fun f => p204_36_eq f x1 false x9 x10 x11 false x13 c 0 l.length cap (Int.ofNat l.length) (Int.ofNat i)) ?_
    refine Ok.t (decide_eq_true (by simp only [Int.ofNat_eq_natCast]; omega)) ?_
    refine Ok.t (decide_eq_true (by simp only [Int.ofNat_eq_natCast]; omega)) ?_
    refine Ok.t (by rw [Bool.and_true]; exact Nat.ble_eq_true_of_le (by simp only [Int.ofNat_eq_natCast, Int.toNat_natCast]; omega)) ?_
    simp only [Int.ofNat_eq_natCast, Int.toNat_natCast, Nat.zero_add, Nat.mul_one]
    have hcell : Cell s.mem c i (.int .u8 ((l.getD i 0).toNat : Int)) := by
      refine ⟨hh, CellsAt.get i _ hc ?_⟩
      simp only [u8s, List.getElem?_map]
      rw [List.getElem?_eq_getElem (by omega)]
      simp [List.getD, show i < l.length by omega]
    refine Ok.callP (Ok.load1 (by kernel_rfl) hcell) ?_
    rintro v s1 ⟨rfl, e1, e2, e3⟩
    have r1 : Reads s s1 := ⟨e1, e2, [⟨false, c + 1 + i, 1⟩, ⟨false, c, 1⟩], e3, rfl⟩
    have hw : IntKind.i64.wrap ((i : Int) + 1) = Int.ofNat (i + 1) := by rw [wrap_in _ (by omega) (by omega)]; rfl
    have h36 : ∀ y, Ok (fun f => p204_55 f x1 false x9 x10 x11 false y c 0 l.length cap (l.length : Int) (i : Int)) s1 (fun v s' => PU v ∧ Reads s s') := by
      intro y
      refine Ok.step (fun f => p204_55_eq f x1 false x9 x10 x11 false y c 0 l.length cap (l.length : Int) (i : Int)) ?_
      rw [hw]
      refine Ok.mono (IH (i + 1) y s1 (by omega) (by rw [e1]; exact hh) (by rw [e1]; exact hc)) ?_
      rintro v s' ⟨h1, h2⟩
      exact ⟨h1, r1.trans h2⟩
    have h46 : ∀ d, Ok (fun f => p204_46 f x1 false x9 x10 x11 false x13 d c 0 l.length cap (l.length : Int) (i : Int)) s1 (fun v s' => PU v ∧ Reads s s') := by
      intro d
      refine Ok.step (fun f => p204_46_eq f x1 false x9 x10 x11 false x13 d c 0 l.length cap (l.length : Int) (i : Int)) ?_
      refine Ok.c (fun _ => Ok.ret ⟨PU.s _, r1⟩) (fun _ => ?_)
      refine Ok.c (fun _ => Ok.ret ⟨PU.r _, r1⟩) (fun _ => ?_)
      refine Ok.c (fun _ => Ok.ret ⟨PU.r _, r1⟩) (fun _ => ?_)
      exact Ok.c (fun _ => Ok.ret ⟨PU.r _, r1⟩) (fun _ => h36 _)
    refine Ok.t rfl ?_
    simp only [intOf]
    have low : ∀ b : Int, Ok (fun f => Prog.call (callF En (runP En f) 241 [(Value.int IntKind.u8 b)]) fun v24 =>
                      (cnd
                        (cnd
                          (Prog.call (callF En (runP En f) 241 [(Value.int IntKind.u8 b)]) fun v25 =>
                            (cnd
                              (cnd
                                (Prog.call (callF En (runP En f) 241 [(Value.int IntKind.u8 b)]) fun v26 =>
                                  (cnd
                                    (p204_46 f x1 false x9 x10 x11 false x13 (IntKind.wrap IntKind.u8 ((IntKind.wrap IntKind.u8 ((intOf v26) + (-97 : Int))) + (10 : Int))) c 0 l.length cap (l.length : Int) (i : Int))
                                    Prog.fail
                                    (okK (Kd.int IntKind.u8) v26)))
                                (Prog.ret (Value.tuple ⟨((Value.int IntKind.u64 (0 : Int)) :: ((Value.iface 261 (Value.int IntKind.i64 (2 : Int))) :: []))⟩))
                                (decide ((intOf v25) ≤ (122 : Int))))
                              Prog.fail
                              (okK (Kd.int IntKind.u8) v25)))
                          (Prog.ret (Value.tuple ⟨((Value.int IntKind.u64 (0 : Int)) :: ((Value.iface 261 (Value.int IntKind.i64 (2 : Int))) :: []))⟩))
                          (decide ((97 : Int) ≤ (intOf v24))))
                        Prog.fail
                        (okK (Kd.int IntKind.u8) v24))) s1 (fun v s' => PU v ∧ Reads s s') := by
      intro b
      refine Ok.call (lower_ok s1 _) ?_
      rintro v s2 ⟨⟨y, rfl⟩, rfl⟩
      refine Ok.t rfl ?_
      refine Ok.c (fun _ => ?_) (fun _ => Ok.ret ⟨PU.s _, r1⟩)
      refine Ok.call (lower_ok s2 _) ?_
      rintro v s2 ⟨⟨y, rfl⟩, rfl⟩
      refine Ok.t rfl ?_
      refine Ok.c (fun _ => ?_) (fun _ => Ok.ret ⟨PU.s _, r1⟩)
      refine Ok.call (lower_ok s2 _) ?_
      rintro v s2 ⟨⟨y, rfl⟩, rfl⟩
      exact Ok.t rfl (h46 _)
    refine Ok.c (fun _ => ?_) (fun _ => ?_)
    · refine Ok.f rfl ?_
      exact Ok.c (fun _ => Ok.c (fun _ => h46 _) (fun _ => low _)) (fun _ => low _)
    · exact Ok.c (fun _ => Ok.c (fun _ => h46 _) (fun _ => low _)) (fun _ => low _)
theorem pu_32 (x1 x2 x10 : Int) (x9 x : ByteArray) (s : St) (hx : (bl x).length ≤ 1000000) (h2 : 0 ≤ IntKind.wrap IntKind.u64 x2) : Ok (fun f => p204_32 f x x1 x2 false x9 x10) s (fun v s' => PU v ∧ Fresh s s') := by
  refine Ok.step (fun f => p204_32_eq f x x1 x2 false x9 x10) ?_
  refine Ok.t (decide_eq_true h2) ?_
  refine Ok.callP (Ok.newF rfl) ?_
  rintro v s1 ⟨rfl, e1, e2, e3, e4, e5⟩
  refine Ok.t rfl ?_
  have e3 : CellsAt s1.mem s.ctr (s.ctr + 1) (u8s (bl x)) := e3
  refine Ok.mono (pu_loop x1 _ _ x9 s.ctr _ (bl x) (by omega) (bl x).length 0 0 s1 (by omega) ⟨_, e2⟩ e3) ?_
  rintro v s' ⟨h, r⟩
  refine ⟨h, Fresh.trans ⟨by omega, e4⟩ r.fresh⟩
theorem pu_ok (x : ByteArray) (s : St) (x1 x2 : Int) (hb : x1 = 10 ∧ x2 = 64 ∨ x1 = 16 ∧ x2 = 8) (hx : (bl x).length ≤ 1000000) : Ok (fun f => callF En (runP En f) 204 [.string x, .int .i64 x1, .int .i64 x2]) s (fun v s' => PU v ∧ Fresh s s') := by
  rcases hb with ⟨rfl, rfl⟩ | ⟨rfl, rfl⟩
  · refine Ok.step (fun f => f204a_eq f x) ?_
    refine Ok.c (fun _ => Ok.ret ⟨PU.s _, Fresh.refl s⟩) (fun _ => ?_)
    refine Ok.step (fun f => p204_21_eq f x 10 64 false x) ?_
    refine Ok.f rfl (Ok.f rfl (Ok.f rfl ?_))
    refine Ok.step (fun f => p204_25_eq f x 10 64 false x) ?_
    exact Ok.t rfl (pu_32 _ _ _ x x s hx (by decide))
  · refine Ok.step (fun f => f204b_eq f x) ?_
    refine Ok.c (fun _ => Ok.ret ⟨PU.s _, Fresh.refl s⟩) (fun _ => ?_)
    refine Ok.step (fun f => p204_21_eq f x 16 8 false x) ?_
    refine Ok.f rfl (Ok.f rfl (Ok.f rfl ?_))
    refine Ok.step (fun f => p204_25_eq f x 16 8 false x) ?_
    exact Ok.f rfl (Ok.t rfl (pu_32 _ _ _ x x s hx (by decide)))
theorem neq_nil (a b : Operand) (hb : isConstO b = true) (k : Value → Prog) : binK En BinOp.neq 127 a b Value.nilIface Value.nilIface k = k (.bool false) := by
  cases b with
  | const w => cases a <;> kernel_rfl
  | _ => cases hb
theorem neq_ifc (a b : Operand) (t : Nat) (ht : Nat.blt t LF = true) (x : Value) (k : Value → Prog) : binK En BinOp.neq 127 a b (Value.iface t x) Value.nilIface k = k (.bool true) := by
  have hi : (match En.und 127 with | some (.interface _) => true | _ => false) = true := by kernel_rfl
  obtain ⟨ms, hu⟩ : ∃ ms, En.und 127 = some (.interface ms) := by
    cases h : En.und 127 with
    | none => rw [h] at hi; cases hi
    | some d =>
      rw [h] at hi
      cases d with
      | interface ms => exact ⟨ms, rfl⟩
      | _ => cases hi
  have he : eqV En 50 127 (.iface t x) .nilIface = some false := by
    show eqV En (49 + 1) 127 (.iface t x) .nilIface = some false
    unfold eqV
    rw [hu]
    simp only [ht]
  have hb : binA En BinOp.neq 127 a b (Value.iface t x) Value.nilIface = some (.bool true) := by
    unfold binA
    simp only [guardOk, he, Bool.not_false]
  unfold binK
  simp only [hb, Ev.opt]
def PE (v : Value) : Prop := ∃ n e, v = .tuple ⟨[.int .u64 n, e]⟩ ∧ (e = .nilIface ∨ ∃ p, e = .iface 263 (.pointer (some p)))
theorem parseUint_ok [Gh] (x : ByteArray) (s : St) (x1 x2 : Int) (hb : x1 = 10 ∧ x2 = 64 ∨ x1 = 16 ∧ x2 = 8) (hx : (bl x).length ≤ 1000000) (hl : Lib s.mem s.ctr) : Ok (fun f => callF En (runP En f) 164 [.string x, .int .i64 x1, .int .i64 x2]) s (fun v s' => PE v ∧ Fresh s s') := by
  refine Ok.step (fun f => f164_eq f x x1 x2) ?_
  refine Ok.call (pu_ok x s x1 x2 hb hx) ?_
  rintro v s1 ⟨⟨n, e, rfl, he⟩, f1⟩
  refine Ok.t rfl ?_
  have hl1 := hl.fresh f1
  simp only [show at_ (tupOf (Value.tuple ⟨[.int .u64 n, e]⟩)) 1 = e from rfl]
  have ek1 : ∀ (k : Value → Prog), binK En BinOp.eql 127 (Operand.tmp 11) (Operand.tmp 13) (Value.iface 261 (Value.int IntKind.i64 (1 : Int))) (Value.iface 261 (Value.int IntKind.i64 (2 : Int))) k = k (.bool false) := fun _ => by kernel_rfl
  have ek2 : ∀ (k : Value → Prog), binK En BinOp.eql 127 (Operand.tmp 11) (Operand.tmp 20) (Value.iface 261 (Value.int IntKind.i64 (1 : Int))) (Value.iface 261 (Value.int IntKind.i64 (1 : Int))) k = k (.bool true) := fun _ => by kernel_rfl
  have ek3 : ∀ (k : Value → Prog), binK En BinOp.eql 127 (Operand.tmp 11) (Operand.tmp 13) (Value.iface 261 (Value.int IntKind.i64 (2 : Int))) (Value.iface 261 (Value.int IntKind.i64 (2 : Int))) k = k (.bool true) := fun _ => by kernel_rfl
  rcases he with rfl | rfl | rfl
  · simp only [neq_nil _ (Operand.const Value.nilIface) rfl]
    refine Ok.t rfl (Ok.f rfl (Ok.ret ⟨⟨_, _, rfl, .inl rfl⟩, f1⟩))
  · simp only [neq_ifc _ _ _ (show Nat.blt 261 LF = true from rfl)]
    refine Ok.t rfl (Ok.t rfl ?_)
    refine Ok.call (Q1 := fun v s' => (∃ p, v = .iface 263 (.pointer (some p))) ∧ Fresh s1 s') ?_ ?_
    · refine Ok.step (fun f => f205_eq f _ x x1 x2 _) ?_
      simp only [ek1]
      refine Ok.t rfl (Ok.f rfl ?_)
      simp only [ek2]
      refine Ok.t rfl (Ok.t rfl ?_)
      refine Ok.call (rngErr_ok s1 _ x hx hl1) ?_
      rintro v s2 ⟨⟨p, rfl⟩, f2⟩
      exact Ok.ret ⟨⟨p, rfl⟩, f2⟩
    · rintro v s2 ⟨⟨p, rfl⟩, f2⟩
      exact Ok.ret ⟨⟨_, _, rfl, .inr ⟨p, rfl⟩⟩, f1.trans f2⟩
  · simp only [neq_ifc _ _ _ (show Nat.blt 261 LF = true from rfl)]
    refine Ok.t rfl (Ok.t rfl ?_)
    refine Ok.call (Q1 := fun v s' => (∃ p, v = .iface 263 (.pointer (some p))) ∧ Fresh s1 s') ?_ ?_
    · refine Ok.step (fun f => f205_eq f _ x x1 x2 _) ?_
      simp only [ek3]
      refine Ok.t rfl (Ok.t rfl ?_)
      refine Ok.call (synErr_ok s1 _ x hx hl1) ?_
      rintro v s2 ⟨⟨p, rfl⟩, f2⟩
      exact Ok.ret ⟨⟨p, rfl⟩, f2⟩
    · rintro v s2 ⟨⟨p, rfl⟩, f2⟩
      exact Ok.ret ⟨⟨_, _, rfl, .inr ⟨p, rfl⟩⟩, f1.trans f2⟩
end Go.Proofs.YtpljgnjdlciicaaGreatDoor
namespace Go.Proofs.YtpljgnjdlciicaaGreatDoor
open Go Go.Ev Go.Proofs
theorem asc (l : List UInt8) (h : (l.all fun b => decide (b.toNat < 128)) = true) (i : Nat) : byteAt (mkStr l) i < 128 := by
  unfold byteAt
  show (l.getD i 0).toNat < 128
  by_cases hi : i < l.length
  · have : l.getD i 0 = l[i] := by simp [List.getD, hi]
    rw [this]
    have := List.all_eq_true.1 h l[i] (List.getElem_mem hi)
    exact of_decide_eq_true this
  · have : l.getD i 0 = 0 := by simp [List.getD, show l.length ≤ i by omega]
    rw [this]
    decide
theorem index_ok (s : St) (x : ByteArray) (hx : (bl x).length ≤ 1000000) : Ok (fun f => callF En (runP En f) 240 [.string x, .string (mkStr [46])]) s
    (fun v s' => (∃ n : Int, v = .int .i64 n ∧ (n = -1 ∨ ∃ j : Nat, n = j ∧ j < (bl x).length)) ∧ s' = s) := by
  refine Ok.step (fun f => f240a_eq f x) ?_
  refine Ok.c (fun h => ?_) (fun _ => ?_)
  · rw [beqB_eq] at h
    have h : [UInt8.ofNat 46] = bl x := of_decide_eq_true h
    exact Ok.ret ⟨⟨0, rfl, .inr ⟨0, rfl, by rw [← h]; decide⟩⟩, rfl⟩
  · refine Ok.call (Q1 := fun v s' => v = .int .i64 (findByte (46 : Int).toNat (bl x) 0) ∧ s' = s) ?_ ?_
    · refine Ok.step (fun f => f128_eq f x 46) ?_
      refine Ok.call (Q1 := fun v s' => v = .int .i64 (findByte (46 : Int).toNat (bl x) 0) ∧ s' = s) ?_ ?_
      · simp only [f165_eq]
        exact Ok.g (by decide) (Ok.ret ⟨rfl, rfl⟩)
      · rintro v s1 ⟨rfl, rfl⟩
        exact Ok.t rfl (Ok.ret ⟨rfl, rfl⟩)
    · rintro v s1 ⟨rfl, rfl⟩
      refine Ok.t rfl (Ok.ret ⟨⟨_, rfl, ?_⟩, rfl⟩)
      rcases findByte_spec (46 : Int).toNat (bl x) 0 with ⟨h, _⟩ | ⟨j, h1, h2, _⟩
      · exact .inl h
      · exact .inr ⟨j, by simp only [intOf]; rw [h2]; simp, h1⟩
def CutV (n : Nat) (v : Value) : Prop := ∃ a b c, v = .tuple ⟨[.string a, .string b, .bool c]⟩ ∧ (bl a).length ≤ n ∧ (bl b).length ≤ n
theorem cut_ok (s : St) (x : ByteArray) (hx : (bl x).length ≤ 1000000) : Ok (fun f => callF En (runP En f) 163 [.string x, .string (mkStr [46])]) s (fun v s' => CutV (bl x).length v ∧ s' = s) := by
  refine Ok.step (fun f => f163_eq f x _) ?_
  refine Ok.call (Q1 := fun v s' => CutV (bl x).length v ∧ s' = s) ?_ ?_
  · refine Ok.step (fun f => f203_eq f x _) ?_
    refine Ok.call (index_ok s x hx) ?_
    rintro v s1 ⟨⟨n, rfl, hn⟩, rfl⟩
    refine Ok.t rfl ?_
    simp only [intOf]
    refine Ok.c (fun h => ?_) (fun _ => Ok.ret ⟨⟨_, _, _, rfl, Nat.le_refl _, Nat.zero_le _⟩, rfl⟩)
    have h := of_decide_eq_true h
    obtain ⟨j, rfl, hj⟩ : ∃ j : Nat, n = j ∧ j < (bl x).length := by
      rcases hn with rfl | hn
      · omega
      · exact hn
    have hw : IntKind.i64.wrap ((j : Int) + Int.ofNat (mkStr [46]).data.toList.length) = ((j + 1 : Nat) : Int) := by
      rw [show (Int.ofNat (mkStr [46]).data.toList.length) = 1 from rfl, wrap_in _ (by omega) (by omega)]; omega
    simp only [hw]
    simp only [bl] at hj hx
    refine Ok.t (decide_eq_true (by omega)) ?_
    refine Ok.t (by simp only [Bool.and_eq_true, Int.toNat_natCast]; exact ⟨Nat.ble_eq_true_of_le (by omega), Nat.ble_eq_true_of_le (by omega)⟩) ?_
    refine Ok.t (decide_eq_true (by omega)) ?_
    refine Ok.t (by simp only [Bool.and_eq_true, Int.toNat_natCast]; exact ⟨Nat.ble_eq_true_of_le (by omega), Nat.ble_eq_true_of_le (by omega)⟩) ?_
    refine Ok.ret ⟨⟨_, _, _, rfl, ?_, ?_⟩, rfl⟩
    · simp only [bl_mk, List.length_take, bl]; omega
    · simp only [bl_mk, List.length_take, List.length_drop, bl]; omega
  · rintro v s1 ⟨⟨a, b, c, rfl, h1, h2⟩, rfl⟩
    exact Ok.t rfl (Ok.ret ⟨⟨_, _, _, rfl, h1, h2⟩, rfl⟩)
def WV (v : Value) : Prop := ∃ t n ok, v = .tuple ⟨[.int .i64 t, .int .i64 n, .bool ok]⟩ ∧ (ok = true → t = 2 ∨ t = 4 ∨ t = 5)
theorem WV.no : WV (.tuple ⟨[.int .i64 0, .int .i64 0, .bool false]⟩) := ⟨_, _, _, rfl, fun h => by cases h⟩
theorem digs_ok (s : St) (x : ByteArray) (hx : (bl x).length ≤ 1000000) : Ok (fun f => callF En (runP En f) 122 [(Value.string x), (Value.string (mkStr [48, 49, 50, 51, 52, 53, 54, 55, 56, 57]))]) s (fun v s' => (∃ y, v = .string y) ∧ Fresh s s') := by
  refine Ok.mono (trim_ok s x _ (by omega) (by decide) (by decide) (asc _ (by decide))) ?_
  rintro v s' ⟨rfl, h⟩
  exact ⟨⟨_, rfl⟩, h⟩
theorem worth_19 [Gh] (s : St) (t : Int) (ht : t = 2 ∨ t = 4 ∨ t = 5) (x8 x11 : Bool) (x9 x10 : ByteArray) (h9 : (bl x9).length ≤ 1000000) (h10 : (bl x10).length ≤ 1000000) (hl : Lib s.mem s.ctr) :
    Ok (fun f => p125_19 f t x8 x9 x10 x11) s (fun v s' => WV v ∧ Fresh s s') := by
  refine Ok.step (fun f => p125_19_eq f t x8 x9 x10 x11) ?_
  refine Ok.c (fun _ => Ok.ret ⟨WV.no, Fresh.refl s⟩) (fun _ => ?_)
  refine Ok.call (digs_ok s x9 h9) ?_
  rintro v s1 ⟨⟨y, rfl⟩, f1⟩
  refine Ok.t rfl ?_
  refine Ok.c (fun _ => Ok.ret ⟨WV.no, f1⟩) (fun _ => ?_)
  refine Ok.call (digs_ok s1 x10 h10) ?_
  rintro v s2 ⟨⟨y, rfl⟩, f2⟩
  have f2 := f1.trans f2
  refine Ok.t rfl ?_
  refine Ok.c (fun _ => Ok.ret ⟨WV.no, f2⟩) (fun _ => ?_)
  refine Ok.c (fun _ => Ok.c (fun _ => Ok.ret ⟨WV.no, f2⟩) (fun _ => ?_)) (fun _ => ?_)
  all_goals
    refine Ok.call (parseUint_ok x9 s2 10 64 (.inl ⟨rfl, rfl⟩) h9 (hl.fresh f2)) ?_
    rintro v s3 ⟨⟨n, e, rfl, he⟩, f3⟩
    have f3 := f2.trans f3
    refine Ok.t rfl ?_
    simp only [show at_ (tupOf (Value.tuple ⟨[.int .u64 n, e]⟩)) 1 = e from rfl]
    rcases he with rfl | ⟨p, rfl⟩
    · simp only [neq_nil _ (Operand.const Value.nilIface) rfl]
      refine Ok.t rfl (Ok.f rfl ?_)
      refine Ok.c (fun _ => Ok.ret ⟨WV.no, f3⟩) (fun _ => ?_)
      exact Ok.c (fun _ => Ok.ret ⟨⟨_, _, _, rfl, fun _ => ht⟩, f3⟩) (fun _ => Ok.ret ⟨⟨_, _, _, rfl, fun _ => ht⟩, f3⟩)
    · simp only [neq_ifc _ _ _ (show Nat.blt 263 LF = true from rfl)]
      exact Ok.t rfl (Ok.t rfl (Ok.ret ⟨WV.no, f3⟩))
theorem cutPre_le (a b : List UInt8) : (cutPre a b).length ≤ a.length := by
  unfold cutPre; split <;> simp
theorem cutSuf_le (a b : List UInt8) : (cutSuf a b).length ≤ a.length := by
  unfold cutSuf; split <;> simp
theorem worth_12 [Gh] (s : St) (t : Int) (ht : t = 2 ∨ t = 4) (x : ByteArray) (hx : (bl x).length ≤ 100000) (hl : Lib s.mem s.ctr) : Ok (fun f => p125_12 f x t) s (fun v s' => WV v ∧ Fresh s s') := by
  refine Ok.step (fun f => p125_12_eq f x t) ?_
  refine Ok.call (cutPrefix_ok s x _) ?_
  rintro v s1 ⟨rfl, rfl⟩
  refine Ok.t rfl ?_
  have hle : (bl (strOf (at_ (tupOf (.tuple ⟨[.string (mkStr (cutPre (bl x) (bl (mkStr [45])))), .bool (preB (bl x) (bl (mkStr [45])))]⟩)) 0))).length ≤ 100000 := Nat.le_trans (cutPre_le (bl x) (bl (mkStr [45]))) hx
  refine Ok.call (cut_ok s1 _ (by omega)) ?_
  rintro v s2 ⟨⟨a, b, c, rfl, h1, h2⟩, rfl⟩
  refine Ok.t rfl ?_
  simp only [show ∀ a b c, at_ (tupOf (Value.tuple ⟨[.string a, .string b, .bool c]⟩)) 0 = .string a from fun _ _ _ => rfl, show ∀ a b c, at_ (tupOf (Value.tuple ⟨[.string a, .string b, .bool c]⟩)) 1 = .string b from fun _ _ _ => rfl, show ∀ a b c, at_ (tupOf (Value.tuple ⟨[.string a, .string b, .bool c]⟩)) 2 = .bool c from fun _ _ _ => rfl, strOf, boolOf]
  have h1 : (bl a).length ≤ 100000 := by omega
  have h2 : (bl b).length ≤ 100000 := by omega
  refine Ok.c (fun _ => ?_) (fun _ => worth_19 s2 t (by omega) _ _ _ _ (by omega) (by omega) hl)
  refine Ok.c (fun _ => Ok.ret ⟨WV.no, Fresh.refl _⟩) (fun _ => ?_)
  refine Ok.c (fun _ => Ok.ret ⟨WV.no, Fresh.refl _⟩) (fun _ => ?_)
  refine Ok.c (fun _ => Ok.ret ⟨WV.no, Fresh.refl _⟩) (fun h => ?_)
  have h := of_decide_eq_false h
  simp only [bl] at h1 h2
  simp only [Int.ofNat_eq_natCast] at h
  refine Ok.t (by rw [Bool.and_true]; exact Nat.ble_eq_true_of_le (by omega)) ?_
  refine Ok.t (Nat.ble_eq_true_of_le (by simp only [List.length_take, List.length_drop]; omega)) ?_
  refine Ok.t (Nat.ble_eq_true_of_le (by simp only [List.length_append, List.length_take, List.length_drop]; omega)) ?_
  refine worth_19 s2 5 (by omega) _ _ _ _ ?_ (by simp only [bl]; omega) hl
  simp only [bl_mk, List.length_append, List.length_take, List.length_drop]; omega
theorem worth_ok [Gh] (s : St) (x : ByteArray) (hx : (bl x).length ≤ 100000) (hl : Lib s.mem s.ctr) : Ok (fun f => callF En (runP En f) 125 [.string x]) s (fun v s' => WV v ∧ Fresh s s') := by
  refine Ok.step (fun f => f125_eq f x) ?_
  refine Ok.c (fun _ => Ok.ret ⟨⟨_, _, _, rfl, fun _ => .inl rfl⟩, Fresh.refl s⟩) (fun _ => ?_)
  refine Ok.c (fun _ => Ok.ret ⟨⟨_, _, _, rfl, fun _ => .inr (.inl rfl)⟩, Fresh.refl s⟩) (fun _ => ?_)
  refine Ok.c (fun _ => Ok.ret ⟨⟨_, _, _, rfl, fun _ => .inr (.inr rfl)⟩, Fresh.refl s⟩) (fun _ => ?_)
  refine Ok.call (cutSuffix_ok s x _ (by omega)) ?_
  rintro v s1 ⟨rfl, rfl⟩
  refine Ok.t rfl ?_
  refine Ok.c (fun _ => worth_12 _ 4 (.inr rfl) _ (Nat.le_trans (cutSuf_le (bl x) _) hx) hl) (fun _ => worth_12 _ 2 (.inl rfl) _ hx hl)
end Go.Proofs.YtpljgnjdlciicaaGreatDoor
namespace Go.Proofs.YtpljgnjdlciicaaGreatDoor
open Go Go.Ev Go.Proofs
def isLong (c : Int) : Bool := isInside c || decide (c = 46)
theorem long_ok : IsPred 120 isLong := by
  intro s c
  refine Ok.step (fun f => f120_eq f c) ?_
  refine Ok.call (inside_ok s c) ?_
  rintro v s1 ⟨rfl, rfl⟩
  refine Ok.t rfl ?_
  refine Ok.c (fun h => ?_) (fun h => ?_)
  · exact Ok.ret ⟨by simp_all [isLong, boolOf], rfl⟩
  · exact Ok.ret ⟨by simp_all [isLong, boolOf], rfl⟩
theorem space_ok : IsPred 36 fun c => decide (c = 32) := fun s c => Ok.step (fun f => f36_eq f c) (Ok.ret ⟨rfl, rfl⟩)
theorem insideP : IsPred 87 isInside := fun s c => inside_ok s c
def sub (str : ByteArray) (p q : Int) : ByteArray := mkStr (((bl str).drop p.toNat).take (q.toNat - p.toNat))
section
variable {s : St} {b : Nat} {str : ByteArray} {a : Int} {ts : List Tok} {err bad : Int}
def atomT (t : Int) (n : Nat) : Int := if n = 1 then IntKind.i64.wrap ((0 : Int) + Int.neg t) else t
theorem value3_ok [Gh] (h : LX s b str a ts err bad) (p : Int) (hp : 0 ≤ p ∧ p ≤ a ∧ a ≤ (bl str).length) (c : Nat) (t : Int) (n sy l : List Value) (hr : Row s.mem c [.int .i64 t, lstV n, lstV sy, lstV l]) (hl : ts.length ≤ 20000) :
    Ok (fun f => p123_3 f b p c 0) s (fun v s' => v = .tuple ⟨[]⟩ ∧ LX s' b str a (ts ++ [⟨1, p, a, sub str p a, t, n, sy, l⟩]) err bad) := by
  have t3 : scal En 3 = true := by kernel_rfl
  have t9 : scal En 9 = true := by kernel_rfl
  refine Ok.step (fun f => p123_3_eq f b p c 0) ?_
  refine Ok.segLoad t9 h.c0 fun s1 r1 => ?_
  refine Ok.t rfl ?_
  refine Ok.segLoad t3 (h.c1.reads r1) fun s2 r2 => ?_
  refine Ok.gdL (by kernel_rfl) ?_
  have r2 := r1.trans r2
  refine Ok.t rfl ?_
  simp only [intOf, strOf]
  refine Ok.t (decide_eq_true hp.1) ?_
  refine Ok.t (decide_eq_true (by omega)) ?_
  have hp3 := hp.2.2
  simp only [bl] at hp3
  refine Ok.t (by simp only [Bool.and_eq_true]; exact ⟨Nat.ble_eq_true_of_le (by omega), Nat.ble_eq_true_of_le (by omega)⟩) ?_
  refine Ok.segLoadA (n := 4) (by kernel_rfl) (by kernel_rfl) rfl ?_ (show CellsAt s2.mem c (c + 1 + 0) [.int .i64 t, lstV n, lstV sy, lstV l] by rw [r2.1]; exact hr.2) fun s3 r3 => ?_
  · obtain ⟨el, ex, z, sy', hf⟩ := hr.1
    exact ⟨_, by rw [r2.1]; exact hf⟩
  have r3 := r2.trans r3
  refine Ok.gdL (by kernel_rfl) ?_
  refine Ok.t rfl ?_
  have h3 : LX s3 b str a ts err bad := h.reads r3
  have h3 : LX ⟨s3.mem, s3.ctr, []⟩ b str a ts err bad := h3
  refine Ok.seg (add_ok h3 1 p (sub str p a) t n sy l hl) ?_
  rintro v s4 ⟨rfl, h4⟩
  refine Ok.gdL (by kernel_rfl) ?_
  exact Ok.t rfl (Ok.ret ⟨rfl, h4⟩)
theorem value_ok [Gh] (h : LX s b str a ts err bad) (p : Int) (hp : 0 ≤ p ∧ p ≤ a ∧ a ≤ (bl str).length) (t : Int) (n sy l : List Value) (hn : n.length + sy.length ≤ 1000000) (hl : ts.length ≤ 20000) :
    Ok (fun f => callF En (runP En f) 123 [.pointer (some ⟨b, 0, none⟩), .int .i64 p, .agg ⟨[.int .i64 t, lstV n, lstV sy, lstV l]⟩]) s
      (fun v s' => v = .tuple ⟨[]⟩ ∧ LX s' b str a (ts ++ [⟨1, p, a, sub str p a, atomT t (n.length + sy.length), n, sy, l⟩]) err bad) := by
  have t3 : scal En 3 = true := by kernel_rfl
  refine Ok.step (fun f => f123_eq f b p t n sy l) ?_
  refine Ok.g rfl ?_
  refine Ok.callP (Ok.new rfl) ?_
  rintro v s1 ⟨rfl, e1, e2, e3⟩
  refine Ok.t rfl ?_
  simp only [blk_itP, off_itP, Nat.zero_add]
  have h1 : LX s1 b str a ts err bad := h.frame (by omega) e3
  refine Ok.callP (Ok.load1 (by kernel_rfl) (e2.cell 1 rfl)) ?_
  rintro v s2 ⟨rfl, m2, c2, l2⟩
  have r2 : Reads s1 s2 := ⟨m2, c2, [⟨false, s.ctr + 1 + 1, 1⟩, ⟨false, s.ctr, 1⟩], l2, rfl⟩
  refine Ok.t rfl ?_
  refine Ok.callP (Ok.load1 (by kernel_rfl) ((e2.cell 2 rfl).reads r2)) ?_
  rintro v s3 ⟨rfl, m3, c3, l3⟩
  have r3 : Reads s2 s3 := ⟨m3, c3, [⟨false, s.ctr + 1 + 2, 1⟩, ⟨false, s.ctr, 1⟩], l3, rfl⟩
  have r3 := r2.trans r3
  refine Ok.t rfl ?_
  have hw : IntKind.wrap IntKind.i64 (Int.ofNat (n.length + sy.length)) = ((n.length + sy.length : Nat) : Int) := wrap_in _ (by simp only [Int.ofNat_eq_natCast]; omega) (by simp only [Int.ofNat_eq_natCast]; omega)
  simp only [show ∀ x, elems (lstV x) = x from fun _ => rfl, hw]
  refine Ok.c (fun hc => ?_) (fun hc => ?_)
  · have hc := of_decide_eq_true hc
    refine Ok.callP (Ok.load1 t3 ((e2.cell 0 rfl).reads r3)) ?_
    rintro v s4 ⟨rfl, m4, c4, l4⟩
    have r4 : Reads s3 s4 := ⟨m4, c4, [⟨false, s.ctr + 1 + 0, 1⟩, ⟨false, s.ctr, 1⟩], l4, rfl⟩
    have r4 := r3.trans r4
    refine Ok.t rfl ?_
    have e4 : Row s4.mem s.ctr [.int .i64 t, lstV n, lstV sy, lstV l] := by rw [r4.1]; exact e2
    refine Ok.callP (Ok.storeCell (o := 0) (by kernel_rfl) rfl e4 (by simp) rfl) ?_
    rintro v s5 ⟨rfl, c5, e5, f5⟩
    have h5 : LX s5 b str a ts err bad := h.frame (by rw [c5, r4.2.1, e1]; omega) fun k hk => by rw [f5 k (by omega), r4.1, e3 k hk]
    refine Ok.mono (value3_ok h5 p hp s.ctr _ n sy l e5 hl) ?_
    rintro v s' ⟨rfl, h6⟩
    refine ⟨rfl, ?_⟩
    have : atomT t (n.length + sy.length) = IntKind.i64.wrap ((0 : Int) + Int.neg t) := by unfold atomT; rw [if_pos (by omega)]
    rw [this]
    exact h6
  · have hc := of_decide_eq_false hc
    have e4 : Row s3.mem s.ctr [.int .i64 t, lstV n, lstV sy, lstV l] := by rw [r3.1]; exact e2
    refine Ok.mono (value3_ok (h1.reads r3) p hp s.ctr _ n sy l e4 hl) ?_
    rintro v s' ⟨rfl, h6⟩
    refine ⟨rfl, ?_⟩
    have : atomT t (n.length + sy.length) = t := by unfold atomT; rw [if_neg (by omega)]
    rw [this]
    exact h6
end
end Go.Proofs.YtpljgnjdlciicaaGreatDoor
namespace Go.Proofs.YtpljgnjdlciicaaGreatDoor
open Go Go.Ev Go.Proofs
section
variable {s : St} {b : Nat} {str : ByteArray} {a : Int} {ts : List Tok} {err bad : Int}
def Ats (b : Nat) (s s' : St) : Prop := s.ctr ≤ s'.ctr ∧ ∀ k, k < s.ctr → k ≠ b + 2 → s'.mem.get k = s.mem.get k
theorem Ats.refl (b : Nat) (s : St) : Ats b s s := ⟨Nat.le_refl _, fun _ _ _ => rfl⟩
theorem Ats.trans {b : Nat} {s s1 s2 : St} (h : Ats b s s1) (g : Ats b s1 s2) : Ats b s s2 := ⟨Nat.le_trans h.1 g.1, fun k hk hn => (g.2 k (Nat.lt_of_lt_of_le hk h.1) hn).trans (h.2 k hk hn)⟩
theorem Fresh.ats {s s' : St} (b : Nat) (h : Fresh s s') : Ats b s s' := ⟨h.1, fun k hk _ => h.2 k hk⟩
theorem Reads.ats {s s' : St} (b : Nat) (h : Reads s s') : Ats b s s' := Fresh.ats b (Go.Ev.Reads.fresh h)
theorem setAt_ats {s s' : St} (h1 : s'.ctr = s.ctr) (h2 : ∀ k, k ≠ b + 2 → s'.mem.get k = s.mem.get k) : Ats b s s' := ⟨by omega, fun k _ hk => h2 k hk⟩
theorem byteOf_in (str : ByteArray) (k : Int) (h : k < (bl str).length) : byteOf str k = byteI str k := by
  unfold byteOf byteI
  rw [if_pos (by simpa [bl] using h)]
theorem byteOf_out (str : ByteArray) (k : Int) (h : ¬ k < (bl str).length) : byteOf str k = 0 := by
  unfold byteOf
  rw [if_neg (by simpa [bl] using h)]
theorem byteOf_ne (str : ByteArray) (k : Int) (h : byteOf str k ≠ 0) : k < (bl str).length := by
  by_cases hk : k < (bl str).length
  · exact hk
  · exact absurd (byteOf_out str k hk) h
theorem number_4 [Gh] (h : LX s b str a ts err bad) (n : Nat) (ha : 0 ≤ a ∧ a + n ≤ (bl str).length) (hs : (bl str).length ≤ 1000000) :
    Ok (fun f => p124_4 f b (n : Int)) s (fun v s' => (∃ m : Nat, runV str isLong (a + n) m ∧ v = .string (sub str a (a + n + m))) ∧ LX s' b str a ts err bad ∧ Ats b s s') := by
  have t3 : scal En 3 = true := by kernel_rfl
  have t9 : scal En 9 = true := by kernel_rfl
  refine Ok.step (fun f => p124_4_eq f b n) ?_
  refine Ok.callP (Ok.load1 t3 h.c1) ?_
  rintro v s1 ⟨rfl, m1, c1, l1⟩
  have r1 : Reads s s1 := ⟨m1, c1, [⟨false, b + 1 + 1, 1⟩, ⟨false, b, 1⟩], l1, rfl⟩
  refine Ok.t rfl ?_
  have hw : IntKind.i64.wrap (a + (n : Int)) = a + n := wrap_in _ (by omega) (by omega)
  simp only [intOf, hw]
  refine Ok.callP (setAt_ok (h.reads r1) (a + n)) ?_
  rintro v s2 ⟨rfl, h2, c2, f2⟩
  have a2 := (Reads.ats b r1).trans (setAt_ats c2 f2)
  refine Ok.call (run_ok long_ok s2 (by omega) (by simp only [bl] at ha; omega) (by simp only [bl] at hs; omega) h2.c0 h2.c1) ?_
  rintro v s3 ⟨m, hm, rfl, r3⟩
  have a3 := a2.trans (Reads.ats b r3)
  have h3 := h2.reads r3
  have hm1 := hm.1
  have hbl : (bl str).length = str.data.toList.length := rfl
  refine Ok.t rfl ?_
  refine Ok.callP (Ok.load1 t3 h3.c1) ?_
  rintro v s4 ⟨rfl, m4, c4, l4⟩
  have r4 : Reads s3 s4 := ⟨m4, c4, [⟨false, b + 1 + 1, 1⟩, ⟨false, b, 1⟩], l4, rfl⟩
  have a4 := a3.trans (Reads.ats b r4)
  refine Ok.t rfl ?_
  have hw2 : IntKind.i64.wrap (a + (n : Int) + Int.neg (n : Int)) = a := by
    rw [show a + (n : Int) + Int.neg (n : Int) = a by show a + (n : Int) + -(n : Int) = a; omega]
    exact wrap_in _ (by omega) (by omega)
  simp only [intOf, hw2]
  refine Ok.callP (setAt_ok (h3.reads r4) a) ?_
  rintro v s5 ⟨rfl, h5, c5, f5⟩
  have a5 := a4.trans (setAt_ats c5 f5)
  refine Ok.segLoad t9 h5.c0 fun s6 r6 => ?_
  refine Ok.t rfl ?_
  refine Ok.segLoad t3 (h5.c1.reads r6) fun s7 r7 => ?_
  have r7 := r6.trans r7
  refine Ok.gdL (by kernel_rfl) ?_
  refine Ok.t rfl ?_
  refine Ok.segLoad t3 (h5.c1.reads r7) fun s8 r8 => ?_
  have r8 := r7.trans r8
  refine Ok.gdL (by kernel_rfl) ?_
  refine Ok.t rfl ?_
  have hl : (mkStr (List.take m (List.drop (a + (n : Int)).toNat str.data.toList))).data.toList.length = m := by
    show (List.take m (List.drop (a + (n : Int)).toNat str.data.toList)).length = m
    rw [List.length_take, List.length_drop]; omega
  have hw3 : IntKind.i64.wrap (a + (n : Int) + (m : Int)) = a + n + m := wrap_in _ (by omega) (by omega)
  simp only [intOf, strOf, hw, hl, Int.ofNat_eq_natCast, hw3]
  refine Ok.t (decide_eq_true ha.1) ?_
  refine Ok.t (decide_eq_true (by omega)) ?_
  refine Ok.t (by simp only [Bool.and_eq_true]; exact ⟨Nat.ble_eq_true_of_le (by omega), Nat.ble_eq_true_of_le (by omega)⟩) ?_
  exact Ok.ret ⟨⟨m, hm, rfl⟩, h5.reads r8, a5.trans (Reads.ats b r8)⟩
theorem number_ok [Gh] (h : LX s b str a ts err bad) (ha : 0 ≤ a ∧ a ≤ (bl str).length) (hs : (bl str).length ≤ 1000000) (hd : isDigit (byteOf str a) = true ∨ byteOf str a = 45) :
    Ok (fun f => callF En (runP En f) 124 [.pointer (some ⟨b, 0, none⟩)]) s (fun v s' => (∃ e : Int, a < e ∧ e ≤ (bl str).length ∧ v = .string (sub str a e)) ∧ LX s' b str a ts err bad ∧ Ats b s s') := by
  refine Ok.step (fun f => f124_eq f b) ?_
  refine Ok.call (peek_ok s b str a 0 h.c0 h.c1 (by omega) (by omega)) ?_
  rintro v s1 ⟨rfl, r1⟩
  refine Ok.t rfl ?_
  rw [Int.add_zero]
  have hbl : (bl str).length = str.data.toList.length := rfl
  simp only [intOf]
  refine Ok.c (fun hc => ?_) (fun hc => ?_)
  · have hc := of_decide_eq_true hc
    have hlt := byteOf_ne str a (by omega)
    refine Ok.mono (number_4 (h.reads r1) 1 ⟨ha.1, by omega⟩ hs) ?_
    rintro v s' ⟨⟨m, hm, rfl⟩, h2, a2⟩
    have := hm.1
    exact ⟨⟨a + 1 + m, by omega, by omega, rfl⟩, h2, (Reads.ats b r1).trans a2⟩
  · have hc := of_decide_eq_false hc
    refine Ok.mono (number_4 (h.reads r1) 0 ⟨ha.1, by omega⟩ hs) ?_
    rintro v s' ⟨⟨m, hm, rfl⟩, h2, a2⟩
    have h1 := hm.1
    have hd : isDigit (byteOf str a) = true := by
      rcases hd with hd | hd
      · exact hd
      · exact absurd hd hc
    have hlt := byteOf_ne str a (by intro e; rw [e] at hd; exact absurd hd (by decide))
    refine ⟨⟨a + (0 : Nat) + m, ?_, by omega, rfl⟩, h2, (Reads.ats b r1).trans a2⟩
    have : m ≠ 0 := by
      intro e
      subst e
      have := hm.2.2 (by omega)
      simp only [Int.natCast_zero, Int.add_zero] at this
      rw [← byteOf_in str a hlt] at this
      simp [isLong, isInside, hd] at this
    omega
end
end Go.Proofs.YtpljgnjdlciicaaGreatDoor
namespace Go.Proofs.YtpljgnjdlciicaaGreatDoor
open Go Go.Ev Go.Proofs
section
variable {s : St} {b : Nat} {str : ByteArray} {a : Int} {ts : List Tok} {err bad : Int}
theorem not_f {b : Bool} (h : (!b) = false) : b = true := by cases b <;> simp_all
theorem not_t {b : Bool} (h : (!b) = true) : b = false := by cases b <;> simp_all
def MoreQ [Gh] (b : Nat) (str : ByteArray) (a : Int) (ts : List Tok) (err bad : Int) (s : St) (v : Value) (s' : St) : Prop :=
  Ats b s s' ∧ ((v = .bool false ∧ LX s' b str a ts err bad) ∨ (v = .bool true ∧ ∃ a' : Int, a < a' ∧ a' ≤ (bl str).length ∧ (isDigit (byteOf str a') = true ∨ byteOf str a' = 45) ∧ LX s' b str a' ts err bad))
theorem cut_b (s : St) (x : ByteArray) (hx : (bl x).length ≤ 1000000) : Ok (fun f => callF En (runP En f) 121 [.string x, .string (mkStr [98])]) s (fun v s' => (∃ y c, v = .tuple ⟨[.string y, .bool c]⟩ ∧ (bl y).length ≤ (bl x).length) ∧ s' = s) := by
  refine Ok.mono (cutSuffix_ok s x _ (by omega)) ?_
  rintro v s' ⟨rfl, rfl⟩
  exact ⟨⟨_, _, rfl, cutSuf_le _ _⟩, rfl⟩
theorem bits_ok (s : St) (x : ByteArray) (hx : (bl x).length ≤ 1000000) : Ok (fun f => callF En (runP En f) 122 [(Value.string x), (Value.string (mkStr [48, 49]))]) s (fun v s' => (∃ y, v = .string y ∧ (bl y = [] ↔ ∀ c ∈ bl x, memB [48, 49] c.toNat = true)) ∧ Fresh s s') := by
  refine Ok.mono (trim_ok s x _ (by omega) (by decide) (by decide) (asc _ (by decide))) ?_
  rintro v s' ⟨rfl, h⟩
  exact ⟨⟨_, rfl, trim_nil _ _⟩, h⟩
theorem more_fin [Gh] (h : LX s b str a ts err bad) (n : Nat) (hn : 0 < n) (ha : 0 ≤ a ∧ a + n ≤ (bl str).length) (hs : (bl str).length ≤ 1000000) (hd : isDigit (byteOf str (a + n)) = true ∨ byteOf str (a + n) = 45) (s0 : St) (h0 : Ats b s0 s) :
    Ok (fun _ => Ev.callP (fun _ => Prog.ret (Value.bool Bool.true)) (storeT En 3 b 1 (Value.int IntKind.i64 (a + n)))) s (MoreQ b str a ts err bad s0) := by
  refine Ok.callP (setAt_ok h (a + n)) ?_
  rintro v s1 ⟨rfl, h1, c1, f1⟩
  exact Ok.ret ⟨h0.trans (setAt_ats c1 f1), .inr ⟨rfl, _, by omega, ha.2, hd, h1⟩⟩
theorem more_y [Gh] (h : LX s b str a ts err bad) (n : Nat) (hn : 0 < n) (ha : 0 ≤ a ∧ a + n ≤ (bl str).length) (hs : (bl str).length ≤ 1000000) (hd : isDigit (byteOf str (a + n)) = true ∨ byteOf str (a + n) = 45) (s0 : St) (h0 : Ats b s0 s) :
    Ok (fun f => Ev.callP (fun v9 => cnd (Ev.callP (fun v10 => (Prog.call (callF En (runP En f) 35 [(Value.pointer (Option.some (Addr.mk (blkOf v9) (offOf v9) Option.none))), (Value.func (Fn.func 120) ⟨[]⟩ ⟨[]⟩)]) fun v11 =>
                                                  (cnd
                                                    (Prog.call (callF En (runP En f) 121 [(Value.string (strOf v11)), (Value.string (mkStr [98]))]) fun v12 =>
                                                      (cnd
                                                        (cnd
                                                          (cnd
                                                            (Prog.call (callF En (runP En f) 122 [(Value.string (strOf (at_ (tupOf v12) 0))), (Value.string (mkStr [48, 49]))]) fun v13 =>
                                                              (cnd
                                                                (cnd
                                                                  (Prog.ret (Value.bool Bool.false))
                                                                  (Ev.callP (fun v14 =>
                                                                    (Prog.ret (Value.bool Bool.true)))
                                                                    (storeT En 3 b 1 (Value.int IntKind.i64 (a + n))))
                                                                  (beqB (Array.toList (ByteArray.data (strOf v13))) []))
                                                                Prog.fail
                                                                (okK Kd.str v13)))
                                                            (Ev.callP (fun v15 =>
                                                              (Prog.ret (Value.bool Bool.true)))
                                                              (storeT En 3 b 1 (Value.int IntKind.i64 (a + n))))
                                                            (Bool.not (beqB (Array.toList (ByteArray.data (strOf (at_ (tupOf v12) 0)))) [])))
                                                          (Ev.callP (fun v16 =>
                                                            (Prog.ret (Value.bool Bool.true)))
                                                            (storeT En 3 b 1 (Value.int IntKind.i64 (a + n))))
                                                          (boolOf (at_ (tupOf v12) 1)))
                                                        Prog.fail
                                                        ((isTupV v12) && (okNs ((Nm.one Kd.str) :: ((Nm.one Kd.bool) :: [])) (tupOf v12)))))
                                                    Prog.fail
                                                    (okK Kd.str v11))))
                                                (storeT En 85 (blkOf v9) (offOf v9) (Value.agg ⟨((Value.string str) :: ((Value.int IntKind.i64 (a + n)) :: []))⟩)))
                                              Prog.fail
                                              (isPt v9))
                                            (Prog.newH (Hdr.mk 2 85 Bool.false Bool.true Bool.true 0 Bool.false Bool.false []) ((Value.string (mkStr [])) :: ((Value.int IntKind.i64 (0 : Int)) :: [])) (fun z8 => (Prog.ret (itP z8))))) s (MoreQ b str a ts err bad s0) := by
  have hbl : (bl str).length = str.data.toList.length := rfl
  refine Ok.callP (Ok.new rfl) ?_
  rintro v s1 ⟨rfl, e1, e2, e3⟩
  have f1 : Fresh s s1 := ⟨by omega, e3⟩
  refine Ok.t rfl ?_
  simp only [blk_itP, off_itP]
  refine Ok.callP (Ok.storeRow (n := 2) (ws := [Value.string str, Value.int IntKind.i64 (a + n)]) (by kernel_rfl) e2 rfl rfl rfl) ?_
  rintro v s2 ⟨rfl, c2, g2, k2⟩
  have f2 : Fresh s s2 := ⟨by rw [c2, e1]; omega, fun k hk => by rw [k2 k (.inl (by omega)), e3 k hk]⟩
  refine Ok.call (run_ok long_ok s2 (by omega) (by omega) (by omega) (g2.cell 0 rfl) (g2.cell 1 rfl)) ?_
  rintro v s3 ⟨m, hm, rfl, r3⟩
  have f3 := f2.trans (Go.Ev.Reads.fresh r3)
  refine Ok.t rfl ?_
  refine Ok.call (cut_b s3 _ (by simp only [strOf, bl_mk, List.length_take, List.length_drop]; omega)) ?_
  rintro v s4 ⟨⟨y, c, rfl, hy⟩, rfl⟩
  simp only [strOf, bl_mk, List.length_take, List.length_drop] at hy
  refine Ok.t rfl ?_
  have fin : ∀ s5, Fresh s s5 → Ok (fun _ => Ev.callP (fun _ => Prog.ret (Value.bool Bool.true)) (storeT En 3 b 1 (Value.int IntKind.i64 (a + n)))) s5 (MoreQ b str a ts err bad s0) := fun s5 f5 => more_fin (h.fresh f5) n hn ha hs hd s0 (h0.trans (Fresh.ats b f5))
  refine Ok.c (fun _ => ?_) (fun _ => fin _ f3)
  refine Ok.c (fun _ => ?_) (fun _ => fin _ f3)
  refine Ok.call (bits_ok s4 _ (by show (bl y).length ≤ _; omega)) ?_
  rintro v s5 ⟨⟨z, rfl, _⟩, f5⟩
  have f5 := f3.trans f5
  refine Ok.t rfl ?_
  exact Ok.c (fun _ => Ok.ret ⟨h0.trans (Fresh.ats b f5), .inl ⟨rfl, h.fresh f5⟩⟩) (fun _ => fin _ f5)
theorem more_loop [Gh] (ha : 0 ≤ a ∧ a ≤ (bl str).length) (hs : (bl str).length ≤ 1000000) (s0 : St) : ∀ (m n : Nat) (s : St), a + n + m = (bl str).length → LX s b str a ts err bad → Ats b s0 s →
    Ok (fun f => p126_2 f b (n : Int)) s (MoreQ b str a ts err bad s0) := by
  have t3 : scal En 3 = true := by kernel_rfl
  have t9 : scal En 9 = true := by kernel_rfl
  intro m
  induction m using Nat.strongRecOn with
  | ind m IH =>
  intro n s hm h h0
  have hw : IntKind.i64.wrap (a + (n : Int)) = a + n := wrap_in _ (by omega) (by omega)
  have hw1 : IntKind.i64.wrap ((n : Int) + 1) = ((n + 1 : Nat) : Int) := by rw [wrap_in _ (by omega) (by omega)]; omega
  refine Ok.step (fun f => p126_2_eq f b n) ?_
  refine Ok.call (peek_ok s b str a n h.c0 h.c1 (by omega) (by omega)) ?_
  rintro v s1 ⟨rfl, r1⟩
  have h1 := h.reads r1
  have a1 := h0.trans (Reads.ats b r1)
  refine Ok.t rfl ?_
  simp only [intOf]
  refine Ok.c (fun hc => ?_) (fun hc => ?_)
  · have hc := of_decide_eq_true hc
    have hlt := byteOf_ne str (a + n) (by omega)
    rw [hw1]
    exact IH (m - 1) (by omega) (n + 1) s1 (by omega) h1 a1
  refine Ok.c (fun hn => Ok.ret ⟨a1, .inl ⟨rfl, h1⟩⟩) (fun hn => ?_)
  have hn := of_decide_eq_false hn
  have hn : 0 < n := by omega
  refine Ok.callP (Ok.load1 t3 h1.c1) ?_
  rintro v s2 ⟨rfl, m2, c2, l2⟩
  have r2 : Reads s1 s2 := ⟨m2, c2, [⟨false, b + 1 + 1, 1⟩, ⟨false, b, 1⟩], l2, rfl⟩
  have h2 := h1.reads r2
  have a2 := a1.trans (Reads.ats b r2)
  refine Ok.t rfl ?_
  refine Ok.call (peek_ok s2 b str a n h2.c0 h2.c1 (by omega) (by omega)) ?_
  rintro v s3 ⟨rfl, r3⟩
  have h3 := h2.reads r3
  have a3 := a2.trans (Reads.ats b r3)
  refine Ok.t rfl ?_
  simp only [intOf]
  refine Ok.call (digit_ok s3 _) ?_
  rintro v s4 ⟨rfl, rfl⟩
  refine Ok.t rfl ?_
  simp only [boolOf]
  have rest : ∀ s5, LX s5 b str a ts err bad → Ats b s0 s5 → (isDigit (byteOf str (a + n)) = true ∨ byteOf str (a + n) = 45) → Ok (fun f => loadT En 9 b 0) s5 (fun v s' => v = .string str ∧ LX s' b str a ts err bad ∧ Ats b s0 s') := by
    intro s5 h5 a5 _
    refine Ok.mono (Ok.load1 t9 h5.c0) ?_
    rintro v s6 ⟨rfl, m6, c6, l6⟩
    have r6 : Reads s5 s6 := ⟨m6, c6, [⟨false, b + 1 + 0, 1⟩, ⟨false, b, 1⟩], l6, rfl⟩
    exact ⟨rfl, h5.reads r6, a5.trans (Reads.ats b r6)⟩
  refine Ok.c (fun hd => ?_) (fun hd => ?_)
  · refine Ok.c (fun _ => Ok.ret ⟨a3, .inl ⟨rfl, h3⟩⟩) (fun hc => ?_)
    have hc : byteOf str (a + n) = 45 := of_decide_eq_true (not_f hc)
    have hlt := byteOf_ne str (a + n) (by omega)
    rw [hw1]
    refine Ok.call (peek_ok s4 b str a _ h3.c0 h3.c1 (by omega) (by omega)) ?_
    rintro v s5 ⟨rfl, r5⟩
    have h5 := h3.reads r5
    have a5 := a3.trans (Reads.ats b r5)
    refine Ok.t rfl ?_
    simp only [intOf]
    refine Ok.call (digit_ok s5 _) ?_
    rintro v s6 ⟨rfl, rfl⟩
    refine Ok.t rfl ?_
    refine Ok.c (fun _ => Ok.ret ⟨a5, .inl ⟨rfl, h5⟩⟩) (fun _ => ?_)
    refine Ok.callP (rest s6 h5 a5 (.inr hc)) ?_
    rintro v s7 ⟨rfl, h7, a7⟩
    refine Ok.t rfl (Ok.g rfl ?_)
    simp only [strOf, hw]
    exact more_y h7 n hn ⟨ha.1, by omega⟩ hs (.inr hc) s0 a7
  · have hd : isDigit (byteOf str (a + n)) = true := by simpa using hd
    have hlt := byteOf_ne str (a + n) (by intro e; rw [e] at hd; exact absurd hd (by decide))
    refine Ok.callP (rest s4 h3 a3 (.inl hd)) ?_
    rintro v s7 ⟨rfl, h7, a7⟩
    refine Ok.t rfl (Ok.g rfl ?_)
    simp only [strOf, hw]
    exact more_y h7 n hn ⟨ha.1, by omega⟩ hs (.inl hd) s0 a7
theorem more_ok [Gh] (h : LX s b str a ts err bad) (ha : 0 ≤ a ∧ a ≤ (bl str).length) (hs : (bl str).length ≤ 1000000) :
    Ok (fun f => callF En (runP En f) 126 [.pointer (some ⟨b, 0, none⟩)]) s (MoreQ b str a ts err bad s) := by
  refine Ok.step (fun f => f126_eq f b) ?_
  exact more_loop ha hs s ((bl str).length - a.toNat) 0 s (by omega) h (Ats.refl b s)
end
end Go.Proofs.YtpljgnjdlciicaaGreatDoor
namespace Go.Proofs.YtpljgnjdlciicaaGreatDoor
open Go Go.Ev Go.Proofs
noncomputable def body119 (f : Nat) (b : Nat) (p t : Int) (n sy l : Value) : Prog := runP En f 123 (frameTm 34 [.pointer (some ⟨b, 0, none⟩), .int .i64 p, .agg ⟨[.int .i64 t, n, sy, l]⟩]) [.code (cB 123)] [] none
theorem f123_frz (f : Nat) (b : Nat) (p t : Int) (n sy l : Value) : callF En (runP En f) 123 [.pointer (some ⟨b, 0, none⟩), .int .i64 p, .agg ⟨[.int .i64 t, n, sy, l]⟩] =
    frzL En 20 2 n fun n => frzL En 20 9 sy fun sy => frzL En 20 34 l fun l => body119 f b p t n sy l := by kernel_rfl
theorem f123_lst (f : Nat) (b : Nat) (p t : Int) (n sy l : List Value) : callF En (runP En f) 123 [.pointer (some ⟨b, 0, none⟩), .int .i64 p, .agg ⟨[.int .i64 t, lstV n, lstV sy, lstV l]⟩] = body119 f b p t (lstV n) (lstV sy) (lstV l) := by kernel_rfl
section
variable {s : St} {b : Nat} {str : ByteArray} {a : Int} {ts : List Tok} {err bad : Int}
theorem valueN_ok [Gh] {lo : Nat} {v : Value} {n : List Value} (h : LXh s.mem lo b str a ts err bad) (hlo : lo ≤ s.ctr) (hg : Grow s.mem lo s.ctr 2 1 n v) (p : Int) (hp : 0 ≤ p ∧ p ≤ a ∧ a ≤ (bl str).length) (t : Int) (hn : n.length ≤ 1000000) (hl : ts.length ≤ 20000) :
    Ok (fun f => callF En (runP En f) 123 [.pointer (some ⟨b, 0, none⟩), .int .i64 p, .agg ⟨[.int .i64 t, v, .slice none 0 0, .slice none 0 0]⟩]) s
      (fun v s' => v = .tuple ⟨[]⟩ ∧ LX s' b str a (ts ++ [⟨1, p, a, sub str p a, atomT t n.length, n, [], []⟩]) err bad) := by
  simp only [f123_frz]
  refine Ok.frzL (by kernel_rfl) sl2 (by kernel_rfl) hg fun s' c1 f1 => ?_
  refine Ok.frzNil (Ok.frzNil ?_)
  simp only [← f123_lst]
  have h' : LX s' b str a ts err bad := h.frame (by omega) f1
  exact value_ok h' p hp t n [] [] hn hl
theorem valueS_ok [Gh] {lo : Nat} {v : Value} {n : List Value} (h : LXh s.mem lo b str a ts err bad) (hlo : lo ≤ s.ctr) (hg : Grow s.mem lo s.ctr 9 1 n v) (p : Int) (hp : 0 ≤ p ∧ p ≤ a ∧ a ≤ (bl str).length) (t : Int) (hn : n.length ≤ 1000000) (hl : ts.length ≤ 20000) :
    Ok (fun f => callF En (runP En f) 123 [.pointer (some ⟨b, 0, none⟩), .int .i64 p, .agg ⟨[.int .i64 t, .slice none 0 0, v, .slice none 0 0]⟩]) s
      (fun v s' => v = .tuple ⟨[]⟩ ∧ LX s' b str a (ts ++ [⟨1, p, a, sub str p a, atomT t n.length, [], n, []⟩]) err bad) := by
  simp only [f123_frz]
  refine Ok.frzNil ?_
  refine Ok.frzL (by kernel_rfl) sl9 (by kernel_rfl) hg fun s' c1 f1 => ?_
  refine Ok.frzNil ?_
  simp only [← f123_lst]
  have h' : LX s' b str a ts err bad := h.frame (by omega) f1
  refine Ok.mono (value_ok h' p hp t [] n [] (by simpa using hn) hl) ?_
  rintro v s2 ⟨rfl, h2⟩
  refine ⟨rfl, ?_⟩
  simp only [List.length_nil, Nat.zero_add] at h2
  exact h2
end
end Go.Proofs.YtpljgnjdlciicaaGreatDoor
namespace Go.Proofs.YtpljgnjdlciicaaGreatDoor
open Go Go.Ev Go.Proofs
def ValOK (t : Int) (n sy l : List Value) : Prop := l = [] ∧ n.length + sy.length ≤ 65536 ∧ ∃ k : Int, (k = 1 ∨ k = 2 ∨ k = 3 ∨ k = 4 ∨ k = 5) ∧ t = atomT k (n.length + sy.length) ∧
  ((k = 3 ∧ n = [] ∧ ∀ x ∈ sy, ∃ y, x = .string y ∧ (bl y).length ≤ 64 ∧ ∀ c ∈ bl y, c ≠ 0) ∨ (k ≠ 3 ∧ sy = [] ∧ ∀ x ∈ n, ∃ i, x = .int .i64 i ∧ (k = 1 → i = 0 ∨ i = 1)))
def TokOK (str : ByteArray) (p : Int) (t : Tok) : Prop := t.at_ = p ∧ p < t.en ∧ t.en ≤ (bl str).length ∧ 1 ≤ t.kind ∧ t.kind ≤ 6 ∧ (t.kind ≠ 3 → t.text = sub str p t.en) ∧ (t.kind = 1 → ValOK t.t t.n t.sy t.l)
def TokQ [Gh] (b : Nat) (str : ByteArray) (p : Int) (ts : List Tok) (bad : Int) (v : Value) (s' : St) : Prop :=
  v = .tuple ⟨[]⟩ ∧ ((∃ (a' err' bad' : Int) (ts' : List Tok), err' ≠ 0 ∧ 0 ≤ bad' ∧ bad' ≤ (bl str).length ∧ LX s' b str a' ts' err' bad') ∨ (∃ t, TokOK str p t ∧ LX s' b str t.en (ts ++ [t]) 0 bad))
section
variable {s : St} {b : Nat} {str : ByteArray} {a : Int} {ts : List Tok} {bad : Int}
theorem fail_q [Gh] {err : Int} (h : LX s b str a ts 0 bad) (e p : Int) (he : e ≠ 0) (hp : 0 ≤ p ∧ p ≤ (bl str).length) (q : Int) :
    Ok (fun f => Prog.call (callF En (runP En f) 38 [(Value.pointer (Option.some (Addr.mk b 0 Option.none))), (Value.int IntKind.i64 e), (Value.int IntKind.i64 p)]) fun v17 =>
        (cnd (Prog.ret (Value.tuple ⟨[]⟩)) Prog.fail ((isTupV v17) && (okNs [] (tupOf v17))))) s (TokQ b str q ts bad) := by
  refine Ok.call (fail_lx h e p) ?_
  rintro v s1 ⟨rfl, h1, _⟩
  exact Ok.t rfl (Ok.ret ⟨rfl, .inl ⟨a, e, p, ts, he, hp.1, hp.2, by simpa using h1⟩⟩)
def NS [Gh] (s : St) (c : Nat) (b : Nat) (str : ByteArray) (a : Int) (ts : List Tok) (bad : Int) (t : Int) (ns : List Value) : Prop :=
  LXh s.mem c b str a ts 0 bad ∧ c + 5 ≤ s.ctr ∧ ∃ v, Row s.mem c [.int .i64 t, v, .slice none 0 0, .slice none 0 0] ∧ Grow s.mem (c + 5) s.ctr 2 1 ns v
theorem NS.lx [Gh] {c : Nat} {t : Int} {ns : List Value} (h : NS s c b str a ts bad t ns) : LX s b str a ts 0 bad := h.1.frame (by have := h.2.1; omega) fun _ _ => rfl
theorem NS.fresh [Gh] {s' : St} {c : Nat} {t : Int} {ns : List Value} (h : NS s c b str a ts bad t ns) (f : Fresh s s') : NS s' c b str a ts bad t ns := by
  obtain ⟨h1, h2, v, h3, h4⟩ := h
  exact ⟨h1.frame (Nat.le_refl c) fun k hk => f.2 k (by omega), by have := f.1; omega, v, h3.congr fun j _ hj => f.2 j (by simp at hj; omega), h4.congr f.1 fun j _ hj => f.2 j hj⟩
theorem NS.reads [Gh] {s' : St} {c : Nat} {t : Int} {ns : List Value} (h : NS s c b str a ts bad t ns) (r : Reads s s') : NS s' c b str a ts bad t ns := h.fresh (Go.Ev.Reads.fresh r)
theorem NS.ats [Gh] {s' : St} {c : Nat} {t : Int} {ns : List Value} {a' : Int} (h : NS s c b str a ts bad t ns) (g : LX s' b str a' ts 0 bad) (f : Ats b s s') : NS s' c b str a' ts bad t ns := by
  obtain ⟨⟨l, g1, g2, g3, g4⟩, h2, v, h3, h4⟩ := h
  obtain ⟨l', i1, i2, i3, i4⟩ := g
  have el : l' = l := by
    have e1 : s.mem.get (b + 1 + 2) = some (.cell b l) := CellsAt.get 2 l g1.2 rfl
    have e2 : s'.mem.get (b + 1 + 2) = some (.cell b l') := CellsAt.get 2 l' i1.2 rfl
    rw [f.2 _ (by omega) (by omega), e1] at e2
    simpa using e2.symm
  subst el
  exact ⟨⟨l', i1, g2.congr (Nat.le_refl c) fun j h5 h6 => f.2 j (by omega) (by omega), g3, i4⟩, by have := f.1; omega, v, h3.congr fun j _ hj => f.2 j (by simp at hj; omega) (by omega), h4.congr f.1 fun j _ hj => f.2 j hj (by omega)⟩
theorem NS.setAt [Gh] {c : Nat} {t : Int} {ns : List Value} (h : NS s c b str a ts bad t ns) (a' : Int) :
    Ok (fun _ => storeT En 3 b 1 (.int .i64 a')) s (fun w s' => w = U ∧ NS s' c b str a' ts bad t ns) := by
  refine Ok.mono (setAt_ok h.lx a') ?_
  rintro v s' ⟨rfl, h1, c1, f1⟩
  exact ⟨rfl, h.ats h1 (setAt_ats c1 f1)⟩
theorem appT28 : AppT En 30 2 1 8 := ⟨by kernel_rfl, by kernel_rfl, by kernel_rfl, by kernel_rfl, by omega⟩
theorem NS.push [Gh] {c : Nat} {t : Int} {ns : List Value} (h : NS s c b str a ts bad t ns) (hn : ns.length ≤ 65536) (i : Int) :
    ∃ v, Cell s.mem c 1 v ∧ Ok (fun _ => builtinA En Builtin.append (30 :: (30 :: [])) (v :: (xlstV (Value.int IntKind.i64 i :: []) :: []))) s (fun w s' => oneC w = true ∧ cellsL w = [w] ∧ c + 5 ≤ s'.ctr ∧ LXh s'.mem c b str a ts 0 bad ∧ Row s'.mem c [.int .i64 t, v, .slice none 0 0, .slice none 0 0] ∧ Grow s'.mem (c + 5) s'.ctr 2 1 (ns ++ [.int .i64 i]) w) := by
  obtain ⟨h1, h2, v, h3, h4⟩ := h
  refine ⟨v, h3.cell 1 rfl, ?_⟩
  refine Ok.mono (Ok.app appT28 h4 rfl rfl h2 (by omega)) ?_
  rintro w s' ⟨g1, g2, g3⟩
  exact ⟨g1.one.1, g1.one.2, by omega, h1.frame (Nat.le_refl c) fun k hk => g3 k (by omega), h3.congr fun j _ hj => g3 j (by simp at hj; omega), g1⟩
theorem NS.store [Gh] {c : Nat} {t : Int} {ns : List Value} {v w : Value} (h0 : oneC w = true) (h0' : cellsL w = [w]) (h2 : c + 5 ≤ s.ctr) (h1 : LXh s.mem c b str a ts 0 bad) (h3 : Row s.mem c [.int .i64 t, v, .slice none 0 0, .slice none 0 0]) (h4 : Grow s.mem (c + 5) s.ctr 2 1 ns w) :
    Ok (fun _ => storeT En 30 c 1 w) s (fun v s' => v = U ∧ NS s' c b str a ts bad t ns) := by
  refine Ok.mono (Ok.storeCell (by kernel_rfl) h0' h3 (by simp) h0) ?_
  rintro v s' ⟨rfl, e1, e2, e3⟩
  exact ⟨rfl, h1.frame (Nat.le_refl c) fun k hk => e3 k (by omega), by omega, w, e2, h4.congr (by omega) fun j h5 _ => e3 j (by omega)⟩
theorem NS.value [Gh] {c : Nat} {t : Int} {ns : List Value} (h : NS s c b str a ts bad t ns) (p : Int) (hp : 0 ≤ p ∧ p ≤ a ∧ a ≤ (bl str).length) (hn : ns.length ≤ 1000000) (hl : ts.length ≤ 20000) {Q : Value → St → Prop}
    (hq : ∀ s', LX s' b str a (ts ++ [⟨1, p, a, sub str p a, atomT t ns.length, ns, [], []⟩]) 0 bad → Q (.tuple ⟨[]⟩) s') :
    Ok (fun f => Ev.callP (fun v28 =>
            (cnd
              (Prog.call (callF En (runP En f) 123 [(Value.pointer (Option.some (Addr.mk b 0 Option.none))), (Value.int IntKind.i64 p), (Value.agg ⟨((Value.int IntKind.i64 (intOf (at_ (aggOf v28) 0))) :: ((at_ (aggOf v28) 1) :: ((at_ (aggOf v28) 2) :: ((at_ (aggOf v28) 3) :: []))))⟩)]) fun v29 =>
                (cnd
                  (Prog.ret (Value.tuple ⟨[]⟩))
                  Prog.fail
                  ((isTupV v29) && (okNs [] (tupOf v29)))))
              Prog.fail
              ((isAggV v28) && (okKs ((Kd.int IntKind.i64) :: (Kd.raw :: (Kd.raw :: (Kd.raw :: [])))) (aggOf v28)))))
            (loadT En 34 c 0)) s Q := by
  have h' := h
  obtain ⟨h1, h2, v, h3, h4⟩ := h
  refine Ok.callP (Ok.loadA (n := 4) (vs := [.int .i64 t, v, .slice none 0 0, .slice none 0 0]) (by kernel_rfl) (by kernel_rfl) rfl ?_ h3.2) ?_
  · obtain ⟨el, ex, z, sy', hf⟩ := h3.1
    exact ⟨_, hf⟩
  rintro w s1 ⟨rfl, m1, c1, _⟩
  refine Ok.t rfl ?_
  refine Ok.call (valueN_ok (lo := c + 5) (v := v) (n := ns) (b := b) (str := str) (a := a) (ts := ts) (err := 0) (bad := bad) ?_ (by omega) (h4.congr (by omega) fun j _ _ => by rw [m1]) p hp t hn hl) ?_
  · exact h1.frame (by omega) fun k _ => by rw [m1]
  rintro w s2 ⟨rfl, h5⟩
  exact Ok.t rfl (Ok.ret (hq s2 h5))
end
end Go.Proofs.YtpljgnjdlciicaaGreatDoor
namespace Go.Proofs.YtpljgnjdlciicaaGreatDoor
open Go Go.Ev Go.Proofs
section
variable {s : St} {b : Nat} {str : ByteArray} {a : Int} {ts : List Tok} {bad : Int}
def bit (c : Nat) : Int := IntKind.wrap IntKind.i64 (IntKind.wrap IntKind.u8 (Int.subNatNat c 48))
theorem bit_ok (c : Nat) (h : memB [48, 49] c = true) : bit c = 0 ∨ bit c = 1 := by
  simp only [memB, List.any_cons, List.any_nil, Bool.or_false, Bool.or_eq_true, decide_eq_true_eq] at h
  rcases h with h | h
  · subst h; left; decide
  · subst h; right; decide
theorem build28 (i : Int) : buildSliceA En 30 1 ((Prod.mk 0 (Value.int IntKind.i64 i)) :: []) = .ret (xlstV (Value.int IntKind.i64 i :: [])) := by kernel_rfl
def BitV (x : Value) : Prop := ∃ i, x = .int .i64 i ∧ (i = 0 ∨ i = 1)
theorem bits_loop [Gh] (c : Nat) (p : Int) (S x : ByteArray) (hx : ∀ i, i < (bl x).length → memB [48, 49] (byteAt x i) = true) (hp : 0 ≤ p) (hS : p + (bl S).length ≤ (bl str).length) (hS0 : 0 < (bl S).length) (hxl : (bl x).length ≤ (bl S).length) (hx0 : 0 < (bl x).length) (hs : (bl str).length ≤ 1000000) (hl : ts.length ≤ 20000) :
    ∀ (m i : Nat) (ns : List Value) (s : St), i ≤ 65536 → i + m = (bl x).length → ns.length = i → (∀ y ∈ ns, BitV y) → NS s c b str p ts bad 1 ns →
    Ok (fun f => p85_6 f b p S x c 0 (Int.ofNat (bl x).length) (i : Int)) s (TokQ b str p ts bad) := by
  have t3 : scal En 3 = true := by kernel_rfl
  intro m
  induction m with
  | zero =>
    intro i ns s h6 hm hn hb h
    refine Ok.step (fun f => p85_6_eq f b p S x c 0 _ (i : Int)) ?_
    refine Ok.f (decide_eq_false (by simp only [Int.ofNat_eq_natCast]; omega)) ?_
    refine Ok.callP (Ok.load1 t3 h.lx.c1) ?_
    rintro v s1 ⟨rfl, m1, c1, l1⟩
    have r1 : Reads s s1 := ⟨m1, c1, [⟨false, b + 1 + 1, 1⟩, ⟨false, b, 1⟩], l1, rfl⟩
    refine Ok.t rfl ?_
    have hw : IntKind.i64.wrap (p + ((bl S).length : Int)) = p + (bl S).length := wrap_in _ (by omega) (by omega)
    simp only [bl] at hw
    simp only [intOf, Int.ofNat_eq_natCast, hw]
    refine Ok.callP ((h.reads r1).setAt _) ?_
    rintro v s2 ⟨rfl, h2⟩
    refine NS.value h2 p ⟨hp, by omega, hS⟩ (by omega) hl fun s' h3 => ⟨rfl, .inr ⟨⟨1, p, p + ((bl S).length : Int), sub str p (p + ((bl S).length : Int)), atomT 1 ns.length, ns, [], []⟩, ⟨rfl, ?_, hS, Int.le_refl 1, (by decide : (1 : Int) ≤ 6), fun _ => rfl, fun _ => ⟨rfl, ?_, 1, .inl rfl, rfl, .inr ⟨by decide, rfl, ?_⟩⟩⟩, h3⟩⟩
    · show p < p + ((bl S).length : Int)
      omega
    · show ns.length + 0 ≤ 65536
      omega
    · intro y hy
      obtain ⟨i, e, hi⟩ := hb y hy
      exact ⟨i, e, fun _ => hi⟩
  | succ m IH =>
    intro i ns s h6 hm hn hb h
    have hi : i < (bl x).length := by omega
    have hw1 : IntKind.i64.wrap ((i : Int) + 1) = ((i + 1 : Nat) : Int) := by rw [wrap_in _ (by omega) (by omega)]; omega
    simp only [bl] at hi
    refine Ok.step (fun f => p85_6_eq f b p S x c 0 _ (i : Int)) ?_
    refine Ok.t (decide_eq_true (by simp only [bl, Int.ofNat_eq_natCast]; omega)) ?_
    refine Ok.c (fun _ => ?_) (fun hlt => ?_)
    · have hw : IntKind.i64.wrap (p + (i : Int)) = p + i := wrap_in _ (by omega) (by omega)
      rw [hw]
      exact fail_q (err := 0) h.lx 6 _ (by decide) (by simp only [bl] at *; omega) p
    · have hlt := of_decide_eq_false hlt
      obtain ⟨v, hv, _⟩ := h.push (by omega) (bit (byteAt x (Int.toNat (i : Int))))
      simp only [Nat.zero_add]
      refine Ok.segLoad (by kernel_rfl) hv fun s1 r1 => ?_
      refine Ok.t (decide_eq_true (by omega)) ?_
      refine Ok.t (Nat.ble_eq_true_of_le (by simp only [Int.toNat_natCast]; omega)) ?_
      simp only [build28]
      refine Ok.seg (Q1 := fun v s' => v = xlstV (Value.int IntKind.i64 (bit (byteAt x (Int.toNat (i : Int)))) :: []) ∧ s' = ⟨s1.mem, s1.ctr, []⟩) (Ok.ret ⟨rfl, rfl⟩) ?_
      rintro w s2 ⟨rfl, rfl⟩
      refine Ok.gdL (by kernel_rfl) ?_
      have h1 : NS s1 c b str p ts bad 1 ns := h.reads r1
      have h1 : NS ⟨s1.mem, s1.ctr, []⟩ c b str p ts bad 1 ns := h1
      obtain ⟨v', hv', hpush⟩ := h1.push (by omega) (bit (byteAt x (Int.toNat (i : Int))))
      have ev : v' = v := by
        have e1 := (hv.reads r1).2
        have e2 := hv'.2
        simp only at e2
        rw [e1] at e2
        simpa using e2.symm
      subst ev
      refine Ok.seg hpush ?_
      rintro w s3 ⟨w0, w1, w2, w3, w4, w5⟩
      refine Ok.gdL (by kernel_rfl) ?_
      refine Ok.seg (NS.store (s := ⟨s3.mem, s3.ctr, []⟩) w0 w1 w2 w3 w4 w5) ?_
      rintro v s4 ⟨rfl, h4⟩
      refine Ok.gdL (by kernel_rfl) ?_
      rw [hw1]
      refine IH (i + 1) _ _ (by omega) (by omega) (by simp; omega) ?_ h4
      intro y hy
      rcases List.mem_append.1 hy with hy | hy
      · exact hb y hy
      · simp only [List.mem_singleton] at hy
        subst hy
        exact ⟨_, rfl, bit_ok _ (hx i (by simpa [bl] using hi))⟩
end
end Go.Proofs.YtpljgnjdlciicaaGreatDoor
