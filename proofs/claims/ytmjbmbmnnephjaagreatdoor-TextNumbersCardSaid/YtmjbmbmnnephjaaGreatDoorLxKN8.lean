/- Oracles: a function of the library by its contract: it answers with a plain value, and leaves all that was there as it was; a table of the program's that it looks into is read by the evaluator too. -/
import Derived.Test.YtmjbmbmnnephjaaGreatDoorEvS26
import Derived.Test.YtmjbmbmnnephjaaGreatDoorLxKN1
import Derived.Lib.AppendIntMem
import Derived.Lib.LaidTab
import Derived.Test.YtmjbmbmnnephjaaGreatDoorLxKN3
import Derived.Test.YtmjbmbmnnephjaaGreatDoorLxKN4
import Derived.Test.YtmjbmbmnnephjaaGreatDoorLxKN6
import Derived.IntWalk
namespace Go.Ev
open Go Go.RowKit
/-- The relation depends on the old blocks alone. -/
theorem MR.belowO {P : Program} {ρ : Map} {B0 : Nat} {m : Tr Slot} {w w' : World} (r : MR P ρ B0 m w) (h : Below w.heap.size w w') : MR P ρ B0 m w' := by
  have hb : ∀ (k : Nat) (o : Obj), w.heap[k]? = some o → w'.heap[k]? = some o := fun k o e => by
    have hk : k < w.heap.size := (Array.getElem?_eq_some_iff.1 e).1
    rw [h.block k hk, e]
  constructor
  · intro b hd e
    obtain ⟨x, c, lo, hi, e1, y⟩ := r.row b hd e
    exact ⟨x, c, lo, hi, e1, { y with heap := hb _ _ y.heap }⟩
  · intro b hd o v e e'
    obtain ⟨a, x, v', e1, y, z⟩ := r.cell b hd o v e e'
    refine ⟨a, x, v', e1, ?_, z⟩
    have hx := r.rng b x e1
    rw [← y]
    simp only [World.cell?, h.block _ hx]
  · exact r.sep
  · exact r.old
  · intro k o e i
    obtain ⟨x, ob, e1, e0, y, z, u⟩ := r.obj k o e i
    exact ⟨x, ob, e1, e0, y, hb _ _ z, u⟩
  · exact r.osep
  · exact r.dom
  · exact r.odom
  · intro b x e
    exact Nat.lt_of_lt_of_le (r.rng b x e) h.size
  · intro B x e
    obtain ⟨h1, ⟨c, el, fr, h2, h2'⟩, h3⟩ := r.frz B x e
    exact ⟨h1, ⟨c, el, fr, hb _ _ h2, h2'⟩, h3⟩
theorem orc_plain {P : Program} {f : Nat} {p : List Value → Prog} (H : ∀ (B0 : Nat) (w : World) (ρ : Map) (s s' : St) (v : Value) (args args' : List Value), (p args).run s = some (v, s') → MR P ρ B0 s.mem w → GlOK P ρ → VRs ρ args args' →
    s'.mem = s.mem ∧ s'.ctr = s.ctr ∧ VR ρ v v ∧ Calls P f ⟨args'⟩ w fun e w' => e = .returned v ∧ Below w.heap.size w w') : OrcOK P f p := by
  intro B0 w0 w ρ s s' v args args' h r fr gl ha
  obtain ⟨h1, h2, h3, h4⟩ := H B0 w ρ s s' v args args' h r.mr gl ha
  refine Calls.mono h4 ?_
  rintro e w' ⟨rfl, hb⟩
  have hB : B0 ≤ w.heap.size := Nat.le_trans r.hB r.bel.size
  refine ⟨ρ, v, rfl, ?_, h3, ?_⟩
  · rw [h2]; exact Gr.refl _ _ _
  · rw [h1]; exact ⟨r.mr.belowO hb, r.bel.trans (hb.mono hB), r.hB⟩
/-! Tables. -/
theorem isTab_eq {k : IntKind} : ∀ {zs : List Int} {vs : List Value}, isTab k zs vs = true → vs = zs.map fun z => Value.int k z
  | [], [], _ => rfl
  | z :: zs, .int k' v :: vs, h => by
    simp only [isTab, Bool.and_eq_true, decide_eq_true_eq] at h
    obtain ⟨⟨rfl, rfl⟩, h⟩ := h
    simp only [List.map_cons]
    rw [isTab_eq h]
  | [], _ :: _, h => by cases h
  | _ :: _, [], h => by cases h
section
variable {P : Program} {ρ : Map} {B0 : Nat} {w : World} {s : St}
theorem tab_run {g n : Nat} {k : List Value → Prog} {res : Value × St} (h : (tabP g n k).run s = some res) (r : MR P ρ B0 s.mem w) (gl : GlOK P ρ) (hg : g < P.globals.size) :
    ∃ vs s1, (k vs).run s1 = some res ∧ s1.mem = s.mem ∧ s1.ctr = s.ctr ∧ ∃ c el fr, w.heap[g]? = some (.cells c el fr) ∧ c.size = n ∧ vs.length = n ∧ ∀ (j : Nat) (v : Value), vs[j]? = some v → ∃ v', c[j]? = some v' ∧ VR ρ v v' := by
  obtain ⟨hd, e1, h⟩ := hd_run h
  obtain ⟨hb, h⟩ := gd_run h
  simp only [Bool.and_eq_true] at hb
  have hn := Nat.eq_of_beq_eq_true hb.2
  obtain ⟨vs, s2, h2, h⟩ := rd_run h
  simp only [St.rd, e1] at h2
  split at h2
  · rename_i vs' hrd
    simp only [Option.some.injEq, Prod.mk.injEq] at h2
    obtain ⟨rfl, rfl⟩ := h2
    obtain ⟨hl, hc⟩ := rdCells_spec _ _ _ _ _ hrd
    obtain ⟨x, c, lo, hi, ex, rr⟩ := r.row _ _ e1
    obtain ⟨x', ex', hB, hsh⟩ := gl g hg
    obtain rfl : x' = x := Option.some.inj (ex'.symm.trans ex)
    have hheap := rr.heap
    rw [hB] at hheap
    have hN := rr.ex hb.1
    refine ⟨vs', _, h, rfl, rfl, c, hd.el, (lo, hi), hheap, by rw [rr.N, hN, hsh, hn]; omega, hl, fun j v hv => ?_⟩
    have hcell := hc j v hv
    obtain ⟨_, y, v', ey, hy, hvr⟩ := r.cell _ _ (0 + j) v e1 hcell
    obtain rfl : y = x' := Option.some.inj (ey.symm.trans ex)
    rw [hB, hsh, cell_of hheap] at hy
    refine ⟨v', ?_, hvr⟩
    rw [← hy]
    congr 1
    omega
  · cases h2
theorem tab_is {name : String} {g n : Nat} {kd : IntKind} {zs : List Int} {k : List Value → Prog} {res : Value × St} (h : (tabP g n k).run s = some res) (r : MR P ρ B0 s.mem w) (gl : GlOK P ρ) (hg : g < P.globals.size) (hname : P.globalNamed name = some g) (hz : zs.length = n) :
    ∃ vs s1, (k vs).run s1 = some res ∧ s1.mem = s.mem ∧ s1.ctr = s.ctr ∧ (isTab kd zs vs = true → Lib.TabIs P w name kd zs) := by
  obtain ⟨vs, s1, h1, h2, h3, c, el, fr, h4, h5, h6, h7⟩ := tab_run h r gl hg
  refine ⟨vs, s1, h1, h2, h3, fun ht => ?_⟩
  have hvs := isTab_eq ht
  unfold Lib.TabIs World.var?
  rw [hname]
  simp only [Option.bind_some, h4, Option.some.injEq]
  apply Array.ext'
  apply List.ext_getElem?
  intro j
  by_cases hj : j < n
  · have hjz : j < zs.length := Nat.lt_of_lt_of_eq hj hz.symm
    have hv : vs[j]? = some (Value.int kd (zs[j]'hjz)) := by
      rw [hvs, List.getElem?_map, List.getElem?_eq_getElem hjz]; rfl
    obtain ⟨v', h8, h9⟩ := h7 j _ hv
    cases h9
    have : c.toList[j]? = c[j]? := by simp
    rw [this, h8]
    simp only [List.getElem?_map, List.getElem?_eq_getElem hjz]
    rfl
  · rw [List.getElem?_eq_none (by simp; omega), List.getElem?_eq_none (by simp; omega)]
end
end Go.Ev
/- A judgement on what a Prog that hangs on fuel comes to, and its rules. -/
namespace Go.Ev
open Go
/-- From some fuel on the Prog comes to one value and one state, of which Q holds. -/
def Ok (p : Nat → Prog) (s : St) (Q : Value → St → Prop) : Prop := ∃ v s', Q v s' ∧ ∃ f0, ∀ f, f0 ≤ f → (p f).run s = some (v, s')
section
variable {s : St} {Q Q1 : Value → St → Prop} {p q : Nat → Prog} {b : Bool} {v : Value}
theorem Ok.ret (h : Q v s) : Ok (fun _ => .ret v) s Q := ⟨v, s, h, 0, fun _ _ => rfl⟩
theorem Ok.t (hb : b = true) (h : Ok p s Q) : Ok (fun f => cnd (p f) (q f) b) s Q := by subst hb; exact h
theorem Ok.f (hb : b = false) (h : Ok q s Q) : Ok (fun f => cnd (p f) (q f) b) s Q := by subst hb; exact h
theorem Ok.c (ht : b = true → Ok p s Q) (hf : b = false → Ok q s Q) : Ok (fun f => cnd (p f) (q f) b) s Q := by
  cases b with
  | true => exact ht rfl
  | false => exact hf rfl
theorem Ok.g (hb : b = true) (h : Ok p s Q) : Ok (fun f => gd b (p f)) s Q := by subst hb; exact h
theorem Ok.mono (h : Ok p s Q1) (hq : ∀ v s', Q1 v s' → Q v s') : Ok p s Q := by
  obtain ⟨v, s', h1, h2⟩ := h
  exact ⟨v, s', hq v s' h1, h2⟩
theorem Ok.step {P T : Nat → Prog} (e : ∀ f, P (f + 1) = T f) (h : Ok T s Q) : Ok P s Q := by
  obtain ⟨v, s', h1, f0, h2⟩ := h
  refine ⟨v, s', h1, f0 + 1, fun f hf => ?_⟩
  cases f with
  | zero => omega
  | succ f => rw [e]; exact h2 f (by omega)
theorem Ok.callE {p : Prog} {k : Value → Prog} {s1 : St} {r : Option (Value × St)} (h : p.run s = some (v, s1)) (e : (k v).run s1 = r) : (Prog.call p k).run s = r := by
  simp only [Prog.run, h]; exact e
theorem Ok.call {k : Nat → Value → Prog} (h : Ok p s Q1) (hk : ∀ v s1, Q1 v s1 → Ok (fun f => k f v) s1 Q) : Ok (fun f => .call (p f) (k f)) s Q := by
  obtain ⟨v, s1, h1, f1, h2⟩ := h
  obtain ⟨w, s2, h3, f2, h4⟩ := hk v s1 h1
  refine ⟨w, s2, h3, f1 + f2, fun f hf => ?_⟩
  exact Ok.callE (h2 f (by omega)) (h4 f (by omega))
theorem Ok.callP {k : Nat → Value → Prog} (h : Ok p s Q1) (hk : ∀ v s1, Q1 v s1 → Ok (fun f => k f v) s1 Q) : Ok (fun f => Ev.callP (k f) (p f)) s Q := by
  obtain ⟨v, s', h1, f0, h2⟩ := Ok.call h hk
  exact ⟨v, s', h1, f0, fun f hf => (callP_eq (k f) s (p f)).trans (h2 f hf)⟩
/-- An operation within, and what it touched: its log starts anew. -/
theorem Ok.seg {k : Nat → Value → List Acc → Nat → Prog} {Q1 : Value → St → Prop} (h : Ok p ⟨s.mem, s.ctr, []⟩ Q1)
    (hk : ∀ v s1, Q1 v s1 → Ok (fun f => k f v s1.log s1.ctr) ⟨s1.mem, s1.ctr, s1.log ++ s.log⟩ Q) : Ok (fun f => .seg (p f) (k f)) s Q := by
  obtain ⟨v, s1, h1, f1, h2⟩ := h
  obtain ⟨w, s2, h3, f2, h4⟩ := hk v s1 h1
  refine ⟨w, s2, h3, f1 + f2, fun f hf => ?_⟩
  obtain ⟨m, c, l⟩ := s
  obtain ⟨m1, c1, l1⟩ := s1
  have e1 := h2 f (by omega)
  have e2 := h4 f (by omega)
  simp only [Prog.run]
  simp only at e1 e2
  rw [e1]
  exact e2
theorem Ok.gdL {mask : Nat} {ws all : List Acc} {done : List Done} (hf : freeL mask ws all done = true) (h : Ok p s Q) : Ok (fun f => Ev.gdL mask ws all done (p f)) s Q := by
  cases done with
  | nil => exact h
  | cons d ds => exact Ok.g hf h
theorem Ok.opt {α : Type} {x : Option α} {a : α} {k : Nat → α → Prog} (hx : x = some a) (h : Ok (fun f => k f a) s Q) : Ok (fun f => Ev.opt x (k f)) s Q := by subst hx; exact h
end
end Go.Ev
/- Rules on memory: loads from rows. -/
namespace Go.Ev
open Go
/-- A cell of a row that is here. -/
def Cell (m : Tr Slot) (b o : Nat) (v : Value) : Prop := (∃ h, m.get b = some (.hdr h)) ∧ m.get (b + 1 + o) = some (.cell b v)
def scal (E : Env) (t : TypeId) : Bool := match E.und t with
  | some d => !isAggD d
  | none => false
/-- Nothing has been written. -/
def Reads (s s' : St) : Prop := s'.mem = s.mem ∧ s'.ctr = s.ctr ∧ ∃ l, s'.log = l ++ s.log ∧ writesOf l = []
theorem Reads.refl (s : St) : Reads s s := ⟨rfl, rfl, [], rfl, rfl⟩
theorem writesOf_append : ∀ (a b : List Acc), writesOf (a ++ b) = writesOf a ++ writesOf b
  | [], _ => rfl
  | x :: a, b => by
    simp only [List.cons_append, writesOf, writesOf_append a b]
    split <;> rfl
theorem Reads.trans {s s1 s2 : St} (h : Reads s s1) (g : Reads s1 s2) : Reads s s2 := by
  obtain ⟨e1, e2, l, e3, e4⟩ := h
  obtain ⟨g1, g2, k, g3, g4⟩ := g
  exact ⟨g1.trans e1, g2.trans e2, k ++ l, by rw [g3, e3, List.append_assoc], by rw [writesOf_append, e4, g4]; rfl⟩
theorem rd1 {s : St} {b o : Nat} {v : Value} (h : Cell s.mem b o v) : s.rd b 1 o = some ([v], ⟨s.mem, s.ctr, ⟨false, b + 1 + o, 1⟩ :: ⟨false, b, 1⟩ :: s.log⟩) := by
  obtain ⟨m, c, l⟩ := s
  obtain ⟨⟨hd, h1⟩, h2⟩ := h
  simp only at h1 h2
  simp only [St.rd, h1, rdCells, Nat.add_eq, h2, Nat.beq_refl]
theorem Ok.load1 {E : Env} {t b o : Nat} {v : Value} {s : St} (hs : scal E t = true) (h : Cell s.mem b o v) : Ok (fun _ => loadT E t b o) s (fun w s' => w = v ∧ s'.mem = s.mem ∧ s'.ctr = s.ctr ∧ s'.log = ⟨false, b + 1 + o, 1⟩ :: ⟨false, b, 1⟩ :: s.log) := by
  refine ⟨v, ⟨s.mem, s.ctr, ⟨false, b + 1 + o, 1⟩ :: ⟨false, b, 1⟩ :: s.log⟩, ⟨rfl, rfl, rfl, rfl⟩, 0, fun _ _ => ?_⟩
  unfold scal at hs
  unfold loadT
  cases hu : E.und t with
  | none => rw [hu] at hs; cases hs
  | some d =>
    rw [hu] at hs
    have hd : isAggD d = false := by simpa using hs
    simp only [hd, Prog.run, rd1 h]
/-- In a drawn region: a load of one cell, behind operations that have written nothing. -/
theorem Ok.segLoad {E : Env} {t b o : Nat} {v : Value} {s : St} {Q : Value → St → Prop} {k : Nat → Value → List Acc → Nat → Prog} (hs : scal E t = true) (h : Cell s.mem b o v)
    (hk : ∀ s1, Reads s s1 → Ok (fun f => k f v [⟨false, b + 1 + o, 1⟩, ⟨false, b, 1⟩] s.ctr) s1 Q) : Ok (fun f => .seg (loadT E t b o) (k f)) s Q := by
  refine Ok.seg (Ok.load1 (s := ⟨s.mem, s.ctr, []⟩) hs h) ?_
  rintro w s1 ⟨rfl, e1, e2, e3⟩
  simp only at e1 e2 e3
  rw [e3, e1, e2]
  exact hk _ ⟨rfl, rfl, [⟨false, b + 1 + o, 1⟩, ⟨false, b, 1⟩], rfl, rfl⟩
theorem Cell.reads {s s1 : St} {b o : Nat} {v : Value} (h : Cell s.mem b o v) (r : Reads s s1) : Cell s1.mem b o v := by rw [r.1]; exact h
end Go.Ev
/- Rules on memory: stores of one cell. -/
namespace Go.Ev
open Go
/-- A row that may be written: its header; not read only, not moved, nothing frozen, no olds. -/
def Free (m : Tr Slot) (b n : Nat) : Prop := ∃ el ex z sy, m.get b = some (.hdr ⟨n, el, false, ex, z, 0, sy, false, []⟩)
theorem wr1 {s : St} {b o n : Nat} {v : Value} (h : Free s.mem b n) (ho : o < n) (hv : oneC v = true) :
    s.wr b o [v] = some ⟨s.mem.set (b + 1 + o) (some (.cell b v)), s.ctr, ⟨true, b + 1 + o, 1⟩ :: ⟨false, b, 1⟩ :: s.log⟩ := by
  obtain ⟨m, c, l⟩ := s
  obtain ⟨el, ex, z, sy, h⟩ := h
  simp only at h
  have hb : Nat.ble (o + 1) n = true := Nat.ble_eq_true_of_le ho
  have h0 : Nat.ble 0 o = true := Nat.ble_eq_true_of_le (Nat.zero_le o)
  simp [St.wr, h, hv, layCells, hb, h0]
theorem Ok.store1 {E : Env} {t b o n : Nat} {v : Value} {s : St} (hs : E.size t = some 1) (hc : cellsL v = [v]) (h : Free s.mem b n) (ho : o < n) (hv : oneC v = true) :
    Ok (fun _ => storeT E t b o v) s (fun w s' => w = U ∧ s' = ⟨s.mem.set (b + 1 + o) (some (.cell b v)), s.ctr, ⟨true, b + 1 + o, 1⟩ :: ⟨false, b, 1⟩ :: s.log⟩) := by
  refine ⟨U, _, ⟨rfl, rfl⟩, 0, fun _ _ => ?_⟩
  simp only [storeT, hs, Ev.opt, hc, gd, List.length_cons, List.length_nil, Nat.zero_add, Nat.beq_refl, Prog.run, wr1 h ho hv]
end Go.Ev
/- Rows: what lies in them, rows that grow, new rows, aggregates. -/
namespace Go.Ev
open Go
def CellsAt (m : Tr Slot) (b : Nat) : Nat → List Value → Prop
  | _, [] => True
  | k, v :: vs => m.get k = some (.cell b v) ∧ CellsAt m b (k + 1) vs
theorem CellsAt.congr {m m' : Tr Slot} {b : Nat} : ∀ {vs : List Value} {k : Nat}, CellsAt m b k vs → (∀ j, k ≤ j → j < k + vs.length → m'.get j = m.get j) → CellsAt m' b k vs
  | [], _, _, _ => trivial
  | v :: vs, k, h, e => by
    refine ⟨?_, CellsAt.congr h.2 fun j h1 h2 => e j (by omega) (by simp only [List.length_cons]; omega)⟩
    rw [e k (Nat.le_refl k) (by simp only [List.length_cons]; omega)]
    exact h.1
theorem CellsAt.rd {m : Tr Slot} {b : Nat} : ∀ {vs : List Value} {o : Nat}, CellsAt m b (b + 1 + o) vs → rdCells m b vs.length o = some vs
  | [], _, _ => rfl
  | v :: vs, o, h => by
    have h2 : CellsAt m b (b + 1 + (o + 1)) vs := h.2
    simp only [List.length_cons, rdCells, Nat.add_eq, h.1, Nat.beq_refl, CellsAt.rd h2]
theorem CellsAt.append {m : Tr Slot} {b : Nat} : ∀ {xs ys : List Value} {k : Nat}, CellsAt m b k xs → CellsAt m b (k + xs.length) ys → CellsAt m b k (xs ++ ys)
  | [], ys, k, _, h => by simpa using h
  | a :: xs, ys, k, h, g => by
    refine ⟨h.1, CellsAt.append h.2 ?_⟩
    rw [show k + 1 + xs.length = k + (a :: xs).length by simp only [List.length_cons]; omega]
    exact g
theorem lay_below (b : Nat) : ∀ (vs : List Value) (k : Nat) (m : Tr Slot) (j : Nat), (j < k ∨ k + vs.length ≤ j) → (layCells b vs k m).get j = m.get j
  | [], _, _, _, _ => rfl
  | v :: vs, k, m, j, h => by
    simp only [List.length_cons] at h
    simp only [layCells, Nat.add_eq]
    rw [lay_below b vs (k + 1) _ j (by omega), Tr.get_set, if_neg (by omega)]
theorem CellsAt.lay {b : Nat} : ∀ (vs : List Value) (k : Nat) (m : Tr Slot), CellsAt (layCells b vs k m) b k vs
  | [], _, _ => trivial
  | v :: vs, k, m => by
    simp only [layCells, Nat.add_eq]
    refine ⟨?_, CellsAt.lay vs (k + 1) _⟩
    rw [lay_below b vs (k + 1) _ k (by omega), Tr.get_set, if_pos rfl]
theorem CellsAt.get {m : Tr Slot} {b : Nat} : ∀ {vs : List Value} {k : Nat} (i : Nat) (v : Value), CellsAt m b k vs → vs[i]? = some v → m.get (k + i) = some (.cell b v)
  | [], _, _, _, _, e => by simp at e
  | x :: vs, k, 0, v, h, e => by
    simp only [List.getElem?_cons_zero, Option.some.injEq] at e
    subst e
    exact h.1
  | x :: vs, k, i + 1, v, h, e => by
    simp only [List.getElem?_cons_succ] at e
    have := CellsAt.get i v h.2 e
    rw [show k + (i + 1) = k + 1 + i by omega]
    exact this
theorem CellsAt.cell {m : Tr Slot} {b n : Nat} {vs : List Value} (i : Nat) {v : Value} (f : Free m b n) (h : CellsAt m b (b + 1) vs) (e : vs[i]? = some v) : Cell m b i v := by
  obtain ⟨el, ex, z, sy, hf⟩ := f
  exact ⟨⟨_, hf⟩, CellsAt.get i v h e⟩
theorem CellsAt.set {m : Tr Slot} {b : Nat} : ∀ {vs : List Value} {k : Nat} (i : Nat) (v : Value), CellsAt m b k vs → CellsAt (m.set (k + i) (some (.cell b v))) b k (vs.set i v)
  | [], _, _, _, _ => trivial
  | x :: vs, k, 0, v, h => by
    simp only [List.set_cons_zero]
    refine ⟨by rw [Nat.add_zero, Tr.get_set, if_pos rfl], CellsAt.congr h.2 fun j h1 h2 => by rw [Tr.get_set, if_neg (by omega)]⟩
  | x :: vs, k, i + 1, v, h => by
    simp only [List.set_cons_succ]
    refine ⟨by rw [Tr.get_set, if_neg (by omega)]; exact h.1, ?_⟩
    rw [show k + (i + 1) = k + 1 + i by omega]
    exact CellsAt.set i v h.2
theorem Free.congr {m m' : Tr Slot} {b n : Nat} (h : Free m b n) (e : m'.get b = m.get b) : Free m' b n := by
  obtain ⟨el, ex, z, sy, hf⟩ := h
  exact ⟨el, ex, z, sy, e.trans hf⟩

/-! A row that has no list behind it: its header and its cells. -/
def Row (m : Tr Slot) (b : Nat) (vs : List Value) : Prop := Free m b vs.length ∧ CellsAt m b (b + 1) vs
theorem Row.congr {m m' : Tr Slot} {b : Nat} {vs : List Value} (h : Row m b vs) (e : ∀ j, b ≤ j → j < b + 1 + vs.length → m'.get j = m.get j) : Row m' b vs :=
  ⟨h.1.congr (e b (Nat.le_refl b) (by omega)), h.2.congr fun j h1 h2 => e j (by omega) h2⟩
theorem Row.cell {m : Tr Slot} {b : Nat} {vs : List Value} (i : Nat) {v : Value} (h : Row m b vs) (e : vs[i]? = some v) : Cell m b i v := CellsAt.cell i h.1 h.2 e
theorem Row.set {m : Tr Slot} {b : Nat} {vs : List Value} (i : Nat) (v : Value) (h : Row m b vs) : Row (m.set (b + 1 + i) (some (.cell b v))) b (vs.set i v) := by
  refine ⟨?_, CellsAt.set i v h.2⟩
  rw [List.length_set]
  exact h.1.congr (by rw [Tr.get_set, if_neg (by omega)])

/-! New rows. -/
theorem Ok.new {n el : Nat} {ex z sy : Bool} {vs : List Value} {g : Nat → Value} {s : St} (hn : vs.length = n) :
    Ok (fun _ => Prog.newH (Hdr.mk n el false ex z 0 sy false []) vs (fun k => Prog.ret (g k))) s
      (fun v s' => v = g s.ctr ∧ s'.ctr = s.ctr + n + 1 ∧ Row s'.mem s.ctr vs ∧ ∀ k, k < s.ctr → s'.mem.get k = s.mem.get k) := by
  obtain ⟨m, c, l⟩ := s
  subst hn
  have e : Nat.ble vs.length vs.length = true := Nat.ble_eq_true_of_le (Nat.le_refl _)
  refine ⟨g c, ⟨layCells c vs (c + 1) (m.set c (some (.hdr (Hdr.mk vs.length el false ex z 0 sy false [])))), c + vs.length + 1, ⟨true, c, vs.length + 1⟩ :: l⟩, ⟨rfl, rfl, ⟨⟨el, ex, z, sy, ?_⟩, CellsAt.lay _ _ _⟩, fun k hk => ?_⟩, 0, fun _ _ => ?_⟩
  · simp only
    rw [lay_below _ _ _ _ _ (by omega), Tr.get_set, if_pos rfl]
  · simp only at hk ⊢
    rw [lay_below _ _ _ _ _ (by omega), Tr.get_set, if_neg (by omega)]
  · simp only [Prog.run, e, St.newH, Nat.add_eq]

/-! Aggregates. -/
def aggr (E : Env) (t : TypeId) : Bool := match E.und t with
  | some d => isAggD d
  | none => false
theorem Ok.loadA {E : Env} {t b o n : Nat} {vs : List Value} {s : St} (ha : aggr E t = true) (hs : E.size t = some n) (hn : vs.length = n) (hh : ∃ h, s.mem.get b = some (.hdr h)) (h : CellsAt s.mem b (b + 1 + o) vs) :
    Ok (fun _ => loadT E t b o) s (fun w s' => w = .agg ⟨vs⟩ ∧ s'.mem = s.mem ∧ s'.ctr = s.ctr ∧ s'.log = ⟨false, b + 1 + o, n⟩ :: ⟨false, b, 1⟩ :: s.log) := by
  obtain ⟨m, c, l⟩ := s
  obtain ⟨hd, h1⟩ := hh
  simp only at h1 h
  subst hn
  refine ⟨_, ⟨m, c, ⟨false, b + 1 + o, vs.length⟩ :: ⟨false, b, 1⟩ :: l⟩, ⟨rfl, rfl, rfl, rfl⟩, 0, fun _ _ => ?_⟩
  unfold aggr at ha
  unfold loadT
  cases hu : E.und t with
  | none => rw [hu] at ha; cases ha
  | some d =>
    rw [hu] at ha
    simp only [ha, hs, Ev.opt, Prog.run, St.rd, h1, h.rd, Nat.add_eq]
theorem Ok.segLoadA {E : Env} {t b o n : Nat} {vs : List Value} {s : St} {Q : Value → St → Prop} {k : Nat → Value → List Acc → Nat → Prog} (ha : aggr E t = true) (hs : E.size t = some n) (hn : vs.length = n) (hh : ∃ h, s.mem.get b = some (.hdr h)) (h : CellsAt s.mem b (b + 1 + o) vs)
    (hk : ∀ s1, Reads s s1 → Ok (fun f => k f (.agg ⟨vs⟩) [⟨false, b + 1 + o, n⟩, ⟨false, b, 1⟩] s.ctr) s1 Q) : Ok (fun f => .seg (loadT E t b o) (k f)) s Q := by
  refine Ok.seg (Ok.loadA (s := ⟨s.mem, s.ctr, []⟩) ha hs hn hh h) ?_
  rintro w s1 ⟨rfl, e1, e2, e3⟩
  simp only at e1 e2 e3
  rw [e3, e1, e2]
  exact hk _ ⟨rfl, rfl, [⟨false, b + 1 + o, n⟩, ⟨false, b, 1⟩], rfl, rfl⟩
/-- A store of a whole row. -/
theorem Ok.storeRow {E : Env} {t b n : Nat} {vs ws : List Value} {s : St} (hs : E.size t = some n) (h : Row s.mem b vs) (hn : vs.length = n) (hw : ws.length = n) (hv : ws.all oneC = true) :
    Ok (fun _ => storeT E t b 0 (.agg ⟨ws⟩)) s (fun w s' => w = U ∧ s'.ctr = s.ctr ∧ Row s'.mem b ws ∧ ∀ k, (k ≤ b ∨ b + 1 + n ≤ k) → s'.mem.get k = s.mem.get k) := by
  obtain ⟨m, c, l⟩ := s
  obtain ⟨⟨el, ex, z, sy, hf⟩, hc⟩ := h
  simp only at hf hc
  have hb : Nat.ble (0 + ws.length) vs.length = true := Nat.ble_eq_true_of_le (by omega)
  have h0 : Nat.ble 0 0 = true := rfl
  have ec : cellsL (.agg ⟨ws⟩) = ws := rfl
  refine ⟨U, ⟨layCells b ws (b + 1 + 0) m, c, ⟨true, b + 1 + 0, ws.length⟩ :: ⟨false, b, 1⟩ :: l⟩, ⟨rfl, rfl, ⟨⟨el, ex, z, sy, ?_⟩, CellsAt.lay _ _ _⟩, fun k hk => ?_⟩, 0, fun _ _ => ?_⟩
  · simp only
    rw [lay_below _ _ _ _ _ (by omega), hf, hw, hn]
  · simp only
    rw [lay_below _ _ _ _ _ (by omega)]
  · simp only [storeT, hs, Ev.opt, ec, gd, hw, Nat.beq_refl, Prog.run, St.wr, hf, Bool.false_or, h0, hv, Bool.not_true, Nat.add_eq]
    rw [← hn, hn] at *
    simp only [hw] at hb
    simp only [hb, Bool.not_true]
/-- A store of one cell of a row. -/
theorem Ok.storeCell {E : Env} {t b o : Nat} {v : Value} {vs : List Value} {s : St} (hs : E.size t = some 1) (hc : cellsL v = [v]) (h : Row s.mem b vs) (ho : o < vs.length) (hv : oneC v = true) :
    Ok (fun _ => storeT E t b o v) s (fun w s' => w = U ∧ s'.ctr = s.ctr ∧ Row s'.mem b (vs.set o v) ∧ ∀ k, k ≠ b + 1 + o → s'.mem.get k = s.mem.get k) := by
  refine Ok.mono (Ok.store1 hs hc h.1 ho hv) ?_
  rintro w s' ⟨rfl, rfl⟩
  refine ⟨rfl, rfl, h.set o v, fun k hk => ?_⟩
  simp only
  rw [Tr.get_set, if_neg hk]

/-! Rows that grow. -/
def Grow (m : Tr Slot) (lo hi el sz : Nat) (cs : List Value) (v : Value) : Prop :=
  cs.all oneC = true ∧ ((v = .slice none 0 0 ∧ cs = []) ∨
  ∃ r n sy olds, v = .slice (some ⟨r, 0, none⟩) n (capOf n false) ∧ cs.length = n * sz ∧ lo ≤ r ∧ r + 1 + cs.length ≤ hi ∧ (∀ k, k ∈ olds → lo ≤ k ∧ k < r) ∧
    m.get r = some (.hdr ⟨cs.length, el, false, false, true, 0, sy, false, olds⟩) ∧ CellsAt m r (r + 1) cs)
theorem Grow.nil (m : Tr Slot) (lo hi el sz : Nat) : Grow m lo hi el sz [] (.slice none 0 0) := ⟨rfl, .inl ⟨rfl, rfl⟩⟩
theorem Grow.congr {m m' : Tr Slot} {lo hi hi' el sz : Nat} {cs : List Value} {v : Value} (h : Grow m lo hi el sz cs v) (hh : hi ≤ hi') (e : ∀ j, lo ≤ j → j < hi → m'.get j = m.get j) : Grow m' lo hi' el sz cs v := by
  obtain ⟨h1, h2⟩ := h
  refine ⟨h1, ?_⟩
  rcases h2 with h2 | ⟨r, n, sy, olds, a1, a2, a3, a4, a5, a6, a7⟩
  · exact .inl h2
  · refine .inr ⟨r, n, sy, olds, a1, a2, a3, by omega, a5, ?_, a7.congr fun j b1 b2 => e j (by omega) (by omega)⟩
    rw [e r a3 (by omega)]
    exact a6
theorem Grow.one {m : Tr Slot} {lo hi el sz : Nat} {cs : List Value} {v : Value} (h : Grow m lo hi el sz cs v) : oneC v = true ∧ cellsL v = [v] := by
  rcases h.2 with ⟨rfl, _⟩ | ⟨r, n, sy, olds, rfl, _⟩
  · exact ⟨rfl, rfl⟩
  · exact ⟨rfl, rfl⟩
theorem Grow.len {m : Tr Slot} {lo hi el sz : Nat} {cs : List Value} {v : Value} (h : Grow m lo hi el sz cs v) (n : Nat) (hz : 0 < sz) (hn : cs.length = n * sz) : ∃ a c, v = .slice a n c := by
  rcases h.2 with ⟨rfl, rfl⟩ | ⟨r, n', sy, olds, rfl, h2, _⟩
  · refine ⟨none, 0, ?_⟩
    have : n = 0 := by
      cases n with
      | zero => rfl
      | succ n =>
        rw [Nat.succ_mul, List.length_nil] at hn
        omega
    rw [this]
  · have : n' = n := Nat.eq_of_mul_eq_mul_right hz (h2.symm.trans hn)
    exact ⟨_, _, by rw [this]⟩
/-- What 'append' has to know of a slice's type. -/
def AppT (E : Env) (t el sz by_ : Nat) : Prop := E.und t = some (.slice el) ∧ E.size el = some sz ∧ E.bytes el = some by_ ∧ (E.zero el).isSome = true ∧ 0 < sz
theorem all_append {α : Type} (f : α → Bool) (a b : List α) (h : a.all f = true) (g : b.all f = true) : (a ++ b).all f = true := by
  rw [List.all_append, h, g]; rfl
theorem Ok.app {E : Env} {t el sz by_ lo : Nat} {cs : List Value} {v e : Value} {s : St} (ht : AppT E t el sz by_) (h : Grow s.mem lo s.ctr el sz cs v) (he : (cellsL e).length = sz) (he1 : (cellsL e).all oneC = true) (hlo : lo ≤ s.ctr)
    (hn : (cs.length + 1) * (by_ + 1) ≤ 1099511627776) :
    Ok (fun _ => builtinA E Builtin.append (t :: (t :: [])) (v :: (xlstV (e :: []) :: []))) s
      (fun w s' => Grow s'.mem lo s'.ctr el sz (cs ++ cellsL e) w ∧ s.ctr ≤ s'.ctr ∧ ∀ k, k < lo → s'.mem.get k = s.mem.get k) := by
  obtain ⟨m, c, l⟩ := s
  obtain ⟨hu, hs, hb, hz, hz0⟩ := ht
  obtain ⟨zv, hz⟩ := Option.isSome_iff_exists.1 hz
  obtain ⟨hone, hg⟩ := h
  have hel : elemOfSlice E t = some el := by unfold elemOfSlice; rw [hu]
  have hlen : lenA (xlstV [e]) = some 1 := rfl
  have hx : isL (xlstV [e]) = true := rfl
  have hxe : elems (xlstV [e]) = [e] := rfl
  have hok : hdOk sz [e] = true := by simp only [hdOk, he, Nat.beq_refl]
  have hfl : flatC ([e].take 1) = cellsL e := by simp [flatC]
  have hf1 : ∀ k, firstA sz 1 (xlstV [e]) k = gd (hdOk sz [e]) (k (flatC ([e].take 1))) := fun _ => rfl
  rcases hg with ⟨rfl, rfl⟩ | ⟨r, n, sy, olds, rfl, a2, a3, a4, a5, a6, a7⟩
  · have hd : decide ((0 + 1) * (by_ + 1) ≤ 1099511627776) = true := decide_eq_true (by simpa using hn)
    have hbl : Nat.ble (cellsL e).length (cellsL e).length = true := Nat.ble_eq_true_of_le (Nat.le_refl _)
    refine ⟨.slice (some ⟨c, 0, none⟩) 1 (capOf 1 false), ⟨layCells c (cellsL e) (c + 1) (m.set c (some (.hdr ⟨(cellsL e).length, el, false, false, true, 0, false, false, []⟩))), c + (cellsL e).length + 1, ⟨true, c, (cellsL e).length + 1⟩ :: l⟩, ⟨⟨?_, .inr ⟨c, 1, false, [], rfl, ?_, hlo, ?_, fun k hk => ?_, ?_, ?_⟩⟩, ?_, fun k hk => ?_⟩, 0, fun _ _ => ?_⟩
    · simpa using he1
    · simp [he]
    · simp; omega
    · cases hk
    · simp only [List.nil_append]
      rw [lay_below _ _ _ _ _ (by omega), Tr.get_set, if_pos rfl]
    · exact CellsAt.lay _ _ _
    · simp; omega
    · simp only at hlo ⊢
      rw [lay_below _ _ _ _ _ (by omega), Tr.get_set, if_neg (by omega)]
    · simp only [builtinA, appendA, appendB, hel, hu, hs, hb, Ev.opt, isIntD, appN, hlen, hz, gd, hd, appC, hf1, hok, hfl, Nat.zero_add, Prog.run, Prog.new, hbl, St.newH, Nat.add_eq]
  · simp only at a4 a6 a7 hlo
    have hcl : capLo (capOf n false) = n := by show (2 * n + 0) / 2 = n; omega
    have hce : capEx (capOf n false) = false := by
      simp only [capEx, capOf, Nat.add_eq, Nat.mul_eq, Nat.add_zero]
      have : Nat.mod (2 * n) 2 = 0 := by show (2 * n) % 2 = 0; omega
      rw [this]; rfl
    have hnn : n ≤ cs.length := by rw [a2]; exact Nat.le_mul_of_pos_right n hz0
    have hd : decide ((n + 1) * (by_ + 1) ≤ 1099511627776) = true := decide_eq_true (Nat.le_trans (Nat.mul_le_mul_right _ (by omega)) hn)
    have hble : Nat.ble (n + 1) n = false := by
      cases hq : Nat.ble (n + 1) n with
      | false => rfl
      | true => have := Nat.le_of_ble_eq_true hq; omega
    have hg2 : decide (True ∧ 0 + n * sz = cs.length ∧ True ∧ True ∧ True ∧ 0 ≤ n * sz + 1 * sz) = true := decide_eq_true ⟨trivial, by omega, trivial, trivial, trivial, Nat.zero_le _⟩
    have hrd : rdCells m r (n * sz) 0 = some cs := by rw [← a2]; exact CellsAt.rd a7
    have hlenc : (cs ++ cellsL e).length = n * sz + 1 * sz := by rw [List.length_append, a2, he, Nat.one_mul]
    have hbl : Nat.ble (cs ++ cellsL e).length (n * sz + 1 * sz) = true := Nat.ble_eq_true_of_le (by omega)
    refine ⟨.slice (some ⟨c, 0, none⟩) (n + 1) (capOf (n + 1) false), ⟨layCells c (cs ++ cellsL e) (c + 1) ((m.set r (some (.hdr ⟨cs.length, el, false, false, true, 0, sy, true, []⟩))).set c (some (.hdr ⟨n * sz + 1 * sz, el, false, false, true, 0, sy, false, r :: olds⟩))), c + (n * sz + 1 * sz) + 1, ⟨true, c, n * sz + 1 * sz + 1⟩ :: ⟨true, r, 1⟩ :: ⟨false, r + 1 + 0, n * sz⟩ :: ⟨false, r, 1⟩ :: ⟨false, r, 1⟩ :: l⟩, ⟨⟨?_, .inr ⟨c, n + 1, sy, r :: olds, rfl, ?_, hlo, ?_, fun k hk => ?_, ?_, ?_⟩⟩, ?_, fun k hk => ?_⟩, 0, fun _ _ => ?_⟩
    · exact all_append _ _ _ hone he1
    · rw [hlenc, Nat.add_mul]
    · simp only; omega
    · rcases List.mem_cons.1 hk with rfl | hk
      · exact ⟨a3, by omega⟩
      · have := a5 k hk; omega
    · simp only
      rw [lay_below _ _ _ _ _ (by omega), Tr.get_set, if_pos rfl, hlenc]
    · exact CellsAt.lay _ _ _
    · simp only; omega
    · simp only at hlo ⊢
      rw [lay_below _ _ _ _ _ (by omega), Tr.get_set, if_neg (by omega), Tr.get_set, if_neg (by omega)]
    · simp only [builtinA, appendA, appendB, hel, hu, hs, hb, Ev.opt, isIntD, appN, hlen, hz, gd, hd, hcl, hce, hble, appC, hf1, hok, hfl, Prog.run, St.hd, St.setHd, St.rd, a6, hg2, hrd, he1, hbl, St.newH, Nat.add_eq, Bool.true_and, Nat.beq_refl]
end Go.Ev
/- What small functions come to. -/
namespace Go.Proofs.YtmjbmbmnnephjaaGreatDoor
open Go Go.Ev Go.Proofs
def isLetter (c : Int) : Bool := decide (97 ≤ c) && decide (c ≤ 122) || decide (65 ≤ c) && decide (c ≤ 90)
def isDigit (c : Int) : Bool := decide (48 ≤ c) && decide (c ≤ 57)
def isInside (c : Int) : Bool := isLetter c || (isDigit c || decide (c = 95))
theorem letter_ok (s : St) (c : Int) : Ok (fun f => callF En (runP En f) 44 [.int .u8 c]) s (fun v s' => v = .bool (isLetter c) ∧ s' = s) := by
  refine Ok.step (fun f => f44_eq f c) ?_
  unfold isLetter
  repeat' (first | refine Ok.c (fun h => ?_) (fun h => ?_) | exact Ok.ret ⟨by simp_all <;> omega, rfl⟩)
theorem digit_ok (s : St) (c : Int) : Ok (fun f => callF En (runP En f) 60 [.int .u8 c]) s (fun v s' => v = .bool (isDigit c) ∧ s' = s) := by
  refine Ok.step (fun f => f60_eq f c) ?_
  unfold isDigit
  repeat' (first | refine Ok.c (fun h => ?_) (fun h => ?_) | exact Ok.ret ⟨by simp_all <;> omega, rfl⟩)
theorem inside_ok (s : St) (c : Int) : Ok (fun f => callF En (runP En f) 43 [.int .u8 c]) s (fun v s' => v = .bool (isInside c) ∧ s' = s) := by
  refine Ok.step (fun f => f43_eq f c) ?_
  refine Ok.call (letter_ok s c) ?_
  rintro v s1 ⟨rfl, rfl⟩
  refine Ok.t rfl ?_
  refine Ok.c (fun h => ?_) (fun h => ?_)
  · exact Ok.ret ⟨by simp_all [isInside, boolOf], rfl⟩
  · refine Ok.call (digit_ok _ c) ?_
    rintro v s1 ⟨rfl, rfl⟩
    refine Ok.t rfl ?_
    refine Ok.c (fun h1 => ?_) (fun h1 => ?_)
    · exact Ok.ret ⟨by simp_all [isInside, boolOf], rfl⟩
    · exact Ok.ret ⟨by simp_all [isInside, boolOf], rfl⟩
end Go.Proofs.YtmjbmbmnnephjaaGreatDoor
/- The lexer's small methods: peek. -/
namespace Go.Proofs.YtmjbmbmnnephjaaGreatDoor
open Go Go.Ev Go.Proofs
theorem wrap_in (n : Int) (h1 : -9223372036854775808 ≤ n) (h2 : n ≤ 9223372036854775807) : IntKind.i64.wrap n = n := by
  exact IntWalk.i64_in n ⟨h1, h2⟩
def byteOf (s : ByteArray) (i : Int) : Int := if i < Int.ofNat s.data.toList.length then Int.ofNat (byteAt s i.toNat) else 0
theorem peek_ok (s : St) (b : Nat) (str : ByteArray) (k n : Int) (h0 : Cell s.mem b 0 (.string str)) (h1 : Cell s.mem b 1 (.int .i64 k)) (hr : 0 ≤ k + n) (hm : k + n ≤ 9223372036854775807) :
    Ok (fun f => callF En (runP En f) 59 [.pointer (some ⟨b, 0, none⟩), .int .i64 n]) s (fun v s' => v = .int .u8 (byteOf str (k + n)) ∧ Reads s s') := by
  have hw : IntKind.i64.wrap (k + n) = k + n := wrap_in _ (by omega) hm
  have t3 : scal En 3 = true := by kernel_rfl
  have t9 : scal En 9 = true := by kernel_rfl
  refine Ok.step (fun f => f59_eq f b n) ?_
  refine Ok.segLoad t3 h1 fun s1 r1 => ?_
  refine Ok.t rfl ?_
  refine Ok.segLoad t9 (h0.reads r1) fun s2 r2 => ?_
  refine Ok.gdL (by kernel_rfl) ?_
  refine Ok.t rfl ?_
  have r2 := r1.trans r2
  simp only [intOf, strOf, hw]
  refine Ok.c (fun h => ?_) (fun h => ?_)
  · have h := of_decide_eq_true h
    refine Ok.segLoad t9 (h0.reads r2) fun s3 r3 => ?_
    have r3 := r2.trans r3
    refine Ok.t rfl ?_
    refine Ok.segLoad t3 (h1.reads r3) fun s4 r4 => ?_
    have r4 := r3.trans r4
    refine Ok.gdL (by kernel_rfl) ?_
    refine Ok.t rfl ?_
    simp only [intOf, strOf, hw]
    refine Ok.t (by simpa using hr) ?_
    refine Ok.t (Nat.ble_eq_true_of_le (by simp only [Int.ofNat_eq_natCast] at h; omega)) ?_
    exact Ok.ret ⟨by simp only [byteOf, if_pos h], r4⟩
  · have h := of_decide_eq_false h
    exact Ok.ret ⟨by simp only [byteOf, if_neg h], r2⟩
end Go.Proofs.YtmjbmbmnnephjaaGreatDoor
/- Rules on memory: a copy of a string into a new row, and the string of such a row; what has been written lies above a number. -/
namespace Go.Ev
open Go
/-- All that has been written lies above a number. -/
def Above (c : Nat) (s s' : St) : Prop := ∃ l, s'.log = l ++ s.log ∧ ∀ a, a ∈ writesOf l → c ≤ a.k
theorem Above.trans {c : Nat} {s s1 s2 : St} (h : Above c s s1) (g : Above c s1 s2) : Above c s s2 := by
  obtain ⟨l, e1, e2⟩ := h
  obtain ⟨k, e3, e4⟩ := g
  refine ⟨k ++ l, by rw [e3, e1, List.append_assoc], fun a ha => ?_⟩
  rw [writesOf_append] at ha
  rcases List.mem_append.1 ha with ha | ha
  · exact e4 a ha
  · exact e2 a ha
theorem Reads.above {s s' : St} (c : Nat) (h : Reads s s') : Above c s s' := by
  obtain ⟨_, _, l, e3, e4⟩ := h
  exact ⟨l, e3, fun a ha => by rw [e4] at ha; cases ha⟩
theorem hits_above (c : Nat) (a : Acc) (ha : c ≤ a.k) : ∀ (l : List Acc), (∀ b, b ∈ l → b.k + b.n ≤ c) → hits a l = false
  | [], _ => rfl
  | b :: l, h => by
    have hb := h b (List.mem_cons_self ..)
    have : Nat.blt a.k (Nat.add b.k b.n) = false := by
      cases hq : Nat.blt a.k (Nat.add b.k b.n) with
      | false => rfl
      | true =>
        have h2 : a.k < b.k + b.n := by
          have := Nat.le_of_ble_eq_true hq
          simpa [Nat.succ_le_iff] using this
        omega
    simp only [hits, overlap, this, Bool.false_and, Bool.false_or]
    exact hits_above c a ha l fun b hb => h b (List.mem_cons_of_mem _ hb)
theorem anyHits_above (c : Nat) : ∀ (ws : List Acc), (∀ a, a ∈ ws → c ≤ a.k) → ∀ (l : List Acc), (∀ b, b ∈ l → b.k + b.n ≤ c) → anyHits ws l = false
  | [], _, _, _ => rfl
  | a :: ws, h, l, g => by
    simp only [anyHits, hits_above c a (h a (List.mem_cons_self ..)) l g, Bool.false_or]
    exact anyHits_above c ws (fun a ha => h a (List.mem_cons_of_mem _ ha)) l g
/-- What writes above a number only, and what reads below it. -/
theorem apart_above {c : Nat} {ws all rs : List Acc} (h : ∀ a, a ∈ ws → c ≤ a.k) (g : ∀ b, b ∈ rs → b.k + b.n ≤ c) : apartLogs ws all [] rs = true := by
  unfold apartLogs
  cases ws with
  | nil => rfl
  | cons a ws => simp only [anyHits_above c _ h rs g, Bool.not_false, Bool.and_true]

theorem Ok.newF {n el : Nat} {ex z sy : Bool} {vs : List Value} {g : Nat → Value} {s : St} (hn : vs.length = n) :
    Ok (fun _ => Prog.newH (Hdr.mk n el false ex z 0 sy false []) vs (fun k => Prog.ret (g k))) s
      (fun v s' => v = g s.ctr ∧ s'.ctr = s.ctr + n + 1 ∧ s'.mem.get s.ctr = some (.hdr (Hdr.mk n el false ex z 0 sy false [])) ∧ CellsAt s'.mem s.ctr (s.ctr + 1) vs ∧ (∀ k, k < s.ctr → s'.mem.get k = s.mem.get k) ∧ Above s.ctr s s') := by
  obtain ⟨m, c, l⟩ := s
  subst hn
  have e : Nat.ble vs.length vs.length = true := Nat.ble_eq_true_of_le (Nat.le_refl _)
  refine ⟨g c, ⟨layCells c vs (c + 1) (m.set c (some (.hdr (Hdr.mk vs.length el false ex z 0 sy false [])))), c + vs.length + 1, ⟨true, c, vs.length + 1⟩ :: l⟩, ⟨rfl, rfl, ?_, CellsAt.lay _ _ _, fun k hk => ?_, [⟨true, c, vs.length + 1⟩], rfl, fun a ha => ?_⟩, 0, fun _ _ => ?_⟩
  · simp only
    rw [lay_below _ _ _ _ _ (by omega), Tr.get_set, if_pos rfl]
  · simp only at hk ⊢
    rw [lay_below _ _ _ _ _ (by omega), Tr.get_set, if_neg (by omega)]
  · simp only [writesOf, List.mem_singleton] at ha
    subst ha
    exact Nat.le_refl _
  · simp only [Prog.run, e, St.newH, Nat.add_eq]

theorem Cell.congr {m m' : Tr Slot} {b o : Nat} {v : Value} (h : Cell m b o v) (e1 : m'.get b = m.get b) (e2 : m'.get (b + 1 + o) = m.get (b + 1 + o)) : Cell m' b o v := by
  obtain ⟨⟨hd, h1⟩, h2⟩ := h
  exact ⟨⟨hd, e1.trans h1⟩, e2.trans h2⟩
/-- What a call that allocates, and writes to nothing old, leaves. -/
def Fresh (s s' : St) : Prop := s.ctr ≤ s'.ctr ∧ (∀ k, k < s.ctr → s'.mem.get k = s.mem.get k)
theorem Fresh.refl (s : St) : Fresh s s := ⟨Nat.le_refl _, fun _ _ => rfl⟩
theorem Fresh.trans {s s1 s2 : St} (h : Fresh s s1) (g : Fresh s1 s2) : Fresh s s2 := ⟨Nat.le_trans h.1 g.1, fun k hk => (g.2 k (Nat.lt_of_lt_of_le hk h.1)).trans (h.2 k hk)⟩
theorem Reads.fresh {s s' : St} (h : Reads s s') : Fresh s s' := ⟨Nat.le_of_eq h.2.1.symm, fun k _ => by rw [h.1]⟩
def u8s (l : List UInt8) : List Value := l.map fun b => .int .u8 b.toNat
theorem u8s_length (l : List UInt8) : (u8s l).length = l.length := by simp [u8s]
theorem u8s_one (l : List UInt8) : (u8s l).all oneC = true := by simp [u8s, oneC]
theorem u8s_ok : ∀ (l : List UInt8), allU8 (u8s l) = true
  | [] => rfl
  | b :: l => by
    have := u8s_ok l
    simp only [u8s, List.map_cons, allU8, u8V, Bool.true_and] at this ⊢
    exact this
theorem u8s_bytes : ∀ (l : List UInt8), bytesV (u8s l) = l
  | [] => rfl
  | b :: l => by
    have := u8s_bytes l
    simp only [u8s, List.map_cons, bytesV, intOf, Int.toNat_natCast] at this ⊢
    rw [this]
    simp
theorem Ok.copyStr {E : Env} {t e c n cap : Nat} {x : ByteArray} {vs : List Value} {el : TypeId} {ex z sy : Bool} {s : St} (ht : elemOfSlice E t = some e) (hs : E.size e = some 1) (hh : s.mem.get c = some (.hdr ⟨n, el, false, ex, z, 0, sy, false, []⟩)) (hv : vs.length = n)
    (hx : x.data.toList.length = n) (h0 : 0 < n) :
    Ok (fun _ => builtinA E Builtin.copy (t :: (9 :: [])) (Value.slice (some ⟨c, 0, none⟩) n cap :: (Value.string x :: []))) s
      (fun v s' => v = vInt n ∧ s'.ctr = s.ctr ∧ s'.mem.get c = s.mem.get c ∧ CellsAt s'.mem c (c + 1) (u8s x.data.toList) ∧ (∀ k, (k ≤ c ∨ c + 1 + n ≤ k) → s'.mem.get k = s.mem.get k) ∧ Above c s s') := by
  obtain ⟨m, cc, l⟩ := s
  simp only at hh
  have e1 : firstA 1 n (.string x) = fun k => gd (Nat.beq 1 1) (k ((x.data.toList.take n).map (fun b => .int .u8 b.toNat))) := rfl
  have e2 : x.data.toList.take n = x.data.toList := List.take_of_length_le (by omega)
  have hl : (x.data.toList.map (fun b : UInt8 => Value.int .u8 (b.toNat : Int))).length = n := by simp [hx]
  have ho : (x.data.toList.map (fun b : UInt8 => Value.int .u8 (b.toNat : Int))).all oneC = true := u8s_one _
  have hb : Nat.ble (0 + n) n = true := Nat.ble_eq_true_of_le (by omega)
  have h00 : Nat.ble 0 0 = true := rfl
  obtain ⟨n', rfl⟩ : ∃ n', n = n' + 1 := ⟨n - 1, by omega⟩
  refine ⟨vInt (n' + 1 : Nat), ⟨layCells c (x.data.toList.map (fun b : UInt8 => Value.int .u8 (b.toNat : Int))) (c + 1 + 0) m, cc, ⟨true, c + 1 + 0, n' + 1⟩ :: ⟨false, c, 1⟩ :: l⟩, ⟨rfl, rfl, ?_, CellsAt.lay _ _ _, fun k hk => ?_, [⟨true, c + 1 + 0, n' + 1⟩, ⟨false, c, 1⟩], rfl, fun a ha => ?_⟩, 0, fun _ _ => ?_⟩
  · simp only
    rw [lay_below _ _ _ _ _ (by omega)]
  · simp only
    rw [lay_below _ _ _ _ _ (by omega)]
  · simp only [writesOf, List.mem_singleton] at ha
    subst ha
    simp only; omega
  · simp only [builtinA, copyA, ht, hs, Ev.opt, lenA, hx, Nat.min_self, e1, e2, gd, Nat.beq_refl, Prog.run, St.wr, hh, Bool.false_or, h00, Bool.not_true, ho, hl, Nat.add_eq, hb]
    rfl
/-- 'unsafe.String' of a whole row of bytes. -/
theorem Ok.unsafeStr {E : Env} {pt t2 e c n : Nat} {l : List UInt8} {ex : Bool} {s : St} (hp : ptrElem E pt = some e) (ho : isOne E e = true) (hh : s.mem.get c = some (.hdr ⟨n, e, false, ex, true, 0, false, false, []⟩)) (hl : l.length = n) (h0 : 0 < n) (hn : n ≤ 9223372036854775807)
    (hc : CellsAt s.mem c (c + 1) (u8s l)) :
    Ok (fun _ => builtinA E Builtin.unsafeString (pt :: (t2 :: [])) (Value.pointer (some ⟨c, 0, none⟩) :: (Value.int IntKind.i64 (n : Int) :: []))) s
      (fun v s' => v = .string (mkStr l) ∧ s'.ctr = s.ctr ∧ (∀ k, k ≠ c → s'.mem.get k = s.mem.get k) ∧ Above c s s') := by
  obtain ⟨m, cc, lg⟩ := s
  simp only at hh hc
  have hrd : rdCells m c n 0 = some (u8s l) := by
    have h1 : CellsAt m c (c + 1 + 0) (u8s l) := hc
    have h2 := h1.rd
    rw [u8s_length, hl] at h2
    exact h2
  have g1 : (decide ((0 : Int) ≤ (n : Int)) && decide ((n : Int) ≤ 9223372036854775807)) = true := by simp only [Bool.and_eq_true, decide_eq_true_eq]; omega
  have g2 : decide ((n : Int) = 0) = false := decide_eq_false (by omega)
  refine ⟨.string (mkStr l), ⟨m.set c (some (.hdr ⟨n, e, false, ex, true, Nat.max 0 n, false, false, []⟩)), cc, ⟨true, c, 1⟩ :: ⟨false, c + 1 + 0, n⟩ :: ⟨false, c, 1⟩ :: ⟨false, c, 1⟩ :: lg⟩,
    ⟨rfl, rfl, fun k hk => ?_, [⟨true, c, 1⟩, ⟨false, c + 1 + 0, n⟩, ⟨false, c, 1⟩, ⟨false, c, 1⟩], rfl, fun a ha => ?_⟩, 0, fun _ _ => ?_⟩
  · simp only
    rw [Tr.get_set, if_neg hk]
  · simp only [writesOf, List.mem_singleton] at ha
    subst ha
    simp only; omega
  · simp only [builtinA, gd, g1, g2, Prog.run, Ev.opt, hp, ck, ho, St.hd, hh, Nat.beq_refl, Bool.not_false, Bool.and_true, Bool.true_and, Int.toNat_natCast, St.rd, hrd, u8s_ok, St.setHd, u8s_bytes, Nat.add_eq]
end Go.Ev
/- Rules on memory: rows that are frozen when they are handed over. -/
namespace Go.Ev
open Go
theorem chunk1 : ∀ (n : Nat) (vs : List Value), vs.length = n → ∀ sz, chunkC true sz n vs = vs ∨ sz ≠ 1
  | 0, vs, h, sz => by
    have : vs = [] := List.length_eq_zero_iff.1 h
    subst this
    exact .inl rfl
  | n + 1, [], h, _ => by simp at h
  | n + 1, v :: vs, h, sz => by
    by_cases hs : sz = 1
    · subst hs
      rcases chunk1 n vs (by simpa using h) 1 with e | e
      · left
        simp only [chunkC, List.headD_cons, List.drop_succ_cons, List.drop_zero, e]
      · exact absurd rfl e
    · exact .inr hs
theorem Grow.frz {m : Tr Slot} {lo hi el sz : Nat} {cs : List Value} {r n c : Nat} {l : List Acc} (h : Grow m lo hi el sz cs (.slice (some ⟨r, 0, none⟩) n c)) :
    ∃ s', St.frz ⟨m, hi, l⟩ r (n * sz) 0 = some (cs, s') ∧ s'.ctr = hi ∧ (∀ k, k < lo → s'.mem.get k = m.get k) := by
  obtain ⟨h1, h2⟩ := h
  rcases h2 with ⟨e, _⟩ | ⟨r', n', sy, olds, e, a2, a3, a4, a5, a6, a7⟩
  · cases e
  · cases e
    have hrd : rdCells m r (n * sz) 0 = some cs := by rw [← a2]; exact CellsAt.rd a7
    refine ⟨⟨(kill olds m).set r none, hi, ⟨true, r, 1⟩ :: killLog olds (⟨false, Nat.add (Nat.add r 1) 0, n * sz⟩ :: l)⟩, by simp only [St.frz, a6, Bool.false_or, hrd, h1], rfl, fun k hk => ?_⟩
    simp only
    rw [Tr.get_set, if_neg (by omega), kill_at, if_neg]
    intro hm
    have := a5 k hm
    omega
section
variable {E : Env} {s : St} {Q : Value → St → Prop}
theorem Ok.frzO {b n o : Nat} {vs : List Value} {s1 : St} {k : Nat → List Value → Prog} (h : s.frz b n o = some (vs, s1)) (hk : Ok (fun f => k f vs) s1 Q) : Ok (fun f => .frz b n o (k f)) s Q := by
  obtain ⟨v, s', h1, f0, h2⟩ := hk
  refine ⟨v, s', h1, f0, fun f hf => ?_⟩
  simp only [Prog.run, h]
  exact h2 f hf
/-- A list of plain parts. -/
theorem Ok.frzL {e lo d : Nat} {cs : List Value} {v : Value} {p : Nat → Value → Prog} (hs : E.size e = some 1) (hsl : slots E 20 e = [none]) (h1 : isOneT E e = true) (h : Grow s.mem lo s.ctr e 1 cs v)
    (hk : ∀ s', s'.ctr = s.ctr → (∀ k, k < lo → s'.mem.get k = s.mem.get k) → Ok (fun f => p f (lstV cs)) s' Q) : Ok (fun f => Ev.frzL E (d + 1) e v (p f)) s Q := by
  obtain ⟨m, c, l⟩ := s
  have h' := h
  rcases h.2 with ⟨rfl, rfl⟩ | ⟨r, n, sy, olds, rfl, a2, _⟩
  · exact hk _ rfl fun _ _ => rfl
  · by_cases hn : n = 0
    · subst hn
      have : cs = [] := List.length_eq_zero_iff.1 (by omega)
      subst this
      exact hk _ rfl fun _ _ => rfl
    · obtain ⟨s', f1, f2, f3⟩ := Grow.frz (l := l) h'
      have hb : Nat.beq n 0 = false := by cases n with
        | zero => exact absurd rfl hn
        | succ n => rfl
      have hc : chunkC true 1 n cs = cs := by
        rcases chunk1 n cs (by omega) 1 with e | e
        · exact e
        · exact absurd rfl e
      have e2 : ∀ f, Ev.frzL E (d + 1) e (.slice (some ⟨r, 0, none⟩) n (capOf n false)) (p f) = .frz r (n * 1) 0 fun vs => p f (lstV (chunkC true 1 n vs)) := by
        intro f
        unfold Ev.frzL
        simp only [hb, hs, Ev.opt, ck, hsl, anySome, h1, Nat.mul_eq]
        rfl
      simp only [e2]
      refine Ok.frzO f1 ?_
      rw [hc]
      exact hk s' f2 f3
theorem Ok.frzLst {e d : Nat} {cs : List Value} {p : Nat → Value → Prog} (hk : Ok (fun f => p f (lstV cs)) s Q) : Ok (fun f => Ev.frzL E (d + 1) e (lstV cs) (p f)) s Q := hk
theorem Ok.frzNil {e d : Nat} {p : Nat → Value → Prog} (hk : Ok (fun f => p f (lstV [])) s Q) : Ok (fun f => Ev.frzL E (d + 1) e (.slice none 0 0) (p f)) s Q := hk
end
end Go.Ev
/- Rules on memory: several parts are appended; a row of bytes as a string. -/
namespace Go.Ev
open Go
def ints (l : List Value) : Bool := l.all fun v => match v with
  | .int _ _ => true
  | _ => false
theorem flatC_ints : ∀ (l : List Value), ints l = true → flatC l = l
  | [], _ => rfl
  | v :: l, h => by
    simp only [ints, List.all_cons, Bool.and_eq_true] at h
    have h2 := flatC_ints l h.2
    cases v with
    | int k n => simp only [flatC, h2]; rfl
    | _ => simp at h
theorem ints_one (l : List Value) (h : ints l = true) : l.all oneC = true := by
  simp only [ints, List.all_eq_true] at h ⊢
  intro v hv
  have := h v hv
  cases v <;> simp_all [oneC]
theorem ints_hd (l : List Value) (h : ints l = true) : hdOk 1 l = true := by
  cases l with
  | nil => rfl
  | cons v l =>
    simp only [ints, List.all_cons, Bool.and_eq_true] at h
    cases v with
    | int k n => rfl
    | _ => simp at h
theorem ints_append {a b : List Value} (ha : ints a = true) (hb : ints b = true) : ints (a ++ b) = true := by
  simp only [ints, List.all_append, Bool.and_eq_true] at *
  exact ⟨ha, hb⟩
/-- A buffer of numbers: a list without room, or a row that grows. -/
def Buf (s : St) (lo el : Nat) (cs : List Value) (v : Value) : Prop := ints cs = true ∧ lo ≤ s.ctr ∧ (Grow s.mem lo s.ctr el 1 cs v ∨ v = xlstV cs)
theorem Buf.grow {s : St} {lo el : Nat} {cs : List Value} {v : Value} (h : Buf s lo el cs v) (e : ∃ a b c, v = Value.slice a b c) : Grow s.mem lo s.ctr el 1 cs v := by
  obtain ⟨a, b, c, rfl⟩ := e
  rcases h.2.2 with g | g
  · exact g
  · cases g
theorem Buf.fresh {s s' : St} {lo el : Nat} {cs : List Value} {v : Value} (h : Buf s lo el cs v) (f : Fresh s s') : Buf s' lo el cs v := by
  obtain ⟨h1, h2, h3⟩ := h
  refine ⟨h1, by have := f.1; omega, ?_⟩
  rcases h3 with h3 | h3
  · exact .inl (h3.congr f.1 fun j _ hj => f.2 j hj)
  · exact .inr h3
theorem Ok.appM {E : Env} {t el by_ lo : Nat} {cs es : List Value} {v : Value} {s : St} (ht : AppT E t el 1 by_) (h : Buf s lo el cs v) (he : ints es = true) (h0 : 0 < es.length) (hn : (cs.length + es.length) * (by_ + 1) ≤ 1099511627776) :
    Ok (fun _ => builtinA E Builtin.append (t :: (t :: [])) (v :: (xlstV es :: []))) s
      (fun w s' => Buf s' lo el (cs ++ es) w ∧ s.ctr ≤ s'.ctr ∧ (∀ k, k < lo → s'.mem.get k = s.mem.get k) ∧ ∃ a b c, w = Value.slice a b c) := by
  obtain ⟨m, c, l⟩ := s
  obtain ⟨hu, hs, hb, hz, hz0⟩ := ht
  obtain ⟨zv, hz⟩ := Option.isSome_iff_exists.1 hz
  obtain ⟨hi, hlo, hg⟩ := h
  have hel : elemOfSlice E t = some el := by unfold elemOfSlice; rw [hu]
  have hlen : lenA (xlstV es) = some es.length := rfl
  have hok : hdOk 1 es = true := ints_hd es he
  have hoke : hdOk 1 cs = true := ints_hd cs hi
  have hone := ints_one cs hi
  have hone2 := ints_one es he
  have hfl : flatC (es.take es.length) = es := by rw [List.take_length]; exact flatC_ints es he
  have hfl1 : flatC cs = cs := flatC_ints cs hi
  have hf1 : ∀ n k, firstA 1 n (xlstV es) k = gd (hdOk 1 es) (k (flatC (es.take n))) := fun _ _ => rfl
  obtain ⟨n1, hn1⟩ : ∃ n1, es.length = n1 + 1 := ⟨es.length - 1, by omega⟩
  have hbi := ints_append hi he
  rcases hg with ⟨_, ⟨rfl, rfl⟩ | ⟨r, n, sy, olds, rfl, a2, a3, a4, a5, a6, a7⟩⟩ | rfl
  · have hd : decide ((0 + (n1 + 1)) * (by_ + 1) ≤ 1099511627776) = true := decide_eq_true (by rw [← hn1]; simpa using hn)
    have hbl : Nat.ble es.length es.length = true := Nat.ble_eq_true_of_le (Nat.le_refl _)
    refine ⟨.slice (some ⟨c, 0, none⟩) (n1 + 1) (capOf (n1 + 1) false), ⟨layCells c es (c + 1) (m.set c (some (.hdr ⟨es.length, el, false, false, true, 0, false, false, []⟩))), c + es.length + 1, ⟨true, c, es.length + 1⟩ :: l⟩, ⟨⟨hbi, ?_, .inl ⟨?_, .inr ⟨c, n1 + 1, false, [], rfl, ?_, hlo, ?_, fun k hk => ?_, ?_, ?_⟩⟩⟩, ?_, fun k hk => ?_, ⟨_, _, _, rfl⟩⟩, 0, fun _ _ => ?_⟩
    · simp only at hlo ⊢; omega
    · simpa using hone2
    · simp [hn1]
    · simp; omega
    · cases hk
    · simp only [List.nil_append]
      rw [lay_below _ _ _ _ _ (by omega), Tr.get_set, if_pos rfl]
    · exact CellsAt.lay _ _ _
    · simp; omega
    · simp only at hlo ⊢
      rw [lay_below _ _ _ _ _ (by omega), Tr.get_set, if_neg (by omega)]
    · have hfl' : flatC (es.take (n1 + 1)) = es := by rw [← hn1]; exact hfl
      simp only [builtinA, appendA, appendB, hel, hu, hs, hb, Ev.opt, isIntD, appN, hlen, hn1, hz, gd, hd, appC, hf1, hok, hfl', Prog.run, Prog.new]
      rw [show Nat.ble (n1 + 1) (n1 + 1) = true from Nat.ble_eq_true_of_le (Nat.le_refl _)]
      simp only [St.newH, Nat.add_eq]
  · simp only at a4 a6 a7 hlo
    have hcl : capLo (capOf n false) = n := by show (2 * n + 0) / 2 = n; omega
    have hce : capEx (capOf n false) = false := by
      simp only [capEx, capOf, Nat.add_eq, Nat.mul_eq, Nat.add_zero]
      have : Nat.mod (2 * n) 2 = 0 := by show (2 * n) % 2 = 0; omega
      rw [this]; rfl
    have hd : decide ((n + (n1 + 1)) * (by_ + 1) ≤ 1099511627776) = true := decide_eq_true (by rw [← hn1, show n = cs.length by omega]; exact hn)
    have hble : Nat.ble (n + (n1 + 1)) n = false := by
      cases hq : Nat.ble (n + (n1 + 1)) n with
      | false => rfl
      | true => have := Nat.le_of_ble_eq_true hq; omega
    have hg2 : decide (True ∧ 0 + n * 1 = cs.length ∧ True ∧ True ∧ True ∧ 0 ≤ n * 1 + (n1 + 1) * 1) = true := decide_eq_true ⟨trivial, by omega, trivial, trivial, trivial, Nat.zero_le _⟩
    have hrd : rdCells m r (n * 1) 0 = some cs := by rw [← a2]; exact CellsAt.rd a7
    have hlenc : (cs ++ es).length = n * 1 + (n1 + 1) * 1 := by rw [List.length_append, hn1]; omega
    have hbl : Nat.ble (cs ++ es).length (n * 1 + (n1 + 1) * 1) = true := Nat.ble_eq_true_of_le (by omega)
    refine ⟨.slice (some ⟨c, 0, none⟩) (n + (n1 + 1)) (capOf (n + (n1 + 1)) false), ⟨layCells c (cs ++ es) (c + 1) ((m.set r (some (.hdr ⟨cs.length, el, false, false, true, 0, sy, true, []⟩))).set c (some (.hdr ⟨n * 1 + (n1 + 1) * 1, el, false, false, true, 0, sy, false, r :: olds⟩))), c + (n * 1 + (n1 + 1) * 1) + 1, ⟨true, c, n * 1 + (n1 + 1) * 1 + 1⟩ :: ⟨true, r, 1⟩ :: ⟨false, r + 1 + 0, n * 1⟩ :: ⟨false, r, 1⟩ :: ⟨false, r, 1⟩ :: l⟩, ⟨⟨hbi, ?_, .inl ⟨?_, .inr ⟨c, n + (n1 + 1), sy, r :: olds, rfl, ?_, hlo, ?_, fun k hk => ?_, ?_, ?_⟩⟩⟩, ?_, fun k hk => ?_, ⟨_, _, _, rfl⟩⟩, 0, fun _ _ => ?_⟩
    · simp only; omega
    · exact all_append _ _ _ hone hone2
    · rw [hlenc]; omega
    · simp only; omega
    · rcases List.mem_cons.1 hk with rfl | hk
      · exact ⟨a3, by omega⟩
      · have := a5 k hk; omega
    · simp only
      rw [lay_below _ _ _ _ _ (by omega), Tr.get_set, if_pos rfl, hlenc]
    · exact CellsAt.lay _ _ _
    · simp only; omega
    · simp only at hlo ⊢
      rw [lay_below _ _ _ _ _ (by omega), Tr.get_set, if_neg (by omega), Tr.get_set, if_neg (by omega)]
    · have hfl' : flatC (es.take (n1 + 1)) = es := by rw [← hn1]; exact hfl
      simp only [builtinA, appendA, appendB, hel, hu, hs, hb, Ev.opt, isIntD, appN, hlen, hn1, hz, gd, hd, hcl, hce, hble, appC, hf1, hok, hfl', Prog.run, St.hd, St.setHd, St.rd, a6, hg2, hrd, hone2, hbl, St.newH, Nat.add_eq, Bool.true_and, Nat.beq_refl]
  · have hx : isXl (xlstV cs) = true := rfl
    have hxe : elems (xlstV cs) = cs := rfl
    have hd : (hdOk 1 cs && decide ((cs.length + (n1 + 1)) * (by_ + 1) ≤ 1099511627776)) = true := by
      rw [hoke, Bool.true_and]; exact decide_eq_true (by rw [← hn1]; exact hn)
    have happ : appendA E (t :: (t :: [])) (xlstV cs :: (xlstV es :: [])) = appendX E t t cs (xlstV es) := rfl
    refine ⟨.slice (some ⟨c, 0, none⟩) (cs.length + (n1 + 1)) (capOf (cs.length + (n1 + 1)) false), ⟨layCells c (cs ++ es) (c + 1) (m.set c (some (.hdr ⟨(cs ++ es).length, el, false, false, true, 0, false, false, []⟩))), c + (cs ++ es).length + 1, ⟨true, c, (cs ++ es).length + 1⟩ :: l⟩, ⟨⟨hbi, ?_, .inl ⟨all_append _ _ _ hone hone2, .inr ⟨c, cs.length + (n1 + 1), false, [], rfl, ?_, hlo, ?_, fun k hk => ?_, ?_, ?_⟩⟩⟩, ?_, fun k hk => ?_, ⟨_, _, _, rfl⟩⟩, 0, fun _ _ => ?_⟩
    · simp only at hlo ⊢; omega
    · rw [List.length_append, hn1, Nat.mul_one]
    · simp only; omega
    · cases hk
    · simp only
      rw [lay_below _ _ _ _ _ (by omega), Tr.get_set, if_pos rfl]
    · exact CellsAt.lay _ _ _
    · simp only; omega
    · simp only at hlo ⊢
      rw [lay_below _ _ _ _ _ (by omega), Tr.get_set, if_neg (by omega)]
    · have hfl' : flatC (es.take (n1 + 1)) = es := by rw [← hn1]; exact hfl
      have hbl : Nat.ble (cs ++ es).length (cs ++ es).length = true := Nat.ble_eq_true_of_le (Nat.le_refl _)
      simp only [builtinA, happ, appendX, hel, hu, hs, hb, Ev.opt, isIntD, appN, hlen, hn1, hz, gd, hd, appC, hf1, hok, hfl', hfl1, Prog.run, Prog.new, hbl, St.newH, Nat.add_eq]
/-- A row of bytes as a string. -/
theorem Ok.convStr {E : Env} {src dst e : Nat} {lo el : Nat} {cs : List Value} {v : Value} {s : St} (h1 : E.und src = some (.slice e)) (h2 : E.und dst = some .string) (h3 : isU8 E e = true) (h : Grow s.mem lo s.ctr el 1 cs v) (hu : allU8 cs = true) :
    Ok (fun _ => convA E src dst v) s (fun w s' => w = .string (mkStr (bytesV cs)) ∧ Reads s s') := by
  obtain ⟨m, c, l⟩ := s
  rcases h.2 with ⟨rfl, rfl⟩ | ⟨r, n, sy, olds, rfl, a2, a3, a4, a5, a6, a7⟩
  · refine ⟨_, ⟨m, c, l⟩, ⟨rfl, Reads.refl _⟩, 0, fun _ _ => ?_⟩
    simp only [convA, h1, h2, Ev.opt, ck, h3, Prog.run, bytesV]
  · have hrd : rdCells m r n 0 = some cs := by
      have := CellsAt.rd (o := 0) a7
      rw [a2, Nat.mul_one] at this
      exact this
    refine ⟨_, ⟨m, c, ⟨false, Nat.add (Nat.add r 1) 0, n⟩ :: ⟨false, r, 1⟩ :: l⟩, ⟨rfl, rfl, rfl, [⟨false, Nat.add (Nat.add r 1) 0, n⟩, ⟨false, r, 1⟩], rfl, rfl⟩, 0, fun _ _ => ?_⟩
    simp only at a6
    simp only [convA, h1, h2, Ev.opt, ck, h3, Prog.run, St.rd, a6, hrd, hu, gd]
end Go.Ev
/- Words that many proofs share: bytes of texts, tokens and their rows, buffers of bytes. -/
namespace Go.Ev
open Go
theorem CellsAt.right {m : Tr Slot} {b : Nat} : ∀ {xs ys : List Value} {k : Nat}, CellsAt m b k (xs ++ ys) → CellsAt m b (k + xs.length) ys
  | [], _, _, h => by simpa using h
  | x :: xs, ys, k, h => by
    have := CellsAt.right (xs := xs) h.2
    rw [show k + (x :: xs).length = k + 1 + xs.length by simp only [List.length_cons]; omega]
    exact this
end Go.Ev
namespace Go.Proofs.YtmjbmbmnnephjaaGreatDoor
open Go Go.Ev Go.Proofs
abbrev bl (s : ByteArray) : List UInt8 := s.data.toList
theorem beqB_eq : ∀ (a b : List UInt8), beqB a b = decide (a = b)
  | [], [] => rfl
  | [], _ :: _ => rfl
  | _ :: _, [] => rfl
  | a :: x, b :: y => by
    unfold beqB
    cases h : Nat.beq a.toNat b.toNat with
    | true =>
      have : a = b := UInt8.toNat_inj.1 (Nat.eq_of_beq_eq_true h)
      subst this
      simp [beqB_eq x y]
    | false =>
      have : a ≠ b := fun e => by subst e; simp at h
      simp [this]
theorem bl_mk (l : List UInt8) : bl (mkStr l) = l := rfl
theorem mk_bl (x : ByteArray) : mkStr (bl x) = x := rfl
theorem byteAt_lt (x : ByteArray) (i : Nat) : byteAt x i < 256 := by
  unfold byteAt
  exact UInt8.toNat_lt _
/-- A token: what its cells are. -/
structure Tok where
  kind : Int
  at_ : Int
  en : Int
  text : ByteArray
  t : Int
  n : List Value
  sy : List Value
  l : List Value
def Tok.cells (t : Tok) : List Value := [.int .i64 t.kind, .int .i64 t.at_, .int .i64 t.en, .string t.text, .int .i64 t.t, lstV t.n, lstV t.sy, lstV t.l]
def toksC : List Tok → List Value
  | [] => []
  | t :: ts => t.cells ++ toksC ts
theorem toksC_append : ∀ (a b : List Tok), toksC (a ++ b) = toksC a ++ toksC b
  | [], _ => rfl
  | t :: a, b => by simp only [List.cons_append, toksC, toksC_append a b, List.append_assoc]
theorem toksC_length : ∀ (a : List Tok), (toksC a).length = a.length * 8
  | [] => rfl
  | t :: a => by simp only [toksC, List.length_append, toksC_length a, List.length_cons, Nat.add_mul]; simp [Tok.cells]; omega
theorem toksC_one : ∀ (a : List Tok), (toksC a).all oneC = true
  | [] => rfl
  | t :: a => by
    rw [toksC, List.all_append, toksC_one a]
    rfl
theorem appT23 : AppT En 23 34 8 120 := ⟨by kernel_rfl, by kernel_rfl, by kernel_rfl, by kernel_rfl, by omega⟩
theorem sl2 : slots En 20 2 = [none] := by kernel_rfl
theorem sl9 : slots En 20 9 = [none] := by kernel_rfl
theorem appT29 : AppT En 29 9 1 16 := ⟨by kernel_rfl, by kernel_rfl, by kernel_rfl, by kernel_rfl, by omega⟩
def tokV (t : Tok) : Value := .agg ⟨t.cells⟩
def sl34 : List (Option TypeId) := [none, none, none, none, none, some 2, some 9, some 32]
theorem slots34 : slots En 20 34 = sl34 := by kernel_rfl
theorem frzGo_toks : ∀ (ts : List Tok) (k : List Value → Prog), frzGo (frzL En 19) ((List.replicate ts.length ()).flatMap fun _ => sl34) (toksC ts) k = k (toksC ts)
  | [], _ => rfl
  | t :: ts, k => by
    have ih := frzGo_toks ts fun r => k (t.cells ++ r)
    show frzGo (frzL En 19) (sl34 ++ (List.replicate ts.length ()).flatMap fun _ => sl34) (t.cells ++ toksC ts) k = k (t.cells ++ toksC ts)
    rw [← ih]
    rfl
theorem chunk_toks : ∀ (ts : List Tok), chunkC false 8 ts.length (toksC ts) = ts.map tokV
  | [] => rfl
  | t :: ts => by
    have ih := chunk_toks ts
    show Value.agg ⟨(t.cells ++ toksC ts).take 8⟩ :: chunkC false 8 ts.length ((t.cells ++ toksC ts).drop 8) = tokV t :: ts.map tokV
    rw [← ih]
    rfl
theorem frz_toks {s : St} {lo : Nat} {ts : List Tok} {v : Value} {Q : Value → St → Prop} {p : Nat → Value → Prog} (h : Grow s.mem lo s.ctr 34 8 (toksC ts) v)
    (hk : ∀ s', s'.ctr = s.ctr → (∀ k, k < lo → s'.mem.get k = s.mem.get k) → Ok (fun f => p f (lstV (ts.map tokV))) s' Q) : Ok (fun f => frzL En 20 34 v (p f)) s Q := by
  obtain ⟨m, c, l⟩ := s
  have h' := h
  rcases h.2 with ⟨rfl, e⟩ | ⟨r, n, sy, olds, rfl, a2, _⟩
  · have : ts = [] := by
      cases ts with
      | nil => rfl
      | cons t ts => have := congrArg List.length e; rw [toksC_length] at this; simp at this
    subst this
    exact hk _ rfl fun _ _ => rfl
  · rw [toksC_length] at a2
    have hn : ts.length = n := by omega
    by_cases h0 : n = 0
    · subst h0
      have : ts = [] := List.length_eq_zero_iff.1 hn
      subst this
      exact hk _ rfl fun _ _ => rfl
    · obtain ⟨s', f1, f2, f3⟩ := Grow.frz (l := l) h'
      have hb : Nat.beq n 0 = false := by cases n with
        | zero => exact absurd rfl h0
        | succ n => rfl
      have hs : En.size 34 = some 8 := by kernel_rfl
      have h1 : isOneT En 34 = false := by kernel_rfl
      have e2 : ∀ f, frzL En (19 + 1) 34 (.slice (some ⟨r, 0, none⟩) n (capOf n false)) (p f) = .frz r (n * 8) 0 fun vs => frzGo (frzL En 19) ((List.replicate n ()).flatMap fun _ => sl34) vs fun vs => p f (lstV (chunkC false 8 n vs)) := by
        intro f
        unfold frzL
        simp only [hb, hs, Ev.opt, ck, slots34, h1, Nat.mul_eq]
        rfl
      have e3 : ∀ f, frzL En 20 34 (.slice (some ⟨r, 0, none⟩) n (capOf n false)) (p f) = .frz r (n * 8) 0 fun vs => frzGo (frzL En 19) ((List.replicate n ()).flatMap fun _ => sl34) vs fun vs => p f (lstV (chunkC false 8 n vs)) := e2
      simp only [e3]
      refine Ok.frzO f1 ?_
      subst hn
      simp only [frzGo_toks, chunk_toks]
      exact hk s' f2 f3
theorem appT65 : AppT En 65 5 1 1 := ⟨by kernel_rfl, by kernel_rfl, by kernel_rfl, by kernel_rfl, by omega⟩
theorem b65_1 (a : Int) : buildSliceA En 65 1 ((Prod.mk 0 (Value.int IntKind.u8 a)) :: []) = .ret (xlstV (Value.int IntKind.u8 a :: [])) := by kernel_rfl
theorem b65_4 (a b c d : Int) : buildSliceA En 65 4 ((Prod.mk 0 (Value.int IntKind.u8 a)) :: ((Prod.mk 1 (Value.int IntKind.u8 b)) :: ((Prod.mk 2 (Value.int IntKind.u8 c)) :: ((Prod.mk 3 (Value.int IntKind.u8 d)) :: [])))) =
  .ret (xlstV (Value.int IntKind.u8 a :: Value.int IntKind.u8 b :: Value.int IntKind.u8 c :: Value.int IntKind.u8 d :: [])) := by kernel_rfl
theorem allU8_append : ∀ (a b : List Value), allU8 a = true → allU8 b = true → allU8 (a ++ b) = true
  | [], _, _, h => h
  | v :: a, b, h, g => by
    simp only [allU8, Bool.and_eq_true, List.cons_append] at *
    exact ⟨h.1, allU8_append a b h.2 g⟩
theorem conv65 {lo : Nat} {cs : List Value} {v : Value} {s : St} (h : Grow s.mem lo s.ctr 5 1 cs v) (hu : allU8 cs = true) :
    Ok (fun _ => convA En 65 9 v) s (fun w s' => w = .string (mkStr (bytesV cs)) ∧ Reads s s') := Ok.convStr (e := 5) (by kernel_rfl) (by kernel_rfl) (by kernel_rfl) h hu
/-- One operation more in a drawn region: a list is built, and appended. -/
theorem push_seg {s : St} {lo : Nat} {cs es : List Value} {v : Value} {Q : Value → St → Prop} {k : Nat → Value → Prog} {bs : Prog} {i1 m : Nat} (hbs : bs = .ret (xlstV es)) (h : Buf s lo 5 cs v) (he : ints es = true) (h0 : 0 < es.length) (hn : cs.length + es.length ≤ 100000000) (hm : Nat.testBit m i1 = true)
    (hk : ∀ w s', Buf s' lo 5 (cs ++ es) w → (∃ a b c, w = .slice a b c) → s.ctr ≤ s'.ctr → (∀ k, k < lo → s'.mem.get k = s.mem.get k) → Ok (fun f => k f w) s' Q) :
    Ok (fun f => .seg bs fun v68 s69 _ => .seg (builtinA En Builtin.append (65 :: (65 :: [])) (v :: (v68 :: []))) fun v70 s71 _ => Ev.gdL m (writesOf s71) s71 [⟨i1, writesOf s69, s69⟩] (k f v70)) s Q := by
  subst hbs
  refine Ok.seg (Q1 := fun v s' => v = xlstV es ∧ s' = ⟨s.mem, s.ctr, []⟩) (Ok.ret ⟨rfl, rfl⟩) ?_
  rintro w s1 ⟨rfl, rfl⟩
  have h1 : Buf ⟨s.mem, s.ctr, []⟩ lo 5 cs v := h
  refine Ok.seg (Ok.appM appT65 h1 he h0 (by omega)) ?_
  rintro w s2 ⟨g1, g2, g3, g4⟩
  exact Ok.gdL (by simp [freeL, hm]) (hk w _ g1 g4 g2 g3)
theorem hexOk (c : Nat) (h : c < 256) : (Nat.ble (Nat.succ (Nat.mod c 16)) 16) = true ∧ (Nat.ble (Nat.succ (Int.toNat (IntKind.wrap IntKind.u8 (Int.ofNat (Nat.div c 16))))) 16) = true ∧ (decide ((0 : Int) ≤ (IntKind.wrap IntKind.u8 (Int.ofNat (Nat.div c 16))))) = true := by
  have hm : Nat.mod c 16 < 16 := Nat.mod_lt c (by omega)
  have hd : Nat.div c 16 < 16 := by show c / 16 < 16; omega
  have e : IntKind.wrap IntKind.u8 (Int.ofNat (Nat.div c 16)) = Int.ofNat (Nat.div c 16) := IntWalk.u8_in _ ⟨by simp only [Int.ofNat_eq_natCast]; omega, by simp only [Int.ofNat_eq_natCast]; omega⟩
  rw [e]
  exact ⟨Nat.ble_eq_true_of_le (by omega), Nat.ble_eq_true_of_le (by simp only [Int.ofNat_eq_natCast, Int.toNat_natCast]; omega), decide_eq_true (by simp only [Int.ofNat_eq_natCast]; omega)⟩
theorem bytesV_length : ∀ (l : List Value), (bytesV l).length = l.length
  | [] => rfl
  | a :: l => by simp [bytesV, bytesV_length l]
end Go.Proofs.YtmjbmbmnnephjaaGreatDoor
/- The library's small functions on strings: IndexByte, CutSuffix, CutPrefix. -/
namespace Go.Proofs.YtmjbmbmnnephjaaGreatDoor
open Go Go.Ev Go.Proofs
theorem f180_eq (f : Nat) (x0 : ByteArray) (x1 : Int) : callF En (runP En f) 180 [(Value.string x0), (Value.int IntKind.u8 x1)] =
  gd (decide (0 ≤ x1) && decide (x1 < 256)) (.ret (vInt (findByte x1.toNat x0.data.toList 0))) := by kernel_rfl
theorem findByte_spec (c : Nat) : ∀ (l : List UInt8) (i : Nat), (findByte c l i = -1 ∧ ∀ b ∈ l, b.toNat ≠ c) ∨ ∃ j, j < l.length ∧ findByte c l i = Int.ofNat (i + j) ∧ (l.getD j 0).toNat = c ∧ ∀ k, k < j → (l.getD k 0).toNat ≠ c
  | [], i => .inl ⟨rfl, fun b h => by cases h⟩
  | x :: l, i => by
    unfold findByte
    cases h : Nat.beq x.toNat c with
    | true => exact .inr ⟨0, by simp, rfl, by simpa using Nat.eq_of_beq_eq_true h, fun k hk => by omega⟩
    | false =>
      have hx : x.toNat ≠ c := fun e => by subst e; simp at h
      rcases findByte_spec c l (i + 1) with ⟨a, b⟩ | ⟨j, a, b, d, e⟩
      · refine .inl ⟨a, fun y hy => ?_⟩
        rcases List.mem_cons.1 hy with rfl | hy
        · exact hx
        · exact b y hy
      · refine .inr ⟨j + 1, by simp; omega, ?_, by simpa using d, fun k hk => ?_⟩
        · simp only [Nat.add_eq]; rw [b]; congr 1; omega
        · cases k with
          | zero => simpa using hx
          | succ k => simpa using e k (by omega)
theorem indexByte_ok (s : St) (x : ByteArray) (c : Int) (h : 0 ≤ c ∧ c < 256) : Ok (fun f => callF En (runP En f) 66 [.string x, .int .u8 c]) s (fun v s' => v = .int .i64 (findByte c.toNat (bl x) 0) ∧ s' = s) := by
  refine Ok.step (fun f => f66_eq f x c) ?_
  refine Ok.call (Q1 := fun v s' => v = .int .i64 (findByte c.toNat (bl x) 0) ∧ s' = s) ?_ ?_
  · refine Ok.step (fun f => f124_eq f x c) ?_
    refine Ok.call (Q1 := fun v s' => v = .int .i64 (findByte c.toNat (bl x) 0) ∧ s' = s) ?_ ?_
    · simp only [f180_eq]
      exact Ok.g (by simp [h.1, h.2]) (Ok.ret ⟨rfl, rfl⟩)
    · rintro v s1 ⟨rfl, rfl⟩
      exact Ok.t rfl (Ok.ret ⟨rfl, rfl⟩)
  · rintro v s1 ⟨rfl, rfl⟩
    exact Ok.t rfl (Ok.ret ⟨rfl, rfl⟩)
/-- Is a text the end of another one? -/
def sufB (a b : List UInt8) : Bool := decide (b.length ≤ a.length) && decide (a.drop (a.length - b.length) = b)
theorem toInt_sub (a b : Nat) (h : b ≤ a) (ha : a ≤ 4611686018427387904) : IntKind.i64.wrap ((Int.ofNat a) + (Int.negOfNat b)) = Int.ofNat (a - b) := by
  rw [wrap_in _ (by simp only [Int.ofNat_eq_natCast, Int.negOfNat_eq]; omega) (by simp only [Int.ofNat_eq_natCast, Int.negOfNat_eq]; omega)]
  simp only [Int.ofNat_eq_natCast, Int.negOfNat_eq]; omega
theorem hasSuffix_ok (s : St) (a b : ByteArray) (ha : (bl a).length ≤ 4611686018427387904) : Ok (fun f => callF En (runP En f) 211 [.string a, .string b]) s (fun v s' => v = .bool (sufB (bl a) (bl b)) ∧ s' = s) := by
  refine Ok.step (fun f => f211_eq f a b) ?_
  refine Ok.c (fun h => ?_) (fun h => ?_)
  · have h := of_decide_eq_true h
    simp only [Int.ofNat_eq_natCast] at h
    have hle : (bl b).length ≤ (bl a).length := by simp only [bl]; omega
    have e := toInt_sub _ _ hle ha
    simp only [bl] at hle ha e
    refine Ok.t (decide_eq_true (by rw [e]; simp only [Int.ofNat_eq_natCast]; omega)) ?_
    refine Ok.t (by rw [e]; simp only [Bool.and_eq_true]; exact ⟨Nat.ble_eq_true_of_le (by simp), Nat.ble_eq_true_of_le (by omega)⟩) ?_
    refine Ok.ret ⟨?_, rfl⟩
    rw [e, Int.ofNat_eq_natCast, Int.toNat_natCast, List.take_of_length_le (by rw [List.length_drop]; omega), beqB_eq]
    simp only [sufB, bl, decide_eq_true hle, Bool.true_and]
  · have h := of_decide_eq_false h
    simp only [Int.ofNat_eq_natCast] at h
    refine Ok.ret ⟨?_, rfl⟩
    simp only [sufB, bl, decide_eq_false (show ¬ b.data.toList.length ≤ a.data.toList.length by omega), Bool.false_and]
/-- What is left of a text without such an end. -/
def cutSuf (a b : List UInt8) : List UInt8 := if sufB a b then a.take (a.length - b.length) else a
def mk (l : List UInt8) : ByteArray := mkStr l
theorem cutSuffix_ok (s : St) (a b : ByteArray) (ha : (bl a).length ≤ 4611686018427387904) : Ok (fun f => callF En (runP En f) 117 [.string a, .string b]) s
    (fun v s' => v = .tuple ⟨[.string (mkStr (cutSuf (bl a) (bl b))), .bool (sufB (bl a) (bl b))]⟩ ∧ s' = s) := by
  refine Ok.step (fun f => f117_eq f a b) ?_
  refine Ok.call (Q1 := fun v s' => v = .tuple ⟨[.string (mkStr (cutSuf (bl a) (bl b))), .bool (sufB (bl a) (bl b))]⟩ ∧ s' = s) ?_ ?_
  · refine Ok.step (fun f => f174_eq f a b) ?_
    refine Ok.call (hasSuffix_ok s a b ha) ?_
    rintro v s1 ⟨rfl, rfl⟩
    refine Ok.t rfl ?_
    simp only [boolOf]
    refine Ok.c (fun h => ?_) (fun h => ?_)
    · have h : sufB (bl a) (bl b) = false := by simpa using h
      refine Ok.ret ⟨?_, rfl⟩
      simp only [cutSuf, h, Bool.false_eq_true, if_false]
      rfl
    · have h : sufB (bl a) (bl b) = true := by simpa using h
      have hle : (bl b).length ≤ (bl a).length := by
        simp only [sufB, Bool.and_eq_true, decide_eq_true_eq] at h
        exact h.1
      have e := toInt_sub _ _ hle ha
      simp only [bl] at hle ha e h
      refine Ok.t (decide_eq_true (by rw [e]; simp only [Int.ofNat_eq_natCast]; omega)) ?_
      refine Ok.t (by rw [e]; simp only [Bool.and_eq_true]; exact ⟨Nat.ble_eq_true_of_le (by simp), Nat.ble_eq_true_of_le (by simp)⟩) ?_
      refine Ok.ret ⟨?_, rfl⟩
      rw [e]
      simp only [cutSuf, bl, h, if_true, Int.ofNat_eq_natCast, Int.toNat_natCast, Nat.sub_zero]
  · rintro v s1 ⟨rfl, rfl⟩
    exact Ok.t rfl (Ok.ret ⟨rfl, rfl⟩)
def preB (a b : List UInt8) : Bool := decide (b.length ≤ a.length) && decide (a.take b.length = b)
theorem hasPrefix_ok (s : St) (a b : ByteArray) : Ok (fun f => callF En (runP En f) 141 [.string a, .string b]) s (fun v s' => v = .bool (preB (bl a) (bl b)) ∧ s' = s) := by
  refine Ok.step (fun f => f141_eq f a b) ?_
  refine Ok.c (fun h => ?_) (fun h => ?_)
  · have h := of_decide_eq_true h
    simp only [Int.ofNat_eq_natCast] at h
    refine Ok.t (by simp only [Bool.and_eq_true]; exact ⟨Nat.ble_eq_true_of_le (by simp), Nat.ble_eq_true_of_le (by omega)⟩) ?_
    refine Ok.ret ⟨?_, rfl⟩
    rw [beqB_eq]
    simp only [preB, bl, decide_eq_true (show b.data.toList.length ≤ a.data.toList.length by omega), Bool.true_and, Nat.sub_zero]
  · have h := of_decide_eq_false h
    simp only [Int.ofNat_eq_natCast] at h
    refine Ok.ret ⟨?_, rfl⟩
    simp only [preB, bl, decide_eq_false (show ¬ b.data.toList.length ≤ a.data.toList.length by omega), Bool.false_and]
def cutPre (a b : List UInt8) : List UInt8 := if preB a b then a.drop b.length else a
theorem cutPrefix_ok (s : St) (a b : ByteArray) : Ok (fun f => callF En (runP En f) 136 [.string a, .string b]) s
    (fun v s' => v = .tuple ⟨[.string (mkStr (cutPre (bl a) (bl b))), .bool (preB (bl a) (bl b))]⟩ ∧ s' = s) := by
  refine Ok.step (fun f => f136_eq f a b) ?_
  refine Ok.call (Q1 := fun v s' => v = .tuple ⟨[.string (mkStr (cutPre (bl a) (bl b))), .bool (preB (bl a) (bl b))]⟩ ∧ s' = s) ?_ ?_
  · refine Ok.step (fun f => f184_eq f a b) ?_
    refine Ok.call (hasPrefix_ok s a b) ?_
    rintro v s1 ⟨rfl, rfl⟩
    refine Ok.t rfl ?_
    simp only [boolOf]
    refine Ok.c (fun h => ?_) (fun h => ?_)
    · have h : preB (bl a) (bl b) = false := by simpa using h
      refine Ok.ret ⟨?_, rfl⟩
      simp only [cutPre, h, Bool.false_eq_true, if_false]
      rfl
    · have h : preB (bl a) (bl b) = true := by simpa using h
      have hle : (bl b).length ≤ (bl a).length := by
        simp only [preB, Bool.and_eq_true, decide_eq_true_eq] at h
        exact h.1
      simp only [bl] at hle h
      refine Ok.t (by simp only [Bool.and_eq_true]; exact ⟨Nat.ble_eq_true_of_le hle, Nat.ble_eq_true_of_le (by omega)⟩) ?_
      refine Ok.ret ⟨?_, rfl⟩
      simp only [cutPre, bl, h, if_true]
      rw [List.take_of_length_le (by rw [List.length_drop]; omega)]
  · rintro v s1 ⟨rfl, rfl⟩
    exact Ok.t rfl (Ok.ret ⟨rfl, rfl⟩)
end Go.Proofs.YtmjbmbmnnephjaaGreatDoor
/- The library's strings.Trim over two bytes or more. -/
namespace Go.Proofs.YtmjbmbmnnephjaaGreatDoor
open Go Go.Ev Go.Proofs
/-- A set of bytes, as cells. -/
def setL (P : Nat → Bool) : List Value := (List.range 256).map fun c => Value.bool (P c)
theorem setL_length (P : Nat → Bool) : (setL P).length = 256 := by simp [setL]
theorem setL_get (P : Nat → Bool) (c : Nat) (h : c < 256) : (setL P)[c]? = some (.bool (P c)) := by simp [setL, h]
theorem setL_set (P : Nat → Bool) (k : Nat) (h : k < 256) : (setL P).set k (.bool true) = setL fun c => decide (c = k) || P c := by
  apply List.ext_getElem?
  intro i
  rw [List.getElem?_set, setL_length]
  by_cases hi : i < 256
  · rw [setL_get _ _ hi]
    by_cases e : k = i
    · subst e; rw [if_pos rfl, if_pos hi, setL_get _ _ hi]; simp
    · rw [if_neg e, setL_get _ _ hi, decide_eq_false (fun x => e x.symm), Bool.false_or]
  · rw [List.getElem?_eq_none (l := setL fun c => decide (c = k) || P c) (by rw [setL_length]; omega)]
    by_cases e : k = i
    · subst e; simp [hi]
    · rw [if_neg e, List.getElem?_eq_none (by rw [setL_length]; omega)]
theorem setL_one (P : Nat → Bool) : (setL P).all oneC = true := by simp [setL, oneC]
def memB (l : List UInt8) (c : Nat) : Bool := l.any fun b => decide (b.toNat = c)
theorem drop_cons (l : List UInt8) (i : Nat) (h : i < l.length) : l.drop i = l.getD i 0 :: l.drop (i + 1) := by
  rw [List.drop_eq_getElem_cons h]
  simp [List.getD, h]
theorem ascii_loop (x : ByteArray) (hx : (bl x).length ≤ 100) (ha : ∀ i, byteAt x i < 128) (b : Nat) : ∀ (m i : Nat) (P : Nat → Bool) (s : St), i + m = (bl x).length → Row s.mem b (setL P) → b < s.ctr →
    Ok (fun f => p113_2 f x b 0 (i : Int)) s (fun v s' => v = .tuple ⟨[.agg ⟨setL fun c => P c || memB ((bl x).drop i) c⟩, .bool true]⟩ ∧ s'.ctr = s.ctr ∧ ∀ k, (k < b ∨ b + 257 ≤ k) → s'.mem.get k = s.mem.get k) := by
  intro m
  induction m with
  | zero =>
    intro i P s hm hr hb
    have e : (fun c => P c || memB ((bl x).drop i) c) = P := by
      funext c
      rw [List.drop_eq_nil_of_le (by omega)]
      simp [memB]
    rw [e]
    refine Ok.step (fun f => p113_2_eq f x b 0 (i : Int)) ?_
    refine Ok.f (decide_eq_false (by simp only [bl] at hm; simp only [Int.ofNat_eq_natCast]; omega)) ?_
    refine Ok.callP (Ok.loadA (n := 256) (vs := setL P) (by kernel_rfl) (by kernel_rfl) (setL_length _) ?_ hr.2) ?_
    · obtain ⟨el, ex, z, sy, hf⟩ := hr.1
      exact ⟨_, hf⟩
    rintro v s1 ⟨rfl, e1, e2, _⟩
    have hr1 : Row s1.mem b (setL P) := by rw [e1]; exact hr
    refine Ok.callP (Ok.storeRow (n := 256) (vs := setL P) (ws := setL P) (by kernel_rfl) hr1 (setL_length _) (setL_length _) (setL_one _)) ?_
    rintro v s2 ⟨rfl, f1, f2, f3⟩
    refine Ok.call (Ok.loadA (n := 256) (vs := setL P) (by kernel_rfl) (by kernel_rfl) (setL_length _) ?_ f2.2) ?_
    · obtain ⟨el, ex, z, sy, hf⟩ := f2.1
      exact ⟨_, hf⟩
    rintro v s3 ⟨rfl, g1, g2, _⟩
    refine Ok.ret ⟨rfl, by omega, fun k hk => ?_⟩
    rw [g1, f3 k (by omega), e1]
  | succ m IH =>
    intro i P s hm hr hb
    have hi : i < (bl x).length := by omega
    have hw : IntKind.i64.wrap ((i : Int) + 1) = ((i + 1 : Nat) : Int) := by rw [wrap_in _ (by omega) (by omega)]; omega
    have e : (fun c => P c || memB ((bl x).drop i) c) = fun c => (decide (c = byteAt x i) || P c) || memB ((bl x).drop (i + 1)) c := by
      funext c
      rw [drop_cons _ _ hi]
      have : (((bl x).getD i 0).toNat = c) = (c = byteAt x i) := by
        simp only [byteAt, bl]
        exact propext ⟨Eq.symm, Eq.symm⟩
      simp only [memB, List.any_cons, this]
      cases P c <;> cases decide (c = byteAt x i) <;> rfl
    rw [e]
    have hlt := ha i
    simp only [bl] at hi hm
    refine Ok.step (fun f => p113_2_eq f x b 0 (i : Int)) ?_
    refine Ok.t (decide_eq_true (by simp only [Int.ofNat_eq_natCast]; omega)) ?_
    refine Ok.t (decide_eq_true (by omega)) ?_
    refine Ok.t (Nat.ble_eq_true_of_le (by omega)) ?_
    refine Ok.f (decide_eq_false (by simp only [Int.toNat_natCast, Int.ofNat_eq_natCast]; omega)) ?_
    refine Ok.t (by rw [Bool.and_true]; exact Nat.ble_eq_true_of_le (by simp only [Int.toNat_natCast]; omega)) ?_
    simp only [Int.toNat_natCast, Nat.zero_add, Nat.mul_one, hw]
    refine Ok.callP (Ok.storeCell (o := byteAt x i) (vs := setL P) (by kernel_rfl) rfl hr (by rw [setL_length]; omega) rfl) ?_
    rintro v s1 ⟨rfl, e1, e2, e3⟩
    rw [setL_set _ _ (by omega)] at e2
    refine Ok.mono (IH (i + 1) _ s1 (by simp only [bl]; omega) e2 (by omega)) ?_
    rintro v s' ⟨rfl, f1, f2⟩
    exact ⟨rfl, by omega, fun k hk => by rw [f2 k hk, e3 k (by omega)]⟩
theorem f113_eq' (f : Nat) (x0 : ByteArray) : callF En (runP En (f + 1)) 113 [(Value.string x0)] =
  (callP (fun v11 =>
    (cnd
      (p113_2 f x0 (blkOf v11) (offOf v11) (0 : Int))
      Prog.fail
      (isPt v11)))
    (Prog.newH (Hdr.mk 256 116 Bool.false Bool.true Bool.true 0 Bool.false Bool.false []) (setL fun _ => false) (fun z => (Prog.ret (itP z))))) := by kernel_rfl
theorem asciiSet_ok (s : St) (x : ByteArray) (hx : (bl x).length ≤ 100) (ha : ∀ i, byteAt x i < 128) :
    Ok (fun f => callF En (runP En f) 113 [.string x]) s (fun v s' => v = .tuple ⟨[.agg ⟨setL (memB (bl x))⟩, .bool true]⟩ ∧ s.ctr ≤ s'.ctr ∧ ∀ k, k < s.ctr → s'.mem.get k = s.mem.get k) := by
  refine Ok.step (fun f => f113_eq' f x) ?_
  refine Ok.callP (Ok.new (setL_length _)) ?_
  rintro v s1 ⟨rfl, e1, e2, e3⟩
  refine Ok.t rfl ?_
  refine Ok.mono (ascii_loop x hx ha s.ctr (bl x).length 0 (fun _ => false) s1 (by omega) e2 (by omega)) ?_
  rintro v s' ⟨rfl, f1, f2⟩
  refine ⟨?_, by omega, fun k hk => by rw [f2 k (by omega), e3 k hk]⟩
  simp only [List.drop_zero, Bool.false_or]
theorem contains_ok (s : St) (b : Nat) (P : Nat → Bool) (c : Nat) (hr : Row s.mem b (setL P)) (hc : c < 256) :
    Ok (fun f => callF En (runP En f) 171 [.pointer (some ⟨b, 0, none⟩), .int .u8 (Int.ofNat c)]) s (fun v s' => v = .bool (P c) ∧ Reads s s') := by
  refine Ok.step (fun f => f171_eq f b (Int.ofNat c)) ?_
  refine Ok.t (decide_eq_true (by simp only [Int.ofNat_eq_natCast]; omega)) ?_
  refine Ok.t (by rw [Bool.and_true]; exact Nat.ble_eq_true_of_le (by simp only [Int.ofNat_eq_natCast, Int.toNat_natCast]; omega)) ?_
  simp only [Int.ofNat_eq_natCast, Int.toNat_natCast, Nat.zero_add, Nat.mul_one]
  refine Ok.callP (Ok.load1 (v := .bool (P c)) (by kernel_rfl) (hr.cell c (setL_get _ _ hc))) ?_
  rintro v s1 ⟨rfl, e1, e2, e3⟩
  exact Ok.t rfl (Ok.ret ⟨rfl, e1, e2, [⟨false, b + 1 + c, 1⟩, ⟨false, b, 1⟩], e3, rfl⟩)
def trimR (P : Nat → Bool) (l : List UInt8) : List UInt8 := (l.reverse.dropWhile fun b => P b.toNat).reverse
def trimL (P : Nat → Bool) (l : List UInt8) : List UInt8 := l.dropWhile fun b => P b.toNat
theorem sub1 (n : Nat) (h : 0 < n) (h2 : n ≤ 4611686018427387904) : IntKind.i64.wrap (Int.subNatNat n 1) = Int.ofNat (n - 1) := by
  have e : Int.subNatNat n 1 = Int.ofNat (n - 1) := by
    rw [Int.subNatNat_eq_coe]; simp only [Int.ofNat_eq_natCast]; omega
  rw [e, wrap_in _ (by simp only [Int.ofNat_eq_natCast]; omega) (by simp only [Int.ofNat_eq_natCast]; omega)]
theorem trimR_ok (b : Nat) (P : Nat → Bool) : ∀ (m : Nat) (x : ByteArray) (s : St), (bl x).length = m → (bl x).length ≤ 4611686018427387904 → Row s.mem b (setL P) →
    Ok (fun f => p114_1 f x b) s (fun v s' => v = .string (mkStr (trimR P (bl x))) ∧ Reads s s') := by
  intro m
  induction m with
  | zero =>
    intro x s hm hl hr
    refine Ok.step (fun f => p114_1_eq f x b) ?_
    refine Ok.f (decide_eq_false (by simp only [bl] at hm; simp only [Int.ofNat_eq_natCast]; omega)) ?_
    refine Ok.step (fun f => p114_4_eq f x) (Ok.ret ⟨?_, Reads.refl s⟩)
    have : bl x = [] := List.length_eq_zero_iff.1 hm
    rw [this]
    exact congrArg Value.string ((mk_bl x).symm.trans (by rw [this]; rfl))
  | succ m IH =>
    intro x s hm hl hr
    have e := sub1 (bl x).length (by omega) hl
    have hne : bl x ≠ [] := fun h => by rw [h] at hm; simp at hm
    have hx : bl x = (bl x).take ((bl x).length - 1) ++ [(bl x).getD ((bl x).length - 1) 0] := by
      have h1 := (List.dropLast_concat_getLast hne).symm
      rw [List.dropLast_eq_take, List.getLast_eq_getElem] at h1
      have h2 : (bl x).getD ((bl x).length - 1) 0 = (bl x)[(bl x).length - 1] := by
        rw [List.getD_eq_getElem?_getD, List.getElem?_eq_getElem (by omega)]; rfl
      rw [h2]; exact h1
    simp only [bl] at hm hl e
    refine Ok.step (fun f => p114_1_eq f x b) ?_
    refine Ok.t (decide_eq_true (by simp only [Int.ofNat_eq_natCast]; omega)) ?_
    rw [e]
    simp only [Int.ofNat_eq_natCast, Int.toNat_natCast]
    refine Ok.t (decide_eq_true (by omega)) ?_
    refine Ok.t (Nat.ble_eq_true_of_le (by omega)) ?_
    refine Ok.call (contains_ok s b P _ hr (byteAt_lt _ _)) ?_
    rintro v s1 ⟨rfl, r1⟩
    refine Ok.t rfl ?_
    simp only [boolOf]
    have hr1 : Row s1.mem b (setL P) := by rw [r1.1]; exact hr
    have hby : byteAt x (x.data.toList.length - 1) = ((bl x).getD ((bl x).length - 1) 0).toNat := rfl
    refine Ok.c (fun h => ?_) (fun h => ?_)
    · have h : P (byteAt x (x.data.toList.length - 1)) = false := by simpa using h
      refine Ok.step (fun f => p114_4_eq f x) (Ok.ret ⟨?_, r1⟩)
      have : trimR P (bl x) = bl x := by
        unfold trimR
        rw [hx, List.reverse_append, List.reverse_singleton, List.singleton_append, List.dropWhile_cons]
        rw [hby] at h
        rw [h]
        simp
      rw [this]
      rfl
    · have h : P (byteAt x (x.data.toList.length - 1)) = true := by simpa using h
      refine Ok.t (decide_eq_true (by omega)) ?_
      refine Ok.t (by simp only [Bool.and_eq_true]; exact ⟨Nat.ble_eq_true_of_le (by omega), Nat.ble_eq_true_of_le (by omega)⟩) ?_
      rw [Nat.sub_zero]
      refine Ok.mono (IH (mkStr (List.take (x.data.toList.length - 1) x.data.toList)) s1 (by simp only [bl_mk, List.length_take]; omega) (by simp only [bl_mk, List.length_take]; omega) hr1) ?_
      rintro v s' ⟨rfl, r2⟩
      refine ⟨?_, r1.trans r2⟩
      have : trimR P (bl x) = trimR P ((bl x).take ((bl x).length - 1)) := by
        unfold trimR
        conv => lhs; rw [hx, List.reverse_append, List.reverse_singleton, List.singleton_append, List.dropWhile_cons]
        rw [hby] at h
        rw [h]
        simp
      rw [this]
      rfl
theorem trimL_ok (b : Nat) (P : Nat → Bool) : ∀ (m : Nat) (x : ByteArray) (s : St), (bl x).length = m → Row s.mem b (setL P) →
    Ok (fun f => p176_1 f x b) s (fun v s' => v = .string (mkStr (trimL P (bl x))) ∧ Reads s s') := by
  intro m
  induction m with
  | zero =>
    intro x s hm hr
    refine Ok.step (fun f => p176_1_eq f x b) ?_
    refine Ok.f (decide_eq_false (by simp only [bl] at hm; simp only [Int.ofNat_eq_natCast]; omega)) ?_
    refine Ok.step (fun f => p176_4_eq f x) (Ok.ret ⟨?_, Reads.refl s⟩)
    have : bl x = [] := List.length_eq_zero_iff.1 hm
    rw [this]
    exact congrArg Value.string ((mk_bl x).symm.trans (by rw [this]; rfl))
  | succ m IH =>
    intro x s hm hr
    have hx : bl x = (bl x).getD 0 0 :: (bl x).drop 1 := drop_cons (bl x) 0 (by omega)
    simp only [bl] at hm
    refine Ok.step (fun f => p176_1_eq f x b) ?_
    refine Ok.t (decide_eq_true (by simp only [Int.ofNat_eq_natCast]; omega)) ?_
    refine Ok.t (Nat.ble_eq_true_of_le (by omega)) ?_
    refine Ok.call (contains_ok s b P _ hr (byteAt_lt _ _)) ?_
    rintro v s1 ⟨rfl, r1⟩
    refine Ok.t rfl ?_
    simp only [boolOf]
    have hr1 : Row s1.mem b (setL P) := by rw [r1.1]; exact hr
    have hby : byteAt x 0 = ((bl x).getD 0 0).toNat := rfl
    refine Ok.c (fun h => ?_) (fun h => ?_)
    · have h : P (byteAt x 0) = false := by simpa using h
      refine Ok.step (fun f => p176_4_eq f x) (Ok.ret ⟨?_, r1⟩)
      have : trimL P (bl x) = bl x := by
        unfold trimL
        rw [hx, List.dropWhile_cons]
        rw [hby] at h
        rw [h]
        simp
      rw [this]
      rfl
    · have h : P (byteAt x 0) = true := by simpa using h
      refine Ok.t (by simp only [Bool.and_eq_true]; exact ⟨Nat.ble_eq_true_of_le (by omega), Nat.ble_eq_true_of_le (by omega)⟩) ?_
      rw [List.take_of_length_le (by rw [List.length_drop]; omega)]
      refine Ok.mono (IH (mkStr (List.drop 1 x.data.toList)) s1 (by simp only [bl_mk, List.length_drop]; omega) hr1) ?_
      rintro v s' ⟨rfl, r2⟩
      refine ⟨?_, r1.trans r2⟩
      have : trimL P (bl x) = trimL P ((bl x).drop 1) := by
        unfold trimL
        conv => lhs; rw [hx, List.dropWhile_cons]
        rw [hby] at h
        rw [h]
        simp
      rw [this]
      rfl
end Go.Proofs.YtmjbmbmnnephjaaGreatDoor
