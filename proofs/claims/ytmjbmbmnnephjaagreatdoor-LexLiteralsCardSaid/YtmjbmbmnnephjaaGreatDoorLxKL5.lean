/- A judgement on what a Prog that hangs on fuel comes to, and its rules. -/
import Derived.Test.YtmjbmbmnnephjaaGreatDoorEvS26
import Derived.Test.YtmjbmbmnnephjaaGreatDoorLxKL2
import Derived.Test.YtmjbmbmnnephjaaGreatDoorLxKL3
import Derived.IntWalk
import Derived.Test.YtmjbmbmnnephjaaGreatDoorLxKL4
import Derived.Lib.ItoaMem
import Derived.Lib.ParseIntBCases
import Derived.Lib.ItoaLen
namespace Go.Ev
open Go
/-- From some fuel on the Prog comes to one value and one state, of which Q holds. -/
def Ok (p : Nat → Prog) (s : St) (Q : Value → St → Prop) : Prop := ∃ v s', Q v s' ∧ ∃ f0, ∀ f, f0 ≤ f → (p f).run s = some (v, s')
section
variable {s : St} {Q Q1 : Value → St → Prop} {p q : Nat → Prog} {b : Bool} {v : Value}
theorem Ok.ret (h : Q v s) : Ok (fun _ => .ret v) s Q := ⟨v, s, h, 0, fun _ _ => rfl⟩
theorem Ok.t (hb : b = true) (h : Ok p s Q) : Ok (fun f => cnd (p f) (q f) b) s Q := by subst hb; exact h
theorem Ok.f (hb : b = false) (h : Ok q s Q) : Ok (fun f => cnd (p f) (q f) b) s Q := by subst hb; exact h
theorem Ok.c (ht : b = true → Ok p s Q) (hf : b = false → Ok q s Q) : Ok (fun f => cnd (p f) (q f) b) s Q := by
  cases b with
  | true => exact ht rfl
  | false => exact hf rfl
theorem Ok.g (hb : b = true) (h : Ok p s Q) : Ok (fun f => gd b (p f)) s Q := by subst hb; exact h
theorem Ok.mono (h : Ok p s Q1) (hq : ∀ v s', Q1 v s' → Q v s') : Ok p s Q := by
  obtain ⟨v, s', h1, h2⟩ := h
  exact ⟨v, s', hq v s' h1, h2⟩
theorem Ok.step {P T : Nat → Prog} (e : ∀ f, P (f + 1) = T f) (h : Ok T s Q) : Ok P s Q := by
  obtain ⟨v, s', h1, f0, h2⟩ := h
  refine ⟨v, s', h1, f0 + 1, fun f hf => ?_⟩
  cases f with
  | zero => omega
  | succ f => rw [e]; exact h2 f (by omega)
theorem Ok.callE {p : Prog} {k : Value → Prog} {s1 : St} {r : Option (Value × St)} (h : p.run s = some (v, s1)) (e : (k v).run s1 = r) : (Prog.call p k).run s = r := by
  simp only [Prog.run, h]; exact e
theorem Ok.call {k : Nat → Value → Prog} (h : Ok p s Q1) (hk : ∀ v s1, Q1 v s1 → Ok (fun f => k f v) s1 Q) : Ok (fun f => .call (p f) (k f)) s Q := by
  obtain ⟨v, s1, h1, f1, h2⟩ := h
  obtain ⟨w, s2, h3, f2, h4⟩ := hk v s1 h1
  refine ⟨w, s2, h3, f1 + f2, fun f hf => ?_⟩
  exact Ok.callE (h2 f (by omega)) (h4 f (by omega))
theorem Ok.callP {k : Nat → Value → Prog} (h : Ok p s Q1) (hk : ∀ v s1, Q1 v s1 → Ok (fun f => k f v) s1 Q) : Ok (fun f => Ev.callP (k f) (p f)) s Q := by
  obtain ⟨v, s', h1, f0, h2⟩ := Ok.call h hk
  exact ⟨v, s', h1, f0, fun f hf => (callP_eq (k f) s (p f)).trans (h2 f hf)⟩
/-- An operation within, and what it touched: its log starts anew. -/
theorem Ok.seg {k : Nat → Value → List Acc → Nat → Prog} {Q1 : Value → St → Prop} (h : Ok p ⟨s.mem, s.ctr, []⟩ Q1)
    (hk : ∀ v s1, Q1 v s1 → Ok (fun f => k f v s1.log s1.ctr) ⟨s1.mem, s1.ctr, s1.log ++ s.log⟩ Q) : Ok (fun f => .seg (p f) (k f)) s Q := by
  obtain ⟨v, s1, h1, f1, h2⟩ := h
  obtain ⟨w, s2, h3, f2, h4⟩ := hk v s1 h1
  refine ⟨w, s2, h3, f1 + f2, fun f hf => ?_⟩
  obtain ⟨m, c, l⟩ := s
  obtain ⟨m1, c1, l1⟩ := s1
  have e1 := h2 f (by omega)
  have e2 := h4 f (by omega)
  simp only [Prog.run]
  simp only at e1 e2
  rw [e1]
  exact e2
theorem Ok.gdL {mask : Nat} {ws all : List Acc} {done : List Done} (hf : freeL mask ws all done = true) (h : Ok p s Q) : Ok (fun f => Ev.gdL mask ws all done (p f)) s Q := by
  cases done with
  | nil => exact h
  | cons d ds => exact Ok.g hf h
theorem Ok.opt {α : Type} {x : Option α} {a : α} {k : Nat → α → Prog} (hx : x = some a) (h : Ok (fun f => k f a) s Q) : Ok (fun f => Ev.opt x (k f)) s Q := by subst hx; exact h
end
end Go.Ev
/- Rules on memory: loads from rows. -/
namespace Go.Ev
open Go
/-- A cell of a row that is here. -/
def Cell (m : Tr Slot) (b o : Nat) (v : Value) : Prop := (∃ h, m.get b = some (.hdr h)) ∧ m.get (b + 1 + o) = some (.cell b v)
def scal (E : Env) (t : TypeId) : Bool := match E.und t with
  | some d => !isAggD d
  | none => false
/-- Nothing has been written. -/
def Reads (s s' : St) : Prop := s'.mem = s.mem ∧ s'.ctr = s.ctr ∧ ∃ l, s'.log = l ++ s.log ∧ writesOf l = []
theorem Reads.refl (s : St) : Reads s s := ⟨rfl, rfl, [], rfl, rfl⟩
theorem writesOf_append : ∀ (a b : List Acc), writesOf (a ++ b) = writesOf a ++ writesOf b
  | [], _ => rfl
  | x :: a, b => by
    simp only [List.cons_append, writesOf, writesOf_append a b]
    split <;> rfl
theorem Reads.trans {s s1 s2 : St} (h : Reads s s1) (g : Reads s1 s2) : Reads s s2 := by
  obtain ⟨e1, e2, l, e3, e4⟩ := h
  obtain ⟨g1, g2, k, g3, g4⟩ := g
  exact ⟨g1.trans e1, g2.trans e2, k ++ l, by rw [g3, e3, List.append_assoc], by rw [writesOf_append, e4, g4]; rfl⟩
theorem rd1 {s : St} {b o : Nat} {v : Value} (h : Cell s.mem b o v) : s.rd b 1 o = some ([v], ⟨s.mem, s.ctr, ⟨false, b + 1 + o, 1⟩ :: ⟨false, b, 1⟩ :: s.log⟩) := by
  obtain ⟨m, c, l⟩ := s
  obtain ⟨⟨hd, h1⟩, h2⟩ := h
  simp only at h1 h2
  simp only [St.rd, h1, rdCells, Nat.add_eq, h2, Nat.beq_refl]
theorem Ok.load1 {E : Env} {t b o : Nat} {v : Value} {s : St} (hs : scal E t = true) (h : Cell s.mem b o v) : Ok (fun _ => loadT E t b o) s (fun w s' => w = v ∧ s'.mem = s.mem ∧ s'.ctr = s.ctr ∧ s'.log = ⟨false, b + 1 + o, 1⟩ :: ⟨false, b, 1⟩ :: s.log) := by
  refine ⟨v, ⟨s.mem, s.ctr, ⟨false, b + 1 + o, 1⟩ :: ⟨false, b, 1⟩ :: s.log⟩, ⟨rfl, rfl, rfl, rfl⟩, 0, fun _ _ => ?_⟩
  unfold scal at hs
  unfold loadT
  cases hu : E.und t with
  | none => rw [hu] at hs; cases hs
  | some d =>
    rw [hu] at hs
    have hd : isAggD d = false := by simpa using hs
    simp only [hd, Prog.run, rd1 h]
/-- In a drawn region: a load of one cell, behind operations that have written nothing. -/
theorem Ok.segLoad {E : Env} {t b o : Nat} {v : Value} {s : St} {Q : Value → St → Prop} {k : Nat → Value → List Acc → Nat → Prog} (hs : scal E t = true) (h : Cell s.mem b o v)
    (hk : ∀ s1, Reads s s1 → Ok (fun f => k f v [⟨false, b + 1 + o, 1⟩, ⟨false, b, 1⟩] s.ctr) s1 Q) : Ok (fun f => .seg (loadT E t b o) (k f)) s Q := by
  refine Ok.seg (Ok.load1 (s := ⟨s.mem, s.ctr, []⟩) hs h) ?_
  rintro w s1 ⟨rfl, e1, e2, e3⟩
  simp only at e1 e2 e3
  rw [e3, e1, e2]
  exact hk _ ⟨rfl, rfl, [⟨false, b + 1 + o, 1⟩, ⟨false, b, 1⟩], rfl, rfl⟩
theorem Cell.reads {s s1 : St} {b o : Nat} {v : Value} (h : Cell s.mem b o v) (r : Reads s s1) : Cell s1.mem b o v := by rw [r.1]; exact h
end Go.Ev
/- Rules on memory: stores of one cell. -/
namespace Go.Ev
open Go
/-- A row that may be written: its header; not read only, not moved, nothing frozen, no olds. -/
def Free (m : Tr Slot) (b n : Nat) : Prop := ∃ el ex z sy, m.get b = some (.hdr ⟨n, el, false, ex, z, 0, sy, false, []⟩)
theorem wr1 {s : St} {b o n : Nat} {v : Value} (h : Free s.mem b n) (ho : o < n) (hv : oneC v = true) :
    s.wr b o [v] = some ⟨s.mem.set (b + 1 + o) (some (.cell b v)), s.ctr, ⟨true, b + 1 + o, 1⟩ :: ⟨false, b, 1⟩ :: s.log⟩ := by
  obtain ⟨m, c, l⟩ := s
  obtain ⟨el, ex, z, sy, h⟩ := h
  simp only at h
  have hb : Nat.ble (o + 1) n = true := Nat.ble_eq_true_of_le ho
  have h0 : Nat.ble 0 o = true := Nat.ble_eq_true_of_le (Nat.zero_le o)
  simp [St.wr, h, hv, layCells, hb, h0]
theorem Ok.store1 {E : Env} {t b o n : Nat} {v : Value} {s : St} (hs : E.size t = some 1) (hc : cellsL v = [v]) (h : Free s.mem b n) (ho : o < n) (hv : oneC v = true) :
    Ok (fun _ => storeT E t b o v) s (fun w s' => w = U ∧ s' = ⟨s.mem.set (b + 1 + o) (some (.cell b v)), s.ctr, ⟨true, b + 1 + o, 1⟩ :: ⟨false, b, 1⟩ :: s.log⟩) := by
  refine ⟨U, _, ⟨rfl, rfl⟩, 0, fun _ _ => ?_⟩
  simp only [storeT, hs, Ev.opt, hc, gd, List.length_cons, List.length_nil, Nat.zero_add, Nat.beq_refl, Prog.run, wr1 h ho hv]
end Go.Ev
/- Rows: what lies in them, rows that grow, new rows, aggregates. -/
namespace Go.Ev
open Go
def CellsAt (m : Tr Slot) (b : Nat) : Nat → List Value → Prop
  | _, [] => True
  | k, v :: vs => m.get k = some (.cell b v) ∧ CellsAt m b (k + 1) vs
theorem CellsAt.congr {m m' : Tr Slot} {b : Nat} : ∀ {vs : List Value} {k : Nat}, CellsAt m b k vs → (∀ j, k ≤ j → j < k + vs.length → m'.get j = m.get j) → CellsAt m' b k vs
  | [], _, _, _ => trivial
  | v :: vs, k, h, e => by
    refine ⟨?_, CellsAt.congr h.2 fun j h1 h2 => e j (by omega) (by simp only [List.length_cons]; omega)⟩
    rw [e k (Nat.le_refl k) (by simp only [List.length_cons]; omega)]
    exact h.1
theorem CellsAt.rd {m : Tr Slot} {b : Nat} : ∀ {vs : List Value} {o : Nat}, CellsAt m b (b + 1 + o) vs → rdCells m b vs.length o = some vs
  | [], _, _ => rfl
  | v :: vs, o, h => by
    have h2 : CellsAt m b (b + 1 + (o + 1)) vs := h.2
    simp only [List.length_cons, rdCells, Nat.add_eq, h.1, Nat.beq_refl, CellsAt.rd h2]
theorem CellsAt.append {m : Tr Slot} {b : Nat} : ∀ {xs ys : List Value} {k : Nat}, CellsAt m b k xs → CellsAt m b (k + xs.length) ys → CellsAt m b k (xs ++ ys)
  | [], ys, k, _, h => by simpa using h
  | a :: xs, ys, k, h, g => by
    refine ⟨h.1, CellsAt.append h.2 ?_⟩
    rw [show k + 1 + xs.length = k + (a :: xs).length by simp only [List.length_cons]; omega]
    exact g
theorem lay_below (b : Nat) : ∀ (vs : List Value) (k : Nat) (m : Tr Slot) (j : Nat), (j < k ∨ k + vs.length ≤ j) → (layCells b vs k m).get j = m.get j
  | [], _, _, _, _ => rfl
  | v :: vs, k, m, j, h => by
    simp only [List.length_cons] at h
    simp only [layCells, Nat.add_eq]
    rw [lay_below b vs (k + 1) _ j (by omega), Tr.get_set, if_neg (by omega)]
theorem CellsAt.lay {b : Nat} : ∀ (vs : List Value) (k : Nat) (m : Tr Slot), CellsAt (layCells b vs k m) b k vs
  | [], _, _ => trivial
  | v :: vs, k, m => by
    simp only [layCells, Nat.add_eq]
    refine ⟨?_, CellsAt.lay vs (k + 1) _⟩
    rw [lay_below b vs (k + 1) _ k (by omega), Tr.get_set, if_pos rfl]
theorem CellsAt.get {m : Tr Slot} {b : Nat} : ∀ {vs : List Value} {k : Nat} (i : Nat) (v : Value), CellsAt m b k vs → vs[i]? = some v → m.get (k + i) = some (.cell b v)
  | [], _, _, _, _, e => by simp at e
  | x :: vs, k, 0, v, h, e => by
    simp only [List.getElem?_cons_zero, Option.some.injEq] at e
    subst e
    exact h.1
  | x :: vs, k, i + 1, v, h, e => by
    simp only [List.getElem?_cons_succ] at e
    have := CellsAt.get i v h.2 e
    rw [show k + (i + 1) = k + 1 + i by omega]
    exact this
theorem CellsAt.cell {m : Tr Slot} {b n : Nat} {vs : List Value} (i : Nat) {v : Value} (f : Free m b n) (h : CellsAt m b (b + 1) vs) (e : vs[i]? = some v) : Cell m b i v := by
  obtain ⟨el, ex, z, sy, hf⟩ := f
  exact ⟨⟨_, hf⟩, CellsAt.get i v h e⟩
theorem CellsAt.set {m : Tr Slot} {b : Nat} : ∀ {vs : List Value} {k : Nat} (i : Nat) (v : Value), CellsAt m b k vs → CellsAt (m.set (k + i) (some (.cell b v))) b k (vs.set i v)
  | [], _, _, _, _ => trivial
  | x :: vs, k, 0, v, h => by
    simp only [List.set_cons_zero]
    refine ⟨by rw [Nat.add_zero, Tr.get_set, if_pos rfl], CellsAt.congr h.2 fun j h1 h2 => by rw [Tr.get_set, if_neg (by omega)]⟩
  | x :: vs, k, i + 1, v, h => by
    simp only [List.set_cons_succ]
    refine ⟨by rw [Tr.get_set, if_neg (by omega)]; exact h.1, ?_⟩
    rw [show k + (i + 1) = k + 1 + i by omega]
    exact CellsAt.set i v h.2
theorem Free.congr {m m' : Tr Slot} {b n : Nat} (h : Free m b n) (e : m'.get b = m.get b) : Free m' b n := by
  obtain ⟨el, ex, z, sy, hf⟩ := h
  exact ⟨el, ex, z, sy, e.trans hf⟩

/-! A row that has no list behind it: its header and its cells. -/
def Row (m : Tr Slot) (b : Nat) (vs : List Value) : Prop := Free m b vs.length ∧ CellsAt m b (b + 1) vs
theorem Row.congr {m m' : Tr Slot} {b : Nat} {vs : List Value} (h : Row m b vs) (e : ∀ j, b ≤ j → j < b + 1 + vs.length → m'.get j = m.get j) : Row m' b vs :=
  ⟨h.1.congr (e b (Nat.le_refl b) (by omega)), h.2.congr fun j h1 h2 => e j (by omega) h2⟩
theorem Row.cell {m : Tr Slot} {b : Nat} {vs : List Value} (i : Nat) {v : Value} (h : Row m b vs) (e : vs[i]? = some v) : Cell m b i v := CellsAt.cell i h.1 h.2 e
theorem Row.set {m : Tr Slot} {b : Nat} {vs : List Value} (i : Nat) (v : Value) (h : Row m b vs) : Row (m.set (b + 1 + i) (some (.cell b v))) b (vs.set i v) := by
  refine ⟨?_, CellsAt.set i v h.2⟩
  rw [List.length_set]
  exact h.1.congr (by rw [Tr.get_set, if_neg (by omega)])

/-! New rows. -/
theorem Ok.new {n el : Nat} {ex z sy : Bool} {vs : List Value} {g : Nat → Value} {s : St} (hn : vs.length = n) :
    Ok (fun _ => Prog.newH (Hdr.mk n el false ex z 0 sy false []) vs (fun k => Prog.ret (g k))) s
      (fun v s' => v = g s.ctr ∧ s'.ctr = s.ctr + n + 1 ∧ Row s'.mem s.ctr vs ∧ ∀ k, k < s.ctr → s'.mem.get k = s.mem.get k) := by
  obtain ⟨m, c, l⟩ := s
  subst hn
  have e : Nat.ble vs.length vs.length = true := Nat.ble_eq_true_of_le (Nat.le_refl _)
  refine ⟨g c, ⟨layCells c vs (c + 1) (m.set c (some (.hdr (Hdr.mk vs.length el false ex z 0 sy false [])))), c + vs.length + 1, ⟨true, c, vs.length + 1⟩ :: l⟩, ⟨rfl, rfl, ⟨⟨el, ex, z, sy, ?_⟩, CellsAt.lay _ _ _⟩, fun k hk => ?_⟩, 0, fun _ _ => ?_⟩
  · simp only
    rw [lay_below _ _ _ _ _ (by omega), Tr.get_set, if_pos rfl]
  · simp only at hk ⊢
    rw [lay_below _ _ _ _ _ (by omega), Tr.get_set, if_neg (by omega)]
  · simp only [Prog.run, e, St.newH, Nat.add_eq]

/-! Aggregates. -/
def aggr (E : Env) (t : TypeId) : Bool := match E.und t with
  | some d => isAggD d
  | none => false
theorem Ok.loadA {E : Env} {t b o n : Nat} {vs : List Value} {s : St} (ha : aggr E t = true) (hs : E.size t = some n) (hn : vs.length = n) (hh : ∃ h, s.mem.get b = some (.hdr h)) (h : CellsAt s.mem b (b + 1 + o) vs) :
    Ok (fun _ => loadT E t b o) s (fun w s' => w = .agg ⟨vs⟩ ∧ s'.mem = s.mem ∧ s'.ctr = s.ctr ∧ s'.log = ⟨false, b + 1 + o, n⟩ :: ⟨false, b, 1⟩ :: s.log) := by
  obtain ⟨m, c, l⟩ := s
  obtain ⟨hd, h1⟩ := hh
  simp only at h1 h
  subst hn
  refine ⟨_, ⟨m, c, ⟨false, b + 1 + o, vs.length⟩ :: ⟨false, b, 1⟩ :: l⟩, ⟨rfl, rfl, rfl, rfl⟩, 0, fun _ _ => ?_⟩
  unfold aggr at ha
  unfold loadT
  cases hu : E.und t with
  | none => rw [hu] at ha; cases ha
  | some d =>
    rw [hu] at ha
    simp only [ha, hs, Ev.opt, Prog.run, St.rd, h1, h.rd, Nat.add_eq]
theorem Ok.segLoadA {E : Env} {t b o n : Nat} {vs : List Value} {s : St} {Q : Value → St → Prop} {k : Nat → Value → List Acc → Nat → Prog} (ha : aggr E t = true) (hs : E.size t = some n) (hn : vs.length = n) (hh : ∃ h, s.mem.get b = some (.hdr h)) (h : CellsAt s.mem b (b + 1 + o) vs)
    (hk : ∀ s1, Reads s s1 → Ok (fun f => k f (.agg ⟨vs⟩) [⟨false, b + 1 + o, n⟩, ⟨false, b, 1⟩] s.ctr) s1 Q) : Ok (fun f => .seg (loadT E t b o) (k f)) s Q := by
  refine Ok.seg (Ok.loadA (s := ⟨s.mem, s.ctr, []⟩) ha hs hn hh h) ?_
  rintro w s1 ⟨rfl, e1, e2, e3⟩
  simp only at e1 e2 e3
  rw [e3, e1, e2]
  exact hk _ ⟨rfl, rfl, [⟨false, b + 1 + o, n⟩, ⟨false, b, 1⟩], rfl, rfl⟩
/-- A store of a whole row. -/
theorem Ok.storeRow {E : Env} {t b n : Nat} {vs ws : List Value} {s : St} (hs : E.size t = some n) (h : Row s.mem b vs) (hn : vs.length = n) (hw : ws.length = n) (hv : ws.all oneC = true) :
    Ok (fun _ => storeT E t b 0 (.agg ⟨ws⟩)) s (fun w s' => w = U ∧ s'.ctr = s.ctr ∧ Row s'.mem b ws ∧ ∀ k, (k ≤ b ∨ b + 1 + n ≤ k) → s'.mem.get k = s.mem.get k) := by
  obtain ⟨m, c, l⟩ := s
  obtain ⟨⟨el, ex, z, sy, hf⟩, hc⟩ := h
  simp only at hf hc
  have hb : Nat.ble (0 + ws.length) vs.length = true := Nat.ble_eq_true_of_le (by omega)
  have h0 : Nat.ble 0 0 = true := rfl
  have ec : cellsL (.agg ⟨ws⟩) = ws := rfl
  refine ⟨U, ⟨layCells b ws (b + 1 + 0) m, c, ⟨true, b + 1 + 0, ws.length⟩ :: ⟨false, b, 1⟩ :: l⟩, ⟨rfl, rfl, ⟨⟨el, ex, z, sy, ?_⟩, CellsAt.lay _ _ _⟩, fun k hk => ?_⟩, 0, fun _ _ => ?_⟩
  · simp only
    rw [lay_below _ _ _ _ _ (by omega), hf, hw, hn]
  · simp only
    rw [lay_below _ _ _ _ _ (by omega)]
  · simp only [storeT, hs, Ev.opt, ec, gd, hw, Nat.beq_refl, Prog.run, St.wr, hf, Bool.false_or, h0, hv, Bool.not_true, Nat.add_eq]
    rw [← hn, hn] at *
    simp only [hw] at hb
    simp only [hb, Bool.not_true]
/-- A store of one cell of a row. -/
theorem Ok.storeCell {E : Env} {t b o : Nat} {v : Value} {vs : List Value} {s : St} (hs : E.size t = some 1) (hc : cellsL v = [v]) (h : Row s.mem b vs) (ho : o < vs.length) (hv : oneC v = true) :
    Ok (fun _ => storeT E t b o v) s (fun w s' => w = U ∧ s'.ctr = s.ctr ∧ Row s'.mem b (vs.set o v) ∧ ∀ k, k ≠ b + 1 + o → s'.mem.get k = s.mem.get k) := by
  refine Ok.mono (Ok.store1 hs hc h.1 ho hv) ?_
  rintro w s' ⟨rfl, rfl⟩
  refine ⟨rfl, rfl, h.set o v, fun k hk => ?_⟩
  simp only
  rw [Tr.get_set, if_neg hk]

/-! Rows that grow. -/
def Grow (m : Tr Slot) (lo hi el sz : Nat) (cs : List Value) (v : Value) : Prop :=
  cs.all oneC = true ∧ ((v = .slice none 0 0 ∧ cs = []) ∨
  ∃ r n sy olds, v = .slice (some ⟨r, 0, none⟩) n (capOf n false) ∧ cs.length = n * sz ∧ lo ≤ r ∧ r + 1 + cs.length ≤ hi ∧ (∀ k, k ∈ olds → lo ≤ k ∧ k < r) ∧
    m.get r = some (.hdr ⟨cs.length, el, false, false, true, 0, sy, false, olds⟩) ∧ CellsAt m r (r + 1) cs)
theorem Grow.nil (m : Tr Slot) (lo hi el sz : Nat) : Grow m lo hi el sz [] (.slice none 0 0) := ⟨rfl, .inl ⟨rfl, rfl⟩⟩
theorem Grow.congr {m m' : Tr Slot} {lo hi hi' el sz : Nat} {cs : List Value} {v : Value} (h : Grow m lo hi el sz cs v) (hh : hi ≤ hi') (e : ∀ j, lo ≤ j → j < hi → m'.get j = m.get j) : Grow m' lo hi' el sz cs v := by
  obtain ⟨h1, h2⟩ := h
  refine ⟨h1, ?_⟩
  rcases h2 with h2 | ⟨r, n, sy, olds, a1, a2, a3, a4, a5, a6, a7⟩
  · exact .inl h2
  · refine .inr ⟨r, n, sy, olds, a1, a2, a3, by omega, a5, ?_, a7.congr fun j b1 b2 => e j (by omega) (by omega)⟩
    rw [e r a3 (by omega)]
    exact a6
theorem Grow.one {m : Tr Slot} {lo hi el sz : Nat} {cs : List Value} {v : Value} (h : Grow m lo hi el sz cs v) : oneC v = true ∧ cellsL v = [v] := by
  rcases h.2 with ⟨rfl, _⟩ | ⟨r, n, sy, olds, rfl, _⟩
  · exact ⟨rfl, rfl⟩
  · exact ⟨rfl, rfl⟩
theorem Grow.len {m : Tr Slot} {lo hi el sz : Nat} {cs : List Value} {v : Value} (h : Grow m lo hi el sz cs v) (n : Nat) (hz : 0 < sz) (hn : cs.length = n * sz) : ∃ a c, v = .slice a n c := by
  rcases h.2 with ⟨rfl, rfl⟩ | ⟨r, n', sy, olds, rfl, h2, _⟩
  · refine ⟨none, 0, ?_⟩
    have : n = 0 := by
      cases n with
      | zero => rfl
      | succ n =>
        rw [Nat.succ_mul, List.length_nil] at hn
        omega
    rw [this]
  · have : n' = n := Nat.eq_of_mul_eq_mul_right hz (h2.symm.trans hn)
    exact ⟨_, _, by rw [this]⟩
/-- What 'append' has to know of a slice's type. -/
def AppT (E : Env) (t el sz by_ : Nat) : Prop := E.und t = some (.slice el) ∧ E.size el = some sz ∧ E.bytes el = some by_ ∧ (E.zero el).isSome = true ∧ 0 < sz
theorem all_append {α : Type} (f : α → Bool) (a b : List α) (h : a.all f = true) (g : b.all f = true) : (a ++ b).all f = true := by
  rw [List.all_append, h, g]; rfl
theorem Ok.app {E : Env} {t el sz by_ lo : Nat} {cs : List Value} {v e : Value} {s : St} (ht : AppT E t el sz by_) (h : Grow s.mem lo s.ctr el sz cs v) (he : (cellsL e).length = sz) (he1 : (cellsL e).all oneC = true) (hlo : lo ≤ s.ctr)
    (hn : (cs.length + 1) * (by_ + 1) ≤ 1099511627776) :
    Ok (fun _ => builtinA E Builtin.append (t :: (t :: [])) (v :: (xlstV (e :: []) :: []))) s
      (fun w s' => Grow s'.mem lo s'.ctr el sz (cs ++ cellsL e) w ∧ s.ctr ≤ s'.ctr ∧ ∀ k, k < lo → s'.mem.get k = s.mem.get k) := by
  obtain ⟨m, c, l⟩ := s
  obtain ⟨hu, hs, hb, hz, hz0⟩ := ht
  obtain ⟨zv, hz⟩ := Option.isSome_iff_exists.1 hz
  obtain ⟨hone, hg⟩ := h
  have hel : elemOfSlice E t = some el := by unfold elemOfSlice; rw [hu]
  have hlen : lenA (xlstV [e]) = some 1 := rfl
  have hx : isL (xlstV [e]) = true := rfl
  have hxe : elems (xlstV [e]) = [e] := rfl
  have hok : hdOk sz [e] = true := by simp only [hdOk, he, Nat.beq_refl]
  have hfl : flatC ([e].take 1) = cellsL e := by simp [flatC]
  have hf1 : ∀ k, firstA sz 1 (xlstV [e]) k = gd (hdOk sz [e]) (k (flatC ([e].take 1))) := fun _ => rfl
  rcases hg with ⟨rfl, rfl⟩ | ⟨r, n, sy, olds, rfl, a2, a3, a4, a5, a6, a7⟩
  · have hd : decide ((0 + 1) * (by_ + 1) ≤ 1099511627776) = true := decide_eq_true (by simpa using hn)
    have hbl : Nat.ble (cellsL e).length (cellsL e).length = true := Nat.ble_eq_true_of_le (Nat.le_refl _)
    refine ⟨.slice (some ⟨c, 0, none⟩) 1 (capOf 1 false), ⟨layCells c (cellsL e) (c + 1) (m.set c (some (.hdr ⟨(cellsL e).length, el, false, false, true, 0, false, false, []⟩))), c + (cellsL e).length + 1, ⟨true, c, (cellsL e).length + 1⟩ :: l⟩, ⟨⟨?_, .inr ⟨c, 1, false, [], rfl, ?_, hlo, ?_, fun k hk => ?_, ?_, ?_⟩⟩, ?_, fun k hk => ?_⟩, 0, fun _ _ => ?_⟩
    · simpa using he1
    · simp [he]
    · simp; omega
    · cases hk
    · simp only [List.nil_append]
      rw [lay_below _ _ _ _ _ (by omega), Tr.get_set, if_pos rfl]
    · exact CellsAt.lay _ _ _
    · simp; omega
    · simp only at hlo ⊢
      rw [lay_below _ _ _ _ _ (by omega), Tr.get_set, if_neg (by omega)]
    · simp only [builtinA, appendA, appendB, hel, hu, hs, hb, Ev.opt, isIntD, appN, hlen, hz, gd, hd, appC, hf1, hok, hfl, Nat.zero_add, Prog.run, Prog.new, hbl, St.newH, Nat.add_eq]
  · simp only at a4 a6 a7 hlo
    have hcl : capLo (capOf n false) = n := by show (2 * n + 0) / 2 = n; omega
    have hce : capEx (capOf n false) = false := by
      simp only [capEx, capOf, Nat.add_eq, Nat.mul_eq, Nat.add_zero]
      have : Nat.mod (2 * n) 2 = 0 := by show (2 * n) % 2 = 0; omega
      rw [this]; rfl
    have hnn : n ≤ cs.length := by rw [a2]; exact Nat.le_mul_of_pos_right n hz0
    have hd : decide ((n + 1) * (by_ + 1) ≤ 1099511627776) = true := decide_eq_true (Nat.le_trans (Nat.mul_le_mul_right _ (by omega)) hn)
    have hble : Nat.ble (n + 1) n = false := by
      cases hq : Nat.ble (n + 1) n with
      | false => rfl
      | true => have := Nat.le_of_ble_eq_true hq; omega
    have hg2 : decide (True ∧ 0 + n * sz = cs.length ∧ True ∧ True ∧ True ∧ 0 ≤ n * sz + 1 * sz) = true := decide_eq_true ⟨trivial, by omega, trivial, trivial, trivial, Nat.zero_le _⟩
    have hrd : rdCells m r (n * sz) 0 = some cs := by rw [← a2]; exact CellsAt.rd a7
    have hlenc : (cs ++ cellsL e).length = n * sz + 1 * sz := by rw [List.length_append, a2, he, Nat.one_mul]
    have hbl : Nat.ble (cs ++ cellsL e).length (n * sz + 1 * sz) = true := Nat.ble_eq_true_of_le (by omega)
    refine ⟨.slice (some ⟨c, 0, none⟩) (n + 1) (capOf (n + 1) false), ⟨layCells c (cs ++ cellsL e) (c + 1) ((m.set r (some (.hdr ⟨cs.length, el, false, false, true, 0, sy, true, []⟩))).set c (some (.hdr ⟨n * sz + 1 * sz, el, false, false, true, 0, sy, false, r :: olds⟩))), c + (n * sz + 1 * sz) + 1, ⟨true, c, n * sz + 1 * sz + 1⟩ :: ⟨true, r, 1⟩ :: ⟨false, r + 1 + 0, n * sz⟩ :: ⟨false, r, 1⟩ :: ⟨false, r, 1⟩ :: l⟩, ⟨⟨?_, .inr ⟨c, n + 1, sy, r :: olds, rfl, ?_, hlo, ?_, fun k hk => ?_, ?_, ?_⟩⟩, ?_, fun k hk => ?_⟩, 0, fun _ _ => ?_⟩
    · exact all_append _ _ _ hone he1
    · rw [hlenc, Nat.add_mul]
    · simp only; omega
    · rcases List.mem_cons.1 hk with rfl | hk
      · exact ⟨a3, by omega⟩
      · have := a5 k hk; omega
    · simp only
      rw [lay_below _ _ _ _ _ (by omega), Tr.get_set, if_pos rfl, hlenc]
    · exact CellsAt.lay _ _ _
    · simp only; omega
    · simp only at hlo ⊢
      rw [lay_below _ _ _ _ _ (by omega), Tr.get_set, if_neg (by omega), Tr.get_set, if_neg (by omega)]
    · simp only [builtinA, appendA, appendB, hel, hu, hs, hb, Ev.opt, isIntD, appN, hlen, hz, gd, hd, hcl, hce, hble, appC, hf1, hok, hfl, Prog.run, St.hd, St.setHd, St.rd, a6, hg2, hrd, he1, hbl, St.newH, Nat.add_eq, Bool.true_and, Nat.beq_refl]
end Go.Ev
/- What small functions come to. -/
namespace Go.Proofs.YtmjbmbmnnephjaaGreatDoor
open Go Go.Ev Go.Proofs
def isLetter (c : Int) : Bool := decide (97 ≤ c) && decide (c ≤ 122) || decide (65 ≤ c) && decide (c ≤ 90)
def isDigit (c : Int) : Bool := decide (48 ≤ c) && decide (c ≤ 57)
def isInside (c : Int) : Bool := isLetter c || (isDigit c || decide (c = 95))
theorem letter_ok (s : St) (c : Int) : Ok (fun f => callF En (runP En f) 44 [.int .u8 c]) s (fun v s' => v = .bool (isLetter c) ∧ s' = s) := by
  refine Ok.step (fun f => f44_eq f c) ?_
  unfold isLetter
  repeat' (first | refine Ok.c (fun h => ?_) (fun h => ?_) | exact Ok.ret ⟨by simp_all <;> omega, rfl⟩)
theorem digit_ok (s : St) (c : Int) : Ok (fun f => callF En (runP En f) 60 [.int .u8 c]) s (fun v s' => v = .bool (isDigit c) ∧ s' = s) := by
  refine Ok.step (fun f => f60_eq f c) ?_
  unfold isDigit
  repeat' (first | refine Ok.c (fun h => ?_) (fun h => ?_) | exact Ok.ret ⟨by simp_all <;> omega, rfl⟩)
theorem inside_ok (s : St) (c : Int) : Ok (fun f => callF En (runP En f) 43 [.int .u8 c]) s (fun v s' => v = .bool (isInside c) ∧ s' = s) := by
  refine Ok.step (fun f => f43_eq f c) ?_
  refine Ok.call (letter_ok s c) ?_
  rintro v s1 ⟨rfl, rfl⟩
  refine Ok.t rfl ?_
  refine Ok.c (fun h => ?_) (fun h => ?_)
  · exact Ok.ret ⟨by simp_all [isInside, boolOf], rfl⟩
  · refine Ok.call (digit_ok _ c) ?_
    rintro v s1 ⟨rfl, rfl⟩
    refine Ok.t rfl ?_
    refine Ok.c (fun h1 => ?_) (fun h1 => ?_)
    · exact Ok.ret ⟨by simp_all [isInside, boolOf], rfl⟩
    · exact Ok.ret ⟨by simp_all [isInside, boolOf], rfl⟩
end Go.Proofs.YtmjbmbmnnephjaaGreatDoor
/- The lexer's small methods: peek. -/
namespace Go.Proofs.YtmjbmbmnnephjaaGreatDoor
open Go Go.Ev Go.Proofs
theorem wrap_in (n : Int) (h1 : -9223372036854775808 ≤ n) (h2 : n ≤ 9223372036854775807) : IntKind.i64.wrap n = n := by
  exact IntWalk.i64_in n ⟨h1, h2⟩
def byteOf (s : ByteArray) (i : Int) : Int := if i < Int.ofNat s.data.toList.length then Int.ofNat (byteAt s i.toNat) else 0
theorem peek_ok (s : St) (b : Nat) (str : ByteArray) (k n : Int) (h0 : Cell s.mem b 0 (.string str)) (h1 : Cell s.mem b 1 (.int .i64 k)) (hr : 0 ≤ k + n) (hm : k + n ≤ 9223372036854775807) :
    Ok (fun f => callF En (runP En f) 59 [.pointer (some ⟨b, 0, none⟩), .int .i64 n]) s (fun v s' => v = .int .u8 (byteOf str (k + n)) ∧ Reads s s') := by
  have hw : IntKind.i64.wrap (k + n) = k + n := wrap_in _ (by omega) hm
  have t3 : scal En 3 = true := by kernel_rfl
  have t9 : scal En 9 = true := by kernel_rfl
  refine Ok.step (fun f => f59_eq f b n) ?_
  refine Ok.segLoad t3 h1 fun s1 r1 => ?_
  refine Ok.t rfl ?_
  refine Ok.segLoad t9 (h0.reads r1) fun s2 r2 => ?_
  refine Ok.gdL (by kernel_rfl) ?_
  refine Ok.t rfl ?_
  have r2 := r1.trans r2
  simp only [intOf, strOf, hw]
  refine Ok.c (fun h => ?_) (fun h => ?_)
  · have h := of_decide_eq_true h
    refine Ok.segLoad t9 (h0.reads r2) fun s3 r3 => ?_
    have r3 := r2.trans r3
    refine Ok.t rfl ?_
    refine Ok.segLoad t3 (h1.reads r3) fun s4 r4 => ?_
    have r4 := r3.trans r4
    refine Ok.gdL (by kernel_rfl) ?_
    refine Ok.t rfl ?_
    simp only [intOf, strOf, hw]
    refine Ok.t (by simpa using hr) ?_
    refine Ok.t (Nat.ble_eq_true_of_le (by simp only [Int.ofNat_eq_natCast] at h; omega)) ?_
    exact Ok.ret ⟨by simp only [byteOf, if_pos h], r4⟩
  · have h := of_decide_eq_false h
    exact Ok.ret ⟨by simp only [byteOf, if_neg h], r2⟩
end Go.Proofs.YtmjbmbmnnephjaaGreatDoor
/- Rules on memory: a copy of a string into a new row, and the string of such a row; what has been written lies above a number. -/
namespace Go.Ev
open Go
/-- All that has been written lies above a number. -/
def Above (c : Nat) (s s' : St) : Prop := ∃ l, s'.log = l ++ s.log ∧ ∀ a, a ∈ writesOf l → c ≤ a.k
theorem Above.trans {c : Nat} {s s1 s2 : St} (h : Above c s s1) (g : Above c s1 s2) : Above c s s2 := by
  obtain ⟨l, e1, e2⟩ := h
  obtain ⟨k, e3, e4⟩ := g
  refine ⟨k ++ l, by rw [e3, e1, List.append_assoc], fun a ha => ?_⟩
  rw [writesOf_append] at ha
  rcases List.mem_append.1 ha with ha | ha
  · exact e4 a ha
  · exact e2 a ha
theorem Reads.above {s s' : St} (c : Nat) (h : Reads s s') : Above c s s' := by
  obtain ⟨_, _, l, e3, e4⟩ := h
  exact ⟨l, e3, fun a ha => by rw [e4] at ha; cases ha⟩
theorem Ok.newF {n el : Nat} {ex z sy : Bool} {vs : List Value} {g : Nat → Value} {s : St} (hn : vs.length = n) :
    Ok (fun _ => Prog.newH (Hdr.mk n el false ex z 0 sy false []) vs (fun k => Prog.ret (g k))) s
      (fun v s' => v = g s.ctr ∧ s'.ctr = s.ctr + n + 1 ∧ s'.mem.get s.ctr = some (.hdr (Hdr.mk n el false ex z 0 sy false [])) ∧ CellsAt s'.mem s.ctr (s.ctr + 1) vs ∧ (∀ k, k < s.ctr → s'.mem.get k = s.mem.get k) ∧ Above s.ctr s s') := by
  obtain ⟨m, c, l⟩ := s
  subst hn
  have e : Nat.ble vs.length vs.length = true := Nat.ble_eq_true_of_le (Nat.le_refl _)
  refine ⟨g c, ⟨layCells c vs (c + 1) (m.set c (some (.hdr (Hdr.mk vs.length el false ex z 0 sy false [])))), c + vs.length + 1, ⟨true, c, vs.length + 1⟩ :: l⟩, ⟨rfl, rfl, ?_, CellsAt.lay _ _ _, fun k hk => ?_, [⟨true, c, vs.length + 1⟩], rfl, fun a ha => ?_⟩, 0, fun _ _ => ?_⟩
  · simp only
    rw [lay_below _ _ _ _ _ (by omega), Tr.get_set, if_pos rfl]
  · simp only at hk ⊢
    rw [lay_below _ _ _ _ _ (by omega), Tr.get_set, if_neg (by omega)]
  · simp only [writesOf, List.mem_singleton] at ha
    subst ha
    exact Nat.le_refl _
  · simp only [Prog.run, e, St.newH, Nat.add_eq]

theorem Cell.congr {m m' : Tr Slot} {b o : Nat} {v : Value} (h : Cell m b o v) (e1 : m'.get b = m.get b) (e2 : m'.get (b + 1 + o) = m.get (b + 1 + o)) : Cell m' b o v := by
  obtain ⟨⟨hd, h1⟩, h2⟩ := h
  exact ⟨⟨hd, e1.trans h1⟩, e2.trans h2⟩
/-- What a call that allocates, and writes to nothing old, leaves. -/
def Fresh (s s' : St) : Prop := s.ctr ≤ s'.ctr ∧ (∀ k, k < s.ctr → s'.mem.get k = s.mem.get k)
theorem Fresh.refl (s : St) : Fresh s s := ⟨Nat.le_refl _, fun _ _ => rfl⟩
theorem Fresh.trans {s s1 s2 : St} (h : Fresh s s1) (g : Fresh s1 s2) : Fresh s s2 := ⟨Nat.le_trans h.1 g.1, fun k hk => (g.2 k (Nat.lt_of_lt_of_le hk h.1)).trans (h.2 k hk)⟩
theorem Reads.fresh {s s' : St} (h : Reads s s') : Fresh s s' := ⟨Nat.le_of_eq h.2.1.symm, fun k _ => by rw [h.1]⟩
def u8s (l : List UInt8) : List Value := l.map fun b => .int .u8 b.toNat
theorem u8s_length (l : List UInt8) : (u8s l).length = l.length := by simp [u8s]
theorem u8s_ok : ∀ (l : List UInt8), allU8 (u8s l) = true
  | [] => rfl
  | b :: l => by
    have := u8s_ok l
    simp only [u8s, List.map_cons, allU8, u8V, Bool.true_and] at this ⊢
    exact this
theorem u8s_bytes : ∀ (l : List UInt8), bytesV (u8s l) = l
  | [] => rfl
  | b :: l => by
    have := u8s_bytes l
    simp only [u8s, List.map_cons, bytesV, intOf, Int.toNat_natCast] at this ⊢
    rw [this]
    simp
end Go.Ev
/- Rules on memory: rows that are frozen when they are handed over. -/
namespace Go.Ev
open Go
theorem chunk1 : ∀ (n : Nat) (vs : List Value), vs.length = n → ∀ sz, chunkC true sz n vs = vs ∨ sz ≠ 1
  | 0, vs, h, sz => by
    have : vs = [] := List.length_eq_zero_iff.1 h
    subst this
    exact .inl rfl
  | n + 1, [], h, _ => by simp at h
  | n + 1, v :: vs, h, sz => by
    by_cases hs : sz = 1
    · subst hs
      rcases chunk1 n vs (by simpa using h) 1 with e | e
      · left
        simp only [chunkC, List.headD_cons, List.drop_succ_cons, List.drop_zero, e]
      · exact absurd rfl e
    · exact .inr hs
theorem Grow.frz {m : Tr Slot} {lo hi el sz : Nat} {cs : List Value} {r n c : Nat} {l : List Acc} (h : Grow m lo hi el sz cs (.slice (some ⟨r, 0, none⟩) n c)) :
    ∃ s', St.frz ⟨m, hi, l⟩ r (n * sz) 0 = some (cs, s') ∧ s'.ctr = hi ∧ (∀ k, k < lo → s'.mem.get k = m.get k) := by
  obtain ⟨h1, h2⟩ := h
  rcases h2 with ⟨e, _⟩ | ⟨r', n', sy, olds, e, a2, a3, a4, a5, a6, a7⟩
  · cases e
  · cases e
    have hrd : rdCells m r (n * sz) 0 = some cs := by rw [← a2]; exact CellsAt.rd a7
    refine ⟨⟨(kill olds m).set r none, hi, ⟨true, r, 1⟩ :: killLog olds (⟨false, Nat.add (Nat.add r 1) 0, n * sz⟩ :: l)⟩, by simp only [St.frz, a6, Bool.false_or, hrd, h1], rfl, fun k hk => ?_⟩
    simp only
    rw [Tr.get_set, if_neg (by omega), kill_at, if_neg]
    intro hm
    have := a5 k hm
    omega
section
variable {E : Env} {s : St} {Q : Value → St → Prop}
theorem Ok.frzO {b n o : Nat} {vs : List Value} {s1 : St} {k : Nat → List Value → Prog} (h : s.frz b n o = some (vs, s1)) (hk : Ok (fun f => k f vs) s1 Q) : Ok (fun f => .frz b n o (k f)) s Q := by
  obtain ⟨v, s', h1, f0, h2⟩ := hk
  refine ⟨v, s', h1, f0, fun f hf => ?_⟩
  simp only [Prog.run, h]
  exact h2 f hf
/-- A list of plain parts. -/
theorem Ok.frzL {e lo d : Nat} {cs : List Value} {v : Value} {p : Nat → Value → Prog} (hs : E.size e = some 1) (hsl : slots E 20 e = [none]) (h1 : isOneT E e = true) (h : Grow s.mem lo s.ctr e 1 cs v)
    (hk : ∀ s', s'.ctr = s.ctr → (∀ k, k < lo → s'.mem.get k = s.mem.get k) → Ok (fun f => p f (lstV cs)) s' Q) : Ok (fun f => Ev.frzL E (d + 1) e v (p f)) s Q := by
  obtain ⟨m, c, l⟩ := s
  have h' := h
  rcases h.2 with ⟨rfl, rfl⟩ | ⟨r, n, sy, olds, rfl, a2, _⟩
  · exact hk _ rfl fun _ _ => rfl
  · by_cases hn : n = 0
    · subst hn
      have : cs = [] := List.length_eq_zero_iff.1 (by omega)
      subst this
      exact hk _ rfl fun _ _ => rfl
    · obtain ⟨s', f1, f2, f3⟩ := Grow.frz (l := l) h'
      have hb : Nat.beq n 0 = false := by cases n with
        | zero => exact absurd rfl hn
        | succ n => rfl
      have hc : chunkC true 1 n cs = cs := by
        rcases chunk1 n cs (by omega) 1 with e | e
        · exact e
        · exact absurd rfl e
      have e2 : ∀ f, Ev.frzL E (d + 1) e (.slice (some ⟨r, 0, none⟩) n (capOf n false)) (p f) = .frz r (n * 1) 0 fun vs => p f (lstV (chunkC true 1 n vs)) := by
        intro f
        unfold Ev.frzL
        simp only [hb, hs, Ev.opt, ck, hsl, anySome, h1, Nat.mul_eq]
        rfl
      simp only [e2]
      refine Ok.frzO f1 ?_
      rw [hc]
      exact hk s' f2 f3
theorem Ok.frzNil {e d : Nat} {p : Nat → Value → Prog} (hk : Ok (fun f => p f (lstV [])) s Q) : Ok (fun f => Ev.frzL E (d + 1) e (.slice none 0 0) (p f)) s Q := hk
end
end Go.Ev
/- Rules on memory: several parts are appended; a row of bytes as a string. -/
namespace Go.Ev
open Go
def ints (l : List Value) : Bool := l.all fun v => match v with
  | .int _ _ => true
  | _ => false
theorem flatC_ints : ∀ (l : List Value), ints l = true → flatC l = l
  | [], _ => rfl
  | v :: l, h => by
    simp only [ints, List.all_cons, Bool.and_eq_true] at h
    have h2 := flatC_ints l h.2
    cases v with
    | int k n => simp only [flatC, h2]; rfl
    | _ => simp at h
theorem ints_one (l : List Value) (h : ints l = true) : l.all oneC = true := by
  simp only [ints, List.all_eq_true] at h ⊢
  intro v hv
  have := h v hv
  cases v <;> simp_all [oneC]
theorem ints_hd (l : List Value) (h : ints l = true) : hdOk 1 l = true := by
  cases l with
  | nil => rfl
  | cons v l =>
    simp only [ints, List.all_cons, Bool.and_eq_true] at h
    cases v with
    | int k n => rfl
    | _ => simp at h
theorem ints_append {a b : List Value} (ha : ints a = true) (hb : ints b = true) : ints (a ++ b) = true := by
  simp only [ints, List.all_append, Bool.and_eq_true] at *
  exact ⟨ha, hb⟩
/-- A buffer of numbers: a list without room, or a row that grows. -/
def Buf (s : St) (lo el : Nat) (cs : List Value) (v : Value) : Prop := ints cs = true ∧ lo ≤ s.ctr ∧ (Grow s.mem lo s.ctr el 1 cs v ∨ v = xlstV cs)
theorem Buf.grow {s : St} {lo el : Nat} {cs : List Value} {v : Value} (h : Buf s lo el cs v) (e : ∃ a b c, v = Value.slice a b c) : Grow s.mem lo s.ctr el 1 cs v := by
  obtain ⟨a, b, c, rfl⟩ := e
  rcases h.2.2 with g | g
  · exact g
  · cases g
theorem Buf.fresh {s s' : St} {lo el : Nat} {cs : List Value} {v : Value} (h : Buf s lo el cs v) (f : Fresh s s') : Buf s' lo el cs v := by
  obtain ⟨h1, h2, h3⟩ := h
  refine ⟨h1, by have := f.1; omega, ?_⟩
  rcases h3 with h3 | h3
  · exact .inl (h3.congr f.1 fun j _ hj => f.2 j hj)
  · exact .inr h3
theorem Ok.appM {E : Env} {t el by_ lo : Nat} {cs es : List Value} {v : Value} {s : St} (ht : AppT E t el 1 by_) (h : Buf s lo el cs v) (he : ints es = true) (h0 : 0 < es.length) (hn : (cs.length + es.length) * (by_ + 1) ≤ 1099511627776) :
    Ok (fun _ => builtinA E Builtin.append (t :: (t :: [])) (v :: (xlstV es :: []))) s
      (fun w s' => Buf s' lo el (cs ++ es) w ∧ s.ctr ≤ s'.ctr ∧ (∀ k, k < lo → s'.mem.get k = s.mem.get k) ∧ ∃ a b c, w = Value.slice a b c) := by
  obtain ⟨m, c, l⟩ := s
  obtain ⟨hu, hs, hb, hz, hz0⟩ := ht
  obtain ⟨zv, hz⟩ := Option.isSome_iff_exists.1 hz
  obtain ⟨hi, hlo, hg⟩ := h
  have hel : elemOfSlice E t = some el := by unfold elemOfSlice; rw [hu]
  have hlen : lenA (xlstV es) = some es.length := rfl
  have hok : hdOk 1 es = true := ints_hd es he
  have hoke : hdOk 1 cs = true := ints_hd cs hi
  have hone := ints_one cs hi
  have hone2 := ints_one es he
  have hfl : flatC (es.take es.length) = es := by rw [List.take_length]; exact flatC_ints es he
  have hfl1 : flatC cs = cs := flatC_ints cs hi
  have hf1 : ∀ n k, firstA 1 n (xlstV es) k = gd (hdOk 1 es) (k (flatC (es.take n))) := fun _ _ => rfl
  obtain ⟨n1, hn1⟩ : ∃ n1, es.length = n1 + 1 := ⟨es.length - 1, by omega⟩
  have hbi := ints_append hi he
  rcases hg with ⟨_, ⟨rfl, rfl⟩ | ⟨r, n, sy, olds, rfl, a2, a3, a4, a5, a6, a7⟩⟩ | rfl
  · have hd : decide ((0 + (n1 + 1)) * (by_ + 1) ≤ 1099511627776) = true := decide_eq_true (by rw [← hn1]; simpa using hn)
    have hbl : Nat.ble es.length es.length = true := Nat.ble_eq_true_of_le (Nat.le_refl _)
    refine ⟨.slice (some ⟨c, 0, none⟩) (n1 + 1) (capOf (n1 + 1) false), ⟨layCells c es (c + 1) (m.set c (some (.hdr ⟨es.length, el, false, false, true, 0, false, false, []⟩))), c + es.length + 1, ⟨true, c, es.length + 1⟩ :: l⟩, ⟨⟨hbi, ?_, .inl ⟨?_, .inr ⟨c, n1 + 1, false, [], rfl, ?_, hlo, ?_, fun k hk => ?_, ?_, ?_⟩⟩⟩, ?_, fun k hk => ?_, ⟨_, _, _, rfl⟩⟩, 0, fun _ _ => ?_⟩
    · simp only at hlo ⊢; omega
    · simpa using hone2
    · simp [hn1]
    · simp; omega
    · cases hk
    · simp only [List.nil_append]
      rw [lay_below _ _ _ _ _ (by omega), Tr.get_set, if_pos rfl]
    · exact CellsAt.lay _ _ _
    · simp; omega
    · simp only at hlo ⊢
      rw [lay_below _ _ _ _ _ (by omega), Tr.get_set, if_neg (by omega)]
    · have hfl' : flatC (es.take (n1 + 1)) = es := by rw [← hn1]; exact hfl
      simp only [builtinA, appendA, appendB, hel, hu, hs, hb, Ev.opt, isIntD, appN, hlen, hn1, hz, gd, hd, appC, hf1, hok, hfl', Prog.run, Prog.new]
      rw [show Nat.ble (n1 + 1) (n1 + 1) = true from Nat.ble_eq_true_of_le (Nat.le_refl _)]
      simp only [St.newH, Nat.add_eq]
  · simp only at a4 a6 a7 hlo
    have hcl : capLo (capOf n false) = n := by show (2 * n + 0) / 2 = n; omega
    have hce : capEx (capOf n false) = false := by
      simp only [capEx, capOf, Nat.add_eq, Nat.mul_eq, Nat.add_zero]
      have : Nat.mod (2 * n) 2 = 0 := by show (2 * n) % 2 = 0; omega
      rw [this]; rfl
    have hd : decide ((n + (n1 + 1)) * (by_ + 1) ≤ 1099511627776) = true := decide_eq_true (by rw [← hn1, show n = cs.length by omega]; exact hn)
    have hble : Nat.ble (n + (n1 + 1)) n = false := by
      cases hq : Nat.ble (n + (n1 + 1)) n with
      | false => rfl
      | true => have := Nat.le_of_ble_eq_true hq; omega
    have hg2 : decide (True ∧ 0 + n * 1 = cs.length ∧ True ∧ True ∧ True ∧ 0 ≤ n * 1 + (n1 + 1) * 1) = true := decide_eq_true ⟨trivial, by omega, trivial, trivial, trivial, Nat.zero_le _⟩
    have hrd : rdCells m r (n * 1) 0 = some cs := by rw [← a2]; exact CellsAt.rd a7
    have hlenc : (cs ++ es).length = n * 1 + (n1 + 1) * 1 := by rw [List.length_append, hn1]; omega
    have hbl : Nat.ble (cs ++ es).length (n * 1 + (n1 + 1) * 1) = true := Nat.ble_eq_true_of_le (by omega)
    refine ⟨.slice (some ⟨c, 0, none⟩) (n + (n1 + 1)) (capOf (n + (n1 + 1)) false), ⟨layCells c (cs ++ es) (c + 1) ((m.set r (some (.hdr ⟨cs.length, el, false, false, true, 0, sy, true, []⟩))).set c (some (.hdr ⟨n * 1 + (n1 + 1) * 1, el, false, false, true, 0, sy, false, r :: olds⟩))), c + (n * 1 + (n1 + 1) * 1) + 1, ⟨true, c, n * 1 + (n1 + 1) * 1 + 1⟩ :: ⟨true, r, 1⟩ :: ⟨false, r + 1 + 0, n * 1⟩ :: ⟨false, r, 1⟩ :: ⟨false, r, 1⟩ :: l⟩, ⟨⟨hbi, ?_, .inl ⟨?_, .inr ⟨c, n + (n1 + 1), sy, r :: olds, rfl, ?_, hlo, ?_, fun k hk => ?_, ?_, ?_⟩⟩⟩, ?_, fun k hk => ?_, ⟨_, _, _, rfl⟩⟩, 0, fun _ _ => ?_⟩
    · simp only; omega
    · exact all_append _ _ _ hone hone2
    · rw [hlenc]; omega
    · simp only; omega
    · rcases List.mem_cons.1 hk with rfl | hk
      · exact ⟨a3, by omega⟩
      · have := a5 k hk; omega
    · simp only
      rw [lay_below _ _ _ _ _ (by omega), Tr.get_set, if_pos rfl, hlenc]
    · exact CellsAt.lay _ _ _
    · simp only; omega
    · simp only at hlo ⊢
      rw [lay_below _ _ _ _ _ (by omega), Tr.get_set, if_neg (by omega), Tr.get_set, if_neg (by omega)]
    · have hfl' : flatC (es.take (n1 + 1)) = es := by rw [← hn1]; exact hfl
      simp only [builtinA, appendA, appendB, hel, hu, hs, hb, Ev.opt, isIntD, appN, hlen, hn1, hz, gd, hd, hcl, hce, hble, appC, hf1, hok, hfl', Prog.run, St.hd, St.setHd, St.rd, a6, hg2, hrd, hone2, hbl, St.newH, Nat.add_eq, Bool.true_and, Nat.beq_refl]
  · have hx : isXl (xlstV cs) = true := rfl
    have hxe : elems (xlstV cs) = cs := rfl
    have hd : (hdOk 1 cs && decide ((cs.length + (n1 + 1)) * (by_ + 1) ≤ 1099511627776)) = true := by
      rw [hoke, Bool.true_and]; exact decide_eq_true (by rw [← hn1]; exact hn)
    have happ : appendA E (t :: (t :: [])) (xlstV cs :: (xlstV es :: [])) = appendX E t t cs (xlstV es) := rfl
    refine ⟨.slice (some ⟨c, 0, none⟩) (cs.length + (n1 + 1)) (capOf (cs.length + (n1 + 1)) false), ⟨layCells c (cs ++ es) (c + 1) (m.set c (some (.hdr ⟨(cs ++ es).length, el, false, false, true, 0, false, false, []⟩))), c + (cs ++ es).length + 1, ⟨true, c, (cs ++ es).length + 1⟩ :: l⟩, ⟨⟨hbi, ?_, .inl ⟨all_append _ _ _ hone hone2, .inr ⟨c, cs.length + (n1 + 1), false, [], rfl, ?_, hlo, ?_, fun k hk => ?_, ?_, ?_⟩⟩⟩, ?_, fun k hk => ?_, ⟨_, _, _, rfl⟩⟩, 0, fun _ _ => ?_⟩
    · simp only at hlo ⊢; omega
    · rw [List.length_append, hn1, Nat.mul_one]
    · simp only; omega
    · cases hk
    · simp only
      rw [lay_below _ _ _ _ _ (by omega), Tr.get_set, if_pos rfl]
    · exact CellsAt.lay _ _ _
    · simp only; omega
    · simp only at hlo ⊢
      rw [lay_below _ _ _ _ _ (by omega), Tr.get_set, if_neg (by omega)]
    · have hfl' : flatC (es.take (n1 + 1)) = es := by rw [← hn1]; exact hfl
      have hbl : Nat.ble (cs ++ es).length (cs ++ es).length = true := Nat.ble_eq_true_of_le (Nat.le_refl _)
      simp only [builtinA, happ, appendX, hel, hu, hs, hb, Ev.opt, isIntD, appN, hlen, hn1, hz, gd, hd, appC, hf1, hok, hfl', hfl1, Prog.run, Prog.new, hbl, St.newH, Nat.add_eq]
/-- A row of bytes as a string. -/
theorem Ok.convStr {E : Env} {src dst e : Nat} {lo el : Nat} {cs : List Value} {v : Value} {s : St} (h1 : E.und src = some (.slice e)) (h2 : E.und dst = some .string) (h3 : isU8 E e = true) (h : Grow s.mem lo s.ctr el 1 cs v) (hu : allU8 cs = true) :
    Ok (fun _ => convA E src dst v) s (fun w s' => w = .string (mkStr (bytesV cs)) ∧ Reads s s') := by
  obtain ⟨m, c, l⟩ := s
  rcases h.2 with ⟨rfl, rfl⟩ | ⟨r, n, sy, olds, rfl, a2, a3, a4, a5, a6, a7⟩
  · refine ⟨_, ⟨m, c, l⟩, ⟨rfl, Reads.refl _⟩, 0, fun _ _ => ?_⟩
    simp only [convA, h1, h2, Ev.opt, ck, h3, Prog.run, bytesV]
  · have hrd : rdCells m r n 0 = some cs := by
      have := CellsAt.rd (o := 0) a7
      rw [a2, Nat.mul_one] at this
      exact this
    refine ⟨_, ⟨m, c, ⟨false, Nat.add (Nat.add r 1) 0, n⟩ :: ⟨false, r, 1⟩ :: l⟩, ⟨rfl, rfl, rfl, [⟨false, Nat.add (Nat.add r 1) 0, n⟩, ⟨false, r, 1⟩], rfl, rfl⟩, 0, fun _ _ => ?_⟩
    simp only at a6
    simp only [convA, h1, h2, Ev.opt, ck, h3, Prog.run, St.rd, a6, hrd, hu, gd]
end Go.Ev
/- Words that many proofs share: bytes of texts, tokens and their rows, buffers of bytes. -/
namespace Go.Ev
open Go
end Go.Ev
namespace Go.Proofs.YtmjbmbmnnephjaaGreatDoor
open Go Go.Ev Go.Proofs
abbrev bl (s : ByteArray) : List UInt8 := s.data.toList
theorem beqB_eq : ∀ (a b : List UInt8), beqB a b = decide (a = b)
  | [], [] => rfl
  | [], _ :: _ => rfl
  | _ :: _, [] => rfl
  | a :: x, b :: y => by
    unfold beqB
    cases h : Nat.beq a.toNat b.toNat with
    | true =>
      have : a = b := UInt8.toNat_inj.1 (Nat.eq_of_beq_eq_true h)
      subst this
      simp [beqB_eq x y]
    | false =>
      have : a ≠ b := fun e => by subst e; simp at h
      simp [this]
theorem bl_mk (l : List UInt8) : bl (mkStr l) = l := rfl
theorem mk_bl (x : ByteArray) : mkStr (bl x) = x := rfl
theorem byteAt_lt (x : ByteArray) (i : Nat) : byteAt x i < 256 := by
  unfold byteAt
  exact UInt8.toNat_lt _
/-- A token: what its cells are. -/
structure Tok where
  kind : Int
  at_ : Int
  en : Int
  text : ByteArray
  t : Int
  n : List Value
  sy : List Value
  l : List Value
def Tok.cells (t : Tok) : List Value := [.int .i64 t.kind, .int .i64 t.at_, .int .i64 t.en, .string t.text, .int .i64 t.t, lstV t.n, lstV t.sy, lstV t.l]
def toksC : List Tok → List Value
  | [] => []
  | t :: ts => t.cells ++ toksC ts
theorem toksC_append : ∀ (a b : List Tok), toksC (a ++ b) = toksC a ++ toksC b
  | [], _ => rfl
  | t :: a, b => by simp only [List.cons_append, toksC, toksC_append a b, List.append_assoc]
theorem toksC_length : ∀ (a : List Tok), (toksC a).length = a.length * 8
  | [] => rfl
  | t :: a => by simp only [toksC, List.length_append, toksC_length a, List.length_cons, Nat.add_mul]; simp [Tok.cells]; omega
theorem appT23 : AppT En 23 34 8 120 := ⟨by kernel_rfl, by kernel_rfl, by kernel_rfl, by kernel_rfl, by omega⟩
theorem sl2 : slots En 20 2 = [none] := by kernel_rfl
theorem sl9 : slots En 20 9 = [none] := by kernel_rfl
theorem appT29 : AppT En 29 9 1 16 := ⟨by kernel_rfl, by kernel_rfl, by kernel_rfl, by kernel_rfl, by omega⟩
def tokV (t : Tok) : Value := .agg ⟨t.cells⟩
def sl34 : List (Option TypeId) := [none, none, none, none, none, some 2, some 9, some 32]
theorem slots34 : slots En 20 34 = sl34 := by kernel_rfl
theorem frzGo_toks : ∀ (ts : List Tok) (k : List Value → Prog), frzGo (frzL En 19) ((List.replicate ts.length ()).flatMap fun _ => sl34) (toksC ts) k = k (toksC ts)
  | [], _ => rfl
  | t :: ts, k => by
    have ih := frzGo_toks ts fun r => k (t.cells ++ r)
    show frzGo (frzL En 19) (sl34 ++ (List.replicate ts.length ()).flatMap fun _ => sl34) (t.cells ++ toksC ts) k = k (t.cells ++ toksC ts)
    rw [← ih]
    rfl
theorem chunk_toks : ∀ (ts : List Tok), chunkC false 8 ts.length (toksC ts) = ts.map tokV
  | [] => rfl
  | t :: ts => by
    have ih := chunk_toks ts
    show Value.agg ⟨(t.cells ++ toksC ts).take 8⟩ :: chunkC false 8 ts.length ((t.cells ++ toksC ts).drop 8) = tokV t :: ts.map tokV
    rw [← ih]
    rfl
theorem frz_toks {s : St} {lo : Nat} {ts : List Tok} {v : Value} {Q : Value → St → Prop} {p : Nat → Value → Prog} (h : Grow s.mem lo s.ctr 34 8 (toksC ts) v)
    (hk : ∀ s', s'.ctr = s.ctr → (∀ k, k < lo → s'.mem.get k = s.mem.get k) → Ok (fun f => p f (lstV (ts.map tokV))) s' Q) : Ok (fun f => frzL En 20 34 v (p f)) s Q := by
  obtain ⟨m, c, l⟩ := s
  have h' := h
  rcases h.2 with ⟨rfl, e⟩ | ⟨r, n, sy, olds, rfl, a2, _⟩
  · have : ts = [] := by
      cases ts with
      | nil => rfl
      | cons t ts => have := congrArg List.length e; rw [toksC_length] at this; simp at this
    subst this
    exact hk _ rfl fun _ _ => rfl
  · rw [toksC_length] at a2
    have hn : ts.length = n := by omega
    by_cases h0 : n = 0
    · subst h0
      have : ts = [] := List.length_eq_zero_iff.1 hn
      subst this
      exact hk _ rfl fun _ _ => rfl
    · obtain ⟨s', f1, f2, f3⟩ := Grow.frz (l := l) h'
      have hb : Nat.beq n 0 = false := by cases n with
        | zero => exact absurd rfl h0
        | succ n => rfl
      have hs : En.size 34 = some 8 := by kernel_rfl
      have h1 : isOneT En 34 = false := by kernel_rfl
      have e2 : ∀ f, frzL En (19 + 1) 34 (.slice (some ⟨r, 0, none⟩) n (capOf n false)) (p f) = .frz r (n * 8) 0 fun vs => frzGo (frzL En 19) ((List.replicate n ()).flatMap fun _ => sl34) vs fun vs => p f (lstV (chunkC false 8 n vs)) := by
        intro f
        unfold frzL
        simp only [hb, hs, Ev.opt, ck, slots34, h1, Nat.mul_eq]
        rfl
      have e3 : ∀ f, frzL En 20 34 (.slice (some ⟨r, 0, none⟩) n (capOf n false)) (p f) = .frz r (n * 8) 0 fun vs => frzGo (frzL En 19) ((List.replicate n ()).flatMap fun _ => sl34) vs fun vs => p f (lstV (chunkC false 8 n vs)) := e2
      simp only [e3]
      refine Ok.frzO f1 ?_
      subst hn
      simp only [frzGo_toks, chunk_toks]
      exact hk s' f2 f3
theorem appT65 : AppT En 65 5 1 1 := ⟨by kernel_rfl, by kernel_rfl, by kernel_rfl, by kernel_rfl, by omega⟩
theorem b65_1 (a : Int) : buildSliceA En 65 1 ((Prod.mk 0 (Value.int IntKind.u8 a)) :: []) = .ret (xlstV (Value.int IntKind.u8 a :: [])) := by kernel_rfl
theorem b65_4 (a b c d : Int) : buildSliceA En 65 4 ((Prod.mk 0 (Value.int IntKind.u8 a)) :: ((Prod.mk 1 (Value.int IntKind.u8 b)) :: ((Prod.mk 2 (Value.int IntKind.u8 c)) :: ((Prod.mk 3 (Value.int IntKind.u8 d)) :: [])))) =
  .ret (xlstV (Value.int IntKind.u8 a :: Value.int IntKind.u8 b :: Value.int IntKind.u8 c :: Value.int IntKind.u8 d :: [])) := by kernel_rfl
theorem allU8_append : ∀ (a b : List Value), allU8 a = true → allU8 b = true → allU8 (a ++ b) = true
  | [], _, _, h => h
  | v :: a, b, h, g => by
    simp only [allU8, Bool.and_eq_true, List.cons_append] at *
    exact ⟨h.1, allU8_append a b h.2 g⟩
theorem conv65 {lo : Nat} {cs : List Value} {v : Value} {s : St} (h : Grow s.mem lo s.ctr 5 1 cs v) (hu : allU8 cs = true) :
    Ok (fun _ => convA En 65 9 v) s (fun w s' => w = .string (mkStr (bytesV cs)) ∧ Reads s s') := Ok.convStr (e := 5) (by kernel_rfl) (by kernel_rfl) (by kernel_rfl) h hu
/-- One operation more in a drawn region: a list is built, and appended. -/
theorem push_seg {s : St} {lo : Nat} {cs es : List Value} {v : Value} {Q : Value → St → Prop} {k : Nat → Value → Prog} {bs : Prog} {i1 m : Nat} (hbs : bs = .ret (xlstV es)) (h : Buf s lo 5 cs v) (he : ints es = true) (h0 : 0 < es.length) (hn : cs.length + es.length ≤ 100000000) (hm : Nat.testBit m i1 = true)
    (hk : ∀ w s', Buf s' lo 5 (cs ++ es) w → (∃ a b c, w = .slice a b c) → s.ctr ≤ s'.ctr → (∀ k, k < lo → s'.mem.get k = s.mem.get k) → Ok (fun f => k f w) s' Q) :
    Ok (fun f => .seg bs fun v68 s69 _ => .seg (builtinA En Builtin.append (65 :: (65 :: [])) (v :: (v68 :: []))) fun v70 s71 _ => Ev.gdL m (writesOf s71) s71 [⟨i1, writesOf s69, s69⟩] (k f v70)) s Q := by
  subst hbs
  refine Ok.seg (Q1 := fun v s' => v = xlstV es ∧ s' = ⟨s.mem, s.ctr, []⟩) (Ok.ret ⟨rfl, rfl⟩) ?_
  rintro w s1 ⟨rfl, rfl⟩
  have h1 : Buf ⟨s.mem, s.ctr, []⟩ lo 5 cs v := h
  refine Ok.seg (Ok.appM appT65 h1 he h0 (by omega)) ?_
  rintro w s2 ⟨g1, g2, g3, g4⟩
  exact Ok.gdL (by simp [freeL, hm]) (hk w _ g1 g4 g2 g3)
theorem hexOk (c : Nat) (h : c < 256) : (Nat.ble (Nat.succ (Nat.mod c 16)) 16) = true ∧ (Nat.ble (Nat.succ (Int.toNat (IntKind.wrap IntKind.u8 (Int.ofNat (Nat.div c 16))))) 16) = true ∧ (decide ((0 : Int) ≤ (IntKind.wrap IntKind.u8 (Int.ofNat (Nat.div c 16))))) = true := by
  have hm : Nat.mod c 16 < 16 := Nat.mod_lt c (by omega)
  have hd : Nat.div c 16 < 16 := by show c / 16 < 16; omega
  have e : IntKind.wrap IntKind.u8 (Int.ofNat (Nat.div c 16)) = Int.ofNat (Nat.div c 16) := IntWalk.u8_in _ ⟨by simp only [Int.ofNat_eq_natCast]; omega, by simp only [Int.ofNat_eq_natCast]; omega⟩
  rw [e]
  exact ⟨Nat.ble_eq_true_of_le (by omega), Nat.ble_eq_true_of_le (by simp only [Int.ofNat_eq_natCast, Int.toNat_natCast]; omega), decide_eq_true (by simp only [Int.ofNat_eq_natCast]; omega)⟩
end Go.Proofs.YtmjbmbmnnephjaaGreatDoor
/- The library's small functions on strings: IndexByte, CutSuffix, CutPrefix. -/
namespace Go.Proofs.YtmjbmbmnnephjaaGreatDoor
open Go Go.Ev Go.Proofs
theorem f180_eq (f : Nat) (x0 : ByteArray) (x1 : Int) : callF En (runP En f) 180 [(Value.string x0), (Value.int IntKind.u8 x1)] =
  gd (decide (0 ≤ x1) && decide (x1 < 256)) (.ret (vInt (findByte x1.toNat x0.data.toList 0))) := by kernel_rfl
theorem indexByte_ok (s : St) (x : ByteArray) (c : Int) (h : 0 ≤ c ∧ c < 256) : Ok (fun f => callF En (runP En f) 66 [.string x, .int .u8 c]) s (fun v s' => v = .int .i64 (findByte c.toNat (bl x) 0) ∧ s' = s) := by
  refine Ok.step (fun f => f66_eq f x c) ?_
  refine Ok.call (Q1 := fun v s' => v = .int .i64 (findByte c.toNat (bl x) 0) ∧ s' = s) ?_ ?_
  · refine Ok.step (fun f => f124_eq f x c) ?_
    refine Ok.call (Q1 := fun v s' => v = .int .i64 (findByte c.toNat (bl x) 0) ∧ s' = s) ?_ ?_
    · simp only [f180_eq]
      exact Ok.g (by simp [h.1, h.2]) (Ok.ret ⟨rfl, rfl⟩)
    · rintro v s1 ⟨rfl, rfl⟩
      exact Ok.t rfl (Ok.ret ⟨rfl, rfl⟩)
  · rintro v s1 ⟨rfl, rfl⟩
    exact Ok.t rfl (Ok.ret ⟨rfl, rfl⟩)
/-- Is a text the end of another one? -/
def sufB (a b : List UInt8) : Bool := decide (b.length ≤ a.length) && decide (a.drop (a.length - b.length) = b)
theorem toInt_sub (a b : Nat) (h : b ≤ a) (ha : a ≤ 4611686018427387904) : IntKind.i64.wrap ((Int.ofNat a) + (Int.negOfNat b)) = Int.ofNat (a - b) := by
  rw [wrap_in _ (by simp only [Int.ofNat_eq_natCast, Int.negOfNat_eq]; omega) (by simp only [Int.ofNat_eq_natCast, Int.negOfNat_eq]; omega)]
  simp only [Int.ofNat_eq_natCast, Int.negOfNat_eq]; omega
theorem hasSuffix_ok (s : St) (a b : ByteArray) (ha : (bl a).length ≤ 4611686018427387904) : Ok (fun f => callF En (runP En f) 211 [.string a, .string b]) s (fun v s' => v = .bool (sufB (bl a) (bl b)) ∧ s' = s) := by
  refine Ok.step (fun f => f211_eq f a b) ?_
  refine Ok.c (fun h => ?_) (fun h => ?_)
  · have h := of_decide_eq_true h
    simp only [Int.ofNat_eq_natCast] at h
    have hle : (bl b).length ≤ (bl a).length := by simp only [bl]; omega
    have e := toInt_sub _ _ hle ha
    simp only [bl] at hle ha e
    refine Ok.t (decide_eq_true (by rw [e]; simp only [Int.ofNat_eq_natCast]; omega)) ?_
    refine Ok.t (by rw [e]; simp only [Bool.and_eq_true]; exact ⟨Nat.ble_eq_true_of_le (by simp), Nat.ble_eq_true_of_le (by omega)⟩) ?_
    refine Ok.ret ⟨?_, rfl⟩
    rw [e, Int.ofNat_eq_natCast, Int.toNat_natCast, List.take_of_length_le (by rw [List.length_drop]; omega), beqB_eq]
    simp only [sufB, bl, decide_eq_true hle, Bool.true_and]
  · have h := of_decide_eq_false h
    simp only [Int.ofNat_eq_natCast] at h
    refine Ok.ret ⟨?_, rfl⟩
    simp only [sufB, bl, decide_eq_false (show ¬ b.data.toList.length ≤ a.data.toList.length by omega), Bool.false_and]
/-- What is left of a text without such an end. -/
def cutSuf (a b : List UInt8) : List UInt8 := if sufB a b then a.take (a.length - b.length) else a
def mk (l : List UInt8) : ByteArray := mkStr l
theorem cutSuffix_ok (s : St) (a b : ByteArray) (ha : (bl a).length ≤ 4611686018427387904) : Ok (fun f => callF En (runP En f) 117 [.string a, .string b]) s
    (fun v s' => v = .tuple ⟨[.string (mkStr (cutSuf (bl a) (bl b))), .bool (sufB (bl a) (bl b))]⟩ ∧ s' = s) := by
  refine Ok.step (fun f => f117_eq f a b) ?_
  refine Ok.call (Q1 := fun v s' => v = .tuple ⟨[.string (mkStr (cutSuf (bl a) (bl b))), .bool (sufB (bl a) (bl b))]⟩ ∧ s' = s) ?_ ?_
  · refine Ok.step (fun f => f174_eq f a b) ?_
    refine Ok.call (hasSuffix_ok s a b ha) ?_
    rintro v s1 ⟨rfl, rfl⟩
    refine Ok.t rfl ?_
    simp only [boolOf]
    refine Ok.c (fun h => ?_) (fun h => ?_)
    · have h : sufB (bl a) (bl b) = false := by simpa using h
      refine Ok.ret ⟨?_, rfl⟩
      simp only [cutSuf, h, Bool.false_eq_true, if_false]
      rfl
    · have h : sufB (bl a) (bl b) = true := by simpa using h
      have hle : (bl b).length ≤ (bl a).length := by
        simp only [sufB, Bool.and_eq_true, decide_eq_true_eq] at h
        exact h.1
      have e := toInt_sub _ _ hle ha
      simp only [bl] at hle ha e h
      refine Ok.t (decide_eq_true (by rw [e]; simp only [Int.ofNat_eq_natCast]; omega)) ?_
      refine Ok.t (by rw [e]; simp only [Bool.and_eq_true]; exact ⟨Nat.ble_eq_true_of_le (by simp), Nat.ble_eq_true_of_le (by simp)⟩) ?_
      refine Ok.ret ⟨?_, rfl⟩
      rw [e]
      simp only [cutSuf, bl, h, if_true, Int.ofNat_eq_natCast, Int.toNat_natCast, Nat.sub_zero]
  · rintro v s1 ⟨rfl, rfl⟩
    exact Ok.t rfl (Ok.ret ⟨rfl, rfl⟩)
def preB (a b : List UInt8) : Bool := decide (b.length ≤ a.length) && decide (a.take b.length = b)
theorem hasPrefix_ok (s : St) (a b : ByteArray) : Ok (fun f => callF En (runP En f) 141 [.string a, .string b]) s (fun v s' => v = .bool (preB (bl a) (bl b)) ∧ s' = s) := by
  refine Ok.step (fun f => f141_eq f a b) ?_
  refine Ok.c (fun h => ?_) (fun h => ?_)
  · have h := of_decide_eq_true h
    simp only [Int.ofNat_eq_natCast] at h
    refine Ok.t (by simp only [Bool.and_eq_true]; exact ⟨Nat.ble_eq_true_of_le (by simp), Nat.ble_eq_true_of_le (by omega)⟩) ?_
    refine Ok.ret ⟨?_, rfl⟩
    rw [beqB_eq]
    simp only [preB, bl, decide_eq_true (show b.data.toList.length ≤ a.data.toList.length by omega), Bool.true_and, Nat.sub_zero]
  · have h := of_decide_eq_false h
    simp only [Int.ofNat_eq_natCast] at h
    refine Ok.ret ⟨?_, rfl⟩
    simp only [preB, bl, decide_eq_false (show ¬ b.data.toList.length ≤ a.data.toList.length by omega), Bool.false_and]
def cutPre (a b : List UInt8) : List UInt8 := if preB a b then a.drop b.length else a
theorem cutPrefix_ok (s : St) (a b : ByteArray) : Ok (fun f => callF En (runP En f) 136 [.string a, .string b]) s
    (fun v s' => v = .tuple ⟨[.string (mkStr (cutPre (bl a) (bl b))), .bool (preB (bl a) (bl b))]⟩ ∧ s' = s) := by
  refine Ok.step (fun f => f136_eq f a b) ?_
  refine Ok.call (Q1 := fun v s' => v = .tuple ⟨[.string (mkStr (cutPre (bl a) (bl b))), .bool (preB (bl a) (bl b))]⟩ ∧ s' = s) ?_ ?_
  · refine Ok.step (fun f => f184_eq f a b) ?_
    refine Ok.call (hasPrefix_ok s a b) ?_
    rintro v s1 ⟨rfl, rfl⟩
    refine Ok.t rfl ?_
    simp only [boolOf]
    refine Ok.c (fun h => ?_) (fun h => ?_)
    · have h : preB (bl a) (bl b) = false := by simpa using h
      refine Ok.ret ⟨?_, rfl⟩
      simp only [cutPre, h, Bool.false_eq_true, if_false]
      rfl
    · have h : preB (bl a) (bl b) = true := by simpa using h
      have hle : (bl b).length ≤ (bl a).length := by
        simp only [preB, Bool.and_eq_true, decide_eq_true_eq] at h
        exact h.1
      simp only [bl] at hle h
      refine Ok.t (by simp only [Bool.and_eq_true]; exact ⟨Nat.ble_eq_true_of_le hle, Nat.ble_eq_true_of_le (by omega)⟩) ?_
      refine Ok.ret ⟨?_, rfl⟩
      simp only [cutPre, bl, h, if_true]
      rw [List.take_of_length_le (by rw [List.length_drop]; omega)]
  · rintro v s1 ⟨rfl, rfl⟩
    exact Ok.t rfl (Ok.ret ⟨rfl, rfl⟩)
end Go.Proofs.YtmjbmbmnnephjaaGreatDoor
/- The library's strings.Trim over two bytes or more. -/
namespace Go.Proofs.YtmjbmbmnnephjaaGreatDoor
open Go Go.Ev Go.Proofs
/-- A set of bytes, as cells. -/
def setL (P : Nat → Bool) : List Value := (List.range 256).map fun c => Value.bool (P c)
theorem setL_length (P : Nat → Bool) : (setL P).length = 256 := by simp [setL]
theorem setL_get (P : Nat → Bool) (c : Nat) (h : c < 256) : (setL P)[c]? = some (.bool (P c)) := by simp [setL, h]
theorem setL_set (P : Nat → Bool) (k : Nat) (h : k < 256) : (setL P).set k (.bool true) = setL fun c => decide (c = k) || P c := by
  apply List.ext_getElem?
  intro i
  rw [List.getElem?_set, setL_length]
  by_cases hi : i < 256
  · rw [setL_get _ _ hi]
    by_cases e : k = i
    · subst e; rw [if_pos rfl, if_pos hi, setL_get _ _ hi]; simp
    · rw [if_neg e, setL_get _ _ hi, decide_eq_false (fun x => e x.symm), Bool.false_or]
  · rw [List.getElem?_eq_none (l := setL fun c => decide (c = k) || P c) (by rw [setL_length]; omega)]
    by_cases e : k = i
    · subst e; simp [hi]
    · rw [if_neg e, List.getElem?_eq_none (by rw [setL_length]; omega)]
theorem setL_one (P : Nat → Bool) : (setL P).all oneC = true := by simp [setL, oneC]
def memB (l : List UInt8) (c : Nat) : Bool := l.any fun b => decide (b.toNat = c)
theorem drop_cons (l : List UInt8) (i : Nat) (h : i < l.length) : l.drop i = l.getD i 0 :: l.drop (i + 1) := by
  rw [List.drop_eq_getElem_cons h]
  simp [List.getD, h]
theorem ascii_loop (x : ByteArray) (hx : (bl x).length ≤ 100) (ha : ∀ i, byteAt x i < 128) (b : Nat) : ∀ (m i : Nat) (P : Nat → Bool) (s : St), i + m = (bl x).length → Row s.mem b (setL P) → b < s.ctr →
    Ok (fun f => p113_2 f x b 0 (i : Int)) s (fun v s' => v = .tuple ⟨[.agg ⟨setL fun c => P c || memB ((bl x).drop i) c⟩, .bool true]⟩ ∧ s'.ctr = s.ctr ∧ ∀ k, (k < b ∨ b + 257 ≤ k) → s'.mem.get k = s.mem.get k) := by
  intro m
  induction m with
  | zero =>
    intro i P s hm hr hb
    have e : (fun c => P c || memB ((bl x).drop i) c) = P := by
      funext c
      rw [List.drop_eq_nil_of_le (by omega)]
      simp [memB]
    rw [e]
    refine Ok.step (fun f => p113_2_eq f x b 0 (i : Int)) ?_
    refine Ok.f (decide_eq_false (by simp only [bl] at hm; simp only [Int.ofNat_eq_natCast]; omega)) ?_
    refine Ok.callP (Ok.loadA (n := 256) (vs := setL P) (by kernel_rfl) (by kernel_rfl) (setL_length _) ?_ hr.2) ?_
    · obtain ⟨el, ex, z, sy, hf⟩ := hr.1
      exact ⟨_, hf⟩
    rintro v s1 ⟨rfl, e1, e2, _⟩
    have hr1 : Row s1.mem b (setL P) := by rw [e1]; exact hr
    refine Ok.callP (Ok.storeRow (n := 256) (vs := setL P) (ws := setL P) (by kernel_rfl) hr1 (setL_length _) (setL_length _) (setL_one _)) ?_
    rintro v s2 ⟨rfl, f1, f2, f3⟩
    refine Ok.call (Ok.loadA (n := 256) (vs := setL P) (by kernel_rfl) (by kernel_rfl) (setL_length _) ?_ f2.2) ?_
    · obtain ⟨el, ex, z, sy, hf⟩ := f2.1
      exact ⟨_, hf⟩
    rintro v s3 ⟨rfl, g1, g2, _⟩
    refine Ok.ret ⟨rfl, by omega, fun k hk => ?_⟩
    rw [g1, f3 k (by omega), e1]
  | succ m IH =>
    intro i P s hm hr hb
    have hi : i < (bl x).length := by omega
    have hw : IntKind.i64.wrap ((i : Int) + 1) = ((i + 1 : Nat) : Int) := by rw [wrap_in _ (by omega) (by omega)]; omega
    have e : (fun c => P c || memB ((bl x).drop i) c) = fun c => (decide (c = byteAt x i) || P c) || memB ((bl x).drop (i + 1)) c := by
      funext c
      rw [drop_cons _ _ hi]
      have : (((bl x).getD i 0).toNat = c) = (c = byteAt x i) := by
        simp only [byteAt, bl]
        exact propext ⟨Eq.symm, Eq.symm⟩
      simp only [memB, List.any_cons, this]
      cases P c <;> cases decide (c = byteAt x i) <;> rfl
    rw [e]
    have hlt := ha i
    simp only [bl] at hi hm
    refine Ok.step (fun f => p113_2_eq f x b 0 (i : Int)) ?_
    refine Ok.t (decide_eq_true (by simp only [Int.ofNat_eq_natCast]; omega)) ?_
    refine Ok.t (decide_eq_true (by omega)) ?_
    refine Ok.t (Nat.ble_eq_true_of_le (by omega)) ?_
    refine Ok.f (decide_eq_false (by simp only [Int.toNat_natCast, Int.ofNat_eq_natCast]; omega)) ?_
    refine Ok.t (by rw [Bool.and_true]; exact Nat.ble_eq_true_of_le (by simp only [Int.toNat_natCast]; omega)) ?_
    simp only [Int.toNat_natCast, Nat.zero_add, Nat.mul_one, hw]
    refine Ok.callP (Ok.storeCell (o := byteAt x i) (vs := setL P) (by kernel_rfl) rfl hr (by rw [setL_length]; omega) rfl) ?_
    rintro v s1 ⟨rfl, e1, e2, e3⟩
    rw [setL_set _ _ (by omega)] at e2
    refine Ok.mono (IH (i + 1) _ s1 (by simp only [bl]; omega) e2 (by omega)) ?_
    rintro v s' ⟨rfl, f1, f2⟩
    exact ⟨rfl, by omega, fun k hk => by rw [f2 k hk, e3 k (by omega)]⟩
theorem f113_eq' (f : Nat) (x0 : ByteArray) : callF En (runP En (f + 1)) 113 [(Value.string x0)] =
  (callP (fun v11 =>
    (cnd
      (p113_2 f x0 (blkOf v11) (offOf v11) (0 : Int))
      Prog.fail
      (isPt v11)))
    (Prog.newH (Hdr.mk 256 116 Bool.false Bool.true Bool.true 0 Bool.false Bool.false []) (setL fun _ => false) (fun z => (Prog.ret (itP z))))) := by kernel_rfl
theorem asciiSet_ok (s : St) (x : ByteArray) (hx : (bl x).length ≤ 100) (ha : ∀ i, byteAt x i < 128) :
    Ok (fun f => callF En (runP En f) 113 [.string x]) s (fun v s' => v = .tuple ⟨[.agg ⟨setL (memB (bl x))⟩, .bool true]⟩ ∧ s.ctr ≤ s'.ctr ∧ ∀ k, k < s.ctr → s'.mem.get k = s.mem.get k) := by
  refine Ok.step (fun f => f113_eq' f x) ?_
  refine Ok.callP (Ok.new (setL_length _)) ?_
  rintro v s1 ⟨rfl, e1, e2, e3⟩
  refine Ok.t rfl ?_
  refine Ok.mono (ascii_loop x hx ha s.ctr (bl x).length 0 (fun _ => false) s1 (by omega) e2 (by omega)) ?_
  rintro v s' ⟨rfl, f1, f2⟩
  refine ⟨?_, by omega, fun k hk => by rw [f2 k (by omega), e3 k hk]⟩
  simp only [List.drop_zero, Bool.false_or]
theorem contains_ok (s : St) (b : Nat) (P : Nat → Bool) (c : Nat) (hr : Row s.mem b (setL P)) (hc : c < 256) :
    Ok (fun f => callF En (runP En f) 171 [.pointer (some ⟨b, 0, none⟩), .int .u8 (Int.ofNat c)]) s (fun v s' => v = .bool (P c) ∧ Reads s s') := by
  refine Ok.step (fun f => f171_eq f b (Int.ofNat c)) ?_
  refine Ok.t (decide_eq_true (by simp only [Int.ofNat_eq_natCast]; omega)) ?_
  refine Ok.t (by rw [Bool.and_true]; exact Nat.ble_eq_true_of_le (by simp only [Int.ofNat_eq_natCast, Int.toNat_natCast]; omega)) ?_
  simp only [Int.ofNat_eq_natCast, Int.toNat_natCast, Nat.zero_add, Nat.mul_one]
  refine Ok.callP (Ok.load1 (v := .bool (P c)) (by kernel_rfl) (hr.cell c (setL_get _ _ hc))) ?_
  rintro v s1 ⟨rfl, e1, e2, e3⟩
  exact Ok.t rfl (Ok.ret ⟨rfl, e1, e2, [⟨false, b + 1 + c, 1⟩, ⟨false, b, 1⟩], e3, rfl⟩)
def trimR (P : Nat → Bool) (l : List UInt8) : List UInt8 := (l.reverse.dropWhile fun b => P b.toNat).reverse
def trimL (P : Nat → Bool) (l : List UInt8) : List UInt8 := l.dropWhile fun b => P b.toNat
theorem sub1 (n : Nat) (h : 0 < n) (h2 : n ≤ 4611686018427387904) : IntKind.i64.wrap (Int.subNatNat n 1) = Int.ofNat (n - 1) := by
  have e : Int.subNatNat n 1 = Int.ofNat (n - 1) := by
    rw [Int.subNatNat_eq_coe]; simp only [Int.ofNat_eq_natCast]; omega
  rw [e, wrap_in _ (by simp only [Int.ofNat_eq_natCast]; omega) (by simp only [Int.ofNat_eq_natCast]; omega)]
theorem trimR_ok (b : Nat) (P : Nat → Bool) : ∀ (m : Nat) (x : ByteArray) (s : St), (bl x).length = m → (bl x).length ≤ 4611686018427387904 → Row s.mem b (setL P) →
    Ok (fun f => p114_1 f x b) s (fun v s' => v = .string (mkStr (trimR P (bl x))) ∧ Reads s s') := by
  intro m
  induction m with
  | zero =>
    intro x s hm hl hr
    refine Ok.step (fun f => p114_1_eq f x b) ?_
    refine Ok.f (decide_eq_false (by simp only [bl] at hm; simp only [Int.ofNat_eq_natCast]; omega)) ?_
    refine Ok.step (fun f => p114_4_eq f x) (Ok.ret ⟨?_, Reads.refl s⟩)
    have : bl x = [] := List.length_eq_zero_iff.1 hm
    rw [this]
    exact congrArg Value.string ((mk_bl x).symm.trans (by rw [this]; rfl))
  | succ m IH =>
    intro x s hm hl hr
    have e := sub1 (bl x).length (by omega) hl
    have hne : bl x ≠ [] := fun h => by rw [h] at hm; simp at hm
    have hx : bl x = (bl x).take ((bl x).length - 1) ++ [(bl x).getD ((bl x).length - 1) 0] := by
      have h1 := (List.dropLast_concat_getLast hne).symm
      rw [List.dropLast_eq_take, List.getLast_eq_getElem] at h1
      have h2 : (bl x).getD ((bl x).length - 1) 0 = (bl x)[(bl x).length - 1] := by
        rw [List.getD_eq_getElem?_getD, List.getElem?_eq_getElem (by omega)]; rfl
      rw [h2]; exact h1
    simp only [bl] at hm hl e
    refine Ok.step (fun f => p114_1_eq f x b) ?_
    refine Ok.t (decide_eq_true (by simp only [Int.ofNat_eq_natCast]; omega)) ?_
    rw [e]
    simp only [Int.ofNat_eq_natCast, Int.toNat_natCast]
    refine Ok.t (decide_eq_true (by omega)) ?_
    refine Ok.t (Nat.ble_eq_true_of_le (by omega)) ?_
    refine Ok.call (contains_ok s b P _ hr (byteAt_lt _ _)) ?_
    rintro v s1 ⟨rfl, r1⟩
    refine Ok.t rfl ?_
    simp only [boolOf]
    have hr1 : Row s1.mem b (setL P) := by rw [r1.1]; exact hr
    have hby : byteAt x (x.data.toList.length - 1) = ((bl x).getD ((bl x).length - 1) 0).toNat := rfl
    refine Ok.c (fun h => ?_) (fun h => ?_)
    · have h : P (byteAt x (x.data.toList.length - 1)) = false := by simpa using h
      refine Ok.step (fun f => p114_4_eq f x) (Ok.ret ⟨?_, r1⟩)
      have : trimR P (bl x) = bl x := by
        unfold trimR
        rw [hx, List.reverse_append, List.reverse_singleton, List.singleton_append, List.dropWhile_cons]
        rw [hby] at h
        rw [h]
        simp
      rw [this]
      rfl
    · have h : P (byteAt x (x.data.toList.length - 1)) = true := by simpa using h
      refine Ok.t (decide_eq_true (by omega)) ?_
      refine Ok.t (by simp only [Bool.and_eq_true]; exact ⟨Nat.ble_eq_true_of_le (by omega), Nat.ble_eq_true_of_le (by omega)⟩) ?_
      rw [Nat.sub_zero]
      refine Ok.mono (IH (mkStr (List.take (x.data.toList.length - 1) x.data.toList)) s1 (by simp only [bl_mk, List.length_take]; omega) (by simp only [bl_mk, List.length_take]; omega) hr1) ?_
      rintro v s' ⟨rfl, r2⟩
      refine ⟨?_, r1.trans r2⟩
      have : trimR P (bl x) = trimR P ((bl x).take ((bl x).length - 1)) := by
        unfold trimR
        conv => lhs; rw [hx, List.reverse_append, List.reverse_singleton, List.singleton_append, List.dropWhile_cons]
        rw [hby] at h
        rw [h]
        simp
      rw [this]
      rfl
theorem trimL_ok (b : Nat) (P : Nat → Bool) : ∀ (m : Nat) (x : ByteArray) (s : St), (bl x).length = m → Row s.mem b (setL P) →
    Ok (fun f => p176_1 f x b) s (fun v s' => v = .string (mkStr (trimL P (bl x))) ∧ Reads s s') := by
  intro m
  induction m with
  | zero =>
    intro x s hm hr
    refine Ok.step (fun f => p176_1_eq f x b) ?_
    refine Ok.f (decide_eq_false (by simp only [bl] at hm; simp only [Int.ofNat_eq_natCast]; omega)) ?_
    refine Ok.step (fun f => p176_4_eq f x) (Ok.ret ⟨?_, Reads.refl s⟩)
    have : bl x = [] := List.length_eq_zero_iff.1 hm
    rw [this]
    exact congrArg Value.string ((mk_bl x).symm.trans (by rw [this]; rfl))
  | succ m IH =>
    intro x s hm hr
    have hx : bl x = (bl x).getD 0 0 :: (bl x).drop 1 := drop_cons (bl x) 0 (by omega)
    simp only [bl] at hm
    refine Ok.step (fun f => p176_1_eq f x b) ?_
    refine Ok.t (decide_eq_true (by simp only [Int.ofNat_eq_natCast]; omega)) ?_
    refine Ok.t (Nat.ble_eq_true_of_le (by omega)) ?_
    refine Ok.call (contains_ok s b P _ hr (byteAt_lt _ _)) ?_
    rintro v s1 ⟨rfl, r1⟩
    refine Ok.t rfl ?_
    simp only [boolOf]
    have hr1 : Row s1.mem b (setL P) := by rw [r1.1]; exact hr
    have hby : byteAt x 0 = ((bl x).getD 0 0).toNat := rfl
    refine Ok.c (fun h => ?_) (fun h => ?_)
    · have h : P (byteAt x 0) = false := by simpa using h
      refine Ok.step (fun f => p176_4_eq f x) (Ok.ret ⟨?_, r1⟩)
      have : trimL P (bl x) = bl x := by
        unfold trimL
        rw [hx, List.dropWhile_cons]
        rw [hby] at h
        rw [h]
        simp
      rw [this]
      rfl
    · have h : P (byteAt x 0) = true := by simpa using h
      refine Ok.t (by simp only [Bool.and_eq_true]; exact ⟨Nat.ble_eq_true_of_le (by omega), Nat.ble_eq_true_of_le (by omega)⟩) ?_
      rw [List.take_of_length_le (by rw [List.length_drop]; omega)]
      refine Ok.mono (IH (mkStr (List.drop 1 x.data.toList)) s1 (by simp only [bl_mk, List.length_drop]; omega) hr1) ?_
      rintro v s' ⟨rfl, r2⟩
      refine ⟨?_, r1.trans r2⟩
      have : trimL P (bl x) = trimL P ((bl x).drop 1) := by
        unfold trimL
        conv => lhs; rw [hx, List.dropWhile_cons]
        rw [hby] at h
        rw [h]
        simp
      rw [this]
      rfl
end Go.Proofs.YtmjbmbmnnephjaaGreatDoor
/- The library's strings.Trim. -/
namespace Go.Proofs.YtmjbmbmnnephjaaGreatDoor
open Go Go.Ev Go.Proofs
theorem f118_eq' (f : Nat) (x0 : ByteArray) (x1 : ByteArray) : callF En (runP En (f + 1)) 118 [(Value.string x0), (Value.string x1)] =
  (cnd
    (Prog.ret (Value.string x0))
    (cnd
      (Prog.ret (Value.string x0))
      (cnd
        (cnd
          (cnd
            (cnd
              (Prog.seg (callF En (runP En f) 112 [(Value.string x0), (Value.int IntKind.u8 (Int.ofNat (byteAt x1 0)))]) fun v21 s22 _ =>
                (cnd
                  (cnd
                    (Prog.seg (callF En (runP En f) 175 [(Value.string (strOf v21)), (Value.int IntKind.u8 (Int.ofNat (byteAt x1 0)))]) fun v23 s24 _ =>
                      (gdL 63 (writesOf s24) s24 [⟨3, writesOf s22, s22⟩]
                        (cnd
                          (Prog.ret (Value.string (strOf v23)))
                          Prog.fail
                          (okK Kd.str v23))))
                    Prog.fail
                    (Nat.ble 1 (List.length (Array.toList (ByteArray.data x1)))))
                  Prog.fail
                  (okK Kd.str v21)))
              Prog.fail
              (Nat.ble 1 (List.length (Array.toList (ByteArray.data x1)))))
            (Prog.call (callF En (runP En f) 113 [(Value.string x1)]) fun v25 =>
              (cnd
                (callP (fun v27 =>
                  (cnd
                    (callP (fun v28 =>
                      (cnd
                        (Prog.call (callF En (runP En f) 114 [(Value.string x0), (Value.pointer (Option.some (Addr.mk (blkOf v27) (offOf v27) Option.none)))]) fun v29 =>
                          (cnd
                            (Prog.call (callF En (runP En f) 176 [(Value.string (strOf v29)), (Value.pointer (Option.some (Addr.mk (blkOf v27) (offOf v27) Option.none)))]) fun v30 =>
                              (cnd
                                (Prog.ret (Value.string (strOf v30)))
                                Prog.fail
                                (okK Kd.str v30)))
                            Prog.fail
                            (okK Kd.str v29)))
                        (Prog.call (callF En (runP En f) 115 [(Value.string x0), (Value.string x1)]) fun v31 =>
                          (cnd
                            (Prog.call (callF En (runP En f) 177 [(Value.string (strOf v31)), (Value.string x1)]) fun v32 =>
                              (cnd
                                (Prog.ret (Value.string (strOf v32)))
                                Prog.fail
                                (okK Kd.str v32)))
                            Prog.fail
                            (okK Kd.str v31)))
                        (boolOf (at_ (tupOf v25) 1))))
                      (storeT En 116 (blkOf v27) (offOf v27) (at_ (tupOf v25) 0)))
                    Prog.fail
                    (isPt v27)))
                  (Prog.newH (Hdr.mk 256 116 Bool.false Bool.true Bool.true 0 Bool.false Bool.false []) (setL fun _ => false) (fun z26 => (Prog.ret (itP z26)))))
                Prog.fail
                ((isTupV v25) && (okNs (Nm.raw :: ((Nm.one Kd.bool) :: [])) (tupOf v25)))))
            (decide ((Int.ofNat (byteAt x1 0)) < (128 : Int))))
          Prog.fail
          (Nat.ble 1 (List.length (Array.toList (ByteArray.data x1)))))
        (Prog.call (callF En (runP En f) 113 [(Value.string x1)]) fun v33 =>
          (cnd
            (callP (fun v35 =>
              (cnd
                (callP (fun v36 =>
                  (cnd
                    (Prog.call (callF En (runP En f) 114 [(Value.string x0), (Value.pointer (Option.some (Addr.mk (blkOf v35) (offOf v35) Option.none)))]) fun v37 =>
                      (cnd
                        (Prog.call (callF En (runP En f) 176 [(Value.string (strOf v37)), (Value.pointer (Option.some (Addr.mk (blkOf v35) (offOf v35) Option.none)))]) fun v38 =>
                          (cnd
                            (Prog.ret (Value.string (strOf v38)))
                            Prog.fail
                            (okK Kd.str v38)))
                        Prog.fail
                        (okK Kd.str v37)))
                    (Prog.call (callF En (runP En f) 115 [(Value.string x0), (Value.string x1)]) fun v39 =>
                      (cnd
                        (Prog.call (callF En (runP En f) 177 [(Value.string (strOf v39)), (Value.string x1)]) fun v40 =>
                          (cnd
                            (Prog.ret (Value.string (strOf v40)))
                            Prog.fail
                            (okK Kd.str v40)))
                        Prog.fail
                        (okK Kd.str v39)))
                    (boolOf (at_ (tupOf v33) 1))))
                  (storeT En 116 (blkOf v35) (offOf v35) (at_ (tupOf v33) 0)))
                Prog.fail
                (isPt v35)))
              (Prog.newH (Hdr.mk 256 116 Bool.false Bool.true Bool.true 0 Bool.false Bool.false []) (setL fun _ => false) (fun z34 => (Prog.ret (itP z34)))))
            Prog.fail
            ((isTupV v33) && (okNs (Nm.raw :: ((Nm.one Kd.bool) :: [])) (tupOf v33)))))
        (decide ((Int.ofNat (List.length (Array.toList (ByteArray.data x1)))) = (1 : Int))))
      (beqB (Array.toList (ByteArray.data x1)) []))
    (beqB (Array.toList (ByteArray.data x0)) [])) := by kernel_rfl
theorem trim_ok (s : St) (x y : ByteArray) (hx : (bl x).length ≤ 4611686018427387904) (hy : 2 ≤ (bl y).length) (hy2 : (bl y).length ≤ 100) (ha : ∀ i, byteAt y i < 128) :
    Ok (fun f => callF En (runP En f) 118 [.string x, .string y]) s (fun v s' => v = .string (mkStr (trimL (memB (bl y)) (trimR (memB (bl y)) (bl x)))) ∧ s.ctr ≤ s'.ctr ∧ ∀ k, k < s.ctr → s'.mem.get k = s.mem.get k) := by
  refine Ok.step (fun f => f118_eq' f x y) ?_
  refine Ok.c (fun h => ?_) (fun _ => ?_)
  · rw [beqB_eq] at h
    have h : bl x = [] := of_decide_eq_true h
    refine Ok.ret ⟨?_, Nat.le_refl _, fun _ _ => rfl⟩
    rw [h]
    exact congrArg Value.string ((mk_bl x).symm.trans (by rw [h]; rfl))
  refine Ok.f (by rw [beqB_eq]; exact decide_eq_false (fun h => by have h : bl y = [] := h; rw [h] at hy; simp at hy)) ?_
  refine Ok.f (decide_eq_false (by simp only [bl] at hy; simp only [Int.ofNat_eq_natCast]; omega)) ?_
  refine Ok.call (asciiSet_ok s y hy2 ha) ?_
  rintro v s1 ⟨rfl, e1, e2⟩
  refine Ok.t rfl ?_
  refine Ok.callP (Ok.new (setL_length _)) ?_
  rintro v s2 ⟨rfl, g1, g2, g3⟩
  refine Ok.t rfl ?_
  refine Ok.callP (Ok.storeRow (n := 256) (vs := setL fun _ => false) (ws := setL (memB (bl y))) (by kernel_rfl) g2 (setL_length _) (setL_length _) (setL_one _)) ?_
  rintro v s3 ⟨rfl, i1, i2, i3⟩
  refine Ok.t rfl ?_
  refine Ok.call (Q1 := fun v s' => v = .string (mkStr (trimR (memB (bl y)) (bl x))) ∧ Reads s3 s') (Ok.step (fun f => f114_eq f x s1.ctr) (trimR_ok s1.ctr _ _ x s3 rfl hx i2)) ?_
  rintro v s4 ⟨rfl, r4⟩
  refine Ok.t rfl ?_
  refine Ok.call (Q1 := fun v s' => v = .string (mkStr (trimL (memB (bl y)) (trimR (memB (bl y)) (bl x)))) ∧ Reads s4 s') (Ok.step (fun f => f176_eq f _ s1.ctr) (trimL_ok s1.ctr _ _ _ s4 rfl (by rw [r4.1]; exact i2))) ?_
  rintro v s5 ⟨rfl, r5⟩
  refine Ok.t rfl (Ok.ret ⟨rfl, ?_, fun k hk => ?_⟩)
  · rw [r5.2.1, r4.2.1]; omega
  · have i3 : ∀ k, k ≤ s1.ctr ∨ s1.ctr + 1 + 256 ≤ k → s3.mem.get k = s2.mem.get k := i3
    rw [r5.1, r4.1, i3 k (by omega), g3 k (by omega), e2 k hk]
theorem dropWhile_nil (p : UInt8 → Bool) : ∀ (l : List UInt8), l.dropWhile p = [] ↔ ∀ b ∈ l, p b = true
  | [] => by simp
  | b :: l => by
    rw [List.dropWhile_cons]
    cases h : p b with
    | true => simp [dropWhile_nil p l, h]
    | false => simp [h]
theorem dropWhile_head (p : UInt8 → Bool) : ∀ (l : List UInt8) (b : UInt8) (r : List UInt8), l.dropWhile p = b :: r → p b = false
  | [], _, _, h => by simp at h
  | c :: l, b, r, h => by
    rw [List.dropWhile_cons] at h
    cases hc : p c with
    | true => rw [hc] at h; exact dropWhile_head p l b r (by simpa using h)
    | false =>
      rw [hc] at h
      simp at h
      rw [← h.1]
      exact hc
theorem trim_nil (P : Nat → Bool) (l : List UInt8) : trimL P (trimR P l) = [] ↔ ∀ b ∈ l, P b.toNat = true := by
  constructor
  · intro h
    have h1 := (dropWhile_nil _ _).1 h
    have h3 : (l.reverse.dropWhile fun b => P b.toNat) = [] := by
      cases hr : (l.reverse.dropWhile fun b => P b.toNat) with
      | nil => rfl
      | cons b r =>
        have hb := dropWhile_head _ _ _ _ hr
        have := h1 b (by unfold trimR; rw [hr]; simp)
        rw [hb] at this
        cases this
    have := (dropWhile_nil _ _).1 h3
    intro b hb
    exact this b (by simpa using hb)
  · intro h
    have h3 : (l.reverse.dropWhile fun b => P b.toNat) = [] := (dropWhile_nil _ _).2 fun b hb => h b (by simpa using hb)
    unfold trimR
    rw [h3]
    rfl
theorem blk_itP (c : Nat) : blkOf (itP c) = c := rfl
theorem off_itP (c : Nat) : offOf (itP c) = 0 := rfl
end Go.Proofs.YtmjbmbmnnephjaaGreatDoor
/- The library's errors of numbers: Clone, syntaxError, rangeError. -/
namespace Go.Proofs.YtmjbmbmnnephjaaGreatDoor
open Go Go.Ev Go.Proofs
/-- A memory that what lies low is held against: nothing below its bound is touched. -/
structure GhD where
  m0 : Tr Slot
  hi0 : Nat
abbrev Gh := Inhabited GhD
/-- Where nobody asks. -/
instance (priority := low) ghNone : Gh := ⟨⟨.nil, 0⟩⟩
def Gh.m0 [Gh] : Tr Slot := (default : GhD).m0
def Gh.hi0 [Gh] : Nat := (default : GhD).hi0
/-- What the library's variables hold: two errors; what lies low is as it was. -/
def Lib [Gh] (m : Tr Slot) (n : Nat) : Prop := ((∃ t x, Cell m 393217 0 (.iface t x)) ∧ (∃ t x, Cell m 458753 0 (.iface t x)) ∧ 458755 ≤ n) ∧ Gh.hi0 ≤ n ∧ ∀ k, k < Gh.hi0 → m.get k = Gh.m0.get k
theorem Lib.congr [Gh] {m m' : Tr Slot} {n n' : Nat} (h : Lib m n) (hn : n ≤ n') (e : ∀ k, k < n → m'.get k = m.get k) : Lib m' n' := by
  obtain ⟨⟨⟨t, x, h1⟩, ⟨t', x', h2⟩, h3⟩, h4, h5⟩ := h
  exact ⟨⟨⟨t, x, Cell.congr h1 (e _ (by omega)) (e _ (by omega))⟩, ⟨t', x', Cell.congr h2 (e _ (by omega)) (e _ (by omega))⟩, by omega⟩, by omega, fun k hk => by rw [e k (by omega), h5 k hk]⟩
theorem Lib.fresh [Gh] {s s' : St} (h : Lib s.mem s.ctr) (g : Fresh s s') : Lib s'.mem s'.ctr := h.congr g.1 g.2
end Go.Proofs.YtmjbmbmnnephjaaGreatDoor
/- The library's ParseUint: it answers with a number and an error, or none. -/
namespace Go.Proofs.YtmjbmbmnnephjaaGreatDoor
open Go Go.Ev Go.Proofs
def PU (v : Value) : Prop := ∃ n e, v = .tuple ⟨[.int .u64 n, e]⟩ ∧ (e = .nilIface ∨ e = .iface 190 (.int .i64 1) ∨ e = .iface 190 (.int .i64 2))
theorem PU.z (n : Int) : PU (.tuple ⟨[.int .u64 n, .nilIface]⟩) := ⟨n, _, rfl, .inl rfl⟩
theorem PU.r (n : Int) : PU (.tuple ⟨[.int .u64 n, .iface 190 (.int .i64 1)]⟩) := ⟨n, _, rfl, .inr (.inl rfl)⟩
theorem PU.s (n : Int) : PU (.tuple ⟨[.int .u64 n, .iface 190 (.int .i64 2)]⟩) := ⟨n, _, rfl, .inr (.inr rfl)⟩
theorem neq_nil (a b : Operand) (hb : isConstO b = true) (k : Value → Prog) : binK En BinOp.neq 103 a b Value.nilIface Value.nilIface k = k (.bool false) := by
  cases b with
  | const w => cases a <;> kernel_rfl
  | _ => cases hb
end Go.Proofs.YtmjbmbmnnephjaaGreatDoor
/- The lexer's 'worth': a number's type and worth, or none. -/
namespace Go.Proofs.YtmjbmbmnnephjaaGreatDoor
open Go Go.Ev Go.Proofs
theorem asc (l : List UInt8) (h : (l.all fun b => decide (b.toNat < 128)) = true) (i : Nat) : byteAt (mkStr l) i < 128 := by
  unfold byteAt
  show (l.getD i 0).toNat < 128
  by_cases hi : i < l.length
  · have : l.getD i 0 = l[i] := by simp [List.getD, hi]
    rw [this]
    have := List.all_eq_true.1 h l[i] (List.getElem_mem hi)
    exact of_decide_eq_true this
  · have : l.getD i 0 = 0 := by simp [List.getD, show l.length ≤ i by omega]
    rw [this]
    decide
def WV (v : Value) : Prop := ∃ t n ok, v = .tuple ⟨[.int .i64 t, .int .i64 n, .bool ok]⟩ ∧ (ok = true → t = 2 ∨ t = 4 ∨ t = 5)
theorem WV.no : WV (.tuple ⟨[.int .i64 0, .int .i64 0, .bool false]⟩) := ⟨_, _, _, rfl, fun h => by cases h⟩
end Go.Proofs.YtmjbmbmnnephjaaGreatDoor
/- Numbers as texts, in plain Lean: what is printed of a number is read as that number. -/
namespace Go.Num
open Go.Lib
/-- What digits spell. -/
def numD (a : Nat) (l : List UInt8) : Nat := l.foldl (fun x c => x * 10 + (c.toNat - 48)) a
theorem numD_nil (a : Nat) : numD a [] = a := rfl
theorem numD_cons (a : Nat) (c : UInt8) (r : List UInt8) : numD a (c :: r) = numD (a * 10 + (c.toNat - 48)) r := by unfold numD; rw [List.foldl_cons]
def isD (c : UInt8) : Bool := decide (48 ≤ c.toNat) && decide (c.toNat ≤ 57)
theorem isD_iff {c : UInt8} : isD c = true ↔ 48 ≤ c.toNat ∧ c.toNat ≤ 57 := by unfold isD; simp
theorem numD_append : ∀ (a : Nat) (x y : List UInt8), numD a (x ++ y) = numD (numD a x) y
  | _, [], _ => rfl
  | a, c :: x, y => by rw [List.cons_append, numD_cons, numD_cons, numD_append _ x y]
theorem dig_toNat {i : Nat} (h : i < 10) : (UInt8.ofNat (48 + i)).toNat = 48 + i := by
  rw [UInt8.toNat_ofNat']; omega
theorem dig_isD {i : Nat} (h : i < 10) : isD (UInt8.ofNat (48 + i)) = true := isD_iff.2 (by rw [dig_toNat h]; omega)
theorem dec_isD (u : Nat) : (decDigits u).all isD = true := by
  induction u using Nat.strongRecOn with
  | _ u ih =>
    rw [decDigits]
    split
    · rename_i h
      rw [List.all_cons, dig_isD h]; rfl
    · rename_i h
      rw [List.all_append, ih (u / 10) (by omega)]
      rw [List.all_cons, dig_isD (show u % 10 < 10 by omega)]; rfl
theorem dec_num (u : Nat) : numD 0 (decDigits u) = u := by
  induction u using Nat.strongRecOn with
  | _ u ih =>
    rw [decDigits]
    split
    · rename_i h
      rw [numD_cons, numD_nil, dig_toNat h]
      omega
    · rename_i h
      rw [numD_append, ih (u / 10) (by omega)]
      rw [numD_cons, numD_nil, dig_toNat (show u % 10 < 10 by omega)]
      omega
theorem dec_ne (u : Nat) : decDigits u ≠ [] := by
  intro h
  have := congrArg List.length h
  rw [decDigits_length] at this
  have := nDigits_pos u
  simp only [List.length_nil] at *
  omega
/-- A number behind its sign. -/
def sgn (neg : Bool) (l : List UInt8) : List UInt8 := if neg then 45 :: l else l
def sgnI (neg : Bool) (u : Nat) : Int := if neg then -(u : Int) else u
theorem itoa_sgn (n : Int) : itoa n = sgn (decide (n < 0)) (decDigits n.natAbs) := by
  unfold itoa sgn
  by_cases h : n < 0
  · simp [h]
  · simp only [h, if_false, decide_false, Bool.false_eq_true]
    congr 1
    omega
theorem sgnI_abs (n : Int) : sgnI (decide (n < 0)) n.natAbs = n := by
  unfold sgnI
  by_cases h : n < 0
  · simp [h]; omega
  · simp [h]; omega
/-! Decs. -/
theorem dec5 {r : Nat} (h : r < 10000) : decDigits (10000 + r) = [49, UInt8.ofNat (48 + r / 1000), UInt8.ofNat (48 + r / 100 % 10), UInt8.ofNat (48 + r / 10 % 10), UInt8.ofNat (48 + r % 10)] := by
  rw [decDigits, dif_neg (by omega), decDigits, dif_neg (by omega), decDigits, dif_neg (by omega), decDigits, dif_neg (by omega), decDigits, dif_pos (by omega)]
  have e0 : (10000 + r) / 10 / 10 / 10 / 10 = 1 := by omega
  have e1 : (10000 + r) / 10 / 10 / 10 % 10 = r / 1000 := by omega
  have e2 : (10000 + r) / 10 / 10 % 10 = r / 100 % 10 := by omega
  have e3 : (10000 + r) / 10 % 10 = r / 10 % 10 := by omega
  have e4 : (10000 + r) % 10 = r % 10 := by omega
  rw [e0, e1, e2, e3, e4]
  rfl
def trimZ : List UInt8 → List UInt8
  | [] => []
  | c :: l => match trimZ l with
    | [] => if c = 48 then [] else [c]
    | x :: y => c :: x :: y
def padR (n : Nat) (l : List UInt8) : List UInt8 := l ++ List.replicate (n - l.length) 48
theorem trimZ_length : ∀ (l : List UInt8), (trimZ l).length ≤ l.length
  | [] => Nat.le_refl _
  | c :: l => by
    have := trimZ_length l
    unfold trimZ
    split
    · split <;> simp
    · rename_i x y h
      rw [h] at this
      simp only [List.length_cons] at *
      omega
theorem trimZ_pad : ∀ (l : List UInt8), padR l.length (trimZ l) = l
  | [] => rfl
  | c :: l => by
    have ih := trimZ_pad l
    unfold padR at *
    unfold trimZ
    split
    · rename_i h
      rw [h] at ih
      simp only [List.nil_append, List.length_nil, Nat.sub_zero] at ih
      split
      · rename_i hc
        subst hc
        simp only [List.nil_append, List.length_nil, Nat.sub_zero, List.length_cons, List.replicate_succ]
        rw [ih]
      · simp only [List.length_cons, List.length_nil, List.cons_append, List.nil_append]
        rw [show l.length + 1 - (0 + 1) = l.length by omega, ih]
    · rename_i x y h
      rw [h] at ih
      simp only [List.length_cons, List.cons_append] at ih ⊢
      rw [show l.length + 1 - (y.length + 1 + 1) = l.length - (y.length + 1) by omega, ih]
theorem trimZ_all (f : UInt8 → Bool) : ∀ (l : List UInt8), l.all f = true → (trimZ l).all f = true
  | [], _ => rfl
  | c :: l, h => by
    simp only [List.all_cons, Bool.and_eq_true] at h
    have ih := trimZ_all f l h.2
    unfold trimZ
    split
    · split
      · rfl
      · simp [h.1]
    · rename_i x y e
      rw [e] at ih
      simp only [List.all_cons, Bool.and_eq_true] at ih ⊢
      exact ⟨h.1, ih⟩
/-- The four digits behind the point. -/
def frac4 (u : Nat) : List UInt8 := (decDigits (10000 + u % 10000)).drop 1
def frac (u : Nat) : List UInt8 := (frac4 u).take 1 ++ trimZ ((frac4 u).drop 1)
def decT (n : Int) : List UInt8 := sgn (decide (n < 0)) (decDigits (n.natAbs / 10000) ++ 46 :: frac n.natAbs)
theorem frac4_length (u : Nat) : (frac4 u).length = 4 := by unfold frac4; rw [dec5 (by omega)]; rfl
theorem frac4_isD (u : Nat) : (frac4 u).all isD = true := by
  have h := dec_isD (10000 + u % 10000)
  unfold frac4
  rw [List.all_eq_true] at h ⊢
  exact fun x hx => h x (List.mem_of_mem_drop hx)
theorem numD_shift : ∀ (l : List UInt8) (a : Nat), numD a l = a * 10 ^ l.length + numD 0 l
  | [], a => by rw [numD_nil, numD_nil]; simp
  | c :: l, a => by
    rw [numD_cons, numD_cons, List.length_cons]
    rw [numD_shift l (a * 10 + (c.toNat - 48)), numD_shift l (0 * 10 + (c.toNat - 48)), Nat.pow_succ, Nat.add_mul, Nat.zero_mul, Nat.zero_add, Nat.mul_assoc, Nat.mul_comm 10, Nat.add_assoc]
theorem frac4_num (u : Nat) : numD 0 (frac4 u) = u % 10000 := by
  have h := dec_num (10000 + u % 10000)
  have e : decDigits (10000 + u % 10000) = 49 :: frac4 u := by unfold frac4; rw [dec5 (by omega)]; rfl
  rw [e, numD_cons, numD_shift, frac4_length] at h
  have : (49 : UInt8).toNat = 49 := rfl
  rw [this] at h
  omega
theorem frac_pad (u : Nat) : frac u ++ List.replicate (4 - (frac u).length) 48 = frac4 u := by
  have hl := frac4_length u
  have h3 : ((frac4 u).drop 1).length = 3 := by rw [List.length_drop, hl]
  have h1 : ((frac4 u).take 1).length = 1 := by rw [List.length_take, hl]; rfl
  have hp := trimZ_pad ((frac4 u).drop 1)
  have ht := trimZ_length ((frac4 u).drop 1)
  unfold padR at hp
  rw [h3] at hp ht
  unfold frac
  rw [List.length_append, h1, List.append_assoc, show 4 - (1 + (trimZ ((frac4 u).drop 1)).length) = 3 - (trimZ ((frac4 u).drop 1)).length by omega, hp, List.take_append_drop]
theorem frac_len (u : Nat) : 1 ≤ (frac u).length ∧ (frac u).length ≤ 4 := by
  have hl := frac4_length u
  have ht := trimZ_length ((frac4 u).drop 1)
  rw [List.length_drop, hl] at ht
  unfold frac
  rw [List.length_append, List.length_take, hl]
  omega
theorem frac_isD (u : Nat) : (frac u).all isD = true := by
  have h := frac4_isD u
  unfold frac
  rw [List.all_append, Bool.and_eq_true]
  rw [← List.take_append_drop 1 (frac4 u), List.all_append, Bool.and_eq_true] at h
  exact ⟨h.1, trimZ_all _ _ h.2⟩
theorem trimZ_zero : ∀ (l : List UInt8), trimZ (l ++ [48]) = trimZ l
  | [] => rfl
  | c :: l => by
    show trimZ (c :: (l ++ [48])) = _
    unfold trimZ
    rw [trimZ_zero l]
theorem trimZ_keep (d : UInt8) (h : d ≠ 48) : ∀ (l : List UInt8), trimZ (l ++ [d]) = l ++ [d]
  | [] => by
    show trimZ [d] = [d]
    simp [trimZ, h]
  | c :: l => by
    show trimZ (c :: (l ++ [d])) = c :: (l ++ [d])
    rw [trimZ, trimZ_keep d h l]
    cases l <;> rfl
/-! The text of a number. -/
def nul : Int := -9223372036854775808
def tail_ (t : Nat) : List UInt8 := if t = 4 then [116] else []
/-- What 'Number' answers for an int (2), a time (4), a dec (5). -/
def numT (t : Nat) (n : Int) : List UInt8 :=
  if n = nul then (if t = 5 then [48, 78, 100] else [48, 78] ++ tail_ t) else if t = 5 then decT n else itoa n ++ tail_ t
/-- The bytes that may stand in a number's text. -/
def okB (c : UInt8) : Bool := isD c || decide (c.toNat = 45) || decide (c.toNat = 46)
theorem itoa_ok (n : Int) : (itoa n).all (fun c => isD c || decide (c.toNat = 45)) = true := by
  rw [itoa_sgn, List.all_eq_true]
  have h := List.all_eq_true.1 (dec_isD n.natAbs)
  unfold sgn
  intro c hc
  split at hc
  · rcases List.mem_cons.1 hc with rfl | hc
    · rfl
    · rw [h c hc]; rfl
  · rw [h c hc]; rfl
theorem last_sgn {neg : Bool} {l : List UInt8} (h0 : l ≠ []) : (sgn neg l).getLast? = l.getLast? := by
  unfold sgn
  split
  · cases l with
    | nil => exact absurd rfl h0
    | cons c r => rfl
  · rfl
theorem last_isD {l : List UInt8} (h : l.all isD = true) {c : UInt8} (hc : l.getLast? = some c) : isD c = true :=
  List.all_eq_true.1 h c (List.mem_of_getLast? hc)
theorem itoa_last (n : Int) {c : UInt8} (hc : (itoa n).getLast? = some c) : isD c = true := by
  rw [itoa_sgn, last_sgn (dec_ne _)] at hc
  exact last_isD (dec_isD _) hc
theorem decT_last (n : Int) {c : UInt8} (hc : (decT n).getLast? = some c) : isD c = true := by
  unfold decT at hc
  rw [last_sgn (by simp)] at hc
  have hl := frac_len n.natAbs
  have hf : frac n.natAbs ≠ [] := by intro h; rw [h] at hl; simp at hl
  have e : (decDigits (n.natAbs / 10000) ++ 46 :: frac n.natAbs).getLast? = (frac n.natAbs).getLast? := by
    rw [List.getLast?_append]
    cases hq : frac n.natAbs with
    | nil => exact absurd hq hf
    | cons a b =>
      rw [List.getLast?_cons_cons]
      cases hz : (a :: b).getLast? with
      | none => simp at hz
      | some z => rfl
  rw [e] at hc
  exact last_isD (frac_isD _) hc
theorem decT_ok (n : Int) : (decT n).all okB = true := by
  rw [List.all_eq_true]
  have h1 := List.all_eq_true.1 (dec_isD (n.natAbs / 10000))
  have h2 := List.all_eq_true.1 (frac_isD n.natAbs)
  have h3 : ∀ c ∈ decDigits (n.natAbs / 10000) ++ 46 :: frac n.natAbs, okB c = true := by
    intro c hc
    rcases List.mem_append.1 hc with hc | hc
    · unfold okB; rw [h1 c hc]; rfl
    · rcases List.mem_cons.1 hc with rfl | hc
      · rfl
      · unfold okB; rw [h2 c hc]; rfl
  unfold decT sgn
  intro c hc
  split at hc
  · rcases List.mem_cons.1 hc with rfl | hc
    · rfl
    · exact h3 c hc
  · exact h3 c hc
/-- Where the point stands in a dec's text. -/
def decW (n : Int) : List UInt8 := sgn (decide (n < 0)) (decDigits (n.natAbs / 10000))
theorem decT_cut (n : Int) : decT n = decW n ++ 46 :: frac n.natAbs := by
  unfold decT decW sgn
  split <;> rfl
theorem itoa_len (n : Int) (h0 : nul ≤ n) (h1 : n ≤ 9223372036854775807) : (itoa n).length ≤ 21 := itoa_length_le n h0 h1
theorem decT_len (n : Int) (h0 : nul ≤ n) (h1 : n ≤ 9223372036854775807) : (decT n).length ≤ 27 := by
  have hf := frac_len n.natAbs
  have hd := itoa_length_le ((n.natAbs / 10000 : Nat) : Int) (by omega) (by unfold nul at h0; omega)
  rw [itoa_nonneg] at hd
  unfold decT sgn
  split <;> simp only [List.length_cons, List.length_append] <;> omega
theorem numT_len (t : Nat) (n : Int) (h0 : nul ≤ n) (h1 : n ≤ 9223372036854775807) : (numT t n).length ≤ 27 := by
  have := itoa_len n h0 h1
  have := decT_len n h0 h1
  unfold numT tail_
  repeat' split
  all_goals (try simp only [List.length_append, List.length_cons, List.length_nil]); omega
theorem numT_head (t : Nat) (n : Int) : ∃ c r, numT t n = c :: r ∧ (48 ≤ c.toNat ∧ c.toNat ≤ 57 ∨ c.toNat = 45) := by
  have hs : ∀ (neg : Bool) (l : List UInt8), l.all isD = true → l ≠ [] → ∀ m : List UInt8, ∃ c r, sgn neg l ++ m = c :: r ∧ (48 ≤ c.toNat ∧ c.toNat ≤ 57 ∨ c.toNat = 45) := by
    intro neg l hl h0 m
    cases l with
    | nil => exact absurd rfl h0
    | cons c r =>
      simp only [List.all_cons, Bool.and_eq_true] at hl
      cases neg with
      | true => exact ⟨45, c :: r ++ m, rfl, .inr rfl⟩
      | false => exact ⟨c, r ++ m, rfl, .inl (isD_iff.1 hl.1)⟩
  unfold numT
  split
  · split
    · exact ⟨48, [78, 100], rfl, .inl (by decide)⟩
    · exact ⟨48, 78 :: tail_ t, rfl, .inl (by decide)⟩
  · split
    · rw [decT_cut]
      exact hs _ _ (dec_isD _) (dec_ne _) _
    · rw [itoa_sgn]
      exact hs _ _ (dec_isD _) (dec_ne _) _
/-- A byte that may stand in a number's text. -/
def okC (c : UInt8) : Prop := (48 ≤ c.toNat ∧ c.toNat ≤ 57) ∨ c.toNat = 45 ∨ c.toNat = 46 ∨ c.toNat = 78 ∨ c.toNat = 100 ∨ c.toNat = 116
theorem okC_of {c : UInt8} (h : okB c = true) : okC c := by
  simp only [okB, Bool.or_eq_true, decide_eq_true_eq] at h
  unfold okC
  rcases h with (h | h) | h
  · exact .inl (isD_iff.1 h)
  · exact .inr (.inl h)
  · exact .inr (.inr (.inl h))
theorem numT_okC (t : Nat) (n : Int) : ∀ c ∈ numT t n, okC c := by
  have hi : ∀ c ∈ itoa n, okC c := fun c hc => by
    have h := List.all_eq_true.1 (itoa_ok n) c hc
    simp only [Bool.or_eq_true, decide_eq_true_eq] at h
    unfold okC
    rcases h with h | h
    · exact .inl (isD_iff.1 h)
    · exact .inr (.inl h)
  have hd : ∀ c ∈ decT n, okC c := fun c hc => okC_of (List.all_eq_true.1 (decT_ok n) c hc)
  have ht : ∀ c ∈ tail_ t, okC c := fun c hc => by
    unfold tail_ at hc
    split at hc
    · simp only [List.mem_singleton] at hc
      subst hc
      unfold okC; decide
    · cases hc
  intro c hc
  unfold numT at hc
  split at hc
  · split at hc
    · simp only [List.mem_cons, List.not_mem_nil, or_false] at hc
      unfold okC
      rcases hc with rfl | rfl | rfl <;> decide
    · rcases List.mem_append.1 hc with hc | hc
      · simp only [List.mem_cons, List.not_mem_nil, or_false] at hc
        unfold okC
        rcases hc with rfl | rfl <;> decide
      · exact ht c hc
  · split at hc
    · exact hd c hc
    · rcases List.mem_append.1 hc with hc | hc
      · exact hi c hc
      · exact ht c hc
end Go.Num
/- Small facts of strings' functions, exact: Cut at a point, suffixes. -/
namespace Go.Proofs.YtmjbmbmnnephjaaGreatDoor
open Go Go.Ev Go.Proofs Go.Num
theorem subNat1 (a : Nat) (h : 0 < a) (ha : a ≤ 4611686018427387904) : IntKind.i64.wrap (Int.subNatNat a 1) = Int.ofNat (a - 1) := by
  rw [wrap_in _ (by rw [Int.subNatNat_eq_coe]; omega) (by rw [Int.subNatNat_eq_coe]; omega), Int.subNatNat_eq_coe]
  simp only [Int.ofNat_eq_natCast]; omega
theorem snoc_cases (l : List UInt8) : l = [] ∨ ∃ m d, l = m ++ [d] := by
  cases h : l.reverse with
  | nil => exact .inl (by simpa using h)
  | cons d m => exact .inr ⟨m.reverse, d, by have := congrArg List.reverse h; simpa using this⟩
theorem find_no (c : Nat) : ∀ (l : List UInt8) (i : Nat), (∀ b ∈ l, b.toNat ≠ c) → findByte c l i = -1
  | [], _, _ => rfl
  | x :: l, i, h => by
    unfold findByte
    have hx : Nat.beq x.toNat c = false := by
      cases hq : Nat.beq x.toNat c with
      | false => rfl
      | true => exact absurd (Nat.eq_of_beq_eq_true hq) (h x (List.mem_cons_self ..))
    rw [hx]
    exact find_no c l (i + 1) fun b hb => h b (List.mem_cons_of_mem _ hb)
theorem find_at (c : Nat) (d : UInt8) (hd : d.toNat = c) : ∀ (l r : List UInt8) (i : Nat), (∀ b ∈ l, b.toNat ≠ c) → findByte c (l ++ d :: r) i = Int.ofNat (i + l.length)
  | [], r, i, _ => by
    show findByte c (d :: r) i = _
    unfold findByte
    rw [hd, Nat.beq_refl]
    rfl
  | x :: l, r, i, h => by
    show findByte c (x :: (l ++ d :: r)) i = _
    unfold findByte
    have hx : Nat.beq x.toNat c = false := by
      cases hq : Nat.beq x.toNat c with
      | false => rfl
      | true => exact absurd (Nat.eq_of_beq_eq_true hq) (h x (List.mem_cons_self ..))
    rw [hx]
    show findByte c (l ++ d :: r) (i + 1) = _
    rw [find_at c d hd l r (i + 1) fun b hb => h b (List.mem_cons_of_mem _ hb)]
    congr 1
    simp only [List.length_cons]; omega
theorem indexX_ok (s : St) (x : ByteArray) : Ok (fun f => callF En (runP En f) 226 [.string x, .string (mkStr [46])]) s (fun v s' => v = .int .i64 (findByte 46 (bl x) 0) ∧ s' = s) := by
  refine Ok.step (fun f => f226a_eq f x) ?_
  refine Ok.c (fun h => ?_) (fun _ => ?_)
  · rw [beqB_eq] at h
    have h : [(46 : UInt8)] = bl x := of_decide_eq_true h
    exact Ok.ret ⟨by rw [← h]; rfl, rfl⟩
  · refine Ok.call (Q1 := fun v s' => v = .int .i64 (findByte 46 (bl x) 0) ∧ s' = s) ?_ ?_
    · refine Ok.step (fun f => f124_eq f x 46) ?_
      refine Ok.call (Q1 := fun v s' => v = .int .i64 (findByte 46 (bl x) 0) ∧ s' = s) ?_ ?_
      · simp only [f180_eq]
        exact Ok.g (by decide) (Ok.ret ⟨rfl, rfl⟩)
      · rintro v s1 ⟨rfl, rfl⟩
        exact Ok.t rfl (Ok.ret ⟨rfl, rfl⟩)
    · rintro v s1 ⟨rfl, rfl⟩
      exact Ok.t rfl (Ok.ret ⟨rfl, rfl⟩)
theorem cutNo_ok (s : St) (x : ByteArray) (h : ∀ b ∈ bl x, b.toNat ≠ 46) : Ok (fun f => callF En (runP En f) 178 [.string x, .string (mkStr [46])]) s (fun v s' => v = .tuple ⟨[.string x, .string (mkStr []), .bool false]⟩ ∧ s' = s) := by
  refine Ok.step (fun f => f178_eq f x _) ?_
  refine Ok.call (Q1 := fun v s' => v = .tuple ⟨[.string x, .string (mkStr []), .bool false]⟩ ∧ s' = s) ?_ ?_
  · refine Ok.step (fun f => f212_eq f x _) ?_
    refine Ok.call (indexX_ok s x) ?_
    rintro v s1 ⟨rfl, rfl⟩
    refine Ok.t rfl ?_
    rw [find_no 46 _ 0 h]
    exact Ok.f rfl (Ok.ret ⟨rfl, rfl⟩)
  · rintro v s1 ⟨rfl, rfl⟩
    exact Ok.t rfl (Ok.ret ⟨rfl, rfl⟩)
theorem cutAt_ok (s : St) (a b : List UInt8) (h : ∀ c ∈ a, c.toNat ≠ 46) (hl : (a ++ 46 :: b).length ≤ 1000000) : Ok (fun f => callF En (runP En f) 178 [.string (mkStr (a ++ 46 :: b)), .string (mkStr [46])]) s
    (fun v s' => v = .tuple ⟨[.string (mkStr a), .string (mkStr b), .bool true]⟩ ∧ s' = s) := by
  refine Ok.step (fun f => f178_eq f _ _) ?_
  refine Ok.call (Q1 := fun v s' => v = .tuple ⟨[.string (mkStr a), .string (mkStr b), .bool true]⟩ ∧ s' = s) ?_ ?_
  · refine Ok.step (fun f => f212_eq f _ _) ?_
    refine Ok.call (indexX_ok s _) ?_
    rintro v s1 ⟨rfl, rfl⟩
    refine Ok.t rfl ?_
    have e : findByte 46 (bl (mkStr (a ++ 46 :: b))) 0 = Int.ofNat a.length := by
      show findByte 46 (a ++ 46 :: b) 0 = _
      rw [find_at 46 46 rfl a b 0 h, Nat.zero_add]
    rw [e]
    simp only [intOf, show (mkStr (a ++ 46 :: b)).data.toList = a ++ 46 :: b from rfl]
    have hl' : (a ++ 46 :: b).length = a.length + b.length + 1 := by simp only [List.length_append, List.length_cons]; omega
    have hw : IntKind.i64.wrap (Int.ofNat a.length + Int.ofNat (mkStr [46]).data.toList.length) = ((a.length + 1 : Nat) : Int) := by
      rw [show (Int.ofNat (mkStr [46]).data.toList.length) = 1 from rfl, wrap_in _ (by simp only [Int.ofNat_eq_natCast]; omega) (by simp only [Int.ofNat_eq_natCast]; omega)]; simp only [Int.ofNat_eq_natCast]; omega
    simp only [hw]
    refine Ok.t (decide_eq_true (by simp only [Int.ofNat_eq_natCast]; omega)) ?_
    refine Ok.t (decide_eq_true (by simp only [Int.ofNat_eq_natCast]; omega)) ?_
    refine Ok.t (by simp only [Bool.and_eq_true, Int.ofNat_eq_natCast, Int.toNat_natCast]; exact ⟨Nat.ble_eq_true_of_le (by omega), Nat.ble_eq_true_of_le (by omega)⟩) ?_
    refine Ok.t (decide_eq_true (by omega)) ?_
    refine Ok.t (by simp only [Bool.and_eq_true, Int.toNat_natCast]; exact ⟨Nat.ble_eq_true_of_le (by omega), Nat.ble_eq_true_of_le (by omega)⟩) ?_
    refine Ok.ret ⟨?_, rfl⟩
    have e1 : List.take (Int.toNat (Int.ofNat a.length) - 0) (a ++ 46 :: b) = a := by simp
    have e2 : List.take ((a ++ 46 :: b).length - Int.toNat ((a.length + 1 : Nat) : Int)) (List.drop (Int.toNat ((a.length + 1 : Nat) : Int)) (a ++ 46 :: b)) = b := by
      rw [Int.toNat_natCast, show a ++ 46 :: b = (a ++ [46]) ++ b by simp, List.drop_left' (by simp), List.take_of_length_le (by simp; omega)]
    rw [e1, e2]
  · rintro v s1 ⟨rfl, rfl⟩
    exact Ok.t rfl (Ok.ret ⟨rfl, rfl⟩)
/-! number. -/
/-- What number answers. -/
def numR (t : Int) (n : Int) : Value := .tuple ⟨[.int .i64 t, .int .i64 n, .bool true]⟩
theorem sufB_last {a : List UInt8} {c : UInt8} (h : sufB a [c] = true) : a.getLast? = some c := by
  simp only [sufB, Bool.and_eq_true, decide_eq_true_eq, List.length_cons, List.length_nil] at h
  obtain ⟨h1, h2⟩ := h
  rcases snoc_cases a with rfl | ⟨m, d, rfl⟩
  · simp at h1
  · have : (m ++ [d]).length - (0 + 1) = m.length := by simp
    rw [this, List.drop_left] at h2
    simp only [List.cons.injEq, and_true] at h2
    rw [h2, List.getLast?_append]
    rfl
theorem sufB_no {a : List UInt8} {c : UInt8} (h : ∀ d, a.getLast? = some d → d ≠ c) : sufB a [c] = false := by
  cases hq : sufB a [c] with
  | false => rfl
  | true => exact absurd rfl (h c (sufB_last hq))
theorem sufB_yes (a : List UInt8) (c : UInt8) : sufB (a ++ [c]) [c] = true := by
  simp [sufB]
theorem cutSuf_yes (a : List UInt8) (c : UInt8) : cutSuf (a ++ [c]) [c] = a := by
  unfold cutSuf
  rw [sufB_yes]
  simp
theorem notNull {l : List UInt8} (h : ∀ c ∈ l, c.toNat ≠ 78) (r : List UInt8) : beqB l (48 :: 78 :: r) = false := by
  rw [beqB_eq]
  refine decide_eq_false fun e => ?_
  exact h 78 (by rw [e]; simp) rfl
theorem itoa_78 (n : Int) : ∀ c ∈ Lib.itoa n, c.toNat ≠ 78 := by
  intro c hc
  have h := List.all_eq_true.1 (itoa_ok n) c hc
  simp only [Bool.or_eq_true, decide_eq_true_eq] at h
  rcases h with h | h
  · have := isD_iff.1 h; omega
  · omega
theorem decT_78 (n : Int) : ∀ c ∈ decT n, c.toNat ≠ 78 := by
  intro c hc
  have h := List.all_eq_true.1 (decT_ok n) c hc
  simp only [okB, Bool.or_eq_true, decide_eq_true_eq] at h
  rcases h with (h | h) | h
  · have := isD_iff.1 h; omega
  · omega
  · omega
theorem drop_four (k : Nat) (h : k ≤ 4) : List.take (4 - k) (List.drop k ((48 : UInt8) :: ((48 : UInt8) :: ((48 : UInt8) :: ((48 : UInt8) :: []))))) = List.replicate (4 - k) 48 := by
  have : k = 0 ∨ k = 1 ∨ k = 2 ∨ k = 3 ∨ k = 4 := by omega
  rcases this with rfl | rfl | rfl | rfl | rfl <;> rfl
end Go.Proofs.YtmjbmbmnnephjaaGreatDoor
/- The library's ParseUint, exact, where the text is a number. -/
namespace Go.Proofs.YtmjbmbmnnephjaaGreatDoor
open Go Go.Ev Go.Proofs
theorem wrapU64 (n : Int) (h0 : 0 ≤ n) (h1 : n < 18446744073709551616) : IntKind.u64.wrap n = n := by
  have : IntKind.u64.wrap n = n % 18446744073709551616 := by simp [IntKind.wrap, IntKind.bits, IntKind.signed]
  rw [this]; omega
/-- What a digit stands for. -/
def dv (c : UInt8) : Nat := if c.toNat ≤ 57 then c.toNat - 48 else c.toNat - 87
def okDg (B : Nat) (c : UInt8) : Prop := (48 ≤ c.toNat ∧ c.toNat ≤ 57) ∨ (B = 16 ∧ 97 ≤ c.toNat ∧ c.toNat ≤ 102)
def numX (B a : Nat) (l : List UInt8) : Nat := l.foldl (fun x c => x * B + dv c) a
theorem numX_nil (B a : Nat) : numX B a [] = a := rfl
theorem numX_cons (B a : Nat) (c : UInt8) (r : List UInt8) : numX B a (c :: r) = numX B (a * B + dv c) r := by unfold numX; rw [List.foldl_cons]
theorem numX_ge (B : Nat) (hB : 1 ≤ B) : ∀ (l : List UInt8) (a : Nat), a ≤ numX B a l
  | [], _ => Nat.le_refl _
  | c :: l, a => by
    rw [numX_cons]
    have h1 := numX_ge B hB l (a * B + dv c)
    have h2 : a * 1 ≤ a * B := Nat.mul_le_mul_left a hB
    omega
theorem dv_lt {B : Nat} {c : UInt8} (hB : B = 10 ∨ B = 16) (h : okDg B c) : dv c < B := by
  unfold okDg at h
  unfold dv
  split <;> omega
section
variable {s : St}
/-- One digit more. -/
theorem pu_46 {B cut top x13 d c i n cap : Nat} {x9 : ByteArray} {Q : Value → St → Prop} (hB : B = 10 ∨ B = 16) (hd : d < B) (h1 : x13 < cut) (h2 : x13 * B + d ≤ top) (h3 : top < 18446744073709551616) (hi : i < 4611686018427387904)
    (K : Ok (fun f => p213_36 f (B : Int) false x9 (cut : Int) (top : Int) false ((x13 * B + d : Nat) : Int) c 0 n cap (n : Int) ((i + 1 : Nat) : Int)) s Q) :
    Ok (fun f => p213_46 f (B : Int) false x9 (cut : Int) (top : Int) false (x13 : Int) (d : Int) c 0 n cap (n : Int) (i : Int)) s Q := by
  have hw : IntKind.i64.wrap ((i : Int) + 1) = ((i + 1 : Nat) : Int) := by rw [wrap_in _ (by omega) (by omega)]; omega
  have hx : x13 * B ≤ top := by omega
  refine Ok.step (fun f => p213_46_eq f _ _ _ _ _ _ _ _ _ _ _ _ _ _) ?_
  have hBw : IntKind.wrap IntKind.u8 (B : Int) = (B : Int) := IntWalk.u8_in _ (by omega)
  have hBu : IntKind.wrap IntKind.u64 (B : Int) = (B : Int) := wrapU64 _ (by omega) (by omega)
  have hdu : IntKind.wrap IntKind.u64 (d : Int) = (d : Int) := wrapU64 _ (by omega) (by omega)
  have hm : IntKind.wrap IntKind.u64 ((x13 : Int) * (B : Int)) = ((x13 * B : Nat) : Int) := by
    rw [show (x13 : Int) * (B : Int) = ((x13 * B : Nat) : Int) by rw [Int.natCast_mul]]
    exact wrapU64 _ (by omega) (by omega)
  have ha : IntKind.wrap IntKind.u64 (((x13 * B : Nat) : Int) + (d : Int)) = ((x13 * B + d : Nat) : Int) := by
    rw [show ((x13 * B : Nat) : Int) + (d : Int) = ((x13 * B + d : Nat) : Int) by omega]
    exact wrapU64 _ (by omega) (by omega)
  rw [hBw, hBu, hdu, hm, ha]
  refine Ok.f (decide_eq_false (by omega)) ?_
  refine Ok.f (decide_eq_false (by omega)) ?_
  refine Ok.f (decide_eq_false (by omega)) ?_
  refine Ok.f (decide_eq_false (by omega)) ?_
  refine Ok.step (fun f => p213_55_eq f _ _ _ _ _ _ _ _ _ _ _ _ _) ?_
  rw [hw]
  exact K
theorem lowX (c : UInt8) (h : 97 ≤ c.toNat ∧ c.toNat ≤ 102) : Ok (fun f => callF En (runP En f) 227 [.int .u8 (c.toNat : Int)]) s (fun v s' => v = .int .u8 (c.toNat : Int) ∧ s' = s) := by
  refine Ok.step (fun f => f227_eq f _) (Ok.ret ⟨?_, rfl⟩)
  have hc : c.toNat = 97 ∨ c.toNat = 98 ∨ c.toNat = 99 ∨ c.toNat = 100 ∨ c.toNat = 101 ∨ c.toNat = 102 := by omega
  rcases hc with h | h | h | h | h | h <;> rw [h] <;> rfl
theorem pu_loopX {B cut top : Nat} (hB : B = 10 ∨ B = 16) (hcut : ∀ x d, x * B + d ≤ top → x < cut) (htop : top < 18446744073709551616) (x9 : ByteArray) (c cap : Nat) (l : List UInt8) (hl : l.length ≤ 1000000) (hok : ∀ x ∈ l, okDg B x) (hn : numX B 0 l ≤ top) : ∀ (r pre : List UInt8) (s : St), l = pre ++ r → (∃ h, s.mem.get c = some (.hdr h)) → CellsAt s.mem c (c + 1) (u8s l) →
    Ok (fun f => p213_36 f (B : Int) false x9 (cut : Int) (top : Int) false (numX B 0 pre : Int) c 0 l.length cap (l.length : Int) (pre.length : Int)) s (fun v s' => v = .tuple ⟨[.int .u64 (numX B 0 l : Int), .nilIface]⟩ ∧ Reads s s') := by
  intro r
  induction r with
  | nil =>
    intro pre s hp hh hc
    rw [List.append_nil] at hp
    subst hp
    refine Ok.step (fun f => p213_36_eq f _ _ _ _ _ _ _ _ _ _ _ _ _) ?_
    refine Ok.f (decide_eq_false (by omega)) ?_
    exact Ok.f rfl (Ok.ret ⟨rfl, Reads.refl s⟩)
  | cons d r ih =>
    intro pre s hp hh hc
    have hlen : pre.length < l.length := by rw [hp]; simp
    have hget : l[pre.length]? = some d := by rw [hp]; simp
    have hdo : okDg B d := hok d (by rw [hp]; simp)
    refine Ok.step (fun f => p213_36_eq f _ _ _ _ _ _ _ _ _ _ _ _ _) ?_
    refine Ok.t (decide_eq_true (by omega)) ?_
    refine Ok.t (decide_eq_true (by omega)) ?_
    refine Ok.t (by rw [Bool.and_true]; exact Nat.ble_eq_true_of_le (by simp only [Int.toNat_natCast]; omega)) ?_
    simp only [Int.toNat_natCast, Nat.zero_add, Nat.mul_one]
    have hcell : Cell s.mem c pre.length (.int .u8 (d.toNat : Int)) := by
      refine ⟨hh, CellsAt.get pre.length _ hc ?_⟩
      simp only [u8s, List.getElem?_map, hget]
      rfl
    refine Ok.callP (Ok.load1 (by kernel_rfl) hcell) ?_
    rintro v s1 ⟨rfl, e1, e2, e3⟩
    have r1 : Reads s s1 := ⟨e1, e2, [⟨false, c + 1 + pre.length, 1⟩, ⟨false, c, 1⟩], e3, rfl⟩
    refine Ok.t rfl ?_
    have hpre : l = (pre ++ [d]) ++ r := by rw [hp]; simp
    have hnx : numX B 0 (pre ++ [d]) = numX B 0 pre * B + dv d := by
      unfold numX; rw [List.foldl_append]; rfl
    have hB1 : 1 ≤ B := by omega
    have hle : numX B 0 pre * B + dv d ≤ top := by
      rw [← hnx]
      have : numX B 0 l = numX B (numX B 0 (pre ++ [d])) r := by rw [hpre]; unfold numX; rw [List.foldl_append]
      have h2 := numX_ge B hB1 r (numX B 0 (pre ++ [d]))
      omega
    have hdl := dv_lt hB hdo
    have h46 : Ok (fun f => p213_46 f (B : Int) false x9 (cut : Int) (top : Int) false (numX B 0 pre : Int) (dv d : Int) c 0 l.length cap (l.length : Int) (pre.length : Int)) s1 (fun v s' => v = .tuple ⟨[.int .u64 (numX B 0 l : Int), .nilIface]⟩ ∧ Reads s s') := by
      refine pu_46 hB hdl (hcut _ _ hle) hle htop (by omega) ?_
      rw [← hnx]
      have := ih (pre ++ [d]) s1 hpre (by rw [e1]; exact hh) (by rw [e1]; exact hc)
      rw [List.length_append, List.length_singleton] at this
      refine Ok.mono this ?_
      rintro v s' ⟨rfl, h2⟩
      exact ⟨rfl, r1.trans h2⟩
    simp only [intOf]
    have hd0 := hdo
    unfold okDg at hd0
    refine Ok.f (decide_eq_false (by omega)) ?_
    rcases hd0 with hd0 | ⟨rfl, hd0⟩
    · refine Ok.t (decide_eq_true (by omega)) (Ok.t (decide_eq_true (by omega)) ?_)
      have e : IntKind.wrap IntKind.u8 ((d.toNat : Int) + (-48 : Int)) = (dv d : Int) := by
        unfold dv
        rw [if_pos hd0.2, IntWalk.u8_in _ (by omega)]; omega
      rw [e]
      exact h46
    · have e : IntKind.wrap IntKind.u8 ((IntKind.wrap IntKind.u8 ((d.toNat : Int) + (-97 : Int))) + (10 : Int)) = (dv d : Int) := by
        unfold dv
        rw [if_neg (by omega), IntWalk.u8_in ((d.toNat : Int) + (-97 : Int)) (by omega), IntWalk.u8_in _ (by omega)]; omega
      refine Ok.t (decide_eq_true (by omega)) (Ok.f (decide_eq_false (by omega)) ?_)
      refine Ok.call (lowX d hd0) ?_
      rintro v s2 ⟨rfl, rfl⟩
      refine Ok.t rfl (Ok.t (decide_eq_true (by simp only; omega)) ?_)
      refine Ok.call (lowX d hd0) ?_
      rintro v s2 ⟨rfl, rfl⟩
      refine Ok.t rfl (Ok.t (decide_eq_true (by simp only; omega)) ?_)
      refine Ok.call (lowX d hd0) ?_
      rintro v s2 ⟨rfl, rfl⟩
      refine Ok.t rfl ?_
      simp only
      rw [e]
      exact h46
theorem pu_32X {B cut top : Nat} {x2 : Int} (hB : B = 10 ∨ B = 16) (hcut : ∀ x d, x * B + d ≤ top → x < cut) (htop : top < 18446744073709551616) (x9 : ByteArray) (l : List UInt8) (hl : l.length ≤ 1000000) (hok : ∀ x ∈ l, okDg B x) (hn : numX B 0 l ≤ top) (h2 : 0 ≤ IntKind.wrap IntKind.u64 x2)
    (ht : (IntKind.wrap IntKind.u64 ((IntKind.wrap IntKind.u64 (Int.ofNat (1 * (Nat.pow 2 (if ((Int.toNat (IntKind.wrap IntKind.u64 x2)) ≤ 64) then (Int.toNat (IntKind.wrap IntKind.u64 x2)) else 64))))) + (-1 : Int))) = (top : Int)) :
    Ok (fun f => p213_32 f (mkStr l) (B : Int) x2 false x9 (cut : Int)) s (fun v s' => v = .tuple ⟨[.int .u64 (numX B 0 l : Int), .nilIface]⟩ ∧ Fresh s s') := by
  refine Ok.step (fun f => p213_32_eq f _ _ _ _ _ _) ?_
  refine Ok.t (decide_eq_true h2) ?_
  refine Ok.callP (Ok.newF rfl) ?_
  rintro v s1 ⟨rfl, e1, e2, e3, e4, e5⟩
  refine Ok.t rfl ?_
  rw [ht]
  have e3 : CellsAt s1.mem s.ctr (s.ctr + 1) (u8s l) := e3
  refine Ok.mono (pu_loopX hB hcut htop x9 s.ctr _ l hl hok hn l [] s1 rfl ⟨_, e2⟩ e3) ?_
  rintro v s' ⟨h, r⟩
  exact ⟨h, Fresh.trans ⟨by omega, e4⟩ r.fresh⟩
theorem puX10 (l : List UInt8) (h0 : l ≠ []) (hl : l.length ≤ 1000000) (hok : ∀ x ∈ l, okDg 10 x) (hn : numX 10 0 l ≤ 18446744073709551615) : Ok (fun f => callF En (runP En f) 213 [.string (mkStr l), .int .i64 10, .int .i64 64]) s (fun v s' => v = .tuple ⟨[.int .u64 (numX 10 0 l : Int), .nilIface]⟩ ∧ Fresh s s') := by
  refine Ok.step (fun f => f213a_eq f _) ?_
  refine Ok.f (by rw [beqB_eq]; exact decide_eq_false h0) ?_
  refine Ok.step (fun f => p213_21_eq f _ 10 64 false _) ?_
  refine Ok.f rfl (Ok.f rfl (Ok.f rfl ?_))
  refine Ok.step (fun f => p213_25_eq f _ 10 64 false _) ?_
  exact Ok.t rfl (pu_32X (B := 10) (cut := 1844674407370955162) (top := 18446744073709551615) (.inl rfl) (fun x d h => by omega) (by decide) _ l hl hok hn (by decide) (by decide))
theorem puX16 (l : List UInt8) (h0 : l ≠ []) (hl : l.length ≤ 1000000) (hok : ∀ x ∈ l, okDg 16 x) (hn : numX 16 0 l ≤ 255) : Ok (fun f => callF En (runP En f) 213 [.string (mkStr l), .int .i64 16, .int .i64 8]) s (fun v s' => v = .tuple ⟨[.int .u64 (numX 16 0 l : Int), .nilIface]⟩ ∧ Fresh s s') := by
  refine Ok.step (fun f => f213b_eq f _) ?_
  refine Ok.f (by rw [beqB_eq]; exact decide_eq_false h0) ?_
  refine Ok.step (fun f => p213_21_eq f _ 16 8 false _) ?_
  refine Ok.f rfl (Ok.f rfl (Ok.f rfl ?_))
  refine Ok.step (fun f => p213_25_eq f _ 16 8 false _) ?_
  exact Ok.f rfl (Ok.t rfl (pu_32X (B := 16) (cut := 1152921504606846976) (top := 255) (.inr rfl) (fun x d h => by omega) (by decide) _ l hl hok hn (by decide) (by decide)))
/-- strconv.ParseUint, where it answers with a number. -/
theorem parseX (x1 x2 : Int) (l : List UInt8) (n : Nat) (hp : ∀ s, Ok (fun f => callF En (runP En f) 213 [.string (mkStr l), .int .i64 x1, .int .i64 x2]) s (fun v s' => v = .tuple ⟨[.int .u64 (n : Int), .nilIface]⟩ ∧ Fresh s s')) :
    Ok (fun f => callF En (runP En f) 179 [.string (mkStr l), .int .i64 x1, .int .i64 x2]) s (fun v s' => v = .tuple ⟨[.int .u64 (n : Int), .nilIface]⟩ ∧ Fresh s s') := by
  refine Ok.step (fun f => f179_eq f _ x1 x2) ?_
  refine Ok.call (hp s) ?_
  rintro v s1 ⟨rfl, f1⟩
  refine Ok.t rfl ?_
  simp only [show at_ (tupOf (Value.tuple ⟨[.int .u64 (n : Int), Value.nilIface]⟩)) 1 = Value.nilIface from rfl, neq_nil _ (Operand.const Value.nilIface) rfl]
  exact Ok.t rfl (Ok.f rfl (Ok.ret ⟨rfl, f1⟩))
theorem numX_10 : ∀ (l : List UInt8) (a : Nat), l.all Num.isD = true → numX 10 a l = Num.numD a l
  | [], _, _ => rfl
  | c :: l, a, h => by
    rw [List.all_cons, Bool.and_eq_true] at h
    have hc := Num.isD_iff.1 h.1
    rw [numX_cons, Num.numD_cons, numX_10 l _ h.2]
    unfold dv
    rw [if_pos hc.2]
/-- Digits alone. -/
theorem parse10 (l : List UInt8) (h0 : l ≠ []) (hl : l.length ≤ 1000000) (hd : l.all Num.isD = true) (hn : Num.numD 0 l ≤ 18446744073709551615) :
    Ok (fun f => callF En (runP En f) 179 [.string (mkStr l), .int .i64 10, .int .i64 64]) s (fun v s' => v = .tuple ⟨[.int .u64 (Num.numD 0 l : Int), .nilIface]⟩ ∧ Fresh s s') := by
  have e := numX_10 l 0 hd
  rw [← e]
  rw [← e] at hn
  exact parseX 10 64 l _ fun s => puX10 l h0 hl (fun x hx => .inl (Num.isD_iff.1 (List.all_eq_true.1 hd x hx))) hn
end
end Go.Proofs.YtmjbmbmnnephjaaGreatDoor
/- Numbers' texts, as the lexer meets them: a sign, then a run of bytes that is a number's. -/
namespace Go.Num
open Go.Lib
/-- What stands behind a number's sign. -/
def numB (t : Nat) (n : Int) : List UInt8 :=
  if n = nul then (if t = 5 then [48, 78, 100] else [48, 78] ++ tail_ t)
  else if t = 5 then decDigits (n.natAbs / 10000) ++ 46 :: frac n.natAbs else decDigits n.natAbs ++ tail_ t
def numS (n : Int) : Bool := decide (n < 0) && decide (n ≠ nul)
theorem numT_split (t : Nat) (n : Int) : numT t n = sgn (numS n) (numB t n) := by
  unfold numT numB numS
  by_cases h : n = nul
  · rw [if_pos h, if_pos h]
    simp [h, sgn]
  · rw [if_neg h, if_neg h]
    simp only [h, ne_eq, not_false_eq_true, decide_true, Bool.and_true]
    split
    · rfl
    · rw [itoa_sgn]
      unfold sgn
      split <;> rfl
/-- Letters, digits, '_', '.'. -/
def lngB (c : UInt8) : Bool := (decide (97 ≤ c.toNat) && decide (c.toNat ≤ 122) || decide (65 ≤ c.toNat) && decide (c.toNat ≤ 90)) || ((decide (48 ≤ c.toNat) && decide (c.toNat ≤ 57)) || decide (c.toNat = 95)) || decide (c.toNat = 46)
theorem dig_lng {c : UInt8} (h : isD c = true) : lngB c = true := by
  have h := isD_iff.1 h
  unfold lngB
  simp only [Bool.or_eq_true, Bool.and_eq_true, decide_eq_true_eq]
  exact .inl (.inr (.inl h))
theorem numB_lng (t : Nat) (n : Int) : (numB t n).all lngB = true := by
  have hd : ∀ u, (decDigits u).all lngB = true := fun u => List.all_eq_true.2 fun c hc => dig_lng (List.all_eq_true.1 (dec_isD u) c hc)
  have hf : ∀ u, (frac u).all lngB = true := fun u => List.all_eq_true.2 fun c hc => dig_lng (List.all_eq_true.1 (frac_isD u) c hc)
  have ht : (tail_ t).all lngB = true := by unfold tail_; split <;> rfl
  unfold numB
  split
  · split
    · rfl
    · rw [List.all_append, ht]; rfl
  · split
    · rw [List.all_append, hd, List.all_cons, hf]; rfl
    · rw [List.all_append, hd, ht]; rfl
theorem numB_head (t : Nat) (n : Int) : ∃ c r, numB t n = c :: r ∧ isD c = true := by
  have hd : ∀ u m, ∃ c r, decDigits u ++ m = c :: r ∧ isD c = true := by
    intro u m
    have h := dec_isD u
    cases hq : decDigits u with
    | nil => exact absurd hq (dec_ne u)
    | cons c r =>
      rw [hq, List.all_cons, Bool.and_eq_true] at h
      exact ⟨c, r ++ m, rfl, h.1⟩
  unfold numB
  split
  · split
    · exact ⟨48, [78, 100], rfl, rfl⟩
    · exact ⟨48, 78 :: tail_ t, rfl, rfl⟩
  · split
    · exact hd _ _
    · exact hd _ _
/-- No number's text ends as bools do. -/
theorem numB_last (t : Nat) (n : Int) {c : UInt8} (hc : (numB t n).getLast? = some c) : c.toNat ≠ 98 := by
  have hm := List.mem_of_getLast? hc
  have h1 := numT_okC t n c (by rw [numT_split]; unfold sgn; split <;> simp [hm])
  unfold okC at h1
  omega
/-- A vector's numbers, with blanks between. -/
def joinN (t : Nat) : List Int → List UInt8
  | [] => []
  | [n] => numT t n
  | n :: m :: l => numT t n ++ 32 :: joinN t (m :: l)
/-- Bools. -/
def bitB (n : Int) : UInt8 := if n = 0 then 48 else 49
end Go.Num
/- The reference's printer of numbers, exact: digits, signed, decimal, Number. -/
namespace Go.Proofs.YtmjbmbmnnephjaaGreatDoor
open Go Go.Ev Go.Proofs Go.Num Go.Lib
theorem dig_piece : ∀ i : Fin 10, List.take (i.val + 1 - i.val) (List.drop i.val ([48, 49, 50, 51, 52, 53, 54, 55, 56, 57] : List UInt8)) = [UInt8.ofNat (48 + i.val)] := by decide
theorem digits_ok : ∀ (u : Nat), u < 18446744073709551616 → ∀ (s : St), Ok (fun f => callF En (runP En f) 181 [.int .u64 (u : Int)]) s (fun v s' => v = .string (mkStr (decDigits u)) ∧ s' = s) := by
  intro u
  induction u using Nat.strongRecOn with
  | _ u ih =>
    intro hu s
    refine Ok.step (fun f => f181_eq f (u : Int)) ?_
    by_cases h : u < 10
    · have hw : IntKind.u64.wrap ((u : Int) + 1) = ((u + 1 : Nat) : Int) := by rw [wrapU64 _ (by omega) (by omega)]; omega
      refine Ok.t (decide_eq_true (by omega)) ?_
      rw [hw, Int.toNat_natCast, Int.toNat_natCast]
      refine Ok.t (decide_eq_true (by omega)) ?_
      refine Ok.t (decide_eq_true (by omega)) ?_
      refine Ok.t (by simp only [Bool.and_eq_true]; exact ⟨Nat.ble_eq_true_of_le (by omega), Nat.ble_eq_true_of_le (by omega)⟩) ?_
      refine Ok.ret ⟨?_, rfl⟩
      have := dig_piece ⟨u, h⟩
      simp only at this
      rw [this, decDigits, dif_pos h]
    · have e1 : IntKind.u64.wrap (Int.tdiv (u : Int) 10) = ((u / 10 : Nat) : Int) := by
        have : Int.tdiv (u : Int) 10 = ((u / 10 : Nat) : Int) := (Int.ofNat_tdiv u 10).symm
        rw [this, wrapU64 _ (by omega) (by omega)]
      have e2 : Int.tmod (u : Int) 10 = ((u % 10 : Nat) : Int) := (Int.ofNat_tmod u 10).symm
      refine Ok.f (decide_eq_false (by omega)) ?_
      rw [e1, e2]
      refine Ok.call (ih (u / 10) (by omega) (by omega) s) ?_
      rintro v s1 ⟨rfl, rfl⟩
      refine Ok.t rfl ?_
      refine Ok.call (ih (u % 10) (by omega) (by omega) s1) ?_
      rintro v s2 ⟨rfl, rfl⟩
      refine Ok.t rfl ?_
      have hl : ∀ n, n < 18446744073709551616 → (decDigits n).length ≤ 100 := fun n hn => by
        have := itoa_length_le ((n / 10 : Nat) : Int) (by omega) (by omega)
        rw [itoa_nonneg] at this
        by_cases h : n < 10
        · rw [decDigits, dif_pos h]; simp
        · rw [decDigits, dif_neg h, List.length_append, List.length_singleton]; omega
      have h1 := hl (u / 10) (by omega)
      have h2 := hl (u % 10) (by omega)
      refine Ok.t (Nat.ble_eq_true_of_le (by show (decDigits (u / 10)).length + (decDigits (u % 10)).length ≤ _; omega)) ?_
      refine Ok.ret ⟨?_, rfl⟩
      show Value.string (mkStr (decDigits (u / 10) ++ decDigits (u % 10))) = _
      rw [decDigits_one (i := u % 10) (by omega), decDigits.eq_1 u, dif_neg h]
/-- A number without its sign, as the code comes to it. -/
theorem neg_nat (n : Int) (h0 : -9223372036854775808 ≤ n) (h1 : n < 0) :
    IntKind.u64.wrap ((IntKind.u64.wrap (IntKind.i64.wrap ((0 : Int) + (Int.neg (IntKind.i64.wrap (n + (1 : Int))))))) + (1 : Int)) = ((n.natAbs : Nat) : Int) := by
  have e : IntKind.i64.wrap (n + 1) = n + 1 := wrap_in _ (by omega) (by omega)
  have e2 : IntKind.i64.wrap ((0 : Int) + Int.neg (n + 1)) = -(n + 1) := by
    show IntKind.i64.wrap ((0 : Int) + -(n + 1)) = _
    rw [wrap_in _ (by omega) (by omega)]; omega
  rw [e, e2, wrapU64 (-(n + 1)) (by omega) (by omega), wrapU64 _ (by omega) (by omega)]
  omega
theorem pos_nat (n : Int) (h0 : 0 ≤ n) (h1 : n ≤ 9223372036854775807) : IntKind.u64.wrap n = ((n.natAbs : Nat) : Int) := by
  rw [wrapU64 _ (by omega) (by omega)]; omega
theorem dec_short (u : Nat) (hu : u ≤ 9223372036854775808) : (decDigits u).length ≤ 30 := by
  have := itoa_length_le (-(u : Int)) (by omega) (by omega)
  by_cases h : u = 0
  · subst h; rw [decDigits, dif_pos (by decide)]; simp
  · rw [itoa_neg u (by omega), List.length_cons] at this
    omega
theorem signed_ok (s : St) (n : Int) (h0 : -9223372036854775808 ≤ n) (h1 : n ≤ 9223372036854775807) : Ok (fun f => callF En (runP En f) 130 [.int .i64 n]) s (fun v s' => v = .string (mkStr (itoa n)) ∧ s' = s) := by
  have hd := dec_short n.natAbs (by omega)
  refine Ok.step (fun f => f130_eq f n) ?_
  by_cases hn : n < 0
  · refine Ok.t (decide_eq_true hn) ?_
    rw [neg_nat n h0 hn]
    refine Ok.call (digits_ok n.natAbs (by omega) s) ?_
    rintro v s1 ⟨rfl, rfl⟩
    refine Ok.t rfl ?_
    refine Ok.t (Nat.ble_eq_true_of_le (by show 1 + (decDigits n.natAbs).length ≤ _; omega)) ?_
    refine Ok.ret ⟨?_, rfl⟩
    rw [itoa_sgn, decide_eq_true hn]
    rfl
  · refine Ok.f (decide_eq_false hn) ?_
    rw [pos_nat n (by omega) h1]
    refine Ok.call (digits_ok n.natAbs (by omega) s) ?_
    rintro v s1 ⟨rfl, rfl⟩
    refine Ok.t rfl ?_
    refine Ok.ret ⟨?_, rfl⟩
    rw [itoa_sgn, decide_eq_false hn]
    rfl
theorem dec_loop (sg : List UInt8) (hsg : sg.length ≤ 1) (u : Nat) (hu : u ≤ 9223372036854775808) (c : UInt8) : ∀ (n : Nat) (l : List UInt8) (s : St), l.length = n → n ≤ 100 →
    Ok (fun f => p131_7 f (mkStr sg) (u : Int) (mkStr (c :: l))) s (fun v s' => v = .string (mkStr (sg ++ (decDigits (u / 10000) ++ 46 :: c :: trimZ l))) ∧ s' = s) := by
  have e1 : IntKind.u64.wrap (Int.tdiv (u : Int) 10000) = ((u / 10000 : Nat) : Int) := by
    have : Int.tdiv (u : Int) 10000 = ((u / 10000 : Nat) : Int) := (Int.ofNat_tdiv u 10000).symm
    rw [this, wrapU64 _ (by omega) (by omega)]
  have hd := dec_short (u / 10000) (by omega)
  have last : ∀ (l : List UInt8) (s : St), l.length ≤ 100 → Ok (fun f => (Prog.call (callF En (runP En f) 181 [(Value.int IntKind.u64 (IntKind.wrap IntKind.u64 (Int.tdiv (u : Int) (10000 : Int))))]) fun v6 =>
      (cnd
        (cnd
          (cnd
            (cnd
              (Prog.ret (Value.string (mkStr ((((Array.toList (ByteArray.data (mkStr sg))) ++ (Array.toList (ByteArray.data (strOf v6)))) ++ ((46 : UInt8) :: [])) ++ (Array.toList (ByteArray.data (mkStr (c :: l))))))))
              Prog.fail
              (Nat.ble ((List.length (((Array.toList (ByteArray.data (mkStr sg))) ++ (Array.toList (ByteArray.data (strOf v6)))) ++ ((46 : UInt8) :: []))) + (List.length (Array.toList (ByteArray.data (mkStr (c :: l)))))) 9223372036854775807))
            Prog.fail
            (Nat.ble ((List.length ((Array.toList (ByteArray.data (mkStr sg))) ++ (Array.toList (ByteArray.data (strOf v6))))) + 1) 9223372036854775807))
          Prog.fail
          (Nat.ble ((List.length (Array.toList (ByteArray.data (mkStr sg)))) + (List.length (Array.toList (ByteArray.data (strOf v6))))) 9223372036854775807))
        Prog.fail
        (okK Kd.str v6)))) s (fun v s' => v = .string (mkStr (sg ++ (decDigits (u / 10000) ++ 46 :: c :: l))) ∧ s' = s) := by
    intro l s hl
    rw [e1]
    refine Ok.call (digits_ok (u / 10000) (by omega) s) ?_
    rintro v s1 ⟨rfl, rfl⟩
    refine Ok.t rfl ?_
    refine Ok.t (Nat.ble_eq_true_of_le (by show sg.length + (decDigits (u / 10000)).length ≤ _; omega)) ?_
    refine Ok.t (Nat.ble_eq_true_of_le (by show (sg ++ decDigits (u / 10000)).length + 1 ≤ _; rw [List.length_append]; omega)) ?_
    refine Ok.t (Nat.ble_eq_true_of_le (by show ((sg ++ decDigits (u / 10000)) ++ [46]).length + (c :: l).length ≤ _; simp only [List.length_append, List.length_nil, List.length_cons]; omega)) ?_
    refine Ok.ret ⟨?_, rfl⟩
    show Value.string (mkStr (((sg ++ decDigits (u / 10000)) ++ [46]) ++ (c :: l))) = _
    simp only [List.append_assoc, List.singleton_append]
  intro n
  induction n with
  | zero =>
    intro l s hl _
    have : l = [] := List.length_eq_zero_iff.1 hl
    subst this
    refine Ok.step (fun f => p131_7_eq f _ _ _) ?_
    refine Ok.f rfl ?_
    exact last [] s (by simp)
  | succ n ih =>
    intro l s hl hn
    rcases snoc_cases l with rfl | ⟨m, d, rfl⟩
    · simp at hl
    have hm : m.length = n := by simpa using hl
    refine Ok.step (fun f => p131_7_eq f _ _ _) ?_
    have hcl : (c :: (m ++ [d])).length = n + 2 := by rw [List.length_cons, hl]
    simp only [show (mkStr (c :: (m ++ [d]))).data.toList = c :: (m ++ [d]) from rfl]
    have e := subNat1 (c :: (m ++ [d])).length (by omega) (by omega)
    have e2 : (c :: (m ++ [d])).length - 1 = m.length + 1 := by rw [hcl, hm]; omega
    rw [e2] at e
    rw [e]
    refine Ok.t (decide_eq_true (by simp only [Int.ofNat_eq_natCast]; omega)) ?_
    refine Ok.t (decide_eq_true (by simp only [Int.ofNat_eq_natCast]; omega)) ?_
    refine Ok.t (Nat.ble_eq_true_of_le (by simp only [Int.ofNat_eq_natCast, Int.toNat_natCast]; omega)) ?_
    have hb : byteAt (mkStr (c :: (m ++ [d]))) (Int.toNat (Int.ofNat (m.length + 1))) = d.toNat := by
      unfold byteAt
      show ((c :: (m ++ [d])).getD (Int.toNat (Int.ofNat (m.length + 1))) 0).toNat = d.toNat
      simp [List.getD]
    rw [hb]
    by_cases hd' : d = 48
    · subst hd'
      refine Ok.t rfl ?_
      refine Ok.t (decide_eq_true (by simp only [Int.ofNat_eq_natCast]; omega)) ?_
      refine Ok.t (by simp only [Bool.and_eq_true]; exact ⟨Nat.ble_eq_true_of_le (Nat.zero_le _), Nat.ble_eq_true_of_le (by simp only [Int.ofNat_eq_natCast, Int.toNat_natCast]; omega)⟩) ?_
      have et : List.take ((Int.toNat (Int.ofNat (m.length + 1))) - 0) (c :: (m ++ [48])) = c :: m := by simp
      rw [et, trimZ_zero]
      exact ih m s hm (by omega)
    · refine Ok.f (decide_eq_false fun e => hd' (UInt8.toNat_inj.1 (by show d.toNat = 48; have : ((d.toNat : Nat) : Int) = 48 := e; omega))) ?_
      rw [trimZ_keep d hd']
      exact last (m ++ [d]) s (by omega)
theorem dec_6 (sg : List UInt8) (hsg : sg.length ≤ 1) (u : Nat) (hu : u ≤ 9223372036854775808) (s : St) :
    Ok (fun f => p131_6 f (mkStr sg) (u : Int)) s (fun v s' => v = .string (mkStr (sg ++ (decDigits (u / 10000) ++ 46 :: frac u))) ∧ s' = s) := by
  have e2 : IntKind.u64.wrap (Int.tmod (u : Int) 10000 + 10000) = ((10000 + u % 10000 : Nat) : Int) := by
    have : Int.tmod (u : Int) 10000 = ((u % 10000 : Nat) : Int) := (Int.ofNat_tmod u 10000).symm
    rw [this, wrapU64 _ (by omega) (by omega)]; omega
  refine Ok.step (fun f => p131_6_eq f _ _) ?_
  rw [e2]
  refine Ok.call (digits_ok (10000 + u % 10000) (by omega) s) ?_
  rintro v s1 ⟨rfl, rfl⟩
  have e5 : decDigits (10000 + u % 10000) = 49 :: frac4 u := by unfold frac4; rw [dec5 (by omega)]; rfl
  rw [e5]
  refine Ok.t rfl ?_
  refine Ok.t (by simp only [Bool.and_eq_true]; exact ⟨Nat.ble_eq_true_of_le (by show 1 ≤ (49 :: frac4 u).length; simp), Nat.ble_eq_true_of_le (Nat.le_refl _)⟩) ?_
  have hl := frac4_length u
  have et : mkStr (List.take ((List.length (Array.toList (ByteArray.data (strOf (Value.string (mkStr (49 :: frac4 u))))))) - 1) (List.drop 1 (Array.toList (ByteArray.data (strOf (Value.string (mkStr (49 :: frac4 u)))))))) = mkStr (frac4 u) := by
    show mkStr (List.take ((49 :: frac4 u).length - 1) (List.drop 1 (49 :: frac4 u))) = _
    rw [List.drop_one, List.tail_cons, List.length_cons, Nat.add_sub_cancel, List.take_length]
  rw [et]
  unfold frac
  cases hc : frac4 u with
  | nil => rw [hc] at hl; simp at hl
  | cons c l =>
    rw [hc] at hl
    exact dec_loop sg hsg u hu c l.length l s1 rfl (by simp only [List.length_cons] at hl; omega)
theorem decimal_ok (s : St) (n : Int) (h0 : -9223372036854775808 ≤ n) (h1 : n ≤ 9223372036854775807) : Ok (fun f => callF En (runP En f) 131 [.int .i64 n]) s (fun v s' => v = .string (mkStr (decT n)) ∧ s' = s) := by
  refine Ok.step (fun f => f131_eq f n) ?_
  unfold decT sgn
  by_cases hn : n < 0
  · refine Ok.t (decide_eq_true hn) ?_
    rw [neg_nat n h0 hn, if_pos (decide_eq_true hn)]
    exact dec_6 [45] (by decide) n.natAbs (by omega) s
  · refine Ok.f (decide_eq_false hn) ?_
    rw [pos_nat n (by omega) h1, if_neg (by simpa using hn)]
    exact dec_6 [] (by decide) n.natAbs (by omega) s
/-- What the reference prints of a number. -/
def numW (t : Nat) (n : Int) : List UInt8 := if t = 1 then itoa n ++ [98] else numT t n
theorem itoa_short (n : Int) (h0 : -9223372036854775808 ≤ n) (h1 : n ≤ 9223372036854775807) : (itoa n).length ≤ 100 := by
  have := itoa_length_le n (by omega) (by omega)
  omega
theorem number3_ok (s : St) (t : Nat) (ht : t = 1 ∨ t = 2 ∨ t = 4 ∨ t = 5) (n : Int) (h0 : -9223372036854775808 ≤ n) (h1 : n ≤ 9223372036854775807) :
    Ok (fun f => p74_3 f (t : Int) n) s (fun v s' => v = .string (mkStr (numW t n)) ∧ s' = s) := by
  have hsh := itoa_short n h0 h1
  refine Ok.step (fun f => p74_3_eq f _ _) ?_
  have hnul : ∀ {c : Bool}, decide (n = (-9223372036854775808 : Int)) = c → (c = true ↔ n = nul) := fun e => by rw [← e]; exact decide_eq_true_iff
  rcases ht with rfl | rfl | rfl | rfl
  · refine Ok.t rfl ?_
    refine Ok.call (signed_ok s n h0 h1) ?_
    rintro v s1 ⟨rfl, rfl⟩
    refine Ok.t rfl ?_
    refine Ok.t (Nat.ble_eq_true_of_le (by show (itoa n).length + 1 ≤ _; omega)) ?_
    exact Ok.ret ⟨rfl, rfl⟩
  · refine Ok.f rfl (Ok.t rfl ?_)
    refine Ok.c (fun h => ?_) (fun h => ?_)
    · have h : n = nul := of_decide_eq_true h
      subst h
      exact Ok.ret ⟨rfl, rfl⟩
    · have h : n ≠ nul := of_decide_eq_false h
      refine Ok.call (signed_ok s n h0 h1) ?_
      rintro v s1 ⟨rfl, rfl⟩
      refine Ok.t rfl (Ok.ret ⟨?_, rfl⟩)
      unfold numW numT tail_
      rw [if_neg (by decide), if_neg h, if_neg (by decide), if_neg (by decide), List.append_nil]
      rfl
  · refine Ok.f rfl (Ok.f rfl (Ok.t rfl ?_))
    refine Ok.c (fun h => ?_) (fun h => ?_)
    · have h : n = nul := of_decide_eq_true h
      subst h
      exact Ok.ret ⟨rfl, rfl⟩
    · have h : n ≠ nul := of_decide_eq_false h
      refine Ok.call (signed_ok s n h0 h1) ?_
      rintro v s1 ⟨rfl, rfl⟩
      refine Ok.t rfl ?_
      refine Ok.t (Nat.ble_eq_true_of_le (by show (itoa n).length + 1 ≤ _; omega)) (Ok.ret ⟨?_, rfl⟩)
      unfold numW numT tail_
      rw [if_neg (by decide), if_neg h, if_neg (by decide), if_pos rfl]
      rfl
  · refine Ok.f rfl (Ok.f rfl (Ok.f rfl (Ok.t rfl ?_)))
    refine Ok.c (fun h => ?_) (fun h => ?_)
    · have h : n = nul := of_decide_eq_true h
      subst h
      exact Ok.ret ⟨rfl, rfl⟩
    · have h : n ≠ nul := of_decide_eq_false h
      refine Ok.call (decimal_ok s n h0 h1) ?_
      rintro v s1 ⟨rfl, rfl⟩
      refine Ok.t rfl (Ok.ret ⟨?_, rfl⟩)
      unfold numW numT
      rw [if_neg (by decide), if_neg h, if_pos rfl]
      rfl
theorem numberW (s : St) (t : Nat) (x : Int) (hx : x = (t : Int) ∨ x = -(t : Int)) (ht : t = 1 ∨ t = 2 ∨ t = 4 ∨ t = 5) (n : Int) (h0 : -9223372036854775808 ≤ n) (h1 : n ≤ 9223372036854775807) :
    Ok (fun f => callF En (runP En f) 74 [.int .i64 x, .int .i64 n]) s (fun v s' => v = .string (mkStr (numW t n)) ∧ s' = s) := by
  refine Ok.step (fun f => f74_eq f x n) ?_
  rcases hx with rfl | rfl
  · refine Ok.f (decide_eq_false (by omega)) ?_
    exact number3_ok s t ht n h0 h1
  · refine Ok.t (decide_eq_true (by omega)) ?_
    refine Ok.t (decide_eq_true (by omega)) ?_
    have e : IntKind.i64.wrap ((0 : Int) + Int.neg (-(t : Int))) = (t : Int) := by
      show IntKind.i64.wrap ((0 : Int) + -(-(t : Int))) = _
      rw [wrap_in _ (by omega) (by omega)]; omega
    rw [e]
    exact number3_ok s t ht n h0 h1
end Go.Proofs.YtmjbmbmnnephjaaGreatDoor
/- The lexer's worth, exact, of a number's text. -/
namespace Go.Proofs.YtmjbmbmnnephjaaGreatDoor
open Go Go.Ev Go.Proofs Go.Num
section
variable {s : St}
theorem digsX (l : List UInt8) (h : l.all isD = true) (hl : l.length ≤ 1000000) : Ok (fun f => callF En (runP En f) 118 [(Value.string (mkStr l)), (Value.string (mkStr [48, 49, 50, 51, 52, 53, 54, 55, 56, 57]))]) s (fun v s' => v = .string (mkStr []) ∧ Fresh s s') := by
  refine Ok.mono (trim_ok s (mkStr l) _ (by show l.length ≤ _; omega) (by decide) (by decide) (asc _ (by decide))) ?_
  rintro v s' ⟨rfl, hf⟩
  refine ⟨?_, hf⟩
  congr 2
  refine (trim_nil _ _).2 fun c hc => ?_
  have h := isD_iff.1 (List.all_eq_true.1 h c hc)
  simp only [memB, bl_mk, List.any_cons, List.any_nil, Bool.or_false, Bool.or_eq_true, decide_eq_true_eq]
  have : c.toNat = 48 ∨ c.toNat = 49 ∨ c.toNat = 50 ∨ c.toNat = 51 ∨ c.toNat = 52 ∨ c.toNat = 53 ∨ c.toNat = 54 ∨ c.toNat = 55 ∨ c.toNat = 56 ∨ c.toNat = 57 := by omega
  rcases this with h | h | h | h | h | h | h | h | h | h <;> simp [h]
theorem worth19X (t : Int) (neg point : Bool) (w r : List UInt8) (h0 : w ≠ []) (hw : w.all isD = true) (hr : r.all isD = true) (hp : point = true → w.length ≠ 4) (hn : numD 0 w ≤ 9223372036854775807) (hl : w.length ≤ 1000000) (hlr : r.length ≤ 1000000) :
    Ok (fun f => p121_19 f t neg (mkStr w) (mkStr r) point) s (fun v s' => v = .tuple ⟨[.int .i64 t, .int .i64 (sgnI neg (numD 0 w)), .bool true]⟩ ∧ Fresh s s') := by
  refine Ok.step (fun f => p121_19_eq f _ _ _ _ _) ?_
  refine Ok.f (by rw [beqB_eq]; exact decide_eq_false h0) ?_
  refine Ok.call (digsX w hw hl) ?_
  rintro v s1 ⟨rfl, f1⟩
  refine Ok.t rfl (Ok.f rfl ?_)
  refine Ok.call (digsX r hr hlr) ?_
  rintro v s2 ⟨rfl, f2⟩
  have f2 := f1.trans f2
  refine Ok.t rfl (Ok.f rfl ?_)
  have hlw : (mkStr w).data.toList.length = w.length := rfl
  refine Ok.c (fun hpt => ?_) (fun _ => ?_)
  · refine Ok.f (decide_eq_false (by have := hp hpt; simp only [Int.ofNat_eq_natCast, hlw]; omega)) ?_
    refine Ok.call (parse10 w h0 hl hw (by omega)) ?_
    rintro v s3 ⟨rfl, f3⟩
    refine Ok.t rfl ?_
    simp only [show at_ (tupOf (Value.tuple ⟨[.int .u64 (numD 0 w : Int), Value.nilIface]⟩)) 1 = Value.nilIface from rfl, neq_nil _ (Operand.const Value.nilIface) rfl]
    refine Ok.t rfl (Ok.f rfl ?_)
    simp only [show intOf (at_ (tupOf (Value.tuple ⟨[.int .u64 (numD 0 w : Int), Value.nilIface]⟩)) 0) = (numD 0 w : Int) from rfl]
    refine Ok.f (decide_eq_false (by omega)) ?_
    have e1 : IntKind.i64.wrap (numD 0 w : Int) = (numD 0 w : Int) := wrap_in _ (by omega) (by omega)
    have e2 : IntKind.i64.wrap ((0 : Int) + Int.neg (numD 0 w : Int)) = -(numD 0 w : Int) := by
      have : ∀ x : Int, Int.neg x = -x := fun _ => rfl
      rw [this, wrap_in _ (by omega) (by omega)]; omega
    rw [e1, e2]
    cases neg with
    | true => exact Ok.t rfl (Ok.ret ⟨rfl, f2.trans f3⟩)
    | false => exact Ok.f rfl (Ok.ret ⟨rfl, f2.trans f3⟩)
  · refine Ok.call (parse10 w h0 hl hw (by omega)) ?_
    rintro v s3 ⟨rfl, f3⟩
    refine Ok.t rfl ?_
    simp only [show at_ (tupOf (Value.tuple ⟨[.int .u64 (numD 0 w : Int), Value.nilIface]⟩)) 1 = Value.nilIface from rfl, neq_nil _ (Operand.const Value.nilIface) rfl]
    refine Ok.t rfl (Ok.f rfl ?_)
    simp only [show intOf (at_ (tupOf (Value.tuple ⟨[.int .u64 (numD 0 w : Int), Value.nilIface]⟩)) 0) = (numD 0 w : Int) from rfl]
    refine Ok.f (decide_eq_false (by omega)) ?_
    have e1 : IntKind.i64.wrap (numD 0 w : Int) = (numD 0 w : Int) := wrap_in _ (by omega) (by omega)
    have e2 : IntKind.i64.wrap ((0 : Int) + Int.neg (numD 0 w : Int)) = -(numD 0 w : Int) := by
      have : ∀ x : Int, Int.neg x = -x := fun _ => rfl
      rw [this, wrap_in _ (by omega) (by omega)]; omega
    rw [e1, e2]
    cases neg with
    | true => exact Ok.t rfl (Ok.ret ⟨rfl, f2.trans f3⟩)
    | false => exact Ok.f rfl (Ok.ret ⟨rfl, f2.trans f3⟩)
theorem sgn_pre {neg : Bool} {l : List UInt8} (h : ∃ c r, l = c :: r ∧ isD c = true) : preB (sgn neg l) [45] = neg ∧ cutPre (sgn neg l) [45] = l := by
  obtain ⟨c, r, rfl, hc⟩ := h
  cases neg with
  | true =>
    have : preB (sgn true (c :: r)) [45] = true := by simp [preB, sgn]
    refine ⟨this, ?_⟩
    unfold cutPre
    rw [this]
    simp [sgn]
  | false =>
    have hne : c ≠ 45 := fun e => by subst e; exact absurd hc (by decide)
    have : preB (sgn false (c :: r)) [45] = false := by
      have h1 : decide (List.take 1 (c :: r) = [45]) = false := decide_eq_false (by simpa using hne)
      simp only [preB, sgn, Bool.false_eq_true, if_false, List.length_cons, List.length_nil, Nat.zero_add, h1, Bool.and_false]
    refine ⟨this, ?_⟩
    unfold cutPre
    rw [this]
    rfl
theorem dec_head (u : Nat) : ∃ c r, Lib.decDigits u = c :: r ∧ isD c = true := by
  have h := dec_isD u
  cases hq : Lib.decDigits u with
  | nil => exact absurd hq (dec_ne u)
  | cons c r =>
    rw [hq, List.all_cons, Bool.and_eq_true] at h
    exact ⟨c, r, rfl, h.1⟩
theorem isD_46 {c : UInt8} (h : isD c = true) : c.toNat ≠ 46 := by have := isD_iff.1 h; omega
theorem worth12I (t : Int) (n : Int) (h0 : nul < n) (h1 : n ≤ 9223372036854775807) : Ok (fun f => p121_12 f (mkStr (Lib.itoa n)) t) s (fun v s' => v = numR t n ∧ Fresh s s') := by
  unfold nul at h0
  refine Ok.step (fun f => p121_12_eq f _ _) ?_
  refine Ok.call (cutPrefix_ok s (mkStr (Lib.itoa n)) _) ?_
  rintro v s1 ⟨rfl, rfl⟩
  simp only [bl_mk]
  rw [itoa_sgn]
  obtain ⟨p1, p2⟩ := sgn_pre (neg := decide (n < 0)) (dec_head n.natAbs)
  rw [p1, p2]
  refine Ok.t rfl ?_
  have hno : ∀ c ∈ Lib.decDigits n.natAbs, c.toNat ≠ 46 := fun c hc => isD_46 (List.all_eq_true.1 (dec_isD _) c hc)
  refine Ok.call (cutNo_ok s1 (mkStr (Lib.decDigits n.natAbs)) hno) ?_
  rintro v s2 ⟨rfl, rfl⟩
  refine Ok.t rfl (Ok.f rfl ?_)
  have hlen : (Lib.decDigits n.natAbs).length ≤ 21 := by
    have := Lib.itoa_length_le (n.natAbs : Int) (by omega) (by omega)
    rwa [Lib.itoa_nonneg] at this
  refine Ok.mono (worth19X t (decide (n < 0)) false (Lib.decDigits n.natAbs) [] (dec_ne _) (dec_isD _) rfl (fun h => by cases h) (by rw [dec_num]; omega) (by omega) (by decide)) ?_
  rintro v s3 ⟨rfl, f3⟩
  exact ⟨by rw [dec_num, sgnI_abs]; rfl, f3⟩
theorem worth12D (n : Int) (h0 : nul < n) (h1 : n ≤ 9223372036854775807) : Ok (fun f => p121_12 f (mkStr (decT n)) 2) s (fun v s' => v = numR 5 n ∧ Fresh s s') := by
  unfold nul at h0
  have hf := frac_len n.natAbs
  have hdl : (Lib.decDigits (n.natAbs / 10000)).length ≤ 21 := by
    have := Lib.itoa_length_le ((n.natAbs / 10000 : Nat) : Int) (by omega) (by omega)
    rwa [Lib.itoa_nonneg] at this
  refine Ok.step (fun f => p121_12_eq f _ _) ?_
  refine Ok.call (cutPrefix_ok s (mkStr (decT n)) _) ?_
  rintro v s1 ⟨rfl, rfl⟩
  simp only [bl_mk]
  have hh : ∃ c r, Lib.decDigits (n.natAbs / 10000) ++ 46 :: frac n.natAbs = c :: r ∧ isD c = true := by
    obtain ⟨c, r, e, hc⟩ := dec_head (n.natAbs / 10000)
    exact ⟨c, r ++ 46 :: frac n.natAbs, by rw [e]; rfl, hc⟩
  obtain ⟨p1, p2⟩ := sgn_pre (neg := decide (n < 0)) hh
  have ed : decT n = sgn (decide (n < 0)) (Lib.decDigits (n.natAbs / 10000) ++ 46 :: frac n.natAbs) := rfl
  rw [ed, p1, p2]
  refine Ok.t rfl ?_
  have hno : ∀ c ∈ Lib.decDigits (n.natAbs / 10000), c.toNat ≠ 46 := fun c hc => isD_46 (List.all_eq_true.1 (dec_isD _) c hc)
  refine Ok.call (cutAt_ok s1 (Lib.decDigits (n.natAbs / 10000)) (frac n.natAbs) hno (by simp only [List.length_append, List.length_cons]; omega)) ?_
  rintro v s2 ⟨rfl, rfl⟩
  refine Ok.t rfl (Ok.t rfl (Ok.f rfl ?_))
  simp only [show ∀ (a b : List UInt8) (c : Bool), strOf (at_ (tupOf (Value.tuple ⟨[.string (mkStr a), .string (mkStr b), .bool c]⟩)) 0) = mkStr a from fun _ _ _ => rfl, show ∀ (a b : List UInt8) (c : Bool), strOf (at_ (tupOf (Value.tuple ⟨[.string (mkStr a), .string (mkStr b), .bool c]⟩)) 1) = mkStr b from fun _ _ _ => rfl, show ∀ l, (mkStr l).data.toList = l from fun _ => rfl]
  have hne : frac n.natAbs ≠ [] := by intro h; rw [h] at hf; simp at hf
  refine Ok.f (by rw [beqB_eq]; exact decide_eq_false hne) ?_
  refine Ok.f (decide_eq_false (by simp only [Int.ofNat_eq_natCast]; omega)) ?_
  refine Ok.t (by rw [Bool.and_true]; exact Nat.ble_eq_true_of_le hf.2) ?_
  rw [drop_four _ hf.2, frac_pad]
  have h4 := frac4_length n.natAbs
  refine Ok.t (Nat.ble_eq_true_of_le (by rw [List.length_replicate]; omega)) ?_
  refine Ok.t (Nat.ble_eq_true_of_le (by omega)) ?_
  have hnum : numD 0 (Lib.decDigits (n.natAbs / 10000) ++ frac4 n.natAbs) = n.natAbs := by
    rw [numD_append, dec_num, numD_shift, frac4_length, frac4_num]; omega
  refine Ok.mono (worth19X 5 (decide (n < 0)) true (Lib.decDigits (n.natAbs / 10000) ++ frac4 n.natAbs) (frac n.natAbs) ?_ ?_ (frac_isD _) ?_ ?_ ?_ (by omega)) ?_
  · intro h
    exact dec_ne _ (List.append_eq_nil_iff.1 h).1
  · rw [List.all_append, dec_isD, frac4_isD]; rfl
  · intro _
    have : 1 ≤ (Lib.decDigits (n.natAbs / 10000)).length := by rw [Lib.decDigits_length]; exact Lib.nDigits_pos _
    rw [List.length_append]; omega
  · rw [hnum]; omega
  · rw [List.length_append]; omega
  · rintro v s3 ⟨rfl, f3⟩
    exact ⟨by rw [hnum, sgnI_abs]; rfl, f3⟩
/-- A number's text is worth that number. -/
theorem worthX (t : Nat) (n : Int) (ht : t = 2 ∨ t = 4 ∨ t = 5) (h0 : nul ≤ n) (h1 : n ≤ 9223372036854775807) : Ok (fun f => callF En (runP En f) 121 [.string (mkStr (numT t n))]) s (fun v s' => v = numR t n ∧ Fresh s s') := by
  have hlen := numT_len t n h0 h1
  refine Ok.step (fun f => f121_eq f _) ?_
  by_cases hn : n = nul
  · subst hn
    rcases ht with rfl | rfl | rfl
    · exact Ok.t rfl (Ok.ret ⟨rfl, Fresh.refl s⟩)
    · exact Ok.f rfl (Ok.t rfl (Ok.ret ⟨rfl, Fresh.refl s⟩))
    · exact Ok.f rfl (Ok.f rfl (Ok.t rfl (Ok.ret ⟨rfl, Fresh.refl s⟩)))
  · have hb : ∀ (a : List UInt8) (b : Bool), boolOf (at_ (tupOf (Value.tuple ⟨[.string (mkStr a), .bool b]⟩)) 1) = b := fun _ _ => rfl
    have ha : ∀ (a : List UInt8) (b : Bool), strOf (at_ (tupOf (Value.tuple ⟨[.string (mkStr a), .bool b]⟩)) 0) = mkStr a := fun _ _ => rfl
    have h78 : ∀ c ∈ numT t n, c.toNat ≠ 78 := by
      unfold numT
      rw [if_neg hn]
      split
      · exact decT_78 n
      · intro c hc
        rcases List.mem_append.1 hc with hc | hc
        · exact itoa_78 n c hc
        · unfold tail_ at hc
          split at hc
          · simp only [List.mem_singleton] at hc
            subst hc; decide
          · cases hc
    refine Ok.f (notNull h78 []) (Ok.f (notNull h78 [116]) (Ok.f (notNull h78 [100]) ?_))
    refine Ok.call (cutSuffix_ok s (mkStr (numT t n)) _ (by show (numT t n).length ≤ _; omega)) ?_
    rintro v s1 ⟨rfl, rfl⟩
    simp only [bl_mk]
    refine Ok.t rfl ?_
    simp only [hb, ha]
    rcases ht with rfl | rfl | rfl
    · have e : numT 2 n = Lib.itoa n := by unfold numT tail_; rw [if_neg hn]; simp
      rw [e]
      refine Ok.f (sufB_no fun d hd e => ?_) (worth12I 2 n (by omega) h1)
      have := isD_iff.1 (itoa_last n hd); rw [e] at this; exact absurd this (by decide)
    · have e : numT 4 n = Lib.itoa n ++ [116] := by unfold numT tail_; rw [if_neg hn]; simp
      rw [e, cutSuf_yes]
      exact Ok.t (sufB_yes _ _) (worth12I 4 n (by omega) h1)
    · have e : numT 5 n = decT n := by unfold numT tail_; rw [if_neg hn]; simp
      rw [e]
      refine Ok.f (sufB_no fun d hd e => ?_) (worth12D n (by omega) h1)
      have := isD_iff.1 (decT_last n hd); rw [e] at this; exact absurd this (by decide)
end
end Go.Proofs.YtmjbmbmnnephjaaGreatDoor
/- The lexer's small methods: run. -/
namespace Go.Proofs.YtmjbmbmnnephjaaGreatDoor
open Go Go.Ev Go.Proofs
/-- A function on bytes without a look at memory. -/
def IsPred (g : Nat) (P : Int → Bool) : Prop := ∀ (s : St) (c : Int), Ok (fun f => callF En (runP En f) g [.int .u8 c]) s (fun v s' => v = .bool (P c) ∧ s' = s)
def byteI (str : ByteArray) (i : Int) : Int := Int.ofNat (byteAt str i.toNat)
def runV (str : ByteArray) (P : Int → Bool) (k : Int) (n : Nat) : Prop :=
  (k + n ≤ str.data.toList.length) ∧ (∀ i : Nat, i < n → P (byteI str (k + i)) = true) ∧ (k + n < str.data.toList.length → P (byteI str (k + n)) = false)
theorem run_loop {g : Nat} {P : Int → Bool} (hp : IsPred g P) {str : ByteArray} {b : Nat} {k : Int} (hk : 0 ≤ k) (hl : str.data.toList.length ≤ 4611686018427387904) : ∀ (m n : Nat) (s : St), k + n + m = str.data.toList.length →
    (∀ i : Nat, i < n → P (byteI str (k + i)) = true) → Cell s.mem b 0 (.string str) → Cell s.mem b 1 (.int .i64 k) →
    Ok (fun f => p32_2 f b g n) s (fun v s' => ∃ n' : Nat, runV str P k n' ∧ v = .string (mkStr ((str.data.toList.drop k.toNat).take n')) ∧ Reads s s') := by
  have t3 : scal En 3 = true := by kernel_rfl
  have t9 : scal En 9 = true := by kernel_rfl
  intro m
  induction m with
  | zero =>
    intro n s hm hi h0 h1
    have hw : IntKind.i64.wrap (k + (n : Int)) = k + n := wrap_in _ (by omega) (by omega)
    refine Ok.step (fun f => p32_2_eq f b g n) ?_
    refine Ok.segLoad t3 h1 fun s1 r1 => ?_
    refine Ok.t rfl ?_
    refine Ok.segLoad t9 (h0.reads r1) fun s2 r2 => ?_
    refine Ok.gdL (by kernel_rfl) ?_
    refine Ok.t rfl ?_
    have r2 := r1.trans r2
    simp only [intOf, strOf, hw]
    refine Ok.f (decide_eq_false (by simp only [Int.ofNat_eq_natCast]; omega)) ?_
    refine Ok.segLoad t9 (h0.reads r2) fun s3 r3 => ?_
    have r3 := r2.trans r3
    refine Ok.t rfl ?_
    refine Ok.segLoad t3 (h1.reads r3) fun s4 r4 => ?_
    have r4 := r3.trans r4
    refine Ok.gdL (by kernel_rfl) ?_
    refine Ok.t rfl ?_
    refine Ok.segLoad t3 (h1.reads r4) fun s5 r5 => ?_
    have r5 := r4.trans r5
    refine Ok.gdL (by kernel_rfl) ?_
    refine Ok.t rfl ?_
    simp only [intOf, strOf, hw]
    refine Ok.t (decide_eq_true hk) ?_
    refine Ok.t (decide_eq_true (by omega)) ?_
    refine Ok.t (by simp only [Bool.and_eq_true]; exact ⟨Nat.ble_eq_true_of_le (by omega), Nat.ble_eq_true_of_le (by omega)⟩) ?_
    refine Ok.ret ⟨n, ⟨by omega, hi, fun h => by omega⟩, ?_, r5⟩
    rw [show (k + (n : Int)).toNat - k.toNat = n by omega]
  | succ m IH =>
    intro n s hm hi h0 h1
    have hw : IntKind.i64.wrap (k + (n : Int)) = k + n := wrap_in _ (by omega) (by omega)
    have hw1 : IntKind.i64.wrap ((n : Int) + 1) = ((n + 1 : Nat) : Int) := by rw [wrap_in _ (by omega) (by omega)]; omega
    refine Ok.step (fun f => p32_2_eq f b g n) ?_
    refine Ok.segLoad t3 h1 fun s1 r1 => ?_
    refine Ok.t rfl ?_
    refine Ok.segLoad t9 (h0.reads r1) fun s2 r2 => ?_
    refine Ok.gdL (by kernel_rfl) ?_
    refine Ok.t rfl ?_
    have r2 := r1.trans r2
    simp only [intOf, strOf, hw]
    refine Ok.t (decide_eq_true (by simp only [Int.ofNat_eq_natCast]; omega)) ?_
    refine Ok.segLoad t9 (h0.reads r2) fun s3 r3 => ?_
    have r3 := r2.trans r3
    refine Ok.gdL (by kernel_rfl) ?_
    refine Ok.t rfl ?_
    refine Ok.segLoad t3 (h1.reads r3) fun s4 r4 => ?_
    have r4 := r3.trans r4
    refine Ok.gdL (by kernel_rfl) ?_
    refine Ok.t rfl ?_
    simp only [intOf, strOf, hw]
    refine Ok.t (decide_eq_true (by omega)) ?_
    refine Ok.t (Nat.ble_eq_true_of_le (by omega)) ?_
    refine Ok.seg (hp _ _) ?_
    rintro v s5 ⟨rfl, rfl⟩
    refine Ok.gdL (by kernel_rfl) ?_
    refine Ok.t rfl ?_
    simp only [boolOf, hw1]
    refine Ok.c (fun h => ?_) (fun h => ?_)
    · refine Ok.mono (IH (n + 1) _ (by push_cast; omega) (fun i hlt => ?_) (h0.reads r4) (h1.reads r4)) ?_
      · by_cases e : i = n
        · subst e; exact h
        · exact hi i (by omega)
      · rintro v s' ⟨n', a1, a2, a3⟩
        exact ⟨n', a1, a2, r4.trans a3⟩
    · refine Ok.segLoad t9 (h0.reads r4) fun s6 r6 => ?_
      have r6 := r4.trans r6
      refine Ok.t rfl ?_
      refine Ok.segLoad t3 (h1.reads r6) fun s7 r7 => ?_
      have r7 := r6.trans r7
      refine Ok.gdL (by kernel_rfl) ?_
      refine Ok.t rfl ?_
      refine Ok.segLoad t3 (h1.reads r7) fun s8 r8 => ?_
      have r8 := r7.trans r8
      refine Ok.gdL (by kernel_rfl) ?_
      refine Ok.t rfl ?_
      simp only [intOf, strOf, hw]
      refine Ok.t (decide_eq_true hk) ?_
      refine Ok.t (decide_eq_true (by omega)) ?_
      refine Ok.t (by simp only [Bool.and_eq_true]; exact ⟨Nat.ble_eq_true_of_le (by omega), Nat.ble_eq_true_of_le (by omega)⟩) ?_
      refine Ok.ret ⟨n, ⟨by omega, hi, fun _ => h⟩, ?_, r8⟩
      rw [show (k + (n : Int)).toNat - k.toNat = n by omega]
end Go.Proofs.YtmjbmbmnnephjaaGreatDoor
namespace Go.Proofs.YtmjbmbmnnephjaaGreatDoor
open Go Go.Ev Go.Proofs
theorem run_ok {g : Nat} {P : Int → Bool} (hp : IsPred g P) (s : St) {str : ByteArray} {b : Nat} {k : Int} (hk : 0 ≤ k) (hm : k ≤ str.data.toList.length) (hl : str.data.toList.length ≤ 4611686018427387904) (h0 : Cell s.mem b 0 (.string str)) (h1 : Cell s.mem b 1 (.int .i64 k)) :
    Ok (fun f => callF En (runP En f) 32 [.pointer (some ⟨b, 0, none⟩), .func (.func g) ⟨[]⟩ ⟨[]⟩]) s (fun v s' => ∃ n : Nat, runV str P k n ∧ v = .string (mkStr ((str.data.toList.drop k.toNat).take n)) ∧ Reads s s') := by
  refine Ok.step (fun f => f32_eq f b g) ?_
  exact run_loop hp hk hl (str.data.toList.length - k.toNat) 0 s (by simp only [Int.natCast_zero]; omega) (fun i h => by omega) h0 h1
end Go.Proofs.YtmjbmbmnnephjaaGreatDoor
/- The lexer's small methods: fail. -/
namespace Go.Proofs.YtmjbmbmnnephjaaGreatDoor
open Go Go.Ev Go.Proofs
theorem fail_ok (s : St) (b : Nat) (e a k : Int) (h3 : Cell s.mem b 3 (.int .i64 k)) (hf : Free s.mem b 5) :
    Ok (fun f => callF En (runP En f) 35 [.pointer (some ⟨b, 0, none⟩), .int .i64 e, .int .i64 a]) s (fun v s' => v = .tuple ⟨[]⟩ ∧ s'.ctr = s.ctr ∧
      s'.mem = if k = 0 then (s.mem.set (b + 1 + 3) (some (.cell b (.int .i64 e)))).set (b + 1 + 4) (some (.cell b (.int .i64 a))) else s.mem) := by
  have t24 : scal En 24 = true := by kernel_rfl
  refine Ok.step (fun f => f35_eq f b e a) ?_
  refine Ok.callP (Ok.load1 t24 h3) ?_
  rintro v s1 ⟨rfl, e1, e2, e3⟩
  refine Ok.t rfl ?_
  refine Ok.c (fun h => ?_) (fun h => ?_)
  · have h := of_decide_eq_true h
    simp only [intOf] at h
    have hf1 : Free s1.mem b 5 := by rw [e1]; exact hf
    refine Ok.callP (Ok.store1 (n := 5) (by kernel_rfl) rfl hf1 (by omega) rfl) ?_
    rintro v s2 ⟨rfl, rfl⟩
    refine Ok.callP (Ok.store1 (n := 5) (by kernel_rfl) rfl ?_ (by omega) rfl) ?_
    · obtain ⟨el, ex, z, sy, hh⟩ := hf1
      refine ⟨el, ex, z, sy, ?_⟩
      simp only [Tr.get_set]
      rw [if_neg (by omega)]
      exact hh
    · rintro v s3 ⟨rfl, rfl⟩
      refine Ok.ret ⟨rfl, e2, ?_⟩
      simp only [if_pos h, e1]
  · have h := of_decide_eq_false h
    simp only [intOf] at h
    exact Ok.ret ⟨rfl, e2, by rw [if_neg h]; exact e1⟩
end Go.Proofs.YtmjbmbmnnephjaaGreatDoor
/- The lexer's row: its cells, its tokens; 'at' is set; fail; add. -/
namespace Go.Proofs.YtmjbmbmnnephjaaGreatDoor
open Go Go.Ev Go.Proofs
def lxC (str : ByteArray) (a : Int) (l : Value) (err bad : Int) : List Value := [.string str, .int .i64 a, l, .int .i64 err, .int .i64 bad]
/-- The lexer's row is at b: its text, its place, its tokens, its error. -/
def LXh [Gh] (m : Tr Slot) (hi : Nat) (b : Nat) (str : ByteArray) (a : Int) (ts : List Tok) (err bad : Int) : Prop :=
  ∃ l, Row m b (lxC str a l err bad) ∧ Grow m (b + 6) hi 34 8 (toksC ts) l ∧ b + 6 ≤ hi ∧ Lib m b
abbrev LX [Gh] (s : St) (b : Nat) (str : ByteArray) (a : Int) (ts : List Tok) (err bad : Int) : Prop := LXh s.mem s.ctr b str a ts err bad
theorem LXh.frame [Gh] {m m' : Tr Slot} {hi hi' b : Nat} {str : ByteArray} {a : Int} {ts : List Tok} {err bad : Int} (h : LXh m hi b str a ts err bad) (hc : hi ≤ hi') (e : ∀ k, k < hi → m'.get k = m.get k) : LXh m' hi' b str a ts err bad := by
  obtain ⟨l, h1, h2, h3, h4⟩ := h
  exact ⟨l, h1.congr fun j _ hj => e j (by simp [lxC] at hj; omega), h2.congr hc fun j _ hj => e j hj, by omega, h4.congr (Nat.le_refl b) fun j hj => e j (by omega)⟩
section
variable {s : St} {b : Nat} {str : ByteArray} {a : Int} {ts : List Tok} {err bad : Int}
theorem LXh.c0 [Gh] (h : LX s b str a ts err bad) : Cell s.mem b 0 (.string str) := by
  obtain ⟨l, h, _⟩ := h
  exact h.cell 0 rfl
theorem LXh.c1 [Gh] (h : LX s b str a ts err bad) : Cell s.mem b 1 (.int .i64 a) := by
  obtain ⟨l, h, _⟩ := h
  exact h.cell 1 rfl
theorem LXh.c3 [Gh] (h : LX s b str a ts err bad) : Cell s.mem b 3 (.int .i64 err) := by
  obtain ⟨l, h, _⟩ := h
  exact h.cell 3 rfl
theorem LXh.c4 [Gh] (h : LX s b str a ts err bad) : Cell s.mem b 4 (.int .i64 bad) := by
  obtain ⟨l, h, _⟩ := h
  exact h.cell 4 rfl
theorem LXh.free [Gh] (h : LX s b str a ts err bad) : Free s.mem b 5 := by
  obtain ⟨l, h, _⟩ := h
  exact h.1
theorem LXh.ctr [Gh] (h : LX s b str a ts err bad) : b + 6 ≤ s.ctr := by
  obtain ⟨l, _, _, h, _⟩ := h
  exact h
/-- What has not been touched. -/
theorem LXh.frameX [Gh] {s' : St} (h : LX s b str a ts err bad) (hc : s.ctr ≤ s'.ctr) (e : ∀ k, k < s.ctr → s'.mem.get k = s.mem.get k) : LX s' b str a ts err bad := by
  obtain ⟨l, h1, h2, h3, h4⟩ := h
  exact ⟨l, h1.congr fun j _ hj => e j (by simp [lxC] at hj; omega), h2.congr hc fun j _ hj => e j hj, by omega, h4.congr (Nat.le_refl b) fun j hj => e j (by omega)⟩
theorem LXh.fresh [Gh] {s' : St} (h : LX s b str a ts err bad) (e : Fresh s s') : LX s' b str a ts err bad := h.frameX e.1 e.2
theorem LXh.reads [Gh] {s' : St} (h : LX s b str a ts err bad) (r : Reads s s') : LX s' b str a ts err bad := h.frameX (by rw [r.2.1]; exact Nat.le_refl _) fun k _ => by rw [r.1]
theorem setAt_ok [Gh] (h : LX s b str a ts err bad) (a' : Int) :
    Ok (fun _ => storeT En 3 b 1 (.int .i64 a')) s (fun w s' => w = U ∧ LX s' b str a' ts err bad ∧ s'.ctr = s.ctr ∧ ∀ k, k ≠ b + 2 → s'.mem.get k = s.mem.get k) := by
  obtain ⟨l, h1, h2, h3, h6⟩ := h
  refine Ok.mono (Ok.storeCell (by kernel_rfl) rfl h1 (by simp [lxC]) rfl) ?_
  rintro w s' ⟨rfl, e1, e2, e3⟩
  refine ⟨rfl, ⟨l, e2, h2.congr (by omega) fun j h4 h5 => e3 j (by omega), by omega, h6.congr (Nat.le_refl b) fun j hj => e3 j (by omega)⟩, e1, fun k hk => e3 k (by omega)⟩
theorem fail_lx [Gh] (h : LX s b str a ts err bad) (e p : Int) :
    Ok (fun f => callF En (runP En f) 35 [.pointer (some ⟨b, 0, none⟩), .int .i64 e, .int .i64 p]) s (fun v s' => v = .tuple ⟨[]⟩ ∧ LX s' b str a ts (if err = 0 then e else err) (if err = 0 then p else bad) ∧ s'.ctr = s.ctr ∧ ∀ k, k ≠ b + 4 → k ≠ b + 5 → s'.mem.get k = s.mem.get k) := by
  refine Ok.mono (fail_ok s b e p err h.c3 h.free) ?_
  rintro v s' ⟨rfl, h1, h2⟩
  refine ⟨rfl, ?_, h1, fun k k1 k2 => ?_⟩
  · by_cases he : err = 0
    · rw [if_pos he] at h2
      rw [if_pos he, if_pos he]
      obtain ⟨l, g1, g2, g3, g4⟩ := h
      refine ⟨l, ?_, g2.congr (by omega) fun j h4 h5 => ?_, by omega, g4.congr (Nat.le_refl b) fun j hj => by rw [h2, Tr.get_set, if_neg (by omega), Tr.get_set, if_neg (by omega)]⟩
      · have := (g1.set 3 (.int .i64 e)).set 4 (.int .i64 p)
        rw [h2]
        exact this
      · rw [h2, Tr.get_set, if_neg (by omega), Tr.get_set, if_neg (by omega)]
    · rw [if_neg he] at h2
      rw [if_neg he, if_neg he]
      exact h.frameX (by omega) fun k _ => by rw [h2]
  · rw [h2]
    split
    · rw [Tr.get_set, if_neg (by omega), Tr.get_set, if_neg (by omega)]
    · rfl
theorem add_ok [Gh] (h : LX s b str a ts err bad) (kind p : Int) (text : ByteArray) (t : Int) (n sy l : List Value) (hl : ts.length ≤ 20000) :
    Ok (fun f => callF En (runP En f) 63 [.pointer (some ⟨b, 0, none⟩), .int .i64 kind, .int .i64 p, .string text, .agg ⟨[.int .i64 t, lstV n, lstV sy, lstV l]⟩]) s
      (fun v s' => v = .tuple ⟨[]⟩ ∧ LX s' b str a (ts ++ [⟨kind, p, a, text, t, n, sy, l⟩]) err bad) := by
  obtain ⟨x, h1, h2, h3, h4⟩ := h
  have t3 : scal En 3 = true := by kernel_rfl
  have t23 : scal En 23 = true := by kernel_rfl
  refine Ok.step (fun f => f63_eq f b kind p text t n sy l) ?_
  refine Ok.g rfl ?_
  refine Ok.callP (Ok.new rfl) ?_
  rintro v s1 ⟨rfl, e1, e2, e3⟩
  refine Ok.t rfl ?_
  have g1 : Row s1.mem b (lxC str a x err bad) := h1.congr fun j _ hj => e3 j (by simp [lxC] at hj; omega)
  have g2 : Grow s1.mem (b + 6) s.ctr 34 8 (toksC ts) x := h2.congr (Nat.le_refl _) fun j _ hj => e3 j hj
  refine Ok.segLoad t23 (g1.cell 2 rfl) fun s2 r2 => ?_
  refine Ok.segLoad t3 ((g1.cell 1 rfl).reads r2) fun s3 r3 => ?_
  have r3 := r2.trans r3
  refine Ok.gdL (by kernel_rfl) ?_
  refine Ok.t rfl ?_
  refine Ok.segLoadA (n := 4) (by kernel_rfl) (by kernel_rfl) rfl ?_ (show CellsAt s3.mem s.ctr (s.ctr + 1 + 0) [.int .i64 t, lstV n, lstV sy, lstV l] by rw [r3.1]; exact e2.2) fun s4 r4 => ?_
  · obtain ⟨el, ex, z, sy', hf⟩ := e2.1
    exact ⟨_, by rw [r3.1]; exact hf⟩
  have r4 := r3.trans r4
  refine Ok.gdL (by kernel_rfl) ?_
  refine Ok.t rfl ?_
  refine Ok.g rfl ?_
  have eb : ∀ f : Nat, buildSliceA En 23 1 [(0, Value.agg ⟨[.int .i64 kind, .int .i64 p, .int .i64 a, .string text, .int .i64 t, lstV n, lstV sy, lstV l]⟩)] = .ret (xlstV [Value.agg ⟨[.int .i64 kind, .int .i64 p, .int .i64 a, .string text, .int .i64 t, lstV n, lstV sy, lstV l]⟩]) := fun _ => by kernel_rfl
  refine Ok.seg (Q1 := fun v s' => v = xlstV [Value.agg ⟨[.int .i64 kind, .int .i64 p, .int .i64 a, .string text, .int .i64 t, lstV n, lstV sy, lstV l]⟩] ∧ s'.mem = s4.mem ∧ s'.ctr = s4.ctr ∧ s'.log = []) ?_ ?_
  · refine Ok.mono (Q1 := fun v s' => v = xlstV [Value.agg ⟨[.int .i64 kind, .int .i64 p, .int .i64 a, .string text, .int .i64 t, lstV n, lstV sy, lstV l]⟩] ∧ s' = ⟨s4.mem, s4.ctr, []⟩) ?_ ?_
    · exact ⟨_, _, ⟨rfl, rfl⟩, 0, fun f _ => by
        show (buildSliceA En 23 1 [(0, Value.agg ⟨[.int .i64 kind, .int .i64 p, .int .i64 a, .string text, .int .i64 t, lstV n, lstV sy, lstV l]⟩)]).run _ = _
        rw [eb f]; rfl⟩
    · rintro v s' ⟨rfl, rfl⟩
      exact ⟨rfl, rfl, rfl, rfl⟩
  rintro v s5 ⟨rfl, m5, c5, l5⟩
  refine Ok.gdL (by rw [l5]; kernel_rfl) ?_
  have g5 : Grow s5.mem (b + 6) s5.ctr 34 8 (toksC ts) x := g2.congr (by rw [c5, r4.2.1]; omega) fun j _ _ => by rw [m5, r4.1]
  have c5' : s5.ctr = s1.ctr := by rw [c5, r4.2.1]
  refine Ok.seg (Ok.app (s := ⟨s5.mem, s5.ctr, []⟩) appT23 g5 rfl rfl (by simp only; omega) ?_) ?_
  · rw [toksC_length]; omega
  rintro w s6 ⟨a1, a2, a3⟩
  simp only at a2 a3
  refine Ok.gdL (by kernel_rfl) ?_
  have g6 : Row s6.mem b (lxC str a x err bad) := g1.congr fun j _ hj => by
    rw [a3 j (by simp [lxC] at hj; omega), m5, r4.1]
  have hw := a1.one
  refine Ok.seg (Ok.storeCell (s := ⟨s6.mem, s6.ctr, []⟩) (o := 2) (by kernel_rfl) hw.2 g6 (by simp [lxC]) hw.1) ?_
  rintro v s7 ⟨rfl, b1, b2, b3⟩
  simp only at b1 b3
  refine Ok.gdL (by kernel_rfl) ?_
  refine Ok.ret ⟨rfl, w, b2, ?_, ?_, h4.congr (Nat.le_refl b) fun j hj => ?_⟩
  · rw [toksC_append]
    exact a1.congr (by simp only; omega) fun j h4 _ => b3 j (by omega)
  · simp only; omega
  · simp only
    rw [b3 j (by omega), a3 j (by omega), m5, r4.1, e3 j (by omega)]
end
end Go.Proofs.YtmjbmbmnnephjaaGreatDoor
/- The lexer: value, number, more. -/
namespace Go.Proofs.YtmjbmbmnnephjaaGreatDoor
open Go Go.Ev Go.Proofs
def isLong (c : Int) : Bool := isInside c || decide (c = 46)
theorem long_ok : IsPred 116 isLong := by
  intro s c
  refine Ok.step (fun f => f116_eq f c) ?_
  refine Ok.call (inside_ok s c) ?_
  rintro v s1 ⟨rfl, rfl⟩
  refine Ok.t rfl ?_
  refine Ok.c (fun h => ?_) (fun h => ?_)
  · exact Ok.ret ⟨by simp_all [isLong, boolOf], rfl⟩
  · exact Ok.ret ⟨by simp_all [isLong, boolOf], rfl⟩
theorem space_ok : IsPred 33 fun c => decide (c = 32) := fun s c => Ok.step (fun f => f33_eq f c) (Ok.ret ⟨rfl, rfl⟩)
/-- A piece of a text. -/
def sub (str : ByteArray) (p q : Int) : ByteArray := mkStr (((bl str).drop p.toNat).take (q.toNat - p.toNat))
section
variable {s : St} {b : Nat} {str : ByteArray} {a : Int} {ts : List Tok} {err bad : Int}
/-- An atom's type is told with a minus. -/
def atomT (t : Int) (n : Nat) : Int := if n = 1 then IntKind.i64.wrap ((0 : Int) + Int.neg t) else t
theorem value3_ok [Gh] (h : LX s b str a ts err bad) (p : Int) (hp : 0 ≤ p ∧ p ≤ a ∧ a ≤ (bl str).length) (c : Nat) (t : Int) (n sy l : List Value) (hr : Row s.mem c [.int .i64 t, lstV n, lstV sy, lstV l]) (hl : ts.length ≤ 20000) :
    Ok (fun f => p119_3 f b p c 0) s (fun v s' => v = .tuple ⟨[]⟩ ∧ LX s' b str a (ts ++ [⟨1, p, a, sub str p a, t, n, sy, l⟩]) err bad) := by
  have t3 : scal En 3 = true := by kernel_rfl
  have t9 : scal En 9 = true := by kernel_rfl
  refine Ok.step (fun f => p119_3_eq f b p c 0) ?_
  refine Ok.segLoad t9 h.c0 fun s1 r1 => ?_
  refine Ok.t rfl ?_
  refine Ok.segLoad t3 (h.c1.reads r1) fun s2 r2 => ?_
  refine Ok.gdL (by kernel_rfl) ?_
  have r2 := r1.trans r2
  refine Ok.t rfl ?_
  simp only [intOf, strOf]
  refine Ok.t (decide_eq_true hp.1) ?_
  refine Ok.t (decide_eq_true (by omega)) ?_
  have hp3 := hp.2.2
  simp only [bl] at hp3
  refine Ok.t (by simp only [Bool.and_eq_true]; exact ⟨Nat.ble_eq_true_of_le (by omega), Nat.ble_eq_true_of_le (by omega)⟩) ?_
  refine Ok.segLoadA (n := 4) (by kernel_rfl) (by kernel_rfl) rfl ?_ (show CellsAt s2.mem c (c + 1 + 0) [.int .i64 t, lstV n, lstV sy, lstV l] by rw [r2.1]; exact hr.2) fun s3 r3 => ?_
  · obtain ⟨el, ex, z, sy', hf⟩ := hr.1
    exact ⟨_, by rw [r2.1]; exact hf⟩
  have r3 := r2.trans r3
  refine Ok.gdL (by kernel_rfl) ?_
  refine Ok.t rfl ?_
  have h3 : LX s3 b str a ts err bad := h.reads r3
  have h3 : LX ⟨s3.mem, s3.ctr, []⟩ b str a ts err bad := h3
  refine Ok.seg (add_ok h3 1 p (sub str p a) t n sy l hl) ?_
  rintro v s4 ⟨rfl, h4⟩
  refine Ok.gdL (by kernel_rfl) ?_
  exact Ok.t rfl (Ok.ret ⟨rfl, h4⟩)
theorem value_ok [Gh] (h : LX s b str a ts err bad) (p : Int) (hp : 0 ≤ p ∧ p ≤ a ∧ a ≤ (bl str).length) (t : Int) (n sy l : List Value) (hn : n.length + sy.length ≤ 1000000) (hl : ts.length ≤ 20000) :
    Ok (fun f => callF En (runP En f) 119 [.pointer (some ⟨b, 0, none⟩), .int .i64 p, .agg ⟨[.int .i64 t, lstV n, lstV sy, lstV l]⟩]) s
      (fun v s' => v = .tuple ⟨[]⟩ ∧ LX s' b str a (ts ++ [⟨1, p, a, sub str p a, atomT t (n.length + sy.length), n, sy, l⟩]) err bad) := by
  have t3 : scal En 3 = true := by kernel_rfl
  refine Ok.step (fun f => f119_eq f b p t n sy l) ?_
  refine Ok.g rfl ?_
  refine Ok.callP (Ok.new rfl) ?_
  rintro v s1 ⟨rfl, e1, e2, e3⟩
  refine Ok.t rfl ?_
  simp only [blk_itP, off_itP, Nat.zero_add]
  have h1 : LX s1 b str a ts err bad := h.frame (by omega) e3
  refine Ok.callP (Ok.load1 (by kernel_rfl) (e2.cell 1 rfl)) ?_
  rintro v s2 ⟨rfl, m2, c2, l2⟩
  have r2 : Reads s1 s2 := ⟨m2, c2, [⟨false, s.ctr + 1 + 1, 1⟩, ⟨false, s.ctr, 1⟩], l2, rfl⟩
  refine Ok.t rfl ?_
  refine Ok.callP (Ok.load1 (by kernel_rfl) ((e2.cell 2 rfl).reads r2)) ?_
  rintro v s3 ⟨rfl, m3, c3, l3⟩
  have r3 : Reads s2 s3 := ⟨m3, c3, [⟨false, s.ctr + 1 + 2, 1⟩, ⟨false, s.ctr, 1⟩], l3, rfl⟩
  have r3 := r2.trans r3
  refine Ok.t rfl ?_
  have hw : IntKind.wrap IntKind.i64 (Int.ofNat (n.length + sy.length)) = ((n.length + sy.length : Nat) : Int) := wrap_in _ (by simp only [Int.ofNat_eq_natCast]; omega) (by simp only [Int.ofNat_eq_natCast]; omega)
  simp only [show ∀ x, elems (lstV x) = x from fun _ => rfl, hw]
  refine Ok.c (fun hc => ?_) (fun hc => ?_)
  · have hc := of_decide_eq_true hc
    refine Ok.callP (Ok.load1 t3 ((e2.cell 0 rfl).reads r3)) ?_
    rintro v s4 ⟨rfl, m4, c4, l4⟩
    have r4 : Reads s3 s4 := ⟨m4, c4, [⟨false, s.ctr + 1 + 0, 1⟩, ⟨false, s.ctr, 1⟩], l4, rfl⟩
    have r4 := r3.trans r4
    refine Ok.t rfl ?_
    have e4 : Row s4.mem s.ctr [.int .i64 t, lstV n, lstV sy, lstV l] := by rw [r4.1]; exact e2
    refine Ok.callP (Ok.storeCell (o := 0) (by kernel_rfl) rfl e4 (by simp) rfl) ?_
    rintro v s5 ⟨rfl, c5, e5, f5⟩
    have h5 : LX s5 b str a ts err bad := h.frame (by rw [c5, r4.2.1, e1]; omega) fun k hk => by rw [f5 k (by omega), r4.1, e3 k hk]
    refine Ok.mono (value3_ok h5 p hp s.ctr _ n sy l e5 hl) ?_
    rintro v s' ⟨rfl, h6⟩
    refine ⟨rfl, ?_⟩
    have : atomT t (n.length + sy.length) = IntKind.i64.wrap ((0 : Int) + Int.neg t) := by unfold atomT; rw [if_pos (by omega)]
    rw [this]
    exact h6
  · have hc := of_decide_eq_false hc
    have e4 : Row s3.mem s.ctr [.int .i64 t, lstV n, lstV sy, lstV l] := by rw [r3.1]; exact e2
    refine Ok.mono (value3_ok (h1.reads r3) p hp s.ctr _ n sy l e4 hl) ?_
    rintro v s' ⟨rfl, h6⟩
    refine ⟨rfl, ?_⟩
    have : atomT t (n.length + sy.length) = t := by unfold atomT; rw [if_neg (by omega)]
    rw [this]
    exact h6
end
end Go.Proofs.YtmjbmbmnnephjaaGreatDoor
/- The lexer: number, more. -/
namespace Go.Proofs.YtmjbmbmnnephjaaGreatDoor
open Go Go.Ev Go.Proofs
section
variable {s : St} {b : Nat} {str : ByteArray} {a : Int} {ts : List Tok} {err bad : Int}
/-- All old places but that of the lexer's place are as they were. -/
def Ats (b : Nat) (s s' : St) : Prop := s.ctr ≤ s'.ctr ∧ ∀ k, k < s.ctr → k ≠ b + 2 → s'.mem.get k = s.mem.get k
theorem Ats.refl (b : Nat) (s : St) : Ats b s s := ⟨Nat.le_refl _, fun _ _ _ => rfl⟩
theorem Ats.trans {b : Nat} {s s1 s2 : St} (h : Ats b s s1) (g : Ats b s1 s2) : Ats b s s2 := ⟨Nat.le_trans h.1 g.1, fun k hk hn => (g.2 k (Nat.lt_of_lt_of_le hk h.1) hn).trans (h.2 k hk hn)⟩
theorem Fresh.ats {s s' : St} (b : Nat) (h : Fresh s s') : Ats b s s' := ⟨h.1, fun k hk _ => h.2 k hk⟩
theorem Reads.ats {s s' : St} (b : Nat) (h : Reads s s') : Ats b s s' := Fresh.ats b (Go.Ev.Reads.fresh h)
theorem setAt_ats {s s' : St} (h1 : s'.ctr = s.ctr) (h2 : ∀ k, k ≠ b + 2 → s'.mem.get k = s.mem.get k) : Ats b s s' := ⟨by omega, fun k _ hk => h2 k hk⟩
theorem byteOf_in (str : ByteArray) (k : Int) (h : k < (bl str).length) : byteOf str k = byteI str k := by
  unfold byteOf byteI
  rw [if_pos (by simpa [bl] using h)]
theorem byteOf_out (str : ByteArray) (k : Int) (h : ¬ k < (bl str).length) : byteOf str k = 0 := by
  unfold byteOf
  rw [if_neg (by simpa [bl] using h)]
theorem number_4 [Gh] (h : LX s b str a ts err bad) (n : Nat) (ha : 0 ≤ a ∧ a + n ≤ (bl str).length) (hs : (bl str).length ≤ 1000000) :
    Ok (fun f => p120_4 f b (n : Int)) s (fun v s' => (∃ m : Nat, runV str isLong (a + n) m ∧ v = .string (sub str a (a + n + m))) ∧ LX s' b str a ts err bad ∧ Ats b s s') := by
  have t3 : scal En 3 = true := by kernel_rfl
  have t9 : scal En 9 = true := by kernel_rfl
  refine Ok.step (fun f => p120_4_eq f b n) ?_
  refine Ok.callP (Ok.load1 t3 h.c1) ?_
  rintro v s1 ⟨rfl, m1, c1, l1⟩
  have r1 : Reads s s1 := ⟨m1, c1, [⟨false, b + 1 + 1, 1⟩, ⟨false, b, 1⟩], l1, rfl⟩
  refine Ok.t rfl ?_
  have hw : IntKind.i64.wrap (a + (n : Int)) = a + n := wrap_in _ (by omega) (by omega)
  simp only [intOf, hw]
  refine Ok.callP (setAt_ok (h.reads r1) (a + n)) ?_
  rintro v s2 ⟨rfl, h2, c2, f2⟩
  have a2 := (Reads.ats b r1).trans (setAt_ats c2 f2)
  refine Ok.call (run_ok long_ok s2 (by omega) (by simp only [bl] at ha; omega) (by simp only [bl] at hs; omega) h2.c0 h2.c1) ?_
  rintro v s3 ⟨m, hm, rfl, r3⟩
  have a3 := a2.trans (Reads.ats b r3)
  have h3 := h2.reads r3
  have hm1 := hm.1
  have hbl : (bl str).length = str.data.toList.length := rfl
  refine Ok.t rfl ?_
  refine Ok.callP (Ok.load1 t3 h3.c1) ?_
  rintro v s4 ⟨rfl, m4, c4, l4⟩
  have r4 : Reads s3 s4 := ⟨m4, c4, [⟨false, b + 1 + 1, 1⟩, ⟨false, b, 1⟩], l4, rfl⟩
  have a4 := a3.trans (Reads.ats b r4)
  refine Ok.t rfl ?_
  have hw2 : IntKind.i64.wrap (a + (n : Int) + Int.neg (n : Int)) = a := by
    rw [show a + (n : Int) + Int.neg (n : Int) = a by show a + (n : Int) + -(n : Int) = a; omega]
    exact wrap_in _ (by omega) (by omega)
  simp only [intOf, hw2]
  refine Ok.callP (setAt_ok (h3.reads r4) a) ?_
  rintro v s5 ⟨rfl, h5, c5, f5⟩
  have a5 := a4.trans (setAt_ats c5 f5)
  refine Ok.segLoad t9 h5.c0 fun s6 r6 => ?_
  refine Ok.t rfl ?_
  refine Ok.segLoad t3 (h5.c1.reads r6) fun s7 r7 => ?_
  have r7 := r6.trans r7
  refine Ok.gdL (by kernel_rfl) ?_
  refine Ok.t rfl ?_
  refine Ok.segLoad t3 (h5.c1.reads r7) fun s8 r8 => ?_
  have r8 := r7.trans r8
  refine Ok.gdL (by kernel_rfl) ?_
  refine Ok.t rfl ?_
  have hl : (mkStr (List.take m (List.drop (a + (n : Int)).toNat str.data.toList))).data.toList.length = m := by
    show (List.take m (List.drop (a + (n : Int)).toNat str.data.toList)).length = m
    rw [List.length_take, List.length_drop]; omega
  have hw3 : IntKind.i64.wrap (a + (n : Int) + (m : Int)) = a + n + m := wrap_in _ (by omega) (by omega)
  simp only [intOf, strOf, hw, hl, Int.ofNat_eq_natCast, hw3]
  refine Ok.t (decide_eq_true ha.1) ?_
  refine Ok.t (decide_eq_true (by omega)) ?_
  refine Ok.t (by simp only [Bool.and_eq_true]; exact ⟨Nat.ble_eq_true_of_le (by omega), Nat.ble_eq_true_of_le (by omega)⟩) ?_
  exact Ok.ret ⟨⟨m, hm, rfl⟩, h5.reads r8, a5.trans (Reads.ats b r8)⟩
end
end Go.Proofs.YtmjbmbmnnephjaaGreatDoor
/- The lexer: more. -/
namespace Go.Proofs.YtmjbmbmnnephjaaGreatDoor
open Go Go.Ev Go.Proofs
section
variable {s : St} {b : Nat} {str : ByteArray} {a : Int} {ts : List Tok} {err bad : Int}
theorem bits_ok (s : St) (x : ByteArray) (hx : (bl x).length ≤ 1000000) : Ok (fun f => callF En (runP En f) 118 [(Value.string x), (Value.string (mkStr [48, 49]))]) s (fun v s' => (∃ y, v = .string y ∧ (bl y = [] ↔ ∀ c ∈ bl x, memB [48, 49] c.toNat = true)) ∧ Fresh s s') := by
  refine Ok.mono (trim_ok s x _ (by omega) (by decide) (by decide) (asc _ (by decide))) ?_
  rintro v s' ⟨rfl, h⟩
  exact ⟨⟨_, rfl, trim_nil _ _⟩, h⟩
end
end Go.Proofs.YtmjbmbmnnephjaaGreatDoor
