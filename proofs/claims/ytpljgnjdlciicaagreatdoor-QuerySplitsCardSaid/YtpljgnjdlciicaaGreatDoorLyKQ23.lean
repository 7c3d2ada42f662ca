/- A judgement on what a Prog that hangs on fuel comes to, and its rules. -/
import Derived.Test.YtpljgnjdlciicaaGreatDoorLyKQ18
import Derived.Test.YtpljgnjdlciicaaGreatDoorLyKQ21
import Derived.IntWalk
import Derived.Test.YtpljgnjdlciicaaGreatDoorLyKQ22
namespace Go.Ev
open Go
/-- From some fuel on the Prog comes to one value and one state, of which Q holds. -/
def Ok (p : Nat → Prog) (s : St) (Q : Value → St → Prop) : Prop := ∃ v s', Q v s' ∧ ∃ f0, ∀ f, f0 ≤ f → (p f).run s = some (v, s')
section
variable {s : St} {Q Q1 : Value → St → Prop} {p q : Nat → Prog} {b : Bool} {v : Value}
theorem Ok.ret (h : Q v s) : Ok (fun _ => .ret v) s Q := ⟨v, s, h, 0, fun _ _ => rfl⟩
theorem Ok.t (hb : b = true) (h : Ok p s Q) : Ok (fun f => cnd (p f) (q f) b) s Q := by subst hb; exact h
theorem Ok.f (hb : b = false) (h : Ok q s Q) : Ok (fun f => cnd (p f) (q f) b) s Q := by subst hb; exact h
theorem Ok.c (ht : b = true → Ok p s Q) (hf : b = false → Ok q s Q) : Ok (fun f => cnd (p f) (q f) b) s Q := by
  cases b with
  | true => exact ht rfl
  | false => exact hf rfl
theorem Ok.g (hb : b = true) (h : Ok p s Q) : Ok (fun f => gd b (p f)) s Q := by subst hb; exact h
theorem Ok.mono (h : Ok p s Q1) (hq : ∀ v s', Q1 v s' → Q v s') : Ok p s Q := by
  obtain ⟨v, s', h1, h2⟩ := h
  exact ⟨v, s', hq v s' h1, h2⟩
theorem Ok.step {P T : Nat → Prog} (e : ∀ f, P (f + 1) = T f) (h : Ok T s Q) : Ok P s Q := by
  obtain ⟨v, s', h1, f0, h2⟩ := h
  refine ⟨v, s', h1, f0 + 1, fun f hf => ?_⟩
  cases f with
  | zero => omega
  | succ f => rw [e]; exact h2 f (by omega)
theorem Ok.callE {p : Prog} {k : Value → Prog} {s1 : St} {r : Option (Value × St)} (h : p.run s = some (v, s1)) (e : (k v).run s1 = r) : (Prog.call p k).run s = r := by
  simp only [Prog.run, h]; exact e
theorem Ok.call {k : Nat → Value → Prog} (h : Ok p s Q1) (hk : ∀ v s1, Q1 v s1 → Ok (fun f => k f v) s1 Q) : Ok (fun f => .call (p f) (k f)) s Q := by
  obtain ⟨v, s1, h1, f1, h2⟩ := h
  obtain ⟨w, s2, h3, f2, h4⟩ := hk v s1 h1
  refine ⟨w, s2, h3, f1 + f2, fun f hf => ?_⟩
  exact Ok.callE (h2 f (by omega)) (h4 f (by omega))
theorem Ok.callP {k : Nat → Value → Prog} (h : Ok p s Q1) (hk : ∀ v s1, Q1 v s1 → Ok (fun f => k f v) s1 Q) : Ok (fun f => Ev.callP (k f) (p f)) s Q := by
  obtain ⟨v, s', h1, f0, h2⟩ := Ok.call h hk
  exact ⟨v, s', h1, f0, fun f hf => (callP_eq (k f) s (p f)).trans (h2 f hf)⟩
/-- An operation within, and what it touched: its log starts anew. -/
theorem Ok.seg {k : Nat → Value → List Acc → Nat → Prog} {Q1 : Value → St → Prop} (h : Ok p ⟨s.mem, s.ctr, []⟩ Q1)
    (hk : ∀ v s1, Q1 v s1 → Ok (fun f => k f v s1.log s1.ctr) ⟨s1.mem, s1.ctr, s1.log ++ s.log⟩ Q) : Ok (fun f => .seg (p f) (k f)) s Q := by
  obtain ⟨v, s1, h1, f1, h2⟩ := h
  obtain ⟨w, s2, h3, f2, h4⟩ := hk v s1 h1
  refine ⟨w, s2, h3, f1 + f2, fun f hf => ?_⟩
  obtain ⟨m, c, l⟩ := s
  obtain ⟨m1, c1, l1⟩ := s1
  have e1 := h2 f (by omega)
  have e2 := h4 f (by omega)
  simp only [Prog.run]
  simp only at e1 e2
  rw [e1]
  exact e2
theorem Ok.gdL {mask : Nat} {ws all : List Acc} {done : List Done} (hf : freeL mask ws all done = true) (h : Ok p s Q) : Ok (fun f => Ev.gdL mask ws all done (p f)) s Q := by
  cases done with
  | nil => exact h
  | cons d ds => exact Ok.g hf h
theorem Ok.opt {α : Type} {x : Option α} {a : α} {k : Nat → α → Prog} (hx : x = some a) (h : Ok (fun f => k f a) s Q) : Ok (fun f => Ev.opt x (k f)) s Q := by subst hx; exact h
end
end Go.Ev
/- Rules on memory: loads from rows. -/
namespace Go.Ev
open Go
/-- A cell of a row that is here. -/
def Cell (m : Tr Slot) (b o : Nat) (v : Value) : Prop := (∃ h, m.get b = some (.hdr h)) ∧ m.get (b + 1 + o) = some (.cell b v)
noncomputable def scal (E : Env) (t : TypeId) : Bool := match E.und t with
  | some d => !isAggD d
  | none => false
/-- Nothing has been written. -/
def Reads (s s' : St) : Prop := s'.mem = s.mem ∧ s'.ctr = s.ctr ∧ ∃ l, s'.log = l ++ s.log ∧ writesOf l = []
theorem Reads.refl (s : St) : Reads s s := ⟨rfl, rfl, [], rfl, rfl⟩
theorem writesOf_append : ∀ (a b : List Acc), writesOf (a ++ b) = writesOf a ++ writesOf b
  | [], _ => rfl
  | x :: a, b => by
    simp only [List.cons_append, writesOf, writesOf_append a b]
    split <;> rfl
theorem Reads.trans {s s1 s2 : St} (h : Reads s s1) (g : Reads s1 s2) : Reads s s2 := by
  obtain ⟨e1, e2, l, e3, e4⟩ := h
  obtain ⟨g1, g2, k, g3, g4⟩ := g
  exact ⟨g1.trans e1, g2.trans e2, k ++ l, by rw [g3, e3, List.append_assoc], by rw [writesOf_append, e4, g4]; rfl⟩
theorem rd1 {s : St} {b o : Nat} {v : Value} (h : Cell s.mem b o v) : s.rd b 1 o = some ([v], ⟨s.mem, s.ctr, ⟨false, b + 1 + o, 1⟩ :: ⟨false, b, 1⟩ :: s.log⟩) := by
  obtain ⟨m, c, l⟩ := s
  obtain ⟨⟨hd, h1⟩, h2⟩ := h
  simp only at h1 h2
  simp only [St.rd, h1, rdCells, Nat.add_eq, h2, Nat.beq_refl]
theorem Ok.load1 {E : Env} {t b o : Nat} {v : Value} {s : St} (hs : scal E t = true) (h : Cell s.mem b o v) : Ok (fun _ => loadT E t b o) s (fun w s' => w = v ∧ s'.mem = s.mem ∧ s'.ctr = s.ctr ∧ s'.log = ⟨false, b + 1 + o, 1⟩ :: ⟨false, b, 1⟩ :: s.log) := by
  refine ⟨v, ⟨s.mem, s.ctr, ⟨false, b + 1 + o, 1⟩ :: ⟨false, b, 1⟩ :: s.log⟩, ⟨rfl, rfl, rfl, rfl⟩, 0, fun _ _ => ?_⟩
  unfold scal at hs
  unfold loadT
  cases hu : E.und t with
  | none => rw [hu] at hs; cases hs
  | some d =>
    rw [hu] at hs
    have hd : isAggD d = false := by simpa using hs
    simp only [hd, Prog.run, rd1 h]
/-- In a drawn region: a load of one cell, behind operations that have written nothing. -/
theorem Ok.segLoad {E : Env} {t b o : Nat} {v : Value} {s : St} {Q : Value → St → Prop} {k : Nat → Value → List Acc → Nat → Prog} (hs : scal E t = true) (h : Cell s.mem b o v)
    (hk : ∀ s1, Reads s s1 → Ok (fun f => k f v [⟨false, b + 1 + o, 1⟩, ⟨false, b, 1⟩] s.ctr) s1 Q) : Ok (fun f => .seg (loadT E t b o) (k f)) s Q := by
  refine Ok.seg (Ok.load1 (s := ⟨s.mem, s.ctr, []⟩) hs h) ?_
  rintro w s1 ⟨rfl, e1, e2, e3⟩
  simp only at e1 e2 e3
  rw [e3, e1, e2]
  exact hk _ ⟨rfl, rfl, [⟨false, b + 1 + o, 1⟩, ⟨false, b, 1⟩], rfl, rfl⟩
theorem Cell.reads {s s1 : St} {b o : Nat} {v : Value} (h : Cell s.mem b o v) (r : Reads s s1) : Cell s1.mem b o v := by rw [r.1]; exact h
end Go.Ev
/- Rules on memory: stores of one cell. -/
namespace Go.Ev
open Go
/-- A row that may be written: its header; not read only, not moved, nothing frozen, no olds. -/
def Free (m : Tr Slot) (b n : Nat) : Prop := ∃ el ex z sy, m.get b = some (.hdr ⟨n, el, false, ex, z, 0, sy, false, []⟩)
theorem wr1 {s : St} {b o n : Nat} {v : Value} (h : Free s.mem b n) (ho : o < n) (hv : oneC v = true) :
    s.wr b o [v] = some ⟨s.mem.set (b + 1 + o) (some (.cell b v)), s.ctr, ⟨true, b + 1 + o, 1⟩ :: ⟨false, b, 1⟩ :: s.log⟩ := by
  obtain ⟨m, c, l⟩ := s
  obtain ⟨el, ex, z, sy, h⟩ := h
  simp only at h
  have hb : Nat.ble (o + 1) n = true := Nat.ble_eq_true_of_le ho
  have h0 : Nat.ble 0 o = true := Nat.ble_eq_true_of_le (Nat.zero_le o)
  simp [St.wr, h, hv, layCells, hb, h0]
theorem Ok.store1 {E : Env} {t b o n : Nat} {v : Value} {s : St} (hs : E.size t = some 1) (hc : cellsL v = [v]) (h : Free s.mem b n) (ho : o < n) (hv : oneC v = true) :
    Ok (fun _ => storeT E t b o v) s (fun w s' => w = U ∧ s' = ⟨s.mem.set (b + 1 + o) (some (.cell b v)), s.ctr, ⟨true, b + 1 + o, 1⟩ :: ⟨false, b, 1⟩ :: s.log⟩) := by
  refine ⟨U, _, ⟨rfl, rfl⟩, 0, fun _ _ => ?_⟩
  simp only [storeT, hs, Ev.opt, hc, gd, List.length_cons, List.length_nil, Nat.zero_add, Nat.beq_refl, Prog.run, wr1 h ho hv]
end Go.Ev
/- Rows: what lies in them, rows that grow, new rows, aggregates. -/
namespace Go.Ev
open Go
def CellsAt (m : Tr Slot) (b : Nat) : Nat → List Value → Prop
  | _, [] => True
  | k, v :: vs => m.get k = some (.cell b v) ∧ CellsAt m b (k + 1) vs
theorem CellsAt.congr {m m' : Tr Slot} {b : Nat} : ∀ {vs : List Value} {k : Nat}, CellsAt m b k vs → (∀ j, k ≤ j → j < k + vs.length → m'.get j = m.get j) → CellsAt m' b k vs
  | [], _, _, _ => trivial
  | v :: vs, k, h, e => by
    refine ⟨?_, CellsAt.congr h.2 fun j h1 h2 => e j (by omega) (by simp only [List.length_cons]; omega)⟩
    rw [e k (Nat.le_refl k) (by simp only [List.length_cons]; omega)]
    exact h.1
theorem CellsAt.rd {m : Tr Slot} {b : Nat} : ∀ {vs : List Value} {o : Nat}, CellsAt m b (b + 1 + o) vs → rdCells m b vs.length o = some vs
  | [], _, _ => rfl
  | v :: vs, o, h => by
    have h2 : CellsAt m b (b + 1 + (o + 1)) vs := h.2
    simp only [List.length_cons, rdCells, Nat.add_eq, h.1, Nat.beq_refl, CellsAt.rd h2]
theorem CellsAt.append {m : Tr Slot} {b : Nat} : ∀ {xs ys : List Value} {k : Nat}, CellsAt m b k xs → CellsAt m b (k + xs.length) ys → CellsAt m b k (xs ++ ys)
  | [], ys, k, _, h => by simpa using h
  | a :: xs, ys, k, h, g => by
    refine ⟨h.1, CellsAt.append h.2 ?_⟩
    rw [show k + 1 + xs.length = k + (a :: xs).length by simp only [List.length_cons]; omega]
    exact g
theorem lay_below (b : Nat) : ∀ (vs : List Value) (k : Nat) (m : Tr Slot) (j : Nat), (j < k ∨ k + vs.length ≤ j) → (layCells b vs k m).get j = m.get j
  | [], _, _, _, _ => rfl
  | v :: vs, k, m, j, h => by
    simp only [List.length_cons] at h
    simp only [layCells, Nat.add_eq]
    rw [lay_below b vs (k + 1) _ j (by omega), Tr.get_set, if_neg (by omega)]
theorem CellsAt.lay {b : Nat} : ∀ (vs : List Value) (k : Nat) (m : Tr Slot), CellsAt (layCells b vs k m) b k vs
  | [], _, _ => trivial
  | v :: vs, k, m => by
    simp only [layCells, Nat.add_eq]
    refine ⟨?_, CellsAt.lay vs (k + 1) _⟩
    rw [lay_below b vs (k + 1) _ k (by omega), Tr.get_set, if_pos rfl]
theorem CellsAt.get {m : Tr Slot} {b : Nat} : ∀ {vs : List Value} {k : Nat} (i : Nat) (v : Value), CellsAt m b k vs → vs[i]? = some v → m.get (k + i) = some (.cell b v)
  | [], _, _, _, _, e => by simp at e
  | x :: vs, k, 0, v, h, e => by
    simp only [List.getElem?_cons_zero, Option.some.injEq] at e
    subst e
    exact h.1
  | x :: vs, k, i + 1, v, h, e => by
    simp only [List.getElem?_cons_succ] at e
    have := CellsAt.get i v h.2 e
    rw [show k + (i + 1) = k + 1 + i by omega]
    exact this
theorem CellsAt.cell {m : Tr Slot} {b n : Nat} {vs : List Value} (i : Nat) {v : Value} (f : Free m b n) (h : CellsAt m b (b + 1) vs) (e : vs[i]? = some v) : Cell m b i v := by
  obtain ⟨el, ex, z, sy, hf⟩ := f
  exact ⟨⟨_, hf⟩, CellsAt.get i v h e⟩
theorem CellsAt.set {m : Tr Slot} {b : Nat} : ∀ {vs : List Value} {k : Nat} (i : Nat) (v : Value), CellsAt m b k vs → CellsAt (m.set (k + i) (some (.cell b v))) b k (vs.set i v)
  | [], _, _, _, _ => trivial
  | x :: vs, k, 0, v, h => by
    simp only [List.set_cons_zero]
    refine ⟨by rw [Nat.add_zero, Tr.get_set, if_pos rfl], CellsAt.congr h.2 fun j h1 h2 => by rw [Tr.get_set, if_neg (by omega)]⟩
  | x :: vs, k, i + 1, v, h => by
    simp only [List.set_cons_succ]
    refine ⟨by rw [Tr.get_set, if_neg (by omega)]; exact h.1, ?_⟩
    rw [show k + (i + 1) = k + 1 + i by omega]
    exact CellsAt.set i v h.2
theorem Free.congr {m m' : Tr Slot} {b n : Nat} (h : Free m b n) (e : m'.get b = m.get b) : Free m' b n := by
  obtain ⟨el, ex, z, sy, hf⟩ := h
  exact ⟨el, ex, z, sy, e.trans hf⟩

/-! A row that has no list behind it: its header and its cells. -/
def Row (m : Tr Slot) (b : Nat) (vs : List Value) : Prop := Free m b vs.length ∧ CellsAt m b (b + 1) vs
theorem Row.congr {m m' : Tr Slot} {b : Nat} {vs : List Value} (h : Row m b vs) (e : ∀ j, b ≤ j → j < b + 1 + vs.length → m'.get j = m.get j) : Row m' b vs :=
  ⟨h.1.congr (e b (Nat.le_refl b) (by omega)), h.2.congr fun j h1 h2 => e j (by omega) h2⟩
theorem Row.cell {m : Tr Slot} {b : Nat} {vs : List Value} (i : Nat) {v : Value} (h : Row m b vs) (e : vs[i]? = some v) : Cell m b i v := CellsAt.cell i h.1 h.2 e
theorem Row.set {m : Tr Slot} {b : Nat} {vs : List Value} (i : Nat) (v : Value) (h : Row m b vs) : Row (m.set (b + 1 + i) (some (.cell b v))) b (vs.set i v) := by
  refine ⟨?_, CellsAt.set i v h.2⟩
  rw [List.length_set]
  exact h.1.congr (by rw [Tr.get_set, if_neg (by omega)])

/-! New rows. -/
theorem Ok.new {n el : Nat} {ex z sy : Bool} {vs : List Value} {g : Nat → Value} {s : St} (hn : vs.length = n) :
    Ok (fun _ => Prog.newH (Hdr.mk n el false ex z 0 sy false []) vs (fun k => Prog.ret (g k))) s
      (fun v s' => v = g s.ctr ∧ s'.ctr = s.ctr + n + 1 ∧ Row s'.mem s.ctr vs ∧ ∀ k, k < s.ctr → s'.mem.get k = s.mem.get k) := by
  obtain ⟨m, c, l⟩ := s
  subst hn
  have e : Nat.ble vs.length vs.length = true := Nat.ble_eq_true_of_le (Nat.le_refl _)
  refine ⟨g c, ⟨layCells c vs (c + 1) (m.set c (some (.hdr (Hdr.mk vs.length el false ex z 0 sy false [])))), c + vs.length + 1, ⟨true, c, vs.length + 1⟩ :: l⟩, ⟨rfl, rfl, ⟨⟨el, ex, z, sy, ?_⟩, CellsAt.lay _ _ _⟩, fun k hk => ?_⟩, 0, fun _ _ => ?_⟩
  · simp only
    rw [lay_below _ _ _ _ _ (by omega), Tr.get_set, if_pos rfl]
  · simp only at hk ⊢
    rw [lay_below _ _ _ _ _ (by omega), Tr.get_set, if_neg (by omega)]
  · simp only [Prog.run, e, St.newH, Nat.add_eq]

/-! Aggregates. -/
noncomputable def aggr (E : Env) (t : TypeId) : Bool := match E.und t with
  | some d => isAggD d
  | none => false
theorem Ok.loadA {E : Env} {t b o n : Nat} {vs : List Value} {s : St} (ha : aggr E t = true) (hs : E.size t = some n) (hn : vs.length = n) (hh : ∃ h, s.mem.get b = some (.hdr h)) (h : CellsAt s.mem b (b + 1 + o) vs) :
    Ok (fun _ => loadT E t b o) s (fun w s' => w = .agg ⟨vs⟩ ∧ s'.mem = s.mem ∧ s'.ctr = s.ctr ∧ s'.log = ⟨false, b + 1 + o, n⟩ :: ⟨false, b, 1⟩ :: s.log) := by
  obtain ⟨m, c, l⟩ := s
  obtain ⟨hd, h1⟩ := hh
  simp only at h1 h
  subst hn
  refine ⟨_, ⟨m, c, ⟨false, b + 1 + o, vs.length⟩ :: ⟨false, b, 1⟩ :: l⟩, ⟨rfl, rfl, rfl, rfl⟩, 0, fun _ _ => ?_⟩
  unfold aggr at ha
  unfold loadT
  cases hu : E.und t with
  | none => rw [hu] at ha; cases ha
  | some d =>
    rw [hu] at ha
    simp only [ha, hs, Ev.opt, Prog.run, St.rd, h1, h.rd, Nat.add_eq]
theorem Ok.segLoadA {E : Env} {t b o n : Nat} {vs : List Value} {s : St} {Q : Value → St → Prop} {k : Nat → Value → List Acc → Nat → Prog} (ha : aggr E t = true) (hs : E.size t = some n) (hn : vs.length = n) (hh : ∃ h, s.mem.get b = some (.hdr h)) (h : CellsAt s.mem b (b + 1 + o) vs)
    (hk : ∀ s1, Reads s s1 → Ok (fun f => k f (.agg ⟨vs⟩) [⟨false, b + 1 + o, n⟩, ⟨false, b, 1⟩] s.ctr) s1 Q) : Ok (fun f => .seg (loadT E t b o) (k f)) s Q := by
  refine Ok.seg (Ok.loadA (s := ⟨s.mem, s.ctr, []⟩) ha hs hn hh h) ?_
  rintro w s1 ⟨rfl, e1, e2, e3⟩
  simp only at e1 e2 e3
  rw [e3, e1, e2]
  exact hk _ ⟨rfl, rfl, [⟨false, b + 1 + o, n⟩, ⟨false, b, 1⟩], rfl, rfl⟩
/-- A store of a whole row. -/
theorem Ok.storeRow {E : Env} {t b n : Nat} {vs ws : List Value} {s : St} (hs : E.size t = some n) (h : Row s.mem b vs) (hn : vs.length = n) (hw : ws.length = n) (hv : ws.all oneC = true) :
    Ok (fun _ => storeT E t b 0 (.agg ⟨ws⟩)) s (fun w s' => w = U ∧ s'.ctr = s.ctr ∧ Row s'.mem b ws ∧ ∀ k, (k ≤ b ∨ b + 1 + n ≤ k) → s'.mem.get k = s.mem.get k) := by
  obtain ⟨m, c, l⟩ := s
  obtain ⟨⟨el, ex, z, sy, hf⟩, hc⟩ := h
  simp only at hf hc
  have hb : Nat.ble (0 + ws.length) vs.length = true := Nat.ble_eq_true_of_le (by omega)
  have h0 : Nat.ble 0 0 = true := rfl
  have ec : cellsL (.agg ⟨ws⟩) = ws := rfl
  refine ⟨U, ⟨layCells b ws (b + 1 + 0) m, c, ⟨true, b + 1 + 0, ws.length⟩ :: ⟨false, b, 1⟩ :: l⟩, ⟨rfl, rfl, ⟨⟨el, ex, z, sy, ?_⟩, CellsAt.lay _ _ _⟩, fun k hk => ?_⟩, 0, fun _ _ => ?_⟩
  · simp only
    rw [lay_below _ _ _ _ _ (by omega), hf, hw, hn]
  · simp only
    rw [lay_below _ _ _ _ _ (by omega)]
  · simp only [storeT, hs, Ev.opt, ec, gd, hw, Nat.beq_refl, Prog.run, St.wr, hf, Bool.false_or, h0, hv, Bool.not_true, Nat.add_eq]
    rw [← hn, hn] at *
    simp only [hw] at hb
    simp only [hb, Bool.not_true]
/-- A store of one cell of a row. -/
theorem Ok.storeCell {E : Env} {t b o : Nat} {v : Value} {vs : List Value} {s : St} (hs : E.size t = some 1) (hc : cellsL v = [v]) (h : Row s.mem b vs) (ho : o < vs.length) (hv : oneC v = true) :
    Ok (fun _ => storeT E t b o v) s (fun w s' => w = U ∧ s'.ctr = s.ctr ∧ Row s'.mem b (vs.set o v) ∧ ∀ k, k ≠ b + 1 + o → s'.mem.get k = s.mem.get k) := by
  refine Ok.mono (Ok.store1 hs hc h.1 ho hv) ?_
  rintro w s' ⟨rfl, rfl⟩
  refine ⟨rfl, rfl, h.set o v, fun k hk => ?_⟩
  simp only
  rw [Tr.get_set, if_neg hk]

/-! Rows that grow. -/
def Grow (m : Tr Slot) (lo hi el sz : Nat) (cs : List Value) (v : Value) : Prop :=
  cs.all oneC = true ∧ ((v = .slice none 0 0 ∧ cs = []) ∨
  ∃ r n sy olds, v = .slice (some ⟨r, 0, none⟩) n (capOf n false) ∧ cs.length = n * sz ∧ lo ≤ r ∧ r + 1 + cs.length ≤ hi ∧ (∀ k, k ∈ olds → lo ≤ k ∧ k < r) ∧
    m.get r = some (.hdr ⟨cs.length, el, false, false, true, 0, sy, false, olds⟩) ∧ CellsAt m r (r + 1) cs)
theorem Grow.nil (m : Tr Slot) (lo hi el sz : Nat) : Grow m lo hi el sz [] (.slice none 0 0) := ⟨rfl, .inl ⟨rfl, rfl⟩⟩
theorem Grow.congr {m m' : Tr Slot} {lo hi hi' el sz : Nat} {cs : List Value} {v : Value} (h : Grow m lo hi el sz cs v) (hh : hi ≤ hi') (e : ∀ j, lo ≤ j → j < hi → m'.get j = m.get j) : Grow m' lo hi' el sz cs v := by
  obtain ⟨h1, h2⟩ := h
  refine ⟨h1, ?_⟩
  rcases h2 with h2 | ⟨r, n, sy, olds, a1, a2, a3, a4, a5, a6, a7⟩
  · exact .inl h2
  · refine .inr ⟨r, n, sy, olds, a1, a2, a3, by omega, a5, ?_, a7.congr fun j b1 b2 => e j (by omega) (by omega)⟩
    rw [e r a3 (by omega)]
    exact a6
theorem Grow.one {m : Tr Slot} {lo hi el sz : Nat} {cs : List Value} {v : Value} (h : Grow m lo hi el sz cs v) : oneC v = true ∧ cellsL v = [v] := by
  rcases h.2 with ⟨rfl, _⟩ | ⟨r, n, sy, olds, rfl, _⟩
  · exact ⟨rfl, rfl⟩
  · exact ⟨rfl, rfl⟩
theorem Grow.len {m : Tr Slot} {lo hi el sz : Nat} {cs : List Value} {v : Value} (h : Grow m lo hi el sz cs v) (n : Nat) (hz : 0 < sz) (hn : cs.length = n * sz) : ∃ a c, v = .slice a n c := by
  rcases h.2 with ⟨rfl, rfl⟩ | ⟨r, n', sy, olds, rfl, h2, _⟩
  · refine ⟨none, 0, ?_⟩
    have : n = 0 := by
      cases n with
      | zero => rfl
      | succ n =>
        rw [Nat.succ_mul, List.length_nil] at hn
        omega
    rw [this]
  · have : n' = n := Nat.eq_of_mul_eq_mul_right hz (h2.symm.trans hn)
    exact ⟨_, _, by rw [this]⟩
/-- What 'append' has to know of a slice's type. -/
def AppT (E : Env) (t el sz by_ : Nat) : Prop := E.und t = some (.slice el) ∧ E.size el = some sz ∧ E.bytes el = some by_ ∧ (E.zero el).isSome = true ∧ 0 < sz
theorem all_append {α : Type} (f : α → Bool) (a b : List α) (h : a.all f = true) (g : b.all f = true) : (a ++ b).all f = true := by
  rw [List.all_append, h, g]; rfl
theorem Ok.app {E : Env} {t el sz by_ lo : Nat} {cs : List Value} {v e : Value} {s : St} (ht : AppT E t el sz by_) (h : Grow s.mem lo s.ctr el sz cs v) (he : (cellsL e).length = sz) (he1 : (cellsL e).all oneC = true) (hlo : lo ≤ s.ctr)
    (hn : (cs.length + 1) * (by_ + 1) ≤ 1099511627776) :
    Ok (fun _ => builtinA E Builtin.append (t :: (t :: [])) (v :: (xlstV (e :: []) :: []))) s
      (fun w s' => Grow s'.mem lo s'.ctr el sz (cs ++ cellsL e) w ∧ s.ctr ≤ s'.ctr ∧ ∀ k, k < lo → s'.mem.get k = s.mem.get k) := by
  obtain ⟨m, c, l⟩ := s
  obtain ⟨hu, hs, hb, hz, hz0⟩ := ht
  obtain ⟨zv, hz⟩ := Option.isSome_iff_exists.1 hz
  obtain ⟨hone, hg⟩ := h
  have hel : elemOfSlice E t = some el := by unfold elemOfSlice; rw [hu]
  have hlen : lenA (xlstV [e]) = some 1 := rfl
  have hx : isL (xlstV [e]) = true := rfl
  have hxe : elems (xlstV [e]) = [e] := rfl
  have hok : hdOk sz [e] = true := by simp only [hdOk, he, Nat.beq_refl]
  have hfl : flatC ([e].take 1) = cellsL e := by simp [flatC]
  have hf1 : ∀ k, firstA sz 1 (xlstV [e]) k = gd (hdOk sz [e]) (k (flatC ([e].take 1))) := fun _ => rfl
  rcases hg with ⟨rfl, rfl⟩ | ⟨r, n, sy, olds, rfl, a2, a3, a4, a5, a6, a7⟩
  · have hd : decide ((0 + 1) * (by_ + 1) ≤ 1099511627776) = true := decide_eq_true (by simpa using hn)
    have hbl : Nat.ble (cellsL e).length (cellsL e).length = true := Nat.ble_eq_true_of_le (Nat.le_refl _)
    refine ⟨.slice (some ⟨c, 0, none⟩) 1 (capOf 1 false), ⟨layCells c (cellsL e) (c + 1) (m.set c (some (.hdr ⟨(cellsL e).length, el, false, false, true, 0, false, false, []⟩))), c + (cellsL e).length + 1, ⟨true, c, (cellsL e).length + 1⟩ :: l⟩, ⟨⟨?_, .inr ⟨c, 1, false, [], rfl, ?_, hlo, ?_, fun k hk => ?_, ?_, ?_⟩⟩, ?_, fun k hk => ?_⟩, 0, fun _ _ => ?_⟩
    · simpa using he1
    · simp [he]
    · simp; omega
    · cases hk
    · simp only [List.nil_append]
      rw [lay_below _ _ _ _ _ (by omega), Tr.get_set, if_pos rfl]
    · exact CellsAt.lay _ _ _
    · simp; omega
    · simp only at hlo ⊢
      rw [lay_below _ _ _ _ _ (by omega), Tr.get_set, if_neg (by omega)]
    · simp only [builtinA, appendA, appendB, hel, hu, hs, hb, Ev.opt, isIntD, appN, hlen, hz, gd, hd, appC, hf1, hok, hfl, Nat.zero_add, Prog.run, Prog.new, hbl, St.newH, Nat.add_eq]
  · simp only at a4 a6 a7 hlo
    have hcl : capLo (capOf n false) = n := by show (2 * n + 0) / 2 = n; omega
    have hce : capEx (capOf n false) = false := by
      simp only [capEx, capOf, Nat.add_eq, Nat.mul_eq, Nat.add_zero]
      have : Nat.mod (2 * n) 2 = 0 := by show (2 * n) % 2 = 0; omega
      rw [this]; rfl
    have hnn : n ≤ cs.length := by rw [a2]; exact Nat.le_mul_of_pos_right n hz0
    have hd : decide ((n + 1) * (by_ + 1) ≤ 1099511627776) = true := decide_eq_true (Nat.le_trans (Nat.mul_le_mul_right _ (by omega)) hn)
    have hble : Nat.ble (n + 1) n = false := by
      cases hq : Nat.ble (n + 1) n with
      | false => rfl
      | true => have := Nat.le_of_ble_eq_true hq; omega
    have hg2 : decide (True ∧ 0 + n * sz = cs.length ∧ True ∧ True ∧ True ∧ 0 ≤ n * sz + 1 * sz) = true := decide_eq_true ⟨trivial, by omega, trivial, trivial, trivial, Nat.zero_le _⟩
    have hrd : rdCells m r (n * sz) 0 = some cs := by rw [← a2]; exact CellsAt.rd a7
    have hlenc : (cs ++ cellsL e).length = n * sz + 1 * sz := by rw [List.length_append, a2, he, Nat.one_mul]
    have hbl : Nat.ble (cs ++ cellsL e).length (n * sz + 1 * sz) = true := Nat.ble_eq_true_of_le (by omega)
    refine ⟨.slice (some ⟨c, 0, none⟩) (n + 1) (capOf (n + 1) false), ⟨layCells c (cs ++ cellsL e) (c + 1) ((m.set r (some (.hdr ⟨cs.length, el, false, false, true, 0, sy, true, []⟩))).set c (some (.hdr ⟨n * sz + 1 * sz, el, false, false, true, 0, sy, false, r :: olds⟩))), c + (n * sz + 1 * sz) + 1, ⟨true, c, n * sz + 1 * sz + 1⟩ :: ⟨true, r, 1⟩ :: ⟨false, r + 1 + 0, n * sz⟩ :: ⟨false, r, 1⟩ :: ⟨false, r, 1⟩ :: l⟩, ⟨⟨?_, .inr ⟨c, n + 1, sy, r :: olds, rfl, ?_, hlo, ?_, fun k hk => ?_, ?_, ?_⟩⟩, ?_, fun k hk => ?_⟩, 0, fun _ _ => ?_⟩
    · exact all_append _ _ _ hone he1
    · rw [hlenc, Nat.add_mul]
    · simp only; omega
    · rcases List.mem_cons.1 hk with rfl | hk
      · exact ⟨a3, by omega⟩
      · have := a5 k hk; omega
    · simp only
      rw [lay_below _ _ _ _ _ (by omega), Tr.get_set, if_pos rfl, hlenc]
    · exact CellsAt.lay _ _ _
    · simp only; omega
    · simp only at hlo ⊢
      rw [lay_below _ _ _ _ _ (by omega), Tr.get_set, if_neg (by omega), Tr.get_set, if_neg (by omega)]
    · simp only [builtinA, appendA, appendB, hel, hu, hs, hb, Ev.opt, isIntD, appN, hlen, hz, gd, hd, hcl, hce, hble, appC, hf1, hok, hfl, Prog.run, St.hd, St.setHd, St.rd, a6, hg2, hrd, he1, hbl, St.newH, Nat.add_eq, Bool.true_and, Nat.beq_refl]
end Go.Ev
/- Rules on memory: a copy of a string into a new row, and the string of such a row; what has been written lies above a number. -/
namespace Go.Ev
open Go
/-- All that has been written lies above a number. -/
def Above (c : Nat) (s s' : St) : Prop := ∃ l, s'.log = l ++ s.log ∧ ∀ a, a ∈ writesOf l → c ≤ a.k
theorem Above.trans {c : Nat} {s s1 s2 : St} (h : Above c s s1) (g : Above c s1 s2) : Above c s s2 := by
  obtain ⟨l, e1, e2⟩ := h
  obtain ⟨k, e3, e4⟩ := g
  refine ⟨k ++ l, by rw [e3, e1, List.append_assoc], fun a ha => ?_⟩
  rw [writesOf_append] at ha
  rcases List.mem_append.1 ha with ha | ha
  · exact e4 a ha
  · exact e2 a ha
theorem Reads.above {s s' : St} (c : Nat) (h : Reads s s') : Above c s s' := by
  obtain ⟨_, _, l, e3, e4⟩ := h
  exact ⟨l, e3, fun a ha => by rw [e4] at ha; cases ha⟩
theorem hits_above (c : Nat) (a : Acc) (ha : c ≤ a.k) : ∀ (l : List Acc), (∀ b, b ∈ l → b.k + b.n ≤ c) → hits a l = false
  | [], _ => rfl
  | b :: l, h => by
    have hb := h b (List.mem_cons_self ..)
    have : Nat.blt a.k (Nat.add b.k b.n) = false := by
      cases hq : Nat.blt a.k (Nat.add b.k b.n) with
      | false => rfl
      | true =>
        have h2 : a.k < b.k + b.n := by
          have := Nat.le_of_ble_eq_true hq
          simpa [Nat.succ_le_iff] using this
        omega
    simp only [hits, overlap, this, Bool.false_and, Bool.false_or]
    exact hits_above c a ha l fun b hb => h b (List.mem_cons_of_mem _ hb)
theorem anyHits_above (c : Nat) : ∀ (ws : List Acc), (∀ a, a ∈ ws → c ≤ a.k) → ∀ (l : List Acc), (∀ b, b ∈ l → b.k + b.n ≤ c) → anyHits ws l = false
  | [], _, _, _ => rfl
  | a :: ws, h, l, g => by
    simp only [anyHits, hits_above c a (h a (List.mem_cons_self ..)) l g, Bool.false_or]
    exact anyHits_above c ws (fun a ha => h a (List.mem_cons_of_mem _ ha)) l g
/-- What writes above a number only, and what reads below it. -/
theorem apart_above {c : Nat} {ws all rs : List Acc} (h : ∀ a, a ∈ ws → c ≤ a.k) (g : ∀ b, b ∈ rs → b.k + b.n ≤ c) : apartLogs ws all [] rs = true := by
  unfold apartLogs
  cases ws with
  | nil => rfl
  | cons a ws => simp only [anyHits_above c _ h rs g, Bool.not_false, Bool.and_true]

theorem Ok.newF {n el : Nat} {ex z sy : Bool} {vs : List Value} {g : Nat → Value} {s : St} (hn : vs.length = n) :
    Ok (fun _ => Prog.newH (Hdr.mk n el false ex z 0 sy false []) vs (fun k => Prog.ret (g k))) s
      (fun v s' => v = g s.ctr ∧ s'.ctr = s.ctr + n + 1 ∧ s'.mem.get s.ctr = some (.hdr (Hdr.mk n el false ex z 0 sy false [])) ∧ CellsAt s'.mem s.ctr (s.ctr + 1) vs ∧ (∀ k, k < s.ctr → s'.mem.get k = s.mem.get k) ∧ Above s.ctr s s') := by
  obtain ⟨m, c, l⟩ := s
  subst hn
  have e : Nat.ble vs.length vs.length = true := Nat.ble_eq_true_of_le (Nat.le_refl _)
  refine ⟨g c, ⟨layCells c vs (c + 1) (m.set c (some (.hdr (Hdr.mk vs.length el false ex z 0 sy false [])))), c + vs.length + 1, ⟨true, c, vs.length + 1⟩ :: l⟩, ⟨rfl, rfl, ?_, CellsAt.lay _ _ _, fun k hk => ?_, [⟨true, c, vs.length + 1⟩], rfl, fun a ha => ?_⟩, 0, fun _ _ => ?_⟩
  · simp only
    rw [lay_below _ _ _ _ _ (by omega), Tr.get_set, if_pos rfl]
  · simp only at hk ⊢
    rw [lay_below _ _ _ _ _ (by omega), Tr.get_set, if_neg (by omega)]
  · simp only [writesOf, List.mem_singleton] at ha
    subst ha
    exact Nat.le_refl _
  · simp only [Prog.run, e, St.newH, Nat.add_eq]

theorem Cell.congr {m m' : Tr Slot} {b o : Nat} {v : Value} (h : Cell m b o v) (e1 : m'.get b = m.get b) (e2 : m'.get (b + 1 + o) = m.get (b + 1 + o)) : Cell m' b o v := by
  obtain ⟨⟨hd, h1⟩, h2⟩ := h
  exact ⟨⟨hd, e1.trans h1⟩, e2.trans h2⟩
/-- What a call that allocates, and writes to nothing old, leaves. -/
def Fresh (s s' : St) : Prop := s.ctr ≤ s'.ctr ∧ (∀ k, k < s.ctr → s'.mem.get k = s.mem.get k)
theorem Fresh.refl (s : St) : Fresh s s := ⟨Nat.le_refl _, fun _ _ => rfl⟩
theorem Fresh.trans {s s1 s2 : St} (h : Fresh s s1) (g : Fresh s1 s2) : Fresh s s2 := ⟨Nat.le_trans h.1 g.1, fun k hk => (g.2 k (Nat.lt_of_lt_of_le hk h.1)).trans (h.2 k hk)⟩
theorem Reads.fresh {s s' : St} (h : Reads s s') : Fresh s s' := ⟨Nat.le_of_eq h.2.1.symm, fun k _ => by rw [h.1]⟩
def u8s (l : List UInt8) : List Value := l.map fun b => .int .u8 b.toNat
theorem u8s_length (l : List UInt8) : (u8s l).length = l.length := by simp [u8s]
theorem u8s_one (l : List UInt8) : (u8s l).all oneC = true := by simp [u8s, oneC]
theorem u8s_ok : ∀ (l : List UInt8), allU8 (u8s l) = true
  | [] => rfl
  | b :: l => by
    have := u8s_ok l
    simp only [u8s, List.map_cons, allU8, u8V, Bool.true_and] at this ⊢
    exact this
theorem u8s_bytes : ∀ (l : List UInt8), bytesV (u8s l) = l
  | [] => rfl
  | b :: l => by
    have := u8s_bytes l
    simp only [u8s, List.map_cons, bytesV, intOf, Int.toNat_natCast] at this ⊢
    rw [this]
    simp
theorem Ok.copyStr {E : Env} {t e c n cap : Nat} {x : ByteArray} {vs : List Value} {el : TypeId} {ex z sy : Bool} {s : St} (ht : elemOfSlice E t = some e) (hs : E.size e = some 1) (hh : s.mem.get c = some (.hdr ⟨n, el, false, ex, z, 0, sy, false, []⟩)) (hv : vs.length = n)
    (hx : x.data.toList.length = n) (h0 : 0 < n) :
    Ok (fun _ => builtinA E Builtin.copy (t :: (9 :: [])) (Value.slice (some ⟨c, 0, none⟩) n cap :: (Value.string x :: []))) s
      (fun v s' => v = vInt n ∧ s'.ctr = s.ctr ∧ s'.mem.get c = s.mem.get c ∧ CellsAt s'.mem c (c + 1) (u8s x.data.toList) ∧ (∀ k, (k ≤ c ∨ c + 1 + n ≤ k) → s'.mem.get k = s.mem.get k) ∧ Above c s s') := by
  obtain ⟨m, cc, l⟩ := s
  simp only at hh
  have e1 : firstA 1 n (.string x) = fun k => gd (Nat.beq 1 1) (k ((x.data.toList.take n).map (fun b => .int .u8 b.toNat))) := rfl
  have e2 : x.data.toList.take n = x.data.toList := List.take_of_length_le (by omega)
  have hl : (x.data.toList.map (fun b : UInt8 => Value.int .u8 (b.toNat : Int))).length = n := by simp [hx]
  have ho : (x.data.toList.map (fun b : UInt8 => Value.int .u8 (b.toNat : Int))).all oneC = true := u8s_one _
  have hb : Nat.ble (0 + n) n = true := Nat.ble_eq_true_of_le (by omega)
  have h00 : Nat.ble 0 0 = true := rfl
  obtain ⟨n', rfl⟩ : ∃ n', n = n' + 1 := ⟨n - 1, by omega⟩
  refine ⟨vInt (n' + 1 : Nat), ⟨layCells c (x.data.toList.map (fun b : UInt8 => Value.int .u8 (b.toNat : Int))) (c + 1 + 0) m, cc, ⟨true, c + 1 + 0, n' + 1⟩ :: ⟨false, c, 1⟩ :: l⟩, ⟨rfl, rfl, ?_, CellsAt.lay _ _ _, fun k hk => ?_, [⟨true, c + 1 + 0, n' + 1⟩, ⟨false, c, 1⟩], rfl, fun a ha => ?_⟩, 0, fun _ _ => ?_⟩
  · simp only
    rw [lay_below _ _ _ _ _ (by omega)]
  · simp only
    rw [lay_below _ _ _ _ _ (by omega)]
  · simp only [writesOf, List.mem_singleton] at ha
    subst ha
    simp only; omega
  · simp only [builtinA, copyA, ht, hs, Ev.opt, lenA, hx, Nat.min_self, e1, e2, gd, Nat.beq_refl, Prog.run, St.wr, hh, Bool.false_or, h00, Bool.not_true, ho, hl, Nat.add_eq, hb]
    rfl
/-- 'unsafe.String' of a whole row of bytes. -/
theorem Ok.unsafeStr {E : Env} {pt t2 e c n : Nat} {l : List UInt8} {ex : Bool} {s : St} (hp : ptrElem E pt = some e) (ho : isOne E e = true) (hh : s.mem.get c = some (.hdr ⟨n, e, false, ex, true, 0, false, false, []⟩)) (hl : l.length = n) (h0 : 0 < n) (hn : n ≤ 9223372036854775807)
    (hc : CellsAt s.mem c (c + 1) (u8s l)) :
    Ok (fun _ => builtinA E Builtin.unsafeString (pt :: (t2 :: [])) (Value.pointer (some ⟨c, 0, none⟩) :: (Value.int IntKind.i64 (n : Int) :: []))) s
      (fun v s' => v = .string (mkStr l) ∧ s'.ctr = s.ctr ∧ (∀ k, k ≠ c → s'.mem.get k = s.mem.get k) ∧ Above c s s') := by
  obtain ⟨m, cc, lg⟩ := s
  simp only at hh hc
  have hrd : rdCells m c n 0 = some (u8s l) := by
    have h1 : CellsAt m c (c + 1 + 0) (u8s l) := hc
    have h2 := h1.rd
    rw [u8s_length, hl] at h2
    exact h2
  have g1 : (decide ((0 : Int) ≤ (n : Int)) && decide ((n : Int) ≤ 9223372036854775807)) = true := by simp only [Bool.and_eq_true, decide_eq_true_eq]; omega
  have g2 : decide ((n : Int) = 0) = false := decide_eq_false (by omega)
  refine ⟨.string (mkStr l), ⟨m.set c (some (.hdr ⟨n, e, false, ex, true, Nat.max 0 n, false, false, []⟩)), cc, ⟨true, c, 1⟩ :: ⟨false, c + 1 + 0, n⟩ :: ⟨false, c, 1⟩ :: ⟨false, c, 1⟩ :: lg⟩,
    ⟨rfl, rfl, fun k hk => ?_, [⟨true, c, 1⟩, ⟨false, c + 1 + 0, n⟩, ⟨false, c, 1⟩, ⟨false, c, 1⟩], rfl, fun a ha => ?_⟩, 0, fun _ _ => ?_⟩
  · simp only
    rw [Tr.get_set, if_neg hk]
  · simp only [writesOf, List.mem_singleton] at ha
    subst ha
    simp only; omega
  · simp only [builtinA, gd, g1, g2, Prog.run, Ev.opt, hp, ck, ho, St.hd, hh, Nat.beq_refl, Bool.not_false, Bool.and_true, Bool.true_and, Int.toNat_natCast, St.rd, hrd, u8s_ok, St.setHd, u8s_bytes, Nat.add_eq]
end Go.Ev
/- Rules on memory: rows that are frozen when they are handed over. -/
namespace Go.Ev
open Go
theorem chunk1 : ∀ (n : Nat) (vs : List Value), vs.length = n → ∀ sz, chunkC true sz n vs = vs ∨ sz ≠ 1
  | 0, vs, h, sz => by
    have : vs = [] := List.length_eq_zero_iff.1 h
    subst this
    exact .inl rfl
  | n + 1, [], h, _ => by simp at h
  | n + 1, v :: vs, h, sz => by
    by_cases hs : sz = 1
    · subst hs
      rcases chunk1 n vs (by simpa using h) 1 with e | e
      · left
        simp only [chunkC, List.headD_cons, List.drop_succ_cons, List.drop_zero, e]
      · exact absurd rfl e
    · exact .inr hs
theorem Grow.frz {m : Tr Slot} {lo hi el sz : Nat} {cs : List Value} {r n c : Nat} {l : List Acc} (h : Grow m lo hi el sz cs (.slice (some ⟨r, 0, none⟩) n c)) :
    ∃ s', St.frz ⟨m, hi, l⟩ r (n * sz) 0 = some (cs, s') ∧ s'.ctr = hi ∧ (∀ k, k < lo → s'.mem.get k = m.get k) := by
  obtain ⟨h1, h2⟩ := h
  rcases h2 with ⟨e, _⟩ | ⟨r', n', sy, olds, e, a2, a3, a4, a5, a6, a7⟩
  · cases e
  · cases e
    have hrd : rdCells m r (n * sz) 0 = some cs := by rw [← a2]; exact CellsAt.rd a7
    refine ⟨⟨(kill olds m).set r none, hi, ⟨true, r, 1⟩ :: killLog olds (⟨false, Nat.add (Nat.add r 1) 0, n * sz⟩ :: l)⟩, by simp only [St.frz, a6, Bool.false_or, hrd, h1], rfl, fun k hk => ?_⟩
    simp only
    rw [Tr.get_set, if_neg (by omega), kill_at, if_neg]
    intro hm
    have := a5 k hm
    omega
section
variable {E : Env} {s : St} {Q : Value → St → Prop}
theorem Ok.frzO {b n o : Nat} {vs : List Value} {s1 : St} {k : Nat → List Value → Prog} (h : s.frz b n o = some (vs, s1)) (hk : Ok (fun f => k f vs) s1 Q) : Ok (fun f => .frz b n o (k f)) s Q := by
  obtain ⟨v, s', h1, f0, h2⟩ := hk
  refine ⟨v, s', h1, f0, fun f hf => ?_⟩
  simp only [Prog.run, h]
  exact h2 f hf
/-- A list of plain parts. -/
theorem Ok.frzL {e lo d : Nat} {cs : List Value} {v : Value} {p : Nat → Value → Prog} (hs : E.size e = some 1) (hsl : slots E 20 e = [none]) (h1 : isOneT E e = true) (h : Grow s.mem lo s.ctr e 1 cs v)
    (hk : ∀ s', s'.ctr = s.ctr → (∀ k, k < lo → s'.mem.get k = s.mem.get k) → Ok (fun f => p f (lstV cs)) s' Q) : Ok (fun f => Ev.frzL E (d + 1) e v (p f)) s Q := by
  obtain ⟨m, c, l⟩ := s
  have h' := h
  rcases h.2 with ⟨rfl, rfl⟩ | ⟨r, n, sy, olds, rfl, a2, _⟩
  · exact hk _ rfl fun _ _ => rfl
  · by_cases hn : n = 0
    · subst hn
      have : cs = [] := List.length_eq_zero_iff.1 (by omega)
      subst this
      exact hk _ rfl fun _ _ => rfl
    · obtain ⟨s', f1, f2, f3⟩ := Grow.frz (l := l) h'
      have hb : Nat.beq n 0 = false := by cases n with
        | zero => exact absurd rfl hn
        | succ n => rfl
      have hc : chunkC true 1 n cs = cs := by
        rcases chunk1 n cs (by omega) 1 with e | e
        · exact e
        · exact absurd rfl e
      have e2 : ∀ f, Ev.frzL E (d + 1) e (.slice (some ⟨r, 0, none⟩) n (capOf n false)) (p f) = .frz r (n * 1) 0 fun vs => p f (lstV (chunkC true 1 n vs)) := by
        intro f
        unfold Ev.frzL
        simp only [hb, hs, Ev.opt, ck, hsl, anySome, h1, Nat.mul_eq]
        rfl
      simp only [e2]
      refine Ok.frzO f1 ?_
      rw [hc]
      exact hk s' f2 f3
theorem Ok.frzLst {e d : Nat} {cs : List Value} {p : Nat → Value → Prog} (hk : Ok (fun f => p f (lstV cs)) s Q) : Ok (fun f => Ev.frzL E (d + 1) e (lstV cs) (p f)) s Q := hk
theorem Ok.frzNil {e d : Nat} {p : Nat → Value → Prog} (hk : Ok (fun f => p f (lstV [])) s Q) : Ok (fun f => Ev.frzL E (d + 1) e (.slice none 0 0) (p f)) s Q := hk
end
end Go.Ev
/- Rules on memory: several parts are appended; a row of bytes as a string. -/
namespace Go.Ev
open Go
def ints (l : List Value) : Bool := l.all fun v => match v with
  | .int _ _ => true
  | _ => false
theorem flatC_ints : ∀ (l : List Value), ints l = true → flatC l = l
  | [], _ => rfl
  | v :: l, h => by
    simp only [ints, List.all_cons, Bool.and_eq_true] at h
    have h2 := flatC_ints l h.2
    cases v with
    | int k n => simp only [flatC, h2]; rfl
    | _ => simp at h
theorem ints_one (l : List Value) (h : ints l = true) : l.all oneC = true := by
  simp only [ints, List.all_eq_true] at h ⊢
  intro v hv
  have := h v hv
  cases v <;> simp_all [oneC]
theorem ints_hd (l : List Value) (h : ints l = true) : hdOk 1 l = true := by
  cases l with
  | nil => rfl
  | cons v l =>
    simp only [ints, List.all_cons, Bool.and_eq_true] at h
    cases v with
    | int k n => rfl
    | _ => simp at h
theorem ints_append {a b : List Value} (ha : ints a = true) (hb : ints b = true) : ints (a ++ b) = true := by
  simp only [ints, List.all_append, Bool.and_eq_true] at *
  exact ⟨ha, hb⟩
/-- A buffer of numbers: a list without room, or a row that grows. -/
def Buf (s : St) (lo el : Nat) (cs : List Value) (v : Value) : Prop := ints cs = true ∧ lo ≤ s.ctr ∧ (Grow s.mem lo s.ctr el 1 cs v ∨ v = xlstV cs)
theorem Buf.grow {s : St} {lo el : Nat} {cs : List Value} {v : Value} (h : Buf s lo el cs v) (e : ∃ a b c, v = Value.slice a b c) : Grow s.mem lo s.ctr el 1 cs v := by
  obtain ⟨a, b, c, rfl⟩ := e
  rcases h.2.2 with g | g
  · exact g
  · cases g
theorem Buf.fresh {s s' : St} {lo el : Nat} {cs : List Value} {v : Value} (h : Buf s lo el cs v) (f : Fresh s s') : Buf s' lo el cs v := by
  obtain ⟨h1, h2, h3⟩ := h
  refine ⟨h1, by have := f.1; omega, ?_⟩
  rcases h3 with h3 | h3
  · exact .inl (h3.congr f.1 fun j _ hj => f.2 j hj)
  · exact .inr h3
theorem Ok.appM {E : Env} {t el by_ lo : Nat} {cs es : List Value} {v : Value} {s : St} (ht : AppT E t el 1 by_) (h : Buf s lo el cs v) (he : ints es = true) (h0 : 0 < es.length) (hn : (cs.length + es.length) * (by_ + 1) ≤ 1099511627776) :
    Ok (fun _ => builtinA E Builtin.append (t :: (t :: [])) (v :: (xlstV es :: []))) s
      (fun w s' => Buf s' lo el (cs ++ es) w ∧ s.ctr ≤ s'.ctr ∧ (∀ k, k < lo → s'.mem.get k = s.mem.get k) ∧ ∃ a b c, w = Value.slice a b c) := by
  obtain ⟨m, c, l⟩ := s
  obtain ⟨hu, hs, hb, hz, hz0⟩ := ht
  obtain ⟨zv, hz⟩ := Option.isSome_iff_exists.1 hz
  obtain ⟨hi, hlo, hg⟩ := h
  have hel : elemOfSlice E t = some el := by unfold elemOfSlice; rw [hu]
  have hlen : lenA (xlstV es) = some es.length := rfl
  have hok : hdOk 1 es = true := ints_hd es he
  have hoke : hdOk 1 cs = true := ints_hd cs hi
  have hone := ints_one cs hi
  have hone2 := ints_one es he
  have hfl : flatC (es.take es.length) = es := by rw [List.take_length]; exact flatC_ints es he
  have hfl1 : flatC cs = cs := flatC_ints cs hi
  have hf1 : ∀ n k, firstA 1 n (xlstV es) k = gd (hdOk 1 es) (k (flatC (es.take n))) := fun _ _ => rfl
  obtain ⟨n1, hn1⟩ : ∃ n1, es.length = n1 + 1 := ⟨es.length - 1, by omega⟩
  have hbi := ints_append hi he
  rcases hg with ⟨_, ⟨rfl, rfl⟩ | ⟨r, n, sy, olds, rfl, a2, a3, a4, a5, a6, a7⟩⟩ | rfl
  · have hd : decide ((0 + (n1 + 1)) * (by_ + 1) ≤ 1099511627776) = true := decide_eq_true (by rw [← hn1]; simpa using hn)
    have hbl : Nat.ble es.length es.length = true := Nat.ble_eq_true_of_le (Nat.le_refl _)
    refine ⟨.slice (some ⟨c, 0, none⟩) (n1 + 1) (capOf (n1 + 1) false), ⟨layCells c es (c + 1) (m.set c (some (.hdr ⟨es.length, el, false, false, true, 0, false, false, []⟩))), c + es.length + 1, ⟨true, c, es.length + 1⟩ :: l⟩, ⟨⟨hbi, ?_, .inl ⟨?_, .inr ⟨c, n1 + 1, false, [], rfl, ?_, hlo, ?_, fun k hk => ?_, ?_, ?_⟩⟩⟩, ?_, fun k hk => ?_, ⟨_, _, _, rfl⟩⟩, 0, fun _ _ => ?_⟩
    · simp only at hlo ⊢; omega
    · simpa using hone2
    · simp [hn1]
    · simp; omega
    · cases hk
    · simp only [List.nil_append]
      rw [lay_below _ _ _ _ _ (by omega), Tr.get_set, if_pos rfl]
    · exact CellsAt.lay _ _ _
    · simp; omega
    · simp only at hlo ⊢
      rw [lay_below _ _ _ _ _ (by omega), Tr.get_set, if_neg (by omega)]
    · have hfl' : flatC (es.take (n1 + 1)) = es := by rw [← hn1]; exact hfl
      simp only [builtinA, appendA, appendB, hel, hu, hs, hb, Ev.opt, isIntD, appN, hlen, hn1, hz, gd, hd, appC, hf1, hok, hfl', Prog.run, Prog.new]
      rw [show Nat.ble (n1 + 1) (n1 + 1) = true from Nat.ble_eq_true_of_le (Nat.le_refl _)]
      simp only [St.newH, Nat.add_eq]
  · simp only at a4 a6 a7 hlo
    have hcl : capLo (capOf n false) = n := by show (2 * n + 0) / 2 = n; omega
    have hce : capEx (capOf n false) = false := by
      simp only [capEx, capOf, Nat.add_eq, Nat.mul_eq, Nat.add_zero]
      have : Nat.mod (2 * n) 2 = 0 := by show (2 * n) % 2 = 0; omega
      rw [this]; rfl
    have hd : decide ((n + (n1 + 1)) * (by_ + 1) ≤ 1099511627776) = true := decide_eq_true (by rw [← hn1, show n = cs.length by omega]; exact hn)
    have hble : Nat.ble (n + (n1 + 1)) n = false := by
      cases hq : Nat.ble (n + (n1 + 1)) n with
      | false => rfl
      | true => have := Nat.le_of_ble_eq_true hq; omega
    have hg2 : decide (True ∧ 0 + n * 1 = cs.length ∧ True ∧ True ∧ True ∧ 0 ≤ n * 1 + (n1 + 1) * 1) = true := decide_eq_true ⟨trivial, by omega, trivial, trivial, trivial, Nat.zero_le _⟩
    have hrd : rdCells m r (n * 1) 0 = some cs := by rw [← a2]; exact CellsAt.rd a7
    have hlenc : (cs ++ es).length = n * 1 + (n1 + 1) * 1 := by rw [List.length_append, hn1]; omega
    have hbl : Nat.ble (cs ++ es).length (n * 1 + (n1 + 1) * 1) = true := Nat.ble_eq_true_of_le (by omega)
    refine ⟨.slice (some ⟨c, 0, none⟩) (n + (n1 + 1)) (capOf (n + (n1 + 1)) false), ⟨layCells c (cs ++ es) (c + 1) ((m.set r (some (.hdr ⟨cs.length, el, false, false, true, 0, sy, true, []⟩))).set c (some (.hdr ⟨n * 1 + (n1 + 1) * 1, el, false, false, true, 0, sy, false, r :: olds⟩))), c + (n * 1 + (n1 + 1) * 1) + 1, ⟨true, c, n * 1 + (n1 + 1) * 1 + 1⟩ :: ⟨true, r, 1⟩ :: ⟨false, r + 1 + 0, n * 1⟩ :: ⟨false, r, 1⟩ :: ⟨false, r, 1⟩ :: l⟩, ⟨⟨hbi, ?_, .inl ⟨?_, .inr ⟨c, n + (n1 + 1), sy, r :: olds, rfl, ?_, hlo, ?_, fun k hk => ?_, ?_, ?_⟩⟩⟩, ?_, fun k hk => ?_, ⟨_, _, _, rfl⟩⟩, 0, fun _ _ => ?_⟩
    · simp only; omega
    · exact all_append _ _ _ hone hone2
    · rw [hlenc]; omega
    · simp only; omega
    · rcases List.mem_cons.1 hk with rfl | hk
      · exact ⟨a3, by omega⟩
      · have := a5 k hk; omega
    · simp only
      rw [lay_below _ _ _ _ _ (by omega), Tr.get_set, if_pos rfl, hlenc]
    · exact CellsAt.lay _ _ _
    · simp only; omega
    · simp only at hlo ⊢
      rw [lay_below _ _ _ _ _ (by omega), Tr.get_set, if_neg (by omega), Tr.get_set, if_neg (by omega)]
    · have hfl' : flatC (es.take (n1 + 1)) = es := by rw [← hn1]; exact hfl
      simp only [builtinA, appendA, appendB, hel, hu, hs, hb, Ev.opt, isIntD, appN, hlen, hn1, hz, gd, hd, hcl, hce, hble, appC, hf1, hok, hfl', Prog.run, St.hd, St.setHd, St.rd, a6, hg2, hrd, hone2, hbl, St.newH, Nat.add_eq, Bool.true_and, Nat.beq_refl]
  · have hx : isXl (xlstV cs) = true := rfl
    have hxe : elems (xlstV cs) = cs := rfl
    have hd : (hdOk 1 cs && decide ((cs.length + (n1 + 1)) * (by_ + 1) ≤ 1099511627776)) = true := by
      rw [hoke, Bool.true_and]; exact decide_eq_true (by rw [← hn1]; exact hn)
    have happ : appendA E (t :: (t :: [])) (xlstV cs :: (xlstV es :: [])) = appendX E t t cs (xlstV es) := rfl
    refine ⟨.slice (some ⟨c, 0, none⟩) (cs.length + (n1 + 1)) (capOf (cs.length + (n1 + 1)) false), ⟨layCells c (cs ++ es) (c + 1) (m.set c (some (.hdr ⟨(cs ++ es).length, el, false, false, true, 0, false, false, []⟩))), c + (cs ++ es).length + 1, ⟨true, c, (cs ++ es).length + 1⟩ :: l⟩, ⟨⟨hbi, ?_, .inl ⟨all_append _ _ _ hone hone2, .inr ⟨c, cs.length + (n1 + 1), false, [], rfl, ?_, hlo, ?_, fun k hk => ?_, ?_, ?_⟩⟩⟩, ?_, fun k hk => ?_, ⟨_, _, _, rfl⟩⟩, 0, fun _ _ => ?_⟩
    · simp only at hlo ⊢; omega
    · rw [List.length_append, hn1, Nat.mul_one]
    · simp only; omega
    · cases hk
    · simp only
      rw [lay_below _ _ _ _ _ (by omega), Tr.get_set, if_pos rfl]
    · exact CellsAt.lay _ _ _
    · simp only; omega
    · simp only at hlo ⊢
      rw [lay_below _ _ _ _ _ (by omega), Tr.get_set, if_neg (by omega)]
    · have hfl' : flatC (es.take (n1 + 1)) = es := by rw [← hn1]; exact hfl
      have hbl : Nat.ble (cs ++ es).length (cs ++ es).length = true := Nat.ble_eq_true_of_le (Nat.le_refl _)
      simp only [builtinA, happ, appendX, hel, hu, hs, hb, Ev.opt, isIntD, appN, hlen, hn1, hz, gd, hd, appC, hf1, hok, hfl', hfl1, Prog.run, Prog.new, hbl, St.newH, Nat.add_eq]
/-- A row of bytes as a string. -/
theorem Ok.convStr {E : Env} {src dst e : Nat} {lo el : Nat} {cs : List Value} {v : Value} {s : St} (h1 : E.und src = some (.slice e)) (h2 : E.und dst = some .string) (h3 : isU8 E e = true) (h : Grow s.mem lo s.ctr el 1 cs v) (hu : allU8 cs = true) :
    Ok (fun _ => convA E src dst v) s (fun w s' => w = .string (mkStr (bytesV cs)) ∧ Reads s s') := by
  obtain ⟨m, c, l⟩ := s
  rcases h.2 with ⟨rfl, rfl⟩ | ⟨r, n, sy, olds, rfl, a2, a3, a4, a5, a6, a7⟩
  · refine ⟨_, ⟨m, c, l⟩, ⟨rfl, Reads.refl _⟩, 0, fun _ _ => ?_⟩
    simp only [convA, h1, h2, Ev.opt, ck, h3, Prog.run, bytesV]
  · have hrd : rdCells m r n 0 = some cs := by
      have := CellsAt.rd (o := 0) a7
      rw [a2, Nat.mul_one] at this
      exact this
    refine ⟨_, ⟨m, c, ⟨false, Nat.add (Nat.add r 1) 0, n⟩ :: ⟨false, r, 1⟩ :: l⟩, ⟨rfl, rfl, rfl, [⟨false, Nat.add (Nat.add r 1) 0, n⟩, ⟨false, r, 1⟩], rfl, rfl⟩, 0, fun _ _ => ?_⟩
    simp only at a6
    simp only [convA, h1, h2, Ev.opt, ck, h3, Prog.run, St.rd, a6, hrd, hu, gd]
end Go.Ev
/- Numbers that fit; runs within that read alone. -/
namespace Go.Ev
open Go
theorem freeL_reads (m : Nat) (sg : List Acc) (h : writesOf sg = []) : ∀ (ds : List Done), (∀ d ∈ ds, d.ws = []) → freeL m (writesOf sg) sg ds = true
  | [], _ => rfl
  | d :: ds, g => by
    have hd := g d (List.mem_cons_self ..)
    have ih := freeL_reads m sg h ds fun d hd => g d (List.mem_cons_of_mem _ hd)
    simp only [freeL, ih, Bool.and_true, Bool.or_eq_true]
    right
    simp only [apartLogs, h, hd, Bool.and_self]
theorem segReads {p : Nat → Prog} {s : St} {R : Value → Prop} {Q : Value → St → Prop} {k : Nat → Value → List Acc → Nat → Prog} (h : Ok p ⟨s.mem, s.ctr, []⟩ (fun v s' => R v ∧ Reads ⟨s.mem, s.ctr, []⟩ s'))
    (hk : ∀ v s1 sg, R v → Reads s s1 → writesOf sg = [] → Ok (fun f => k f v sg s.ctr) s1 Q) : Ok (fun f => .seg (p f) (k f)) s Q := by
  refine Ok.seg h ?_
  rintro v s1 ⟨hR, e1, e2, l, e3, e4⟩
  simp only [List.append_nil] at e1 e2 e3
  rw [e2]
  exact hk v _ s1.log hR ⟨e1, rfl, s1.log, rfl, by rw [e3]; exact e4⟩ (by rw [e3]; exact e4)
theorem Ok.segRet {s : St} {Q : Value → St → Prop} {v : Value} {k : Nat → Value → List Acc → Nat → Prog} (hk : ∀ s1, Reads s s1 → Ok (fun f => k f v [] s.ctr) s1 Q) : Ok (fun f => .seg (.ret v) (k f)) s Q := by
  refine Ok.seg (Q1 := fun w s' => w = v ∧ s' = ⟨s.mem, s.ctr, []⟩) (Ok.ret ⟨rfl, rfl⟩) ?_
  rintro w s1 ⟨rfl, rfl⟩
  exact hk _ ⟨rfl, rfl, [], rfl, rfl⟩
end Go.Ev
namespace Go.Proofs.YtpljgnjdlciicaaGreatDoor
open Go Go.Ev Go.Proofs
theorem wrap_in (n : Int) (h1 : -9223372036854775808 ≤ n) (h2 : n ≤ 9223372036854775807) : IntKind.i64.wrap n = n := by
  exact IntWalk.i64_in n ⟨h1, h2⟩
theorem sBlk_s (b o n c : Nat) : sBlk (.slice (some ⟨b, o, none⟩) n c) = b := rfl
theorem sOff_s (b o n c : Nat) : sOff (.slice (some ⟨b, o, none⟩) n c) = o := rfl
theorem sLen_s (a : Option Addr) (n c : Nat) : sLen (.slice a n c) = n := rfl
theorem sCap_s (a : Option Addr) (n c : Nat) : sCap (.slice a n c) = c := rfl
theorem blk_itP (c : Nat) : blkOf (itP c) = c := rfl
theorem off_itP (c : Nat) : offOf (itP c) = 0 := rfl
theorem callP_ret (k : Value → Prog) (v : Value) : Ev.callP k (.ret v) = k v := rfl
theorem wrap1 {i : Int} (h : 0 ≤ i ∧ i ≤ 1000000) : IntKind.i64.wrap (i + 1) = i + 1 := wrap_in _ (by omega) (by omega)
end Go.Proofs.YtpljgnjdlciicaaGreatDoor
/- Words that many proofs share: bytes of texts, tokens and their rows, buffers of bytes. -/
namespace Go.Ev
open Go
theorem CellsAt.right {m : Tr Slot} {b : Nat} : ∀ {xs ys : List Value} {k : Nat}, CellsAt m b k (xs ++ ys) → CellsAt m b (k + xs.length) ys
  | [], _, _, h => by simpa using h
  | x :: xs, ys, k, h => by
    have := CellsAt.right (xs := xs) h.2
    rw [show k + (x :: xs).length = k + 1 + xs.length by simp only [List.length_cons]; omega]
    exact this
end Go.Ev
namespace Go.Proofs.YtpljgnjdlciicaaGreatDoor
open Go Go.Ev Go.Proofs
abbrev bl (s : ByteArray) : List UInt8 := s.data.toList
theorem beqB_eq : ∀ (a b : List UInt8), beqB a b = decide (a = b)
  | [], [] => rfl
  | [], _ :: _ => rfl
  | _ :: _, [] => rfl
  | a :: x, b :: y => by
    unfold beqB
    cases h : Nat.beq a.toNat b.toNat with
    | true =>
      have : a = b := UInt8.toNat_inj.1 (Nat.eq_of_beq_eq_true h)
      subst this
      simp [beqB_eq x y]
    | false =>
      have : a ≠ b := fun e => by subst e; simp at h
      simp [this]
theorem bl_mk (l : List UInt8) : bl (mkStr l) = l := rfl
theorem mk_bl (x : ByteArray) : mkStr (bl x) = x := rfl
theorem byteAt_lt (x : ByteArray) (i : Nat) : byteAt x i < 256 := by
  unfold byteAt
  exact UInt8.toNat_lt _
/-- A token: what its cells are. -/
structure Tok where
  kind : Int
  at_ : Int
  en : Int
  text : ByteArray
  t : Int
  n : List Value
  sy : List Value
  l : List Value
def Tok.cells (t : Tok) : List Value := [.int .i64 t.kind, .int .i64 t.at_, .int .i64 t.en, .string t.text, .int .i64 t.t, lstV t.n, lstV t.sy, lstV t.l]
def toksC : List Tok → List Value
  | [] => []
  | t :: ts => t.cells ++ toksC ts
theorem toksC_append : ∀ (a b : List Tok), toksC (a ++ b) = toksC a ++ toksC b
  | [], _ => rfl
  | t :: a, b => by simp only [List.cons_append, toksC, toksC_append a b, List.append_assoc]
theorem toksC_length : ∀ (a : List Tok), (toksC a).length = a.length * 8
  | [] => rfl
  | t :: a => by simp only [toksC, List.length_append, toksC_length a, List.length_cons, Nat.add_mul]; simp [Tok.cells]; omega
theorem toksC_one : ∀ (a : List Tok), (toksC a).all oneC = true
  | [] => rfl
  | t :: a => by
    rw [toksC, List.all_append, toksC_one a]
    rfl
theorem appT23 : AppT En 42 50 8 120 := ⟨by kernel_rfl, by kernel_rfl, by kernel_rfl, by kernel_rfl, by omega⟩
theorem sl2 : slots En 20 2 = [none] := by kernel_rfl
theorem sl9 : slots En 20 9 = [none] := by kernel_rfl
theorem appT29 : AppT En 31 9 1 16 := ⟨by kernel_rfl, by kernel_rfl, by kernel_rfl, by kernel_rfl, by omega⟩
def tokV (t : Tok) : Value := .agg ⟨t.cells⟩
def sl34 : List (Option TypeId) := [none, none, none, none, none, some 2, some 9, some 34]
theorem slots34 : slots En 20 50 = sl34 := by kernel_rfl
theorem frzGo_toks : ∀ (ts : List Tok) (k : List Value → Prog), frzGo (frzL En 19) ((List.replicate ts.length ()).flatMap fun _ => sl34) (toksC ts) k = k (toksC ts)
  | [], _ => rfl
  | t :: ts, k => by
    have ih := frzGo_toks ts fun r => k (t.cells ++ r)
    show frzGo (frzL En 19) (sl34 ++ (List.replicate ts.length ()).flatMap fun _ => sl34) (t.cells ++ toksC ts) k = k (t.cells ++ toksC ts)
    rw [← ih]
    rfl
theorem chunk_toks : ∀ (ts : List Tok), chunkC false 8 ts.length (toksC ts) = ts.map tokV
  | [] => rfl
  | t :: ts => by
    have ih := chunk_toks ts
    show Value.agg ⟨(t.cells ++ toksC ts).take 8⟩ :: chunkC false 8 ts.length ((t.cells ++ toksC ts).drop 8) = tokV t :: ts.map tokV
    rw [← ih]
    rfl
theorem frz_toks {s : St} {lo : Nat} {ts : List Tok} {v : Value} {Q : Value → St → Prop} {p : Nat → Value → Prog} (h : Grow s.mem lo s.ctr 50 8 (toksC ts) v)
    (hk : ∀ s', s'.ctr = s.ctr → (∀ k, k < lo → s'.mem.get k = s.mem.get k) → Ok (fun f => p f (lstV (ts.map tokV))) s' Q) : Ok (fun f => frzL En 20 50 v (p f)) s Q := by
  obtain ⟨m, c, l⟩ := s
  have h' := h
  rcases h.2 with ⟨rfl, e⟩ | ⟨r, n, sy, olds, rfl, a2, _⟩
  · have : ts = [] := by
      cases ts with
      | nil => rfl
      | cons t ts => have := congrArg List.length e; rw [toksC_length] at this; simp at this
    subst this
    exact hk _ rfl fun _ _ => rfl
  · rw [toksC_length] at a2
    have hn : ts.length = n := by omega
    by_cases h0 : n = 0
    · subst h0
      have : ts = [] := List.length_eq_zero_iff.1 hn
      subst this
      exact hk _ rfl fun _ _ => rfl
    · obtain ⟨s', f1, f2, f3⟩ := Grow.frz (l := l) h'
      have hb : Nat.beq n 0 = false := by cases n with
        | zero => exact absurd rfl h0
        | succ n => rfl
      have hs : En.size 50 = some 8 := by kernel_rfl
      have h1 : isOneT En 50 = false := by kernel_rfl
      have e2 : ∀ f, frzL En (19 + 1) 50 (.slice (some ⟨r, 0, none⟩) n (capOf n false)) (p f) = .frz r (n * 8) 0 fun vs => frzGo (frzL En 19) ((List.replicate n ()).flatMap fun _ => sl34) vs fun vs => p f (lstV (chunkC false 8 n vs)) := by
        intro f
        unfold frzL
        simp only [hb, hs, Ev.opt, ck, slots34, h1, Nat.mul_eq]
        rfl
      have e3 : ∀ f, frzL En 20 50 (.slice (some ⟨r, 0, none⟩) n (capOf n false)) (p f) = .frz r (n * 8) 0 fun vs => frzGo (frzL En 19) ((List.replicate n ()).flatMap fun _ => sl34) vs fun vs => p f (lstV (chunkC false 8 n vs)) := e2
      simp only [e3]
      refine Ok.frzO f1 ?_
      subst hn
      simp only [frzGo_toks, chunk_toks]
      exact hk s' f2 f3
theorem appT65 : AppT En 122 5 1 1 := ⟨by kernel_rfl, by kernel_rfl, by kernel_rfl, by kernel_rfl, by omega⟩
theorem b65_1 (a : Int) : buildSliceA En 122 1 ((Prod.mk 0 (Value.int IntKind.u8 a)) :: []) = .ret (xlstV (Value.int IntKind.u8 a :: [])) := by kernel_rfl
theorem b65_4 (a b c d : Int) : buildSliceA En 122 4 ((Prod.mk 0 (Value.int IntKind.u8 a)) :: ((Prod.mk 1 (Value.int IntKind.u8 b)) :: ((Prod.mk 2 (Value.int IntKind.u8 c)) :: ((Prod.mk 3 (Value.int IntKind.u8 d)) :: [])))) =
  .ret (xlstV (Value.int IntKind.u8 a :: Value.int IntKind.u8 b :: Value.int IntKind.u8 c :: Value.int IntKind.u8 d :: [])) := by kernel_rfl
theorem allU8_append : ∀ (a b : List Value), allU8 a = true → allU8 b = true → allU8 (a ++ b) = true
  | [], _, _, h => h
  | v :: a, b, h, g => by
    simp only [allU8, Bool.and_eq_true, List.cons_append] at *
    exact ⟨h.1, allU8_append a b h.2 g⟩
theorem conv65 {lo : Nat} {cs : List Value} {v : Value} {s : St} (h : Grow s.mem lo s.ctr 5 1 cs v) (hu : allU8 cs = true) :
    Ok (fun _ => convA En 122 9 v) s (fun w s' => w = .string (mkStr (bytesV cs)) ∧ Reads s s') := Ok.convStr (e := 5) (by kernel_rfl) (by kernel_rfl) (by kernel_rfl) h hu
/-- One operation more in a drawn region: a list is built, and appended. -/
theorem push_seg {s : St} {lo : Nat} {cs es : List Value} {v : Value} {Q : Value → St → Prop} {k : Nat → Value → Prog} {bs : Prog} {i1 m : Nat} (hbs : bs = .ret (xlstV es)) (h : Buf s lo 5 cs v) (he : ints es = true) (h0 : 0 < es.length) (hn : cs.length + es.length ≤ 100000000) (hm : Nat.testBit m i1 = true)
    (hk : ∀ w s', Buf s' lo 5 (cs ++ es) w → (∃ a b c, w = .slice a b c) → s.ctr ≤ s'.ctr → (∀ k, k < lo → s'.mem.get k = s.mem.get k) → Ok (fun f => k f w) s' Q) :
    Ok (fun f => .seg bs fun v68 s69 _ => .seg (builtinA En Builtin.append (122 :: (122 :: [])) (v :: (v68 :: []))) fun v70 s71 _ => Ev.gdL m (writesOf s71) s71 [⟨i1, writesOf s69, s69⟩] (k f v70)) s Q := by
  subst hbs
  refine Ok.seg (Q1 := fun v s' => v = xlstV es ∧ s' = ⟨s.mem, s.ctr, []⟩) (Ok.ret ⟨rfl, rfl⟩) ?_
  rintro w s1 ⟨rfl, rfl⟩
  have h1 : Buf ⟨s.mem, s.ctr, []⟩ lo 5 cs v := h
  refine Ok.seg (Ok.appM appT65 h1 he h0 (by omega)) ?_
  rintro w s2 ⟨g1, g2, g3, g4⟩
  exact Ok.gdL (by simp [freeL, hm]) (hk w _ g1 g4 g2 g3)
theorem hexOk (c : Nat) (h : c < 256) : (Nat.ble (Nat.succ (Nat.mod c 16)) 16) = true ∧ (Nat.ble (Nat.succ (Int.toNat (IntKind.wrap IntKind.u8 (Int.ofNat (Nat.div c 16))))) 16) = true ∧ (decide ((0 : Int) ≤ (IntKind.wrap IntKind.u8 (Int.ofNat (Nat.div c 16))))) = true := by
  have hm : Nat.mod c 16 < 16 := Nat.mod_lt c (by omega)
  have hd : Nat.div c 16 < 16 := by show c / 16 < 16; omega
  have e : IntKind.wrap IntKind.u8 (Int.ofNat (Nat.div c 16)) = Int.ofNat (Nat.div c 16) := IntWalk.u8_in _ ⟨by simp only [Int.ofNat_eq_natCast]; omega, by simp only [Int.ofNat_eq_natCast]; omega⟩
  rw [e]
  exact ⟨Nat.ble_eq_true_of_le (by omega), Nat.ble_eq_true_of_le (by simp only [Int.ofNat_eq_natCast, Int.toNat_natCast]; omega), decide_eq_true (by simp only [Int.ofNat_eq_natCast]; omega)⟩
theorem bytesV_length : ∀ (l : List Value), (bytesV l).length = l.length
  | [] => rfl
  | a :: l => by simp [bytesV, bytesV_length l]
end Go.Proofs.YtpljgnjdlciicaaGreatDoor
/- The reference's lexer: small functions; its row. -/
namespace Go.Proofs.YtpljgnjdlciicaaGreatDoor
open Go Go.Ev Go.Proofs
def isLetter (c : Int) : Bool := decide (97 ≤ c) && decide (c ≤ 122) || decide (65 ≤ c) && decide (c ≤ 90)
def isDigit (c : Int) : Bool := decide (48 ≤ c) && decide (c ≤ 57)
def isInside (c : Int) : Bool := isLetter c || (isDigit c || decide (c = 95))
theorem letter_ok (s : St) (c : Int) : Ok (fun f => callF En (runP En f) 69 [.int .u8 c]) s (fun v s' => v = .bool (isLetter c) ∧ s' = s) := by
  refine Ok.step (fun f => f69_eq f c) ?_
  unfold isLetter
  repeat' (first | refine Ok.c (fun h => ?_) (fun h => ?_) | exact Ok.ret ⟨by simp_all <;> omega, rfl⟩)
theorem digit_ok (s : St) (c : Int) : Ok (fun f => callF En (runP En f) 111 [.int .u8 c]) s (fun v s' => v = .bool (isDigit c) ∧ s' = s) := by
  refine Ok.step (fun f => f111_eq f c) ?_
  unfold isDigit
  repeat' (first | refine Ok.c (fun h => ?_) (fun h => ?_) | exact Ok.ret ⟨by simp_all <;> omega, rfl⟩)
theorem inside_ok (s : St) (c : Int) : Ok (fun f => callF En (runP En f) 70 [.int .u8 c]) s (fun v s' => v = .bool (isInside c) ∧ s' = s) := by
  refine Ok.step (fun f => f70_eq f c) ?_
  refine Ok.call (letter_ok s c) ?_
  rintro v s1 ⟨rfl, rfl⟩
  refine Ok.t rfl ?_
  refine Ok.c (fun h => ?_) (fun h => ?_)
  · exact Ok.ret ⟨by simp_all [isInside, boolOf], rfl⟩
  · refine Ok.call (digit_ok _ c) ?_
    rintro v s1 ⟨rfl, rfl⟩
    refine Ok.t rfl ?_
    refine Ok.c (fun h1 => ?_) (fun h1 => ?_)
    · exact Ok.ret ⟨by simp_all [isInside, boolOf], rfl⟩
    · exact Ok.ret ⟨by simp_all [isInside, boolOf], rfl⟩
theorem among_loop (s : St) (c : Int) (x : ByteArray) (hx : (bl x).length ≤ 1000000) : ∀ (m : Nat) (i : Int), 0 ≤ i → (bl x).length - i < m → Ok (fun f => p73_2 f c x i) s (fun v s' => (∃ r, v = .bool r) ∧ s' = s) := by
  have hbl : (bl x).length = x.data.toList.length := rfl
  intro m
  induction m with
  | zero =>
    intro i h0 hm
    refine Ok.step (fun f => p73_2_eq f c x i) ?_
    exact Ok.f (decide_eq_false (by simp only [Int.ofNat_eq_natCast]; omega)) (Ok.ret ⟨⟨_, rfl⟩, rfl⟩)
  | succ m ih =>
    intro i h0 hm
    refine Ok.step (fun f => p73_2_eq f c x i) ?_
    refine Ok.c (fun h => ?_) (fun _ => Ok.ret ⟨⟨_, rfl⟩, rfl⟩)
    have h := of_decide_eq_true h
    simp only [Int.ofNat_eq_natCast] at h
    refine Ok.t (decide_eq_true h0) (Ok.t (Nat.ble_eq_true_of_le (by omega)) ?_)
    refine Ok.c (fun _ => Ok.ret ⟨⟨_, rfl⟩, rfl⟩) (fun _ => ?_)
    simp only [wrap1 (show 0 ≤ i ∧ i ≤ 1000000 by omega)]
    exact ih (i + 1) (by omega) (by omega)
theorem among_ok (s : St) (c : Int) (x : ByteArray) (hx : (bl x).length ≤ 1000000) : Ok (fun f => callF En (runP En f) 73 [.int .u8 c, .string x]) s (fun v s' => (∃ r, v = .bool r) ∧ s' = s) := by
  refine Ok.step (fun f => f73_eq f c x) ?_
  exact among_loop s c x hx ((bl x).length + 1) 0 (by omega) (by omega)
theorem itself_ok (s : St) (c : Int) : Ok (fun f => callF En (runP En f) 184 [.int .u8 c]) s (fun v s' => (∃ r, v = .bool r) ∧ s' = s) := by
  refine Ok.step (fun f => f184_eq f c) ?_
  repeat' (first | with_reducible refine Ok.c (fun h => ?_) (fun h => ?_) | exact Ok.ret ⟨⟨_, rfl⟩, rfl⟩)
theorem hex_ok (s : St) (c : Int) : Ok (fun f => callF En (runP En f) 185 [.int .u8 c]) s (fun v s' => (∃ r, v = .int .i64 r) ∧ s' = s) := by
  refine Ok.step (fun f => f185_eq f c) ?_
  repeat' (first | with_reducible refine Ok.c (fun h => ?_) (fun h => ?_) | exact Ok.ret ⟨⟨_, rfl⟩, rfl⟩)
def lxC (str : ByteArray) (a : Int) (l : Value) (err bad : Int) : List Value := [.string str, .int .i64 a, l, .int .i64 err, .int .i64 bad]
/-- The lexer's row is at b: its text, its place, its tokens, its error; what lies low is as it was. -/
def RX (m0 : Tr Slot) (lo : Nat) (s : St) (b : Nat) (str : ByteArray) (a : Int) (ts : List Tok) (err bad : Int) : Prop :=
  ∃ l, Row s.mem b (lxC str a l err bad) ∧ Grow s.mem (b + 6) s.ctr 50 8 (toksC ts) l ∧ b + 6 ≤ s.ctr ∧ lo ≤ b ∧ ∀ k, k < lo → s.mem.get k = m0.get k
section
variable {m0 : Tr Slot} {lo : Nat} {s : St} {b : Nat} {str : ByteArray} {a : Int} {ts : List Tok} {err bad : Int}
theorem RX.c0 (h : RX m0 lo s b str a ts err bad) : Cell s.mem b 0 (.string str) := by
  obtain ⟨l, h, _⟩ := h
  exact h.cell 0 rfl
theorem RX.c1 (h : RX m0 lo s b str a ts err bad) : Cell s.mem b 1 (.int .i64 a) := by
  obtain ⟨l, h, _⟩ := h
  exact h.cell 1 rfl
theorem RX.c3 (h : RX m0 lo s b str a ts err bad) : Cell s.mem b 3 (.int .i64 err) := by
  obtain ⟨l, h, _⟩ := h
  exact h.cell 3 rfl
theorem RX.c4 (h : RX m0 lo s b str a ts err bad) : Cell s.mem b 4 (.int .i64 bad) := by
  obtain ⟨l, h, _⟩ := h
  exact h.cell 4 rfl
theorem RX.ctr (h : RX m0 lo s b str a ts err bad) : b + 6 ≤ s.ctr := by
  obtain ⟨l, _, _, h, _⟩ := h
  exact h
theorem RX.frame {s' : St} (h : RX m0 lo s b str a ts err bad) (hc : s.ctr ≤ s'.ctr) (e : ∀ k, k < s.ctr → s'.mem.get k = s.mem.get k) : RX m0 lo s' b str a ts err bad := by
  obtain ⟨l, h1, h2, h3, h4, h5⟩ := h
  exact ⟨l, h1.congr fun j _ hj => e j (by simp [lxC] at hj; omega), h2.congr hc fun j _ hj => e j hj, by omega, h4, fun k hk => by rw [e k (by omega), h5 k hk]⟩
theorem RX.fresh {s' : St} (h : RX m0 lo s b str a ts err bad) (e : Fresh s s') : RX m0 lo s' b str a ts err bad := h.frame e.1 e.2
theorem RX.reads {s' : St} (h : RX m0 lo s b str a ts err bad) (r : Reads s s') : RX m0 lo s' b str a ts err bad := h.frame (by rw [r.2.1]; exact Nat.le_refl _) fun k _ => by rw [r.1]
/-- A number of the row is set. -/
theorem RX.set1 (h : RX m0 lo s b str a ts err bad) (a' : Int) : Ok (fun _ => storeT En 3 b 1 (.int .i64 a')) s (fun w s' => w = U ∧ RX m0 lo s' b str a' ts err bad ∧ s'.ctr = s.ctr ∧ ∀ k, k ≠ b + 2 → s'.mem.get k = s.mem.get k) := by
  obtain ⟨l, h1, h2, h3, h4, h5⟩ := h
  refine Ok.mono (Ok.storeCell (by kernel_rfl) rfl h1 (by simp [lxC]) rfl) ?_
  rintro w s' ⟨rfl, e1, e2, e3⟩
  exact ⟨rfl, ⟨l, e2, h2.congr (by omega) fun j h4 h5 => e3 j (by omega), by omega, h4, fun k hk => by rw [e3 k (by omega), h5 k hk]⟩, e1, fun k hk => e3 k (by omega)⟩
theorem RX.set3 (h : RX m0 lo s b str a ts err bad) (a' : Int) : Ok (fun _ => storeT En 3 b 3 (.int .i64 a')) s (fun w s' => w = U ∧ RX m0 lo s' b str a ts a' bad ∧ s'.ctr = s.ctr ∧ ∀ k, k ≠ b + 4 → s'.mem.get k = s.mem.get k) := by
  obtain ⟨l, h1, h2, h3, h4, h5⟩ := h
  refine Ok.mono (Ok.storeCell (by kernel_rfl) rfl h1 (by simp [lxC]) rfl) ?_
  rintro w s' ⟨rfl, e1, e2, e3⟩
  exact ⟨rfl, ⟨l, e2, h2.congr (by omega) fun j h4 h5 => e3 j (by omega), by omega, h4, fun k hk => by rw [e3 k (by omega), h5 k hk]⟩, e1, fun k hk => e3 k (by omega)⟩
theorem RX.set4 (h : RX m0 lo s b str a ts err bad) (a' : Int) : Ok (fun _ => storeT En 3 b 4 (.int .i64 a')) s (fun w s' => w = U ∧ RX m0 lo s' b str a ts err a' ∧ s'.ctr = s.ctr ∧ ∀ k, k ≠ b + 5 → s'.mem.get k = s.mem.get k) := by
  obtain ⟨l, h1, h2, h3, h4, h5⟩ := h
  refine Ok.mono (Ok.storeCell (by kernel_rfl) rfl h1 (by simp [lxC]) rfl) ?_
  rintro w s' ⟨rfl, e1, e2, e3⟩
  exact ⟨rfl, ⟨l, e2, h2.congr (by omega) fun j h4 h5 => e3 j (by omega), by omega, h4, fun k hk => by rw [e3 k (by omega), h5 k hk]⟩, e1, fun k hk => e3 k (by omega)⟩
/-- A byte of the text; none: 0. -/
def byteZ (str : ByteArray) (i : Int) : Int := if 0 ≤ i ∧ i < (bl str).length then Int.ofNat (byteAt str i.toNat) else 0
theorem byteZ_rng (str : ByteArray) (i : Int) : 0 ≤ byteZ str i ∧ byteZ str i ≤ 255 := by
  unfold byteZ
  split
  · have := byteAt_lt str i.toNat
    simp only [Int.ofNat_eq_natCast]
    omega
  · omega
theorem byteZ_lt {str : ByteArray} {i : Int} (h : byteZ str i ≠ 0) : 0 ≤ i ∧ i < (bl str).length := by
  unfold byteZ at h
  split at h
  · assumption
  · exact absurd rfl h
theorem rbyte_ok (h : RX m0 lo s b str a ts err bad) (i : Int) : Ok (fun f => callF En (runP En f) 71 [.pointer (some ⟨b, 0, none⟩), .int .i64 i]) s (fun v s' => v = .int .u8 (byteZ str i) ∧ Reads s s') := by
  have hbl : (bl str).length = str.data.toList.length := rfl
  refine Ok.step (fun f => f71_eq f b i) ?_
  refine Ok.c (fun h0 => ?_) (fun h0 => ?_)
  · have h0 := of_decide_eq_true h0
    exact Ok.ret ⟨by unfold byteZ; rw [if_neg (by omega)], Reads.refl s⟩
  have h0 := of_decide_eq_false h0
  refine Ok.callP (Ok.load1 (by kernel_rfl) h.c0) ?_
  rintro v s1 ⟨rfl, m1, c1, l1⟩
  have r1 : Reads s s1 := ⟨m1, c1, [_, _], l1, rfl⟩
  refine Ok.t rfl ?_
  refine Ok.c (fun h1 => ?_) (fun h1 => ?_)
  · have h1 := of_decide_eq_true h1
    simp only [strOf, Int.ofNat_eq_natCast] at h1
    exact Ok.ret ⟨by unfold byteZ; rw [if_neg (by omega)], r1⟩
  · have h1 := of_decide_eq_false h1
    simp only [strOf, Int.ofNat_eq_natCast] at h1
    refine Ok.callP (Ok.load1 (by kernel_rfl) (h.reads r1).c0) ?_
    rintro v s2 ⟨rfl, m2, c2, l2⟩
    have r2 : Reads s1 s2 := ⟨m2, c2, [_, _], l2, rfl⟩
    refine Ok.t rfl (Ok.t (decide_eq_true (by omega)) (Ok.t (Nat.ble_eq_true_of_le (by simp only [strOf]; omega)) ?_))
    exact Ok.ret ⟨by unfold byteZ; rw [if_pos (by omega)]; rfl, r1.trans r2⟩
theorem rfail_ok (h : RX m0 lo s b str a ts err bad) (e p : Int) :
    Ok (fun f => callF En (runP En f) 63 [.pointer (some ⟨b, 0, none⟩), .int .i64 e, .int .i64 p]) s (fun v s' => v = .tuple ⟨[]⟩ ∧ RX m0 lo s' b str a ts (if err = 0 then e else err) (if err = 0 then p else bad) ∧ s'.ctr = s.ctr ∧ ∀ k, (k ≤ b ∨ b + 6 ≤ k) → s'.mem.get k = s.mem.get k) := by
  refine Ok.step (fun f => f63_eq f b e p) ?_
  refine Ok.callP (Ok.load1 (by kernel_rfl) h.c3) ?_
  rintro v s1 ⟨rfl, m1, c1, l1⟩
  have r1 : Reads s s1 := ⟨m1, c1, [_, _], l1, rfl⟩
  refine Ok.t rfl ?_
  refine Ok.c (fun he => ?_) (fun he => ?_)
  · have he := of_decide_eq_true he
    have he : err = 0 := he
    refine Ok.callP (RX.set3 (h.reads r1) e) ?_
    rintro w s2 ⟨rfl, h2, c2, f2⟩
    refine Ok.callP (RX.set4 h2 p) ?_
    rintro w s3 ⟨rfl, h3, c3, f3⟩
    refine Ok.ret ⟨rfl, by rw [if_pos he, if_pos he]; exact h3, by omega, fun k hk => by rw [f3 k (by omega), f2 k (by omega), m1]⟩
  · have he := of_decide_eq_false he
    have he : err ≠ 0 := he
    exact Ok.ret ⟨rfl, by rw [if_neg he, if_neg he]; exact h.reads r1, c1, fun k _ => by rw [m1]⟩
end
end Go.Proofs.YtpljgnjdlciicaaGreatDoor
/- The reference's lexer: a token more. -/
namespace Go.Proofs.YtpljgnjdlciicaaGreatDoor
open Go Go.Ev Go.Proofs
theorem len42s (a : Option Addr) (n c : Nat) : builtinA En Builtin.len (42 :: []) (Value.slice a n c :: []) = .ret (vInt n) := by kernel_rfl
section
variable {m0 : Tr Slot} {lo : Nat} {s : St} {b : Nat} {str : ByteArray} {a : Int} {ts : List Tok} {err bad : Int}
theorem rtoken_ok (h : RX m0 lo s b str a ts err bad) (kind en : Int) (text : ByteArray) (t : Int) (n sy l : List Value) (hl : ts.length ≤ 20000) :
    Ok (fun f => callF En (runP En f) 64 [.pointer (some ⟨b, 0, none⟩), .int .i64 kind, .int .i64 en, .string text, .agg ⟨[.int .i64 t, lstV n, lstV sy, lstV l]⟩]) s
      (fun v s' => v = .tuple ⟨[]⟩ ∧ ((ts.length < 16384 ∧ RX m0 lo s' b str en (ts ++ [⟨kind, a, en, text, t, n, sy, l⟩]) err bad) ∨ (RX m0 lo s' b str a ts (if err = 0 then 6 else err) (if err = 0 then a else bad)))) := by
  have t3 : scal En 3 = true := by kernel_rfl
  have t42 : scal En 42 = true := by kernel_rfl
  refine Ok.step (fun f => f64_eq f b kind en text t n sy l) ?_
  refine Ok.g rfl ?_
  refine Ok.callP (Ok.new rfl) ?_
  rintro v s1 ⟨rfl, e1, e2, e3⟩
  have h1 : RX m0 lo s1 b str a ts err bad := h.frame (by omega) e3
  have hctr := h.ctr
  refine Ok.t rfl ?_
  obtain ⟨x, q1, q2, q3, q4, q5⟩ := id h1
  refine Ok.callP (Ok.load1 t42 (q1.cell 2 rfl)) ?_
  rintro v s2 ⟨rfl, m2, c2, l2⟩
  have r2 : Reads s1 s2 := ⟨m2, c2, [_, _], l2, rfl⟩
  have h2 := h1.reads r2
  obtain ⟨ad, cp, hx⟩ := q2.len ts.length (by omega) (toksC_length ts)
  subst hx
  simp only [len42s, callP_ret]
  refine Ok.t rfl ?_
  refine Ok.c (fun _ => ?_) (fun hge => ?_)
  · refine Ok.callP (Ok.load1 t3 h2.c1) ?_
    rintro v s3 ⟨rfl, m3, c3, l3⟩
    have h3 := h2.reads ⟨m3, c3, [_, _], l3, rfl⟩
    refine Ok.t rfl ?_
    refine Ok.call (rfail_ok h3 6 a) ?_
    rintro v s4 ⟨rfl, h4, _⟩
    exact Ok.t rfl (Ok.ret ⟨rfl, .inr h4⟩)
  have hge := of_decide_eq_false hge
  have hge : ¬ ((ts.length : Int) ≥ 16384) := hge
  have g1 : Row s2.mem b (lxC str a (.slice ad ts.length cp) err bad) := by rw [m2]; exact q1
  have g2 : Grow s2.mem (b + 6) s1.ctr 50 8 (toksC ts) (.slice ad ts.length cp) := q2.congr (Nat.le_refl _) fun j _ hj => by rw [m2]
  refine Ok.segLoad t42 (g1.cell 2 rfl) fun s3 r3 => ?_
  refine Ok.segLoad t3 ((g1.cell 1 rfl).reads r3) fun s4 r4 => ?_
  have r4 := r3.trans r4
  refine Ok.gdL (by kernel_rfl) (Ok.t rfl ?_)
  refine Ok.segLoadA (n := 4) (by kernel_rfl) (by kernel_rfl) rfl ?_ (show CellsAt s4.mem s.ctr (s.ctr + 1 + 0) [.int .i64 t, lstV n, lstV sy, lstV l] by rw [r4.1, m2]; exact e2.2) fun s5 r5 => ?_
  · obtain ⟨el, ex, z, sy', hf⟩ := e2.1
    exact ⟨_, by rw [r4.1, m2]; exact hf⟩
  have r5 := r4.trans r5
  refine Ok.gdL (by kernel_rfl) (Ok.t rfl (Ok.g rfl ?_))
  have eb : ∀ f : Nat, buildSliceA En 42 1 [(0, Value.agg ⟨[.int .i64 kind, .int .i64 a, .int .i64 en, .string text, .int .i64 t, lstV n, lstV sy, lstV l]⟩)] = .ret (xlstV [Value.agg ⟨[.int .i64 kind, .int .i64 a, .int .i64 en, .string text, .int .i64 t, lstV n, lstV sy, lstV l]⟩]) := fun _ => by kernel_rfl
  refine Ok.seg (Q1 := fun v s' => v = xlstV [Value.agg ⟨[.int .i64 kind, .int .i64 a, .int .i64 en, .string text, .int .i64 t, lstV n, lstV sy, lstV l]⟩] ∧ s' = ⟨s5.mem, s5.ctr, []⟩) ?_ ?_
  · exact ⟨_, _, ⟨rfl, rfl⟩, 0, fun f _ => by
      show (buildSliceA En 42 1 [(0, Value.agg ⟨[.int .i64 kind, .int .i64 a, .int .i64 en, .string text, .int .i64 t, lstV n, lstV sy, lstV l]⟩)]).run _ = _
      rw [eb f]; rfl⟩
  rintro v s6 ⟨rfl, rfl⟩
  refine Ok.gdL (by kernel_rfl) ?_
  have g5 : Grow s5.mem (b + 6) s5.ctr 50 8 (toksC ts) (.slice ad ts.length cp) := g2.congr (by rw [r5.2.1, c2]; omega) fun j _ _ => by rw [r5.1]
  have c5' : s5.ctr = s1.ctr := by rw [r5.2.1, c2]
  refine Ok.seg (Ok.app (s := ⟨s5.mem, s5.ctr, []⟩) appT23 g5 rfl rfl (by simp only; omega) ?_) ?_
  · rw [toksC_length]; omega
  rintro w s7 ⟨a1, a2, a3⟩
  simp only at a2 a3
  refine Ok.gdL (by kernel_rfl) ?_
  have g7 : Row s7.mem b (lxC str a (.slice ad ts.length cp) err bad) := g1.congr fun j _ hj => by
    rw [a3 j (by simp [lxC] at hj; omega), r5.1]
  have hw := a1.one
  refine Ok.seg (Ok.storeCell (s := ⟨s7.mem, s7.ctr, []⟩) (o := 2) (by kernel_rfl) hw.2 g7 (by simp [lxC]) hw.1) ?_
  rintro v s8 ⟨rfl, b1, b2, b3⟩
  simp only at b1 b3
  refine Ok.gdL (by kernel_rfl) ?_
  have h8 : RX m0 lo ⟨s8.mem, s8.ctr, s8.log ++ (s7.log ++ ([] ++ s5.log))⟩ b str a (ts ++ [⟨kind, a, en, text, t, n, sy, l⟩]) err bad := by
    refine ⟨w, b2, ?_, by simp only; omega, q4, fun k hk => ?_⟩
    · rw [toksC_append]
      exact a1.congr (by simp only; omega) fun j h4 _ => b3 j (by omega)
    · simp only
      rw [b3 k (by omega), a3 k (by omega), r5.1, m2, q5 k hk]
  refine Ok.callP (RX.set1 h8 en) ?_
  rintro v s9 ⟨rfl, h9, _⟩
  exact Ok.ret ⟨rfl, .inl ⟨by omega, h9⟩⟩
end
end Go.Proofs.YtpljgnjdlciicaaGreatDoor
/- What a run leaves alone, and what it wrote: beside one row, and all that lies above a number. -/
namespace Go.Ev
open Go
/-- What was written lies in the row at b (of seven cells), or above a number. -/
def Wl (b lo : Nat) (l : List Acc) : Prop := ∀ a, a ∈ writesOf l → (b ≤ a.k ∧ a.k + a.n ≤ b + 8) ∨ lo ≤ a.k
structure Kq (b lo : Nat) (s s' : St) : Prop where
  ctr : s.ctr ≤ s'.ctr
  mem : ∀ k, k < lo → (k < b ∨ b + 8 ≤ k) → s'.mem.get k = s.mem.get k
  log : ∃ l, s'.log = l ++ s.log ∧ Wl b lo l
theorem Wl.append {b lo : Nat} {l k : List Acc} (h : Wl b lo l) (g : Wl b lo k) : Wl b lo (l ++ k) := fun a ha => by
  rw [writesOf_append] at ha
  rcases List.mem_append.1 ha with ha | ha
  · exact h a ha
  · exact g a ha
theorem Wl.weaken {b lo lo' : Nat} {l : List Acc} (h : Wl b lo l) (e : lo' ≤ lo) : Wl b lo' l := fun a ha => by
  rcases h a ha with h | h
  · exact .inl h
  · exact .inr (Nat.le_trans e h)
theorem Kq.refl (b lo : Nat) (s : St) : Kq b lo s s := ⟨Nat.le_refl _, fun _ _ _ => rfl, [], rfl, fun a ha => by cases ha⟩
theorem Kq.trans {b lo : Nat} {s s1 s2 : St} (h : Kq b lo s s1) (g : Kq b lo s1 s2) : Kq b lo s s2 := by
  obtain ⟨h1, h2, l, h3, h4⟩ := h
  obtain ⟨g1, g2, k, g3, g4⟩ := g
  exact ⟨Nat.le_trans h1 g1, fun k hk hb => (g2 k hk hb).trans (h2 k hk hb), k ++ l, by rw [g3, h3, List.append_assoc], g4.append h4⟩
theorem Kq.weaken {b lo lo' : Nat} {s s' : St} (h : Kq b lo s s') (e : lo' ≤ lo) : Kq b lo' s s' := by
  obtain ⟨h1, h2, l, h3, h4⟩ := h
  exact ⟨h1, fun k hk hb => h2 k (Nat.lt_of_lt_of_le hk e) hb, l, h3, h4.weaken e⟩
theorem Reads.kq {s s' : St} (b lo : Nat) (h : Reads s s') : Kq b lo s s' := by
  obtain ⟨h1, h2, l, h3, h4⟩ := h
  exact ⟨Nat.le_of_eq h2.symm, fun k _ _ => by rw [h1], l, h3, fun a ha => by rw [h4] at ha; cases ha⟩
theorem Kq.of_above {b lo : Nat} {s s' : St} (h : Fresh s s') (g : Above lo s s') (e : lo ≤ s.ctr) : Kq b lo s s' := by
  obtain ⟨l, g1, g2⟩ := g
  exact ⟨h.1, fun k hk _ => h.2 k (Nat.lt_of_lt_of_le hk e), l, g1, fun a ha => .inr (g2 a ha)⟩
/-- An operation within, that writes nowhere else. -/
theorem Ok.segK {b lo : Nat} {p : Nat → Prog} {s : St} {R Q : Value → St → Prop} {k : Nat → Value → List Acc → Nat → Prog} (h : Ok p ⟨s.mem, s.ctr, []⟩ (fun v s' => R v s' ∧ Kq b lo ⟨s.mem, s.ctr, []⟩ s'))
    (hk : ∀ v m c sg, R v ⟨m, c, sg⟩ → Kq b lo s ⟨m, c, sg ++ s.log⟩ → Wl b lo sg → Ok (fun f => k f v sg c) ⟨m, c, sg ++ s.log⟩ Q) : Ok (fun f => .seg (p f) (k f)) s Q := by
  refine Ok.seg h ?_
  rintro v ⟨m, c, sg⟩ ⟨hR, h1, h2, l, h3, h4⟩
  simp only [List.append_nil] at h1 h2 h3
  subst h3
  exact hk v m c sg hR ⟨h1, h2, sg, rfl, h4⟩ h4
theorem hits_no (a : Acc) : ∀ (l : List Acc), (∀ r, r ∈ l → overlap a.k a.n r.k r.n = false) → hits a l = false
  | [], _ => rfl
  | r :: l, h => by
    simp only [hits, h r (List.mem_cons_self ..), Bool.false_or]
    exact hits_no a l fun r hr => h r (List.mem_cons_of_mem _ hr)
theorem overlap_no {k n k' n' : Nat} (h : k' + n' ≤ k ∨ k + n ≤ k') : overlap k n k' n' = false := by
  unfold overlap
  cases e1 : Nat.blt k (Nat.add k' n') with
  | false => rfl
  | true =>
    cases e2 : Nat.blt k' (Nat.add k n) with
    | false => rfl
    | true =>
      have h1 := Nat.le_of_ble_eq_true e1
      have h2 := Nat.le_of_ble_eq_true e2
      simp only [Nat.succ_eq_add_one, Nat.add_eq] at h1 h2
      omega
theorem anyHits_no : ∀ (ws l : List Acc), (∀ a, a ∈ ws → ∀ r, r ∈ l → overlap a.k a.n r.k r.n = false) → anyHits ws l = false
  | [], _, _ => rfl
  | a :: ws, l, h => by
    simp only [anyHits, hits_no a l (h a (List.mem_cons_self ..)), Bool.false_or]
    exact anyHits_no ws l fun a ha => h a (List.mem_cons_of_mem _ ha)
theorem freeL_wl {b lo mask : Nat} {sg : List Acc} (h : Wl b lo sg) : ∀ (ds : List Done), (∀ d, d ∈ ds → Nat.testBit mask d.i = true ∨ (d.ws = [] ∧ ∀ r, r ∈ d.all → r.k + r.n ≤ lo ∧ (r.k + r.n ≤ b ∨ b + 8 ≤ r.k))) → freeL mask (writesOf sg) sg ds = true
  | [], _ => rfl
  | d :: ds, g => by
    have ih := freeL_wl (mask := mask) h ds fun d hd => g d (List.mem_cons_of_mem _ hd)
    simp only [freeL, ih, Bool.and_true, Bool.or_eq_true]
    rcases g d (List.mem_cons_self ..) with e | ⟨e1, e2⟩
    · exact .inl e
    · refine .inr ?_
      have : anyHits (writesOf sg) d.all = false := anyHits_no _ _ fun a ha r hr => by
        obtain ⟨r1, r2⟩ := e2 r hr
        rcases h a ha with ⟨a1, a2⟩ | a1
        · exact overlap_no (by omega)
        · exact overlap_no (by omega)
      unfold apartLogs
      rw [e1]
      cases hw : writesOf sg with
      | nil => rfl
      | cons a ws =>
        rw [hw] at this
        simp only [this, Bool.not_false, Bool.and_true]
section
variable {E : Env} {s : St} {b lo : Nat}
theorem Ok.newK {n el : Nat} {ex z sy : Bool} {vs : List Value} {g : Nat → Value} (hn : vs.length = n) (hlo : lo ≤ s.ctr) :
    Ok (fun _ => Prog.newH (Hdr.mk n el false ex z 0 sy false []) vs (fun k => Prog.ret (g k))) s
      (fun v s' => v = g s.ctr ∧ s'.ctr = s.ctr + n + 1 ∧ Row s'.mem s.ctr vs ∧ (∀ k, k < s.ctr → s'.mem.get k = s.mem.get k) ∧ Kq b lo s s') := by
  refine Ok.mono (Ok.newF hn) ?_
  rintro v s' ⟨rfl, e1, e2, e3, e4, e5⟩
  refine ⟨rfl, e1, ⟨⟨el, ex, z, sy, by rw [hn]; exact e2⟩, e3⟩, e4, ?_⟩
  obtain ⟨l, g1, g2⟩ := e5
  exact ⟨by omega, fun k hk _ => e4 k (Nat.lt_of_lt_of_le hk hlo), l, g1, fun a ha => .inr (Nat.le_trans hlo (g2 a ha))⟩
theorem Ok.storeCellK {t c o : Nat} {v : Value} {vs : List Value} (hs : E.size t = some 1) (hc : cellsL v = [v]) (h : Row s.mem c vs) (ho : o < vs.length) (hv : oneC v = true) (hlo : lo ≤ c) :
    Ok (fun _ => storeT E t c o v) s (fun w s' => w = U ∧ s'.ctr = s.ctr ∧ Row s'.mem c (vs.set o v) ∧ (∀ k, k ≠ c + 1 + o → s'.mem.get k = s.mem.get k) ∧ Kq b lo s s') := by
  refine Ok.mono (Ok.store1 hs hc h.1 ho hv) ?_
  rintro w s' ⟨rfl, rfl⟩
  refine ⟨rfl, rfl, h.set o v, fun k hk => by simp only; rw [Tr.get_set, if_neg hk], Nat.le_refl _, fun k hk _ => by simp only; rw [Tr.get_set, if_neg (by omega)], [⟨true, c + 1 + o, 1⟩, ⟨false, c, 1⟩], rfl, fun a ha => ?_⟩
  simp only [writesOf, List.mem_singleton] at ha
  subst ha
  exact .inr (by simp only; omega)
/-- A store of a whole row. -/
theorem Ok.storeRowK {t c n : Nat} {vs ws : List Value} (hs : E.size t = some n) (h : Row s.mem c vs) (hn : vs.length = n) (hw : ws.length = n) (hv : ws.all oneC = true) (hlo : lo ≤ c) :
    Ok (fun _ => storeT E t c 0 (.agg ⟨ws⟩)) s (fun w s' => w = U ∧ s'.ctr = s.ctr ∧ Row s'.mem c ws ∧ (∀ k, (k ≤ c ∨ c + 1 + n ≤ k) → s'.mem.get k = s.mem.get k) ∧ Kq b lo s s') := by
  obtain ⟨m, cc, l⟩ := s
  obtain ⟨⟨el, ex, z, sy, hf⟩, hc⟩ := h
  simp only at hf hc
  have hb : Nat.ble (0 + ws.length) vs.length = true := Nat.ble_eq_true_of_le (by omega)
  have h0 : Nat.ble 0 0 = true := rfl
  have ec : cellsL (.agg ⟨ws⟩) = ws := rfl
  refine ⟨U, ⟨layCells c ws (c + 1 + 0) m, cc, ⟨true, c + 1 + 0, ws.length⟩ :: ⟨false, c, 1⟩ :: l⟩, ⟨rfl, rfl, ⟨⟨el, ex, z, sy, ?_⟩, CellsAt.lay _ _ _⟩, fun k hk => ?_, Nat.le_refl _, fun k hk _ => ?_, [⟨true, c + 1 + 0, ws.length⟩, ⟨false, c, 1⟩], rfl, fun a ha => ?_⟩, 0, fun _ _ => ?_⟩
  · simp only
    rw [lay_below _ _ _ _ _ (by omega), hf, hw, hn]
  · simp only
    rw [lay_below _ _ _ _ _ (by omega)]
  · simp only
    rw [lay_below _ _ _ _ _ (by omega)]
  · simp only [writesOf, List.mem_singleton] at ha
    subst ha
    exact .inr (by simp only; omega)
  · simp only [storeT, hs, Ev.opt, ec, gd, hw, Nat.beq_refl, Prog.run, St.wr, hf, Bool.false_or, h0, hv, Bool.not_true, Nat.add_eq]
    rw [← hn, hn] at *
    simp only [hw] at hb
    simp only [hb, Bool.not_true]
theorem Ok.appK {E : Env} (b : Nat) {t el sz by_ lo : Nat} {cs : List Value} {v e : Value} {s : St} (ht : AppT E t el sz by_) (h : Grow s.mem lo s.ctr el sz cs v) (he : (cellsL e).length = sz) (he1 : (cellsL e).all oneC = true) (hlo : lo ≤ s.ctr)
    (hn : (cs.length + 1) * (by_ + 1) ≤ 1099511627776) :
    Ok (fun _ => builtinA E Builtin.append (t :: (t :: [])) (v :: (xlstV (e :: []) :: []))) s
      (fun w s' => Grow s'.mem lo s'.ctr el sz (cs ++ cellsL e) w ∧ Kq b lo s s') := by
  obtain ⟨m, c, l⟩ := s
  obtain ⟨hu, hs, hb, hz, hz0⟩ := ht
  obtain ⟨zv, hz⟩ := Option.isSome_iff_exists.1 hz
  obtain ⟨hone, hg⟩ := h
  have hel : elemOfSlice E t = some el := by unfold elemOfSlice; rw [hu]
  have hlen : lenA (xlstV [e]) = some 1 := rfl
  have hx : isL (xlstV [e]) = true := rfl
  have hxe : elems (xlstV [e]) = [e] := rfl
  have hok : hdOk sz [e] = true := by simp only [hdOk, he, Nat.beq_refl]
  have hfl : flatC ([e].take 1) = cellsL e := by simp [flatC]
  have hf1 : ∀ k, firstA sz 1 (xlstV [e]) k = gd (hdOk sz [e]) (k (flatC ([e].take 1))) := fun _ => rfl
  rcases hg with ⟨rfl, rfl⟩ | ⟨r, n, sy, olds, rfl, a2, a3, a4, a5, a6, a7⟩
  · have hd : decide ((0 + 1) * (by_ + 1) ≤ 1099511627776) = true := decide_eq_true (by simpa using hn)
    have hbl : Nat.ble (cellsL e).length (cellsL e).length = true := Nat.ble_eq_true_of_le (Nat.le_refl _)
    refine ⟨.slice (some ⟨c, 0, none⟩) 1 (capOf 1 false), ⟨layCells c (cellsL e) (c + 1) (m.set c (some (.hdr ⟨(cellsL e).length, el, false, false, true, 0, false, false, []⟩))), c + (cellsL e).length + 1, ⟨true, c, (cellsL e).length + 1⟩ :: l⟩, ⟨⟨?_, .inr ⟨c, 1, false, [], rfl, ?_, hlo, ?_, fun k hk => ?_, ?_, ?_⟩⟩, ⟨?_, fun k hk _ => ?_, ?_⟩⟩, 0, fun _ _ => ?_⟩
    · simpa using he1
    · simp [he]
    · simp; omega
    · cases hk
    · simp only [List.nil_append]
      rw [lay_below _ _ _ _ _ (by omega), Tr.get_set, if_pos rfl]
    · exact CellsAt.lay _ _ _
    · simp; omega
    · simp only at hlo ⊢
      rw [lay_below _ _ _ _ _ (by omega), Tr.get_set, if_neg (by omega)]
    · exact ⟨[⟨true, c, (cellsL e).length + 1⟩], rfl, fun a ha => by simp only [writesOf, List.mem_singleton] at ha; subst ha; exact .inr hlo⟩
    · simp only [builtinA, appendA, appendB, hel, hu, hs, hb, Ev.opt, isIntD, appN, hlen, hz, gd, hd, appC, hf1, hok, hfl, Nat.zero_add, Prog.run, Prog.new, hbl, St.newH, Nat.add_eq]
  · simp only at a4 a6 a7 hlo
    have hcl : capLo (capOf n false) = n := by show (2 * n + 0) / 2 = n; omega
    have hce : capEx (capOf n false) = false := by
      simp only [capEx, capOf, Nat.add_eq, Nat.mul_eq, Nat.add_zero]
      have : Nat.mod (2 * n) 2 = 0 := by show (2 * n) % 2 = 0; omega
      rw [this]; rfl
    have hnn : n ≤ cs.length := by rw [a2]; exact Nat.le_mul_of_pos_right n hz0
    have hd : decide ((n + 1) * (by_ + 1) ≤ 1099511627776) = true := decide_eq_true (Nat.le_trans (Nat.mul_le_mul_right _ (by omega)) hn)
    have hble : Nat.ble (n + 1) n = false := by
      cases hq : Nat.ble (n + 1) n with
      | false => rfl
      | true => have := Nat.le_of_ble_eq_true hq; omega
    have hg2 : decide (True ∧ 0 + n * sz = cs.length ∧ True ∧ True ∧ True ∧ 0 ≤ n * sz + 1 * sz) = true := decide_eq_true ⟨trivial, by omega, trivial, trivial, trivial, Nat.zero_le _⟩
    have hrd : rdCells m r (n * sz) 0 = some cs := by rw [← a2]; exact CellsAt.rd a7
    have hlenc : (cs ++ cellsL e).length = n * sz + 1 * sz := by rw [List.length_append, a2, he, Nat.one_mul]
    have hbl : Nat.ble (cs ++ cellsL e).length (n * sz + 1 * sz) = true := Nat.ble_eq_true_of_le (by omega)
    refine ⟨.slice (some ⟨c, 0, none⟩) (n + 1) (capOf (n + 1) false), ⟨layCells c (cs ++ cellsL e) (c + 1) ((m.set r (some (.hdr ⟨cs.length, el, false, false, true, 0, sy, true, []⟩))).set c (some (.hdr ⟨n * sz + 1 * sz, el, false, false, true, 0, sy, false, r :: olds⟩))), c + (n * sz + 1 * sz) + 1, ⟨true, c, n * sz + 1 * sz + 1⟩ :: ⟨true, r, 1⟩ :: ⟨false, r + 1 + 0, n * sz⟩ :: ⟨false, r, 1⟩ :: ⟨false, r, 1⟩ :: l⟩, ⟨⟨?_, .inr ⟨c, n + 1, sy, r :: olds, rfl, ?_, hlo, ?_, fun k hk => ?_, ?_, ?_⟩⟩, ⟨?_, fun k hk _ => ?_, ?_⟩⟩, 0, fun _ _ => ?_⟩
    · exact all_append _ _ _ hone he1
    · rw [hlenc, Nat.add_mul]
    · simp only; omega
    · rcases List.mem_cons.1 hk with rfl | hk
      · exact ⟨a3, by omega⟩
      · have := a5 k hk; omega
    · simp only
      rw [lay_below _ _ _ _ _ (by omega), Tr.get_set, if_pos rfl, hlenc]
    · exact CellsAt.lay _ _ _
    · simp only; omega
    · simp only at hlo ⊢
      rw [lay_below _ _ _ _ _ (by omega), Tr.get_set, if_neg (by omega), Tr.get_set, if_neg (by omega)]
    · exact ⟨[⟨true, c, n * sz + 1 * sz + 1⟩, ⟨true, r, 1⟩, ⟨false, r + 1 + 0, n * sz⟩, ⟨false, r, 1⟩, ⟨false, r, 1⟩], rfl, fun a ha => by
        simp only [writesOf, List.mem_cons, List.not_mem_nil, or_false] at ha
        rcases ha with rfl | rfl
        · exact .inr hlo
        · exact .inr a3⟩
    · simp only [builtinA, appendA, appendB, hel, hu, hs, hb, Ev.opt, isIntD, appN, hlen, hz, gd, hd, hcl, hce, hble, appC, hf1, hok, hfl, Prog.run, St.hd, St.setHd, St.rd, a6, hg2, hrd, he1, hbl, St.newH, Nat.add_eq, Bool.true_and, Nat.beq_refl]
end
end Go.Ev
/- The reference's lexer: empty vectors, bools. -/
namespace Go.Proofs.YtpljgnjdlciicaaGreatDoor
open Go Go.Ev Go.Proofs
theorem wrapS {i n : Int} (h : -10 ≤ i ∧ i ≤ 1000000) (hn : -10 ≤ n ∧ n ≤ 1000) : IntKind.i64.wrap (i + n) = i + n := wrap_in _ (by omega) (by omega)
section
variable {m0 : Tr Slot} {lo : Nat} {s : St} {b : Nat} {str : ByteArray} {a : Int} {ts : List Tok} {err bad : Int}
def EmQ (str : ByteArray) (a : Int) (v : Value) : Prop := ∃ r, v = .int .i64 r ∧ 0 ≤ r ∧ r ≤ 5 ∧ (r ≠ 0 → a + 3 ≤ (bl str).length)
theorem rbyteL (h : RX m0 lo s b str a ts err bad) (i : Int) : Ok (fun f => callF En (runP En f) 71 [.pointer (some ⟨b, 0, none⟩), .int .i64 i]) ⟨s.mem, s.ctr, []⟩ (fun v s' => v = .int .u8 (byteZ str i) ∧ Reads ⟨s.mem, s.ctr, []⟩ s') :=
  rbyte_ok (m0 := m0) (lo := lo) (a := a) (ts := ts) (err := err) (bad := bad) (s := ⟨s.mem, s.ctr, []⟩) h i
theorem empty_loop (ha : 0 ≤ a ∧ a ≤ 900000) : ∀ (m : Nat) (s : St) (t : Int), RX m0 lo s b str a ts err bad → 1 ≤ t → 6 - t < m → t ≤ 6 → Ok (fun f => p72_4 f b t) s (fun v s' => EmQ str a v ∧ Reads s s') := by
  intro m
  induction m with
  | zero => intro s t _ h1 h2 h3; omega
  | succ m ih =>
    intro s t h h1 h2 h3
    refine Ok.step (fun f => p72_4_eq f b t) ?_
    refine Ok.c (fun hl => ?_) (fun _ => Ok.ret ⟨⟨0, rfl, by omega, by omega, fun h => absurd rfl h⟩, ⟨rfl, rfl, [], rfl, rfl⟩⟩)
    have hl := of_decide_eq_true hl
    refine Ok.segLoad (by kernel_rfl) h.c1 fun s1 r1 => ?_
    refine Ok.t rfl ?_
    simp only [intOf, wrapS (show -10 ≤ a ∧ a ≤ 1000000 by omega) (show (-10 : Int) ≤ 2 ∧ (2 : Int) ≤ 1000 by omega)]
    refine segReads (R := fun v => v = .int .u8 (byteZ str (a + 2))) (rbyteL (h.reads r1) _) ?_
    rintro v s2 g2 rfl r2 w2
    have r2 := r1.trans r2
    refine Ok.gdL (freeL_reads _ _ w2 _ fun d hd => by simp only [List.mem_cons, List.not_mem_nil, or_false] at hd; rcases hd with rfl; rfl) (Ok.t rfl ?_)
    refine Ok.t (decide_eq_true (by omega)) (Ok.t (Nat.ble_eq_true_of_le (by omega)) ?_)
    refine Ok.c (fun he => ?_) (fun _ => ?_)
    · have he := of_decide_eq_true he
      refine Ok.ret ⟨⟨t, rfl, by omega, by omega, fun _ => ?_⟩, r2⟩
      have hne : byteZ str (a + 2) ≠ 0 := by
        have he : byteZ str (a + 2) = _ := he
        rw [he]
        obtain ⟨n, rfl⟩ : ∃ n : Nat, t = n := ⟨t.toNat, by omega⟩
        rw [Int.toNat_natCast]
        have hn : n = 1 ∨ n = 2 ∨ n = 3 ∨ n = 4 ∨ n = 5 := by omega
        rcases hn with rfl | rfl | rfl | rfl | rfl <;> decide
      have := byteZ_lt hne
      omega
    · simp only [wrap1 (show 0 ≤ t ∧ t ≤ 1000000 by omega)]
      exact Ok.mono (ih s2 (t + 1) (h.reads r2) (by omega) (by omega) (by omega)) fun v s' q => ⟨q.1, r2.trans q.2⟩
theorem empty_ok (h : RX m0 lo s b str a ts err bad) (ha : 0 ≤ a ∧ a ≤ 900000) : Ok (fun f => callF En (runP En f) 72 [.pointer (some ⟨b, 0, none⟩)]) s (fun v s' => EmQ str a v ∧ Reads s s') := by
  have no : ∀ {s' : St}, Reads s s' → Ok (fun _ => Prog.ret (.int .i64 0)) s' (fun v s' => EmQ str a v ∧ Reads s s') := fun r => Ok.ret ⟨⟨0, rfl, by omega, by omega, fun h => absurd rfl h⟩, r⟩
  refine Ok.step (fun f => f72_eq f b) ?_
  refine Ok.callP (Ok.load1 (by kernel_rfl) h.c1) ?_
  rintro v s1 ⟨rfl, m1, c1, l1⟩
  have r1 : Reads s s1 := ⟨m1, c1, [_, _], l1, rfl⟩
  refine Ok.t rfl ?_
  refine Ok.call (rbyte_ok (h.reads r1) _) ?_
  rintro v s2 ⟨rfl, r2⟩
  have r2 := r1.trans r2
  refine Ok.t rfl (Ok.c (fun _ => no r2) (fun _ => ?_))
  refine Ok.callP (Ok.load1 (by kernel_rfl) (h.reads r2).c1) ?_
  rintro v s3 ⟨rfl, m3, c3, l3⟩
  have r3 : Reads s s3 := r2.trans ⟨m3, c3, [_, _], l3, rfl⟩
  refine Ok.t rfl ?_
  refine Ok.call (rbyte_ok (h.reads r3) _) ?_
  rintro v s4 ⟨rfl, r4⟩
  have r4 := r3.trans r4
  refine Ok.t rfl (Ok.c (fun _ => no r4) (fun _ => ?_))
  refine Ok.callP (Ok.load1 (by kernel_rfl) (h.reads r4).c1) ?_
  rintro v s5 ⟨rfl, m5, c5, l5⟩
  have r5 : Reads s s5 := r4.trans ⟨m5, c5, [_, _], l5, rfl⟩
  refine Ok.t rfl ?_
  refine Ok.call (rbyte_ok (h.reads r5) _) ?_
  rintro v s6 ⟨rfl, r6⟩
  have r6 := r5.trans r6
  refine Ok.t rfl ?_
  refine Ok.call (inside_ok s6 _) ?_
  rintro v s7 ⟨rfl, rfl⟩
  refine Ok.t rfl (Ok.c (fun _ => no r6) (fun _ => ?_))
  exact Ok.mono (empty_loop ha 6 _ 1 (h.reads r6) (by omega) (by omega) (by omega)) fun v s' q => ⟨q.1, r6.trans q.2⟩
def boolsEnd (str : ByteArray) : Nat → Int → Int
  | 0, i => i
  | k + 1, i => if byteZ str i = 48 ∨ byteZ str i = 49 then boolsEnd str k (i + 1) else i
def boolsG (str : ByteArray) (a j : Int) : Int := if j = a ∨ byteZ str j ≠ 98 ∨ isInside (byteZ str (j + 1)) = true ∨ byteZ str (j + 1) = 46 then -1 else j + 1
def boolsF (str : ByteArray) (a : Int) : Int := boolsG str a (boolsEnd str ((bl str).length + 1) a)
def BoQ (str : ByteArray) (a r : Int) (v : Value) : Prop := v = .int .i64 r ∧ (r = -1 ∨ (a < r - 1 ∧ r ≤ (bl str).length))
theorem bools_loop (ha : 0 ≤ a) (hs : (bl str).length ≤ 900000) : ∀ (m : Nat) (s : St) (i : Int), RX m0 lo s b str a ts err bad → a ≤ i → (bl str).length - i < m → i ≤ (bl str).length → Ok (fun f => p62_2 f b i) s (fun v s' => BoQ str a (boolsG str a (boolsEnd str m i)) v ∧ Reads s s') := by
  intro m
  induction m with
  | zero => intro s t _ h1 h2 h3; omega
  | succ m ih =>
    intro s i h h1 h2 h3
    have go : ∀ {s' : St}, Reads s s' → byteZ str i = 48 ∨ byteZ str i = 49 → Ok (fun f => p62_2 f b (IntKind.i64.wrap (i + 1))) s' (fun v s' => BoQ str a (boolsG str a (boolsEnd str (m + 1) i)) v ∧ Reads s s') := fun {s'} r hb => by
      have := byteZ_lt (str := str) (i := i) (by rcases hb with e | e <;> rw [e] <;> decide)
      simp only [wrap1 (show 0 ≤ i ∧ i ≤ 1000000 by omega)]
      have e : boolsEnd str (m + 1) i = boolsEnd str m (i + 1) := if_pos hb
      rw [e]
      exact Ok.mono (ih s' (i + 1) (h.reads r) (by omega) (by omega) (by omega)) fun v s' q => ⟨q.1, r.trans q.2⟩
    have hw : IntKind.i64.wrap (i + 1) = i + 1 := wrap1 (by omega)
    refine Ok.step (fun f => p62_2_eq f b i) ?_
    refine Ok.call (rbyte_ok h _) ?_
    rintro v s1 ⟨rfl, r1⟩
    refine Ok.t rfl (Ok.c (fun he => go r1 (.inl (of_decide_eq_true he))) (fun h48 => ?_))
    have h48 : ¬ byteZ str i = 48 := of_decide_eq_false h48
    refine Ok.call (rbyte_ok (h.reads r1) _) ?_
    rintro v s2 ⟨rfl, r2⟩
    have r2 := r1.trans r2
    refine Ok.t rfl (Ok.c (fun he => go r2 (.inr (of_decide_eq_true he))) (fun h49 => ?_))
    have h49 : ¬ byteZ str i = 49 := of_decide_eq_false h49
    have e : boolsEnd str (m + 1) i = i := if_neg (by rintro (h | h); exact h48 h; exact h49 h)
    rw [e]
    have no : ∀ {s' : St}, (i = a ∨ byteZ str i ≠ 98 ∨ isInside (byteZ str (i + 1)) = true ∨ byteZ str (i + 1) = 46) → Reads s s' → Ok (fun _ => Prog.ret (.int .i64 (-1))) s' (fun v s' => BoQ str a (boolsG str a i) v ∧ Reads s s') := fun c r => by
      have : boolsG str a i = -1 := if_pos c
      rw [this]
      exact Ok.ret ⟨⟨rfl, .inl rfl⟩, r⟩
    refine Ok.callP (Ok.load1 (by kernel_rfl) (h.reads r2).c1) ?_
    rintro v s3 ⟨rfl, m3, c3, l3⟩
    have r3 : Reads s s3 := r2.trans ⟨m3, c3, [_, _], l3, rfl⟩
    refine Ok.t rfl (Ok.c (fun hia => no (.inl (of_decide_eq_true hia)) r3) (fun hia => ?_))
    have hia := of_decide_eq_false hia
    have hia : i ≠ a := hia
    refine Ok.call (rbyte_ok (h.reads r3) _) ?_
    rintro v s4 ⟨rfl, r4⟩
    have r4 := r3.trans r4
    refine Ok.t rfl (Ok.c (fun hb => no (.inr (.inl ?_)) r4) (fun hb => ?_))
    · have hb : Bool.not (decide (byteZ str i = 98)) = true := hb
      simpa using hb
    have hb : byteZ str i = 98 := by
      have hb : Bool.not (decide (byteZ str i = 98)) = false := hb
      simpa using hb
    have hlt := byteZ_lt (str := str) (i := i) (by rw [hb]; decide)
    refine Ok.call (rbyte_ok (h.reads r4) _) ?_
    rintro v s5 ⟨rfl, r5⟩
    have r5 := r4.trans r5
    refine Ok.t rfl ?_
    refine Ok.call (inside_ok s5 _) ?_
    rintro v s6 ⟨rfl, rfl⟩
    simp only [hw]
    refine Ok.t rfl (Ok.c (fun hi => no (.inr (.inr (.inl hi))) r5) (fun hi => ?_))
    have hi : isInside (byteZ str (i + 1)) = false := hi
    refine Ok.call (rbyte_ok (h.reads r5) _) ?_
    rintro v s7 ⟨rfl, r7⟩
    have r7 := r5.trans r7
    refine Ok.t rfl (Ok.c (fun h46 => no (.inr (.inr (.inr (of_decide_eq_true h46)))) r7) (fun h46 => ?_))
    have h46 : ¬ byteZ str (i + 1) = 46 := of_decide_eq_false h46
    have : boolsG str a i = i + 1 := if_neg (by rintro (h | h | h | h); exact hia h; exact h hb; rw [hi] at h; cases h; exact h46 h)
    rw [this]
    exact Ok.ret ⟨⟨rfl, .inr ⟨by omega, by omega⟩⟩, r7⟩
theorem bools_ok (h : RX m0 lo s b str a ts err bad) (ha : 0 ≤ a ∧ a ≤ (bl str).length) (hs : (bl str).length ≤ 900000) : Ok (fun f => callF En (runP En f) 62 [.pointer (some ⟨b, 0, none⟩)]) s (fun v s' => BoQ str a (boolsF str a) v ∧ Reads s s') := by
  refine Ok.step (fun f => f62_eq f b) ?_
  refine Ok.callP (Ok.load1 (by kernel_rfl) h.c1) ?_
  rintro v s1 ⟨rfl, m1, c1, l1⟩
  have r1 : Reads s s1 := ⟨m1, c1, [_, _], l1, rfl⟩
  refine Ok.t rfl ?_
  exact Ok.mono (bools_loop ha.1 hs ((bl str).length + 1) s1 a (h.reads r1) (by omega) (by omega) ha.2) fun v s' q => ⟨q.1, r1.trans q.2⟩
end
end Go.Proofs.YtpljgnjdlciicaaGreatDoor
/- The reference's lexer: does a number begin here? -/
namespace Go.Proofs.YtpljgnjdlciicaaGreatDoor
open Go Go.Ev Go.Proofs
/-- What is known of a token: its value is flat, and of a form; a mark has bytes; it has a place. -/
def IntsV (n : List Value) : Prop := ∀ e, e ∈ n → ∃ i, e = .int .i64 i
def StrsV (sy : List Value) : Prop := ∀ e, e ∈ sy → ∃ x, e = .string x
def VFl (t : Int) (n sy l : List Value) : Prop := l = [] ∧ n.length ≤ 70000 ∧ sy.length ≤ 70000 ∧ ((t = 0 ∧ n = [] ∧ sy = []) ∨ (sy = [] ∧ IntsV n ∧ (t = 1 ∨ t = 2 ∨ t = 4 ∨ t = 5 ∨ ((t = -1 ∨ t = -2 ∨ t = -4 ∨ t = -5) ∧ n.length = 1))) ∨ (n = [] ∧ StrsV sy ∧ (t = 3 ∨ (t = -3 ∧ sy.length = 1))))
def RTok (t : Tok) : Prop := VFl t.t t.n t.sy t.l ∧ (t.kind = 6 → bl t.text ≠ []) ∧ 0 ≤ t.at_ ∧ t.at_ < t.en
def RToks (a : Int) (ts : List Tok) : Prop := (∀ t, t ∈ ts → RTok t ∧ t.en ≤ a) ∧ ts.Pairwise fun x y => x.en ≤ y.at_
theorem RToks.nil (a : Int) : RToks a [] := ⟨fun t h => by simp at h, List.Pairwise.nil⟩
theorem RToks.snoc {a e : Int} {ts : List Tok} {t : Tok} (h : RToks a ts) (ht : RTok t) (h1 : t.at_ = a) (h2 : t.en = e) : RToks e (ts ++ [t]) := by
  have hlt := ht.2.2.2
  refine ⟨fun x hx => ?_, List.pairwise_append.2 ⟨h.2, List.pairwise_singleton _ _, fun x hx y hy => ?_⟩⟩
  · rcases List.mem_append.1 hx with hx | hx
    · exact ⟨(h.1 x hx).1, by have := (h.1 x hx).2; omega⟩
    · rw [List.mem_singleton] at hx; subst hx; exact ⟨ht, by omega⟩
  · rw [List.mem_singleton] at hy; subst hy; have := (h.1 x hx).2; omega
theorem RToks.mono {a a' : Int} {ts : List Tok} (h : RToks a ts) (e : a ≤ a') : RToks a' ts := ⟨fun x hx => ⟨(h.1 x hx).1, by have := (h.1 x hx).2; omega⟩, h.2⟩
theorem hdr_of {m : Tr Slot} {c : Nat} {vs : List Value} (h : Row m c vs) : ∃ hd, m.get c = some (.hdr hd) := by
  obtain ⟨el, ex, z, sy, h⟩ := h.1
  exact ⟨_, h⟩
/-- A number begins at a place. -/
def numAt (str : ByteArray) (i : Int) : Prop := isDigit (byteZ str i) = true ∨ (byteZ str i = 45 ∧ isDigit (byteZ str (i + 1)) = true)
section
variable {m0 : Tr Slot} {lo : Nat} {s : St} {b : Nat} {str : ByteArray} {a : Int} {ts : List Tok} {err bad : Int}
def NmQ (str : ByteArray) (i : Int) (s : St) (v : Value) (s' : St) : Prop := (∃ r, v = .bool r ∧ (r = true → numAt str i)) ∧ Fresh s s'
theorem fresh_reads {s s' : St} (r : Reads s s') : Fresh s s' := ⟨by rw [r.2.1]; exact Nat.le_refl _, fun k _ => by rw [r.1]⟩
theorem numbers_ok (h : RX m0 lo s b str a ts err bad) (i : Int) (hi : 0 ≤ i ∧ i ≤ (bl str).length) (hs : (bl str).length ≤ 900000) (hp : i ≠ 0 → byteZ str (i - 1) = 32 ∨ ts ≠ []) (ht : ∀ t, t ∈ ts → RTok t) (hl : ts.length ≤ 20000) :
    Ok (fun f => callF En (runP En f) 65 [.pointer (some ⟨b, 0, none⟩), .int .i64 i]) s (NmQ str i s) := by
  have hbl : (bl str).length = str.data.toList.length := rfl
  have hw : IntKind.i64.wrap (i + 1) = i + 1 := wrap1 (by omega)
  have hwm : IntKind.i64.wrap (i + (-1)) = i - 1 := wrap_in _ (by omega) (by omega)
  refine Ok.step (fun f => f65_eq f b i) ?_
  refine Ok.call (rbyte_ok h _) ?_
  rintro v s1 ⟨rfl, r1⟩
  refine Ok.t rfl ?_
  refine Ok.call (digit_ok s1 _) ?_
  rintro v s2 ⟨rfl, rfl⟩
  refine Ok.t rfl (Ok.c (fun hd => Ok.ret ⟨⟨true, rfl, fun _ => .inl hd⟩, fresh_reads r1⟩) (fun _ => ?_))
  refine Ok.call (rbyte_ok (h.reads r1) _) ?_
  rintro v s3 ⟨rfl, r3⟩
  have r3 := r1.trans r3
  refine Ok.t rfl (Ok.c (fun _ => Ok.ret ⟨⟨false, rfl, fun h => by cases h⟩, fresh_reads r3⟩) (fun h45 => ?_))
  have h45 : byteZ str i = 45 := by
    have h45 : Bool.not (decide (byteZ str i = 45)) = false := h45
    simpa using h45
  simp only [hw]
  refine Ok.call (rbyte_ok (h.reads r3) _) ?_
  rintro v s4 ⟨rfl, r4⟩
  have r4 := r3.trans r4
  refine Ok.t rfl ?_
  refine Ok.call (digit_ok s4 _) ?_
  rintro v s5 ⟨rfl, rfl⟩
  refine Ok.t rfl (Ok.c (fun _ => Ok.ret ⟨⟨false, rfl, fun h => by cases h⟩, fresh_reads r4⟩) (fun hd => ?_))
  have hd : isDigit (byteZ str (i + 1)) = true := by
    have hd : Bool.not (isDigit (byteZ str (i + 1))) = false := hd
    simpa using hd
  have yes : numAt str i := .inr ⟨h45, hd⟩
  refine Ok.c (fun _ => Ok.ret ⟨⟨true, rfl, fun _ => yes⟩, fresh_reads r4⟩) (fun hi0 => ?_)
  have hi0 := of_decide_eq_false hi0
  refine Ok.callP (Ok.load1 (by kernel_rfl) (h.reads r4).c0) ?_
  rintro v s6 ⟨rfl, m6, c6, l6⟩
  have r6 : Reads s s6 := r4.trans ⟨m6, c6, [_, _], l6, rfl⟩
  simp only [hwm, strOf]
  refine Ok.t rfl (Ok.t (decide_eq_true (by omega)) (Ok.t (Nat.ble_eq_true_of_le (by omega)) ?_))
  refine Ok.c (fun _ => Ok.ret ⟨⟨true, rfl, fun _ => yes⟩, fresh_reads r6⟩) (fun h32 => ?_)
  have h32 := of_decide_eq_false h32
  have hne : ts ≠ [] := by
    rcases hp hi0 with h | h
    · refine absurd ?_ h32
      have hb := h
      unfold byteZ at hb
      rw [if_pos (by omega)] at hb
      exact hb
    · exact h
  obtain ⟨ys, y, rfl⟩ : ∃ ys y, ts = ys ++ [y] := ⟨ts.dropLast, ts.getLast hne, (List.dropLast_concat_getLast hne).symm⟩
  have h6 := h.reads r6
  obtain ⟨x, q1, q2, q3, q4, q5⟩ := id h6
  obtain ⟨_, ⟨_, e⟩ | ⟨r, n, sy, olds, rfl, a2, a3, a4, a5, a6, a7⟩⟩ := q2
  · have := congrArg List.length e
    rw [toksC_length] at this
    simp at this
  have hn : n = ys.length + 1 := by
    rw [toksC_length] at a2
    simp only [List.length_append, List.length_cons, List.length_nil] at a2
    omega
  subst hn
  simp only [List.length_append, List.length_cons, List.length_nil] at hl
  have hc6 : s6.ctr = s.ctr := r6.2.1
  refine Ok.segLoad (by kernel_rfl) (q1.cell 2 rfl) fun s7 r7 => ?_
  refine Ok.t rfl ?_
  refine Ok.segLoad (by kernel_rfl) ((q1.cell 2 rfl).reads r7) fun s8 r8 => ?_
  have r8 := r7.trans r8
  refine Ok.gdL (by kernel_rfl) (Ok.t rfl ?_)
  simp only [sBlk_s, sOff_s, sLen_s, sCap_s, len42s]
  refine Ok.segRet fun s9 r9 => ?_
  have r9 := r8.trans r9
  refine Ok.gdL (by kernel_rfl) (Ok.t rfl ?_)
  have hwl : IntKind.i64.wrap (intOf (vInt ((ys.length + 1 : Nat) : Int)) + (-1)) = (ys.length : Int) := by
    have : intOf (vInt ((ys.length + 1 : Nat) : Int)) = (ys.length : Int) + 1 := rfl
    rw [this, wrap_in _ (by omega) (by omega)]
    omega
  simp only [hwl]
  refine Ok.t (decide_eq_true (by omega)) (Ok.t ?_ ?_)
  · simp only [Int.toNat_natCast, Bool.and_true]
    exact Nat.ble_eq_true_of_le (Nat.le_refl _)
  rw [toksC_append] at a7
  have hR : CellsAt s6.mem r (r + 1 + ys.length * 8) y.cells := by
    have := CellsAt.right a7
    rw [toksC_length] at this
    have e : toksC [y] = y.cells := by simp [toksC]
    rw [e] at this
    exact this
  refine Ok.segLoadA (t := 50) (b := r) (o := 0 + ((ys.length : Int).toNat) * 8) (n := 8) (vs := y.cells) (by kernel_rfl) (by kernel_rfl) rfl ⟨_, by rw [r9.1]; exact a6⟩ (by rw [Nat.zero_add, Int.toNat_natCast, r9.1]; exact hR) fun sA rA => ?_
  have rA := r9.trans rA
  refine Ok.gdL (by kernel_rfl) (Ok.t rfl ?_)
  have hcA : sA.ctr = s.ctr := by rw [rA.2.1, hc6]
  refine Ok.segK (b := sA.ctr) (lo := sA.ctr) (R := fun v s' => v = itP sA.ctr ∧ s'.ctr = sA.ctr + 9 ∧ Row s'.mem sA.ctr [.int .i64 0, .int .i64 0, .int .i64 0, .string (mkStr []), .int .i64 0, .slice none 0 0, .slice none 0 0, .slice none 0 0] ∧ (∀ k, k < sA.ctr → s'.mem.get k = sA.mem.get k)) (Ok.mono (Ok.newK (s := ⟨sA.mem, sA.ctr, []⟩) (b := sA.ctr) (lo := sA.ctr) rfl (Nat.le_refl _)) (fun v s' h => ⟨⟨h.1, h.2.1, h.2.2.1, h.2.2.2.1⟩, h.2.2.2.2⟩)) ?_
  rintro v mB cB lgB ⟨rfl, eB, gB, fB⟩ kB wB
  simp only at eB gB fB
  refine Ok.gdL (freeL_wl wB _ fun d hd => ?_) ?_
  · rw [a2] at a4
    simp only [List.mem_cons, List.not_mem_nil, or_false] at hd
    rcases hd with rfl | rfl | rfl | rfl <;> refine .inr ⟨rfl, fun q hq => ?_⟩ <;> simp only [List.mem_cons, List.not_mem_nil, or_false] at hq
    · rcases hq with rfl | rfl <;> simp only [Int.toNat_natCast] <;> omega
    · rcases hq with rfl | rfl <;> simp only <;> omega
    · rcases hq with rfl | rfl <;> simp only <;> omega
  refine Ok.t rfl ?_
  simp only [blk_itP, off_itP]
  refine Ok.segK (b := sA.ctr) (lo := sA.ctr) (R := fun _ s' => s'.ctr = cB ∧ Row s'.mem sA.ctr y.cells ∧ (∀ k, k < sA.ctr → s'.mem.get k = mB.get k)) (s := ⟨mB, cB, lgB ++ sA.log⟩) (Ok.mono (Ok.storeRowK (s := ⟨mB, cB, []⟩) (b := sA.ctr) (lo := sA.ctr) (n := 8) (ws := y.cells) (by kernel_rfl) gB rfl rfl rfl (Nat.le_refl _)) (fun v s' h => ⟨⟨h.2.1, h.2.2.1, fun k hk => h.2.2.2.1 k (by omega)⟩, h.2.2.2.2⟩)) ?_
  rintro v mC cC lgC ⟨eC, gC, fC⟩ kC wC
  simp only at eC gC fC
  refine Ok.gdL (by kernel_rfl) ?_
  have fr : ∀ {s' : St}, Reads ⟨mC, cC, lgC ++ (lgB ++ sA.log)⟩ s' → Fresh s s' := fun {s'} r => ⟨by rw [r.2.1]; simp only; omega, fun k hk => by rw [r.1]; simp only; rw [fC k (by omega), fB k (by omega), rA.1, r6.1]⟩
  have ret : ∀ {s' : St} (q : Bool), Reads ⟨mC, cC, lgC ++ (lgB ++ sA.log)⟩ s' → Ok (fun _ => Prog.ret (.bool q)) s' (NmQ str i s) := fun q r => Ok.ret ⟨⟨q, rfl, fun _ => yes⟩, fr r⟩
  have t6 := (ht y (by simp)).2.1
  refine Ok.callP (Ok.load1 (b := sA.ctr) (o := 2) (by kernel_rfl) (gC.cell 2 rfl)) ?_
  rintro v sD ⟨rfl, mD, cD, lD⟩
  have rD : Reads ⟨mC, cC, lgC ++ (lgB ++ sA.log)⟩ sD := ⟨mD, cD, [_, _], lD, rfl⟩
  refine Ok.t rfl (Ok.c (fun _ => ?_) (fun _ => ret false rD))
  refine Ok.callP (Ok.load1 (b := sA.ctr) (o := 0) (by kernel_rfl) (by rw [rD.1]; exact gC.cell 0 rfl)) ?_
  rintro v sE ⟨rfl, mE, cE, lE⟩
  have rE := rD.trans (⟨mE, cE, [_, _], lE, rfl⟩ : Reads sD sE)
  refine Ok.t rfl (Ok.c (fun _ => ret true rE) (fun _ => ?_))
  refine Ok.callP (Ok.load1 (b := sA.ctr) (o := 0) (by kernel_rfl) (by rw [rE.1]; exact gC.cell 0 rfl)) ?_
  rintro v sF ⟨rfl, mF, cF, lF⟩
  have rF := rE.trans (⟨mF, cF, [_, _], lF, rfl⟩ : Reads sE sF)
  refine Ok.t rfl (Ok.c (fun _ => ret true rF) (fun _ => ?_))
  refine Ok.callP (Ok.load1 (b := sA.ctr) (o := 0) (by kernel_rfl) (by rw [rF.1]; exact gC.cell 0 rfl)) ?_
  rintro v sG ⟨rfl, mG, cG, lG⟩
  have rG := rF.trans (⟨mG, cG, [_, _], lG, rfl⟩ : Reads sF sG)
  refine Ok.t rfl (Ok.c (fun hk => ?_) (fun _ => ret false rG))
  have hk := of_decide_eq_true hk
  have hk : y.kind = 6 := hk
  refine Ok.callP (Ok.load1 (b := sA.ctr) (o := 3) (by kernel_rfl) (by rw [rG.1]; exact gC.cell 3 rfl)) ?_
  rintro v sH ⟨rfl, mH, cH, lH⟩
  have rH := rG.trans (⟨mH, cH, [_, _], lH, rfl⟩ : Reads sG sH)
  have hpos : 1 ≤ y.text.data.toList.length := List.length_pos_iff.2 (t6 hk)
  refine Ok.t rfl (Ok.t (Nat.ble_eq_true_of_le hpos) ?_)
  refine Ok.call (among_ok sH _ _ (by decide)) ?_
  rintro v sI ⟨⟨q, rfl⟩, rfl⟩
  exact Ok.t rfl (ret _ rH)
end
end Go.Proofs.YtpljgnjdlciicaaGreatDoor
/- The reference's lexer: a number. -/
namespace Go.Proofs.YtpljgnjdlciicaaGreatDoor
open Go Go.Ev Go.Proofs
def NumT (t : Int) : Prop := t = 2 ∨ t = 4 ∨ t = 5
def NumQ (str : ByteArray) (at_ : Int) (v : Value) : Prop := ∃ (t n e : Int) (ok : Bool), v = .tuple ⟨[.int .i64 t, .int .i64 n, .int .i64 e, .bool ok]⟩ ∧ at_ < e ∧ e ≤ (bl str).length ∧ (ok = true → NumT t)
section
variable {s0 : St} {str : ByteArray} {at_ x8 : Int}
theorem num39 (h : at_ < x8 ∧ x8 ≤ (bl str).length) (s : St) (r : Reads s0 s) (x10 : Int) (ht : NumT x10) (x11 : Bool) (x12 : Int) (x13 : Bool) : Ok (fun f => p112_39 f x8 x10 x11 x12 x13) s (fun v s' => NumQ str at_ v ∧ Reads s0 s') := by
  refine Ok.step (fun f => p112_39_eq f x8 x10 x11 x12 x13) ?_
  repeat' (first | with_reducible refine Ok.c (fun _ => ?_) (fun _ => ?_) | exact Ok.ret ⟨⟨_, _, _, _, rfl, h.1, h.2, fun _ => ht⟩, r⟩ | exact Ok.ret ⟨⟨_, _, _, _, rfl, h.1, h.2, fun h => by cases h⟩, r⟩)
theorem num35 (h : at_ < x8 ∧ x8 ≤ (bl str).length) (x10 : Int) (ht : NumT x10) (x11 : Bool) : ∀ (m : Nat) (s : St) (x12 : Int) (x13 : Bool) (x14 : Int), Reads s0 s → 0 < x14 → 4 - x14 < m → Ok (fun f => p112_35 f x8 x10 x11 x12 x13 x14) s (fun v s' => NumQ str at_ v ∧ Reads s0 s') := by
  intro m
  induction m with
  | zero =>
    intro s x12 x13 x14 r h1 h2
    refine Ok.step (fun f => p112_35_eq f x8 x10 x11 x12 x13 x14) ?_
    exact Ok.f (decide_eq_false (by omega)) (num39 h s r _ ht _ _ _)
  | succ m ih =>
    intro s x12 x13 x14 r h1 h2
    refine Ok.step (fun f => p112_35_eq f x8 x10 x11 x12 x13 x14) ?_
    refine Ok.c (fun hl => Ok.c (fun _ => ?_) (fun _ => num39 h s r _ ht _ _ _)) (fun _ => num39 h s r _ ht _ _ _)
    have hl := of_decide_eq_true hl
    rw [wrap1 (show 0 ≤ x14 ∧ x14 ≤ 1000000 by omega)]
    exact ih s _ _ (x14 + 1) r (by omega) (by omega)
theorem num31 (h : at_ < x8 ∧ x8 ≤ (bl str).length) (s : St) (r : Reads s0 s) (x10 : Int) (ht : NumT x10) (x11 : Bool) (x12 : Int) (x13 : Bool) (x14 : Int) : Ok (fun f => p112_31 f x8 x10 x11 x12 x13 x14) s (fun v s' => NumQ str at_ v ∧ Reads s0 s') := by
  have n33 : ∀ x13, Ok (fun f => p112_33 f x8 x10 x11 x12 x13 x14) s (fun v s' => NumQ str at_ v ∧ Reads s0 s') := fun x13 => by
    refine Ok.step (fun f => p112_33_eq f x8 x10 x11 x12 x13 x14) ?_
    refine Ok.c (fun hl => num35 h _ (.inr (.inr rfl)) _ 5 s _ _ _ r (of_decide_eq_true hl) (by have := of_decide_eq_true hl; omega)) (fun _ => num39 h s r _ ht _ _ _)
  refine Ok.step (fun f => p112_31_eq f x8 x10 x11 x12 x13 x14) ?_
  exact Ok.c (fun _ => n33 _) (fun _ => Ok.c (fun _ => n33 _) (fun _ => n33 _))
theorem num22 (h : at_ < x8 ∧ x8 ≤ (bl str).length) (x9 : ByteArray) (hx : (bl x9).length ≤ 1000000) (x10 : Int) (ht : NumT x10) (x11 : Bool) : ∀ (m : Nat) (s : St) (x12 : Int) (x13 : Bool) (x14 x15 : Int), Reads s0 s → 0 ≤ x15 → (bl x9).length - x15 < m → Ok (fun f => p112_22 f x8 x9 x10 x11 x12 x13 x14 x15) s (fun v s' => NumQ str at_ v ∧ Reads s0 s') := by
  have hbl : (bl x9).length = x9.data.toList.length := rfl
  intro m
  induction m with
  | zero =>
    intro s x12 x13 x14 x15 r h1 h2
    refine Ok.step (fun f => p112_22_eq f x8 x9 x10 x11 x12 x13 x14 x15) ?_
    exact Ok.f (decide_eq_false (by simp only [Int.ofNat_eq_natCast]; omega)) (num31 h s r _ ht _ _ _ _)
  | succ m ih =>
    intro s x12 x13 x14 x15 r h1 h2
    refine Ok.step (fun f => p112_22_eq f x8 x9 x10 x11 x12 x13 x14 x15) ?_
    refine Ok.c (fun hl => ?_) (fun _ => num31 h s r _ ht _ _ _ _)
    have hl := of_decide_eq_true hl
    simp only [Int.ofNat_eq_natCast] at hl
    have h0 : decide ((0 : Int) ≤ x15) = true := decide_eq_true h1
    have hb : Nat.ble (Nat.succ (Int.toNat x15)) (List.length (Array.toList (ByteArray.data x9))) = true := Nat.ble_eq_true_of_le (by omega)
    have L31 : ∀ x12 x13 x14, Ok (fun f => p112_31 f x8 x10 x11 x12 x13 x14) s (fun v s' => NumQ str at_ v ∧ Reads s0 s') := fun _ _ _ => num31 h s r _ ht _ _ _ _
    have L23 : ∀ x12 x13 x14, Ok (fun f => p112_23 f x8 x9 x10 x11 x12 x13 x14 x15) s (fun v s' => NumQ str at_ v ∧ Reads s0 s') := fun x12 x13 x14 => by
      refine Ok.step (fun f => p112_23_eq f x8 x9 x10 x11 x12 x13 x14 x15) ?_
      rw [wrap1 (show 0 ≤ x15 ∧ x15 ≤ 1000000 by omega)]
      exact ih s _ _ _ (x15 + 1) r (by omega) (by omega)
    repeat' (first
      | with_reducible exact L31 _ _ _
      | with_reducible exact L23 _ _ _
      | with_reducible refine Ok.t h0 ?_
      | with_reducible refine Ok.t hb ?_
      | (with_reducible refine Ok.call (digit_ok s _) ?_; rintro v s' ⟨rfl, rfl⟩; refine Ok.t rfl ?_)
      | with_reducible refine Ok.c (fun _ => ?_) (fun _ => ?_))
theorem sub1 {n : Nat} (h : 1 ≤ n) (h2 : n ≤ 1000000) : IntKind.i64.wrap (Int.subNatNat n 1) = ((n - 1 : Nat) : Int) := by
  have e : Int.subNatNat n 1 = ((n - 1 : Nat) : Int) := Int.subNatNat_of_le h
  exact (congrArg _ e).trans (wrap_in _ (by omega) (by omega))
theorem num16 (h : at_ < x8 ∧ x8 ≤ (bl str).length) (s : St) (r : Reads s0 s) (x9 : ByteArray) (hx : 1 ≤ (bl x9).length ∧ (bl x9).length ≤ 1000000) (x10 : Int) (ht : NumT x10) (x11 : Bool) : Ok (fun f => p112_16 f x8 x9 x10 x11) s (fun v s' => NumQ str at_ v ∧ Reads s0 s') := by
  have hbl : (bl x9).length = x9.data.toList.length := rfl
  have n19 : ∀ (y : ByteArray) (x10 : Int), NumT x10 → (bl y).length ≤ 1000000 → Ok (fun f => p112_19 f x8 y x10 x11) s (fun v s' => NumQ str at_ v ∧ Reads s0 s') := fun y x10 ht hy => by
    refine Ok.step (fun f => p112_19_eq f x8 y x10 x11) ?_
    exact num22 h y hy x10 ht x11 ((bl y).length + 1) s _ _ _ 0 r (by omega) (by omega)
  refine Ok.step (fun f => p112_16_eq f x8 x9 x10 x11) ?_
  simp only [sub1 (show 1 ≤ x9.data.toList.length by omega) (show x9.data.toList.length ≤ 1000000 by omega), Int.toNat_natCast]
  refine Ok.t (decide_eq_true (by omega)) (Ok.t (Nat.ble_eq_true_of_le (by omega)) (Ok.c (fun _ => ?_) (fun _ => n19 _ _ ht hx.2)))
  refine Ok.t (decide_eq_true (by omega)) (Ok.t ?_ (n19 _ _ (.inr (.inl rfl)) ?_))
  · rw [Bool.and_eq_true]
    exact ⟨Nat.ble_eq_true_of_le (by omega), Nat.ble_eq_true_of_le (by omega)⟩
  · rw [bl_mk, List.length_take]
    omega
end
section
variable {m0 : Tr Slot} {lo : Nat} {s0 : St} {b : Nat} {str : ByteArray} {a : Int} {ts : List Tok} {err bad at_ : Int}
theorem byteZ_eq {str : ByteArray} {i : Int} (h : 0 ≤ i ∧ i < (bl str).length) : byteZ str i = Int.ofNat (byteAt str i.toNat) := by unfold byteZ; rw [if_pos h]
theorem byteAt_cut (l : List UInt8) (i n : Nat) (h : 0 < n) : byteAt (mkStr (List.take n (List.drop i l))) 0 = byteAt (mkStr l) i := by
  simp only [byteAt, mkStr, List.getD_eq_getElem?_getD, List.getElem?_take, List.getElem?_drop, h, ↓reduceIte, Nat.add_zero]
theorem num2 (ha : 0 ≤ at_) (hs : (bl str).length ≤ 900000) (hn : numAt str at_) : ∀ (m : Nat) (s : St) (x8 : Int), RX m0 lo s b str a ts err bad → Reads s0 s → at_ < x8 ∧ x8 ≤ (bl str).length → (bl str).length - x8 < (m : Int) → Ok (fun f => p112_2 f b at_ x8) s (fun v s' => NumQ str at_ v ∧ Reads s0 s') := by
  have hbl : (bl str).length = str.data.toList.length := rfl
  intro m
  induction m with
  | zero => intro s x8 _ _ h1 h2; omega
  | succ m ih =>
    intro s x8 h r h1 h2
    -- what follows the run
    have hL : (List.take ((Int.toNat x8) - (Int.toNat at_)) (List.drop (Int.toNat at_) (Array.toList (ByteArray.data str)))).length = x8.toNat - at_.toNat := by
      rw [List.length_take, List.length_drop]; omega
    have hb0 : byteAt (mkStr (List.take ((Int.toNat x8) - (Int.toNat at_)) (List.drop (Int.toNat at_) (Array.toList (ByteArray.data str))))) 0 = byteAt str at_.toNat := byteAt_cut _ _ _ (by omega)
    have A : (Nat.ble (Int.toNat at_) (Int.toNat x8) && Nat.ble (Int.toNat x8) (List.length (Array.toList (ByteArray.data str)))) = true := by
      rw [Bool.and_eq_true]; exact ⟨Nat.ble_eq_true_of_le (by omega), Nat.ble_eq_true_of_le (by omega)⟩
    have h0 : decide ((0 : Int) ≤ at_) = true := decide_eq_true ha
    have h8 : decide ((0 : Int) ≤ x8) = true := decide_eq_true (by omega)
    have go : ∀ {s' : St}, Reads s s' → x8 < (bl str).length → Ok (fun f => p112_2 f b at_ (IntKind.i64.wrap (x8 + 1))) s' (fun v s' => NumQ str at_ v ∧ Reads s0 s') := fun {s'} r' hl => by
      rw [wrap1 (show 0 ≤ x8 ∧ x8 ≤ 1000000 by omega)]
      exact ih s' (x8 + 1) (h.reads r') (r.trans r') (by omega) (by omega)
    refine Ok.step (fun f => p112_2_eq f b at_ x8) ?_
    refine Ok.callP (Ok.load1 (by kernel_rfl) h.c0) ?_
    rintro v s1 ⟨rfl, m1, c1, l1⟩
    have r1 : Reads s s1 := ⟨m1, c1, [_, _], l1, rfl⟩
    refine Ok.t rfl ?_
    simp only [strOf]
    refine Ok.c (fun hl => ?_) (fun hl => ?_)
    · have hl := of_decide_eq_true hl
      simp only [Int.ofNat_eq_natCast] at hl
      have hb : Nat.ble (Nat.succ (Int.toNat x8)) (List.length (Array.toList (ByteArray.data str))) = true := Nat.ble_eq_true_of_le (by omega)
      refine Ok.callP (Ok.load1 (by kernel_rfl) (h.reads r1).c0) ?_
      rintro v s2 ⟨rfl, m2, c2, l2⟩
      have r2 : Reads s s2 := r1.trans ⟨m2, c2, [_, _], l2, rfl⟩
      refine Ok.t rfl (Ok.t h8 ?_)
      refine Ok.t hb ?_
      refine Ok.call (inside_ok s2 _) ?_
      rintro v s3 ⟨rfl, rfl⟩
      refine Ok.t rfl (Ok.c (fun _ => go r2 (by omega)) (fun hin => ?_))
      refine Ok.callP (Ok.load1 (by kernel_rfl) (h.reads r2).c0) ?_
      rintro v s4 ⟨rfl, m4, c4, l4⟩
      have R0 : Reads s s4 := r2.trans ⟨m4, c4, [_, _], l4, rfl⟩
      refine Ok.t rfl (Ok.t h8 ?_)
      refine Ok.t hb (Ok.c (fun _ => go R0 (by omega)) (fun _ => ?_))
      have hm : at_ + 1 = x8 → byteZ str at_ ≠ 45 := fun e e2 => by
        have hin : isInside (Int.ofNat (byteAt str x8.toNat)) = false := hin
        rw [← byteZ_eq (by omega), ← e] at hin
        rcases hn with h | ⟨_, h⟩
        · rw [e2] at h; cases h
        · simp [isInside, h] at hin
      refine Ok.callP (Ok.load1 (by kernel_rfl) (h.reads R0).c0) ?_
      rintro v sT ⟨rfl, m2, c2, l2⟩
      have R2 : Reads s sT := R0.trans ⟨m2, c2, [_, _], l2, rfl⟩
      refine Ok.t rfl (Ok.t h0 (Ok.t h8 (Ok.t A ?_)))
      refine Ok.c (fun _ => Ok.ret ⟨⟨2, _, x8, true, rfl, h1.1, h1.2, fun _ => .inl rfl⟩, r.trans R2⟩) (fun _ => ?_)
      refine Ok.c (fun _ => Ok.ret ⟨⟨4, _, x8, true, rfl, h1.1, h1.2, fun _ => .inr (.inl rfl)⟩, r.trans R2⟩) (fun _ => ?_)
      refine Ok.c (fun _ => Ok.ret ⟨⟨5, _, x8, true, rfl, h1.1, h1.2, fun _ => .inr (.inr rfl)⟩, r.trans R2⟩) (fun _ => ?_)
      refine Ok.t (Nat.ble_eq_true_of_le (by rw [hL]; omega)) ?_
      refine Ok.c (fun hmi => ?_) (fun _ => num16 h1 sT (r.trans R2) _ (by rw [bl_mk, hL]; omega) _ (.inl rfl) _)
      have hmi := of_decide_eq_true hmi
      rw [hb0] at hmi
      have hne : at_ + 1 ≠ x8 := fun e => hm e (by rw [byteZ_eq (by omega)]; exact hmi)
      refine Ok.t ?_ (num16 h1 sT (r.trans R2) _ ?_ _ (.inl rfl) _)
      · rw [Bool.and_eq_true]; exact ⟨Nat.ble_eq_true_of_le (by rw [hL]; omega), Nat.ble_eq_true_of_le (Nat.le_refl _)⟩
      · rw [bl_mk, List.length_take, List.length_drop, hL]; omega
    · have hl := of_decide_eq_false hl
      simp only [Int.ofNat_eq_natCast] at hl
      have R0 := r1
      have hm : at_ + 1 = x8 → byteZ str at_ ≠ 45 := fun e e2 => by
        rcases hn with h | ⟨_, h⟩
        · rw [e2] at h; cases h
        · have : byteZ str (at_ + 1) = 0 := by unfold byteZ; rw [if_neg (by omega)]
          rw [this] at h; cases h
      refine Ok.callP (Ok.load1 (by kernel_rfl) (h.reads R0).c0) ?_
      rintro v sT ⟨rfl, m2, c2, l2⟩
      have R2 : Reads s sT := R0.trans ⟨m2, c2, [_, _], l2, rfl⟩
      refine Ok.t rfl (Ok.t h0 (Ok.t h8 (Ok.t A ?_)))
      refine Ok.c (fun _ => Ok.ret ⟨⟨2, _, x8, true, rfl, h1.1, h1.2, fun _ => .inl rfl⟩, r.trans R2⟩) (fun _ => ?_)
      refine Ok.c (fun _ => Ok.ret ⟨⟨4, _, x8, true, rfl, h1.1, h1.2, fun _ => .inr (.inl rfl)⟩, r.trans R2⟩) (fun _ => ?_)
      refine Ok.c (fun _ => Ok.ret ⟨⟨5, _, x8, true, rfl, h1.1, h1.2, fun _ => .inr (.inr rfl)⟩, r.trans R2⟩) (fun _ => ?_)
      refine Ok.t (Nat.ble_eq_true_of_le (by rw [hL]; omega)) ?_
      refine Ok.c (fun hmi => ?_) (fun _ => num16 h1 sT (r.trans R2) _ (by rw [bl_mk, hL]; omega) _ (.inl rfl) _)
      have hmi := of_decide_eq_true hmi
      rw [hb0] at hmi
      have hne : at_ + 1 ≠ x8 := fun e => hm e (by rw [byteZ_eq (by omega)]; exact hmi)
      refine Ok.t ?_ (num16 h1 sT (r.trans R2) _ ?_ _ (.inl rfl) _)
      · rw [Bool.and_eq_true]; exact ⟨Nat.ble_eq_true_of_le (by rw [hL]; omega), Nat.ble_eq_true_of_le (Nat.le_refl _)⟩
      · rw [bl_mk, List.length_take, List.length_drop, hL]; omega
theorem number_ok {s : St} (ha : 0 ≤ at_) (hs : (bl str).length ≤ 900000) (hn : numAt str at_) (h : RX m0 lo s b str a ts err bad) : Ok (fun f => callF En (runP En f) 112 [.pointer (some ⟨b, 0, none⟩), .int .i64 at_]) s (fun v s' => NumQ str at_ v ∧ Reads s s') := by
  have hlt : at_ < (bl str).length := by
    rcases hn with h | ⟨h, _⟩
    · refine (byteZ_lt (str := str) (i := at_) fun e => ?_).2
      rw [e] at h; cases h
    · exact (byteZ_lt (str := str) (i := at_) fun e => by rw [e] at h; cases h).2
  refine Ok.step (fun f => f112_eq f b at_) ?_
  rw [wrap1 (show 0 ≤ at_ ∧ at_ ≤ 1000000 by omega)]
  exact num2 ha hs hn ((bl str).length + 1) s (at_ + 1) h (Reads.refl s) (by omega) (by omega)
end
end Go.Proofs.YtpljgnjdlciicaaGreatDoor
/- The reference's lexer: vectors of numbers. -/
namespace Go.Ev
open Go
theorem Grow.lower {m : Tr Slot} {lo lo' hi el sz : Nat} {cs : List Value} {v : Value} (h : Grow m lo hi el sz cs v) (e : lo' ≤ lo) : Grow m lo' hi el sz cs v := by
  obtain ⟨h1, h2⟩ := h
  refine ⟨h1, ?_⟩
  rcases h2 with h2 | ⟨r, n, sy, olds, a1, a2, a3, a4, a5, a6, a7⟩
  · exact .inl h2
  · exact .inr ⟨r, n, sy, olds, a1, a2, by omega, a4, fun k hk => by have := a5 k hk; omega, a6, a7⟩
end Go.Ev
namespace Go.Proofs.YtpljgnjdlciicaaGreatDoor
open Go Go.Ev Go.Proofs
noncomputable def bodyN (n f : Nat) (args : List Value) : Prog := opt (En.fn.get n) fun fn => match fn.body with
  | some c => runP En f n (frameTm fn.ntmps args) [.code c] [] none
  | none => .fail
theorem f64_frz (f b : Nat) (k e : Int) (x : ByteArray) (t : Int) (n sy l : Value) : callF En (runP En f) 64 [.pointer (some ⟨b, 0, none⟩), .int .i64 k, .int .i64 e, .string x, .agg ⟨[.int .i64 t, n, sy, l]⟩] =
    frzL En 20 2 n fun n => frzL En 20 9 sy fun sy => frzL En 20 34 l fun l => bodyN 64 f [.pointer (some ⟨b, 0, none⟩), .int .i64 k, .int .i64 e, .string x, .agg ⟨[.int .i64 t, n, sy, l]⟩] := by kernel_rfl
theorem f64_lst (f b : Nat) (k e : Int) (x : ByteArray) (t : Int) (n sy l : List Value) : callF En (runP En f) 64 [.pointer (some ⟨b, 0, none⟩), .int .i64 k, .int .i64 e, .string x, .agg ⟨[.int .i64 t, lstV n, lstV sy, lstV l]⟩] =
    bodyN 64 f [.pointer (some ⟨b, 0, none⟩), .int .i64 k, .int .i64 e, .string x, .agg ⟨[.int .i64 t, lstV n, lstV sy, lstV l]⟩] := by kernel_rfl
theorem appT30 : AppT En 30 2 1 8 := ⟨by kernel_rfl, by kernel_rfl, by kernel_rfl, by kernel_rfl, by omega⟩
theorem len30s (a : Option Addr) (n c : Nat) : builtinA En Builtin.len (30 :: []) (Value.slice a n c :: []) = .ret (vInt n) := by kernel_rfl
section
variable {m0 : Tr Slot} {lo : Nat} {s : St} {b : Nat} {str : ByteArray} {a : Int} {ts : List Tok} {err bad : Int}
/-- What the reference's lexer keeps. -/
def LI (m0 : Tr Slot) (lo : Nat) (s : St) (b : Nat) (str : ByteArray) (a : Int) (ts : List Tok) (err bad : Int) : Prop := RX m0 lo s b str a ts err bad ∧ RToks a ts ∧ 0 ≤ a ∧ a ≤ (bl str).length ∧ ts.length ≤ 16384
/-- What one step of it comes to: an error, or a place further on and tokens. -/
def NextQ (m0 : Tr Slot) (lo b : Nat) (str : ByteArray) (a : Int) (v : Value) (s' : St) : Prop := v = .tuple ⟨[]⟩ ∧ ∃ a' ts' err' bad', LI m0 lo s' b str a' ts' err' bad' ∧ (err' ≠ 0 ∨ (a < a' ∧ ts' ≠ []))
theorem token_q {kind en : Int} {text : ByteArray} {t : Int} {n sy l : List Value} {s' : St} (h1 : RToks a ts) (h2 : 0 ≤ a) (h3 : a < en ∧ en ≤ (bl str).length) (hv : VFl t n sy l) (hk : kind = 6 → bl text ≠ []) (h4 : ts.length ≤ 16384)
    (q : (ts.length < 16384 ∧ RX m0 lo s' b str en (ts ++ [⟨kind, a, en, text, t, n, sy, l⟩]) err bad) ∨ (RX m0 lo s' b str a ts (if err = 0 then 6 else err) (if err = 0 then a else bad))) : NextQ m0 lo b str a (.tuple ⟨[]⟩) s' := by
  refine ⟨rfl, ?_⟩
  rcases q with ⟨q1, q2⟩ | q
  · refine ⟨_, _, _, _, ⟨q2, h1.snoc ⟨hv, hk, h2, h3.1⟩ rfl rfl, by omega, h3.2, ?_⟩, .inr ⟨h3.1, by simp⟩⟩
    simp only [List.length_append, List.length_cons, List.length_nil]; omega
  · refine ⟨_, _, _, _, ⟨q, h1, h2, by omega, h4⟩, .inl ?_⟩
    split
    · omega
    · assumption
theorem fail_q {e p : Int} {s' : St} (h1 : RToks a ts) (h2 : 0 ≤ a ∧ a ≤ (bl str).length) (h4 : ts.length ≤ 16384) (he : e ≠ 0) (q : RX m0 lo s' b str a ts (if err = 0 then e else err) (if err = 0 then p else bad)) : NextQ m0 lo b str a (.tuple ⟨[]⟩) s' := by
  refine ⟨rfl, _, _, _, _, ⟨q, h1, h2.1, h2.2, h4⟩, .inl ?_⟩
  split
  · exact he
  · assumption
/-- Of a row that lies low: a number of it is set. -/
theorem set1h {hi : Nat} (h : RX m0 lo ⟨s.mem, hi, []⟩ b str a ts err bad) (a' : Int) : Ok (fun _ => storeT En 3 b 1 (.int .i64 a')) s (fun w s' => w = U ∧ RX m0 lo ⟨s'.mem, hi, []⟩ b str a' ts err bad ∧ s'.ctr = s.ctr ∧ ∀ k, k ≠ b + 2 → s'.mem.get k = s.mem.get k) := by
  obtain ⟨l, h1, h2, h3, h4, h5⟩ := h
  simp only at h1 h2 h3 h5
  refine Ok.mono (Ok.storeCell (by kernel_rfl) rfl h1 (by simp [lxC]) rfl) ?_
  rintro w s' ⟨rfl, e1, e2, e3⟩
  exact ⟨rfl, ⟨l, e2, h2.congr (Nat.le_refl _) fun j h4 h5 => e3 j (by omega), h3, h4, fun k hk => by simp only; rw [e3 k (by omega), h5 k hk]⟩, e1, fun k hk => e3 k (by omega)⟩
theorem set3h {hi : Nat} (h : RX m0 lo ⟨s.mem, hi, []⟩ b str a ts err bad) (a' : Int) : Ok (fun _ => storeT En 3 b 3 (.int .i64 a')) s (fun w s' => w = U ∧ RX m0 lo ⟨s'.mem, hi, []⟩ b str a ts a' bad ∧ s'.ctr = s.ctr ∧ ∀ k, k ≠ b + 4 → s'.mem.get k = s.mem.get k) := by
  obtain ⟨l, h1, h2, h3, h4, h5⟩ := h
  simp only at h1 h2 h3 h5
  refine Ok.mono (Ok.storeCell (by kernel_rfl) rfl h1 (by simp [lxC]) rfl) ?_
  rintro w s' ⟨rfl, e1, e2, e3⟩
  exact ⟨rfl, ⟨l, e2, h2.congr (Nat.le_refl _) fun j h4 h5 => e3 j (by omega), h3, h4, fun k hk => by simp only; rw [e3 k (by omega), h5 k hk]⟩, e1, fun k hk => e3 k (by omega)⟩
theorem set4h {hi : Nat} (h : RX m0 lo ⟨s.mem, hi, []⟩ b str a ts err bad) (a' : Int) : Ok (fun _ => storeT En 3 b 4 (.int .i64 a')) s (fun w s' => w = U ∧ RX m0 lo ⟨s'.mem, hi, []⟩ b str a ts err a' ∧ s'.ctr = s.ctr ∧ ∀ k, k ≠ b + 5 → s'.mem.get k = s.mem.get k) := by
  obtain ⟨l, h1, h2, h3, h4, h5⟩ := h
  simp only at h1 h2 h3 h5
  refine Ok.mono (Ok.storeCell (by kernel_rfl) rfl h1 (by simp [lxC]) rfl) ?_
  rintro w s' ⟨rfl, e1, e2, e3⟩
  exact ⟨rfl, ⟨l, e2, h2.congr (Nat.le_refl _) fun j h4 h5 => e3 j (by omega), h3, h4, fun k hk => by simp only; rw [e3 k (by omega), h5 k hk]⟩, e1, fun k hk => e3 k (by omega)⟩
theorem RX.up {hi : Nat} (h : RX m0 lo ⟨s.mem, hi, []⟩ b str a ts err bad) (e : hi ≤ s.ctr) : RX m0 lo s b str a ts err bad := h.frame (s := ⟨s.mem, hi, []⟩) e fun _ _ => rfl
theorem RX.keep {hi : Nat} {s' : St} (h : RX m0 lo ⟨s.mem, hi, []⟩ b str a ts err bad) (e : ∀ k, k < hi → s'.mem.get k = s.mem.get k) : RX m0 lo ⟨s'.mem, hi, []⟩ b str a ts err bad := h.frame (s := ⟨s.mem, hi, []⟩) (s' := ⟨s'.mem, hi, []⟩) (Nat.le_refl _) e
theorem rfail_h {hi : Nat} (h : RX m0 lo ⟨s.mem, hi, []⟩ b str a ts err bad) (hhi : hi ≤ s.ctr) (e p : Int) :
    Ok (fun f => callF En (runP En f) 63 [.pointer (some ⟨b, 0, none⟩), .int .i64 e, .int .i64 p]) s (fun v s' => v = .tuple ⟨[]⟩ ∧ RX m0 lo ⟨s'.mem, hi, []⟩ b str a ts (if err = 0 then e else err) (if err = 0 then p else bad) ∧ s'.ctr = s.ctr ∧ ∀ k, (k ≤ b ∨ b + 6 ≤ k) → s'.mem.get k = s.mem.get k) := by
  refine Ok.step (fun f => f63_eq f b e p) ?_
  refine Ok.callP (Ok.load1 (by kernel_rfl) (h.up hhi).c3) ?_
  rintro v s1 ⟨rfl, m1, c1, l1⟩
  have h := h.keep (s' := s1) fun k _ => by rw [m1]
  refine Ok.t rfl ?_
  refine Ok.c (fun he => ?_) (fun he => ?_)
  · have he := of_decide_eq_true he
    have he : err = 0 := he
    refine Ok.callP (set3h h e) ?_
    rintro w s2 ⟨rfl, h2, c2, f2⟩
    refine Ok.callP (set4h h2 p) ?_
    rintro w s3 ⟨rfl, h3, c3, f3⟩
    refine Ok.ret ⟨rfl, by rw [if_pos he, if_pos he]; exact h3, by omega, fun k hk => by rw [f3 k (by omega), f2 k (by omega), m1]⟩
  · have he := of_decide_eq_false he
    have he : err ≠ 0 := he
    exact Ok.ret ⟨rfl, by rw [if_neg he, if_neg he]; exact h, c1, fun k _ => by rw [m1]⟩
theorem RX.cut (h : RX m0 lo s b str a ts err bad) : RX m0 lo ⟨s.mem, s.ctr, []⟩ b str a ts err bad := h
/-- A value under construction: its row, its numbers. -/
def VR (m : Tr Slot) (hi x : Nat) (t : Int) (n : List Value) : Prop := ∃ nv, Row m x [.int .i64 t, nv, .slice none 0 0, .slice none 0 0] ∧ Grow m (x + 5) hi 2 1 n nv
theorem VR.congr {m m' : Tr Slot} {hi hi' x : Nat} {t : Int} {n : List Value} (h : VR m hi x t n) (hh : hi ≤ hi') (hx : x + 5 ≤ hi) (e : ∀ k, x ≤ k → k < hi → m'.get k = m.get k) : VR m' hi' x t n := by
  obtain ⟨nv, h1, h2⟩ := h
  exact ⟨nv, h1.congr fun j a1 a2 => e j a1 (by simp at a2; omega), h2.congr hh fun j a1 a2 => e j (by omega) a2⟩
theorem tokenN_ok {hi : Nat} {nv : Value} {n : List Value} (H : RX m0 lo ⟨s.mem, hi, []⟩ b str a ts err bad) (hhi : hi ≤ s.ctr) (hg : Grow s.mem hi s.ctr 2 1 n nv) (kind en : Int) (text : ByteArray) (t : Int) (hl : ts.length ≤ 20000) :
    Ok (fun f => callF En (runP En f) 64 [.pointer (some ⟨b, 0, none⟩), .int .i64 kind, .int .i64 en, .string text, .agg ⟨[.int .i64 t, nv, .slice none 0 0, .slice none 0 0]⟩]) s
      (fun v s' => v = .tuple ⟨[]⟩ ∧ ((ts.length < 16384 ∧ RX m0 lo s' b str en (ts ++ [⟨kind, a, en, text, t, n, [], []⟩]) err bad) ∨ (RX m0 lo s' b str a ts (if err = 0 then 6 else err) (if err = 0 then a else bad)))) := by
  simp only [f64_frz]
  refine Ok.frzL (by kernel_rfl) sl2 (by kernel_rfl) hg fun s' c1 f1 => ?_
  refine Ok.frzNil (Ok.frzNil ?_)
  simp only [← f64_lst]
  exact rtoken_ok (H.frame (s := ⟨s.mem, hi, []⟩) (by simp only; omega) f1) kind en text t n [] [] hl
theorem tokenS_ok {hi : Nat} {nv : Value} {n : List Value} (H : RX m0 lo ⟨s.mem, hi, []⟩ b str a ts err bad) (hhi : hi ≤ s.ctr) (hg : Grow s.mem hi s.ctr 9 1 n nv) (kind en : Int) (text : ByteArray) (t : Int) (hl : ts.length ≤ 20000) :
    Ok (fun f => callF En (runP En f) 64 [.pointer (some ⟨b, 0, none⟩), .int .i64 kind, .int .i64 en, .string text, .agg ⟨[.int .i64 t, .slice none 0 0, nv, .slice none 0 0]⟩]) s
      (fun v s' => v = .tuple ⟨[]⟩ ∧ ((ts.length < 16384 ∧ RX m0 lo s' b str en (ts ++ [⟨kind, a, en, text, t, [], n, []⟩]) err bad) ∨ (RX m0 lo s' b str a ts (if err = 0 then 6 else err) (if err = 0 then a else bad)))) := by
  simp only [f64_frz]
  refine Ok.frzNil ?_
  refine Ok.frzL (by kernel_rfl) sl9 (by kernel_rfl) hg fun s' c1 f1 => ?_
  refine Ok.frzNil ?_
  simp only [← f64_lst]
  exact rtoken_ok (H.frame (s := ⟨s.mem, hi, []⟩) (by simp only; omega) f1) kind en text t [] n [] hl
/-- A number more. -/
theorem push2 {x : Nat} (H : RX m0 lo ⟨s.mem, x, []⟩ b str a ts err bad) (hx : x + 5 ≤ s.ctr) {t : Int} {n : List Value} (V : VR s.mem s.ctr x t n) (hn : n.length ≤ 70000) (t' i : Int) {Q : Value → St → Prop} {p : Nat → Prog}
    (hk : ∀ s', RX m0 lo ⟨s'.mem, x, []⟩ b str a ts err bad → x + 5 ≤ s'.ctr → VR s'.mem s'.ctr x t' (n ++ [.int .i64 i]) → Ok p s' Q) :
    Ok (fun f => Ev.callP (fun _ => Ev.callP (fun v66 => Ev.callP (fun v67 => Ev.callP (fun _ => p f) (storeT En 30 x (0 + 1) v67)) (builtinA En Builtin.append (30 :: (30 :: [])) (v66 :: (xlstV ((Value.int IntKind.i64 i) :: []) :: [])))) (loadT En 30 x (0 + 1))) (storeT En 3 x (0 + 0) (.int .i64 t'))) s Q := by
  obtain ⟨nv, v1, v2⟩ := V
  refine Ok.callP (Ok.storeCell (b := x) (o := 0 + 0) (by kernel_rfl) rfl v1 (by simp) rfl) ?_
  rintro w s1 ⟨rfl, c1, g1, f1⟩
  have H1 := H.keep (s' := s1) fun k hk => f1 k (by omega)
  refine Ok.callP (Ok.load1 (b := x) (o := 0 + 1) (by kernel_rfl) (g1.cell 1 rfl)) ?_
  rintro nv s2 ⟨rfl, m2, c2, _⟩
  have G2 : Grow s2.mem (x + 5) s2.ctr 2 1 n nv := v2.congr (by omega) fun j a1 a2 => by rw [m2]; exact f1 j (by omega)
  refine Ok.callP (Ok.app appT30 G2 rfl rfl (by omega) (by omega)) ?_
  rintro w s3 ⟨g3, c3, f3⟩
  have hw := g3.one
  have R3 : Row s3.mem x [.int .i64 t', nv, .slice none 0 0, .slice none 0 0] := g1.congr fun j a1 a2 => by rw [f3 j (by simp at a2; omega), m2]
  refine Ok.callP (Ok.storeCell (b := x) (o := 0 + 1) (by kernel_rfl) hw.2 R3 (by simp) hw.1) ?_
  rintro v s4 ⟨rfl, c4, g4, f4⟩
  refine hk s4 ?_ (by omega) ⟨w, g4, g3.congr (by omega) fun j a1 a2 => f4 j (by omega)⟩
  exact H1.keep (s := s1) fun k hk => by rw [f4 k (by omega), f3 k (by omega), m2]
/-- The vector's end: one token. -/
theorem vec22 {x : Nat} (H : RX m0 lo ⟨s.mem, x, []⟩ b str a ts err bad) (hx : x + 5 ≤ s.ctr) {t : Int} {n : List Value} (V : VR s.mem s.ctr x t n) (h1 : RToks a ts) (h2 : 0 ≤ a) (h4 : ts.length ≤ 16384) (hv : VFl t n [] []) (x4 : Int) (h3 : a < x4 ∧ x4 ≤ (bl str).length) :
    Ok (fun f => p66_22 f b x 0 x4) s (NextQ m0 lo b str a) := by
  have hbl : (bl str).length = str.data.toList.length := rfl
  obtain ⟨nv, v1, v2⟩ := V
  refine Ok.step (fun f => p66_22_eq f b x 0 x4) ?_
  have h := H.up (s := s) (by omega)
  refine Ok.segLoad (by kernel_rfl) h.c0 fun s1 r1 => ?_
  refine Ok.t rfl ?_
  refine Ok.segLoad (by kernel_rfl) (h.reads r1).c1 fun s2 r2 => ?_
  have r2 := r1.trans r2
  refine Ok.gdL (by kernel_rfl) (Ok.t rfl ?_)
  simp only [strOf, intOf]
  refine Ok.t (decide_eq_true h2) (Ok.t (decide_eq_true (by omega)) (Ok.t ?_ ?_))
  · rw [Bool.and_eq_true]; exact ⟨Nat.ble_eq_true_of_le (by omega), Nat.ble_eq_true_of_le (by omega)⟩
  refine Ok.segLoadA (n := 4) (b := x) (o := 0) (by kernel_rfl) (by kernel_rfl) rfl (by rw [r2.1]; exact hdr_of v1) (vs := [.int .i64 t, nv, .slice none 0 0, .slice none 0 0]) (by rw [r2.1]; exact v1.2) fun s3 r3 => ?_
  have r3 := r2.trans r3
  refine Ok.gdL (by kernel_rfl) (Ok.t rfl ?_)
  refine Ok.seg (tokenN_ok (s := ⟨s3.mem, s3.ctr, []⟩) (hi := x) (nv := nv) (n := n) (H.keep (s' := s3) fun k _ => by rw [r3.1]) (by simp only; rw [r3.2.1]; omega) ((v2.congr (by simp only; rw [r3.2.1]; exact Nat.le_refl _) fun j _ _ => by simp only; rw [r3.1]).lower (by omega)) _ _ _ _ (by omega)) ?_
  rintro v s4 ⟨rfl, q⟩
  refine Ok.gdL (by kernel_rfl) (Ok.t rfl ?_)
  exact Ok.ret (token_q (s' := ⟨s4.mem, s4.ctr, s4.log ++ s3.log⟩) h1 h2 h3 hv (fun h => by cases h) h4 q)
def VI (m0 : Tr Slot) (lo b x : Nat) (str : ByteArray) (a : Int) (ts : List Tok) (err bad : Int) (s : St) (t : Int) (n : List Value) : Prop :=
  RX m0 lo ⟨s.mem, x, []⟩ b str a ts err bad ∧ x + 5 ≤ s.ctr ∧ VR s.mem s.ctr x t n ∧ IntsV n ∧ n.length ≤ 65536 ∧ (n = [] ∨ NumT t)
theorem VI.fresh {x : Nat} {s' : St} {t : Int} {n : List Value} (h : VI m0 lo b x str a ts err bad s t n) (f : Fresh s s') : VI m0 lo b x str a ts err bad s' t n := by
  obtain ⟨h1, h2, h3, h4⟩ := h
  exact ⟨h1.keep fun k hk => f.2 k (by omega), by have := f.1; omega, h3.congr f.1 h2 fun k _ hk => f.2 k hk, h4⟩
theorem VI.rx {x : Nat} {t : Int} {n : List Value} (h : VI m0 lo b x str a ts err bad s t n) : RX m0 lo s b str a ts err bad := h.1.up (by have := h.2.1; omega)
theorem numAt_lt {str : ByteArray} {i : Int} (h : numAt str i) : 0 ≤ i ∧ i < (bl str).length := by
  rcases h with h | ⟨h, _⟩
  · exact byteZ_lt fun e => by rw [e] at h; cases h
  · exact byteZ_lt fun e => by rw [e] at h; cases h
theorem vec_loop {x : Nat} (h1 : RToks a ts) (h2 : 0 ≤ a) (h4 : ts.length ≤ 16384) (hs : (bl str).length ≤ 70000) : ∀ (m : Nat),
    (∀ (s : St) (x3 t : Int) (n : List Value), VI m0 lo b x str a ts err bad s t n → a ≤ x3 → numAt str x3 → 2 * ((bl str).length - x3) + 1 < m → Ok (fun f => p66_2 f b x 0 x3) s (NextQ m0 lo b str a)) ∧
    (∀ (s : St) (x3 x7 t : Int) (n : List Value), VI m0 lo b x str a ts err bad s t n → n ≠ [] → a < x7 → x7 ≤ x3 → (x3 = x7 ∨ byteZ str (x3 - 1) = 32) → x3 ≤ (bl str).length → 2 * ((bl str).length - x3) + 2 < m → Ok (fun f => p66_13 f b x 0 x3 x7 x7) s (NextQ m0 lo b str a)) := by
  intro m
  induction m with
  | zero => exact ⟨fun s x3 t n hI ha hn hm => by
      have := numAt_lt hn; omega, fun s x3 x7 t n _ _ _ _ _ _ hm => by omega⟩
  | succ m ih =>
    refine ⟨fun s x3 t n hI ha hn hm => ?_, fun s x3 x7 t n hI hne ha7 h73 h32 hle hm => ?_⟩
    · have hlt := numAt_lt hn
      refine Ok.step (fun f => p66_2_eq f b x 0 x3) ?_
      refine Ok.call (number_ok (by omega) (by omega) hn hI.rx) ?_
      rintro v s1 ⟨⟨t', n', e, ok, rfl, q1, q2, q3⟩, r1⟩
      have hI1 := hI.fresh (fresh_reads r1)
      have fl : ∀ (s : St) (e p : Int), VI m0 lo b x str a ts err bad s t n → e ≠ 0 → Ok (fun f => Prog.call (callF En (runP En f) 63 [.pointer (some ⟨b, 0, none⟩), .int .i64 e, .int .i64 p]) fun v57 => cnd (Prog.ret (Value.tuple ⟨[]⟩)) Prog.fail ((isTupV v57) && (okNs [] (tupOf v57)))) s (NextQ m0 lo b str a) := fun s e p hI he => by
        refine Ok.call (rfail_ok hI.rx e p) ?_
        rintro v s2 ⟨rfl, h2', _⟩
        exact Ok.t rfl (Ok.ret (fail_q h1 ⟨h2, by omega⟩ h4 he h2'))
      refine Ok.t rfl ?_
      refine Ok.c (fun _ => fl s1 _ _ hI1 (by decide)) (fun hok => ?_)
      have hok : ok = true := by
        have hok : Bool.not ok = false := hok
        simpa using hok
      have ht' := q3 hok
      obtain ⟨H1, hx1, ⟨nv, w1, w2⟩, hin, hn5, hnt⟩ := id hI1
      obtain ⟨ad, cp, rfl⟩ := w2.len n.length (by omega) (by omega)
      have L : ∀ {s' : St}, Reads s1 s' → Cell s'.mem x 1 (.slice ad n.length cp) := fun r => by rw [r.1]; exact w1.cell 1 rfl
      refine Ok.callP (Ok.load1 (b := x) (o := 0 + 1) (by kernel_rfl) (L (Reads.refl s1))) ?_
      rintro v s2 ⟨rfl, m2, c2, l2⟩
      have r2 : Reads s1 s2 := ⟨m2, c2, [_, _], l2, rfl⟩
      simp only [len30s, callP_ret]
      refine Ok.t rfl ?_
      have push : ∀ {s' : St}, Reads s1 s' → n.length < 65536 → Ok _ s' (NextQ m0 lo b str a) := fun {s'} r hl =>
        push2 (p := fun f => p66_13 f b x 0 e e e) (t' := t') (i := n') (hI1.fresh (fresh_reads r)).1 (hI1.fresh (fresh_reads r)).2.1 (hI1.fresh (fresh_reads r)).2.2.1 (by omega) fun s5 g1 g2 g3 =>
          ih.2 s5 e e t' (n ++ [.int .i64 n']) ⟨g1, g2, g3, fun z hz => by
            rcases List.mem_append.1 hz with hz | hz
            · exact hin z hz
            · rw [List.mem_singleton] at hz; exact ⟨_, hz⟩, by simp only [List.length_append, List.length_cons, List.length_nil]; omega, .inr ht'⟩ (by simp) (by omega) (Int.le_refl _) (.inl rfl) q2 (by omega)
      refine Ok.c (fun _ => ?_) (fun _ => ?_)
      · refine Ok.callP (Ok.load1 (b := x) (o := 0 + 0) (by kernel_rfl) (v := .int .i64 t) (by rw [r2.1]; exact w1.cell 0 rfl)) ?_
        rintro v s3 ⟨rfl, m3, c3, l3⟩
        have r3 := r2.trans (⟨m3, c3, [_, _], l3, rfl⟩ : Reads s2 s3)
        refine Ok.t rfl (Ok.c (fun _ => fl s3 _ _ (hI1.fresh (fresh_reads r3)) (by decide)) (fun _ => ?_))
        refine Ok.callP (Ok.load1 (b := x) (o := 0 + 1) (by kernel_rfl) (L r3)) ?_
        rintro v s4 ⟨rfl, m4, c4, l4⟩
        have r4 := r3.trans (⟨m4, c4, [_, _], l4, rfl⟩ : Reads s3 s4)
        simp only [len30s, callP_ret]
        refine Ok.t rfl (Ok.c (fun _ => fl s4 _ _ (hI1.fresh (fresh_reads r4)) (by decide)) (fun hl => ?_))
        have hl := of_decide_eq_false hl
        have hl : ¬ ((n.length : Int) ≥ 65536) := hl
        exact push r4 (by omega)
      · refine Ok.callP (Ok.load1 (b := x) (o := 0 + 1) (by kernel_rfl) (L r2)) ?_
        rintro v s4 ⟨rfl, m4, c4, l4⟩
        have r4 := r2.trans (⟨m4, c4, [_, _], l4, rfl⟩ : Reads s2 s4)
        simp only [len30s, callP_ret]
        refine Ok.t rfl (Ok.c (fun _ => fl s4 _ _ (hI1.fresh (fresh_reads r4)) (by decide)) (fun hl => ?_))
        have hl := of_decide_eq_false hl
        have hl : ¬ ((n.length : Int) ≥ 65536) := hl
        exact push r4 (by omega)
    · refine Ok.step (fun f => p66_13_eq f b x 0 x3 x7 x7) ?_
      refine Ok.call (rbyte_ok hI.rx _) ?_
      rintro v s1 ⟨rfl, r1⟩
      have hI1 := hI.fresh (fresh_reads r1)
      refine Ok.t rfl (Ok.c (fun hb => ?_) (fun _ => ?_))
      · have hb : byteZ str x3 = 32 := of_decide_eq_true hb
        have := byteZ_lt (str := str) (i := x3) (by rw [hb]; decide)
        rw [wrap1 (show 0 ≤ x3 ∧ x3 ≤ 1000000 by omega)]
        exact ih.2 s1 (x3 + 1) x7 t n hI1 hne ha7 (by omega) (.inr (by rw [show x3 + 1 - 1 = x3 by omega]; exact hb)) (by omega) (by omega)
      have stop : ∀ (s : St), VI m0 lo b x str a ts err bad s t n → Ok (fun f => Ev.callP (fun v87 => Ev.callP (fun v88 => cnd (cnd (Ev.callP (fun v89 => cnd (Ev.callP (fun _ => p66_22 f b x 0 x7) (storeT En 3 x (0 + 0) (.int .i64 (IntKind.i64.wrap (0 + (Int.neg (intOf v89))))))) Prog.fail (okK (Kd.int .i64) v89)) (loadT En 3 x (0 + 0))) (p66_22 f b x 0 x7) (decide (intOf v88 = 1))) Prog.fail (okK (Kd.int .i64) v88)) (builtinA En Builtin.len (30 :: []) (v87 :: []))) (loadT En 30 x (0 + 1))) s (NextQ m0 lo b str a) := fun s hI => by
        obtain ⟨H, hx, ⟨nv, w1, w2⟩, hin, hn5, hnt⟩ := id hI
        have hnt : NumT t := hnt.resolve_left hne
        obtain ⟨ad, cp, rfl⟩ := w2.len n.length (by omega) (by omega)
        refine Ok.callP (Ok.load1 (b := x) (o := 0 + 1) (by kernel_rfl) (w1.cell 1 rfl)) ?_
        rintro v s2 ⟨rfl, m2, c2, l2⟩
        have r2 : Reads s s2 := ⟨m2, c2, [_, _], l2, rfl⟩
        have hI2 := hI.fresh (fresh_reads r2)
        simp only [len30s, callP_ret]
        refine Ok.t rfl (Ok.c (fun h1' => ?_) (fun _ => ?_))
        · have h1' : (n.length : Int) = 1 := of_decide_eq_true h1'
          refine Ok.callP (Ok.load1 (b := x) (o := 0 + 0) (by kernel_rfl) (v := .int .i64 t) (by rw [r2.1]; exact w1.cell 0 rfl)) ?_
          rintro v s3 ⟨rfl, m3, c3, l3⟩
          have r3 := r2.trans (⟨m3, c3, [_, _], l3, rfl⟩ : Reads s2 s3)
          refine Ok.t rfl ?_
          have R3 : Row s3.mem x [.int .i64 t, .slice ad n.length cp, .slice none 0 0, .slice none 0 0] := by rw [r3.1]; exact w1
          refine Ok.callP (Ok.storeCell (b := x) (o := 0 + 0) (by kernel_rfl) rfl R3 (by simp) rfl) ?_
          rintro w s4 ⟨rfl, c4, g4, f4⟩
          have e : IntKind.i64.wrap (0 + Int.neg (intOf (.int .i64 t))) = - t := by
            have : (0 + Int.neg (intOf (.int .i64 t))) = - t := by show 0 + (- t) = - t; omega
            rw [this]
            exact wrap_in _ (by rcases hnt with rfl | rfl | rfl <;> decide) (by rcases hnt with rfl | rfl | rfl <;> decide)
          have hc3 := r3.2.1
          refine vec22 (t := - t) (n := n) (H.keep fun k hk => by rw [f4 k (by omega), r3.1]) (by omega) ⟨.slice ad n.length cp, by rw [e] at g4; exact g4, w2.congr (by omega) fun j a1 a2 => by rw [f4 j (by omega), r3.1]⟩ h1 h2 h4 ?_ x7 ⟨ha7, by omega⟩
          refine ⟨rfl, by omega, by simp, .inr (.inl ⟨rfl, hin, ?_⟩)⟩
          have : n.length = 1 := by omega
          rcases hnt with rfl | rfl | rfl
          · exact .inr (.inr (.inr (.inr ⟨.inr (.inl rfl), this⟩)))
          · exact .inr (.inr (.inr (.inr ⟨.inr (.inr (.inl rfl)), this⟩)))
          · exact .inr (.inr (.inr (.inr ⟨.inr (.inr (.inr rfl)), this⟩)))
        · refine vec22 hI2.1 hI2.2.1 hI2.2.2.1 h1 h2 h4 ?_ x7 ⟨ha7, by omega⟩
          refine ⟨rfl, by omega, by simp, .inr (.inl ⟨rfl, hin, ?_⟩)⟩
          rcases hnt with rfl | rfl | rfl
          · exact .inr (.inl rfl)
          · exact .inr (.inr (.inl rfl))
          · exact .inr (.inr (.inr (.inl rfl)))
      -- the place is kept, and set back
      refine Ok.callP (Ok.load1 (by kernel_rfl) hI1.rx.c1) ?_
      rintro v s2 ⟨rfl, m2, c2, l2⟩
      have r2 : Reads s1 s2 := ⟨m2, c2, [_, _], l2, rfl⟩
      have hI2 := hI1.fresh (fresh_reads r2)
      refine Ok.t rfl ?_
      have hlo : b + 6 ≤ x := hI2.1.ctr
      refine Ok.callP (set1h hI2.1 x3) ?_
      rintro w s3 ⟨rfl, g3, c3, f3⟩
      have hI3 : VI m0 lo b x str x3 ts err bad s3 t n := ⟨g3, by have := hI2.2.1; omega, hI2.2.2.1.congr (by omega) hI2.2.1 fun k k1 _ => f3 k (by omega), hI2.2.2.2⟩
      have back : ∀ {s4 : St} {Q : Value → St → Prop} {p : Nat → Prog}, Fresh s3 s4 → (∀ s5, VI m0 lo b x str a ts err bad s5 t n → Ok p s5 Q) → Ok (fun f => Ev.callP (fun _ => p f) (storeT En 3 b 1 (.int .i64 (intOf (.int .i64 a))))) s4 Q := fun {s4 Q p} fr hk => by
        have hI4 := hI3.fresh fr
        refine Ok.callP (set1h hI4.1 a) ?_
        rintro w s5 ⟨rfl, g5, c5, f5⟩
        exact hk s5 ⟨g5, by have := hI4.2.1; omega, hI4.2.2.1.congr (by omega) hI4.2.1 fun k k1 _ => f5 k (by omega), hI4.2.2.2⟩
      refine Ok.c (fun h37 => ?_) (fun _ => back (Fresh.refl s3) stop)
      have h37 := of_decide_eq_true h37
      refine Ok.call (numbers_ok hI3.rx x3 ⟨by omega, hle⟩ (by omega) (fun _ => .inl (h32.resolve_left (by omega))) (fun y hy => (h1.1 y hy).1) (by omega)) ?_
      rintro v s4 ⟨⟨q, rfl, hq⟩, f4⟩
      refine Ok.t rfl (Ok.c (fun hq1 => ?_) (fun _ => back f4 stop))
      have hq1 : q = true := hq1
      refine Ok.call (bools_ok (hI3.fresh f4).rx ⟨by omega, by omega⟩ (by omega)) ?_
      rintro v s5 ⟨⟨rfl, hr⟩, r5⟩
      refine Ok.t rfl ?_
      refine back (f4.trans (fresh_reads r5)) fun s6 hI6 => ?_
      exact Ok.c (fun _ => stop s6 hI6) (fun _ => ih.1 s6 x3 t n hI6 (by omega) (hq hq1) (by omega))
theorem vector_ok (h : LI m0 lo s b str a ts err bad) (hs : (bl str).length ≤ 70000) (hn : numAt str a) : Ok (fun f => callF En (runP En f) 66 [.pointer (some ⟨b, 0, none⟩)]) s (NextQ m0 lo b str a) := by
  obtain ⟨h, h1, h2, h3, h4⟩ := h
  refine Ok.step (fun f => f66_eq f b) ?_
  refine Ok.g rfl ?_
  refine Ok.callP (Ok.new rfl) ?_
  rintro v s1 ⟨rfl, c1, g1, f1⟩
  refine Ok.t rfl ?_
  simp only [blk_itP, off_itP]
  refine Ok.callP (Ok.storeRow (n := 4) (by kernel_rfl) g1 rfl rfl rfl) ?_
  rintro v s2 ⟨rfl, c2, g2, f2⟩
  have h2' : RX m0 lo s2 b str a ts err bad := h.frame (by omega) fun k hk => by rw [f2 k (.inl (by omega)), f1 k hk]
  refine Ok.segLoad (by kernel_rfl) h2'.c1 fun s3 r3 => ?_
  refine Ok.t rfl ?_
  refine Ok.segLoad (by kernel_rfl) (h2'.reads r3).c1 fun s4 r4 => ?_
  have r4 := r3.trans r4
  refine Ok.gdL (by kernel_rfl) (Ok.t rfl ?_)
  have c4 := r4.2.1
  refine (vec_loop (m0 := m0) (lo := lo) (b := b) (err := err) (bad := bad) (x := s.ctr) h1 h2 h4 hs (2 * (bl str).length + 2)).1 s4 a 0 [] ⟨?_, by omega, ⟨.slice none 0 0, by rw [r4.1]; exact g2, Grow.nil _ _ _ _ _⟩, fun e he => by simp at he, by simp, .inl rfl⟩ (Int.le_refl _) hn (by omega)
  exact (RX.cut h).keep (s' := s4) fun k hk => by rw [r4.1, f2 k (.inl (by omega)), f1 k hk]
end
end Go.Proofs.YtpljgnjdlciicaaGreatDoor
/- The reference's lexer: quoted texts, symbols. -/
namespace Go.Proofs.YtpljgnjdlciicaaGreatDoor
open Go Go.Ev Go.Proofs
theorem q141 {s0 : St} {x0 : ByteArray} (hx : (bl x0).length ≤ 70000) : ∀ (m : Nat) (s : St) (x4 : Value) (x5 : Int) (cs : List Value), Grow s.mem s0.ctr s.ctr 5 1 cs x4 → allU8 cs = true → Fresh s0 s → 0 ≤ x5 → x5 ≤ (bl x0).length → cs.length ≤ x5 → (bl x0).length - x5 < m →
    Ok (fun f => p141_5 f x0 x4 x5) s (fun v s' => (∃ x e, v = .tuple ⟨[.string x, .int .i64 e]⟩) ∧ Fresh s0 s') := by
  have hbl : (bl x0).length = x0.data.toList.length := rfl
  intro m
  induction m with
  | zero => intro s x4 x5 cs _ _ _ _ _ _ h; omega
  | succ m ih =>
    intro s x4 x5 cs hg hu fr h0 hle hcs hm
    have no : ∀ {s' : St}, Fresh s0 s' → Ok (fun _ => Prog.ret (.tuple ⟨[.string (mkStr []), .int .i64 (-1)]⟩)) s' (fun v s' => (∃ x e, v = .tuple ⟨[.string x, .int .i64 e]⟩) ∧ Fresh s0 s') := fun f => Ok.ret ⟨⟨_, _, rfl⟩, f⟩
    have hw1 : IntKind.i64.wrap (x5 + 1) = x5 + 1 := wrap_in _ (by omega) (by omega)
    have hw2 : IntKind.i64.wrap (x5 + 2) = x5 + 2 := wrap_in _ (by omega) (by omega)
    have hw3 : IntKind.i64.wrap (x5 + 3) = x5 + 3 := wrap_in _ (by omega) (by omega)
    have hw4 : IntKind.i64.wrap (x5 + 4) = x5 + 4 := wrap_in _ (by omega) (by omega)
    have app : ∀ {s' : St} {p : Nat → Value → Prog} (k : Int), Reads s s' → (∀ s2 w, Grow s2.mem s0.ctr s2.ctr 5 1 (cs ++ [.int .u8 k]) w → Fresh s0 s2 → Ok (fun f => p f w) s2 (fun v s' => (∃ x e, v = .tuple ⟨[.string x, .int .i64 e]⟩) ∧ Fresh s0 s')) →
        Ok (fun f => Ev.callP (p f) (builtinA En Builtin.append (122 :: (122 :: [])) (x4 :: (xlstV ((Value.int IntKind.u8 k) :: []) :: [])))) s' (fun v s' => (∃ x e, v = .tuple ⟨[.string x, .int .i64 e]⟩) ∧ Fresh s0 s') := fun {s' p} k r hk => by
      have hc := fr.1
      refine Ok.callP (Ok.app appT65 (hg.congr (by rw [r.2.1]; exact Nat.le_refl _) fun j _ _ => by rw [r.1]) rfl rfl (by rw [r.2.1]; exact hc) (by omega)) ?_
      rintro w s2 ⟨g1, g2, g3⟩
      have := r.2.1
      exact hk s2 w g1 ⟨by omega, fun j hj => by rw [g3 j hj, r.1, fr.2 j hj]⟩
    have u8 : ∀ k : Int, allU8 (cs ++ [.int .u8 k]) = true := fun k => allU8_append _ _ hu rfl
    have len1 : ∀ k : Int, ((cs ++ [.int .u8 k] : List Value).length : Int) = cs.length + 1 := fun k => by simp
    refine Ok.step (fun f => p141_5_eq f x0 x4 x5) ?_
    simp only [hw1, hw2, hw3, hw4]
    have fin : Ok (fun _ => cnd (Prog.ret (.tuple ⟨[.string (mkStr []), .int .i64 (-1)]⟩)) (Ev.callP (fun v => Prog.ret (.tuple ⟨[v, .int .i64 (x5 + 1)]⟩)) (convA En 122 9 x4)) (decide (x5 ≥ (Int.ofNat (List.length (Array.toList (ByteArray.data x0))))))) s (fun v s' => (∃ x e, v = .tuple ⟨[.string x, .int .i64 e]⟩) ∧ Fresh s0 s') := by
      refine Ok.c (fun _ => no fr) (fun _ => ?_)
      refine Ok.callP (conv65 hg hu) ?_
      rintro v s2 ⟨rfl, r2⟩
      exact Ok.ret ⟨⟨_, _, rfl⟩, fr.trans (fresh_reads r2)⟩
    refine Ok.c (fun hl => ?_) (fun _ => fin)
    have hl := of_decide_eq_true hl
    simp only [Int.ofNat_eq_natCast] at hl
    have d0 : decide ((0 : Int) ≤ x5) = true := decide_eq_true h0
    have d1 : decide ((0 : Int) ≤ x5 + 1) = true := decide_eq_true (by omega)
    have d2 : decide ((0 : Int) ≤ x5 + 2) = true := decide_eq_true (by omega)
    have d3 : decide ((0 : Int) ≤ x5 + 3) = true := decide_eq_true (by omega)
    have b0 : Nat.ble (Nat.succ (Int.toNat x5)) (List.length (Array.toList (ByteArray.data x0))) = true := Nat.ble_eq_true_of_le (by omega)
    refine Ok.t d0 (Ok.t b0 (Ok.c (fun _ => ?_) (fun _ => fin)))
    refine Ok.t d0 (Ok.t b0 ?_)
    refine Ok.call (itself_ok s _) ?_
    rintro v s1 ⟨⟨q, rfl⟩, rfl⟩
    refine Ok.t rfl (Ok.c (fun _ => Ok.t d0 (Ok.t b0 ?_)) (fun _ => Ok.t d0 (Ok.t b0 ?_)))
    · refine app (p := fun f w => p141_5 f x0 w (x5 + 1)) _ (Reads.refl _) fun s2 w g f2 => ih s2 w (x5 + 1) _ g (u8 _) f2 (by omega) (by omega) (by rw [len1]; omega) (by omega)
    refine Ok.c (fun _ => no fr) (fun _ => Ok.c (fun _ => no fr) (fun h3 => ?_))
    have h3 := of_decide_eq_false h3
    simp only [Int.ofNat_eq_natCast] at h3
    have b1 : Nat.ble (Nat.succ (Int.toNat (x5 + 1))) (List.length (Array.toList (ByteArray.data x0))) = true := Nat.ble_eq_true_of_le (by omega)
    have b2 : Nat.ble (Nat.succ (Int.toNat (x5 + 2))) (List.length (Array.toList (ByteArray.data x0))) = true := Nat.ble_eq_true_of_le (by omega)
    have b3 : Nat.ble (Nat.succ (Int.toNat (x5 + 3))) (List.length (Array.toList (ByteArray.data x0))) = true := Nat.ble_eq_true_of_le (by omega)
    refine Ok.t d1 (Ok.t b1 (Ok.c (fun _ => no fr) (fun _ => Ok.t d2 (Ok.t b2 ?_))))
    refine Ok.call (hex_ok _ _) ?_
    rintro v s1 ⟨⟨q1, rfl⟩, rfl⟩
    refine Ok.t rfl (Ok.c (fun _ => no fr) (fun _ => Ok.t d3 (Ok.t b3 ?_)))
    refine Ok.call (hex_ok _ _) ?_
    rintro v s1 ⟨⟨q2, rfl⟩, rfl⟩
    refine Ok.t rfl (Ok.c (fun _ => no fr) (fun _ => Ok.t d2 (Ok.t b2 ?_)))
    refine segReads (R := fun v => ∃ r, v = .int .i64 r) (Ok.mono (hex_ok _ _) fun v s' h => ⟨h.1, by rw [h.2]; exact Reads.refl _⟩) ?_
    rintro v s1 g1 ⟨q3, rfl⟩ r1 w1
    refine Ok.t rfl (Ok.t d3 (Ok.t b3 ?_))
    refine segReads (R := fun v => ∃ r, v = .int .i64 r) (Ok.mono (hex_ok _ _) fun v s' h => ⟨h.1, by rw [h.2]; exact Reads.refl _⟩) ?_
    rintro v s2 g2 ⟨q4, rfl⟩ r2 w2
    have r2 := r1.trans r2
    refine Ok.gdL (freeL_reads _ _ w2 _ fun d hd => by simp only [List.mem_cons, List.not_mem_nil, or_false] at hd; subst hd; exact w1) (Ok.t rfl ?_)
    refine Ok.call (itself_ok s2 _) ?_
    rintro v s3 ⟨⟨q, rfl⟩, rfl⟩
    refine Ok.t rfl (Ok.c (fun _ => no (fr.trans (fresh_reads r2))) (fun _ => ?_))
    refine app (p := fun f w => p141_5 f x0 w (x5 + 4)) _ r2 fun s4 w g f2 => ih s4 w (x5 + 4) _ g (u8 _) f2 (by omega) (by omega) (by rw [len1]; omega) (by omega)
theorem unquote_ok {x0 : ByteArray} (s : St) (hx : (bl x0).length ≤ 70000) : Ok (fun f => callF En (runP En f) 113 [.string x0]) s (fun v s' => (∃ x ok, v = .tuple ⟨[.string x, .bool ok]⟩) ∧ Fresh s s') := by
  have hbl : (bl x0).length = x0.data.toList.length := rfl
  have q : Ok (fun f => callF En (runP En f) 141 [.string x0]) s (fun v s' => (∃ x e, v = .tuple ⟨[.string x, .int .i64 e]⟩) ∧ Fresh s s') := by
    refine Ok.step (fun f => f141_eq f x0) ?_
    refine Ok.c (fun _ => Ok.ret ⟨⟨_, _, rfl⟩, Fresh.refl s⟩) (fun h => ?_)
    have h := of_decide_eq_false h
    simp only [Int.ofNat_eq_natCast] at h
    refine Ok.t (Nat.ble_eq_true_of_le (by omega)) (Ok.c (fun _ => Ok.ret ⟨⟨_, _, rfl⟩, Fresh.refl s⟩) (fun _ => ?_))
    exact q141 hx ((bl x0).length + 1) s _ 1 [] (Grow.nil _ _ _ _ _) rfl (Fresh.refl s) (by omega) (by omega) (by simp) (by omega)
  refine Ok.step (fun f => f113_eq f x0) ?_
  refine Ok.call q ?_
  rintro v s1 ⟨⟨x, e, rfl⟩, f1⟩
  exact Ok.t rfl (Ok.c (fun _ => Ok.ret ⟨⟨_, _, rfl⟩, f1⟩) (fun _ => Ok.ret ⟨⟨_, _, rfl⟩, f1⟩))
section
variable {m0 : Tr Slot} {lo : Nat} {s : St} {b : Nat} {str : ByteArray} {a : Int} {ts : List Tok} {err bad : Int}
def QuQ (str : ByteArray) (at_ : Int) (v : Value) : Prop := ∃ x e ok, v = .tuple ⟨[.string x, .int .i64 e, .bool ok]⟩ ∧ (ok = true → at_ + 1 < e ∧ e ≤ (bl str).length)
theorem quoted_loop {at_ : Int} (ha : 0 ≤ at_) (hs : (bl str).length ≤ 70000) : ∀ (m : Nat) (s : St) (x7 : Int), RX m0 lo s b str a ts err bad → at_ < x7 → x7 ≤ (bl str).length + 1 → (bl str).length + 1 - x7 < m →
    Ok (fun f => p68_2 f b at_ x7) s (fun v s' => QuQ str at_ v ∧ Fresh s s') := by
  have hbl : (bl str).length = str.data.toList.length := rfl
  intro m
  induction m with
  | zero => intro s x7 _ _ _ h; omega
  | succ m ih =>
    intro s x7 h h1 h2 hm
    have no : ∀ {s' : St}, Fresh s s' → Ok (fun _ => Prog.ret (.tuple ⟨[.string (mkStr []), .int .i64 0, .bool false]⟩)) s' (fun v s' => QuQ str at_ v ∧ Fresh s s') := fun f => Ok.ret ⟨⟨_, _, _, rfl, fun h => by cases h⟩, f⟩
    have h7 : decide ((0 : Int) ≤ x7) = true := decide_eq_true (by omega)
    have hw1 : IntKind.i64.wrap (x7 + 1) = x7 + 1 := wrap1 (by omega)
    refine Ok.step (fun f => p68_2_eq f b at_ x7) ?_
    refine Ok.callP (Ok.load1 (by kernel_rfl) h.c0) ?_
    rintro v s1 ⟨rfl, m1, c1, l1⟩
    have r1 : Reads s s1 := ⟨m1, c1, [_, _], l1, rfl⟩
    refine Ok.t rfl ?_
    simp only [strOf]
    refine Ok.c (fun hl => ?_) (fun hl => ?_)
    · have hl := of_decide_eq_true hl
      simp only [Int.ofNat_eq_natCast] at hl
      have hb : Nat.ble (Nat.succ (Int.toNat x7)) (List.length (Array.toList (ByteArray.data str))) = true := Nat.ble_eq_true_of_le (by omega)
      refine Ok.callP (Ok.load1 (by kernel_rfl) (h.reads r1).c0) ?_
      rintro v s2 ⟨rfl, m2, c2, l2⟩
      have r2 : Reads s s2 := r1.trans ⟨m2, c2, [_, _], l2, rfl⟩
      refine Ok.t rfl (Ok.t h7 ?_)
      simp only [strOf]
      refine Ok.t hb (Ok.c (fun _ => ?_) (fun _ => ?_))
      · refine Ok.callP (Ok.load1 (by kernel_rfl) (h.reads r2).c0) ?_
        rintro v s3 ⟨rfl, m3, c3, l3⟩
        have r3 : Reads s s3 := r2.trans ⟨m3, c3, [_, _], l3, rfl⟩
        refine Ok.t rfl (Ok.t h7 ?_)
        simp only [strOf]
        have go : ∀ x : Int, x7 ≤ x → x ≤ x7 + 1 → Ok (fun f => p68_5 f b at_ x) s3 (fun v s' => QuQ str at_ v ∧ Fresh s s') := fun x g1 g2 => by
          refine Ok.step (fun f => p68_5_eq f b at_ x) ?_
          rw [wrap1 (show 0 ≤ x ∧ x ≤ 1000000 by omega)]
          by_cases hx : x + 1 ≤ (bl str).length + 1
          · exact Ok.mono (ih s3 (x + 1) (h.reads r3) (by omega) hx (by omega)) fun v s' q => ⟨q.1, (fresh_reads r3).trans q.2⟩
          · omega
        refine Ok.t hb (Ok.c (fun _ => ?_) (fun _ => go x7 (Int.le_refl _) (by omega)))
        rw [hw1]
        exact go _ (by omega) (Int.le_refl _)
      · refine Ok.callP (Ok.load1 (by kernel_rfl) (h.reads r2).c0) ?_
        rintro v s3 ⟨rfl, m3, c3, l3⟩
        have r3 : Reads s s3 := r2.trans ⟨m3, c3, [_, _], l3, rfl⟩
        refine Ok.t rfl (Ok.c (fun _ => no (fresh_reads r3)) (fun _ => ?_))
        refine Ok.callP (Ok.load1 (by kernel_rfl) (h.reads r3).c0) ?_
        rintro v s4 ⟨rfl, m4, c4, l4⟩
        have r4 : Reads s s4 := r3.trans ⟨m4, c4, [_, _], l4, rfl⟩
        simp only [strOf, hw1]
        refine Ok.t rfl (Ok.t (decide_eq_true ha) (Ok.t (decide_eq_true (by omega)) (Ok.t ?_ ?_)))
        · rw [Bool.and_eq_true]; exact ⟨Nat.ble_eq_true_of_le (by omega), Nat.ble_eq_true_of_le (by omega)⟩
        refine Ok.call (unquote_ok s4 (by rw [bl_mk, List.length_take, List.length_drop]; omega)) ?_
        rintro v s5 ⟨⟨x, ok, rfl⟩, f5⟩
        exact Ok.t rfl (Ok.ret ⟨⟨_, _, _, rfl, fun _ => ⟨by omega, by omega⟩⟩, (fresh_reads r4).trans f5⟩)
    · have hl := of_decide_eq_false hl
      simp only [Int.ofNat_eq_natCast] at hl
      refine Ok.callP (Ok.load1 (by kernel_rfl) (h.reads r1).c0) ?_
      rintro v s3 ⟨rfl, m3, c3, l3⟩
      have r3 : Reads s s3 := r1.trans ⟨m3, c3, [_, _], l3, rfl⟩
      simp only [strOf]
      exact Ok.t rfl (Ok.t (decide_eq_true (by simp only [Int.ofNat_eq_natCast]; omega)) (no (fresh_reads r3)))
theorem quoted_ok {at_ : Int} (h : RX m0 lo s b str a ts err bad) (ha : 0 ≤ at_ ∧ at_ ≤ (bl str).length) (hs : (bl str).length ≤ 70000) : Ok (fun f => callF En (runP En f) 68 [.pointer (some ⟨b, 0, none⟩), .int .i64 at_]) s (fun v s' => QuQ str at_ v ∧ Fresh s s') := by
  refine Ok.step (fun f => f68_eq f b at_) ?_
  rw [wrap1 (show 0 ≤ at_ ∧ at_ ≤ 1000000 by omega)]
  exact quoted_loop ha.1 hs ((bl str).length + 2) s (at_ + 1) h (by omega) (by omega) (by omega)
end
end Go.Proofs.YtpljgnjdlciicaaGreatDoor
/- The reference's lexer: symbols. -/
namespace Go.Proofs.YtpljgnjdlciicaaGreatDoor
open Go Go.Ev Go.Proofs
theorem appT31 : AppT En 31 9 1 16 := appT29
theorem len31s (a : Option Addr) (n c : Nat) : builtinA En Builtin.len (31 :: []) (Value.slice a n c :: []) = .ret (vInt n) := by kernel_rfl
section
variable {m0 : Tr Slot} {lo : Nat} {s : St} {b : Nat} {str : ByteArray} {a : Int} {ts : List Tok} {err bad : Int}
/-- Symbols under construction. -/
def VS (m0 : Tr Slot) (lo b x : Nat) (str : ByteArray) (a : Int) (ts : List Tok) (err bad : Int) (s : St) (sy : List Value) : Prop :=
  RX m0 lo ⟨s.mem, x, []⟩ b str a ts err bad ∧ x + 5 ≤ s.ctr ∧ (∃ nv, Row s.mem x [.int .i64 3, .slice none 0 0, nv, .slice none 0 0] ∧ Grow s.mem (x + 5) s.ctr 9 1 sy nv) ∧ StrsV sy ∧ sy.length ≤ 65536
theorem VS.fresh {x : Nat} {s' : St} {sy : List Value} (h : VS m0 lo b x str a ts err bad s sy) (f : Fresh s s') : VS m0 lo b x str a ts err bad s' sy := by
  obtain ⟨h1, h2, ⟨nv, h3, h5⟩, h4⟩ := h
  exact ⟨h1.keep fun k hk => f.2 k (by omega), by have := f.1; omega, ⟨nv, h3.congr fun j a1 a2 => f.2 j (by simp at a2; omega), h5.congr f.1 fun j a1 a2 => f.2 j a2⟩, h4⟩
theorem VS.rx {x : Nat} {sy : List Value} (h : VS m0 lo b x str a ts err bad s sy) : RX m0 lo s b str a ts err bad := h.1.up (by have := h.2.1; omega)
/-- The end of symbols: one token. -/
theorem sym26 {x : Nat} {t : Int} {sy : List Value} (H : RX m0 lo ⟨s.mem, x, []⟩ b str a ts err bad) (hx : x + 5 ≤ s.ctr) (V : ∃ nv, Row s.mem x [.int .i64 t, .slice none 0 0, nv, .slice none 0 0] ∧ Grow s.mem (x + 5) s.ctr 9 1 sy nv) (h1 : RToks a ts) (h2 : 0 ≤ a) (h4 : ts.length ≤ 16384) (hv : VFl t [] sy []) (x4 : Int) (h3 : a < x4 ∧ x4 ≤ (bl str).length) :
    Ok (fun f => p67_26 f b x 0 x4) s (NextQ m0 lo b str a) := by
  have hbl : (bl str).length = str.data.toList.length := rfl
  obtain ⟨nv, v1, v2⟩ := V
  refine Ok.step (fun f => p67_26_eq f b x 0 x4) ?_
  have h := H.up (s := s) (by omega)
  refine Ok.segLoad (by kernel_rfl) h.c0 fun s1 r1 => ?_
  refine Ok.t rfl ?_
  refine Ok.segLoad (by kernel_rfl) (h.reads r1).c1 fun s2 r2 => ?_
  have r2 := r1.trans r2
  refine Ok.gdL (by kernel_rfl) (Ok.t rfl ?_)
  simp only [strOf, intOf]
  refine Ok.t (decide_eq_true h2) (Ok.t (decide_eq_true (by omega)) (Ok.t ?_ ?_))
  · rw [Bool.and_eq_true]; exact ⟨Nat.ble_eq_true_of_le (by omega), Nat.ble_eq_true_of_le (by omega)⟩
  refine Ok.segLoadA (n := 4) (b := x) (o := 0) (by kernel_rfl) (by kernel_rfl) rfl (by rw [r2.1]; exact hdr_of v1) (vs := [.int .i64 t, .slice none 0 0, nv, .slice none 0 0]) (by rw [r2.1]; exact v1.2) fun s3 r3 => ?_
  have r3 := r2.trans r3
  refine Ok.gdL (by kernel_rfl) (Ok.t rfl ?_)
  refine Ok.seg (tokenS_ok (s := ⟨s3.mem, s3.ctr, []⟩) (hi := x) (nv := nv) (n := sy) (H.keep (s' := s3) fun k _ => by rw [r3.1]) (by simp only; rw [r3.2.1]; omega) ((v2.congr (by simp only; rw [r3.2.1]; exact Nat.le_refl _) fun j _ _ => by simp only; rw [r3.1]).lower (by omega)) _ _ _ _ (by omega)) ?_
  rintro v s4 ⟨rfl, q⟩
  refine Ok.gdL (by kernel_rfl) (Ok.t rfl ?_)
  exact Ok.ret (token_q (s' := ⟨s4.mem, s4.ctr, s4.log ++ s3.log⟩) h1 h2 h3 hv (fun h => by cases h) h4 q)
theorem sym_loop {x : Nat} (h1 : RToks a ts) (h2 : 0 ≤ a) (h4 : ts.length ≤ 16384) (hs : (bl str).length ≤ 70000) (h96 : byteZ str a = 96) : ∀ (m : Nat) (s : St) (x3 : Int) (sy : List Value), VS m0 lo b x str a ts err bad s sy → (x3 = a ∨ (a < x3 ∧ sy ≠ [])) → x3 ≤ (bl str).length → (bl str).length - x3 < m → Ok (fun f => p67_2 f b x 0 x3) s (NextQ m0 lo b str a) := by
  have hbl : (bl str).length = str.data.toList.length := rfl
  intro m
  induction m with
  | zero => intro s x3 sy _ _ _ h; omega
  | succ m ih =>
    intro s x3 sy hI h3a hle hm
    have haL := byteZ_lt (str := str) (i := a) (by rw [h96]; decide)
    have fl : ∀ (s : St) (e p : Int) (sy : List Value), VS m0 lo b x str a ts err bad s sy → e ≠ 0 → Ok (fun f => Prog.call (callF En (runP En f) 63 [.pointer (some ⟨b, 0, none⟩), .int .i64 e, .int .i64 p]) fun v57 => cnd (Prog.ret (Value.tuple ⟨[]⟩)) Prog.fail ((isTupV v57) && (okNs [] (tupOf v57)))) s (NextQ m0 lo b str a) := fun s e p sy hI he => by
      refine Ok.call (rfail_ok hI.rx e p) ?_
      rintro v s2 ⟨rfl, h2', _⟩
      exact Ok.t rfl (Ok.ret (fail_q h1 ⟨h2, by omega⟩ h4 he h2'))
    -- one symbol more
    have s17 : ∀ (s : St) (y p : Int) (x5 : ByteArray), VS m0 lo b x str a ts err bad s sy → x3 < y → y ≤ (bl str).length → Ok (fun f => p67_17 f b x 0 y p x5) s (NextQ m0 lo b str a) := fun s y p x5 hI hy1 hy2 => by
      obtain ⟨H, hx, ⟨nv, w1, w2⟩, hin, hn5⟩ := id hI
      obtain ⟨ad, cp, rfl⟩ := w2.len sy.length (by omega) (by omega)
      refine Ok.step (fun f => p67_17_eq f b x 0 y p x5) ?_
      have L : ∀ {s' : St}, Reads s s' → Cell s'.mem x 2 (.slice ad sy.length cp) := fun r => by rw [r.1]; exact w1.cell 2 rfl
      refine Ok.callP (Ok.load1 (b := x) (o := 0 + 2) (by kernel_rfl) (L (Reads.refl s))) ?_
      rintro v s2 ⟨rfl, m2, c2, l2⟩
      have r2 : Reads s s2 := ⟨m2, c2, [_, _], l2, rfl⟩
      simp only [len31s, callP_ret]
      refine Ok.t rfl (Ok.c (fun _ => fl s2 _ _ _ (hI.fresh (fresh_reads r2)) (by decide)) (fun hl => ?_))
      have hl := of_decide_eq_false hl
      have hl : ¬ ((sy.length : Int) ≥ 65536) := hl
      refine Ok.c (fun _ => fl s2 _ _ _ (hI.fresh (fresh_reads r2)) (by decide)) (fun h64 => ?_)
      have h64 := of_decide_eq_false h64
      simp only [Int.ofNat_eq_natCast] at h64
      refine Ok.call (among_ok s2 _ x5 (by have : (bl x5).length = x5.data.toList.length := rfl; omega)) ?_
      rintro v s3 ⟨⟨q, rfl⟩, rfl⟩
      refine Ok.t rfl (Ok.c (fun _ => fl _ _ _ _ (hI.fresh (fresh_reads r2)) (by decide)) (fun _ => ?_))
      refine Ok.callP (Ok.load1 (b := x) (o := 0 + 2) (by kernel_rfl) (L r2)) ?_
      rintro v s4 ⟨rfl, m4, c4, l4⟩
      have r4 := r2.trans (⟨m4, c4, [_, _], l4, rfl⟩ : Reads s3 s4)
      have hc4 := r4.2.1
      refine Ok.callP (Ok.app appT31 (w2.congr (by omega) fun j _ _ => by rw [r4.1]) rfl rfl (by omega) (by omega)) ?_
      rintro w s5 ⟨g5, c5, f5⟩
      have hw := g5.one
      have R5 : Row s5.mem x [.int .i64 3, .slice none 0 0, .slice ad sy.length cp, .slice none 0 0] := w1.congr fun j a1 a2 => by rw [f5 j (by simp at a2; omega), r4.1]
      refine Ok.callP (Ok.storeCell (b := x) (o := 0 + 2) (by kernel_rfl) hw.2 R5 (by simp) hw.1) ?_
      rintro v s6 ⟨rfl, c6, g6, f6⟩
      refine ih s6 y (sy ++ [.string x5]) ⟨H.keep fun k hk => by rw [f6 k (by omega), f5 k (by omega), r4.1], by omega, ⟨w, g6, g5.congr (by omega) fun j a1 a2 => f6 j (by omega)⟩, fun z hz => ?_, ?_⟩ (.inr ⟨by omega, by simp⟩) hy2 (by omega)
      · rcases List.mem_append.1 hz with hz | hz
        · exact hin z hz
        · rw [List.mem_singleton] at hz; exact ⟨_, hz⟩
      · simp only [List.length_append, List.length_cons, List.length_nil]; omega
    have hw1 : IntKind.i64.wrap (x3 + 1) = x3 + 1 := wrap1 (by omega)
    refine Ok.step (fun f => p67_2_eq f b x 0 x3) ?_
    simp only [hw1]
    refine Ok.call (rbyte_ok hI.rx _) ?_
    rintro v s1 ⟨rfl, r1⟩
    have hI1 := hI.fresh (fresh_reads r1)
    refine Ok.t rfl (Ok.c (fun hb => ?_) (fun hb => ?_))
    · have hb : byteZ str x3 = 96 := of_decide_eq_true hb
      have h3L := byteZ_lt (str := str) (i := x3) (by rw [hb]; decide)
      refine Ok.call (rbyte_ok hI1.rx _) ?_
      rintro v s2 ⟨rfl, r2⟩
      have hI2 := hI1.fresh (fresh_reads r2)
      refine Ok.t rfl (Ok.c (fun hq => ?_) (fun _ => ?_))
      · have hq : byteZ str (x3 + 1) = 34 := of_decide_eq_true hq
        have h4L := byteZ_lt (str := str) (i := x3 + 1) (by rw [hq]; decide)
        refine Ok.call (quoted_ok hI2.rx ⟨by omega, by omega⟩ hs) ?_
        rintro v s3 ⟨⟨y, e, ok, rfl, hy⟩, f3⟩
        have hI3 := hI2.fresh f3
        refine Ok.t rfl (Ok.c (fun _ => fl s3 _ _ _ hI3 (by decide)) (fun hok => ?_))
        have hok : ok = true := by
          have hok : Bool.not ok = false := hok
          simpa using hok
        have := hy hok
        exact s17 s3 e x3 y hI3 (by omega) (by omega)
      · refine Ok.call (rbyte_ok hI2.rx _) ?_
        rintro v s3 ⟨rfl, r3⟩
        have hI3 := hI2.fresh (fresh_reads r3)
        refine Ok.t rfl ?_
        refine Ok.call (letter_ok s3 _) ?_
        rintro v s4 ⟨rfl, rfl⟩
        refine Ok.t rfl (Ok.c (fun hlet => ?_) (fun _ => s17 _ _ _ _ hI3 (by omega) (by omega)))
        -- the run of a plain name
        have run : ∀ (k : Nat) (s : St) (y : Int), VS m0 lo b x str a ts err bad s sy → x3 + 1 ≤ y → y ≤ (bl str).length → (bl str).length - y < k → Ok (fun f => p67_14 f b x 0 y x3 (x3 + 1)) s (NextQ m0 lo b str a) := by
          intro k
          induction k with
          | zero => intro s y _ _ _ h; omega
          | succ k ihk =>
            intro s y hI g1 g2 g3
            have go : ∀ {s' : St}, VS m0 lo b x str a ts err bad s' sy → byteZ str y ≠ 0 → Ok (fun f => p67_14 f b x 0 (IntKind.i64.wrap (y + 1)) x3 (x3 + 1)) s' (NextQ m0 lo b str a) := fun {s'} hI hne => by
              have := byteZ_lt hne
              rw [wrap1 (show 0 ≤ y ∧ y ≤ 1000000 by omega)]
              exact ihk s' (y + 1) hI (by omega) (by omega) (by omega)
            refine Ok.step (fun f => p67_14_eq f b x 0 y x3 (x3 + 1)) ?_
            refine Ok.call (rbyte_ok hI.rx _) ?_
            rintro v s1 ⟨rfl, r1⟩
            have hI1 := hI.fresh (fresh_reads r1)
            refine Ok.t rfl ?_
            refine Ok.call (inside_ok s1 _) ?_
            rintro v s2 ⟨rfl, rfl⟩
            refine Ok.t rfl (Ok.c (fun hi => go hI1 fun e => ?_) (fun _ => ?_))
            · have hi : isInside (byteZ str y) = true := hi
              rw [e] at hi; cases hi
            refine Ok.call (rbyte_ok hI1.rx _) ?_
            rintro v s3 ⟨rfl, r3⟩
            have hI3 := hI1.fresh (fresh_reads r3)
            refine Ok.t rfl (Ok.c (fun hd => go hI3 fun e => ?_) (fun _ => ?_))
            · have hd : byteZ str y = 46 := of_decide_eq_true hd
              rw [e] at hd; cases hd
            refine Ok.callP (Ok.load1 (by kernel_rfl) hI3.rx.c0) ?_
            rintro v s4 ⟨rfl, m4, c4, l4⟩
            have hI4 := hI3.fresh (fresh_reads (⟨m4, c4, [_, _], l4, rfl⟩ : Reads s3 s4))
            simp only [strOf]
            refine Ok.t rfl (Ok.t (decide_eq_true (by omega)) (Ok.t (decide_eq_true (by omega)) (Ok.t ?_ ?_)))
            · rw [Bool.and_eq_true]; exact ⟨Nat.ble_eq_true_of_le (by omega), Nat.ble_eq_true_of_le (by omega)⟩
            exact s17 s4 _ _ _ hI4 (by omega) (by omega)
        exact run ((bl str).length + 1) _ (x3 + 1) hI3 (Int.le_refl _) (by omega) (by omega)
    · have hb : ¬ byteZ str x3 = 96 := of_decide_eq_false hb
      have hne : a < x3 ∧ sy ≠ [] := by
        rcases h3a with h | h
        · rw [h] at hb; exact absurd h96 hb
        · exact h
      obtain ⟨H, hx, ⟨nv, w1, w2⟩, hin, hn5⟩ := id hI1
      obtain ⟨ad, cp, rfl⟩ := w2.len sy.length (by omega) (by omega)
      refine Ok.callP (Ok.load1 (b := x) (o := 0 + 2) (by kernel_rfl) (w1.cell 2 rfl)) ?_
      rintro v s2 ⟨rfl, m2, c2, l2⟩
      have r2 : Reads s1 s2 := ⟨m2, c2, [_, _], l2, rfl⟩
      have hI2 := hI1.fresh (fresh_reads r2)
      simp only [len31s, callP_ret]
      refine Ok.t rfl (Ok.c (fun h1' => ?_) (fun _ => ?_))
      · have h1' : (sy.length : Int) = 1 := of_decide_eq_true h1'
        have R2 : Row s2.mem x [.int .i64 3, .slice none 0 0, .slice ad sy.length cp, .slice none 0 0] := by rw [r2.1]; exact w1
        refine Ok.callP (Ok.storeCell (b := x) (o := 0 + 0) (by kernel_rfl) rfl R2 (by simp) rfl) ?_
        rintro w s4 ⟨rfl, c4, g4, f4⟩
        refine sym26 (t := -3) (sy := sy) (hI2.1.keep fun k hk => f4 k (by omega)) (by have := hI2.2.1; omega) ⟨_, g4, w2.congr (by omega) fun j a1 a2 => by rw [f4 j (by omega), r2.1]⟩ h1 h2 h4 ?_ x3 ⟨hne.1, hle⟩
        exact ⟨rfl, by simp, by omega, .inr (.inr ⟨rfl, hin, .inr ⟨rfl, by omega⟩⟩)⟩
      · refine sym26 (t := 3) (sy := sy) hI2.1 hI2.2.1 hI2.2.2.1 h1 h2 h4 ?_ x3 ⟨hne.1, hle⟩
        exact ⟨rfl, by simp, by omega, .inr (.inr ⟨rfl, hin, .inl rfl⟩)⟩
theorem symbols_ok (h : LI m0 lo s b str a ts err bad) (hs : (bl str).length ≤ 70000) (hn : byteZ str a = 96) : Ok (fun f => callF En (runP En f) 67 [.pointer (some ⟨b, 0, none⟩)]) s (NextQ m0 lo b str a) := by
  obtain ⟨h, h1, h2, h3, h4⟩ := h
  refine Ok.step (fun f => f67_eq f b) ?_
  refine Ok.g rfl ?_
  refine Ok.callP (Ok.new rfl) ?_
  rintro v s1 ⟨rfl, c1, g1, f1⟩
  refine Ok.t rfl ?_
  simp only [blk_itP, off_itP]
  refine Ok.callP (Ok.storeRow (n := 4) (by kernel_rfl) g1 rfl rfl rfl) ?_
  rintro v s2 ⟨rfl, c2, g2, f2⟩
  have h2' : RX m0 lo s2 b str a ts err bad := h.frame (by omega) fun k hk => by rw [f2 k (.inl (by omega)), f1 k hk]
  refine Ok.callP (Ok.load1 (by kernel_rfl) h2'.c1) ?_
  rintro v s3 ⟨rfl, m3, c3, l3⟩
  refine Ok.t rfl ?_
  refine sym_loop (m0 := m0) (lo := lo) (b := b) (err := err) (bad := bad) (x := s.ctr) h1 h2 h4 hs hn ((bl str).length + 1) s3 a [] ⟨?_, by omega, ⟨.slice none 0 0, by rw [m3]; exact g2, Grow.nil _ _ _ _ _⟩, fun e he => by simp at he, by simp⟩ (.inl rfl) h3 (by omega)
  exact (RX.cut h).keep (s' := s3) fun k hk => by rw [m3, f2 k (.inl (by omega)), f1 k hk]
end
end Go.Proofs.YtpljgnjdlciicaaGreatDoor
