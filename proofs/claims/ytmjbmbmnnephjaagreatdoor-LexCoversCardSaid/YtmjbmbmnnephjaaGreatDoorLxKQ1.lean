/- A judgement on what a Prog that hangs on fuel comes to, and its rules. -/
import Derived.Test.YtmjbmbmnnephjaaGreatDoorEvS26
import Derived.Test.YtmjbmbmnnephjaaGreatDoorLxKB
import Derived.Test.YtmjbmbmnnephjaaGreatDoorLxKG1
import Derived.IntWalk
import Derived.Test.YtmjbmbmnnephjaaGreatDoorLxKG2
import Derived.Test.YtmjbmbmnnephjaaGreatDoorLxKG3
namespace Go.Ev
open Go
/-- From some fuel on the Prog comes to one value and one state, of which Q holds. -/
def Ok (p : Nat → Prog) (s : St) (Q : Value → St → Prop) : Prop := ∃ v s', Q v s' ∧ ∃ f0, ∀ f, f0 ≤ f → (p f).run s = some (v, s')
section
variable {s : St} {Q Q1 : Value → St → Prop} {p q : Nat → Prog} {b : Bool} {v : Value}
theorem Ok.ret (h : Q v s) : Ok (fun _ => .ret v) s Q := ⟨v, s, h, 0, fun _ _ => rfl⟩
theorem Ok.t (hb : b = true) (h : Ok p s Q) : Ok (fun f => cnd (p f) (q f) b) s Q := by subst hb; exact h
theorem Ok.f (hb : b = false) (h : Ok q s Q) : Ok (fun f => cnd (p f) (q f) b) s Q := by subst hb; exact h
theorem Ok.c (ht : b = true → Ok p s Q) (hf : b = false → Ok q s Q) : Ok (fun f => cnd (p f) (q f) b) s Q := by
  cases b with
  | true => exact ht rfl
  | false => exact hf rfl
theorem Ok.g (hb : b = true) (h : Ok p s Q) : Ok (fun f => gd b (p f)) s Q := by subst hb; exact h
theorem Ok.mono (h : Ok p s Q1) (hq : ∀ v s', Q1 v s' → Q v s') : Ok p s Q := by
  obtain ⟨v, s', h1, h2⟩ := h
  exact ⟨v, s', hq v s' h1, h2⟩
theorem Ok.step {P T : Nat → Prog} (e : ∀ f, P (f + 1) = T f) (h : Ok T s Q) : Ok P s Q := by
  obtain ⟨v, s', h1, f0, h2⟩ := h
  refine ⟨v, s', h1, f0 + 1, fun f hf => ?_⟩
  cases f with
  | zero => omega
  | succ f => rw [e]; exact h2 f (by omega)
theorem Ok.callE {p : Prog} {k : Value → Prog} {s1 : St} {r : Option (Value × St)} (h : p.run s = some (v, s1)) (e : (k v).run s1 = r) : (Prog.call p k).run s = r := by
  simp only [Prog.run, h]; exact e
theorem Ok.call {k : Nat → Value → Prog} (h : Ok p s Q1) (hk : ∀ v s1, Q1 v s1 → Ok (fun f => k f v) s1 Q) : Ok (fun f => .call (p f) (k f)) s Q := by
  obtain ⟨v, s1, h1, f1, h2⟩ := h
  obtain ⟨w, s2, h3, f2, h4⟩ := hk v s1 h1
  refine ⟨w, s2, h3, f1 + f2, fun f hf => ?_⟩
  exact Ok.callE (h2 f (by omega)) (h4 f (by omega))
theorem Ok.callP {k : Nat → Value → Prog} (h : Ok p s Q1) (hk : ∀ v s1, Q1 v s1 → Ok (fun f => k f v) s1 Q) : Ok (fun f => Ev.callP (k f) (p f)) s Q := by
  obtain ⟨v, s', h1, f0, h2⟩ := Ok.call h hk
  exact ⟨v, s', h1, f0, fun f hf => (callP_eq (k f) s (p f)).trans (h2 f hf)⟩
/-- An operation within, and what it touched: its log starts anew. -/
theorem Ok.seg {k : Nat → Value → List Acc → Nat → Prog} {Q1 : Value → St → Prop} (h : Ok p ⟨s.mem, s.ctr, []⟩ Q1)
    (hk : ∀ v s1, Q1 v s1 → Ok (fun f => k f v s1.log s1.ctr) ⟨s1.mem, s1.ctr, s1.log ++ s.log⟩ Q) : Ok (fun f => .seg (p f) (k f)) s Q := by
  obtain ⟨v, s1, h1, f1, h2⟩ := h
  obtain ⟨w, s2, h3, f2, h4⟩ := hk v s1 h1
  refine ⟨w, s2, h3, f1 + f2, fun f hf => ?_⟩
  obtain ⟨m, c, l⟩ := s
  obtain ⟨m1, c1, l1⟩ := s1
  have e1 := h2 f (by omega)
  have e2 := h4 f (by omega)
  simp only [Prog.run]
  simp only at e1 e2
  rw [e1]
  exact e2
theorem Ok.gdL {mask : Nat} {ws all : List Acc} {done : List Done} (hf : freeL mask ws all done = true) (h : Ok p s Q) : Ok (fun f => Ev.gdL mask ws all done (p f)) s Q := by
  cases done with
  | nil => exact h
  | cons d ds => exact Ok.g hf h
theorem Ok.opt {α : Type} {x : Option α} {a : α} {k : Nat → α → Prog} (hx : x = some a) (h : Ok (fun f => k f a) s Q) : Ok (fun f => Ev.opt x (k f)) s Q := by subst hx; exact h
end
end Go.Ev
/- What small functions come to. -/
namespace Go.Proofs.YtmjbmbmnnephjaaGreatDoor
open Go Go.Ev Go.Proofs
def isLetter (c : Int) : Bool := decide (97 ≤ c) && decide (c ≤ 122) || decide (65 ≤ c) && decide (c ≤ 90)
def isDigit (c : Int) : Bool := decide (48 ≤ c) && decide (c ≤ 57)
def isInside (c : Int) : Bool := isLetter c || (isDigit c || decide (c = 95))
theorem letter_ok (s : St) (c : Int) : Ok (fun f => callF En (runP En f) 44 [.int .u8 c]) s (fun v s' => v = .bool (isLetter c) ∧ s' = s) := by
  refine Ok.step (fun f => f44_eq f c) ?_
  unfold isLetter
  repeat' (first | refine Ok.c (fun h => ?_) (fun h => ?_) | exact Ok.ret ⟨by simp_all <;> omega, rfl⟩)
theorem digit_ok (s : St) (c : Int) : Ok (fun f => callF En (runP En f) 60 [.int .u8 c]) s (fun v s' => v = .bool (isDigit c) ∧ s' = s) := by
  refine Ok.step (fun f => f60_eq f c) ?_
  unfold isDigit
  repeat' (first | refine Ok.c (fun h => ?_) (fun h => ?_) | exact Ok.ret ⟨by simp_all <;> omega, rfl⟩)
theorem inside_ok (s : St) (c : Int) : Ok (fun f => callF En (runP En f) 43 [.int .u8 c]) s (fun v s' => v = .bool (isInside c) ∧ s' = s) := by
  refine Ok.step (fun f => f43_eq f c) ?_
  refine Ok.call (letter_ok s c) ?_
  rintro v s1 ⟨rfl, rfl⟩
  refine Ok.t rfl ?_
  refine Ok.c (fun h => ?_) (fun h => ?_)
  · exact Ok.ret ⟨by simp_all [isInside, boolOf], rfl⟩
  · refine Ok.call (digit_ok _ c) ?_
    rintro v s1 ⟨rfl, rfl⟩
    refine Ok.t rfl ?_
    refine Ok.c (fun h1 => ?_) (fun h1 => ?_)
    · exact Ok.ret ⟨by simp_all [isInside, boolOf], rfl⟩
    · exact Ok.ret ⟨by simp_all [isInside, boolOf], rfl⟩
end Go.Proofs.YtmjbmbmnnephjaaGreatDoor
/- Rules on memory: loads from rows. -/
namespace Go.Ev
open Go
/-- A cell of a row that is here. -/
def Cell (m : Tr Slot) (b o : Nat) (v : Value) : Prop := (∃ h, m.get b = some (.hdr h)) ∧ m.get (b + 1 + o) = some (.cell b v)
def scal (E : Env) (t : TypeId) : Bool := match E.und t with
  | some d => !isAggD d
  | none => false
/-- Nothing has been written. -/
def Reads (s s' : St) : Prop := s'.mem = s.mem ∧ s'.ctr = s.ctr ∧ ∃ l, s'.log = l ++ s.log ∧ writesOf l = []
theorem Reads.refl (s : St) : Reads s s := ⟨rfl, rfl, [], rfl, rfl⟩
theorem writesOf_append : ∀ (a b : List Acc), writesOf (a ++ b) = writesOf a ++ writesOf b
  | [], _ => rfl
  | x :: a, b => by
    simp only [List.cons_append, writesOf, writesOf_append a b]
    split <;> rfl
theorem Reads.trans {s s1 s2 : St} (h : Reads s s1) (g : Reads s1 s2) : Reads s s2 := by
  obtain ⟨e1, e2, l, e3, e4⟩ := h
  obtain ⟨g1, g2, k, g3, g4⟩ := g
  exact ⟨g1.trans e1, g2.trans e2, k ++ l, by rw [g3, e3, List.append_assoc], by rw [writesOf_append, e4, g4]; rfl⟩
theorem rd1 {s : St} {b o : Nat} {v : Value} (h : Cell s.mem b o v) : s.rd b 1 o = some ([v], ⟨s.mem, s.ctr, ⟨false, b + 1 + o, 1⟩ :: ⟨false, b, 1⟩ :: s.log⟩) := by
  obtain ⟨m, c, l⟩ := s
  obtain ⟨⟨hd, h1⟩, h2⟩ := h
  simp only at h1 h2
  simp only [St.rd, h1, rdCells, Nat.add_eq, h2, Nat.beq_refl]
theorem Ok.load1 {E : Env} {t b o : Nat} {v : Value} {s : St} (hs : scal E t = true) (h : Cell s.mem b o v) : Ok (fun _ => loadT E t b o) s (fun w s' => w = v ∧ s'.mem = s.mem ∧ s'.ctr = s.ctr ∧ s'.log = ⟨false, b + 1 + o, 1⟩ :: ⟨false, b, 1⟩ :: s.log) := by
  refine ⟨v, ⟨s.mem, s.ctr, ⟨false, b + 1 + o, 1⟩ :: ⟨false, b, 1⟩ :: s.log⟩, ⟨rfl, rfl, rfl, rfl⟩, 0, fun _ _ => ?_⟩
  unfold scal at hs
  unfold loadT
  cases hu : E.und t with
  | none => rw [hu] at hs; cases hs
  | some d =>
    rw [hu] at hs
    have hd : isAggD d = false := by simpa using hs
    simp only [hd, Prog.run, rd1 h]
/-- In a drawn region: a load of one cell, behind operations that have written nothing. -/
theorem Ok.segLoad {E : Env} {t b o : Nat} {v : Value} {s : St} {Q : Value → St → Prop} {k : Nat → Value → List Acc → Nat → Prog} (hs : scal E t = true) (h : Cell s.mem b o v)
    (hk : ∀ s1, Reads s s1 → Ok (fun f => k f v [⟨false, b + 1 + o, 1⟩, ⟨false, b, 1⟩] s.ctr) s1 Q) : Ok (fun f => .seg (loadT E t b o) (k f)) s Q := by
  refine Ok.seg (Ok.load1 (s := ⟨s.mem, s.ctr, []⟩) hs h) ?_
  rintro w s1 ⟨rfl, e1, e2, e3⟩
  simp only at e1 e2 e3
  rw [e3, e1, e2]
  exact hk _ ⟨rfl, rfl, [⟨false, b + 1 + o, 1⟩, ⟨false, b, 1⟩], rfl, rfl⟩
theorem Cell.reads {s s1 : St} {b o : Nat} {v : Value} (h : Cell s.mem b o v) (r : Reads s s1) : Cell s1.mem b o v := by rw [r.1]; exact h
end Go.Ev
/- The lexer's small methods: peek. -/
namespace Go.Proofs.YtmjbmbmnnephjaaGreatDoor
open Go Go.Ev Go.Proofs
theorem wrap_in (n : Int) (h1 : -9223372036854775808 ≤ n) (h2 : n ≤ 9223372036854775807) : IntKind.i64.wrap n = n := by
  exact IntWalk.i64_in n ⟨h1, h2⟩
def byteOf (s : ByteArray) (i : Int) : Int := if i < Int.ofNat s.data.toList.length then Int.ofNat (byteAt s i.toNat) else 0
theorem peek_ok (s : St) (b : Nat) (str : ByteArray) (k n : Int) (h0 : Cell s.mem b 0 (.string str)) (h1 : Cell s.mem b 1 (.int .i64 k)) (hr : 0 ≤ k + n) (hm : k + n ≤ 9223372036854775807) :
    Ok (fun f => callF En (runP En f) 59 [.pointer (some ⟨b, 0, none⟩), .int .i64 n]) s (fun v s' => v = .int .u8 (byteOf str (k + n)) ∧ Reads s s') := by
  have hw : IntKind.i64.wrap (k + n) = k + n := wrap_in _ (by omega) hm
  have t3 : scal En 3 = true := by kernel_rfl
  have t9 : scal En 9 = true := by kernel_rfl
  refine Ok.step (fun f => f59_eq f b n) ?_
  refine Ok.segLoad t3 h1 fun s1 r1 => ?_
  refine Ok.t rfl ?_
  refine Ok.segLoad t9 (h0.reads r1) fun s2 r2 => ?_
  refine Ok.gdL (by kernel_rfl) ?_
  refine Ok.t rfl ?_
  have r2 := r1.trans r2
  simp only [intOf, strOf, hw]
  refine Ok.c (fun h => ?_) (fun h => ?_)
  · have h := of_decide_eq_true h
    refine Ok.segLoad t9 (h0.reads r2) fun s3 r3 => ?_
    have r3 := r2.trans r3
    refine Ok.t rfl ?_
    refine Ok.segLoad t3 (h1.reads r3) fun s4 r4 => ?_
    have r4 := r3.trans r4
    refine Ok.gdL (by kernel_rfl) ?_
    refine Ok.t rfl ?_
    simp only [intOf, strOf, hw]
    refine Ok.t (by simpa using hr) ?_
    refine Ok.t (Nat.ble_eq_true_of_le (by simp only [Int.ofNat_eq_natCast] at h; omega)) ?_
    exact Ok.ret ⟨by simp only [byteOf, if_pos h], r4⟩
  · have h := of_decide_eq_false h
    exact Ok.ret ⟨by simp only [byteOf, if_neg h], r2⟩
end Go.Proofs.YtmjbmbmnnephjaaGreatDoor
/- The lexer's small methods: run. -/
namespace Go.Proofs.YtmjbmbmnnephjaaGreatDoor
open Go Go.Ev Go.Proofs
/-- A function on bytes without a look at memory. -/
def IsPred (g : Nat) (P : Int → Bool) : Prop := ∀ (s : St) (c : Int), Ok (fun f => callF En (runP En f) g [.int .u8 c]) s (fun v s' => v = .bool (P c) ∧ s' = s)
def byteI (str : ByteArray) (i : Int) : Int := Int.ofNat (byteAt str i.toNat)
def runV (str : ByteArray) (P : Int → Bool) (k : Int) (n : Nat) : Prop :=
  (k + n ≤ str.data.toList.length) ∧ (∀ i : Nat, i < n → P (byteI str (k + i)) = true) ∧ (k + n < str.data.toList.length → P (byteI str (k + n)) = false)
theorem run_loop {g : Nat} {P : Int → Bool} (hp : IsPred g P) {str : ByteArray} {b : Nat} {k : Int} (hk : 0 ≤ k) (hl : str.data.toList.length ≤ 4611686018427387904) : ∀ (m n : Nat) (s : St), k + n + m = str.data.toList.length →
    (∀ i : Nat, i < n → P (byteI str (k + i)) = true) → Cell s.mem b 0 (.string str) → Cell s.mem b 1 (.int .i64 k) →
    Ok (fun f => p32_2 f b g n) s (fun v s' => ∃ n' : Nat, runV str P k n' ∧ v = .string (mkStr ((str.data.toList.drop k.toNat).take n')) ∧ Reads s s') := by
  have t3 : scal En 3 = true := by kernel_rfl
  have t9 : scal En 9 = true := by kernel_rfl
  intro m
  induction m with
  | zero =>
    intro n s hm hi h0 h1
    have hw : IntKind.i64.wrap (k + (n : Int)) = k + n := wrap_in _ (by omega) (by omega)
    refine Ok.step (fun f => p32_2_eq f b g n) ?_
    refine Ok.segLoad t3 h1 fun s1 r1 => ?_
    refine Ok.t rfl ?_
    refine Ok.segLoad t9 (h0.reads r1) fun s2 r2 => ?_
    refine Ok.gdL (by kernel_rfl) ?_
    refine Ok.t rfl ?_
    have r2 := r1.trans r2
    simp only [intOf, strOf, hw]
    refine Ok.f (decide_eq_false (by simp only [Int.ofNat_eq_natCast]; omega)) ?_
    refine Ok.segLoad t9 (h0.reads r2) fun s3 r3 => ?_
    have r3 := r2.trans r3
    refine Ok.t rfl ?_
    refine Ok.segLoad t3 (h1.reads r3) fun s4 r4 => ?_
    have r4 := r3.trans r4
    refine Ok.gdL (by kernel_rfl) ?_
    refine Ok.t rfl ?_
    refine Ok.segLoad t3 (h1.reads r4) fun s5 r5 => ?_
    have r5 := r4.trans r5
    refine Ok.gdL (by kernel_rfl) ?_
    refine Ok.t rfl ?_
    simp only [intOf, strOf, hw]
    refine Ok.t (decide_eq_true hk) ?_
    refine Ok.t (decide_eq_true (by omega)) ?_
    refine Ok.t (by simp only [Bool.and_eq_true]; exact ⟨Nat.ble_eq_true_of_le (by omega), Nat.ble_eq_true_of_le (by omega)⟩) ?_
    refine Ok.ret ⟨n, ⟨by omega, hi, fun h => by omega⟩, ?_, r5⟩
    rw [show (k + (n : Int)).toNat - k.toNat = n by omega]
  | succ m IH =>
    intro n s hm hi h0 h1
    have hw : IntKind.i64.wrap (k + (n : Int)) = k + n := wrap_in _ (by omega) (by omega)
    have hw1 : IntKind.i64.wrap ((n : Int) + 1) = ((n + 1 : Nat) : Int) := by rw [wrap_in _ (by omega) (by omega)]; omega
    refine Ok.step (fun f => p32_2_eq f b g n) ?_
    refine Ok.segLoad t3 h1 fun s1 r1 => ?_
    refine Ok.t rfl ?_
    refine Ok.segLoad t9 (h0.reads r1) fun s2 r2 => ?_
    refine Ok.gdL (by kernel_rfl) ?_
    refine Ok.t rfl ?_
    have r2 := r1.trans r2
    simp only [intOf, strOf, hw]
    refine Ok.t (decide_eq_true (by simp only [Int.ofNat_eq_natCast]; omega)) ?_
    refine Ok.segLoad t9 (h0.reads r2) fun s3 r3 => ?_
    have r3 := r2.trans r3
    refine Ok.gdL (by kernel_rfl) ?_
    refine Ok.t rfl ?_
    refine Ok.segLoad t3 (h1.reads r3) fun s4 r4 => ?_
    have r4 := r3.trans r4
    refine Ok.gdL (by kernel_rfl) ?_
    refine Ok.t rfl ?_
    simp only [intOf, strOf, hw]
    refine Ok.t (decide_eq_true (by omega)) ?_
    refine Ok.t (Nat.ble_eq_true_of_le (by omega)) ?_
    refine Ok.seg (hp _ _) ?_
    rintro v s5 ⟨rfl, rfl⟩
    refine Ok.gdL (by kernel_rfl) ?_
    refine Ok.t rfl ?_
    simp only [boolOf, hw1]
    refine Ok.c (fun h => ?_) (fun h => ?_)
    · refine Ok.mono (IH (n + 1) _ (by push_cast; omega) (fun i hlt => ?_) (h0.reads r4) (h1.reads r4)) ?_
      · by_cases e : i = n
        · subst e; exact h
        · exact hi i (by omega)
      · rintro v s' ⟨n', a1, a2, a3⟩
        exact ⟨n', a1, a2, r4.trans a3⟩
    · refine Ok.segLoad t9 (h0.reads r4) fun s6 r6 => ?_
      have r6 := r4.trans r6
      refine Ok.t rfl ?_
      refine Ok.segLoad t3 (h1.reads r6) fun s7 r7 => ?_
      have r7 := r6.trans r7
      refine Ok.gdL (by kernel_rfl) ?_
      refine Ok.t rfl ?_
      refine Ok.segLoad t3 (h1.reads r7) fun s8 r8 => ?_
      have r8 := r7.trans r8
      refine Ok.gdL (by kernel_rfl) ?_
      refine Ok.t rfl ?_
      simp only [intOf, strOf, hw]
      refine Ok.t (decide_eq_true hk) ?_
      refine Ok.t (decide_eq_true (by omega)) ?_
      refine Ok.t (by simp only [Bool.and_eq_true]; exact ⟨Nat.ble_eq_true_of_le (by omega), Nat.ble_eq_true_of_le (by omega)⟩) ?_
      refine Ok.ret ⟨n, ⟨by omega, hi, fun _ => h⟩, ?_, r8⟩
      rw [show (k + (n : Int)).toNat - k.toNat = n by omega]
end Go.Proofs.YtmjbmbmnnephjaaGreatDoor
namespace Go.Proofs.YtmjbmbmnnephjaaGreatDoor
open Go Go.Ev Go.Proofs
theorem run_ok {g : Nat} {P : Int → Bool} (hp : IsPred g P) (s : St) {str : ByteArray} {b : Nat} {k : Int} (hk : 0 ≤ k) (hm : k ≤ str.data.toList.length) (hl : str.data.toList.length ≤ 4611686018427387904) (h0 : Cell s.mem b 0 (.string str)) (h1 : Cell s.mem b 1 (.int .i64 k)) :
    Ok (fun f => callF En (runP En f) 32 [.pointer (some ⟨b, 0, none⟩), .func (.func g) ⟨[]⟩ ⟨[]⟩]) s (fun v s' => ∃ n : Nat, runV str P k n ∧ v = .string (mkStr ((str.data.toList.drop k.toNat).take n)) ∧ Reads s s') := by
  refine Ok.step (fun f => f32_eq f b g) ?_
  exact run_loop hp hk hl (str.data.toList.length - k.toNat) 0 s (by simp only [Int.natCast_zero]; omega) (fun i h => by omega) h0 h1
end Go.Proofs.YtmjbmbmnnephjaaGreatDoor
/- Rules on memory: stores of one cell. -/
namespace Go.Ev
open Go
/-- A row that may be written: its header; not read only, not moved, nothing frozen, no olds. -/
def Free (m : Tr Slot) (b n : Nat) : Prop := ∃ el ex z sy, m.get b = some (.hdr ⟨n, el, false, ex, z, 0, sy, false, []⟩)
theorem wr1 {s : St} {b o n : Nat} {v : Value} (h : Free s.mem b n) (ho : o < n) (hv : oneC v = true) :
    s.wr b o [v] = some ⟨s.mem.set (b + 1 + o) (some (.cell b v)), s.ctr, ⟨true, b + 1 + o, 1⟩ :: ⟨false, b, 1⟩ :: s.log⟩ := by
  obtain ⟨m, c, l⟩ := s
  obtain ⟨el, ex, z, sy, h⟩ := h
  simp only at h
  have hb : Nat.ble (o + 1) n = true := Nat.ble_eq_true_of_le ho
  have h0 : Nat.ble 0 o = true := Nat.ble_eq_true_of_le (Nat.zero_le o)
  simp [St.wr, h, hv, layCells, hb, h0]
theorem Ok.store1 {E : Env} {t b o n : Nat} {v : Value} {s : St} (hs : E.size t = some 1) (hc : cellsL v = [v]) (h : Free s.mem b n) (ho : o < n) (hv : oneC v = true) :
    Ok (fun _ => storeT E t b o v) s (fun w s' => w = U ∧ s' = ⟨s.mem.set (b + 1 + o) (some (.cell b v)), s.ctr, ⟨true, b + 1 + o, 1⟩ :: ⟨false, b, 1⟩ :: s.log⟩) := by
  refine ⟨U, _, ⟨rfl, rfl⟩, 0, fun _ _ => ?_⟩
  simp only [storeT, hs, Ev.opt, hc, gd, List.length_cons, List.length_nil, Nat.zero_add, Nat.beq_refl, Prog.run, wr1 h ho hv]
end Go.Ev
/- The lexer's small methods: fail. -/
namespace Go.Proofs.YtmjbmbmnnephjaaGreatDoor
open Go Go.Ev Go.Proofs
theorem fail_ok (s : St) (b : Nat) (e a k : Int) (h3 : Cell s.mem b 3 (.int .i64 k)) (hf : Free s.mem b 5) :
    Ok (fun f => callF En (runP En f) 35 [.pointer (some ⟨b, 0, none⟩), .int .i64 e, .int .i64 a]) s (fun v s' => v = .tuple ⟨[]⟩ ∧ s'.ctr = s.ctr ∧
      s'.mem = if k = 0 then (s.mem.set (b + 1 + 3) (some (.cell b (.int .i64 e)))).set (b + 1 + 4) (some (.cell b (.int .i64 a))) else s.mem) := by
  have t24 : scal En 24 = true := by kernel_rfl
  refine Ok.step (fun f => f35_eq f b e a) ?_
  refine Ok.callP (Ok.load1 t24 h3) ?_
  rintro v s1 ⟨rfl, e1, e2, e3⟩
  refine Ok.t rfl ?_
  refine Ok.c (fun h => ?_) (fun h => ?_)
  · have h := of_decide_eq_true h
    simp only [intOf] at h
    have hf1 : Free s1.mem b 5 := by rw [e1]; exact hf
    refine Ok.callP (Ok.store1 (n := 5) (by kernel_rfl) rfl hf1 (by omega) rfl) ?_
    rintro v s2 ⟨rfl, rfl⟩
    refine Ok.callP (Ok.store1 (n := 5) (by kernel_rfl) rfl ?_ (by omega) rfl) ?_
    · obtain ⟨el, ex, z, sy, hh⟩ := hf1
      refine ⟨el, ex, z, sy, ?_⟩
      simp only [Tr.get_set]
      rw [if_neg (by omega)]
      exact hh
    · rintro v s3 ⟨rfl, rfl⟩
      refine Ok.ret ⟨rfl, e2, ?_⟩
      simp only [if_pos h, e1]
  · have h := of_decide_eq_false h
    simp only [intOf] at h
    exact Ok.ret ⟨rfl, e2, by rw [if_neg h]; exact e1⟩
end Go.Proofs.YtmjbmbmnnephjaaGreatDoor
/- Rows: what lies in them, rows that grow, new rows, aggregates. -/
namespace Go.Ev
open Go
def CellsAt (m : Tr Slot) (b : Nat) : Nat → List Value → Prop
  | _, [] => True
  | k, v :: vs => m.get k = some (.cell b v) ∧ CellsAt m b (k + 1) vs
theorem CellsAt.congr {m m' : Tr Slot} {b : Nat} : ∀ {vs : List Value} {k : Nat}, CellsAt m b k vs → (∀ j, k ≤ j → j < k + vs.length → m'.get j = m.get j) → CellsAt m' b k vs
  | [], _, _, _ => trivial
  | v :: vs, k, h, e => by
    refine ⟨?_, CellsAt.congr h.2 fun j h1 h2 => e j (by omega) (by simp only [List.length_cons]; omega)⟩
    rw [e k (Nat.le_refl k) (by simp only [List.length_cons]; omega)]
    exact h.1
theorem CellsAt.rd {m : Tr Slot} {b : Nat} : ∀ {vs : List Value} {o : Nat}, CellsAt m b (b + 1 + o) vs → rdCells m b vs.length o = some vs
  | [], _, _ => rfl
  | v :: vs, o, h => by
    have h2 : CellsAt m b (b + 1 + (o + 1)) vs := h.2
    simp only [List.length_cons, rdCells, Nat.add_eq, h.1, Nat.beq_refl, CellsAt.rd h2]
theorem CellsAt.append {m : Tr Slot} {b : Nat} : ∀ {xs ys : List Value} {k : Nat}, CellsAt m b k xs → CellsAt m b (k + xs.length) ys → CellsAt m b k (xs ++ ys)
  | [], ys, k, _, h => by simpa using h
  | a :: xs, ys, k, h, g => by
    refine ⟨h.1, CellsAt.append h.2 ?_⟩
    rw [show k + 1 + xs.length = k + (a :: xs).length by simp only [List.length_cons]; omega]
    exact g
theorem lay_below (b : Nat) : ∀ (vs : List Value) (k : Nat) (m : Tr Slot) (j : Nat), (j < k ∨ k + vs.length ≤ j) → (layCells b vs k m).get j = m.get j
  | [], _, _, _, _ => rfl
  | v :: vs, k, m, j, h => by
    simp only [List.length_cons] at h
    simp only [layCells, Nat.add_eq]
    rw [lay_below b vs (k + 1) _ j (by omega), Tr.get_set, if_neg (by omega)]
theorem CellsAt.lay {b : Nat} : ∀ (vs : List Value) (k : Nat) (m : Tr Slot), CellsAt (layCells b vs k m) b k vs
  | [], _, _ => trivial
  | v :: vs, k, m => by
    simp only [layCells, Nat.add_eq]
    refine ⟨?_, CellsAt.lay vs (k + 1) _⟩
    rw [lay_below b vs (k + 1) _ k (by omega), Tr.get_set, if_pos rfl]
theorem CellsAt.get {m : Tr Slot} {b : Nat} : ∀ {vs : List Value} {k : Nat} (i : Nat) (v : Value), CellsAt m b k vs → vs[i]? = some v → m.get (k + i) = some (.cell b v)
  | [], _, _, _, _, e => by simp at e
  | x :: vs, k, 0, v, h, e => by
    simp only [List.getElem?_cons_zero, Option.some.injEq] at e
    subst e
    exact h.1
  | x :: vs, k, i + 1, v, h, e => by
    simp only [List.getElem?_cons_succ] at e
    have := CellsAt.get i v h.2 e
    rw [show k + (i + 1) = k + 1 + i by omega]
    exact this
theorem CellsAt.cell {m : Tr Slot} {b n : Nat} {vs : List Value} (i : Nat) {v : Value} (f : Free m b n) (h : CellsAt m b (b + 1) vs) (e : vs[i]? = some v) : Cell m b i v := by
  obtain ⟨el, ex, z, sy, hf⟩ := f
  exact ⟨⟨_, hf⟩, CellsAt.get i v h e⟩
theorem CellsAt.set {m : Tr Slot} {b : Nat} : ∀ {vs : List Value} {k : Nat} (i : Nat) (v : Value), CellsAt m b k vs → CellsAt (m.set (k + i) (some (.cell b v))) b k (vs.set i v)
  | [], _, _, _, _ => trivial
  | x :: vs, k, 0, v, h => by
    simp only [List.set_cons_zero]
    refine ⟨by rw [Nat.add_zero, Tr.get_set, if_pos rfl], CellsAt.congr h.2 fun j h1 h2 => by rw [Tr.get_set, if_neg (by omega)]⟩
  | x :: vs, k, i + 1, v, h => by
    simp only [List.set_cons_succ]
    refine ⟨by rw [Tr.get_set, if_neg (by omega)]; exact h.1, ?_⟩
    rw [show k + (i + 1) = k + 1 + i by omega]
    exact CellsAt.set i v h.2
theorem Free.congr {m m' : Tr Slot} {b n : Nat} (h : Free m b n) (e : m'.get b = m.get b) : Free m' b n := by
  obtain ⟨el, ex, z, sy, hf⟩ := h
  exact ⟨el, ex, z, sy, e.trans hf⟩

/-! A row that has no list behind it: its header and its cells. -/
def Row (m : Tr Slot) (b : Nat) (vs : List Value) : Prop := Free m b vs.length ∧ CellsAt m b (b + 1) vs
theorem Row.congr {m m' : Tr Slot} {b : Nat} {vs : List Value} (h : Row m b vs) (e : ∀ j, b ≤ j → j < b + 1 + vs.length → m'.get j = m.get j) : Row m' b vs :=
  ⟨h.1.congr (e b (Nat.le_refl b) (by omega)), h.2.congr fun j h1 h2 => e j (by omega) h2⟩
theorem Row.cell {m : Tr Slot} {b : Nat} {vs : List Value} (i : Nat) {v : Value} (h : Row m b vs) (e : vs[i]? = some v) : Cell m b i v := CellsAt.cell i h.1 h.2 e
theorem Row.set {m : Tr Slot} {b : Nat} {vs : List Value} (i : Nat) (v : Value) (h : Row m b vs) : Row (m.set (b + 1 + i) (some (.cell b v))) b (vs.set i v) := by
  refine ⟨?_, CellsAt.set i v h.2⟩
  rw [List.length_set]
  exact h.1.congr (by rw [Tr.get_set, if_neg (by omega)])

/-! New rows. -/
theorem Ok.new {n el : Nat} {ex z sy : Bool} {vs : List Value} {g : Nat → Value} {s : St} (hn : vs.length = n) :
    Ok (fun _ => Prog.newH (Hdr.mk n el false ex z 0 sy false []) vs (fun k => Prog.ret (g k))) s
      (fun v s' => v = g s.ctr ∧ s'.ctr = s.ctr + n + 1 ∧ Row s'.mem s.ctr vs ∧ ∀ k, k < s.ctr → s'.mem.get k = s.mem.get k) := by
  obtain ⟨m, c, l⟩ := s
  subst hn
  have e : Nat.ble vs.length vs.length = true := Nat.ble_eq_true_of_le (Nat.le_refl _)
  refine ⟨g c, ⟨layCells c vs (c + 1) (m.set c (some (.hdr (Hdr.mk vs.length el false ex z 0 sy false [])))), c + vs.length + 1, ⟨true, c, vs.length + 1⟩ :: l⟩, ⟨rfl, rfl, ⟨⟨el, ex, z, sy, ?_⟩, CellsAt.lay _ _ _⟩, fun k hk => ?_⟩, 0, fun _ _ => ?_⟩
  · simp only
    rw [lay_below _ _ _ _ _ (by omega), Tr.get_set, if_pos rfl]
  · simp only at hk ⊢
    rw [lay_below _ _ _ _ _ (by omega), Tr.get_set, if_neg (by omega)]
  · simp only [Prog.run, e, St.newH, Nat.add_eq]

/-! Aggregates. -/
def aggr (E : Env) (t : TypeId) : Bool := match E.und t with
  | some d => isAggD d
  | none => false
theorem Ok.loadA {E : Env} {t b o n : Nat} {vs : List Value} {s : St} (ha : aggr E t = true) (hs : E.size t = some n) (hn : vs.length = n) (hh : ∃ h, s.mem.get b = some (.hdr h)) (h : CellsAt s.mem b (b + 1 + o) vs) :
    Ok (fun _ => loadT E t b o) s (fun w s' => w = .agg ⟨vs⟩ ∧ s'.mem = s.mem ∧ s'.ctr = s.ctr ∧ s'.log = ⟨false, b + 1 + o, n⟩ :: ⟨false, b, 1⟩ :: s.log) := by
  obtain ⟨m, c, l⟩ := s
  obtain ⟨hd, h1⟩ := hh
  simp only at h1 h
  subst hn
  refine ⟨_, ⟨m, c, ⟨false, b + 1 + o, vs.length⟩ :: ⟨false, b, 1⟩ :: l⟩, ⟨rfl, rfl, rfl, rfl⟩, 0, fun _ _ => ?_⟩
  unfold aggr at ha
  unfold loadT
  cases hu : E.und t with
  | none => rw [hu] at ha; cases ha
  | some d =>
    rw [hu] at ha
    simp only [ha, hs, Ev.opt, Prog.run, St.rd, h1, h.rd, Nat.add_eq]
theorem Ok.segLoadA {E : Env} {t b o n : Nat} {vs : List Value} {s : St} {Q : Value → St → Prop} {k : Nat → Value → List Acc → Nat → Prog} (ha : aggr E t = true) (hs : E.size t = some n) (hn : vs.length = n) (hh : ∃ h, s.mem.get b = some (.hdr h)) (h : CellsAt s.mem b (b + 1 + o) vs)
    (hk : ∀ s1, Reads s s1 → Ok (fun f => k f (.agg ⟨vs⟩) [⟨false, b + 1 + o, n⟩, ⟨false, b, 1⟩] s.ctr) s1 Q) : Ok (fun f => .seg (loadT E t b o) (k f)) s Q := by
  refine Ok.seg (Ok.loadA (s := ⟨s.mem, s.ctr, []⟩) ha hs hn hh h) ?_
  rintro w s1 ⟨rfl, e1, e2, e3⟩
  simp only at e1 e2 e3
  rw [e3, e1, e2]
  exact hk _ ⟨rfl, rfl, [⟨false, b + 1 + o, n⟩, ⟨false, b, 1⟩], rfl, rfl⟩
/-- A store of a whole row. -/
theorem Ok.storeRow {E : Env} {t b n : Nat} {vs ws : List Value} {s : St} (hs : E.size t = some n) (h : Row s.mem b vs) (hn : vs.length = n) (hw : ws.length = n) (hv : ws.all oneC = true) :
    Ok (fun _ => storeT E t b 0 (.agg ⟨ws⟩)) s (fun w s' => w = U ∧ s'.ctr = s.ctr ∧ Row s'.mem b ws ∧ ∀ k, (k ≤ b ∨ b + 1 + n ≤ k) → s'.mem.get k = s.mem.get k) := by
  obtain ⟨m, c, l⟩ := s
  obtain ⟨⟨el, ex, z, sy, hf⟩, hc⟩ := h
  simp only at hf hc
  have hb : Nat.ble (0 + ws.length) vs.length = true := Nat.ble_eq_true_of_le (by omega)
  have h0 : Nat.ble 0 0 = true := rfl
  have ec : cellsL (.agg ⟨ws⟩) = ws := rfl
  refine ⟨U, ⟨layCells b ws (b + 1 + 0) m, c, ⟨true, b + 1 + 0, ws.length⟩ :: ⟨false, b, 1⟩ :: l⟩, ⟨rfl, rfl, ⟨⟨el, ex, z, sy, ?_⟩, CellsAt.lay _ _ _⟩, fun k hk => ?_⟩, 0, fun _ _ => ?_⟩
  · simp only
    rw [lay_below _ _ _ _ _ (by omega), hf, hw, hn]
  · simp only
    rw [lay_below _ _ _ _ _ (by omega)]
  · simp only [storeT, hs, Ev.opt, ec, gd, hw, Nat.beq_refl, Prog.run, St.wr, hf, Bool.false_or, h0, hv, Bool.not_true, Nat.add_eq]
    rw [← hn, hn] at *
    simp only [hw] at hb
    simp only [hb, Bool.not_true]
/-- A store of one cell of a row. -/
theorem Ok.storeCell {E : Env} {t b o : Nat} {v : Value} {vs : List Value} {s : St} (hs : E.size t = some 1) (hc : cellsL v = [v]) (h : Row s.mem b vs) (ho : o < vs.length) (hv : oneC v = true) :
    Ok (fun _ => storeT E t b o v) s (fun w s' => w = U ∧ s'.ctr = s.ctr ∧ Row s'.mem b (vs.set o v) ∧ ∀ k, k ≠ b + 1 + o → s'.mem.get k = s.mem.get k) := by
  refine Ok.mono (Ok.store1 hs hc h.1 ho hv) ?_
  rintro w s' ⟨rfl, rfl⟩
  refine ⟨rfl, rfl, h.set o v, fun k hk => ?_⟩
  simp only
  rw [Tr.get_set, if_neg hk]

/-! Rows that grow. -/
def Grow (m : Tr Slot) (lo hi el sz : Nat) (cs : List Value) (v : Value) : Prop :=
  cs.all oneC = true ∧ ((v = .slice none 0 0 ∧ cs = []) ∨
  ∃ r n sy olds, v = .slice (some ⟨r, 0, none⟩) n (capOf n false) ∧ cs.length = n * sz ∧ lo ≤ r ∧ r + 1 + cs.length ≤ hi ∧ (∀ k, k ∈ olds → lo ≤ k ∧ k < r) ∧
    m.get r = some (.hdr ⟨cs.length, el, false, false, true, 0, sy, false, olds⟩) ∧ CellsAt m r (r + 1) cs)
theorem Grow.nil (m : Tr Slot) (lo hi el sz : Nat) : Grow m lo hi el sz [] (.slice none 0 0) := ⟨rfl, .inl ⟨rfl, rfl⟩⟩
theorem Grow.congr {m m' : Tr Slot} {lo hi hi' el sz : Nat} {cs : List Value} {v : Value} (h : Grow m lo hi el sz cs v) (hh : hi ≤ hi') (e : ∀ j, lo ≤ j → j < hi → m'.get j = m.get j) : Grow m' lo hi' el sz cs v := by
  obtain ⟨h1, h2⟩ := h
  refine ⟨h1, ?_⟩
  rcases h2 with h2 | ⟨r, n, sy, olds, a1, a2, a3, a4, a5, a6, a7⟩
  · exact .inl h2
  · refine .inr ⟨r, n, sy, olds, a1, a2, a3, by omega, a5, ?_, a7.congr fun j b1 b2 => e j (by omega) (by omega)⟩
    rw [e r a3 (by omega)]
    exact a6
theorem Grow.one {m : Tr Slot} {lo hi el sz : Nat} {cs : List Value} {v : Value} (h : Grow m lo hi el sz cs v) : oneC v = true ∧ cellsL v = [v] := by
  rcases h.2 with ⟨rfl, _⟩ | ⟨r, n, sy, olds, rfl, _⟩
  · exact ⟨rfl, rfl⟩
  · exact ⟨rfl, rfl⟩
theorem Grow.len {m : Tr Slot} {lo hi el sz : Nat} {cs : List Value} {v : Value} (h : Grow m lo hi el sz cs v) (n : Nat) (hz : 0 < sz) (hn : cs.length = n * sz) : ∃ a c, v = .slice a n c := by
  rcases h.2 with ⟨rfl, rfl⟩ | ⟨r, n', sy, olds, rfl, h2, _⟩
  · refine ⟨none, 0, ?_⟩
    have : n = 0 := by
      cases n with
      | zero => rfl
      | succ n =>
        rw [Nat.succ_mul, List.length_nil] at hn
        omega
    rw [this]
  · have : n' = n := Nat.eq_of_mul_eq_mul_right hz (h2.symm.trans hn)
    exact ⟨_, _, by rw [this]⟩
/-- What 'append' has to know of a slice's type. -/
def AppT (E : Env) (t el sz by_ : Nat) : Prop := E.und t = some (.slice el) ∧ E.size el = some sz ∧ E.bytes el = some by_ ∧ (E.zero el).isSome = true ∧ 0 < sz
theorem all_append {α : Type} (f : α → Bool) (a b : List α) (h : a.all f = true) (g : b.all f = true) : (a ++ b).all f = true := by
  rw [List.all_append, h, g]; rfl
theorem Ok.app {E : Env} {t el sz by_ lo : Nat} {cs : List Value} {v e : Value} {s : St} (ht : AppT E t el sz by_) (h : Grow s.mem lo s.ctr el sz cs v) (he : (cellsL e).length = sz) (he1 : (cellsL e).all oneC = true) (hlo : lo ≤ s.ctr)
    (hn : (cs.length + 1) * (by_ + 1) ≤ 1099511627776) :
    Ok (fun _ => builtinA E Builtin.append (t :: (t :: [])) (v :: (xlstV (e :: []) :: []))) s
      (fun w s' => Grow s'.mem lo s'.ctr el sz (cs ++ cellsL e) w ∧ s.ctr ≤ s'.ctr ∧ ∀ k, k < lo → s'.mem.get k = s.mem.get k) := by
  obtain ⟨m, c, l⟩ := s
  obtain ⟨hu, hs, hb, hz, hz0⟩ := ht
  obtain ⟨zv, hz⟩ := Option.isSome_iff_exists.1 hz
  obtain ⟨hone, hg⟩ := h
  have hel : elemOfSlice E t = some el := by unfold elemOfSlice; rw [hu]
  have hlen : lenA (xlstV [e]) = some 1 := rfl
  have hx : isL (xlstV [e]) = true := rfl
  have hxe : elems (xlstV [e]) = [e] := rfl
  have hok : hdOk sz [e] = true := by simp only [hdOk, he, Nat.beq_refl]
  have hfl : flatC ([e].take 1) = cellsL e := by simp [flatC]
  have hf1 : ∀ k, firstA sz 1 (xlstV [e]) k = gd (hdOk sz [e]) (k (flatC ([e].take 1))) := fun _ => rfl
  rcases hg with ⟨rfl, rfl⟩ | ⟨r, n, sy, olds, rfl, a2, a3, a4, a5, a6, a7⟩
  · have hd : decide ((0 + 1) * (by_ + 1) ≤ 1099511627776) = true := decide_eq_true (by simpa using hn)
    have hbl : Nat.ble (cellsL e).length (cellsL e).length = true := Nat.ble_eq_true_of_le (Nat.le_refl _)
    refine ⟨.slice (some ⟨c, 0, none⟩) 1 (capOf 1 false), ⟨layCells c (cellsL e) (c + 1) (m.set c (some (.hdr ⟨(cellsL e).length, el, false, false, true, 0, false, false, []⟩))), c + (cellsL e).length + 1, ⟨true, c, (cellsL e).length + 1⟩ :: l⟩, ⟨⟨?_, .inr ⟨c, 1, false, [], rfl, ?_, hlo, ?_, fun k hk => ?_, ?_, ?_⟩⟩, ?_, fun k hk => ?_⟩, 0, fun _ _ => ?_⟩
    · simpa using he1
    · simp [he]
    · simp; omega
    · cases hk
    · simp only [List.nil_append]
      rw [lay_below _ _ _ _ _ (by omega), Tr.get_set, if_pos rfl]
    · exact CellsAt.lay _ _ _
    · simp; omega
    · simp only at hlo ⊢
      rw [lay_below _ _ _ _ _ (by omega), Tr.get_set, if_neg (by omega)]
    · simp only [builtinA, appendA, appendB, hel, hu, hs, hb, Ev.opt, isIntD, appN, hlen, hz, gd, hd, appC, hf1, hok, hfl, Nat.zero_add, Prog.run, Prog.new, hbl, St.newH, Nat.add_eq]
  · simp only at a4 a6 a7 hlo
    have hcl : capLo (capOf n false) = n := by show (2 * n + 0) / 2 = n; omega
    have hce : capEx (capOf n false) = false := by
      simp only [capEx, capOf, Nat.add_eq, Nat.mul_eq, Nat.add_zero]
      have : Nat.mod (2 * n) 2 = 0 := by show (2 * n) % 2 = 0; omega
      rw [this]; rfl
    have hnn : n ≤ cs.length := by rw [a2]; exact Nat.le_mul_of_pos_right n hz0
    have hd : decide ((n + 1) * (by_ + 1) ≤ 1099511627776) = true := decide_eq_true (Nat.le_trans (Nat.mul_le_mul_right _ (by omega)) hn)
    have hble : Nat.ble (n + 1) n = false := by
      cases hq : Nat.ble (n + 1) n with
      | false => rfl
      | true => have := Nat.le_of_ble_eq_true hq; omega
    have hg2 : decide (True ∧ 0 + n * sz = cs.length ∧ True ∧ True ∧ True ∧ 0 ≤ n * sz + 1 * sz) = true := decide_eq_true ⟨trivial, by omega, trivial, trivial, trivial, Nat.zero_le _⟩
    have hrd : rdCells m r (n * sz) 0 = some cs := by rw [← a2]; exact CellsAt.rd a7
    have hlenc : (cs ++ cellsL e).length = n * sz + 1 * sz := by rw [List.length_append, a2, he, Nat.one_mul]
    have hbl : Nat.ble (cs ++ cellsL e).length (n * sz + 1 * sz) = true := Nat.ble_eq_true_of_le (by omega)
    refine ⟨.slice (some ⟨c, 0, none⟩) (n + 1) (capOf (n + 1) false), ⟨layCells c (cs ++ cellsL e) (c + 1) ((m.set r (some (.hdr ⟨cs.length, el, false, false, true, 0, sy, true, []⟩))).set c (some (.hdr ⟨n * sz + 1 * sz, el, false, false, true, 0, sy, false, r :: olds⟩))), c + (n * sz + 1 * sz) + 1, ⟨true, c, n * sz + 1 * sz + 1⟩ :: ⟨true, r, 1⟩ :: ⟨false, r + 1 + 0, n * sz⟩ :: ⟨false, r, 1⟩ :: ⟨false, r, 1⟩ :: l⟩, ⟨⟨?_, .inr ⟨c, n + 1, sy, r :: olds, rfl, ?_, hlo, ?_, fun k hk => ?_, ?_, ?_⟩⟩, ?_, fun k hk => ?_⟩, 0, fun _ _ => ?_⟩
    · exact all_append _ _ _ hone he1
    · rw [hlenc, Nat.add_mul]
    · simp only; omega
    · rcases List.mem_cons.1 hk with rfl | hk
      · exact ⟨a3, by omega⟩
      · have := a5 k hk; omega
    · simp only
      rw [lay_below _ _ _ _ _ (by omega), Tr.get_set, if_pos rfl, hlenc]
    · exact CellsAt.lay _ _ _
    · simp only; omega
    · simp only at hlo ⊢
      rw [lay_below _ _ _ _ _ (by omega), Tr.get_set, if_neg (by omega), Tr.get_set, if_neg (by omega)]
    · simp only [builtinA, appendA, appendB, hel, hu, hs, hb, Ev.opt, isIntD, appN, hlen, hz, gd, hd, hcl, hce, hble, appC, hf1, hok, hfl, Prog.run, St.hd, St.setHd, St.rd, a6, hg2, hrd, he1, hbl, St.newH, Nat.add_eq, Bool.true_and, Nat.beq_refl]
end Go.Ev
/- The library's small functions on strings: IndexByte, CutSuffix, CutPrefix. -/
namespace Go.Proofs.YtmjbmbmnnephjaaGreatDoor
open Go Go.Ev Go.Proofs
abbrev bl (s : ByteArray) : List UInt8 := s.data.toList
theorem f180_eq (f : Nat) (x0 : ByteArray) (x1 : Int) : callF En (runP En f) 180 [(Value.string x0), (Value.int IntKind.u8 x1)] =
  gd (decide (0 ≤ x1) && decide (x1 < 256)) (.ret (vInt (findByte x1.toNat x0.data.toList 0))) := by kernel_rfl
theorem findByte_spec (c : Nat) : ∀ (l : List UInt8) (i : Nat), (findByte c l i = -1 ∧ ∀ b ∈ l, b.toNat ≠ c) ∨ ∃ j, j < l.length ∧ findByte c l i = Int.ofNat (i + j) ∧ (l.getD j 0).toNat = c ∧ ∀ k, k < j → (l.getD k 0).toNat ≠ c
  | [], i => .inl ⟨rfl, fun b h => by cases h⟩
  | x :: l, i => by
    unfold findByte
    cases h : Nat.beq x.toNat c with
    | true => exact .inr ⟨0, by simp, rfl, by simpa using Nat.eq_of_beq_eq_true h, fun k hk => by omega⟩
    | false =>
      have hx : x.toNat ≠ c := fun e => by subst e; simp at h
      rcases findByte_spec c l (i + 1) with ⟨a, b⟩ | ⟨j, a, b, d, e⟩
      · refine .inl ⟨a, fun y hy => ?_⟩
        rcases List.mem_cons.1 hy with rfl | hy
        · exact hx
        · exact b y hy
      · refine .inr ⟨j + 1, by simp; omega, ?_, by simpa using d, fun k hk => ?_⟩
        · simp only [Nat.add_eq]; rw [b]; congr 1; omega
        · cases k with
          | zero => simpa using hx
          | succ k => simpa using e k (by omega)
theorem indexByte_ok (s : St) (x : ByteArray) (c : Int) (h : 0 ≤ c ∧ c < 256) : Ok (fun f => callF En (runP En f) 66 [.string x, .int .u8 c]) s (fun v s' => v = .int .i64 (findByte c.toNat (bl x) 0) ∧ s' = s) := by
  refine Ok.step (fun f => f66_eq f x c) ?_
  refine Ok.call (Q1 := fun v s' => v = .int .i64 (findByte c.toNat (bl x) 0) ∧ s' = s) ?_ ?_
  · refine Ok.step (fun f => f124_eq f x c) ?_
    refine Ok.call (Q1 := fun v s' => v = .int .i64 (findByte c.toNat (bl x) 0) ∧ s' = s) ?_ ?_
    · simp only [f180_eq]
      exact Ok.g (by simp [h.1, h.2]) (Ok.ret ⟨rfl, rfl⟩)
    · rintro v s1 ⟨rfl, rfl⟩
      exact Ok.t rfl (Ok.ret ⟨rfl, rfl⟩)
  · rintro v s1 ⟨rfl, rfl⟩
    exact Ok.t rfl (Ok.ret ⟨rfl, rfl⟩)
theorem beqB_eq : ∀ (a b : List UInt8), beqB a b = decide (a = b)
  | [], [] => rfl
  | [], _ :: _ => rfl
  | _ :: _, [] => rfl
  | a :: x, b :: y => by
    unfold beqB
    cases h : Nat.beq a.toNat b.toNat with
    | true =>
      have : a = b := UInt8.toNat_inj.1 (Nat.eq_of_beq_eq_true h)
      subst this
      simp [beqB_eq x y]
    | false =>
      have : a ≠ b := fun e => by subst e; simp at h
      simp [this]
/-- Is a text the end of another one? -/
def sufB (a b : List UInt8) : Bool := decide (b.length ≤ a.length) && decide (a.drop (a.length - b.length) = b)
theorem toInt_sub (a b : Nat) (h : b ≤ a) (ha : a ≤ 4611686018427387904) : IntKind.i64.wrap ((Int.ofNat a) + (Int.negOfNat b)) = Int.ofNat (a - b) := by
  rw [wrap_in _ (by simp only [Int.ofNat_eq_natCast, Int.negOfNat_eq]; omega) (by simp only [Int.ofNat_eq_natCast, Int.negOfNat_eq]; omega)]
  simp only [Int.ofNat_eq_natCast, Int.negOfNat_eq]; omega
theorem hasSuffix_ok (s : St) (a b : ByteArray) (ha : (bl a).length ≤ 4611686018427387904) : Ok (fun f => callF En (runP En f) 211 [.string a, .string b]) s (fun v s' => v = .bool (sufB (bl a) (bl b)) ∧ s' = s) := by
  refine Ok.step (fun f => f211_eq f a b) ?_
  refine Ok.c (fun h => ?_) (fun h => ?_)
  · have h := of_decide_eq_true h
    simp only [Int.ofNat_eq_natCast] at h
    have hle : (bl b).length ≤ (bl a).length := by simp only [bl]; omega
    have e := toInt_sub _ _ hle ha
    simp only [bl] at hle ha e
    refine Ok.t (decide_eq_true (by rw [e]; simp only [Int.ofNat_eq_natCast]; omega)) ?_
    refine Ok.t (by rw [e]; simp only [Bool.and_eq_true]; exact ⟨Nat.ble_eq_true_of_le (by simp), Nat.ble_eq_true_of_le (by omega)⟩) ?_
    refine Ok.ret ⟨?_, rfl⟩
    rw [e, Int.ofNat_eq_natCast, Int.toNat_natCast, List.take_of_length_le (by rw [List.length_drop]; omega), beqB_eq]
    simp only [sufB, bl, decide_eq_true hle, Bool.true_and]
  · have h := of_decide_eq_false h
    simp only [Int.ofNat_eq_natCast] at h
    refine Ok.ret ⟨?_, rfl⟩
    simp only [sufB, bl, decide_eq_false (show ¬ b.data.toList.length ≤ a.data.toList.length by omega), Bool.false_and]
/-- What is left of a text without such an end. -/
def cutSuf (a b : List UInt8) : List UInt8 := if sufB a b then a.take (a.length - b.length) else a
def mk (l : List UInt8) : ByteArray := mkStr l
theorem bl_mk (l : List UInt8) : bl (mkStr l) = l := rfl
theorem mk_bl (x : ByteArray) : mkStr (bl x) = x := rfl
theorem cutSuffix_ok (s : St) (a b : ByteArray) (ha : (bl a).length ≤ 4611686018427387904) : Ok (fun f => callF En (runP En f) 117 [.string a, .string b]) s
    (fun v s' => v = .tuple ⟨[.string (mkStr (cutSuf (bl a) (bl b))), .bool (sufB (bl a) (bl b))]⟩ ∧ s' = s) := by
  refine Ok.step (fun f => f117_eq f a b) ?_
  refine Ok.call (Q1 := fun v s' => v = .tuple ⟨[.string (mkStr (cutSuf (bl a) (bl b))), .bool (sufB (bl a) (bl b))]⟩ ∧ s' = s) ?_ ?_
  · refine Ok.step (fun f => f174_eq f a b) ?_
    refine Ok.call (hasSuffix_ok s a b ha) ?_
    rintro v s1 ⟨rfl, rfl⟩
    refine Ok.t rfl ?_
    simp only [boolOf]
    refine Ok.c (fun h => ?_) (fun h => ?_)
    · have h : sufB (bl a) (bl b) = false := by simpa using h
      refine Ok.ret ⟨?_, rfl⟩
      simp only [cutSuf, h, Bool.false_eq_true, if_false]
      rfl
    · have h : sufB (bl a) (bl b) = true := by simpa using h
      have hle : (bl b).length ≤ (bl a).length := by
        simp only [sufB, Bool.and_eq_true, decide_eq_true_eq] at h
        exact h.1
      have e := toInt_sub _ _ hle ha
      simp only [bl] at hle ha e h
      refine Ok.t (decide_eq_true (by rw [e]; simp only [Int.ofNat_eq_natCast]; omega)) ?_
      refine Ok.t (by rw [e]; simp only [Bool.and_eq_true]; exact ⟨Nat.ble_eq_true_of_le (by simp), Nat.ble_eq_true_of_le (by simp)⟩) ?_
      refine Ok.ret ⟨?_, rfl⟩
      rw [e]
      simp only [cutSuf, bl, h, if_true, Int.ofNat_eq_natCast, Int.toNat_natCast, Nat.sub_zero]
  · rintro v s1 ⟨rfl, rfl⟩
    exact Ok.t rfl (Ok.ret ⟨rfl, rfl⟩)
def preB (a b : List UInt8) : Bool := decide (b.length ≤ a.length) && decide (a.take b.length = b)
theorem hasPrefix_ok (s : St) (a b : ByteArray) : Ok (fun f => callF En (runP En f) 141 [.string a, .string b]) s (fun v s' => v = .bool (preB (bl a) (bl b)) ∧ s' = s) := by
  refine Ok.step (fun f => f141_eq f a b) ?_
  refine Ok.c (fun h => ?_) (fun h => ?_)
  · have h := of_decide_eq_true h
    simp only [Int.ofNat_eq_natCast] at h
    refine Ok.t (by simp only [Bool.and_eq_true]; exact ⟨Nat.ble_eq_true_of_le (by simp), Nat.ble_eq_true_of_le (by omega)⟩) ?_
    refine Ok.ret ⟨?_, rfl⟩
    rw [beqB_eq]
    simp only [preB, bl, decide_eq_true (show b.data.toList.length ≤ a.data.toList.length by omega), Bool.true_and, Nat.sub_zero]
  · have h := of_decide_eq_false h
    simp only [Int.ofNat_eq_natCast] at h
    refine Ok.ret ⟨?_, rfl⟩
    simp only [preB, bl, decide_eq_false (show ¬ b.data.toList.length ≤ a.data.toList.length by omega), Bool.false_and]
def cutPre (a b : List UInt8) : List UInt8 := if preB a b then a.drop b.length else a
theorem cutPrefix_ok (s : St) (a b : ByteArray) : Ok (fun f => callF En (runP En f) 136 [.string a, .string b]) s
    (fun v s' => v = .tuple ⟨[.string (mkStr (cutPre (bl a) (bl b))), .bool (preB (bl a) (bl b))]⟩ ∧ s' = s) := by
  refine Ok.step (fun f => f136_eq f a b) ?_
  refine Ok.call (Q1 := fun v s' => v = .tuple ⟨[.string (mkStr (cutPre (bl a) (bl b))), .bool (preB (bl a) (bl b))]⟩ ∧ s' = s) ?_ ?_
  · refine Ok.step (fun f => f184_eq f a b) ?_
    refine Ok.call (hasPrefix_ok s a b) ?_
    rintro v s1 ⟨rfl, rfl⟩
    refine Ok.t rfl ?_
    simp only [boolOf]
    refine Ok.c (fun h => ?_) (fun h => ?_)
    · have h : preB (bl a) (bl b) = false := by simpa using h
      refine Ok.ret ⟨?_, rfl⟩
      simp only [cutPre, h, Bool.false_eq_true, if_false]
      rfl
    · have h : preB (bl a) (bl b) = true := by simpa using h
      have hle : (bl b).length ≤ (bl a).length := by
        simp only [preB, Bool.and_eq_true, decide_eq_true_eq] at h
        exact h.1
      simp only [bl] at hle h
      refine Ok.t (by simp only [Bool.and_eq_true]; exact ⟨Nat.ble_eq_true_of_le hle, Nat.ble_eq_true_of_le (by omega)⟩) ?_
      refine Ok.ret ⟨?_, rfl⟩
      simp only [cutPre, bl, h, if_true]
      rw [List.take_of_length_le (by rw [List.length_drop]; omega)]
  · rintro v s1 ⟨rfl, rfl⟩
    exact Ok.t rfl (Ok.ret ⟨rfl, rfl⟩)
end Go.Proofs.YtmjbmbmnnephjaaGreatDoor
/- Rules on memory: a copy of a string into a new row, and the string of such a row; what has been written lies above a number. -/
namespace Go.Ev
open Go
/-- All that has been written lies above a number. -/
def Above (c : Nat) (s s' : St) : Prop := ∃ l, s'.log = l ++ s.log ∧ ∀ a, a ∈ writesOf l → c ≤ a.k
theorem Above.trans {c : Nat} {s s1 s2 : St} (h : Above c s s1) (g : Above c s1 s2) : Above c s s2 := by
  obtain ⟨l, e1, e2⟩ := h
  obtain ⟨k, e3, e4⟩ := g
  refine ⟨k ++ l, by rw [e3, e1, List.append_assoc], fun a ha => ?_⟩
  rw [writesOf_append] at ha
  rcases List.mem_append.1 ha with ha | ha
  · exact e4 a ha
  · exact e2 a ha
theorem Reads.above {s s' : St} (c : Nat) (h : Reads s s') : Above c s s' := by
  obtain ⟨_, _, l, e3, e4⟩ := h
  exact ⟨l, e3, fun a ha => by rw [e4] at ha; cases ha⟩
theorem hits_above (c : Nat) (a : Acc) (ha : c ≤ a.k) : ∀ (l : List Acc), (∀ b, b ∈ l → b.k + b.n ≤ c) → hits a l = false
  | [], _ => rfl
  | b :: l, h => by
    have hb := h b (List.mem_cons_self ..)
    have : Nat.blt a.k (Nat.add b.k b.n) = false := by
      cases hq : Nat.blt a.k (Nat.add b.k b.n) with
      | false => rfl
      | true =>
        have h2 : a.k < b.k + b.n := by
          have := Nat.le_of_ble_eq_true hq
          simpa [Nat.succ_le_iff] using this
        omega
    simp only [hits, overlap, this, Bool.false_and, Bool.false_or]
    exact hits_above c a ha l fun b hb => h b (List.mem_cons_of_mem _ hb)
theorem anyHits_above (c : Nat) : ∀ (ws : List Acc), (∀ a, a ∈ ws → c ≤ a.k) → ∀ (l : List Acc), (∀ b, b ∈ l → b.k + b.n ≤ c) → anyHits ws l = false
  | [], _, _, _ => rfl
  | a :: ws, h, l, g => by
    simp only [anyHits, hits_above c a (h a (List.mem_cons_self ..)) l g, Bool.false_or]
    exact anyHits_above c ws (fun a ha => h a (List.mem_cons_of_mem _ ha)) l g
/-- What writes above a number only, and what reads below it. -/
theorem apart_above {c : Nat} {ws all rs : List Acc} (h : ∀ a, a ∈ ws → c ≤ a.k) (g : ∀ b, b ∈ rs → b.k + b.n ≤ c) : apartLogs ws all [] rs = true := by
  unfold apartLogs
  cases ws with
  | nil => rfl
  | cons a ws => simp only [anyHits_above c _ h rs g, Bool.not_false, Bool.and_true]

theorem Ok.newF {n el : Nat} {ex z sy : Bool} {vs : List Value} {g : Nat → Value} {s : St} (hn : vs.length = n) :
    Ok (fun _ => Prog.newH (Hdr.mk n el false ex z 0 sy false []) vs (fun k => Prog.ret (g k))) s
      (fun v s' => v = g s.ctr ∧ s'.ctr = s.ctr + n + 1 ∧ s'.mem.get s.ctr = some (.hdr (Hdr.mk n el false ex z 0 sy false [])) ∧ CellsAt s'.mem s.ctr (s.ctr + 1) vs ∧ (∀ k, k < s.ctr → s'.mem.get k = s.mem.get k) ∧ Above s.ctr s s') := by
  obtain ⟨m, c, l⟩ := s
  subst hn
  have e : Nat.ble vs.length vs.length = true := Nat.ble_eq_true_of_le (Nat.le_refl _)
  refine ⟨g c, ⟨layCells c vs (c + 1) (m.set c (some (.hdr (Hdr.mk vs.length el false ex z 0 sy false [])))), c + vs.length + 1, ⟨true, c, vs.length + 1⟩ :: l⟩, ⟨rfl, rfl, ?_, CellsAt.lay _ _ _, fun k hk => ?_, [⟨true, c, vs.length + 1⟩], rfl, fun a ha => ?_⟩, 0, fun _ _ => ?_⟩
  · simp only
    rw [lay_below _ _ _ _ _ (by omega), Tr.get_set, if_pos rfl]
  · simp only at hk ⊢
    rw [lay_below _ _ _ _ _ (by omega), Tr.get_set, if_neg (by omega)]
  · simp only [writesOf, List.mem_singleton] at ha
    subst ha
    exact Nat.le_refl _
  · simp only [Prog.run, e, St.newH, Nat.add_eq]

theorem Cell.congr {m m' : Tr Slot} {b o : Nat} {v : Value} (h : Cell m b o v) (e1 : m'.get b = m.get b) (e2 : m'.get (b + 1 + o) = m.get (b + 1 + o)) : Cell m' b o v := by
  obtain ⟨⟨hd, h1⟩, h2⟩ := h
  exact ⟨⟨hd, e1.trans h1⟩, e2.trans h2⟩
/-- What a call that allocates, and writes to nothing old, leaves. -/
def Fresh (s s' : St) : Prop := s.ctr ≤ s'.ctr ∧ (∀ k, k < s.ctr → s'.mem.get k = s.mem.get k)
theorem Fresh.refl (s : St) : Fresh s s := ⟨Nat.le_refl _, fun _ _ => rfl⟩
theorem Fresh.trans {s s1 s2 : St} (h : Fresh s s1) (g : Fresh s1 s2) : Fresh s s2 := ⟨Nat.le_trans h.1 g.1, fun k hk => (g.2 k (Nat.lt_of_lt_of_le hk h.1)).trans (h.2 k hk)⟩
theorem Reads.fresh {s s' : St} (h : Reads s s') : Fresh s s' := ⟨Nat.le_of_eq h.2.1.symm, fun k _ => by rw [h.1]⟩
def u8s (l : List UInt8) : List Value := l.map fun b => .int .u8 b.toNat
theorem u8s_length (l : List UInt8) : (u8s l).length = l.length := by simp [u8s]
theorem u8s_one (l : List UInt8) : (u8s l).all oneC = true := by simp [u8s, oneC]
theorem u8s_ok : ∀ (l : List UInt8), allU8 (u8s l) = true
  | [] => rfl
  | b :: l => by
    have := u8s_ok l
    simp only [u8s, List.map_cons, allU8, u8V, Bool.true_and] at this ⊢
    exact this
theorem u8s_bytes : ∀ (l : List UInt8), bytesV (u8s l) = l
  | [] => rfl
  | b :: l => by
    have := u8s_bytes l
    simp only [u8s, List.map_cons, bytesV, intOf, Int.toNat_natCast] at this ⊢
    rw [this]
    simp
theorem Ok.copyStr {E : Env} {t e c n cap : Nat} {x : ByteArray} {vs : List Value} {el : TypeId} {ex z sy : Bool} {s : St} (ht : elemOfSlice E t = some e) (hs : E.size e = some 1) (hh : s.mem.get c = some (.hdr ⟨n, el, false, ex, z, 0, sy, false, []⟩)) (hv : vs.length = n)
    (hx : x.data.toList.length = n) (h0 : 0 < n) :
    Ok (fun _ => builtinA E Builtin.copy (t :: (9 :: [])) (Value.slice (some ⟨c, 0, none⟩) n cap :: (Value.string x :: []))) s
      (fun v s' => v = vInt n ∧ s'.ctr = s.ctr ∧ s'.mem.get c = s.mem.get c ∧ CellsAt s'.mem c (c + 1) (u8s x.data.toList) ∧ (∀ k, (k ≤ c ∨ c + 1 + n ≤ k) → s'.mem.get k = s.mem.get k) ∧ Above c s s') := by
  obtain ⟨m, cc, l⟩ := s
  simp only at hh
  have e1 : firstA 1 n (.string x) = fun k => gd (Nat.beq 1 1) (k ((x.data.toList.take n).map (fun b => .int .u8 b.toNat))) := rfl
  have e2 : x.data.toList.take n = x.data.toList := List.take_of_length_le (by omega)
  have hl : (x.data.toList.map (fun b : UInt8 => Value.int .u8 (b.toNat : Int))).length = n := by simp [hx]
  have ho : (x.data.toList.map (fun b : UInt8 => Value.int .u8 (b.toNat : Int))).all oneC = true := u8s_one _
  have hb : Nat.ble (0 + n) n = true := Nat.ble_eq_true_of_le (by omega)
  have h00 : Nat.ble 0 0 = true := rfl
  obtain ⟨n', rfl⟩ : ∃ n', n = n' + 1 := ⟨n - 1, by omega⟩
  refine ⟨vInt (n' + 1 : Nat), ⟨layCells c (x.data.toList.map (fun b : UInt8 => Value.int .u8 (b.toNat : Int))) (c + 1 + 0) m, cc, ⟨true, c + 1 + 0, n' + 1⟩ :: ⟨false, c, 1⟩ :: l⟩, ⟨rfl, rfl, ?_, CellsAt.lay _ _ _, fun k hk => ?_, [⟨true, c + 1 + 0, n' + 1⟩, ⟨false, c, 1⟩], rfl, fun a ha => ?_⟩, 0, fun _ _ => ?_⟩
  · simp only
    rw [lay_below _ _ _ _ _ (by omega)]
  · simp only
    rw [lay_below _ _ _ _ _ (by omega)]
  · simp only [writesOf, List.mem_singleton] at ha
    subst ha
    simp only; omega
  · simp only [builtinA, copyA, ht, hs, Ev.opt, lenA, hx, Nat.min_self, e1, e2, gd, Nat.beq_refl, Prog.run, St.wr, hh, Bool.false_or, h00, Bool.not_true, ho, hl, Nat.add_eq, hb]
    rfl
/-- 'unsafe.String' of a whole row of bytes. -/
theorem Ok.unsafeStr {E : Env} {pt t2 e c n : Nat} {l : List UInt8} {ex : Bool} {s : St} (hp : ptrElem E pt = some e) (ho : isOne E e = true) (hh : s.mem.get c = some (.hdr ⟨n, e, false, ex, true, 0, false, false, []⟩)) (hl : l.length = n) (h0 : 0 < n) (hn : n ≤ 9223372036854775807)
    (hc : CellsAt s.mem c (c + 1) (u8s l)) :
    Ok (fun _ => builtinA E Builtin.unsafeString (pt :: (t2 :: [])) (Value.pointer (some ⟨c, 0, none⟩) :: (Value.int IntKind.i64 (n : Int) :: []))) s
      (fun v s' => v = .string (mkStr l) ∧ s'.ctr = s.ctr ∧ (∀ k, k ≠ c → s'.mem.get k = s.mem.get k) ∧ Above c s s') := by
  obtain ⟨m, cc, lg⟩ := s
  simp only at hh hc
  have hrd : rdCells m c n 0 = some (u8s l) := by
    have h1 : CellsAt m c (c + 1 + 0) (u8s l) := hc
    have h2 := h1.rd
    rw [u8s_length, hl] at h2
    exact h2
  have g1 : (decide ((0 : Int) ≤ (n : Int)) && decide ((n : Int) ≤ 9223372036854775807)) = true := by simp only [Bool.and_eq_true, decide_eq_true_eq]; omega
  have g2 : decide ((n : Int) = 0) = false := decide_eq_false (by omega)
  refine ⟨.string (mkStr l), ⟨m.set c (some (.hdr ⟨n, e, false, ex, true, Nat.max 0 n, false, false, []⟩)), cc, ⟨true, c, 1⟩ :: ⟨false, c + 1 + 0, n⟩ :: ⟨false, c, 1⟩ :: ⟨false, c, 1⟩ :: lg⟩,
    ⟨rfl, rfl, fun k hk => ?_, [⟨true, c, 1⟩, ⟨false, c + 1 + 0, n⟩, ⟨false, c, 1⟩, ⟨false, c, 1⟩], rfl, fun a ha => ?_⟩, 0, fun _ _ => ?_⟩
  · simp only
    rw [Tr.get_set, if_neg hk]
  · simp only [writesOf, List.mem_singleton] at ha
    subst ha
    simp only; omega
  · simp only [builtinA, gd, g1, g2, Prog.run, Ev.opt, hp, ck, ho, St.hd, hh, Nat.beq_refl, Bool.not_false, Bool.and_true, Bool.true_and, Int.toNat_natCast, St.rd, hrd, u8s_ok, St.setHd, u8s_bytes, Nat.add_eq]
end Go.Ev
/- The library's errors of numbers: Clone, syntaxError, rangeError. -/
namespace Go.Proofs.YtmjbmbmnnephjaaGreatDoor
open Go Go.Ev Go.Proofs
/-- What the library's variables hold: two errors. -/
def Lib (m : Tr Slot) (n : Nat) : Prop := (∃ t x, Cell m 393217 0 (.iface t x)) ∧ (∃ t x, Cell m 458753 0 (.iface t x)) ∧ 458755 ≤ n
theorem Lib.congr {m m' : Tr Slot} {n n' : Nat} (h : Lib m n) (hn : n ≤ n') (e : ∀ k, k < n → m'.get k = m.get k) : Lib m' n' := by
  obtain ⟨⟨t, x, h1⟩, ⟨t', x', h2⟩, h3⟩ := h
  exact ⟨⟨t, x, Cell.congr h1 (e _ (by omega)) (e _ (by omega))⟩, ⟨t', x', Cell.congr h2 (e _ (by omega)) (e _ (by omega))⟩, by omega⟩
theorem Lib.fresh {s s' : St} (h : Lib s.mem s.ctr) (g : Fresh s s') : Lib s'.mem s'.ctr := h.congr g.1 g.2
theorem rep_length (n : Nat) : (rep ((Value.int IntKind.u8 (0 : Int)) :: []) n).length = n := by
  induction n with
  | zero => rfl
  | succ n ih => simp [rep, ih]
theorem clone_ok (s : St) (x : ByteArray) (hx : (bl x).length ≤ 1000000) : Ok (fun f => callF En (runP En f) 234 [.string x]) s (fun v s' => v = .string x ∧ Fresh s s' ∧ Above s.ctr s s') := by
  refine Ok.step (fun f => f234_eq f x) ?_
  refine Ok.c (fun h => ?_) (fun h => ?_)
  · have h := of_decide_eq_true h
    have h : bl x = [] := List.length_eq_zero_iff.1 (by simp only [Int.ofNat_eq_natCast] at h; simp only [bl]; omega)
    refine Ok.ret ⟨?_, Fresh.refl s, [], rfl, fun a ha => by cases ha⟩
    exact congrArg Value.string ((by rw [← h]; exact mk_bl x))
  · have h := of_decide_eq_false h
    simp only [Int.ofNat_eq_natCast] at h
    simp only [bl] at hx
    refine Ok.g rfl (Ok.g rfl (Ok.g (decide_eq_true ⟨Nat.le_refl _, ?_, ?_⟩) ?_))
    · simp only [Int.ofNat_eq_natCast, Int.toNat_natCast]
      rw [show TypeInfo.bytes Proofs.Tryz.t5 = 1 by kernel_rfl, Nat.one_mul]
      exact Nat.le_trans hx (by decide)
    · simp only [Int.ofNat_eq_natCast, Int.toNat_natCast]
      exact Nat.le_trans hx (by decide)
    refine Ok.callP (Ok.newF rfl) ?_
    rintro v s1 ⟨rfl, e1, e2, e3, e4, e5⟩
    rw [rep_length] at e1 e2
    simp only [Int.ofNat_eq_natCast, Int.toNat_natCast]
    refine Ok.callP (Ok.copyStr (e := 5) (by kernel_rfl) (by kernel_rfl) e2 (rep_length _) rfl (by omega)) ?_
    rintro v s2 ⟨rfl, g1, g2, g3, g4, g5⟩
    refine Ok.t rfl ?_
    have ei : ∀ (n c cap : Nat) (k : Value → Prog), indexAddrK En 65 (Value.slice (some ⟨c, 0, none⟩) n cap) (Value.int IntKind.i64 (0 : Int)) k = gc (Nat.blt 0 n && Nat.blt 0 1) (k (.pointer (some ⟨c, Nat.add 0 (Nat.mul 0 1), none⟩))) := fun _ _ _ _ => by kernel_rfl
    simp only [ei]
    refine Ok.t (by simp only [Bool.and_eq_true]; exact ⟨Nat.ble_eq_true_of_le (by omega), rfl⟩) ?_
    have el : ∀ (n c cap : Nat), builtinA En Builtin.len (65 :: []) (Value.slice (some ⟨c, 0, none⟩) n cap :: []) = .ret (vInt n) := fun _ _ _ => by kernel_rfl
    simp only [el]
    refine Ok.callP (Q1 := fun v s' => v = vInt (x.data.toList.length : Nat) ∧ s' = s2) (Ok.ret ⟨rfl, rfl⟩) ?_
    rintro v s3 ⟨rfl, rfl⟩
    refine Ok.t rfl ?_
    simp only [intOf, vInt]
    refine Ok.callP (Ok.unsafeStr (e := 5) (c := s.ctr) (n := x.data.toList.length) (l := x.data.toList) (by kernel_rfl) (by kernel_rfl) (by rw [g2]; exact e2) rfl (by omega) (by omega) g3) ?_
    rintro v s4 ⟨rfl, i1, i2, i3⟩
    refine Ok.ret ⟨rfl, ⟨by omega, fun k hk => ?_⟩, (e5.trans (g5.trans i3))⟩
    rw [i2 k (by omega), g4 k (by omega), e4 k hk]
def errB (g : Nat) : Nat := g
theorem synErr_ok (s : St) (a x : ByteArray) (hx : (bl x).length ≤ 1000000) (hl : Lib s.mem s.ctr) : Ok (fun f => callF En (runP En f) 229 [.string a, .string x]) s (fun v s' => (∃ p, v = .pointer (some p)) ∧ Fresh s s') := by
  obtain ⟨⟨t, y, h1⟩, _, h3⟩ := hl
  have hs : scal En 103 = true := by kernel_rfl
  refine Ok.step (fun f => f229_eq f a x) ?_
  refine Ok.seg (clone_ok ⟨s.mem, s.ctr, []⟩ x hx) ?_
  rintro v s1 ⟨rfl, f1, l1, a1, a2⟩
  simp only at a1 a2
  refine Ok.t rfl ?_
  have hc : Cell s1.mem 393217 0 (.iface t y) := Cell.congr h1 (f1.2 _ (by simp only; omega)) (f1.2 _ (by simp only; omega))
  refine Ok.segLoad hs hc fun s2 r2 => ?_
  refine Ok.gdL ?_ ?_
  · rw [a1, List.append_nil]
    simp only [freeL, Bool.and_true, writesOf]
    rw [Bool.or_eq_true]
    refine .inr (apart_above (c := s.ctr) a2 ?_)
    intro b hb
    simp only [List.mem_cons, List.mem_nil_iff, or_false] at hb
    rcases hb with rfl | rfl <;> simp only <;> omega
  have eb : ∀ (a b : ByteArray) (t : Nat) (y : Value), buildA En 202 ((Prod.mk 0 (Value.string a)) :: ((Prod.mk 1 (Value.string b)) :: ((Prod.mk 2 (.iface t y)) :: []))) = gd Bool.true (.ret (.agg ⟨[.string a, .string b, .iface t y]⟩)) := fun _ _ _ _ => by kernel_rfl
  simp only [eb]
  refine Ok.seg (Q1 := fun v s' => v = .agg ⟨[.string a, .string (strOf (Value.string x)), .iface t y]⟩ ∧ s' = ⟨s2.mem, s2.ctr, []⟩) (Ok.g rfl (Ok.ret ⟨rfl, rfl⟩)) ?_
  rintro v s3 ⟨rfl, rfl⟩
  refine Ok.gdL (by kernel_rfl) ?_
  refine Ok.seg (Q1 := fun v s' => (v = itP s2.ctr ∧ Fresh s2 s')) (Ok.g rfl ?_) ?_
  · refine Ok.mono (Ok.newF rfl) ?_
    rintro v s' ⟨rfl, e1, _, _, e4, _⟩
    exact ⟨rfl, by simp only at e1; omega, e4⟩
  rintro v s4 ⟨rfl, f4⟩
  refine Ok.gdL (by kernel_rfl) ?_
  refine Ok.t rfl (Ok.ret ⟨⟨_, rfl⟩, ?_⟩)
  refine ⟨?_, fun k hk => ?_⟩
  · have := f1.1; have := f4.1; have := r2.2.1; simp only at *; omega
  · have hk1 : k < s1.ctr := Nat.lt_of_lt_of_le hk f1.1
    have hk2 : k < s2.ctr := by rw [r2.2.1]; exact hk1
    simp only
    rw [f4.2 k hk2, r2.1]
    exact f1.2 k hk
theorem rngErr_ok (s : St) (a x : ByteArray) (hx : (bl x).length ≤ 1000000) (hl : Lib s.mem s.ctr) : Ok (fun f => callF En (runP En f) 230 [.string a, .string x]) s (fun v s' => (∃ p, v = .pointer (some p)) ∧ Fresh s s') := by
  obtain ⟨_, ⟨t, y, h1⟩, h3⟩ := hl
  have hs : scal En 103 = true := by kernel_rfl
  refine Ok.step (fun f => f230_eq f a x) ?_
  refine Ok.seg (clone_ok ⟨s.mem, s.ctr, []⟩ x hx) ?_
  rintro v s1 ⟨rfl, f1, l1, a1, a2⟩
  simp only at a1 a2
  refine Ok.t rfl ?_
  have hc : Cell s1.mem 458753 0 (.iface t y) := Cell.congr h1 (f1.2 _ (by simp only; omega)) (f1.2 _ (by simp only; omega))
  refine Ok.segLoad hs hc fun s2 r2 => ?_
  refine Ok.gdL ?_ ?_
  · rw [a1, List.append_nil]
    simp only [freeL, Bool.and_true, writesOf]
    rw [Bool.or_eq_true]
    refine .inr (apart_above (c := s.ctr) a2 ?_)
    intro b hb
    simp only [List.mem_cons, List.mem_nil_iff, or_false] at hb
    rcases hb with rfl | rfl <;> simp only <;> omega
  have eb : ∀ (a b : ByteArray) (t : Nat) (y : Value), buildA En 202 ((Prod.mk 0 (Value.string a)) :: ((Prod.mk 1 (Value.string b)) :: ((Prod.mk 2 (.iface t y)) :: []))) = gd Bool.true (.ret (.agg ⟨[.string a, .string b, .iface t y]⟩)) := fun _ _ _ _ => by kernel_rfl
  simp only [eb]
  refine Ok.seg (Q1 := fun v s' => v = .agg ⟨[.string a, .string (strOf (Value.string x)), .iface t y]⟩ ∧ s' = ⟨s2.mem, s2.ctr, []⟩) (Ok.g rfl (Ok.ret ⟨rfl, rfl⟩)) ?_
  rintro v s3 ⟨rfl, rfl⟩
  refine Ok.gdL (by kernel_rfl) ?_
  refine Ok.seg (Q1 := fun v s' => (v = itP s2.ctr ∧ Fresh s2 s')) (Ok.g rfl ?_) ?_
  · refine Ok.mono (Ok.newF rfl) ?_
    rintro v s' ⟨rfl, e1, _, _, e4, _⟩
    exact ⟨rfl, by simp only at e1; omega, e4⟩
  rintro v s4 ⟨rfl, f4⟩
  refine Ok.gdL (by kernel_rfl) ?_
  refine Ok.t rfl (Ok.ret ⟨⟨_, rfl⟩, ?_⟩)
  refine ⟨?_, fun k hk => ?_⟩
  · have := f1.1; have := f4.1; have := r2.2.1; simp only at *; omega
  · have hk1 : k < s1.ctr := Nat.lt_of_lt_of_le hk f1.1
    have hk2 : k < s2.ctr := by rw [r2.2.1]; exact hk1
    simp only
    rw [f4.2 k hk2, r2.1]
    exact f1.2 k hk
end Go.Proofs.YtmjbmbmnnephjaaGreatDoor
