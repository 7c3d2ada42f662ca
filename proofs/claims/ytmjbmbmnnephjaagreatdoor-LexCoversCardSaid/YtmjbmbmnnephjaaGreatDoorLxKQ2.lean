/- The lexer's row: its cells, its tokens; 'at' is set; fail; add. -/
import Derived.Test.YtmjbmbmnnephjaaGreatDoorLxKQ1
import Derived.Test.YtmjbmbmnnephjaaGreatDoorLxKG2
import Derived.Test.YtmjbmbmnnephjaaGreatDoorLxKG3
namespace Go.Proofs.YtmjbmbmnnephjaaGreatDoor
open Go Go.Ev Go.Proofs
/-- A token: what its cells are. -/
structure Tok where
  kind : Int
  at_ : Int
  en : Int
  text : ByteArray
  t : Int
  n : List Value
  sy : List Value
  l : List Value
def Tok.cells (t : Tok) : List Value := [.int .i64 t.kind, .int .i64 t.at_, .int .i64 t.en, .string t.text, .int .i64 t.t, lstV t.n, lstV t.sy, lstV t.l]
def toksC : List Tok → List Value
  | [] => []
  | t :: ts => t.cells ++ toksC ts
theorem toksC_append : ∀ (a b : List Tok), toksC (a ++ b) = toksC a ++ toksC b
  | [], _ => rfl
  | t :: a, b => by simp only [List.cons_append, toksC, toksC_append a b, List.append_assoc]
theorem toksC_length : ∀ (a : List Tok), (toksC a).length = a.length * 8
  | [] => rfl
  | t :: a => by simp only [toksC, List.length_append, toksC_length a, List.length_cons, Nat.add_mul]; simp [Tok.cells]; omega
theorem toksC_one : ∀ (a : List Tok), (toksC a).all oneC = true
  | [] => rfl
  | t :: a => by
    rw [toksC, List.all_append, toksC_one a]
    rfl
def lxC (str : ByteArray) (a : Int) (l : Value) (err bad : Int) : List Value := [.string str, .int .i64 a, l, .int .i64 err, .int .i64 bad]
/-- The lexer's row is at b: its text, its place, its tokens, its error. -/
def LXh (m : Tr Slot) (hi : Nat) (b : Nat) (str : ByteArray) (a : Int) (ts : List Tok) (err bad : Int) : Prop :=
  ∃ l, Row m b (lxC str a l err bad) ∧ Grow m (b + 6) hi 34 8 (toksC ts) l ∧ b + 6 ≤ hi ∧ Lib m b
abbrev LX (s : St) (b : Nat) (str : ByteArray) (a : Int) (ts : List Tok) (err bad : Int) : Prop := LXh s.mem s.ctr b str a ts err bad
theorem LXh.frame {m m' : Tr Slot} {hi hi' b : Nat} {str : ByteArray} {a : Int} {ts : List Tok} {err bad : Int} (h : LXh m hi b str a ts err bad) (hc : hi ≤ hi') (e : ∀ k, k < hi → m'.get k = m.get k) : LXh m' hi' b str a ts err bad := by
  obtain ⟨l, h1, h2, h3, h4⟩ := h
  exact ⟨l, h1.congr fun j _ hj => e j (by simp [lxC] at hj; omega), h2.congr hc fun j _ hj => e j hj, by omega, h4.congr (Nat.le_refl b) fun j hj => e j (by omega)⟩
section
variable {s : St} {b : Nat} {str : ByteArray} {a : Int} {ts : List Tok} {err bad : Int}
theorem LXh.c0 (h : LX s b str a ts err bad) : Cell s.mem b 0 (.string str) := by
  obtain ⟨l, h, _⟩ := h
  exact h.cell 0 rfl
theorem LXh.c1 (h : LX s b str a ts err bad) : Cell s.mem b 1 (.int .i64 a) := by
  obtain ⟨l, h, _⟩ := h
  exact h.cell 1 rfl
theorem LXh.c3 (h : LX s b str a ts err bad) : Cell s.mem b 3 (.int .i64 err) := by
  obtain ⟨l, h, _⟩ := h
  exact h.cell 3 rfl
theorem LXh.c4 (h : LX s b str a ts err bad) : Cell s.mem b 4 (.int .i64 bad) := by
  obtain ⟨l, h, _⟩ := h
  exact h.cell 4 rfl
theorem LXh.free (h : LX s b str a ts err bad) : Free s.mem b 5 := by
  obtain ⟨l, h, _⟩ := h
  exact h.1
theorem LXh.ctr (h : LX s b str a ts err bad) : b + 6 ≤ s.ctr := by
  obtain ⟨l, _, _, h, _⟩ := h
  exact h
theorem LXh.lib (h : LX s b str a ts err bad) : Lib s.mem s.ctr := by
  obtain ⟨l, _, _, h, g⟩ := h
  exact g.congr (by omega) fun _ _ => rfl
/-- What has not been touched. -/
theorem LXh.frameX {s' : St} (h : LX s b str a ts err bad) (hc : s.ctr ≤ s'.ctr) (e : ∀ k, k < s.ctr → s'.mem.get k = s.mem.get k) : LX s' b str a ts err bad := by
  obtain ⟨l, h1, h2, h3, h4⟩ := h
  exact ⟨l, h1.congr fun j _ hj => e j (by simp [lxC] at hj; omega), h2.congr hc fun j _ hj => e j hj, by omega, h4.congr (Nat.le_refl b) fun j hj => e j (by omega)⟩
theorem LXh.fresh {s' : St} (h : LX s b str a ts err bad) (e : Fresh s s') : LX s' b str a ts err bad := h.frameX e.1 e.2
theorem LXh.reads {s' : St} (h : LX s b str a ts err bad) (r : Reads s s') : LX s' b str a ts err bad := h.frameX (by rw [r.2.1]; exact Nat.le_refl _) fun k _ => by rw [r.1]
theorem setAt_ok (h : LX s b str a ts err bad) (a' : Int) :
    Ok (fun _ => storeT En 3 b 1 (.int .i64 a')) s (fun w s' => w = U ∧ LX s' b str a' ts err bad ∧ s'.ctr = s.ctr ∧ ∀ k, k ≠ b + 2 → s'.mem.get k = s.mem.get k) := by
  obtain ⟨l, h1, h2, h3, h6⟩ := h
  refine Ok.mono (Ok.storeCell (by kernel_rfl) rfl h1 (by simp [lxC]) rfl) ?_
  rintro w s' ⟨rfl, e1, e2, e3⟩
  refine ⟨rfl, ⟨l, e2, h2.congr (by omega) fun j h4 h5 => e3 j (by omega), by omega, h6.congr (Nat.le_refl b) fun j hj => e3 j (by omega)⟩, e1, fun k hk => e3 k (by omega)⟩
theorem fail_lx (h : LX s b str a ts err bad) (e p : Int) :
    Ok (fun f => callF En (runP En f) 35 [.pointer (some ⟨b, 0, none⟩), .int .i64 e, .int .i64 p]) s (fun v s' => v = .tuple ⟨[]⟩ ∧ LX s' b str a ts (if err = 0 then e else err) (if err = 0 then p else bad) ∧ s'.ctr = s.ctr ∧ ∀ k, k ≠ b + 4 → k ≠ b + 5 → s'.mem.get k = s.mem.get k) := by
  refine Ok.mono (fail_ok s b e p err h.c3 h.free) ?_
  rintro v s' ⟨rfl, h1, h2⟩
  refine ⟨rfl, ?_, h1, fun k k1 k2 => ?_⟩
  · by_cases he : err = 0
    · rw [if_pos he] at h2
      rw [if_pos he, if_pos he]
      obtain ⟨l, g1, g2, g3, g4⟩ := h
      refine ⟨l, ?_, g2.congr (by omega) fun j h4 h5 => ?_, by omega, g4.congr (Nat.le_refl b) fun j hj => by rw [h2, Tr.get_set, if_neg (by omega), Tr.get_set, if_neg (by omega)]⟩
      · have := (g1.set 3 (.int .i64 e)).set 4 (.int .i64 p)
        rw [h2]
        exact this
      · rw [h2, Tr.get_set, if_neg (by omega), Tr.get_set, if_neg (by omega)]
    · rw [if_neg he] at h2
      rw [if_neg he, if_neg he]
      exact h.frameX (by omega) fun k _ => by rw [h2]
  · rw [h2]
    split
    · rw [Tr.get_set, if_neg (by omega), Tr.get_set, if_neg (by omega)]
    · rfl
theorem appT23 : AppT En 23 34 8 120 := ⟨by kernel_rfl, by kernel_rfl, by kernel_rfl, by kernel_rfl, by omega⟩
theorem add_ok (h : LX s b str a ts err bad) (kind p : Int) (text : ByteArray) (t : Int) (n sy l : List Value) (hl : ts.length ≤ 20000) :
    Ok (fun f => callF En (runP En f) 63 [.pointer (some ⟨b, 0, none⟩), .int .i64 kind, .int .i64 p, .string text, .agg ⟨[.int .i64 t, lstV n, lstV sy, lstV l]⟩]) s
      (fun v s' => v = .tuple ⟨[]⟩ ∧ LX s' b str a (ts ++ [⟨kind, p, a, text, t, n, sy, l⟩]) err bad) := by
  obtain ⟨x, h1, h2, h3, h4⟩ := h
  have t3 : scal En 3 = true := by kernel_rfl
  have t23 : scal En 23 = true := by kernel_rfl
  refine Ok.step (fun f => f63_eq f b kind p text t n sy l) ?_
  refine Ok.g rfl ?_
  refine Ok.callP (Ok.new rfl) ?_
  rintro v s1 ⟨rfl, e1, e2, e3⟩
  refine Ok.t rfl ?_
  have g1 : Row s1.mem b (lxC str a x err bad) := h1.congr fun j _ hj => e3 j (by simp [lxC] at hj; omega)
  have g2 : Grow s1.mem (b + 6) s.ctr 34 8 (toksC ts) x := h2.congr (Nat.le_refl _) fun j _ hj => e3 j hj
  refine Ok.segLoad t23 (g1.cell 2 rfl) fun s2 r2 => ?_
  refine Ok.segLoad t3 ((g1.cell 1 rfl).reads r2) fun s3 r3 => ?_
  have r3 := r2.trans r3
  refine Ok.gdL (by kernel_rfl) ?_
  refine Ok.t rfl ?_
  refine Ok.segLoadA (n := 4) (by kernel_rfl) (by kernel_rfl) rfl ?_ (show CellsAt s3.mem s.ctr (s.ctr + 1 + 0) [.int .i64 t, lstV n, lstV sy, lstV l] by rw [r3.1]; exact e2.2) fun s4 r4 => ?_
  · obtain ⟨el, ex, z, sy', hf⟩ := e2.1
    exact ⟨_, by rw [r3.1]; exact hf⟩
  have r4 := r3.trans r4
  refine Ok.gdL (by kernel_rfl) ?_
  refine Ok.t rfl ?_
  refine Ok.g rfl ?_
  have eb : ∀ f : Nat, buildSliceA En 23 1 [(0, Value.agg ⟨[.int .i64 kind, .int .i64 p, .int .i64 a, .string text, .int .i64 t, lstV n, lstV sy, lstV l]⟩)] = .ret (xlstV [Value.agg ⟨[.int .i64 kind, .int .i64 p, .int .i64 a, .string text, .int .i64 t, lstV n, lstV sy, lstV l]⟩]) := fun _ => by kernel_rfl
  refine Ok.seg (Q1 := fun v s' => v = xlstV [Value.agg ⟨[.int .i64 kind, .int .i64 p, .int .i64 a, .string text, .int .i64 t, lstV n, lstV sy, lstV l]⟩] ∧ s'.mem = s4.mem ∧ s'.ctr = s4.ctr ∧ s'.log = []) ?_ ?_
  · refine Ok.mono (Q1 := fun v s' => v = xlstV [Value.agg ⟨[.int .i64 kind, .int .i64 p, .int .i64 a, .string text, .int .i64 t, lstV n, lstV sy, lstV l]⟩] ∧ s' = ⟨s4.mem, s4.ctr, []⟩) ?_ ?_
    · exact ⟨_, _, ⟨rfl, rfl⟩, 0, fun f _ => by
        show (buildSliceA En 23 1 [(0, Value.agg ⟨[.int .i64 kind, .int .i64 p, .int .i64 a, .string text, .int .i64 t, lstV n, lstV sy, lstV l]⟩)]).run _ = _
        rw [eb f]; rfl⟩
    · rintro v s' ⟨rfl, rfl⟩
      exact ⟨rfl, rfl, rfl, rfl⟩
  rintro v s5 ⟨rfl, m5, c5, l5⟩
  refine Ok.gdL (by rw [l5]; kernel_rfl) ?_
  have g5 : Grow s5.mem (b + 6) s5.ctr 34 8 (toksC ts) x := g2.congr (by rw [c5, r4.2.1]; omega) fun j _ _ => by rw [m5, r4.1]
  have c5' : s5.ctr = s1.ctr := by rw [c5, r4.2.1]
  refine Ok.seg (Ok.app (s := ⟨s5.mem, s5.ctr, []⟩) appT23 g5 rfl rfl (by simp only; omega) ?_) ?_
  · rw [toksC_length]; omega
  rintro w s6 ⟨a1, a2, a3⟩
  simp only at a2 a3
  refine Ok.gdL (by kernel_rfl) ?_
  have g6 : Row s6.mem b (lxC str a x err bad) := g1.congr fun j _ hj => by
    rw [a3 j (by simp [lxC] at hj; omega), m5, r4.1]
  have hw := a1.one
  refine Ok.seg (Ok.storeCell (s := ⟨s6.mem, s6.ctr, []⟩) (o := 2) (by kernel_rfl) hw.2 g6 (by simp [lxC]) hw.1) ?_
  rintro v s7 ⟨rfl, b1, b2, b3⟩
  simp only at b1 b3
  refine Ok.gdL (by kernel_rfl) ?_
  refine Ok.ret ⟨rfl, w, b2, ?_, ?_, h4.congr (Nat.le_refl b) fun j hj => ?_⟩
  · rw [toksC_append]
    exact a1.congr (by simp only; omega) fun j h4 _ => b3 j (by omega)
  · simp only; omega
  · simp only
    rw [b3 j (by omega), a3 j (by omega), m5, r4.1, e3 j (by omega)]
end
end Go.Proofs.YtmjbmbmnnephjaaGreatDoor
/- The library's strings.Trim over two bytes or more. -/
namespace Go.Proofs.YtmjbmbmnnephjaaGreatDoor
open Go Go.Ev Go.Proofs
/-- A set of bytes, as cells. -/
def setL (P : Nat → Bool) : List Value := (List.range 256).map fun c => Value.bool (P c)
theorem setL_length (P : Nat → Bool) : (setL P).length = 256 := by simp [setL]
theorem setL_get (P : Nat → Bool) (c : Nat) (h : c < 256) : (setL P)[c]? = some (.bool (P c)) := by simp [setL, h]
theorem setL_set (P : Nat → Bool) (k : Nat) (h : k < 256) : (setL P).set k (.bool true) = setL fun c => decide (c = k) || P c := by
  apply List.ext_getElem?
  intro i
  rw [List.getElem?_set, setL_length]
  by_cases hi : i < 256
  · rw [setL_get _ _ hi]
    by_cases e : k = i
    · subst e; rw [if_pos rfl, if_pos hi, setL_get _ _ hi]; simp
    · rw [if_neg e, setL_get _ _ hi, decide_eq_false (fun x => e x.symm), Bool.false_or]
  · rw [List.getElem?_eq_none (l := setL fun c => decide (c = k) || P c) (by rw [setL_length]; omega)]
    by_cases e : k = i
    · subst e; simp [hi]
    · rw [if_neg e, List.getElem?_eq_none (by rw [setL_length]; omega)]
theorem setL_one (P : Nat → Bool) : (setL P).all oneC = true := by simp [setL, oneC]
def memB (l : List UInt8) (c : Nat) : Bool := l.any fun b => decide (b.toNat = c)
theorem drop_cons (l : List UInt8) (i : Nat) (h : i < l.length) : l.drop i = l.getD i 0 :: l.drop (i + 1) := by
  rw [List.drop_eq_getElem_cons h]
  simp [List.getD, h]
theorem byteAt_lt (x : ByteArray) (i : Nat) : byteAt x i < 256 := by
  unfold byteAt
  exact UInt8.toNat_lt _
theorem ascii_loop (x : ByteArray) (hx : (bl x).length ≤ 100) (ha : ∀ i, byteAt x i < 128) (b : Nat) : ∀ (m i : Nat) (P : Nat → Bool) (s : St), i + m = (bl x).length → Row s.mem b (setL P) → b < s.ctr →
    Ok (fun f => p113_2 f x b 0 (i : Int)) s (fun v s' => v = .tuple ⟨[.agg ⟨setL fun c => P c || memB ((bl x).drop i) c⟩, .bool true]⟩ ∧ s'.ctr = s.ctr ∧ ∀ k, (k < b ∨ b + 257 ≤ k) → s'.mem.get k = s.mem.get k) := by
  intro m
  induction m with
  | zero =>
    intro i P s hm hr hb
    have e : (fun c => P c || memB ((bl x).drop i) c) = P := by
      funext c
      rw [List.drop_eq_nil_of_le (by omega)]
      simp [memB]
    rw [e]
    refine Ok.step (fun f => p113_2_eq f x b 0 (i : Int)) ?_
    refine Ok.f (decide_eq_false (by simp only [bl] at hm; simp only [Int.ofNat_eq_natCast]; omega)) ?_
    refine Ok.callP (Ok.loadA (n := 256) (vs := setL P) (by kernel_rfl) (by kernel_rfl) (setL_length _) ?_ hr.2) ?_
    · obtain ⟨el, ex, z, sy, hf⟩ := hr.1
      exact ⟨_, hf⟩
    rintro v s1 ⟨rfl, e1, e2, _⟩
    have hr1 : Row s1.mem b (setL P) := by rw [e1]; exact hr
    refine Ok.callP (Ok.storeRow (n := 256) (vs := setL P) (ws := setL P) (by kernel_rfl) hr1 (setL_length _) (setL_length _) (setL_one _)) ?_
    rintro v s2 ⟨rfl, f1, f2, f3⟩
    refine Ok.call (Ok.loadA (n := 256) (vs := setL P) (by kernel_rfl) (by kernel_rfl) (setL_length _) ?_ f2.2) ?_
    · obtain ⟨el, ex, z, sy, hf⟩ := f2.1
      exact ⟨_, hf⟩
    rintro v s3 ⟨rfl, g1, g2, _⟩
    refine Ok.ret ⟨rfl, by omega, fun k hk => ?_⟩
    rw [g1, f3 k (by omega), e1]
  | succ m IH =>
    intro i P s hm hr hb
    have hi : i < (bl x).length := by omega
    have hw : IntKind.i64.wrap ((i : Int) + 1) = ((i + 1 : Nat) : Int) := by rw [wrap_in _ (by omega) (by omega)]; omega
    have e : (fun c => P c || memB ((bl x).drop i) c) = fun c => (decide (c = byteAt x i) || P c) || memB ((bl x).drop (i + 1)) c := by
      funext c
      rw [drop_cons _ _ hi]
      have : (((bl x).getD i 0).toNat = c) = (c = byteAt x i) := by
        simp only [byteAt, bl]
        exact propext ⟨Eq.symm, Eq.symm⟩
      simp only [memB, List.any_cons, this]
      cases P c <;> cases decide (c = byteAt x i) <;> rfl
    rw [e]
    have hlt := ha i
    simp only [bl] at hi hm
    refine Ok.step (fun f => p113_2_eq f x b 0 (i : Int)) ?_
    refine Ok.t (decide_eq_true (by simp only [Int.ofNat_eq_natCast]; omega)) ?_
    refine Ok.t (decide_eq_true (by omega)) ?_
    refine Ok.t (Nat.ble_eq_true_of_le (by omega)) ?_
    refine Ok.f (decide_eq_false (by simp only [Int.toNat_natCast, Int.ofNat_eq_natCast]; omega)) ?_
    refine Ok.t (by rw [Bool.and_true]; exact Nat.ble_eq_true_of_le (by simp only [Int.toNat_natCast]; omega)) ?_
    simp only [Int.toNat_natCast, Nat.zero_add, Nat.mul_one, hw]
    refine Ok.callP (Ok.storeCell (o := byteAt x i) (vs := setL P) (by kernel_rfl) rfl hr (by rw [setL_length]; omega) rfl) ?_
    rintro v s1 ⟨rfl, e1, e2, e3⟩
    rw [setL_set _ _ (by omega)] at e2
    refine Ok.mono (IH (i + 1) _ s1 (by simp only [bl]; omega) e2 (by omega)) ?_
    rintro v s' ⟨rfl, f1, f2⟩
    exact ⟨rfl, by omega, fun k hk => by rw [f2 k hk, e3 k (by omega)]⟩
theorem f113_eq' (f : Nat) (x0 : ByteArray) : callF En (runP En (f + 1)) 113 [(Value.string x0)] =
  (callP (fun v11 =>
    (cnd
      (p113_2 f x0 (blkOf v11) (offOf v11) (0 : Int))
      Prog.fail
      (isPt v11)))
    (Prog.newH (Hdr.mk 256 116 Bool.false Bool.true Bool.true 0 Bool.false Bool.false []) (setL fun _ => false) (fun z => (Prog.ret (itP z))))) := by kernel_rfl
theorem asciiSet_ok (s : St) (x : ByteArray) (hx : (bl x).length ≤ 100) (ha : ∀ i, byteAt x i < 128) :
    Ok (fun f => callF En (runP En f) 113 [.string x]) s (fun v s' => v = .tuple ⟨[.agg ⟨setL (memB (bl x))⟩, .bool true]⟩ ∧ s.ctr ≤ s'.ctr ∧ ∀ k, k < s.ctr → s'.mem.get k = s.mem.get k) := by
  refine Ok.step (fun f => f113_eq' f x) ?_
  refine Ok.callP (Ok.new (setL_length _)) ?_
  rintro v s1 ⟨rfl, e1, e2, e3⟩
  refine Ok.t rfl ?_
  refine Ok.mono (ascii_loop x hx ha s.ctr (bl x).length 0 (fun _ => false) s1 (by omega) e2 (by omega)) ?_
  rintro v s' ⟨rfl, f1, f2⟩
  refine ⟨?_, by omega, fun k hk => by rw [f2 k (by omega), e3 k hk]⟩
  simp only [List.drop_zero, Bool.false_or]
theorem contains_ok (s : St) (b : Nat) (P : Nat → Bool) (c : Nat) (hr : Row s.mem b (setL P)) (hc : c < 256) :
    Ok (fun f => callF En (runP En f) 171 [.pointer (some ⟨b, 0, none⟩), .int .u8 (Int.ofNat c)]) s (fun v s' => v = .bool (P c) ∧ Reads s s') := by
  refine Ok.step (fun f => f171_eq f b (Int.ofNat c)) ?_
  refine Ok.t (decide_eq_true (by simp only [Int.ofNat_eq_natCast]; omega)) ?_
  refine Ok.t (by rw [Bool.and_true]; exact Nat.ble_eq_true_of_le (by simp only [Int.ofNat_eq_natCast, Int.toNat_natCast]; omega)) ?_
  simp only [Int.ofNat_eq_natCast, Int.toNat_natCast, Nat.zero_add, Nat.mul_one]
  refine Ok.callP (Ok.load1 (v := .bool (P c)) (by kernel_rfl) (hr.cell c (setL_get _ _ hc))) ?_
  rintro v s1 ⟨rfl, e1, e2, e3⟩
  exact Ok.t rfl (Ok.ret ⟨rfl, e1, e2, [⟨false, b + 1 + c, 1⟩, ⟨false, b, 1⟩], e3, rfl⟩)
def trimR (P : Nat → Bool) (l : List UInt8) : List UInt8 := (l.reverse.dropWhile fun b => P b.toNat).reverse
def trimL (P : Nat → Bool) (l : List UInt8) : List UInt8 := l.dropWhile fun b => P b.toNat
theorem sub1 (n : Nat) (h : 0 < n) (h2 : n ≤ 4611686018427387904) : IntKind.i64.wrap (Int.subNatNat n 1) = Int.ofNat (n - 1) := by
  have e : Int.subNatNat n 1 = Int.ofNat (n - 1) := by
    rw [Int.subNatNat_eq_coe]; simp only [Int.ofNat_eq_natCast]; omega
  rw [e, wrap_in _ (by simp only [Int.ofNat_eq_natCast]; omega) (by simp only [Int.ofNat_eq_natCast]; omega)]
theorem trimR_ok (b : Nat) (P : Nat → Bool) : ∀ (m : Nat) (x : ByteArray) (s : St), (bl x).length = m → (bl x).length ≤ 4611686018427387904 → Row s.mem b (setL P) →
    Ok (fun f => p114_1 f x b) s (fun v s' => v = .string (mkStr (trimR P (bl x))) ∧ Reads s s') := by
  intro m
  induction m with
  | zero =>
    intro x s hm hl hr
    refine Ok.step (fun f => p114_1_eq f x b) ?_
    refine Ok.f (decide_eq_false (by simp only [bl] at hm; simp only [Int.ofNat_eq_natCast]; omega)) ?_
    refine Ok.step (fun f => p114_4_eq f x) (Ok.ret ⟨?_, Reads.refl s⟩)
    have : bl x = [] := List.length_eq_zero_iff.1 hm
    rw [this]
    exact congrArg Value.string ((mk_bl x).symm.trans (by rw [this]; rfl))
  | succ m IH =>
    intro x s hm hl hr
    have e := sub1 (bl x).length (by omega) hl
    have hne : bl x ≠ [] := fun h => by rw [h] at hm; simp at hm
    have hx : bl x = (bl x).take ((bl x).length - 1) ++ [(bl x).getD ((bl x).length - 1) 0] := by
      have h1 := (List.dropLast_concat_getLast hne).symm
      rw [List.dropLast_eq_take, List.getLast_eq_getElem] at h1
      have h2 : (bl x).getD ((bl x).length - 1) 0 = (bl x)[(bl x).length - 1] := by
        rw [List.getD_eq_getElem?_getD, List.getElem?_eq_getElem (by omega)]; rfl
      rw [h2]; exact h1
    simp only [bl] at hm hl e
    refine Ok.step (fun f => p114_1_eq f x b) ?_
    refine Ok.t (decide_eq_true (by simp only [Int.ofNat_eq_natCast]; omega)) ?_
    rw [e]
    simp only [Int.ofNat_eq_natCast, Int.toNat_natCast]
    refine Ok.t (decide_eq_true (by omega)) ?_
    refine Ok.t (Nat.ble_eq_true_of_le (by omega)) ?_
    refine Ok.call (contains_ok s b P _ hr (byteAt_lt _ _)) ?_
    rintro v s1 ⟨rfl, r1⟩
    refine Ok.t rfl ?_
    simp only [boolOf]
    have hr1 : Row s1.mem b (setL P) := by rw [r1.1]; exact hr
    have hby : byteAt x (x.data.toList.length - 1) = ((bl x).getD ((bl x).length - 1) 0).toNat := rfl
    refine Ok.c (fun h => ?_) (fun h => ?_)
    · have h : P (byteAt x (x.data.toList.length - 1)) = false := by simpa using h
      refine Ok.step (fun f => p114_4_eq f x) (Ok.ret ⟨?_, r1⟩)
      have : trimR P (bl x) = bl x := by
        unfold trimR
        rw [hx, List.reverse_append, List.reverse_singleton, List.singleton_append, List.dropWhile_cons]
        rw [hby] at h
        rw [h]
        simp
      rw [this]
      rfl
    · have h : P (byteAt x (x.data.toList.length - 1)) = true := by simpa using h
      refine Ok.t (decide_eq_true (by omega)) ?_
      refine Ok.t (by simp only [Bool.and_eq_true]; exact ⟨Nat.ble_eq_true_of_le (by omega), Nat.ble_eq_true_of_le (by omega)⟩) ?_
      rw [Nat.sub_zero]
      refine Ok.mono (IH (mkStr (List.take (x.data.toList.length - 1) x.data.toList)) s1 (by simp only [bl_mk, List.length_take]; omega) (by simp only [bl_mk, List.length_take]; omega) hr1) ?_
      rintro v s' ⟨rfl, r2⟩
      refine ⟨?_, r1.trans r2⟩
      have : trimR P (bl x) = trimR P ((bl x).take ((bl x).length - 1)) := by
        unfold trimR
        conv => lhs; rw [hx, List.reverse_append, List.reverse_singleton, List.singleton_append, List.dropWhile_cons]
        rw [hby] at h
        rw [h]
        simp
      rw [this]
      rfl
theorem trimL_ok (b : Nat) (P : Nat → Bool) : ∀ (m : Nat) (x : ByteArray) (s : St), (bl x).length = m → Row s.mem b (setL P) →
    Ok (fun f => p176_1 f x b) s (fun v s' => v = .string (mkStr (trimL P (bl x))) ∧ Reads s s') := by
  intro m
  induction m with
  | zero =>
    intro x s hm hr
    refine Ok.step (fun f => p176_1_eq f x b) ?_
    refine Ok.f (decide_eq_false (by simp only [bl] at hm; simp only [Int.ofNat_eq_natCast]; omega)) ?_
    refine Ok.step (fun f => p176_4_eq f x) (Ok.ret ⟨?_, Reads.refl s⟩)
    have : bl x = [] := List.length_eq_zero_iff.1 hm
    rw [this]
    exact congrArg Value.string ((mk_bl x).symm.trans (by rw [this]; rfl))
  | succ m IH =>
    intro x s hm hr
    have hx : bl x = (bl x).getD 0 0 :: (bl x).drop 1 := drop_cons (bl x) 0 (by omega)
    simp only [bl] at hm
    refine Ok.step (fun f => p176_1_eq f x b) ?_
    refine Ok.t (decide_eq_true (by simp only [Int.ofNat_eq_natCast]; omega)) ?_
    refine Ok.t (Nat.ble_eq_true_of_le (by omega)) ?_
    refine Ok.call (contains_ok s b P _ hr (byteAt_lt _ _)) ?_
    rintro v s1 ⟨rfl, r1⟩
    refine Ok.t rfl ?_
    simp only [boolOf]
    have hr1 : Row s1.mem b (setL P) := by rw [r1.1]; exact hr
    have hby : byteAt x 0 = ((bl x).getD 0 0).toNat := rfl
    refine Ok.c (fun h => ?_) (fun h => ?_)
    · have h : P (byteAt x 0) = false := by simpa using h
      refine Ok.step (fun f => p176_4_eq f x) (Ok.ret ⟨?_, r1⟩)
      have : trimL P (bl x) = bl x := by
        unfold trimL
        rw [hx, List.dropWhile_cons]
        rw [hby] at h
        rw [h]
        simp
      rw [this]
      rfl
    · have h : P (byteAt x 0) = true := by simpa using h
      refine Ok.t (by simp only [Bool.and_eq_true]; exact ⟨Nat.ble_eq_true_of_le (by omega), Nat.ble_eq_true_of_le (by omega)⟩) ?_
      rw [List.take_of_length_le (by rw [List.length_drop]; omega)]
      refine Ok.mono (IH (mkStr (List.drop 1 x.data.toList)) s1 (by simp only [bl_mk, List.length_drop]; omega) hr1) ?_
      rintro v s' ⟨rfl, r2⟩
      refine ⟨?_, r1.trans r2⟩
      have : trimL P (bl x) = trimL P ((bl x).drop 1) := by
        unfold trimL
        conv => lhs; rw [hx, List.dropWhile_cons]
        rw [hby] at h
        rw [h]
        simp
      rw [this]
      rfl
end Go.Proofs.YtmjbmbmnnephjaaGreatDoor
/- The library's strings.Trim. -/
namespace Go.Proofs.YtmjbmbmnnephjaaGreatDoor
open Go Go.Ev Go.Proofs
theorem f118_eq' (f : Nat) (x0 : ByteArray) (x1 : ByteArray) : callF En (runP En (f + 1)) 118 [(Value.string x0), (Value.string x1)] =
  (cnd
    (Prog.ret (Value.string x0))
    (cnd
      (Prog.ret (Value.string x0))
      (cnd
        (cnd
          (cnd
            (cnd
              (Prog.seg (callF En (runP En f) 112 [(Value.string x0), (Value.int IntKind.u8 (Int.ofNat (byteAt x1 0)))]) fun v21 s22 _ =>
                (cnd
                  (cnd
                    (Prog.seg (callF En (runP En f) 175 [(Value.string (strOf v21)), (Value.int IntKind.u8 (Int.ofNat (byteAt x1 0)))]) fun v23 s24 _ =>
                      (gdL 63 (writesOf s24) s24 [⟨3, writesOf s22, s22⟩]
                        (cnd
                          (Prog.ret (Value.string (strOf v23)))
                          Prog.fail
                          (okK Kd.str v23))))
                    Prog.fail
                    (Nat.ble 1 (List.length (Array.toList (ByteArray.data x1)))))
                  Prog.fail
                  (okK Kd.str v21)))
              Prog.fail
              (Nat.ble 1 (List.length (Array.toList (ByteArray.data x1)))))
            (Prog.call (callF En (runP En f) 113 [(Value.string x1)]) fun v25 =>
              (cnd
                (callP (fun v27 =>
                  (cnd
                    (callP (fun v28 =>
                      (cnd
                        (Prog.call (callF En (runP En f) 114 [(Value.string x0), (Value.pointer (Option.some (Addr.mk (blkOf v27) (offOf v27) Option.none)))]) fun v29 =>
                          (cnd
                            (Prog.call (callF En (runP En f) 176 [(Value.string (strOf v29)), (Value.pointer (Option.some (Addr.mk (blkOf v27) (offOf v27) Option.none)))]) fun v30 =>
                              (cnd
                                (Prog.ret (Value.string (strOf v30)))
                                Prog.fail
                                (okK Kd.str v30)))
                            Prog.fail
                            (okK Kd.str v29)))
                        (Prog.call (callF En (runP En f) 115 [(Value.string x0), (Value.string x1)]) fun v31 =>
                          (cnd
                            (Prog.call (callF En (runP En f) 177 [(Value.string (strOf v31)), (Value.string x1)]) fun v32 =>
                              (cnd
                                (Prog.ret (Value.string (strOf v32)))
                                Prog.fail
                                (okK Kd.str v32)))
                            Prog.fail
                            (okK Kd.str v31)))
                        (boolOf (at_ (tupOf v25) 1))))
                      (storeT En 116 (blkOf v27) (offOf v27) (at_ (tupOf v25) 0)))
                    Prog.fail
                    (isPt v27)))
                  (Prog.newH (Hdr.mk 256 116 Bool.false Bool.true Bool.true 0 Bool.false Bool.false []) (setL fun _ => false) (fun z26 => (Prog.ret (itP z26)))))
                Prog.fail
                ((isTupV v25) && (okNs (Nm.raw :: ((Nm.one Kd.bool) :: [])) (tupOf v25)))))
            (decide ((Int.ofNat (byteAt x1 0)) < (128 : Int))))
          Prog.fail
          (Nat.ble 1 (List.length (Array.toList (ByteArray.data x1)))))
        (Prog.call (callF En (runP En f) 113 [(Value.string x1)]) fun v33 =>
          (cnd
            (callP (fun v35 =>
              (cnd
                (callP (fun v36 =>
                  (cnd
                    (Prog.call (callF En (runP En f) 114 [(Value.string x0), (Value.pointer (Option.some (Addr.mk (blkOf v35) (offOf v35) Option.none)))]) fun v37 =>
                      (cnd
                        (Prog.call (callF En (runP En f) 176 [(Value.string (strOf v37)), (Value.pointer (Option.some (Addr.mk (blkOf v35) (offOf v35) Option.none)))]) fun v38 =>
                          (cnd
                            (Prog.ret (Value.string (strOf v38)))
                            Prog.fail
                            (okK Kd.str v38)))
                        Prog.fail
                        (okK Kd.str v37)))
                    (Prog.call (callF En (runP En f) 115 [(Value.string x0), (Value.string x1)]) fun v39 =>
                      (cnd
                        (Prog.call (callF En (runP En f) 177 [(Value.string (strOf v39)), (Value.string x1)]) fun v40 =>
                          (cnd
                            (Prog.ret (Value.string (strOf v40)))
                            Prog.fail
                            (okK Kd.str v40)))
                        Prog.fail
                        (okK Kd.str v39)))
                    (boolOf (at_ (tupOf v33) 1))))
                  (storeT En 116 (blkOf v35) (offOf v35) (at_ (tupOf v33) 0)))
                Prog.fail
                (isPt v35)))
              (Prog.newH (Hdr.mk 256 116 Bool.false Bool.true Bool.true 0 Bool.false Bool.false []) (setL fun _ => false) (fun z34 => (Prog.ret (itP z34)))))
            Prog.fail
            ((isTupV v33) && (okNs (Nm.raw :: ((Nm.one Kd.bool) :: [])) (tupOf v33)))))
        (decide ((Int.ofNat (List.length (Array.toList (ByteArray.data x1)))) = (1 : Int))))
      (beqB (Array.toList (ByteArray.data x1)) []))
    (beqB (Array.toList (ByteArray.data x0)) [])) := by kernel_rfl
theorem trim_ok (s : St) (x y : ByteArray) (hx : (bl x).length ≤ 4611686018427387904) (hy : 2 ≤ (bl y).length) (hy2 : (bl y).length ≤ 100) (ha : ∀ i, byteAt y i < 128) :
    Ok (fun f => callF En (runP En f) 118 [.string x, .string y]) s (fun v s' => v = .string (mkStr (trimL (memB (bl y)) (trimR (memB (bl y)) (bl x)))) ∧ s.ctr ≤ s'.ctr ∧ ∀ k, k < s.ctr → s'.mem.get k = s.mem.get k) := by
  refine Ok.step (fun f => f118_eq' f x y) ?_
  refine Ok.c (fun h => ?_) (fun _ => ?_)
  · rw [beqB_eq] at h
    have h : bl x = [] := of_decide_eq_true h
    refine Ok.ret ⟨?_, Nat.le_refl _, fun _ _ => rfl⟩
    rw [h]
    exact congrArg Value.string ((mk_bl x).symm.trans (by rw [h]; rfl))
  refine Ok.f (by rw [beqB_eq]; exact decide_eq_false (fun h => by have h : bl y = [] := h; rw [h] at hy; simp at hy)) ?_
  refine Ok.f (decide_eq_false (by simp only [bl] at hy; simp only [Int.ofNat_eq_natCast]; omega)) ?_
  refine Ok.call (asciiSet_ok s y hy2 ha) ?_
  rintro v s1 ⟨rfl, e1, e2⟩
  refine Ok.t rfl ?_
  refine Ok.callP (Ok.new (setL_length _)) ?_
  rintro v s2 ⟨rfl, g1, g2, g3⟩
  refine Ok.t rfl ?_
  refine Ok.callP (Ok.storeRow (n := 256) (vs := setL fun _ => false) (ws := setL (memB (bl y))) (by kernel_rfl) g2 (setL_length _) (setL_length _) (setL_one _)) ?_
  rintro v s3 ⟨rfl, i1, i2, i3⟩
  refine Ok.t rfl ?_
  refine Ok.call (Q1 := fun v s' => v = .string (mkStr (trimR (memB (bl y)) (bl x))) ∧ Reads s3 s') (Ok.step (fun f => f114_eq f x s1.ctr) (trimR_ok s1.ctr _ _ x s3 rfl hx i2)) ?_
  rintro v s4 ⟨rfl, r4⟩
  refine Ok.t rfl ?_
  refine Ok.call (Q1 := fun v s' => v = .string (mkStr (trimL (memB (bl y)) (trimR (memB (bl y)) (bl x)))) ∧ Reads s4 s') (Ok.step (fun f => f176_eq f _ s1.ctr) (trimL_ok s1.ctr _ _ _ s4 rfl (by rw [r4.1]; exact i2))) ?_
  rintro v s5 ⟨rfl, r5⟩
  refine Ok.t rfl (Ok.ret ⟨rfl, ?_, fun k hk => ?_⟩)
  · rw [r5.2.1, r4.2.1]; omega
  · have i3 : ∀ k, k ≤ s1.ctr ∨ s1.ctr + 1 + 256 ≤ k → s3.mem.get k = s2.mem.get k := i3
    rw [r5.1, r4.1, i3 k (by omega), g3 k (by omega), e2 k hk]
theorem dropWhile_nil (p : UInt8 → Bool) : ∀ (l : List UInt8), l.dropWhile p = [] ↔ ∀ b ∈ l, p b = true
  | [] => by simp
  | b :: l => by
    rw [List.dropWhile_cons]
    cases h : p b with
    | true => simp [dropWhile_nil p l, h]
    | false => simp [h]
theorem dropWhile_head (p : UInt8 → Bool) : ∀ (l : List UInt8) (b : UInt8) (r : List UInt8), l.dropWhile p = b :: r → p b = false
  | [], _, _, h => by simp at h
  | c :: l, b, r, h => by
    rw [List.dropWhile_cons] at h
    cases hc : p c with
    | true => rw [hc] at h; exact dropWhile_head p l b r (by simpa using h)
    | false =>
      rw [hc] at h
      simp at h
      rw [← h.1]
      exact hc
theorem trim_nil (P : Nat → Bool) (l : List UInt8) : trimL P (trimR P l) = [] ↔ ∀ b ∈ l, P b.toNat = true := by
  constructor
  · intro h
    have h1 := (dropWhile_nil _ _).1 h
    have h3 : (l.reverse.dropWhile fun b => P b.toNat) = [] := by
      cases hr : (l.reverse.dropWhile fun b => P b.toNat) with
      | nil => rfl
      | cons b r =>
        have hb := dropWhile_head _ _ _ _ hr
        have := h1 b (by unfold trimR; rw [hr]; simp)
        rw [hb] at this
        cases this
    have := (dropWhile_nil _ _).1 h3
    intro b hb
    exact this b (by simpa using hb)
  · intro h
    have h3 : (l.reverse.dropWhile fun b => P b.toNat) = [] := (dropWhile_nil _ _).2 fun b hb => h b (by simpa using hb)
    unfold trimR
    rw [h3]
    rfl
theorem blk_itP (c : Nat) : blkOf (itP c) = c := rfl
theorem off_itP (c : Nat) : offOf (itP c) = 0 := rfl
end Go.Proofs.YtmjbmbmnnephjaaGreatDoor
/- The library's ParseUint: it answers with a number and an error, or none. -/
namespace Go.Proofs.YtmjbmbmnnephjaaGreatDoor
open Go Go.Ev Go.Proofs
theorem lower_ok (s : St) (x : Int) : Ok (fun f => callF En (runP En f) 227 [.int .u8 x]) s (fun v s' => (∃ y, v = .int .u8 y) ∧ s' = s) :=
  Ok.step (fun f => f227_eq f x) (Ok.ret ⟨⟨_, rfl⟩, rfl⟩)
def PU (v : Value) : Prop := ∃ n e, v = .tuple ⟨[.int .u64 n, e]⟩ ∧ (e = .nilIface ∨ e = .iface 190 (.int .i64 1) ∨ e = .iface 190 (.int .i64 2))
theorem PU.z (n : Int) : PU (.tuple ⟨[.int .u64 n, .nilIface]⟩) := ⟨n, _, rfl, .inl rfl⟩
theorem PU.r (n : Int) : PU (.tuple ⟨[.int .u64 n, .iface 190 (.int .i64 1)]⟩) := ⟨n, _, rfl, .inr (.inl rfl)⟩
theorem PU.s (n : Int) : PU (.tuple ⟨[.int .u64 n, .iface 190 (.int .i64 2)]⟩) := ⟨n, _, rfl, .inr (.inr rfl)⟩
theorem pu_loop (x1 x10 x11 : Int) (x9 : ByteArray) (c cap : Nat) (l : List UInt8) (hl : l.length ≤ 4611686018427387904) : ∀ (m i : Nat) (x13 : Int) (s : St), i + m = l.length → (∃ h, s.mem.get c = some (.hdr h)) → CellsAt s.mem c (c + 1) (u8s l) →
    Ok (fun f => p213_36 f x1 false x9 x10 x11 false x13 c 0 l.length cap (Int.ofNat l.length) (Int.ofNat i)) s (fun v s' => PU v ∧ Reads s s') := by
  intro m
  induction m with
  | zero =>
    intro i x13 s hm hh hc
    refine Ok.step (fun f => p213_36_eq f x1 false x9 x10 x11 false x13 c 0 l.length cap (Int.ofNat l.length) (Int.ofNat i)) ?_
    refine Ok.f (decide_eq_false (by simp only [Int.ofNat_eq_natCast]; omega)) ?_
    exact Ok.f rfl (Ok.ret ⟨PU.z _, Reads.refl s⟩)
  | succ m IH =>
    intro i x13 s hm hh hc
    refine Ok.step (fun f => p213_36_eq f x1 false x9 x10 x11 false x13 c 0 l.length cap (Int.ofNat l.length) (Int.ofNat i)) ?_
    refine Ok.t (decide_eq_true (by simp only [Int.ofNat_eq_natCast]; omega)) ?_
    refine Ok.t (decide_eq_true (by simp only [Int.ofNat_eq_natCast]; omega)) ?_
    refine Ok.t (by rw [Bool.and_true]; exact Nat.ble_eq_true_of_le (by simp only [Int.ofNat_eq_natCast, Int.toNat_natCast]; omega)) ?_
    simp only [Int.ofNat_eq_natCast, Int.toNat_natCast, Nat.zero_add, Nat.mul_one]
    have hcell : Cell s.mem c i (.int .u8 ((l.getD i 0).toNat : Int)) := by
      refine ⟨hh, CellsAt.get i _ hc ?_⟩
      simp only [u8s, List.getElem?_map]
      rw [List.getElem?_eq_getElem (by omega)]
      simp [List.getD, show i < l.length by omega]
    refine Ok.callP (Ok.load1 (by kernel_rfl) hcell) ?_
    rintro v s1 ⟨rfl, e1, e2, e3⟩
    have r1 : Reads s s1 := ⟨e1, e2, [⟨false, c + 1 + i, 1⟩, ⟨false, c, 1⟩], e3, rfl⟩
    have hw : IntKind.i64.wrap ((i : Int) + 1) = Int.ofNat (i + 1) := by rw [wrap_in _ (by omega) (by omega)]; rfl
    have h36 : ∀ y, Ok (fun f => p213_55 f x1 false x9 x10 x11 false y c 0 l.length cap (l.length : Int) (i : Int)) s1 (fun v s' => PU v ∧ Reads s s') := by
      intro y
      refine Ok.step (fun f => p213_55_eq f x1 false x9 x10 x11 false y c 0 l.length cap (l.length : Int) (i : Int)) ?_
      rw [hw]
      refine Ok.mono (IH (i + 1) y s1 (by omega) (by rw [e1]; exact hh) (by rw [e1]; exact hc)) ?_
      rintro v s' ⟨h1, h2⟩
      exact ⟨h1, r1.trans h2⟩
    have h46 : ∀ d, Ok (fun f => p213_46 f x1 false x9 x10 x11 false x13 d c 0 l.length cap (l.length : Int) (i : Int)) s1 (fun v s' => PU v ∧ Reads s s') := by
      intro d
      refine Ok.step (fun f => p213_46_eq f x1 false x9 x10 x11 false x13 d c 0 l.length cap (l.length : Int) (i : Int)) ?_
      refine Ok.c (fun _ => Ok.ret ⟨PU.s _, r1⟩) (fun _ => ?_)
      refine Ok.c (fun _ => Ok.ret ⟨PU.r _, r1⟩) (fun _ => ?_)
      refine Ok.c (fun _ => Ok.ret ⟨PU.r _, r1⟩) (fun _ => ?_)
      exact Ok.c (fun _ => Ok.ret ⟨PU.r _, r1⟩) (fun _ => h36 _)
    refine Ok.t rfl ?_
    simp only [intOf]
    have low : ∀ b : Int, Ok (fun f => Prog.call (callF En (runP En f) 227 [(Value.int IntKind.u8 b)]) fun v24 =>
                      (cnd
                        (cnd
                          (Prog.call (callF En (runP En f) 227 [(Value.int IntKind.u8 b)]) fun v25 =>
                            (cnd
                              (cnd
                                (Prog.call (callF En (runP En f) 227 [(Value.int IntKind.u8 b)]) fun v26 =>
                                  (cnd
                                    (p213_46 f x1 false x9 x10 x11 false x13 (IntKind.wrap IntKind.u8 ((IntKind.wrap IntKind.u8 ((intOf v26) + (-97 : Int))) + (10 : Int))) c 0 l.length cap (l.length : Int) (i : Int))
                                    Prog.fail
                                    (okK (Kd.int IntKind.u8) v26)))
                                (Prog.ret (Value.tuple ⟨((Value.int IntKind.u64 (0 : Int)) :: ((Value.iface 190 (Value.int IntKind.i64 (2 : Int))) :: []))⟩))
                                (decide ((intOf v25) ≤ (122 : Int))))
                              Prog.fail
                              (okK (Kd.int IntKind.u8) v25)))
                          (Prog.ret (Value.tuple ⟨((Value.int IntKind.u64 (0 : Int)) :: ((Value.iface 190 (Value.int IntKind.i64 (2 : Int))) :: []))⟩))
                          (decide ((97 : Int) ≤ (intOf v24))))
                        Prog.fail
                        (okK (Kd.int IntKind.u8) v24))) s1 (fun v s' => PU v ∧ Reads s s') := by
      intro b
      refine Ok.call (lower_ok s1 _) ?_
      rintro v s2 ⟨⟨y, rfl⟩, rfl⟩
      refine Ok.t rfl ?_
      refine Ok.c (fun _ => ?_) (fun _ => Ok.ret ⟨PU.s _, r1⟩)
      refine Ok.call (lower_ok s2 _) ?_
      rintro v s2 ⟨⟨y, rfl⟩, rfl⟩
      refine Ok.t rfl ?_
      refine Ok.c (fun _ => ?_) (fun _ => Ok.ret ⟨PU.s _, r1⟩)
      refine Ok.call (lower_ok s2 _) ?_
      rintro v s2 ⟨⟨y, rfl⟩, rfl⟩
      exact Ok.t rfl (h46 _)
    refine Ok.c (fun _ => ?_) (fun _ => ?_)
    · refine Ok.f rfl ?_
      exact Ok.c (fun _ => Ok.c (fun _ => h46 _) (fun _ => low _)) (fun _ => low _)
    · exact Ok.c (fun _ => Ok.c (fun _ => h46 _) (fun _ => low _)) (fun _ => low _)
theorem pu_32 (x1 x2 x10 : Int) (x9 x : ByteArray) (s : St) (hx : (bl x).length ≤ 1000000) (h2 : 0 ≤ IntKind.wrap IntKind.u64 x2) : Ok (fun f => p213_32 f x x1 x2 false x9 x10) s (fun v s' => PU v ∧ Fresh s s') := by
  refine Ok.step (fun f => p213_32_eq f x x1 x2 false x9 x10) ?_
  refine Ok.t (decide_eq_true h2) ?_
  refine Ok.callP (Ok.newF rfl) ?_
  rintro v s1 ⟨rfl, e1, e2, e3, e4, e5⟩
  refine Ok.t rfl ?_
  have e3 : CellsAt s1.mem s.ctr (s.ctr + 1) (u8s (bl x)) := e3
  refine Ok.mono (pu_loop x1 _ _ x9 s.ctr _ (bl x) (by omega) (bl x).length 0 0 s1 (by omega) ⟨_, e2⟩ e3) ?_
  rintro v s' ⟨h, r⟩
  refine ⟨h, Fresh.trans ⟨by omega, e4⟩ r.fresh⟩
theorem pu_ok (x : ByteArray) (s : St) (x1 x2 : Int) (hb : x1 = 10 ∧ x2 = 64 ∨ x1 = 16 ∧ x2 = 8) (hx : (bl x).length ≤ 1000000) : Ok (fun f => callF En (runP En f) 213 [.string x, .int .i64 x1, .int .i64 x2]) s (fun v s' => PU v ∧ Fresh s s') := by
  rcases hb with ⟨rfl, rfl⟩ | ⟨rfl, rfl⟩
  · refine Ok.step (fun f => f213a_eq f x) ?_
    refine Ok.c (fun _ => Ok.ret ⟨PU.s _, Fresh.refl s⟩) (fun _ => ?_)
    refine Ok.step (fun f => p213_21_eq f x 10 64 false x) ?_
    refine Ok.f rfl (Ok.f rfl (Ok.f rfl ?_))
    refine Ok.step (fun f => p213_25_eq f x 10 64 false x) ?_
    exact Ok.t rfl (pu_32 _ _ _ x x s hx (by decide))
  · refine Ok.step (fun f => f213b_eq f x) ?_
    refine Ok.c (fun _ => Ok.ret ⟨PU.s _, Fresh.refl s⟩) (fun _ => ?_)
    refine Ok.step (fun f => p213_21_eq f x 16 8 false x) ?_
    refine Ok.f rfl (Ok.f rfl (Ok.f rfl ?_))
    refine Ok.step (fun f => p213_25_eq f x 16 8 false x) ?_
    exact Ok.f rfl (Ok.t rfl (pu_32 _ _ _ x x s hx (by decide)))
theorem neq_nil (a b : Operand) (hb : isConstO b = true) (k : Value → Prog) : binK En BinOp.neq 103 a b Value.nilIface Value.nilIface k = k (.bool false) := by
  cases b with
  | const w => cases a <;> kernel_rfl
  | _ => cases hb
theorem neq_ifc (a b : Operand) (t : Nat) (ht : Nat.blt t LF = true) (x : Value) (k : Value → Prog) : binK En BinOp.neq 103 a b (Value.iface t x) Value.nilIface k = k (.bool true) := by
  have hi : (match En.und 103 with | some (.interface _) => true | _ => false) = true := by kernel_rfl
  obtain ⟨ms, hu⟩ : ∃ ms, En.und 103 = some (.interface ms) := by
    cases h : En.und 103 with
    | none => rw [h] at hi; cases hi
    | some d =>
      rw [h] at hi
      cases d with
      | interface ms => exact ⟨ms, rfl⟩
      | _ => cases hi
  have he : eqV En 50 103 (.iface t x) .nilIface = some false := by
    show eqV En (49 + 1) 103 (.iface t x) .nilIface = some false
    unfold eqV
    rw [hu]
    simp only [ht]
  have hb : binA En BinOp.neq 103 a b (Value.iface t x) Value.nilIface = some (.bool true) := by
    unfold binA
    simp only [guardOk, he, Bool.not_false]
  unfold binK
  simp only [hb, Ev.opt]
def PE (v : Value) : Prop := ∃ n e, v = .tuple ⟨[.int .u64 n, e]⟩ ∧ (e = .nilIface ∨ ∃ p, e = .iface 192 (.pointer (some p)))
theorem parseUint_ok (x : ByteArray) (s : St) (x1 x2 : Int) (hb : x1 = 10 ∧ x2 = 64 ∨ x1 = 16 ∧ x2 = 8) (hx : (bl x).length ≤ 1000000) (hl : Lib s.mem s.ctr) : Ok (fun f => callF En (runP En f) 179 [.string x, .int .i64 x1, .int .i64 x2]) s (fun v s' => PE v ∧ Fresh s s') := by
  refine Ok.step (fun f => f179_eq f x x1 x2) ?_
  refine Ok.call (pu_ok x s x1 x2 hb hx) ?_
  rintro v s1 ⟨⟨n, e, rfl, he⟩, f1⟩
  refine Ok.t rfl ?_
  have hl1 := hl.fresh f1
  simp only [show at_ (tupOf (Value.tuple ⟨[.int .u64 n, e]⟩)) 1 = e from rfl]
  have ek1 : ∀ (k : Value → Prog), binK En BinOp.eql 103 (Operand.tmp 11) (Operand.tmp 13) (Value.iface 190 (Value.int IntKind.i64 (1 : Int))) (Value.iface 190 (Value.int IntKind.i64 (2 : Int))) k = k (.bool false) := fun _ => by kernel_rfl
  have ek2 : ∀ (k : Value → Prog), binK En BinOp.eql 103 (Operand.tmp 11) (Operand.tmp 20) (Value.iface 190 (Value.int IntKind.i64 (1 : Int))) (Value.iface 190 (Value.int IntKind.i64 (1 : Int))) k = k (.bool true) := fun _ => by kernel_rfl
  have ek3 : ∀ (k : Value → Prog), binK En BinOp.eql 103 (Operand.tmp 11) (Operand.tmp 13) (Value.iface 190 (Value.int IntKind.i64 (2 : Int))) (Value.iface 190 (Value.int IntKind.i64 (2 : Int))) k = k (.bool true) := fun _ => by kernel_rfl
  rcases he with rfl | rfl | rfl
  · simp only [neq_nil _ (Operand.const Value.nilIface) rfl]
    refine Ok.t rfl (Ok.f rfl (Ok.ret ⟨⟨_, _, rfl, .inl rfl⟩, f1⟩))
  · simp only [neq_ifc _ _ _ (show Nat.blt 190 LF = true from rfl)]
    refine Ok.t rfl (Ok.t rfl ?_)
    refine Ok.call (Q1 := fun v s' => (∃ p, v = .iface 192 (.pointer (some p))) ∧ Fresh s1 s') ?_ ?_
    · refine Ok.step (fun f => f214_eq f _ x x1 x2 _) ?_
      simp only [ek1]
      refine Ok.t rfl (Ok.f rfl ?_)
      simp only [ek2]
      refine Ok.t rfl (Ok.t rfl ?_)
      refine Ok.call (rngErr_ok s1 _ x hx hl1) ?_
      rintro v s2 ⟨⟨p, rfl⟩, f2⟩
      exact Ok.ret ⟨⟨p, rfl⟩, f2⟩
    · rintro v s2 ⟨⟨p, rfl⟩, f2⟩
      exact Ok.ret ⟨⟨_, _, rfl, .inr ⟨p, rfl⟩⟩, f1.trans f2⟩
  · simp only [neq_ifc _ _ _ (show Nat.blt 190 LF = true from rfl)]
    refine Ok.t rfl (Ok.t rfl ?_)
    refine Ok.call (Q1 := fun v s' => (∃ p, v = .iface 192 (.pointer (some p))) ∧ Fresh s1 s') ?_ ?_
    · refine Ok.step (fun f => f214_eq f _ x x1 x2 _) ?_
      simp only [ek3]
      refine Ok.t rfl (Ok.t rfl ?_)
      refine Ok.call (synErr_ok s1 _ x hx hl1) ?_
      rintro v s2 ⟨⟨p, rfl⟩, f2⟩
      exact Ok.ret ⟨⟨p, rfl⟩, f2⟩
    · rintro v s2 ⟨⟨p, rfl⟩, f2⟩
      exact Ok.ret ⟨⟨_, _, rfl, .inr ⟨p, rfl⟩⟩, f1.trans f2⟩
end Go.Proofs.YtmjbmbmnnephjaaGreatDoor
/- The lexer's 'worth': a number's type and worth, or none. -/
namespace Go.Proofs.YtmjbmbmnnephjaaGreatDoor
open Go Go.Ev Go.Proofs
theorem asc (l : List UInt8) (h : (l.all fun b => decide (b.toNat < 128)) = true) (i : Nat) : byteAt (mkStr l) i < 128 := by
  unfold byteAt
  show (l.getD i 0).toNat < 128
  by_cases hi : i < l.length
  · have : l.getD i 0 = l[i] := by simp [List.getD, hi]
    rw [this]
    have := List.all_eq_true.1 h l[i] (List.getElem_mem hi)
    exact of_decide_eq_true this
  · have : l.getD i 0 = 0 := by simp [List.getD, show l.length ≤ i by omega]
    rw [this]
    decide
theorem index_ok (s : St) (x : ByteArray) (hx : (bl x).length ≤ 1000000) : Ok (fun f => callF En (runP En f) 226 [.string x, .string (mkStr [46])]) s
    (fun v s' => (∃ n : Int, v = .int .i64 n ∧ (n = -1 ∨ ∃ j : Nat, n = j ∧ j < (bl x).length)) ∧ s' = s) := by
  refine Ok.step (fun f => f226a_eq f x) ?_
  refine Ok.c (fun h => ?_) (fun _ => ?_)
  · rw [beqB_eq] at h
    have h : [UInt8.ofNat 46] = bl x := of_decide_eq_true h
    exact Ok.ret ⟨⟨0, rfl, .inr ⟨0, rfl, by rw [← h]; decide⟩⟩, rfl⟩
  · refine Ok.call (Q1 := fun v s' => v = .int .i64 (findByte (46 : Int).toNat (bl x) 0) ∧ s' = s) ?_ ?_
    · refine Ok.step (fun f => f124_eq f x 46) ?_
      refine Ok.call (Q1 := fun v s' => v = .int .i64 (findByte (46 : Int).toNat (bl x) 0) ∧ s' = s) ?_ ?_
      · simp only [f180_eq]
        exact Ok.g (by decide) (Ok.ret ⟨rfl, rfl⟩)
      · rintro v s1 ⟨rfl, rfl⟩
        exact Ok.t rfl (Ok.ret ⟨rfl, rfl⟩)
    · rintro v s1 ⟨rfl, rfl⟩
      refine Ok.t rfl (Ok.ret ⟨⟨_, rfl, ?_⟩, rfl⟩)
      rcases findByte_spec (46 : Int).toNat (bl x) 0 with ⟨h, _⟩ | ⟨j, h1, h2, _⟩
      · exact .inl h
      · exact .inr ⟨j, by simp only [intOf]; rw [h2]; simp, h1⟩
/-- What Cut answers: two texts no longer than the one. -/
def CutV (n : Nat) (v : Value) : Prop := ∃ a b c, v = .tuple ⟨[.string a, .string b, .bool c]⟩ ∧ (bl a).length ≤ n ∧ (bl b).length ≤ n
theorem cut_ok (s : St) (x : ByteArray) (hx : (bl x).length ≤ 1000000) : Ok (fun f => callF En (runP En f) 178 [.string x, .string (mkStr [46])]) s (fun v s' => CutV (bl x).length v ∧ s' = s) := by
  refine Ok.step (fun f => f178_eq f x _) ?_
  refine Ok.call (Q1 := fun v s' => CutV (bl x).length v ∧ s' = s) ?_ ?_
  · refine Ok.step (fun f => f212_eq f x _) ?_
    refine Ok.call (index_ok s x hx) ?_
    rintro v s1 ⟨⟨n, rfl, hn⟩, rfl⟩
    refine Ok.t rfl ?_
    simp only [intOf]
    refine Ok.c (fun h => ?_) (fun _ => Ok.ret ⟨⟨_, _, _, rfl, Nat.le_refl _, Nat.zero_le _⟩, rfl⟩)
    have h := of_decide_eq_true h
    obtain ⟨j, rfl, hj⟩ : ∃ j : Nat, n = j ∧ j < (bl x).length := by
      rcases hn with rfl | hn
      · omega
      · exact hn
    have hw : IntKind.i64.wrap ((j : Int) + Int.ofNat (mkStr [46]).data.toList.length) = ((j + 1 : Nat) : Int) := by
      rw [show (Int.ofNat (mkStr [46]).data.toList.length) = 1 from rfl, wrap_in _ (by omega) (by omega)]; omega
    simp only [hw]
    simp only [bl] at hj hx
    refine Ok.t (decide_eq_true (by omega)) ?_
    refine Ok.t (by simp only [Bool.and_eq_true, Int.toNat_natCast]; exact ⟨Nat.ble_eq_true_of_le (by omega), Nat.ble_eq_true_of_le (by omega)⟩) ?_
    refine Ok.t (decide_eq_true (by omega)) ?_
    refine Ok.t (by simp only [Bool.and_eq_true, Int.toNat_natCast]; exact ⟨Nat.ble_eq_true_of_le (by omega), Nat.ble_eq_true_of_le (by omega)⟩) ?_
    refine Ok.ret ⟨⟨_, _, _, rfl, ?_, ?_⟩, rfl⟩
    · simp only [bl_mk, List.length_take, bl]; omega
    · simp only [bl_mk, List.length_take, List.length_drop, bl]; omega
  · rintro v s1 ⟨⟨a, b, c, rfl, h1, h2⟩, rfl⟩
    exact Ok.t rfl (Ok.ret ⟨⟨_, _, _, rfl, h1, h2⟩, rfl⟩)
def WV (v : Value) : Prop := ∃ t n ok, v = .tuple ⟨[.int .i64 t, .int .i64 n, .bool ok]⟩ ∧ (ok = true → t = 2 ∨ t = 4 ∨ t = 5)
theorem WV.no : WV (.tuple ⟨[.int .i64 0, .int .i64 0, .bool false]⟩) := ⟨_, _, _, rfl, fun h => by cases h⟩
theorem digs_ok (s : St) (x : ByteArray) (hx : (bl x).length ≤ 1000000) : Ok (fun f => callF En (runP En f) 118 [(Value.string x), (Value.string (mkStr [48, 49, 50, 51, 52, 53, 54, 55, 56, 57]))]) s (fun v s' => (∃ y, v = .string y) ∧ Fresh s s') := by
  refine Ok.mono (trim_ok s x _ (by omega) (by decide) (by decide) (asc _ (by decide))) ?_
  rintro v s' ⟨rfl, h⟩
  exact ⟨⟨_, rfl⟩, h⟩
theorem worth_19 (s : St) (t : Int) (ht : t = 2 ∨ t = 4 ∨ t = 5) (x8 x11 : Bool) (x9 x10 : ByteArray) (h9 : (bl x9).length ≤ 1000000) (h10 : (bl x10).length ≤ 1000000) (hl : Lib s.mem s.ctr) :
    Ok (fun f => p121_19 f t x8 x9 x10 x11) s (fun v s' => WV v ∧ Fresh s s') := by
  refine Ok.step (fun f => p121_19_eq f t x8 x9 x10 x11) ?_
  refine Ok.c (fun _ => Ok.ret ⟨WV.no, Fresh.refl s⟩) (fun _ => ?_)
  refine Ok.call (digs_ok s x9 h9) ?_
  rintro v s1 ⟨⟨y, rfl⟩, f1⟩
  refine Ok.t rfl ?_
  refine Ok.c (fun _ => Ok.ret ⟨WV.no, f1⟩) (fun _ => ?_)
  refine Ok.call (digs_ok s1 x10 h10) ?_
  rintro v s2 ⟨⟨y, rfl⟩, f2⟩
  have f2 := f1.trans f2
  refine Ok.t rfl ?_
  refine Ok.c (fun _ => Ok.ret ⟨WV.no, f2⟩) (fun _ => ?_)
  refine Ok.c (fun _ => Ok.c (fun _ => Ok.ret ⟨WV.no, f2⟩) (fun _ => ?_)) (fun _ => ?_)
  all_goals
    refine Ok.call (parseUint_ok x9 s2 10 64 (.inl ⟨rfl, rfl⟩) h9 (hl.fresh f2)) ?_
    rintro v s3 ⟨⟨n, e, rfl, he⟩, f3⟩
    have f3 := f2.trans f3
    refine Ok.t rfl ?_
    simp only [show at_ (tupOf (Value.tuple ⟨[.int .u64 n, e]⟩)) 1 = e from rfl]
    rcases he with rfl | ⟨p, rfl⟩
    · simp only [neq_nil _ (Operand.const Value.nilIface) rfl]
      refine Ok.t rfl (Ok.f rfl ?_)
      refine Ok.c (fun _ => Ok.ret ⟨WV.no, f3⟩) (fun _ => ?_)
      exact Ok.c (fun _ => Ok.ret ⟨⟨_, _, _, rfl, fun _ => ht⟩, f3⟩) (fun _ => Ok.ret ⟨⟨_, _, _, rfl, fun _ => ht⟩, f3⟩)
    · simp only [neq_ifc _ _ _ (show Nat.blt 192 LF = true from rfl)]
      exact Ok.t rfl (Ok.t rfl (Ok.ret ⟨WV.no, f3⟩))
theorem cutPre_le (a b : List UInt8) : (cutPre a b).length ≤ a.length := by
  unfold cutPre; split <;> simp
theorem cutSuf_le (a b : List UInt8) : (cutSuf a b).length ≤ a.length := by
  unfold cutSuf; split <;> simp
theorem worth_12 (s : St) (t : Int) (ht : t = 2 ∨ t = 4) (x : ByteArray) (hx : (bl x).length ≤ 100000) (hl : Lib s.mem s.ctr) : Ok (fun f => p121_12 f x t) s (fun v s' => WV v ∧ Fresh s s') := by
  refine Ok.step (fun f => p121_12_eq f x t) ?_
  refine Ok.call (cutPrefix_ok s x _) ?_
  rintro v s1 ⟨rfl, rfl⟩
  refine Ok.t rfl ?_
  have hle : (bl (strOf (at_ (tupOf (.tuple ⟨[.string (mkStr (cutPre (bl x) (bl (mkStr [45])))), .bool (preB (bl x) (bl (mkStr [45])))]⟩)) 0))).length ≤ 100000 := Nat.le_trans (cutPre_le (bl x) (bl (mkStr [45]))) hx
  refine Ok.call (cut_ok s1 _ (by omega)) ?_
  rintro v s2 ⟨⟨a, b, c, rfl, h1, h2⟩, rfl⟩
  refine Ok.t rfl ?_
  simp only [show ∀ a b c, at_ (tupOf (Value.tuple ⟨[.string a, .string b, .bool c]⟩)) 0 = .string a from fun _ _ _ => rfl, show ∀ a b c, at_ (tupOf (Value.tuple ⟨[.string a, .string b, .bool c]⟩)) 1 = .string b from fun _ _ _ => rfl, show ∀ a b c, at_ (tupOf (Value.tuple ⟨[.string a, .string b, .bool c]⟩)) 2 = .bool c from fun _ _ _ => rfl, strOf, boolOf]
  have h1 : (bl a).length ≤ 100000 := by omega
  have h2 : (bl b).length ≤ 100000 := by omega
  refine Ok.c (fun _ => ?_) (fun _ => worth_19 s2 t (by omega) _ _ _ _ (by omega) (by omega) hl)
  refine Ok.c (fun _ => Ok.ret ⟨WV.no, Fresh.refl _⟩) (fun _ => ?_)
  refine Ok.c (fun _ => Ok.ret ⟨WV.no, Fresh.refl _⟩) (fun _ => ?_)
  refine Ok.c (fun _ => Ok.ret ⟨WV.no, Fresh.refl _⟩) (fun h => ?_)
  have h := of_decide_eq_false h
  simp only [bl] at h1 h2
  simp only [Int.ofNat_eq_natCast] at h
  refine Ok.t (by rw [Bool.and_true]; exact Nat.ble_eq_true_of_le (by omega)) ?_
  refine Ok.t (Nat.ble_eq_true_of_le (by simp only [List.length_take, List.length_drop]; omega)) ?_
  refine Ok.t (Nat.ble_eq_true_of_le (by simp only [List.length_append, List.length_take, List.length_drop]; omega)) ?_
  refine worth_19 s2 5 (by omega) _ _ _ _ ?_ (by simp only [bl]; omega) hl
  simp only [bl_mk, List.length_append, List.length_take, List.length_drop]; omega
theorem worth_ok (s : St) (x : ByteArray) (hx : (bl x).length ≤ 100000) (hl : Lib s.mem s.ctr) : Ok (fun f => callF En (runP En f) 121 [.string x]) s (fun v s' => WV v ∧ Fresh s s') := by
  refine Ok.step (fun f => f121_eq f x) ?_
  refine Ok.c (fun _ => Ok.ret ⟨⟨_, _, _, rfl, fun _ => .inl rfl⟩, Fresh.refl s⟩) (fun _ => ?_)
  refine Ok.c (fun _ => Ok.ret ⟨⟨_, _, _, rfl, fun _ => .inr (.inl rfl)⟩, Fresh.refl s⟩) (fun _ => ?_)
  refine Ok.c (fun _ => Ok.ret ⟨⟨_, _, _, rfl, fun _ => .inr (.inr rfl)⟩, Fresh.refl s⟩) (fun _ => ?_)
  refine Ok.call (cutSuffix_ok s x _ (by omega)) ?_
  rintro v s1 ⟨rfl, rfl⟩
  refine Ok.t rfl ?_
  refine Ok.c (fun _ => worth_12 _ 4 (.inr rfl) _ (Nat.le_trans (cutSuf_le (bl x) _) hx) hl) (fun _ => worth_12 _ 2 (.inl rfl) _ hx hl)
end Go.Proofs.YtmjbmbmnnephjaaGreatDoor
