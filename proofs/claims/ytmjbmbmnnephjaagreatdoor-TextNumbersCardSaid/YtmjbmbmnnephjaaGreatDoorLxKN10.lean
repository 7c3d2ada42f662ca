/- strings.Builder, as strings.Join uses it. -/
import Derived.Test.YtmjbmbmnnephjaaGreatDoorLxKN9
import Derived.Test.YtmjbmbmnnephjaaGreatDoorLxKN8
import Derived.Test.YtmjbmbmnnephjaaGreatDoorLxKN6
import Derived.Test.YtmjbmbmnnephjaaGreatDoorLxKN4
import Derived.Test.YtmjbmbmnnephjaaGreatDoorLxKN5
namespace Go.Ev
open Go
theorem Ok.hdr {s : St} {Q : Value → St → Prop} {b : Nat} {h : Hdr} {k : Nat → Hdr → Prog} (hh : s.mem.get b = some (.hdr h)) (hk : ∀ s1, Reads s s1 → Ok (fun f => k f h) s1 Q) : Ok (fun f => Prog.hd b (k f)) s Q := by
  obtain ⟨m, c, l⟩ := s
  simp only at hh
  obtain ⟨v, s', h1, f0, h2⟩ := hk ⟨m, c, ⟨false, b, 1⟩ :: l⟩ ⟨rfl, rfl, [⟨false, b, 1⟩], rfl, rfl⟩
  refine ⟨v, s', h1, f0, fun f hf => ?_⟩
  simp only [Prog.run, St.hd, hh]
  exact h2 f hf
/-- A string is appended in place. -/
theorem Ok.appIn {E : Env} {t el by_ r cap : Nat} {x : ByteArray} {done : List UInt8} {s : St} (ht : AppT E t el 1 by_) (h9 : E.und 9 = some .string)
    (hh : s.mem.get r = some (.hdr ⟨cap, el, false, false, true, 0, false, false, []⟩)) (hc : CellsAt s.mem r (r + 1) (u8s done)) (hl : done.length + x.data.toList.length ≤ cap) (hcap : cap * (by_ + 1) ≤ 1099511627776) :
    Ok (fun _ => builtinA E Builtin.append (t :: (9 :: [])) (Value.slice (some ⟨r, 0, none⟩) done.length (capOf cap false) :: (Value.string x :: []))) s
      (fun v s' => v = Value.slice (some ⟨r, 0, none⟩) (done ++ x.data.toList).length (capOf cap false) ∧ s'.ctr = s.ctr ∧ s'.mem.get r = s.mem.get r ∧ CellsAt s'.mem r (r + 1) (u8s (done ++ x.data.toList)) ∧ ∀ k, (k ≤ r ∨ r + 1 + cap ≤ k) → s'.mem.get k = s.mem.get k) := by
  obtain ⟨m, c, l⟩ := s
  simp only at hh hc
  obtain ⟨hu, hs, hb, hz, hz0⟩ := ht
  obtain ⟨zv, hz⟩ := Option.isSome_iff_exists.1 hz
  have hel : elemOfSlice E t = some el := by unfold elemOfSlice; rw [hu]
  have hd : decide ((done.length + x.data.toList.length) * (by_ + 1) ≤ 1099511627776) = true := decide_eq_true (Nat.le_trans (Nat.mul_le_mul_right _ hl) hcap)
  have hcl : capLo (capOf cap false) = cap := by show (2 * cap + 0) / 2 = cap; omega
  have hble : Nat.ble (done.length + x.data.toList.length) cap = true := Nat.ble_eq_true_of_le hl
  have hf1 : ∀ n k, firstA 1 n (.string x) k = gd (Nat.beq 1 1) (k ((x.data.toList.take n).map (fun b : UInt8 => Value.int .u8 (b.toNat : Int)))) := fun _ _ => rfl
  have htk : x.data.toList.take x.data.toList.length = x.data.toList := List.take_length
  have hus : ∀ l : List UInt8, l.map (fun b : UInt8 => Value.int .u8 (b.toNat : Int)) = u8s l := fun _ => rfl
  have hua : u8s (done ++ x.data.toList) = u8s done ++ u8s x.data.toList := by simp [u8s]
  by_cases h0 : x.data.toList.length = 0
  · have hx : x.data.toList = [] := List.length_eq_zero_iff.1 h0
    refine ⟨_, ⟨m, c, l⟩, ⟨rfl, rfl, rfl, by rw [hx, List.append_nil]; exact hc, fun _ _ => rfl⟩, 0, fun _ _ => ?_⟩
    simp only [builtinA, appendA, appendB, hel, h9, hs, hb, Ev.opt, isIntD, appN, lenA, hz, gd, hcl, appC, hf1, Nat.beq_refl, Prog.run, hx, List.append_nil]
    simp only [hx, List.length_nil, Nat.add_zero] at hd hble
    simp only [List.length_nil, Nat.add_zero, hd, hble, Prog.run]
  · obtain ⟨n, hn⟩ : ∃ n, x.data.toList.length = n + 1 := ⟨x.data.toList.length - 1, by omega⟩
    have hon : (u8s x.data.toList).all oneC = true := u8s_one _
    have hbl : Nat.ble (done.length + (u8s x.data.toList).length) cap = true := by rw [u8s_length]; exact hble
    have h00 : Nat.ble 0 (done.length) = true := Nat.ble_eq_true_of_le (Nat.zero_le _)
    refine ⟨_, ⟨layCells r (u8s x.data.toList) (r + 1 + done.length) m, c, ⟨true, r + 1 + done.length, (u8s x.data.toList).length⟩ :: ⟨false, r, 1⟩ :: l⟩, ⟨rfl, rfl, ?_, ?_, fun k hk => ?_⟩, 0, fun _ _ => ?_⟩
    · simp only
      rw [lay_below _ _ _ _ _ (by omega)]
    · rw [hua]
      refine CellsAt.append (hc.congr fun j _ h2 => ?_) ?_
      · rw [lay_below _ _ _ _ _ (by rw [u8s_length] at h2; omega)]
      · rw [u8s_length done]
        exact CellsAt.lay _ _ _
    · simp only
      rw [lay_below _ _ _ _ _ (by rw [u8s_length]; omega)]
    · rw [hn] at hd hble htk
      rw [List.length_append, hn]
      simp only [builtinA, appendA, appendB, hel, h9, hs, hb, Ev.opt, isIntD, appN, lenA, hz, gd, hn, hd, hcl, hble, appC, hf1, htk, hus, Nat.beq_refl, Prog.run, St.wr, hh, Bool.false_or, hon, hbl, h00, Bool.not_true, Nat.zero_add, Nat.mul_one, Nat.add_eq]
end Go.Ev
namespace Go.Proofs.YtmjbmbmnnephjaaGreatDoor
open Go Go.Ev Go.Proofs
theorem eq_nil : binA En BinOp.eql 82 (Operand.tmp 5) (Operand.const (Value.pointer Option.none)) (.pointer none) (.pointer none) = some (.bool true) := by kernel_rfl
theorem eq_ptr (b : Nat) : binA En BinOp.eql 82 (Operand.tmp 5) (Operand.const (Value.pointer Option.none)) (.pointer (some ⟨b, 0, none⟩)) (.pointer none) = some (.bool false) := by kernel_rfl
theorem ne_self0 (b : Nat) : binA En BinOp.neq 82 (Operand.tmp 17) (Operand.tmp 18) (.pointer (some ⟨b, 0, none⟩)) (.pointer (some ⟨b, 0, none⟩)) =
    (match (match (Nat.beq b b && Nat.beq 0 0) with | true => some true | false => none) with | some b => some (.bool (!b)) | none => none) := by kernel_rfl
theorem ne_self (b : Nat) : binA En BinOp.neq 82 (Operand.tmp 17) (Operand.tmp 18) (.pointer (some ⟨b, 0, none⟩)) (.pointer (some ⟨b, 0, none⟩)) = some (.bool false) := by
  rw [ne_self0, Nat.beq_refl]; rfl
theorem binKp (op : BinOp) (t : Nat) (xo yo : Operand) (a b : Option Addr) (k : Value → Prog) : binK En op t xo yo (.pointer a) (.pointer b) k = Ev.opt (binA En op t xo yo (.pointer a) (.pointer b)) k := by
  cases op <;> rfl
theorem f182 (ih : Rec) (v : Value) : callF En ih 182 [v] = .ret v := by kernel_rfl
theorem f183 (ih : Rec) (n : Nat) : callF En ih 183 [.int .i64 (.ofNat n)] = Ev.gd (Nat.ble n 1048576 && isOne En 5) (.newH ⟨n, 5, false, false, true, 0, false, false, []⟩ [] fun k => .ret (.slice (some ⟨k, 0, none⟩) n (capOf n false))) := by kernel_rfl
def bhd : Hdr := ⟨2, 84, false, true, true, 0, false, false, []⟩
/-- A builder's row. -/
def BRow (m : Tr Slot) (b : Nat) (p v : Value) : Prop := m.get b = some (.hdr bhd) ∧ CellsAt m b (b + 1) [p, v]
theorem BRow.c0 {m : Tr Slot} {b : Nat} {p v : Value} (h : BRow m b p v) : Cell m b 0 p := ⟨⟨_, h.1⟩, h.2.1⟩
theorem BRow.c1 {m : Tr Slot} {b : Nat} {p v : Value} (h : BRow m b p v) : Cell m b 1 v := ⟨⟨_, h.1⟩, h.2.2.1⟩
theorem BRow.congr {m m' : Tr Slot} {b : Nat} {p v : Value} (h : BRow m b p v) (e : ∀ j, b ≤ j → j < b + 3 → m'.get j = m.get j) : BRow m' b p v :=
  ⟨(e b (by omega) (by omega)).trans h.1, h.2.congr fun j h1 h2 => e j (by omega) (by simp only [List.length_cons, List.length_nil] at h2; omega)⟩
theorem BRow.reads {s s' : St} {b : Nat} {p v : Value} (h : BRow s.mem b p v) (r : Reads s s') : BRow s'.mem b p v := h.congr fun j _ _ => by rw [r.1]
theorem BRow.free {m : Tr Slot} {b : Nat} {p v : Value} (h : BRow m b p v) : Free m b 2 := ⟨_, _, _, _, h.1⟩
/-- What a builder's method does to old memory: nothing below. -/
def Low (b : Nat) (s s' : St) : Prop := s.ctr ≤ s'.ctr ∧ ∀ k, k < b → s'.mem.get k = s.mem.get k
theorem Low.trans {b : Nat} {s s1 s2 : St} (h : Low b s s1) (g : Low b s1 s2) : Low b s s2 := ⟨Nat.le_trans h.1 g.1, fun k hk => (g.2 k hk).trans (h.2 k hk)⟩
theorem Reads.low {s s' : St} (b : Nat) (h : Reads s s') : Low b s s' := ⟨Nat.le_of_eq h.2.1.symm, fun k _ => by rw [h.1]⟩
def ptrV (b : Nat) : Value := .pointer (some ⟨b, 0, none⟩)
theorem t82 : scal En 82 = true := by kernel_rfl
theorem t65 : scal En 65 = true := by kernel_rfl
/-- The copy check of a builder that was written to. -/
theorem check_ok {s : St} {b : Nat} {v : Value} (h : BRow s.mem b (ptrV b) v) : Ok (fun f => callF En (runP En f) 134 [ptrV b]) s (fun w s' => w = .tuple ⟨[]⟩ ∧ Reads s s') := by
  refine Ok.step (fun f => f134_eq f b) ?_
  refine Ok.pl t82 h.c0 fun s1 r1 => ?_
  unfold ptrV
  simp only [binKp]
  refine Ok.opt (eq_ptr b) (Ok.t rfl (Ok.f rfl ?_))
  refine Ok.pl t82 (h.reads r1).c0 fun s2 r2 => ?_
  unfold ptrV
  simp only [binKp]
  refine Ok.opt (ne_self b) (Ok.t rfl (Ok.f rfl ?_))
  exact Ok.ret ⟨rfl, r1.trans r2⟩
/-- The copy check of a new builder. -/
theorem check0_ok {s : St} {b : Nat} {v : Value} (h : BRow s.mem b (.pointer none) v) (hb : b + 3 ≤ s.ctr) : Ok (fun f => callF En (runP En f) 134 [ptrV b]) s (fun w s' => w = .tuple ⟨[]⟩ ∧ BRow s'.mem b (ptrV b) v ∧ s'.ctr = s.ctr ∧ ∀ k, k ≠ b + 1 → s'.mem.get k = s.mem.get k) := by
  refine Ok.step (fun f => f134_eq f b) ?_
  refine Ok.pl t82 h.c0 fun s1 r1 => ?_
  simp only [binKp]
  refine Ok.opt eq_nil (Ok.t rfl (Ok.t rfl ?_))
  have h1 := h.reads r1
  refine Ok.callP (Q1 := fun w s' => w = ptrV b ∧ Reads s1 s') (Ok.hdr h1.1 fun s2 r2 => Ok.g rfl (Ok.ret ⟨rfl, r2⟩)) ?_
  rintro w s2 ⟨rfl, r2⟩
  simp only [f182]
  refine Ok.call (Q1 := fun w s' => w = ptrV b ∧ s' = s2) (Ok.ret ⟨rfl, rfl⟩) ?_
  rintro w s3 ⟨rfl, rfl⟩
  refine Ok.t rfl ?_
  have h2 := h1.reads r2
  refine Ok.callP (Q1 := fun w s' => w = ptrV b ∧ Reads s3 s') (Ok.hdr h2.1 fun s4 r4 => Ok.opt (a := 2) (by kernel_rfl) (Ok.g (by kernel_rfl) (Ok.ret ⟨rfl, r4⟩))) ?_
  rintro w s4 ⟨rfl, r4⟩
  have h4 := h2.reads r4
  refine Ok.callP (Ok.store1 (by kernel_rfl) rfl h4.free (by omega) rfl) ?_
  rintro w s5 ⟨rfl, rfl⟩
  have r := r1.trans (r2.trans r4)
  refine Ok.ret ⟨rfl, ⟨?_, ?_, ?_, trivial⟩, r.2.1, fun k hk => ?_⟩
  · rw [Tr.get_set, if_neg (by omega)]; exact h4.1
  · rw [Tr.get_set, if_pos (by omega)]
  · rw [Tr.get_set, if_neg (by omega)]; exact h4.2.2.1
  · rw [Tr.get_set, if_neg (by omega), r.1]
end Go.Proofs.YtmjbmbmnnephjaaGreatDoor
/- text.Number, exact. -/
namespace Go.Ev
open Go
theorem Ok.conv {s : St} {Q : Value → St → Prop} {p q : Nat → Prog} (e : ∀ f, p f = q f) (h : Ok q s Q) : Ok p s Q := by
  have : p = q := funext e
  subst this
  exact h
theorem Ok.newObjR {s : St} {o : Slot} {g : Nat → Value} : Ok (fun _ => Prog.newObj o (fun k => .ret (g k))) s (fun v s' => v = g s.ctr ∧ s'.mem = s.mem.set s.ctr (some o) ∧ s'.ctr = s.ctr + 1) := by
  obtain ⟨m, c, l⟩ := s
  exact ⟨_, _, ⟨rfl, rfl, rfl⟩, 0, fun _ _ => rfl⟩
/-- A map's object is looked at. -/
theorem Ok.objMp {s : St} {k c : Nat} {es : List MapEntry} {Q : Value → St → Prop} {p : Nat → Slot → Prog} (h : s.mem.get k = some (.mp es c)) (hk : ∀ s1, Reads s s1 → Ok (fun f => p f (.mp es c)) s1 Q) : Ok (fun f => Prog.obj k (p f)) s Q := by
  obtain ⟨m, cc, l⟩ := s
  simp only at h
  obtain ⟨v, s', h1, f0, h2⟩ := hk ⟨m, cc, ⟨false, k, 1⟩ :: l⟩ ⟨rfl, rfl, [⟨false, k, 1⟩], rfl, rfl⟩
  refine ⟨v, s', h1, f0, fun f hf => ?_⟩
  simp only [Prog.run, St.obj, h]
  exact h2 f hf
theorem Ok.setMp {s : St} {k c : Nat} {es : List MapEntry} {o : Slot} (h : s.mem.get k = some (.mp es c)) : Ok (fun _ => Prog.setObj k o (.ret U)) s (fun v s' => v = U ∧ s'.mem = s.mem.set k (some o) ∧ s'.ctr = s.ctr) := by
  obtain ⟨m, cc, l⟩ := s
  simp only at h
  refine ⟨U, ⟨m.set k (some o), cc, ⟨true, k, 1⟩ :: l⟩, ⟨rfl, rfl, rfl⟩, 0, fun f hf => ?_⟩
  simp only [Prog.run, St.setObj, h]
/-- Cells of a row are read. -/
theorem Ok.rdRow {s : St} {b : Nat} {h : Hdr} {vs : List Value} {Q : Value → St → Prop} {p : Nat → List Value → Prog} (hh : s.mem.get b = some (.hdr h)) (hc : CellsAt s.mem b (b + 1) vs) (hk : ∀ s1, Reads s s1 → Ok (fun f => p f vs) s1 Q) : Ok (fun f => Prog.rd b vs.length 0 (p f)) s Q := by
  obtain ⟨m, c, l⟩ := s
  simp only at hh hc
  have hc : CellsAt m b (b + 1 + 0) vs := hc
  obtain ⟨v, s', h1, f0, h2⟩ := hk ⟨m, c, ⟨false, b + 1 + 0, vs.length⟩ :: ⟨false, b, 1⟩ :: l⟩ ⟨rfl, rfl, [⟨false, b + 1 + 0, vs.length⟩, ⟨false, b, 1⟩], rfl, rfl⟩
  refine ⟨v, s', h1, f0, fun f hf => ?_⟩
  simp only [Prog.run, St.rd, hh, hc.rd, Nat.add_eq]
  exact h2 f hf
end Go.Ev
namespace Go.Proofs.YtmjbmbmnnephjaaGreatDoor
open Go Go.Ev Go.Proofs Go.Num
theorem wrapU (n : Int) : IntKind.u64.wrap n = n % 18446744073709551616 := by simp [IntKind.wrap, IntKind.bits, IntKind.signed]
def pow10V : List Value := Lib.pow10Tab.map fun z => Value.int .u64 z
theorem pow10V_len : pow10V.length = 20 := by unfold pow10V; rw [List.length_map, Lib.pow10Tab_length]
theorem pow10V_tab : isTab .u64 Lib.pow10Tab pow10V = true := by
  have : ∀ l : List Int, isTab .u64 l (l.map fun z => Value.int .u64 z) = true := by
    intro l
    induction l with
    | nil => rfl
    | cons a l ih => simp only [List.map_cons, isTab, ih, decide_true, Bool.and_self]
  exact this _
/-- The table of the powers of ten is laid. -/
def Pw (m : Tr Slot) (c : Nat) : Prop := m.get 1 = some (.hdr ⟨20, 176, true, true, true, 0, false, false, []⟩) ∧ CellsAt m 1 2 pow10V ∧ 22 ≤ c
theorem Pw.low {m m' : Tr Slot} {c c' : Nat} (h : Pw m c) (hc : c ≤ c') (e : ∀ k, k < 22 → m'.get k = m.get k) : Pw m' c' := by
  obtain ⟨h1, h2, h3⟩ := h
  exact ⟨(e 1 (by omega)).trans h1, h2.congr fun j _ hj => e j (by rw [pow10V_len] at hj; omega), by omega⟩
theorem Pw.fresh {s s' : St} (h : Pw s.mem s.ctr) (f : Fresh s s') : Pw s'.mem s'.ctr := h.low f.1 fun k hk => f.2 k (by have := h.2.2; omega)
theorem tab_ok {s : St} {Q : Value → St → Prop} {k : Nat → List Value → Prog} (h : Pw s.mem s.ctr) (hk : ∀ s1, Reads s s1 → Ok (fun f => k f pow10V) s1 Q) : Ok (fun f => tabP 0 20 (k f)) s Q := by
  obtain ⟨h1, h2, _⟩ := h
  unfold tabP
  have e : gbase 0 = 1 := rfl
  rw [e]
  refine Ok.hdr h1 fun s1 r1 => ?_
  refine Ok.g rfl ?_
  have h2' : CellsAt s1.mem 1 (1 + 1) pow10V := by rw [r1.1]; exact h2
  have h1' := h1
  rw [← r1.1] at h1'
  have := Ok.rdRow (s := s1) (p := k) (Q := Q) h1' h2' fun s2 r2 => hk s2 (r1.trans r2)
  rw [pow10V_len] at this
  exact this
theorem tabQ_ok {s : St} {g el : Nat} {vs : List Value} {Q : Value → St → Prop} {k : Nat → List Value → Prog} (h1 : s.mem.get (gbase g) = some (.hdr ⟨vs.length, el, true, true, true, 0, false, false, []⟩)) (h2 : CellsAt s.mem (gbase g) (gbase g + 1) vs) (hk : ∀ s1, Reads s s1 → Ok (fun f => k f vs) s1 Q) : Ok (fun f => tabQ g vs.length el (k f)) s Q := by
  unfold tabQ
  refine Ok.hdr h1 fun s1 r1 => ?_
  refine Ok.g (by simp only [Nat.beq_refl]; rfl) ?_
  have h2' : CellsAt s1.mem (gbase g) (gbase g + 1) vs := by rw [r1.1]; exact h2
  have h1' := h1
  rw [← r1.1] at h1'
  exact Ok.rdRow (s := s1) (p := k) (Q := Q) h1' h2' fun s2 r2 => hk s2 (r1.trans r2)
theorem f56_eq (ih : Rec) (n : Int) : callF En ih 56 [.int .i64 n, .int .i64 10] = Ev.gd (decide ((10 : Int) = 10) && (decide (-9223372036854775808 ≤ n) && decide (n ≤ 9223372036854775807))) (tabP 0 20 fun vs => Ev.gd (isTab .u64 Lib.pow10Tab vs) (.ret (.string (mkStr (Lib.itoa n))))) := by kernel_rfl
theorem f57_eq (ih : Rec) (n : Int) : callF En ih 57 [.int .u64 n, .int .i64 10] = Ev.gd (decide ((10 : Int) = 10) && (decide (0 ≤ n) && decide (n < 18446744073709551616))) (tabP 0 20 fun vs => Ev.gd (isTab .u64 Lib.pow10Tab vs) (.ret (.string (mkStr (Lib.decDigits n.toNat))))) := by kernel_rfl
theorem fmtInt_ok (s : St) (n : Int) (h0 : nul ≤ n) (h1 : n ≤ 9223372036854775807) (hp : Pw s.mem s.ctr) : Ok (fun f => callF En (runP En f) 56 [.int .i64 n, .int .i64 10]) s (fun v s' => v = .string (mkStr (Lib.itoa n)) ∧ Reads s s') := by
  simp only [f56_eq]
  refine Ok.g (by unfold nul at h0; rw [decide_eq_true h0, decide_eq_true h1]; rfl) ?_
  exact tab_ok hp fun s1 r1 => Ok.g pow10V_tab (Ok.ret ⟨rfl, r1⟩)
theorem fmtUint_ok (s : St) (n : Nat) (h1 : n < 18446744073709551616) (hp : Pw s.mem s.ctr) : Ok (fun f => callF En (runP En f) 57 [.int .u64 (n : Int), .int .i64 10]) s (fun v s' => v = .string (mkStr (Lib.decDigits n)) ∧ Reads s s') := by
  simp only [f57_eq]
  refine Ok.g (by rw [decide_eq_true (show (0 : Int) ≤ (n : Int) by omega), decide_eq_true (show (n : Int) < 18446744073709551616 by omega)]; rfl) ?_
  exact tab_ok hp fun s1 r1 => Ok.g pow10V_tab (Ok.ret ⟨by rw [Int.toNat_natCast], r1⟩)
theorem dec_len (u : Nat) (h : u < 9223372036854775808) : (Lib.decDigits u).length ≤ 21 := by
  have := Lib.itoa_length_le (u : Int) (by omega) (by omega)
  rwa [Lib.itoa_nonneg] at this
theorem dec17_ok (s : St) (neg : List UInt8) (u : Nat) (hu : u ≤ 9223372036854775807) (hn : neg.length ≤ 1) (hp : Pw s.mem s.ctr) :
    Ok (fun f => p31_17 f (mkStr neg) (u : Int)) s (fun v s' => v = .string (mkStr (neg ++ (Lib.decDigits (u / 10000) ++ 46 :: frac u))) ∧ Reads s s') := by
  have e1 : IntKind.wrap IntKind.u64 ((10000 : Int) + (Int.tmod (u : Int) (10000 : Int))) = ((10000 + u % 10000 : Nat) : Int) := by
    rw [Int.tmod_eq_emod_of_nonneg (by omega), wrapU]; omega
  have e2 : IntKind.wrap IntKind.u64 (Int.tdiv (u : Int) (10000 : Int)) = ((u / 10000 : Nat) : Int) := by
    rw [Int.tdiv_eq_ediv_of_nonneg (by omega), wrapU]; omega
  refine Ok.step (fun f => p31_17_eq f _ _) ?_
  rw [e1, e2]
  refine Ok.call (fmtUint_ok s _ (by omega) hp) ?_
  rintro v s1 ⟨rfl, r1⟩
  refine Ok.t rfl ?_
  simp only [strOf, show ∀ l, (mkStr l).data.toList = l from fun _ => rfl]
  have hd : (Lib.decDigits (10000 + u % 10000)).length = 5 := by rw [dec5 (Nat.mod_lt _ (by omega))]; rfl
  have hf : List.take ((Lib.decDigits (10000 + u % 10000)).length - 1) (List.drop 1 (Lib.decDigits (10000 + u % 10000))) = frac4 u := by
    rw [List.take_of_length_le (by rw [List.length_drop]; omega)]; rfl
  have h4 := frac4_length u
  rw [hf, hd, h4]
  have hg : List.take (4 - 1) (List.drop 1 (frac4 u)) = (frac4 u).drop 1 := List.take_of_length_le (by rw [List.length_drop, h4]; decide)
  rw [hg]
  refine Ok.t rfl (Ok.t rfl (Ok.t rfl ?_))
  refine Ok.seg (Q1 := fun v s' => v = .string (mkStr (trimZ ((frac4 u).drop 1))) ∧ s' = ⟨s1.mem, s1.ctr, []⟩) (trimRight_ok _ _ (by rw [List.length_drop, h4]; decide)) ?_
  rintro v s2 ⟨rfl, rfl⟩
  refine Ok.t rfl ?_
  simp only [show ∀ l, (mkStr l).data.toList = l from fun _ => rfl]
  have hfl := frac_len u
  have hfe : List.take 1 (frac4 u) ++ trimZ ((frac4 u).drop 1) = frac u := rfl
  have hfn : (List.take 1 (frac4 u)).length + (trimZ ((frac4 u).drop 1)).length = (frac u).length := by rw [← hfe, List.length_append]
  rw [hfe, hfn]
  refine Ok.t (Nat.ble_eq_true_of_le (by omega)) ?_
  refine Ok.call (fmtUint_ok _ _ (by omega) (hp.fresh r1.fresh)) ?_
  rintro v s3 ⟨rfl, r3⟩
  refine Ok.t rfl ?_
  have hq := dec_len (u / 10000) (by omega)
  simp only [show ∀ l, (mkStr l).data.toList = l from fun _ => rfl]
  refine Ok.t (Nat.ble_eq_true_of_le (by omega)) ?_
  refine Ok.t (Nat.ble_eq_true_of_le (by simp only [List.length_append]; omega)) ?_
  refine Ok.t (Nat.ble_eq_true_of_le (by simp only [List.length_append, List.length_cons, List.length_nil]; omega)) ?_
  refine Ok.ret ⟨?_, ?_⟩
  · simp only [List.append_assoc, List.cons_append, List.nil_append]
  · obtain ⟨a1, a2, l, a3, a4⟩ := r1
    obtain ⟨b1, b2, k, b3, b4⟩ := r3
    exact ⟨b1.trans a1, b2.trans a2, k ++ l, by rw [b3]; simp only [List.nil_append]; rw [a3, List.append_assoc], by rw [writesOf_append, b4, a4]; rfl⟩
/-- What 'Number' prints behind the map. -/
theorem num12_ok (s : St) (t : Nat) (n : Int) (ht : t = 2 ∨ t = 4 ∨ t = 5) (h0 : nul < n) (h1 : n ≤ 9223372036854775807) (hp : Pw s.mem s.ctr) : Ok (fun f => p31_12 f (t : Int) n (mkStr (tail_ t))) s (fun v s' => v = .string (mkStr (numT t n)) ∧ Reads s s') := by
  have hz : n ≠ nul := by omega
  unfold nul at h0
  refine Ok.step (fun f => p31_12_eq f _ _ _) ?_
  by_cases h5 : t = 5
  · subst h5
    refine Ok.f rfl ?_
    have e : numT 5 n = decT n := by unfold numT; rw [if_neg hz, if_pos rfl]
    rw [e]
    refine Ok.c (fun hl => ?_) (fun hl => ?_)
    · have hl := of_decide_eq_true hl
      have ew : IntKind.wrap IntKind.u64 ((0 : Int) + (Int.neg (IntKind.wrap IntKind.u64 n))) = ((n.natAbs : Nat) : Int) := by
        have : ∀ x : Int, Int.neg x = -x := fun _ => rfl
        rw [this, wrapU, wrapU]; omega
      rw [ew]
      have ed : decT n = [45] ++ (Lib.decDigits (n.natAbs / 10000) ++ 46 :: frac n.natAbs) := by unfold decT sgn; simp [hl]
      rw [ed]
      exact dec17_ok s [45] n.natAbs (by omega) (by decide) hp
    · have hl := of_decide_eq_false hl
      have ew : IntKind.wrap IntKind.u64 n = ((n.natAbs : Nat) : Int) := by rw [wrapU]; omega
      rw [ew]
      have ed : decT n = [] ++ (Lib.decDigits (n.natAbs / 10000) ++ 46 :: frac n.natAbs) := by unfold decT sgn; simp [hl]
      rw [ed]
      exact dec17_ok s [] n.natAbs (by omega) (by decide) hp
  · refine Ok.t (by have : ¬ ((t : Int) = 5) := by omega
                    rw [decide_eq_false this]; rfl) ?_
    have e : numT t n = Lib.itoa n ++ tail_ t := by unfold numT; rw [if_neg hz, if_neg h5]
    have hlen := itoa_len n (by unfold nul; omega) h1
    have htl : (tail_ t).length ≤ 1 := by unfold tail_; split <;> simp
    rw [e]
    refine Ok.call (fmtInt_ok s n (by unfold nul; omega) h1 hp) ?_
    rintro v s1 ⟨rfl, r1⟩
    refine Ok.t rfl ?_
    simp only [strOf, show ∀ l, (mkStr l).data.toList = l from fun _ => rfl]
    refine Ok.t (Nat.ble_eq_true_of_le (by omega)) (Ok.ret ⟨rfl, r1⟩)
theorem map88 : mapOf En 88 = some (3, 9) := by kernel_rfl
theorem und3 : En.und 3 = some (.int .i64) := by kernel_rfl
theorem mapSet_eq (m : Nat) (k : Int) (v : Value) : mapSet En 88 (.map (some m)) (.int .i64 k) v = Ev.gd true (.obj m fun o => Ev.opt (entsOf o) fun ec => Ev.opt (findK (.int .i64) (.int .i64 k) ec.1 0) fun r => match r with
    | some e => .setObj m (.mp (setAt ec.1 e.1 { e.2 with key := .int .i64 k, val := v }) ec.2) (.ret U)
    | none => .setObj m (.mp (ec.1 ++ [{ key := .int .i64 k, val := v, born := ec.2 }]) (Nat.add ec.2 1)) (.ret U)) := by
  unfold mapSet
  simp only [map88, und3, Ev.opt, plainKey, Ev.gd]
  rfl
def ent (k : Int) (l : List UInt8) (b : Nat) : MapEntry := { key := .int .i64 k, val := .string (mkStr l), born := b }
theorem mset_ok {s : St} {m c : Nat} {es : List MapEntry} {k : Int} {l : List UInt8} (h : s.mem.get m = some (.mp es c)) (hf : findK (.int .i64) (.int .i64 k) es 0 = some none) :
    Ok (fun _ => mapSet En 88 (.map (some m)) (.int .i64 k) (.string (mkStr l))) s (fun v s' => v = U ∧ s'.mem.get m = some (.mp (es ++ [ent k l c]) (c + 1)) ∧ s'.ctr = s.ctr ∧ ∀ j, j ≠ m → s'.mem.get j = s.mem.get j) := by
  simp only [mapSet_eq]
  refine Ok.g rfl ?_
  refine Ok.objMp h fun s1 r1 => ?_
  refine Ok.opt (a := (es, c)) rfl ?_
  refine Ok.opt hf ?_
  refine Ok.mono (Ok.setMp (es := es) (c := c) (by rw [r1.1]; exact h)) ?_
  rintro v s2 ⟨rfl, e2, c2⟩
  refine ⟨rfl, by rw [e2, Tr.get_set, if_pos rfl]; rfl, by rw [c2]; exact r1.2.1, fun j hj => ?_⟩
  rw [e2, Tr.get_set, if_neg hj, r1.1]
def es4 : List MapEntry := [ent 1 [98] 0, ent 2 [] 1, ent 4 [116] 2, ent 5 [] 3]
theorem num3_ok (s : St) (t : Nat) (n : Int) (ht : t = 2 ∨ t = 4 ∨ t = 5) (h0 : nul ≤ n) (h1 : n ≤ 9223372036854775807) (hp : Pw s.mem s.ctr) : Ok (fun f => p31_3 f (t : Int) n) s (fun v s' => v = .string (mkStr (numT t n)) ∧ Fresh s s') := by
  refine Ok.step (fun f => p31_3_eq f _ _) ?_
  refine Ok.callP Ok.newObjR ?_
  rintro v s1 ⟨rfl, m1, c1⟩
  have g1 : s1.mem.get s.ctr = some (.mp [] 0) := by rw [m1, Tr.get_set, if_pos rfl]
  refine Ok.callP (mset_ok g1 rfl) ?_
  rintro v s2 ⟨rfl, g2, c2, k2⟩
  refine Ok.callP (mset_ok g2 rfl) ?_
  rintro v s3 ⟨rfl, g3, c3, k3⟩
  refine Ok.callP (mset_ok g3 rfl) ?_
  rintro v s4 ⟨rfl, g4, c4, k4⟩
  refine Ok.callP (mset_ok g4 rfl) ?_
  rintro v s5 ⟨rfl, g5, c5, k5⟩
  have f5 : Fresh s s5 := ⟨by omega, fun k hk => by
    rw [k5 k (by omega), k4 k (by omega), k3 k (by omega), k2 k (by omega), m1, Tr.get_set, if_neg (by omega)]⟩
  refine Ok.g rfl ?_
  refine Ok.callP (Q1 := fun v s' => v = .tuple ⟨[.string (mkStr (tail_ t)), .bool true]⟩ ∧ Reads s5 s') ?_ ?_
  · refine Ok.conv (q := fun _ => .obj s.ctr fun o => Ev.opt (entsOf o) fun ec => Ev.opt (findK (.int .i64) (.int .i64 (t : Int)) ec.1 0) fun r => (match r with
      | some e => .ret (okV true e.2.val true)
      | none => .ret (okV true (.string (mkStr [])) false))) (fun f => by kernel_rfl) ?_
    refine Ok.objMp g5 fun s6 r6 => ?_
    refine Ok.opt (a := (es4, 4)) rfl ?_
    rcases ht with rfl | rfl | rfl
    · exact Ok.opt (a := some (1, ent 2 [] 1)) rfl (Ok.ret ⟨rfl, r6⟩)
    · exact Ok.opt (a := some (2, ent 4 [116] 2)) rfl (Ok.ret ⟨rfl, r6⟩)
    · exact Ok.opt (a := some (3, ent 5 [] 3)) rfl (Ok.ret ⟨rfl, r6⟩)
  rintro v s6 ⟨rfl, r6⟩
  have f6 := f5.trans r6.fresh
  refine Ok.callP (Q1 := fun v s' => v = .string (mkStr (tail_ t)) ∧ s' = s6) (Ok.conv (q := fun _ => .ret (.string (mkStr (tail_ t)))) (fun f => by kernel_rfl) (Ok.ret ⟨rfl, rfl⟩)) ?_
  rintro v s7 ⟨rfl, rfl⟩
  refine Ok.t rfl ?_
  refine Ok.callP (Q1 := fun v s' => v = .bool true ∧ s' = s7) (Ok.conv (q := fun _ => .ret (.bool true)) (fun f => by kernel_rfl) (Ok.ret ⟨rfl, rfl⟩)) ?_
  rintro v s8 ⟨rfl, rfl⟩
  refine Ok.t rfl (Ok.f rfl ?_)
  refine Ok.f (decide_eq_false (by omega)) ?_
  simp only [strOf]
  by_cases hn : n = nul
  · subst hn
    refine Ok.t rfl ?_
    rcases ht with rfl | rfl | rfl
    · exact Ok.f rfl (Ok.t rfl (Ok.t rfl (Ok.ret ⟨rfl, f6⟩)))
    · exact Ok.f rfl (Ok.t rfl (Ok.t rfl (Ok.ret ⟨rfl, f6⟩)))
    · exact Ok.t rfl (Ok.ret ⟨rfl, f6⟩)
  · have hd : decide (n = (-9223372036854775808 : Int)) = false := decide_eq_false hn
    refine Ok.f hd ?_
    have hh : Ok (fun f => p31_12 f (t : Int) n (mkStr (tail_ t))) s8 (fun v s' => v = .string (mkStr (numT t n)) ∧ Fresh s s') := by
      refine Ok.mono (num12_ok s8 t n ht (by omega) h1 (hp.fresh f6)) ?_
      rintro v s9 ⟨rfl, r9⟩
      exact ⟨rfl, f6.trans r9.fresh⟩
    exact Ok.f hd hh
/-- text.Number of an int, a time, a dec; of an atom's type as well. -/
theorem num_ok (s : St) (t : Nat) (n : Int) (ht : t = 2 ∨ t = 4 ∨ t = 5) (h0 : nul ≤ n) (h1 : n ≤ 9223372036854775807) (hp : Pw s.mem s.ctr) : Ok (fun f => callF En (runP En f) 31 [.int .i64 (t : Int), .int .i64 n]) s (fun v s' => v = .string (mkStr (numT t n)) ∧ Fresh s s') := by
  refine Ok.step (fun f => f31_eq f _ _) ?_
  exact Ok.f (decide_eq_false (by omega)) (num3_ok s t n ht h0 h1 hp)
theorem numN_ok (s : St) (t : Nat) (n : Int) (ht : t = 2 ∨ t = 4 ∨ t = 5) (h0 : nul ≤ n) (h1 : n ≤ 9223372036854775807) (hp : Pw s.mem s.ctr) : Ok (fun f => callF En (runP En f) 31 [.int .i64 (-(t : Int)), .int .i64 n]) s (fun v s' => v = .string (mkStr (numT t n)) ∧ Fresh s s') := by
  refine Ok.step (fun f => f31_eq f _ _) ?_
  have e : IntKind.wrap IntKind.i64 ((0 : Int) + (Int.neg (-(t : Int)))) = (t : Int) := by
    have : ∀ x : Int, Int.neg x = -x := fun _ => rfl
    rw [this, wrap_in _ (by omega) (by omega)]; omega
  rw [e]
  exact Ok.t (decide_eq_true (by omega)) (num3_ok s t n ht h0 h1 hp)
end Go.Proofs.YtmjbmbmnnephjaaGreatDoor
/- text's reader: take, while, one, single; Count of an atom and of one element. -/
namespace Go.Ev
open Go
theorem Ok.plA {E : Env} {t b n : Nat} {vs : List Value} {s : St} {Q : Value → St → Prop} {k : Nat → Value → Prog} (ha : aggr E t = true) (hs : E.size t = some n) (hn : vs.length = n) (h : Row s.mem b vs)
    (hk : ∀ s1, Reads s s1 → Ok (fun f => k f (.agg ⟨vs⟩)) s1 Q) : Ok (fun f => Ev.callP (k f) (loadT E t b 0)) s Q := by
  obtain ⟨el, ex, z, sy, hf⟩ := h.1
  refine Ok.callP (Ok.loadA ha hs hn ⟨_, hf⟩ (o := 0) h.2) ?_
  rintro w s1 ⟨rfl, e1, e2, e3⟩
  exact hk s1 ⟨e1, e2, [⟨false, b + 1 + 0, n⟩, ⟨false, b, 1⟩], e3, rfl⟩
theorem Ok.clA {E : Env} {t b n : Nat} {vs : List Value} {s : St} {Q : Value → St → Prop} {k : Nat → Value → Prog} (ha : aggr E t = true) (hs : E.size t = some n) (hn : vs.length = n) (h : Row s.mem b vs)
    (hk : ∀ s1, Reads s s1 → Ok (fun f => k f (.agg ⟨vs⟩)) s1 Q) : Ok (fun f => Prog.call (loadT E t b 0) (k f)) s Q := by
  obtain ⟨el, ex, z, sy, hf⟩ := h.1
  refine Ok.call (Ok.loadA ha hs hn ⟨_, hf⟩ (o := 0) h.2) ?_
  rintro w s1 ⟨rfl, e1, e2, e3⟩
  exact hk s1 ⟨e1, e2, [⟨false, b + 1 + 0, n⟩, ⟨false, b, 1⟩], e3, rfl⟩
/-- What lies between b and b + n may have turned; all else that was there is as it was. -/
def Upd (b n : Nat) (s s' : St) : Prop := s.ctr ≤ s'.ctr ∧ ∀ k, k < s.ctr → (k < b ∨ b + n ≤ k) → s'.mem.get k = s.mem.get k
theorem Upd.trans {b n : Nat} {s s1 s2 : St} (h : Upd b n s s1) (g : Upd b n s1 s2) : Upd b n s s2 := ⟨Nat.le_trans h.1 g.1, fun k h1 h2 => (g.2 k (Nat.lt_of_lt_of_le h1 h.1) h2).trans (h.2 k h1 h2)⟩
theorem Fresh.upd {s s' : St} (b n : Nat) (h : Fresh s s') : Upd b n s s' := ⟨h.1, fun k hk _ => h.2 k hk⟩
theorem Reads.upd {s s' : St} (b n : Nat) (h : Reads s s') : Upd b n s s' := h.fresh.upd b n
/-- What is done above is not seen below. -/
theorem Upd.above {b n b' n' : Nat} {s s1 s2 : St} (h : Upd b n s s1) (g : Upd b' n' s1 s2) (hb : s.ctr ≤ b') : Upd b n s s2 := ⟨Nat.le_trans h.1 g.1, fun k h1 h2 => (g.2 k (Nat.lt_of_lt_of_le h1 h.1) (.inl (by omega))).trans (h.2 k h1 h2)⟩
theorem Row.upd {s s' : St} {b n c : Nat} {vs : List Value} (h : Row s.mem c vs) (u : Upd b n s s') (hc : c + 1 + vs.length ≤ s.ctr) (hd : c + 1 + vs.length ≤ b ∨ b + n ≤ c) : Row s'.mem c vs := h.congr fun j h1 h2 => u.2 j (by omega) (by omega)
theorem Row.reads {s s' : St} {c : Nat} {vs : List Value} (h : Row s.mem c vs) (r : Reads s s') : Row s'.mem c vs := by rw [r.1]; exact h
end Go.Ev
namespace Go.Proofs.YtmjbmbmnnephjaaGreatDoor
open Go Go.Ev Go.Proofs Go.Num
theorem Pw.upd {s s' : St} {b n : Nat} (h : Pw s.mem s.ctr) (u : Upd b n s s') (hb : 22 ≤ b) : Pw s'.mem s'.ctr := h.low u.1 fun k hk => u.2 k (by have := h.2.2; omega) (.inl (by omega))
/-- A reader's row: what is left, whether something is bad, how deep it is. -/
def rdr (x : List UInt8) (bad : Bool) (d : Int) : List Value := [.string (mkStr x), .bool bad, .int .i64 d]
def pV (b : Nat) : Value := .pointer (some ⟨b, 0, none⟩)
def valC (t : Int) (a b c : List Value) : List Value := [.int .i64 t, lstV a, lstV b, lstV c]
theorem strOf_mk (x : ByteArray) : strOf (.string x) = x := rfl
theorem data_mk (l : List UInt8) : (mkStr l).data.toList = l := rfl
theorem ag32 : aggr En 32 = true := by kernel_rfl
theorem sz32 : En.size 32 = some 4 := by kernel_rfl
theorem t3 : scal En 3 = true := by kernel_rfl
theorem t4 : scal En 4 = true := by kernel_rfl
theorem t9 : scal En 9 = true := by kernel_rfl
theorem t28 : scal En 28 = true := by kernel_rfl
theorem t29 : scal En 29 = true := by kernel_rfl
theorem t30 : scal En 30 = true := by kernel_rfl
theorem t70 : scal En 70 = true := by kernel_rfl
section
variable {s : St} {Q : Value → St → Prop}
/-- A value that a function is given lies in a row of its own. -/
theorem enterV {t : Int} {a b c : List Value} {k : Nat → Value → Prog} (hk : ∀ s1, Row s1.mem s.ctr (valC t a b c) → s1.ctr = s.ctr + 5 → Fresh s s1 → Ok (fun f => k f (itP s.ctr)) s1 Q) :
    Ok (fun f => Ev.gd Bool.true (Ev.callP (fun v => cnd (k f v) Prog.fail (isPt v)) (Prog.newH (Hdr.mk 4 32 Bool.false Bool.true Bool.true 0 Bool.false Bool.false []) (Value.int IntKind.i64 t :: lstV a :: lstV b :: lstV c :: []) (fun z => Prog.ret (itP z))))) s Q := by
  refine Ok.g rfl ?_
  refine Ok.callP (Ok.new rfl) ?_
  rintro v s1 ⟨rfl, e1, e2, e3⟩
  exact Ok.t rfl (hk s1 e2 e1 ⟨by omega, e3⟩)
/-! take -/
theorem take_ok {b : Nat} {x : List UInt8} {bad : Bool} {d : Int} (h : Row s.mem b (rdr x bad d)) (t : List UInt8) :
    Ok (fun f => callF En (runP En f) 82 [pV b, .string (mkStr t)]) s (fun v s' => v = .bool (preB x t) ∧ Row s'.mem b (rdr (cutPre x t) bad d) ∧ Upd b 4 s s' ∧ s'.ctr = s.ctr) := by
  refine Ok.step (fun f => f82_eq f b _) ?_
  refine Ok.pl t9 (h.cell 0 rfl) fun s1 r1 => ?_
  refine Ok.t rfl ?_
  refine Ok.call (cutPrefix_ok s1 (mkStr x) (mkStr t)) ?_
  rintro v s2 ⟨rfl, rfl⟩
  refine Ok.t rfl ?_
  refine Ok.callP (Ok.storeCell (o := 0) (by kernel_rfl) rfl (h.reads r1) (Nat.zero_lt_succ _) rfl) ?_
  rintro v s3 ⟨rfl, c3, g3, k3⟩
  refine Ok.ret ⟨rfl, g3, ⟨by rw [c3, r1.2.1]; exact Nat.le_refl _, fun k h1 h2 => ?_⟩, by rw [c3, r1.2.1]⟩
  rw [k3 k (by omega), r1.1]
theorem prefix_ok (x y : ByteArray) : Ok (fun f => callF En (runP En f) 85 [.string x, .string y]) s (fun v s' => v = .bool (preB (bl x) (bl y)) ∧ s' = s) := by
  refine Ok.step (fun f => f85_eq f x y) ?_
  refine Ok.call (hasPrefix_ok s x y) ?_
  rintro v s1 ⟨rfl, rfl⟩
  exact Ok.t rfl (Ok.ret ⟨rfl, rfl⟩)
theorem preB_no {c d : UInt8} {r t : List UInt8} (h : c ≠ d) : preB (c :: r) (d :: t) = false := by
  unfold preB
  have : decide (List.take (d :: t).length (c :: r) = d :: t) = false := decide_eq_false fun e => by
    simp only [List.length_cons, List.take_succ_cons, List.cons.injEq] at e
    exact h e.1
  rw [this, Bool.and_false]
theorem cutPre_no {x t : List UInt8} (h : preB x t = false) : cutPre x t = x := by unfold cutPre; rw [h]; rfl
/-! while -/
theorem inNum_ok (c : UInt8) (h : okC c) : Ok (fun f => callF En (runP En f) 148 [.int .u8 (Int.ofNat c.toNat)]) s (fun v s' => v = .bool true ∧ s' = s) := by
  refine Ok.step (fun f => f148_eq f _) ?_
  unfold okC at h
  refine Ok.call (Q1 := fun v s' => v = .bool (decide (48 ≤ c.toNat ∧ c.toNat ≤ 57)) ∧ s' = s) ?_ ?_
  · refine Ok.step (fun f => f149_eq f _) ?_
    refine Ok.c (fun h1 => ?_) (fun h1 => ?_)
    · have h1 := of_decide_eq_true h1
      simp only [Int.ofNat_eq_natCast] at h1
      refine Ok.ret ⟨?_, rfl⟩
      congr 1
      simp only [Int.ofNat_eq_natCast, decide_eq_decide]
      omega
    · have h1 := of_decide_eq_false h1
      simp only [Int.ofNat_eq_natCast] at h1
      refine Ok.ret ⟨?_, rfl⟩
      congr 1
      exact (decide_eq_false (by omega)).symm
  rintro v s1 ⟨rfl, rfl⟩
  refine Ok.t rfl ?_
  refine Ok.c (fun _ => Ok.ret ⟨rfl, rfl⟩) (fun h1 => ?_)
  have h1 := of_decide_eq_false h1
  refine Ok.call (Q1 := fun v s' => v = .bool (decide (c.toNat = 78 ∨ c.toNat = 100 ∨ c.toNat = 116)) ∧ s' = s1) ?_ ?_
  · refine Ok.step (fun f => f150_eq f _) ?_
    have hc : c.toNat = 45 ∨ c.toNat = 46 ∨ c.toNat = 78 ∨ c.toNat = 100 ∨ c.toNat = 116 := by omega
    rcases hc with h | h | h | h | h <;> rw [h]
    · exact Ok.f rfl (Ok.f rfl (Ok.ret ⟨rfl, rfl⟩))
    · exact Ok.f rfl (Ok.f rfl (Ok.ret ⟨rfl, rfl⟩))
    · exact Ok.f rfl (Ok.t rfl (Ok.ret ⟨rfl, rfl⟩))
    · exact Ok.t rfl (Ok.t rfl (Ok.ret ⟨rfl, rfl⟩))
    · exact Ok.t rfl (Ok.t rfl (Ok.ret ⟨rfl, rfl⟩))
  rintro v s2 ⟨rfl, rfl⟩
  refine Ok.t rfl ?_
  refine Ok.c (fun _ => Ok.ret ⟨rfl, rfl⟩) (fun h2 => ?_)
  have h2 := of_decide_eq_false h2
  refine Ok.c (fun _ => Ok.ret ⟨rfl, rfl⟩) (fun h3 => ?_)
  have h3 := of_decide_eq_false h3
  simp only [Int.ofNat_eq_natCast] at h3
  refine Ok.ret ⟨?_, rfl⟩
  congr 1
  exact decide_eq_true (by simp only [Int.ofNat_eq_natCast]; omega)
theorem while_loop {b : Nat} {x : List UInt8} {bad : Bool} {d : Int} (hx : ∀ c ∈ x, okC c) (hl : x.length ≤ 1000000) : ∀ (m i : Nat) (s : St), i + m = x.length → Row s.mem b (rdr x bad d) →
    Ok (fun f => p147_2 f b 148 (i : Int)) s (fun v s' => v = .string (mkStr x) ∧ Row s'.mem b (rdr [] bad d) ∧ Upd b 4 s s' ∧ s'.ctr = s.ctr) := by
  intro m
  induction m with
  | zero =>
    intro i s hi h
    have hi : i = x.length := by omega
    subst hi
    refine Ok.step (fun f => p147_2_eq f b 148 _) ?_
    refine Ok.pl t9 (h.cell 0 rfl) fun s1 r1 => ?_
    refine Ok.t rfl ?_
    simp only [strOf_mk, data_mk]
    refine Ok.f (decide_eq_false (by simp only [Int.ofNat_eq_natCast]; omega)) ?_
    refine Ok.pl t9 ((h.reads r1).cell 0 rfl) fun s2 r2 => ?_
    have r2 := r1.trans r2
    refine Ok.t rfl ?_
    refine Ok.t (decide_eq_true (by omega)) ?_
    refine Ok.t (by simp only [strOf_mk, data_mk, Bool.and_eq_true, Int.toNat_natCast]; exact ⟨Nat.ble_eq_true_of_le (by omega), Nat.ble_eq_true_of_le (by omega)⟩) ?_
    refine Ok.pl t9 ((h.reads r2).cell 0 rfl) fun s3 r3 => ?_
    have r3 := r2.trans r3
    refine Ok.t rfl ?_
    refine Ok.t (decide_eq_true (by omega)) ?_
    refine Ok.t (by simp only [strOf_mk, data_mk, Bool.and_eq_true, Int.toNat_natCast]; exact ⟨Nat.ble_eq_true_of_le (by omega), Nat.ble_eq_true_of_le (by omega)⟩) ?_
    refine Ok.callP (Ok.storeCell (o := 0) (by kernel_rfl) rfl (h.reads r3) (Nat.zero_lt_succ _) rfl) ?_
    rintro v s4 ⟨rfl, c4, g4, k4⟩
    simp only [strOf_mk, data_mk, Int.toNat_natCast, Nat.sub_zero, List.take_length, Nat.sub_self, List.take_zero] at g4 ⊢
    refine Ok.ret ⟨rfl, g4, ⟨by rw [c4, r3.2.1]; exact Nat.le_refl _, fun k h1 h2 => ?_⟩, by rw [c4, r3.2.1]⟩
    rw [k4 k (by omega), r3.1]
  | succ m ih =>
    intro i s hi h
    refine Ok.step (fun f => p147_2_eq f b 148 _) ?_
    refine Ok.pl t9 (h.cell 0 rfl) fun s1 r1 => ?_
    refine Ok.t rfl ?_
    simp only [strOf_mk, data_mk]
    refine Ok.t (decide_eq_true (by simp only [Int.ofNat_eq_natCast]; omega)) ?_
    refine Ok.pl t9 ((h.reads r1).cell 0 rfl) fun s2 r2 => ?_
    have r2 := r1.trans r2
    refine Ok.t rfl ?_
    refine Ok.t (decide_eq_true (by omega)) ?_
    refine Ok.t (by simp only [strOf_mk, data_mk, Int.toNat_natCast]; exact Nat.ble_eq_true_of_le (by omega)) ?_
    have hb : byteAt (mkStr x) (Int.toNat (i : Int)) = (x[i]'(by omega)).toNat := by
      unfold byteAt
      show (x.getD (Int.toNat (i : Int)) 0).toNat = _
      rw [Int.toNat_natCast, List.getD, List.getElem?_eq_getElem (by omega)]
      rfl
    simp only [strOf_mk, hb]
    refine Ok.call (inNum_ok _ (hx _ (List.getElem_mem _))) ?_
    rintro v s3 ⟨rfl, rfl⟩
    refine Ok.t rfl (Ok.t rfl ?_)
    have hw : IntKind.i64.wrap ((i : Int) + 1) = ((i + 1 : Nat) : Int) := by rw [wrap_in _ (by omega) (by omega)]; omega
    rw [hw]
    refine Ok.mono (ih (i + 1) s3 (by omega) (h.reads r2)) ?_
    rintro v s4 ⟨rfl, g4, u4, c4⟩
    exact ⟨rfl, g4, (r2.upd b 4).trans u4, by rw [c4, r2.2.1]⟩
theorem one_ok {b p : Nat} {x : List UInt8} {bad : Bool} {d : Int} (hx : ∀ c ∈ x, okC c) (hl : x.length ≤ 1000000) (h : Row s.mem b (rdr x bad d)) (hp : Row s.mem p [pV b]) :
    Ok (fun f => callF En (runP En f) 146 [pV p]) s (fun v s' => v = .string (mkStr x) ∧ Row s'.mem b (rdr [] bad d) ∧ Upd b 4 s s' ∧ s'.ctr = s.ctr) := by
  refine Ok.step (fun f => f146_eq f p 0) ?_
  refine Ok.pl t70 (hp.cell 0 rfl) fun s1 r1 => ?_
  refine Ok.t rfl ?_
  refine Ok.call (Q1 := fun v s' => v = .string (mkStr x) ∧ Row s'.mem b (rdr [] bad d) ∧ Upd b 4 s s' ∧ s'.ctr = s.ctr) ?_ ?_
  · refine Ok.step (fun f => f147_eq f b 148) ?_
    refine Ok.mono (while_loop hx hl x.length 0 s1 (by omega) (h.reads r1)) ?_
    rintro v s2 ⟨rfl, g2, u2, c2⟩
    exact ⟨rfl, g2, (r1.upd b 4).trans u2, by rw [c2, r1.2.1]⟩
  · rintro v s2 ⟨rfl, g2, u2, c2⟩
    exact Ok.t rfl (Ok.ret ⟨rfl, g2, u2, c2⟩)
/-! Count, single. -/
theorem vec_ok (t : Int) : Ok (fun f => callF En (runP En f) 160 [.int .i64 t]) s (fun v s' => v = .bool (decide (1 ≤ t ∧ t ≤ 5)) ∧ s' = s) := by
  refine Ok.step (fun f => f160_eq f _) ?_
  refine Ok.c (fun h => ?_) (fun h => ?_)
  · have h := of_decide_eq_true h
    refine Ok.ret ⟨?_, rfl⟩
    congr 1
    rw [decide_eq_decide]
    omega
  · have h := of_decide_eq_false h
    refine Ok.ret ⟨?_, rfl⟩
    congr 1
    exact (decide_eq_false (by omega)).symm
/-- Count of one element, or of an atom. -/
theorem count_ok (t : Int) (n : Value) (ht : (t = 2 ∨ t = 4 ∨ t = 5) ∨ (t = -2 ∨ t = -4 ∨ t = -5)) : Ok (fun f => callF En (runP En f) 103 [.agg ⟨valC t [n] [] []⟩]) s (fun v s' => v = .int .i64 1 ∧ Fresh s s') := by
  refine Ok.step (fun f => f103_eq f _ _ _ _) ?_
  refine enterV fun s1 h1 c1 f1 => ?_
  simp only [blk_itP, off_itP, Nat.zero_add]
  refine Ok.pl t3 (h1.cell 0 rfl) fun s2 r2 => ?_
  refine Ok.t rfl (Ok.f (decide_eq_false (by simp only [intOf]; omega)) ?_)
  refine Ok.pl t3 ((h1.reads r2).cell 0 rfl) fun s3 r3 => ?_
  have r3 := r2.trans r3
  refine Ok.t rfl ?_
  simp only [intOf]
  refine Ok.call (vec_ok t) ?_
  rintro v s4 ⟨rfl, rfl⟩
  refine Ok.t rfl ?_
  refine Ok.c (fun _ => ?_) (fun hn => ?_)
  · refine Ok.pl t28 ((h1.reads r3).cell 1 rfl) fun s5 r5 => ?_
    exact Ok.t rfl (Ok.ret ⟨rfl, f1.trans (r3.trans r5).fresh⟩)
  · have hn := of_decide_eq_false hn
    refine Ok.pl t3 ((h1.reads r3).cell 0 rfl) fun s5 r5 => ?_
    have r5 := r3.trans r5
    refine Ok.t rfl (Ok.f (decide_eq_false (by simp only; omega)) ?_)
    refine Ok.pl t3 ((h1.reads r5).cell 0 rfl) fun s6 r6 => ?_
    have r6 := r5.trans r6
    refine Ok.t rfl (Ok.f (decide_eq_false (by simp only; omega)) ?_)
    refine Ok.pl t3 ((h1.reads r6).cell 0 rfl) fun s7 r7 => ?_
    have r7 := r6.trans r7
    refine Ok.t rfl (Ok.f (decide_eq_false (by simp only; omega)) ?_)
    exact Ok.ret ⟨rfl, f1.trans r7.fresh⟩
theorem frz32 (t : Int) (a b c : List Value) (k : Value → Prog) : frzT En 32 (.agg ⟨valC t a b c⟩) k = k (.agg ⟨valC t a b c⟩) := by kernel_rfl
noncomputable def body145 (f : Nat) (t : Int) (n sy l : Value) : Prog := runP En f 145 (frameTm 11 [.agg ⟨[.int .i64 t, n, sy, l]⟩]) [.code (cB 145)] [] none
theorem f145_frz (f : Nat) (t : Int) (n sy l : Value) : callF En (runP En f) 145 [.agg ⟨[.int .i64 t, n, sy, l]⟩] =
    frzL En 20 2 n fun n => frzL En 20 9 sy fun sy => frzL En 20 32 l fun l => body145 f t n sy l := by kernel_rfl
theorem f145_lst (f : Nat) (t : Int) (n sy l : List Value) : callF En (runP En f) 145 [.agg ⟨valC t n sy l⟩] = body145 f t (lstV n) (lstV sy) (lstV l) := by kernel_rfl
theorem single_ok (t : Int) (n : Value) (ht : t = 2 ∨ t = 4 ∨ t = 5) : Ok (fun f => callF En (runP En f) 145 [.agg ⟨valC t [n] [] []⟩]) s (fun v s' => v = .agg ⟨valC (-t) [n] [] []⟩ ∧ Fresh s s') := by
  refine Ok.step (fun f => f145_eq f _ _ _ _) ?_
  refine enterV fun s1 h1 c1 f1 => ?_
  simp only [blk_itP, off_itP, Nat.zero_add]
  refine Ok.callP (Ok.new rfl) ?_
  rintro v s2 ⟨rfl, e2, g2, k2⟩
  have f2 : Fresh s1 s2 := ⟨by omega, k2⟩
  have h2 : Row s2.mem s.ctr (valC t [n] [] []) := h1.upd (f2.upd 0 0) (by simp only [valC, List.length_cons, List.length_nil]; omega) (.inr (by omega))
  refine Ok.t rfl ?_
  simp only [blk_itP, off_itP]
  refine Ok.plA ag32 sz32 rfl h2 fun s3 r3 => ?_
  refine Ok.t rfl ?_
  refine Ok.call (count_ok t n (.inl ht)) ?_
  rintro v s4 ⟨rfl, f4⟩
  refine Ok.t rfl (Ok.t rfl ?_)
  have h4 : Row s4.mem s.ctr (valC t [n] [] []) := (h2.reads r3).upd (f4.upd 0 0) (by rw [r3.2.1, e2]; simp only [valC, List.length_cons, List.length_nil]; omega) (.inr (by omega))
  have g4 : Row s4.mem s1.ctr [Value.int .i64 0, .slice none 0 0, .slice none 0 0, .slice none 0 0] := (g2.reads r3).upd (f4.upd 0 0) (by rw [r3.2.1, e2]; simp only [List.length_cons, List.length_nil]; omega) (.inr (by omega))
  refine Ok.pl t3 (h4.cell 0 rfl) fun s5 r5 => ?_
  refine Ok.t rfl ?_
  have e : IntKind.wrap IntKind.i64 ((0 : Int) + (Int.neg (intOf (Value.int IntKind.i64 t)))) = -t := by
    have : ∀ x : Int, Int.neg x = -x := fun _ => rfl
    rw [this, wrap_in _ (by simp only [intOf]; omega) (by simp only [intOf]; omega)]; simp only [intOf]; omega
  rw [e]
  refine Ok.callP (Ok.storeCell (o := 0) (by kernel_rfl) rfl (h4.reads r5) (Nat.zero_lt_succ _) rfl) ?_
  rintro v s6 ⟨rfl, c6, h6, k6⟩
  have c5 : s5.ctr = s4.ctr := r5.2.1
  have c3 : s3.ctr = s2.ctr := r3.2.1
  have l4 := f4.1
  have g6 : Row s6.mem s1.ctr [Value.int .i64 0, .slice none 0 0, .slice none 0 0, .slice none 0 0] := (g4.reads r5).congr fun j j1 j2 => k6 j (by omega)
  have h6 : Row s6.mem s.ctr (valC (-t) [n] [] []) := h6
  refine Ok.step (fun f => p145_3_eq f _ _ _ _) ?_
  refine Ok.plA ag32 sz32 rfl h6 fun s7 r7 => ?_
  refine Ok.t rfl ?_
  refine Ok.callP (Ok.storeRow (n := 4) (ws := valC (-t) [n] [] []) sz32 (g6.reads r7) rfl rfl rfl) ?_
  rintro v s8 ⟨rfl, c8, g8, k8⟩
  refine Ok.clA ag32 sz32 rfl g8 fun s9 r9 => ?_
  simp only [frz32]
  have c7 : s7.ctr = s6.ctr := r7.2.1
  have c9 : s9.ctr = s8.ctr := r9.2.1
  refine Ok.ret ⟨rfl, by omega, fun k hk => ?_⟩
  rw [r9.1, k8 k (.inl (by omega)), r7.1, k6 k (by omega), r5.1, f4.2 k (by omega), r3.1, f2.2 k (by omega), f1.2 k hk]
theorem singleN_ok {lo : Nat} (t : Int) (n v : Value) (ht : t = 2 ∨ t = 4 ∨ t = 5) (hg : Grow s.mem lo s.ctr 2 1 [n] v) (hlo : lo ≤ s.ctr) : Ok (fun f => callF En (runP En f) 145 [.agg ⟨[.int .i64 t, v, .slice none 0 0, .slice none 0 0]⟩]) s
    (fun v s' => v = .agg ⟨valC (-t) [n] [] []⟩ ∧ s.ctr ≤ s'.ctr ∧ ∀ k, k < lo → s'.mem.get k = s.mem.get k) := by
  simp only [f145_frz]
  refine Ok.frzL (by kernel_rfl) sl2 (by kernel_rfl) hg fun s' c1 f1 => ?_
  refine Ok.frzNil (Ok.frzNil ?_)
  simp only [← f145_lst]
  refine Ok.mono (single_ok t n ht) ?_
  rintro v s2 ⟨rfl, f2⟩
  exact ⟨rfl, by rw [← c1]; exact f2.1, fun k hk => by rw [f2.2 k (by omega), f1 k hk]⟩
end
end Go.Proofs.YtmjbmbmnnephjaaGreatDoor
/- text's reader: numbers. -/
namespace Go.Proofs.YtmjbmbmnnephjaaGreatDoor
open Go Go.Ev Go.Proofs Go.Num
def zeroC : List Value := [Value.int .i64 0, .slice none 0 0, .slice none 0 0, .slice none 0 0]
/-- A reader's row, a pointer to it, a row for what is answered. -/
structure VS (s0 s : St) (b p q : Nat) (x : List UInt8) (bad : Bool) (d : Int) (res : List Value) : Prop where
  rb : Row s.mem b (rdr x bad d)
  rp : Row s.mem p [pV b]
  rq : Row s.mem q res
  hl : res.length = 4
  hb : b + 4 ≤ s0.ctr
  hp : s0.ctr ≤ p ∧ p + 2 ≤ q ∧ q + 5 ≤ s.ctr
  u : Upd b 4 s0 s
section
variable {s0 s s1 : St} {b p q : Nat} {x : List UInt8} {bad : Bool} {d : Int} {res : List Value}
theorem VS.reads (h : VS s0 s b p q x bad d res) (r : Reads s s1) : VS s0 s1 b p q x bad d res :=
  ⟨h.rb.reads r, h.rp.reads r, h.rq.reads r, h.hl, h.hb, by rw [r.2.1]; exact h.hp, h.u.trans (r.upd b 4)⟩
theorem VS.upd {y : List UInt8} {bad' : Bool} {d' : Int} (h : VS s0 s b p q x bad d res) (g : Row s1.mem b (rdr y bad' d')) (u : Upd b 4 s s1) : VS s0 s1 b p q y bad' d' res := by
  have h1 := h.hp
  have h2 := h.hb
  have h3 := h.hl
  have h4 := u.1
  refine ⟨g, h.rp.upd u ?_ (.inr ?_), h.rq.upd u ?_ (.inr ?_), h.hl, h.hb, ⟨h1.1, h1.2.1, by omega⟩, h.u.trans u⟩
  · simp only [List.length_cons, List.length_nil]; omega
  · omega
  · omega
  · omega
theorem VS.fresh (h : VS s0 s b p q x bad d res) (f : Fresh s s1) : VS s0 s1 b p q x bad d res := by
  have h1 := h.hp
  have h2 := h.hb
  refine h.upd (h.rb.upd (f.upd 0 0) ?_ (.inr (Nat.zero_le _))) (f.upd b 4)
  simp only [rdr, List.length_cons, List.length_nil]; omega
end
theorem len28 : builtinA En Builtin.len (28 :: []) (Value.slice none 0 0 :: []) = .ret (vInt 0) := by kernel_rfl
theorem appT28 : AppT En 28 2 1 8 := ⟨by kernel_rfl, by kernel_rfl, by kernel_rfl, by kernel_rfl, by omega⟩
/-- The number in front is taken, and no other one is there. -/
theorem nums14_ok {s0 s : St} {b p q r9 : Nat} {d : Int} (t : Nat) (n : Int) (ht : t = 2 ∨ t = 4 ∨ t = 5) (h0 : nul ≤ n) (h1 : n ≤ 9223372036854775807) (h : VS s0 s b p q [] false d zeroC) (h9 : Row s.mem r9 zeroC) (hr : q + 5 ≤ r9 ∧ r9 + 5 ≤ s.ctr) :
    Ok (fun f => p90_14 f p 0 q 0 p 0 (mkStr (numT t n)) r9 0) s (fun v s' => v = .agg ⟨valC (-(t : Int)) [.int .i64 n] [] []⟩ ∧ Row s'.mem b (rdr [] false d) ∧ Upd b 4 s0 s') := by
  have hb := h.hb
  have hp := h.hp
  refine Ok.step (fun f => p90_14_eq f _ _ _ _ _ _ _ _ _) ?_
  refine Ok.call (number_ok s t n ht h0 h1) ?_
  rintro v s1 ⟨rfl, rfl⟩
  refine Ok.t rfl (Ok.f rfl ?_)
  refine Ok.pl t28 (h9.cell 1 rfl) fun s2 r2 => ?_
  simp only [len28]
  refine Ok.callP (Q1 := fun v s' => v = vInt 0 ∧ s' = s2) (Ok.ret ⟨rfl, rfl⟩) ?_
  rintro v s3 ⟨rfl, rfl⟩
  refine Ok.t rfl (Ok.f rfl ?_)
  have h3 := h.reads r2
  have g3 := h9.reads r2
  have c3 : s3.ctr = s1.ctr := r2.2.1
  refine Ok.callP (Ok.storeCell (o := 0) (by kernel_rfl) rfl g3 (Nat.zero_lt_succ _) rfl) ?_
  rintro v s4 ⟨rfl, c4, g4, k4⟩
  have f4 : Upd r9 5 s3 s4 := ⟨by omega, fun k _ hk => k4 k (by omega)⟩
  refine Ok.pl t28 (g4.cell 1 rfl) fun s5 r5 => ?_
  have g5 := g4.reads r5
  have c5 : s5.ctr = s4.ctr := r5.2.1
  refine Ok.callP (Ok.app (lo := s5.ctr) (cs := []) (e := Value.int IntKind.i64 n) appT28 (Grow.nil _ _ _ _ _) rfl rfl (Nat.le_refl _) (by decide)) ?_
  rintro w s6 ⟨g6, c6, k6⟩
  have e6 : ([] ++ cellsL (Value.int IntKind.i64 n)) = [Value.int IntKind.i64 n] := rfl
  rw [e6] at g6
  have g56 := g5.upd (b := 0) (n := 0) ⟨c6, fun k hk _ => k6 k hk⟩ (by simp only [zeroC, List.length_set, List.length_cons, List.length_nil]; omega) (.inr (Nat.zero_le _))
  obtain ⟨w1, w2⟩ := g6.one
  refine Ok.callP (Ok.storeCell (o := 1) (by kernel_rfl) w2 g56 (by simp [zeroC]) w1) ?_
  rintro v s7 ⟨rfl, c7, g7, k7⟩
  have g67 : Grow s7.mem s5.ctr s7.ctr 2 1 [Value.int IntKind.i64 n] w := g6.congr (by omega) fun j j1 j2 => k7 j (by omega)
  have g7 : Row s7.mem r9 [.int .i64 (t : Int), w, .slice none 0 0, .slice none 0 0] := g7
  have u37 : Upd r9 5 s3 s7 := ⟨by omega, fun k hk hk' => by rw [k7 k (by omega), k6 k (by omega), r5.1, k4 k (by omega)]⟩
  have h7 : VS s0 s7 b p q [] false d zeroC := by
    refine ⟨h3.rb.upd u37 ?_ (.inl ?_), h3.rp.upd u37 ?_ (.inl ?_), h3.rq.upd u37 ?_ (.inl ?_), rfl, hb, ⟨hp.1, hp.2.1, by omega⟩, h3.u.above u37 (by omega)⟩
    all_goals simp only [rdr, zeroC, List.length_cons, List.length_nil]; omega
  refine Ok.pl t70 (h7.rp.cell 0 rfl) fun s8 r8 => ?_
  refine Ok.t rfl ?_
  have h8 := h7.reads r8
  have c8 : s8.ctr = s7.ctr := r8.2.1
  refine Ok.call (take_ok h8.rb [32]) ?_
  rintro v s9 ⟨rfl, g9, u9, c9⟩
  have g9 : Row s9.mem b (rdr [] false d) := g9
  have h9' := h8.upd g9 u9
  refine Ok.t rfl (Ok.t rfl ?_)
  have r9row : Row s9.mem r9 [.int .i64 (t : Int), w, .slice none 0 0, .slice none 0 0] := (g7.reads r8).upd u9 (by simp only [List.length_cons, List.length_nil]; omega) (.inr (by omega))
  refine Ok.plA ag32 sz32 rfl r9row fun s10 r10 => ?_
  refine Ok.t rfl ?_
  have h10 := h9'.reads r10
  have c10 : s10.ctr = s9.ctr := r10.2.1
  have g10 : Grow s10.mem s5.ctr s10.ctr 2 1 [Value.int IntKind.i64 n] w := g67.congr (by omega) fun j j1 j2 => by rw [r10.1, u9.2 j (by omega) (.inr (by omega)), r8.1]
  refine Ok.call (singleN_ok (t : Int) (.int .i64 n) w (by omega) g10 (by omega)) ?_
  rintro v s11 ⟨rfl, c11, k11⟩
  refine Ok.t rfl ?_
  have u11 : Upd s5.ctr (s10.ctr - s5.ctr) s10 s11 := ⟨c11, fun k hk hk' => k11 k (by omega)⟩
  have h11 : VS s0 s11 b p q [] false d zeroC := by
    refine ⟨h10.rb.upd u11 ?_ (.inl ?_), h10.rp.upd u11 ?_ (.inl ?_), h10.rq.upd u11 ?_ (.inl ?_), rfl, hb, ⟨hp.1, hp.2.1, by omega⟩, h10.u.above u11 (by omega)⟩
    all_goals simp only [rdr, zeroC, List.length_cons, List.length_nil]; omega
  refine Ok.callP (Ok.storeRow (n := 4) (ws := valC (-(t : Int)) [.int .i64 n] [] []) sz32 h11.rq rfl rfl rfl) ?_
  rintro v s12 ⟨rfl, c12, g12, k12⟩
  refine Ok.clA ag32 sz32 rfl g12 fun s13 r13 => ?_
  simp only [frz32]
  have u12 : Upd q 5 s11 s12 := ⟨by omega, fun k _ hk => k12 k (by omega)⟩
  have c13 : s13.ctr = s12.ctr := r13.2.1
  refine Ok.ret ⟨rfl, ?_, ?_⟩
  · refine (h11.rb.upd u12 ?_ (.inl ?_)).reads r13
    · simp only [rdr, List.length_cons, List.length_nil]; omega
    · simp only [rdr, List.length_cons, List.length_nil]; omega
  · exact (h11.u.above u12 (by omega)).trans (r13.upd b 4)
theorem numbers_ok {s : St} {b : Nat} {d : Int} (t : Nat) (n : Int) (ht : t = 2 ∨ t = 4 ∨ t = 5) (h0 : nul ≤ n) (h1 : n ≤ 9223372036854775807) (h : Row s.mem b (rdr (numT t n) false d)) (hb : b + 4 ≤ s.ctr) :
    Ok (fun f => callF En (runP En f) 90 [pV b]) s (fun v s' => v = .agg ⟨valC (-(t : Int)) [.int .i64 n] [] []⟩ ∧ Row s'.mem b (rdr [] false d) ∧ Upd b 4 s s') := by
  have hlen := numT_len t n h0 h1
  refine Ok.step (fun f => f90_eq f b) ?_
  refine Ok.g rfl ?_
  refine Ok.callP (Ok.new rfl) ?_
  rintro v s1 ⟨rfl, e1, g1, k1⟩
  refine Ok.t rfl ?_
  simp only [blk_itP, off_itP]
  refine Ok.callP (Ok.new rfl) ?_
  rintro v s2 ⟨rfl, e2, g2, k2⟩
  refine Ok.t rfl ?_
  simp only [blk_itP, off_itP]
  have f1 : Fresh s s1 := ⟨by omega, k1⟩
  have f2 : Fresh s1 s2 := ⟨by omega, k2⟩
  have v2 : VS s s2 b s.ctr s1.ctr (numT t n) false d zeroC := by
    refine ⟨h.upd ((f1.trans f2).upd 0 0) ?_ (.inr (Nat.zero_le _)), Row.upd (s := s1) g1 (f2.upd 0 0) ?_ (.inr (Nat.zero_le _)), g2, rfl, hb, ⟨Nat.le_refl _, by omega, by omega⟩, (f1.trans f2).upd b 4⟩
    all_goals simp only [rdr, List.length_cons, List.length_nil]; omega
  refine Ok.call (one_ok (numT_okC t n) (by omega) v2.rb v2.rp) ?_
  rintro v s3 ⟨rfl, g3, u3, c3⟩
  have v3 := v2.upd g3 u3
  refine Ok.t rfl ?_
  refine Ok.call (cutSuffix_ok s3 (mkStr (numT t n)) (mkStr [98]) (by show (numT t n).length ≤ _; omega)) ?_
  rintro v s4 ⟨rfl, rfl⟩
  simp only [bl_mk]
  refine Ok.t rfl ?_
  have hs : sufB (numT t n) [98] = false := sufB_no fun c hc e => by
    have := numT_okC t n c (List.mem_of_getLast? hc)
    subst e
    revert this
    unfold okC
    decide
  simp only [hs]
  refine Ok.f rfl (Ok.g rfl ?_)
  refine Ok.callP (Ok.new rfl) ?_
  rintro v s5 ⟨rfl, e5, g5, k5⟩
  refine Ok.t rfl ?_
  simp only [blk_itP, off_itP]
  have f5 : Fresh s4 s5 := ⟨by omega, k5⟩
  refine Ok.callP (Ok.storeRow (n := 4) (ws := zeroC) sz32 g5 rfl rfl rfl) ?_
  rintro v s6 ⟨rfl, c6, g6, k6⟩
  have f6 : Fresh s4 s6 := ⟨by omega, fun k hk => by rw [k6 k (.inl (by omega)), k5 k hk]⟩
  have v6 := v3.fresh f6
  have hp3 := v3.hp
  exact nums14_ok t n ht h0 h1 v6 g6 ⟨by omega, by omega⟩
end Go.Proofs.YtmjbmbmnnephjaaGreatDoor
/- text's reader: value, of a number's text. -/
namespace Go.Proofs.YtmjbmbmnnephjaaGreatDoor
open Go Go.Ev Go.Proofs Go.Num
theorem up_ok {s : St} {b p : Nat} {x : List UInt8} {bad : Bool} {d : Int} (h : Row s.mem b (rdr x bad d)) (hp : Row s.mem p [pV b]) (hd : 0 ≤ d ∧ d ≤ 1000) :
    Ok (fun f => callF En (runP En f) 81 [pV p]) s (fun v s' => v = .tuple ⟨[]⟩ ∧ Row s'.mem b (rdr x bad (d - 1)) ∧ Upd b 4 s s') := by
  refine Ok.step (fun f => f81_eq f p 0) ?_
  refine Ok.pl t70 (hp.cell 0 rfl) fun s1 r1 => ?_
  refine Ok.t rfl ?_
  refine Ok.pl (b := b) (o := 2) t3 ((h.reads r1).cell 2 rfl) fun s2 r2 => ?_
  have r2 := r1.trans r2
  refine Ok.t rfl ?_
  have e : IntKind.wrap IntKind.i64 ((intOf (Value.int IntKind.i64 d)) + (-1 : Int)) = d - 1 := by
    rw [wrap_in _ (by simp only [intOf]; omega) (by simp only [intOf]; omega)]; simp only [intOf]; omega
  rw [e]
  refine Ok.callP (Ok.storeCell (b := b) (o := 2) (by kernel_rfl) rfl (h.reads r2) (by simp [rdr]) rfl) ?_
  rintro v s3 ⟨rfl, c3, g3, k3⟩
  refine Ok.ret ⟨rfl, g3, by rw [c3, r2.2.1]; exact Nat.le_refl _, fun k _ hk => ?_⟩
  rw [k3 k (by omega), r2.1]
theorem value5_ok {s0 s : St} {b p q : Nat} (t : Nat) (n : Int) (ht : t = 2 ∨ t = 4 ∨ t = 5) (h0 : nul ≤ n) (h1 : n ≤ 9223372036854775807) (h : VS s0 s b p q (numT t n) false 1 zeroC) :
    Ok (fun f => p48_5 f p 0 q 0 p 0) s (fun v s' => v = .agg ⟨valC (-(t : Int)) [.int .i64 n] [] []⟩ ∧ Row s'.mem b (rdr [] false 0) ∧ Upd b 4 s0 s') := by
  have hb := h.hb
  have hp := h.hp
  obtain ⟨c, r, hx, hc⟩ := numT_head t n
  have ne : ∀ (e : UInt8) (l : List UInt8), (e.toNat = 58 ∨ e.toNat = 44 ∨ e.toNat = 40) → preB (numT t n) (e :: l) = false := by
    intro e l he
    rw [hx]
    exact preB_no fun h => by subst h; omega
  have hby : byteAt (mkStr (numT t n)) 0 = c.toNat := by
    rw [hx]; rfl
  have hlen : 1 ≤ (numT t n).length := by rw [hx]; simp
  have hemp : beqB (numT t n) [] = false := by rw [hx]; rfl
  refine Ok.step (fun f => p48_5_eq f _ _ _ _ _ _) ?_
  -- bad
  refine Ok.pl t70 (h.rp.cell 0 rfl) fun s1 r1 => ?_
  refine Ok.t rfl ?_
  have h := h.reads r1
  refine Ok.pl (b := b) (o := 1) t4 (h.rb.cell 1 rfl) fun s2 r2 => ?_
  refine Ok.t rfl (Ok.f rfl ?_)
  have h := h.reads r2
  -- empty
  refine Ok.pl t70 (h.rp.cell 0 rfl) fun s3 r3 => ?_
  refine Ok.t rfl ?_
  have h := h.reads r3
  refine Ok.pl (b := b) (o := 0) t9 (h.rb.cell 0 rfl) fun s4 r4 => ?_
  refine Ok.t rfl (Ok.f hemp ?_)
  have h := h.reads r4
  -- "::"
  refine Ok.pl t70 (h.rp.cell 0 rfl) fun s5 r5 => ?_
  refine Ok.t rfl ?_
  have h := h.reads r5
  refine Ok.call (take_ok h.rb [58, 58]) ?_
  rintro v s6 ⟨rfl, g6, u6, c6⟩
  have e6 := ne 58 [58] (.inl rfl)
  rw [cutPre_no e6] at g6
  rw [e6]
  have h := h.upd g6 u6
  refine Ok.t rfl (Ok.f rfl ?_)
  -- ","
  refine Ok.pl t70 (h.rp.cell 0 rfl) fun s7 r7 => ?_
  refine Ok.t rfl ?_
  have h := h.reads r7
  refine Ok.call (take_ok h.rb [44]) ?_
  rintro v s8 ⟨rfl, g8, u8, c8⟩
  have e8 := ne 44 [] (.inr (.inl rfl))
  rw [cutPre_no e8] at g8
  rw [e8]
  have h := h.upd g8 u8
  refine Ok.t rfl (Ok.f rfl ?_)
  -- "([]"
  refine Ok.pl t70 (h.rp.cell 0 rfl) fun s9 r9 => ?_
  refine Ok.t rfl ?_
  have h := h.reads r9
  refine Ok.pl (b := b) (o := 0) t9 (h.rb.cell 0 rfl) fun s10 r10 => ?_
  refine Ok.t rfl ?_
  have h := h.reads r10
  refine Ok.call (prefix_ok (mkStr (numT t n)) (mkStr [40, 91, 93])) ?_
  rintro v s11 ⟨rfl, rfl⟩
  simp only [bl_mk]
  rw [ne 40 [91, 93] (.inr (.inr rfl))]
  refine Ok.t rfl (Ok.f rfl ?_)
  -- "("
  refine Ok.pl t70 (h.rp.cell 0 rfl) fun s12 r12 => ?_
  refine Ok.t rfl ?_
  have h := h.reads r12
  refine Ok.call (take_ok h.rb [40]) ?_
  rintro v s13 ⟨rfl, g13, u13, c13⟩
  have e13 := ne 40 [] (.inr (.inr rfl))
  rw [cutPre_no e13] at g13
  rw [e13]
  have h := h.upd g13 u13
  refine Ok.t rfl (Ok.f rfl ?_)
  -- '{'
  refine Ok.pl t70 (h.rp.cell 0 rfl) fun s14 r14 => ?_
  refine Ok.t rfl ?_
  have h := h.reads r14
  refine Ok.pl (b := b) (o := 0) t9 (h.rb.cell 0 rfl) fun s15 r15 => ?_
  simp only [strOf_mk, data_mk, hby]
  refine Ok.t rfl (Ok.t (Nat.ble_eq_true_of_le hlen) (Ok.f (decide_eq_false (by simp only [Int.ofNat_eq_natCast]; omega)) ?_))
  have h := h.reads r15
  -- '`'
  refine Ok.pl t70 (h.rp.cell 0 rfl) fun s16 r16 => ?_
  refine Ok.t rfl ?_
  have h := h.reads r16
  refine Ok.pl (b := b) (o := 0) t9 (h.rb.cell 0 rfl) fun s17 r17 => ?_
  simp only [strOf_mk, data_mk, hby]
  refine Ok.t rfl (Ok.t (Nat.ble_eq_true_of_le hlen) (Ok.f (decide_eq_false (by simp only [Int.ofNat_eq_natCast]; omega)) ?_))
  have h := h.reads r17
  -- numbers
  refine Ok.pl t70 (h.rp.cell 0 rfl) fun s18 r18 => ?_
  refine Ok.t rfl ?_
  have h := h.reads r18
  have hp18 := h.hp
  refine Ok.call (numbers_ok (b := b) t n ht h0 h1 h.rb (by omega)) ?_
  rintro v s19 ⟨rfl, g19, u19⟩
  have h := h.upd g19 u19
  refine Ok.t rfl ?_
  refine Ok.callP (Ok.storeRow (n := 4) (ws := valC (-(t : Int)) [.int .i64 n] [] []) sz32 h.rq rfl rfl rfl) ?_
  rintro v s20 ⟨rfl, c20, g20, k20⟩
  refine Ok.g rfl ?_
  have hp19 := h.hp
  have u20 : Upd q 5 s19 s20 := ⟨by omega, fun k _ hk => k20 k (by omega)⟩
  have b20 : Row s20.mem b (rdr [] false 1) := h.rb.upd u20 (by simp only [rdr, List.length_cons, List.length_nil]; omega) (.inl (by simp only [rdr, List.length_cons, List.length_nil]; omega))
  have p20 : Row s20.mem p [pV b] := h.rp.upd u20 (by simp only [List.length_cons, List.length_nil]; omega) (.inl (by simp only [List.length_cons, List.length_nil]; omega))
  refine Ok.call (up_ok b20 p20 (by omega)) ?_
  rintro v s21 ⟨rfl, g21, u21⟩
  have q21 : Row s21.mem q (valC (-(t : Int)) [.int .i64 n] [] []) := g20.upd u21 (by simp only [valC, List.length_cons, List.length_nil]; omega) (.inr (by omega))
  refine Ok.clA ag32 sz32 rfl q21 fun s22 r22 => ?_
  simp only [frz32]
  refine Ok.ret ⟨rfl, ?_, ?_⟩
  · exact Row.reads g21 r22
  · exact ((h.u.above u20 (by omega)).trans u21).trans (r22.upd b 4)
/-- A number's text is read as its atom. -/
theorem value_num {s : St} {b : Nat} (t : Nat) (n : Int) (ht : t = 2 ∨ t = 4 ∨ t = 5) (h0 : nul ≤ n) (h1 : n ≤ 9223372036854775807) (h : Row s.mem b (rdr (numT t n) false 0)) (hb : b + 4 ≤ s.ctr) :
    Ok (fun f => callF En (runP En f) 48 [pV b]) s (fun v s' => v = .agg ⟨valC (-(t : Int)) [.int .i64 n] [] []⟩ ∧ Row s'.mem b (rdr [] false 0) ∧ Upd b 4 s s') := by
  refine Ok.step (fun f => f48_eq f b) ?_
  refine Ok.g rfl ?_
  refine Ok.callP (Ok.new rfl) ?_
  rintro v s1 ⟨rfl, e1, g1, k1⟩
  refine Ok.t rfl ?_
  simp only [blk_itP, off_itP]
  refine Ok.callP (Ok.new rfl) ?_
  rintro v s2 ⟨rfl, e2, g2, k2⟩
  refine Ok.t rfl ?_
  simp only [blk_itP, off_itP]
  have f1 : Fresh s s1 := ⟨by omega, k1⟩
  have f2 : Fresh s1 s2 := ⟨by omega, k2⟩
  have v2 : VS s s2 b s.ctr s1.ctr (numT t n) false 0 zeroC := by
    refine ⟨h.upd ((f1.trans f2).upd 0 0) ?_ (.inr (Nat.zero_le _)), Row.upd (s := s1) g1 (f2.upd 0 0) ?_ (.inr (Nat.zero_le _)), g2, rfl, hb, ⟨Nat.le_refl _, by omega, by omega⟩, (f1.trans f2).upd b 4⟩
    all_goals simp only [rdr, List.length_cons, List.length_nil]; omega
  refine Ok.pl t70 (v2.rp.cell 0 rfl) fun s3 r3 => ?_
  refine Ok.t rfl ?_
  have v3 := v2.reads r3
  refine Ok.pl (b := b) (o := 2) t3 (v3.rb.cell 2 rfl) fun s4 r4 => ?_
  refine Ok.t rfl ?_
  have v4 := v3.reads r4
  refine Ok.callP (Ok.storeCell (b := b) (o := 2) (by kernel_rfl) rfl v4.rb (by simp [rdr]) rfl) ?_
  rintro v s5 ⟨rfl, c5, g5, k5⟩
  have g5 : Row s5.mem b (rdr (numT t n) false 1) := g5
  have v5 := v4.upd g5 ⟨by omega, fun k _ hk => k5 k (by omega)⟩
  refine Ok.pl t70 (v5.rp.cell 0 rfl) fun s6 r6 => ?_
  refine Ok.t rfl ?_
  have v6 := v5.reads r6
  refine Ok.pl (b := b) (o := 2) t3 (v6.rb.cell 2 rfl) fun s7 r7 => ?_
  refine Ok.t rfl (Ok.f rfl ?_)
  exact value5_ok t n ht h0 h1 (v6.reads r7)
end Go.Proofs.YtmjbmbmnnephjaaGreatDoor
/- strings.Builder: Grow, WriteString, String. -/
namespace Go.Ev
open Go
/-- A new row whose cells are not known yet. -/
theorem Ok.newE {n el : Nat} {ex z sy : Bool} {g : Nat → Value} {s : St} :
    Ok (fun _ => Prog.newH (Hdr.mk n el false ex z 0 sy false []) [] (fun k => Prog.ret (g k))) s
      (fun v s' => v = g s.ctr ∧ s'.ctr = s.ctr + n + 1 ∧ s'.mem.get s.ctr = some (.hdr (Hdr.mk n el false ex z 0 sy false [])) ∧ (∀ k, k < s.ctr → s'.mem.get k = s.mem.get k) ∧ Above s.ctr s s') := by
  obtain ⟨m, c, l⟩ := s
  have e : Nat.ble 0 n = true := Nat.ble_eq_true_of_le (Nat.zero_le _)
  refine ⟨g c, ⟨m.set c (some (.hdr (Hdr.mk n el false ex z 0 sy false []))), c + n + 1, ⟨true, c, n + 1⟩ :: l⟩, ⟨rfl, rfl, ?_, fun k hk => ?_, [⟨true, c, n + 1⟩], rfl, fun a ha => ?_⟩, 0, fun _ _ => ?_⟩
  · simp only
    rw [Tr.get_set, if_pos rfl]
  · simp only at hk ⊢
    rw [Tr.get_set, if_neg (by omega)]
  · simp only [writesOf, List.mem_singleton] at ha
    subst ha
    exact Nat.le_refl _
  · simp only [Prog.run, List.length_nil, e, St.newH, Nat.add_eq, layCells]
end Go.Ev
namespace Go.Proofs.YtmjbmbmnnephjaaGreatDoor
open Go Go.Ev Go.Proofs
/-- A builder with room, and what has been written to it. -/
def Bld (s : St) (b cap : Nat) (done : List UInt8) : Prop := ∃ r, BRow s.mem b (ptrV b) (.slice (some ⟨r, 0, none⟩) done.length (capOf cap false)) ∧ s.mem.get r = some (.hdr ⟨cap, 5, false, false, true, 0, false, false, []⟩) ∧ CellsAt s.mem r (r + 1) (u8s done) ∧ b + 3 ≤ r ∧ r + 1 + cap ≤ s.ctr ∧ done.length ≤ cap
theorem Bld.reads {s s' : St} {b cap : Nat} {done : List UInt8} (h : Bld s b cap done) (r : Reads s s') : Bld s' b cap done := by
  obtain ⟨k, h1, h2, h3, h4, h5, h6⟩ := h
  exact ⟨k, h1.reads r, by rw [r.1]; exact h2, by rw [r.1]; exact h3, h4, by rw [r.2.1]; exact h5, h6⟩
theorem apart_nil {c : Nat} {ws all : List Acc} (h : ∀ a, a ∈ ws → c ≤ a.k) : apartLogs ws all [] [] = true := apart_above h fun b hb => by cases hb
theorem slice0 (c n cp : Nat) : sliceA En 65 (Value.slice (some ⟨c, 0, none⟩) n cp) none (some (.int .i64 0)) none = Ev.gd true (Ev.gd (Nat.ble 0 0 && Nat.ble 0 (capLo cp)) (match capEx cp with
          | true => (match Nat.beq (capLo cp) 0 with
            | true => .ret (.slice (some ⟨c, 0, none⟩) 0 (capOf 0 true))
            | false => .ret (.slice (some ⟨c, 0 + 0 * 1, none⟩) (0 - 0) (capOf (capLo cp - 0) true)))
          | false => .hd c fun hd => Ev.gd (Nat.beq hd.el 5) (.ret (.slice (some ⟨c, 0 + 0 * 1, none⟩) (0 - 0) (capOf (capLo cp - 0) false))))) := by kernel_rfl
theorem copy0 (c cp : Nat) : builtinA En Builtin.copy (65 :: (65 :: [])) ((Value.slice (some ⟨c, 0, none⟩) 0 cp) :: (Value.slice none 0 0 :: [])) = .ret (vInt 0) := by kernel_rfl
theorem cap0 : builtinA En Builtin.cap (65 :: []) (Value.slice none 0 0 :: []) = .ret (vInt 0) := by kernel_rfl
theorem lenS (a : Option Addr) (n c : Nat) : builtinA En Builtin.len (65 :: []) (Value.slice a n c :: []) = .ret (vInt n) := by kernel_rfl
theorem capLo_of (n : Nat) : capLo (capOf n false) = n := by show (2 * n + 0) / 2 = n; omega
theorem capEx_of (n : Nat) : capEx (capOf n false) = false := by
  simp only [capEx, capOf, Nat.add_eq, Nat.mul_eq, Nat.add_zero]
  have : Nat.mod (2 * n) 2 = 0 := by show (2 * n) % 2 = 0; omega
  rw [this]; rfl
theorem growI_ok {s : St} {b n : Nat} (h : BRow s.mem b (ptrV b) (.slice none 0 0)) (hb : b + 3 ≤ s.ctr) (hn : n ≤ 1048576) :
    Ok (fun f => callF En (runP En f) 135 [ptrV b, .int .i64 n]) s (fun w s' => w = .tuple ⟨[]⟩ ∧ Bld s' b n [] ∧ Low b s s') := by
  have ew : IntKind.i64.wrap (IntKind.i64.wrap (2 * intOf (vInt 0)) + (n : Int)) = Int.ofNat n := by
    rw [show IntKind.i64.wrap (2 * intOf (vInt 0)) = 0 from rfl, Int.zero_add, wrap_in _ (by omega) (by omega)]; rfl
  refine Ok.step (fun f => f135_eq f b n) ?_
  refine Ok.segLoad t65 h.c1 fun s1 r1 => ?_
  simp only [cap0]
  refine Ok.seg (Q1 := fun w s' => w = vInt 0 ∧ s' = ⟨s1.mem, s1.ctr, []⟩) (Ok.ret ⟨rfl, rfl⟩) ?_
  rintro w s2 ⟨rfl, rfl⟩
  refine Ok.gdL (by kernel_rfl) (Ok.t rfl ?_)
  rw [ew]
  simp only [f183, List.nil_append]
  refine Ok.seg (Ok.g (by simp only [Bool.and_eq_true]; exact ⟨Nat.ble_eq_true_of_le hn, by kernel_rfl⟩) Ok.newE) ?_
  rintro w s3 ⟨rfl, c3, g3, m3, l3, e3, a3⟩
  simp only [List.append_nil] at e3
  subst e3
  simp only at c3 g3 m3 a3 ⊢
  have hc1 : s1.ctr = s.ctr := r1.2.1
  have h1 := h.reads r1
  have h3 : BRow s3.mem b (ptrV b) (.slice none 0 0) := h1.congr fun j _ hj => m3 j (by omega)
  refine Ok.gdL (by simp only [freeL]; rfl) (Ok.t rfl ?_)
  refine Ok.segLoad (s := ⟨s3.mem, s3.ctr, s3.log ++ s1.log⟩) t65 h3.c1 fun s4 r4 => ?_
  have a8 : apartLogs (writesOf s3.log) s3.log [] [⟨false, b + 1 + 1, 1⟩, ⟨false, b, 1⟩] = true := apart_above (c := s1.ctr) a3 fun x hx => by
    simp only [List.mem_cons, List.not_mem_nil, or_false] at hx
    rcases hx with rfl | rfl <;> simp only <;> omega
  refine Ok.gdL (by simp only [freeL, writesOf, a8, Bool.or_true]; rfl) ?_
  simp only [lenS]
  refine Ok.seg (Q1 := fun w s' => w = vInt 0 ∧ s' = ⟨s4.mem, s4.ctr, []⟩) (Ok.ret ⟨rfl, rfl⟩) ?_
  rintro w s5 ⟨rfl, rfl⟩
  refine Ok.gdL (by simp only [freeL, writesOf, apart_nil a3, Bool.or_true]; rfl) (Ok.t rfl ?_)
  simp only [show intOf (vInt 0) = 0 from rfl, slice0, show sBlk (Value.slice (some ⟨s1.ctr, 0, none⟩) n (capOf n false)) = s1.ctr from rfl, show sOff (Value.slice (some ⟨s1.ctr, 0, none⟩) n (capOf n false)) = 0 from rfl, show sLen (Value.slice (some ⟨s1.ctr, 0, none⟩) n (capOf n false)) = n from rfl, show sCap (Value.slice (some ⟨s1.ctr, 0, none⟩) n (capOf n false)) = capOf n false from rfl, capLo_of, capEx_of]
  have h4 : BRow s4.mem b (ptrV b) (.slice none 0 0) := by rw [r4.1]; exact h3
  have g4 : s4.mem.get s1.ctr = some (.hdr ⟨n, 5, false, false, true, 0, false, false, []⟩) := by rw [r4.1]; exact g3
  refine Ok.seg (Q1 := fun w s' => w = Value.slice (some ⟨s1.ctr, 0, none⟩) 0 (capOf n false) ∧ Reads ⟨s4.mem, s4.ctr, []⟩ s') (Ok.g rfl (Ok.g (by simp only [Bool.and_eq_true]; exact ⟨rfl, Nat.ble_eq_true_of_le (Nat.zero_le _)⟩) (Ok.hdr g4 fun s6 r6 => Ok.g rfl (Ok.ret ⟨rfl, r6⟩)))) ?_
  rintro w s6 ⟨rfl, r6⟩
  refine Ok.gdL (by simp only [freeL]; rfl) (Ok.t rfl ?_)
  have h6 : BRow s6.mem b (ptrV b) (.slice none 0 0) := by rw [r6.1]; exact h4
  refine Ok.pl (s := ⟨s6.mem, s6.ctr, s6.log ++ s4.log⟩) t65 h6.c1 fun s7 r7 => ?_
  simp only [show sBlk (Value.slice (some ⟨s1.ctr, 0, none⟩) 0 (capOf n false)) = s1.ctr from rfl, show sOff (Value.slice (some ⟨s1.ctr, 0, none⟩) 0 (capOf n false)) = 0 from rfl, show sLen (Value.slice (some ⟨s1.ctr, 0, none⟩) 0 (capOf n false)) = 0 from rfl, show sCap (Value.slice (some ⟨s1.ctr, 0, none⟩) 0 (capOf n false)) = capOf n false from rfl, copy0]
  refine Ok.callP (Q1 := fun w s' => w = vInt 0 ∧ s' = s7) (Ok.ret ⟨rfl, rfl⟩) ?_
  rintro w s8 ⟨rfl, rfl⟩
  refine Ok.t rfl ?_
  have h7 : BRow s8.mem b (ptrV b) (.slice none 0 0) := by rw [r7.1]; exact h6
  refine Ok.callP (Ok.store1 (by kernel_rfl) rfl h7.free (by omega) rfl) ?_
  rintro w s9 ⟨rfl, rfl⟩
  have em : s8.mem = s3.mem := by rw [r7.1, r6.1, r4.1]
  have ec : s8.ctr = s3.ctr := by rw [r7.2.1]; exact r6.2.1.trans r4.2.1
  refine Ok.ret ⟨rfl, ⟨s1.ctr, ⟨?_, ?_, ?_, trivial⟩, ?_, trivial, by omega, ?_, Nat.zero_le _⟩, ?_, fun k hk => ?_⟩
  · simp only
    rw [Tr.get_set, if_neg (by omega)]; exact h7.1
  · simp only
    rw [Tr.get_set, if_neg (by omega)]; exact h7.2.1
  · simp only
    rw [Tr.get_set, if_pos (by omega)]; rfl
  · simp only
    rw [Tr.get_set, if_neg (by omega), em]; exact g3
  · simp only; omega
  · simp only; omega
  · simp only
    rw [Tr.get_set, if_neg (by omega), em, m3 k (by omega), r1.1]
theorem grow_ok {s : St} {b n : Nat} (h : BRow s.mem b (.pointer none) (.slice none 0 0)) (hb : b + 3 ≤ s.ctr) (hn : n ≤ 1048576) (h0 : 0 < n) :
    Ok (fun f => callF En (runP En f) 77 [ptrV b, .int .i64 n]) s (fun w s' => w = .tuple ⟨[]⟩ ∧ Bld s' b n [] ∧ Low b s s') := by
  refine Ok.step (fun f => f77_eq f b n) ?_
  refine Ok.call (check0_ok h hb) ?_
  rintro w s1 ⟨rfl, h1, c1, m1⟩
  refine Ok.t rfl (Ok.f (decide_eq_false (by omega)) ?_)
  refine Ok.step (fun f => p77_3_eq f b n) ?_
  refine Ok.segLoad t65 h1.c1 fun s2 r2 => ?_
  simp only [cap0]
  refine Ok.seg (Q1 := fun w s' => w = vInt 0 ∧ s' = ⟨s2.mem, s2.ctr, []⟩) (Ok.ret ⟨rfl, rfl⟩) ?_
  rintro w s3 ⟨rfl, rfl⟩
  refine Ok.gdL (by kernel_rfl) (Ok.t rfl ?_)
  simp only [List.nil_append]
  have h2 := h1.reads r2
  refine Ok.segLoad t65 h2.c1 fun s4 r4 => ?_
  refine Ok.gdL (by kernel_rfl) ?_
  simp only [lenS]
  refine Ok.seg (Q1 := fun w s' => w = vInt 0 ∧ s' = ⟨s4.mem, s4.ctr, []⟩) (Ok.ret ⟨rfl, rfl⟩) ?_
  rintro w s5 ⟨rfl, rfl⟩
  refine Ok.gdL (by kernel_rfl) (Ok.t rfl ?_)
  simp only [List.nil_append]
  refine Ok.t (decide_eq_true (by rw [show IntKind.i64.wrap (intOf (vInt 0) + Int.neg (intOf (vInt 0))) = 0 from rfl]; omega)) ?_
  have r24 := r2.trans r4
  refine Ok.call (growI_ok (h2.reads r4) (by rw [r24.2.1]; omega) hn) ?_
  rintro w s6 ⟨rfl, g6, l6⟩
  refine Ok.t rfl (Ok.ret ⟨rfl, g6, ?_⟩)
  refine Low.trans ⟨Nat.le_of_eq c1.symm, fun k hk => m1 k (by omega)⟩ (Low.trans (Reads.low b r24) l6)
theorem appT65' : AppT En 65 5 1 1 := ⟨by kernel_rfl, by kernel_rfl, by kernel_rfl, by kernel_rfl, by omega⟩
theorem write_ok {s : St} {b cap : Nat} {done : List UInt8} (h : Bld s b cap done) (x : ByteArray) (hl : done.length + (bl x).length ≤ cap) (hc : cap ≤ 1048576) :
    Ok (fun f => callF En (runP En f) 78 [ptrV b, .string x]) s (fun w s' => (∃ n, w = .tuple ⟨[.int .i64 n, .nilIface]⟩) ∧ Bld s' b cap (done ++ bl x) ∧ Low b s s') := by
  obtain ⟨r, h1, h2, h3, h4, h5, h6⟩ := h
  refine Ok.step (fun f => f78_eq f b x) ?_
  refine Ok.call (check_ok h1) ?_
  rintro w s1 ⟨rfl, r1⟩
  refine Ok.t rfl ?_
  refine Ok.pl t65 (h1.reads r1).c1 fun s2 r2 => ?_
  have r2 := r1.trans r2
  refine Ok.callP (Ok.appIn (by_ := 1) appT65' (by kernel_rfl) (by rw [r2.1]; exact h2) (by rw [r2.1]; exact h3) hl (by omega)) ?_
  rintro w s3 ⟨rfl, c3, g3, k3, m3⟩
  have hb3 : BRow s3.mem b (ptrV b) (.slice (some ⟨r, 0, none⟩) done.length (capOf cap false)) := (h1.reads r2).congr fun j _ h2 => m3 j (.inl (by omega))
  refine Ok.callP (Ok.store1 (by kernel_rfl) rfl hb3.free (by omega) rfl) ?_
  rintro w s4 ⟨rfl, rfl⟩
  refine Ok.ret ⟨⟨_, rfl⟩, ⟨r, ⟨?_, ?_, ?_, trivial⟩, ?_, ?_, h4, ?_, ?_⟩, ?_, fun k hk => ?_⟩
  · simp only
    rw [Tr.get_set, if_neg (by omega)]; exact hb3.1
  · simp only
    rw [Tr.get_set, if_neg (by omega)]; exact hb3.2.1
  · simp only
    rw [Tr.get_set, if_pos (by omega)]
  · simp only
    rw [Tr.get_set, if_neg (by omega), g3, r2.1]; exact h2
  · exact k3.congr fun j h1 _ => by simp only; rw [Tr.get_set, if_neg (by omega)]
  · simp only; rw [c3, r2.2.1]; exact h5
  · rw [List.length_append]; exact hl
  · simp only; rw [c3, r2.2.1]; exact Nat.le_refl _
  · simp only
    rw [Tr.get_set, if_neg (by omega), m3 k (.inl (by omega)), r2.1]
theorem data_ok (r n c : Nat) : builtinA En Builtin.unsafeSliceData (65 :: []) (Value.slice (some ⟨r, 0, none⟩) n (capOf c false) :: []) = Ev.gd (Nat.blt 0 (capLo (capOf c false))) (.ret (.pointer (some ⟨r, 0, none⟩))) := by kernel_rfl
theorem string_ok {s : St} {b : Nat} {done : List UInt8} (h : Bld s b done.length done) (h0 : 0 < done.length) (hc : done.length ≤ 1048576) :
    Ok (fun f => callF En (runP En f) 55 [ptrV b]) s (fun w s' => w = .string (mkStr done) ∧ Low b s s') := by
  obtain ⟨r, h1, h2, h3, h4, h5, h6⟩ := h
  refine Ok.step (fun f => f55_eq f b) ?_
  refine Ok.segLoad t65 h1.c1 fun s1 r1 => ?_
  simp only [data_ok r done.length done.length, capLo_of]
  refine Ok.seg (Q1 := fun w s' => w = ptrV r ∧ s' = ⟨s1.mem, s1.ctr, []⟩) (Ok.g (Nat.ble_eq_true_of_le h0) (Ok.ret ⟨rfl, rfl⟩)) ?_
  rintro w s2 ⟨rfl, rfl⟩
  refine Ok.gdL (by simp only [freeL]; rfl) ?_
  simp only [List.nil_append]
  refine Ok.segLoad t65 (h1.reads r1).c1 fun s3 r3 => ?_
  have r3 := r1.trans r3
  refine Ok.gdL (by kernel_rfl) ?_
  simp only [lenS]
  refine Ok.seg (Q1 := fun w s' => w = vInt done.length ∧ s' = ⟨s3.mem, s3.ctr, []⟩) (Ok.ret ⟨rfl, rfl⟩) ?_
  rintro w s4 ⟨rfl, rfl⟩
  refine Ok.gdL (by kernel_rfl) (Ok.t rfl ?_)
  simp only [List.nil_append]
  refine Ok.seg (Ok.unsafeStr (s := ⟨s3.mem, s3.ctr, []⟩) (e := 5) (c := r) (n := done.length) (l := done) (by kernel_rfl) (by kernel_rfl) (by rw [r3.1]; exact h2) rfl h0 (by omega) (by rw [r3.1]; exact h3)) ?_
  rintro w s5 ⟨rfl, c5, m5, _⟩
  refine Ok.gdL (by simp only [freeL]; rfl) (Ok.ret ⟨rfl, ?_, fun k hk => ?_⟩)
  · simp only; rw [c5, r3.2.1]; exact Nat.le_refl _
  · simp only; rw [m5 k (by omega)]; simp only; rw [r3.1]
end Go.Proofs.YtmjbmbmnnephjaaGreatDoor
/- text.Print of an atom of a number. -/
namespace Go.Ev
open Go
/-- A string is appended to nothing. -/
theorem Ok.appNew {E : Env} {t el by_ : Nat} {x : ByteArray} {s : St} (ht : AppT E t el 1 by_) (h9 : E.und 9 = some .string) (h0 : 0 < x.data.toList.length) (hn : x.data.toList.length * (by_ + 1) ≤ 1099511627776) :
    Ok (fun _ => builtinA E Builtin.append (t :: (9 :: [])) (Value.slice none 0 0 :: (Value.string x :: []))) s
      (fun v s' => v = Value.slice (some ⟨s.ctr, 0, none⟩) x.data.toList.length (capOf x.data.toList.length false) ∧ s'.ctr = s.ctr + x.data.toList.length + 1 ∧ s'.mem.get s.ctr = some (.hdr ⟨x.data.toList.length, el, false, false, true, 0, false, false, []⟩) ∧ CellsAt s'.mem s.ctr (s.ctr + 1) (u8s x.data.toList) ∧ ∀ k, k < s.ctr → s'.mem.get k = s.mem.get k) := by
  obtain ⟨m, c, l⟩ := s
  obtain ⟨hu, hs, hb, hz, hz0⟩ := ht
  obtain ⟨zv, hz⟩ := Option.isSome_iff_exists.1 hz
  have hel : elemOfSlice E t = some el := by unfold elemOfSlice; rw [hu]
  obtain ⟨n, hl⟩ : ∃ n, x.data.toList.length = n + 1 := ⟨x.data.toList.length - 1, by omega⟩
  have hd : decide ((n + 1) * (by_ + 1) ≤ 1099511627776) = true := decide_eq_true (by rw [← hl]; exact hn)
  have hbn : Nat.ble (n + 1) (n + 1) = true := Nat.ble_eq_true_of_le (Nat.le_refl _)
  have hf1 : ∀ n k, firstA 1 n (.string x) k = gd (Nat.beq 1 1) (k ((x.data.toList.take n).map (fun b : UInt8 => Value.int .u8 (b.toNat : Int)))) := fun _ _ => rfl
  have htk : x.data.toList.take (n + 1) = x.data.toList := by rw [← hl]; exact List.take_length
  have hus : ∀ l : List UInt8, l.map (fun b : UInt8 => Value.int .u8 (b.toNat : Int)) = u8s l := fun _ => rfl
  have hlu : (u8s x.data.toList).length = n + 1 := by rw [u8s_length, hl]
  refine ⟨.slice (some ⟨c, 0, none⟩) (n + 1) (capOf (n + 1) false), ⟨layCells c (u8s x.data.toList) (c + 1) (m.set c (some (.hdr ⟨n + 1, el, false, false, true, 0, false, false, []⟩))), c + (n + 1) + 1, ⟨true, c, n + 1 + 1⟩ :: l⟩, ⟨by rw [hl], by rw [hl], ?_, CellsAt.lay _ _ _, fun k hk => ?_⟩, 0, fun _ _ => ?_⟩
  · simp only
    rw [lay_below _ _ _ _ _ (by omega), Tr.get_set, if_pos rfl, hl]
  · simp only at hk ⊢
    rw [lay_below _ _ _ _ _ (by omega), Tr.get_set, if_neg (by omega)]
  · simp only [builtinA, appendA, appendB, hel, h9, hs, hb, Ev.opt, isIntD, appN, lenA, hz, gd, hl, hd, appC, hf1, htk, hus, Nat.beq_refl, Nat.zero_add, Prog.run, Prog.new, hlu, hbn, St.newH, Nat.add_eq]
end Go.Ev
namespace Go.Proofs.YtmjbmbmnnephjaaGreatDoor
open Go Go.Ev Go.Proofs Go.Num
theorem Fresh.toLow {s s' : St} {b : Nat} (h : Fresh s s') (hb : b ≤ s.ctr) : Low b s s' := ⟨h.1, fun k hk => h.2 k (by omega)⟩
/-- The first writing to a builder. -/
theorem write0_ok {s : St} {b : Nat} (h : BRow s.mem b (.pointer none) (.slice none 0 0)) (hb : b + 3 ≤ s.ctr) (l : List UInt8) (h0 : 0 < l.length) (hn : l.length ≤ 1000000) :
    Ok (fun f => callF En (runP En f) 78 [ptrV b, .string (mkStr l)]) s (fun w s' => (∃ n, w = .tuple ⟨[.int .i64 n, .nilIface]⟩) ∧ Bld s' b l.length l ∧ Low b s s') := by
  refine Ok.step (fun f => f78_eq f b _) ?_
  refine Ok.call (check0_ok h hb) ?_
  rintro w s1 ⟨rfl, h1, c1, k1⟩
  refine Ok.t rfl ?_
  refine Ok.pl t65 h1.c1 fun s2 r2 => ?_
  refine Ok.callP (Ok.appNew (x := mkStr l) (by_ := 1) appT65' (by kernel_rfl) h0 (by show l.length * 2 ≤ _; omega)) ?_
  rintro w s3 ⟨rfl, c3, g3, a3, k3⟩
  simp only [data_mk] at c3 g3 a3 ⊢
  have c2 : s2.ctr = s1.ctr := r2.2.1
  have b3 : BRow s3.mem b (ptrV b) (.slice none 0 0) := (h1.reads r2).congr fun j _ hj => k3 j (by omega)
  refine Ok.callP (Ok.store1 (by kernel_rfl) rfl b3.free (by omega) rfl) ?_
  rintro w s4 ⟨rfl, rfl⟩
  refine Ok.ret ⟨⟨_, rfl⟩, ⟨s2.ctr, ⟨?_, ?_, ?_, trivial⟩, ?_, ?_, by omega, ?_, Nat.le_refl _⟩, ?_, fun k hk => ?_⟩
  · simp only
    rw [Tr.get_set, if_neg (by omega)]; exact b3.1
  · simp only
    rw [Tr.get_set, if_neg (by omega)]; exact b3.2.1
  · simp only
    rw [Tr.get_set, if_pos (by omega)]
  · simp only
    rw [Tr.get_set, if_neg (by omega)]; exact g3
  · exact a3.congr fun j h1 _ => by simp only; rw [Tr.get_set, if_neg (by omega)]
  · simp only; omega
  · simp only; omega
  · simp only
    rw [Tr.get_set, if_neg (by omega), k3 k (by omega), r2.1, k1 k (by omega)]
theorem BRow.low {s s' : St} {b : Nat} {p v : Value} (h : BRow s.mem b p v) (f : Fresh s s') (hb : b + 3 ≤ s.ctr) : BRow s'.mem b p v := h.congr fun j _ hj => f.2 j (by omega)
section
variable {s : St} {b : Nat}
theorem atom_ok (t : Nat) (n : Int) (ht : t = 2 ∨ t = 4 ∨ t = 5) (h0 : nul ≤ n) (h1 : n ≤ 9223372036854775807) (hp : Pw s.mem s.ctr) (h : BRow s.mem b (.pointer none) (.slice none 0 0)) (hb : b + 3 ≤ s.ctr) :
    Ok (fun f => callF En (runP En f) 105 [ptrV b, .agg ⟨valC (-(t : Int)) [.int .i64 n] [] []⟩]) s (fun w s' => w = .tuple ⟨[]⟩ ∧ Bld s' b (numT t n).length (numT t n) ∧ Low b s s') := by
  refine Ok.step (fun f => f105_eq f b _ _ _ _) ?_
  refine enterV fun s1 g1 c1 f1 => ?_
  simp only [blk_itP, off_itP, Nat.zero_add]
  refine Ok.pl t3 (g1.cell 0 rfl) fun s2 r2 => ?_
  refine Ok.t rfl (Ok.f (decide_eq_false (by simp only [intOf]; omega)) ?_)
  refine Ok.segLoad t3 ((g1.reads r2).cell 0 rfl) fun s3 r3 => ?_
  have r3 := r2.trans r3
  refine Ok.t rfl ?_
  refine Ok.segLoad t28 ((g1.reads r3).cell 1 rfl) fun s4 r4 => ?_
  have r4 := r3.trans r4
  refine Ok.gdL (by kernel_rfl) ?_
  refine Ok.t rfl (Ok.t rfl (Ok.t rfl (Ok.t rfl ?_)))
  have f4 := f1.trans r4.fresh
  have p4 := hp.fresh f4
  refine Ok.seg (numN_ok ⟨s4.mem, s4.ctr, []⟩ t n ht h0 h1 p4) ?_
  rintro v s5 ⟨rfl, f5⟩
  have f5 : Fresh s4 s5 := f5
  refine Ok.gdL (by simp only [freeL]; rfl) ?_
  refine Ok.t rfl ?_
  have f45 := f4.trans f5
  have b5 : BRow s5.mem b (.pointer none) (.slice none 0 0) := h.low f45 hb
  obtain ⟨c, r, hx, _⟩ := numT_head t n
  have hlen := numT_len t n h0 h1
  refine Ok.seg (write0_ok (s := ⟨s5.mem, s5.ctr, []⟩) b5 (by have := f45.1; show b + 3 ≤ s5.ctr; omega) (numT t n) (by rw [hx]; simp) (by omega)) ?_
  rintro v s6 ⟨⟨m, rfl⟩, g6, l6⟩
  refine Ok.gdL (by simp only [freeL]; rfl) ?_
  refine Ok.t rfl (Ok.ret ⟨rfl, g6, ?_⟩)
  have l45 : Low b s s5 := Fresh.toLow f45 (by omega)
  exact ⟨Nat.le_trans l45.1 l6.1, fun k hk => (l6.2 k hk).trans (l45.2 k hk)⟩
theorem isAtom_ok (t : Int) (n : Value) (ht : t = -2 ∨ t = -4 ∨ t = -5) : Ok (fun f => callF En (runP En f) 104 [.agg ⟨valC t [n] [] []⟩]) s (fun v s' => v = .bool true ∧ Fresh s s') := by
  refine Ok.step (fun f => f104_eq f _ _ _ _) ?_
  refine enterV fun s1 h1 c1 f1 => ?_
  simp only [blk_itP, off_itP, Nat.zero_add]
  refine Ok.pl t3 (h1.cell 0 rfl) fun s2 r2 => ?_
  refine Ok.t rfl (Ok.t (decide_eq_true (by simp only [intOf]; omega)) ?_)
  refine Ok.pl t3 ((h1.reads r2).cell 0 rfl) fun s3 r3 => ?_
  refine Ok.t rfl (Ok.ret ⟨?_, f1.trans (r2.trans r3).fresh⟩)
  congr 1
  exact decide_eq_true (by simp only [intOf]; omega)
theorem bLen_ok {p : Value} {a : Option Addr} {n c : Nat} (h : BRow s.mem b p (.slice a n c)) : Ok (fun f => callF En (runP En f) 54 [ptrV b]) s (fun v s' => v = .int .i64 n ∧ Reads s s') := by
  refine Ok.step (fun f => f54_eq f b) ?_
  refine Ok.pl t65 h.c1 fun s1 r1 => ?_
  simp only [lenS]
  refine Ok.callP (Q1 := fun v s' => v = vInt n ∧ s' = s1) (Ok.ret ⟨rfl, rfl⟩) ?_
  rintro v s2 ⟨rfl, rfl⟩
  exact Ok.t rfl (Ok.ret ⟨rfl, r1⟩)
theorem lay_ok (t : Nat) (n : Int) (ht : t = 2 ∨ t = 4 ∨ t = 5) (h0 : nul ≤ n) (h1 : n ≤ 9223372036854775807) (hp : Pw s.mem s.ctr) (h : BRow s.mem b (.pointer none) (.slice none 0 0)) (hb : b + 3 ≤ s.ctr) :
    Ok (fun f => callF En (runP En f) 53 [ptrV b, .agg ⟨valC (-(t : Int)) [.int .i64 n] [] []⟩]) s (fun w s' => w = .tuple ⟨[]⟩ ∧ Bld s' b (numT t n).length (numT t n) ∧ Low b s s') := by
  refine Ok.step (fun f => f53_eq f b _ _ _ _) ?_
  refine enterV fun s1 g1 c1 f1 => ?_
  refine Ok.call (bLen_ok (h.low f1 hb)) ?_
  rintro v s2 ⟨rfl, r2⟩
  refine Ok.t rfl ?_
  refine Ok.f rfl ?_
  simp only [blk_itP, off_itP]
  have g2 := g1.reads r2
  have f2 := f1.trans r2.fresh
  refine Ok.plA ag32 sz32 rfl g2 fun s3 r3 => ?_
  refine Ok.t rfl ?_
  refine Ok.call (count_ok (-(t : Int)) (.int .i64 n) (.inr (by omega))) ?_
  rintro v s4 ⟨rfl, f4⟩
  refine Ok.t rfl ?_
  have c2 : s2.ctr = s1.ctr := r2.2.1
  have c3 : s3.ctr = s2.ctr := r3.2.1
  have c4 := f4.1
  have g4 : Row s4.mem s.ctr (valC (-(t : Int)) [.int .i64 n] [] []) := (g2.reads r3).upd (f4.upd 0 0) (by simp only [valC, List.length_cons, List.length_nil]; omega) (.inr (Nat.zero_le _))
  refine Ok.plA ag32 sz32 rfl g4 fun s5 r5 => ?_
  refine Ok.t rfl ?_
  refine Ok.call (isAtom_ok (-(t : Int)) (.int .i64 n) (by omega)) ?_
  rintro v s6 ⟨rfl, f6⟩
  refine Ok.t rfl (Ok.t rfl ?_)
  have c5 : s5.ctr = s4.ctr := r5.2.1
  have c6 := f6.1
  have g6 : Row s6.mem s.ctr (valC (-(t : Int)) [.int .i64 n] [] []) := (g4.reads r5).upd (f6.upd 0 0) (by simp only [valC, List.length_cons, List.length_nil]; omega) (.inr (Nat.zero_le _))
  refine Ok.plA ag32 sz32 rfl g6 fun s7 r7 => ?_
  refine Ok.t rfl ?_
  have f7 : Fresh s s7 := f2.trans (r3.fresh.trans (f4.trans (r5.fresh.trans (f6.trans r7.fresh))))
  have c7 := f7.1
  refine Ok.call (atom_ok t n ht h0 h1 (hp.fresh f7) (h.low f7 hb) (by omega)) ?_
  rintro v s8 ⟨rfl, g8, l8⟩
  refine Ok.t rfl (Ok.ret ⟨rfl, g8, (Fresh.toLow f7 (by omega)).trans l8⟩)
theorem f51_or (ih : Rec) (t n : Int) : callF En ih 51 [.agg ⟨valC t [.int .i64 n] [] []⟩] = Ev.gd (decide (t = -2) || (decide (t = -4) || decide (t = -5))) (.ret (.int .i64 0)) := by kernel_rfl
theorem f52_or (ih : Rec) (t n : Int) : callF En ih 52 [.agg ⟨valC t [.int .i64 n] [] []⟩] = Ev.gd (decide (t = -2) || (decide (t = -4) || decide (t = -5))) (.ret (.bool true)) := by kernel_rfl
/-- An atom of a number is printed as its number is. -/
theorem print_ok (t : Nat) (n : Int) (ht : t = 2 ∨ t = 4 ∨ t = 5) (h0 : nul ≤ n) (h1 : n ≤ 9223372036854775807) (hp : Pw s.mem s.ctr) :
    Ok (fun f => callF En (runP En f) 29 [.agg ⟨valC (-(t : Int)) [.int .i64 n] [] []⟩]) s (fun w s' => w = .tuple ⟨[.string (mkStr (numT t n)), .int .i64 0]⟩ ∧ Fresh s s') := by
  have ht3 : (decide (-(t : Int) = -2) || (decide (-(t : Int) = -4) || decide (-(t : Int) = -5))) = true := by
    rcases ht with rfl | rfl | rfl <;> rfl
  have hlen := numT_len t n h0 h1
  obtain ⟨c, r, hx, _⟩ := numT_head t n
  have hpos : 0 < (numT t n).length := by rw [hx]; simp
  refine Ok.step (fun f => f29_eq f _ _ _ _) ?_
  refine enterV fun s1 g1 c1 f1 => ?_
  simp only [blk_itP, off_itP]
  refine Ok.plA ag32 sz32 rfl g1 fun s2 r2 => ?_
  refine Ok.t rfl ?_
  refine Ok.call (Q1 := fun v s' => v = .int .i64 0 ∧ s' = s2) (Ok.conv (fun f => f51_or _ _ _) (Ok.g ht3 (Ok.ret ⟨rfl, rfl⟩))) ?_
  rintro v s3 ⟨rfl, rfl⟩
  refine Ok.t rfl (Ok.f rfl ?_)
  have g2 := g1.reads r2
  refine Ok.plA ag32 sz32 rfl g2 fun s4 r4 => ?_
  refine Ok.t rfl ?_
  refine Ok.call (Q1 := fun v s' => v = .bool true ∧ s' = s4) (Ok.conv (fun f => f52_or _ _ _) (Ok.g ht3 (Ok.ret ⟨rfl, rfl⟩))) ?_
  rintro v s5 ⟨rfl, rfl⟩
  refine Ok.t rfl (Ok.f rfl ?_)
  have r4 := r2.trans r4
  have g4 := g1.reads r4
  have c4 : s5.ctr = s1.ctr := r4.2.1
  refine Ok.callP (Ok.newF rfl) ?_
  rintro v s6 ⟨rfl, e6, h6, a6, k6, _⟩
  refine Ok.t rfl ?_
  have f6 : Fresh s5 s6 := ⟨by omega, k6⟩
  have b6 : BRow s6.mem s5.ctr (.pointer none) (.slice none 0 0) := ⟨h6, a6⟩
  have g6 : Row s6.mem s.ctr (valC (-(t : Int)) [.int .i64 n] [] []) := g4.upd (f6.upd 0 0) (by simp only [valC, List.length_cons, List.length_nil]; omega) (.inr (Nat.zero_le _))
  simp only [blk_itP, off_itP]
  refine Ok.plA ag32 sz32 rfl g6 fun s7 r7 => ?_
  refine Ok.t rfl ?_
  have f7 := f6.trans r7.fresh
  have f07 := f1.trans (r4.fresh.trans f7)
  have c7 : s7.ctr = s6.ctr := r7.2.1
  refine Ok.call (lay_ok (b := s5.ctr) t n ht h0 h1 (hp.fresh f07) (b6.reads r7) (by omega)) ?_
  rintro v s8 ⟨rfl, g8, l8⟩
  refine Ok.t rfl ?_
  have g8' := g8
  obtain ⟨rr, q1, _, _, _, _, _⟩ := g8'
  refine Ok.call (bLen_ok q1) ?_
  rintro v s9 ⟨rfl, r9⟩
  refine Ok.t rfl (Ok.f (decide_eq_false (by simp only [intOf]; omega)) ?_)
  refine Ok.call (string_ok (g8.reads r9) hpos (by omega)) ?_
  rintro v s10 ⟨rfl, l10⟩
  refine Ok.t rfl (Ok.ret ⟨rfl, ?_⟩)
  have l89 : Low s5.ctr s7 s10 := l8.trans ((Reads.low _ r9).trans l10)
  have h5 := f1.1
  refine ⟨Nat.le_trans f07.1 l89.1, fun k hk => ?_⟩
  rw [l89.2 k (by omega), f07.2 k hk]
end
end Go.Proofs.YtmjbmbmnnephjaaGreatDoor
