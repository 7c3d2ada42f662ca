/- The lexer: value, number, more. -/
import Derived.Test.YtmjbmbmnnephjaaGreatDoorLxKQ2
import Derived.Test.YtmjbmbmnnephjaaGreatDoorLxKG2
import Derived.Test.YtmjbmbmnnephjaaGreatDoorLxKG1
import Derived.Test.YtmjbmbmnnephjaaGreatDoorLxKG3
import Derived.Test.YtmjbmbmnnephjaaGreatDoorLxKQ1
namespace Go.Proofs.YtmjbmbmnnephjaaGreatDoor
open Go Go.Ev Go.Proofs
def isLong (c : Int) : Bool := isInside c || decide (c = 46)
theorem long_ok : IsPred 116 isLong := by
  intro s c
  refine Ok.step (fun f => f116_eq f c) ?_
  refine Ok.call (inside_ok s c) ?_
  rintro v s1 ⟨rfl, rfl⟩
  refine Ok.t rfl ?_
  refine Ok.c (fun h => ?_) (fun h => ?_)
  · exact Ok.ret ⟨by simp_all [isLong, boolOf], rfl⟩
  · exact Ok.ret ⟨by simp_all [isLong, boolOf], rfl⟩
theorem space_ok : IsPred 33 fun c => decide (c = 32) := fun s c => Ok.step (fun f => f33_eq f c) (Ok.ret ⟨rfl, rfl⟩)
theorem insideP : IsPred 43 isInside := fun s c => inside_ok s c
/-- A piece of a text. -/
def sub (str : ByteArray) (p q : Int) : ByteArray := mkStr (((bl str).drop p.toNat).take (q.toNat - p.toNat))
section
variable {s : St} {b : Nat} {str : ByteArray} {a : Int} {ts : List Tok} {err bad : Int}
/-- An atom's type is told with a minus. -/
def atomT (t : Int) (n : Nat) : Int := if n = 1 then IntKind.i64.wrap ((0 : Int) + Int.neg t) else t
theorem value3_ok (h : LX s b str a ts err bad) (p : Int) (hp : 0 ≤ p ∧ p ≤ a ∧ a ≤ (bl str).length) (c : Nat) (t : Int) (n sy l : List Value) (hr : Row s.mem c [.int .i64 t, lstV n, lstV sy, lstV l]) (hl : ts.length ≤ 20000) :
    Ok (fun f => p119_3 f b p c 0) s (fun v s' => v = .tuple ⟨[]⟩ ∧ LX s' b str a (ts ++ [⟨1, p, a, sub str p a, t, n, sy, l⟩]) err bad) := by
  have t3 : scal En 3 = true := by kernel_rfl
  have t9 : scal En 9 = true := by kernel_rfl
  refine Ok.step (fun f => p119_3_eq f b p c 0) ?_
  refine Ok.segLoad t9 h.c0 fun s1 r1 => ?_
  refine Ok.t rfl ?_
  refine Ok.segLoad t3 (h.c1.reads r1) fun s2 r2 => ?_
  refine Ok.gdL (by kernel_rfl) ?_
  have r2 := r1.trans r2
  refine Ok.t rfl ?_
  simp only [intOf, strOf]
  refine Ok.t (decide_eq_true hp.1) ?_
  refine Ok.t (decide_eq_true (by omega)) ?_
  have hp3 := hp.2.2
  simp only [bl] at hp3
  refine Ok.t (by simp only [Bool.and_eq_true]; exact ⟨Nat.ble_eq_true_of_le (by omega), Nat.ble_eq_true_of_le (by omega)⟩) ?_
  refine Ok.segLoadA (n := 4) (by kernel_rfl) (by kernel_rfl) rfl ?_ (show CellsAt s2.mem c (c + 1 + 0) [.int .i64 t, lstV n, lstV sy, lstV l] by rw [r2.1]; exact hr.2) fun s3 r3 => ?_
  · obtain ⟨el, ex, z, sy', hf⟩ := hr.1
    exact ⟨_, by rw [r2.1]; exact hf⟩
  have r3 := r2.trans r3
  refine Ok.gdL (by kernel_rfl) ?_
  refine Ok.t rfl ?_
  have h3 : LX s3 b str a ts err bad := h.reads r3
  have h3 : LX ⟨s3.mem, s3.ctr, []⟩ b str a ts err bad := h3
  refine Ok.seg (add_ok h3 1 p (sub str p a) t n sy l hl) ?_
  rintro v s4 ⟨rfl, h4⟩
  refine Ok.gdL (by kernel_rfl) ?_
  exact Ok.t rfl (Ok.ret ⟨rfl, h4⟩)
theorem value_ok (h : LX s b str a ts err bad) (p : Int) (hp : 0 ≤ p ∧ p ≤ a ∧ a ≤ (bl str).length) (t : Int) (n sy l : List Value) (hn : n.length + sy.length ≤ 1000000) (hl : ts.length ≤ 20000) :
    Ok (fun f => callF En (runP En f) 119 [.pointer (some ⟨b, 0, none⟩), .int .i64 p, .agg ⟨[.int .i64 t, lstV n, lstV sy, lstV l]⟩]) s
      (fun v s' => v = .tuple ⟨[]⟩ ∧ LX s' b str a (ts ++ [⟨1, p, a, sub str p a, atomT t (n.length + sy.length), n, sy, l⟩]) err bad) := by
  have t3 : scal En 3 = true := by kernel_rfl
  refine Ok.step (fun f => f119_eq f b p t n sy l) ?_
  refine Ok.g rfl ?_
  refine Ok.callP (Ok.new rfl) ?_
  rintro v s1 ⟨rfl, e1, e2, e3⟩
  refine Ok.t rfl ?_
  simp only [blk_itP, off_itP, Nat.zero_add]
  have h1 : LX s1 b str a ts err bad := h.frame (by omega) e3
  refine Ok.callP (Ok.load1 (by kernel_rfl) (e2.cell 1 rfl)) ?_
  rintro v s2 ⟨rfl, m2, c2, l2⟩
  have r2 : Reads s1 s2 := ⟨m2, c2, [⟨false, s.ctr + 1 + 1, 1⟩, ⟨false, s.ctr, 1⟩], l2, rfl⟩
  refine Ok.t rfl ?_
  refine Ok.callP (Ok.load1 (by kernel_rfl) ((e2.cell 2 rfl).reads r2)) ?_
  rintro v s3 ⟨rfl, m3, c3, l3⟩
  have r3 : Reads s2 s3 := ⟨m3, c3, [⟨false, s.ctr + 1 + 2, 1⟩, ⟨false, s.ctr, 1⟩], l3, rfl⟩
  have r3 := r2.trans r3
  refine Ok.t rfl ?_
  have hw : IntKind.wrap IntKind.i64 (Int.ofNat (n.length + sy.length)) = ((n.length + sy.length : Nat) : Int) := wrap_in _ (by simp only [Int.ofNat_eq_natCast]; omega) (by simp only [Int.ofNat_eq_natCast]; omega)
  simp only [show ∀ x, elems (lstV x) = x from fun _ => rfl, hw]
  refine Ok.c (fun hc => ?_) (fun hc => ?_)
  · have hc := of_decide_eq_true hc
    refine Ok.callP (Ok.load1 t3 ((e2.cell 0 rfl).reads r3)) ?_
    rintro v s4 ⟨rfl, m4, c4, l4⟩
    have r4 : Reads s3 s4 := ⟨m4, c4, [⟨false, s.ctr + 1 + 0, 1⟩, ⟨false, s.ctr, 1⟩], l4, rfl⟩
    have r4 := r3.trans r4
    refine Ok.t rfl ?_
    have e4 : Row s4.mem s.ctr [.int .i64 t, lstV n, lstV sy, lstV l] := by rw [r4.1]; exact e2
    refine Ok.callP (Ok.storeCell (o := 0) (by kernel_rfl) rfl e4 (by simp) rfl) ?_
    rintro v s5 ⟨rfl, c5, e5, f5⟩
    have h5 : LX s5 b str a ts err bad := h.frame (by rw [c5, r4.2.1, e1]; omega) fun k hk => by rw [f5 k (by omega), r4.1, e3 k hk]
    refine Ok.mono (value3_ok h5 p hp s.ctr _ n sy l e5 hl) ?_
    rintro v s' ⟨rfl, h6⟩
    refine ⟨rfl, ?_⟩
    have : atomT t (n.length + sy.length) = IntKind.i64.wrap ((0 : Int) + Int.neg t) := by unfold atomT; rw [if_pos (by omega)]
    rw [this]
    exact h6
  · have hc := of_decide_eq_false hc
    have e4 : Row s3.mem s.ctr [.int .i64 t, lstV n, lstV sy, lstV l] := by rw [r3.1]; exact e2
    refine Ok.mono (value3_ok (h1.reads r3) p hp s.ctr _ n sy l e4 hl) ?_
    rintro v s' ⟨rfl, h6⟩
    refine ⟨rfl, ?_⟩
    have : atomT t (n.length + sy.length) = t := by unfold atomT; rw [if_neg (by omega)]
    rw [this]
    exact h6
end
end Go.Proofs.YtmjbmbmnnephjaaGreatDoor
/- The lexer: number, more. -/
namespace Go.Proofs.YtmjbmbmnnephjaaGreatDoor
open Go Go.Ev Go.Proofs
section
variable {s : St} {b : Nat} {str : ByteArray} {a : Int} {ts : List Tok} {err bad : Int}
/-- All old places but that of the lexer's place are as they were. -/
def Ats (b : Nat) (s s' : St) : Prop := s.ctr ≤ s'.ctr ∧ ∀ k, k < s.ctr → k ≠ b + 2 → s'.mem.get k = s.mem.get k
theorem Ats.refl (b : Nat) (s : St) : Ats b s s := ⟨Nat.le_refl _, fun _ _ _ => rfl⟩
theorem Ats.trans {b : Nat} {s s1 s2 : St} (h : Ats b s s1) (g : Ats b s1 s2) : Ats b s s2 := ⟨Nat.le_trans h.1 g.1, fun k hk hn => (g.2 k (Nat.lt_of_lt_of_le hk h.1) hn).trans (h.2 k hk hn)⟩
theorem Fresh.ats {s s' : St} (b : Nat) (h : Fresh s s') : Ats b s s' := ⟨h.1, fun k hk _ => h.2 k hk⟩
theorem Reads.ats {s s' : St} (b : Nat) (h : Reads s s') : Ats b s s' := Fresh.ats b (Go.Ev.Reads.fresh h)
theorem setAt_ats {s s' : St} (h1 : s'.ctr = s.ctr) (h2 : ∀ k, k ≠ b + 2 → s'.mem.get k = s.mem.get k) : Ats b s s' := ⟨by omega, fun k _ hk => h2 k hk⟩
theorem byteOf_in (str : ByteArray) (k : Int) (h : k < (bl str).length) : byteOf str k = byteI str k := by
  unfold byteOf byteI
  rw [if_pos (by simpa [bl] using h)]
theorem byteOf_out (str : ByteArray) (k : Int) (h : ¬ k < (bl str).length) : byteOf str k = 0 := by
  unfold byteOf
  rw [if_neg (by simpa [bl] using h)]
theorem byteOf_ne (str : ByteArray) (k : Int) (h : byteOf str k ≠ 0) : k < (bl str).length := by
  by_cases hk : k < (bl str).length
  · exact hk
  · exact absurd (byteOf_out str k hk) h
theorem number_4 (h : LX s b str a ts err bad) (n : Nat) (ha : 0 ≤ a ∧ a + n ≤ (bl str).length) (hs : (bl str).length ≤ 1000000) :
    Ok (fun f => p120_4 f b (n : Int)) s (fun v s' => (∃ m : Nat, runV str isLong (a + n) m ∧ v = .string (sub str a (a + n + m))) ∧ LX s' b str a ts err bad ∧ Ats b s s') := by
  have t3 : scal En 3 = true := by kernel_rfl
  have t9 : scal En 9 = true := by kernel_rfl
  refine Ok.step (fun f => p120_4_eq f b n) ?_
  refine Ok.callP (Ok.load1 t3 h.c1) ?_
  rintro v s1 ⟨rfl, m1, c1, l1⟩
  have r1 : Reads s s1 := ⟨m1, c1, [⟨false, b + 1 + 1, 1⟩, ⟨false, b, 1⟩], l1, rfl⟩
  refine Ok.t rfl ?_
  have hw : IntKind.i64.wrap (a + (n : Int)) = a + n := wrap_in _ (by omega) (by omega)
  simp only [intOf, hw]
  refine Ok.callP (setAt_ok (h.reads r1) (a + n)) ?_
  rintro v s2 ⟨rfl, h2, c2, f2⟩
  have a2 := (Reads.ats b r1).trans (setAt_ats c2 f2)
  refine Ok.call (run_ok long_ok s2 (by omega) (by simp only [bl] at ha; omega) (by simp only [bl] at hs; omega) h2.c0 h2.c1) ?_
  rintro v s3 ⟨m, hm, rfl, r3⟩
  have a3 := a2.trans (Reads.ats b r3)
  have h3 := h2.reads r3
  have hm1 := hm.1
  have hbl : (bl str).length = str.data.toList.length := rfl
  refine Ok.t rfl ?_
  refine Ok.callP (Ok.load1 t3 h3.c1) ?_
  rintro v s4 ⟨rfl, m4, c4, l4⟩
  have r4 : Reads s3 s4 := ⟨m4, c4, [⟨false, b + 1 + 1, 1⟩, ⟨false, b, 1⟩], l4, rfl⟩
  have a4 := a3.trans (Reads.ats b r4)
  refine Ok.t rfl ?_
  have hw2 : IntKind.i64.wrap (a + (n : Int) + Int.neg (n : Int)) = a := by
    rw [show a + (n : Int) + Int.neg (n : Int) = a by show a + (n : Int) + -(n : Int) = a; omega]
    exact wrap_in _ (by omega) (by omega)
  simp only [intOf, hw2]
  refine Ok.callP (setAt_ok (h3.reads r4) a) ?_
  rintro v s5 ⟨rfl, h5, c5, f5⟩
  have a5 := a4.trans (setAt_ats c5 f5)
  refine Ok.segLoad t9 h5.c0 fun s6 r6 => ?_
  refine Ok.t rfl ?_
  refine Ok.segLoad t3 (h5.c1.reads r6) fun s7 r7 => ?_
  have r7 := r6.trans r7
  refine Ok.gdL (by kernel_rfl) ?_
  refine Ok.t rfl ?_
  refine Ok.segLoad t3 (h5.c1.reads r7) fun s8 r8 => ?_
  have r8 := r7.trans r8
  refine Ok.gdL (by kernel_rfl) ?_
  refine Ok.t rfl ?_
  have hl : (mkStr (List.take m (List.drop (a + (n : Int)).toNat str.data.toList))).data.toList.length = m := by
    show (List.take m (List.drop (a + (n : Int)).toNat str.data.toList)).length = m
    rw [List.length_take, List.length_drop]; omega
  have hw3 : IntKind.i64.wrap (a + (n : Int) + (m : Int)) = a + n + m := wrap_in _ (by omega) (by omega)
  simp only [intOf, strOf, hw, hl, Int.ofNat_eq_natCast, hw3]
  refine Ok.t (decide_eq_true ha.1) ?_
  refine Ok.t (decide_eq_true (by omega)) ?_
  refine Ok.t (by simp only [Bool.and_eq_true]; exact ⟨Nat.ble_eq_true_of_le (by omega), Nat.ble_eq_true_of_le (by omega)⟩) ?_
  exact Ok.ret ⟨⟨m, hm, rfl⟩, h5.reads r8, a5.trans (Reads.ats b r8)⟩
theorem number_ok (h : LX s b str a ts err bad) (ha : 0 ≤ a ∧ a ≤ (bl str).length) (hs : (bl str).length ≤ 1000000) (hd : isDigit (byteOf str a) = true ∨ byteOf str a = 45) :
    Ok (fun f => callF En (runP En f) 120 [.pointer (some ⟨b, 0, none⟩)]) s (fun v s' => (∃ e : Int, a < e ∧ e ≤ (bl str).length ∧ v = .string (sub str a e)) ∧ LX s' b str a ts err bad ∧ Ats b s s') := by
  refine Ok.step (fun f => f120_eq f b) ?_
  refine Ok.call (peek_ok s b str a 0 h.c0 h.c1 (by omega) (by omega)) ?_
  rintro v s1 ⟨rfl, r1⟩
  refine Ok.t rfl ?_
  rw [Int.add_zero]
  have hbl : (bl str).length = str.data.toList.length := rfl
  simp only [intOf]
  refine Ok.c (fun hc => ?_) (fun hc => ?_)
  · have hc := of_decide_eq_true hc
    have hlt := byteOf_ne str a (by omega)
    refine Ok.mono (number_4 (h.reads r1) 1 ⟨ha.1, by omega⟩ hs) ?_
    rintro v s' ⟨⟨m, hm, rfl⟩, h2, a2⟩
    have := hm.1
    exact ⟨⟨a + 1 + m, by omega, by omega, rfl⟩, h2, (Reads.ats b r1).trans a2⟩
  · have hc := of_decide_eq_false hc
    refine Ok.mono (number_4 (h.reads r1) 0 ⟨ha.1, by omega⟩ hs) ?_
    rintro v s' ⟨⟨m, hm, rfl⟩, h2, a2⟩
    have h1 := hm.1
    have hd : isDigit (byteOf str a) = true := by
      rcases hd with hd | hd
      · exact hd
      · exact absurd hd hc
    have hlt := byteOf_ne str a (by intro e; rw [e] at hd; exact absurd hd (by decide))
    refine ⟨⟨a + (0 : Nat) + m, ?_, by omega, rfl⟩, h2, (Reads.ats b r1).trans a2⟩
    have : m ≠ 0 := by
      intro e
      subst e
      have := hm.2.2 (by omega)
      simp only [Int.natCast_zero, Int.add_zero] at this
      rw [← byteOf_in str a hlt] at this
      simp [isLong, isInside, hd] at this
    omega
end
end Go.Proofs.YtmjbmbmnnephjaaGreatDoor
/- The lexer: more. -/
namespace Go.Proofs.YtmjbmbmnnephjaaGreatDoor
open Go Go.Ev Go.Proofs
section
variable {s : St} {b : Nat} {str : ByteArray} {a : Int} {ts : List Tok} {err bad : Int}
theorem not_f {b : Bool} (h : (!b) = false) : b = true := by cases b <;> simp_all
theorem not_t {b : Bool} (h : (!b) = true) : b = false := by cases b <;> simp_all
/-- What 'more' leaves: a place farther on at which a number begins, or the same place. -/
def MoreQ (b : Nat) (str : ByteArray) (a : Int) (ts : List Tok) (err bad : Int) (s : St) (v : Value) (s' : St) : Prop :=
  Ats b s s' ∧ ((v = .bool false ∧ LX s' b str a ts err bad) ∨ (v = .bool true ∧ ∃ a' : Int, a < a' ∧ a' ≤ (bl str).length ∧ (isDigit (byteOf str a') = true ∨ byteOf str a' = 45) ∧ LX s' b str a' ts err bad))
theorem cut_b (s : St) (x : ByteArray) (hx : (bl x).length ≤ 1000000) : Ok (fun f => callF En (runP En f) 117 [.string x, .string (mkStr [98])]) s (fun v s' => (∃ y c, v = .tuple ⟨[.string y, .bool c]⟩ ∧ (bl y).length ≤ (bl x).length) ∧ s' = s) := by
  refine Ok.mono (cutSuffix_ok s x _ (by omega)) ?_
  rintro v s' ⟨rfl, rfl⟩
  exact ⟨⟨_, _, rfl, cutSuf_le _ _⟩, rfl⟩
theorem bits_ok (s : St) (x : ByteArray) (hx : (bl x).length ≤ 1000000) : Ok (fun f => callF En (runP En f) 118 [(Value.string x), (Value.string (mkStr [48, 49]))]) s (fun v s' => (∃ y, v = .string y ∧ (bl y = [] ↔ ∀ c ∈ bl x, memB [48, 49] c.toNat = true)) ∧ Fresh s s') := by
  refine Ok.mono (trim_ok s x _ (by omega) (by decide) (by decide) (asc _ (by decide))) ?_
  rintro v s' ⟨rfl, h⟩
  exact ⟨⟨_, rfl, trim_nil _ _⟩, h⟩
theorem more_fin (h : LX s b str a ts err bad) (n : Nat) (hn : 0 < n) (ha : 0 ≤ a ∧ a + n ≤ (bl str).length) (hs : (bl str).length ≤ 1000000) (hd : isDigit (byteOf str (a + n)) = true ∨ byteOf str (a + n) = 45) (s0 : St) (h0 : Ats b s0 s) :
    Ok (fun _ => Ev.callP (fun _ => Prog.ret (Value.bool Bool.true)) (storeT En 3 b 1 (Value.int IntKind.i64 (a + n)))) s (MoreQ b str a ts err bad s0) := by
  refine Ok.callP (setAt_ok h (a + n)) ?_
  rintro v s1 ⟨rfl, h1, c1, f1⟩
  exact Ok.ret ⟨h0.trans (setAt_ats c1 f1), .inr ⟨rfl, _, by omega, ha.2, hd, h1⟩⟩
theorem more_y (h : LX s b str a ts err bad) (n : Nat) (hn : 0 < n) (ha : 0 ≤ a ∧ a + n ≤ (bl str).length) (hs : (bl str).length ≤ 1000000) (hd : isDigit (byteOf str (a + n)) = true ∨ byteOf str (a + n) = 45) (s0 : St) (h0 : Ats b s0 s) :
    Ok (fun f => Ev.callP (fun v9 => cnd (Ev.callP (fun v10 => (Prog.call (callF En (runP En f) 32 [(Value.pointer (Option.some (Addr.mk (blkOf v9) (offOf v9) Option.none))), (Value.func (Fn.func 116) ⟨[]⟩ ⟨[]⟩)]) fun v11 =>
                                                  (cnd
                                                    (Prog.call (callF En (runP En f) 117 [(Value.string (strOf v11)), (Value.string (mkStr [98]))]) fun v12 =>
                                                      (cnd
                                                        (cnd
                                                          (cnd
                                                            (Prog.call (callF En (runP En f) 118 [(Value.string (strOf (at_ (tupOf v12) 0))), (Value.string (mkStr [48, 49]))]) fun v13 =>
                                                              (cnd
                                                                (cnd
                                                                  (Prog.ret (Value.bool Bool.false))
                                                                  (Ev.callP (fun v14 =>
                                                                    (Prog.ret (Value.bool Bool.true)))
                                                                    (storeT En 3 b 1 (Value.int IntKind.i64 (a + n))))
                                                                  (beqB (Array.toList (ByteArray.data (strOf v13))) []))
                                                                Prog.fail
                                                                (okK Kd.str v13)))
                                                            (Ev.callP (fun v15 =>
                                                              (Prog.ret (Value.bool Bool.true)))
                                                              (storeT En 3 b 1 (Value.int IntKind.i64 (a + n))))
                                                            (Bool.not (beqB (Array.toList (ByteArray.data (strOf (at_ (tupOf v12) 0)))) [])))
                                                          (Ev.callP (fun v16 =>
                                                            (Prog.ret (Value.bool Bool.true)))
                                                            (storeT En 3 b 1 (Value.int IntKind.i64 (a + n))))
                                                          (boolOf (at_ (tupOf v12) 1)))
                                                        Prog.fail
                                                        ((isTupV v12) && (okNs ((Nm.one Kd.str) :: ((Nm.one Kd.bool) :: [])) (tupOf v12)))))
                                                    Prog.fail
                                                    (okK Kd.str v11))))
                                                (storeT En 58 (blkOf v9) (offOf v9) (Value.agg ⟨((Value.string str) :: ((Value.int IntKind.i64 (a + n)) :: []))⟩)))
                                              Prog.fail
                                              (isPt v9))
                                            (Prog.newH (Hdr.mk 2 58 Bool.false Bool.true Bool.true 0 Bool.false Bool.false []) ((Value.string (mkStr [])) :: ((Value.int IntKind.i64 (0 : Int)) :: [])) (fun z8 => (Prog.ret (itP z8))))) s (MoreQ b str a ts err bad s0) := by
  have hbl : (bl str).length = str.data.toList.length := rfl
  refine Ok.callP (Ok.new rfl) ?_
  rintro v s1 ⟨rfl, e1, e2, e3⟩
  have f1 : Fresh s s1 := ⟨by omega, e3⟩
  refine Ok.t rfl ?_
  simp only [blk_itP, off_itP]
  refine Ok.callP (Ok.storeRow (n := 2) (ws := [Value.string str, Value.int IntKind.i64 (a + n)]) (by kernel_rfl) e2 rfl rfl rfl) ?_
  rintro v s2 ⟨rfl, c2, g2, k2⟩
  have f2 : Fresh s s2 := ⟨by rw [c2, e1]; omega, fun k hk => by rw [k2 k (.inl (by omega)), e3 k hk]⟩
  refine Ok.call (run_ok long_ok s2 (by omega) (by omega) (by omega) (g2.cell 0 rfl) (g2.cell 1 rfl)) ?_
  rintro v s3 ⟨m, hm, rfl, r3⟩
  have f3 := f2.trans (Go.Ev.Reads.fresh r3)
  refine Ok.t rfl ?_
  refine Ok.call (cut_b s3 _ (by simp only [strOf, bl_mk, List.length_take, List.length_drop]; omega)) ?_
  rintro v s4 ⟨⟨y, c, rfl, hy⟩, rfl⟩
  simp only [strOf, bl_mk, List.length_take, List.length_drop] at hy
  refine Ok.t rfl ?_
  have fin : ∀ s5, Fresh s s5 → Ok (fun _ => Ev.callP (fun _ => Prog.ret (Value.bool Bool.true)) (storeT En 3 b 1 (Value.int IntKind.i64 (a + n)))) s5 (MoreQ b str a ts err bad s0) := fun s5 f5 => more_fin (h.fresh f5) n hn ha hs hd s0 (h0.trans (Fresh.ats b f5))
  refine Ok.c (fun _ => ?_) (fun _ => fin _ f3)
  refine Ok.c (fun _ => ?_) (fun _ => fin _ f3)
  refine Ok.call (bits_ok s4 _ (by show (bl y).length ≤ _; omega)) ?_
  rintro v s5 ⟨⟨z, rfl, _⟩, f5⟩
  have f5 := f3.trans f5
  refine Ok.t rfl ?_
  exact Ok.c (fun _ => Ok.ret ⟨h0.trans (Fresh.ats b f5), .inl ⟨rfl, h.fresh f5⟩⟩) (fun _ => fin _ f5)
theorem more_loop (ha : 0 ≤ a ∧ a ≤ (bl str).length) (hs : (bl str).length ≤ 1000000) (s0 : St) : ∀ (m n : Nat) (s : St), a + n + m = (bl str).length → LX s b str a ts err bad → Ats b s0 s →
    Ok (fun f => p122_2 f b (n : Int)) s (MoreQ b str a ts err bad s0) := by
  have t3 : scal En 3 = true := by kernel_rfl
  have t9 : scal En 9 = true := by kernel_rfl
  intro m
  induction m using Nat.strongRecOn with
  | ind m IH =>
  intro n s hm h h0
  have hw : IntKind.i64.wrap (a + (n : Int)) = a + n := wrap_in _ (by omega) (by omega)
  have hw1 : IntKind.i64.wrap ((n : Int) + 1) = ((n + 1 : Nat) : Int) := by rw [wrap_in _ (by omega) (by omega)]; omega
  refine Ok.step (fun f => p122_2_eq f b n) ?_
  refine Ok.call (peek_ok s b str a n h.c0 h.c1 (by omega) (by omega)) ?_
  rintro v s1 ⟨rfl, r1⟩
  have h1 := h.reads r1
  have a1 := h0.trans (Reads.ats b r1)
  refine Ok.t rfl ?_
  simp only [intOf]
  refine Ok.c (fun hc => ?_) (fun hc => ?_)
  · have hc := of_decide_eq_true hc
    have hlt := byteOf_ne str (a + n) (by omega)
    rw [hw1]
    exact IH (m - 1) (by omega) (n + 1) s1 (by omega) h1 a1
  refine Ok.c (fun hn => Ok.ret ⟨a1, .inl ⟨rfl, h1⟩⟩) (fun hn => ?_)
  have hn := of_decide_eq_false hn
  have hn : 0 < n := by omega
  refine Ok.callP (Ok.load1 t3 h1.c1) ?_
  rintro v s2 ⟨rfl, m2, c2, l2⟩
  have r2 : Reads s1 s2 := ⟨m2, c2, [⟨false, b + 1 + 1, 1⟩, ⟨false, b, 1⟩], l2, rfl⟩
  have h2 := h1.reads r2
  have a2 := a1.trans (Reads.ats b r2)
  refine Ok.t rfl ?_
  refine Ok.call (peek_ok s2 b str a n h2.c0 h2.c1 (by omega) (by omega)) ?_
  rintro v s3 ⟨rfl, r3⟩
  have h3 := h2.reads r3
  have a3 := a2.trans (Reads.ats b r3)
  refine Ok.t rfl ?_
  simp only [intOf]
  refine Ok.call (digit_ok s3 _) ?_
  rintro v s4 ⟨rfl, rfl⟩
  refine Ok.t rfl ?_
  simp only [boolOf]
  have rest : ∀ s5, LX s5 b str a ts err bad → Ats b s0 s5 → (isDigit (byteOf str (a + n)) = true ∨ byteOf str (a + n) = 45) → Ok (fun f => loadT En 9 b 0) s5 (fun v s' => v = .string str ∧ LX s' b str a ts err bad ∧ Ats b s0 s') := by
    intro s5 h5 a5 _
    refine Ok.mono (Ok.load1 t9 h5.c0) ?_
    rintro v s6 ⟨rfl, m6, c6, l6⟩
    have r6 : Reads s5 s6 := ⟨m6, c6, [⟨false, b + 1 + 0, 1⟩, ⟨false, b, 1⟩], l6, rfl⟩
    exact ⟨rfl, h5.reads r6, a5.trans (Reads.ats b r6)⟩
  refine Ok.c (fun hd => ?_) (fun hd => ?_)
  · refine Ok.c (fun _ => Ok.ret ⟨a3, .inl ⟨rfl, h3⟩⟩) (fun hc => ?_)
    have hc : byteOf str (a + n) = 45 := of_decide_eq_true (not_f hc)
    have hlt := byteOf_ne str (a + n) (by omega)
    rw [hw1]
    refine Ok.call (peek_ok s4 b str a _ h3.c0 h3.c1 (by omega) (by omega)) ?_
    rintro v s5 ⟨rfl, r5⟩
    have h5 := h3.reads r5
    have a5 := a3.trans (Reads.ats b r5)
    refine Ok.t rfl ?_
    simp only [intOf]
    refine Ok.call (digit_ok s5 _) ?_
    rintro v s6 ⟨rfl, rfl⟩
    refine Ok.t rfl ?_
    refine Ok.c (fun _ => Ok.ret ⟨a5, .inl ⟨rfl, h5⟩⟩) (fun _ => ?_)
    refine Ok.callP (rest s6 h5 a5 (.inr hc)) ?_
    rintro v s7 ⟨rfl, h7, a7⟩
    refine Ok.t rfl (Ok.g rfl ?_)
    simp only [strOf, hw]
    exact more_y h7 n hn ⟨ha.1, by omega⟩ hs (.inr hc) s0 a7
  · have hd : isDigit (byteOf str (a + n)) = true := by simpa using hd
    have hlt := byteOf_ne str (a + n) (by intro e; rw [e] at hd; exact absurd hd (by decide))
    refine Ok.callP (rest s4 h3 a3 (.inl hd)) ?_
    rintro v s7 ⟨rfl, h7, a7⟩
    refine Ok.t rfl (Ok.g rfl ?_)
    simp only [strOf, hw]
    exact more_y h7 n hn ⟨ha.1, by omega⟩ hs (.inl hd) s0 a7
theorem more_ok (h : LX s b str a ts err bad) (ha : 0 ≤ a ∧ a ≤ (bl str).length) (hs : (bl str).length ≤ 1000000) :
    Ok (fun f => callF En (runP En f) 122 [.pointer (some ⟨b, 0, none⟩)]) s (MoreQ b str a ts err bad s) := by
  refine Ok.step (fun f => f122_eq f b) ?_
  exact more_loop ha hs s ((bl str).length - a.toNat) 0 s (by omega) h (Ats.refl b s)
end
end Go.Proofs.YtmjbmbmnnephjaaGreatDoor
/- Rules on memory: rows that are frozen when they are handed over. -/
namespace Go.Ev
open Go
theorem chunk1 : ∀ (n : Nat) (vs : List Value), vs.length = n → ∀ sz, chunkC true sz n vs = vs ∨ sz ≠ 1
  | 0, vs, h, sz => by
    have : vs = [] := List.length_eq_zero_iff.1 h
    subst this
    exact .inl rfl
  | n + 1, [], h, _ => by simp at h
  | n + 1, v :: vs, h, sz => by
    by_cases hs : sz = 1
    · subst hs
      rcases chunk1 n vs (by simpa using h) 1 with e | e
      · left
        simp only [chunkC, List.headD_cons, List.drop_succ_cons, List.drop_zero, e]
      · exact absurd rfl e
    · exact .inr hs
theorem Grow.frz {m : Tr Slot} {lo hi el sz : Nat} {cs : List Value} {r n c : Nat} {l : List Acc} (h : Grow m lo hi el sz cs (.slice (some ⟨r, 0, none⟩) n c)) :
    ∃ s', St.frz ⟨m, hi, l⟩ r (n * sz) 0 = some (cs, s') ∧ s'.ctr = hi ∧ (∀ k, k < lo → s'.mem.get k = m.get k) := by
  obtain ⟨h1, h2⟩ := h
  rcases h2 with ⟨e, _⟩ | ⟨r', n', sy, olds, e, a2, a3, a4, a5, a6, a7⟩
  · cases e
  · cases e
    have hrd : rdCells m r (n * sz) 0 = some cs := by rw [← a2]; exact CellsAt.rd a7
    refine ⟨⟨(kill olds m).set r none, hi, ⟨true, r, 1⟩ :: killLog olds (⟨false, Nat.add (Nat.add r 1) 0, n * sz⟩ :: l)⟩, by simp only [St.frz, a6, Bool.false_or, hrd, h1], rfl, fun k hk => ?_⟩
    simp only
    rw [Tr.get_set, if_neg (by omega), kill_at, if_neg]
    intro hm
    have := a5 k hm
    omega
section
variable {E : Env} {s : St} {Q : Value → St → Prop}
theorem Ok.frzO {b n o : Nat} {vs : List Value} {s1 : St} {k : Nat → List Value → Prog} (h : s.frz b n o = some (vs, s1)) (hk : Ok (fun f => k f vs) s1 Q) : Ok (fun f => .frz b n o (k f)) s Q := by
  obtain ⟨v, s', h1, f0, h2⟩ := hk
  refine ⟨v, s', h1, f0, fun f hf => ?_⟩
  simp only [Prog.run, h]
  exact h2 f hf
/-- A list of plain parts. -/
theorem Ok.frzL {e lo d : Nat} {cs : List Value} {v : Value} {p : Nat → Value → Prog} (hs : E.size e = some 1) (hsl : slots E 20 e = [none]) (h1 : isOneT E e = true) (h : Grow s.mem lo s.ctr e 1 cs v)
    (hk : ∀ s', s'.ctr = s.ctr → (∀ k, k < lo → s'.mem.get k = s.mem.get k) → Ok (fun f => p f (lstV cs)) s' Q) : Ok (fun f => Ev.frzL E (d + 1) e v (p f)) s Q := by
  obtain ⟨m, c, l⟩ := s
  have h' := h
  rcases h.2 with ⟨rfl, rfl⟩ | ⟨r, n, sy, olds, rfl, a2, _⟩
  · exact hk _ rfl fun _ _ => rfl
  · by_cases hn : n = 0
    · subst hn
      have : cs = [] := List.length_eq_zero_iff.1 (by omega)
      subst this
      exact hk _ rfl fun _ _ => rfl
    · obtain ⟨s', f1, f2, f3⟩ := Grow.frz (l := l) h'
      have hb : Nat.beq n 0 = false := by cases n with
        | zero => exact absurd rfl hn
        | succ n => rfl
      have hc : chunkC true 1 n cs = cs := by
        rcases chunk1 n cs (by omega) 1 with e | e
        · exact e
        · exact absurd rfl e
      have e2 : ∀ f, Ev.frzL E (d + 1) e (.slice (some ⟨r, 0, none⟩) n (capOf n false)) (p f) = .frz r (n * 1) 0 fun vs => p f (lstV (chunkC true 1 n vs)) := by
        intro f
        unfold Ev.frzL
        simp only [hb, hs, Ev.opt, ck, hsl, anySome, h1, Nat.mul_eq]
        rfl
      simp only [e2]
      refine Ok.frzO f1 ?_
      rw [hc]
      exact hk s' f2 f3
theorem Ok.frzLst {e d : Nat} {cs : List Value} {p : Nat → Value → Prog} (hk : Ok (fun f => p f (lstV cs)) s Q) : Ok (fun f => Ev.frzL E (d + 1) e (lstV cs) (p f)) s Q := hk
theorem Ok.frzNil {e d : Nat} {p : Nat → Value → Prog} (hk : Ok (fun f => p f (lstV [])) s Q) : Ok (fun f => Ev.frzL E (d + 1) e (.slice none 0 0) (p f)) s Q := hk
end
end Go.Ev
/- The lexer: value, of a row. -/
namespace Go.Proofs.YtmjbmbmnnephjaaGreatDoor
open Go Go.Ev Go.Proofs
noncomputable def body119 (f : Nat) (b : Nat) (p t : Int) (n sy l : Value) : Prog := runP En f 119 (frameTm 34 [.pointer (some ⟨b, 0, none⟩), .int .i64 p, .agg ⟨[.int .i64 t, n, sy, l]⟩]) [.code (cB 119)] [] none
theorem f119_frz (f : Nat) (b : Nat) (p t : Int) (n sy l : Value) : callF En (runP En f) 119 [.pointer (some ⟨b, 0, none⟩), .int .i64 p, .agg ⟨[.int .i64 t, n, sy, l]⟩] =
    frzL En 20 2 n fun n => frzL En 20 9 sy fun sy => frzL En 20 32 l fun l => body119 f b p t n sy l := by kernel_rfl
theorem f119_lst (f : Nat) (b : Nat) (p t : Int) (n sy l : List Value) : callF En (runP En f) 119 [.pointer (some ⟨b, 0, none⟩), .int .i64 p, .agg ⟨[.int .i64 t, lstV n, lstV sy, lstV l]⟩] = body119 f b p t (lstV n) (lstV sy) (lstV l) := by kernel_rfl
theorem sl2 : slots En 20 2 = [none] := by kernel_rfl
theorem sl9 : slots En 20 9 = [none] := by kernel_rfl
section
variable {s : St} {b : Nat} {str : ByteArray} {a : Int} {ts : List Tok} {err bad : Int}
theorem valueN_ok {lo : Nat} {v : Value} {n : List Value} (h : LXh s.mem lo b str a ts err bad) (hlo : lo ≤ s.ctr) (hg : Grow s.mem lo s.ctr 2 1 n v) (p : Int) (hp : 0 ≤ p ∧ p ≤ a ∧ a ≤ (bl str).length) (t : Int) (hn : n.length ≤ 1000000) (hl : ts.length ≤ 20000) :
    Ok (fun f => callF En (runP En f) 119 [.pointer (some ⟨b, 0, none⟩), .int .i64 p, .agg ⟨[.int .i64 t, v, .slice none 0 0, .slice none 0 0]⟩]) s
      (fun v s' => v = .tuple ⟨[]⟩ ∧ LX s' b str a (ts ++ [⟨1, p, a, sub str p a, atomT t n.length, n, [], []⟩]) err bad) := by
  simp only [f119_frz]
  refine Ok.frzL (by kernel_rfl) sl2 (by kernel_rfl) hg fun s' c1 f1 => ?_
  refine Ok.frzNil (Ok.frzNil ?_)
  simp only [← f119_lst]
  have h' : LX s' b str a ts err bad := h.frame (by omega) f1
  exact value_ok h' p hp t n [] [] hn hl
theorem valueS_ok {lo : Nat} {v : Value} {n : List Value} (h : LXh s.mem lo b str a ts err bad) (hlo : lo ≤ s.ctr) (hg : Grow s.mem lo s.ctr 9 1 n v) (p : Int) (hp : 0 ≤ p ∧ p ≤ a ∧ a ≤ (bl str).length) (t : Int) (hn : n.length ≤ 1000000) (hl : ts.length ≤ 20000) :
    Ok (fun f => callF En (runP En f) 119 [.pointer (some ⟨b, 0, none⟩), .int .i64 p, .agg ⟨[.int .i64 t, .slice none 0 0, v, .slice none 0 0]⟩]) s
      (fun v s' => v = .tuple ⟨[]⟩ ∧ LX s' b str a (ts ++ [⟨1, p, a, sub str p a, atomT t n.length, [], n, []⟩]) err bad) := by
  simp only [f119_frz]
  refine Ok.frzNil ?_
  refine Ok.frzL (by kernel_rfl) sl9 (by kernel_rfl) hg fun s' c1 f1 => ?_
  refine Ok.frzNil ?_
  simp only [← f119_lst]
  have h' : LX s' b str a ts err bad := h.frame (by omega) f1
  refine Ok.mono (value_ok h' p hp t [] n [] (by simpa using hn) hl) ?_
  rintro v s2 ⟨rfl, h2⟩
  refine ⟨rfl, ?_⟩
  simp only [List.length_nil, Nat.zero_add] at h2
  exact h2
end
end Go.Proofs.YtmjbmbmnnephjaaGreatDoor
/- The lexer: numeral. -/
namespace Go.Proofs.YtmjbmbmnnephjaaGreatDoor
open Go Go.Ev Go.Proofs
/-- A value that the lexer makes. -/
def ValOK (t : Int) (n sy l : List Value) : Prop := l = [] ∧ n.length + sy.length ≤ 65536 ∧ ∃ k : Int, (k = 1 ∨ k = 2 ∨ k = 3 ∨ k = 4 ∨ k = 5) ∧ t = atomT k (n.length + sy.length) ∧
  ((k = 3 ∧ n = [] ∧ ∀ x ∈ sy, ∃ y, x = .string y ∧ (bl y).length ≤ 64 ∧ ∀ c ∈ bl y, c ≠ 0) ∨ (k ≠ 3 ∧ sy = [] ∧ ∀ x ∈ n, ∃ i, x = .int .i64 i ∧ (k = 1 → i = 0 ∨ i = 1)))
/-- A token that begins at a place. -/
def TokOK (str : ByteArray) (p : Int) (t : Tok) : Prop := t.at_ = p ∧ p < t.en ∧ t.en ≤ (bl str).length ∧ 1 ≤ t.kind ∧ t.kind ≤ 6 ∧ (t.kind ≠ 3 → t.text = sub str p t.en) ∧ (t.kind = 1 → ValOK t.t t.n t.sy t.l)
/-- What taking a token comes to. -/
def TokQ (b : Nat) (str : ByteArray) (p : Int) (ts : List Tok) (bad : Int) (v : Value) (s' : St) : Prop :=
  v = .tuple ⟨[]⟩ ∧ ((∃ (a' err' bad' : Int) (ts' : List Tok), err' ≠ 0 ∧ 0 ≤ bad' ∧ bad' ≤ (bl str).length ∧ LX s' b str a' ts' err' bad') ∨ (∃ t, TokOK str p t ∧ LX s' b str t.en (ts ++ [t]) 0 bad))
section
variable {s : St} {b : Nat} {str : ByteArray} {a : Int} {ts : List Tok} {bad : Int}
theorem fail_q {err : Int} (h : LX s b str a ts 0 bad) (e p : Int) (he : e ≠ 0) (hp : 0 ≤ p ∧ p ≤ (bl str).length) (q : Int) :
    Ok (fun f => Prog.call (callF En (runP En f) 35 [(Value.pointer (Option.some (Addr.mk b 0 Option.none))), (Value.int IntKind.i64 e), (Value.int IntKind.i64 p)]) fun v17 =>
        (cnd (Prog.ret (Value.tuple ⟨[]⟩)) Prog.fail ((isTupV v17) && (okNs [] (tupOf v17))))) s (TokQ b str q ts bad) := by
  refine Ok.call (fail_lx h e p) ?_
  rintro v s1 ⟨rfl, h1, _⟩
  exact Ok.t rfl (Ok.ret ⟨rfl, .inl ⟨a, e, p, ts, he, hp.1, hp.2, by simpa using h1⟩⟩)
/-- The numbers so far: a row of a value at c. -/
def NS (s : St) (c : Nat) (b : Nat) (str : ByteArray) (a : Int) (ts : List Tok) (bad : Int) (t : Int) (ns : List Value) : Prop :=
  LXh s.mem c b str a ts 0 bad ∧ c + 5 ≤ s.ctr ∧ ∃ v, Row s.mem c [.int .i64 t, v, .slice none 0 0, .slice none 0 0] ∧ Grow s.mem (c + 5) s.ctr 2 1 ns v
theorem NS.lx {c : Nat} {t : Int} {ns : List Value} (h : NS s c b str a ts bad t ns) : LX s b str a ts 0 bad := h.1.frame (by have := h.2.1; omega) fun _ _ => rfl
theorem NS.fresh {s' : St} {c : Nat} {t : Int} {ns : List Value} (h : NS s c b str a ts bad t ns) (f : Fresh s s') : NS s' c b str a ts bad t ns := by
  obtain ⟨h1, h2, v, h3, h4⟩ := h
  exact ⟨h1.frame (Nat.le_refl c) fun k hk => f.2 k (by omega), by have := f.1; omega, v, h3.congr fun j _ hj => f.2 j (by simp at hj; omega), h4.congr f.1 fun j _ hj => f.2 j hj⟩
theorem NS.reads {s' : St} {c : Nat} {t : Int} {ns : List Value} (h : NS s c b str a ts bad t ns) (r : Reads s s') : NS s' c b str a ts bad t ns := h.fresh (Go.Ev.Reads.fresh r)
/-- The place may have moved. -/
theorem NS.ats {s' : St} {c : Nat} {t : Int} {ns : List Value} {a' : Int} (h : NS s c b str a ts bad t ns) (g : LX s' b str a' ts 0 bad) (f : Ats b s s') : NS s' c b str a' ts bad t ns := by
  obtain ⟨⟨l, g1, g2, g3, g4⟩, h2, v, h3, h4⟩ := h
  obtain ⟨l', i1, i2, i3, i4⟩ := g
  have el : l' = l := by
    have e1 : s.mem.get (b + 1 + 2) = some (.cell b l) := CellsAt.get 2 l g1.2 rfl
    have e2 : s'.mem.get (b + 1 + 2) = some (.cell b l') := CellsAt.get 2 l' i1.2 rfl
    rw [f.2 _ (by omega) (by omega), e1] at e2
    simpa using e2.symm
  subst el
  exact ⟨⟨l', i1, g2.congr (Nat.le_refl c) fun j h5 h6 => f.2 j (by omega) (by omega), g3, i4⟩, by have := f.1; omega, v, h3.congr fun j _ hj => f.2 j (by simp at hj; omega) (by omega), h4.congr f.1 fun j _ hj => f.2 j hj (by omega)⟩
theorem NS.setAt {c : Nat} {t : Int} {ns : List Value} (h : NS s c b str a ts bad t ns) (a' : Int) :
    Ok (fun _ => storeT En 3 b 1 (.int .i64 a')) s (fun w s' => w = U ∧ NS s' c b str a' ts bad t ns) := by
  refine Ok.mono (setAt_ok h.lx a') ?_
  rintro v s' ⟨rfl, h1, c1, f1⟩
  exact ⟨rfl, h.ats h1 (setAt_ats c1 f1)⟩
theorem appT28 : AppT En 28 2 1 8 := ⟨by kernel_rfl, by kernel_rfl, by kernel_rfl, by kernel_rfl, by omega⟩
/-- The row's list is taken, and one more stored. -/
theorem NS.push {c : Nat} {t : Int} {ns : List Value} (h : NS s c b str a ts bad t ns) (hn : ns.length ≤ 65536) (i : Int) :
    ∃ v, Cell s.mem c 1 v ∧ Ok (fun _ => builtinA En Builtin.append (28 :: (28 :: [])) (v :: (xlstV (Value.int IntKind.i64 i :: []) :: []))) s (fun w s' => oneC w = true ∧ cellsL w = [w] ∧ c + 5 ≤ s'.ctr ∧ LXh s'.mem c b str a ts 0 bad ∧ Row s'.mem c [.int .i64 t, v, .slice none 0 0, .slice none 0 0] ∧ Grow s'.mem (c + 5) s'.ctr 2 1 (ns ++ [.int .i64 i]) w) := by
  obtain ⟨h1, h2, v, h3, h4⟩ := h
  refine ⟨v, h3.cell 1 rfl, ?_⟩
  refine Ok.mono (Ok.app appT28 h4 rfl rfl h2 (by omega)) ?_
  rintro w s' ⟨g1, g2, g3⟩
  exact ⟨g1.one.1, g1.one.2, by omega, h1.frame (Nat.le_refl c) fun k hk => g3 k (by omega), h3.congr fun j _ hj => g3 j (by simp at hj; omega), g1⟩
theorem NS.store {c : Nat} {t : Int} {ns : List Value} {v w : Value} (h0 : oneC w = true) (h0' : cellsL w = [w]) (h2 : c + 5 ≤ s.ctr) (h1 : LXh s.mem c b str a ts 0 bad) (h3 : Row s.mem c [.int .i64 t, v, .slice none 0 0, .slice none 0 0]) (h4 : Grow s.mem (c + 5) s.ctr 2 1 ns w) :
    Ok (fun _ => storeT En 28 c 1 w) s (fun v s' => v = U ∧ NS s' c b str a ts bad t ns) := by
  refine Ok.mono (Ok.storeCell (by kernel_rfl) h0' h3 (by simp) h0) ?_
  rintro v s' ⟨rfl, e1, e2, e3⟩
  exact ⟨rfl, h1.frame (Nat.le_refl c) fun k hk => e3 k (by omega), by omega, w, e2, h4.congr (by omega) fun j h5 _ => e3 j (by omega)⟩
/-- The row is handed over. -/
theorem NS.value {c : Nat} {t : Int} {ns : List Value} (h : NS s c b str a ts bad t ns) (p : Int) (hp : 0 ≤ p ∧ p ≤ a ∧ a ≤ (bl str).length) (hn : ns.length ≤ 1000000) (hl : ts.length ≤ 20000) {Q : Value → St → Prop}
    (hq : ∀ s', LX s' b str a (ts ++ [⟨1, p, a, sub str p a, atomT t ns.length, ns, [], []⟩]) 0 bad → Q (.tuple ⟨[]⟩) s') :
    Ok (fun f => Ev.callP (fun v28 =>
            (cnd
              (Prog.call (callF En (runP En f) 119 [(Value.pointer (Option.some (Addr.mk b 0 Option.none))), (Value.int IntKind.i64 p), (Value.agg ⟨((Value.int IntKind.i64 (intOf (at_ (aggOf v28) 0))) :: ((at_ (aggOf v28) 1) :: ((at_ (aggOf v28) 2) :: ((at_ (aggOf v28) 3) :: []))))⟩)]) fun v29 =>
                (cnd
                  (Prog.ret (Value.tuple ⟨[]⟩))
                  Prog.fail
                  ((isTupV v29) && (okNs [] (tupOf v29)))))
              Prog.fail
              ((isAggV v28) && (okKs ((Kd.int IntKind.i64) :: (Kd.raw :: (Kd.raw :: (Kd.raw :: [])))) (aggOf v28)))))
            (loadT En 32 c 0)) s Q := by
  have h' := h
  obtain ⟨h1, h2, v, h3, h4⟩ := h
  refine Ok.callP (Ok.loadA (n := 4) (vs := [.int .i64 t, v, .slice none 0 0, .slice none 0 0]) (by kernel_rfl) (by kernel_rfl) rfl ?_ h3.2) ?_
  · obtain ⟨el, ex, z, sy', hf⟩ := h3.1
    exact ⟨_, hf⟩
  rintro w s1 ⟨rfl, m1, c1, _⟩
  refine Ok.t rfl ?_
  refine Ok.call (valueN_ok (lo := c + 5) (v := v) (n := ns) (b := b) (str := str) (a := a) (ts := ts) (err := 0) (bad := bad) ?_ (by omega) (h4.congr (by omega) fun j _ _ => by rw [m1]) p hp t hn hl) ?_
  · exact h1.frame (by omega) fun k _ => by rw [m1]
  rintro w s2 ⟨rfl, h5⟩
  exact Ok.t rfl (Ok.ret (hq s2 h5))
end
end Go.Proofs.YtmjbmbmnnephjaaGreatDoor
/- The lexer: numeral's bools. -/
namespace Go.Proofs.YtmjbmbmnnephjaaGreatDoor
open Go Go.Ev Go.Proofs
section
variable {s : St} {b : Nat} {str : ByteArray} {a : Int} {ts : List Tok} {bad : Int}
def bit (c : Nat) : Int := IntKind.wrap IntKind.i64 (IntKind.wrap IntKind.u8 (Int.subNatNat c 48))
theorem bit_ok (c : Nat) (h : memB [48, 49] c = true) : bit c = 0 ∨ bit c = 1 := by
  simp only [memB, List.any_cons, List.any_nil, Bool.or_false, Bool.or_eq_true, decide_eq_true_eq] at h
  rcases h with h | h
  · subst h; left; decide
  · subst h; right; decide
theorem build28 (i : Int) : buildSliceA En 28 1 ((Prod.mk 0 (Value.int IntKind.i64 i)) :: []) = .ret (xlstV (Value.int IntKind.i64 i :: [])) := by kernel_rfl
def BitV (x : Value) : Prop := ∃ i, x = .int .i64 i ∧ (i = 0 ∨ i = 1)
theorem bits_loop (c : Nat) (p : Int) (S x : ByteArray) (hx : ∀ i, i < (bl x).length → memB [48, 49] (byteAt x i) = true) (hp : 0 ≤ p) (hS : p + (bl S).length ≤ (bl str).length) (hS0 : 0 < (bl S).length) (hxl : (bl x).length ≤ (bl S).length) (hx0 : 0 < (bl x).length) (hs : (bl str).length ≤ 1000000) (hl : ts.length ≤ 20000) :
    ∀ (m i : Nat) (ns : List Value) (s : St), i ≤ 65536 → i + m = (bl x).length → ns.length = i → (∀ y ∈ ns, BitV y) → NS s c b str p ts bad 1 ns →
    Ok (fun f => p62_6 f b p S x c 0 (Int.ofNat (bl x).length) (i : Int)) s (TokQ b str p ts bad) := by
  have t3 : scal En 3 = true := by kernel_rfl
  intro m
  induction m with
  | zero =>
    intro i ns s h6 hm hn hb h
    refine Ok.step (fun f => p62_6_eq f b p S x c 0 _ (i : Int)) ?_
    refine Ok.f (decide_eq_false (by simp only [Int.ofNat_eq_natCast]; omega)) ?_
    refine Ok.callP (Ok.load1 t3 h.lx.c1) ?_
    rintro v s1 ⟨rfl, m1, c1, l1⟩
    have r1 : Reads s s1 := ⟨m1, c1, [⟨false, b + 1 + 1, 1⟩, ⟨false, b, 1⟩], l1, rfl⟩
    refine Ok.t rfl ?_
    have hw : IntKind.i64.wrap (p + ((bl S).length : Int)) = p + (bl S).length := wrap_in _ (by omega) (by omega)
    simp only [bl] at hw
    simp only [intOf, Int.ofNat_eq_natCast, hw]
    refine Ok.callP ((h.reads r1).setAt _) ?_
    rintro v s2 ⟨rfl, h2⟩
    refine NS.value h2 p ⟨hp, by omega, hS⟩ (by omega) hl fun s' h3 => ⟨rfl, .inr ⟨⟨1, p, p + ((bl S).length : Int), sub str p (p + ((bl S).length : Int)), atomT 1 ns.length, ns, [], []⟩, ⟨rfl, ?_, hS, Int.le_refl 1, (by decide : (1 : Int) ≤ 6), fun _ => rfl, fun _ => ⟨rfl, ?_, 1, .inl rfl, rfl, .inr ⟨by decide, rfl, ?_⟩⟩⟩, h3⟩⟩
    · show p < p + ((bl S).length : Int)
      omega
    · show ns.length + 0 ≤ 65536
      omega
    · intro y hy
      obtain ⟨i, e, hi⟩ := hb y hy
      exact ⟨i, e, fun _ => hi⟩
  | succ m IH =>
    intro i ns s h6 hm hn hb h
    have hi : i < (bl x).length := by omega
    have hw1 : IntKind.i64.wrap ((i : Int) + 1) = ((i + 1 : Nat) : Int) := by rw [wrap_in _ (by omega) (by omega)]; omega
    simp only [bl] at hi
    refine Ok.step (fun f => p62_6_eq f b p S x c 0 _ (i : Int)) ?_
    refine Ok.t (decide_eq_true (by simp only [bl, Int.ofNat_eq_natCast]; omega)) ?_
    refine Ok.c (fun _ => ?_) (fun hlt => ?_)
    · have hw : IntKind.i64.wrap (p + (i : Int)) = p + i := wrap_in _ (by omega) (by omega)
      rw [hw]
      exact fail_q (err := 0) h.lx 6 _ (by decide) (by simp only [bl] at *; omega) p
    · have hlt := of_decide_eq_false hlt
      obtain ⟨v, hv, _⟩ := h.push (by omega) (bit (byteAt x (Int.toNat (i : Int))))
      simp only [Nat.zero_add]
      refine Ok.segLoad (by kernel_rfl) hv fun s1 r1 => ?_
      refine Ok.t (decide_eq_true (by omega)) ?_
      refine Ok.t (Nat.ble_eq_true_of_le (by simp only [Int.toNat_natCast]; omega)) ?_
      simp only [build28]
      refine Ok.seg (Q1 := fun v s' => v = xlstV (Value.int IntKind.i64 (bit (byteAt x (Int.toNat (i : Int)))) :: []) ∧ s' = ⟨s1.mem, s1.ctr, []⟩) (Ok.ret ⟨rfl, rfl⟩) ?_
      rintro w s2 ⟨rfl, rfl⟩
      refine Ok.gdL (by kernel_rfl) ?_
      have h1 : NS s1 c b str p ts bad 1 ns := h.reads r1
      have h1 : NS ⟨s1.mem, s1.ctr, []⟩ c b str p ts bad 1 ns := h1
      obtain ⟨v', hv', hpush⟩ := h1.push (by omega) (bit (byteAt x (Int.toNat (i : Int))))
      have ev : v' = v := by
        have e1 := (hv.reads r1).2
        have e2 := hv'.2
        simp only at e2
        rw [e1] at e2
        simpa using e2.symm
      subst ev
      refine Ok.seg hpush ?_
      rintro w s3 ⟨w0, w1, w2, w3, w4, w5⟩
      refine Ok.gdL (by kernel_rfl) ?_
      refine Ok.seg (NS.store (s := ⟨s3.mem, s3.ctr, []⟩) w0 w1 w2 w3 w4 w5) ?_
      rintro v s4 ⟨rfl, h4⟩
      refine Ok.gdL (by kernel_rfl) ?_
      rw [hw1]
      refine IH (i + 1) _ _ (by omega) (by omega) (by simp; omega) ?_ h4
      intro y hy
      rcases List.mem_append.1 hy with hy | hy
      · exact hb y hy
      · simp only [List.mem_singleton] at hy
        subst hy
        exact ⟨_, rfl, bit_ok _ (hx i (by simpa [bl] using hi))⟩
end
end Go.Proofs.YtmjbmbmnnephjaaGreatDoor
/- The lexer: numeral. -/
namespace Go.Proofs.YtmjbmbmnnephjaaGreatDoor
open Go Go.Ev Go.Proofs
section
variable {s : St} {b : Nat} {str : ByteArray} {a : Int} {ts : List Tok} {bad : Int}
theorem NS.cell {c : Nat} {t : Int} {ns : List Value} (h : NS s c b str a ts bad t ns) : ∃ x y, Cell s.mem c 1 (.slice x ns.length y) := by
  obtain ⟨_, _, v, h3, h4⟩ := h
  obtain ⟨x, y, rfl⟩ := h4.len ns.length (by omega) (by omega)
  exact ⟨x, y, h3.cell 1 rfl⟩
theorem NS.cellT {c : Nat} {t : Int} {ns : List Value} (h : NS s c b str a ts bad t ns) : Cell s.mem c 0 (.int .i64 t) := by
  obtain ⟨_, _, v, h3, h4⟩ := h
  exact h3.cell 0 rfl
theorem NS.setT {c : Nat} {t : Int} {ns : List Value} (h : NS s c b str a ts bad t ns) (t' : Int) : Ok (fun _ => storeT En 3 c 0 (.int .i64 t')) s (fun w s' => w = U ∧ NS s' c b str a ts bad t' ns) := by
  obtain ⟨h1, h2, v, h3, h4⟩ := h
  refine Ok.mono (Ok.storeCell (by kernel_rfl) rfl h3 (by simp) rfl) ?_
  rintro w s' ⟨rfl, e1, e2, e3⟩
  exact ⟨rfl, h1.frame (Nat.le_refl c) fun k hk => e3 k (by omega), by omega, v, e2, h4.congr (by omega) fun j h5 _ => e3 j (by omega)⟩
theorem len28 (a : Option Addr) (n c : Nat) : builtinA En Builtin.len (28 :: []) (Value.slice a n c :: []) = .ret (vInt n) := by kernel_rfl
theorem sub_len (str : ByteArray) (p q : Int) (hp : 0 ≤ p) (hq : p ≤ q) (hl : q ≤ (bl str).length) : (bl (sub str p q)).length = (q - p).toNat := by
  simp only [sub, bl_mk, List.length_take, List.length_drop]; omega
theorem nums_loop (c : Nat) (p : Int) (hp : 0 ≤ p) (hs : (bl str).length ≤ 100000) (hl : ts.length ≤ 20000) :
    ∀ (m : Nat) (a t : Int) (ns : List Value) (s : St), (bl str).length - a < m → p ≤ a → a ≤ (bl str).length → (isDigit (byteOf str a) = true ∨ byteOf str a = 45) → (ns = [] ∨ t = 2 ∨ t = 4 ∨ t = 5) → (∀ y ∈ ns, ∃ i, y = .int .i64 i) → NS s c b str a ts bad t ns →
    Ok (fun f => p62_15 f b p c 0) s (TokQ b str p ts bad) := by
  have t3 : scal En 3 = true := by kernel_rfl
  have t28 : scal En 28 = true := by kernel_rfl
  intro m
  induction m with
  | zero => intro a t ns s hm hpa ha; omega
  | succ m IH =>
    intro a t ns s hm hpa ha hd ht hns h
    refine Ok.step (fun f => p62_15_eq f b p c 0) ?_
    refine Ok.callP (Ok.load1 t3 h.lx.c1) ?_
    rintro v s1 ⟨rfl, m1, c1, l1⟩
    have r1 : Reads s s1 := ⟨m1, c1, [⟨false, b + 1 + 1, 1⟩, ⟨false, b, 1⟩], l1, rfl⟩
    have h1 := h.reads r1
    refine Ok.t rfl ?_
    refine Ok.call (number_ok h1.lx ⟨by omega, ha⟩ (by omega) hd) ?_
    rintro v s2 ⟨⟨e, he1, he2, rfl⟩, g2, a2⟩
    have h2 := h1.ats g2 a2
    have hsl := sub_len str a e (by omega) (by omega) he2
    refine Ok.t rfl ?_
    refine Ok.call (worth_ok s2 _ (by simp only [strOf]; omega) h2.lx.lib) ?_
    rintro v s3 ⟨⟨t', n, ok, rfl, hok⟩, f3⟩
    have h3 := h2.fresh f3
    refine Ok.t rfl ?_
    refine Ok.c (fun _ => fail_q (err := 0) h3.lx 141 _ (by decide) (by simp only [intOf]; omega) p) (fun hb => ?_)
    have hok := hok (not_f hb)
    obtain ⟨x, y, hc⟩ := h3.cell
    simp only [Nat.zero_add]
    refine Ok.callP (Ok.load1 t28 hc) ?_
    rintro v s4 ⟨rfl, m4, c4, l4⟩
    have r4 : Reads s3 s4 := ⟨m4, c4, [⟨false, c + 1 + 1, 1⟩, ⟨false, c, 1⟩], l4, rfl⟩
    have h4 := h3.reads r4
    simp only [len28]
    refine Ok.callP (Q1 := fun v s' => v = vInt (ns.length : Nat) ∧ s' = s4) (Ok.ret ⟨rfl, rfl⟩) ?_
    rintro v s5 ⟨rfl, rfl⟩
    refine Ok.t rfl ?_
    have hw : IntKind.i64.wrap (a + ((bl (sub str a e)).length : Int)) = e := by rw [hsl, wrap_in _ (by omega) (by omega)]; omega
    simp only [bl] at hw
    have fin : ∀ (s7 : St) (k : Nat → Value → Prog), NS s7 c b str a ts bad t ns → ns.length < 65536 →
        (∀ s8, NS s8 c b str e ts bad t' (ns ++ [.int .i64 n]) → Ok (fun f => k f U) s8 (TokQ b str p ts bad)) →
        Ok (fun f => Ev.callP (fun v41 => (Ev.callP (fun v42 => (Ev.callP (fun v43 => (Ev.callP (fun v44 => (Ev.callP (k f) (storeT En 28 c 1 v44)))
            (builtinA En Builtin.append (28 :: (28 :: [])) (v43 :: ((xlstV ((Value.int IntKind.i64 n) :: [])) :: [])))))
            (loadT En 28 c 1))) (storeT En 3 c 0 (Value.int IntKind.i64 t')))) (storeT En 3 b 1 (Value.int IntKind.i64 e))) s7 (TokQ b str p ts bad) := by
      intro s7 k h7 hlt hk
      refine Ok.callP (h7.setAt e) ?_
      rintro v s8 ⟨rfl, h8⟩
      refine Ok.callP (h8.setT t') ?_
      rintro v s9 ⟨rfl, h9⟩
      obtain ⟨w, hw, _⟩ := h9.push (by omega) n
      refine Ok.callP (Ok.load1 t28 hw) ?_
      rintro v s10 ⟨rfl, m10, c10, l10⟩
      have r10 : Reads s9 s10 := ⟨m10, c10, [⟨false, c + 1 + 1, 1⟩, ⟨false, c, 1⟩], l10, rfl⟩
      have h10 := h9.reads r10
      obtain ⟨w', hw', hpush⟩ := h10.push (by omega) n
      have ev : w' = v := by
        have e1 := (hw.reads r10).2
        have e2 := hw'.2
        rw [e1] at e2
        simpa using e2.symm
      subst ev
      refine Ok.callP hpush ?_
      rintro w s11 ⟨w0, w1, w2, w3, w4, w5⟩
      refine Ok.callP (NS.store w0 w1 w2 w3 w4 w5) ?_
      rintro v s12 ⟨rfl, h12⟩
      exact hk s12 h12
    have last : ∀ s8, ns.length < 65536 → NS s8 c b str e ts bad t' (ns ++ [.int .i64 n]) → Ok (fun f => (Prog.call (callF En (runP En f) 122 [(Value.pointer (Option.some (Addr.mk b 0 Option.none)))]) fun v57 =>
                                            (cnd
                                              (cnd
                                                (Ev.callP (fun v58 =>
                                                  (cnd
                                                    (Prog.call (callF En (runP En f) 119 [(Value.pointer (Option.some (Addr.mk b 0 Option.none))), (Value.int IntKind.i64 p), (Value.agg ⟨((Value.int IntKind.i64 (intOf (at_ (aggOf v58) 0))) :: ((at_ (aggOf v58) 1) :: ((at_ (aggOf v58) 2) :: ((at_ (aggOf v58) 3) :: []))))⟩)]) fun v59 =>
                                                      (cnd
                                                        (Prog.ret (Value.tuple ⟨[]⟩))
                                                        Prog.fail
                                                        ((isTupV v59) && (okNs [] (tupOf v59)))))
                                                    Prog.fail
                                                    ((isAggV v58) && (okKs ((Kd.int IntKind.i64) :: (Kd.raw :: (Kd.raw :: (Kd.raw :: [])))) (aggOf v58)))))
                                                  (loadT En 32 c 0))
                                                (p62_15 f b p c 0)
                                                (Bool.not (boolOf v57)))
                                              Prog.fail
                                              (okK Kd.bool v57)))) s8 (TokQ b str p ts bad) := by
      intro s8 hlt h8
      refine Ok.call (more_ok h8.lx ⟨by omega, he2⟩ (by omega)) ?_
      rintro v s9 ⟨a9, hq⟩
      rcases hq with ⟨rfl, h9⟩ | ⟨rfl, a', ha1, ha2, hd', h9⟩
      · have h9 := h8.ats h9 a9
        refine Ok.t rfl (Ok.t rfl ?_)
        refine NS.value h9 p ⟨hp, by omega, he2⟩ (by simp; omega) hl fun s' h10 => ⟨rfl, .inr ⟨⟨1, p, e, sub str p e, atomT t' (ns ++ [Value.int .i64 n]).length, ns ++ [Value.int .i64 n], [], []⟩, ⟨rfl, ?_, he2, Int.le_refl 1, (by decide : (1 : Int) ≤ 6), fun _ => rfl, fun _ => ⟨rfl, ?_, t', ?_, rfl, .inr ⟨by omega, rfl, ?_⟩⟩⟩, h10⟩⟩
        · show p < e
          omega
        · show (ns ++ [Value.int .i64 n]).length + 0 ≤ 65536
          simp; omega
        · omega
        · intro y hy
          rcases List.mem_append.1 hy with hy | hy
          · obtain ⟨i, hi⟩ := hns y hy
            exact ⟨i, hi, fun h => by omega⟩
          · simp only [List.mem_singleton] at hy
            exact ⟨n, hy, fun h => by omega⟩
      · have h9 := h8.ats h9 a9
        refine Ok.t rfl (Ok.f rfl ?_)
        refine IH a' t' _ s9 (by omega) (by omega) ha2 hd' (.inr hok) ?_ h9
        intro y hy
        rcases List.mem_append.1 hy with hy | hy
        · exact hns y hy
        · simp only [List.mem_singleton] at hy
          exact ⟨n, hy⟩
    have hwe : IntKind.wrap IntKind.i64 ((intOf (Value.int IntKind.i64 a)) + (Int.ofNat (List.length (Array.toList (ByteArray.data (strOf (Value.string (sub str a e)))))))) = e := hw
    refine Ok.c (fun _ => ?_) (fun _ => ?_)
    · refine Ok.callP (Ok.load1 t3 h4.cellT) ?_
      rintro v s6 ⟨rfl, m6, c6, l6⟩
      have r6 : Reads s5 s6 := ⟨m6, c6, [⟨false, c + 1 + 0, 1⟩, ⟨false, c, 1⟩], l6, rfl⟩
      have h6 := h4.reads r6
      refine Ok.t rfl ?_
      refine Ok.c (fun _ => fail_q (err := 0) h6.lx 143 _ (by decide) (by simp only [intOf]; omega) p) (fun _ => ?_)
      obtain ⟨x', y', hc'⟩ := h6.cell
      refine Ok.callP (Ok.load1 t28 hc') ?_
      rintro v s7 ⟨rfl, m7, c7, l7⟩
      have r7 : Reads s6 s7 := ⟨m7, c7, [⟨false, c + 1 + 1, 1⟩, ⟨false, c, 1⟩], l7, rfl⟩
      have h7 := h6.reads r7
      simp only [len28]
      refine Ok.callP (Q1 := fun v s' => v = vInt (ns.length : Nat) ∧ s' = s7) (Ok.ret ⟨rfl, rfl⟩) ?_
      rintro v s8 ⟨rfl, rfl⟩
      refine Ok.t rfl ?_
      refine Ok.c (fun _ => fail_q (err := 0) h7.lx 6 _ (by decide) (by simp only [intOf]; omega) p) (fun hlt => ?_)
      have hlt := of_decide_eq_false hlt
      simp only [intOf, vInt] at hlt
      rw [hwe]
      exact fin s8 _ h7 (by omega) fun s9 h9 => last s9 (by omega) h9
    · obtain ⟨x', y', hc'⟩ := h4.cell
      refine Ok.callP (Ok.load1 t28 hc') ?_
      rintro v s7 ⟨rfl, m7, c7, l7⟩
      have r7 : Reads s5 s7 := ⟨m7, c7, [⟨false, c + 1 + 1, 1⟩, ⟨false, c, 1⟩], l7, rfl⟩
      have h7 := h4.reads r7
      simp only [len28]
      refine Ok.callP (Q1 := fun v s' => v = vInt (ns.length : Nat) ∧ s' = s7) (Ok.ret ⟨rfl, rfl⟩) ?_
      rintro v s8 ⟨rfl, rfl⟩
      refine Ok.t rfl ?_
      refine Ok.c (fun _ => fail_q (err := 0) h7.lx 6 _ (by decide) (by simp only [intOf]; omega) p) (fun hlt => ?_)
      have hlt := of_decide_eq_false hlt
      simp only [intOf, vInt] at hlt
      rw [hwe]
      exact fin s8 _ h7 (by omega) fun s9 h9 => last s9 (by omega) h9
end
end Go.Proofs.YtmjbmbmnnephjaaGreatDoor
/- The lexer: numeral, whole. -/
namespace Go.Proofs.YtmjbmbmnnephjaaGreatDoor
open Go Go.Ev Go.Proofs
section
variable {s : St} {b : Nat} {str : ByteArray} {a : Int} {ts : List Tok} {bad : Int}
theorem ns_start {Q : Value → St → Prop} (h : LX s b str a ts 0 bad) (t : Int) (k : Nat → Nat → Nat → Prog) (hk : ∀ s', NS s' s.ctr b str a ts bad t [] → Ok (fun f => k f s.ctr 0) s' Q) :
    Ok (fun f => gd Bool.true (Ev.callP (fun v65 => (cnd (Ev.callP (fun _ => k f (blkOf v65) (offOf v65))
          (storeT En 32 (blkOf v65) (offOf v65) (Value.agg ⟨((Value.int IntKind.i64 t) :: ((Value.slice Option.none 0 0) :: ((Value.slice Option.none 0 0) :: ((Value.slice Option.none 0 0) :: []))))⟩)))
        Prog.fail (isPt v65)))
      (Prog.newH (Hdr.mk 4 32 Bool.false Bool.true Bool.true 0 Bool.false Bool.false []) ((Value.int IntKind.i64 (0 : Int)) :: ((Value.slice Option.none 0 0) :: ((Value.slice Option.none 0 0) :: ((Value.slice Option.none 0 0) :: [])))) (fun z64 => (Prog.ret (itP z64)))))) s Q := by
  refine Ok.g rfl ?_
  refine Ok.callP (Ok.new rfl) ?_
  rintro v s1 ⟨rfl, e1, e2, e3⟩
  refine Ok.t rfl ?_
  simp only [blk_itP, off_itP]
  refine Ok.callP (Ok.storeRow (n := 4) (ws := [Value.int IntKind.i64 t, Value.slice none 0 0, Value.slice none 0 0, Value.slice none 0 0]) (by kernel_rfl) e2 rfl rfl rfl) ?_
  rintro v s2 ⟨rfl, c2, g2, k2⟩
  exact hk s2 ⟨LXh.frame h (Nat.le_refl _) fun k hk => by rw [k2 k (.inl (by omega)), e3 k hk], by omega, _, g2, Grow.nil _ _ _ _ _⟩
theorem byteAt_mem (x : ByteArray) (i : Nat) (h : i < (bl x).length) : ∃ c ∈ bl x, byteAt x i = c.toNat := by
  refine ⟨(bl x)[i], List.getElem_mem h, ?_⟩
  show ((bl x).getD i 0).toNat = _
  rw [List.getD_eq_getElem?_getD, List.getElem?_eq_getElem h]
  rfl
theorem numeral_ok (h : LX s b str a ts 0 bad) (ha : 0 ≤ a ∧ a ≤ (bl str).length) (hs : (bl str).length ≤ 100000) (hl : ts.length ≤ 20000) (hd : isDigit (byteOf str a) = true ∨ byteOf str a = 45) :
    Ok (fun f => callF En (runP En f) 62 [.pointer (some ⟨b, 0, none⟩)]) s (TokQ b str a ts bad) := by
  have t3 : scal En 3 = true := by kernel_rfl
  have nums : ∀ s', LX s' b str a ts 0 bad → ∀ s2, NS s2 s'.ctr b str a ts bad 0 [] → Ok (fun f => p62_15 f b a s'.ctr 0) s2 (TokQ b str a ts bad) := fun s' _ s2 h2 =>
    nums_loop s'.ctr a ha.1 hs hl (((bl str).length - a).toNat + 1) a 0 [] s2 (by omega) (Int.le_refl a) ha.2 hd (.inl rfl) (fun y hy => by cases hy) h2
  refine Ok.step (fun f => f62_eq f b) ?_
  refine Ok.callP (Ok.load1 t3 h.c1) ?_
  rintro v s1 ⟨rfl, m1, c1, l1⟩
  have r1 : Reads s s1 := ⟨m1, c1, [⟨false, b + 1 + 1, 1⟩, ⟨false, b, 1⟩], l1, rfl⟩
  have h1 := h.reads r1
  refine Ok.t rfl ?_
  refine Ok.call (run_ok long_ok s1 ha.1 ha.2 (by simp only [bl] at hs; omega) h1.c0 h1.c1) ?_
  rintro v s2 ⟨n, hn, rfl, r2⟩
  have h2 := h1.reads r2
  refine Ok.t rfl ?_
  have hS : (bl (mkStr (List.take n (List.drop a.toNat str.data.toList)))).length = n := by
    have := hn.1
    rw [bl_mk, List.length_take, List.length_drop]; omega
  generalize mkStr (List.take n (List.drop a.toNat str.data.toList)) = S at hS
  have hn1 := hn.1
  have hbl : (bl str).length = str.data.toList.length := rfl
  refine Ok.call (cutSuffix_ok s2 S _ (by omega)) ?_
  rintro v s3 ⟨rfl, rfl⟩
  refine Ok.t rfl ?_
  simp only [show ∀ a b, at_ (tupOf (Value.tuple ⟨[.string a, .bool b]⟩)) 0 = .string a from fun _ _ => rfl, show ∀ a b, at_ (tupOf (Value.tuple ⟨[.string a, .bool b]⟩)) 1 = .bool b from fun _ _ => rfl, strOf, boolOf, intOf]
  have other : Ok _ s3 (TokQ b str a ts bad) := ns_start h2 0 (fun f x o => p62_15 f b a x o) fun s' h' => nums s3 h2 s' h'
  refine Ok.c (fun hb => ?_) (fun _ => other)
  refine Ok.c (fun hne => ?_) (fun _ => other)
  have hxle : (cutSuf (bl S) (bl (mkStr [98]))).length ≤ n := hS ▸ cutSuf_le _ _
  refine Ok.call (bits_ok s3 (mkStr (cutSuf (bl S) (bl (mkStr [98])))) (by rw [bl_mk]; omega)) ?_
  rintro v s4 ⟨⟨y, rfl, hy⟩, f4⟩
  have h4 := h2.fresh f4
  refine Ok.t rfl ?_
  refine Ok.c (fun hz => ?_) (fun _ => ns_start h4 0 (fun f x o => p62_15 f b a x o) fun s' h' => nums s4 h4 s' h')
  rw [beqB_eq] at hz
  have hz : bl y = [] := of_decide_eq_true hz
  have hy := hy.1 hz
  have hne := not_t hne
  rw [beqB_eq] at hne
  have hne : bl (mkStr (cutSuf (bl S) (bl (mkStr [98])))) ≠ [] := of_decide_eq_false hne
  have hx0 : 0 < (bl (mkStr (cutSuf (bl S) (bl (mkStr [98]))))).length := List.length_pos_iff.2 hne
  refine ns_start h4 1 (fun f x o => p62_6 f b a S (mkStr (cutSuf (bl S) (bl (mkStr [98])))) x o (Int.ofNat (bl (mkStr (cutSuf (bl S) (bl (mkStr [98]))))).length) 0) fun s' h' => ?_
  refine bits_loop s4.ctr a S (mkStr (cutSuf (bl S) (bl (mkStr [98])))) (fun i hi => ?_) ha.1 (by omega) (by rw [bl_mk] at hx0; omega) (by rw [bl_mk, hS]; omega) hx0 (by omega) hl (bl (mkStr (cutSuf (bl S) (bl (mkStr [98]))))).length 0 [] s' (by omega) (by omega) rfl (fun y hy => by cases hy) h'
  · obtain ⟨c, hc, e⟩ := byteAt_mem _ i hi
    rw [e]
    exact hy c hc
end
end Go.Proofs.YtmjbmbmnnephjaaGreatDoor
