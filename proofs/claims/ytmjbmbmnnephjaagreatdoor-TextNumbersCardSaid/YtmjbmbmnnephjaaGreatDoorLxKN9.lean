/- The library's strings.Trim. -/
import Derived.Test.YtmjbmbmnnephjaaGreatDoorLxKN8
import Derived.Test.YtmjbmbmnnephjaaGreatDoorLxKN7
import Derived.Test.YtmjbmbmnnephjaaGreatDoorLxKN6
import Derived.Lib.ItoaMem
import Derived.Lib.ParseIntBCases
import Derived.Lib.ItoaLen
import Derived.Test.YtmjbmbmnnephjaaGreatDoorLxKN4
namespace Go.Proofs.YtmjbmbmnnephjaaGreatDoor
open Go Go.Ev Go.Proofs
theorem f118_eq' (f : Nat) (x0 : ByteArray) (x1 : ByteArray) : callF En (runP En (f + 1)) 118 [(Value.string x0), (Value.string x1)] =
  (cnd
    (Prog.ret (Value.string x0))
    (cnd
      (Prog.ret (Value.string x0))
      (cnd
        (cnd
          (cnd
            (cnd
              (Prog.seg (callF En (runP En f) 112 [(Value.string x0), (Value.int IntKind.u8 (Int.ofNat (byteAt x1 0)))]) fun v21 s22 _ =>
                (cnd
                  (cnd
                    (Prog.seg (callF En (runP En f) 175 [(Value.string (strOf v21)), (Value.int IntKind.u8 (Int.ofNat (byteAt x1 0)))]) fun v23 s24 _ =>
                      (gdL 63 (writesOf s24) s24 [⟨3, writesOf s22, s22⟩]
                        (cnd
                          (Prog.ret (Value.string (strOf v23)))
                          Prog.fail
                          (okK Kd.str v23))))
                    Prog.fail
                    (Nat.ble 1 (List.length (Array.toList (ByteArray.data x1)))))
                  Prog.fail
                  (okK Kd.str v21)))
              Prog.fail
              (Nat.ble 1 (List.length (Array.toList (ByteArray.data x1)))))
            (Prog.call (callF En (runP En f) 113 [(Value.string x1)]) fun v25 =>
              (cnd
                (callP (fun v27 =>
                  (cnd
                    (callP (fun v28 =>
                      (cnd
                        (Prog.call (callF En (runP En f) 114 [(Value.string x0), (Value.pointer (Option.some (Addr.mk (blkOf v27) (offOf v27) Option.none)))]) fun v29 =>
                          (cnd
                            (Prog.call (callF En (runP En f) 176 [(Value.string (strOf v29)), (Value.pointer (Option.some (Addr.mk (blkOf v27) (offOf v27) Option.none)))]) fun v30 =>
                              (cnd
                                (Prog.ret (Value.string (strOf v30)))
                                Prog.fail
                                (okK Kd.str v30)))
                            Prog.fail
                            (okK Kd.str v29)))
                        (Prog.call (callF En (runP En f) 115 [(Value.string x0), (Value.string x1)]) fun v31 =>
                          (cnd
                            (Prog.call (callF En (runP En f) 177 [(Value.string (strOf v31)), (Value.string x1)]) fun v32 =>
                              (cnd
                                (Prog.ret (Value.string (strOf v32)))
                                Prog.fail
                                (okK Kd.str v32)))
                            Prog.fail
                            (okK Kd.str v31)))
                        (boolOf (at_ (tupOf v25) 1))))
                      (storeT En 116 (blkOf v27) (offOf v27) (at_ (tupOf v25) 0)))
                    Prog.fail
                    (isPt v27)))
                  (Prog.newH (Hdr.mk 256 116 Bool.false Bool.true Bool.true 0 Bool.false Bool.false []) (setL fun _ => false) (fun z26 => (Prog.ret (itP z26)))))
                Prog.fail
                ((isTupV v25) && (okNs (Nm.raw :: ((Nm.one Kd.bool) :: [])) (tupOf v25)))))
            (decide ((Int.ofNat (byteAt x1 0)) < (128 : Int))))
          Prog.fail
          (Nat.ble 1 (List.length (Array.toList (ByteArray.data x1)))))
        (Prog.call (callF En (runP En f) 113 [(Value.string x1)]) fun v33 =>
          (cnd
            (callP (fun v35 =>
              (cnd
                (callP (fun v36 =>
                  (cnd
                    (Prog.call (callF En (runP En f) 114 [(Value.string x0), (Value.pointer (Option.some (Addr.mk (blkOf v35) (offOf v35) Option.none)))]) fun v37 =>
                      (cnd
                        (Prog.call (callF En (runP En f) 176 [(Value.string (strOf v37)), (Value.pointer (Option.some (Addr.mk (blkOf v35) (offOf v35) Option.none)))]) fun v38 =>
                          (cnd
                            (Prog.ret (Value.string (strOf v38)))
                            Prog.fail
                            (okK Kd.str v38)))
                        Prog.fail
                        (okK Kd.str v37)))
                    (Prog.call (callF En (runP En f) 115 [(Value.string x0), (Value.string x1)]) fun v39 =>
                      (cnd
                        (Prog.call (callF En (runP En f) 177 [(Value.string (strOf v39)), (Value.string x1)]) fun v40 =>
                          (cnd
                            (Prog.ret (Value.string (strOf v40)))
                            Prog.fail
                            (okK Kd.str v40)))
                        Prog.fail
                        (okK Kd.str v39)))
                    (boolOf (at_ (tupOf v33) 1))))
                  (storeT En 116 (blkOf v35) (offOf v35) (at_ (tupOf v33) 0)))
                Prog.fail
                (isPt v35)))
              (Prog.newH (Hdr.mk 256 116 Bool.false Bool.true Bool.true 0 Bool.false Bool.false []) (setL fun _ => false) (fun z34 => (Prog.ret (itP z34)))))
            Prog.fail
            ((isTupV v33) && (okNs (Nm.raw :: ((Nm.one Kd.bool) :: [])) (tupOf v33)))))
        (decide ((Int.ofNat (List.length (Array.toList (ByteArray.data x1)))) = (1 : Int))))
      (beqB (Array.toList (ByteArray.data x1)) []))
    (beqB (Array.toList (ByteArray.data x0)) [])) := by kernel_rfl
theorem trim_ok (s : St) (x y : ByteArray) (hx : (bl x).length ≤ 4611686018427387904) (hy : 2 ≤ (bl y).length) (hy2 : (bl y).length ≤ 100) (ha : ∀ i, byteAt y i < 128) :
    Ok (fun f => callF En (runP En f) 118 [.string x, .string y]) s (fun v s' => v = .string (mkStr (trimL (memB (bl y)) (trimR (memB (bl y)) (bl x)))) ∧ s.ctr ≤ s'.ctr ∧ ∀ k, k < s.ctr → s'.mem.get k = s.mem.get k) := by
  refine Ok.step (fun f => f118_eq' f x y) ?_
  refine Ok.c (fun h => ?_) (fun _ => ?_)
  · rw [beqB_eq] at h
    have h : bl x = [] := of_decide_eq_true h
    refine Ok.ret ⟨?_, Nat.le_refl _, fun _ _ => rfl⟩
    rw [h]
    exact congrArg Value.string ((mk_bl x).symm.trans (by rw [h]; rfl))
  refine Ok.f (by rw [beqB_eq]; exact decide_eq_false (fun h => by have h : bl y = [] := h; rw [h] at hy; simp at hy)) ?_
  refine Ok.f (decide_eq_false (by simp only [bl] at hy; simp only [Int.ofNat_eq_natCast]; omega)) ?_
  refine Ok.call (asciiSet_ok s y hy2 ha) ?_
  rintro v s1 ⟨rfl, e1, e2⟩
  refine Ok.t rfl ?_
  refine Ok.callP (Ok.new (setL_length _)) ?_
  rintro v s2 ⟨rfl, g1, g2, g3⟩
  refine Ok.t rfl ?_
  refine Ok.callP (Ok.storeRow (n := 256) (vs := setL fun _ => false) (ws := setL (memB (bl y))) (by kernel_rfl) g2 (setL_length _) (setL_length _) (setL_one _)) ?_
  rintro v s3 ⟨rfl, i1, i2, i3⟩
  refine Ok.t rfl ?_
  refine Ok.call (Q1 := fun v s' => v = .string (mkStr (trimR (memB (bl y)) (bl x))) ∧ Reads s3 s') (Ok.step (fun f => f114_eq f x s1.ctr) (trimR_ok s1.ctr _ _ x s3 rfl hx i2)) ?_
  rintro v s4 ⟨rfl, r4⟩
  refine Ok.t rfl ?_
  refine Ok.call (Q1 := fun v s' => v = .string (mkStr (trimL (memB (bl y)) (trimR (memB (bl y)) (bl x)))) ∧ Reads s4 s') (Ok.step (fun f => f176_eq f _ s1.ctr) (trimL_ok s1.ctr _ _ _ s4 rfl (by rw [r4.1]; exact i2))) ?_
  rintro v s5 ⟨rfl, r5⟩
  refine Ok.t rfl (Ok.ret ⟨rfl, ?_, fun k hk => ?_⟩)
  · rw [r5.2.1, r4.2.1]; omega
  · have i3 : ∀ k, k ≤ s1.ctr ∨ s1.ctr + 1 + 256 ≤ k → s3.mem.get k = s2.mem.get k := i3
    rw [r5.1, r4.1, i3 k (by omega), g3 k (by omega), e2 k hk]
theorem dropWhile_nil (p : UInt8 → Bool) : ∀ (l : List UInt8), l.dropWhile p = [] ↔ ∀ b ∈ l, p b = true
  | [] => by simp
  | b :: l => by
    rw [List.dropWhile_cons]
    cases h : p b with
    | true => simp [dropWhile_nil p l, h]
    | false => simp [h]
theorem dropWhile_head (p : UInt8 → Bool) : ∀ (l : List UInt8) (b : UInt8) (r : List UInt8), l.dropWhile p = b :: r → p b = false
  | [], _, _, h => by simp at h
  | c :: l, b, r, h => by
    rw [List.dropWhile_cons] at h
    cases hc : p c with
    | true => rw [hc] at h; exact dropWhile_head p l b r (by simpa using h)
    | false =>
      rw [hc] at h
      simp at h
      rw [← h.1]
      exact hc
theorem trim_nil (P : Nat → Bool) (l : List UInt8) : trimL P (trimR P l) = [] ↔ ∀ b ∈ l, P b.toNat = true := by
  constructor
  · intro h
    have h1 := (dropWhile_nil _ _).1 h
    have h3 : (l.reverse.dropWhile fun b => P b.toNat) = [] := by
      cases hr : (l.reverse.dropWhile fun b => P b.toNat) with
      | nil => rfl
      | cons b r =>
        have hb := dropWhile_head _ _ _ _ hr
        have := h1 b (by unfold trimR; rw [hr]; simp)
        rw [hb] at this
        cases this
    have := (dropWhile_nil _ _).1 h3
    intro b hb
    exact this b (by simpa using hb)
  · intro h
    have h3 : (l.reverse.dropWhile fun b => P b.toNat) = [] := (dropWhile_nil _ _).2 fun b hb => h b (by simpa using hb)
    unfold trimR
    rw [h3]
    rfl
theorem blk_itP (c : Nat) : blkOf (itP c) = c := rfl
theorem off_itP (c : Nat) : offOf (itP c) = 0 := rfl
end Go.Proofs.YtmjbmbmnnephjaaGreatDoor
/- The library's errors of numbers: Clone, syntaxError, rangeError. -/
namespace Go.Proofs.YtmjbmbmnnephjaaGreatDoor
open Go Go.Ev Go.Proofs
/-- What the library's variables hold: two errors. -/
def Lib (m : Tr Slot) (n : Nat) : Prop := (∃ t x, Cell m 393217 0 (.iface t x)) ∧ (∃ t x, Cell m 458753 0 (.iface t x)) ∧ 458755 ≤ n
theorem Lib.congr {m m' : Tr Slot} {n n' : Nat} (h : Lib m n) (hn : n ≤ n') (e : ∀ k, k < n → m'.get k = m.get k) : Lib m' n' := by
  obtain ⟨⟨t, x, h1⟩, ⟨t', x', h2⟩, h3⟩ := h
  exact ⟨⟨t, x, Cell.congr h1 (e _ (by omega)) (e _ (by omega))⟩, ⟨t', x', Cell.congr h2 (e _ (by omega)) (e _ (by omega))⟩, by omega⟩
theorem Lib.fresh {s s' : St} (h : Lib s.mem s.ctr) (g : Fresh s s') : Lib s'.mem s'.ctr := h.congr g.1 g.2
theorem rep_length (n : Nat) : (rep ((Value.int IntKind.u8 (0 : Int)) :: []) n).length = n := by
  induction n with
  | zero => rfl
  | succ n ih => simp [rep, ih]
theorem clone_ok (s : St) (x : ByteArray) (hx : (bl x).length ≤ 1000000) : Ok (fun f => callF En (runP En f) 234 [.string x]) s (fun v s' => v = .string x ∧ Fresh s s' ∧ Above s.ctr s s') := by
  refine Ok.step (fun f => f234_eq f x) ?_
  refine Ok.c (fun h => ?_) (fun h => ?_)
  · have h := of_decide_eq_true h
    have h : bl x = [] := List.length_eq_zero_iff.1 (by simp only [Int.ofNat_eq_natCast] at h; simp only [bl]; omega)
    refine Ok.ret ⟨?_, Fresh.refl s, [], rfl, fun a ha => by cases ha⟩
    exact congrArg Value.string ((by rw [← h]; exact mk_bl x))
  · have h := of_decide_eq_false h
    simp only [Int.ofNat_eq_natCast] at h
    simp only [bl] at hx
    refine Ok.g rfl (Ok.g rfl (Ok.g (decide_eq_true ⟨Nat.le_refl _, ?_, ?_⟩) ?_))
    · simp only [Int.ofNat_eq_natCast, Int.toNat_natCast]
      rw [show TypeInfo.bytes Proofs.Tryz.t5 = 1 by kernel_rfl, Nat.one_mul]
      exact Nat.le_trans hx (by decide)
    · simp only [Int.ofNat_eq_natCast, Int.toNat_natCast]
      exact Nat.le_trans hx (by decide)
    refine Ok.callP (Ok.newF rfl) ?_
    rintro v s1 ⟨rfl, e1, e2, e3, e4, e5⟩
    rw [rep_length] at e1 e2
    simp only [Int.ofNat_eq_natCast, Int.toNat_natCast]
    refine Ok.callP (Ok.copyStr (e := 5) (by kernel_rfl) (by kernel_rfl) e2 (rep_length _) rfl (by omega)) ?_
    rintro v s2 ⟨rfl, g1, g2, g3, g4, g5⟩
    refine Ok.t rfl ?_
    have ei : ∀ (n c cap : Nat) (k : Value → Prog), indexAddrK En 65 (Value.slice (some ⟨c, 0, none⟩) n cap) (Value.int IntKind.i64 (0 : Int)) k = gc (Nat.blt 0 n && Nat.blt 0 1) (k (.pointer (some ⟨c, Nat.add 0 (Nat.mul 0 1), none⟩))) := fun _ _ _ _ => by kernel_rfl
    simp only [ei]
    refine Ok.t (by simp only [Bool.and_eq_true]; exact ⟨Nat.ble_eq_true_of_le (by omega), rfl⟩) ?_
    have el : ∀ (n c cap : Nat), builtinA En Builtin.len (65 :: []) (Value.slice (some ⟨c, 0, none⟩) n cap :: []) = .ret (vInt n) := fun _ _ _ => by kernel_rfl
    simp only [el]
    refine Ok.callP (Q1 := fun v s' => v = vInt (x.data.toList.length : Nat) ∧ s' = s2) (Ok.ret ⟨rfl, rfl⟩) ?_
    rintro v s3 ⟨rfl, rfl⟩
    refine Ok.t rfl ?_
    simp only [intOf, vInt]
    refine Ok.callP (Ok.unsafeStr (e := 5) (c := s.ctr) (n := x.data.toList.length) (l := x.data.toList) (by kernel_rfl) (by kernel_rfl) (by rw [g2]; exact e2) rfl (by omega) (by omega) g3) ?_
    rintro v s4 ⟨rfl, i1, i2, i3⟩
    refine Ok.ret ⟨rfl, ⟨by omega, fun k hk => ?_⟩, (e5.trans (g5.trans i3))⟩
    rw [i2 k (by omega), g4 k (by omega), e4 k hk]
def errB (g : Nat) : Nat := g
theorem synErr_ok (s : St) (a x : ByteArray) (hx : (bl x).length ≤ 1000000) (hl : Lib s.mem s.ctr) : Ok (fun f => callF En (runP En f) 229 [.string a, .string x]) s (fun v s' => (∃ p, v = .pointer (some p)) ∧ Fresh s s') := by
  obtain ⟨⟨t, y, h1⟩, _, h3⟩ := hl
  have hs : scal En 103 = true := by kernel_rfl
  refine Ok.step (fun f => f229_eq f a x) ?_
  refine Ok.seg (clone_ok ⟨s.mem, s.ctr, []⟩ x hx) ?_
  rintro v s1 ⟨rfl, f1, l1, a1, a2⟩
  simp only at a1 a2
  refine Ok.t rfl ?_
  have hc : Cell s1.mem 393217 0 (.iface t y) := Cell.congr h1 (f1.2 _ (by simp only; omega)) (f1.2 _ (by simp only; omega))
  refine Ok.segLoad hs hc fun s2 r2 => ?_
  refine Ok.gdL ?_ ?_
  · rw [a1, List.append_nil]
    simp only [freeL, Bool.and_true, writesOf]
    rw [Bool.or_eq_true]
    refine .inr (apart_above (c := s.ctr) a2 ?_)
    intro b hb
    simp only [List.mem_cons, List.mem_nil_iff, or_false] at hb
    rcases hb with rfl | rfl <;> simp only <;> omega
  have eb : ∀ (a b : ByteArray) (t : Nat) (y : Value), buildA En 202 ((Prod.mk 0 (Value.string a)) :: ((Prod.mk 1 (Value.string b)) :: ((Prod.mk 2 (.iface t y)) :: []))) = gd Bool.true (.ret (.agg ⟨[.string a, .string b, .iface t y]⟩)) := fun _ _ _ _ => by kernel_rfl
  simp only [eb]
  refine Ok.seg (Q1 := fun v s' => v = .agg ⟨[.string a, .string (strOf (Value.string x)), .iface t y]⟩ ∧ s' = ⟨s2.mem, s2.ctr, []⟩) (Ok.g rfl (Ok.ret ⟨rfl, rfl⟩)) ?_
  rintro v s3 ⟨rfl, rfl⟩
  refine Ok.gdL (by kernel_rfl) ?_
  refine Ok.seg (Q1 := fun v s' => (v = itP s2.ctr ∧ Fresh s2 s')) (Ok.g rfl ?_) ?_
  · refine Ok.mono (Ok.newF rfl) ?_
    rintro v s' ⟨rfl, e1, _, _, e4, _⟩
    exact ⟨rfl, by simp only at e1; omega, e4⟩
  rintro v s4 ⟨rfl, f4⟩
  refine Ok.gdL (by kernel_rfl) ?_
  refine Ok.t rfl (Ok.ret ⟨⟨_, rfl⟩, ?_⟩)
  refine ⟨?_, fun k hk => ?_⟩
  · have := f1.1; have := f4.1; have := r2.2.1; simp only at *; omega
  · have hk1 : k < s1.ctr := Nat.lt_of_lt_of_le hk f1.1
    have hk2 : k < s2.ctr := by rw [r2.2.1]; exact hk1
    simp only
    rw [f4.2 k hk2, r2.1]
    exact f1.2 k hk
theorem rngErr_ok (s : St) (a x : ByteArray) (hx : (bl x).length ≤ 1000000) (hl : Lib s.mem s.ctr) : Ok (fun f => callF En (runP En f) 230 [.string a, .string x]) s (fun v s' => (∃ p, v = .pointer (some p)) ∧ Fresh s s') := by
  obtain ⟨_, ⟨t, y, h1⟩, h3⟩ := hl
  have hs : scal En 103 = true := by kernel_rfl
  refine Ok.step (fun f => f230_eq f a x) ?_
  refine Ok.seg (clone_ok ⟨s.mem, s.ctr, []⟩ x hx) ?_
  rintro v s1 ⟨rfl, f1, l1, a1, a2⟩
  simp only at a1 a2
  refine Ok.t rfl ?_
  have hc : Cell s1.mem 458753 0 (.iface t y) := Cell.congr h1 (f1.2 _ (by simp only; omega)) (f1.2 _ (by simp only; omega))
  refine Ok.segLoad hs hc fun s2 r2 => ?_
  refine Ok.gdL ?_ ?_
  · rw [a1, List.append_nil]
    simp only [freeL, Bool.and_true, writesOf]
    rw [Bool.or_eq_true]
    refine .inr (apart_above (c := s.ctr) a2 ?_)
    intro b hb
    simp only [List.mem_cons, List.mem_nil_iff, or_false] at hb
    rcases hb with rfl | rfl <;> simp only <;> omega
  have eb : ∀ (a b : ByteArray) (t : Nat) (y : Value), buildA En 202 ((Prod.mk 0 (Value.string a)) :: ((Prod.mk 1 (Value.string b)) :: ((Prod.mk 2 (.iface t y)) :: []))) = gd Bool.true (.ret (.agg ⟨[.string a, .string b, .iface t y]⟩)) := fun _ _ _ _ => by kernel_rfl
  simp only [eb]
  refine Ok.seg (Q1 := fun v s' => v = .agg ⟨[.string a, .string (strOf (Value.string x)), .iface t y]⟩ ∧ s' = ⟨s2.mem, s2.ctr, []⟩) (Ok.g rfl (Ok.ret ⟨rfl, rfl⟩)) ?_
  rintro v s3 ⟨rfl, rfl⟩
  refine Ok.gdL (by kernel_rfl) ?_
  refine Ok.seg (Q1 := fun v s' => (v = itP s2.ctr ∧ Fresh s2 s')) (Ok.g rfl ?_) ?_
  · refine Ok.mono (Ok.newF rfl) ?_
    rintro v s' ⟨rfl, e1, _, _, e4, _⟩
    exact ⟨rfl, by simp only at e1; omega, e4⟩
  rintro v s4 ⟨rfl, f4⟩
  refine Ok.gdL (by kernel_rfl) ?_
  refine Ok.t rfl (Ok.ret ⟨⟨_, rfl⟩, ?_⟩)
  refine ⟨?_, fun k hk => ?_⟩
  · have := f1.1; have := f4.1; have := r2.2.1; simp only at *; omega
  · have hk1 : k < s1.ctr := Nat.lt_of_lt_of_le hk f1.1
    have hk2 : k < s2.ctr := by rw [r2.2.1]; exact hk1
    simp only
    rw [f4.2 k hk2, r2.1]
    exact f1.2 k hk
end Go.Proofs.YtmjbmbmnnephjaaGreatDoor
/- The library's ParseUint: it answers with a number and an error, or none. -/
namespace Go.Proofs.YtmjbmbmnnephjaaGreatDoor
open Go Go.Ev Go.Proofs
theorem lower_ok (s : St) (x : Int) : Ok (fun f => callF En (runP En f) 227 [.int .u8 x]) s (fun v s' => (∃ y, v = .int .u8 y) ∧ s' = s) :=
  Ok.step (fun f => f227_eq f x) (Ok.ret ⟨⟨_, rfl⟩, rfl⟩)
def PU (v : Value) : Prop := ∃ n e, v = .tuple ⟨[.int .u64 n, e]⟩ ∧ (e = .nilIface ∨ e = .iface 190 (.int .i64 1) ∨ e = .iface 190 (.int .i64 2))
theorem PU.z (n : Int) : PU (.tuple ⟨[.int .u64 n, .nilIface]⟩) := ⟨n, _, rfl, .inl rfl⟩
theorem PU.r (n : Int) : PU (.tuple ⟨[.int .u64 n, .iface 190 (.int .i64 1)]⟩) := ⟨n, _, rfl, .inr (.inl rfl)⟩
theorem PU.s (n : Int) : PU (.tuple ⟨[.int .u64 n, .iface 190 (.int .i64 2)]⟩) := ⟨n, _, rfl, .inr (.inr rfl)⟩
theorem pu_loop (x1 x10 x11 : Int) (x9 : ByteArray) (c cap : Nat) (l : List UInt8) (hl : l.length ≤ 4611686018427387904) : ∀ (m i : Nat) (x13 : Int) (s : St), i + m = l.length → (∃ h, s.mem.get c = some (.hdr h)) → CellsAt s.mem c (c + 1) (u8s l) →
    Ok (fun f => p213_36 f x1 false x9 x10 x11 false x13 c 0 l.length cap (Int.ofNat l.length) (Int.ofNat i)) s (fun v s' => PU v ∧ Reads s s') := by
  intro m
  induction m with
  | zero =>
    intro i x13 s hm hh hc
    refine Ok.step (fun f => p213_36_eq f x1 false x9 x10 x11 false x13 c 0 l.length cap (Int.ofNat l.length) (Int.ofNat i)) ?_
    refine Ok.f (decide_eq_false (by simp only [Int.ofNat_eq_natCast]; omega)) ?_
    exact Ok.f rfl (Ok.ret ⟨PU.z _, Reads.refl s⟩)
  | succ m IH =>
    intro i x13 s hm hh hc
    refine Ok.step (fun f => p213_36_eq f x1 false x9 x10 x11 false x13 c 0 l.length cap (Int.ofNat l.length) (Int.ofNat i)) ?_
    refine Ok.t (decide_eq_true (by simp only [Int.ofNat_eq_natCast]; omega)) ?_
    refine Ok.t (decide_eq_true (by simp only [Int.ofNat_eq_natCast]; omega)) ?_
    refine Ok.t (by rw [Bool.and_true]; exact Nat.ble_eq_true_of_le (by simp only [Int.ofNat_eq_natCast, Int.toNat_natCast]; omega)) ?_
    simp only [Int.ofNat_eq_natCast, Int.toNat_natCast, Nat.zero_add, Nat.mul_one]
    have hcell : Cell s.mem c i (.int .u8 ((l.getD i 0).toNat : Int)) := by
      refine ⟨hh, CellsAt.get i _ hc ?_⟩
      simp only [u8s, List.getElem?_map]
      rw [List.getElem?_eq_getElem (by omega)]
      simp [List.getD, show i < l.length by omega]
    refine Ok.callP (Ok.load1 (by kernel_rfl) hcell) ?_
    rintro v s1 ⟨rfl, e1, e2, e3⟩
    have r1 : Reads s s1 := ⟨e1, e2, [⟨false, c + 1 + i, 1⟩, ⟨false, c, 1⟩], e3, rfl⟩
    have hw : IntKind.i64.wrap ((i : Int) + 1) = Int.ofNat (i + 1) := by rw [wrap_in _ (by omega) (by omega)]; rfl
    have h36 : ∀ y, Ok (fun f => p213_55 f x1 false x9 x10 x11 false y c 0 l.length cap (l.length : Int) (i : Int)) s1 (fun v s' => PU v ∧ Reads s s') := by
      intro y
      refine Ok.step (fun f => p213_55_eq f x1 false x9 x10 x11 false y c 0 l.length cap (l.length : Int) (i : Int)) ?_
      rw [hw]
      refine Ok.mono (IH (i + 1) y s1 (by omega) (by rw [e1]; exact hh) (by rw [e1]; exact hc)) ?_
      rintro v s' ⟨h1, h2⟩
      exact ⟨h1, r1.trans h2⟩
    have h46 : ∀ d, Ok (fun f => p213_46 f x1 false x9 x10 x11 false x13 d c 0 l.length cap (l.length : Int) (i : Int)) s1 (fun v s' => PU v ∧ Reads s s') := by
      intro d
      refine Ok.step (fun f => p213_46_eq f x1 false x9 x10 x11 false x13 d c 0 l.length cap (l.length : Int) (i : Int)) ?_
      refine Ok.c (fun _ => Ok.ret ⟨PU.s _, r1⟩) (fun _ => ?_)
      refine Ok.c (fun _ => Ok.ret ⟨PU.r _, r1⟩) (fun _ => ?_)
      refine Ok.c (fun _ => Ok.ret ⟨PU.r _, r1⟩) (fun _ => ?_)
      exact Ok.c (fun _ => Ok.ret ⟨PU.r _, r1⟩) (fun _ => h36 _)
    refine Ok.t rfl ?_
    simp only [intOf]
    have low : ∀ b : Int, Ok (fun f => Prog.call (callF En (runP En f) 227 [(Value.int IntKind.u8 b)]) fun v24 =>
                      (cnd
                        (cnd
                          (Prog.call (callF En (runP En f) 227 [(Value.int IntKind.u8 b)]) fun v25 =>
                            (cnd
                              (cnd
                                (Prog.call (callF En (runP En f) 227 [(Value.int IntKind.u8 b)]) fun v26 =>
                                  (cnd
                                    (p213_46 f x1 false x9 x10 x11 false x13 (IntKind.wrap IntKind.u8 ((IntKind.wrap IntKind.u8 ((intOf v26) + (-97 : Int))) + (10 : Int))) c 0 l.length cap (l.length : Int) (i : Int))
                                    Prog.fail
                                    (okK (Kd.int IntKind.u8) v26)))
                                (Prog.ret (Value.tuple ⟨((Value.int IntKind.u64 (0 : Int)) :: ((Value.iface 190 (Value.int IntKind.i64 (2 : Int))) :: []))⟩))
                                (decide ((intOf v25) ≤ (122 : Int))))
                              Prog.fail
                              (okK (Kd.int IntKind.u8) v25)))
                          (Prog.ret (Value.tuple ⟨((Value.int IntKind.u64 (0 : Int)) :: ((Value.iface 190 (Value.int IntKind.i64 (2 : Int))) :: []))⟩))
                          (decide ((97 : Int) ≤ (intOf v24))))
                        Prog.fail
                        (okK (Kd.int IntKind.u8) v24))) s1 (fun v s' => PU v ∧ Reads s s') := by
      intro b
      refine Ok.call (lower_ok s1 _) ?_
      rintro v s2 ⟨⟨y, rfl⟩, rfl⟩
      refine Ok.t rfl ?_
      refine Ok.c (fun _ => ?_) (fun _ => Ok.ret ⟨PU.s _, r1⟩)
      refine Ok.call (lower_ok s2 _) ?_
      rintro v s2 ⟨⟨y, rfl⟩, rfl⟩
      refine Ok.t rfl ?_
      refine Ok.c (fun _ => ?_) (fun _ => Ok.ret ⟨PU.s _, r1⟩)
      refine Ok.call (lower_ok s2 _) ?_
      rintro v s2 ⟨⟨y, rfl⟩, rfl⟩
      exact Ok.t rfl (h46 _)
    refine Ok.c (fun _ => ?_) (fun _ => ?_)
    · refine Ok.f rfl ?_
      exact Ok.c (fun _ => Ok.c (fun _ => h46 _) (fun _ => low _)) (fun _ => low _)
    · exact Ok.c (fun _ => Ok.c (fun _ => h46 _) (fun _ => low _)) (fun _ => low _)
theorem pu_32 (x1 x2 x10 : Int) (x9 x : ByteArray) (s : St) (hx : (bl x).length ≤ 1000000) (h2 : 0 ≤ IntKind.wrap IntKind.u64 x2) : Ok (fun f => p213_32 f x x1 x2 false x9 x10) s (fun v s' => PU v ∧ Fresh s s') := by
  refine Ok.step (fun f => p213_32_eq f x x1 x2 false x9 x10) ?_
  refine Ok.t (decide_eq_true h2) ?_
  refine Ok.callP (Ok.newF rfl) ?_
  rintro v s1 ⟨rfl, e1, e2, e3, e4, e5⟩
  refine Ok.t rfl ?_
  have e3 : CellsAt s1.mem s.ctr (s.ctr + 1) (u8s (bl x)) := e3
  refine Ok.mono (pu_loop x1 _ _ x9 s.ctr _ (bl x) (by omega) (bl x).length 0 0 s1 (by omega) ⟨_, e2⟩ e3) ?_
  rintro v s' ⟨h, r⟩
  refine ⟨h, Fresh.trans ⟨by omega, e4⟩ r.fresh⟩
theorem pu_ok (x : ByteArray) (s : St) (x1 x2 : Int) (hb : x1 = 10 ∧ x2 = 64 ∨ x1 = 16 ∧ x2 = 8) (hx : (bl x).length ≤ 1000000) : Ok (fun f => callF En (runP En f) 213 [.string x, .int .i64 x1, .int .i64 x2]) s (fun v s' => PU v ∧ Fresh s s') := by
  rcases hb with ⟨rfl, rfl⟩ | ⟨rfl, rfl⟩
  · refine Ok.step (fun f => f213a_eq f x) ?_
    refine Ok.c (fun _ => Ok.ret ⟨PU.s _, Fresh.refl s⟩) (fun _ => ?_)
    refine Ok.step (fun f => p213_21_eq f x 10 64 false x) ?_
    refine Ok.f rfl (Ok.f rfl (Ok.f rfl ?_))
    refine Ok.step (fun f => p213_25_eq f x 10 64 false x) ?_
    exact Ok.t rfl (pu_32 _ _ _ x x s hx (by decide))
  · refine Ok.step (fun f => f213b_eq f x) ?_
    refine Ok.c (fun _ => Ok.ret ⟨PU.s _, Fresh.refl s⟩) (fun _ => ?_)
    refine Ok.step (fun f => p213_21_eq f x 16 8 false x) ?_
    refine Ok.f rfl (Ok.f rfl (Ok.f rfl ?_))
    refine Ok.step (fun f => p213_25_eq f x 16 8 false x) ?_
    exact Ok.f rfl (Ok.t rfl (pu_32 _ _ _ x x s hx (by decide)))
theorem neq_nil (a b : Operand) (hb : isConstO b = true) (k : Value → Prog) : binK En BinOp.neq 103 a b Value.nilIface Value.nilIface k = k (.bool false) := by
  cases b with
  | const w => cases a <;> kernel_rfl
  | _ => cases hb
theorem neq_ifc (a b : Operand) (t : Nat) (ht : Nat.blt t LF = true) (x : Value) (k : Value → Prog) : binK En BinOp.neq 103 a b (Value.iface t x) Value.nilIface k = k (.bool true) := by
  have hi : (match En.und 103 with | some (.interface _) => true | _ => false) = true := by kernel_rfl
  obtain ⟨ms, hu⟩ : ∃ ms, En.und 103 = some (.interface ms) := by
    cases h : En.und 103 with
    | none => rw [h] at hi; cases hi
    | some d =>
      rw [h] at hi
      cases d with
      | interface ms => exact ⟨ms, rfl⟩
      | _ => cases hi
  have he : eqV En 50 103 (.iface t x) .nilIface = some false := by
    show eqV En (49 + 1) 103 (.iface t x) .nilIface = some false
    unfold eqV
    rw [hu]
    simp only [ht]
  have hb : binA En BinOp.neq 103 a b (Value.iface t x) Value.nilIface = some (.bool true) := by
    unfold binA
    simp only [guardOk, he, Bool.not_false]
  unfold binK
  simp only [hb, Ev.opt]
def PE (v : Value) : Prop := ∃ n e, v = .tuple ⟨[.int .u64 n, e]⟩ ∧ (e = .nilIface ∨ ∃ p, e = .iface 192 (.pointer (some p)))
theorem parseUint_ok (x : ByteArray) (s : St) (x1 x2 : Int) (hb : x1 = 10 ∧ x2 = 64 ∨ x1 = 16 ∧ x2 = 8) (hx : (bl x).length ≤ 1000000) (hl : Lib s.mem s.ctr) : Ok (fun f => callF En (runP En f) 179 [.string x, .int .i64 x1, .int .i64 x2]) s (fun v s' => PE v ∧ Fresh s s') := by
  refine Ok.step (fun f => f179_eq f x x1 x2) ?_
  refine Ok.call (pu_ok x s x1 x2 hb hx) ?_
  rintro v s1 ⟨⟨n, e, rfl, he⟩, f1⟩
  refine Ok.t rfl ?_
  have hl1 := hl.fresh f1
  simp only [show at_ (tupOf (Value.tuple ⟨[.int .u64 n, e]⟩)) 1 = e from rfl]
  have ek1 : ∀ (k : Value → Prog), binK En BinOp.eql 103 (Operand.tmp 11) (Operand.tmp 13) (Value.iface 190 (Value.int IntKind.i64 (1 : Int))) (Value.iface 190 (Value.int IntKind.i64 (2 : Int))) k = k (.bool false) := fun _ => by kernel_rfl
  have ek2 : ∀ (k : Value → Prog), binK En BinOp.eql 103 (Operand.tmp 11) (Operand.tmp 20) (Value.iface 190 (Value.int IntKind.i64 (1 : Int))) (Value.iface 190 (Value.int IntKind.i64 (1 : Int))) k = k (.bool true) := fun _ => by kernel_rfl
  have ek3 : ∀ (k : Value → Prog), binK En BinOp.eql 103 (Operand.tmp 11) (Operand.tmp 13) (Value.iface 190 (Value.int IntKind.i64 (2 : Int))) (Value.iface 190 (Value.int IntKind.i64 (2 : Int))) k = k (.bool true) := fun _ => by kernel_rfl
  rcases he with rfl | rfl | rfl
  · simp only [neq_nil _ (Operand.const Value.nilIface) rfl]
    refine Ok.t rfl (Ok.f rfl (Ok.ret ⟨⟨_, _, rfl, .inl rfl⟩, f1⟩))
  · simp only [neq_ifc _ _ _ (show Nat.blt 190 LF = true from rfl)]
    refine Ok.t rfl (Ok.t rfl ?_)
    refine Ok.call (Q1 := fun v s' => (∃ p, v = .iface 192 (.pointer (some p))) ∧ Fresh s1 s') ?_ ?_
    · refine Ok.step (fun f => f214_eq f _ x x1 x2 _) ?_
      simp only [ek1]
      refine Ok.t rfl (Ok.f rfl ?_)
      simp only [ek2]
      refine Ok.t rfl (Ok.t rfl ?_)
      refine Ok.call (rngErr_ok s1 _ x hx hl1) ?_
      rintro v s2 ⟨⟨p, rfl⟩, f2⟩
      exact Ok.ret ⟨⟨p, rfl⟩, f2⟩
    · rintro v s2 ⟨⟨p, rfl⟩, f2⟩
      exact Ok.ret ⟨⟨_, _, rfl, .inr ⟨p, rfl⟩⟩, f1.trans f2⟩
  · simp only [neq_ifc _ _ _ (show Nat.blt 190 LF = true from rfl)]
    refine Ok.t rfl (Ok.t rfl ?_)
    refine Ok.call (Q1 := fun v s' => (∃ p, v = .iface 192 (.pointer (some p))) ∧ Fresh s1 s') ?_ ?_
    · refine Ok.step (fun f => f214_eq f _ x x1 x2 _) ?_
      simp only [ek3]
      refine Ok.t rfl (Ok.t rfl ?_)
      refine Ok.call (synErr_ok s1 _ x hx hl1) ?_
      rintro v s2 ⟨⟨p, rfl⟩, f2⟩
      exact Ok.ret ⟨⟨p, rfl⟩, f2⟩
    · rintro v s2 ⟨⟨p, rfl⟩, f2⟩
      exact Ok.ret ⟨⟨_, _, rfl, .inr ⟨p, rfl⟩⟩, f1.trans f2⟩
end Go.Proofs.YtmjbmbmnnephjaaGreatDoor
/- The lexer's 'worth': a number's type and worth, or none. -/
namespace Go.Proofs.YtmjbmbmnnephjaaGreatDoor
open Go Go.Ev Go.Proofs
theorem asc (l : List UInt8) (h : (l.all fun b => decide (b.toNat < 128)) = true) (i : Nat) : byteAt (mkStr l) i < 128 := by
  unfold byteAt
  show (l.getD i 0).toNat < 128
  by_cases hi : i < l.length
  · have : l.getD i 0 = l[i] := by simp [List.getD, hi]
    rw [this]
    have := List.all_eq_true.1 h l[i] (List.getElem_mem hi)
    exact of_decide_eq_true this
  · have : l.getD i 0 = 0 := by simp [List.getD, show l.length ≤ i by omega]
    rw [this]
    decide
theorem index_ok (s : St) (x : ByteArray) (hx : (bl x).length ≤ 1000000) : Ok (fun f => callF En (runP En f) 226 [.string x, .string (mkStr [46])]) s
    (fun v s' => (∃ n : Int, v = .int .i64 n ∧ (n = -1 ∨ ∃ j : Nat, n = j ∧ j < (bl x).length)) ∧ s' = s) := by
  refine Ok.step (fun f => f226a_eq f x) ?_
  refine Ok.c (fun h => ?_) (fun _ => ?_)
  · rw [beqB_eq] at h
    have h : [UInt8.ofNat 46] = bl x := of_decide_eq_true h
    exact Ok.ret ⟨⟨0, rfl, .inr ⟨0, rfl, by rw [← h]; decide⟩⟩, rfl⟩
  · refine Ok.call (Q1 := fun v s' => v = .int .i64 (findByte (46 : Int).toNat (bl x) 0) ∧ s' = s) ?_ ?_
    · refine Ok.step (fun f => f124_eq f x 46) ?_
      refine Ok.call (Q1 := fun v s' => v = .int .i64 (findByte (46 : Int).toNat (bl x) 0) ∧ s' = s) ?_ ?_
      · simp only [f180_eq]
        exact Ok.g (by decide) (Ok.ret ⟨rfl, rfl⟩)
      · rintro v s1 ⟨rfl, rfl⟩
        exact Ok.t rfl (Ok.ret ⟨rfl, rfl⟩)
    · rintro v s1 ⟨rfl, rfl⟩
      refine Ok.t rfl (Ok.ret ⟨⟨_, rfl, ?_⟩, rfl⟩)
      rcases findByte_spec (46 : Int).toNat (bl x) 0 with ⟨h, _⟩ | ⟨j, h1, h2, _⟩
      · exact .inl h
      · exact .inr ⟨j, by simp only [intOf]; rw [h2]; simp, h1⟩
/-- What Cut answers: two texts no longer than the one. -/
def CutV (n : Nat) (v : Value) : Prop := ∃ a b c, v = .tuple ⟨[.string a, .string b, .bool c]⟩ ∧ (bl a).length ≤ n ∧ (bl b).length ≤ n
theorem cut_ok (s : St) (x : ByteArray) (hx : (bl x).length ≤ 1000000) : Ok (fun f => callF En (runP En f) 178 [.string x, .string (mkStr [46])]) s (fun v s' => CutV (bl x).length v ∧ s' = s) := by
  refine Ok.step (fun f => f178_eq f x _) ?_
  refine Ok.call (Q1 := fun v s' => CutV (bl x).length v ∧ s' = s) ?_ ?_
  · refine Ok.step (fun f => f212_eq f x _) ?_
    refine Ok.call (index_ok s x hx) ?_
    rintro v s1 ⟨⟨n, rfl, hn⟩, rfl⟩
    refine Ok.t rfl ?_
    simp only [intOf]
    refine Ok.c (fun h => ?_) (fun _ => Ok.ret ⟨⟨_, _, _, rfl, Nat.le_refl _, Nat.zero_le _⟩, rfl⟩)
    have h := of_decide_eq_true h
    obtain ⟨j, rfl, hj⟩ : ∃ j : Nat, n = j ∧ j < (bl x).length := by
      rcases hn with rfl | hn
      · omega
      · exact hn
    have hw : IntKind.i64.wrap ((j : Int) + Int.ofNat (mkStr [46]).data.toList.length) = ((j + 1 : Nat) : Int) := by
      rw [show (Int.ofNat (mkStr [46]).data.toList.length) = 1 from rfl, wrap_in _ (by omega) (by omega)]; omega
    simp only [hw]
    simp only [bl] at hj hx
    refine Ok.t (decide_eq_true (by omega)) ?_
    refine Ok.t (by simp only [Bool.and_eq_true, Int.toNat_natCast]; exact ⟨Nat.ble_eq_true_of_le (by omega), Nat.ble_eq_true_of_le (by omega)⟩) ?_
    refine Ok.t (decide_eq_true (by omega)) ?_
    refine Ok.t (by simp only [Bool.and_eq_true, Int.toNat_natCast]; exact ⟨Nat.ble_eq_true_of_le (by omega), Nat.ble_eq_true_of_le (by omega)⟩) ?_
    refine Ok.ret ⟨⟨_, _, _, rfl, ?_, ?_⟩, rfl⟩
    · simp only [bl_mk, List.length_take, bl]; omega
    · simp only [bl_mk, List.length_take, List.length_drop, bl]; omega
  · rintro v s1 ⟨⟨a, b, c, rfl, h1, h2⟩, rfl⟩
    exact Ok.t rfl (Ok.ret ⟨⟨_, _, _, rfl, h1, h2⟩, rfl⟩)
def WV (v : Value) : Prop := ∃ t n ok, v = .tuple ⟨[.int .i64 t, .int .i64 n, .bool ok]⟩ ∧ (ok = true → t = 2 ∨ t = 4 ∨ t = 5)
theorem WV.no : WV (.tuple ⟨[.int .i64 0, .int .i64 0, .bool false]⟩) := ⟨_, _, _, rfl, fun h => by cases h⟩
theorem digs_ok (s : St) (x : ByteArray) (hx : (bl x).length ≤ 1000000) : Ok (fun f => callF En (runP En f) 118 [(Value.string x), (Value.string (mkStr [48, 49, 50, 51, 52, 53, 54, 55, 56, 57]))]) s (fun v s' => (∃ y, v = .string y) ∧ Fresh s s') := by
  refine Ok.mono (trim_ok s x _ (by omega) (by decide) (by decide) (asc _ (by decide))) ?_
  rintro v s' ⟨rfl, h⟩
  exact ⟨⟨_, rfl⟩, h⟩
theorem worth_19 (s : St) (t : Int) (ht : t = 2 ∨ t = 4 ∨ t = 5) (x8 x11 : Bool) (x9 x10 : ByteArray) (h9 : (bl x9).length ≤ 1000000) (h10 : (bl x10).length ≤ 1000000) (hl : Lib s.mem s.ctr) :
    Ok (fun f => p121_19 f t x8 x9 x10 x11) s (fun v s' => WV v ∧ Fresh s s') := by
  refine Ok.step (fun f => p121_19_eq f t x8 x9 x10 x11) ?_
  refine Ok.c (fun _ => Ok.ret ⟨WV.no, Fresh.refl s⟩) (fun _ => ?_)
  refine Ok.call (digs_ok s x9 h9) ?_
  rintro v s1 ⟨⟨y, rfl⟩, f1⟩
  refine Ok.t rfl ?_
  refine Ok.c (fun _ => Ok.ret ⟨WV.no, f1⟩) (fun _ => ?_)
  refine Ok.call (digs_ok s1 x10 h10) ?_
  rintro v s2 ⟨⟨y, rfl⟩, f2⟩
  have f2 := f1.trans f2
  refine Ok.t rfl ?_
  refine Ok.c (fun _ => Ok.ret ⟨WV.no, f2⟩) (fun _ => ?_)
  refine Ok.c (fun _ => Ok.c (fun _ => Ok.ret ⟨WV.no, f2⟩) (fun _ => ?_)) (fun _ => ?_)
  all_goals
    refine Ok.call (parseUint_ok x9 s2 10 64 (.inl ⟨rfl, rfl⟩) h9 (hl.fresh f2)) ?_
    rintro v s3 ⟨⟨n, e, rfl, he⟩, f3⟩
    have f3 := f2.trans f3
    refine Ok.t rfl ?_
    simp only [show at_ (tupOf (Value.tuple ⟨[.int .u64 n, e]⟩)) 1 = e from rfl]
    rcases he with rfl | ⟨p, rfl⟩
    · simp only [neq_nil _ (Operand.const Value.nilIface) rfl]
      refine Ok.t rfl (Ok.f rfl ?_)
      refine Ok.c (fun _ => Ok.ret ⟨WV.no, f3⟩) (fun _ => ?_)
      exact Ok.c (fun _ => Ok.ret ⟨⟨_, _, _, rfl, fun _ => ht⟩, f3⟩) (fun _ => Ok.ret ⟨⟨_, _, _, rfl, fun _ => ht⟩, f3⟩)
    · simp only [neq_ifc _ _ _ (show Nat.blt 192 LF = true from rfl)]
      exact Ok.t rfl (Ok.t rfl (Ok.ret ⟨WV.no, f3⟩))
theorem cutPre_le (a b : List UInt8) : (cutPre a b).length ≤ a.length := by
  unfold cutPre; split <;> simp
theorem cutSuf_le (a b : List UInt8) : (cutSuf a b).length ≤ a.length := by
  unfold cutSuf; split <;> simp
theorem worth_12 (s : St) (t : Int) (ht : t = 2 ∨ t = 4) (x : ByteArray) (hx : (bl x).length ≤ 100000) (hl : Lib s.mem s.ctr) : Ok (fun f => p121_12 f x t) s (fun v s' => WV v ∧ Fresh s s') := by
  refine Ok.step (fun f => p121_12_eq f x t) ?_
  refine Ok.call (cutPrefix_ok s x _) ?_
  rintro v s1 ⟨rfl, rfl⟩
  refine Ok.t rfl ?_
  have hle : (bl (strOf (at_ (tupOf (.tuple ⟨[.string (mkStr (cutPre (bl x) (bl (mkStr [45])))), .bool (preB (bl x) (bl (mkStr [45])))]⟩)) 0))).length ≤ 100000 := Nat.le_trans (cutPre_le (bl x) (bl (mkStr [45]))) hx
  refine Ok.call (cut_ok s1 _ (by omega)) ?_
  rintro v s2 ⟨⟨a, b, c, rfl, h1, h2⟩, rfl⟩
  refine Ok.t rfl ?_
  simp only [show ∀ a b c, at_ (tupOf (Value.tuple ⟨[.string a, .string b, .bool c]⟩)) 0 = .string a from fun _ _ _ => rfl, show ∀ a b c, at_ (tupOf (Value.tuple ⟨[.string a, .string b, .bool c]⟩)) 1 = .string b from fun _ _ _ => rfl, show ∀ a b c, at_ (tupOf (Value.tuple ⟨[.string a, .string b, .bool c]⟩)) 2 = .bool c from fun _ _ _ => rfl, strOf, boolOf]
  have h1 : (bl a).length ≤ 100000 := by omega
  have h2 : (bl b).length ≤ 100000 := by omega
  refine Ok.c (fun _ => ?_) (fun _ => worth_19 s2 t (by omega) _ _ _ _ (by omega) (by omega) hl)
  refine Ok.c (fun _ => Ok.ret ⟨WV.no, Fresh.refl _⟩) (fun _ => ?_)
  refine Ok.c (fun _ => Ok.ret ⟨WV.no, Fresh.refl _⟩) (fun _ => ?_)
  refine Ok.c (fun _ => Ok.ret ⟨WV.no, Fresh.refl _⟩) (fun h => ?_)
  have h := of_decide_eq_false h
  simp only [bl] at h1 h2
  simp only [Int.ofNat_eq_natCast] at h
  refine Ok.t (by rw [Bool.and_true]; exact Nat.ble_eq_true_of_le (by omega)) ?_
  refine Ok.t (Nat.ble_eq_true_of_le (by simp only [List.length_take, List.length_drop]; omega)) ?_
  refine Ok.t (Nat.ble_eq_true_of_le (by simp only [List.length_append, List.length_take, List.length_drop]; omega)) ?_
  refine worth_19 s2 5 (by omega) _ _ _ _ ?_ (by simp only [bl]; omega) hl
  simp only [bl_mk, List.length_append, List.length_take, List.length_drop]; omega
theorem worth_ok (s : St) (x : ByteArray) (hx : (bl x).length ≤ 100000) (hl : Lib s.mem s.ctr) : Ok (fun f => callF En (runP En f) 121 [.string x]) s (fun v s' => WV v ∧ Fresh s s') := by
  refine Ok.step (fun f => f121_eq f x) ?_
  refine Ok.c (fun _ => Ok.ret ⟨⟨_, _, _, rfl, fun _ => .inl rfl⟩, Fresh.refl s⟩) (fun _ => ?_)
  refine Ok.c (fun _ => Ok.ret ⟨⟨_, _, _, rfl, fun _ => .inr (.inl rfl)⟩, Fresh.refl s⟩) (fun _ => ?_)
  refine Ok.c (fun _ => Ok.ret ⟨⟨_, _, _, rfl, fun _ => .inr (.inr rfl)⟩, Fresh.refl s⟩) (fun _ => ?_)
  refine Ok.call (cutSuffix_ok s x _ (by omega)) ?_
  rintro v s1 ⟨rfl, rfl⟩
  refine Ok.t rfl ?_
  refine Ok.c (fun _ => worth_12 _ 4 (.inr rfl) _ (Nat.le_trans (cutSuf_le (bl x) _) hx) hl) (fun _ => worth_12 _ 2 (.inl rfl) _ hx hl)
end Go.Proofs.YtmjbmbmnnephjaaGreatDoor
/- Numbers as texts, in plain Lean: what is printed of a number is read as that number. -/
namespace Go.Num
open Go.Lib
/-- What digits spell. -/
def numD (a : Nat) (l : List UInt8) : Nat := l.foldl (fun x c => x * 10 + (c.toNat - 48)) a
theorem numD_nil (a : Nat) : numD a [] = a := rfl
theorem numD_cons (a : Nat) (c : UInt8) (r : List UInt8) : numD a (c :: r) = numD (a * 10 + (c.toNat - 48)) r := by unfold numD; rw [List.foldl_cons]
def isD (c : UInt8) : Bool := decide (48 ≤ c.toNat) && decide (c.toNat ≤ 57)
theorem isD_iff {c : UInt8} : isD c = true ↔ 48 ≤ c.toNat ∧ c.toNat ≤ 57 := by unfold isD; simp
theorem numD_append : ∀ (a : Nat) (x y : List UInt8), numD a (x ++ y) = numD (numD a x) y
  | _, [], _ => rfl
  | a, c :: x, y => by rw [List.cons_append, numD_cons, numD_cons, numD_append _ x y]
theorem numD_ge : ∀ (l : List UInt8) (a : Nat), a ≤ numD a l
  | [], _ => Nat.le_refl _
  | c :: l, a => by
    have := numD_ge l (a * 10 + (c.toNat - 48))
    rw [numD_cons]
    omega
theorem parseM {M : Nat} (hM : M ≤ 18446744073709551615) : ∀ (l : List UInt8) (a : Nat), l.all isD = true → numD a l ≤ M → parseUintM M a l = .ok (numD a l)
  | [], a, _, _ => rfl
  | c :: l, a, h, hn => by
    simp only [List.all_cons, Bool.and_eq_true] at h
    have hc := isD_iff.1 h.1
    rw [numD_cons] at hn ⊢
    have hg := numD_ge l (a * 10 + (c.toNat - 48))
    unfold parseUintM
    rw [if_pos hc, if_neg (by omega), if_neg (by omega)]
    exact parseM hM l _ h.2 hn
theorem dig_toNat {i : Nat} (h : i < 10) : (UInt8.ofNat (48 + i)).toNat = 48 + i := by
  rw [UInt8.toNat_ofNat']; omega
theorem dig_isD {i : Nat} (h : i < 10) : isD (UInt8.ofNat (48 + i)) = true := isD_iff.2 (by rw [dig_toNat h]; omega)
theorem dec_isD (u : Nat) : (decDigits u).all isD = true := by
  induction u using Nat.strongRecOn with
  | _ u ih =>
    rw [decDigits]
    split
    · rename_i h
      rw [List.all_cons, dig_isD h]; rfl
    · rename_i h
      rw [List.all_append, ih (u / 10) (by omega)]
      rw [List.all_cons, dig_isD (show u % 10 < 10 by omega)]; rfl
theorem dec_num (u : Nat) : numD 0 (decDigits u) = u := by
  induction u using Nat.strongRecOn with
  | _ u ih =>
    rw [decDigits]
    split
    · rename_i h
      rw [numD_cons, numD_nil, dig_toNat h]
      omega
    · rename_i h
      rw [numD_append, ih (u / 10) (by omega)]
      rw [numD_cons, numD_nil, dig_toNat (show u % 10 < 10 by omega)]
      omega
theorem dec_ne (u : Nat) : decDigits u ≠ [] := by
  intro h
  have := congrArg List.length h
  rw [decDigits_length] at this
  have := nDigits_pos u
  simp only [List.length_nil] at *
  omega
/-- A number behind its sign. -/
def sgn (neg : Bool) (l : List UInt8) : List UInt8 := if neg then 45 :: l else l
def sgnI (neg : Bool) (u : Nat) : Int := if neg then -(u : Int) else u
theorem parse_sgn {neg : Bool} {l : List UInt8} (hl : l.all isD = true) (h0 : l ≠ []) (h1 : numD 0 l < 9223372036854775808) : parseIntB 64 (sgn neg l) = .ok (sgnI neg (numD 0 l)) := by
  have hp : parseUintB 64 l = .ok (numD 0 l) := by
    unfold parseUintB
    rw [if_neg h0]
    exact parseM (by decide) l 0 hl (by omega)
  cases neg with
  | true =>
    show parseIntB 64 (45 :: l) = _
    rw [parseIntB_minus, hp]
    simp only [signedC]
    rw [if_neg (by omega)]
    rfl
  | false =>
    show parseIntB 64 l = _
    cases l with
    | nil => exact absurd rfl h0
    | cons c r =>
      simp only [List.all_cons, Bool.and_eq_true] at hl
      have hc := isD_iff.1 hl.1
      rw [parseIntB_plain 64 c r (by omega) (by omega), hp]
      simp only [signlessC]
      rw [if_neg (by omega)]
      rfl
theorem itoa_sgn (n : Int) : itoa n = sgn (decide (n < 0)) (decDigits n.natAbs) := by
  unfold itoa sgn
  by_cases h : n < 0
  · simp [h]
  · simp only [h, if_false, decide_false, Bool.false_eq_true]
    congr 1
    omega
theorem sgnI_abs (n : Int) : sgnI (decide (n < 0)) n.natAbs = n := by
  unfold sgnI
  by_cases h : n < 0
  · simp [h]; omega
  · simp [h]; omega
theorem parse_itoa {n : Int} (h0 : -9223372036854775808 < n) (h1 : n ≤ 9223372036854775807) : parseIntB 64 (itoa n) = .ok n := by
  rw [itoa_sgn, parse_sgn (dec_isD _) (dec_ne _) (by rw [dec_num]; omega), dec_num, sgnI_abs]
/-! Decs. -/
theorem dec5 {r : Nat} (h : r < 10000) : decDigits (10000 + r) = [49, UInt8.ofNat (48 + r / 1000), UInt8.ofNat (48 + r / 100 % 10), UInt8.ofNat (48 + r / 10 % 10), UInt8.ofNat (48 + r % 10)] := by
  rw [decDigits, dif_neg (by omega), decDigits, dif_neg (by omega), decDigits, dif_neg (by omega), decDigits, dif_neg (by omega), decDigits, dif_pos (by omega)]
  have e0 : (10000 + r) / 10 / 10 / 10 / 10 = 1 := by omega
  have e1 : (10000 + r) / 10 / 10 / 10 % 10 = r / 1000 := by omega
  have e2 : (10000 + r) / 10 / 10 % 10 = r / 100 % 10 := by omega
  have e3 : (10000 + r) / 10 % 10 = r / 10 % 10 := by omega
  have e4 : (10000 + r) % 10 = r % 10 := by omega
  rw [e0, e1, e2, e3, e4]
  rfl
def trimZ : List UInt8 → List UInt8
  | [] => []
  | c :: l => match trimZ l with
    | [] => if c = 48 then [] else [c]
    | x :: y => c :: x :: y
def padR (n : Nat) (l : List UInt8) : List UInt8 := l ++ List.replicate (n - l.length) 48
theorem trimZ_length : ∀ (l : List UInt8), (trimZ l).length ≤ l.length
  | [] => Nat.le_refl _
  | c :: l => by
    have := trimZ_length l
    unfold trimZ
    split
    · split <;> simp
    · rename_i x y h
      rw [h] at this
      simp only [List.length_cons] at *
      omega
theorem trimZ_pad : ∀ (l : List UInt8), padR l.length (trimZ l) = l
  | [] => rfl
  | c :: l => by
    have ih := trimZ_pad l
    unfold padR at *
    unfold trimZ
    split
    · rename_i h
      rw [h] at ih
      simp only [List.nil_append, List.length_nil, Nat.sub_zero] at ih
      split
      · rename_i hc
        subst hc
        simp only [List.nil_append, List.length_nil, Nat.sub_zero, List.length_cons, List.replicate_succ]
        rw [ih]
      · simp only [List.length_cons, List.length_nil, List.cons_append, List.nil_append]
        rw [show l.length + 1 - (0 + 1) = l.length by omega, ih]
    · rename_i x y h
      rw [h] at ih
      simp only [List.length_cons, List.cons_append] at ih ⊢
      rw [show l.length + 1 - (y.length + 1 + 1) = l.length - (y.length + 1) by omega, ih]
theorem trimZ_all (f : UInt8 → Bool) : ∀ (l : List UInt8), l.all f = true → (trimZ l).all f = true
  | [], _ => rfl
  | c :: l, h => by
    simp only [List.all_cons, Bool.and_eq_true] at h
    have ih := trimZ_all f l h.2
    unfold trimZ
    split
    · split
      · rfl
      · simp [h.1]
    · rename_i x y e
      rw [e] at ih
      simp only [List.all_cons, Bool.and_eq_true] at ih ⊢
      exact ⟨h.1, ih⟩
/-- The four digits behind the point. -/
def frac4 (u : Nat) : List UInt8 := (decDigits (10000 + u % 10000)).drop 1
def frac (u : Nat) : List UInt8 := (frac4 u).take 1 ++ trimZ ((frac4 u).drop 1)
def decT (n : Int) : List UInt8 := sgn (decide (n < 0)) (decDigits (n.natAbs / 10000) ++ 46 :: frac n.natAbs)
theorem frac4_length (u : Nat) : (frac4 u).length = 4 := by unfold frac4; rw [dec5 (by omega)]; rfl
theorem frac4_isD (u : Nat) : (frac4 u).all isD = true := by
  have h := dec_isD (10000 + u % 10000)
  unfold frac4
  rw [List.all_eq_true] at h ⊢
  exact fun x hx => h x (List.mem_of_mem_drop hx)
theorem numD_shift : ∀ (l : List UInt8) (a : Nat), numD a l = a * 10 ^ l.length + numD 0 l
  | [], a => by rw [numD_nil, numD_nil]; simp
  | c :: l, a => by
    rw [numD_cons, numD_cons, List.length_cons]
    rw [numD_shift l (a * 10 + (c.toNat - 48)), numD_shift l (0 * 10 + (c.toNat - 48)), Nat.pow_succ, Nat.add_mul, Nat.zero_mul, Nat.zero_add, Nat.mul_assoc, Nat.mul_comm 10, Nat.add_assoc]
theorem frac4_num (u : Nat) : numD 0 (frac4 u) = u % 10000 := by
  have h := dec_num (10000 + u % 10000)
  have e : decDigits (10000 + u % 10000) = 49 :: frac4 u := by unfold frac4; rw [dec5 (by omega)]; rfl
  rw [e, numD_cons, numD_shift, frac4_length] at h
  have : (49 : UInt8).toNat = 49 := rfl
  rw [this] at h
  omega
theorem frac_pad (u : Nat) : frac u ++ List.replicate (4 - (frac u).length) 48 = frac4 u := by
  have hl := frac4_length u
  have h3 : ((frac4 u).drop 1).length = 3 := by rw [List.length_drop, hl]
  have h1 : ((frac4 u).take 1).length = 1 := by rw [List.length_take, hl]; rfl
  have hp := trimZ_pad ((frac4 u).drop 1)
  have ht := trimZ_length ((frac4 u).drop 1)
  unfold padR at hp
  rw [h3] at hp ht
  unfold frac
  rw [List.length_append, h1, List.append_assoc, show 4 - (1 + (trimZ ((frac4 u).drop 1)).length) = 3 - (trimZ ((frac4 u).drop 1)).length by omega, hp, List.take_append_drop]
theorem frac_len (u : Nat) : 1 ≤ (frac u).length ∧ (frac u).length ≤ 4 := by
  have hl := frac4_length u
  have ht := trimZ_length ((frac4 u).drop 1)
  rw [List.length_drop, hl] at ht
  unfold frac
  rw [List.length_append, List.length_take, hl]
  omega
theorem frac_isD (u : Nat) : (frac u).all isD = true := by
  have h := frac4_isD u
  unfold frac
  rw [List.all_append, Bool.and_eq_true]
  rw [← List.take_append_drop 1 (frac4 u), List.all_append, Bool.and_eq_true] at h
  exact ⟨h.1, trimZ_all _ _ h.2⟩
theorem dec_parse {n : Int} (h0 : -9223372036854775808 < n) (h1 : n ≤ 9223372036854775807) : parseIntB 64 (sgn (decide (n < 0)) (decDigits (n.natAbs / 10000)) ++ frac n.natAbs ++ List.replicate (4 - (frac n.natAbs).length) 48) = .ok n := by
  have e : sgn (decide (n < 0)) (decDigits (n.natAbs / 10000)) ++ frac n.natAbs ++ List.replicate (4 - (frac n.natAbs).length) 48 = sgn (decide (n < 0)) (decDigits (n.natAbs / 10000) ++ frac4 n.natAbs) := by
    rw [List.append_assoc, frac_pad]
    unfold sgn
    split <;> rfl
  have hn : numD 0 (decDigits (n.natAbs / 10000) ++ frac4 n.natAbs) = n.natAbs := by
    rw [numD_append, dec_num, numD_shift, frac4_length, frac4_num]
    omega
  rw [e, parse_sgn, hn, sgnI_abs]
  · rw [List.all_append, dec_isD, frac4_isD]; rfl
  · intro h
    exact dec_ne _ (List.append_eq_nil_iff.1 h).1
  · rw [hn]; omega
theorem trimZ_zero : ∀ (l : List UInt8), trimZ (l ++ [48]) = trimZ l
  | [] => rfl
  | c :: l => by
    show trimZ (c :: (l ++ [48])) = _
    unfold trimZ
    rw [trimZ_zero l]
theorem trimZ_keep (d : UInt8) (h : d ≠ 48) : ∀ (l : List UInt8), trimZ (l ++ [d]) = l ++ [d]
  | [] => by
    show trimZ [d] = [d]
    simp [trimZ, h]
  | c :: l => by
    show trimZ (c :: (l ++ [d])) = c :: (l ++ [d])
    rw [trimZ, trimZ_keep d h l]
    cases l <;> rfl
/-! The text of a number. -/
def nul : Int := -9223372036854775808
def tail_ (t : Nat) : List UInt8 := if t = 4 then [116] else []
/-- What 'Number' answers for an int (2), a time (4), a dec (5). -/
def numT (t : Nat) (n : Int) : List UInt8 :=
  if n = nul then (if t = 5 then [48, 78, 100] else [48, 78] ++ tail_ t) else if t = 5 then decT n else itoa n ++ tail_ t
/-- The bytes that may stand in a number's text. -/
def okB (c : UInt8) : Bool := isD c || decide (c.toNat = 45) || decide (c.toNat = 46)
theorem itoa_ok (n : Int) : (itoa n).all (fun c => isD c || decide (c.toNat = 45)) = true := by
  rw [itoa_sgn, List.all_eq_true]
  have h := List.all_eq_true.1 (dec_isD n.natAbs)
  unfold sgn
  intro c hc
  split at hc
  · rcases List.mem_cons.1 hc with rfl | hc
    · rfl
    · rw [h c hc]; rfl
  · rw [h c hc]; rfl
theorem itoa_ne (n : Int) : itoa n ≠ [] := by
  rw [itoa_sgn]
  unfold sgn
  split
  · simp
  · exact dec_ne _
theorem last_sgn {neg : Bool} {l : List UInt8} (h0 : l ≠ []) : (sgn neg l).getLast? = l.getLast? := by
  unfold sgn
  split
  · cases l with
    | nil => exact absurd rfl h0
    | cons c r => rfl
  · rfl
theorem last_isD {l : List UInt8} (h : l.all isD = true) {c : UInt8} (hc : l.getLast? = some c) : isD c = true :=
  List.all_eq_true.1 h c (List.mem_of_getLast? hc)
theorem itoa_last (n : Int) {c : UInt8} (hc : (itoa n).getLast? = some c) : isD c = true := by
  rw [itoa_sgn, last_sgn (dec_ne _)] at hc
  exact last_isD (dec_isD _) hc
theorem decT_last (n : Int) {c : UInt8} (hc : (decT n).getLast? = some c) : isD c = true := by
  unfold decT at hc
  rw [last_sgn (by simp)] at hc
  have hl := frac_len n.natAbs
  have hf : frac n.natAbs ≠ [] := by intro h; rw [h] at hl; simp at hl
  have e : (decDigits (n.natAbs / 10000) ++ 46 :: frac n.natAbs).getLast? = (frac n.natAbs).getLast? := by
    rw [List.getLast?_append]
    cases hq : frac n.natAbs with
    | nil => exact absurd hq hf
    | cons a b =>
      rw [List.getLast?_cons_cons]
      cases hz : (a :: b).getLast? with
      | none => simp at hz
      | some z => rfl
  rw [e] at hc
  exact last_isD (frac_isD _) hc
theorem decT_ok (n : Int) : (decT n).all okB = true := by
  rw [List.all_eq_true]
  have h1 := List.all_eq_true.1 (dec_isD (n.natAbs / 10000))
  have h2 := List.all_eq_true.1 (frac_isD n.natAbs)
  have h3 : ∀ c ∈ decDigits (n.natAbs / 10000) ++ 46 :: frac n.natAbs, okB c = true := by
    intro c hc
    rcases List.mem_append.1 hc with hc | hc
    · unfold okB; rw [h1 c hc]; rfl
    · rcases List.mem_cons.1 hc with rfl | hc
      · rfl
      · unfold okB; rw [h2 c hc]; rfl
  unfold decT sgn
  intro c hc
  split at hc
  · rcases List.mem_cons.1 hc with rfl | hc
    · rfl
    · exact h3 c hc
  · exact h3 c hc
/-- Where the point stands in a dec's text. -/
def decW (n : Int) : List UInt8 := sgn (decide (n < 0)) (decDigits (n.natAbs / 10000))
theorem decT_cut (n : Int) : decT n = decW n ++ 46 :: frac n.natAbs := by
  unfold decT decW sgn
  split <;> rfl
theorem decW_no (n : Int) : ∀ c ∈ decW n, c.toNat ≠ 46 := by
  have h1 := List.all_eq_true.1 (dec_isD (n.natAbs / 10000))
  unfold decW sgn
  intro c hc
  split at hc
  · rcases List.mem_cons.1 hc with rfl | hc
    · decide
    · have := isD_iff.1 (h1 c hc); omega
  · have := isD_iff.1 (h1 c hc); omega
theorem itoa_no (n : Int) : ∀ c ∈ itoa n, c.toNat ≠ 46 := by
  have h := List.all_eq_true.1 (itoa_ok n)
  intro c hc
  have h := h c hc
  simp only [Bool.or_eq_true, decide_eq_true_eq] at h
  rcases h with h | h
  · have := isD_iff.1 h; omega
  · omega
theorem itoa_len (n : Int) (h0 : nul ≤ n) (h1 : n ≤ 9223372036854775807) : (itoa n).length ≤ 21 := itoa_length_le n h0 h1
theorem decT_len (n : Int) (h0 : nul ≤ n) (h1 : n ≤ 9223372036854775807) : (decT n).length ≤ 27 := by
  have hf := frac_len n.natAbs
  have hd := itoa_length_le ((n.natAbs / 10000 : Nat) : Int) (by omega) (by unfold nul at h0; omega)
  rw [itoa_nonneg] at hd
  unfold decT sgn
  split <;> simp only [List.length_cons, List.length_append] <;> omega
theorem numT_len (t : Nat) (n : Int) (h0 : nul ≤ n) (h1 : n ≤ 9223372036854775807) : (numT t n).length ≤ 27 := by
  have := itoa_len n h0 h1
  have := decT_len n h0 h1
  unfold numT tail_
  repeat' split
  all_goals (try simp only [List.length_append, List.length_cons, List.length_nil]); omega
theorem numT_head (t : Nat) (n : Int) : ∃ c r, numT t n = c :: r ∧ (48 ≤ c.toNat ∧ c.toNat ≤ 57 ∨ c.toNat = 45) := by
  have hs : ∀ (neg : Bool) (l : List UInt8), l.all isD = true → l ≠ [] → ∀ m : List UInt8, ∃ c r, sgn neg l ++ m = c :: r ∧ (48 ≤ c.toNat ∧ c.toNat ≤ 57 ∨ c.toNat = 45) := by
    intro neg l hl h0 m
    cases l with
    | nil => exact absurd rfl h0
    | cons c r =>
      simp only [List.all_cons, Bool.and_eq_true] at hl
      cases neg with
      | true => exact ⟨45, c :: r ++ m, rfl, .inr rfl⟩
      | false => exact ⟨c, r ++ m, rfl, .inl (isD_iff.1 hl.1)⟩
  unfold numT
  split
  · split
    · exact ⟨48, [78, 100], rfl, .inl (by decide)⟩
    · exact ⟨48, 78 :: tail_ t, rfl, .inl (by decide)⟩
  · split
    · rw [decT_cut]
      exact hs _ _ (dec_isD _) (dec_ne _) _
    · rw [itoa_sgn]
      exact hs _ _ (dec_isD _) (dec_ne _) _
/-- A byte that may stand in a number's text. -/
def okC (c : UInt8) : Prop := (48 ≤ c.toNat ∧ c.toNat ≤ 57) ∨ c.toNat = 45 ∨ c.toNat = 46 ∨ c.toNat = 78 ∨ c.toNat = 100 ∨ c.toNat = 116
theorem okC_of {c : UInt8} (h : okB c = true) : okC c := by
  simp only [okB, Bool.or_eq_true, decide_eq_true_eq] at h
  unfold okC
  rcases h with (h | h) | h
  · exact .inl (isD_iff.1 h)
  · exact .inr (.inl h)
  · exact .inr (.inr (.inl h))
theorem numT_okC (t : Nat) (n : Int) : ∀ c ∈ numT t n, okC c := by
  have hi : ∀ c ∈ itoa n, okC c := fun c hc => by
    have h := List.all_eq_true.1 (itoa_ok n) c hc
    simp only [Bool.or_eq_true, decide_eq_true_eq] at h
    unfold okC
    rcases h with h | h
    · exact .inl (isD_iff.1 h)
    · exact .inr (.inl h)
  have hd : ∀ c ∈ decT n, okC c := fun c hc => okC_of (List.all_eq_true.1 (decT_ok n) c hc)
  have ht : ∀ c ∈ tail_ t, okC c := fun c hc => by
    unfold tail_ at hc
    split at hc
    · simp only [List.mem_singleton] at hc
      subst hc
      unfold okC; decide
    · cases hc
  intro c hc
  unfold numT at hc
  split at hc
  · split at hc
    · simp only [List.mem_cons, List.not_mem_nil, or_false] at hc
      unfold okC
      rcases hc with rfl | rfl | rfl <;> decide
    · rcases List.mem_append.1 hc with hc | hc
      · simp only [List.mem_cons, List.not_mem_nil, or_false] at hc
        unfold okC
        rcases hc with rfl | rfl <;> decide
      · exact ht c hc
  · split at hc
    · exact hd c hc
    · rcases List.mem_append.1 hc with hc | hc
      · exact hi c hc
      · exact ht c hc
/-- Unlike numbers have unlike texts. -/
theorem numT_inj {t : Nat} {a b : Int} (ha : nul ≤ a ∧ a ≤ 9223372036854775807) (hb : nul ≤ b ∧ b ≤ 9223372036854775807) (h : numT t a = numT t b) : a = b := by
  have key : ∀ n : Int, nul < n → n ≤ 9223372036854775807 → (numT t n = if t = 5 then decT n else itoa n ++ tail_ t) := fun n h1 _ => by
    unfold numT; rw [if_neg (by omega)]
  have hN : ∀ n : Int, nul < n → n ≤ 9223372036854775807 → ∀ r, numT t n ≠ 48 :: 78 :: r := by
    intro n h1 h2 r he
    rw [key n h1 h2] at he
    have hm : (78 : UInt8) ∈ (48 :: 78 :: r : List UInt8) := by simp
    rw [← he] at hm
    split at hm
    · have := okC_of (List.all_eq_true.1 (decT_ok n) 78 hm)
      have h3 := List.all_eq_true.1 (decT_ok n) 78 hm
      exact absurd h3 (by decide)
    · rcases List.mem_append.1 hm with hm | hm
      · exact absurd (List.all_eq_true.1 (itoa_ok n) 78 hm) (by decide)
      · unfold tail_ at hm
        split at hm
        · exact absurd hm (by decide)
        · cases hm
  have hz : ∃ r, numT t nul = 48 :: 78 :: r := by
    unfold numT
    rw [if_pos rfl]
    split
    · exact ⟨_, rfl⟩
    · exact ⟨_, rfl⟩
  by_cases e1 : a = nul
  · by_cases e2 : b = nul
    · rw [e1, e2]
    · obtain ⟨r, hr⟩ := hz
      rw [e1, hr] at h
      exact absurd h.symm (hN b (by omega) hb.2 r)
  · by_cases e2 : b = nul
    · obtain ⟨r, hr⟩ := hz
      rw [e2, hr] at h
      exact absurd h (hN a (by omega) ha.2 r)
    · rw [key a (by omega) ha.2, key b (by omega) hb.2] at h
      have ha' : -9223372036854775808 < a := by unfold nul at *; omega
      have hb' : -9223372036854775808 < b := by unfold nul at *; omega
      split at h
      · have pa := dec_parse ha' ha.2
        have pb := dec_parse hb' hb.2
        rw [decT_cut, decT_cut] at h
        have h2 : ∀ (x y u v : List UInt8), (∀ c ∈ x, c.toNat ≠ 46) → (∀ c ∈ y, c.toNat ≠ 46) → x ++ 46 :: u = y ++ 46 :: v → x = y ∧ u = v := by
          intro x
          induction x with
          | nil =>
            intro y u v _ hy e
            cases y with
            | nil => simp only [List.nil_append, List.cons.injEq, true_and] at e; exact ⟨rfl, e⟩
            | cons c y =>
              simp only [List.nil_append, List.cons_append, List.cons.injEq] at e
              exact absurd (congrArg UInt8.toNat e.1.symm) (hy c (List.mem_cons_self ..))
          | cons d x ih =>
            intro y u v hx hy e
            cases y with
            | nil =>
              simp only [List.nil_append, List.cons_append, List.cons.injEq] at e
              exact absurd (congrArg UInt8.toNat e.1) (hx d (List.mem_cons_self ..))
            | cons c y =>
              simp only [List.cons_append, List.cons.injEq] at e
              obtain ⟨i1, i2⟩ := ih y u v (fun c hc => hx c (List.mem_cons_of_mem _ hc)) (fun c hc => hy c (List.mem_cons_of_mem _ hc)) e.2
              exact ⟨by rw [e.1, i1], i2⟩
        obtain ⟨i1, i2⟩ := h2 _ _ _ _ (decW_no a) (decW_no b) h
        unfold decW at i1
        rw [i1, i2, pb] at pa
        exact (NumEnd.ok.inj pa).symm
      · have hab : itoa a = itoa b := List.append_cancel_right h
        have pa := parse_itoa ha' ha.2
        rw [hab, parse_itoa hb' hb.2] at pa
        exact (NumEnd.ok.inj pa).symm
end Go.Num
/- text's small functions on strings, exact: TrimRight of one byte, Cut at a point, number. -/
namespace Go.Proofs.YtmjbmbmnnephjaaGreatDoor
open Go Go.Ev Go.Proofs Go.Num
theorem subNat1 (a : Nat) (h : 0 < a) (ha : a ≤ 4611686018427387904) : IntKind.i64.wrap (Int.subNatNat a 1) = Int.ofNat (a - 1) := by
  rw [wrap_in _ (by rw [Int.subNatNat_eq_coe]; omega) (by rw [Int.subNatNat_eq_coe]; omega), Int.subNatNat_eq_coe]
  simp only [Int.ofNat_eq_natCast]; omega
theorem snoc_cases (l : List UInt8) : l = [] ∨ ∃ m d, l = m ++ [d] := by
  cases h : l.reverse with
  | nil => exact .inl (by simpa using h)
  | cons d m => exact .inr ⟨m.reverse, d, by have := congrArg List.reverse h; simpa using this⟩
theorem trimByte_ok : ∀ (n : Nat) (l : List UInt8) (s : St), l.length = n → n ≤ 4611686018427387904 → Ok (fun f => p112_1 f (mkStr l) 48) s (fun v s' => v = .string (mkStr (trimZ l)) ∧ s' = s) := by
  intro n
  induction n with
  | zero =>
    intro l s hl _
    have : l = [] := List.length_eq_zero_iff.1 hl
    subst this
    refine Ok.step (fun f => p112_1_eq f _ _) ?_
    exact Ok.f rfl (Ok.ret ⟨rfl, rfl⟩)
  | succ n ih =>
    intro l s hl hn
    rcases snoc_cases l with rfl | ⟨m, d, rfl⟩
    · simp at hl
    have hm : m.length = n := by simpa using hl
    refine Ok.step (fun f => p112_1_eq f _ _) ?_
    simp only [show (mkStr (m ++ [d])).data.toList = m ++ [d] from rfl]
    have e := subNat1 (m ++ [d]).length (by omega) (by omega)
    have e1 : (m ++ [d]).length - 1 = m.length := by rw [hl, hm]; omega
    rw [e1] at e
    rw [e]
    refine Ok.t (decide_eq_true (by simp only [Int.ofNat_eq_natCast]; omega)) ?_
    refine Ok.t (decide_eq_true (by simp only [Int.ofNat_eq_natCast]; omega)) ?_
    refine Ok.t (Nat.ble_eq_true_of_le (by simp only [Int.ofNat_eq_natCast, Int.toNat_natCast]; omega)) ?_
    have hb : byteAt (mkStr (m ++ [d])) (Int.toNat (Int.ofNat m.length)) = d.toNat := by
      unfold byteAt
      show ((m ++ [d]).getD (Int.toNat (Int.ofNat m.length)) 0).toNat = d.toNat
      simp [List.getD]
    rw [hb]
    refine Ok.c (fun h => ?_) (fun h => ?_)
    · have h := of_decide_eq_true h
      have hd : d = 48 := UInt8.toNat_inj.1 (by have : ((d.toNat : Nat) : Int) = 48 := h; show d.toNat = 48; omega)
      subst hd
      refine Ok.t (decide_eq_true (by simp only [Int.ofNat_eq_natCast]; omega)) ?_
      refine Ok.t (by simp only [Bool.and_eq_true]; exact ⟨Nat.ble_eq_true_of_le (Nat.zero_le _), Nat.ble_eq_true_of_le (by simp only [Int.ofNat_eq_natCast, Int.toNat_natCast]; omega)⟩) ?_
      have et : List.take ((Int.toNat (Int.ofNat m.length)) - 0) (m ++ [48]) = m := by simp
      rw [et, trimZ_zero]
      exact ih m s hm (by omega)
    · have h := of_decide_eq_false h
      have hd : d ≠ 48 := fun e => h (by rw [e]; rfl)
      rw [trimZ_keep d hd]
      exact Ok.ret ⟨rfl, rfl⟩
theorem trimRight_ok (s : St) (l : List UInt8) (hl : l.length ≤ 4611686018427387904) : Ok (fun f => callF En (runP En f) 58 [.string (mkStr l), .string (mkStr [48])]) s (fun v s' => v = .string (mkStr (trimZ l)) ∧ s' = s) := by
  refine Ok.step (fun f => f58_eq f _ _) ?_
  refine Ok.c (fun h => ?_) (fun _ => ?_)
  · rw [beqB_eq] at h
    have h : l = [] := of_decide_eq_true h
    subst h
    exact Ok.ret ⟨rfl, rfl⟩
  with_reducible refine Ok.f ?_ ?_
  · kernel_rfl
  with_reducible refine Ok.t ?_ ?_
  · kernel_rfl
  with_reducible refine Ok.t ?_ ?_
  · kernel_rfl
  with_reducible refine Ok.t ?_ ?_
  · kernel_rfl
  with_reducible refine Ok.t ?_ ?_
  · kernel_rfl
  refine Ok.call (Q1 := fun v s' => v = .string (mkStr (trimZ l)) ∧ s' = s) ?_ ?_
  · refine Ok.step (fun f => f112_eq f _ _) ?_
    exact trimByte_ok l.length l s rfl hl
  · rintro v s1 ⟨rfl, rfl⟩
    exact Ok.t rfl (Ok.ret ⟨rfl, rfl⟩)
/-! Cut. -/
theorem find_no (c : Nat) : ∀ (l : List UInt8) (i : Nat), (∀ b ∈ l, b.toNat ≠ c) → findByte c l i = -1
  | [], _, _ => rfl
  | x :: l, i, h => by
    unfold findByte
    have hx : Nat.beq x.toNat c = false := by
      cases hq : Nat.beq x.toNat c with
      | false => rfl
      | true => exact absurd (Nat.eq_of_beq_eq_true hq) (h x (List.mem_cons_self ..))
    rw [hx]
    exact find_no c l (i + 1) fun b hb => h b (List.mem_cons_of_mem _ hb)
theorem find_at (c : Nat) (d : UInt8) (hd : d.toNat = c) : ∀ (l r : List UInt8) (i : Nat), (∀ b ∈ l, b.toNat ≠ c) → findByte c (l ++ d :: r) i = Int.ofNat (i + l.length)
  | [], r, i, _ => by
    show findByte c (d :: r) i = _
    unfold findByte
    rw [hd, Nat.beq_refl]
    rfl
  | x :: l, r, i, h => by
    show findByte c (x :: (l ++ d :: r)) i = _
    unfold findByte
    have hx : Nat.beq x.toNat c = false := by
      cases hq : Nat.beq x.toNat c with
      | false => rfl
      | true => exact absurd (Nat.eq_of_beq_eq_true hq) (h x (List.mem_cons_self ..))
    rw [hx]
    show findByte c (l ++ d :: r) (i + 1) = _
    rw [find_at c d hd l r (i + 1) fun b hb => h b (List.mem_cons_of_mem _ hb)]
    congr 1
    simp only [List.length_cons]; omega
theorem indexX_ok (s : St) (x : ByteArray) : Ok (fun f => callF En (runP En f) 226 [.string x, .string (mkStr [46])]) s (fun v s' => v = .int .i64 (findByte 46 (bl x) 0) ∧ s' = s) := by
  refine Ok.step (fun f => f226a_eq f x) ?_
  refine Ok.c (fun h => ?_) (fun _ => ?_)
  · rw [beqB_eq] at h
    have h : [(46 : UInt8)] = bl x := of_decide_eq_true h
    exact Ok.ret ⟨by rw [← h]; rfl, rfl⟩
  · refine Ok.call (Q1 := fun v s' => v = .int .i64 (findByte 46 (bl x) 0) ∧ s' = s) ?_ ?_
    · refine Ok.step (fun f => f124_eq f x 46) ?_
      refine Ok.call (Q1 := fun v s' => v = .int .i64 (findByte 46 (bl x) 0) ∧ s' = s) ?_ ?_
      · simp only [f180_eq]
        exact Ok.g (by decide) (Ok.ret ⟨rfl, rfl⟩)
      · rintro v s1 ⟨rfl, rfl⟩
        exact Ok.t rfl (Ok.ret ⟨rfl, rfl⟩)
    · rintro v s1 ⟨rfl, rfl⟩
      exact Ok.t rfl (Ok.ret ⟨rfl, rfl⟩)
theorem cutNo_ok (s : St) (x : ByteArray) (h : ∀ b ∈ bl x, b.toNat ≠ 46) : Ok (fun f => callF En (runP En f) 178 [.string x, .string (mkStr [46])]) s (fun v s' => v = .tuple ⟨[.string x, .string (mkStr []), .bool false]⟩ ∧ s' = s) := by
  refine Ok.step (fun f => f178_eq f x _) ?_
  refine Ok.call (Q1 := fun v s' => v = .tuple ⟨[.string x, .string (mkStr []), .bool false]⟩ ∧ s' = s) ?_ ?_
  · refine Ok.step (fun f => f212_eq f x _) ?_
    refine Ok.call (indexX_ok s x) ?_
    rintro v s1 ⟨rfl, rfl⟩
    refine Ok.t rfl ?_
    rw [find_no 46 _ 0 h]
    exact Ok.f rfl (Ok.ret ⟨rfl, rfl⟩)
  · rintro v s1 ⟨rfl, rfl⟩
    exact Ok.t rfl (Ok.ret ⟨rfl, rfl⟩)
theorem cutAt_ok (s : St) (a b : List UInt8) (h : ∀ c ∈ a, c.toNat ≠ 46) (hl : (a ++ 46 :: b).length ≤ 1000000) : Ok (fun f => callF En (runP En f) 178 [.string (mkStr (a ++ 46 :: b)), .string (mkStr [46])]) s
    (fun v s' => v = .tuple ⟨[.string (mkStr a), .string (mkStr b), .bool true]⟩ ∧ s' = s) := by
  refine Ok.step (fun f => f178_eq f _ _) ?_
  refine Ok.call (Q1 := fun v s' => v = .tuple ⟨[.string (mkStr a), .string (mkStr b), .bool true]⟩ ∧ s' = s) ?_ ?_
  · refine Ok.step (fun f => f212_eq f _ _) ?_
    refine Ok.call (indexX_ok s _) ?_
    rintro v s1 ⟨rfl, rfl⟩
    refine Ok.t rfl ?_
    have e : findByte 46 (bl (mkStr (a ++ 46 :: b))) 0 = Int.ofNat a.length := by
      show findByte 46 (a ++ 46 :: b) 0 = _
      rw [find_at 46 46 rfl a b 0 h, Nat.zero_add]
    rw [e]
    simp only [intOf, show (mkStr (a ++ 46 :: b)).data.toList = a ++ 46 :: b from rfl]
    have hl' : (a ++ 46 :: b).length = a.length + b.length + 1 := by simp only [List.length_append, List.length_cons]; omega
    have hw : IntKind.i64.wrap (Int.ofNat a.length + Int.ofNat (mkStr [46]).data.toList.length) = ((a.length + 1 : Nat) : Int) := by
      rw [show (Int.ofNat (mkStr [46]).data.toList.length) = 1 from rfl, wrap_in _ (by simp only [Int.ofNat_eq_natCast]; omega) (by simp only [Int.ofNat_eq_natCast]; omega)]; simp only [Int.ofNat_eq_natCast]; omega
    simp only [hw]
    refine Ok.t (decide_eq_true (by simp only [Int.ofNat_eq_natCast]; omega)) ?_
    refine Ok.t (decide_eq_true (by simp only [Int.ofNat_eq_natCast]; omega)) ?_
    refine Ok.t (by simp only [Bool.and_eq_true, Int.ofNat_eq_natCast, Int.toNat_natCast]; exact ⟨Nat.ble_eq_true_of_le (by omega), Nat.ble_eq_true_of_le (by omega)⟩) ?_
    refine Ok.t (decide_eq_true (by omega)) ?_
    refine Ok.t (by simp only [Bool.and_eq_true, Int.toNat_natCast]; exact ⟨Nat.ble_eq_true_of_le (by omega), Nat.ble_eq_true_of_le (by omega)⟩) ?_
    refine Ok.ret ⟨?_, rfl⟩
    have e1 : List.take (Int.toNat (Int.ofNat a.length) - 0) (a ++ 46 :: b) = a := by simp
    have e2 : List.take ((a ++ 46 :: b).length - Int.toNat ((a.length + 1 : Nat) : Int)) (List.drop (Int.toNat ((a.length + 1 : Nat) : Int)) (a ++ 46 :: b)) = b := by
      rw [Int.toNat_natCast, show a ++ 46 :: b = (a ++ [46]) ++ b by simp, List.drop_left' (by simp), List.take_of_length_le (by simp; omega)]
    rw [e1, e2]
  · rintro v s1 ⟨rfl, rfl⟩
    exact Ok.t rfl (Ok.ret ⟨rfl, rfl⟩)
/-! number. -/
theorem f192_eq (ih : Rec) (x : ByteArray) : callF En ih 192 [.string x, .int .i64 10, .int .i64 64] = Ev.gd (Nat.ble x.data.toList.length 1000000) (match Lib.parseIntB 64 x.data.toList with
    | .ok v => .ret (.tuple ⟨[.int .i64 v, .nilIface]⟩)
    | _ => .fail) := by kernel_rfl
theorem parse_ok (s : St) (x : ByteArray) (n : Int) (h : Lib.parseIntB 64 (bl x) = .ok n) (hl : (bl x).length ≤ 1000000) : Ok (fun f => callF En (runP En f) 192 [.string x, .int .i64 10, .int .i64 64]) s (fun v s' => v = .tuple ⟨[.int .i64 n, .nilIface]⟩ ∧ s' = s) := by
  have h : Lib.parseIntB 64 x.data.toList = .ok n := h
  simp only [f192_eq, h]
  exact Ok.g (Nat.ble_eq_true_of_le hl) (Ok.ret ⟨rfl, rfl⟩)
theorem eq_nilI : ∀ (o : Nat), binP En BinOp.eql 103 (Operand.tmp o) (Operand.const Value.nilIface) Value.nilIface Value.nilIface = .ret (.bool true) := fun o => by kernel_rfl
/-- What number answers. -/
def numR (t : Int) (n : Int) : Value := .tuple ⟨[.int .i64 t, .int .i64 n, .bool true]⟩
theorem sufB_last {a : List UInt8} {c : UInt8} (h : sufB a [c] = true) : a.getLast? = some c := by
  simp only [sufB, Bool.and_eq_true, decide_eq_true_eq, List.length_cons, List.length_nil] at h
  obtain ⟨h1, h2⟩ := h
  rcases snoc_cases a with rfl | ⟨m, d, rfl⟩
  · simp at h1
  · have : (m ++ [d]).length - (0 + 1) = m.length := by simp
    rw [this, List.drop_left] at h2
    simp only [List.cons.injEq, and_true] at h2
    rw [h2, List.getLast?_append]
    rfl
theorem sufB_no {a : List UInt8} {c : UInt8} (h : ∀ d, a.getLast? = some d → d ≠ c) : sufB a [c] = false := by
  cases hq : sufB a [c] with
  | false => rfl
  | true => exact absurd rfl (h c (sufB_last hq))
theorem sufB_yes (a : List UInt8) (c : UInt8) : sufB (a ++ [c]) [c] = true := by
  simp [sufB]
theorem cutSuf_yes (a : List UInt8) (c : UInt8) : cutSuf (a ++ [c]) [c] = a := by
  unfold cutSuf
  rw [sufB_yes]
  simp
theorem notNull {l : List UInt8} (h : ∀ c ∈ l, c.toNat ≠ 78) (r : List UInt8) : beqB l (48 :: 78 :: r) = false := by
  rw [beqB_eq]
  refine decide_eq_false fun e => ?_
  exact h 78 (by rw [e]; simp) rfl
theorem itoa_78 (n : Int) : ∀ c ∈ Lib.itoa n, c.toNat ≠ 78 := by
  intro c hc
  have h := List.all_eq_true.1 (itoa_ok n) c hc
  simp only [Bool.or_eq_true, decide_eq_true_eq] at h
  rcases h with h | h
  · have := isD_iff.1 h; omega
  · omega
theorem decT_78 (n : Int) : ∀ c ∈ decT n, c.toNat ≠ 78 := by
  intro c hc
  have h := List.all_eq_true.1 (decT_ok n) c hc
  simp only [okB, Bool.or_eq_true, decide_eq_true_eq] at h
  rcases h with (h | h) | h
  · have := isD_iff.1 h; omega
  · omega
  · omega
theorem num5_int (s : St) (t n : Int) (h0 : nul < n) (h1 : n ≤ 9223372036854775807) : Ok (fun f => p151_5 f (mkStr (Lib.itoa n)) t) s (fun v s' => v = numR t n ∧ s' = s) := by
  have hlen : (Lib.itoa n).length ≤ 21 := itoa_len n (by omega) h1
  refine Ok.step (fun f => p151_5_eq f _ _) ?_
  refine Ok.f (notNull (itoa_78 n) [100]) (Ok.f (notNull (itoa_78 n) []) ?_)
  refine Ok.call (cutNo_ok s _ (itoa_no n)) ?_
  rintro v s1 ⟨rfl, rfl⟩
  refine Ok.t rfl (Ok.t rfl ?_)
  refine Ok.call (parse_ok s1 (mkStr (Lib.itoa n)) n (parse_itoa (by unfold nul at h0; omega) h1) (by show (Lib.itoa n).length ≤ _; omega)) ?_
  rintro v s2 ⟨rfl, rfl⟩
  refine Ok.t rfl ?_
  simp only [show at_ (tupOf (Value.tuple ⟨[.int .i64 n, Value.nilIface]⟩)) 1 = Value.nilIface from rfl, eq_nilI]
  refine Ok.seg (Q1 := fun v s' => v = .bool true ∧ s' = ⟨s2.mem, s2.ctr, []⟩) (Ok.ret ⟨rfl, rfl⟩) ?_
  rintro v s3 ⟨rfl, rfl⟩
  exact Ok.ret ⟨rfl, rfl⟩
theorem drop_four (k : Nat) (h : k ≤ 4) : List.take (4 - k) (List.drop k ((48 : UInt8) :: ((48 : UInt8) :: ((48 : UInt8) :: ((48 : UInt8) :: []))))) = List.replicate (4 - k) 48 := by
  have : k = 0 ∨ k = 1 ∨ k = 2 ∨ k = 3 ∨ k = 4 := by omega
  rcases this with rfl | rfl | rfl | rfl | rfl <;> rfl
theorem num5_dec (s : St) (n : Int) (h0 : nul < n) (h1 : n ≤ 9223372036854775807) : Ok (fun f => p151_5 f (mkStr (decT n)) 2) s (fun v s' => v = numR 5 n ∧ s' = s) := by
  have hlen := decT_len n (by omega) h1
  have hf := frac_len n.natAbs
  refine Ok.step (fun f => p151_5_eq f _ _) ?_
  refine Ok.f (notNull (decT_78 n) [100]) (Ok.f (notNull (decT_78 n) []) ?_)
  have hc := decT_cut n
  rw [hc] at hlen
  simp only [List.length_append, List.length_cons] at hlen
  rw [hc]
  refine Ok.call (cutAt_ok s (decW n) (frac n.natAbs) (decW_no n) (by simp only [List.length_append, List.length_cons]; omega)) ?_
  rintro v s1 ⟨rfl, rfl⟩
  refine Ok.t rfl (Ok.f rfl ?_)
  simp only [show strOf (at_ (tupOf (Value.tuple ⟨[Value.string (mkStr (decW n)), Value.string (mkStr (frac n.natAbs)), Value.bool true]⟩)) 0) = mkStr (decW n) from rfl, show strOf (at_ (tupOf (Value.tuple ⟨[Value.string (mkStr (decW n)), Value.string (mkStr (frac n.natAbs)), Value.bool true]⟩)) 1) = mkStr (frac n.natAbs) from rfl, show ∀ l, (mkStr l).data.toList = l from fun _ => rfl]
  refine Ok.f (decide_eq_false (by simp only [Int.ofNat_eq_natCast]; omega)) ?_
  refine Ok.t (Nat.ble_eq_true_of_le (by omega)) ?_
  refine Ok.t (by rw [Bool.and_true]; exact Nat.ble_eq_true_of_le hf.2) ?_
  rw [drop_four _ hf.2]
  refine Ok.t (Nat.ble_eq_true_of_le (by simp only [List.length_append, List.length_replicate]; omega)) ?_
  refine Ok.call (parse_ok s1 _ n (dec_parse (by unfold nul at h0; omega) h1) (by show (_ ++ _ ++ _ : List UInt8).length ≤ _; simp only [List.length_append, List.length_replicate]; have : (sgn (decide (n < 0)) (Lib.decDigits (n.natAbs / 10000))).length = (decW n).length := rfl; omega)) ?_
  rintro v s2 ⟨rfl, rfl⟩
  refine Ok.t rfl ?_
  simp only [show at_ (tupOf (Value.tuple ⟨[.int .i64 n, Value.nilIface]⟩)) 1 = Value.nilIface from rfl, eq_nilI]
  refine Ok.seg (Q1 := fun v s' => v = .bool true ∧ s' = ⟨s2.mem, s2.ctr, []⟩) (Ok.ret ⟨rfl, rfl⟩) ?_
  rintro v s3 ⟨rfl, rfl⟩
  exact Ok.ret ⟨rfl, rfl⟩
/-- A number's text is read as that number. -/
theorem number_ok (s : St) (t : Nat) (n : Int) (ht : t = 2 ∨ t = 4 ∨ t = 5) (h0 : nul ≤ n) (h1 : n ≤ 9223372036854775807) : Ok (fun f => callF En (runP En f) 151 [.string (mkStr (numT t n))]) s (fun v s' => v = numR t n ∧ s' = s) := by
  have hlen := numT_len t n h0 h1
  refine Ok.step (fun f => f151_eq f _) ?_
  refine Ok.call (cutSuffix_ok s (mkStr (numT t n)) _ (by show (numT t n).length ≤ _; omega)) ?_
  rintro v s1 ⟨rfl, rfl⟩
  simp only [bl_mk]
  refine Ok.t rfl ?_
  have hb : ∀ (a : List UInt8) (b : Bool), boolOf (at_ (tupOf (Value.tuple ⟨[.string (mkStr a), .bool b]⟩)) 1) = b := fun _ _ => rfl
  have ha : ∀ (a : List UInt8) (b : Bool), strOf (at_ (tupOf (Value.tuple ⟨[.string (mkStr a), .bool b]⟩)) 0) = mkStr a := fun _ _ => rfl
  simp only [hb, ha]
  by_cases hn : n = nul
  · subst hn
    rcases ht with rfl | rfl | rfl
    · refine Ok.f rfl ?_
      refine Ok.step (fun f => p151_5_eq f _ _) ?_
      exact Ok.f rfl (Ok.t rfl (Ok.ret ⟨rfl, rfl⟩))
    · refine Ok.t rfl ?_
      refine Ok.step (fun f => p151_5_eq f _ _) ?_
      exact Ok.f rfl (Ok.t rfl (Ok.ret ⟨rfl, rfl⟩))
    · refine Ok.f rfl ?_
      refine Ok.step (fun f => p151_5_eq f _ _) ?_
      exact Ok.t rfl (Ok.ret ⟨rfl, rfl⟩)
  · rcases ht with rfl | rfl | rfl
    · have e : numT 2 n = Lib.itoa n := by unfold numT tail_; rw [if_neg hn]; simp
      rw [e]
      refine Ok.f (sufB_no fun d hd e => ?_) (num5_int _ 2 n (by omega) h1)
      have := isD_iff.1 (itoa_last n hd); rw [e] at this; exact absurd this (by decide)
    · have e : numT 4 n = Lib.itoa n ++ [116] := by unfold numT tail_; rw [if_neg hn]; simp
      rw [e, cutSuf_yes]
      exact Ok.t (sufB_yes _ _) (num5_int _ 4 n (by omega) h1)
    · have e : numT 5 n = decT n := by unfold numT tail_; rw [if_neg hn]; simp
      rw [e]
      refine Ok.f (sufB_no fun d hd e => ?_) (num5_dec _ n (by omega) h1)
      have := isD_iff.1 (decT_last n hd); rw [e] at this; exact absurd this (by decide)
end Go.Proofs.YtmjbmbmnnephjaaGreatDoor
/- The reference's Match: a value matches itself. -/
namespace Go.Ev
open Go
/-- A load, outside a drawn region. -/
theorem Ok.pl {E : Env} {t b o : Nat} {v : Value} {s : St} {Q : Value → St → Prop} {k : Nat → Value → Prog} (hs : scal E t = true) (h : Cell s.mem b o v)
    (hk : ∀ s1, Reads s s1 → Ok (fun f => k f v) s1 Q) : Ok (fun f => Ev.callP (k f) (loadT E t b o)) s Q := by
  refine Ok.callP (Ok.load1 hs h) ?_
  rintro w s1 ⟨rfl, e1, e2, e3⟩
  exact hk s1 ⟨e1, e2, [⟨false, b + 1 + o, 1⟩, ⟨false, b, 1⟩], e3, rfl⟩
end Go.Ev
namespace Go.Proofs.YtmjbmbmnnephjaaGreatDoor
open Go Go.Ev Go.Proofs
/-- A value of the language, as a tree of lists. -/
inductive VF : Value → Prop
  | mk {t : Int} {n sy l : List Value} : n.length ≤ 9223372036854775807 → sy.length ≤ 9223372036854775807 → l.length ≤ 9223372036854775807 → (∀ x, x ∈ n → ∃ i, x = .int .i64 i) → (∀ x, x ∈ sy → ∃ b, x = .string b) → (∀ x, x ∈ l → VF x) →
      VF (.agg ⟨[.int .i64 t, lstV n, lstV sy, lstV l]⟩)
def v4 (t : Int) (n sy l : List Value) : List Value := [.int .i64 t, lstV n, lstV sy, lstV l]
theorem elems_lst (l : List Value) : elems (lstV l) = l := rfl
theorem atq {l : List Value} {i : Nat} {x : Value} (h : l[i]? = some x) : at_ l i = x := by
  induction l generalizing i with
  | nil => simp at h
  | cons a l ih =>
    cases i with
    | zero => simpa [at_] using h
    | succ i => simp only [List.getElem?_cons_succ] at h; exact ih h
theorem atmem {l : List Value} {i : Nat} (h : i < l.length) : at_ l i ∈ l := by
  rw [atq (List.getElem?_eq_getElem h)]
  exact List.getElem_mem h
/-- Two rows of a value, side by side. -/
structure MI (s : St) (a b : Nat) (vs : List Value) : Prop where
  ra : Row s.mem a vs
  rb : Row s.mem b vs
  la : a + 1 + vs.length ≤ s.ctr
  lb : b + 1 + vs.length ≤ s.ctr
theorem MI.fresh {s s' : St} {a b : Nat} {vs : List Value} (h : MI s a b vs) (f : Fresh s s') : MI s' a b vs :=
  ⟨h.ra.congr fun j _ h2 => f.2 j (by have := h.la; omega), h.rb.congr fun j _ h2 => f.2 j (by have := h.lb; omega), by have := h.la; have := f.1; omega, by have := h.lb; have := f.1; omega⟩
def MQ (s : St) (v : Value) (s' : St) : Prop := v = .bool true ∧ Fresh s s'
theorem Ok.mq {s s1 : St} {p : Nat → Prog} (f : Fresh s s1) (h : Ok p s1 (MQ s1)) : Ok p s1 (MQ s) := Ok.mono h fun _ _ q => ⟨q.1, f.trans q.2⟩
theorem hd_int {l : List Value} (h : ∀ x, x ∈ l → ∃ i, x = .int .i64 i) : hdOk 1 l = true := by
  cases l with
  | nil => rfl
  | cons a l => obtain ⟨i, rfl⟩ := h a (List.mem_cons_self ..); rfl
theorem hd_str {l : List Value} (h : ∀ x, x ∈ l → ∃ b, x = .string b) : hdOk 1 l = true := by
  cases l with
  | nil => rfl
  | cons a l => obtain ⟨i, rfl⟩ := h a (List.mem_cons_self ..); rfl
theorem hd_vf {l : List Value} (h : ∀ x, x ∈ l → VF x) : hdOk 4 l = true := by
  cases l with
  | nil => rfl
  | cons a l => obtain ⟨_, _, _, _, _, _⟩ := h a (List.mem_cons_self ..); rfl
section
variable {t : Int} {n sy l : List Value} {a b : Nat}
theorem s28 : scal En 28 = true := by kernel_rfl
theorem s29 : scal En 29 = true := by kernel_rfl
theorem s30 : scal En 30 = true := by kernel_rfl
theorem s3' : scal En 3 = true := by kernel_rfl
theorem match14 (hl : l.length ≤ 9223372036854775807) (hv : ∀ x, x ∈ l → ∀ s, Ok (fun f => callF En (runP En f) 18 [x, x]) s (MQ s)) (hf : ∀ x, x ∈ l → VF x) : ∀ (m i : Nat) (s : St), i + m = l.length → MI s a b (v4 t n sy l) → Ok (fun f => p18_14 f a 0 b 0 (i : Int)) s (MQ s) := by
  intro m
  induction m with
  | zero =>
    intro i s hm h
    refine Ok.step (fun f => p18_14_eq f a 0 b 0 i) ?_
    refine Ok.pl s30 (h.ra.cell 3 rfl) fun s1 r1 => ?_
    refine Ok.t rfl ?_
    refine Ok.f (decide_eq_false (by simp only [elems_lst, Int.ofNat_eq_natCast]; omega)) ?_
    exact Ok.ret ⟨rfl, r1.fresh⟩
  | succ m ih =>
    intro i s hm h
    have hi : i < l.length := by omega
    have hmem := atmem hi
    have hx := hf _ hmem
    have hcall := hv _ hmem
    have b1 : decide ((0 : Int) ≤ (i : Int)) = true := decide_eq_true (by omega)
    have b2 : ((Nat.ble (Nat.succ (Int.toNat (i : Int))) (List.length l)) && Bool.true && (hdOk 4 l)) = true := by
      rw [hd_vf hf, Bool.and_true, Bool.and_true]
      exact Nat.ble_eq_true_of_le (by simp only [Int.toNat_natCast]; omega)
    have hw1 : IntKind.i64.wrap ((i : Int) + 1) = ((i + 1 : Nat) : Int) := by rw [wrap_in _ (by omega) (by omega)]; omega
    refine Ok.step (fun f => p18_14_eq f a 0 b 0 i) ?_
    refine Ok.pl s30 (h.ra.cell 3 rfl) fun s1 r1 => ?_
    refine Ok.t rfl ?_
    refine Ok.t (decide_eq_true (by simp only [elems_lst, Int.ofNat_eq_natCast]; omega)) ?_
    refine Ok.segLoad s30 ((h.ra.cell 3 rfl).reads r1) fun s2 r2 => ?_
    have r2 := r1.trans r2
    simp only [elems_lst, Int.toNat_natCast]
    simp only [Int.toNat_natCast] at b2
    generalize hxe : at_ l i = x at *
    obtain ⟨_, _, _, _, _, _⟩ := hx
    refine Ok.t rfl (Ok.t b1 (Ok.t b2 (Ok.t rfl (Ok.t rfl ?_))))
    refine Ok.segLoad s30 ((h.rb.cell 3 rfl).reads r2) fun s3 r3 => ?_
    have r3 := r2.trans r3
    refine Ok.gdL (by kernel_rfl) ?_
    simp only [elems_lst, hxe]
    refine Ok.t rfl (Ok.t b1 (Ok.t b2 (Ok.t rfl (Ok.t rfl ?_))))
    refine Ok.seg (hcall _) ?_
    rintro w s4 ⟨rfl, f4⟩
    refine Ok.gdL (by simp only [freeL]; rfl) ?_
    refine Ok.t rfl (Ok.f rfl ?_)
    rw [hw1]
    have f3 : Fresh s ⟨s4.mem, s4.ctr, s4.log ++ s3.log⟩ := r3.fresh.trans ⟨f4.1, f4.2⟩
    exact Ok.mq f3 (ih (i + 1) _ (by omega) (h.fresh f3))
theorem match9 (hl : l.length ≤ 9223372036854775807) (hv : ∀ x, x ∈ l → ∀ s, Ok (fun f => callF En (runP En f) 18 [x, x]) s (MQ s)) (hf : ∀ x, x ∈ l → VF x) (hy : sy.length ≤ 9223372036854775807) (hs : ∀ x, x ∈ sy → ∃ b, x = .string b) : ∀ (m i : Nat) (s : St), i + m = sy.length → MI s a b (v4 t n sy l) → Ok (fun f => p18_9 f a 0 b 0 (i : Int)) s (MQ s) := by
  intro m
  induction m with
  | zero =>
    intro i s hm h
    refine Ok.step (fun f => p18_9_eq f a 0 b 0 i) ?_
    refine Ok.pl s29 (h.ra.cell 2 rfl) fun s1 r1 => ?_
    refine Ok.t rfl ?_
    refine Ok.f (decide_eq_false (by simp only [elems_lst, Int.ofNat_eq_natCast]; omega)) ?_
    exact Ok.mq r1.fresh (match14 hl hv hf l.length 0 s1 (by omega) (h.fresh r1.fresh))
  | succ m ih =>
    intro i s hm h
    have hi : i < sy.length := by omega
    obtain ⟨x, hx⟩ := hs _ (atmem hi)
    have b1 : decide ((0 : Int) ≤ (i : Int)) = true := decide_eq_true (by omega)
    have b2 : ((Nat.ble (Nat.succ i) (List.length sy)) && Bool.true && (hdOk 1 sy)) = true := by
      rw [hd_str hs, Bool.and_true, Bool.and_true]
      exact Nat.ble_eq_true_of_le (by omega)
    have hw1 : IntKind.i64.wrap ((i : Int) + 1) = ((i + 1 : Nat) : Int) := by rw [wrap_in _ (by omega) (by omega)]; omega
    refine Ok.step (fun f => p18_9_eq f a 0 b 0 i) ?_
    refine Ok.pl s29 (h.ra.cell 2 rfl) fun s1 r1 => ?_
    refine Ok.t rfl ?_
    refine Ok.t (decide_eq_true (by simp only [elems_lst, Int.ofNat_eq_natCast]; omega)) ?_
    refine Ok.segLoad s29 ((h.ra.cell 2 rfl).reads r1) fun s2 r2 => ?_
    have r2 := r1.trans r2
    simp only [elems_lst, Int.toNat_natCast, hx]
    refine Ok.t rfl (Ok.t b1 (Ok.t b2 (Ok.t rfl (Ok.t rfl ?_))))
    refine Ok.segLoad s29 ((h.rb.cell 2 rfl).reads r2) fun s3 r3 => ?_
    have r3 := r2.trans r3
    refine Ok.gdL (by kernel_rfl) ?_
    simp only [elems_lst, hx]
    refine Ok.t rfl (Ok.t b1 (Ok.t b2 (Ok.t rfl (Ok.t rfl (Ok.f ?_ ?_)))))
    · rw [beqB_eq]; simp
    rw [hw1]
    exact Ok.mq r3.fresh (ih (i + 1) _ (by omega) (h.fresh r3.fresh))
theorem match4 (hl : l.length ≤ 9223372036854775807) (hv : ∀ x, x ∈ l → ∀ s, Ok (fun f => callF En (runP En f) 18 [x, x]) s (MQ s)) (hf : ∀ x, x ∈ l → VF x) (hy : sy.length ≤ 9223372036854775807) (hs : ∀ x, x ∈ sy → ∃ b, x = .string b)
    (hn : n.length ≤ 9223372036854775807) (hi : ∀ x, x ∈ n → ∃ i, x = .int .i64 i) : ∀ (m i : Nat) (s : St), i + m = n.length → MI s a b (v4 t n sy l) → Ok (fun f => p18_4 f a 0 b 0 (i : Int)) s (MQ s) := by
  intro m
  induction m with
  | zero =>
    intro i s hm h
    refine Ok.step (fun f => p18_4_eq f a 0 b 0 i) ?_
    refine Ok.pl s28 (h.ra.cell 1 rfl) fun s1 r1 => ?_
    refine Ok.t rfl ?_
    refine Ok.f (decide_eq_false (by simp only [elems_lst, Int.ofNat_eq_natCast]; omega)) ?_
    exact Ok.mq r1.fresh (match9 hl hv hf hy hs sy.length 0 s1 (by omega) (h.fresh r1.fresh))
  | succ m ih =>
    intro i s hm h
    have hin : i < n.length := by omega
    obtain ⟨x, hx⟩ := hi _ (atmem hin)
    have b1 : decide ((0 : Int) ≤ (i : Int)) = true := decide_eq_true (by omega)
    have b2 : ((Nat.ble (Nat.succ i) (List.length n)) && Bool.true && (hdOk 1 n)) = true := by
      rw [hd_int hi, Bool.and_true, Bool.and_true]
      exact Nat.ble_eq_true_of_le (by omega)
    have hw1 : IntKind.i64.wrap ((i : Int) + 1) = ((i + 1 : Nat) : Int) := by rw [wrap_in _ (by omega) (by omega)]; omega
    refine Ok.step (fun f => p18_4_eq f a 0 b 0 i) ?_
    refine Ok.pl s28 (h.ra.cell 1 rfl) fun s1 r1 => ?_
    refine Ok.t rfl ?_
    refine Ok.t (decide_eq_true (by simp only [elems_lst, Int.ofNat_eq_natCast]; omega)) ?_
    refine Ok.segLoad s28 ((h.ra.cell 1 rfl).reads r1) fun s2 r2 => ?_
    have r2 := r1.trans r2
    simp only [elems_lst, Int.toNat_natCast, hx]
    refine Ok.t rfl (Ok.t b1 (Ok.t b2 (Ok.t rfl (Ok.t rfl ?_))))
    refine Ok.segLoad s28 ((h.rb.cell 1 rfl).reads r2) fun s3 r3 => ?_
    have r3 := r2.trans r3
    refine Ok.gdL (by kernel_rfl) ?_
    simp only [elems_lst, hx]
    refine Ok.t rfl (Ok.t b1 (Ok.t b2 (Ok.t rfl (Ok.t rfl (Ok.f (by simp) ?_)))))
    rw [hw1]
    exact Ok.mq r3.fresh (ih (i + 1) _ (by omega) (h.fresh r3.fresh))
end
theorem match_ok {v : Value} (h : VF v) : ∀ s, Ok (fun f => callF En (runP En f) 18 [v, v]) s (MQ s) := by
  induction h with
  | @mk t n sy l hn hy hl hi hs hf ih =>
    intro s
    refine Ok.step (fun f => f18_eq f t n sy l t n sy l) ?_
    refine Ok.g rfl ?_
    refine Ok.callP (Ok.newF (vs := v4 t n sy l) rfl) ?_
    rintro w s1 ⟨rfl, c1, g1, g2, g3, _⟩
    refine Ok.t rfl (Ok.g rfl ?_)
    refine Ok.callP (Ok.newF (vs := v4 t n sy l) rfl) ?_
    rintro w s2 ⟨rfl, c2, k1, k2, k3, _⟩
    refine Ok.t rfl ?_
    have hr1 : Row s1.mem s.ctr (v4 t n sy l) := ⟨⟨_, _, _, _, g1⟩, g2⟩
    have hr2 : Row s2.mem s1.ctr (v4 t n sy l) := ⟨⟨_, _, _, _, k1⟩, k2⟩
    have m2 : MI s2 s.ctr s1.ctr (v4 t n sy l) := ⟨hr1.congr fun j _ h2 => k3 j (by simp only [v4, List.length_cons, List.length_nil] at h2; omega), hr2, by simp only [v4, List.length_cons, List.length_nil]; omega, by simp only [v4, List.length_cons, List.length_nil]; omega⟩
    have f2 : Fresh s s2 := ⟨by omega, fun k hk => by rw [k3 k (by omega), g3 k hk]⟩
    simp only [show ∀ c, blkOf (itP c) = c from fun _ => rfl, show ∀ c, offOf (itP c) = 0 from fun _ => rfl]
    refine Ok.pl s3' (m2.ra.cell 0 rfl) fun s3 r3 => ?_
    refine Ok.t rfl ?_
    have f3 := f2.trans r3.fresh
    have m3 := m2.fresh r3.fresh
    refine Ok.pl s3' (m3.rb.cell 0 rfl) fun s4 r4 => ?_
    have f4 := f3.trans r4.fresh
    have m4 := m3.fresh r4.fresh
    refine Ok.t rfl (Ok.f (by simp) ?_)
    refine Ok.pl s28 (m4.ra.cell 1 rfl) fun s5 r5 => ?_
    have f5 := f4.trans r5.fresh
    have m5 := m4.fresh r5.fresh
    refine Ok.t rfl ?_
    refine Ok.pl s28 (m5.rb.cell 1 rfl) fun s6 r6 => ?_
    have f6 := f5.trans r6.fresh
    have m6 := m5.fresh r6.fresh
    refine Ok.t rfl (Ok.f (by simp) ?_)
    refine Ok.pl s29 (m6.ra.cell 2 rfl) fun s7 r7 => ?_
    have f7 := f6.trans r7.fresh
    have m7 := m6.fresh r7.fresh
    refine Ok.t rfl ?_
    refine Ok.pl s29 (m7.rb.cell 2 rfl) fun s8 r8 => ?_
    have f8 := f7.trans r8.fresh
    have m8 := m7.fresh r8.fresh
    refine Ok.t rfl (Ok.f (by simp) ?_)
    refine Ok.pl s30 (m8.ra.cell 3 rfl) fun s9 r9 => ?_
    have f9 := f8.trans r9.fresh
    have m9 := m8.fresh r9.fresh
    refine Ok.t rfl ?_
    refine Ok.pl s30 (m9.rb.cell 3 rfl) fun s10 r10 => ?_
    have f10 := f9.trans r10.fresh
    have m10 := m9.fresh r10.fresh
    refine Ok.t rfl (Ok.f (by simp) ?_)
    exact Ok.mq f10 (match4 hl ih hf hy hs hn hi n.length 0 s10 (by omega) m10)
end Go.Proofs.YtmjbmbmnnephjaaGreatDoor
