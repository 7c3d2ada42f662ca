/- text.Read of a number's text; TextNumbers itself. -/
import Derived.Test.YtmjbmbmnnephjaaGreatDoorLxKN10
import Derived.Test.YtmjbmbmnnephjaaGreatDoorLxKN4
namespace Go.Ev
open Go
theorem Ok.rd1 {s : St} {b : Nat} {v : Value} {Q : Value → St → Prop} {p : Nat → List Value → Prog} (h : Cell s.mem b 0 v) (hk : ∀ s1, Reads s s1 → Ok (fun f => p f [v]) s1 Q) : Ok (fun f => Prog.rd b 1 0 (p f)) s Q := by
  obtain ⟨w, s', h1, f0, h2⟩ := hk ⟨s.mem, s.ctr, ⟨false, b + 1 + 0, 1⟩ :: ⟨false, b, 1⟩ :: s.log⟩ ⟨rfl, rfl, [⟨false, b + 1 + 0, 1⟩, ⟨false, b, 1⟩], rfl, rfl⟩
  refine ⟨w, s', h1, f0, fun f hf => ?_⟩
  simp only [Prog.run, Go.Ev.rd1 h]
  exact h2 f hf
end Go.Ev
namespace Go.Proofs.YtmjbmbmnnephjaaGreatDoor
open Go Go.Ev Go.Proofs Go.Num
section
variable {s : St}
/-- A number's text is read as its atom, and no error. -/
theorem read_ok (t : Nat) (n : Int) (ht : t = 2 ∨ t = 4 ∨ t = 5) (h0 : nul ≤ n) (h1 : n ≤ 9223372036854775807) (hp : Pw s.mem s.ctr) :
    Ok (fun f => callF En (runP En f) 25 [.string (mkStr (numT t n))]) s (fun w s' => w = .tuple ⟨[.agg ⟨valC (-(t : Int)) [.int .i64 n] [] []⟩, .int .i64 0]⟩ ∧ Fresh s s') := by
  have hlen := numT_len t n h0 h1
  refine Ok.step (fun f => f25_eq f _) ?_
  refine Ok.callP (Ok.new rfl) ?_
  rintro v s1 ⟨rfl, e1, g1, k1⟩
  refine Ok.t rfl ?_
  simp only [blk_itP, off_itP, data_mk]
  refine Ok.f (decide_eq_false (by simp only [Int.ofNat_eq_natCast]; omega)) ?_
  refine Ok.g rfl (Ok.g rfl (Ok.g rfl ?_))
  refine Ok.callP (Ok.new rfl) ?_
  rintro v s2 ⟨rfl, e2, g2, k2⟩
  refine Ok.t rfl ?_
  have f1 : Fresh s s1 := ⟨by omega, k1⟩
  have f2 : Fresh s1 s2 := ⟨by omega, k2⟩
  refine Ok.call (value_num (b := s1.ctr) t n ht h0 h1 g2 (by omega)) ?_
  rintro v s3 ⟨rfl, g3, u3⟩
  refine Ok.t rfl ?_
  have l3 := u3.1
  have q3 : Row s3.mem s.ctr zeroC := (g1.upd (f2.upd 0 0) (by simp only [List.length_cons, List.length_nil]; omega) (.inr (Nat.zero_le _))).upd u3 (by simp only [List.length_cons, List.length_nil]; omega) (.inl (by simp only [List.length_cons, List.length_nil]; omega))
  have F3 : ∀ k, k < s.ctr → s3.mem.get k = s.mem.get k := fun k hk => by rw [u3.2 k (by omega) (.inl (by omega)), f2.2 k (by omega), f1.2 k hk]
  refine Ok.callP (Ok.new rfl) ?_
  rintro v s4 ⟨rfl, e4, g4, k4⟩
  refine Ok.t rfl ?_
  simp only [blk_itP, off_itP]
  refine Ok.callP (Ok.storeRow (n := 4) (ws := valC (-(t : Int)) [.int .i64 n] [] []) sz32 g4 rfl rfl rfl) ?_
  rintro v s5 ⟨rfl, c5, g5, k5⟩
  have f45 : Fresh s3 s5 := ⟨by omega, fun k hk => by rw [k5 k (.inl (by omega)), k4 k hk]⟩
  have b5 : Row s5.mem s1.ctr (rdr [] false 0) := g3.upd (f45.upd 0 0) (by simp only [rdr, List.length_cons, List.length_nil]; omega) (.inr (Nat.zero_le _))
  have q5 : Row s5.mem s.ctr zeroC := q3.upd (f45.upd 0 0) (by simp only [zeroC, List.length_cons, List.length_nil]; omega) (.inr (Nat.zero_le _))
  refine Ok.pl (b := s1.ctr) (o := 1) t4 (b5.cell 1 rfl) fun s6 r6 => ?_
  refine Ok.t rfl (Ok.f rfl ?_)
  refine Ok.pl (b := s1.ctr) (o := 0) t9 ((b5.reads r6).cell 0 rfl) fun s7 r7 => ?_
  refine Ok.t rfl (Ok.f rfl ?_)
  have r7 := r6.trans r7
  refine Ok.plA ag32 sz32 rfl (g5.reads r7) fun s8 r8 => ?_
  have r8 := r7.trans r8
  refine Ok.t rfl ?_
  have c8 : s8.ctr = s5.ctr := r8.2.1
  have p8 : Pw s8.mem s8.ctr := hp.low (by omega) fun k hk => by
    have := hp.2.2
    rw [r8.1, f45.2 k (by omega), F3 k (by omega)]
  refine Ok.call (print_ok t n ht h0 h1 p8) ?_
  rintro v s9 ⟨rfl, f9⟩
  have c9 := f9.1
  refine Ok.t rfl (Ok.f rfl ?_)
  refine Ok.f (by show (!beqB (numT t n) (numT t n)) = false; rw [beqB_eq]; simp) ?_
  have g9 : Row s9.mem s3.ctr (valC (-(t : Int)) [.int .i64 n] [] []) := (g5.reads r8).upd (f9.upd 0 0) (by simp only [valC, List.length_cons, List.length_nil]; omega) (.inr (Nat.zero_le _))
  have q9 : Row s9.mem s.ctr zeroC := (q5.reads r8).upd (f9.upd 0 0) (by simp only [zeroC, List.length_cons, List.length_nil]; omega) (.inr (Nat.zero_le _))
  refine Ok.plA ag32 sz32 rfl g9 fun s10 r10 => ?_
  refine Ok.t rfl ?_
  refine Ok.callP (Ok.storeRow (n := 4) (ws := valC (-(t : Int)) [.int .i64 n] [] []) sz32 (q9.reads r10) rfl rfl rfl) ?_
  rintro v s11 ⟨rfl, c11, g11, k11⟩
  refine Ok.clA ag32 sz32 rfl g11 fun s12 r12 => ?_
  simp only [frz32]
  have c10 : s10.ctr = s9.ctr := r10.2.1
  have c12 : s12.ctr = s11.ctr := r12.2.1
  refine Ok.ret ⟨rfl, by omega, fun k hk => ?_⟩
  rw [r12.1, k11 k (.inl (by omega)), r10.1, f9.2 k (by omega), r8.1, f45.2 k (by omega), F3 k hk]
/-- ErrSyntax is laid. -/
def Er (m : Tr Slot) (c : Nat) : Prop := (∃ v, m.get (gbase 6) = some (.hdr ⟨1, 103, true, true, true, 0, false, false, []⟩) ∧ CellsAt m (gbase 6) (gbase 6 + 1) [v] ∧ errV [v] = true) ∧ gbase 6 + 2 ≤ c
theorem Er.fresh {s' : St} (h : Er s.mem s.ctr) (f : Fresh s s') : Er s'.mem s'.ctr := by
  obtain ⟨⟨v, h1, h2, h3⟩, h4⟩ := h
  have := f.1
  exact ⟨⟨v, (f.2 _ (by omega)).trans h1, h2.congr fun j _ hj => f.2 j (by simp only [List.length_cons, List.length_nil] at hj; omega), h3⟩, by omega⟩
theorem f24_or (ih : Rec) : callF En ih 24 [] = tabQ 0 20 176 fun vs => Ev.gd (isTab .u64 Lib.pow10Tab vs) (tabQ 6 1 103 fun es => Ev.gd (errV es) (.ret (.bool true))) := by kernel_rfl
theorem live4_ok (hp : Pw s.mem s.ctr) (he : Er s.mem s.ctr) : Ok (fun f => callF En (runP En f) 24 []) s (fun v _ => v = .bool true) := by
  obtain ⟨⟨v, h1, h2, h3⟩, _⟩ := he
  obtain ⟨p1, p2, _⟩ := hp
  refine Ok.conv (fun f => f24_or _) ?_
  have e0 : gbase 0 = 1 := rfl
  have k0 : ∀ s1, Reads s s1 → Ok (fun _ => Ev.gd (isTab .u64 Lib.pow10Tab pow10V) (tabQ 6 1 103 fun es => Ev.gd (errV es) (.ret (.bool true)))) s1 (fun v _ => v = .bool true) := fun s1 r1 => by
    refine Ok.g pow10V_tab ?_
    have := tabQ_ok (s := s1) (g := 6) (el := 103) (vs := [v]) (k := fun _ es => Ev.gd (errV es) (.ret (.bool true))) (Q := fun v _ => v = .bool true) (by rw [r1.1]; exact h1) (by rw [r1.1]; exact h2) fun s2 _ => Ok.g h3 (Ok.ret rfl)
    exact this
  have := tabQ_ok (s := s) (g := 0) (el := 176) (vs := pow10V) (k := fun _ vs => Ev.gd (isTab .u64 Lib.pow10Tab vs) (tabQ 6 1 103 fun es => Ev.gd (errV es) (.ret (.bool true)))) (Q := fun v _ => v = .bool true) (by rw [pow10V_len]; exact p1) (by rw [e0]; exact p2) k0
  rw [pow10V_len] at this
  exact this
theorem types_at (i t : Nat) (h : (i = 0 ∧ t = 2) ∨ (i = 1 ∧ t = 4) ∨ (i = 2 ∧ t = 5)) : at_ ((Value.int IntKind.i64 (2 : Int)) :: ((Value.int IntKind.i64 (4 : Int)) :: ((Value.int IntKind.i64 (5 : Int)) :: []))) (Int.toNat (i : Int)) = .int .i64 (t : Int) := by
  rcases h with ⟨rfl, rfl⟩ | ⟨rfl, rfl⟩ | ⟨rfl, rfl⟩ <;> rfl
theorem law_step {Q : Value → St → Prop} (a b : Int) (ha : nul ≤ a ∧ a ≤ 9223372036854775807) (hb : nul ≤ b ∧ b ≤ 9223372036854775807) (hp : Pw s.mem s.ctr) (i t : Nat) (hit : (i = 0 ∧ t = 2) ∨ (i = 1 ∧ t = 4) ∨ (i = 2 ∧ t = 5))
    (K : ∀ s', Fresh s s' → Ok (fun f => p9_3 f a b ((i + 1 : Nat) : Int)) s' Q) : Ok (fun f => p9_3 f a b (i : Int)) s Q := by
  have ht : t = 2 ∨ t = 4 ∨ t = 5 := by omega
  have hi : i < 3 := by omega
  refine Ok.step (fun f => p9_3_eq f _ _ _) ?_
  simp only [types_at i t hit]
  refine Ok.t (decide_eq_true (by omega)) ?_
  refine Ok.t (decide_eq_true (by omega)) ?_
  refine Ok.t (by simp only [Int.toNat_natCast, Bool.and_true]; exact Nat.ble_eq_true_of_le (by omega)) ?_
  refine Ok.t rfl (Ok.t rfl ?_)
  refine Ok.seg (num_ok ⟨s.mem, s.ctr, []⟩ t a ht ha.1 ha.2 hp) ?_
  rintro v s1 ⟨rfl, f1⟩
  have f1 : Fresh s s1 := f1
  refine Ok.t rfl ?_
  refine Ok.t (decide_eq_true (by omega)) ?_
  refine Ok.t (by simp only [Int.toNat_natCast, Bool.and_true]; exact Nat.ble_eq_true_of_le (by omega)) ?_
  refine Ok.t rfl (Ok.t rfl ?_)
  refine Ok.seg (num_ok ⟨s1.mem, s1.ctr, []⟩ t b ht hb.1 hb.2 (hp.fresh f1)) ?_
  rintro v s2 ⟨rfl, f2⟩
  have f2 : Fresh s1 s2 := f2
  have f2 := f1.trans f2
  refine Ok.gdL (by simp only [freeL]; rfl) ?_
  refine Ok.t rfl ?_
  refine Ok.call (read_ok t a ht ha.1 ha.2 (hp.fresh f2)) ?_
  rintro v s3 ⟨rfl, f3⟩
  have f3 : Fresh s2 s3 := f3
  have f3 := f2.trans f3
  refine Ok.t rfl ?_
  refine Ok.callP (Ok.new rfl) ?_
  rintro v s4 ⟨rfl, e4, g4, k4⟩
  refine Ok.t rfl ?_
  simp only [blk_itP, off_itP]
  refine Ok.callP (Ok.storeRow (n := 4) (ws := valC (-(t : Int)) [.int .i64 a] [] []) sz32 g4 rfl rfl rfl) ?_
  rintro v s5 ⟨rfl, c5, g5, k5⟩
  have f5 : Fresh s s5 := f3.trans ⟨by omega, fun k hk => by rw [k5 k (.inl (by omega)), k4 k hk]⟩
  have hab : (beqB (numT t a) (numT t b)) = decide (a = b) := by
    rw [beqB_eq, decide_eq_decide]
    exact ⟨numT_inj ha hb, fun e => by rw [e]⟩
  refine Ok.f (by simp only [strOf_mk, data_mk, hab]; simp) ?_
  refine Ok.seg (Q1 := fun v s' => v = .int .i64 0 ∧ s' = ⟨s5.mem, s5.ctr, []⟩) (Ok.step (fun f => f27_eq f _) (Ok.ret ⟨rfl, rfl⟩)) ?_
  rintro v s6 ⟨rfl, rfl⟩
  refine Ok.t rfl (Ok.f rfl ?_)
  simp only [List.nil_append, Nat.zero_add]
  refine Ok.segLoad t3 (g5.cell 0 rfl) fun s7 r7 => ?_
  refine Ok.gdL (by kernel_rfl) ?_
  refine Ok.t rfl ?_
  refine Ok.t (decide_eq_true (by omega)) ?_
  refine Ok.t (by simp only [Int.toNat_natCast, Bool.and_true]; exact Nat.ble_eq_true_of_le (by omega)) ?_
  refine Ok.t rfl (Ok.t rfl ?_)
  have hneg : IntKind.wrap IntKind.i64 ((0 : Int) + (Int.neg (t : Int))) = -(t : Int) := by
    have : ∀ x : Int, Int.neg x = -x := fun _ => rfl
    rw [this, wrap_in _ (by omega) (by omega)]; omega
  have hT : intOf (List.headD (Array.toList (Value.cells (Value.int IntKind.i64 (t : Int)))) (Value.tuple ⟨[]⟩)) = (t : Int) := rfl
  simp only [hT, hneg]
  refine Ok.f (by simp [intOf]) ?_
  have g7 := g5.reads r7
  refine Ok.segLoad t28 (g7.cell 1 rfl) fun s8 r8 => ?_
  have r8 := r7.trans r8
  refine Ok.gdL (by kernel_rfl) ?_
  refine Ok.t rfl ?_
  simp only [show ∀ l : List Value, builtinA En Builtin.len (28 :: []) ((lstV (elems (lstV l))) :: []) = .ret (vInt l.length) from fun l => by kernel_rfl]
  refine Ok.seg (Q1 := fun v s' => v = vInt 1 ∧ s' = ⟨s8.mem, s8.ctr, []⟩) (Ok.ret ⟨rfl, rfl⟩) ?_
  rintro v s9 ⟨rfl, rfl⟩
  refine Ok.gdL (by kernel_rfl) ?_
  refine Ok.t rfl (Ok.f rfl ?_)
  simp only [List.nil_append]
  refine Ok.segLoad t28 ((g5.reads r8).cell 1 rfl) fun s10 r10 => ?_
  have r10 := r8.trans r10
  refine Ok.gdL (by kernel_rfl) ?_
  refine Ok.t rfl (Ok.t rfl (Ok.t rfl (Ok.t rfl ?_)))
  refine Ok.f (by simp [intOf, elems, lstV, at_, Value.cells]) ?_
  have hw : IntKind.wrap IntKind.i64 ((i : Int) + (1 : Int)) = ((i + 1 : Nat) : Int) := by rw [wrap_in _ (by omega) (by omega)]; omega
  rw [hw]
  exact K s10 (f5.trans r10.fresh)
theorem law_ok (a b : Int) (ha : nul ≤ a ∧ a ≤ 9223372036854775807) (hb : nul ≤ b ∧ b ≤ 9223372036854775807) (hp : Pw s.mem s.ctr) (he : Er s.mem s.ctr) :
    Ok (fun f => callF En (runP En f) 9 [.int .i64 a, .int .i64 b]) s (fun v _ => v = .bool true) := by
  refine Ok.step (fun f => f9_eq f a b) ?_
  refine law_step a b ha hb hp 0 2 (.inl ⟨rfl, rfl⟩) fun s1 f1 => ?_
  have p1 := hp.fresh f1
  refine law_step a b ha hb p1 1 4 (.inr (.inl ⟨rfl, rfl⟩)) fun s2 f2 => ?_
  have p2 := p1.fresh f2
  refine law_step a b ha hb p2 2 5 (.inr (.inr ⟨rfl, rfl⟩)) fun s3 f3 => ?_
  have f := f1.trans (f2.trans f3)
  refine Ok.step (fun f => p9_3_eq f _ _ _) ?_
  refine Ok.f rfl ?_
  refine Ok.call (live4_ok (hp.fresh f) (he.fresh f)) ?_
  rintro v s4 rfl
  exact Ok.t rfl (Ok.ret rfl)
end
end Go.Proofs.YtmjbmbmnnephjaaGreatDoor
