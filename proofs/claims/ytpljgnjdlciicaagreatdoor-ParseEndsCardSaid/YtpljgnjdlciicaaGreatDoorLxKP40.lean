import Derived.Test.YtpljgnjdlciicaaGreatDoorLxKP38
import Derived.Test.YtpljgnjdlciicaaGreatDoorLxKP39
import Derived.Test.YtpljgnjdlciicaaGreatDoorLxKP36
namespace Go.Proofs.YtpljgnjdlciicaaGreatDoor
open Go Go.Ev Go.Proofs
theorem fold_loop {b : Nat} {s0 : St} {x3 x4 : Nat} : ∀ (n : Nat) (l : List Value) (s : St), l.length ≤ n → l.length ≤ 20000 → (∀ x, x ∈ l → TmV x) → FI b s0 s x3 x4 → Ok (fun f => p98_1 f l x3 0 x4 0) s (fun v s' => Nd v ∧ Kq b s0.ctr s0 s') := by
  intro n
  induction n with
  | zero =>
    intro l s hl _ _ h
    obtain rfl : l = [] := List.length_eq_zero_iff.1 (by omega)
    exact fold_end h
  | succ n IH =>
    intro l s hl hle ht h
    rcases List.eq_nil_or_concat l with rfl | ⟨ys, y, rfl⟩
    · exact fold_end h
    rw [List.concat_eq_append] at *
    have hlen : (ys ++ [y]).length = ys.length + 1 := by simp
    have hy : TmV y := ht y (by simp)
    have hys : ∀ x, x ∈ ys → TmV x := fun x hx => ht x (by simp [hx])
    have hhd : hdOk 10 (ys ++ [y]) = true := hd_terms _ ht
    have hw := wlen ys y (by omega)
    obtain ⟨k, a, t, tx, tn, tsy, tvl, tss, tl, vb, rfl, u1, u2, u3⟩ := hy
    obtain ⟨⟨cs, hc, hn⟩, hres, ⟨q1, q2, q3, q4⟩, hk⟩ := h
    refine Ok.step (fun f => p98_1_eq f _ x3 0 x4 0) ?_
    simp only [hw, Int.toNat_natCast, at_last, take_init]
    refine Ok.t (decide_eq_true (by rw [hlen]; simp only [Int.ofNat_eq_natCast]; omega)) ?_
    refine Ok.t (decide_eq_true (by omega)) ?_
    refine Ok.t (by rw [hhd, Bool.and_true, Bool.and_true]; exact Nat.ble_eq_true_of_le (by omega)) ?_
    refine Ok.t rfl (Ok.t rfl ?_)
    refine Ok.callP (Ok.newK (b := b) (lo := s0.ctr) rfl (by omega)) ?_
    rintro v s1 ⟨rfl, e1, g1, m1, k1⟩
    refine Ok.t rfl ?_
    simp only [blk_itP, off_itP, Nat.zero_add]
    refine Ok.callP (Ok.storeRowK (b := b) (lo := s0.ctr) (n := 10) (ws := [.int .i64 k, .int .i64 a, .string tx, .int .i64 t, lstV tn, lstV tsy, lstV tvl, lstV tss, lstV tl, .bool vb]) (by kernel_rfl) g1 rfl rfl rfl (by omega)) ?_
    rintro v s2 ⟨rfl, c2, g2, f2, k2⟩
    have kk2 : Kq b s0.ctr s0 s2 := (hk.trans k1).trans k2
    refine Ok.t (decide_eq_true (by omega)) ?_
    refine Ok.t (by rw [hhd, Bool.true_and, Bool.and_eq_true]; exact ⟨Nat.ble_eq_true_of_le (by omega), Nat.ble_eq_true_of_le (by omega)⟩) ?_
    have hold : ∀ j, j < s.ctr → s2.mem.get j = s.mem.get j := fun j hj => by rw [f2 j (.inl (by omega)), m1 j hj]
    have hc2 : Row s2.mem x3 cs := hc.congr fun j _ hj => hold j (by rw [hn.len] at hj; omega)
    have hres2 : ∃ ds, Row s2.mem x4 ds ∧ ds.length = 9 := by
      obtain ⟨ds, h1, h2⟩ := hres
      exact ⟨ds, h1.congr fun j _ hj => hold j (by omega), h2⟩
    have hct : s2.ctr = s.ctr + 11 := by omega
    refine Ok.callP (Ok.load1 (b := s.ctr) (o := 9) (by kernel_rfl) (g2.cell 9 rfl)) ?_
    rintro v s3 ⟨rfl, m3, c3, l3⟩
    have r3 : Reads s2 s3 := ⟨m3, c3, [⟨false, s.ctr + 1 + 9, 1⟩, ⟨false, s.ctr, 1⟩], l3, rfl⟩
    refine Ok.t rfl ?_
    have close : ∀ (s4 : St) (k' : Int) (b' : List Value), Reads s2 s4 → (∀ x, x ∈ b' → Nd x) → b'.length ≤ 3 → (k' = 7 → b'.length = 3) → ∀ (a' : Int) (zs : List Value), zs.length ≤ n → zs.length ≤ 20000 → (∀ x, x ∈ zs → TmV x) →
        Ok (fun f => Ev.callP (fun _ => p98_1 f zs x3 0 x4 0) (storeT En 36 x3 0 (.agg ⟨[.int .i64 k', .int .i64 a', .string (mkStr []), .int .i64 0, .slice none 0 0, .slice none 0 0, .slice none 0 0, .slice none 0 0, xlstV b']⟩))) s4 (fun v s' => Nd v ∧ Kq b s0.ctr s0 s') := by
      intro s4 k' b' r4 hb hbl hbk a' zs z1 z2 z3
      have hc4 : Row s4.mem x3 cs := by rw [r4.1]; exact hc2
      have hN : NbC [.int .i64 k', .int .i64 a', .string (mkStr []), .int .i64 0, .slice none 0 0, .slice none 0 0, .slice none 0 0, .slice none 0 0, xlstV b'] :=
        ⟨_, _, _, _, _, _, _, _, _, _, _, _, _, _, rfl, LV.n, LV.n, LV.n, LV.n, LV.x b', hb, by omega, hbk⟩
      refine Ok.callP (Ok.storeRowK (b := b) (lo := s0.ctr) (n := 9) (by kernel_rfl) hc4 hn.len rfl hN.all q1) ?_
      rintro v s5 ⟨rfl, c5, g5, f5, k5⟩
      refine IH zs s5 z1 z2 z3 ⟨⟨_, g5, hN⟩, ?_, ⟨q1, q2, by rw [c5, r4.2.1]; omega, q4⟩, (kk2.trans (r4.kq b _)).trans k5⟩
      obtain ⟨ds, h1, h2⟩ := hres2
      exact ⟨ds, h1.congr fun j j1 hj => by rw [f5 j (by omega), r4.1], h2⟩
    have hN9 : Nd (.agg ⟨[.int .i64 k, .int .i64 a, .string tx, .int .i64 t, lstV tn, lstV tsy, lstV tvl, lstV tss, lstV tl]⟩) := .mk u1 u2 u3
    obtain ⟨k0, a0, t0, tx0, a1, a2, a3, a4, a5, w1, w2, w3, w4, w5, rfl, h1, h2, h3, h4, h5, h6, h7, h8⟩ := hn
    have hN0 : Nd (.agg ⟨[.int .i64 k0, .int .i64 a0, .string tx0, .int .i64 t0, lstV w1, lstV w2, lstV w3, lstV w4, lstV w5]⟩) := .mk h6 h7 h8
    have c9 : CellsAt s2.mem s.ctr (s.ctr + 1 + 0) [.int .i64 k, .int .i64 a, .string tx, .int .i64 t, lstV tn, lstV tsy, lstV tvl, lstV tss, lstV tl] := CellsAt.left (ys := [.bool vb]) g2.2
    refine Ok.c (fun _ => ?_) (fun _ => ?_)
    · refine Ok.callP (Ok.load1 (b := s.ctr) (o := 1) (by kernel_rfl) ((g2.cell 1 rfl).reads r3)) ?_
      rintro v s4 ⟨rfl, m4, c4, l4⟩
      have r4 := r3.trans ⟨m4, c4, [⟨false, s.ctr + 1 + 1, 1⟩, ⟨false, s.ctr, 1⟩], l4, rfl⟩
      refine Ok.t rfl ?_
      refine Ok.callP (Ok.loadA (b := s.ctr) (o := 0) (n := 9) (by kernel_rfl) (by kernel_rfl) rfl (by rw [r4.1]; exact hdr_of g2) (by rw [r4.1]; exact c9)) ?_
      rintro v s5 ⟨rfl, m5, c5, l5⟩
      have r5 := r4.trans ⟨m5, c5, [⟨false, s.ctr + 1 + 0, 9⟩, ⟨false, s.ctr, 1⟩], l5, rfl⟩
      refine Ok.t rfl ?_
      refine Ok.callP (Ok.loadA (b := x3) (o := 0) (n := 9) (by kernel_rfl) (by kernel_rfl) rfl (by rw [r5.1]; exact hdr_of hc2) (by rw [r5.1]; exact hc2.2)) ?_
      rintro v s6 ⟨rfl, m6, c6, l6⟩
      have r6 := r5.trans ⟨m6, c6, [⟨false, x3 + 1 + 0, 9⟩, ⟨false, x3, 1⟩], l6, rfl⟩
      refine Ok.t rfl ?_
      refine Ok.callP (Q1 := fun v s' => v = xlstV [.agg ⟨[.int .i64 k, .int .i64 a, .string tx, .int .i64 t, lstV tn, lstV tsy, lstV tvl, lstV tss, lstV tl]⟩, .agg ⟨[.int .i64 k0, .int .i64 a0, .string tx0, .int .i64 t0, lstV w1, lstV w2, lstV w3, lstV w4, lstV w5]⟩] ∧ s' = s6) (Ok.const fun f => (bs2 k0 a0 t0 tx0 a1 a2 a3 a4 a5 k a t tx tn tsy tvl tss tl).trans (by simp only [h1.frz, h2.frz, h3.frz, h4.frz, h5.frz])) ?_
      rintro v s7 ⟨rfl, rfl⟩
      refine Ok.g rfl ?_
      refine Ok.callP (Q1 := fun v s' => v = .agg ⟨[.int .i64 8, .int .i64 a, .string (mkStr []), .int .i64 0, .slice none 0 0, .slice none 0 0, .slice none 0 0, .slice none 0 0, xlstV [.agg ⟨[.int .i64 k, .int .i64 a, .string tx, .int .i64 t, lstV tn, lstV tsy, lstV tvl, lstV tss, lstV tl]⟩, .agg ⟨[.int .i64 k0, .int .i64 a0, .string tx0, .int .i64 t0, lstV w1, lstV w2, lstV w3, lstV w4, lstV w5]⟩]]⟩ ∧ s' = s7) (Ok.const fun f => by kernel_rfl) ?_
      rintro v s8 ⟨rfl, rfl⟩
      exact close s8 8 _ r6 (fun x hx => by simp only [List.mem_cons, List.not_mem_nil, or_false] at hx; rcases hx with rfl | rfl; exact hN9; exact hN0) (by simp) (fun h => absurd h (by decide)) a ys (by simp only [List.length_append, List.length_singleton, List.length_nil] at hl ⊢; omega) (by simp only [List.length_append, List.length_singleton, List.length_nil] at hle ⊢; omega) hys
    rcases List.eq_nil_or_concat ys with rfl | ⟨zs, z, rfl⟩
    · refine Ok.f rfl ?_
      refine Ok.callP (Ok.load1 (b := s.ctr) (o := 1) (by kernel_rfl) ((g2.cell 1 rfl).reads r3)) ?_
      rintro v s4 ⟨rfl, m4, c4, l4⟩
      have r4 := r3.trans ⟨m4, c4, [⟨false, s.ctr + 1 + 1, 1⟩, ⟨false, s.ctr, 1⟩], l4, rfl⟩
      refine Ok.t rfl ?_
      refine Ok.callP (Ok.loadA (b := s.ctr) (o := 0) (n := 9) (by kernel_rfl) (by kernel_rfl) rfl (by rw [r4.1]; exact hdr_of g2) (by rw [r4.1]; exact c9)) ?_
      rintro v s5 ⟨rfl, m5, c5, l5⟩
      have r5 := r4.trans ⟨m5, c5, [⟨false, s.ctr + 1 + 0, 9⟩, ⟨false, s.ctr, 1⟩], l5, rfl⟩
      refine Ok.t rfl ?_
      refine Ok.callP (Ok.loadA (b := x3) (o := 0) (n := 9) (by kernel_rfl) (by kernel_rfl) rfl (by rw [r5.1]; exact hdr_of hc2) (by rw [r5.1]; exact hc2.2)) ?_
      rintro v s6 ⟨rfl, m6, c6, l6⟩
      have r6 := r5.trans ⟨m6, c6, [⟨false, x3 + 1 + 0, 9⟩, ⟨false, x3, 1⟩], l6, rfl⟩
      refine Ok.t rfl ?_
      refine Ok.callP (Q1 := fun v s' => v = xlstV [.agg ⟨[.int .i64 k, .int .i64 a, .string tx, .int .i64 t, lstV tn, lstV tsy, lstV tvl, lstV tss, lstV tl]⟩, .agg ⟨[.int .i64 k0, .int .i64 a0, .string tx0, .int .i64 t0, lstV w1, lstV w2, lstV w3, lstV w4, lstV w5]⟩] ∧ s' = s6) (Ok.const fun f => (bs2 k0 a0 t0 tx0 a1 a2 a3 a4 a5 k a t tx tn tsy tvl tss tl).trans (by simp only [h1.frz, h2.frz, h3.frz, h4.frz, h5.frz])) ?_
      rintro v s7 ⟨rfl, rfl⟩
      refine Ok.g rfl ?_
      refine Ok.callP (Q1 := fun v s' => v = .agg ⟨[.int .i64 6, .int .i64 a, .string (mkStr []), .int .i64 0, .slice none 0 0, .slice none 0 0, .slice none 0 0, .slice none 0 0, xlstV [.agg ⟨[.int .i64 k, .int .i64 a, .string tx, .int .i64 t, lstV tn, lstV tsy, lstV tvl, lstV tss, lstV tl]⟩, .agg ⟨[.int .i64 k0, .int .i64 a0, .string tx0, .int .i64 t0, lstV w1, lstV w2, lstV w3, lstV w4, lstV w5]⟩]]⟩ ∧ s' = s7) (Ok.const fun f => by kernel_rfl) ?_
      rintro v s8 ⟨rfl, rfl⟩
      exact close s8 6 _ r6 (fun x hx => by simp only [List.mem_cons, List.not_mem_nil, or_false] at hx; rcases hx with rfl | rfl; exact hN9; exact hN0) (by simp) (fun h => absurd h (by decide)) a [] (by simp only [List.length_append, List.length_singleton, List.length_nil] at hl ⊢; omega) (by simp only [List.length_append, List.length_singleton, List.length_nil] at hle ⊢; omega) hys
    rw [List.concat_eq_append] at *
    have hlen2 : (zs ++ [z]).length = zs.length + 1 := by simp
    have hz : TmV z := hys z (by simp)
    have hzs : ∀ x, x ∈ zs → TmV x := fun x hx => hys x (by simp [hx])
    have hhd2 : hdOk 10 (zs ++ [z]) = true := hd_terms _ hys
    have hw2 := wlen zs z (by omega)
    obtain ⟨k2, a2z, t2, tx2, zn, zsy, zvl, zss, zl, zb, rfl, v1, v2, v3⟩ := hz
    have hNz : Nd (.agg ⟨[.int .i64 k2, .int .i64 a2z, .string tx2, .int .i64 t2, lstV zn, lstV zsy, lstV zvl, lstV zss, lstV zl]⟩) := .mk v1 v2 v3
    simp only [hw2, Int.toNat_natCast, at_last, take_init]
    refine Ok.t (decide_eq_true (by rw [hlen2]; simp only [Int.ofNat_eq_natCast]; omega)) ?_
    refine Ok.t (decide_eq_true (by omega)) ?_
    refine Ok.t (by rw [hhd2, Bool.and_true, Bool.and_true]; exact Nat.ble_eq_true_of_le (by omega)) ?_
    refine Ok.t rfl (Ok.t rfl (Ok.t rfl ?_))
    refine Ok.c (fun _ => ?_) (fun _ => ?_)
    · refine Ok.t (decide_eq_true (by omega)) ?_
      refine Ok.t (by rw [hhd2, Bool.and_true, Bool.and_true]; exact Nat.ble_eq_true_of_le (by omega)) ?_
      refine Ok.t rfl (Ok.t rfl ?_)
      refine Ok.callP (Ok.newK (b := b) (lo := s0.ctr) rfl (by rw [r3.2.1]; omega)) ?_
      rintro v sa ⟨rfl, ea, ga, ma, ka⟩
      refine Ok.t rfl ?_
      simp only [blk_itP, off_itP, Nat.zero_add]
      refine Ok.callP (Ok.storeRowK (b := b) (lo := s0.ctr) (n := 10) (ws := [.int .i64 k2, .int .i64 a2z, .string tx2, .int .i64 t2, lstV zn, lstV zsy, lstV zvl, lstV zss, lstV zl, .bool zb]) (by kernel_rfl) ga rfl rfl rfl (by rw [r3.2.1]; omega)) ?_
      rintro v sb ⟨rfl, cb, gb, fb, kb⟩
      refine Ok.t (decide_eq_true (by omega)) ?_
      refine Ok.t (by rw [hhd2, Bool.true_and, Bool.and_eq_true]; exact ⟨Nat.ble_eq_true_of_le (by omega), Nat.ble_eq_true_of_le (by omega)⟩) ?_
      have cz : CellsAt sb.mem s3.ctr (s3.ctr + 1 + 0) [.int .i64 k2, .int .i64 a2z, .string tx2, .int .i64 t2, lstV zn, lstV zsy, lstV zvl, lstV zss, lstV zl] := CellsAt.left (ys := [.bool zb]) gb.2
      have hold3 : ∀ j, j < s2.ctr → sb.mem.get j = s2.mem.get j := fun j hj => by rw [fb j (.inl (by rw [r3.2.1]; omega)), ma j (by rw [r3.2.1]; omega), r3.1]
      have gy : Row sb.mem s.ctr _ := g2.congr fun j _ hj => hold3 j (by simp only [List.length_cons, List.length_nil] at hj; omega)
      have cy : CellsAt sb.mem s.ctr (s.ctr + 1 + 0) [.int .i64 k, .int .i64 a, .string tx, .int .i64 t, lstV tn, lstV tsy, lstV tvl, lstV tss, lstV tl] := CellsAt.left (ys := [.bool vb]) gy.2
      have hcb : Row sb.mem x3 _ := hc2.congr fun j _ hj => hold3 j (by simp only [List.length_cons, List.length_nil] at hj; omega)
      refine Ok.callP (Ok.load1 (b := s3.ctr) (o := 1) (by kernel_rfl) (gb.cell 1 rfl)) ?_
      rintro v s4 ⟨rfl, m4, c4, l4⟩
      have r4 : Reads sb s4 := ⟨m4, c4, [⟨false, s3.ctr + 1 + 1, 1⟩, ⟨false, s3.ctr, 1⟩], l4, rfl⟩
      refine Ok.t rfl ?_
      refine Ok.callP (Ok.loadA (b := s.ctr) (o := 0) (n := 9) (by kernel_rfl) (by kernel_rfl) rfl (by rw [r4.1]; exact hdr_of gy) (by rw [r4.1]; exact cy)) ?_
      rintro v s5 ⟨rfl, m5, c5, l5⟩
      have r5 := r4.trans ⟨m5, c5, [⟨false, s.ctr + 1 + 0, 9⟩, ⟨false, s.ctr, 1⟩], l5, rfl⟩
      refine Ok.t rfl ?_
      refine Ok.callP (Ok.loadA (b := s3.ctr) (o := 0) (n := 9) (by kernel_rfl) (by kernel_rfl) rfl (by rw [r5.1]; exact hdr_of gb) (by rw [r5.1]; exact cz)) ?_
      rintro v s6 ⟨rfl, m6, c6, l6⟩
      have r6 := r5.trans ⟨m6, c6, [⟨false, s3.ctr + 1 + 0, 9⟩, ⟨false, s3.ctr, 1⟩], l6, rfl⟩
      refine Ok.t rfl ?_
      refine Ok.callP (Ok.loadA (b := x3) (o := 0) (n := 9) (by kernel_rfl) (by kernel_rfl) rfl (by rw [r6.1]; exact hdr_of hcb) (by rw [r6.1]; exact hcb.2)) ?_
      rintro v s7 ⟨rfl, m7, c7, l7⟩
      have r7 := r6.trans ⟨m7, c7, [⟨false, x3 + 1 + 0, 9⟩, ⟨false, x3, 1⟩], l7, rfl⟩
      refine Ok.t rfl ?_
      refine Ok.callP (Q1 := fun v s' => v = xlstV [.agg ⟨[.int .i64 k, .int .i64 a, .string tx, .int .i64 t, lstV tn, lstV tsy, lstV tvl, lstV tss, lstV tl]⟩, .agg ⟨[.int .i64 k2, .int .i64 a2z, .string tx2, .int .i64 t2, lstV zn, lstV zsy, lstV zvl, lstV zss, lstV zl]⟩, .agg ⟨[.int .i64 k0, .int .i64 a0, .string tx0, .int .i64 t0, lstV w1, lstV w2, lstV w3, lstV w4, lstV w5]⟩] ∧ s' = s7) (Ok.const fun f => (bs3 k0 a0 t0 tx0 a1 a2 a3 a4 a5 k a t tx tn tsy tvl tss tl k2 a2z t2 tx2 zn zsy zvl zss zl).trans (by simp only [h1.frz, h2.frz, h3.frz, h4.frz, h5.frz])) ?_
      rintro v s8 ⟨rfl, rfl⟩
      refine Ok.g rfl ?_
      refine Ok.callP (Q1 := fun v s' => v = .agg ⟨[.int .i64 7, .int .i64 a2z, .string (mkStr []), .int .i64 0, .slice none 0 0, .slice none 0 0, .slice none 0 0, .slice none 0 0, xlstV [.agg ⟨[.int .i64 k, .int .i64 a, .string tx, .int .i64 t, lstV tn, lstV tsy, lstV tvl, lstV tss, lstV tl]⟩, .agg ⟨[.int .i64 k2, .int .i64 a2z, .string tx2, .int .i64 t2, lstV zn, lstV zsy, lstV zvl, lstV zss, lstV zl]⟩, .agg ⟨[.int .i64 k0, .int .i64 a0, .string tx0, .int .i64 t0, lstV w1, lstV w2, lstV w3, lstV w4, lstV w5]⟩]]⟩ ∧ s' = s8) (Ok.const fun f => by kernel_rfl) ?_
      rintro v s9 ⟨rfl, rfl⟩
      have hN : NbC [.int .i64 7, .int .i64 a2z, .string (mkStr []), .int .i64 0, .slice none 0 0, .slice none 0 0, .slice none 0 0, .slice none 0 0, xlstV [.agg ⟨[.int .i64 k, .int .i64 a, .string tx, .int .i64 t, lstV tn, lstV tsy, lstV tvl, lstV tss, lstV tl]⟩, .agg ⟨[.int .i64 k2, .int .i64 a2z, .string tx2, .int .i64 t2, lstV zn, lstV zsy, lstV zvl, lstV zss, lstV zl]⟩, .agg ⟨[.int .i64 k0, .int .i64 a0, .string tx0, .int .i64 t0, lstV w1, lstV w2, lstV w3, lstV w4, lstV w5]⟩]] :=
        ⟨_, _, _, _, _, _, _, _, _, _, _, _, _, _, rfl, LV.n, LV.n, LV.n, LV.n, LV.x _, (fun x hx => by simp only [List.mem_cons, List.not_mem_nil, or_false] at hx; rcases hx with rfl | rfl | rfl; exact hN9; exact hNz; exact hN0), by simp, fun _ => rfl⟩
      have hc9 : Row s9.mem x3 [.int .i64 k0, .int .i64 a0, .string tx0, .int .i64 t0, a1, a2, a3, a4, a5] := by rw [r7.1]; exact hcb
      refine Ok.callP (Ok.storeRowK (b := b) (lo := s0.ctr) (n := 9) (by kernel_rfl) hc9 rfl rfl hN.all q1) ?_
      rintro v sz ⟨rfl, cz2, gz, fz, kz⟩
      refine IH zs sz (by simp only [List.length_append, List.length_singleton] at hl; omega) (by simp only [List.length_append, List.length_singleton] at hle; omega) hzs ⟨⟨_, gz, hN⟩, ?_, ⟨q1, q2, by rw [cz2, r7.2.1, cb, ea, r3.2.1]; omega, q4⟩, ((((kk2.trans (r3.kq b _)).trans ka).trans kb).trans (r7.kq b _)).trans kz⟩
      obtain ⟨ds, h1, h2⟩ := hres2
      exact ⟨ds, h1.congr fun j j1 hj => by rw [fz j (by omega), r7.1, hold3 j (by omega)], h2⟩
    · refine Ok.callP (Ok.load1 (b := s.ctr) (o := 1) (by kernel_rfl) ((g2.cell 1 rfl).reads r3)) ?_
      rintro v s4 ⟨rfl, m4, c4, l4⟩
      have r4 := r3.trans ⟨m4, c4, [⟨false, s.ctr + 1 + 1, 1⟩, ⟨false, s.ctr, 1⟩], l4, rfl⟩
      refine Ok.t rfl ?_
      refine Ok.callP (Ok.loadA (b := s.ctr) (o := 0) (n := 9) (by kernel_rfl) (by kernel_rfl) rfl (by rw [r4.1]; exact hdr_of g2) (by rw [r4.1]; exact c9)) ?_
      rintro v s5 ⟨rfl, m5, c5, l5⟩
      have r5 := r4.trans ⟨m5, c5, [⟨false, s.ctr + 1 + 0, 9⟩, ⟨false, s.ctr, 1⟩], l5, rfl⟩
      refine Ok.t rfl ?_
      refine Ok.callP (Ok.loadA (b := x3) (o := 0) (n := 9) (by kernel_rfl) (by kernel_rfl) rfl (by rw [r5.1]; exact hdr_of hc2) (by rw [r5.1]; exact hc2.2)) ?_
      rintro v s6 ⟨rfl, m6, c6, l6⟩
      have r6 := r5.trans ⟨m6, c6, [⟨false, x3 + 1 + 0, 9⟩, ⟨false, x3, 1⟩], l6, rfl⟩
      refine Ok.t rfl ?_
      refine Ok.callP (Q1 := fun v s' => v = xlstV [.agg ⟨[.int .i64 k, .int .i64 a, .string tx, .int .i64 t, lstV tn, lstV tsy, lstV tvl, lstV tss, lstV tl]⟩, .agg ⟨[.int .i64 k0, .int .i64 a0, .string tx0, .int .i64 t0, lstV w1, lstV w2, lstV w3, lstV w4, lstV w5]⟩] ∧ s' = s6) (Ok.const fun f => (bs2 k0 a0 t0 tx0 a1 a2 a3 a4 a5 k a t tx tn tsy tvl tss tl).trans (by simp only [h1.frz, h2.frz, h3.frz, h4.frz, h5.frz])) ?_
      rintro v s7 ⟨rfl, rfl⟩
      refine Ok.g rfl ?_
      refine Ok.callP (Q1 := fun v s' => v = .agg ⟨[.int .i64 6, .int .i64 a, .string (mkStr []), .int .i64 0, .slice none 0 0, .slice none 0 0, .slice none 0 0, .slice none 0 0, xlstV [.agg ⟨[.int .i64 k, .int .i64 a, .string tx, .int .i64 t, lstV tn, lstV tsy, lstV tvl, lstV tss, lstV tl]⟩, .agg ⟨[.int .i64 k0, .int .i64 a0, .string tx0, .int .i64 t0, lstV w1, lstV w2, lstV w3, lstV w4, lstV w5]⟩]]⟩ ∧ s' = s7) (Ok.const fun f => by kernel_rfl) ?_
      rintro v s8 ⟨rfl, rfl⟩
      exact close s8 6 _ r6 (fun x hx => by simp only [List.mem_cons, List.not_mem_nil, or_false] at hx; rcases hx with rfl | rfl; exact hN9; exact hN0) (by simp) (fun h => absurd h (by decide)) a _ (by simp only [List.length_append, List.length_singleton, List.length_nil] at hl ⊢; omega) (by simp only [List.length_append, List.length_singleton, List.length_nil] at hle ⊢; omega) hys
theorem fold_ok (b : Nat) (s : St) (hb : b + 8 ≤ s.ctr) (l : List Value) (hl : l.length ≤ 20000) (ht : ∀ x, x ∈ l → TmV x) {v : Value} (hv : Nd v) : Ok (fun f => callF En (runP En f) 98 [lstV l, v]) s (fun v s' => Nd v ∧ Kq b s.ctr s s') := by
  cases hv with
  | @mk k a t tx n sy vl ss l' h1 h2 h3 =>
    refine Ok.step (fun f => f98_eq f l k a tx t n sy vl ss l') ?_
    refine Ok.g rfl ?_
    refine Ok.callP (Ok.newK (b := b) rfl (Nat.le_refl s.ctr)) ?_
    rintro v s1 ⟨rfl, e1, g1, m1, k1⟩
    refine Ok.t rfl ?_
    refine Ok.callP (Ok.newK (b := b) (lo := s.ctr) rfl (by omega)) ?_
    rintro v s2 ⟨rfl, e2, g2, m2, k2⟩
    refine Ok.t rfl ?_
    simp only [blk_itP, off_itP]
    have g1' : Row s2.mem s.ctr _ := g1.congr fun j _ hj => m2 j (by simp only [List.length_cons, List.length_nil] at hj; omega)
    exact fold_loop l.length l s2 (Nat.le_refl _) hl ht ⟨⟨_, g1', ⟨_, _, _, _, _, _, _, _, _, _, _, _, _, _, rfl, LV.l _, LV.l _, LV.l _, LV.l _, LV.l _, h1, h2, h3⟩⟩, ⟨_, g2, rfl⟩, ⟨Nat.le_refl _, by omega, by omega, hb⟩, k1.trans k2⟩
end Go.Proofs.YtpljgnjdlciicaaGreatDoor
namespace Go.Proofs.YtpljgnjdlciicaaGreatDoor
open Go Go.Ev Go.Proofs
theorem appT136 : AppT En 136 139 10 168 := ⟨by kernel_rfl, by kernel_rfl, by kernel_rfl, by kernel_rfl, by omega⟩
def slT : List (Option TypeId) := [none, none, none, none, some 2, some 9, some 34, some 9, some 36, none]
theorem slotsT : slots En 20 139 = slT := by kernel_rfl
theorem terms_all (l : List Value) (h : ∀ x, x ∈ l → TmV x) : AllC 10 l := fun x hx => by
  obtain ⟨k, a, t, tx, n, sy, vl, ss, l', vb, rfl, _⟩ := h x hx
  exact ⟨rfl, rfl⟩
theorem frzGo_terms : ∀ (l : List Value) (k : List Value → Prog), (∀ x, x ∈ l → TmV x) → frzGo (frzL En 19) ((List.replicate l.length ()).flatMap fun _ => slT) (flatC l) k = k (flatC l)
  | [], _, _ => rfl
  | x :: l, k, h => by
    have ih := fun cs => frzGo_terms l (fun r => k (cs ++ r)) fun y hy => h y (List.mem_cons_of_mem _ hy)
    obtain ⟨k0, a, t, tx, n, sy, vl, ss, l', vb, rfl, _⟩ := h x (List.mem_cons_self ..)
    show frzGo (frzL En 19) (slT ++ (List.replicate l.length ()).flatMap fun _ => slT) (_ ++ flatC l) k = k (_ ++ flatC l)
    rw [← ih]
    rfl
theorem chunk_terms : ∀ (l : List Value), (∀ x, x ∈ l → TmV x) → chunkC false 10 l.length (flatC l) = l
  | [], _ => rfl
  | x :: l, h => by
    have ih := chunk_terms l fun y hy => h y (List.mem_cons_of_mem _ hy)
    obtain ⟨k0, a, t, tx, n, sy, vl, ss, l', vb, rfl, _⟩ := h x (List.mem_cons_self ..)
    exact congrArg (List.cons _) ih
theorem Ok.frzTerms {s : St} {Q : Value → St → Prop} {lo r n c cap : Nat} {ys : List Value} {y : Value} {p : Nat → Value → Prog} (g : Grow s.mem lo s.ctr 139 10 (flatC (ys ++ [y])) (.slice (some ⟨r, 0, none⟩) n c)) (ht : ∀ x, x ∈ ys → TmV x)
    (hk : ∀ s', s'.ctr = s.ctr → (∀ b, Kq b lo s s') → Ok (fun f => p f (lstV ys)) s' Q) : Ok (fun f => Ev.frzL En 20 139 (.slice (some ⟨r, 0, none⟩) ys.length cap) (p f)) s Q := by
  obtain ⟨m, cc, l⟩ := s
  by_cases hz : ys.length = 0
  · have h0 : ys = [] := List.length_eq_zero_iff.1 hz
    subst h0
    exact hk _ rfl (fun _ => Kq.refl _ _ _)
  · obtain ⟨h1, h2⟩ := g
    rcases h2 with ⟨e, _⟩ | ⟨r', n', sy, olds, e, a2, a3, a4, a5, a6, a7⟩
    · cases e
    · cases e
      have hfl := (terms_all ys ht).flat
      rw [flatC_app] at a7 h1
      rw [List.all_append, Bool.and_eq_true] at h1
      have hc0 : CellsAt m r (r + 1 + 0) (flatC ys) := CellsAt.left a7
      have hrd : rdCells m r (ys.length * 10) 0 = some (flatC ys) := by rw [← hfl.1]; exact hc0.rd
      obtain ⟨l', e1, e2⟩ := killLogK (lo := lo) olds (⟨false, Nat.add (Nat.add r 1) 0, ys.length * 10⟩ :: l) fun k hk => (a5 k hk).1
      simp only at a6 a4
      have hfz : St.frz ⟨m, cc, l⟩ r (ys.length * 10) 0 = some (flatC ys, ⟨(kill olds m).set r none, cc, ⟨true, r, 1⟩ :: killLog olds (⟨false, Nat.add (Nat.add r 1) 0, ys.length * 10⟩ :: l)⟩) := by
        simp only [St.frz, a6, Bool.false_or, hrd, h1.1]
      have hb : Nat.beq ys.length 0 = false := by
        cases hq : ys.length with
        | zero => exact absurd hq hz
        | succ n => rfl
      have hs : En.size 139 = some 10 := by kernel_rfl
      have h1' : isOneT En 139 = false := by kernel_rfl
      have e2' : ∀ f, Ev.frzL En (19 + 1) 139 (.slice (some ⟨r, 0, none⟩) ys.length cap) (p f) = .frz r (ys.length * 10) 0 fun vs => frzGo (frzL En 19) ((List.replicate ys.length ()).flatMap fun _ => slT) vs fun vs => p f (lstV (chunkC false 10 ys.length vs)) := by
        intro f
        unfold Ev.frzL
        simp only [hb, hs, Ev.opt, ck, slotsT, h1', Nat.mul_eq]
        rfl
      have e3 : ∀ f, Ev.frzL En 20 139 (.slice (some ⟨r, 0, none⟩) ys.length cap) (p f) = .frz r (ys.length * 10) 0 fun vs => frzGo (frzL En 19) ((List.replicate ys.length ()).flatMap fun _ => slT) vs fun vs => p f (lstV (chunkC false 10 ys.length vs)) := e2'
      simp only [e3]
      refine Ok.frzO hfz ?_
      simp only [frzGo_terms ys _ ht, chunk_terms ys ht]
      refine hk _ rfl fun b => ⟨Nat.le_refl _, fun k hk _ => ?_, ⟨true, r, 1⟩ :: (l' ++ [⟨false, Nat.add (Nat.add r 1) 0, ys.length * 10⟩]), ?_, fun a ha => ?_⟩
      · simp only
        rw [Tr.get_set, if_neg (by omega), kill_at, if_neg]
        intro hm
        have := a5 k hm
        omega
      · simp only [e1, List.cons_append, List.append_assoc, List.nil_append]
      · simp only [writesOf, List.mem_cons, writesOf_append, List.append_nil] at ha
        rcases ha with rfl | ha
        · exact .inr a3
        · exact .inr (e2 a ha)
noncomputable def body98 (f : Nat) (w n : Value) : Prog := runP En f 98 (frameTm 77 [w, n]) [.code (cB 98)] [] none
theorem f98_frz (f : Nat) (w : Value) (k a t : Int) (tx : ByteArray) (tn tsy tvl tss tl : List Value) : callF En (runP En f) 98 [w, .agg ⟨[.int .i64 k, .int .i64 a, .string tx, .int .i64 t, lstV tn, lstV tsy, lstV tvl, lstV tss, lstV tl]⟩] = frzL En 20 139 w fun w => body98 f w (.agg ⟨[.int .i64 k, .int .i64 a, .string tx, .int .i64 t, lstV tn, lstV tsy, lstV tvl, lstV tss, lstV tl]⟩) := by kernel_rfl
theorem f98_lst (f : Nat) (l : List Value) (k a t : Int) (tx : ByteArray) (tn tsy tvl tss tl : List Value) : callF En (runP En f) 98 [lstV l, .agg ⟨[.int .i64 k, .int .i64 a, .string tx, .int .i64 t, lstV tn, lstV tsy, lstV tvl, lstV tss, lstV tl]⟩] = body98 f (lstV l) (.agg ⟨[.int .i64 k, .int .i64 a, .string tx, .int .i64 t, lstV tn, lstV tsy, lstV tvl, lstV tss, lstV tl]⟩) := by kernel_rfl
theorem lenS136 (a : Option Addr) (n c : Nat) : builtinA En Builtin.len (136 :: []) (Value.slice a n c :: []) = .ret (vInt n) := by kernel_rfl
theorem slice136 {s : St} {r n k : Nat} {hd : Hdr} (hh : s.mem.get r = some (.hdr hd)) (he : hd.el = 139) (hk : k ≤ n) : Ok (fun _ => sliceA En 136 (.slice (some ⟨r, 0, none⟩) n (capOf n false)) none (some (.int .i64 (k : Int))) none) s (fun v s' => (∃ cap, v = .slice (some ⟨r, 0, none⟩) k cap) ∧ Reads s s') := by
  obtain ⟨m, c, l⟩ := s
  simp only at hh
  have hu : En.und 136 = some (.slice 139) := by kernel_rfl
  have hs : En.size 139 = some 10 := by kernel_rfl
  have hcl : capLo (capOf n false) = n := by show (2 * n + 0) / 2 = n; omega
  have hce : capEx (capOf n false) = false := by
    simp only [capEx, capOf, Nat.add_eq, Nat.mul_eq, Nat.add_zero]
    have : Nat.mod (2 * n) 2 = 0 := by show (2 * n) % 2 = 0; omega
    rw [this]; rfl
  have hil : isL (.slice (some ⟨r, 0, none⟩) n (capOf n false)) = false := rfl
  have h0 : decide (0 ≤ (k : Int)) = true := decide_eq_true (by omega)
  have hb : (Nat.ble 0 k && Nat.ble k n) = true := by rw [Bool.and_eq_true]; exact ⟨Nat.ble_eq_true_of_le (by omega), Nat.ble_eq_true_of_le hk⟩
  refine ⟨.slice (some ⟨r, 0 + 0 * 10, none⟩) (k - 0) (capOf (n - 0) false), ⟨m, c, ⟨false, r, 1⟩ :: l⟩, ⟨⟨capOf n false, by simp⟩, rfl, rfl, [⟨false, r, 1⟩], rfl, rfl⟩, 0, fun f _ => ?_⟩
  simp only [sliceA, natOrP, natP, hil, hu, hs, Ev.opt, hcl, hce, gd, h0, hb, Int.toNat_natCast, Prog.run, St.hd, hh, he, Nat.beq_refl]
section
variable {s s0 : St} {b c4 c8 : Nat} {str : ByteArray} {ts : List Tok} {en i err : Int}
theorem expr_fold {lo : Nat} {x5 y : Value} {ys : List Value} (p : PI s b str ts en i err) (k : Kq b s0.ctr s0 s) (h4 : ∃ cs, Row s.mem c4 cs ∧ cs.length = 9) (hc4 : b + 8 ≤ s0.ctr ∧ s0.ctr ≤ c4 ∧ c4 + 10 ≤ lo ∧ lo ≤ s.ctr)
    (g : Grow s.mem lo s.ctr 139 10 (flatC (ys ++ [y])) x5) (ht : ∀ x, x ∈ ys ++ [y] → TmV x) (hl : ys.length ≤ 20000) (h8 : ∀ cs, y = .agg ⟨cs⟩ → Row s.mem c8 cs) :
    Ok (fun f => (Prog.seg (builtinA En Builtin.len (136 :: []) (x5 :: [])) fun v112 s113 _ => (cnd (Prog.seg (sliceA En 136 x5 Option.none (Option.some (Value.int IntKind.i64 (IntKind.wrap IntKind.i64 ((intOf v112) + (-1 : Int))))) Option.none) fun v114 s115 _ => (gdL 15 (writesOf s115) s115 [⟨2, writesOf s113, s113⟩] (cnd (Prog.seg (loadT En 36 c8 0) fun v116 s117 _ => (gdL 32 (writesOf s117) s117 [⟨4, writesOf s115, s115⟩, ⟨2, writesOf s113, s113⟩] (cnd (Prog.seg (callF En (runP En f) 98 [(Value.slice (Option.some (Addr.mk (sBlk v114) (sOff v114) Option.none)) (sLen v114) (sCap v114)), (Value.agg ⟨((Value.int IntKind.i64 (intOf (at_ (aggOf v116) 0))) :: ((Value.int IntKind.i64 (intOf (at_ (aggOf v116) 1))) :: ((Value.string (strOf (at_ (aggOf v116) 2))) :: ((Value.int IntKind.i64 (intOf (at_ (aggOf v116) 3))) :: ((lstV (elems (at_ (aggOf v116) 4))) :: ((lstV (elems (at_ (aggOf v116) 5))) :: ((lstV (elems (at_ (aggOf v116) 6))) :: ((lstV (elems (at_ (aggOf v116) 7))) :: ((lstV (elems (at_ (aggOf v116) 8))) :: [])))))))))⟩)]) fun v118 s119 _ => (gdL 127 (writesOf s119) s119 [⟨6, writesOf s117, s117⟩, ⟨4, writesOf s115, s115⟩, ⟨2, writesOf s113, s113⟩] (cnd (Prog.seg (storeT En 36 c4 0 (Value.agg ⟨((Value.int IntKind.i64 (intOf (at_ (aggOf v118) 0))) :: ((Value.int IntKind.i64 (intOf (at_ (aggOf v118) 1))) :: ((Value.string (strOf (at_ (aggOf v118) 2))) :: ((Value.int IntKind.i64 (intOf (at_ (aggOf v118) 3))) :: ((lstV (elems (at_ (aggOf v118) 4))) :: ((lstV (elems (at_ (aggOf v118) 5))) :: ((lstV (elems (at_ (aggOf v118) 6))) :: ((lstV (elems (at_ (aggOf v118) 7))) :: ((lstV (elems (at_ (aggOf v118) 8))) :: [])))))))))⟩)) fun v120 s121 _ => (gdL 255 (writesOf s121) s121 [⟨7, writesOf s119, s119⟩, ⟨6, writesOf s117, s117⟩, ⟨4, writesOf s115, s115⟩, ⟨2, writesOf s113, s113⟩] (Prog.call (loadT En 36 c4 0) fun v122 => (frzT En 36 v122 fun v123 => (Prog.ret v123))))) Prog.fail ((isAggV v118) && (okKs ((Kd.int IntKind.i64) :: ((Kd.int IntKind.i64) :: (Kd.str :: ((Kd.int IntKind.i64) :: (Kd.lst :: (Kd.lst :: (Kd.lst :: (Kd.lst :: (Kd.lst :: []))))))))) (aggOf v118)))))) Prog.fail ((isAggV v116) && (okKs ((Kd.int IntKind.i64) :: ((Kd.int IntKind.i64) :: (Kd.str :: ((Kd.int IntKind.i64) :: (Kd.lst :: (Kd.lst :: (Kd.lst :: (Kd.lst :: (Kd.lst :: []))))))))) (aggOf v116)))))) Prog.fail (isSl v114)))) Prog.fail (okK (Kd.int IntKind.i64) v112)))) s (fun v s' => Nd v ∧ PI s' b str ts en i err ∧ Kq b s0.ctr s0 s') := by
  have hb8 := p.b8
  have hpc := p.ctr
  obtain ⟨kk, a, t, tx, nn, sy, vl, ss, l', vb, rfl, hn1, hn2, hn3⟩ := ht y (by simp)
  have ht' : ∀ x, x ∈ ys → TmV x := fun x hx => ht x (by simp [hx])
  obtain ⟨_, ⟨_, e⟩ | ⟨r, n', sy', olds, rfl, a2, a3, a4, a5, a6, a7⟩⟩ := id g
  · have := (terms_all _ ht).flat.1
    rw [e] at this
    simp at this
  have hn' : n' = ys.length + 1 := by
    have := (terms_all _ ht).flat.1
    rw [a2] at this
    simp only [List.length_append, List.length_cons, List.length_nil] at this
    omega
  subst hn'
  simp only [lenS136]
  refine Ok.segRet fun s1 r1 => ?_
  refine Ok.t rfl ?_
  have hw : IntKind.i64.wrap (intOf (vInt ((ys.length + 1 : Nat) : Int)) + (-1)) = (ys.length : Int) := by
    have : intOf (vInt ((ys.length + 1 : Nat) : Int)) = (ys.length : Int) + 1 := rfl
    rw [this, wrap_in _ (by omega) (by omega)]
    omega
  simp only [hw]
  have c1 : s1.ctr = s.ctr := r1.2.1
  refine segReads (R := fun v => ∃ cap, v = .slice (some ⟨r, 0, none⟩) ys.length cap) (slice136 (s := ⟨s1.mem, s1.ctr, []⟩) (hd := ⟨(flatC (ys ++ [.agg ⟨[.int .i64 kk, .int .i64 a, .string tx, .int .i64 t, lstV nn, lstV sy, lstV vl, lstV ss, lstV l', .bool vb]⟩])).length, 139, false, false, true, 0, sy', false, olds⟩) (show s1.mem.get r = _ by rw [r1.1]; exact a6) rfl (by omega)) ?_
  rintro _ s2 lg2 ⟨cap, rfl⟩ r2 w2
  have r2 := r1.trans r2
  refine Ok.gdL (by kernel_rfl) (Ok.t rfl ?_)
  have h8' : Row s2.mem c8 ([.int .i64 kk, .int .i64 a, .string tx, .int .i64 t, lstV nn, lstV sy, lstV vl, lstV ss, lstV l'] ++ [.bool vb]) := by rw [r2.1]; exact h8 _ rfl
  refine Ok.segLoadA (n := 9) (vs := [.int .i64 kk, .int .i64 a, .string tx, .int .i64 t, lstV nn, lstV sy, lstV vl, lstV ss, lstV l']) (by kernel_rfl) (by kernel_rfl) rfl (hdr_of h8') (CellsAt.left h8'.2) fun s3 r3 => ?_
  have r3 := r2.trans r3
  refine Ok.gdL (freeL_reads _ _ rfl _ fun d hd => by simp only [List.mem_cons, List.not_mem_nil, or_false] at hd; rcases hd with rfl | rfl; exact w2; rfl) (Ok.t rfl ?_)
  have c3 : s3.ctr = s.ctr := r3.2.1
  have g3 : Grow s3.mem lo s3.ctr 139 10 (flatC (ys ++ [.agg ⟨[.int .i64 kk, .int .i64 a, .string tx, .int .i64 t, lstV nn, lstV sy, lstV vl, lstV ss, lstV l', .bool vb]⟩])) (.slice (some ⟨r, 0, none⟩) (ys.length + 1) (capOf (ys.length + 1) false)) := g.congr (by omega) fun j _ _ => by rw [r3.1]
  have p3 : PI s3 b str ts en i err := p.reads r3
  refine Ok.segK (b := b) (lo := lo) (R := fun v s' => Nd v ∧ PI s' b str ts en i err ∧ ∃ cs, Row s'.mem c4 cs ∧ cs.length = 9) (s := s3) ?_ ?_
  · refine Ok.congrP (fun f => f98_frz f (.slice (some ⟨r, 0, none⟩) ys.length cap) kk a t tx nn sy vl ss l') ?_
    refine Ok.frzTerms (s := ⟨s3.mem, s3.ctr, []⟩) (lo := lo) (r := r) (cap := cap) g3 ht' fun s4 e4 k4 => ?_
    refine Ok.congrP (fun f => (f98_lst f ys kk a t tx nn sy vl ss l').symm) ?_
    simp only at e4
    have p4 : PI s4 b str ts en i err := p3.mem (by omega) fun j hj => Kq.low k4 j (by omega)
    refine Ok.mono ((fold_ok b s4 (by omega) ys hl ht' (.mk hn1 hn2 hn3)).and (fold_ok 0 s4 (by omega) ys hl ht' (.mk hn1 hn2 hn3))) ?_
    rintro v s5 ⟨⟨hv, k5⟩, _, k5'⟩
    refine ⟨⟨hv, ?_, ?_⟩, (k4 b).trans (k5.weaken (by omega))⟩
    · refine p4.mem k5.ctr fun j hj => ?_
      by_cases hjb : j < b
      · exact k5.mem j (by omega) (.inl hjb)
      · exact k5'.mem j (by omega) (.inr (by omega))
    · obtain ⟨cs, q1, q2⟩ := h4
      refine ⟨cs, q1.congr fun j j1 j2 => ?_, q2⟩
      rw [q2] at j2
      rw [k5'.mem j (by omega) (.inr (by omega)), Kq.low k4 j (by omega), r3.1]
  · rintro v m6 c6 lg6 ⟨hv, p6, h6⟩ k6 w6
    refine Ok.gdL (by kernel_rfl) ?_
    cases hv with
    | @mk k2 a2' t2 tx2 n2 sy2 vl2 ss2 l2 b1 b2 b3 =>
      refine Ok.t rfl ?_
      obtain ⟨cs, q1, q2⟩ := h6
      refine Ok.segK (b := b) (lo := s0.ctr) (s := ⟨m6, c6, lg6 ++ s3.log⟩) (R := fun _ s' => Row s'.mem c4 [.int .i64 k2, .int .i64 a2', .string tx2, .int .i64 t2, lstV n2, lstV sy2, lstV vl2, lstV ss2, lstV l2] ∧ PI s' b str ts en i err) (Ok.mono (Ok.storeRowK (s := ⟨m6, c6, []⟩) (b := b) (lo := s0.ctr) (n := 9) (ws := [.int .i64 k2, .int .i64 a2', .string tx2, .int .i64 t2, lstV n2, lstV sy2, lstV vl2, lstV ss2, lstV l2]) (by kernel_rfl) q1 q2 rfl rfl (by omega)) ?_) ?_
      · rintro w s7 ⟨_, e7, g7, f7, k7⟩
        refine ⟨⟨g7, ?_⟩, k7⟩
        exact PI.mem (s := ⟨m6, c6, []⟩) p6 (by simp only at e7 ⊢; omega) fun j hj => f7 j (by omega)
      · rintro w m8 c8' lg8 ⟨g8, p8⟩ k8 w8
        refine Ok.gdL (by kernel_rfl) ?_
        refine Ok.mono (ret36 (s := ⟨m8, c8', lg8 ++ (lg6 ++ s3.log)⟩) g8 ⟨_, _, _, _, _, _, _, _, _, _, _, _, _, _, rfl, LV.l _, LV.l _, LV.l _, LV.l _, LV.l _, b1, b2, b3⟩) ?_
        rintro v s9 ⟨hv, r9⟩
        exact ⟨hv, PI.reads (s := ⟨m8, c8', lg8 ++ (lg6 ++ s3.log)⟩) p8 r9, ((((k.trans (r3.kq b _)).trans (k6.weaken (by omega))).trans k8)).trans (r9.kq b _)⟩
end
end Go.Proofs.YtpljgnjdlciicaaGreatDoor
namespace Go.Proofs.YtpljgnjdlciicaaGreatDoor
open Go Go.Ev Go.Proofs
section
variable {s s0 : St} {b c4 : Nat} {str : ByteArray} {ts : List Tok} {en i i0 err : Int} {x5 : Value} {l : List Value}
theorem callP_ret (k : Value → Prog) (v : Value) : Ev.callP k (.ret v) = k v := rfl
structure EI (b : Nat) (str : ByteArray) (ts : List Tok) (en : Int) (s0 : St) (i0 : Int) (s : St) (c4 : Nat) (i err : Int) (v : Value) (l : List Value) : Prop where
  pi : PI s b str ts en i err
  k : Kq b s0.ctr s0 s
  r4 : ∃ cs, Row s.mem c4 cs ∧ cs.length = 9
  c : b + 8 ≤ s0.ctr ∧ s0.ctr ≤ c4 ∧ c4 + 10 ≤ s.ctr
  g : Grow s.mem (c4 + 10) s.ctr 139 10 (flatC l) v
  t : ∀ x, x ∈ l → TmV x
  le : i0 ≤ i
  few : l.length ≤ 17000 ∧ (err = 0 → (l.length : Int) ≤ i)
theorem EI.go {s' : St} {i' err' : Int} (h : EI b str ts en s0 i0 s c4 i err x5 l) (p : PI s' b str ts en i' err') (k : Kq b s.ctr s s') (hi : i ≤ i') (he : err' = 0 → err = 0) : EI b str ts en s0 i0 s' c4 i' err' x5 l := by
  obtain ⟨h1, h2, ⟨cs, h3, h4⟩, ⟨q1, q2, q3⟩, h6, h7, h8, h9, hA⟩ := h
  have := k.ctr
  exact ⟨p, h2.trans (k.weaken (by omega)), ⟨cs, h3.congr fun j j1 j2 => k.mem j (by omega) (.inr (by omega)), h4⟩, ⟨q1, q2, by omega⟩, h6.congr k.ctr fun j j1 j2 => k.mem j j2 (.inr (by omega)), h7, by omega, h9, fun e => by have := hA (he e); omega⟩
theorem EI.reads {s' : St} (h : EI b str ts en s0 i0 s c4 i err x5 l) (r : Reads s s') : EI b str ts en s0 i0 s' c4 i err x5 l := h.go (h.pi.reads r) (r.kq b _) (Int.le_refl _) id
theorem EI.app {x : Value} (h : EI b str ts en s0 i0 s c4 i err x5 l) (hx : TmV x) (hl : l.length ≤ 16384) (he : err = 0 → (l.length : Int) + 1 ≤ i) {Q : Value → St → Prop} {k : Nat → Value → Prog}
    (hk : ∀ w s', EI b str ts en s0 i0 s' c4 i err w (l ++ [x]) → Ok (fun f => k f w) s' Q) : Ok (fun f => callP (k f) (builtinA En Builtin.append (136 :: (136 :: [])) (x5 :: (xlstV (x :: []) :: [])))) s Q := by
  obtain ⟨h1, h2, ⟨cs, h3, h4⟩, ⟨q1, q2, q3⟩, h6, h7, h8, h9, hA⟩ := h
  have hfl := (terms_all l h7).flat.1
  have hxx := terms_all [x] (fun y hy => by simp only [List.mem_singleton] at hy; subst hy; exact hx) x (by simp)
  refine Ok.callP (Ok.and (Ok.appK b appT136 h6 hxx.1 hxx.2 q3 (by rw [hfl]; omega)) (Ok.app appT136 h6 hxx.1 hxx.2 q3 (by rw [hfl]; omega))) ?_
  rintro w s1 ⟨⟨g, kk⟩, _, _, low⟩
  have hf : flatC (l ++ [x]) = flatC l ++ cellsL x := by rw [flatC_app]; simp [flatC]
  have := kk.ctr
  refine hk w s1 ⟨h1.mem kk.ctr fun j hj => low j (by omega), h2.trans (kk.weaken (by omega)), ⟨cs, h3.congr fun j j1 j2 => low j (by omega), h4⟩, ⟨q1, q2, by omega⟩, by rw [hf]; exact g, fun z hz => ?_, h8, by simp; omega, fun e => by have := he e; simp; omega⟩
  rcases List.mem_append.1 hz with hz | hz
  · exact h7 z hz
  · simp only [List.mem_singleton] at hz
    subst hz
    exact hx
def ExprQ (b : Nat) (str : ByteArray) (ts : List Tok) (en i0 : Int) (s0 : St) (v : Value) (s' : St) : Prop := Nd v ∧ (∃ i' err', PI s' b str ts en i' err' ∧ i0 ≤ i') ∧ Kq b s0.ctr s0 s'
set_option maxRecDepth 8000 in
theorem expr_end (cx : Cx str ts en) (x1 : Bool) (h : EI b str ts en s0 i0 s c4 i err x5 l) (hn : err = 0 → l ≠ []) : Ok (fun f => p44_11 f b x1 c4 0 x5) s (ExprQ b str ts en i0 s0) := by
  refine Ok.step (fun f => p44_11_eq f b x1 c4 0 x5) ?_
  refine Ok.call (isound_ok h.pi) ?_
  rintro v s1 ⟨rfl, r1⟩
  have h := h.reads r1
  clear r1
  have nil : ∀ {s2 : St} {err2 : Int}, EI b str ts en s0 i0 s2 c4 i err2 x5 l → Ok (fun f => (gd Bool.true (callP (fun v92 => (Prog.call (loadT En 36 c4 0) fun v93 => (frzT En 36 v93 fun v94 => (Prog.ret v94)))) (storeT En 36 c4 0 (Value.agg ⟨((Value.int IntKind.i64 (0 : Int)) :: ((Value.int IntKind.i64 (0 : Int)) :: ((Value.string (mkStr [])) :: ((Value.int IntKind.i64 (0 : Int)) :: ((Value.slice Option.none 0 0) :: ((Value.slice Option.none 0 0) :: ((Value.slice Option.none 0 0) :: ((Value.slice Option.none 0 0) :: ((Value.slice Option.none 0 0) :: [])))))))))⟩))))) s2 (ExprQ b str ts en i0 s0) := by
    intro s2 err2 h
    refine Ok.g rfl ?_
    refine Ok.mono (ret_set (lo := s0.ctr) h.r4 NbC.nil h.pi h.c.2.1 (by have := h.c; omega)) ?_
    rintro v s3 ⟨hv, p3, k3⟩
    exact ⟨hv, ⟨_, _, p3, h.le⟩, h.k.trans k3⟩
  refine Ok.t rfl ?_
  refine Ok.c (fun _ => nil h) (fun he => ?_)
  have he : err = 0 := by
    simp only [boolOf, Bool.not_eq_false'] at he
    exact of_decide_eq_true he
  have hl := hn he
  subst he
  obtain ⟨ys, y, rfl⟩ : ∃ ys y, l = ys ++ [y] := ⟨l.dropLast, l.getLast hl, (List.dropLast_concat_getLast hl).symm⟩
  obtain ⟨kk, a, t, tx, nn, sy, vl, ss, l', vb, rfl, hn1, hn2, hn3⟩ := h.t y (by simp)
  obtain ⟨_, ⟨_, e⟩ | ⟨r, n', sy', olds, rfl, a2, a3, a4, a5, a6, a7⟩⟩ := id h.g
  · have := (terms_all _ h.t).flat.1
    rw [e] at this
    simp at this
  have hfl := (terms_all ys fun x hx => h.t x (by simp [hx])).flat.1
  have hn' : n' = ys.length + 1 := by
    have := (terms_all _ h.t).flat.1
    rw [a2] at this
    simp only [List.length_append, List.length_cons, List.length_nil] at this
    omega
  have hfew := h.few.1
  simp only [List.length_append, List.length_cons, List.length_nil] at hfew
  subst hn'
  refine Ok.t rfl ?_
  simp only [lenS136, callP_ret]
  have hw : IntKind.i64.wrap (intOf (vInt ((ys.length + 1 : Nat) : Int)) + (-1)) = (ys.length : Int) := by
    have : intOf (vInt ((ys.length + 1 : Nat) : Int)) = (ys.length : Int) + 1 := rfl
    rw [this, wrap_in _ (by omega) (by omega)]
    omega
  simp only [hw]
  refine Ok.t rfl (Ok.t (decide_eq_true (by omega)) (Ok.t ?_ ?_))
  · simp only [Int.toNat_natCast, Bool.and_true]
    exact Nat.ble_eq_true_of_le (Nat.le_refl _)
  have hR : CellsAt s1.mem r (r + 1 + ys.length * 10) [.int .i64 kk, .int .i64 a, .string tx, .int .i64 t, lstV nn, lstV sy, lstV vl, lstV ss, lstV l', .bool vb] := by
    rw [flatC_app] at a7
    have := CellsAt.right a7
    rw [hfl] at this
    exact this
  refine Ok.callP (Ok.loadA (t := 139) (b := r) (o := 0 + ys.length * 10) (n := 10) (vs := [.int .i64 kk, .int .i64 a, .string tx, .int .i64 t, lstV nn, lstV sy, lstV vl, lstV ss, lstV l', .bool vb]) (by kernel_rfl) (by kernel_rfl) rfl ⟨_, a6⟩ (by rw [Nat.zero_add]; exact hR)) ?_
  rintro v s2 ⟨rfl, m2, c2, lg2⟩
  have r2 : Reads s1 s2 := ⟨m2, c2, [_, _], lg2, rfl⟩
  have h := h.reads r2
  clear a6 a7 hR
  refine Ok.t rfl ?_
  refine Ok.callP (Ok.newK (b := b) (lo := s2.ctr) rfl (Nat.le_refl _)) ?_
  rintro v s3 ⟨rfl, e3, g3, m3, k3⟩
  have h3 := h.go (h.pi.mem (by omega) fun j hj => m3 j (by have := h.pi.ctr; omega)) k3 (Int.le_refl _) id
  refine Ok.t rfl ?_
  simp only [blk_itP, off_itP]
  refine Ok.callP (Ok.storeRowK (b := b) (lo := s2.ctr) (n := 10) (ws := [.int .i64 kk, .int .i64 a, .string tx, .int .i64 t, lstV nn, lstV sy, lstV vl, lstV ss, lstV l', .bool vb]) (by kernel_rfl) g3 rfl rfl rfl (Nat.le_refl _)) ?_
  rintro v s4 ⟨rfl, e4, g4, f4, k4⟩
  have k34 := k3.trans k4
  have h4 := h.go (h3.pi.mem (by omega) fun j hj => f4 j (by have := h.pi.ctr; omega)) k34 (Int.le_refl _) id
  refine Ok.callP (Ok.load1 (b := s2.ctr) (o := 9) (by kernel_rfl) (g4.cell 9 rfl)) ?_
  rintro v s5 ⟨rfl, m5, c5, l5⟩
  have r5 : Reads s4 s5 := ⟨m5, c5, [_, _], l5, rfl⟩
  have h5 := h4.reads r5
  have g5 := g4
  rw [← m5] at g5
  refine Ok.t rfl ?_
  have fold : ∀ {s6 : St}, Reads s5 s6 → Ok _ s6 (ExprQ b str ts en i0 s0) := fun {s6} r6 =>
    Ok.mono (expr_fold (c4 := c4) (c8 := s2.ctr) (h5.pi.reads r6) (h5.reads r6).k (h5.reads r6).r4 (lo := c4 + 10) ⟨h5.c.1, h5.c.2.1, Nat.le_refl _, (h5.reads r6).c.2.2⟩ (h5.reads r6).g h5.t (by omega) (fun cs e => by cases e; rw [r6.1]; exact g5)) fun v s' q => ⟨q.1, ⟨_, _, q.2.1, h5.le⟩, q.2.2⟩
  have bad : ∀ {s6 : St}, Reads s5 s6 → Ok _ s6 (ExprQ b str ts en i0 s0) := fun {s6} r6 =>
    Ok.call (ihere_ok (h5.reads r6).pi) (k := fun f v90 => (cnd (Prog.call (callF En (runP En f) 40 [(Value.pointer (Option.some (Addr.mk b 0 Option.none))), (Value.int IntKind.i64 (150 : Int)), (Value.int IntKind.i64 (intOf v90))]) fun v91 => (cnd (gd Bool.true (callP (fun v92 => (Prog.call (loadT En 36 c4 0) fun v93 => (frzT En 36 v93 fun v94 => (Prog.ret v94)))) (storeT En 36 c4 0 (Value.agg ⟨((Value.int IntKind.i64 (0 : Int)) :: ((Value.int IntKind.i64 (0 : Int)) :: ((Value.string (mkStr [])) :: ((Value.int IntKind.i64 (0 : Int)) :: ((Value.slice Option.none 0 0) :: ((Value.slice Option.none 0 0) :: ((Value.slice Option.none 0 0) :: ((Value.slice Option.none 0 0) :: ((Value.slice Option.none 0 0) :: [])))))))))⟩)))) Prog.fail ((isTupV v91) && (okNs [] (tupOf v91))))) Prog.fail (okK (Kd.int IntKind.i64) v90))) (by
      rintro v s7 ⟨rfl, r7⟩
      have r7 := r6.trans r7
      have h7 := h5.reads r7
      refine Ok.t rfl ?_
      refine Ok.call (Ok.and (ifail_ok h7.pi 150 _ (by decide) (cx.here i) s7.ctr) (ifail_ok h7.pi 150 _ (by decide) (cx.here i) 0)) ?_
      rintro v s8 ⟨⟨rfl, ⟨err', p8, he⟩, k8⟩, _⟩
      refine Ok.t rfl ?_
      exact nil (h7.go p8 k8 (Int.le_refl _) fun e => absurd e he))
  refine Ok.c (fun _ => ?_) (fun _ => ?_)
  · refine Ok.t rfl (Ok.c (fun _ => ?_) (fun _ => Ok.c (fun _ => ?_) (fun _ => ?_)))
    · exact bad ⟨rfl, rfl, [], rfl, rfl⟩
    · exact bad ⟨rfl, rfl, [], rfl, rfl⟩
    · exact fold ⟨rfl, rfl, [], rfl, rfl⟩
  · exact fold ⟨rfl, rfl, [], rfl, rfl⟩
end
end Go.Proofs.YtpljgnjdlciicaaGreatDoor
namespace Go.Proofs.YtpljgnjdlciicaaGreatDoor
open Go Go.Ev Go.Proofs
section
variable {s0 : St} {b c4 : Nat} {str : ByteArray} {ts : List Tok} {en i0 : Int}
theorem expr_loop {n : Int} (cx : Cx str ts en) (hx : ExprOK b str ts en n) (x1 : Bool) : ∀ (m : Nat) (s : St) (i err : Int) (x5 : Value) (l : List Value), ts.length - i < m → EI b str ts en s0 i0 s c4 i err x5 l →
    (err = 0 → ts.length - (i + 1) ≤ n) → (err = 0 → l = [] → overV ts i = false) → Ok (fun f => p44_4 f b x1 c4 0 x5) s (ExprQ b str ts en i0 s0) := by
  intro m
  induction m with
  | zero => intro s i err x5 l hm h; have := h.pi.low; omega
  | succ m ih =>
    intro s i err x5 l hm h hn h0
    have hlow := h.pi.low
    have hcx := cx.few
    refine Ok.step (fun f => p44_4_eq f b x1 c4 0 x5) ?_
    refine Ok.call (isound_ok h.pi) ?_
    rintro v s1 ⟨rfl, r1⟩
    have h := h.reads r1
    clear r1
    refine Ok.t rfl ?_
    refine Ok.c (fun he => ?_) (fun he => expr_end cx x1 h fun e => absurd e (by have he : decide (err = 0) = false := he; exact of_decide_eq_false he))
    have he : err = 0 := of_decide_eq_true he
    subst he
    refine Ok.call (overE_ok cx h.pi) ?_
    rintro v s2 ⟨rfl, r2⟩
    have h := h.reads r2
    clear r2
    refine Ok.t rfl ?_
    refine Ok.c (fun ho => ?_) (fun ho => expr_end cx x1 h fun _ e => by rw [show overV ts i = true from by simpa [boolOf] using ho] at h0; exact absurd (h0 rfl e) (by decide))
    have ho : overV ts i = false := by simpa [boolOf] using ho
    have hi := overV_lt ho
    have hn := hn rfl
    have hfew := h.few.2 rfl
    have term : ∀ {s2 : St}, EI b str ts en s0 i0 s2 c4 i 0 x5 l → Ok (fun f => (Prog.call (callF En (runP En f) 97 [(Value.pointer (Option.some (Addr.mk b 0 Option.none)))]) fun v75 => (cnd (callP (fun v76 => (p44_4 f b x1 c4 0 v76)) (builtinA En Builtin.append (136 :: (136 :: [])) (x5 :: ((xlstV ((Value.agg ⟨((Value.int IntKind.i64 (intOf (at_ (aggOf v75) 0))) :: ((Value.int IntKind.i64 (intOf (at_ (aggOf v75) 1))) :: ((Value.string (strOf (at_ (aggOf v75) 2))) :: ((Value.int IntKind.i64 (intOf (at_ (aggOf v75) 3))) :: ((lstV (elems (at_ (aggOf v75) 4))) :: ((lstV (elems (at_ (aggOf v75) 5))) :: ((lstV (elems (at_ (aggOf v75) 6))) :: ((lstV (elems (at_ (aggOf v75) 7))) :: ((lstV (elems (at_ (aggOf v75) 8))) :: ((Value.bool (boolOf (at_ (aggOf v75) 9))) :: []))))))))))⟩) :: [])) :: [])))) Prog.fail ((isAggV v75) && (okKs ((Kd.int IntKind.i64) :: ((Kd.int IntKind.i64) :: (Kd.str :: ((Kd.int IntKind.i64) :: (Kd.lst :: (Kd.lst :: (Kd.lst :: (Kd.lst :: (Kd.lst :: (Kd.bool :: [])))))))))) (aggOf v75)))))) s2 (ExprQ b str ts en i0 s0) := by
      intro s2 h
      refine Ok.call (term_ok cx (list_ok cx hx) (fun s p hi => table_ok cx hx p hi hn) h.pi hn) ?_
      rintro v s3 ⟨hv, ⟨i', err', p3, hi1, hi2⟩, k3⟩
      have h3 := h.go p3 k3 hi1 fun _ => rfl
      have hv0 := hv
      obtain ⟨kk, a, t, tx, nn, sy, vl, ss, l', vb, rfl, _⟩ := hv
      refine Ok.t rfl ?_
      have hl3 := p3.low
      refine EI.app h3 hv0 (by omega) (fun e => by have := hi2 e; omega) fun w s4 h4 => ?_
      by_cases e : err' = 0
      · have := hi2 e
        exact ih _ _ _ _ _ (by omega) h4 (fun _ => by omega) (fun _ e => by simp at e)
      · refine Ok.step (fun f => p44_4_eq f b x1 c4 0 w) ?_
        refine Ok.call (isound_ok h4.pi) ?_
        rintro v s5 ⟨rfl, r5⟩
        refine Ok.t rfl ?_
        refine Ok.f (decide_eq_false e) (expr_end cx x1 (h4.reads r5) fun e' => absurd e' e)
    refine Ok.call (name_ok cx h.pi) ?_
    rintro v s3 ⟨⟨q, rfl, _⟩, r3⟩
    have h := h.reads r3
    clear r3
    refine Ok.t rfl (Ok.c (fun _ => ?_) (fun _ => term h))
    refine Ok.call (iahead_ok cx h.pi 1 (by omega) _) ?_
    rintro v s4 ⟨⟨q2, rfl, hq2⟩, r4⟩
    have h := h.reads r4
    clear r4
    refine Ok.t rfl (Ok.c (fun hq => ?_) (fun _ => term h))
    have hi2 := hq2 hq
    refine Ok.call (ihere_ok h.pi) ?_
    rintro v s5 ⟨rfl, r5⟩
    have h := h.reads r5
    clear r5
    refine Ok.t rfl ?_
    have hlt : i.toNat < ts.length := by omega
    refine Ok.call (next_ok (lo := s5.ctr) cx h.pi (List.getElem?_eq_getElem hlt) (Nat.le_refl _)) ?_
    rintro v s6 ⟨rfl, p6, k6⟩
    have h := h.go p6 k6 (by omega) id
    refine Ok.t rfl ?_
    refine Ok.callP (Ok.load1 (b := b) (o := 2) (by kernel_rfl) h.pi.c2) ?_
    rintro v s7 ⟨rfl, m7, c7, l7⟩
    have h := h.reads ⟨m7, c7, [_, _], l7, rfl⟩
    refine Ok.t rfl ?_
    simp only [intOf, wrap1 (show 0 ≤ i + 1 ∧ i + 1 ≤ 1000000 by omega)]
    refine Ok.callP (PI.inc h.pi (by omega)) ?_
    rintro v s8 ⟨rfl, p8, c8, k8⟩
    have h := h.go p8 (k8 _) (by omega) id
    refine Ok.call (hx s8 (i + 1 + 1) true h.pi (by omega)) ?_
    rintro v s9 ⟨hv, ⟨i', err', p9, hi9⟩, k9⟩
    have h := h.go p9 k9 hi9 fun _ => rfl
    cases hv with
    | @mk nk na nt ntx nn nsy nvl nss nl b1 b2 b3 =>
    refine Ok.t rfl (Ok.g rfl (Ok.g rfl ?_))
    refine EI.app h ⟨9, _, 0, _, [], [], [], [], [.agg ⟨[.int .i64 nk, .int .i64 na, .string ntx, .int .i64 nt, lstV nn, lstV nsy, lstV nvl, lstV nss, lstV nl]⟩], false, rfl, (fun x hx => by simp only [List.mem_singleton] at hx; subst hx; exact .mk b1 b2 b3), by simp, fun e => absurd e (by decide)⟩ (by omega) (fun e => by have := p9.low; omega) fun w sA hA => ?_
    exact expr_end cx x1 hA fun _ e => by simp at e
theorem expr_ok {n : Int} (cx : Cx str ts en) (hx : ExprOK b str ts en n) : ExprOK b str ts en (n + 1) := by
  intro s i vb p hn
  have hc := p.ctr
  refine Ok.step (fun f => f44_eq f b vb) ?_
  refine Ok.callP (Ok.newK (b := b) rfl (Nat.le_refl s.ctr)) ?_
  rintro v s1 ⟨rfl, e1, g1, m1, k1⟩
  refine Ok.t rfl ?_
  simp only [blk_itP, off_itP]
  have p1 : PI s1 b str ts en i 0 := p.mem (by omega) fun j hj => m1 j (by omega)
  have h1 : EI b str ts en s i s1 s.ctr i 0 (.slice none 0 0) [] := ⟨p1, k1, ⟨_, g1, rfl⟩, ⟨hc, Nat.le_refl _, by omega⟩, Grow.nil _ _ _ _ _, (fun x hx => by cases hx), Int.le_refl _, by simp, fun _ => by have := p.low; simpa using this.1⟩
  refine Ok.call (overE_ok cx h1.pi) ?_
  rintro v s2 ⟨rfl, r2⟩
  have h := h1.reads r2
  have hq : ∀ {s' : St} {v : Value}, ExprQ b str ts en i s v s' → Nd v ∧ (∃ i' err', PI s' b str ts en i' err' ∧ i ≤ i') ∧ Kq b s.ctr s s' := fun h => h
  refine Ok.t rfl (Ok.c (fun _ => ?_) (fun ho => ?_))
  · refine Ok.call (ihere_ok h.pi) ?_
    rintro v s3 ⟨rfl, r3⟩
    have h := h.reads r3
    refine Ok.t rfl ?_
    refine Ok.call (ifail_ok h.pi 150 _ (by decide) (cx.here i) s3.ctr) ?_
    rintro v s4 ⟨rfl, ⟨err', p4, he⟩, k4⟩
    refine Ok.t rfl ?_
    have h := h.go p4 k4 (Int.le_refl _) fun e => absurd e he
    have := p.low
    exact expr_loop cx hx vb (ts.length + 1) s4 i err' _ [] (by omega) h (fun e => absurd e he) (fun e => absurd e he)
  · have := p.low
    exact expr_loop cx hx vb (ts.length + 1) s2 i 0 _ [] (by omega) h (fun _ => by omega) (fun _ _ => ho)
theorem expr_all (cx : Cx str ts en) : ∀ n : Nat, ExprOK b str ts en ((n : Int) - 1)
  | 0 => fun s i vb p hn => by have := p.low; omega
  | n + 1 => by
    have := expr_ok cx (expr_all cx n)
    have e : ((n : Int) - 1 + 1) = ((n + 1 : Nat) : Int) - 1 := by omega
    rw [e] at this
    exact this
theorem list_all (cx : Cx str ts en) (s : St) (i err : Int) (e : ByteArray) (x y : Bool) (p : PI s b str ts en i err) :
    Ok (fun f => callF En (runP En f) 21 [.pointer (some ⟨b, 0, none⟩), .string e, .agg ⟨[.bool x, .bool y]⟩]) s (ListQ b str ts en i err s) :=
  list_ok cx (expr_all cx (ts.length + 1)) s i err e x y p fun _ => by have := p.low; omega
end
end Go.Proofs.YtpljgnjdlciicaaGreatDoor
namespace Go.Proofs.YtpljgnjdlciicaaGreatDoor
open Go Go.Ev Go.Proofs
theorem at_mem {l : List Value} {x : Int} (h0 : 0 ≤ x) (h : x < l.length) : at_ l x.toNat ∈ l := by
  have hx : x.toNat < l.length := by omega
  have : at_ l x.toNat = l[x.toNat]'hx := by simp [at_, List.getD, List.getElem?_eq_getElem hx]
  rw [this]
  exact List.getElem_mem hx
section
variable {b : Nat}
def CountOK (b : Nat) (v : Value) : Prop := ∀ s : St, Ok (fun f => callF En (runP En f) 42 [v]) s (fun w s' => (∃ n, w = .int .i64 n) ∧ Kq b s.ctr s s')
theorem count_loop {l : List Value} (hl : l.length ≤ 100000) (hn : ∀ x, x ∈ l → Nd x) (hc : ∀ x, x ∈ l → CountOK b x) {lo : Nat} : ∀ (m : Nat) (s : St) (x3 x9 : Int), l.length - x9 < m → 0 ≤ x9 → lo ≤ s.ctr → x9 ≤ l.length →
    Ok (fun f => p42_3 f x3 l l.length x9) s (fun w s' => (∃ n, w = .int .i64 n) ∧ Kq b lo s s') := by
  intro m
  induction m with
  | zero => intro s x3 x9 h1 h2 _ h3; omega
  | succ m ih =>
    intro s x3 x9 h1 h2 hlo h3
    refine Ok.step (fun f => p42_3_eq f x3 l l.length x9) ?_
    refine Ok.c (fun hlt => ?_) (fun _ => Ok.ret ⟨⟨_, rfl⟩, Kq.refl _ _ _⟩)
    have hlt := of_decide_eq_true hlt
    have hm := at_mem h2 hlt
    have hy := hn _ hm
    have hcy := hc _ hm
    refine Ok.t (decide_eq_true h2) (Ok.t (by rw [hd_nodes _ hn, Bool.and_true, Bool.and_true]; exact Nat.ble_eq_true_of_le (by omega)) ?_)
    generalize at_ l x9.toNat = y at *
    cases hy with
    | @mk k a t tx n sy vl ss l2 b1 b2 b3 =>
    refine Ok.t rfl (Ok.t rfl ?_)
    refine Ok.callP (Ok.newK (b := b) (lo := lo) rfl hlo) ?_
    rintro v s1 ⟨rfl, e1, g1, m1, k1⟩
    refine Ok.t rfl ?_
    simp only [blk_itP, off_itP]
    refine Ok.callP (Ok.storeRowK (b := b) (lo := lo) (n := 9) (ws := [.int .i64 k, .int .i64 a, .string tx, .int .i64 t, lstV n, lstV sy, lstV vl, lstV ss, lstV l2]) (by kernel_rfl) g1 rfl rfl rfl hlo) ?_
    rintro v s2 ⟨rfl, e2, g2, f2, k2⟩
    refine Ok.callP (Ok.loadA (n := 9) (vs := [.int .i64 k, .int .i64 a, .string tx, .int .i64 t, lstV n, lstV sy, lstV vl, lstV ss, lstV l2]) (by kernel_rfl) (by kernel_rfl) rfl (hdr_of g2) (show CellsAt s2.mem s.ctr (s.ctr + 1 + 0) _ from g2.2)) ?_
    rintro v s3 ⟨rfl, m3, c3, l3⟩
    have r3 : Reads s2 s3 := ⟨m3, c3, [_, _], l3, rfl⟩
    refine Ok.t rfl ?_
    refine Ok.call (hcy s3) ?_
    rintro v s4 ⟨⟨r, rfl⟩, k4⟩
    refine Ok.t rfl ?_
    have k := ((k1.trans k2).trans (r3.kq b lo)).trans (k4.weaken (by omega))
    have := k.ctr
    simp only [wrap1 (show 0 ≤ x9 ∧ x9 ≤ 1000000 by omega)]
    refine Ok.mono (ih s4 _ (x9 + 1) (by omega) (by omega) (by omega) (by omega)) ?_
    rintro w s5 ⟨h, k5⟩
    exact ⟨h, k.trans k5⟩
theorem count_ok {v : Value} (h : Nd v) : CountOK b v := by
  induction h with
  | @mk k a t tx n sy vl ss l h hl hk ih =>
    intro s
    refine Ok.step (fun f => f42_eq f k a tx t n sy vl ss l) ?_
    refine Ok.g rfl ?_
    refine Ok.callP (Ok.newK (b := b) rfl (Nat.le_refl s.ctr)) ?_
    rintro v s1 ⟨rfl, e1, g1, m1, k1⟩
    refine Ok.t rfl ?_
    simp only [blk_itP, off_itP]
    refine Ok.callP (Ok.load1 (b := s.ctr) (o := 8) (by kernel_rfl) (g1.cell 8 rfl)) ?_
    rintro v s2 ⟨rfl, m2, c2, l2⟩
    have r2 : Reads s1 s2 := ⟨m2, c2, [_, _], l2, rfl⟩
    refine Ok.t rfl ?_
    refine Ok.mono (count_loop hl h ih (lo := s.ctr) (l.length + 1) s2 1 0 (by omega) (by omega) (by omega) (by omega)) ?_
    rintro w s3 ⟨hw, k3⟩
    exact ⟨hw, (k1.trans (r2.kq b _)).trans k3⟩
end
section
variable {s : St} {b : Nat} {str : ByteArray} {ts : List Tok} {en i err : Int} {l : List Value}
theorem PI.both {s' : St} (p : PI s b str ts en i err) (k : Kq b s.ctr s s') (k0 : Kq 0 s.ctr s s') : PI s' b str ts en i err := by
  have := p.ctr
  have := p.b8
  refine p.mem k.ctr fun j hj => ?_
  by_cases h : j < b
  · exact k.mem j (by omega) (.inl h)
  · exact k0.mem j (by omega) (.inr (by omega))
def ParQ (str : ByteArray) (v : Value) : Prop := ∃ (l : List Value) (e a : Int), v = .tuple ⟨[lstV l, .int .i64 e, .int .i64 a]⟩ ∧ (e = 0 → l ≠ [] ∧ a = 0) ∧ (e ≠ 0 → l = [] ∧ 0 ≤ a ∧ a ≤ (bl str).length)
theorem ends_loop (h0 : err = 0 → l ≠ []) (hl : l.length ≤ 100000) (hn : ∀ x, x ∈ l → Nd x) : ∀ (m : Nat) (s : St) (x7 x9 : Int), l.length - x9 < m → 0 ≤ x9 → x9 ≤ l.length → PI s b str ts en i err →
    Ok (fun f => p20_5 f b l x7 l l.length x9) s (fun w s' => ParQ str w ∧ MxM s'.mem) := by
  intro m
  induction m with
  | zero => intro s x3 x9 h1 h2 h3; omega
  | succ m ih =>
    intro s x7 x9 h1 h2 h3 p
    refine Ok.step (fun f => p20_5_eq f b l x7 l l.length x9) ?_
    refine Ok.c (fun hlt => ?_) (fun _ => ?_)
    · have hlt := of_decide_eq_true hlt
      have hm := at_mem h2 hlt
      have hy := hn _ hm
      refine Ok.t (decide_eq_true h2) (Ok.t (by rw [hd_nodes _ hn, Bool.and_true, Bool.and_true]; exact Nat.ble_eq_true_of_le (by omega)) ?_)
      generalize at_ l x9.toNat = y at *
      have hy0 := hy
      cases hy with
      | @mk k a t tx n sy vl ss l2 b1 b2 b3 =>
      have hpc := p.ctr
      refine Ok.t rfl (Ok.t rfl ?_)
      refine Ok.callP (Ok.newK (b := b) (lo := s.ctr) rfl (Nat.le_refl _)) ?_
      rintro v s1 ⟨rfl, e1, g1, m1, k1⟩
      refine Ok.t rfl ?_
      simp only [blk_itP, off_itP]
      refine Ok.callP (Ok.storeRowK (b := b) (lo := s.ctr) (n := 9) (ws := [.int .i64 k, .int .i64 a, .string tx, .int .i64 t, lstV n, lstV sy, lstV vl, lstV ss, lstV l2]) (by kernel_rfl) g1 rfl rfl rfl (Nat.le_refl _)) ?_
      rintro v s2 ⟨rfl, e2, g2, f2, k2⟩
      refine Ok.callP (Ok.loadA (n := 9) (vs := [.int .i64 k, .int .i64 a, .string tx, .int .i64 t, lstV n, lstV sy, lstV vl, lstV ss, lstV l2]) (by kernel_rfl) (by kernel_rfl) rfl (hdr_of g2) (show CellsAt s2.mem s.ctr (s.ctr + 1 + 0) _ from g2.2)) ?_
      rintro v s3 ⟨rfl, m3, c3, l3⟩
      have r3 : Reads s2 s3 := ⟨m3, c3, [_, _], l3, rfl⟩
      have p3 : PI s3 b str ts en i err := (p.mem (by omega) fun j hj => by rw [f2 j (by omega), m1 j (by omega)] : PI s2 b str ts en i err).reads r3
      refine Ok.t rfl ?_
      refine Ok.call (Ok.and (count_ok (b := b) hy0 s3) (count_ok (b := 0) hy0 s3)) ?_
      rintro v s4 ⟨⟨⟨r, rfl⟩, k4⟩, _, k4'⟩
      refine Ok.t rfl ?_
      simp only [wrap1 (show 0 ≤ x9 ∧ x9 ≤ 1000000 by omega)]
      exact ih s4 _ (x9 + 1) (by omega) (by omega) (by omega) (p3.both k4 k4')
    · refine Ok.call (isound_ok p) ?_
      rintro v s1 ⟨rfl, r1⟩
      have p1 := p.reads r1
      refine Ok.t rfl (Ok.c (fun he => ?_) (fun he => ?_))
      · obtain ⟨deep, bad, q, q1, q2, q3⟩ := p1
        have he : err ≠ 0 := by
          simp only [boolOf, Bool.not_eq_true'] at he
          exact of_decide_eq_false he
        refine Ok.segLoad (by kernel_rfl) q.c5 fun s2 r2 => ?_
        refine Ok.t rfl ?_
        refine Ok.segLoad (by kernel_rfl) (q.c6.reads r2) fun s3 r3 => ?_
        refine Ok.gdL (by kernel_rfl) (Ok.t rfl (Ok.ret ⟨⟨[], err, bad, rfl, fun e => absurd e he, fun _ => ⟨rfl, q3 he⟩⟩, by rw [r3.1, r2.1]; exact q.2.2.2⟩))
      · have he : err = 0 := by
          simp only [boolOf, Bool.not_eq_false'] at he
          exact of_decide_eq_true he
        refine Ok.c (fun _ => Ok.ret ⟨⟨[], 6, 0, rfl, fun e => absurd e (by decide), fun _ => ⟨rfl, by omega, by omega⟩⟩, p1.mx⟩) (fun _ => Ok.ret ⟨⟨l, 0, 0, rfl, fun _ => ⟨h0 he, rfl⟩, fun e => absurd rfl e⟩, p1.mx⟩)
theorem ends_ok (cx : Cx str ts en) (p : PI s b str ts en i err) (h0 : err = 0 → l ≠ []) (hl : l.length ≤ 100000) (hn : ∀ x, x ∈ l → Nd x) : Ok (fun f => callF En (runP En f) 20 [.pointer (some ⟨b, 0, none⟩), lstV l]) s (fun w s' => ParQ str w ∧ MxM s'.mem) := by
  have go : ∀ {s' : St} {err' : Int}, (err' = 0 → l ≠ []) → PI s' b str ts en i err' → Ok (fun f => p20_3 f b l) s' (fun w s' => ParQ str w ∧ MxM s'.mem) := fun {s' err'} h0 p => by
    refine Ok.step (fun f => p20_3_eq f b l) ?_
    exact ends_loop h0 hl hn (l.length + 1) s' 0 0 (by omega) (by omega) (by omega) p
  refine Ok.step (fun f => f20_eq f b l) ?_
  have p0 : PI ⟨s.mem, s.ctr, []⟩ b str ts en i err := p
  refine segReads (R := fun v => v = .bool (decide (err = 0))) (isound_ok p0) ?_
  rintro v s1 g1 rfl r1 w1
  have p := p.reads r1
  refine Ok.t rfl (Ok.c (fun he => ?_) (fun _ => go h0 p))
  refine Ok.segLoad (by kernel_rfl) p.c2 fun s2 r2 => ?_
  have p := p.reads r2
  refine Ok.gdL (freeL_reads _ _ rfl _ fun d hd => by simp only [List.mem_cons, List.not_mem_nil, or_false] at hd; rcases hd with rfl; exact w1) (Ok.t rfl ?_)
  refine Ok.segLoad (by kernel_rfl) p.c1 fun s3 r3 => ?_
  have p := p.reads r3
  refine Ok.gdL (freeL_reads _ _ rfl _ fun d hd => by simp only [List.mem_cons, List.not_mem_nil, or_false] at hd; rcases hd with rfl | rfl; rfl; exact w1) (Ok.t rfl ?_)
  simp only [show ∀ x, elems (lstV x) = x from fun _ => rfl, lenL42]
  refine Ok.segRet fun s4 r4 => ?_
  have p := p.reads r4
  refine Ok.gdL (freeL_reads _ _ rfl _ fun d hd => by simp only [List.mem_cons, List.not_mem_nil, or_false] at hd; rcases hd with rfl | rfl | rfl; rfl; rfl; exact w1) (Ok.t rfl ?_)
  refine Ok.c (fun _ => ?_) (fun _ => go h0 p)
  refine Ok.call (ihere_ok p) ?_
  rintro v s5 ⟨rfl, r5⟩
  have p := p.reads r5
  refine Ok.t rfl ?_
  refine Ok.call (ifail_ok p 150 _ (by decide) (cx.here i) s5.ctr) ?_
  rintro v s6 ⟨rfl, ⟨err', p6, he⟩, k6⟩
  exact Ok.t rfl (go (fun e => absurd e he) p6)
theorem parse_ok (s : St) (str : ByteArray) (hs : (bl str).length ≤ 100000) (hm : MxM s.mem) (hlib : @Lib ⟨⟨s.mem, s.ctr⟩⟩ s.mem s.ctr) : Ok (fun f => callF En (runP En f) 7 [.string str]) s (fun w s' => ParQ str w ∧ MxM s'.mem) := by
  refine Ok.step (fun f => f7_eq f str) ?_
  letI g : Gh := ⟨⟨s.mem, s.ctr⟩⟩
  refine Ok.call (lex_ok s str hlib) ?_
  rintro v s1 ⟨hv, hl1⟩
  have h3 := hl1.1.2.2
  have hc0 := hlib.1.2.2
  have hlow : ∀ k, k < s.ctr → s1.mem.get k = s.mem.get k := hl1.2.2
  have hc1 : s.ctr ≤ s1.ctr := hl1.2.1
  rcases hv with ⟨err, bad, he, hb1, hb2, rfl⟩ | ⟨ts, hts, hcov, rfl⟩
  · refine Ok.t rfl (Ok.t ?_ (Ok.ret ⟨⟨[], err, bad, rfl, fun e => absurd e he, fun _ => ⟨rfl, hb1, hb2⟩⟩, hm.congr fun k hk => hlow k (by omega)⟩))
    show Bool.not (decide (err = 0)) = true
    rw [decide_eq_false he]; rfl
  · refine Ok.t rfl (Ok.f rfl (Ok.g rfl (Ok.g rfl (Ok.g rfl ?_))))
    have cx : Cx str ts (bl str).length := ⟨hts, hcov, by omega, Int.le_refl _, hs⟩
    refine Ok.callP (Ok.newK (b := 0) (lo := s1.ctr) rfl (Nat.le_refl _)) ?_
    rintro v s2 ⟨rfl, e2, g2, m2, k2⟩
    refine Ok.t rfl (Ok.g rfl ?_)
    simp only [blk_itP, off_itP]
    have p2 : PI s2 s1.ctr str ts (bl str).length 0 0 := ⟨0, 0, ⟨g2, by omega, by omega, hm.congr fun k hk => by rw [m2 k (by omega), hlow k (by omega)]⟩, Int.le_refl _, by omega, fun h => absurd rfl h⟩
    refine Ok.call (list_all cx s2 0 0 _ true false p2) ?_
    rintro v s3 ⟨⟨l, rfl, hn, hl, h0⟩, ⟨i', err', p3, _⟩, k3⟩
    refine Ok.t rfl ?_
    refine Ok.call (ends_ok cx p3 (fun _ => h0 rfl) (show l.length ≤ 100000 by omega) hn) ?_
    rintro v s4 ⟨⟨l', e, a, rfl, q1, q2⟩, hm4⟩
    exact Ok.t rfl (Ok.ret ⟨⟨l', e, a, rfl, q1, q2⟩, hm4⟩)
theorem live_ok {s : St} (hm : MxM s.mem) : Ok (fun f => callF En (runP En f) 6 []) s (fun v _ => v = .bool true) := by
  obtain ⟨hd, v, h1, ⟨h2, h5, h6, h7, h8⟩, h3, h4⟩ := hm
  obtain ⟨m, c, l⟩ := s
  simp only at h1 h4
  have e : ∀ f, callF En (runP En f) 6 [] = liveP [] := fun f => by kernel_rfl
  have g2 : (131073 : Nat) = gbase 2 := rfl
  refine ⟨.bool true, ⟨m, c, ⟨false, Nat.add (Nat.add 131073 1) 0, 1⟩ :: ⟨false, 131073, 1⟩ :: ⟨false, 131073, 1⟩ :: l⟩, rfl, 0, fun f _ => ?_⟩
  show (callF En (runP En f) 6 []).run _ = _
  rw [e f]
  have hrd : rdCells m 131073 1 0 = some [.int .i64 v] := by
    simp only [rdCells, Nat.add_eq, Nat.add_zero, h4, Nat.beq_refl]
  simp only [liveP, gd, Prog.run, tabQ, ← g2, St.hd, h1, h2, h3, h5, h6, h7, h8, Nat.beq_refl, Bool.and_self, Bool.not_false, St.rd, hrd]
theorem parse_ends (s : St) (str : ByteArray) (hm : MxM s.mem) (hlib : @Lib ⟨⟨s.mem, s.ctr⟩⟩ s.mem s.ctr) : Ok (fun f => callF En (runP En f) 3 [.string str]) s (fun w _ => w = .bool true) := by
  have hbl : (bl str).length = str.data.toList.length := rfl
  have live : ∀ s : St, MxM s.mem → Ok (fun f => (Prog.call (callF En (runP En f) 6 []) fun v6 => (cnd (Prog.ret (Value.bool (boolOf v6))) Prog.fail (okK Kd.bool v6)))) s (fun w _ => w = .bool true) := fun s hm => by
    refine Ok.call (live_ok hm) ?_
    rintro v s1 rfl
    exact Ok.t rfl (Ok.ret rfl)
  refine Ok.step (fun f => f3_eq f str) ?_
  refine Ok.c (fun _ => live s hm) (fun hle => ?_)
  have hle := of_decide_eq_false hle
  simp only [Int.ofNat_eq_natCast] at hle
  refine Ok.call (parse_ok s str (by omega) hm hlib) ?_
  rintro v s1 ⟨⟨l, e, a, rfl, q1, q2⟩, hm1⟩
  refine Ok.t rfl ?_
  refine Ok.call (Q1 := fun v s' => v = .int .i64 e ∧ s'.mem = s1.mem) (Ok.step (fun f => f8_eq f e) (Ok.ret ⟨rfl, rfl⟩)) ?_
  rintro v s2 ⟨rfl, e2⟩
  rw [← e2] at hm1
  refine Ok.t rfl (Ok.c (fun he => ?_) (fun he => ?_))
  · have he : e = 0 := of_decide_eq_true he
    obtain ⟨h1, h2⟩ := q1 he
    refine Ok.t (decide_eq_true ?_) (Ok.t (decide_eq_true h2) (live s2 hm1))
    have : 0 < l.length := List.length_pos_iff.2 h1
    show (0 : Int) < Int.ofNat l.length
    simp only [Int.ofNat_eq_natCast]
    omega
  · have he : e ≠ 0 := of_decide_eq_false he
    obtain ⟨rfl, h2, h3⟩ := q2 he
    refine Ok.t rfl (Ok.t (decide_eq_true h2) (Ok.t (decide_eq_true ?_) (live s2 hm1)))
    simp only [Int.ofNat_eq_natCast]
    exact h3
end
end Go.Proofs.YtpljgnjdlciicaaGreatDoor
