/- The reference's lexer: one token. -/
import Derived.Test.YtpljgnjdlciicaaGreatDoorLyKQ23
import Derived.Test.YtpljgnjdlciicaaGreatDoorLyKQ22
namespace Go.Proofs.YtpljgnjdlciicaaGreatDoor
open Go Go.Ev Go.Proofs
section
variable {m0 : Tr Slot} {lo : Nat} {s : St} {b : Nat} {str : ByteArray} {a : Int} {ts : List Tok} {err bad : Int}
theorem LI.frame {s' : St} (h : LI m0 lo s b str a ts err bad) (f : Fresh s s') : LI m0 lo s' b str a ts err bad := ⟨h.1.fresh f, h.2⟩
theorem VFl.zero : VFl 0 [] [] [] := ⟨rfl, by simp, by simp, .inl ⟨rfl, rfl, rfl⟩⟩
theorem tok0 (h : LI m0 lo s b str a ts err bad) (kind en : Int) (text : ByteArray) (t : Int) (ht : t = 0 ∨ (1 ≤ t ∧ t ≤ 5)) (h3 : a < en ∧ en ≤ (bl str).length) (hk : kind = 6 → bl text ≠ []) :
    Ok (fun f => callF En (runP En f) 64 [.pointer (some ⟨b, 0, none⟩), .int .i64 kind, .int .i64 en, .string text, .agg ⟨[.int .i64 t, lstV [], lstV [], lstV []]⟩]) s (NextQ m0 lo b str a) := by
  obtain ⟨h, h1, h2, h2', h4⟩ := h
  refine Ok.mono (rtoken_ok h kind en text t [] [] [] (by omega)) ?_
  rintro v s' ⟨rfl, q⟩
  refine token_q h1 h2 h3 ?_ hk h4 q
  rcases ht with rfl | ht
  · exact VFl.zero
  · refine ⟨rfl, by simp, by simp, ?_⟩
    by_cases h3 : t = 3
    · exact .inr (.inr ⟨rfl, fun e he => by simp at he, .inl h3⟩)
    · refine .inr (.inl ⟨rfl, fun e he => by simp at he, ?_⟩)
      omega
theorem tok0c (h : LI m0 lo s b str a ts err bad) (kind en : Int) (text : ByteArray) (h3 : a < en ∧ en ≤ (bl str).length) (hk : kind = 6 → bl text ≠ []) :
    Ok (fun f => gd true (Prog.call (callF En (runP En f) 64 [.pointer (some ⟨b, 0, none⟩), .int .i64 kind, .int .i64 en, .string text, .agg ⟨[.int .i64 0, lstV [], lstV [], lstV []]⟩]) fun v => cnd (Prog.ret (Value.tuple ⟨[]⟩)) Prog.fail ((isTupV v) && (okNs [] (tupOf v))))) s (NextQ m0 lo b str a) := by
  refine Ok.g rfl ?_
  refine Ok.call (tok0 h kind en text 0 (.inl rfl) h3 hk) ?_
  rintro v s' ⟨rfl, q⟩
  exact Ok.t rfl (Ok.ret ⟨rfl, q⟩)
/-- A piece of the text is loaded, and a token made of it. -/
theorem cutTok (h : LI m0 lo s b str a ts err bad) (kind en : Int) (h3 : a < en ∧ en ≤ (bl str).length) :
    Ok (fun f => Ev.callP (fun v78 => cnd (cnd (cnd (cnd (gd true (Prog.call (callF En (runP En f) 64 [.pointer (some ⟨b, 0, none⟩), .int .i64 kind, .int .i64 en, .string (mkStr (List.take ((Int.toNat en) - (Int.toNat a)) (List.drop (Int.toNat a) (Array.toList (ByteArray.data (strOf v78)))))), .agg ⟨[.int .i64 0, lstV [], lstV [], lstV []]⟩]) fun v => cnd (Prog.ret (Value.tuple ⟨[]⟩)) Prog.fail ((isTupV v) && (okNs [] (tupOf v)))))
      Prog.fail ((Nat.ble (Int.toNat a) (Int.toNat en)) && (Nat.ble (Int.toNat en) (List.length (Array.toList (ByteArray.data (strOf v78))))))) Prog.fail (decide ((0 : Int) ≤ en))) Prog.fail (decide ((0 : Int) ≤ a))) Prog.fail (okK Kd.str v78)) (loadT En 9 b 0)) s (NextQ m0 lo b str a) := by
  have hbl : (bl str).length = str.data.toList.length := rfl
  have ha := h.2.2.1
  refine Ok.callP (Ok.load1 (by kernel_rfl) h.1.c0) ?_
  rintro v s1 ⟨rfl, m1, c1, l1⟩
  have r1 : Reads s s1 := ⟨m1, c1, [_, _], l1, rfl⟩
  simp only [strOf]
  refine Ok.t rfl (Ok.t (decide_eq_true ha) (Ok.t (decide_eq_true (by omega)) (Ok.t ?_ ?_)))
  · rw [Bool.and_eq_true]; exact ⟨Nat.ble_eq_true_of_le (by omega), Nat.ble_eq_true_of_le (by omega)⟩
  exact tok0c (h.frame (fresh_reads r1)) kind en _ h3 fun _ e => by
    have := congrArg List.length e
    rw [bl_mk, List.length_take, List.length_drop] at this
    simp only [List.length_nil] at this
    omega
/-- Bools: the loop, and what follows it. -/
def VB (m0 : Tr Slot) (lo b x : Nat) (str : ByteArray) (a : Int) (ts : List Tok) (err bad : Int) (s : St) (n : List Value) : Prop :=
  RX m0 lo ⟨s.mem, x, []⟩ b str a ts err bad ∧ x + 5 ≤ s.ctr ∧ VR s.mem s.ctr x 1 n ∧ IntsV n
theorem VB.fresh {x : Nat} {s' : St} {n : List Value} (h : VB m0 lo b x str a ts err bad s n) (f : Fresh s s') : VB m0 lo b x str a ts err bad s' n := by
  obtain ⟨h1, h2, h3, h4⟩ := h
  exact ⟨h1.keep fun k hk => f.2 k (by omega), by have := f.1; omega, h3.congr f.1 h2 fun k _ hk => f.2 k hk, h4⟩
theorem bits14 {x : Nat} {t e : Int} {n : List Value} (H : RX m0 lo ⟨s.mem, x, []⟩ b str a ts err bad) (hx : x + 5 ≤ s.ctr) (V : VR s.mem s.ctr x t n) (h1 : RToks a ts) (h2 : 0 ≤ a) (h4 : ts.length ≤ 16384) (hv : VFl t n [] []) (h3 : a < e ∧ e ≤ (bl str).length) :
    Ok (fun f => p29_14 f b a e x 0) s (NextQ m0 lo b str a) := by
  have hbl : (bl str).length = str.data.toList.length := rfl
  obtain ⟨nv, v1, v2⟩ := V
  refine Ok.step (fun f => p29_14_eq f b a e x 0) ?_
  have h := H.up (s := s) (by omega)
  refine Ok.segLoad (by kernel_rfl) h.c0 fun s1 r1 => ?_
  refine Ok.t rfl ?_
  simp only [strOf]
  refine Ok.t (decide_eq_true h2) (Ok.t (decide_eq_true (by omega)) (Ok.t ?_ ?_))
  · rw [Bool.and_eq_true]; exact ⟨Nat.ble_eq_true_of_le (by omega), Nat.ble_eq_true_of_le (by omega)⟩
  refine Ok.segLoadA (n := 4) (b := x) (o := 0) (by kernel_rfl) (by kernel_rfl) rfl (by rw [r1.1]; exact hdr_of v1) (vs := [.int .i64 t, nv, .slice none 0 0, .slice none 0 0]) (by rw [r1.1]; exact v1.2) fun s3 r3 => ?_
  have r3 := r1.trans r3
  refine Ok.gdL (by kernel_rfl) (Ok.t rfl ?_)
  refine Ok.seg (tokenN_ok (s := ⟨s3.mem, s3.ctr, []⟩) (hi := x) (nv := nv) (n := n) (H.keep (s' := s3) fun k _ => by rw [r3.1]) (by simp only; rw [r3.2.1]; omega) ((v2.congr (by simp only; rw [r3.2.1]; exact Nat.le_refl _) fun j _ _ => by simp only; rw [r3.1]).lower (by omega)) _ _ _ _ (by omega)) ?_
  rintro v s4 ⟨rfl, q⟩
  refine Ok.gdL (by kernel_rfl) (Ok.t rfl ?_)
  exact Ok.ret (token_q (s' := ⟨s4.mem, s4.ctr, s4.log ++ s3.log⟩) h1 h2 h3 hv (fun h => by cases h) h4 q)
theorem bits12 {x : Nat} {t e : Int} {n : List Value} (H : RX m0 lo ⟨s.mem, x, []⟩ b str a ts err bad) (hx : x + 5 ≤ s.ctr) (V : VR s.mem s.ctr x t n) (h1 : RToks a ts) (h2 : 0 ≤ a) (h4 : ts.length ≤ 16384) (hv : VFl t n [] []) (h3 : a < e ∧ e ≤ (bl str).length) :
    Ok (fun f => p29_12 f b a e x 0) s (NextQ m0 lo b str a) := by
  obtain ⟨nv, w1, w2⟩ := id V
  obtain ⟨ad, cp, rfl⟩ := w2.len n.length (by omega) (by omega)
  refine Ok.step (fun f => p29_12_eq f b a e x 0) ?_
  refine Ok.callP (Ok.load1 (b := x) (o := 0 + 1) (by kernel_rfl) (w1.cell 1 rfl)) ?_
  rintro v s2 ⟨rfl, m2, c2, l2⟩
  have r2 : Reads s s2 := ⟨m2, c2, [_, _], l2, rfl⟩
  have H2 := H.keep (s' := s2) fun k _ => by rw [r2.1]
  have V2 : VR s2.mem s2.ctr x t n := V.congr (by omega) hx fun k _ _ => by rw [r2.1]
  simp only [len30s, callP_ret]
  refine Ok.t rfl (Ok.c (fun _ => ?_) (fun _ => bits14 H2 (by omega) V2 h1 h2 h4 hv h3))
  refine Ok.call (rfail_h H2 (by omega) _ _) ?_
  rintro v s3 ⟨rfl, h3', c3, f3⟩
  have hb : b + 6 ≤ x := H.ctr
  refine Ok.t rfl (bits14 h3' (by omega) (V2.congr (by omega) (by omega) fun k k1 _ => f3 k (.inr (by omega))) h1 h2 h4 hv h3)
theorem bits_loop {x : Nat} {e : Int} (h1 : RToks a ts) (h2 : 0 ≤ a) (h4 : ts.length ≤ 16384) (hs : (bl str).length ≤ 70000) (h3 : a < e - 1 ∧ e ≤ (bl str).length) : ∀ (m : Nat) (s : St) (i : Int) (n : List Value), VB m0 lo b x str a ts err bad s n → a ≤ i → i ≤ e - 1 → (n.length : Int) = i - a → e - i < m → Ok (fun f => p29_7 f b a e x 0 i) s (NextQ m0 lo b str a) := by
  have hbl : (bl str).length = str.data.toList.length := rfl
  intro m
  induction m with
  | zero => intro s i n _ _ _ _ h; omega
  | succ m ih =>
    intro s i n hI hai hie hn hm
    obtain ⟨H, hx, ⟨nv, w1, w2⟩, hin⟩ := id hI
    obtain ⟨ad, cp, rfl⟩ := w2.len n.length (by omega) (by omega)
    have hwe : IntKind.i64.wrap (e + (-1)) = e - 1 := wrap_in _ (by omega) (by omega)
    refine Ok.step (fun f => p29_7_eq f b a e x 0 i) ?_
    simp only [hwe]
    refine Ok.c (fun hl => ?_) (fun hl => ?_)
    · have hl := of_decide_eq_true hl
      refine Ok.segLoad (b := x) (o := 0 + 1) (by kernel_rfl) (w1.cell 1 rfl) fun s1 r1 => ?_
      refine Ok.segLoad (by kernel_rfl) ((H.up (by omega)).c0.reads r1) fun s2 r2 => ?_
      have r2 := r1.trans r2
      simp only [strOf]
      refine Ok.gdL (by kernel_rfl) (Ok.t rfl (Ok.t (decide_eq_true (by omega)) (Ok.t (Nat.ble_eq_true_of_le (by omega)) ?_)))
      have eb : ∀ i, buildSliceA En 30 1 [(0, Value.int .i64 i)] = .ret (xlstV [Value.int .i64 i]) := fun _ => by kernel_rfl
      simp only [eb]
      refine Ok.segRet fun s3 r3 => ?_
      have r3 := r2.trans r3
      refine Ok.gdL (by kernel_rfl) ?_
      have hc3 := r3.2.1
      refine Ok.seg (Ok.app (s := ⟨s3.mem, s3.ctr, []⟩) appT30 (w2.congr (by simp only; omega) fun j _ _ => by simp only; rw [r3.1]) rfl rfl (by simp only; omega) (by omega)) ?_
      rintro w s4 ⟨g4, c4, f4⟩
      simp only at c4 f4
      refine Ok.gdL (by kernel_rfl) ?_
      have hw := g4.one
      have R4 : Row s4.mem x [.int .i64 1, .slice ad n.length cp, .slice none 0 0, .slice none 0 0] := w1.congr fun j a1 a2 => by rw [f4 j (by simp at a2; omega), r3.1]
      refine Ok.seg (Ok.storeCell (s := ⟨s4.mem, s4.ctr, []⟩) (b := x) (o := 0 + 1) (by kernel_rfl) hw.2 R4 (by simp) hw.1) ?_
      rintro v s5 ⟨rfl, c5, g5, f5⟩
      simp only at c5 f5
      refine Ok.gdL (by kernel_rfl) ?_
      rw [wrap1 (show 0 ≤ i ∧ i ≤ 1000000 by omega)]
      refine ih _ (i + 1) (n ++ [_]) ⟨H.keep fun k hk => by simp only; rw [f5 k (by omega), f4 k (by omega), r3.1], by simp only; omega, ⟨w, g5, g4.congr (by simp only; omega) fun j a1 a2 => f5 j (by omega)⟩, fun z hz => ?_⟩ (by omega) (by omega) (by simp only [List.length_append, List.length_cons, List.length_nil]; omega) (by omega)
      rcases List.mem_append.1 hz with hz | hz
      · exact hin z hz
      · rw [List.mem_singleton] at hz; exact ⟨_, hz⟩
    · have hl := of_decide_eq_false hl
      refine Ok.callP (Ok.load1 (b := x) (o := 0 + 1) (by kernel_rfl) (w1.cell 1 rfl)) ?_
      rintro v s2 ⟨rfl, m2, c2, l2⟩
      have r2 : Reads s s2 := ⟨m2, c2, [_, _], l2, rfl⟩
      have hI2 := hI.fresh (fresh_reads r2)
      simp only [len30s, callP_ret]
      refine Ok.t rfl (Ok.c (fun h1' => ?_) (fun _ => ?_))
      · have h1' : (n.length : Int) = 1 := of_decide_eq_true h1'
        have R2 : Row s2.mem x [.int .i64 1, .slice ad n.length cp, .slice none 0 0, .slice none 0 0] := by rw [r2.1]; exact w1
        refine Ok.callP (Ok.storeCell (b := x) (o := 0 + 0) (by kernel_rfl) rfl R2 (by simp) rfl) ?_
        rintro w s4 ⟨rfl, c4, g4, f4⟩
        refine bits12 (t := -1) (n := n) (hI2.1.keep fun k hk => f4 k (by omega)) (by have := hI2.2.1; omega) ⟨_, g4, w2.congr (by omega) fun j a1 a2 => by rw [f4 j (by omega), r2.1]⟩ h1 h2 h4 ?_ ⟨by omega, h3.2⟩
        exact ⟨rfl, by omega, by simp, .inr (.inl ⟨rfl, hin, .inr (.inr (.inr (.inr ⟨.inl rfl, by omega⟩)))⟩)⟩
      · refine bits12 (t := 1) (n := n) hI2.1 hI2.2.1 hI2.2.2.1 h1 h2 h4 ?_ ⟨by omega, h3.2⟩
        exact ⟨rfl, by omega, by simp, .inr (.inl ⟨rfl, hin, .inl rfl⟩)⟩
theorem name_loop (h : LI m0 lo s b str a ts err bad) (hs : (bl str).length ≤ 70000) : ∀ (m : Nat) (s : St) (y : Int), LI m0 lo s b str a ts err bad → a < y ∨ isLetter (byteZ str y) = true → a ≤ y → y ≤ (bl str).length → (bl str).length - y < m → Ok (fun f => p29_26 f b a y) s (NextQ m0 lo b str a) := by
  intro m
  induction m with
  | zero => intro s y _ _ _ _ h; omega
  | succ m ih =>
    intro s y h h0 h1 h2 hm
    refine Ok.step (fun f => p29_26_eq f b a y) ?_
    refine Ok.call (rbyte_ok h.1 _) ?_
    rintro v s1 ⟨rfl, r1⟩
    have h1' := h.frame (fresh_reads r1)
    refine Ok.t rfl ?_
    refine Ok.call (inside_ok s1 _) ?_
    rintro v s2 ⟨rfl, rfl⟩
    refine Ok.t rfl (Ok.c (fun hi => ?_) (fun hi => ?_))
    · have hi : isInside (byteZ str y) = true := hi
      have := byteZ_lt (str := str) (i := y) fun e => by rw [e] at hi; cases hi
      rw [wrap1 (show 0 ≤ y ∧ y ≤ 1000000 by omega)]
      exact ih _ (y + 1) h1' (.inl (by omega)) (by omega) (by omega) (by omega)
    · have hi : isInside (byteZ str y) = false := hi
      refine cutTok h1' 2 y ⟨?_, h2⟩
      rcases h0 with h0 | h0
      · exact h0
      · simp [isInside, h0] at hi
theorem tail37 (h : LI m0 lo s b str a ts err bad) (e : Int) (h3 : a < e ∧ e ≤ (bl str).length) : Ok (fun f => p29_37 f b a e) s (NextQ m0 lo b str a) := Ok.step (fun f => p29_37_eq f b a e) (cutTok h 5 e h3)
theorem tail42 (h : LI m0 lo s b str a ts err bad) (e : Int) (h3 : a < e ∧ e ≤ (bl str).length) : Ok (fun f => p29_42 f b a e) s (NextQ m0 lo b str a) := Ok.step (fun f => p29_42_eq f b a e) (cutTok h 6 e h3)
theorem next_ok (h : LI m0 lo s b str a ts err bad) (hs : (bl str).length ≤ 70000) (hlt : a < (bl str).length) (hp : a ≠ 0 → byteZ str (a - 1) = 32 ∨ ts ≠ []) : Ok (fun f => callF En (runP En f) 29 [.pointer (some ⟨b, 0, none⟩)]) s (NextQ m0 lo b str a) := by
  have hbl : (bl str).length = str.data.toList.length := rfl
  have ha := h.2.2.1
  have hw1 : IntKind.i64.wrap (a + 1) = a + 1 := wrap_in _ (by omega) (by omega)
  have hw2 : IntKind.i64.wrap (a + 1 + 1) = a + 1 + 1 := wrap_in _ (by omega) (by omega)
  have hw3 : IntKind.i64.wrap (a + 3) = a + 3 := wrap_in _ (by omega) (by omega)
  have h0 : decide ((0 : Int) ≤ a) = true := decide_eq_true ha
  have hZ : Int.ofNat (byteAt str a.toNat) = byteZ str a := (byteZ_eq ⟨ha, hlt⟩).symm
  have pass : ∀ {p : Nat → Prog} {s : St}, Ok p s (NextQ m0 lo b str a) → Ok (fun f => Prog.call (p f) fun v => cnd (Prog.ret (Value.tuple ⟨[]⟩)) Prog.fail ((isTupV v) && (okNs [] (tupOf v)))) s (NextQ m0 lo b str a) := fun h => by
    refine Ok.call h ?_
    rintro v s' ⟨rfl, q⟩
    exact Ok.t rfl (Ok.ret ⟨rfl, q⟩)
  have fl : ∀ (s : St) (e p : Int), LI m0 lo s b str a ts err bad → e ≠ 0 → Ok (fun f => callF En (runP En f) 63 [.pointer (some ⟨b, 0, none⟩), .int .i64 e, .int .i64 p]) s (NextQ m0 lo b str a) := fun s e p hI he => by
    refine Ok.mono (rfail_ok hI.1 e p) ?_
    rintro v s2 ⟨rfl, h2', _⟩
    exact fail_q hI.2.1 ⟨ha, by omega⟩ hI.2.2.2.2 he h2'
  refine Ok.step (fun f => f29_eq f b) ?_
  refine Ok.segLoad (by kernel_rfl) h.1.c0 fun s1 r1 => ?_
  refine Ok.t rfl ?_
  refine Ok.segLoad (by kernel_rfl) (h.1.reads r1).c1 fun s2 r2 => ?_
  have r2 := r1.trans r2
  simp only [strOf, intOf]
  refine Ok.gdL (by kernel_rfl) (Ok.t rfl (Ok.t h0 (Ok.t (Nat.ble_eq_true_of_le (by omega)) ?_)))
  refine Ok.callP (Ok.load1 (by kernel_rfl) (h.1.reads r2).c1) ?_
  rintro v s3 ⟨rfl, m3, c3, l3⟩
  have r3 := r2.trans (⟨m3, c3, [_, _], l3, rfl⟩ : Reads s2 s3)
  refine Ok.t rfl ?_
  simp only [intOf, hZ, hw1, hw2, hw3]
  refine Ok.call (bools_ok (h.1.reads r3) ⟨ha, by omega⟩ (by omega)) ?_
  rintro v s4 ⟨⟨rfl, hr⟩, r4⟩
  have r4 := r3.trans r4
  have h4 := h.frame (fresh_reads r4)
  refine Ok.t rfl (Ok.c (fun hr0 => ?_) (fun _ => ?_))
  · have hr0 : boolsF str a > 0 := of_decide_eq_true hr0
    have hr := hr.resolve_left (by omega)
    refine Ok.call (bools_ok h4.1 ⟨ha, by omega⟩ (by omega)) ?_
    rintro v s5 ⟨⟨rfl, _⟩, r5⟩
    have h5 := h4.frame (fresh_reads r5)
    refine Ok.t rfl (Ok.g rfl ?_)
    refine Ok.callP (Ok.new rfl) ?_
    rintro v s6 ⟨rfl, c6, g6, f6⟩
    refine Ok.t rfl ?_
    simp only [blk_itP, off_itP]
    refine Ok.callP (Ok.storeRow (n := 4) (by kernel_rfl) g6 rfl rfl rfl) ?_
    rintro v s7 ⟨rfl, c7, g7, f7⟩
    refine bits_loop (m0 := m0) (lo := lo) (b := b) (err := err) (bad := bad) (x := s5.ctr) h5.2.1 ha h5.2.2.2.2 hs hr ((bl str).length + 1) s7 a [] ⟨?_, by omega, ⟨.slice none 0 0, g7, Grow.nil _ _ _ _ _⟩, fun e he => by simp at he⟩ (Int.le_refl _) (by omega) (by simp) (by omega)
    exact (RX.cut h5.1).keep (s' := s7) fun k hk => by rw [f7 k (.inl (by omega)), f6 k hk]
  refine Ok.call (numbers_ok h4.1 a ⟨ha, by omega⟩ (by omega) hp (fun y hy => (h4.2.1.1 y hy).1) (by have := h4.2.2.2.2; omega)) ?_
  rintro v s5 ⟨⟨q, rfl, hq⟩, f5⟩
  have h5 := h4.frame f5
  refine Ok.t rfl (Ok.c (fun hq1 => pass (vector_ok h5 hs (hq hq1))) (fun _ => ?_))
  refine Ok.c (fun h96 => pass (symbols_ok h5 hs (of_decide_eq_true h96))) (fun _ => ?_)
  refine Ok.c (fun h34 => ?_) (fun _ => ?_)
  · refine Ok.call (quoted_ok h5.1 ⟨ha, by omega⟩ hs) ?_
    rintro v s6 ⟨⟨x, e, ok, rfl, hx⟩, f6⟩
    have h6 := h5.frame f6
    refine Ok.t rfl (Ok.c (fun _ => pass (fl s6 _ _ h6 (by decide))) (fun hok => ?_))
    have hok : ok = true := by
      have hok : Bool.not ok = false := hok
      simpa using hok
    have := hx hok
    exact tok0c h6 3 e x ⟨by omega, by omega⟩ fun h => by cases h
  refine Ok.call (letter_ok s5 _) ?_
  rintro v s6 ⟨rfl, rfl⟩
  refine Ok.t rfl (Ok.c (fun hl => ?_) (fun _ => ?_))
  · exact name_loop h5 hs ((bl str).length + 1) _ a h5 (.inr hl) (Int.le_refl _) (by omega) (by omega)
  refine Ok.call (empty_ok h5.1 ⟨ha, by omega⟩) ?_
  rintro v s7 ⟨⟨r, rfl, g1, g2, g3⟩, r7⟩
  have h7 := h5.frame (fresh_reads r7)
  refine Ok.t rfl (Ok.c (fun hr => ?_) (fun _ => ?_))
  · have hr : r > 0 := of_decide_eq_true hr
    have g3 := g3 (by omega)
    refine Ok.segLoad (by kernel_rfl) h7.1.c0 fun s8 r8 => ?_
    simp only [strOf]
    refine Ok.t rfl (Ok.t h0 (Ok.t (decide_eq_true (by omega)) (Ok.t ?_ ?_)))
    · rw [Bool.and_eq_true]; exact ⟨Nat.ble_eq_true_of_le (by omega), Nat.ble_eq_true_of_le (by omega)⟩
    have h8 := h7.frame (fresh_reads r8)
    refine segReads (R := EmQ str a) (empty_ok (s := ⟨s8.mem, s8.ctr, []⟩) h8.1 ⟨ha, by omega⟩) ?_
    rintro v s9 g9 ⟨r', rfl, k1, k2, k3⟩ r9 w9
    refine Ok.gdL (freeL_reads _ _ w9 _ fun d hd => by simp only [List.mem_cons, List.not_mem_nil, or_false] at hd; subst hd; rfl) (Ok.t rfl (Ok.g rfl ?_))
    have h9 := h8.frame (fresh_reads r9)
    refine Ok.seg (tok0 (s := ⟨s9.mem, s9.ctr, []⟩) h9 1 (a + 3) _ r' (by omega) ⟨by omega, by omega⟩ fun h => by cases h) ?_
    rintro v sA ⟨rfl, q⟩
    refine Ok.gdL (by kernel_rfl) (Ok.t rfl (Ok.ret ⟨rfl, q⟩))
  refine Ok.call (among_ok s7 _ _ (by decide)) ?_
  rintro v s8 ⟨⟨q1, rfl⟩, rfl⟩
  refine Ok.t rfl (Ok.c (fun _ => cutTok h7 4 (a + 1) ⟨by omega, by omega⟩) (fun _ => ?_))
  refine Ok.call (among_ok _ _ _ (by decide)) ?_
  rintro v s8 ⟨⟨q2, rfl⟩, rfl⟩
  refine Ok.t rfl (Ok.c (fun _ => ?_) (fun _ => ?_))
  · refine Ok.call (rbyte_ok h7.1 _) ?_
    rintro v s9 ⟨rfl, r9⟩
    have h9 := h7.frame (fresh_reads r9)
    refine Ok.t rfl (Ok.c (fun hc => ?_) (fun _ => tail37 h9 _ ⟨by omega, by omega⟩))
    have hc : byteZ str (a + 1) = 58 := of_decide_eq_true hc
    have := byteZ_lt (str := str) (i := a + 1) (by rw [hc]; decide)
    exact tail37 h9 _ ⟨by omega, by omega⟩
  refine Ok.call (among_ok _ _ _ (by decide)) ?_
  rintro v s8 ⟨⟨q3, rfl⟩, rfl⟩
  refine Ok.t rfl (Ok.c (fun _ => ?_) (fun _ => pass (fl _ _ _ h7 (by decide))))
  refine Ok.c (fun _ => ?_) (fun _ => tail42 h7 _ ⟨by omega, by omega⟩)
  refine Ok.call (rbyte_ok h7.1 _) ?_
  rintro v s9 ⟨rfl, r9⟩
  have h9 := h7.frame (fresh_reads r9)
  refine Ok.t rfl (Ok.c (fun hc => ?_) (fun _ => tail42 h9 _ ⟨by omega, by omega⟩))
  have hc : byteZ str (a + 1) = 58 := of_decide_eq_true hc
  have := byteZ_lt (str := str) (i := a + 1) (by rw [hc]; decide)
  exact tail42 h9 _ ⟨by omega, by omega⟩
end
end Go.Proofs.YtpljgnjdlciicaaGreatDoor
/- The reference's lexer. -/
namespace Go.Proofs.YtpljgnjdlciicaaGreatDoor
open Go Go.Ev Go.Proofs
def RLexQ (str : ByteArray) (v : Value) : Prop := (∃ e p, v = .tuple ⟨[lstV [], .int .i64 e, .int .i64 p]⟩ ∧ e ≠ 0) ∨ ∃ ts : List Tok, v = .tuple ⟨[lstV (ts.map tokV), .int .i64 0, .int .i64 0]⟩ ∧ RToks (bl str).length ts ∧ ts.length ≤ 16384
section
variable {s0 : St} {b : Nat} {str : ByteArray}
theorem lex_loop (hb : s0.ctr ≤ b) (hs : (bl str).length ≤ 70000) : ∀ (m : Nat) (s : St) (a : Int) (ts : List Tok) (err bad : Int), LI s0.mem s0.ctr s b str a ts err bad → (err = 0 → a ≠ 0 → byteZ str (a - 1) = 32 ∨ ts ≠ []) → (err = 0 → (bl str).length - a < m) → 0 < m →
    Ok (fun f => p14_4 f str b 0) s (fun v s' => RLexQ str v ∧ Fresh s0 s') := by
  have hbl : (bl str).length = str.data.toList.length := rfl
  intro m
  induction m with
  | zero => intro s a ts err bad _ _ _ h; omega
  | succ m ih =>
    intro s a ts err bad hI hp hm _
    obtain ⟨h, h1, h2, h3, h4⟩ := id hI
    have fr : ∀ {s' : St} {a ts err bad}, RX s0.mem s0.ctr s' b str a ts err bad → Fresh s0 s' := fun {s' a ts err bad} h => by
      obtain ⟨l, g1, g2, g3, g4, g5⟩ := h
      exact ⟨by omega, g5⟩
    refine Ok.step (fun f => p14_4_eq f str b 0) ?_
    refine Ok.callP (Ok.load1 (o := 0 + 1) (by kernel_rfl) h.c1) ?_
    rintro v s1 ⟨rfl, m1, c1, l1⟩
    have r1 : Reads s s1 := ⟨m1, c1, [_, _], l1, rfl⟩
    refine Ok.t rfl ?_
    -- the end
    have fin : ∀ {s1 : St} (mk i : Nat), Reads s s1 → ((bl str).length ≤ a ∨ err ≠ 0) → Ok _ s1 (fun v s' => RLexQ str v ∧ Fresh s0 s') := fun {s1} mk i r1 hend => by
      refine Ok.callP (p := fun _ => loadT En 3 b (0 + 3)) (k := fun f v16 => cnd (cnd (Prog.seg (loadT En 3 b (0 + 3)) fun v17 s18 z18 => cnd (Prog.seg (loadT En 3 b (0 + 4)) fun v19 s20 z20 => Ev.gdL mk (writesOf s20) s20 [⟨i, writesOf s18, s18⟩] (cnd (Prog.ret (.tuple ⟨[lstV [], .int .i64 (intOf v17), .int .i64 (intOf v19)]⟩)) Prog.fail (okK (Kd.int .i64) v19))) Prog.fail (okK (Kd.int .i64) v17)) (Ev.callP (fun v21 => frzL En 20 50 v21 fun v22 => Prog.ret (.tuple ⟨[v22, .int .i64 0, .int .i64 0]⟩)) (loadT En 42 b (0 + 2))) (Bool.not (decide (intOf v16 = 0)))) Prog.fail (okK (Kd.int .i64) v16)) (Ok.load1 (o := 0 + 3) (by kernel_rfl) (h.reads r1).c3) ?_
      rintro v s2 ⟨rfl, m2, c2, l2⟩
      have r2 : Reads s s2 := r1.trans ⟨m2, c2, [_, _], l2, rfl⟩
      refine Ok.t rfl (Ok.c (fun he => ?_) (fun he => ?_))
      · have he : err ≠ 0 := by
          have he : Bool.not (decide (err = 0)) = true := he
          simpa using he
        refine Ok.segLoad (o := 0 + 3) (by kernel_rfl) (h.reads r2).c3 fun s3 r3 => ?_
        refine Ok.t rfl ?_
        refine Ok.segLoad (o := 0 + 4) (by kernel_rfl) (h.reads (r2.trans r3)).c4 fun s4 r4 => ?_
        refine Ok.gdL (freeL_reads _ _ rfl _ fun d hd => by simp only [List.mem_cons, List.not_mem_nil, or_false] at hd; subst hd; rfl) (Ok.t rfl (Ok.ret ⟨.inl ⟨_, _, rfl, he⟩, fr (h.reads (r2.trans (r3.trans r4)))⟩))
      · have he : err = 0 := by
          have he : Bool.not (decide (err = 0)) = false := he
          simpa using he
        have ha : a = (bl str).length := by
          rcases hend with h | h
          · omega
          · exact absurd he h
        obtain ⟨l, q1, q2, q3, q4, q5⟩ := h.reads r2
        refine Ok.callP (Ok.load1 (o := 0 + 2) (by kernel_rfl) (q1.cell 2 rfl)) ?_
        rintro v s3 ⟨rfl, m3, c3, l3⟩
        refine frz_toks (lo := b + 6) (q2.congr (by omega) fun j _ _ => by rw [m3]) fun s4 c4 f4 => ?_
        refine Ok.ret ⟨.inr ⟨ts, rfl, by rw [← ha]; exact h1, h4⟩, ⟨by omega, fun k hk => by rw [f4 k (by omega), m3, q5 k hk]⟩⟩
    refine Ok.c (fun hl => ?_) (fun hl => fin 112 3 r1 (.inl ?_))
    · have hl := of_decide_eq_true hl
      have hl : a < ((bl str).length : Int) := hl
      refine Ok.callP (Ok.load1 (o := 0 + 3) (by kernel_rfl) (h.reads r1).c3) ?_
      rintro v s2 ⟨rfl, m2, c2, l2⟩
      have r2 : Reads s s2 := r1.trans ⟨m2, c2, [_, _], l2, rfl⟩
      refine Ok.t rfl (Ok.c (fun he => ?_) (fun he => fin 112 3 r2 (.inr (of_decide_eq_false he))))
      have he : err = 0 := of_decide_eq_true he
      subst he
      have hm := hm rfl
      refine Ok.callP (Ok.load1 (o := 0 + 1) (by kernel_rfl) (h.reads r2).c1) ?_
      rintro v s3 ⟨rfl, m3, c3, l3⟩
      have r3 : Reads s s3 := r2.trans ⟨m3, c3, [_, _], l3, rfl⟩
      have h3' := hI.frame (fresh_reads r3)
      refine Ok.t rfl (Ok.t (decide_eq_true h2) (Ok.t (Nat.ble_eq_true_of_le (by simp only [intOf]; omega)) ?_))
      refine Ok.c (fun hb => ?_) (fun _ => ?_)
      · have hb : byteZ str a = 32 := by rw [byteZ_eq ⟨h2, hl⟩]; exact of_decide_eq_true hb
        refine Ok.callP (Ok.load1 (o := 0 + 1) (by kernel_rfl) h3'.1.c1) ?_
        rintro v s4 ⟨rfl, m4, c4, l4⟩
        have r4 : Reads s s4 := r3.trans ⟨m4, c4, [_, _], l4, rfl⟩
        simp only [intOf, wrap1 (show 0 ≤ a ∧ a ≤ 1000000 by omega)]
        refine Ok.t rfl (Ok.callP (RX.set1 (h.reads r4) (a + 1)) ?_)
        rintro w s5 ⟨rfl, h5, _⟩
        exact ih s5 (a + 1) ts 0 bad ⟨h5, h1.mono (by omega), by omega, by omega, h4⟩ (fun _ _ => .inl (by rw [show a + 1 - 1 = a by omega]; exact hb)) (fun _ => by omega) (by omega)
      · refine Ok.call (next_ok h3' hs hl (hp rfl)) ?_
        rintro v s4 ⟨rfl, a', ts', err', bad', hI', hq⟩
        refine Ok.t rfl (ih s4 a' ts' err' bad' hI' (fun e _ => ?_) (fun e => ?_) (by omega))
        · rcases hq with hq | hq
          · exact absurd e hq
          · exact .inr hq.2
        · rcases hq with hq | hq
          · exact absurd e hq
          · have := hI'.2.2.2.1; omega
    · have hl := of_decide_eq_false hl
      have hl : ¬ a < ((bl str).length : Int) := hl
      omega
theorem rlex_ok (s : St) : Ok (fun f => callF En (runP En f) 14 [.string str]) s (fun v s' => RLexQ str v ∧ Fresh s s') := by
  have hbl : (bl str).length = str.data.toList.length := rfl
  refine Ok.step (fun f => f14_eq f str) ?_
  refine Ok.c (fun _ => Ok.ret ⟨.inl ⟨_, _, rfl, by decide⟩, Fresh.refl s⟩) (fun hl => ?_)
  have hl := of_decide_eq_false hl
  simp only [Int.ofNat_eq_natCast] at hl
  refine Ok.g rfl (Ok.g rfl ?_)
  refine Ok.callP (Ok.new rfl) ?_
  rintro v s1 ⟨rfl, c1, g1, f1⟩
  refine Ok.t rfl ?_
  simp only [blk_itP, off_itP]
  refine lex_loop (s0 := s) (Nat.le_refl _) (by omega) ((bl str).length + 1) s1 0 [] 0 0 ⟨⟨_, g1, Grow.nil _ _ _ _ _, by omega, Nat.le_refl _, f1⟩, RToks.nil 0, by omega, by omega, by simp⟩ (fun _ h => absurd rfl h) (fun _ => by omega) (by omega)
end
end Go.Proofs.YtpljgnjdlciicaaGreatDoor
/- Rows of rows: pieces that grow, one behind the other. -/
namespace Go.Ev
open Go
theorem freeL_nil {mask : Nat} {sg : List Acc} : ∀ (ds : List Done), (∀ d, d ∈ ds → Nat.testBit mask d.i = true ∨ (d.ws = [] ∧ d.all = [])) → freeL mask (writesOf sg) sg ds = true
  | [], _ => rfl
  | d :: ds, g => by
    have ih := freeL_nil (mask := mask) (sg := sg) ds fun d hd => g d (List.mem_cons_of_mem _ hd)
    simp only [freeL, ih, Bool.and_true, Bool.or_eq_true]
    rcases g d (List.mem_cons_self ..) with e | ⟨e1, e2⟩
    · exact .inl e
    · refine .inr ?_
      unfold apartLogs
      rw [e1, e2]
      cases hw : writesOf sg with
      | nil => rfl
      | cons a ws => simp only [anyHits_nil, Bool.not_false, Bool.and_true]
theorem Grow.frzW {m : Tr Slot} {lo hi el sz : Nat} {cs : List Value} {r n c c0 : Nat} {l : List Acc} (h : Grow m lo hi el sz cs (.slice (some ⟨r, 0, none⟩) n c)) :
    ∃ s', St.frz ⟨m, c0, l⟩ r (n * sz) 0 = some (cs, s') ∧ s'.ctr = c0 ∧ (∀ k, (k < lo ∨ hi ≤ k) → s'.mem.get k = m.get k) := by
  obtain ⟨h1, h2⟩ := h
  rcases h2 with ⟨e, _⟩ | ⟨r', n', sy, olds, e, a2, a3, a4, a5, a6, a7⟩
  · cases e
  · cases e
    have hrd : rdCells m r (n * sz) 0 = some cs := by rw [← a2]; exact CellsAt.rd a7
    refine ⟨⟨(kill olds m).set r none, c0, ⟨true, r, 1⟩ :: killLog olds (⟨false, Nat.add (Nat.add r 1) 0, n * sz⟩ :: l)⟩, by simp only [St.frz, a6, Bool.false_or, hrd, h1], rfl, fun k hk => ?_⟩
    simp only
    rw [Tr.get_set, if_neg (by omega), kill_at, if_neg]
    intro hm
    have := a5 k hm
    omega
/-- A slice of slices: its cells, where they lie, where they lay. -/
def OutR (m : Tr Slot) (v : Value) (cs : List Value) (r el : Nat) (ex : Bool) (olds : List Nat) : Prop :=
  ∃ sy, v = .slice (some ⟨r, 0, none⟩) cs.length (capOf cs.length ex) ∧ m.get r = some (.hdr ⟨cs.length, el, false, ex, true, 0, sy, false, olds⟩) ∧ CellsAt m r (r + 1) cs
theorem OutR.congr {m m' : Tr Slot} {v : Value} {cs : List Value} {r el : Nat} {ex : Bool} {olds : List Nat} (h : OutR m v cs r el ex olds) (e : ∀ k, r ≤ k → k < r + 1 + cs.length → m'.get k = m.get k) : OutR m' v cs r el ex olds := by
  obtain ⟨sy, h1, h2, h3⟩ := h
  exact ⟨sy, h1, (e r (Nat.le_refl _) (by omega)).trans h2, h3.congr fun j a b => e j (by omega) b⟩
/-- What such a slice may touch. -/
def OutF (r n : Nat) (olds : List Nat) (k : Nat) : Prop := (r ≤ k ∧ k < r + 1 + n) ∨ k ∈ olds
section
variable {E : Env} {s : St}
/-- One more part, from a row of one cell. -/
theorem Ok.appO {t el by_ : Nat} {v x : Value} {cs : List Value} {r q : Nat} {ex : Bool} {olds : List Nat} {hd : Hdr} (ht : AppT E t el 1 by_) (h : OutR s.mem v cs r el ex olds) (hv : cs.all oneC = true) (hq : s.mem.get q = some (.hdr hd)) (hx : CellsAt s.mem q (q + 1) [x]) (ho : oneC x = true)
    (hr : r < s.ctr) (hn : (cs.length + 1) * (by_ + 1) ≤ 1099511627776) :
    Ok (fun _ => builtinA E Builtin.append (t :: (t :: [])) (v :: (.slice (some ⟨q, 0, none⟩) 1 (capOf 1 true) :: []))) s
      (fun w s' => s'.ctr = s.ctr + (cs.length + 1) + 1 ∧ (∃ olds', OutR s'.mem w (cs ++ [x]) s.ctr el false olds' ∧ ∀ k, k ∈ olds' → k = r ∨ k ∈ olds) ∧ (∀ k, k < s.ctr → k ≠ r → s'.mem.get k = s.mem.get k)) := by
  obtain ⟨m, c, l⟩ := s
  obtain ⟨hu, hs, hb, hz, hz0⟩ := ht
  obtain ⟨zv, hz⟩ := Option.isSome_iff_exists.1 hz
  obtain ⟨sy, rfl, a6, a7⟩ := h
  simp only at a6 a7 hq hx hr
  have hel : elemOfSlice E t = some el := by unfold elemOfSlice; rw [hu]
  have hd1 : decide ((cs.length + 1) * (by_ + 1) ≤ 1099511627776) = true := decide_eq_true hn
  have hrdx : rdCells m q (1 * 1) 0 = some [x] := CellsAt.rd (vs := [x]) (o := 0) hx
  have hcl : capLo (capOf cs.length ex) = cs.length := by
    cases ex
    · show (2 * cs.length + 0) / 2 = cs.length; omega
    · show (2 * cs.length + 1) / 2 = cs.length; omega
  have hce : capEx (capOf cs.length ex) = ex := by
    cases ex
    · have : Nat.mod (2 * cs.length + 0) 2 = 0 := by show (2 * cs.length + 0) % 2 = 0; omega
      show Nat.beq (Nat.mod (2 * cs.length + 0) 2) 1 = false
      rw [this]; rfl
    · have : Nat.mod (2 * cs.length + 1) 2 = 1 := by show (2 * cs.length + 1) % 2 = 1; omega
      show Nat.beq (Nat.mod (2 * cs.length + 1) 2) 1 = true
      rw [this]; rfl
  have hble : Nat.ble (cs.length + 1) cs.length = false := by
    cases hq : Nat.ble (cs.length + 1) cs.length with
    | false => rfl
    | true => have := Nat.le_of_ble_eq_true hq; omega
  have hrd : rdCells m r (cs.length * 1) 0 = some cs := by rw [Nat.mul_one]; exact CellsAt.rd a7
  have hlenc : (cs ++ [x]).length = cs.length + 1 := by simp
  have hone : (cs ++ [x]).all oneC = true := all_append _ _ _ hv (by simp [ho])
  have hlen : lenA (.slice (some ⟨q, 0, none⟩) 1 (capOf 1 true)) = some 1 := rfl
  have hf1 : ∀ k, firstA 1 1 (.slice (some ⟨q, 0, none⟩) 1 (capOf 1 true)) k = .rd q (1 * 1) 0 k := fun _ => rfl
  have hox : [x].all oneC = true := by simp [ho]
  cases ex with
  | true =>
    have hbl : Nat.ble (cs ++ [x]).length (cs ++ [x]).length = true := Nat.ble_eq_true_of_le (Nat.le_refl _)
    refine ⟨.slice (some ⟨c, 0, none⟩) (cs.length + 1) (capOf (cs.length + 1) false), ⟨layCells c (cs ++ [x]) (c + 1) (m.set c (some (.hdr ⟨(cs ++ [x]).length, el, false, false, true, 0, false, false, []⟩))), c + (cs ++ [x]).length + 1, ⟨true, c, (cs ++ [x]).length + 1⟩ :: ⟨false, q + 1 + 0, 1 * 1⟩ :: ⟨false, q, 1⟩ :: ⟨false, r + 1 + 0, cs.length * 1⟩ :: ⟨false, r, 1⟩ :: l⟩, ⟨by simp only [hlenc], ⟨[], ⟨false, by simp only [hlenc], ?_, CellsAt.lay _ _ _⟩, fun k hk => by cases hk⟩, fun k hk _ => ?_⟩, 0, fun _ _ => ?_⟩
    · simp only
      rw [lay_below _ _ _ _ _ (by omega), Tr.get_set, if_pos rfl, hlenc]
    · simp only at hk ⊢
      rw [lay_below _ _ _ _ _ (by omega), Tr.get_set, if_neg (by omega)]
    · simp only [builtinA, appendA, appendB, hel, hu, hs, hb, Ev.opt, isIntD, appN, hlen, hz, gd, hd1, hcl, hce, hble, appC, hf1, Prog.run, St.rd, a6, hq, hrd, hrdx, Prog.new, hbl, St.newH, Nat.add_eq]
  | false =>
    have hg2 : decide (True ∧ 0 + cs.length * 1 = cs.length ∧ True ∧ True ∧ True ∧ 0 ≤ cs.length * 1 + 1 * 1) = true := decide_eq_true ⟨trivial, by omega, trivial, trivial, trivial, Nat.zero_le _⟩
    have hbl : Nat.ble (cs ++ [x]).length (cs.length * 1 + 1 * 1) = true := Nat.ble_eq_true_of_le (by simp)
    refine ⟨.slice (some ⟨c, 0, none⟩) (cs.length + 1) (capOf (cs.length + 1) false), ⟨layCells c (cs ++ [x]) (c + 1) ((m.set r (some (.hdr ⟨cs.length, el, false, false, true, 0, sy, true, []⟩))).set c (some (.hdr ⟨cs.length * 1 + 1 * 1, el, false, false, true, 0, sy, false, r :: olds⟩))), c + (cs.length * 1 + 1 * 1) + 1, ⟨true, c, cs.length * 1 + 1 * 1 + 1⟩ :: ⟨true, r, 1⟩ :: ⟨false, q + 1 + 0, 1 * 1⟩ :: ⟨false, q, 1⟩ :: ⟨false, r + 1 + 0, cs.length * 1⟩ :: ⟨false, r, 1⟩ :: ⟨false, r, 1⟩ :: l⟩, ⟨by simp only; omega, ⟨r :: olds, ⟨sy, by simp only [hlenc], ?_, CellsAt.lay _ _ _⟩, fun k hk => List.mem_cons.1 hk⟩, fun k hk hkr => ?_⟩, 0, fun _ _ => ?_⟩
    · simp only
      rw [lay_below _ _ _ _ _ (by omega), Tr.get_set, if_pos rfl, hlenc, Nat.mul_one]
    · simp only at hk ⊢
      rw [lay_below _ _ _ _ _ (by omega), Tr.get_set, if_neg (by omega), Tr.get_set, if_neg (by omega)]
    · simp only [builtinA, appendA, appendB, hel, hu, hs, hb, Ev.opt, isIntD, appN, hlen, hz, gd, hd1, hcl, hce, hble, appC, hf1, Prog.run, St.hd, St.setHd, St.rd, a6, hg2, hrd, hq, hrdx, hox, hbl, St.newH, Nat.add_eq, Bool.true_and, Nat.beq_refl]
/-- The first part. -/
theorem Ok.appO0 {t el by_ : Nat} {x : Value} {q : Nat} {hd : Hdr} (ht : AppT E t el 1 by_) (hq : s.mem.get q = some (.hdr hd)) (hx : CellsAt s.mem q (q + 1) [x]) (hn : 1 * (by_ + 1) ≤ 1099511627776) :
    Ok (fun _ => builtinA E Builtin.append (t :: (t :: [])) (.slice none 0 0 :: (.slice (some ⟨q, 0, none⟩) 1 (capOf 1 true) :: []))) s
      (fun w s' => s'.ctr = s.ctr + 1 + 1 ∧ OutR s'.mem w [x] s.ctr el false [] ∧ (∀ k, k < s.ctr → s'.mem.get k = s.mem.get k)) := by
  obtain ⟨m, c, l⟩ := s
  obtain ⟨hu, hs, hb, hz, hz0⟩ := ht
  obtain ⟨zv, hz⟩ := Option.isSome_iff_exists.1 hz
  simp only at hq hx
  have hel : elemOfSlice E t = some el := by unfold elemOfSlice; rw [hu]
  have hd1 : decide ((0 + 1) * (by_ + 1) ≤ 1099511627776) = true := decide_eq_true (by simpa using hn)
  have hrdx : rdCells m q ((0 + 1) * 1) 0 = some [x] := CellsAt.rd (vs := [x]) (o := 0) hx
  have hlen : lenA (.slice (some ⟨q, 0, none⟩) 1 (capOf 1 true)) = some (0 + 1) := rfl
  have hf1 : ∀ k, firstA 1 (0 + 1) (.slice (some ⟨q, 0, none⟩) 1 (capOf 1 true)) k = .rd q ((0 + 1) * 1) 0 k := fun _ => rfl
  have hbl : Nat.ble [x].length [x].length = true := rfl
  refine ⟨.slice (some ⟨c, 0, none⟩) 1 (capOf 1 false), ⟨layCells c [x] (c + 1) (m.set c (some (.hdr ⟨[x].length, el, false, false, true, 0, false, false, []⟩))), c + [x].length + 1, ⟨true, c, [x].length + 1⟩ :: ⟨false, q + 1 + 0, (0 + 1) * 1⟩ :: ⟨false, q, 1⟩ :: l⟩, ⟨rfl, ⟨false, rfl, ?_, CellsAt.lay _ _ _⟩, fun k hk => ?_⟩, 0, fun _ _ => ?_⟩
  · simp only
    rw [lay_below _ _ _ _ _ (by omega), Tr.get_set, if_pos rfl]
  · simp only at hk ⊢
    rw [lay_below _ _ _ _ _ (by omega), Tr.get_set, if_neg (by omega)]
  · simp only [builtinA, appendA, appendB, hel, hu, hs, hb, Ev.opt, isIntD, appN, hlen, hz, gd, hd1, appC, hf1, Prog.run, St.rd, hq, hrdx, Prog.new, hbl, St.newH, Nat.add_eq]
/-- A part is set. -/
theorem Ok.storeO {t el : Nat} {v x : Value} {cs : List Value} {r i : Nat} {ex : Bool} {olds : List Nat} (hs : E.size t = some 1) (hc : cellsL x = [x]) (h : OutR s.mem v cs r el ex olds) (hi : i < cs.length) (ho : oneC x = true) (hold : ∀ k, k ∈ olds → k < r) :
    Ok (fun _ => storeT E t r i x) s (fun w s' => w = U ∧ s'.ctr = s.ctr ∧ OutR s'.mem v (cs.set i x) r el ex [] ∧ (∀ k, ¬ OutF r cs.length olds k → s'.mem.get k = s.mem.get k)) := by
  obtain ⟨m, c, l⟩ := s
  obtain ⟨sy, rfl, a6, a7⟩ := h
  simp only at a6 a7
  have hb : Nat.ble (i + 1) cs.length = true := Nat.ble_eq_true_of_le (by omega)
  have h0 : Nat.ble 0 i = true := rfl
  have hox : [x].all oneC = true := by simp [ho]
  have hl1 : [x].length = 1 := rfl
  cases olds with
  | nil =>
    refine ⟨U, ⟨m.set (r + 1 + i) (some (.cell r x)), c, ⟨true, r + 1 + i, 1⟩ :: ⟨false, r, 1⟩ :: l⟩, ⟨rfl, rfl, ⟨sy, by simp, ?_, CellsAt.set i x a7⟩, fun k hk => ?_⟩, 0, fun _ _ => ?_⟩
    · simp only [List.length_set]
      rw [Tr.get_set, if_neg (by omega), a6]
    · simp only
      rw [Tr.get_set, if_neg]
      intro e; exact hk (.inl ⟨by omega, by omega⟩)
    · simp only [storeT, hs, Ev.opt, hc, gd, hl1, Nat.beq_refl, Prog.run, St.wr, a6, Bool.false_or, h0, hox, hb, Bool.not_true, Nat.add_eq, layCells]
  | cons k0 ks =>
    refine ⟨U, ⟨((kill (k0 :: ks) m).set r (some (.hdr ⟨cs.length, el, false, ex, true, 0, sy, false, []⟩))).set (r + 1 + i) (some (.cell r x)), c, ⟨true, r + 1 + i, 1⟩ :: ⟨true, r, 1⟩ :: killLog (k0 :: ks) l⟩, ⟨rfl, rfl, ⟨sy, by simp, ?_, ?_⟩, fun k hk => ?_⟩, 0, fun _ _ => ?_⟩
    · simp only [List.length_set]
      rw [Tr.get_set, if_neg (by omega), Tr.get_set, if_pos rfl]
    · refine CellsAt.set i x (a7.congr fun j h1 h2 => ?_)
      rw [Tr.get_set, if_neg (by omega), kill_at, if_neg]
      intro hm
      have := hold j hm
      omega
    · simp only
      rw [Tr.get_set, if_neg, Tr.get_set, if_neg, kill_at, if_neg]
      · intro hm; exact hk (.inr hm)
      · intro e; exact hk (.inl ⟨by omega, by omega⟩)
      · intro e; exact hk (.inl ⟨by omega, by omega⟩)
    · simp only [storeT, hs, Ev.opt, hc, gd, hl1, Nat.beq_refl, Prog.run, St.wr, a6, Bool.false_or, h0, hox, hb, Bool.not_true, Nat.add_eq, layCells]
end
end Go.Ev
/- Pieces of tokens: their rows, and what comes of them when they are frozen. -/
namespace Go.Proofs.YtpljgnjdlciicaaGreatDoor
open Go Go.Ev Go.Proofs
theorem frzTok {d : Nat} {s : St} {lo hi : Nat} {ts : List Tok} {v : Value} {Q : Value → St → Prop} {p : Nat → Value → Prog} (h : Grow s.mem lo hi 50 8 (toksC ts) v)
    (hk : ∀ s', s'.ctr = s.ctr → (∀ k, (k < lo ∨ hi ≤ k) → s'.mem.get k = s.mem.get k) → Ok (fun f => p f (lstV (ts.map tokV))) s' Q) : Ok (fun f => frzL En (d + 2) 50 v (p f)) s Q := by
  obtain ⟨m, c, l⟩ := s
  have h' := h
  rcases h.2 with ⟨rfl, e⟩ | ⟨r, n, sy, olds, rfl, a2, _⟩
  · have : ts = [] := by
      cases ts with
      | nil => rfl
      | cons t ts => have := congrArg List.length e; rw [toksC_length] at this; simp at this
    subst this
    exact hk _ rfl fun _ _ => rfl
  · rw [toksC_length] at a2
    have hn : ts.length = n := by omega
    by_cases h0 : n = 0
    · subst h0
      have : ts = [] := List.length_eq_zero_iff.1 hn
      subst this
      exact hk _ rfl fun _ _ => rfl
    · obtain ⟨s', f1, f2, f3⟩ := Grow.frzW (l := l) (c0 := c) h'
      have hb : Nat.beq n 0 = false := by cases n with
        | zero => exact absurd rfl h0
        | succ n => rfl
      have hs : En.size 50 = some 8 := by kernel_rfl
      have h1 : isOneT En 50 = false := by kernel_rfl
      have e3 : ∀ f, frzL En (d + 1 + 1) 50 (.slice (some ⟨r, 0, none⟩) n (capOf n false)) (p f) = .frz r (n * 8) 0 fun vs => frzGo (frzL En (d + 1)) ((List.replicate n ()).flatMap fun _ => sl34) vs fun vs => p f (lstV (chunkC false 8 n vs)) := by
        intro f
        unfold frzL
        simp only [hb, hs, Ev.opt, ck, slots34, h1, Nat.mul_eq]
        rfl
      have e4 : ∀ (ts : List Tok) (k : List Value → Prog), frzGo (frzL En (d + 1)) ((List.replicate ts.length ()).flatMap fun _ => sl34) (toksC ts) k = k (toksC ts) := by
        intro ts
        induction ts with
        | nil => intro k; rfl
        | cons t ts ih =>
          intro k
          have ih := ih fun r => k (t.cells ++ r)
          show frzGo (frzL En (d + 1)) (sl34 ++ (List.replicate ts.length ()).flatMap fun _ => sl34) (t.cells ++ toksC ts) k = k (t.cells ++ toksC ts)
          rw [← ih]
          rfl
      show Ok (fun f => frzL En (d + 1 + 1) 50 (.slice (some ⟨r, 0, none⟩) n (capOf n false)) (p f)) _ Q
      simp only [e3]
      refine Ok.frzO f1 ?_
      subst hn
      simp only [e4, chunk_toks]
      exact hk s' f2 f3
/-- Pieces: their rows lie one behind the other, beside what bears them. -/
def Pcs (m : Tr Slot) (O : Nat → Prop) : Nat → List (List Tok) → List Value → Nat → Prop
  | lo, [], [], hi => lo ≤ hi
  | lo, p :: ps, v :: vs, hi => ∃ a b, lo ≤ a ∧ a ≤ b ∧ Grow m a b 50 8 (toksC p) v ∧ (∀ k, a ≤ k → k < b → ¬ O k) ∧ Pcs m O b ps vs hi
  | _, _, _, _ => False
theorem Pcs.le {m : Tr Slot} {O : Nat → Prop} : ∀ {ps : List (List Tok)} {vs : List Value} {lo hi : Nat}, Pcs m O lo ps vs hi → lo ≤ hi
  | [], [], _, _, h => h
  | p :: ps, v :: vs, lo, hi, ⟨a, b, h1, h2, _, _, h5⟩ => by have := Pcs.le h5; omega
theorem Pcs.length {m : Tr Slot} {O : Nat → Prop} : ∀ {ps : List (List Tok)} {vs : List Value} {lo hi : Nat}, Pcs m O lo ps vs hi → vs.length = ps.length
  | [], [], _, _, _ => rfl
  | p :: ps, v :: vs, lo, hi, ⟨a, b, _, _, _, _, h5⟩ => by have := Pcs.length h5; simp [this]
theorem Pcs.one {m : Tr Slot} {O : Nat → Prop} : ∀ {ps : List (List Tok)} {vs : List Value} {lo hi : Nat}, Pcs m O lo ps vs hi → vs.all oneC = true
  | [], [], _, _, _ => rfl
  | p :: ps, v :: vs, lo, hi, ⟨a, b, _, _, h3, _, h5⟩ => by simp [h3.one.1, Pcs.one h5] <;> exact fun x hx => List.all_eq_true.1 (Pcs.one h5) x hx
theorem Pcs.congr {m m' : Tr Slot} {O O' : Nat → Prop} : ∀ {ps : List (List Tok)} {vs : List Value} {lo hi : Nat}, Pcs m O lo ps vs hi → (∀ k, lo ≤ k → k < hi → ¬ O k → m'.get k = m.get k) → (∀ k, lo ≤ k → k < hi → O' k → O k) → Pcs m' O' lo ps vs hi
  | [], [], _, _, h, _, _ => h
  | p :: ps, v :: vs, lo, hi, ⟨a, b, h1, h2, h3, h4, h5⟩, e, o => by
    have := Pcs.le h5
    exact ⟨a, b, h1, h2, h3.congr (Nat.le_refl _) fun j g1 g2 => e j (by omega) (by omega) (h4 j g1 g2), fun k g1 g2 g3 => h4 k g1 g2 (o k (by omega) (by omega) g3), Pcs.congr h5 (fun k g1 g2 => e k (by omega) g2) fun k g1 g2 => o k (by omega) g2⟩
theorem Pcs.snoc {m : Tr Slot} {O : Nat → Prop} {p : List Tok} {v : Value} {c d : Nat} : ∀ {ps : List (List Tok)} {vs : List Value} {lo hi : Nat}, Pcs m O lo ps vs hi → hi ≤ c → c ≤ d → Grow m c d 50 8 (toksC p) v → (∀ k, c ≤ k → k < d → ¬ O k) → Pcs m O lo (ps ++ [p]) (vs ++ [v]) d
  | [], [], lo, hi, h, h1, h2, h3, h4 => by
    have h : lo ≤ hi := h
    exact ⟨c, d, by omega, h2, h3, h4, Nat.le_refl d⟩
  | q :: ps, w :: vs, lo, hi, ⟨a, b, g1, g2, g3, g4, g5⟩, h1, h2, h3, h4 => ⟨a, b, g1, g2, g3, g4, Pcs.snoc g5 h1 h2 h3 h4⟩
theorem frz_pcs {O : Nat → Prop} {Q : Value → St → Prop} : ∀ {ps : List (List Tok)} {vs : List Value} {lo hi : Nat} {s : St} {k : Nat → List Value → Prog}, Pcs s.mem O lo ps vs hi →
    (∀ s', s'.ctr = s.ctr → (∀ j, j < lo → s'.mem.get j = s.mem.get j) → Ok (fun f => k f (ps.map fun p => lstV (p.map tokV))) s' Q) → Ok (fun f => frzGo (frzL En 19) ((List.replicate ps.length ()).flatMap fun _ => [some 50]) vs (k f)) s Q
  | [], [], _, _, s, k, _, hk => hk s rfl fun _ _ => rfl
  | p :: ps, v :: vs, lo, hi, s, k, ⟨a, b, h1, h2, h3, h4, h5⟩, hk => by
    have e : ∀ (g : TypeId → Value → (Value → Prog) → Prog) f, frzGo g ((List.replicate (p :: ps).length ()).flatMap fun _ => [some 50]) (v :: vs) (k f) = g 50 v (fun v => frzGo g ((List.replicate ps.length ()).flatMap fun _ => [some 50]) vs fun r => k f (v :: r)) := fun _ _ => rfl
    simp only [e]
    refine frzTok (d := 17) (p := fun f v => frzGo (frzL En 19) ((List.replicate ps.length ()).flatMap fun _ => [some 50]) vs fun r => k f (v :: r)) h3 fun s1 c1 f1 => ?_
    refine frz_pcs (lo := b) (hi := hi) (k := fun f r => k f (lstV (p.map tokV) :: r)) (h5.congr (O' := O) (fun j g1 g2 _ => f1 j (.inr g1)) fun _ _ _ h => h) fun s2 c2 f2 => ?_
    exact hk s2 (by omega) fun j hj => by rw [f2 j (by omega), f1 j (.inl (by omega))]
theorem sl42 : slots En 20 42 = [some 50] := by kernel_rfl
theorem chunk1s : ∀ (vs : List Value), chunkC true 1 vs.length vs = vs
  | [] => rfl
  | v :: vs => by
    show v :: chunkC true 1 vs.length vs = v :: vs
    rw [chunk1s vs]
/-- A whole list of pieces is frozen. -/
theorem frz_out {s : St} {lo b : Nat} {v : Value} {vs : List Value} {r : Nat} {ex : Bool} {olds : List Nat} {ps : List (List Tok)} {Q : Value → St → Prop} {p : Nat → Value → Prog} (h : OutR s.mem v vs r 42 ex olds) (hp : Pcs s.mem (OutF r vs.length olds) lo ps vs b) (h0 : 0 < ps.length) (hlo : ∀ k, OutF r vs.length olds k → lo ≤ k)
    (hk : ∀ s', s'.ctr = s.ctr → (∀ k, k < lo → s'.mem.get k = s.mem.get k) → Ok (fun f => p f (lstV (ps.map fun p => lstV (p.map tokV)))) s' Q) : Ok (fun f => frzL En 20 42 v (p f)) s Q := by
  obtain ⟨m, c, l⟩ := s
  obtain ⟨sy, rfl, a6, a7⟩ := h
  simp only at a6 a7 hp
  have hl := hp.length
  have hone := hp.one
  have hb : Nat.beq vs.length 0 = false := by
    rw [hl]
    cases hq : ps.length with
    | zero => omega
    | succ n => rfl
  have hs : En.size 42 = some 1 := by kernel_rfl
  have h1 : isOneT En 42 = true := by kernel_rfl
  have e3 : ∀ f, frzL En (19 + 1) 42 (.slice (some ⟨r, 0, none⟩) vs.length (capOf vs.length ex)) (p f) = .frz r (vs.length * 1) 0 fun vs' => frzGo (frzL En 19) ((List.replicate vs.length ()).flatMap fun _ => [some 50]) vs' fun vs' => p f (lstV (chunkC true 1 vs.length vs')) := by
    intro f
    unfold frzL
    simp only [hb, hs, Ev.opt, ck, sl42, h1, Nat.mul_eq]
    rfl
  show Ok (fun f => frzL En (19 + 1) 42 (.slice (some ⟨r, 0, none⟩) vs.length (capOf vs.length ex)) (p f)) _ Q
  simp only [e3]
  have hrd : rdCells m r (vs.length * 1) 0 = some vs := by rw [Nat.mul_one]; exact CellsAt.rd a7
  refine Ok.frzO (s1 := ⟨(kill olds m).set r none, c, ⟨true, r, 1⟩ :: killLog olds (⟨false, Nat.add (Nat.add r 1) 0, vs.length * 1⟩ :: l)⟩) (vs := vs) (by simp only [St.frz, a6, Bool.false_or, hrd, hone]) ?_
  have f0 : ∀ k, ¬ OutF r vs.length olds k → ((kill olds m).set r none).get k = m.get k := fun k hk => by
    rw [Tr.get_set, if_neg, kill_at, if_neg]
    · intro hm; exact hk (.inr hm)
    · intro e; exact hk (.inl ⟨by omega, by omega⟩)
  rw [hl]
  refine frz_pcs (O := OutF r vs.length olds) (lo := lo) (hi := b) (hp.congr (fun k _ _ ho => f0 k ho) fun _ _ _ h => h) fun s2 c2 f2 => ?_
  have e5 : chunkC true 1 ps.length (ps.map fun p => lstV (p.map tokV)) = ps.map fun p => lstV (p.map tokV) := by
    have := chunk1s (ps.map fun p => lstV (p.map tokV))
    simpa using this
  rw [e5]
  exact hk s2 c2 fun k hk' => by
    rw [f2 k hk']
    exact f0 k fun ho => by have := hlo k ho; omega
end Go.Proofs.YtpljgnjdlciicaaGreatDoor
/- The program's Split, and what it comes to. -/
namespace Go.Proofs.YtpljgnjdlciicaaGreatDoor
open Go Go.Ev Go.Proofs
def opT (x : ByteArray) : Bool := beqB (bl x) [40] || (beqB (bl x) [91] || beqB (bl x) [123])
def shT (x : ByteArray) : Bool := beqB (bl x) [41] || (beqB (bl x) [93] || beqB (bl x) [125])
/-- The level behind a token. -/
def lvl (n : Int) (t : Tok) : Int := if t.kind = 6 then (if opT t.text = true then n + 1 else if shT t.text = true then (if n > 0 then n - 1 else n) else n) else n
theorem step_ok (s : St) (n : Int) (hn : 0 ≤ n ∧ n ≤ 100000) (t : Tok) : Ok (fun f => callF En (runP En f) 30 [.int .i64 n, tokV t]) s (fun v s' => v = .int .i64 (lvl n t) ∧ Fresh s s') := by
  have hw1 : IntKind.i64.wrap (n + 1) = n + 1 := wrap_in _ (by omega) (by omega)
  have hw2 : IntKind.i64.wrap (n + (-1)) = n - 1 := wrap_in _ (by omega) (by omega)
  have L : ∀ {s' : St} (y : Int), Fresh s s' → y = lvl n t → Ok (fun f => p30_12 f y) s' (fun v s' => v = .int .i64 (lvl n t) ∧ Fresh s s') := fun y f e => by
    refine Ok.step (fun f => p30_12_eq f y) ?_
    exact Ok.ret ⟨by rw [e], f⟩
  refine Ok.step (fun f => f30_eq f n t.kind t.at_ t.en t.text t.t t.n t.sy t.l) ?_
  refine Ok.g rfl ?_
  refine Ok.callP (Ok.newF rfl) ?_
  rintro v s1 ⟨rfl, c1, g1, g2, f1, _⟩
  have F1 : Fresh s s1 := ⟨by omega, f1⟩
  refine Ok.t rfl ?_
  simp only [blk_itP, off_itP]
  refine Ok.callP (Ok.load1 (o := 0 + 0) (by kernel_rfl) ⟨⟨_, g1⟩, g2.get 0 _ rfl⟩) ?_
  rintro v s2 ⟨rfl, m2, c2, l2⟩
  have r2 : Reads s1 s2 := ⟨m2, c2, [_, _], l2, rfl⟩
  have F2 := F1.trans (fresh_reads r2)
  refine Ok.t rfl (Ok.c (fun hk => ?_) (fun hk => ?_))
  · have hk : t.kind ≠ 6 := by
      have hk : Bool.not (decide (t.kind = 6)) = true := hk
      simpa using hk
    exact Ok.ret ⟨by unfold lvl; rw [if_neg hk], F2⟩
  have hk : t.kind = 6 := by
    have hk : Bool.not (decide (t.kind = 6)) = false := hk
    simpa using hk
  refine Ok.callP (Ok.load1 (b := s.ctr) (o := 0 + 3) (v := .string t.text) (by kernel_rfl) ⟨⟨_, by rw [m2]; exact g1⟩, by rw [m2]; exact g2.get 3 _ rfl⟩) ?_
  rintro v s3 ⟨rfl, m3, c3, l3⟩
  have F3 := F2.trans (fresh_reads (⟨m3, c3, [_, _], l3, rfl⟩ : Reads s2 s3))
  refine Ok.t rfl ?_
  simp only [hw1, hw2]
  have e1 : ∀ x, bl (strOf (.string x)) = x.data.toList := fun _ => rfl
  repeat' (first
    | with_reducible refine Ok.c (fun h => ?_) (fun h => ?_)
    | with_reducible refine L _ F3 ?_)
  all_goals (simp only [strOf] at *; unfold lvl opT shT bl; rw [if_pos hk]; simp_all <;> omega)
end Go.Proofs.YtpljgnjdlciicaaGreatDoor
/- The program's Split: its loop. -/
namespace Go.Proofs.YtpljgnjdlciicaaGreatDoor
open Go Go.Ev Go.Proofs
/-- What Split comes to: pieces. -/
def splitT : Int → List Tok → List Tok → List (List Tok)
  | _, [], cur => [cur]
  | n, t :: ts, cur => if n = 0 ∧ t.kind = 4 ∧ beqB (bl t.text) [44] = true then cur :: splitT n ts [] else splitT (lvl n t) ts (cur ++ [t])
theorem lvl_le (n : Int) (t : Tok) (h : 0 ≤ n) : 0 ≤ lvl n t ∧ lvl n t ≤ n + 1 := by
  unfold lvl
  split
  · split
    · omega
    · split
      · split <;> omega
      · omega
  · omega
theorem len45s (a : Option Addr) (n c : Nat) : builtinA En Builtin.len (45 :: []) (Value.slice a n c :: []) = .ret (vInt n) := by kernel_rfl
theorem bld45 (a : Option Addr) (n c : Nat) : buildSliceA En 45 1 ((Prod.mk 0 (Value.slice a n c)) :: []) = Prog.newH (Hdr.mk 1 42 false true true 0 false false []) [Value.slice a n c] (fun k => Prog.ret (.slice (some ⟨k, 0, none⟩) 1 (capOf 1 true))) := by kernel_rfl
theorem appT45 : AppT En 45 42 1 24 := ⟨by kernel_rfl, by kernel_rfl, by kernel_rfl, by kernel_rfl, by omega⟩
/-- The pieces so far: those that are done, and the last one, that grows. -/
def SI (s0 s : St) (v : Value) (ps : List (List Tok)) (cur : List Tok) : Prop :=
  ∃ vs vl r ex olds b c1, OutR s.mem v (vs ++ [vl]) r 42 ex olds ∧ Pcs s.mem (OutF r (vs.length + 1) olds) s0.ctr ps vs b ∧ b ≤ c1 ∧ c1 ≤ s.ctr ∧ Grow s.mem c1 s.ctr 50 8 (toksC cur) vl ∧
    (∀ k, OutF r (vs.length + 1) olds k → s0.ctr ≤ k ∧ k < c1) ∧ (∀ k, k ∈ olds → k < r) ∧ Fresh s0 s
theorem SI.fresh {s0 s s' : St} {v : Value} {ps : List (List Tok)} {cur : List Tok} (h : SI s0 s v ps cur) (f : Fresh s s') : SI s0 s' v ps cur := by
  obtain ⟨vs, vl, r, ex, olds, b, c1, h1, h2, h3, h4, h5, h6, h7, h8⟩ := h
  have hr := h6 (r + (vs.length + 1)) (.inl ⟨by omega, by omega⟩)
  exact ⟨vs, vl, r, ex, olds, b, c1, h1.congr fun k _ g => f.2 k (by simp at g; omega), h2.congr (fun k _ g _ => f.2 k (by omega)) fun _ _ _ h => h, h3, by have := f.1; omega, h5.congr f.1 fun j _ g => f.2 j g, h6, h7, h8.trans f⟩
/-- A piece more. -/
theorem SI.cut {s0 s : St} {v : Value} {ps : List (List Tok)} {cur : List Tok} (h : SI s0 s v ps cur) (hl : ps.length ≤ 20000) {Q : Value → St → Prop} {p : Nat → Value → Prog} (hk : ∀ w s', SI s0 s' w (ps ++ [cur]) [] → Ok (fun f => p f w) s' Q) :
    Ok (fun f => Ev.callP (fun v75 => Ev.callP (p f) (builtinA En Builtin.append (45 :: (45 :: [])) (v :: (v75 :: [])))) (buildSliceA En 45 1 ((Prod.mk 0 (Value.slice none 0 0)) :: []))) s Q := by
  obtain ⟨vs, vl, r, ex, olds, b, c1, h1, h2, h3, h4, h5, h6, h7, h8⟩ := h
  have hlen := h2.length
  have hr := h6 (r + (vs.length + 1)) (.inl ⟨by omega, by omega⟩)
  simp only [bld45]
  refine Ok.callP (Ok.newF rfl) ?_
  rintro w s1 ⟨rfl, c1', g1, g2, f1, _⟩
  have hone : (vs ++ [vl]).all oneC = true := all_append _ _ _ h2.one (by simp [h5.one.1])
  refine Ok.callP (Ok.appO (r := r) (q := s.ctr) (x := .slice none 0 0) appT45 (h1.congr fun k _ g => f1 k (by simp at g; omega)) hone g1 g2 rfl (by omega) (by simp; omega)) ?_
  rintro w s2 ⟨c2, ⟨olds', g3, g4⟩, f2⟩
  refine hk w s2 ⟨vs ++ [vl], .slice none 0 0, s1.ctr, false, olds', s.ctr, s2.ctr, g3, ?_, by omega, Nat.le_refl _, Grow.nil _ _ _ _ _, ?_, ?_, ⟨by have := h8.1; omega, fun k hk => ?_⟩⟩
  · have e : ∀ k, k < s.ctr → k ≠ r → s2.mem.get k = s.mem.get k := fun k a b => by rw [f2 k (by omega) b, f1 k a]
    have hO : ∀ k, k < s.ctr → OutF s1.ctr ((vs ++ [vl]).length + 1) olds' k → OutF r (vs.length + 1) olds k := fun k hk ho => by
      rcases ho with ho | ho
      · omega
      · rcases g4 k ho with rfl | h
        · exact .inl ⟨by omega, by omega⟩
        · exact .inr h
    refine Pcs.snoc (c := c1) (d := s.ctr) (h2.congr (O' := OutF s1.ctr ((vs ++ [vl]).length + 1) olds') (fun k a b ho => e k (by omega) fun h => ho (.inl ⟨by omega, by omega⟩)) fun k a b ho => hO k (by omega) ho) h3 h4 (h5.congr (Nat.le_refl _) fun j a b => e j b ?_) fun k a b ho => ?_
    · intro h; omega
    · have := h6 k (hO k b ho); omega
  · intro k ho
    rcases ho with ho | ho
    · have := h8.1; omega
    · rcases g4 k ho with rfl | h
      · exact ⟨by have := h6 k (.inl ⟨by omega, by omega⟩); omega, by omega⟩
      · have := h6 k (.inr h); omega
  · intro k hk
    rcases g4 k hk with rfl | h
    · omega
    · have := h7 k h; omega
  · have := h6 r (.inl ⟨by omega, by omega⟩)
    have := h8.1
    rw [f2 k (by omega) (by omega), f1 k (by omega), h8.2 k hk]
theorem tail15 {s0 s : St} {x3 : Value} {ps : List (List Tok)} {cur : List Tok} {q : Nat} {t : Tok} {x4 : Int} {x8 : List Value} {x9 x10 : Int} {Q : Value → St → Prop} (h : SI s0 s x3 ps cur) (hq9 : q + 9 ≤ s.ctr) (hq : ∃ hd, s.mem.get q = some (.hdr hd)) (hc : CellsAt s.mem q (q + 1) t.cells) (hl : ps.length + cur.length ≤ 20000) (h4 : 0 ≤ x4 ∧ x4 ≤ 20000)
    (hk : ∀ s', SI s0 s' x3 ps (cur ++ [t]) → Ok (fun f => p15_10 f x3 (lvl x4 t) x8 x9 x10) s' Q) : Ok (fun f => (callP (fun v117 =>
 (cnd
 (Prog.call (callF En (runP En f) 30 [(Value.int IntKind.i64 x4), (Value.agg ⟨((Value.int IntKind.i64 (intOf (at_ (aggOf v117) 0))) :: ((Value.int IntKind.i64 (intOf (at_ (aggOf v117) 1))) :: ((Value.int IntKind.i64 (intOf (at_ (aggOf v117) 2))) :: ((Value.string (strOf (at_ (aggOf v117) 3))) :: ((Value.int IntKind.i64 (intOf (at_ (aggOf v117) 4))) :: ((lstV (elems (at_ (aggOf v117) 5))) :: ((lstV (elems (at_ (aggOf v117) 6))) :: ((lstV (elems (at_ (aggOf v117) 7))) :: []))))))))⟩)]) fun v118 =>
 (cnd
 (Prog.seg (Prog.ret x3) fun v119 s120 _ =>
 (cnd
 (Prog.seg (builtinA En Builtin.len (45 :: []) (x3 :: [])) fun v121 s122 _ =>
 (gdL 2 (writesOf s122) s122 [⟨0, writesOf s120, s120⟩]
 (cnd
 (Prog.seg (Prog.ret x3) fun v123 s124 _ =>
 (gdL 0 (writesOf s124) s124 [⟨2, writesOf s122, s122⟩, ⟨0, writesOf s120, s120⟩]
 (cnd
 (Prog.seg (builtinA En Builtin.len (45 :: []) (x3 :: [])) fun v125 s126 _ =>
 (gdL 32 (writesOf s126) s126 [⟨4, writesOf s124, s124⟩, ⟨2, writesOf s122, s122⟩, ⟨0, writesOf s120, s120⟩]
 (cnd
 (cnd
 (cnd
 (Prog.seg (loadT En 42 (sBlk v123) ((sOff v123) + ((Int.toNat (IntKind.wrap IntKind.i64 ((intOf v125) + (-1 : Int)))) * 1))) fun v127 s128 _ =>
 (gdL 496 (writesOf s128) s128 [⟨6, writesOf s126, s126⟩, ⟨4, writesOf s124, s124⟩, ⟨2, writesOf s122, s122⟩, ⟨0, writesOf s120, s120⟩]
 (Prog.seg (loadT En 50 q 0) fun v129 s130 _ =>
 (gdL 0 (writesOf s130) s130 [⟨9, writesOf s128, s128⟩, ⟨6, writesOf s126, s126⟩, ⟨4, writesOf s124, s124⟩, ⟨2, writesOf s122, s122⟩, ⟨0, writesOf s120, s120⟩]
 (cnd
 (Prog.seg (buildSliceA En 42 1 ((Prod.mk 0 (Value.agg ⟨((Value.int IntKind.i64 (intOf (at_ (aggOf v129) 0))) :: ((Value.int IntKind.i64 (intOf (at_ (aggOf v129) 1))) :: ((Value.int IntKind.i64 (intOf (at_ (aggOf v129) 2))) :: ((Value.string (strOf (at_ (aggOf v129) 3))) :: ((Value.int IntKind.i64 (intOf (at_ (aggOf v129) 4))) :: ((lstV (elems (at_ (aggOf v129) 5))) :: ((lstV (elems (at_ (aggOf v129) 6))) :: ((lstV (elems (at_ (aggOf v129) 7))) :: []))))))))⟩)) :: [])) fun v131 s132 _ =>
 (gdL 1024 (writesOf s132) s132 [⟨10, writesOf s130, s130⟩, ⟨9, writesOf s128, s128⟩, ⟨6, writesOf s126, s126⟩, ⟨4, writesOf s124, s124⟩, ⟨2, writesOf s122, s122⟩, ⟨0, writesOf s120, s120⟩]
 (Prog.seg (builtinA En Builtin.append (42 :: (42 :: [])) (v127 :: (v131 :: []))) fun v133 s134 _ =>
 (gdL 4080 (writesOf s134) s134 [⟨11, writesOf s132, s132⟩, ⟨10, writesOf s130, s130⟩, ⟨9, writesOf s128, s128⟩, ⟨6, writesOf s126, s126⟩, ⟨4, writesOf s124, s124⟩, ⟨2, writesOf s122, s122⟩, ⟨0, writesOf s120, s120⟩]
 (cnd
 (cnd
 (Prog.seg (storeT En 42 (sBlk v119) ((sOff v119) + ((Int.toNat (IntKind.wrap IntKind.i64 ((intOf v121) + (-1 : Int)))) * 1)) v133) fun v135 s136 _ =>
 (gdL 16383 (writesOf s136) s136 [⟨12, writesOf s134, s134⟩, ⟨11, writesOf s132, s132⟩, ⟨10, writesOf s130, s130⟩, ⟨9, writesOf s128, s128⟩, ⟨6, writesOf s126, s126⟩, ⟨4, writesOf s124, s124⟩, ⟨2, writesOf s122, s122⟩, ⟨0, writesOf s120, s120⟩]
 (p15_10 f x3 (intOf v118) x8 x9 x10)))
 Prog.fail
 ((Nat.ble (Nat.succ (Int.toNat (IntKind.wrap IntKind.i64 ((intOf v121) + (-1 : Int))))) (sLen v119)) && Bool.true))
 Prog.fail
 (decide ((0 : Int) ≤ (IntKind.wrap IntKind.i64 ((intOf v121) + (-1 : Int))))))))))
 Prog.fail
 ((isAggV v129) && (okKs ((Kd.int IntKind.i64) :: ((Kd.int IntKind.i64) :: ((Kd.int IntKind.i64) :: (Kd.str :: ((Kd.int IntKind.i64) :: (Kd.lst :: (Kd.lst :: (Kd.lst :: [])))))))) (aggOf v129))))))))
 Prog.fail
 ((Nat.ble (Nat.succ (Int.toNat (IntKind.wrap IntKind.i64 ((intOf v125) + (-1 : Int))))) (sLen v123)) && Bool.true))
 Prog.fail
 (decide ((0 : Int) ≤ (IntKind.wrap IntKind.i64 ((intOf v125) + (-1 : Int))))))
 Prog.fail
 (okK (Kd.int IntKind.i64) v125))))
 Prog.fail
 (isSl v123))))
 Prog.fail
 (okK (Kd.int IntKind.i64) v121))))
 Prog.fail
 (isSl v119)))
 Prog.fail
 (okK (Kd.int IntKind.i64) v118)))
 Prog.fail
 ((isAggV v117) && (okKs ((Kd.int IntKind.i64) :: ((Kd.int IntKind.i64) :: ((Kd.int IntKind.i64) :: (Kd.str :: ((Kd.int IntKind.i64) :: (Kd.lst :: (Kd.lst :: (Kd.lst :: [])))))))) (aggOf v117)))))
 (loadT En 50 q 0))) s Q := by
  obtain ⟨hd, hq⟩ := hq
  have hw : ∀ n : Nat, n ≤ 20000 → IntKind.i64.wrap (((n + 1 : Nat) : Int) + (-1)) = (n : Int) := fun n hn => by
    rw [wrap_in _ (by omega) (by omega)]; omega
  refine Ok.callP (Ok.loadA (n := 8) (vs := t.cells) (by kernel_rfl) (by kernel_rfl) rfl ⟨_, hq⟩ hc) ?_
  rintro v s1 ⟨rfl, m1, c1, l1⟩
  have r1 : Reads s s1 := ⟨m1, c1, [_, _], l1, rfl⟩
  refine Ok.t rfl ?_
  refine Ok.call (step_ok s1 x4 ⟨h4.1, by omega⟩ t) ?_
  rintro v s2 ⟨rfl, f2⟩
  have F2 := (fresh_reads r1).trans f2
  have h2 := h.fresh F2
  refine Ok.t rfl ?_
  have hqlt : q < s.ctr ∧ q + 9 ≤ s.ctr := ⟨by omega, hq9⟩
  obtain ⟨vs, vl, r, ex, olds, b, c1', g1, g2, g3, g4, g5, g6, g7, g8⟩ := h2
  have hlen := g2.length
  obtain ⟨sy, rfl, a6, a7⟩ := id g1
  have hln : (vs ++ [vl]).length = vs.length + 1 := by simp
  simp only [hln] at *
  refine Ok.segRet fun s3 r3 => ?_
  refine Ok.t rfl ?_
  simp only [len45s]
  refine Ok.segRet fun s4 r4 => ?_
  have r4 := r3.trans r4
  refine Ok.gdL (by kernel_rfl) (Ok.t rfl ?_)
  refine Ok.segRet fun s5 r5 => ?_
  have r5 := r4.trans r5
  refine Ok.gdL (by kernel_rfl) (Ok.t rfl ?_)
  refine Ok.segRet fun s6 r6 => ?_
  have r6 := r5.trans r6
  refine Ok.gdL (by kernel_rfl) (Ok.t rfl ?_)
  have hwi : IntKind.i64.wrap (intOf (vInt ((vs.length + 1 : Nat) : Int)) + (-1)) = (vs.length : Int) := hw _ (by omega)
  simp only [hwi, Int.toNat_natCast, sBlk_s, sOff_s, sLen_s]
  refine Ok.t (decide_eq_true (by omega)) (Ok.t ?_ ?_)
  · simp only [Bool.and_true]; exact Nat.ble_eq_true_of_le (Nat.le_refl _)
  refine Ok.segLoad (b := r) (o := 0 + vs.length * 1) (v := vl) (by kernel_rfl) ⟨⟨_, by rw [r6.1]; exact a6⟩, by rw [r6.1, Nat.zero_add, Nat.mul_one]; exact a7.get vs.length vl (by simp)⟩ fun s7 r7 => ?_
  have r7 := r6.trans r7
  refine Ok.gdL (by kernel_rfl) ?_
  refine Ok.segLoadA (n := 8) (b := q) (o := 0) (vs := t.cells) (by kernel_rfl) (by kernel_rfl) rfl ⟨_, by rw [r7.1, F2.2 q hqlt.1]; exact hq⟩ (hc.congr fun j a b => by rw [r7.1, F2.2 j (by simp [Tok.cells] at b; omega)]) fun s8 r8 => ?_
  have r8 := r7.trans r8
  refine Ok.gdL (by kernel_rfl) (Ok.t rfl ?_)
  have eb : buildSliceA En 42 1 [(0, Value.agg ⟨[.int .i64 t.kind, .int .i64 t.at_, .int .i64 t.en, .string t.text, .int .i64 t.t, lstV t.n, lstV t.sy, lstV t.l]⟩)] = .ret (xlstV [tokV t]) := by kernel_rfl
  refine Ok.seg (Q1 := fun v s' => v = xlstV [tokV t] ∧ s' = ⟨s8.mem, s8.ctr, []⟩) ?_ ?_
  · exact ⟨_, _, ⟨rfl, rfl⟩, 0, fun f _ => by
      show (buildSliceA En 42 1 [(0, Value.agg ⟨[.int .i64 t.kind, .int .i64 t.at_, .int .i64 t.en, .string t.text, .int .i64 t.t, lstV t.n, lstV t.sy, lstV t.l]⟩)]).run _ = _
      rw [eb]; rfl⟩
  rintro v s9 ⟨rfl, rfl⟩
  refine Ok.gdL (by kernel_rfl) ?_
  have c8 := r8.2.1
  refine Ok.seg (Ok.app (s := ⟨s8.mem, s8.ctr, []⟩) (e := tokV t) appT23 (g5.congr (by simp only; omega) fun j _ _ => by simp only; rw [r8.1]) rfl rfl (by simp only; omega) (by rw [toksC_length]; omega)) ?_
  rintro w s9 ⟨k1, k2, k3⟩
  simp only at k2 k3
  refine Ok.gdL (freeL_nil _ fun d hd => ?_) ?_
  · simp only [List.mem_cons, List.not_mem_nil, or_false] at hd
    rcases hd with rfl | rfl | rfl | rfl | rfl | rfl | rfl
    · exact .inl (show Nat.testBit 4080 11 = true by decide)
    · exact .inl (show Nat.testBit 4080 10 = true by decide)
    · exact .inl (show Nat.testBit 4080 9 = true by decide)
    · exact .inl (show Nat.testBit 4080 6 = true by decide)
    · exact .inl (show Nat.testBit 4080 4 = true by decide)
    · exact .inr ⟨rfl, rfl⟩
    · exact .inr ⟨rfl, rfl⟩
  refine Ok.t (decide_eq_true (by omega)) (Ok.t ?_ ?_)
  · simp only [Bool.and_true]; exact Nat.ble_eq_true_of_le (Nat.le_refl _)
  have hw1 := k1.one
  have hrc : r + 1 + (vs.length + 1) ≤ c1' := by have := g6 (r + (vs.length + 1)) (.inl ⟨by omega, by omega⟩); omega
  have O9 : OutR s9.mem (.slice (some ⟨r, 0, none⟩) (vs.length + 1) (capOf (vs.length + 1) ex)) (vs ++ [vl]) r 42 ex olds := g1.congr fun k a b => by rw [k3 k (by simp at b; omega), r8.1]
  simp only [Nat.zero_add, Nat.mul_one]
  refine Ok.seg (Ok.storeO (s := ⟨s9.mem, s9.ctr, []⟩) (i := vs.length) (by kernel_rfl) hw1.2 O9 (by simp) hw1.1 g7) ?_
  rintro v sA ⟨rfl, cA, gA, fA⟩
  have hln : (vs ++ [vl]).length = vs.length + 1 := by simp
  simp only [hln] at cA fA
  refine Ok.gdL (by kernel_rfl) ?_
  refine hk _ ⟨vs, w, r, ex, [], b, c1', ?_, ?_, g3, by simp only; omega, ?_, ?_, (fun k hk => by cases hk), ?_⟩
  · simpa using gA
  · refine g2.congr (fun k _ hk ho => ?_) fun k _ _ ho => ?_
    · simp only; rw [fA k ho, k3 k (by omega), r8.1]
    · rcases ho with ho | ho
      · exact .inl ho
      · cases ho
  · rw [toksC_append]
    have e : toksC [t] = t.cells := by simp [toksC]
    rw [e]
    exact k1.congr (by simp only; omega) fun j a _ => fA j fun ho => by have := g6 j ho; omega
  · intro k ho
    rcases ho with ho | ho
    · exact g6 k (.inl ho)
    · cases ho
  · refine ⟨by have := g8.1; simp only; omega, fun k hk => ?_⟩
    simp only
    rw [fA k fun ho => by have := g6 k ho; omega, k3 k (by have := g6 r (.inl ⟨by omega, by omega⟩); omega), r8.1, g8.2 k hk]
end Go.Proofs.YtpljgnjdlciicaaGreatDoor
/- The reference's Match: a value matches itself. -/
namespace Go.Ev
open Go
/-- A load, outside a drawn region. -/
theorem Ok.pl {E : Env} {t b o : Nat} {v : Value} {s : St} {Q : Value → St → Prop} {k : Nat → Value → Prog} (hs : scal E t = true) (h : Cell s.mem b o v)
    (hk : ∀ s1, Reads s s1 → Ok (fun f => k f v) s1 Q) : Ok (fun f => Ev.callP (k f) (loadT E t b o)) s Q := by
  refine Ok.callP (Ok.load1 hs h) ?_
  rintro w s1 ⟨rfl, e1, e2, e3⟩
  exact hk s1 ⟨e1, e2, [⟨false, b + 1 + o, 1⟩, ⟨false, b, 1⟩], e3, rfl⟩
end Go.Ev
namespace Go.Proofs.YtpljgnjdlciicaaGreatDoor
open Go Go.Ev Go.Proofs
/-- A value of the language, as a tree of lists. -/
inductive VF : Value → Prop
  | mk {t : Int} {n sy l : List Value} : n.length ≤ 9223372036854775807 → sy.length ≤ 9223372036854775807 → l.length ≤ 9223372036854775807 → (∀ x, x ∈ n → ∃ i, x = .int .i64 i) → (∀ x, x ∈ sy → ∃ b, x = .string b) → (∀ x, x ∈ l → VF x) →
      VF (.agg ⟨[.int .i64 t, lstV n, lstV sy, lstV l]⟩)
def v4 (t : Int) (n sy l : List Value) : List Value := [.int .i64 t, lstV n, lstV sy, lstV l]
theorem elems_lst (l : List Value) : elems (lstV l) = l := rfl
theorem atq {l : List Value} {i : Nat} {x : Value} (h : l[i]? = some x) : at_ l i = x := by
  induction l generalizing i with
  | nil => simp at h
  | cons a l ih =>
    cases i with
    | zero => simpa [at_] using h
    | succ i => simp only [List.getElem?_cons_succ] at h; exact ih h
theorem atmem {l : List Value} {i : Nat} (h : i < l.length) : at_ l i ∈ l := by
  rw [atq (List.getElem?_eq_getElem h)]
  exact List.getElem_mem h
/-- Two rows of a value, side by side. -/
structure MI (s : St) (a b : Nat) (vs : List Value) : Prop where
  ra : Row s.mem a vs
  rb : Row s.mem b vs
  la : a + 1 + vs.length ≤ s.ctr
  lb : b + 1 + vs.length ≤ s.ctr
theorem MI.fresh {s s' : St} {a b : Nat} {vs : List Value} (h : MI s a b vs) (f : Fresh s s') : MI s' a b vs :=
  ⟨h.ra.congr fun j _ h2 => f.2 j (by have := h.la; omega), h.rb.congr fun j _ h2 => f.2 j (by have := h.lb; omega), by have := h.la; have := f.1; omega, by have := h.lb; have := f.1; omega⟩
def MQ (s : St) (v : Value) (s' : St) : Prop := v = .bool true ∧ Fresh s s'
theorem Ok.mq {s s1 : St} {p : Nat → Prog} (f : Fresh s s1) (h : Ok p s1 (MQ s1)) : Ok p s1 (MQ s) := Ok.mono h fun _ _ q => ⟨q.1, f.trans q.2⟩
theorem hd_int {l : List Value} (h : ∀ x, x ∈ l → ∃ i, x = .int .i64 i) : hdOk 1 l = true := by
  cases l with
  | nil => rfl
  | cons a l => obtain ⟨i, rfl⟩ := h a (List.mem_cons_self ..); rfl
theorem hd_str {l : List Value} (h : ∀ x, x ∈ l → ∃ b, x = .string b) : hdOk 1 l = true := by
  cases l with
  | nil => rfl
  | cons a l => obtain ⟨i, rfl⟩ := h a (List.mem_cons_self ..); rfl
theorem hd_vf {l : List Value} (h : ∀ x, x ∈ l → VF x) : hdOk 4 l = true := by
  cases l with
  | nil => rfl
  | cons a l => obtain ⟨_, _, _, _, _, _⟩ := h a (List.mem_cons_self ..); rfl
section
variable {t : Int} {n sy l : List Value} {a b : Nat}
theorem s28 : scal En 30 = true := by kernel_rfl
theorem s29 : scal En 31 = true := by kernel_rfl
theorem s30 : scal En 32 = true := by kernel_rfl
theorem s3' : scal En 3 = true := by kernel_rfl
theorem match14 (hl : l.length ≤ 9223372036854775807) (hv : ∀ x, x ∈ l → ∀ s, Ok (fun f => callF En (runP En f) 32 [x, x]) s (MQ s)) (hf : ∀ x, x ∈ l → VF x) : ∀ (m i : Nat) (s : St), i + m = l.length → MI s a b (v4 t n sy l) → Ok (fun f => p32_14 f a 0 b 0 (i : Int)) s (MQ s) := by
  intro m
  induction m with
  | zero =>
    intro i s hm h
    refine Ok.step (fun f => p32_14_eq f a 0 b 0 i) ?_
    refine Ok.pl s30 (h.ra.cell 3 rfl) fun s1 r1 => ?_
    refine Ok.t rfl ?_
    refine Ok.f (decide_eq_false (by simp only [elems_lst, Int.ofNat_eq_natCast]; omega)) ?_
    exact Ok.ret ⟨rfl, r1.fresh⟩
  | succ m ih =>
    intro i s hm h
    have hi : i < l.length := by omega
    have hmem := atmem hi
    have hx := hf _ hmem
    have hcall := hv _ hmem
    have b1 : decide ((0 : Int) ≤ (i : Int)) = true := decide_eq_true (by omega)
    have b2 : ((Nat.ble (Nat.succ (Int.toNat (i : Int))) (List.length l)) && Bool.true && (hdOk 4 l)) = true := by
      rw [hd_vf hf, Bool.and_true, Bool.and_true]
      exact Nat.ble_eq_true_of_le (by simp only [Int.toNat_natCast]; omega)
    have hw1 : IntKind.i64.wrap ((i : Int) + 1) = ((i + 1 : Nat) : Int) := by rw [wrap_in _ (by omega) (by omega)]; omega
    refine Ok.step (fun f => p32_14_eq f a 0 b 0 i) ?_
    refine Ok.pl s30 (h.ra.cell 3 rfl) fun s1 r1 => ?_
    refine Ok.t rfl ?_
    refine Ok.t (decide_eq_true (by simp only [elems_lst, Int.ofNat_eq_natCast]; omega)) ?_
    refine Ok.segLoad s30 ((h.ra.cell 3 rfl).reads r1) fun s2 r2 => ?_
    have r2 := r1.trans r2
    simp only [elems_lst, Int.toNat_natCast]
    simp only [Int.toNat_natCast] at b2
    generalize hxe : at_ l i = x at *
    obtain ⟨_, _, _, _, _, _⟩ := hx
    refine Ok.t rfl (Ok.t b1 (Ok.t b2 (Ok.t rfl (Ok.t rfl ?_))))
    refine Ok.segLoad s30 ((h.rb.cell 3 rfl).reads r2) fun s3 r3 => ?_
    have r3 := r2.trans r3
    refine Ok.gdL (by kernel_rfl) ?_
    simp only [elems_lst, hxe]
    refine Ok.t rfl (Ok.t b1 (Ok.t b2 (Ok.t rfl (Ok.t rfl ?_))))
    refine Ok.seg (hcall _) ?_
    rintro w s4 ⟨rfl, f4⟩
    refine Ok.gdL (by simp only [freeL]; rfl) ?_
    refine Ok.t rfl (Ok.f rfl ?_)
    rw [hw1]
    have f3 : Fresh s ⟨s4.mem, s4.ctr, s4.log ++ s3.log⟩ := r3.fresh.trans ⟨f4.1, f4.2⟩
    exact Ok.mq f3 (ih (i + 1) _ (by omega) (h.fresh f3))
theorem match9 (hl : l.length ≤ 9223372036854775807) (hv : ∀ x, x ∈ l → ∀ s, Ok (fun f => callF En (runP En f) 32 [x, x]) s (MQ s)) (hf : ∀ x, x ∈ l → VF x) (hy : sy.length ≤ 9223372036854775807) (hs : ∀ x, x ∈ sy → ∃ b, x = .string b) : ∀ (m i : Nat) (s : St), i + m = sy.length → MI s a b (v4 t n sy l) → Ok (fun f => p32_9 f a 0 b 0 (i : Int)) s (MQ s) := by
  intro m
  induction m with
  | zero =>
    intro i s hm h
    refine Ok.step (fun f => p32_9_eq f a 0 b 0 i) ?_
    refine Ok.pl s29 (h.ra.cell 2 rfl) fun s1 r1 => ?_
    refine Ok.t rfl ?_
    refine Ok.f (decide_eq_false (by simp only [elems_lst, Int.ofNat_eq_natCast]; omega)) ?_
    exact Ok.mq r1.fresh (match14 hl hv hf l.length 0 s1 (by omega) (h.fresh r1.fresh))
  | succ m ih =>
    intro i s hm h
    have hi : i < sy.length := by omega
    obtain ⟨x, hx⟩ := hs _ (atmem hi)
    have b1 : decide ((0 : Int) ≤ (i : Int)) = true := decide_eq_true (by omega)
    have b2 : ((Nat.ble (Nat.succ i) (List.length sy)) && Bool.true && (hdOk 1 sy)) = true := by
      rw [hd_str hs, Bool.and_true, Bool.and_true]
      exact Nat.ble_eq_true_of_le (by omega)
    have hw1 : IntKind.i64.wrap ((i : Int) + 1) = ((i + 1 : Nat) : Int) := by rw [wrap_in _ (by omega) (by omega)]; omega
    refine Ok.step (fun f => p32_9_eq f a 0 b 0 i) ?_
    refine Ok.pl s29 (h.ra.cell 2 rfl) fun s1 r1 => ?_
    refine Ok.t rfl ?_
    refine Ok.t (decide_eq_true (by simp only [elems_lst, Int.ofNat_eq_natCast]; omega)) ?_
    refine Ok.segLoad s29 ((h.ra.cell 2 rfl).reads r1) fun s2 r2 => ?_
    have r2 := r1.trans r2
    simp only [elems_lst, Int.toNat_natCast, hx]
    refine Ok.t rfl (Ok.t b1 (Ok.t b2 (Ok.t rfl (Ok.t rfl ?_))))
    refine Ok.segLoad s29 ((h.rb.cell 2 rfl).reads r2) fun s3 r3 => ?_
    have r3 := r2.trans r3
    refine Ok.gdL (by kernel_rfl) ?_
    simp only [elems_lst, hx]
    refine Ok.t rfl (Ok.t b1 (Ok.t b2 (Ok.t rfl (Ok.t rfl (Ok.f ?_ ?_)))))
    · rw [beqB_eq]; simp
    rw [hw1]
    exact Ok.mq r3.fresh (ih (i + 1) _ (by omega) (h.fresh r3.fresh))
theorem match4 (hl : l.length ≤ 9223372036854775807) (hv : ∀ x, x ∈ l → ∀ s, Ok (fun f => callF En (runP En f) 32 [x, x]) s (MQ s)) (hf : ∀ x, x ∈ l → VF x) (hy : sy.length ≤ 9223372036854775807) (hs : ∀ x, x ∈ sy → ∃ b, x = .string b)
    (hn : n.length ≤ 9223372036854775807) (hi : ∀ x, x ∈ n → ∃ i, x = .int .i64 i) : ∀ (m i : Nat) (s : St), i + m = n.length → MI s a b (v4 t n sy l) → Ok (fun f => p32_4 f a 0 b 0 (i : Int)) s (MQ s) := by
  intro m
  induction m with
  | zero =>
    intro i s hm h
    refine Ok.step (fun f => p32_4_eq f a 0 b 0 i) ?_
    refine Ok.pl s28 (h.ra.cell 1 rfl) fun s1 r1 => ?_
    refine Ok.t rfl ?_
    refine Ok.f (decide_eq_false (by simp only [elems_lst, Int.ofNat_eq_natCast]; omega)) ?_
    exact Ok.mq r1.fresh (match9 hl hv hf hy hs sy.length 0 s1 (by omega) (h.fresh r1.fresh))
  | succ m ih =>
    intro i s hm h
    have hin : i < n.length := by omega
    obtain ⟨x, hx⟩ := hi _ (atmem hin)
    have b1 : decide ((0 : Int) ≤ (i : Int)) = true := decide_eq_true (by omega)
    have b2 : ((Nat.ble (Nat.succ i) (List.length n)) && Bool.true && (hdOk 1 n)) = true := by
      rw [hd_int hi, Bool.and_true, Bool.and_true]
      exact Nat.ble_eq_true_of_le (by omega)
    have hw1 : IntKind.i64.wrap ((i : Int) + 1) = ((i + 1 : Nat) : Int) := by rw [wrap_in _ (by omega) (by omega)]; omega
    refine Ok.step (fun f => p32_4_eq f a 0 b 0 i) ?_
    refine Ok.pl s28 (h.ra.cell 1 rfl) fun s1 r1 => ?_
    refine Ok.t rfl ?_
    refine Ok.t (decide_eq_true (by simp only [elems_lst, Int.ofNat_eq_natCast]; omega)) ?_
    refine Ok.segLoad s28 ((h.ra.cell 1 rfl).reads r1) fun s2 r2 => ?_
    have r2 := r1.trans r2
    simp only [elems_lst, Int.toNat_natCast, hx]
    refine Ok.t rfl (Ok.t b1 (Ok.t b2 (Ok.t rfl (Ok.t rfl ?_))))
    refine Ok.segLoad s28 ((h.rb.cell 1 rfl).reads r2) fun s3 r3 => ?_
    have r3 := r2.trans r3
    refine Ok.gdL (by kernel_rfl) ?_
    simp only [elems_lst, hx]
    refine Ok.t rfl (Ok.t b1 (Ok.t b2 (Ok.t rfl (Ok.t rfl (Ok.f (by simp) ?_)))))
    rw [hw1]
    exact Ok.mq r3.fresh (ih (i + 1) _ (by omega) (h.fresh r3.fresh))
end
theorem match_ok {v : Value} (h : VF v) : ∀ s, Ok (fun f => callF En (runP En f) 32 [v, v]) s (MQ s) := by
  induction h with
  | @mk t n sy l hn hy hl hi hs hf ih =>
    intro s
    refine Ok.step (fun f => f32_eq f t n sy l t n sy l) ?_
    refine Ok.g rfl ?_
    refine Ok.callP (Ok.newF (vs := v4 t n sy l) rfl) ?_
    rintro w s1 ⟨rfl, c1, g1, g2, g3, _⟩
    refine Ok.t rfl (Ok.g rfl ?_)
    refine Ok.callP (Ok.newF (vs := v4 t n sy l) rfl) ?_
    rintro w s2 ⟨rfl, c2, k1, k2, k3, _⟩
    refine Ok.t rfl ?_
    have hr1 : Row s1.mem s.ctr (v4 t n sy l) := ⟨⟨_, _, _, _, g1⟩, g2⟩
    have hr2 : Row s2.mem s1.ctr (v4 t n sy l) := ⟨⟨_, _, _, _, k1⟩, k2⟩
    have m2 : MI s2 s.ctr s1.ctr (v4 t n sy l) := ⟨hr1.congr fun j _ h2 => k3 j (by simp only [v4, List.length_cons, List.length_nil] at h2; omega), hr2, by simp only [v4, List.length_cons, List.length_nil]; omega, by simp only [v4, List.length_cons, List.length_nil]; omega⟩
    have f2 : Fresh s s2 := ⟨by omega, fun k hk => by rw [k3 k (by omega), g3 k hk]⟩
    simp only [show ∀ c, blkOf (itP c) = c from fun _ => rfl, show ∀ c, offOf (itP c) = 0 from fun _ => rfl]
    refine Ok.pl s3' (m2.ra.cell 0 rfl) fun s3 r3 => ?_
    refine Ok.t rfl ?_
    have f3 := f2.trans r3.fresh
    have m3 := m2.fresh r3.fresh
    refine Ok.pl s3' (m3.rb.cell 0 rfl) fun s4 r4 => ?_
    have f4 := f3.trans r4.fresh
    have m4 := m3.fresh r4.fresh
    refine Ok.t rfl (Ok.f (by simp) ?_)
    refine Ok.pl s28 (m4.ra.cell 1 rfl) fun s5 r5 => ?_
    have f5 := f4.trans r5.fresh
    have m5 := m4.fresh r5.fresh
    refine Ok.t rfl ?_
    refine Ok.pl s28 (m5.rb.cell 1 rfl) fun s6 r6 => ?_
    have f6 := f5.trans r6.fresh
    have m6 := m5.fresh r6.fresh
    refine Ok.t rfl (Ok.f (by simp) ?_)
    refine Ok.pl s29 (m6.ra.cell 2 rfl) fun s7 r7 => ?_
    have f7 := f6.trans r7.fresh
    have m7 := m6.fresh r7.fresh
    refine Ok.t rfl ?_
    refine Ok.pl s29 (m7.rb.cell 2 rfl) fun s8 r8 => ?_
    have f8 := f7.trans r8.fresh
    have m8 := m7.fresh r8.fresh
    refine Ok.t rfl (Ok.f (by simp) ?_)
    refine Ok.pl s30 (m8.ra.cell 3 rfl) fun s9 r9 => ?_
    have f9 := f8.trans r9.fresh
    have m9 := m8.fresh r9.fresh
    refine Ok.t rfl ?_
    refine Ok.pl s30 (m9.rb.cell 3 rfl) fun s10 r10 => ?_
    have f10 := f9.trans r10.fresh
    have m10 := m9.fresh r10.fresh
    refine Ok.t rfl (Ok.f (by simp) ?_)
    exact Ok.mq f10 (match4 hl ih hf hy hs hn hi n.length 0 s10 (by omega) m10)
end Go.Proofs.YtpljgnjdlciicaaGreatDoor
/- The program's Split: its loop, whole. -/
namespace Go.Proofs.YtpljgnjdlciicaaGreatDoor
open Go Go.Ev Go.Proofs
theorem hd_toks (ts : List Tok) : hdOk 8 (ts.map tokV) = true := by
  cases ts with
  | nil => rfl
  | cons t ts => rfl
/-- What stands for pieces. -/
def pcsV (ps : List (List Tok)) : List Value := ps.map fun p => lstV (p.map tokV)
theorem getmid {α : Type} (a : List α) (x : α) (b : List α) : (a ++ x :: b)[a.length]? = some x := by simp
theorem splitT_len (n : Int) (ts cur : List Tok) : 0 < (splitT n ts cur).length := by
  induction ts generalizing n cur with
  | nil => simp [splitT]
  | cons t ts ih =>
    unfold splitT
    split
    · simp
    · exact ih _ _
theorem split_loop {s0 : St} {ts : List Tok} (hl : ts.length ≤ 16384) : ∀ (rest done : List Tok) (s : St) (v : Value) (ps : List (List Tok)) (cur : List Tok) (n : Int), ts = done ++ rest → SI s0 s v ps cur → ps.length + cur.length ≤ done.length → 0 ≤ n ∧ n ≤ done.length →
    Ok (fun f => p15_4 f v n (ts.map tokV) (Int.ofNat (ts.map tokV).length) (done.length : Int)) s (fun w s' => w = lstV (pcsV (ps ++ splitT n rest cur)) ∧ Fresh s0 s') := by
  intro rest
  induction rest with
  | nil =>
    intro done s v ps cur n e hI hle hn
    simp only [List.append_nil] at e
    subst e
    refine Ok.step (fun f => p15_4_eq f v n _ _ _) ?_
    refine Ok.f (decide_eq_false (by simp)) ?_
    obtain ⟨vs, vl, r, ex, olds, b, c1, h1, h2, h3, h4, h5, h6, h7, h8⟩ := hI
    have hlen := h2.length
    have e1 : (vs ++ [vl]).length = vs.length + 1 := by simp
    refine frz_out (lo := s0.ctr) (b := s.ctr) (ps := ps ++ [cur]) h1 ?_ (by simp) (fun k hk => (h6 k (by rw [← e1]; exact hk)).1) fun s' c' f' => ?_
    · rw [e1]
      exact h2.snoc h3 h4 h5 fun k a b ho => by have := h6 k ho; omega
    · exact Ok.ret ⟨rfl, ⟨by have := h8.1; omega, fun k hk => by rw [f' k hk, h8.2 k hk]⟩⟩
  | cons t rest ih =>
    intro done s v ps cur n e hI hle hn
    have hdl : done.length + 1 ≤ ts.length := by rw [e]; simp
    have hi : at_ (ts.map tokV) (Int.toNat (done.length : Int)) = tokV t := by
      refine atq ?_
      rw [Int.toNat_natCast, List.getElem?_map, e, getmid]; rfl
    refine Ok.step (fun f => p15_4_eq f v n _ _ _) ?_
    refine Ok.t (decide_eq_true (by simp only [Int.ofNat_eq_natCast, List.length_map]; omega)) ?_
    simp only [hi]
    refine Ok.t (decide_eq_true (by omega)) (Ok.t ?_ (Ok.t rfl (Ok.t rfl ?_)))
    · rw [hd_toks, Bool.and_true, Bool.and_true]; exact Nat.ble_eq_true_of_le (by simp only [List.length_map, Int.toNat_natCast]; omega)
    refine Ok.callP (Ok.newF rfl) ?_
    rintro w s1 ⟨rfl, c1, g1, g2, f1, _⟩
    refine Ok.t rfl ?_
    simp only [blk_itP, off_itP]
    refine Ok.callP (Ok.storeRow (n := 8) (ws := t.cells) (by kernel_rfl) (⟨⟨_, _, _, _, g1⟩, g2⟩ : Row s1.mem s.ctr [.int .i64 0, .int .i64 0, .int .i64 0, .string (mkStr []), .int .i64 0, .slice none 0 0, .slice none 0 0, .slice none 0 0]) rfl rfl rfl) ?_
    rintro w s2 ⟨rfl, c2, R2, f2⟩
    have F2 : Fresh s s2 := ⟨by omega, fun k hk => by rw [f2 k (.inl (by omega)), f1 k hk]⟩
    have hI2 := hI.fresh F2
    have lv := lvl_le n t hn.1
    -- behind it
    have next : ∀ (s : St) (v : Value) (ps : List (List Tok)) (cur : List Tok) (n : Int), SI s0 s v ps cur → ps.length + cur.length ≤ done.length + 1 → 0 ≤ n ∧ n ≤ done.length + 1 → Ok (fun f => p15_10 f v n (ts.map tokV) (Int.ofNat (ts.map tokV).length) (done.length : Int)) s (fun w s' => w = lstV (pcsV (ps ++ splitT n rest cur)) ∧ Fresh s0 s') := fun s v ps cur n hI h1 h2 => by
      refine Ok.step (fun f => p15_10_eq f v n _ _ _) ?_
      rw [wrap1 (show 0 ≤ (done.length : Int) ∧ (done.length : Int) ≤ 1000000 by omega)]
      have := ih (done ++ [t]) s v ps cur n (by rw [e]; simp) hI (by simp; omega) (by simp; omega)
      simpa using this
    have row : ∀ {s' : St}, Reads s2 s' → CellsAt s'.mem s.ctr (s.ctr + 1) t.cells ∧ (∃ hd, s'.mem.get s.ctr = some (.hdr hd)) := fun r => by
      rw [r.1]; exact ⟨R2.2, hdr_of R2⟩
    have more : ∀ {s' : St}, Reads s2 s' → ¬ (n = 0 ∧ t.kind = 4 ∧ beqB (bl t.text) [44] = true) → Ok _ s' (fun w s' => w = lstV (pcsV (ps ++ splitT n (t :: rest) cur)) ∧ Fresh s0 s') := fun {s'} r hno => by
      have e2 : splitT n (t :: rest) cur = splitT (lvl n t) rest (cur ++ [t]) := if_neg hno
      rw [e2]
      exact tail15 (hI2.fresh (fresh_reads r)) (by rw [r.2.1]; omega) (row r).2 (row r).1 (by omega) (by omega) fun s3 h3 => next s3 v ps (cur ++ [t]) _ h3 (by simp; omega) (by omega)
    refine Ok.c (fun h0 => ?_) (fun h0 => more (Reads.refl _) fun h => of_decide_eq_false h0 h.1)
    have h0 := of_decide_eq_true h0
    refine Ok.callP (Ok.load1 (b := s.ctr) (o := 0 + 0) (v := .int .i64 t.kind) (by kernel_rfl) (R2.cell 0 rfl)) ?_
    rintro w s3 ⟨rfl, m3, c3, l3⟩
    have r3 : Reads s2 s3 := ⟨m3, c3, [_, _], l3, rfl⟩
    refine Ok.t rfl (Ok.c (fun h4 => ?_) (fun h4 => more r3 fun h => of_decide_eq_false h4 h.2.1))
    have h4 : t.kind = 4 := of_decide_eq_true h4
    refine Ok.callP (Ok.load1 (b := s.ctr) (o := 0 + 3) (v := .string t.text) (by kernel_rfl) (by rw [r3.1]; exact R2.cell 3 rfl)) ?_
    rintro w s4 ⟨rfl, m4, c4, l4⟩
    have r4 := r3.trans (⟨m4, c4, [_, _], l4, rfl⟩ : Reads s3 s4)
    refine Ok.t rfl (Ok.c (fun h44 => ?_) (fun h44 => more r4 fun h => ?_))
    · have e2 : splitT n (t :: rest) cur = cur :: splitT n rest [] := if_pos ⟨h0, h4, h44⟩
      rw [e2]
      refine SI.cut (hI2.fresh (fresh_reads r4)) (by omega) fun w s5 h5 => ?_
      have := next s5 w (ps ++ [cur]) [] n h5 (by simp; omega) ⟨by omega, by omega⟩
      simpa using this
    · have h44 : beqB (bl t.text) [44] = false := h44
      rw [h44] at h; cases h.2.2
theorem split_ok (s : St) {ts : List Tok} (hl : ts.length ≤ 16384) : Ok (fun f => callF En (runP En f) 15 [lstV (ts.map tokV)]) s (fun w s' => w = lstV (pcsV (splitT 0 ts [])) ∧ Fresh s s') := by
  refine Ok.step (fun f => f15_eq f (ts.map tokV)) ?_
  simp only [bld45]
  refine Ok.callP (Ok.newF rfl) ?_
  rintro w s1 ⟨rfl, c1, g1, g2, f1, _⟩
  have := split_loop (s0 := s) hl ts [] s1 (.slice (some ⟨s.ctr, 0, none⟩) 1 (capOf 1 true)) [] [] 0 rfl ⟨[], .slice none 0 0, s.ctr, true, [], s.ctr, s1.ctr, ⟨false, rfl, g1, g2⟩, Nat.le_refl _, by omega, Nat.le_refl _, Grow.nil _ _ _ _ _, fun k ho => ?_, (fun k hk => by cases hk), ⟨by omega, f1⟩⟩ (by simp) (by simp)
  · exact this
  · rcases ho with ho | ho
    · simp at ho; omega
    · cases ho
end Go.Proofs.YtpljgnjdlciicaaGreatDoor
/- The reference's levels and Split. -/
namespace Go.Proofs.YtpljgnjdlciicaaGreatDoor
open Go Go.Ev Go.Proofs
def lvls : Int → List Tok → List Int
  | _, [] => []
  | n, t :: ts => n :: lvls (lvl n t) ts
def intsV (l : List Int) : List Value := l.map fun i => .int .i64 i
theorem appT78 : AppT En 78 3 1 8 := ⟨by kernel_rfl, by kernel_rfl, by kernel_rfl, by kernel_rfl, by omega⟩
theorem sl3 : slots En 20 3 = [none] := by kernel_rfl
theorem shop {x : ByteArray} (h : shT x = true) : opT x = false := by
  unfold shT at h
  unfold opT
  simp only [beqB_eq, Bool.or_eq_true, decide_eq_true_eq] at h
  rcases h with h | h | h <;> simp [h, beqB_eq]
theorem lev10 {s : St} {ts : List Tok} {v : Value} {n i : Int} {t : Tok} {Q : Value → St → Prop} (hi : at_ (ts.map tokV) (Int.toNat i) = tokV t) (h0 : 0 ≤ i) (hlt : i < ts.length) (hn : 0 ≤ n ∧ n ≤ 100000)
    (hk : Ok (fun f => p31_5 f (ts.map tokV) v (if t.kind = 6 ∧ opT t.text = true then n + 1 else n) i) s Q) : Ok (fun f => p31_10 f (ts.map tokV) v n i) s Q := by
  have d0 : decide ((0 : Int) ≤ i) = true := decide_eq_true h0
  have dh : ((Nat.ble (Nat.succ (Int.toNat i)) (List.length (ts.map tokV)) && true) && hdOk 8 (ts.map tokV)) = true := by
    rw [hd_toks, Bool.and_true, Bool.and_true]; exact Nat.ble_eq_true_of_le (by simp only [List.length_map]; omega)
  have hw1 : IntKind.i64.wrap (n + 1) = n + 1 := wrap_in _ (by omega) (by omega)
  refine Ok.step (fun f => p31_10_eq f _ v n i) ?_
  simp only [hi, hw1]
  refine Ok.t d0 (Ok.t dh (Ok.t rfl (Ok.t rfl (Ok.t rfl ?_))))
  have go : ∀ y, y = (if t.kind = 6 ∧ opT t.text = true then n + 1 else n) → Ok (fun f => p31_5 f (ts.map tokV) v y i) s Q := fun y e => by rw [e]; exact hk
  have H : ∀ b : Bool, ∀ x, opT t.text = x → (t.kind = 6 ∧ opT t.text = true ↔ t.kind = 6 ∧ x = true) := fun _ x e => by rw [e]
  refine Ok.c (fun h6 => ?_) (fun h6 => go _ (by rw [if_neg fun h => of_decide_eq_false h6 h.1]))
  have h6 : t.kind = 6 := of_decide_eq_true h6
  refine Ok.t d0 (Ok.t dh (Ok.t rfl (Ok.t rfl (Ok.t rfl (Ok.c (fun a1 => go _ ?_) (fun a1 => ?_))))))
  · have a1 : beqB (bl t.text) [40] = true := a1
    rw [if_pos ⟨h6, by simp [opT, a1]⟩]
  have a1 : beqB (bl t.text) [40] = false := a1
  refine Ok.t d0 (Ok.t dh (Ok.t rfl (Ok.t rfl (Ok.t rfl (Ok.c (fun a2 => go _ ?_) (fun a2 => ?_))))))
  · have a2 : beqB (bl t.text) [91] = true := a2
    rw [if_pos ⟨h6, by simp [opT, a2]⟩]
  have a2 : beqB (bl t.text) [91] = false := a2
  refine Ok.t d0 (Ok.t dh (Ok.t rfl (Ok.t rfl (Ok.t rfl (Ok.c (fun a3 => go _ ?_) (fun a3 => go _ ?_))))))
  · have a3 : beqB (bl t.text) [123] = true := a3
    rw [if_pos ⟨h6, by simp [opT, a3]⟩]
  · have a3 : beqB (bl t.text) [123] = false := a3
    rw [if_neg fun h => by simp [opT, a1, a2, a3] at h]
theorem lev_loop {s0 : St} {ts : List Tok} (hl : ts.length ≤ 16384) : ∀ (rest done : List Tok) (s : St) (v : Value) (ns : List Int) (n : Int), ts = done ++ rest → Grow s.mem s0.ctr s.ctr 3 1 (intsV ns) v → ns.length = done.length → Fresh s0 s → 0 ≤ n ∧ n ≤ done.length →
    Ok (fun f => p31_4 f (ts.map tokV) v n (done.length : Int)) s (fun w s' => w = lstV (intsV (ns ++ lvls n rest)) ∧ Fresh s0 s') := by
  intro rest
  induction rest with
  | nil =>
    intro done s v ns n e hg hle f hn
    simp only [List.append_nil] at e
    subst e
    refine Ok.step (fun f => p31_4_eq f _ v n _) ?_
    refine Ok.f (decide_eq_false (by simp)) ?_
    refine Ok.frzL (by kernel_rfl) sl3 (by kernel_rfl) hg fun s' c' f' => ?_
    refine Ok.ret ⟨by simp [lvls], ⟨by have := f.1; omega, fun k hk => by rw [f' k hk, f.2 k hk]⟩⟩
  | cons t rest ih =>
    intro done s v ns n e hg hle fr hn
    have hdl : done.length + 1 ≤ ts.length := by rw [e]; simp
    have hi : at_ (ts.map tokV) (Int.toNat (done.length : Int)) = tokV t := by
      refine atq ?_
      rw [Int.toNat_natCast, List.getElem?_map, e, getmid]; rfl
    have d0 : decide ((0 : Int) ≤ (done.length : Int)) = true := decide_eq_true (by omega)
    have dh : ((Nat.ble (Nat.succ (Int.toNat (done.length : Int))) (List.length (ts.map tokV)) && true) && hdOk 8 (ts.map tokV)) = true := by
      rw [hd_toks, Bool.and_true, Bool.and_true]; exact Nat.ble_eq_true_of_le (by simp only [List.length_map, Int.toNat_natCast]; omega)
    have hw2 : IntKind.i64.wrap (n + (-1)) = n - 1 := wrap_in _ (by omega) (by omega)
    -- one level more
    have app : ∀ {p : Nat → Value → Prog}, (∀ s2 w, Grow s2.mem s0.ctr s2.ctr 3 1 (intsV (ns ++ [n])) w → Fresh s0 s2 → Ok (fun f => p f w) s2 (fun w s' => w = lstV (intsV (ns ++ lvls n (t :: rest))) ∧ Fresh s0 s')) →
        Ok (fun f => Ev.callP (p f) (builtinA En Builtin.append (78 :: (78 :: [])) (v :: (xlstV ((Value.int IntKind.i64 n) :: []) :: [])))) s (fun w s' => w = lstV (intsV (ns ++ lvls n (t :: rest))) ∧ Fresh s0 s') := fun {p} hk => by
      refine Ok.callP (Ok.app appT78 hg rfl rfl fr.1 (by simp [intsV]; omega)) ?_
      rintro w s2 ⟨g1, g2, g3⟩
      have e : intsV (ns ++ [n]) = intsV ns ++ cellsL (.int .i64 n) := by simp [intsV]; rfl
      refine hk s2 w (by rw [e]; exact g1) ⟨by have := fr.1; omega, fun k hk => by rw [g3 k hk, fr.2 k hk]⟩
    have nx : ∀ (s2 : St) (w : Value) (n' : Int), Grow s2.mem s0.ctr s2.ctr 3 1 (intsV (ns ++ [n])) w → Fresh s0 s2 → n' = (if t.kind = 6 ∧ shT t.text = true then (if n > 0 then n - 1 else n) else n) → Ok (fun f => p31_10 f (ts.map tokV) w n' (done.length : Int)) s2 (fun w s' => w = lstV (intsV (ns ++ lvls n (t :: rest))) ∧ Fresh s0 s') := fun s2 w n' hg hf hn' => by
      have hn2 : 0 ≤ n' ∧ n' ≤ n := by
        rw [hn']
        split
        · split <;> omega
        · omega
      refine lev10 hi (by omega) (by omega) ⟨by omega, by omega⟩ ?_
      refine Ok.step (fun f => p31_5_eq f _ w _ _) ?_
      rw [wrap1 (show 0 ≤ (done.length : Int) ∧ (done.length : Int) ≤ 1000000 by omega)]
      have hlv : (if t.kind = 6 ∧ opT t.text = true then n' + 1 else n') = lvl n t := by
        unfold lvl
        by_cases h6 : t.kind = 6
        · by_cases hs : shT t.text = true
          · have ho := shop hs
            simp [hn', h6, hs, ho]
          · simp [hn', h6, hs]
        · simp [hn', h6]
      rw [hlv]
      have lv := lvl_le n t hn.1
      have := ih (done ++ [t]) s2 w (ns ++ [n]) (lvl n t) (by rw [e]; simp) hg (by simp; omega) hf (by simp; omega)
      simpa [lvls] using this
    refine Ok.step (fun f => p31_4_eq f _ v n _) ?_
    refine Ok.t (decide_eq_true (by simp only [Int.ofNat_eq_natCast, List.length_map]; omega)) ?_
    simp only [hi, hw2]
    refine Ok.t d0 (Ok.t dh (Ok.t rfl (Ok.t rfl (Ok.t rfl ?_))))
    have sh : ∀ {p : Nat → Value → Prog}, t.kind = 6 → shT t.text = true → (∀ s2 w, Grow s2.mem s0.ctr s2.ctr 3 1 (intsV (ns ++ [n])) w → Fresh s0 s2 → Ok (fun f => cnd (p31_10 f (ts.map tokV) w (n - 1) (done.length : Int)) (p31_10 f (ts.map tokV) w n (done.length : Int)) (decide (n > 0))) s2 (fun w s' => w = lstV (intsV (ns ++ lvls n (t :: rest))) ∧ Fresh s0 s')) := fun h6 hs s2 w g f => by
      refine Ok.c (fun h => nx s2 w _ g f ?_) (fun h => nx s2 w _ g f ?_)
      · rw [if_pos ⟨h6, hs⟩, if_pos (of_decide_eq_true h)]
      · rw [if_pos ⟨h6, hs⟩, if_neg (of_decide_eq_false h)]
    refine Ok.c (fun h6 => ?_) (fun h6 => app fun s2 w g f => nx s2 w _ g f (by rw [if_neg fun h => of_decide_eq_false h6 h.1]))
    have h6 : t.kind = 6 := of_decide_eq_true h6
    refine Ok.t d0 (Ok.t dh (Ok.t rfl (Ok.t rfl (Ok.t rfl (Ok.c (fun a1 => app (sh (p := fun _ _ => .fail) h6 ?_)) (fun a1 => ?_))))))
    · have a1 : beqB (bl t.text) [41] = true := a1
      simp [shT, a1]
    have a1 : beqB (bl t.text) [41] = false := a1
    refine Ok.t d0 (Ok.t dh (Ok.t rfl (Ok.t rfl (Ok.t rfl (Ok.c (fun a2 => app (sh (p := fun _ _ => .fail) h6 ?_)) (fun a2 => ?_))))))
    · have a2 : beqB (bl t.text) [93] = true := a2
      simp [shT, a2]
    have a2 : beqB (bl t.text) [93] = false := a2
    refine Ok.t d0 (Ok.t dh (Ok.t rfl (Ok.t rfl (Ok.t rfl (app fun s2 w g f => Ok.c (fun a3 => sh (p := fun _ _ => .fail) h6 ?_ s2 w g f) (fun a3 => nx s2 w _ g f ?_))))))
    · have a3 : beqB (bl t.text) [125] = true := a3
      simp [shT, a3]
    · have a3 : beqB (bl t.text) [125] = false := a3
      rw [if_neg fun h => by simp [shT, a1, a2, a3] at h]
theorem levels_ok (s : St) {ts : List Tok} (hl : ts.length ≤ 16384) : Ok (fun f => callF En (runP En f) 31 [lstV (ts.map tokV)]) s (fun w s' => w = lstV (intsV (lvls 0 ts)) ∧ Fresh s s') := by
  refine Ok.step (fun f => f31_eq f (ts.map tokV)) ?_
  exact lev_loop hl ts [] s (.slice none 0 0) [] 0 rfl (Grow.nil _ _ _ _ _) rfl (Fresh.refl s) (by simp)
end Go.Proofs.YtpljgnjdlciicaaGreatDoor
/- The reference's Split. -/
namespace Go.Proofs.YtpljgnjdlciicaaGreatDoor
open Go Go.Ev Go.Proofs
/-- The pieces that are done, and the one that grows. -/
def RI (s0 s : St) (v p : Value) (ps : List (List Tok)) (cur : List Tok) : Prop :=
  ∃ (O : Nat → Prop) (vs : List Value) (b c1 : Nat), ((v = .slice none 0 0 ∧ vs = [] ∧ ∀ k, ¬ O k) ∨ ∃ r olds, OutR s.mem v vs r 42 false olds ∧ (∀ k, O k ↔ OutF r vs.length olds k)) ∧ Pcs s.mem O s0.ctr ps vs b ∧ b ≤ c1 ∧ c1 ≤ s.ctr ∧ Grow s.mem c1 s.ctr 50 8 (toksC cur) p ∧ (∀ k, O k → s0.ctr ≤ k ∧ k < c1) ∧ Fresh s0 s
theorem RI.app {s0 s : St} {v p : Value} {ps : List (List Tok)} {cur : List Tok} (h : RI s0 s v p ps cur) (hl : cur.length ≤ 20000) (t : Tok) {Q : Value → St → Prop} {k : Nat → Value → Prog} (hk : ∀ w s', RI s0 s' v w ps (cur ++ [t]) → Ok (fun f => k f w) s' Q) :
    Ok (fun f => Ev.callP (k f) (builtinA En Builtin.append (42 :: (42 :: [])) (p :: (xlstV (tokV t :: []) :: [])))) s Q := by
  obtain ⟨O, vs, b, c1, h1, h2, h3, h4, h5, h6, h7⟩ := h
  refine Ok.callP (Ok.app appT23 h5 rfl rfl h4 (by rw [toksC_length]; omega)) ?_
  rintro w s2 ⟨g1, g2, g3⟩
  refine hk w s2 ⟨O, vs, b, c1, ?_, h2.congr (fun k _ hk _ => g3 k (by omega)) fun _ _ _ h => h, h3, by omega, ?_, h6, ⟨by have := h7.1; omega, fun k hk => ?_⟩⟩
  · rcases h1 with h1 | ⟨r, olds, a1, a2⟩
    · exact .inl h1
    · exact .inr ⟨r, olds, a1.congr fun k e1 e2 => g3 k (h6 k ((a2 k).2 (.inl ⟨e1, e2⟩))).2, a2⟩
  · rw [toksC_append]
    have e : toksC [t] = cellsL (tokV t) := by simp [toksC]; rfl
    rw [e]
    exact g1
  · have := h2.le
    rw [g3 k (by omega), h7.2 k hk]
/-- A piece is done. -/
theorem RI.push {s0 s : St} {v p : Value} {ps : List (List Tok)} {cur : List Tok} (h : RI s0 s v p ps cur) (hl : ps.length ≤ 20000) (hc : cur.length ≤ 20000) {Q : Value → St → Prop} {k : Nat → Value → Prog}
    (hk : ∀ w s' r olds vs, OutR s'.mem w vs r 42 false olds → Pcs s'.mem (OutF r vs.length olds) s0.ctr (ps ++ [cur]) vs s.ctr → (∀ k, OutF r vs.length olds k → s0.ctr ≤ k ∧ k < s'.ctr) → s.ctr ≤ s'.ctr → Fresh s0 s' → Ok (fun f => k f w) s' Q) :
    Ok (fun f => Ev.callP (fun v10 => Ev.callP (k f) (builtinA En Builtin.append (45 :: (45 :: [])) (v :: (v10 :: [])))) (buildSliceA En 45 1 ((Prod.mk 0 p) :: []))) s Q := by
  obtain ⟨O, vs, b, c1, h1, h2, h3, h4, h5, h6, h7⟩ := h
  have hlen := h2.length
  have hb := h2.le
  have hone1 := h5.one.1
  have hp := h5
  obtain ⟨a, c, rfl⟩ := h5.len cur.length (by omega) (toksC_length cur)
  simp only [bld45]
  refine Ok.callP (Ok.newF rfl) ?_
  rintro w s1 ⟨rfl, e1, g1, g2, f1, _⟩
  have hF : ∀ {s2 : St}, s1.ctr ≤ s2.ctr → (∀ k, k < s.ctr → (∀ r olds, OutR s.mem v vs r 42 false olds → (∀ k, O k ↔ OutF r vs.length olds k) → k ≠ r) → s2.mem.get k = s.mem.get k) → Fresh s0 s2 := fun {s2} hc e => ⟨by have := h7.1; omega, fun k hk => by
    rw [e k (by omega) fun r olds _ hO hkr => by have := h6 r ((hO r).2 (.inl ⟨by omega, by omega⟩)); omega, h7.2 k hk]⟩
  rcases h1 with ⟨rfl, rfl, hO⟩ | ⟨r, olds, hR, hO⟩
  · have hps : ps = [] := List.length_eq_zero_iff.1 (by simpa using hlen.symm)
    subst hps
    refine Ok.callP (Ok.appO0 (q := s.ctr) appT45 g1 g2 (by omega)) ?_
    rintro w s2 ⟨c2, hR, f2⟩
    refine hk w s2 s1.ctr [] [_] hR ?_ ?_ (by omega) (hF (by omega) fun k hk _ => by rw [f2 k (by omega), f1 k hk])
    · refine Pcs.snoc (ps := []) (vs := []) (lo := s0.ctr) (hi := b) (c := c1) (d := s.ctr) hb h3 h4 (hp.congr (Nat.le_refl _) fun j _ e => by rw [f2 j (by omega), f1 j e]) fun k _ e ho => ?_
      rcases ho with ho | ho
      · omega
      · cases ho
    · intro k ho
      rcases ho with ho | ho
      · have := h7.1; simp at ho; omega
      · cases ho
  · have hr := h6 (r + vs.length) ((hO _).2 (.inl ⟨by omega, by omega⟩))
    have hr0 := h6 r ((hO _).2 (.inl ⟨by omega, by omega⟩))
    refine Ok.callP (Ok.appO (r := r) (q := s.ctr) appT45 (hR.congr fun k _ e => f1 k (by omega)) h2.one g1 g2 hone1 (by omega) (by omega)) ?_
    rintro w s2 ⟨c2, ⟨olds', g3, g4⟩, f2⟩
    have hl1 : (vs ++ [Value.slice a cur.length c]).length = vs.length + 1 := by simp
    have hold : ∀ k, k ∈ olds' → O k := fun k hk => by
      rcases g4 k hk with rfl | h
      · exact (hO _).2 (.inl ⟨by omega, by omega⟩)
      · exact (hO _).2 (.inr h)
    refine hk w s2 s1.ctr olds' _ g3 ?_ ?_ (by omega) (hF (by omega) fun k hk hn => by rw [f2 k (by omega) (hn r olds hR hO), f1 k hk])
    · refine Pcs.snoc (c := c1) (d := s.ctr) (h2.congr (O' := OutF s1.ctr _ olds') (fun k _ e ho => ?_) fun k _ e ho => ?_) h3 h4 (hp.congr (Nat.le_refl _) fun j d e => by rw [f2 j (by omega) (by omega), f1 j e]) fun k d e ho => ?_
      · rw [f2 k (by omega) fun hkr => ho ((hO k).2 (.inl ⟨by omega, by omega⟩)), f1 k (by omega)]
      · rcases ho with ho | ho
        · omega
        · exact hold k ho
      · rcases ho with ho | ho
        · omega
        · have := h6 k (hold k ho); omega
    · intro k ho
      rcases ho with ho | ho
      · have := h7.1; omega
      · have := h6 k (hold k ho); omega
theorem rsplit_loop {s0 : St} {ts : List Tok} (hl : ts.length ≤ 16384) : ∀ (rest done : List Tok) (s : St) (v p : Value) (ps : List (List Tok)) (cur : List Tok) (ns : List Int) (n : Int), ts = done ++ rest → RI s0 s v p ps cur → ps.length + cur.length ≤ done.length → ns.length = done.length →
    Ok (fun f => p16_5 f (ts.map tokV) v p (intsV (ns ++ lvls n rest)) (done.length : Int)) s (fun w s' => w = lstV (pcsV (ps ++ splitT n rest cur)) ∧ Fresh s0 s') := by
  intro rest
  induction rest with
  | nil =>
    intro done s v p ps cur ns n e hI hle hns
    simp only [List.append_nil] at e
    subst e
    refine Ok.step (fun f => p16_5_eq f _ v p _ _) ?_
    refine Ok.f (decide_eq_false (by simp)) ?_
    refine RI.push hI (by omega) (by omega) fun w s' r olds vs h1 h2 h3 h4 h5 => ?_
    refine frz_out (lo := s0.ctr) (b := s.ctr) (ps := ps ++ [cur]) h1 h2 (by simp) (fun k hk => (h3 k hk).1) fun s2 c2 f2 => ?_
    exact Ok.ret ⟨rfl, ⟨by have := h5.1; omega, fun k hk => by rw [f2 k hk, h5.2 k hk]⟩⟩
  | cons t rest ih =>
    intro done s v p ps cur ns n e hI hle hns
    have hdl : done.length + 1 ≤ ts.length := by rw [e]; simp
    have hi : at_ (ts.map tokV) (Int.toNat (done.length : Int)) = tokV t := by
      refine atq ?_
      rw [Int.toNat_natCast, List.getElem?_map, e, getmid]; rfl
    have hj : at_ (intsV (ns ++ lvls n (t :: rest))) (Int.toNat (done.length : Int)) = .int .i64 n := by
      refine atq ?_
      rw [Int.toNat_natCast, intsV, List.getElem?_map, lvls, ← hns, getmid]; rfl
    have d0 : decide ((0 : Int) ≤ (done.length : Int)) = true := decide_eq_true (by omega)
    have dh : ((Nat.ble (Nat.succ (Int.toNat (done.length : Int))) (List.length (ts.map tokV)) && true) && hdOk 8 (ts.map tokV)) = true := by
      rw [hd_toks, Bool.and_true, Bool.and_true]; exact Nat.ble_eq_true_of_le (by simp only [List.length_map, Int.toNat_natCast]; omega)
    have dj : ((Nat.ble (Nat.succ (Int.toNat (done.length : Int))) (List.length (intsV (ns ++ lvls n (t :: rest)))) && true) && hdOk 1 (intsV (ns ++ lvls n (t :: rest)))) = true := by
      rw [hd_int (by intro x hx; simp only [intsV, List.mem_map] at hx; obtain ⟨i, _, rfl⟩ := hx; exact ⟨_, rfl⟩), Bool.and_true, Bool.and_true]
      exact Nat.ble_eq_true_of_le (by simp only [intsV, List.length_map, List.length_append, lvls, List.length_cons, Int.toNat_natCast]; omega)
    -- behind it
    have next : ∀ (s : St) (v p : Value) (ps : List (List Tok)) (cur : List Tok) (m : Int), m = lvl n t → RI s0 s v p ps cur → ps.length + cur.length ≤ done.length + 1 → Ok (fun f => p16_6 f (ts.map tokV) v p (intsV (ns ++ lvls n (t :: rest))) (done.length : Int)) s (fun w s' => w = lstV (pcsV (ps ++ splitT m rest cur)) ∧ Fresh s0 s') := fun s v p ps cur m hm hI h1 => by
      subst hm
      refine Ok.step (fun f => p16_6_eq f _ v p _ _) ?_
      rw [wrap1 (show 0 ≤ (done.length : Int) ∧ (done.length : Int) ≤ 1000000 by omega)]
      have := ih (done ++ [t]) s v p ps cur (ns ++ [n]) (lvl n t) (by rw [e]; simp) hI (by simp; omega) (by simp; omega)
      simpa [lvls] using this
    refine Ok.step (fun f => p16_5_eq f _ v p _ _) ?_
    refine Ok.t (decide_eq_true (by simp only [Int.ofNat_eq_natCast, List.length_map]; omega)) ?_
    simp only [hi, hj]
    refine Ok.t d0 (Ok.t dj (Ok.t rfl (Ok.t rfl ?_)))
    have more : ¬ (n = 0 ∧ t.kind = 4 ∧ beqB (bl t.text) [44] = true) → Ok (fun f => Ev.callP (fun w => p16_6 f (ts.map tokV) v w (intsV (ns ++ lvls n (t :: rest))) (done.length : Int)) (builtinA En Builtin.append (42 :: (42 :: [])) (p :: (xlstV (tokV t :: []) :: [])))) s (fun w s' => w = lstV (pcsV (ps ++ splitT n (t :: rest) cur)) ∧ Fresh s0 s') := fun hno => by
      have e2 : splitT n (t :: rest) cur = splitT (lvl n t) rest (cur ++ [t]) := if_neg hno
      rw [e2]
      exact RI.app (k := fun f w => p16_6 f (ts.map tokV) v w (intsV (ns ++ lvls n (t :: rest))) (done.length : Int)) hI (by omega) t fun w s' h => next s' v w ps (cur ++ [t]) _ rfl h (by simp; omega)
    refine Ok.c (fun h0 => ?_) (fun h0 => Ok.t d0 (Ok.t dh (Ok.t rfl (Ok.t rfl (more fun h => of_decide_eq_false h0 h.1)))))
    have h0 := of_decide_eq_true h0
    refine Ok.t d0 (Ok.t dh (Ok.t rfl (Ok.t rfl (Ok.t rfl ?_))))
    refine Ok.c (fun h4 => ?_) (fun h4 => Ok.t d0 (Ok.t dh (Ok.t rfl (Ok.t rfl (more fun h => of_decide_eq_false h4 h.2.1)))))
    have h4 : t.kind = 4 := of_decide_eq_true h4
    refine Ok.t d0 (Ok.t dh (Ok.t rfl (Ok.t rfl (Ok.t rfl ?_))))
    refine Ok.c (fun h44 => ?_) (fun h44 => Ok.t d0 (Ok.t dh (Ok.t rfl (Ok.t rfl (more fun h => ?_)))))
    · have e2 : splitT n (t :: rest) cur = cur :: splitT n rest [] := if_pos ⟨h0, h4, h44⟩
      rw [e2]
      refine RI.push hI (by omega) (by omega) fun w s' r olds vs h1 h2 h3 h4' h5 => ?_
      have hlv : n = lvl n t := by unfold lvl; rw [if_neg (by omega)]
      have := next s' w (.slice none 0 0) (ps ++ [cur]) [] n hlv ⟨OutF r vs.length olds, vs, s.ctr, s'.ctr, .inr ⟨r, olds, h1, fun _ => Iff.rfl⟩, h2, h4', Nat.le_refl _, Grow.nil _ _ _ _ _, h3, h5⟩ (by simp; omega)
      simpa using this
    · have h44 : beqB (bl t.text) [44] = false := h44
      rw [h44] at h; cases h.2.2
theorem rsplit_ok (s : St) {ts : List Tok} (hl : ts.length ≤ 16384) : Ok (fun f => callF En (runP En f) 16 [lstV (ts.map tokV)]) s (fun w s' => w = lstV (pcsV (splitT 0 ts [])) ∧ Fresh s s') := by
  refine Ok.step (fun f => f16_eq f (ts.map tokV)) ?_
  refine Ok.call (levels_ok s hl) ?_
  rintro w s1 ⟨rfl, f1⟩
  refine Ok.t rfl ?_
  have := rsplit_loop (s0 := s1) hl ts [] s1 (.slice none 0 0) (.slice none 0 0) [] [] [] 0 rfl ⟨fun _ => False, [], s1.ctr, s1.ctr, .inl ⟨rfl, rfl, fun _ h => h⟩, Nat.le_refl _, Nat.le_refl _, Nat.le_refl _, Grow.nil _ _ _ _ _, (fun _ h => h.elim), Fresh.refl _⟩ (by simp) rfl
  exact Ok.mono this fun w s' h => ⟨h.1, f1.trans h.2⟩
end Go.Proofs.YtpljgnjdlciicaaGreatDoor
/- Lists of tokens are the same; the law. -/
namespace Go.Proofs.YtpljgnjdlciicaaGreatDoor
open Go Go.Ev Go.Proofs
theorem vf_of {t : Tok} (h : RTok t) : VF (.agg ⟨[.int .i64 t.t, lstV t.n, lstV t.sy, lstV t.l]⟩) := by
  obtain ⟨⟨h1, h2, h3, h4⟩, _⟩ := h
  rw [h1]
  rcases h4 with ⟨_, e1, e2⟩ | ⟨e1, e2, _⟩ | ⟨e1, e2, _⟩
  · rw [e1, e2]; exact VF.mk (by simp) (by simp) (by simp) (by simp) (by simp) (by simp)
  · rw [e1]; exact VF.mk (by omega) (by simp) (by simp) e2 (by simp) (by simp)
  · rw [e1]; exact VF.mk (by simp) (by omega) (by simp) (by simp) e2 (by simp)
theorem tokens_loop {p : List Tok} (hl : p.length ≤ 16384) (hp : ∀ t, t ∈ p → RTok t) : ∀ (rest done : List Tok) (s : St), p = done ++ rest → Ok (fun f => p17_4 f (p.map tokV) (p.map tokV) (done.length : Int)) s (fun v s' => v = .bool true ∧ Fresh s s') := by
  intro rest
  induction rest with
  | nil =>
    intro done s e
    simp only [List.append_nil] at e
    subst e
    refine Ok.step (fun f => p17_4_eq f _ _ _) ?_
    exact Ok.f (decide_eq_false (by simp)) (Ok.ret ⟨rfl, Fresh.refl s⟩)
  | cons t rest ih =>
    intro done s e
    have hdl : done.length + 1 ≤ p.length := by rw [e]; simp
    have ht : RTok t := hp t (by rw [e]; simp)
    have hi : at_ (p.map tokV) (Int.toNat (done.length : Int)) = tokV t := by
      refine atq ?_
      rw [Int.toNat_natCast, List.getElem?_map, e, getmid]; rfl
    have d0 : decide ((0 : Int) ≤ (done.length : Int)) = true := decide_eq_true (by omega)
    have dh : ((Nat.ble (Nat.succ (Int.toNat (done.length : Int))) (List.length (p.map tokV)) && true) && hdOk 8 (p.map tokV)) = true := by
      rw [hd_toks, Bool.and_true, Bool.and_true]; exact Nat.ble_eq_true_of_le (by simp only [List.length_map, Int.toNat_natCast]; omega)
    refine Ok.step (fun f => p17_4_eq f _ _ _) ?_
    refine Ok.t (decide_eq_true (by simp only [Int.ofNat_eq_natCast, List.length_map]; omega)) ?_
    simp only [hi]
    repeat' (first
      | with_reducible refine Ok.t d0 ?_
      | with_reducible refine Ok.t dh ?_
      | ((with_reducible refine Ok.t ?_ ?_); · rfl)
      | ((with_reducible refine Ok.f ?_ ?_); · simp [beqB_eq]; done))
    refine Ok.seg (match_ok (vf_of ht) ⟨s.mem, s.ctr, []⟩) ?_
    rintro v s1 ⟨rfl, f1⟩
    refine Ok.t rfl (Ok.f rfl ?_)
    rw [wrap1 (show 0 ≤ (done.length : Int) ∧ (done.length : Int) ≤ 1000000 by omega)]
    have := ih (done ++ [t]) ⟨s1.mem, s1.ctr, s1.log ++ s.log⟩ (by rw [e]; simp)
    have f1' : Fresh s ⟨s1.mem, s1.ctr, s1.log ++ s.log⟩ := f1
    have this : Ok (fun f => p17_4 f (p.map tokV) (p.map tokV) ((done.length : Int) + 1)) ⟨s1.mem, s1.ctr, s1.log ++ s.log⟩ (fun v s' => v = .bool true ∧ Fresh ⟨s1.mem, s1.ctr, s1.log ++ s.log⟩ s') := by simpa using this
    exact Ok.mono this fun v s' h => ⟨h.1, f1'.trans h.2⟩
theorem tokens_ok {p : List Tok} (hl : p.length ≤ 16384) (hp : ∀ t, t ∈ p → RTok t) (s : St) : Ok (fun f => callF En (runP En f) 17 [lstV (p.map tokV), lstV (p.map tokV)]) s (fun v s' => v = .bool true ∧ Fresh s s') := by
  refine Ok.step (fun f => f17_eq f (p.map tokV) (p.map tokV)) ?_
  exact Ok.f (by simp) (tokens_loop hl hp p [] s rfl)
/-- Pieces, joined by commas. -/
def Joined : List (List Tok) → List Tok → Prop
  | [], _ => False
  | [p], l => l = p
  | p :: q :: ps, l => ∃ c r, l = p ++ c :: r ∧ c.kind = 4 ∧ beqB (bl c.text) [44] = true ∧ Joined (q :: ps) r
theorem split_cons (n : Int) (ts cur : List Tok) : ∃ q ps, splitT n ts cur = q :: ps := by
  have := splitT_len n ts cur
  cases h : splitT n ts cur with
  | nil => rw [h] at this; simp at this
  | cons q ps => exact ⟨q, ps, rfl⟩
theorem split_joined : ∀ (ts : List Tok) (n : Int) (cur : List Tok), Joined (splitT n ts cur) (cur ++ ts)
  | [], n, cur => by simp [splitT, Joined]
  | t :: ts, n, cur => by
    unfold splitT
    split
    · next h =>
      obtain ⟨q, ps, e⟩ := split_cons n ts []
      have := split_joined ts n []
      rw [e] at this ⊢
      exact ⟨t, ts, rfl, h.2.1, h.2.2, this⟩
    · have := split_joined ts (lvl n t) (cur ++ [t])
      simpa using this
theorem hd_pcs (ps : List (List Tok)) : hdOk 1 (pcsV ps) = true := by
  cases ps with
  | nil => rfl
  | cons p ps => rfl
theorem joined_len : ∀ {ps : List (List Tok)} {l : List Tok}, Joined ps l → ps.length ≤ l.length + 1
  | [], _, h => h.elim
  | [p], l, _ => by simp
  | p :: q :: ps, l, ⟨c, r, e, _, _, h⟩ => by
    have := joined_len h
    rw [e]
    simp at this ⊢
    omega
theorem joined_mem : ∀ {ps : List (List Tok)} {l : List Tok}, Joined ps l → ∀ p, p ∈ ps → ∀ t, t ∈ p → t ∈ l
  | [], _, h, _, _, _, _ => h.elim
  | [p], l, h, q, hq, t, ht => by
    have h : l = p := h
    simp at hq
    subst hq
    rw [h]; exact ht
  | p :: q :: ps, l, ⟨c, r, e, _, _, h⟩, x, hx, t, ht => by
    rw [e]
    rcases List.mem_cons.1 hx with rfl | hx
    · exact List.mem_append_left _ ht
    · exact List.mem_append_right _ (List.mem_cons_of_mem _ (joined_mem h x hx t ht))
theorem len42l (l : List Value) : builtinA En Builtin.len (42 :: []) (lstV l :: []) = .ret (vInt l.length) := by kernel_rfl
theorem law_loop {s0 : St} (LV : ∀ s, Fresh s0 s → Ok (fun f => callF En (runP En f) 9 []) s (fun v _ => v = .bool true)) {ts : List Tok} {ps : List (List Tok)} (hl : ts.length ≤ 16384) (hp : ∀ t, t ∈ ts → RTok t) : ∀ (rest done : List (List Tok)) (l0 l : List Tok) (s : St), ps = done ++ rest → ts = l0 ++ l → (rest = [] → l = []) → (rest ≠ [] → Joined rest l) → ps.length ≤ 20000 → Fresh s0 s →
    Ok (fun f => p5_12 f (ts.map tokV) (pcsV ps) (pcsV ps) (l0.length : Int) (done.length : Int)) s (fun v _ => v = .bool true) := by
  intro rest
  induction rest with
  | nil =>
    intro done l0 l s e1 e2 h1 _ _ F
    simp only [List.append_nil] at e1
    have h1 := h1 rfl
    subst h1
    simp only [List.append_nil] at e2
    subst e1 e2
    refine Ok.step (fun f => p5_12_eq f _ _ _ _ _) ?_
    refine Ok.f (decide_eq_false (by simp [pcsV])) (Ok.t (decide_eq_true (by simp)) ?_)
    exact Ok.call (LV s F) fun v s1 h => by subst h; exact Ok.t rfl (Ok.ret rfl)
  | cons q rest ih =>
    intro done l0 l s e1 e2 _ hJ hps F
    have hJ := hJ (by simp)
    have hdl : done.length + 1 ≤ ps.length := by rw [e1]; simp
    have hi : at_ (pcsV ps) (Int.toNat (done.length : Int)) = lstV (q.map tokV) := by
      refine atq ?_
      rw [Int.toNat_natCast, pcsV, List.getElem?_map, e1, getmid]; rfl
    have hpl : (pcsV ps).length = ps.length := by simp [pcsV]
    have hql : ∃ l', l = q ++ l' ∧ (rest = [] → l' = []) ∧ (rest ≠ [] → ∃ c r, l' = c :: r ∧ c.kind = 4 ∧ beqB (bl c.text) [44] = true ∧ Joined rest r) := by
      cases rest with
      | nil => exact ⟨[], by have h : l = q := hJ; simp [h], fun _ => rfl, fun h => absurd rfl h⟩
      | cons q2 rest =>
        obtain ⟨c, r, e, a1, a2, a3⟩ := hJ
        exact ⟨c :: r, e, (fun h => by cases h), fun _ => ⟨c, r, rfl, a1, a2, a3⟩⟩
    obtain ⟨l', e3, hn, hc⟩ := hql
    have hle : l0.length + q.length + l'.length = ts.length := by rw [e2, e3]; simp; omega
    have d0 : decide ((0 : Int) ≤ (done.length : Int)) = true := decide_eq_true (by omega)
    have dh : ((Nat.ble (Nat.succ (Int.toNat (done.length : Int))) (List.length (pcsV ps)) && true) && hdOk 1 (pcsV ps)) = true := by
      rw [hd_pcs, Bool.and_true, Bool.and_true]; exact Nat.ble_eq_true_of_le (by simp only [hpl, Int.toNat_natCast]; omega)
    have hw : IntKind.i64.wrap ((l0.length : Int) + ((q.map tokV).length : Int)) = ((l0.length + q.length : Nat) : Int) := by
      rw [List.length_map, wrap_in _ (by omega) (by omega)]; omega
    have hw' : IntKind.i64.wrap ((l0.length : Int) + intOf (vInt ((q.map tokV).length : Int))) = ((l0.length + q.length : Nat) : Int) := hw
    have hw'' : IntKind.i64.wrap ((l0.length : Int) + Int.ofNat (elems (lstV (q.map tokV))).length) = ((l0.length + q.length : Nat) : Int) := hw
    have hqp : ∀ t, t ∈ q → RTok t := fun t ht => hp t (by rw [e2, e3]; simp [ht])
    have hcut : List.take ((l0.length + q.length) - l0.length) (List.drop l0.length (ts.map tokV)) = q.map tokV := by
      rw [e2, e3, Nat.add_sub_cancel_left]
      simp
    have e0 : List.headD (Array.toList (Value.cells (lstV (q.map tokV)))) (.tuple ⟨[]⟩) = lstV (q.map tokV) := rfl
    have tk : ∀ s : St, Ok (fun f => callF En (runP En f) 17 [lstV (elems (lstV (q.map tokV))), lstV (q.map tokV)]) s (fun v s' => v = .bool true ∧ Fresh s s') := fun s => tokens_ok (by omega) hqp s
    refine Ok.step (fun f => p5_12_eq f _ _ _ _ _) ?_
    refine Ok.t (decide_eq_true (by simp only [Int.ofNat_eq_natCast, hpl]; omega)) ?_
    simp only [hi, e0]
    refine Ok.t d0 (Ok.t dh (Ok.t rfl (Ok.t rfl (Ok.t d0 (Ok.t dh (Ok.t rfl (Ok.t rfl ?_)))))))
    refine Ok.seg (tk _) ?_
    rintro v s1 ⟨rfl, f1⟩
    have F1 : Fresh s0 ⟨s1.mem, s1.ctr, s1.log ++ s.log⟩ := F.trans f1
    refine Ok.t rfl (Ok.f rfl ?_)
    refine Ok.t d0 (Ok.t dh (Ok.t rfl (Ok.t rfl ?_)))
    simp only [elems_lst, len42l]
    refine Ok.segRet fun s2 r2 => ?_
    have F2 := F1.trans (fresh_reads r2)
    refine Ok.gdL (by kernel_rfl) (Ok.t rfl ?_)
    refine Ok.segRet fun s3 r3 => ?_
    have F3 := F2.trans (fresh_reads r3)
    refine Ok.gdL (by kernel_rfl) (Ok.t rfl ?_)
    simp only [hw', hw, Int.toNat_natCast]
    refine Ok.f (decide_eq_false ?_) ?_
    · show ¬ (((l0.length + q.length : Nat) : Int) > ((ts.map tokV).length : Int))
      rw [List.length_map]; omega
    refine Ok.t d0 (Ok.t dh (Ok.t rfl (Ok.t rfl (Ok.t d0 (Ok.t dh (Ok.t rfl (Ok.t rfl ?_)))))))
    refine Ok.segRet fun s4 r4 => ?_
    have F4 := F3.trans (fresh_reads r4)
    refine Ok.gdL (by kernel_rfl) (Ok.t rfl ?_)
    simp only [hw', hw, Int.toNat_natCast, hcut]
    refine Ok.t (decide_eq_true (by omega)) (Ok.t (decide_eq_true (by omega)) (Ok.t ?_ ?_))
    · rw [hd_toks, Bool.true_and, Bool.and_eq_true]
      exact ⟨Nat.ble_eq_true_of_le (by omega), Nat.ble_eq_true_of_le (by rw [List.length_map]; omega)⟩
    refine Ok.seg (tokens_ok (p := q) (by omega) hqp _) ?_
    rintro v s5 ⟨rfl, f5⟩
    have F5 : Fresh s0 ⟨s5.mem, s5.ctr, s5.log ++ s4.log⟩ := F4.trans f5
    refine Ok.gdL (by kernel_rfl) (Ok.t rfl (Ok.f rfl ?_))
    refine Ok.t d0 (Ok.t dh (Ok.t rfl (Ok.t rfl ?_)))
    have nx : ∀ (s : St) (l0' l'' : List Tok), ts = l0' ++ l'' → (rest = [] → l'' = []) → (rest ≠ [] → Joined rest l'') → Fresh s0 s → Ok (fun f => p5_13 f (ts.map tokV) (pcsV ps) (pcsV ps) (l0'.length : Int) (done.length : Int)) s (fun v _ => v = .bool true) := fun s l0' l'' a1 a2 a3 a4 => by
      refine Ok.step (fun f => p5_13_eq f _ _ _ _ _) ?_
      rw [wrap1 (show 0 ≤ (done.length : Int) ∧ (done.length : Int) ≤ 1000000 by omega)]
      have := ih (done ++ [q]) l0' l'' s (by rw [e1]; simp) a1 a2 a3 hps a4
      simpa using this
    have hwI : IntKind.i64.wrap ((l0.length : Int) + Int.ofNat (q.map tokV).length) = ((l0.length + q.length : Nat) : Int) := hw
    simp only [hwI, Int.toNat_natCast]
    refine Ok.c (fun hlt => ?_) (fun hlt => ?_)
    · have hlt := of_decide_eq_true hlt
      rw [wrap1 (show 0 ≤ (done.length : Int) ∧ (done.length : Int) ≤ 1000000 by omega)] at hlt
      have hlt : (done.length : Int) + 1 < ((pcsV ps).length : Int) := hlt
      rw [hpl, e1] at hlt
      simp only [List.length_append, List.length_cons] at hlt
      have hr : rest ≠ [] := by
        intro h
        rw [h] at hlt
        simp only [List.length_nil] at hlt
        omega
      obtain ⟨c, r, rfl, k1, k2, k3⟩ := hc hr
      simp only [List.length_cons] at hle
      have hci : at_ (ts.map tokV) (l0.length + q.length) = tokV c := by
        refine atq ?_
        have : ts = (l0 ++ q) ++ c :: r := by rw [e2, e3]; simp
        rw [List.getElem?_map, this, show l0.length + q.length = (l0 ++ q).length by simp, getmid]; rfl
      have dk0 : decide ((0 : Int) ≤ ((l0.length + q.length : Nat) : Int)) = true := decide_eq_true (by omega)
      have dk : ((Nat.ble (Nat.succ (l0.length + q.length)) (List.length (ts.map tokV)) && true) && hdOk 8 (ts.map tokV)) = true := by
        rw [hd_toks, Bool.and_true, Bool.and_true]; exact Nat.ble_eq_true_of_le (by rw [List.length_map]; omega)
      simp only [hci]
      refine Ok.f (decide_eq_false ?_) ?_
      · show ¬ (((l0.length + q.length : Nat) : Int) ≥ ((ts.map tokV).length : Int))
        rw [List.length_map]; omega
      refine Ok.t dk0 (Ok.t dk (Ok.t rfl (Ok.t rfl (Ok.t rfl (Ok.f ?_ ?_)))))
      · show (!beqB (bl c.text) [44]) = false
        rw [k2]; rfl
      refine Ok.t dk0 (Ok.t dk (Ok.t rfl (Ok.t rfl (Ok.t rfl (Ok.f ?_ ?_)))))
      · show (!decide (c.kind = 4)) = false
        rw [k1]; rfl
      rw [wrap1 (show 0 ≤ ((l0.length + q.length : Nat) : Int) ∧ ((l0.length + q.length : Nat) : Int) ≤ 1000000 by omega)]
      have e : ((l0.length + q.length : Nat) : Int) + 1 = ((l0 ++ q ++ [c]).length : Int) := by simp only [List.length_append, List.length_cons, List.length_nil]; omega
      rw [e]
      exact nx _ (l0 ++ q ++ [c]) r (by rw [e2, e3]; simp) (fun h => absurd h hr) (fun _ => k3) F5
    · have hlt := of_decide_eq_false hlt
      rw [wrap1 (show 0 ≤ (done.length : Int) ∧ (done.length : Int) ≤ 1000000 by omega)] at hlt
      have hlt : ¬ (done.length : Int) + 1 < ((pcsV ps).length : Int) := hlt
      rw [hpl, e1] at hlt
      simp only [List.length_append, List.length_cons] at hlt
      have hr : rest = [] := by
        cases rest with
        | nil => rfl
        | cons a b => simp only [List.length_cons] at hlt; omega
      have := hn hr
      subst this
      have e : ((l0.length + q.length : Nat) : Int) = ((l0 ++ q).length : Int) := by simp only [List.length_append]
      rw [e]
      exact nx _ (l0 ++ q) [] (by rw [e2, e3]; simp) (fun _ => rfl) (fun h => absurd hr h) F5
theorem flat_toks : ∀ (ts : List Tok), flatC (ts.map tokV) = toksC ts
  | [] => rfl
  | t :: ts => by
    show cellsL (tokV t) ++ flatC (ts.map tokV) = t.cells ++ toksC ts
    rw [flat_toks ts]; rfl
theorem copy_toks (s : St) (ts : List Tok) (hl : ts.length ≤ 16384) : Ok (fun _ => builtinA En Builtin.append (42 :: (42 :: [])) (xlstV [] :: (lstV (ts.map tokV) :: []))) s
    (fun w s' => ((w = xlstV [] ∧ ts = []) ∨ Grow s'.mem s.ctr s'.ctr 50 8 (toksC ts) w) ∧ Fresh s s') := by
  obtain ⟨m, c, l⟩ := s
  obtain ⟨hu, hs, hb, hz, hz0⟩ := appT23
  obtain ⟨zv, hz⟩ := Option.isSome_iff_exists.1 hz
  have hel : elemOfSlice En 42 = some 50 := by unfold elemOfSlice; rw [hu]
  have hlen : lenA (lstV (ts.map tokV)) = some ts.length := by
    show some (ts.map tokV).length = some ts.length
    rw [List.length_map]
  have hx : isXl (xlstV []) = true := rfl
  have hd : decide ((0 + ts.length) * (120 + 1) ≤ 1099511627776) = true := decide_eq_true (by omega)
  have hh0 : hdOk 8 [] = true := rfl
  cases ts with
  | nil =>
    refine ⟨xlstV [], ⟨m, c, l⟩, ⟨.inl ⟨rfl, rfl⟩, Fresh.refl _⟩, 0, fun _ _ => ?_⟩
    simp only [builtinA, appendA]
    show (appendX En 42 42 [] (lstV [])).run _ = _
    simp only [appendX, hel, hu, hs, hb, Ev.opt, isIntD, appN, hz, gd]
    rfl
  | cons t ts =>
    have hfl : flatC ((List.map tokV (t :: ts)).take (ts.length + 1)) = toksC (t :: ts) := by
      have : (List.map tokV (t :: ts)).take (ts.length + 1) = List.map tokV (t :: ts) := by
        rw [List.take_of_length_le]; simp
      rw [this, flat_toks]
    have hf1 : ∀ k, firstA 8 (ts.length + 1) (lstV (List.map tokV (t :: ts))) k = gd (hdOk 8 (List.map tokV (t :: ts))) (k (flatC ((List.map tokV (t :: ts)).take (ts.length + 1)))) := fun _ => rfl
    have hbl : Nat.ble (toksC (t :: ts)).length (toksC (t :: ts)).length = true := Nat.ble_eq_true_of_le (Nat.le_refl _)
    have hlc := toksC_length (t :: ts)
    refine ⟨.slice (some ⟨c, 0, none⟩) (ts.length + 1) (capOf (ts.length + 1) false), ⟨layCells c (toksC (t :: ts)) (c + 1) (m.set c (some (.hdr ⟨(toksC (t :: ts)).length, 50, false, false, true, 0, false, false, []⟩))), c + (toksC (t :: ts)).length + 1, ⟨true, c, (toksC (t :: ts)).length + 1⟩ :: l⟩, ⟨.inr ⟨toksC_one _, .inr ⟨c, ts.length + 1, false, [], rfl, hlc, Nat.le_refl _, by simp only; omega, (fun k hk => by cases hk), ?_, CellsAt.lay _ _ _⟩⟩, ⟨by simp only; omega, fun k hk => ?_⟩⟩, 0, fun _ _ => ?_⟩
    · simp only
      rw [lay_below _ _ _ _ _ (by omega), Tr.get_set, if_pos rfl]
    · simp only at hk ⊢
      rw [lay_below _ _ _ _ _ (by omega), Tr.get_set, if_neg (by omega)]
    · simp only [builtinA, appendA]
      show (appendX En 42 42 [] (lstV (List.map tokV (t :: ts)))).run _ = _
      have hd' : decide (([] : List Value).length + (ts.length + 1) ≤ 9086907254 ∨ True) = true := decide_eq_true (.inr trivial)
      simp only [appendX, hel, hu, hs, hb, Ev.opt, isIntD, appN, hlen, hz, gd, hh0, Bool.true_and, List.length_nil, List.length_cons, hd, appC, hf1, hfl, hd_toks, flatC, List.nil_append, Prog.new, Prog.run, hbl, St.newH, Nat.add_eq, Nat.zero_add]
      simp only [List.length_cons, Nat.zero_add] at hd
      simp only [hd]
theorem f15_frz (f : Nat) (v : Value) : callF En (runP En f) 15 [v] = frzL En 20 50 v fun l => bodyN 15 f [l] := by kernel_rfl
theorem f15_lst (f : Nat) (l : List Value) : callF En (runP En f) 15 [lstV l] = bodyN 15 f [lstV l] := by kernel_rfl
theorem split_okv (s : St) {ts : List Tok} {v : Value} {lo : Nat} (hl : ts.length ≤ 16384) (h : (v = xlstV [] ∧ ts = []) ∨ Grow s.mem lo s.ctr 50 8 (toksC ts) v) (hlo : lo ≤ s.ctr) : Ok (fun f => callF En (runP En f) 15 [v]) s (fun w s' => w = lstV (pcsV (splitT 0 ts [])) ∧ s.ctr ≤ s'.ctr ∧ ∀ k, k < lo → s'.mem.get k = s.mem.get k) := by
  simp only [f15_frz]
  rcases h with ⟨rfl, rfl⟩ | h
  · have e : ∀ f, frzL En 20 50 (xlstV []) (fun l => bodyN 15 f [l]) = bodyN 15 f [lstV []] := fun _ => rfl
    simp only [e, ← f15_lst]
    exact Ok.mono (split_ok s (ts := []) (by simp)) fun _ _ h => ⟨h.1, h.2.1, fun k hk => h.2.2 k (by omega)⟩
  · refine frz_toks h fun s' c' f' => ?_
    simp only [← f15_lst]
    exact Ok.mono (split_ok s' hl) fun _ _ h => ⟨h.1, by have := h.2.1; omega, fun k hk => by rw [h.2.2 k (by omega), f' k hk]⟩
theorem law_ok (s : St) (str : ByteArray) (LV : ∀ s', Fresh s s' → Ok (fun f => callF En (runP En f) 9 []) s' (fun v _ => v = .bool true)) : Ok (fun f => callF En (runP En f) 5 [.string str]) s (fun v _ => v = .bool true) := by
  have lv : ∀ s' : St, Fresh s s' → Ok (fun f => Prog.call (callF En (runP En f) 9 []) fun v => cnd (Prog.ret (Value.bool (boolOf v))) Prog.fail (okK Kd.bool v)) s' (fun v _ => v = .bool true) := fun s' F => by
    exact Ok.call (LV s' F) fun v s1 h => by subst h; exact Ok.t rfl (Ok.ret rfl)
  refine Ok.step (fun f => f5_eq f str) ?_
  refine Ok.c (fun _ => lv s (Fresh.refl s)) (fun _ => ?_)
  refine Ok.call (rlex_ok s) ?_
  rintro v s1 ⟨hq, f1⟩
  rcases hq with ⟨e, p, rfl, he⟩ | ⟨ts, rfl, h1, h2⟩
  · refine Ok.t rfl (Ok.t ?_ (lv s1 f1))
    show (!decide (e = 0)) = true
    simp [he]
  refine Ok.t rfl (Ok.f rfl ?_)
  refine Ok.callP (copy_toks s1 ts h2) ?_
  rintro w s2 ⟨hw, f2⟩
  refine Ok.call (split_okv s2 h2 hw f2.1) ?_
  rintro v s3 ⟨rfl, c3, f3⟩
  have F3 : Fresh s s3 := ⟨by have := f1.1; have := f2.1; omega, fun k hk => by rw [f3 k (by have := f1.1; omega), f2.2 k (by have := f1.1; omega), f1.2 k hk]⟩
  refine Ok.t rfl ?_
  refine Ok.call (rsplit_ok s3 h2) ?_
  rintro v s4 ⟨rfl, f4⟩
  refine Ok.t rfl (Ok.f (by simp) ?_)
  have hj := split_joined ts 0 []
  have hne : splitT 0 ts [] ≠ [] := by
    have := splitT_len 0 ts []
    intro h; rw [h] at this; simp at this
  exact law_loop LV h2 (fun t ht => (h1.1 t ht).1) (splitT 0 ts []) [] [] ts s4 rfl rfl (fun h => absurd h hne) (fun _ => hj) (by have := joined_len hj; simp at this; omega) (F3.trans f4)
end Go.Proofs.YtpljgnjdlciicaaGreatDoor
