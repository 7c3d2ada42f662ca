import Derived.Test.YtpljgnjdlciicaaGreatDoorLxKP37
import Derived.Test.YtpljgnjdlciicaaGreatDoorLxKP36
import Derived.Test.YtpljgnjdlciicaaGreatDoorLxKP33
namespace Go.Proofs.YtpljgnjdlciicaaGreatDoor
open Go Go.Ev Go.Proofs
section
variable {s : St} {b : Nat} {str : ByteArray} {a : Int} {ts : List Tok} {bad : Int}
theorem NS.cell [Gh] {c : Nat} {t : Int} {ns : List Value} (h : NS s c b str a ts bad t ns) : ∃ x y, Cell s.mem c 1 (.slice x ns.length y) := by
  obtain ⟨_, _, v, h3, h4⟩ := h
  obtain ⟨x, y, rfl⟩ := h4.len ns.length (by omega) (by omega)
  exact ⟨x, y, h3.cell 1 rfl⟩
theorem NS.cellT [Gh] {c : Nat} {t : Int} {ns : List Value} (h : NS s c b str a ts bad t ns) : Cell s.mem c 0 (.int .i64 t) := by
  obtain ⟨_, _, v, h3, h4⟩ := h
  exact h3.cell 0 rfl
theorem NS.setT [Gh] {c : Nat} {t : Int} {ns : List Value} (h : NS s c b str a ts bad t ns) (t' : Int) : Ok (fun _ => storeT En 3 c 0 (.int .i64 t')) s (fun w s' => w = U ∧ NS s' c b str a ts bad t' ns) := by
  obtain ⟨h1, h2, v, h3, h4⟩ := h
  refine Ok.mono (Ok.storeCell (by kernel_rfl) rfl h3 (by simp) rfl) ?_
  rintro w s' ⟨rfl, e1, e2, e3⟩
  exact ⟨rfl, h1.frame (Nat.le_refl c) fun k hk => e3 k (by omega), by omega, v, e2, h4.congr (by omega) fun j h5 _ => e3 j (by omega)⟩
theorem len28 (a : Option Addr) (n c : Nat) : builtinA En Builtin.len (30 :: []) (Value.slice a n c :: []) = .ret (vInt n) := by kernel_rfl
theorem sub_len (str : ByteArray) (p q : Int) (hp : 0 ≤ p) (hq : p ≤ q) (hl : q ≤ (bl str).length) : (bl (sub str p q)).length = (q - p).toNat := by
  simp only [sub, bl_mk, List.length_take, List.length_drop]; omega
theorem nums_loop [Gh] (c : Nat) (p : Int) (hp : 0 ≤ p) (hs : (bl str).length ≤ 100000) (hl : ts.length ≤ 20000) :
    ∀ (m : Nat) (a t : Int) (ns : List Value) (s : St), (bl str).length - a < m → p ≤ a → a ≤ (bl str).length → (isDigit (byteOf str a) = true ∨ byteOf str a = 45) → (ns = [] ∨ t = 2 ∨ t = 4 ∨ t = 5) → (∀ y ∈ ns, ∃ i, y = .int .i64 i) → NS s c b str a ts bad t ns →
    Ok (fun f => p85_15 f b p c 0) s (TokQ b str p ts bad) := by
  have t3 : scal En 3 = true := by kernel_rfl
  have t28 : scal En 30 = true := by kernel_rfl
  intro m
  induction m with
  | zero => intro a t ns s hm hpa ha; omega
  | succ m IH =>
    intro a t ns s hm hpa ha hd ht hns h
    refine Ok.step (fun f => p85_15_eq f b p c 0) ?_
    refine Ok.callP (Ok.load1 t3 h.lx.c1) ?_
    rintro v s1 ⟨rfl, m1, c1, l1⟩
    have r1 : Reads s s1 := ⟨m1, c1, [⟨false, b + 1 + 1, 1⟩, ⟨false, b, 1⟩], l1, rfl⟩
    have h1 := h.reads r1
    refine Ok.t rfl ?_
    refine Ok.call (number_ok h1.lx ⟨by omega, ha⟩ (by omega) hd) ?_
    rintro v s2 ⟨⟨e, he1, he2, rfl⟩, g2, a2⟩
    have h2 := h1.ats g2 a2
    have hsl := sub_len str a e (by omega) (by omega) he2
    refine Ok.t rfl ?_
    refine Ok.call (worth_ok s2 _ (by simp only [strOf]; omega) h2.lx.lib) ?_
    rintro v s3 ⟨⟨t', n, ok, rfl, hok⟩, f3⟩
    have h3 := h2.fresh f3
    refine Ok.t rfl ?_
    refine Ok.c (fun _ => fail_q (err := 0) h3.lx 141 _ (by decide) (by simp only [intOf]; omega) p) (fun hb => ?_)
    have hok := hok (not_f hb)
    obtain ⟨x, y, hc⟩ := h3.cell
    simp only [Nat.zero_add]
    refine Ok.callP (Ok.load1 t28 hc) ?_
    rintro v s4 ⟨rfl, m4, c4, l4⟩
    have r4 : Reads s3 s4 := ⟨m4, c4, [⟨false, c + 1 + 1, 1⟩, ⟨false, c, 1⟩], l4, rfl⟩
    have h4 := h3.reads r4
    simp only [len28]
    refine Ok.callP (Q1 := fun v s' => v = vInt (ns.length : Nat) ∧ s' = s4) (Ok.ret ⟨rfl, rfl⟩) ?_
    rintro v s5 ⟨rfl, rfl⟩
    refine Ok.t rfl ?_
    have hw : IntKind.i64.wrap (a + ((bl (sub str a e)).length : Int)) = e := by rw [hsl, wrap_in _ (by omega) (by omega)]; omega
    simp only [bl] at hw
    have fin : ∀ (s7 : St) (k : Nat → Value → Prog), NS s7 c b str a ts bad t ns → ns.length < 65536 →
        (∀ s8, NS s8 c b str e ts bad t' (ns ++ [.int .i64 n]) → Ok (fun f => k f U) s8 (TokQ b str p ts bad)) →
        Ok (fun f => Ev.callP (fun v41 => (Ev.callP (fun v42 => (Ev.callP (fun v43 => (Ev.callP (fun v44 => (Ev.callP (k f) (storeT En 30 c 1 v44)))
            (builtinA En Builtin.append (30 :: (30 :: [])) (v43 :: ((xlstV ((Value.int IntKind.i64 n) :: [])) :: [])))))
            (loadT En 30 c 1))) (storeT En 3 c 0 (Value.int IntKind.i64 t')))) (storeT En 3 b 1 (Value.int IntKind.i64 e))) s7 (TokQ b str p ts bad) := by
      intro s7 k h7 hlt hk
      refine Ok.callP (h7.setAt e) ?_
      rintro v s8 ⟨rfl, h8⟩
      refine Ok.callP (h8.setT t') ?_
      rintro v s9 ⟨rfl, h9⟩
      obtain ⟨w, hw, _⟩ := h9.push (by omega) n
      refine Ok.callP (Ok.load1 t28 hw) ?_
      rintro v s10 ⟨rfl, m10, c10, l10⟩
      have r10 : Reads s9 s10 := ⟨m10, c10, [⟨false, c + 1 + 1, 1⟩, ⟨false, c, 1⟩], l10, rfl⟩
      have h10 := h9.reads r10
      obtain ⟨w', hw', hpush⟩ := h10.push (by omega) n
      have ev : w' = v := by
        have e1 := (hw.reads r10).2
        have e2 := hw'.2
        rw [e1] at e2
        simpa using e2.symm
      subst ev
      refine Ok.callP hpush ?_
      rintro w s11 ⟨w0, w1, w2, w3, w4, w5⟩
      refine Ok.callP (NS.store w0 w1 w2 w3 w4 w5) ?_
      rintro v s12 ⟨rfl, h12⟩
      exact hk s12 h12
    have last : ∀ s8, ns.length < 65536 → NS s8 c b str e ts bad t' (ns ++ [.int .i64 n]) → Ok (fun f => (Prog.call (callF En (runP En f) 126 [(Value.pointer (Option.some (Addr.mk b 0 Option.none)))]) fun v57 =>
                                            (cnd
                                              (cnd
                                                (Ev.callP (fun v58 =>
                                                  (cnd
                                                    (Prog.call (callF En (runP En f) 123 [(Value.pointer (Option.some (Addr.mk b 0 Option.none))), (Value.int IntKind.i64 p), (Value.agg ⟨((Value.int IntKind.i64 (intOf (at_ (aggOf v58) 0))) :: ((at_ (aggOf v58) 1) :: ((at_ (aggOf v58) 2) :: ((at_ (aggOf v58) 3) :: []))))⟩)]) fun v59 =>
                                                      (cnd
                                                        (Prog.ret (Value.tuple ⟨[]⟩))
                                                        Prog.fail
                                                        ((isTupV v59) && (okNs [] (tupOf v59)))))
                                                    Prog.fail
                                                    ((isAggV v58) && (okKs ((Kd.int IntKind.i64) :: (Kd.raw :: (Kd.raw :: (Kd.raw :: [])))) (aggOf v58)))))
                                                  (loadT En 34 c 0))
                                                (p85_15 f b p c 0)
                                                (Bool.not (boolOf v57)))
                                              Prog.fail
                                              (okK Kd.bool v57)))) s8 (TokQ b str p ts bad) := by
      intro s8 hlt h8
      refine Ok.call (more_ok h8.lx ⟨by omega, he2⟩ (by omega)) ?_
      rintro v s9 ⟨a9, hq⟩
      rcases hq with ⟨rfl, h9⟩ | ⟨rfl, a', ha1, ha2, hd', h9⟩
      · have h9 := h8.ats h9 a9
        refine Ok.t rfl (Ok.t rfl ?_)
        refine NS.value h9 p ⟨hp, by omega, he2⟩ (by simp; omega) hl fun s' h10 => ⟨rfl, .inr ⟨⟨1, p, e, sub str p e, atomT t' (ns ++ [Value.int .i64 n]).length, ns ++ [Value.int .i64 n], [], []⟩, ⟨rfl, ?_, he2, Int.le_refl 1, (by decide : (1 : Int) ≤ 6), fun _ => rfl, fun _ => ⟨rfl, ?_, t', ?_, rfl, .inr ⟨by omega, rfl, ?_⟩⟩⟩, h10⟩⟩
        · show p < e
          omega
        · show (ns ++ [Value.int .i64 n]).length + 0 ≤ 65536
          simp; omega
        · omega
        · intro y hy
          rcases List.mem_append.1 hy with hy | hy
          · obtain ⟨i, hi⟩ := hns y hy
            exact ⟨i, hi, fun h => by omega⟩
          · simp only [List.mem_singleton] at hy
            exact ⟨n, hy, fun h => by omega⟩
      · have h9 := h8.ats h9 a9
        refine Ok.t rfl (Ok.f rfl ?_)
        refine IH a' t' _ s9 (by omega) (by omega) ha2 hd' (.inr hok) ?_ h9
        intro y hy
        rcases List.mem_append.1 hy with hy | hy
        · exact hns y hy
        · simp only [List.mem_singleton] at hy
          exact ⟨n, hy⟩
    have hwe : IntKind.wrap IntKind.i64 ((intOf (Value.int IntKind.i64 a)) + (Int.ofNat (List.length (Array.toList (ByteArray.data (strOf (Value.string (sub str a e)))))))) = e := hw
    refine Ok.c (fun _ => ?_) (fun _ => ?_)
    · refine Ok.callP (Ok.load1 t3 h4.cellT) ?_
      rintro v s6 ⟨rfl, m6, c6, l6⟩
      have r6 : Reads s5 s6 := ⟨m6, c6, [⟨false, c + 1 + 0, 1⟩, ⟨false, c, 1⟩], l6, rfl⟩
      have h6 := h4.reads r6
      refine Ok.t rfl ?_
      refine Ok.c (fun _ => fail_q (err := 0) h6.lx 143 _ (by decide) (by simp only [intOf]; omega) p) (fun _ => ?_)
      obtain ⟨x', y', hc'⟩ := h6.cell
      refine Ok.callP (Ok.load1 t28 hc') ?_
      rintro v s7 ⟨rfl, m7, c7, l7⟩
      have r7 : Reads s6 s7 := ⟨m7, c7, [⟨false, c + 1 + 1, 1⟩, ⟨false, c, 1⟩], l7, rfl⟩
      have h7 := h6.reads r7
      simp only [len28]
      refine Ok.callP (Q1 := fun v s' => v = vInt (ns.length : Nat) ∧ s' = s7) (Ok.ret ⟨rfl, rfl⟩) ?_
      rintro v s8 ⟨rfl, rfl⟩
      refine Ok.t rfl ?_
      refine Ok.c (fun _ => fail_q (err := 0) h7.lx 6 _ (by decide) (by simp only [intOf]; omega) p) (fun hlt => ?_)
      have hlt := of_decide_eq_false hlt
      simp only [intOf, vInt] at hlt
      rw [hwe]
      exact fin s8 _ h7 (by omega) fun s9 h9 => last s9 (by omega) h9
    · obtain ⟨x', y', hc'⟩ := h4.cell
      refine Ok.callP (Ok.load1 t28 hc') ?_
      rintro v s7 ⟨rfl, m7, c7, l7⟩
      have r7 : Reads s5 s7 := ⟨m7, c7, [⟨false, c + 1 + 1, 1⟩, ⟨false, c, 1⟩], l7, rfl⟩
      have h7 := h4.reads r7
      simp only [len28]
      refine Ok.callP (Q1 := fun v s' => v = vInt (ns.length : Nat) ∧ s' = s7) (Ok.ret ⟨rfl, rfl⟩) ?_
      rintro v s8 ⟨rfl, rfl⟩
      refine Ok.t rfl ?_
      refine Ok.c (fun _ => fail_q (err := 0) h7.lx 6 _ (by decide) (by simp only [intOf]; omega) p) (fun hlt => ?_)
      have hlt := of_decide_eq_false hlt
      simp only [intOf, vInt] at hlt
      rw [hwe]
      exact fin s8 _ h7 (by omega) fun s9 h9 => last s9 (by omega) h9
end
end Go.Proofs.YtpljgnjdlciicaaGreatDoor
namespace Go.Proofs.YtpljgnjdlciicaaGreatDoor
open Go Go.Ev Go.Proofs
section
variable {s : St} {b : Nat} {str : ByteArray} {a : Int} {ts : List Tok} {bad : Int}
theorem ns_start [Gh] {Q : Value → St → Prop} (h : LX s b str a ts 0 bad) (t : Int) (k : Nat → Nat → Nat → Prog) (hk : ∀ s', NS s' s.ctr b str a ts bad t [] → Ok (fun f => k f s.ctr 0) s' Q) :
    Ok (fun f => gd Bool.true (Ev.callP (fun v65 => (cnd (Ev.callP (fun _ => k f (blkOf v65) (offOf v65))
          (storeT En 34 (blkOf v65) (offOf v65) (Value.agg ⟨((Value.int IntKind.i64 t) :: ((Value.slice Option.none 0 0) :: ((Value.slice Option.none 0 0) :: ((Value.slice Option.none 0 0) :: []))))⟩)))
        Prog.fail (isPt v65)))
      (Prog.newH (Hdr.mk 4 34 Bool.false Bool.true Bool.true 0 Bool.false Bool.false []) ((Value.int IntKind.i64 (0 : Int)) :: ((Value.slice Option.none 0 0) :: ((Value.slice Option.none 0 0) :: ((Value.slice Option.none 0 0) :: [])))) (fun z64 => (Prog.ret (itP z64)))))) s Q := by
  refine Ok.g rfl ?_
  refine Ok.callP (Ok.new rfl) ?_
  rintro v s1 ⟨rfl, e1, e2, e3⟩
  refine Ok.t rfl ?_
  simp only [blk_itP, off_itP]
  refine Ok.callP (Ok.storeRow (n := 4) (ws := [Value.int IntKind.i64 t, Value.slice none 0 0, Value.slice none 0 0, Value.slice none 0 0]) (by kernel_rfl) e2 rfl rfl rfl) ?_
  rintro v s2 ⟨rfl, c2, g2, k2⟩
  exact hk s2 ⟨LXh.frame h (Nat.le_refl _) fun k hk => by rw [k2 k (.inl (by omega)), e3 k hk], by omega, _, g2, Grow.nil _ _ _ _ _⟩
theorem byteAt_mem (x : ByteArray) (i : Nat) (h : i < (bl x).length) : ∃ c ∈ bl x, byteAt x i = c.toNat := by
  refine ⟨(bl x)[i], List.getElem_mem h, ?_⟩
  show ((bl x).getD i 0).toNat = _
  rw [List.getD_eq_getElem?_getD, List.getElem?_eq_getElem h]
  rfl
theorem numeral_ok [Gh] (h : LX s b str a ts 0 bad) (ha : 0 ≤ a ∧ a ≤ (bl str).length) (hs : (bl str).length ≤ 100000) (hl : ts.length ≤ 20000) (hd : isDigit (byteOf str a) = true ∨ byteOf str a = 45) :
    Ok (fun f => callF En (runP En f) 85 [.pointer (some ⟨b, 0, none⟩)]) s (TokQ b str a ts bad) := by
  have t3 : scal En 3 = true := by kernel_rfl
  have nums : ∀ s', LX s' b str a ts 0 bad → ∀ s2, NS s2 s'.ctr b str a ts bad 0 [] → Ok (fun f => p85_15 f b a s'.ctr 0) s2 (TokQ b str a ts bad) := fun s' _ s2 h2 =>
    nums_loop s'.ctr a ha.1 hs hl (((bl str).length - a).toNat + 1) a 0 [] s2 (by omega) (Int.le_refl a) ha.2 hd (.inl rfl) (fun y hy => by cases hy) h2
  refine Ok.step (fun f => f85_eq f b) ?_
  refine Ok.callP (Ok.load1 t3 h.c1) ?_
  rintro v s1 ⟨rfl, m1, c1, l1⟩
  have r1 : Reads s s1 := ⟨m1, c1, [⟨false, b + 1 + 1, 1⟩, ⟨false, b, 1⟩], l1, rfl⟩
  have h1 := h.reads r1
  refine Ok.t rfl ?_
  refine Ok.call (run_ok long_ok s1 ha.1 ha.2 (by simp only [bl] at hs; omega) h1.c0 h1.c1) ?_
  rintro v s2 ⟨n, hn, rfl, r2⟩
  have h2 := h1.reads r2
  refine Ok.t rfl ?_
  have hS : (bl (mkStr (List.take n (List.drop a.toNat str.data.toList)))).length = n := by
    have := hn.1
    rw [bl_mk, List.length_take, List.length_drop]; omega
  generalize mkStr (List.take n (List.drop a.toNat str.data.toList)) = S at hS
  have hn1 := hn.1
  have hbl : (bl str).length = str.data.toList.length := rfl
  refine Ok.call (cutSuffix_ok s2 S _ (by omega)) ?_
  rintro v s3 ⟨rfl, rfl⟩
  refine Ok.t rfl ?_
  simp only [show ∀ a b, at_ (tupOf (Value.tuple ⟨[.string a, .bool b]⟩)) 0 = .string a from fun _ _ => rfl, show ∀ a b, at_ (tupOf (Value.tuple ⟨[.string a, .bool b]⟩)) 1 = .bool b from fun _ _ => rfl, strOf, boolOf, intOf]
  have other : Ok _ s3 (TokQ b str a ts bad) := ns_start h2 0 (fun f x o => p85_15 f b a x o) fun s' h' => nums s3 h2 s' h'
  refine Ok.c (fun hb => ?_) (fun _ => other)
  refine Ok.c (fun hne => ?_) (fun _ => other)
  have hxle : (cutSuf (bl S) (bl (mkStr [98]))).length ≤ n := hS ▸ cutSuf_le _ _
  refine Ok.call (bits_ok s3 (mkStr (cutSuf (bl S) (bl (mkStr [98])))) (by rw [bl_mk]; omega)) ?_
  rintro v s4 ⟨⟨y, rfl, hy⟩, f4⟩
  have h4 := h2.fresh f4
  refine Ok.t rfl ?_
  refine Ok.c (fun hz => ?_) (fun _ => ns_start h4 0 (fun f x o => p85_15 f b a x o) fun s' h' => nums s4 h4 s' h')
  rw [beqB_eq] at hz
  have hz : bl y = [] := of_decide_eq_true hz
  have hy := hy.1 hz
  have hne := not_t hne
  rw [beqB_eq] at hne
  have hne : bl (mkStr (cutSuf (bl S) (bl (mkStr [98])))) ≠ [] := of_decide_eq_false hne
  have hx0 : 0 < (bl (mkStr (cutSuf (bl S) (bl (mkStr [98]))))).length := List.length_pos_iff.2 hne
  refine ns_start h4 1 (fun f x o => p85_6 f b a S (mkStr (cutSuf (bl S) (bl (mkStr [98])))) x o (Int.ofNat (bl (mkStr (cutSuf (bl S) (bl (mkStr [98]))))).length) 0) fun s' h' => ?_
  refine bits_loop s4.ctr a S (mkStr (cutSuf (bl S) (bl (mkStr [98])))) (fun i hi => ?_) ha.1 (by omega) (by rw [bl_mk] at hx0; omega) (by rw [bl_mk, hS]; omega) hx0 (by omega) hl (bl (mkStr (cutSuf (bl S) (bl (mkStr [98]))))).length 0 [] s' (by omega) (by omega) rfl (fun y hy => by cases hy) h'
  · obtain ⟨c, hc, e⟩ := byteAt_mem _ i hi
    rw [e]
    exact hy c hc
end
end Go.Proofs.YtpljgnjdlciicaaGreatDoor
namespace Go.Proofs.YtpljgnjdlciicaaGreatDoor
open Go Go.Ev Go.Proofs
theorem quote_loop (x : ByteArray) (hx : (bl x).length ≤ 1000000) (lo : Nat) : ∀ (m i : Nat) (cs : List Value) (v : Value) (s : St), i + m = (bl x).length → cs.length ≤ 4 * i + 1 → allU8 cs = true → Buf s lo 5 cs v →
    Ok (fun f => p78_3 f x v (Int.ofNat (bl x).length) (i : Int)) s (fun v s' => (∃ y, v = .string y) ∧ s.ctr ≤ s'.ctr ∧ ∀ k, k < lo → s'.mem.get k = s.mem.get k) := by
  intro m
  induction m with
  | zero =>
    intro i cs v s hm hl hu h
    refine Ok.step (fun f => p78_3_eq f x v _ (i : Int)) ?_
    refine Ok.f (decide_eq_false (by simp only [Int.ofNat_eq_natCast]; omega)) ?_
    refine Ok.callP (Ok.appM appT65 h (es := [Value.int IntKind.u8 34]) rfl (by decide) (by simp; omega)) ?_
    rintro w s1 ⟨g1, g2, g3, g4⟩
    refine Ok.callP (conv65 (g1.grow g4) (allU8_append _ _ hu rfl)) ?_
    rintro w s2 ⟨rfl, r2⟩
    exact Ok.ret ⟨⟨_, rfl⟩, by rw [r2.2.1]; exact g2, fun k hk => by rw [r2.1, g3 k hk]⟩
  | succ m IH =>
    intro i cs v s hm hl hu h
    have hi : i < (bl x).length := by omega
    have hw1 : IntKind.i64.wrap ((i : Int) + 1) = ((i + 1 : Nat) : Int) := by rw [wrap_in _ (by omega) (by omega)]; omega
    have nx : ∀ (w : Value) (es : List Value) (s' : St), es.length ≤ 4 → allU8 es = true → Buf s' lo 5 (cs ++ es) w → s.ctr ≤ s'.ctr → (∀ k, k < lo → s'.mem.get k = s.mem.get k) →
        Ok (fun f => p78_9 f x w (Int.ofNat (bl x).length) (i : Int)) s' (fun v s' => (∃ y, v = .string y) ∧ s.ctr ≤ s'.ctr ∧ ∀ k, k < lo → s'.mem.get k = s.mem.get k) := by
      intro w es s' he hue hb hc hf
      refine Ok.step (fun f => p78_9_eq f x w _ (i : Int)) ?_
      rw [hw1]
      refine Ok.mono (IH (i + 1) (cs ++ es) w s' (by omega) (by rw [List.length_append]; omega) (allU8_append _ _ hu hue) hb) ?_
      rintro v s2 ⟨h1, h2, h3⟩
      exact ⟨h1, by omega, fun k hk => by rw [h3 k hk, hf k hk]⟩
    obtain ⟨x1, x2, x3⟩ := hexOk (byteAt x i) (byteAt_lt x i)
    simp only [bl] at hi
    refine Ok.step (fun f => p78_3_eq f x v _ (i : Int)) ?_
    refine Ok.t (decide_eq_true (by simp only [bl, Int.ofNat_eq_natCast]; omega)) ?_
    refine Ok.t (decide_eq_true (by omega)) ?_
    refine Ok.t (Nat.ble_eq_true_of_le (by simp only [Int.toNat_natCast]; omega)) ?_
    simp only [Int.toNat_natCast]
    have four : ∀ a b c d : Int, Ok (fun f => .seg (buildSliceA En 122 4 ((Prod.mk 0 (Value.int IntKind.u8 a)) :: ((Prod.mk 1 (Value.int IntKind.u8 b)) :: ((Prod.mk 2 (Value.int IntKind.u8 c)) :: ((Prod.mk 3 (Value.int IntKind.u8 d)) :: []))))) fun v68 s69 _ => .seg (builtinA En Builtin.append (122 :: (122 :: [])) (v :: (v68 :: []))) fun v70 s71 _ => Ev.gdL 255 (writesOf s71) s71 [⟨7, writesOf s69, s69⟩] (p78_9 f x v70 (Int.ofNat (bl x).length) (i : Int))) s (fun v s' => (∃ y, v = .string y) ∧ s.ctr ≤ s'.ctr ∧ ∀ k, k < lo → s'.mem.get k = s.mem.get k) := fun a b c d =>
      push_seg (k := fun f w => p78_9 f x w (Int.ofNat (bl x).length) (i : Int)) (b65_4 a b c d) h rfl (by simp) (by simp only [List.length_cons, List.length_nil]; omega) rfl fun w s' h1 _ h3 h4 => nx w _ s' (by simp) rfl h1 h3 h4
    refine Ok.c (fun _ => Ok.t x3 (Ok.t x2 (Ok.t x1 (four _ _ _ _)))) (fun _ => ?_)
    refine Ok.c (fun _ => Ok.t x3 (Ok.t x2 (Ok.t x1 (four _ _ _ _)))) (fun _ => ?_)
    refine Ok.c (fun _ => Ok.t x3 (Ok.t x2 (Ok.t x1 (four _ _ _ _)))) (fun _ => ?_)
    refine Ok.c (fun _ => Ok.t x3 (Ok.t x2 (Ok.t x1 (four _ _ _ _)))) (fun _ => ?_)
    refine Ok.callP (Ok.appM appT65 h (es := [Value.int IntKind.u8 (Int.ofNat (byteAt x i))]) rfl (by simp) (by simp; omega)) ?_
    rintro w s1 ⟨g1, g2, g3, _⟩
    exact nx w _ s1 (by simp) rfl g1 g2 g3
theorem quote_ok (s : St) (x : ByteArray) (hx : (bl x).length ≤ 1000000) : Ok (fun f => callF En (runP En f) 78 [.string x]) s (fun v s' => (∃ y, v = .string y) ∧ Fresh s s') := by
  refine Ok.step (fun f => f78_eq f x) ?_
  exact quote_loop x hx s.ctr (bl x).length 0 [Value.int IntKind.u8 34] _ s (by omega) (by simp) rfl ⟨rfl, Nat.le_refl _, .inr rfl⟩
def UqV (v : Value) : Prop := ∃ y c, v = .tuple ⟨[.string y, .bool c]⟩
theorem unq_loop [Gh] (x0 : ByteArray) (hx0 : (bl x0).length ≤ 1000000) (lo : Nat) : ∀ (m : Nat) (x : ByteArray) (cs : List Value) (v : Value) (s : St), (bl x).length = m → cs.length + m ≤ (bl x0).length → allU8 cs = true → Buf s lo 5 cs v → (∃ a b c, v = Value.slice a b c) → Lib s.mem lo →
    Ok (fun f => p127_5 f x0 v x) s (fun v s' => UqV v ∧ s.ctr ≤ s'.ctr ∧ ∀ k, k < lo → s'.mem.get k = s.mem.get k) := by
  intro m
  induction m using Nat.strongRecOn with
  | ind m IH =>
  intro x cs v s hm hl hu h hv hlb
  have no : ∀ s' : St, s.ctr ≤ s'.ctr → (∀ k, k < lo → s'.mem.get k = s.mem.get k) → Ok (fun _ => Prog.ret (Value.tuple ⟨((Value.string (mkStr [])) :: ((Value.bool Bool.false) :: []))⟩)) s' (fun v s' => UqV v ∧ s.ctr ≤ s'.ctr ∧ ∀ k, k < lo → s'.mem.get k = s.mem.get k) := fun s' h1 h2 => Ok.ret ⟨⟨_, _, rfl⟩, h1, h2⟩
  have nx : ∀ (w : Value) (a : Int) (n : Nat) (s' : St), 0 < n → n ≤ (bl x).length → Buf s' lo 5 (cs ++ [Value.int IntKind.u8 a]) w → (∃ a b c, w = Value.slice a b c) → s.ctr ≤ s'.ctr → (∀ k, k < lo → s'.mem.get k = s.mem.get k) →
      Ok (fun f => p127_5 f x0 w (mkStr (List.take ((List.length (Array.toList (ByteArray.data x))) - n) (List.drop n (Array.toList (ByteArray.data x)))))) s' (fun v s' => UqV v ∧ s.ctr ≤ s'.ctr ∧ ∀ k, k < lo → s'.mem.get k = s.mem.get k) := by
    intro w a n s' hn hnx hb hw hc hf
    refine Ok.mono (IH (m - n) (by omega) _ (cs ++ [Value.int IntKind.u8 a]) w s' ?_ (by rw [List.length_append, List.length_singleton]; omega) (allU8_append _ _ hu rfl) hb hw (hlb.congr (Nat.le_refl lo) hf)) ?_
    · rw [bl_mk, List.length_take, List.length_drop]
      simp only [bl] at hm hnx
      omega
    · rintro v s2 ⟨h1, h2, h3⟩
      exact ⟨h1, by omega, fun k hk => by rw [h3 k hk, hf k hk]⟩
  have hbl : (bl x).length = x.data.toList.length := rfl
  refine Ok.step (fun f => p127_5_eq f x0 v x) ?_
  refine Ok.c (fun hne => ?_) (fun _ => ?_)
  · have hne := not_t hne
    rw [beqB_eq] at hne
    have hne : bl x ≠ [] := of_decide_eq_false hne
    have h0 : 0 < (bl x).length := List.length_pos_iff.2 hne
    refine Ok.t (Nat.ble_eq_true_of_le (by omega)) ?_
    refine Ok.c (fun _ => ?_) (fun _ => ?_)
    · refine Ok.t (Nat.ble_eq_true_of_le (by omega)) ?_
      refine push_seg (k := fun f w => cnd (p127_5 f x0 w (mkStr (List.take ((List.length (Array.toList (ByteArray.data x))) - 1) (List.drop 1 (Array.toList (ByteArray.data x)))))) Prog.fail ((Nat.ble 1 (List.length (Array.toList (ByteArray.data x)))) && (Nat.ble (List.length (Array.toList (ByteArray.data x))) (List.length (Array.toList (ByteArray.data x)))))) (b65_1 _) h rfl (by simp) (by rw [List.length_singleton]; omega) rfl fun w s' h1 h2 h3 h4 => ?_
      refine Ok.t (by simp only [Bool.and_eq_true]; exact ⟨Nat.ble_eq_true_of_le (by omega), Nat.ble_eq_true_of_le (by omega)⟩) ?_
      exact nx w _ 1 s' (by omega) (by omega) h1 h2 h3 h4
    · refine Ok.c (fun _ => no s (Nat.le_refl _) fun _ _ => rfl) (fun h4 => ?_)
      have h4 := of_decide_eq_false h4
      simp only [Int.ofNat_eq_natCast] at h4
      refine Ok.t (Nat.ble_eq_true_of_le (by omega)) ?_
      refine Ok.call (parseUint_ok _ s 16 8 (.inr ⟨rfl, rfl⟩) (by rw [bl_mk, List.length_take]; omega) (hlb.congr h.2.1 fun _ _ => rfl)) ?_
      rintro w s1 ⟨⟨n, e, rfl, he⟩, f1⟩
      have b1 := h.fresh f1
      have f1' : ∀ k, k < lo → s1.mem.get k = s.mem.get k := fun k hk => f1.2 k (by have := h.2.1; omega)
      refine Ok.t rfl ?_
      simp only [show at_ (tupOf (Value.tuple ⟨[.int .u64 n, e]⟩)) 1 = e from rfl]
      rcases he with rfl | ⟨p, rfl⟩
      · simp only [neq_nil _ (Operand.const Value.nilIface) rfl]
        refine Ok.t rfl (Ok.f rfl ?_)
        refine push_seg (k := fun f w => cnd (p127_5 f x0 w (mkStr (List.take ((List.length (Array.toList (ByteArray.data x))) - 4) (List.drop 4 (Array.toList (ByteArray.data x)))))) Prog.fail ((Nat.ble 4 (List.length (Array.toList (ByteArray.data x)))) && (Nat.ble (List.length (Array.toList (ByteArray.data x))) (List.length (Array.toList (ByteArray.data x)))))) (b65_1 _) b1 rfl (by simp) (by rw [List.length_singleton]; omega) rfl fun w s' g1 g2 g3 g4 => ?_
        refine Ok.t (by simp only [Bool.and_eq_true]; exact ⟨Nat.ble_eq_true_of_le (by omega), Nat.ble_eq_true_of_le (by omega)⟩) ?_
        exact nx w _ 4 s' (by omega) (by omega) g1 g2 (Nat.le_trans f1.1 g3) fun k hk => by rw [g4 k hk, f1' k hk]
      · simp only [neq_ifc _ _ _ (show Nat.blt 263 LF = true from rfl)]
        exact Ok.t rfl (Ok.t rfl (no s1 f1.1 f1'))
  · refine Ok.callP (conv65 (h.grow hv) hu) ?_
    rintro w s1 ⟨rfl, r1⟩
    have hbv : (bl (mkStr (bytesV cs))).length ≤ 1000000 := by
      rw [bl_mk]
      rw [bytesV_length]
      omega
    refine Ok.call (quote_ok s1 _ hbv) ?_
    rintro w s2 ⟨⟨y, rfl⟩, f2⟩
    have f2 := (Go.Ev.Reads.fresh r1).trans f2
    have f2' : ∀ k, k < lo → s2.mem.get k = s.mem.get k := fun k hk => f2.2 k (by have := h.2.1; omega)
    refine Ok.t rfl ?_
    refine Ok.c (fun _ => no s2 f2.1 f2') (fun _ => ?_)
    refine Ok.callP (conv65 ((h.fresh f2).grow hv) hu) ?_
    rintro w s3 ⟨rfl, r3⟩
    exact Ok.ret ⟨⟨_, _, rfl⟩, by rw [r3.2.1]; exact f2.1, fun k hk => by rw [r3.1, f2' k hk]⟩
theorem unquote_ok [Gh] (s : St) (x : ByteArray) (hx : (bl x).length ≤ 1000000) (hl : Lib s.mem s.ctr) : Ok (fun f => callF En (runP En f) 127 [.string x]) s (fun v s' => UqV v ∧ Fresh s s') := by
  refine Ok.step (fun f => f127_eq f x) ?_
  refine Ok.c (fun _ => Ok.ret ⟨⟨_, _, rfl⟩, Fresh.refl s⟩) (fun h => ?_)
  have h := of_decide_eq_false h
  have hbl : (bl x).length = x.data.toList.length := rfl
  simp only [Int.ofNat_eq_natCast] at h
  have e := sub1 (bl x).length (by omega) (by omega)
  simp only [bl] at e
  rw [e]
  simp only [Int.ofNat_eq_natCast, Int.toNat_natCast]
  refine Ok.t (decide_eq_true (by omega)) ?_
  refine Ok.t (by simp only [Bool.and_eq_true]; exact ⟨Nat.ble_eq_true_of_le (by omega), Nat.ble_eq_true_of_le (by omega)⟩) ?_
  refine unq_loop x hx s.ctr _ _ [] _ s rfl ?_ rfl ⟨rfl, Nat.le_refl _, .inl (Grow.nil _ _ _ _ _)⟩ ⟨_, _, _, rfl⟩ hl
  rw [bl_mk, List.length_take, List.length_drop]
  simp only [List.length_nil]; omega
end Go.Proofs.YtpljgnjdlciicaaGreatDoor
namespace Go.Proofs.YtpljgnjdlciicaaGreatDoor
open Go Go.Ev Go.Proofs
section
variable {s : St} {b : Nat} {str : ByteArray} {a : Int} {ts : List Tok} {bad : Int}
def QuQ [Gh] (b : Nat) (str : ByteArray) (a : Int) (p : Int) (ts : List Tok) (bad : Int) (s : St) (v : Value) (s' : St) : Prop :=
  s.ctr ≤ s'.ctr ∧ (∀ k, k < s.ctr → k ≠ b + 4 → k ≠ b + 5 → s'.mem.get k = s.mem.get k) ∧ ∃ y n, v = .tuple ⟨[.string y, .int .i64 n]⟩ ∧
    ((n = 0 ∧ y = mkStr [] ∧ LX s' b str a ts 142 p) ∨ (2 ≤ n ∧ p + n ≤ (bl str).length ∧ LX s' b str a ts 0 bad))
theorem indexB_ok (s : St) (x : ByteArray) (c : Int) (h : 0 ≤ c ∧ c < 256) : Ok (fun f => callF En (runP En f) 91 [.string x, .int .u8 c]) s
    (fun v s' => (∃ n : Int, v = .int .i64 n ∧ ((n = -1 ∧ ∀ b ∈ bl x, b.toNat ≠ c.toNat) ∨ ∃ j : Nat, n = j ∧ j < (bl x).length)) ∧ s' = s) := by
  refine Ok.mono (indexByte_ok s x c h) ?_
  rintro v s' ⟨rfl, rfl⟩
  refine ⟨⟨_, rfl, ?_⟩, rfl⟩
  rcases findByte_spec c.toNat (bl x) 0 with h | ⟨j, h1, h2, _⟩
  · exact .inl h
  · exact .inr ⟨j, by rw [h2, Nat.zero_add]; rfl, h1⟩
theorem quoted_7 [Gh] (h : LX s b str a ts 0 bad) (p : Int) (s0 : St) (f0 : Fresh s0 s) : Ok (fun f => p90_7 f b p) s (QuQ b str a p ts bad s0) := by
  refine Ok.step (fun f => p90_7_eq f b p) ?_
  refine Ok.call (fail_lx h 142 p) ?_
  rintro v s1 ⟨rfl, h1, c1, f1⟩
  refine Ok.t rfl (Ok.ret ⟨by have := f0.1; omega, fun k hk k1 k2 => by rw [f1 k k1 k2, f0.2 k hk], _, _, rfl, .inl ⟨rfl, rfl, by simpa using h1⟩⟩)
theorem quoted_ok [Gh] (h : LX s b str a ts 0 bad) (skip : Int) (ha : 0 ≤ a ∧ 0 ≤ skip ∧ a + skip < (bl str).length) (hs : (bl str).length ≤ 100000) :
    Ok (fun f => callF En (runP En f) 90 [.pointer (some ⟨b, 0, none⟩), .int .i64 skip]) s (QuQ b str a (a + skip) ts bad s) := by
  have t3 : scal En 3 = true := by kernel_rfl
  have t9 : scal En 9 = true := by kernel_rfl
  have hbl : (bl str).length = str.data.toList.length := rfl
  have hw1 : IntKind.i64.wrap (a + skip) = a + skip := wrap_in _ (by omega) (by omega)
  have hw2 : IntKind.i64.wrap (a + skip + 1) = a + skip + 1 := wrap_in _ (by omega) (by omega)
  refine Ok.step (fun f => f90_eq f b skip) ?_
  refine Ok.callP (Ok.load1 t3 h.c1) ?_
  rintro v s1 ⟨rfl, m1, c1, l1⟩
  have r1 : Reads s s1 := ⟨m1, c1, [⟨false, b + 1 + 1, 1⟩, ⟨false, b, 1⟩], l1, rfl⟩
  refine Ok.t rfl ?_
  refine Ok.callP (Ok.load1 t9 (h.c0.reads r1)) ?_
  rintro v s2 ⟨rfl, m2, c2, l2⟩
  have r2 : Reads s1 s2 := ⟨m2, c2, [⟨false, b + 1 + 0, 1⟩, ⟨false, b, 1⟩], l2, rfl⟩
  have r2 := r1.trans r2
  refine Ok.t rfl ?_
  simp only [intOf, strOf, hw1, hw2]
  refine Ok.t (decide_eq_true (by omega)) ?_
  refine Ok.t (by simp only [Bool.and_eq_true]; exact ⟨Nat.ble_eq_true_of_le (by omega), Nat.ble_eq_true_of_le (by omega)⟩) ?_
  refine Ok.call (indexB_ok s2 _ 34 (by decide)) ?_
  rintro v s3 ⟨⟨n, rfl, hsp⟩, rfl⟩
  refine Ok.t rfl ?_
  refine Ok.c (fun hn => ?_) (fun _ => quoted_7 (h.reads r2) _ s (Go.Ev.Reads.fresh r2))
  have hn := of_decide_eq_true hn
  obtain ⟨j, rfl, hj⟩ : ∃ j : Nat, n = Int.ofNat j ∧ a + skip + 1 + j < (bl str).length := by
    rcases hsp with ⟨rfl, _⟩ | ⟨j, h2, h1⟩
    · simp only [intOf] at hn
      omega
    · rw [bl_mk, List.length_take, List.length_drop] at h1
      exact ⟨j, by rw [h2]; rfl, by omega⟩
  refine Ok.callP (Ok.load1 t9 (h.c0.reads r2)) ?_
  rintro v s4 ⟨rfl, m4, c4, l4⟩
  have r4 : Reads s3 s4 := ⟨m4, c4, [⟨false, b + 1 + 0, 1⟩, ⟨false, b, 1⟩], l4, rfl⟩
  have r4 := r2.trans r4
  refine Ok.t rfl ?_
  have hw3 : IntKind.i64.wrap (a + skip + Int.ofNat j) = a + skip + j := wrap_in _ (by simp only [Int.ofNat_eq_natCast]; omega) (by simp only [Int.ofNat_eq_natCast]; omega)
  have hw4 : IntKind.i64.wrap (a + skip + (j : Int) + 2) = a + skip + j + 2 := wrap_in _ (by omega) (by omega)
  have hw5 : IntKind.i64.wrap (Int.ofNat j + 2) = (j : Int) + 2 := wrap_in _ (by simp only [Int.ofNat_eq_natCast]; omega) (by simp only [Int.ofNat_eq_natCast]; omega)
  simp only [intOf, strOf, hw3, hw4, hw5]
  refine Ok.t (decide_eq_true (by omega)) ?_
  refine Ok.t (decide_eq_true (by omega)) ?_
  refine Ok.t (by simp only [Bool.and_eq_true]; exact ⟨Nat.ble_eq_true_of_le (by omega), Nat.ble_eq_true_of_le (by omega)⟩) ?_
  have h4 := h.reads r4
  refine Ok.call (unquote_ok s4 _ (by rw [bl_mk, List.length_take, List.length_drop]; omega) h4.lib) ?_
  rintro v s5 ⟨⟨y, ok, rfl⟩, f5⟩
  have f5' := (Go.Ev.Reads.fresh r4).trans f5
  refine Ok.t rfl ?_
  refine Ok.c (fun _ => ?_) (fun _ => quoted_7 (h4.fresh f5) _ s f5')
  exact Ok.ret ⟨f5'.1, fun k hk _ _ => f5'.2 k hk, _, _, rfl, .inr ⟨by omega, by omega, h4.fresh f5⟩⟩
end
end Go.Proofs.YtpljgnjdlciicaaGreatDoor
namespace Go.Proofs.YtpljgnjdlciicaaGreatDoor
open Go Go.Ev Go.Proofs
section
variable {s : St} {b : Nat} {str : ByteArray} {a : Int} {ts : List Tok} {err bad : Int}
def SS [Gh] (s : St) (c : Nat) (b : Nat) (str : ByteArray) (a : Int) (ts : List Tok) (err bad : Int) (ns : List Value) : Prop :=
  LXh s.mem c b str a ts err bad ∧ c + 5 ≤ s.ctr ∧ ∃ v, Row s.mem c [.int .i64 3, .slice none 0 0, v, .slice none 0 0] ∧ Grow s.mem (c + 5) s.ctr 9 1 ns v
theorem SS.lx [Gh] {c : Nat} {ns : List Value} (h : SS s c b str a ts err bad ns) : LX s b str a ts err bad := h.1.frame (by have := h.2.1; omega) fun _ _ => rfl
theorem SS.fresh [Gh] {s' : St} {c : Nat} {ns : List Value} (h : SS s c b str a ts err bad ns) (f : Fresh s s') : SS s' c b str a ts err bad ns := by
  obtain ⟨h1, h2, v, h3, h4⟩ := h
  exact ⟨h1.frame (Nat.le_refl c) fun k hk => f.2 k (by omega), by have := f.1; omega, v, h3.congr fun j _ hj => f.2 j (by simp at hj; omega), h4.congr f.1 fun j _ hj => f.2 j hj⟩
theorem SS.reads [Gh] {s' : St} {c : Nat} {ns : List Value} (h : SS s c b str a ts err bad ns) (r : Reads s s') : SS s' c b str a ts err bad ns := h.fresh (Go.Ev.Reads.fresh r)
theorem SS.lxr [Gh] {s' : St} {c : Nat} {ns : List Value} {a' err' bad' : Int} {ts' : List Tok} (h : SS s c b str a ts err bad ns) (g : LX s' b str a' ts' err' bad') (hc : s.ctr ≤ s'.ctr) (f : ∀ k, k < s.ctr → k ≠ b + 2 → k ≠ b + 4 → k ≠ b + 5 → s'.mem.get k = s.mem.get k) : SS s' c b str a' ts err' bad' ns := by
  obtain ⟨⟨l, g1, g2, g3, g4⟩, h2, v, h3, h4⟩ := h
  obtain ⟨l', i1, i2, i3, i4⟩ := g
  have el : l' = l := by
    have e1 : s.mem.get (b + 1 + 2) = some (.cell b l) := CellsAt.get 2 l g1.2 rfl
    have e2 : s'.mem.get (b + 1 + 2) = some (.cell b l') := CellsAt.get 2 l' i1.2 rfl
    rw [f _ (by omega) (by omega) (by omega) (by omega), e1] at e2
    simpa using e2.symm
  subst el
  exact ⟨⟨l', i1, g2.congr (Nat.le_refl c) fun j h5 h6 => f j (by omega) (by omega) (by omega) (by omega), g3, i4⟩, by omega, v, h3.congr fun j _ hj => f j (by simp at hj; omega) (by omega) (by omega) (by omega), h4.congr hc fun j _ hj => f j hj (by omega) (by omega) (by omega)⟩
theorem SS.setAt [Gh] {c : Nat} {ns : List Value} (h : SS s c b str a ts err bad ns) (a' : Int) :
    Ok (fun _ => storeT En 3 b 1 (.int .i64 a')) s (fun w s' => w = U ∧ SS s' c b str a' ts err bad ns) := by
  refine Ok.mono (setAt_ok h.lx a') ?_
  rintro v s' ⟨rfl, h1, c1, f1⟩
  exact ⟨rfl, h.lxr h1 (by omega) fun k _ hk _ _ => f1 k hk⟩
theorem SS.fail [Gh] {c : Nat} {ns : List Value} (h : SS s c b str a ts 0 bad ns) (e p : Int) :
    Ok (fun f => callF En (runP En f) 38 [.pointer (some ⟨b, 0, none⟩), .int .i64 e, .int .i64 p]) s (fun v s' => v = .tuple ⟨[]⟩ ∧ SS s' c b str a ts e p ns) := by
  refine Ok.mono (fail_lx h.lx e p) ?_
  rintro v s' ⟨rfl, h1, c1, f1⟩
  exact ⟨rfl, h.lxr (by simpa using h1) (by omega) fun k _ _ k1 k2 => f1 k k1 k2⟩
theorem SS.cell [Gh] {c : Nat} {ns : List Value} (h : SS s c b str a ts err bad ns) : ∃ x y, Cell s.mem c 2 (.slice x ns.length y) := by
  obtain ⟨_, _, v, h3, h4⟩ := h
  obtain ⟨x, y, rfl⟩ := h4.len ns.length (by omega) (by omega)
  exact ⟨x, y, h3.cell 2 rfl⟩
theorem len29 (a : Option Addr) (n c : Nat) : builtinA En Builtin.len (31 :: []) (Value.slice a n c :: []) = .ret (vInt n) := by kernel_rfl
theorem SS.push [Gh] {c : Nat} {ns : List Value} (h : SS s c b str a ts err bad ns) (hn : ns.length ≤ 65536) (x : ByteArray) {k : Nat → Value → Prog} {Q : Value → St → Prop} (hk : ∀ s', SS s' c b str a ts err bad (ns ++ [.string x]) → Ok (fun f => k f U) s' Q) :
    Ok (fun f => Ev.callP (fun v58 => Ev.callP (fun v59 => Ev.callP (k f) (storeT En 31 c 2 v59)) (builtinA En Builtin.append (31 :: (31 :: [])) (v58 :: ((xlstV ((Value.string x) :: [])) :: [])))) (loadT En 31 c 2)) s Q := by
  obtain ⟨h1, h2, v, h3, h4⟩ := h
  refine Ok.callP (Ok.load1 (by kernel_rfl) (h3.cell 2 rfl)) ?_
  rintro w s1 ⟨rfl, m1, c1, _⟩
  refine Ok.callP (Ok.app appT29 (h4.congr (by omega) fun j _ _ => by rw [m1]) rfl rfl (by omega) (by omega)) ?_
  rintro w' s2 ⟨g1, g2, g3⟩
  have h3' : Row s2.mem c [.int .i64 3, .slice none 0 0, w, .slice none 0 0] := h3.congr fun j _ hj => by rw [g3 j (by simp at hj; omega), m1]
  refine Ok.callP (Ok.storeCell (o := 2) (by kernel_rfl) g1.one.2 h3' (by simp) g1.one.1) ?_
  rintro v s3 ⟨rfl, e1, e2, e3⟩
  exact hk s3 ⟨h1.frame (Nat.le_refl c) fun k hk => by rw [e3 k (by omega), g3 k (by omega), m1], by omega, w', e2, g1.congr (by omega) fun j h5 _ => e3 j (by omega)⟩
theorem SS.value [Gh] {c : Nat} {ns : List Value} (h : SS s c b str a ts err bad ns) (p : Int) (hp : 0 ≤ p ∧ p ≤ a ∧ a ≤ (bl str).length) (hn : ns.length ≤ 1000000) (hl : ts.length ≤ 20000) {Q : Value → St → Prop}
    (hq : ∀ s', LX s' b str a (ts ++ [⟨1, p, a, sub str p a, atomT 3 ns.length, [], ns, []⟩]) err bad → Q (.tuple ⟨[]⟩) s') :
    Ok (fun f => Ev.callP (fun v28 =>
            (cnd
              (Prog.call (callF En (runP En f) 123 [(Value.pointer (Option.some (Addr.mk b 0 Option.none))), (Value.int IntKind.i64 p), (Value.agg ⟨((Value.int IntKind.i64 (intOf (at_ (aggOf v28) 0))) :: ((at_ (aggOf v28) 1) :: ((at_ (aggOf v28) 2) :: ((at_ (aggOf v28) 3) :: []))))⟩)]) fun v29 =>
                (cnd
                  (Prog.ret (Value.tuple ⟨[]⟩))
                  Prog.fail
                  ((isTupV v29) && (okNs [] (tupOf v29)))))
              Prog.fail
              ((isAggV v28) && (okKs ((Kd.int IntKind.i64) :: (Kd.raw :: (Kd.raw :: (Kd.raw :: [])))) (aggOf v28)))))
            (loadT En 34 c 0)) s Q := by
  obtain ⟨h1, h2, v, h3, h4⟩ := h
  refine Ok.callP (Ok.loadA (n := 4) (vs := [.int .i64 3, .slice none 0 0, v, .slice none 0 0]) (by kernel_rfl) (by kernel_rfl) rfl ?_ h3.2) ?_
  · obtain ⟨el, ex, z, sy', hf⟩ := h3.1
    exact ⟨_, hf⟩
  rintro w s1 ⟨rfl, m1, c1, _⟩
  refine Ok.t rfl ?_
  refine Ok.call (valueS_ok (lo := c + 5) (v := v) (n := ns) (b := b) (str := str) (a := a) (ts := ts) (err := err) (bad := bad) ?_ (by omega) (h4.congr (by omega) fun j _ _ => by rw [m1]) p hp 3 hn hl) ?_
  · exact h1.frame (by omega) fun k _ => by rw [m1]
  rintro w s2 ⟨rfl, h5⟩
  exact Ok.t rfl (Ok.ret (hq s2 h5))
def SymV (x : Value) : Prop := ∃ y, x = .string y ∧ (bl y).length ≤ 64 ∧ ∀ c ∈ bl y, c ≠ 0
theorem sym_err [Gh] {c : Nat} {ns : List Value} (p : Int) (h : SS s c b str a ts err bad ns) (he : err ≠ 0) (hb : 0 ≤ bad ∧ bad ≤ (bl str).length) (hp : 0 ≤ p ∧ p ≤ a ∧ a ≤ (bl str).length) (hn : ns.length ≤ 1000000) (hl : ts.length ≤ 20000) (q bd : Int) :
    Ok (fun f => p89_2 f b p c 0) s (TokQ b str q ts bd) := by
  refine Ok.step (fun f => p89_2_eq f b p c 0) ?_
  refine Ok.callP (Ok.load1 (by kernel_rfl) h.lx.c3) ?_
  rintro v s1 ⟨rfl, m1, c1, l1⟩
  have r1 : Reads s s1 := ⟨m1, c1, [⟨false, b + 1 + 3, 1⟩, ⟨false, b, 1⟩], l1, rfl⟩
  refine Ok.t rfl ?_
  refine Ok.f (decide_eq_false he) ?_
  exact SS.value (h.reads r1) p hp hn hl fun s' h' => ⟨rfl, .inl ⟨_, _, _, _, he, hb.1, hb.2, h'⟩⟩
theorem sym_loop [Gh] (c : Nat) (p : Int) (hp : 0 ≤ p) (hs : (bl str).length ≤ 100000) (hl : ts.length ≤ 20000) :
    ∀ (m : Nat) (a : Int) (ns : List Value) (s : St), (bl str).length - a < m → p ≤ a → a ≤ (bl str).length → (p < a ∨ byteOf str a = 96) → ns.length ≤ 65536 → (∀ y ∈ ns, SymV y) → SS s c b str a ts 0 bad ns →
    Ok (fun f => p89_2 f b p c 0) s (TokQ b str p ts bad) := by
  have t3 : scal En 3 = true := by kernel_rfl
  have t24 : scal En 24 = true := by kernel_rfl
  have hbl : (bl str).length = str.data.toList.length := rfl
  intro m
  induction m with
  | zero => intro a ns s hm hpa ha; omega
  | succ m IH =>
    intro a ns s hm hpa ha h96 hn hns h
    refine Ok.step (fun f => p89_2_eq f b p c 0) ?_
    refine Ok.callP (Ok.load1 t24 h.lx.c3) ?_
    rintro v s1 ⟨rfl, m1, c1, l1⟩
    have r1 : Reads s s1 := ⟨m1, c1, [⟨false, b + 1 + 3, 1⟩, ⟨false, b, 1⟩], l1, rfl⟩
    have h1 := h.reads r1
    refine Ok.t rfl (Ok.t rfl ?_)
    refine Ok.call (peek_ok s1 b str a 0 h1.lx.c0 h1.lx.c1 (by omega) (by omega)) ?_
    rintro v s2 ⟨rfl, r2⟩
    have h2 := h1.reads r2
    refine Ok.t rfl ?_
    rw [Int.add_zero]
    simp only [intOf]
    refine Ok.c (fun hc => ?_) (fun hc => ?_)
    rotate_left
    · have hc := of_decide_eq_false hc
      have hpa' : p < a := by
        rcases h96 with h | h
        · exact h
        · exact absurd h hc
      refine SS.value h2 p ⟨hp, by omega, ha⟩ (by omega) hl fun s' h' => ⟨rfl, .inr ⟨⟨1, p, a, sub str p a, atomT 3 ns.length, [], ns, []⟩, ⟨rfl, hpa', ha, Int.le_refl 1, (by decide : (1 : Int) ≤ 6), fun _ => rfl, fun _ => ⟨rfl, ?_, 3, by omega, ?_, .inl ⟨rfl, rfl, hns⟩⟩⟩, h'⟩⟩
      · show [].length + ns.length ≤ 65536
        simp only [List.length_nil]; omega
      · exact congrArg (atomT 3) (Nat.zero_add _).symm
    have hc := of_decide_eq_true hc
    have hlt := byteOf_ne str a (by omega)
    refine Ok.callP (Ok.load1 t3 h2.lx.c1) ?_
    rintro v s3 ⟨rfl, m3, c3, l3⟩
    have r3 : Reads s2 s3 := ⟨m3, c3, [⟨false, b + 1 + 1, 1⟩, ⟨false, b, 1⟩], l3, rfl⟩
    have h3 := h2.reads r3
    refine Ok.t rfl ?_
    obtain ⟨x, y, hcell⟩ := h3.cell
    simp only [Nat.zero_add]
    refine Ok.callP (Ok.load1 (by kernel_rfl) hcell) ?_
    rintro v s4 ⟨rfl, m4, c4, l4⟩
    have r4 : Reads s3 s4 := ⟨m4, c4, [⟨false, c + 1 + 2, 1⟩, ⟨false, c, 1⟩], l4, rfl⟩
    have h4 := h3.reads r4
    simp only [len29]
    refine Ok.callP (Q1 := fun v s' => v = vInt (ns.length : Nat) ∧ s' = s4) (Ok.ret ⟨rfl, rfl⟩) ?_
    rintro v s5 ⟨rfl, rfl⟩
    refine Ok.t rfl ?_
    refine Ok.c (fun _ => fail_q (err := 0) h4.lx 6 _ (by decide) (by first | omega | (simp only [intOf]; omega)) p) (fun hlt2 => ?_)
    have hlt2 := of_decide_eq_false hlt2
    simp only [intOf, vInt] at hlt2
    have k19 : ∀ (s6 : St) (e bd : Int) (x5 : ByteArray) (x6 : Int), SS s6 c b str a ts e bd ns → 0 ≤ x6 → a + 1 + x6 ≤ (bl str).length → (e = 0 ∧ bd = bad ∧ (bl x5).length ≤ 64 ∧ (∀ c ∈ bl x5, c ≠ 0)) ∨ (e ≠ 0 ∧ 0 ≤ bd ∧ bd ≤ (bl str).length) →
        Ok (fun f => p89_19 f b p c 0 x5 x6) s6 (TokQ b str p ts bad) := by
      intro s6 e bd x5 x6 h6 hx1 hx2 hor
      have hw1 : IntKind.i64.wrap (1 + x6) = 1 + x6 := wrap_in _ (by omega) (by omega)
      have hw2 : IntKind.i64.wrap (a + (1 + x6)) = a + (1 + x6) := wrap_in _ (by omega) (by omega)
      refine Ok.step (fun f => p89_19_eq f b p c 0 x5 x6) ?_
      refine Ok.callP (Ok.load1 t3 h6.lx.c1) ?_
      rintro v s7 ⟨rfl, m7, c7, l7⟩
      have r7 : Reads s6 s7 := ⟨m7, c7, [⟨false, b + 1 + 1, 1⟩, ⟨false, b, 1⟩], l7, rfl⟩
      refine Ok.t rfl ?_
      simp only [intOf, hw1, hw2, Nat.zero_add]
      refine Ok.callP ((h6.reads r7).setAt _) ?_
      rintro v s8 ⟨rfl, h8⟩
      refine SS.push (k := fun f _ => p89_2 f b p c 0) h8 hn x5 fun s9 h9 => ?_
      rcases hor with ⟨rfl, rfl, hx3, hx4⟩ | ⟨he, hb1, hb2⟩
      · refine IH (a + (1 + x6)) _ s9 (by omega) (by omega) (by omega) (.inl (by omega)) (by simp; omega) ?_ h9
        intro y hy
        rcases List.mem_append.1 hy with hy | hy
        · exact hns y hy
        · simp only [List.mem_singleton] at hy
          exact ⟨x5, hy, hx3, hx4⟩
      · exact sym_err p h9 he ⟨hb1, hb2⟩ ⟨hp, by omega, by omega⟩ (by simp; omega) hl p bad
    have k14 : ∀ (s6 : St) (x5 : ByteArray) (x6 : Int), SS s6 c b str a ts 0 bad ns → 0 ≤ x6 → a + 1 + x6 ≤ (bl str).length → Ok (fun f => p89_14 f b p c 0 a x5 x6) s6 (TokQ b str p ts bad) := by
      intro s6 x5 x6 h6 hx1 hx2
      refine Ok.step (fun f => p89_14_eq f b p c 0 a x5 x6) ?_
      refine Ok.callP (Ok.load1 t24 h6.lx.c3) ?_
      rintro v s7 ⟨rfl, m7, c7, l7⟩
      have r7 : Reads s6 s7 := ⟨m7, c7, [⟨false, b + 1 + 3, 1⟩, ⟨false, b, 1⟩], l7, rfl⟩
      have h7 := h6.reads r7
      refine Ok.t rfl (Ok.f rfl ?_)
      refine Ok.c (fun _ => ?_) (fun hle => ?_)
      · refine Ok.call (h7.fail 1 a) ?_
        rintro v s8 ⟨rfl, h8⟩
        exact Ok.t rfl (k19 s8 1 a x5 x6 h8 hx1 hx2 (.inr ⟨by decide, by omega, by omega⟩))
      · have hle := of_decide_eq_false hle
        simp only [Int.ofNat_eq_natCast] at hle
        refine Ok.call (indexB_ok s7 x5 0 (by decide)) ?_
        rintro v s8 ⟨⟨n, rfl, hor⟩, rfl⟩
        refine Ok.t rfl ?_
        refine Ok.c (fun _ => ?_) (fun hneg => ?_)
        · refine Ok.call (h7.fail 140 a) ?_
          rintro v s9 ⟨rfl, h9⟩
          exact Ok.t rfl (k19 s9 140 a x5 x6 h9 hx1 hx2 (.inr ⟨by decide, by omega, by omega⟩))
        · have hneg := of_decide_eq_false hneg
          simp only [intOf] at hneg
          refine k19 s8 0 bad x5 x6 h7 hx1 hx2 (.inl ⟨rfl, rfl, by simp only [bl]; omega, ?_⟩)
          rcases hor with ⟨_, hz⟩ | ⟨j, hj, _⟩
          · intro ch hch e
            subst e
            exact hz 0 hch rfl
          · omega
    refine Ok.call (peek_ok s5 b str a 1 h4.lx.c0 h4.lx.c1 (by omega) (by omega)) ?_
    rintro v s6 ⟨rfl, r6⟩
    have h6 := h4.reads r6
    refine Ok.t rfl ?_
    simp only [intOf]
    refine Ok.c (fun hq => ?_) (fun _ => ?_)
    · have hq := of_decide_eq_true hq
      have hlt3 := byteOf_ne str (a + 1) (by omega)
      refine Ok.call (quoted_ok h6.lx 1 ⟨by omega, by omega, by omega⟩ hs) ?_
      rintro v s7 ⟨q1, q2, y, n, rfl, hor⟩
      refine Ok.t rfl ?_
      simp only [show ∀ a b, at_ (tupOf (Value.tuple ⟨[.string a, .int .i64 b]⟩)) 0 = .string a from fun _ _ => rfl, show ∀ a b, at_ (tupOf (Value.tuple ⟨[.string a, .int .i64 b]⟩)) 1 = .int .i64 b from fun _ _ => rfl, strOf, intOf]
      rcases hor with ⟨rfl, rfl, h7⟩ | ⟨hn1, hn2, h7⟩
      · have h7 : SS s7 c b str a ts 142 (a + 1) ns := h6.lxr h7 q1 fun k hk _ k1 k2 => q2 k hk k1 k2
        refine Ok.step (fun f => p89_14_eq f b p c 0 a _ 0) ?_
        refine Ok.callP (Ok.load1 t24 h7.lx.c3) ?_
        rintro v s8 ⟨rfl, m8, c8, l8⟩
        have r8 : Reads s7 s8 := ⟨m8, c8, [⟨false, b + 1 + 3, 1⟩, ⟨false, b, 1⟩], l8, rfl⟩
        exact Ok.t rfl (Ok.t rfl (Ok.ret ⟨rfl, .inl ⟨_, _, _, _, by decide, by omega, by omega, (h7.reads r8).lx⟩⟩))
      · have h7 : SS s7 c b str a ts 0 bad ns := h6.lxr h7 q1 fun k hk _ k1 k2 => q2 k hk k1 k2
        exact k14 s7 y n h7 (by omega) (by omega)
    · refine Ok.call (peek_ok s6 b str a 1 h6.lx.c0 h6.lx.c1 (by omega) (by omega)) ?_
      rintro v s7 ⟨rfl, r7⟩
      have h7 := h6.reads r7
      refine Ok.t rfl ?_
      simp only [intOf]
      refine Ok.call (letter_ok s7 _) ?_
      rintro v s8 ⟨rfl, rfl⟩
      refine Ok.t rfl ?_
      refine Ok.c (fun hlet => ?_) (fun _ => k14 s8 _ 0 h7 (by omega) (by omega))
      have hlt3 := byteOf_ne str (a + 1) (by intro e; simp only [boolOf, e] at hlet; exact absurd hlet (by decide))
      refine Ok.callP (Ok.load1 t3 h7.lx.c1) ?_
      rintro v s9 ⟨rfl, m9, c9, l9⟩
      have r9 : Reads s8 s9 := ⟨m9, c9, [⟨false, b + 1 + 1, 1⟩, ⟨false, b, 1⟩], l9, rfl⟩
      refine Ok.t rfl ?_
      have hw1 : IntKind.i64.wrap (a + 1) = a + 1 := wrap_in _ (by omega) (by omega)
      have hw2 : IntKind.i64.wrap (a + 1 + -1) = a := by rw [show a + 1 + -1 = a by omega]; exact wrap_in _ (by omega) (by omega)
      simp only [intOf, hw1]
      refine Ok.callP ((h7.reads r9).setAt _) ?_
      rintro v s10 ⟨rfl, h10⟩
      refine Ok.call (run_ok long_ok s10 (by omega) (by omega) (by omega) h10.lx.c0 h10.lx.c1) ?_
      rintro v s11 ⟨n, hrun, rfl, r11⟩
      have h11 := h10.reads r11
      have hr1 := hrun.1
      have hxl : (mkStr (List.take n (List.drop (a + 1).toNat str.data.toList))).data.toList.length = n := by
        show (List.take n (List.drop (a + 1).toNat str.data.toList)).length = n
        rw [List.length_take, List.length_drop]; omega
      refine Ok.t rfl ?_
      refine Ok.callP (Ok.load1 t3 h11.lx.c1) ?_
      rintro v s12 ⟨rfl, m12, c12, l12⟩
      have r12 : Reads s11 s12 := ⟨m12, c12, [⟨false, b + 1 + 1, 1⟩, ⟨false, b, 1⟩], l12, rfl⟩
      refine Ok.t rfl ?_
      simp only [intOf, hw2, strOf, hxl, Int.ofNat_eq_natCast]
      refine Ok.callP ((h11.reads r12).setAt _) ?_
      rintro v s13 ⟨rfl, h13⟩
      exact k14 s13 _ n h13 (by omega) (by omega)
theorem symbols_ok [Gh] (h : LX s b str a ts 0 bad) (ha : 0 ≤ a ∧ a ≤ (bl str).length) (hs : (bl str).length ≤ 100000) (hl : ts.length ≤ 20000) (h96 : byteOf str a = 96) :
    Ok (fun f => callF En (runP En f) 89 [.pointer (some ⟨b, 0, none⟩)]) s (TokQ b str a ts bad) := by
  refine Ok.step (fun f => f89_eq f b) ?_
  refine Ok.callP (Ok.load1 (by kernel_rfl) h.c1) ?_
  rintro v s1 ⟨rfl, m1, c1, l1⟩
  have r1 : Reads s s1 := ⟨m1, c1, [⟨false, b + 1 + 1, 1⟩, ⟨false, b, 1⟩], l1, rfl⟩
  have h1 := h.reads r1
  refine Ok.t rfl (Ok.g rfl ?_)
  refine Ok.callP (Ok.new rfl) ?_
  rintro v s2 ⟨rfl, e1, e2, e3⟩
  refine Ok.t rfl ?_
  simp only [blk_itP, off_itP, intOf]
  refine Ok.callP (Ok.storeRow (n := 4) (ws := [Value.int IntKind.i64 3, Value.slice none 0 0, Value.slice none 0 0, Value.slice none 0 0]) (by kernel_rfl) e2 rfl rfl rfl) ?_
  rintro v s3 ⟨rfl, c3, g3, k3⟩
  exact sym_loop s1.ctr a ha.1 hs hl (((bl str).length - a).toNat + 1) a [] s3 (by omega) (Int.le_refl a) ha.2 (.inr h96) (by simp) (fun y hy => by cases hy) ⟨LXh.frame h1 (Nat.le_refl _) fun k hk => by rw [k3 k (.inl (by omega)), e3 k hk], by omega, _, g3, Grow.nil _ _ _ _ _⟩
end
end Go.Proofs.YtpljgnjdlciicaaGreatDoor
namespace Go.Ev
open Go
theorem apart_above' {c : Nat} {ws all rs : List Acc} (h : ∀ a, a ∈ ws → c ≤ a.k) (g : ∀ b, b ∈ rs → b.k + b.n ≤ c) : apartLogs [] rs ws all = true := by
  unfold apartLogs
  cases ws with
  | nil => rfl
  | cons a ws => simp only [anyHits_above c _ h rs g, Bool.not_false, Bool.and_true]
theorem Ok.rd {E : Env} {t b o : Nat} {v : Value} {s : St} {Q : Value → St → Prop} {k : Nat → Value → Prog} {Inv : St → Prop} (hr : ∀ s s', Inv s → Reads s s' → Inv s') (hI : Inv s) (hs : scal E t = true) (h : Cell s.mem b o v)
    (hk : ∀ s', Inv s' → Ok (fun f => k f v) s' Q) : Ok (fun f => Ev.callP (k f) (loadT E t b o)) s Q := by
  refine Ok.callP (Ok.load1 hs h) ?_
  rintro w s1 ⟨rfl, e1, e2, e3⟩
  exact hk s1 (hr s s1 hI ⟨e1, e2, [⟨false, b + 1 + o, 1⟩, ⟨false, b, 1⟩], e3, rfl⟩)
end Go.Ev
namespace Go.Proofs.YtpljgnjdlciicaaGreatDoor
open Go Go.Ev Go.Proofs
section
variable {s : St} {b : Nat} {str : ByteArray} {a : Int} {ts : List Tok} {bad : Int}
def NegQ [Gh] (b : Nat) (str : ByteArray) (a : Int) (ts : List Tok) (bad : Int) (v : Value) (s' : St) : Prop := ∃ r, v = .bool r ∧ (r = true → byteOf str a = 45) ∧ LX s' b str a ts 0 bad
theorem negative_ok [Gh] (h : LX s b str a ts 0 bad) (ha : 0 ≤ a ∧ a ≤ (bl str).length) (hs : (bl str).length ≤ 100000) (hl : ts.length ≤ 20000) (hpre : ts = [] → a = 0 ∨ byteI str (a - 1) = 32) :
    Ok (fun f => callF En (runP En f) 84 [.pointer (some ⟨b, 0, none⟩)]) s (NegQ b str a ts bad) := by
  have t3 : scal En 3 = true := by kernel_rfl
  have t9 : scal En 9 = true := by kernel_rfl
  have t23 : scal En 42 = true := by kernel_rfl
  have hbl : (bl str).length = str.data.toList.length := rfl
  refine Ok.step (fun f => f84_eq f b) ?_
  refine Ok.call (peek_ok s b str a 0 h.c0 h.c1 (by omega) (by omega)) ?_
  rintro v s1 ⟨rfl, r1⟩
  have h1 := h.reads r1
  refine Ok.t rfl ?_
  rw [Int.add_zero]
  simp only [intOf]
  refine Ok.c (fun _ => Ok.ret ⟨_, rfl, (fun h => by cases h), h1⟩) (fun h45 => ?_)
  have h45 : byteOf str a = 45 := of_decide_eq_true (not_f h45)
  have hlt := byteOf_ne str a (by omega)
  refine Ok.call (peek_ok s1 b str a 1 h1.c0 h1.c1 (by omega) (by omega)) ?_
  rintro v s2 ⟨rfl, r2⟩
  have h2 := h1.reads r2
  refine Ok.t rfl ?_
  refine Ok.call (digit_ok s2 _) ?_
  rintro v s3 ⟨rfl, rfl⟩
  refine Ok.t rfl ?_
  refine Ok.c (fun _ => Ok.ret ⟨_, rfl, (fun h => by cases h), h2⟩) (fun _ => ?_)
  refine Ok.segLoad t3 h2.c1 fun s4 r4 => ?_
  have h4 := h2.reads r4
  refine Ok.t rfl ?_
  simp only [intOf]
  refine Ok.c (fun _ => Ok.ret ⟨_, rfl, fun _ => h45, h4⟩) (fun h0 => ?_)
  have h0 := of_decide_eq_false h0
  refine Ok.segLoad t9 h4.c0 fun s5 r5 => ?_
  refine Ok.gdL (by kernel_rfl) ?_
  have h5 := h4.reads r5
  refine Ok.t rfl ?_
  refine Ok.segLoad t3 h5.c1 fun s6 r6 => ?_
  refine Ok.gdL (by kernel_rfl) ?_
  have h6 := h5.reads r6
  refine Ok.t rfl ?_
  have hw : IntKind.i64.wrap (a + -1) = a - 1 := by rw [show a + -1 = a - 1 by omega]; exact wrap_in _ (by omega) (by omega)
  simp only [intOf, strOf, hw]
  refine Ok.t (decide_eq_true (by omega)) ?_
  refine Ok.t (Nat.ble_eq_true_of_le (by omega)) ?_
  refine Ok.c (fun _ => Ok.ret ⟨_, rfl, fun _ => h45, h6⟩) (fun h32 => ?_)
  have h32 := of_decide_eq_false h32
  have hne : ts ≠ [] := fun e => by
    rcases hpre e with h | h
    · exact h0 h
    · exact h32 h
  obtain ⟨ts', t, rfl⟩ : ∃ ts' t, ts = ts' ++ [t] := ⟨ts.dropLast, ts.getLast hne, (List.dropLast_concat_getLast hne).symm⟩
  have h6' := h6
  obtain ⟨l, g1, ⟨go, gg⟩, g3, g4⟩ := h6
  have htc : toksC (ts' ++ [t]) = toksC ts' ++ t.cells := by rw [toksC_append]; simp [toksC]
  rcases gg with ⟨rfl, gg⟩ | ⟨r, n, sy, olds, rfl, a2, a3, a4, a5, a6, a7⟩
  · rw [htc] at gg
    have := congrArg List.length gg
    simp [Tok.cells] at this
  rw [toksC_length, List.length_append, List.length_singleton] at a2
  have hn : n = ts'.length + 1 := by omega
  subst hn
  rw [htc] at a7
  have a7 := a7.right
  rw [toksC_length] at a7
  have row6 : Row s6.mem b (lxC str a (.slice (some ⟨r, 0, none⟩) (ts'.length + 1) (capOf (ts'.length + 1) false)) 0 bad) := g1
  rw [htc, List.length_append, toksC_length] at a4
  have h8 : t.cells.length = 8 := rfl
  refine Ok.segLoad t23 (row6.cell 2 rfl) fun s7 r7 => ?_
  refine Ok.t rfl ?_
  refine Ok.segLoad t23 ((row6.cell 2 rfl).reads r7) fun s8 r8 => ?_
  have r8 := r7.trans r8
  refine Ok.gdL (by kernel_rfl) ?_
  refine Ok.t rfl ?_
  have el : ∀ (x o n c : Nat), builtinA En Builtin.len (42 :: []) (Value.slice (some ⟨x, o, none⟩) n c :: []) = .ret (vInt n) := fun _ _ _ _ => by kernel_rfl
  simp only [sBlk, sOff, sLen, sCap, el]
  refine Ok.seg (Q1 := fun v s' => v = vInt ((ts'.length + 1 : Nat) : Int) ∧ s' = ⟨s8.mem, s8.ctr, []⟩) (Ok.ret ⟨rfl, rfl⟩) ?_
  rintro w s9 ⟨rfl, rfl⟩
  refine Ok.gdL (by kernel_rfl) ?_
  refine Ok.t rfl ?_
  simp only [List.length_append, List.length_singleton] at hl
  have hw2 : IntKind.i64.wrap (((ts'.length + 1 : Nat) : Int) + -1) = ((ts'.length : Nat) : Int) := by
    rw [show (((ts'.length + 1 : Nat) : Int) + -1) = ((ts'.length : Nat) : Int) by omega]
    exact wrap_in _ (by omega) (by omega)
  simp only [intOf, vInt, hw2, Int.toNat_natCast]
  refine Ok.t (decide_eq_true (by omega)) ?_
  refine Ok.t (by rw [Bool.and_true]; exact Nat.ble_eq_true_of_le (by omega)) ?_
  have m8 : s8.mem = s6.mem := r8.1
  have c8 : s8.ctr = s6.ctr := r8.2.1
  refine Ok.segLoadA (n := 8) (by kernel_rfl) (by kernel_rfl) h8 ⟨_, by simp only [m8]; exact a6⟩ (show CellsAt s8.mem r (r + 1 + (0 + ts'.length * 8)) t.cells by rw [m8, Nat.zero_add]; exact a7) fun s10 r10 => ?_
  refine Ok.gdL (by kernel_rfl) ?_
  have h10 : LX s10 b str a (ts' ++ [t]) 0 bad := (h6'.reads r8).reads r10
  have c10 : s10.ctr = s6.ctr := r10.2.1.trans c8
  refine Ok.t rfl ?_
  refine Ok.seg (Ok.newF rfl) ?_
  rintro v s11 ⟨rfl, e1, e2, e3, e4, l11, e5, e6⟩
  simp only [List.append_nil] at e5
  simp only at e1 e2 e3 e4 e6
  refine Ok.gdL ?_ ?_
  · rw [e5]
    simp only [freeL, Bool.and_true]
    simp only [Bool.and_eq_true, Bool.or_eq_true]
    refine ⟨.inr (apart_above' (c := s10.ctr) e6 ?_), .inr (apart_above' (c := s10.ctr) e6 ?_), .inr (apart_above' (c := s10.ctr) e6 ?_), .inr (apart_above' (c := s10.ctr) e6 ?_)⟩
    · intro x hx
      simp only [List.mem_cons, List.mem_nil_iff, or_false] at hx
      rcases hx with rfl | rfl <;> simp only <;> omega
    · intro x hx; cases hx
    · intro x hx
      simp only [List.mem_cons, List.mem_nil_iff, or_false] at hx
      rcases hx with rfl | rfl <;> simp only <;> omega
    · intro x hx
      simp only [List.mem_cons, List.mem_nil_iff, or_false] at hx
      rcases hx with rfl | rfl <;> simp only <;> omega
  refine Ok.t rfl ?_
  simp only [blk_itP, off_itP]
  have rw0 : Row s11.mem s10.ctr [Value.int IntKind.i64 0, Value.int IntKind.i64 0, Value.int IntKind.i64 0, Value.string (mkStr []), Value.int IntKind.i64 0, Value.slice none 0 0, Value.slice none 0 0, Value.slice none 0 0] := ⟨⟨_, _, _, _, e2⟩, e3⟩
  refine Ok.seg (Ok.storeRow (s := ⟨s11.mem, s11.ctr, []⟩) (n := 8) (ws := t.cells) (by kernel_rfl) rw0 rfl rfl rfl) ?_
  rintro v s12 ⟨rfl, c12, g12, k12⟩
  refine Ok.gdL (by kernel_rfl) ?_
  simp only at c12 k12
  have h12 : LX ⟨s12.mem, s12.ctr, s12.log ++ (s11.log ++ s10.log)⟩ b str a (ts' ++ [t]) 0 bad := h10.frame (by simp only; omega) fun k hk => by simp only; rw [k12 k (.inl (by omega)), e4 k hk]
  have hr : ∀ s s', (LX s b str a (ts' ++ [t]) 0 bad ∧ Row s.mem s10.ctr t.cells) → Reads s s' → (LX s' b str a (ts' ++ [t]) 0 bad ∧ Row s'.mem s10.ctr t.cells) := fun s s' h r => ⟨h.1.reads r, by rw [r.1]; exact h.2⟩
  have hI : LX ⟨s12.mem, s12.ctr, s12.log ++ (s11.log ++ s10.log)⟩ b str a (ts' ++ [t]) 0 bad ∧ Row (St.mem ⟨s12.mem, s12.ctr, s12.log ++ (s11.log ++ s10.log)⟩) s10.ctr t.cells := ⟨h12, g12⟩
  simp only [Nat.zero_add]
  repeat' (first
    | refine Ok.rd hr hI (by kernel_rfl) (hI.2.cell 0 rfl) fun s' hI => ?_
    | refine Ok.rd hr hI (by kernel_rfl) (hI.2.cell 3 rfl) fun s' hI => ?_
    | refine Ok.t rfl ?_
    | refine Ok.c (fun _ => ?_) (fun _ => ?_)
    | exact Ok.ret ⟨_, rfl, fun _ => h45, hI.1⟩)
end
end Go.Proofs.YtpljgnjdlciicaaGreatDoor
namespace Go.Proofs.YtpljgnjdlciicaaGreatDoor
open Go Go.Ev Go.Proofs
theorem freeL_reads (m : Nat) (sg : List Acc) (h : writesOf sg = []) : ∀ (ds : List Done), (∀ d ∈ ds, d.ws = []) → freeL m (writesOf sg) sg ds = true
  | [], _ => rfl
  | d :: ds, g => by
    have hd := g d (List.mem_cons_self ..)
    have ih := freeL_reads m sg h ds fun d hd => g d (List.mem_cons_of_mem _ hd)
    have : apartLogs [] d.all [] sg = true := rfl
    rw [h] at ih ⊢
    simp only [freeL, ih, Bool.and_true, hd, this, Bool.or_true]
theorem segReads {p : Nat → Prog} {s : St} {R : Value → Prop} {Q : Value → St → Prop} {k : Nat → Value → List Acc → Nat → Prog} (h : Ok p ⟨s.mem, s.ctr, []⟩ (fun v s' => R v ∧ Reads ⟨s.mem, s.ctr, []⟩ s'))
    (hk : ∀ v s1 sg, R v → Reads s s1 → writesOf sg = [] → Ok (fun f => k f v sg s.ctr) s1 Q) : Ok (fun f => .seg (p f) (k f)) s Q := by
  refine Ok.seg h ?_
  rintro v s1 ⟨hR, e1, e2, l, e3, e4⟩
  simp only [List.append_nil] at e1 e2 e3
  rw [e2]
  exact hk v _ s1.log hR ⟨e1, rfl, s1.log, rfl, by rw [e3]; exact e4⟩ (by rw [e3]; exact e4)
section
variable {s : St} {b : Nat} {str : ByteArray} {a : Int} {ts : List Tok} {bad : Int}
theorem addSub [Gh] (h : LX s b str a ts 0 bad) (p kind t : Int) (hp : 0 ≤ p ∧ p < a ∧ a ≤ (bl str).length) (hk : 1 ≤ kind ∧ kind ≤ 6) (hv : kind = 1 → ValOK t [] [] []) (hl : ts.length ≤ 20000) (m1 m2 i1 i2 : Nat) (hm1 : Nat.testBit m2 i1 = true) (hm2 : Nat.testBit m2 i2 = true) :
    Ok (fun f => .seg (loadT En 9 b 0) fun v60 s61 _ =>
    (cnd
      (Prog.seg (loadT En 3 b 1) fun v62 s63 _ =>
        (Ev.gdL m1 (writesOf s63) s63 [⟨i1, writesOf s61, s61⟩]
          (cnd
            (cnd
              (cnd
                (cnd
                  (gd Bool.true
                    (Prog.seg (callF En (runP En f) 88 [(Value.pointer (Option.some (Addr.mk b 0 Option.none))), (Value.int IntKind.i64 kind), (Value.int IntKind.i64 p), (Value.string (mkStr (List.take ((Int.toNat (intOf v62)) - (Int.toNat p)) (List.drop (Int.toNat p) (Array.toList (ByteArray.data (strOf v60))))))), (Value.agg ⟨((Value.int IntKind.i64 t) :: ((lstV []) :: ((lstV []) :: ((lstV []) :: []))))⟩)]) fun v64 s65 _ =>
                      (Ev.gdL m2 (writesOf s65) s65 [⟨i2, writesOf s63, s63⟩, ⟨i1, writesOf s61, s61⟩]
                        (cnd
                          (Prog.ret (Value.tuple ⟨[]⟩))
                          Prog.fail
                          ((isTupV v64) && (okNs [] (tupOf v64)))))))
                  Prog.fail
                  ((Nat.ble (Int.toNat p) (Int.toNat (intOf v62))) && (Nat.ble (Int.toNat (intOf v62)) (List.length (Array.toList (ByteArray.data (strOf v60)))))))
                Prog.fail
                (decide ((0 : Int) ≤ (intOf v62))))
              Prog.fail
              (decide ((0 : Int) ≤ p)))
            Prog.fail
            (okK (Kd.int IntKind.i64) v62))))
      Prog.fail
      (okK Kd.str v60))) s (TokQ b str p ts bad) := by
  have hbl : (bl str).length = str.data.toList.length := rfl
  refine Ok.segLoad (by kernel_rfl) h.c0 fun s1 r1 => ?_
  refine Ok.t rfl ?_
  refine Ok.segLoad (by kernel_rfl) (h.c1.reads r1) fun s2 r2 => ?_
  have r2 := r1.trans r2
  refine Ok.gdL (freeL_reads _ _ rfl _ fun d hd => by simp only [List.mem_singleton] at hd; subst hd; rfl) ?_
  refine Ok.t rfl ?_
  simp only [intOf, strOf]
  refine Ok.t (decide_eq_true hp.1) ?_
  refine Ok.t (decide_eq_true (by omega)) ?_
  refine Ok.t (by simp only [Bool.and_eq_true]; exact ⟨Nat.ble_eq_true_of_le (by omega), Nat.ble_eq_true_of_le (by omega)⟩) ?_
  refine Ok.g rfl ?_
  have h2 : LX s2 b str a ts 0 bad := h.reads r2
  have h2 : LX ⟨s2.mem, s2.ctr, []⟩ b str a ts 0 bad := h2
  refine Ok.seg (add_ok h2 kind p (sub str p a) t [] [] [] hl) ?_
  rintro v s3 ⟨rfl, h3⟩
  refine Ok.gdL (by simp [freeL, hm1, hm2]) ?_
  exact Ok.t rfl (Ok.ret ⟨rfl, .inr ⟨⟨kind, p, a, sub str p a, t, [], [], []⟩, ⟨rfl, hp.2.1, hp.2.2, hk.1, hk.2, fun _ => rfl, hv⟩, h3⟩⟩)
theorem mark_11 [Gh] (h : LX s b str a ts 0 bad) (p : Int) (hp : 0 ≤ p ∧ p < a ∧ a ≤ (bl str).length) (hl : ts.length ≤ 20000) : Ok (fun f => p92_11 f b p) s (TokQ b str p ts bad) :=
  Ok.step (fun f => p92_11_eq f b p) (addSub h p 6 0 hp (by decide) (fun h => absurd h (by decide)) hl 3840 32767 6 12 rfl rfl)
theorem mark_6 [Gh] (h : LX s b str a ts 0 bad) (ha : 0 ≤ a ∧ a ≤ (bl str).length) (hs : (bl str).length ≤ 100000) (hl : ts.length ≤ 20000) : Ok (fun f => p92_6 f b a (byteOf str a)) s (TokQ b str a ts bad) := by
  have t3 : scal En 3 = true := by kernel_rfl
  have hr : ∀ s s', LX s b str a ts 0 bad → Reads s s' → LX s' b str a ts 0 bad := fun s s' h r => h.reads r
  have hby : 0 ≤ byteOf str a ∧ byteOf str a < 256 := by
    unfold byteOf
    split
    · have := byteAt_lt str a.toNat
      simp only [Int.ofNat_eq_natCast]; omega
    · omega
  refine Ok.step (fun f => p92_6_eq f b a (byteOf str a)) ?_
  refine Ok.c (fun _ => fail_q (err := 0) h 140 a (by decide) ha a) (fun h0 => ?_)
  have h0 := of_decide_eq_false h0
  have hlt := byteOf_ne str a h0
  refine Ok.call (indexB_ok s _ _ hby) ?_
  rintro v s1 ⟨⟨n, rfl, _⟩, rfl⟩
  refine Ok.t rfl ?_
  refine Ok.c (fun _ => fail_q (err := 0) h 140 a (by decide) ha a) (fun _ => ?_)
  refine Ok.rd hr h t3 h.c1 fun s2 h2 => ?_
  refine Ok.t rfl ?_
  have hw1 : IntKind.i64.wrap (a + 1) = a + 1 := wrap_in _ (by omega) (by omega)
  simp only [intOf, hw1]
  refine Ok.callP (setAt_ok h2 (a + 1)) ?_
  rintro v s3 ⟨rfl, h3, _⟩
  refine Ok.c (fun _ => ?_) (fun _ => mark_11 h3 a ⟨ha.1, by omega, by omega⟩ hl)
  refine Ok.call (peek_ok s3 b str (a + 1) 0 h3.c0 h3.c1 (by omega) (by omega)) ?_
  rintro v s4 ⟨rfl, r4⟩
  have h4 := h3.reads r4
  refine Ok.t rfl ?_
  rw [Int.add_zero]
  refine Ok.c (fun h58 => ?_) (fun _ => mark_11 h4 a ⟨ha.1, by omega, by omega⟩ hl)
  have h58 := of_decide_eq_true h58
  simp only [intOf] at h58
  have hlt2 := byteOf_ne str (a + 1) (by omega)
  have hr : ∀ s s', LX s b str (a + 1) ts 0 bad → Reads s s' → LX s' b str (a + 1) ts 0 bad := fun s s' h r => h.reads r
  refine Ok.rd hr h4 t3 h4.c1 fun s5 h5 => ?_
  refine Ok.t rfl ?_
  have hw2 : IntKind.i64.wrap (a + 1 + 1) = a + 1 + 1 := wrap_in _ (by omega) (by omega)
  simp only [intOf, hw2]
  refine Ok.callP (setAt_ok h5 (a + 1 + 1)) ?_
  rintro v s6 ⟨rfl, h6, _⟩
  exact mark_11 h6 a ⟨ha.1, by omega, by omega⟩ hl
theorem mark_ok [Gh] (h : LX s b str a ts 0 bad) (ha : 0 ≤ a ∧ a ≤ (bl str).length) (hs : (bl str).length ≤ 100000) (hl : ts.length ≤ 20000) :
    Ok (fun f => callF En (runP En f) 92 [.pointer (some ⟨b, 0, none⟩)]) s (TokQ b str a ts bad) := by
  have t3 : scal En 3 = true := by kernel_rfl
  have hr : ∀ s s', LX s b str a ts 0 bad → Reads s s' → LX s' b str a ts 0 bad := fun s s' h r => h.reads r
  refine Ok.step (fun f => f92_eq f b) ?_
  refine Ok.segLoad t3 h.c1 fun s1 r1 => ?_
  have h1 := h.reads r1
  refine Ok.t rfl ?_
  have pk : ∀ (s : St) (n : Int), LX s b str a ts 0 bad → 0 ≤ n → n ≤ 1000 → Ok (fun f => callF En (runP En f) 82 [.pointer (some ⟨b, 0, none⟩), .int .i64 n]) s (fun v s' => v = .int .u8 (byteOf str (a + n)) ∧ Reads s s') := fun s n h h1 h2 =>
    peek_ok s b str a n h.c0 h.c1 (by omega) (by omega)
  have h1' : LX ⟨s1.mem, s1.ctr, []⟩ b str a ts 0 bad := h1
  refine segReads (R := fun v => v = .int .u8 (byteOf str (a + 0))) (pk _ 0 h1' (by omega) (by omega)) ?_
  rintro v s2 sg rfl r2 hsg
  have h2 := h1.reads r2
  refine Ok.gdL (freeL_reads _ _ hsg _ fun d hd => by simp only [List.mem_singleton] at hd; subst hd; rfl) ?_
  refine Ok.t rfl ?_
  rw [Int.add_zero]
  simp only [intOf]
  have m6 : ∀ s, LX s b str a ts 0 bad → Ok (fun f => p92_6 f b a (byteOf str a)) s (TokQ b str a ts bad) := fun s h => mark_6 h ha hs hl
  refine Ok.c (fun _ => ?_) (fun _ => m6 _ h2)
  refine Ok.call (pk s2 1 h2 (by omega) (by omega)) ?_
  rintro v s3 ⟨rfl, r3⟩
  have h3 := h2.reads r3
  refine Ok.t rfl ?_
  refine Ok.c (fun _ => ?_) (fun _ => m6 _ h3)
  refine Ok.call (pk s3 3 h3 (by omega) (by omega)) ?_
  rintro v s4 ⟨rfl, r4⟩
  have h4 := h3.reads r4
  refine Ok.t rfl ?_
  refine Ok.call (inside_ok s4 _) ?_
  rintro v s5 ⟨rfl, rfl⟩
  refine Ok.t rfl ?_
  refine Ok.c (fun _ => ?_) (fun _ => m6 _ h4)
  have h4' : LX ⟨s5.mem, s5.ctr, []⟩ b str a ts 0 bad := h4
  refine segReads (R := fun v => v = .int .u8 (byteOf str (a + 2))) (pk _ 2 h4' (by omega) (by omega)) ?_
  rintro v s6 sg rfl r6 hsg
  have h6 := h4.reads r6
  refine Ok.t rfl ?_
  have hby : 0 ≤ byteOf str (a + 2) ∧ byteOf str (a + 2) < 256 := by
    unfold byteOf
    split
    · have := byteAt_lt str (a + 2).toNat
      simp only [Int.ofNat_eq_natCast]; omega
    · omega
  simp only [intOf]
  refine Ok.seg (indexB_ok ⟨s6.mem, s6.ctr, []⟩ _ _ hby) ?_
  rintro v s7 ⟨⟨n, rfl, hn⟩, rfl⟩
  have h7 : LX ⟨s6.mem, s6.ctr, [] ++ s6.log⟩ b str a ts 0 bad := h6
  refine Ok.gdL (freeL_reads _ _ rfl _ fun d hd => by simp only [List.mem_singleton] at hd; subst hd; exact hsg) ?_
  refine Ok.t rfl ?_
  simp only [intOf]
  refine Ok.c (fun hge => ?_) (fun _ => m6 _ h7)
  have hge := of_decide_eq_true hge
  refine Ok.call (pk _ 2 h7 (by omega) (by omega)) ?_
  rintro v s8 ⟨rfl, r8⟩
  have h8 := h7.reads r8
  refine Ok.t rfl ?_
  simp only [intOf]
  refine Ok.c (fun hne => ?_) (fun _ => m6 _ h8)
  have hne : byteOf str (a + 2) ≠ 0 := of_decide_eq_false (not_t hne)
  have hlt := byteOf_ne str (a + 2) hne
  refine Ok.rd hr h8 t3 h8.c1 fun s9 h9 => ?_
  refine Ok.t rfl ?_
  have hw3 : IntKind.i64.wrap (a + 3) = a + 3 := wrap_in _ (by omega) (by omega)
  simp only [intOf, hw3]
  refine Ok.callP (setAt_ok h9 (a + 3)) ?_
  rintro v s10 ⟨rfl, h10, _⟩
  obtain ⟨j, rfl, hj⟩ : ∃ j : Nat, n = j ∧ j < 5 := by
    rcases hn with ⟨rfl, _⟩ | ⟨j, h, hj⟩
    · omega
    · exact ⟨j, h, hj⟩
  have hw4 : IntKind.i64.wrap ((j : Int) + 1) = (j : Int) + 1 := wrap_in _ (by omega) (by omega)
  rw [hw4]
  refine addSub h10 a 1 ((j : Int) + 1) ⟨ha.1, by omega, by omega⟩ (by decide) (fun _ => ⟨rfl, by simp, (j : Int) + 1, by omega, rfl, ?_⟩) hl 3840 131071 6 12 rfl rfl
  by_cases h3 : (j : Int) + 1 = 3
  · exact .inl ⟨h3, rfl, fun x hx => by cases hx⟩
  · exact .inr ⟨h3, rfl, fun x hx => by cases hx⟩
end
end Go.Proofs.YtpljgnjdlciicaaGreatDoor
namespace Go.Proofs.YtpljgnjdlciicaaGreatDoor
open Go Go.Ev Go.Proofs
section
variable {s : St} {b : Nat} {str : ByteArray} {a : Int} {ts : List Tok} {bad : Int}
theorem tok_21 [Gh] (h : LX s b str a ts 0 bad) (p : Int) (hp : 0 ≤ p ∧ p < a ∧ a ≤ (bl str).length) (hl : ts.length ≤ 20000) : Ok (fun f => p37_21 f b p) s (TokQ b str p ts bad) :=
  Ok.step (fun f => p37_21_eq f b p) (addSub h p 5 0 hp (by decide) (fun h => absurd h (by decide)) hl 3840 32767 6 12 rfl rfl)
theorem adv_ok [Gh] (h : LX s b str a ts 0 bad) (ha : 0 ≤ a ∧ a < (bl str).length) (hs : (bl str).length ≤ 100000) (hl : ts.length ≤ 20000) :
    Ok (fun f => Ev.callP (fun v93 => (cnd (Ev.callP (fun _ => (Prog.call (callF En (runP En f) 82 [(Value.pointer (Option.some (Addr.mk b 0 Option.none))), (Value.int IntKind.i64 (0 : Int))]) fun v95 =>
        (cnd (cnd (Ev.callP (fun v96 => (cnd (Ev.callP (fun _ => (p37_21 f b a)) (storeT En 3 b 1 (Value.int IntKind.i64 (IntKind.wrap IntKind.i64 ((intOf v96) + (1 : Int)))))) Prog.fail (okK (Kd.int IntKind.i64) v96))) (loadT En 3 b 1))
          (p37_21 f b a) (decide ((intOf v95) = (58 : Int)))) Prog.fail (okK (Kd.int IntKind.u8) v95))))
        (storeT En 3 b 1 (Value.int IntKind.i64 (IntKind.wrap IntKind.i64 ((intOf v93) + (1 : Int)))))) Prog.fail (okK (Kd.int IntKind.i64) v93))) (loadT En 3 b 1)) s (TokQ b str a ts bad) := by
  have t3 : scal En 3 = true := by kernel_rfl
  have hr : ∀ s s', LX s b str a ts 0 bad → Reads s s' → LX s' b str a ts 0 bad := fun s s' h r => h.reads r
  refine Ok.rd hr h t3 h.c1 fun s2 h2 => ?_
  refine Ok.t rfl ?_
  have hw1 : IntKind.i64.wrap (a + 1) = a + 1 := wrap_in _ (by omega) (by omega)
  simp only [intOf, hw1]
  refine Ok.callP (setAt_ok h2 (a + 1)) ?_
  rintro v s3 ⟨rfl, h3, _⟩
  refine Ok.call (peek_ok s3 b str (a + 1) 0 h3.c0 h3.c1 (by omega) (by omega)) ?_
  rintro v s4 ⟨rfl, r4⟩
  have h4 := h3.reads r4
  refine Ok.t rfl ?_
  rw [Int.add_zero]
  refine Ok.c (fun h58 => ?_) (fun _ => tok_21 h4 a ⟨ha.1, by omega, by omega⟩ hl)
  have h58 := of_decide_eq_true h58
  simp only [intOf] at h58
  have hlt2 := byteOf_ne str (a + 1) (by omega)
  have hr : ∀ s s', LX s b str (a + 1) ts 0 bad → Reads s s' → LX s' b str (a + 1) ts 0 bad := fun s s' h r => h.reads r
  refine Ok.rd hr h4 t3 h4.c1 fun s5 h5 => ?_
  refine Ok.t rfl ?_
  have hw2 : IntKind.i64.wrap (a + 1 + 1) = a + 1 + 1 := wrap_in _ (by omega) (by omega)
  simp only [intOf, hw2]
  refine Ok.callP (setAt_ok h5 (a + 1 + 1)) ?_
  rintro v s6 ⟨rfl, h6, _⟩
  exact tok_21 h6 a ⟨ha.1, by omega, by omega⟩ hl
theorem callQ {Q : Value → St → Prop} {g : Nat} (hQ : ∀ v s', Q v s' → v = .tuple ⟨[]⟩) (h : Ok (fun f => callF En (runP En f) g [(Value.pointer (Option.some (Addr.mk b 0 Option.none)))]) s Q) :
    Ok (fun f => Prog.call (callF En (runP En f) g [(Value.pointer (Option.some (Addr.mk b 0 Option.none)))]) fun v79 => (cnd (Prog.ret (Value.tuple ⟨[]⟩)) Prog.fail ((isTupV v79) && (okNs [] (tupOf v79))))) s Q := by
  refine Ok.call h ?_
  intro v s1 hq
  have e := hQ v s1 hq
  subst e
  exact Ok.t rfl (Ok.ret hq)
theorem sub_run (str : ByteArray) (a : Int) (n : Nat) (ha : 0 ≤ a) : mkStr (List.take n (List.drop a.toNat str.data.toList)) = sub str a (a + n) := by
  unfold sub
  rw [show (a + (n : Int)).toNat - a.toNat = n by omega]
theorem token_ok [Gh] (h : LX s b str a ts 0 bad) (ha : 0 ≤ a ∧ a ≤ (bl str).length) (hs : (bl str).length ≤ 100000) (hl : ts.length ≤ 20000) (hpre : ts = [] → a = 0 ∨ byteI str (a - 1) = 32) :
    Ok (fun f => callF En (runP En f) 37 [.pointer (some ⟨b, 0, none⟩)]) s (TokQ b str a ts bad) := by
  have t3 : scal En 3 = true := by kernel_rfl
  have hbl : (bl str).length = str.data.toList.length := rfl
  have hr : ∀ a s s', LX s b str a ts 0 bad → Reads s s' → LX s' b str a ts 0 bad := fun a s s' h r => h.reads r
  have hq : ∀ v s', TokQ b str a ts bad v s' → v = .tuple ⟨[]⟩ := fun v s' h => h.1
  refine Ok.step (fun f => f37_eq f b) ?_
  refine Ok.segLoad t3 h.c1 fun s1 r1 => ?_
  have h1 := h.reads r1
  refine Ok.t rfl ?_
  have h1' : LX ⟨s1.mem, s1.ctr, []⟩ b str a ts 0 bad := h1
  refine segReads (R := fun v => v = .int .u8 (byteOf str (a + 0))) (peek_ok ⟨s1.mem, s1.ctr, []⟩ b str a 0 h1'.c0 h1'.c1 (by omega) (by omega)) ?_
  rintro v s2 sg rfl r2 hsg
  have h2 := h1.reads r2
  refine Ok.gdL (freeL_reads _ _ hsg _ fun d hd => by simp only [List.mem_singleton] at hd; subst hd; rfl) ?_
  refine Ok.t rfl ?_
  rw [Int.add_zero]
  simp only [intOf]
  refine Ok.call (digit_ok s2 _) ?_
  rintro v s3 ⟨rfl, rfl⟩
  refine Ok.t rfl ?_
  refine Ok.c (fun hd => callQ hq (numeral_ok h2 ha hs hl (.inl hd))) (fun _ => ?_)
  refine Ok.call (negative_ok h2 ha hs hl hpre) ?_
  rintro v s4 ⟨r, rfl, hneg, h4⟩
  refine Ok.t rfl ?_
  refine Ok.c (fun hn => callQ hq (numeral_ok h4 ha hs hl (.inr (hneg hn)))) (fun _ => ?_)
  refine Ok.call (letter_ok s4 _) ?_
  rintro v s5 ⟨rfl, rfl⟩
  refine Ok.t rfl ?_
  refine Ok.c (fun hlet => ?_) (fun _ => ?_)
  · simp only [boolOf] at hlet
    have hlt := byteOf_ne str a (by intro e; rw [e] at hlet; exact absurd hlet (by decide))
    refine Ok.call (run_ok insideP s5 ha.1 ha.2 (by omega) h4.c0 h4.c1) ?_
    rintro v s6 ⟨n, hrun, rfl, r6⟩
    have h6 := h4.reads r6
    have hr1 := hrun.1
    have hn0 : n ≠ 0 := by
      intro e
      subst e
      have := hrun.2.2 (by omega)
      simp only [Int.natCast_zero, Int.add_zero] at this
      rw [← byteOf_in str a hlt] at this
      simp [isInside, hlet] at this
    have hxl : (mkStr (List.take n (List.drop a.toNat str.data.toList))).data.toList.length = n := by
      show (List.take n (List.drop a.toNat str.data.toList)).length = n
      rw [List.length_take, List.length_drop]; omega
    refine Ok.t rfl ?_
    refine Ok.rd (hr a) h6 t3 h6.c1 fun s7 h7 => ?_
    refine Ok.t rfl ?_
    have hw1 : IntKind.i64.wrap (a + (n : Int)) = a + n := wrap_in _ (by omega) (by omega)
    simp only [intOf, strOf, hxl, Int.ofNat_eq_natCast, hw1]
    refine Ok.callP (setAt_ok h7 _) ?_
    rintro v s8 ⟨rfl, h8, _⟩
    refine Ok.g rfl ?_
    refine Ok.call (add_ok h8 2 a _ 0 [] [] [] hl) ?_
    rintro v s9 ⟨rfl, h9⟩
    exact Ok.t rfl (Ok.ret ⟨rfl, .inr ⟨⟨2, a, a + n, mkStr (List.take n (List.drop a.toNat str.data.toList)), 0, [], [], []⟩, ⟨rfl, by show a < a + (n : Int); omega, by show a + (n : Int) ≤ _; omega, (by decide : (1 : Int) ≤ 2), (by decide : (2 : Int) ≤ 6), fun _ => sub_run str a n ha.1, fun e => absurd e (by decide : ¬ (2 : Int) = 1)⟩, h9⟩⟩)
  refine Ok.c (fun h96 => callQ hq (symbols_ok h4 ha hs hl (of_decide_eq_true h96))) (fun _ => ?_)
  refine Ok.c (fun h34 => ?_) (fun _ => ?_)
  · have h34 : byteOf str a = 34 := of_decide_eq_true h34
    have hlt := byteOf_ne str a (by omega)
    refine Ok.call (quoted_ok h4 0 ⟨ha.1, Int.le_refl 0, by omega⟩ hs) ?_
    rintro v s6 ⟨q1, q2, y, n, rfl, hor⟩
    refine Ok.t rfl ?_
    simp only [show ∀ a b, at_ (tupOf (Value.tuple ⟨[.string a, .int .i64 b]⟩)) 0 = .string a from fun _ _ => rfl, show ∀ a b, at_ (tupOf (Value.tuple ⟨[.string a, .int .i64 b]⟩)) 1 = .int .i64 b from fun _ _ => rfl, strOf, intOf]
    rcases hor with ⟨rfl, rfl, h6⟩ | ⟨hn1, hn2, h6⟩
    · have hr2 : ∀ s s', LX s b str a ts 142 (a + 0) → Reads s s' → LX s' b str a ts 142 (a + 0) := fun s s' h r => h.reads r
      refine Ok.rd hr2 h6 t3 h6.c1 fun s7 h7 => ?_
      refine Ok.t rfl ?_
      refine Ok.callP (setAt_ok h7 _) ?_
      rintro v s8 ⟨rfl, h8, _⟩
      refine Ok.g rfl ?_
      refine Ok.call (add_ok h8 3 a _ 0 [] [] [] hl) ?_
      rintro v s9 ⟨rfl, h9⟩
      exact Ok.t rfl (Ok.ret ⟨rfl, .inl ⟨_, _, _, _, by decide, by omega, by omega, h9⟩⟩)
    · refine Ok.rd (hr a) h6 t3 h6.c1 fun s7 h7 => ?_
      refine Ok.t rfl ?_
      have hw1 : IntKind.i64.wrap (a + n) = a + n := wrap_in _ (by omega) (by omega)
      simp only [intOf, hw1]
      refine Ok.callP (setAt_ok h7 _) ?_
      rintro v s8 ⟨rfl, h8, _⟩
      refine Ok.g rfl ?_
      refine Ok.call (add_ok h8 3 a _ 0 [] [] [] hl) ?_
      rintro v s9 ⟨rfl, h9⟩
      exact Ok.t rfl (Ok.ret ⟨rfl, .inr ⟨⟨3, a, a + n, y, 0, [], [], []⟩, ⟨rfl, by show a < a + n; omega, by show a + n ≤ _; omega, (by decide : (1 : Int) ≤ 3), (by decide : (3 : Int) ≤ 6), fun e => absurd rfl e, fun e => absurd e (by decide : ¬ (3 : Int) = 1)⟩, h9⟩⟩)
  have hby : 0 ≤ byteOf str a ∧ byteOf str a < 256 := by
    unfold byteOf
    split
    · have := byteAt_lt str a.toNat
      simp only [Int.ofNat_eq_natCast]; omega
    · omega
  refine Ok.c (fun h0 => ?_) (fun h0 => ?_)
  · have h0 : byteOf str a ≠ 0 := of_decide_eq_false (not_t h0)
    have hlt := byteOf_ne str a h0
    refine Ok.call (indexB_ok s5 _ _ hby) ?_
    rintro v s6 ⟨⟨n, rfl, _⟩, rfl⟩
    refine Ok.t rfl ?_
    refine Ok.c (fun _ => ?_) (fun _ => ?_)
    · refine Ok.rd (hr a) h4 t3 h4.c1 fun s7 h7 => ?_
      refine Ok.t rfl ?_
      have hw1 : IntKind.i64.wrap (a + 1) = a + 1 := wrap_in _ (by omega) (by omega)
      simp only [intOf, hw1]
      refine Ok.callP (setAt_ok h7 _) ?_
      rintro v s8 ⟨rfl, h8, _⟩
      exact addSub h8 a 4 0 ⟨ha.1, by omega, by omega⟩ (by decide) (fun h => absurd h (by decide)) hl 3840 32767 6 12 rfl rfl
    · refine Ok.c (fun _ => adv_ok h4 ⟨ha.1, hlt⟩ hs hl) (fun _ => ?_)
      refine Ok.c (fun _ => adv_ok h4 ⟨ha.1, hlt⟩ hs hl) (fun _ => ?_)
      refine Ok.c (fun _ => adv_ok h4 ⟨ha.1, hlt⟩ hs hl) (fun _ => ?_)
      exact callQ hq (mark_ok h4 ha hs hl)
  · have h0 : byteOf str a = 0 := of_decide_eq_true (not_f h0)
    refine Ok.f (decide_eq_false (by omega)) (Ok.f (decide_eq_false (by omega)) (Ok.f (decide_eq_false (by omega)) ?_))
    exact callQ hq (mark_ok h4 ha hs hl)
end
end Go.Proofs.YtpljgnjdlciicaaGreatDoor
namespace Go.Proofs.YtpljgnjdlciicaaGreatDoor
open Go Go.Ev Go.Proofs
def blanks (str : ByteArray) (p q : Int) : Prop := ∀ i : Int, p ≤ i → i < q → byteI str i = 32
def Cov (str : ByteArray) : Int → List Tok → Int → Prop
  | w, [], e => w ≤ e ∧ blanks str w e
  | w, t :: ts, e => w ≤ t.at_ ∧ blanks str w t.at_ ∧ TokOK str t.at_ t ∧ Cov str t.en ts e
theorem Cov.blank {str : ByteArray} : ∀ {ts : List Tok} {w e e' : Int}, Cov str w ts e → e ≤ e' → blanks str e e' → Cov str w ts e'
  | [], w, e, e', h, h1, h2 => ⟨by have := h.1; omega, fun i hi hj => if hk : i < e then h.2 i hi hk else h2 i (by omega) hj⟩
  | t :: ts, w, e, e', h, h1, h2 => ⟨h.1, h.2.1, h.2.2.1, Cov.blank h.2.2.2 h1 h2⟩
theorem Cov.snoc {str : ByteArray} {t : Tok} : ∀ {ts : List Tok} {w e : Int}, Cov str w ts e → TokOK str e t → Cov str w (ts ++ [t]) t.en
  | [], w, e, h, ht => by
    have : t.at_ = e := ht.1
    subst this
    exact ⟨h.1, h.2, ht, Int.le_refl _, fun i hi hj => by omega⟩
  | x :: ts, w, e, h, ht => ⟨h.1, h.2.1, h.2.2.1, Cov.snoc h.2.2.2 ht⟩
def LexQ (str : ByteArray) (v : Value) : Prop :=
  (∃ err bad : Int, err ≠ 0 ∧ 0 ≤ bad ∧ bad ≤ (bl str).length ∧ v = .tuple ⟨[lstV [], .int .i64 err, .int .i64 bad]⟩) ∨
  (∃ ts : List Tok, ts.length ≤ 16384 ∧ Cov str 0 ts (bl str).length ∧ v = .tuple ⟨[lstV (ts.map tokV), .int .i64 0, .int .i64 0]⟩)
section
variable {s : St} {b : Nat} {str : ByteArray} {a : Int} {ts : List Tok} {err bad : Int}
theorem lex_err [Gh] (h : LX s b str a ts err bad) (he : err ≠ 0) (hb : 0 ≤ bad ∧ bad ≤ (bl str).length) : Ok (fun f => p19_4 f str b 0) s (fun v s' => LexQ str v ∧ Lib s'.mem s'.ctr) := by
  have t3 : scal En 3 = true := by kernel_rfl
  have t24 : scal En 24 = true := by kernel_rfl
  refine Ok.step (fun f => p19_4_eq f str b 0) ?_
  simp only [Nat.zero_add]
  refine Ok.callP (Ok.load1 t24 h.c3) ?_
  rintro v s1 ⟨rfl, m1, c1, l1⟩
  have r1 : Reads s s1 := ⟨m1, c1, [⟨false, b + 1 + 3, 1⟩, ⟨false, b, 1⟩], l1, rfl⟩
  refine Ok.t rfl ?_
  refine Ok.f (decide_eq_false he) ?_
  refine Ok.segLoad t24 (h.c3.reads r1) fun s2 r2 => ?_
  have r2 := r1.trans r2
  refine Ok.t rfl ?_
  refine Ok.segLoad t3 (h.c4.reads r2) fun s3 r3 => ?_
  refine Ok.gdL (freeL_reads _ _ rfl _ fun d hd => by simp only [List.mem_singleton] at hd; subst hd; rfl) ?_
  exact Ok.t rfl (Ok.ret ⟨.inl ⟨err, bad, he, hb.1, hb.2, rfl⟩, (h.reads (r2.trans r3)).lib⟩)
theorem len23 (a : Option Addr) (n c : Nat) : builtinA En Builtin.len (42 :: []) (Value.slice a n c :: []) = .ret (vInt n) := by kernel_rfl
theorem lex_loop [Gh] (hs : (bl str).length ≤ 100000) : ∀ (m : Nat) (a : Int) (ts : List Tok) (s : St), (bl str).length - a < m → 0 ≤ a → a ≤ (bl str).length → ts.length ≤ 16384 → Cov str 0 ts a → LX s b str a ts 0 bad →
    Ok (fun f => p19_4 f str b 0) s (fun v s' => LexQ str v ∧ Lib s'.mem s'.ctr) := by
  have t3 : scal En 3 = true := by kernel_rfl
  have t23 : scal En 42 = true := by kernel_rfl
  have t24 : scal En 24 = true := by kernel_rfl
  have hbl : (bl str).length = str.data.toList.length := rfl
  intro m
  induction m with
  | zero => intro a ts s hm h0 ha; omega
  | succ m IH =>
    intro a ts s hm h0 ha hl hcov h
    refine Ok.step (fun f => p19_4_eq f str b 0) ?_
    simp only [Nat.zero_add]
    refine Ok.callP (Ok.load1 t24 h.c3) ?_
    rintro v s1 ⟨rfl, m1, c1, l1⟩
    have r1 : Reads s s1 := ⟨m1, c1, [⟨false, b + 1 + 3, 1⟩, ⟨false, b, 1⟩], l1, rfl⟩
    have h1 := h.reads r1
    refine Ok.t rfl (Ok.t rfl ?_)
    refine Ok.segLoad t3 h1.c1 fun s2 r2 => ?_
    have h2 := h1.reads r2
    refine Ok.t rfl ?_
    have h2' : LX ⟨s2.mem, s2.ctr, []⟩ b str a ts 0 bad := h2
    refine segReads (R := fun v => ∃ n : Nat, runV str (fun c => decide (c = 32)) a n ∧ v = .string (mkStr ((str.data.toList.drop a.toNat).take n))) (Ok.mono (run_ok space_ok ⟨s2.mem, s2.ctr, []⟩ h0 (by omega) (by omega) h2'.c0 h2'.c1) ?_) ?_
    · rintro v s' ⟨n, h1, h2, h3⟩
      exact ⟨⟨n, h1, h2⟩, h3⟩
    rintro v s3 sg ⟨n, hrun, rfl⟩ r3 hsg
    have h3 := h2.reads r3
    have hr1 := hrun.1
    have hxl : (mkStr (List.take n (List.drop a.toNat str.data.toList))).data.toList.length = n := by
      show (List.take n (List.drop a.toNat str.data.toList)).length = n
      rw [List.length_take, List.length_drop]; omega
    refine Ok.gdL (freeL_reads _ _ hsg _ fun d hd => by simp only [List.mem_singleton] at hd; subst hd; rfl) ?_
    refine Ok.t rfl ?_
    have hw1 : IntKind.i64.wrap (a + (n : Int)) = a + n := wrap_in _ (by omega) (by omega)
    simp only [intOf, strOf, hxl, Int.ofNat_eq_natCast, hw1]
    have h3' : LX ⟨s3.mem, s3.ctr, []⟩ b str a ts 0 bad := h3
    refine Ok.seg (setAt_ok h3' (a + n)) ?_
    rintro v s4 ⟨rfl, h4, _⟩
    refine Ok.gdL (by simp [freeL, show Nat.testBit 16383 8 = true from rfl, show Nat.testBit 16383 4 = true from rfl]) ?_
    have h4 : LX ⟨s4.mem, s4.ctr, s4.log ++ s3.log⟩ b str (a + n) ts 0 bad := h4
    have hr : ∀ a s s', LX s b str a ts 0 bad → Reads s s' → LX s' b str a ts 0 bad := fun a s s' h r => h.reads r
    have hcov' : Cov str 0 ts (a + n) := hcov.blank (by omega) fun i hi hj => by
      have := hrun.2.1 (i - a).toNat (by omega)
      rw [show a + ((i - a).toNat : Int) = i by omega] at this
      exact of_decide_eq_true this
    refine Ok.rd (hr _) h4 t3 h4.c1 fun s5 h5 => ?_
    refine Ok.t rfl ?_
    refine Ok.c (fun hend => ?_) (fun hend => ?_)
    · have hend := of_decide_eq_true hend
      simp only [intOf] at hend
      obtain ⟨l, g1, g2, g3, g4⟩ := h5
      refine Ok.callP (Ok.load1 t23 (g1.cell 2 rfl)) ?_
      rintro v s6 ⟨rfl, m6, c6, l6⟩
      refine frz_toks (g2.congr (by omega) fun j _ _ => by rw [m6]) fun s7 u1 u2 => ?_
      refine Ok.ret ⟨.inr ⟨ts, hl, ?_, rfl⟩, g4.congr (by omega) fun j hj => by rw [u2 j (by omega), m6]⟩
      rw [show ((bl str).length : Int) = a + n by omega]
      exact hcov'
    · have hend := of_decide_eq_false hend
      simp only [intOf] at hend
      refine Ok.rd (hr _) h5 t3 h5.c1 fun s6 h6 => ?_
      refine Ok.t rfl ?_
      have hpre : ts = [] → a + n = 0 ∨ byteI str (a + n - 1) = 32 := by
        rintro rfl
        by_cases hz : a + n = 0
        · exact .inl hz
        · exact .inr (hcov'.2 _ (by omega) (by omega))
      refine Ok.call (token_ok h6 ⟨by omega, by omega⟩ hs (by omega) hpre) ?_
      rintro v s7 ⟨rfl, hq⟩
      refine Ok.t rfl ?_
      rcases hq with ⟨a', err', bad', ts', he, hb1, hb2, h7⟩ | ⟨t, ht, h7⟩
      · refine Ok.rd (Inv := fun s => LX s b str a' ts' err' bad') (fun s s' h r => h.reads r) h7 t24 h7.c3 fun s8 h8 => ?_
        refine Ok.t rfl (Ok.f (decide_eq_false he) ?_)
        exact lex_err h8 he ⟨hb1, hb2⟩
      · have hcov2 := hcov'.snoc ht
        have h8' := h7
        refine Ok.rd (Inv := fun s => LX s b str t.en (ts ++ [t]) 0 bad) (fun s s' h r => h.reads r) h7 t24 h7.c3 fun s8 h8 => ?_
        refine Ok.t rfl (Ok.t rfl ?_)
        have h8'' := h8
        obtain ⟨l, g1, g2, g3, g4⟩ := h8
        obtain ⟨x, y, rfl⟩ := g2.len (ts.length + 1) (by omega) (by rw [toksC_length, List.length_append, List.length_singleton])
        refine Ok.rd (Inv := fun s => LX s b str t.en (ts ++ [t]) 0 bad) (fun s s' h r => h.reads r) h8'' t23 (g1.cell 2 rfl) fun s9 h9 => ?_
        simp only [len23]
        refine Ok.callP (Q1 := fun v s' => v = vInt ((ts.length + 1 : Nat) : Int) ∧ s' = s9) (Ok.ret ⟨rfl, rfl⟩) ?_
        rintro v s10 ⟨rfl, rfl⟩
        refine Ok.t rfl ?_
        obtain ⟨u1, u2, u3, _⟩ := ht
        refine Ok.c (fun _ => ?_) (fun hle => ?_)
        · refine Ok.call (fail_lx h9 6 _) ?_
          rintro v s11 ⟨rfl, h11, _⟩
          refine Ok.t rfl ?_
          exact lex_err (err := 6) (bad := a + n) (by simpa using h11) (by decide) (by omega)
        · have hle := of_decide_eq_false hle
          simp only [intOf, vInt] at hle
          exact IH t.en (ts ++ [t]) s10 (by omega) (by omega) u3 (by simp; omega) hcov2 h9
theorem lex_ok [Gh] (s : St) (str : ByteArray) (hlib : Lib s.mem s.ctr) : Ok (fun f => callF En (runP En f) 19 [.string str]) s (fun v s' => LexQ str v ∧ Lib s'.mem s'.ctr) := by
  refine Ok.step (fun f => f19_eq f str) ?_
  refine Ok.c (fun _ => Ok.ret ⟨.inl ⟨1, 0, by decide, by decide, by omega, rfl⟩, hlib⟩) (fun hle => ?_)
  have hle := of_decide_eq_false hle
  simp only [Int.ofNat_eq_natCast] at hle
  have hbl : (bl str).length = str.data.toList.length := rfl
  refine Ok.g rfl (Ok.g rfl (Ok.g rfl ?_))
  refine Ok.callP (Ok.new rfl) ?_
  rintro v s1 ⟨rfl, e1, e2, e3⟩
  refine Ok.t rfl ?_
  simp only [blk_itP, off_itP]
  exact lex_loop (bad := 0) (by omega) ((bl str).length + 1) 0 [] s1 (by omega) (Int.le_refl 0) (by omega) (by simp) ⟨Int.le_refl 0, fun i hi hj => by omega⟩ ⟨_, e2, Grow.nil _ _ _ _ _, by omega, hlib.congr (Nat.le_refl _) e3⟩
end
end Go.Proofs.YtpljgnjdlciicaaGreatDoor
namespace Go.Ev
open Go
def Wl (b lo : Nat) (l : List Acc) : Prop := ∀ a, a ∈ writesOf l → (b ≤ a.k ∧ a.k + a.n ≤ b + 8) ∨ lo ≤ a.k
structure Kq (b lo : Nat) (s s' : St) : Prop where
  ctr : s.ctr ≤ s'.ctr
  mem : ∀ k, k < lo → (k < b ∨ b + 8 ≤ k) → s'.mem.get k = s.mem.get k
  log : ∃ l, s'.log = l ++ s.log ∧ Wl b lo l
theorem Wl.append {b lo : Nat} {l k : List Acc} (h : Wl b lo l) (g : Wl b lo k) : Wl b lo (l ++ k) := fun a ha => by
  rw [writesOf_append] at ha
  rcases List.mem_append.1 ha with ha | ha
  · exact h a ha
  · exact g a ha
theorem Wl.weaken {b lo lo' : Nat} {l : List Acc} (h : Wl b lo l) (e : lo' ≤ lo) : Wl b lo' l := fun a ha => by
  rcases h a ha with h | h
  · exact .inl h
  · exact .inr (Nat.le_trans e h)
theorem Kq.refl (b lo : Nat) (s : St) : Kq b lo s s := ⟨Nat.le_refl _, fun _ _ _ => rfl, [], rfl, fun a ha => by cases ha⟩
theorem Kq.trans {b lo : Nat} {s s1 s2 : St} (h : Kq b lo s s1) (g : Kq b lo s1 s2) : Kq b lo s s2 := by
  obtain ⟨h1, h2, l, h3, h4⟩ := h
  obtain ⟨g1, g2, k, g3, g4⟩ := g
  exact ⟨Nat.le_trans h1 g1, fun k hk hb => (g2 k hk hb).trans (h2 k hk hb), k ++ l, by rw [g3, h3, List.append_assoc], g4.append h4⟩
theorem Kq.weaken {b lo lo' : Nat} {s s' : St} (h : Kq b lo s s') (e : lo' ≤ lo) : Kq b lo' s s' := by
  obtain ⟨h1, h2, l, h3, h4⟩ := h
  exact ⟨h1, fun k hk hb => h2 k (Nat.lt_of_lt_of_le hk e) hb, l, h3, h4.weaken e⟩
theorem Reads.kq {s s' : St} (b lo : Nat) (h : Reads s s') : Kq b lo s s' := by
  obtain ⟨h1, h2, l, h3, h4⟩ := h
  exact ⟨Nat.le_of_eq h2.symm, fun k _ _ => by rw [h1], l, h3, fun a ha => by rw [h4] at ha; cases ha⟩
theorem Ok.segK {b lo : Nat} {p : Nat → Prog} {s : St} {R Q : Value → St → Prop} {k : Nat → Value → List Acc → Nat → Prog} (h : Ok p ⟨s.mem, s.ctr, []⟩ (fun v s' => R v s' ∧ Kq b lo ⟨s.mem, s.ctr, []⟩ s'))
    (hk : ∀ v m c sg, R v ⟨m, c, sg⟩ → Kq b lo s ⟨m, c, sg ++ s.log⟩ → Wl b lo sg → Ok (fun f => k f v sg c) ⟨m, c, sg ++ s.log⟩ Q) : Ok (fun f => .seg (p f) (k f)) s Q := by
  refine Ok.seg h ?_
  rintro v ⟨m, c, sg⟩ ⟨hR, h1, h2, l, h3, h4⟩
  simp only [List.append_nil] at h1 h2 h3
  subst h3
  exact hk v m c sg hR ⟨h1, h2, sg, rfl, h4⟩ h4
theorem hits_no (a : Acc) : ∀ (l : List Acc), (∀ r, r ∈ l → overlap a.k a.n r.k r.n = false) → hits a l = false
  | [], _ => rfl
  | r :: l, h => by
    simp only [hits, h r (List.mem_cons_self ..), Bool.false_or]
    exact hits_no a l fun r hr => h r (List.mem_cons_of_mem _ hr)
theorem overlap_no {k n k' n' : Nat} (h : k' + n' ≤ k ∨ k + n ≤ k') : overlap k n k' n' = false := by
  unfold overlap
  cases e1 : Nat.blt k (Nat.add k' n') with
  | false => rfl
  | true =>
    cases e2 : Nat.blt k' (Nat.add k n) with
    | false => rfl
    | true =>
      have h1 := Nat.le_of_ble_eq_true e1
      have h2 := Nat.le_of_ble_eq_true e2
      simp only [Nat.succ_eq_add_one, Nat.add_eq] at h1 h2
      omega
theorem anyHits_no : ∀ (ws l : List Acc), (∀ a, a ∈ ws → ∀ r, r ∈ l → overlap a.k a.n r.k r.n = false) → anyHits ws l = false
  | [], _, _ => rfl
  | a :: ws, l, h => by
    simp only [anyHits, hits_no a l (h a (List.mem_cons_self ..)), Bool.false_or]
    exact anyHits_no ws l fun a ha => h a (List.mem_cons_of_mem _ ha)
theorem freeL_wl {b lo mask : Nat} {sg : List Acc} (h : Wl b lo sg) : ∀ (ds : List Done), (∀ d, d ∈ ds → Nat.testBit mask d.i = true ∨ (d.ws = [] ∧ ∀ r, r ∈ d.all → r.k + r.n ≤ lo ∧ (r.k + r.n ≤ b ∨ b + 8 ≤ r.k))) → freeL mask (writesOf sg) sg ds = true
  | [], _ => rfl
  | d :: ds, g => by
    have ih := freeL_wl (mask := mask) h ds fun d hd => g d (List.mem_cons_of_mem _ hd)
    simp only [freeL, ih, Bool.and_true, Bool.or_eq_true]
    rcases g d (List.mem_cons_self ..) with e | ⟨e1, e2⟩
    · exact .inl e
    · refine .inr ?_
      have : anyHits (writesOf sg) d.all = false := anyHits_no _ _ fun a ha r hr => by
        obtain ⟨r1, r2⟩ := e2 r hr
        rcases h a ha with ⟨a1, a2⟩ | a1
        · exact overlap_no (by omega)
        · exact overlap_no (by omega)
      unfold apartLogs
      rw [e1]
      cases hw : writesOf sg with
      | nil => rfl
      | cons a ws =>
        rw [hw] at this
        simp only [this, Bool.not_false, Bool.and_true]
section
variable {E : Env} {s : St} {b lo : Nat}
theorem Ok.newK {n el : Nat} {ex z sy : Bool} {vs : List Value} {g : Nat → Value} (hn : vs.length = n) (hlo : lo ≤ s.ctr) :
    Ok (fun _ => Prog.newH (Hdr.mk n el false ex z 0 sy false []) vs (fun k => Prog.ret (g k))) s
      (fun v s' => v = g s.ctr ∧ s'.ctr = s.ctr + n + 1 ∧ Row s'.mem s.ctr vs ∧ (∀ k, k < s.ctr → s'.mem.get k = s.mem.get k) ∧ Kq b lo s s') := by
  refine Ok.mono (Ok.newF hn) ?_
  rintro v s' ⟨rfl, e1, e2, e3, e4, e5⟩
  refine ⟨rfl, e1, ⟨⟨el, ex, z, sy, by rw [hn]; exact e2⟩, e3⟩, e4, ?_⟩
  obtain ⟨l, g1, g2⟩ := e5
  exact ⟨by omega, fun k hk _ => e4 k (Nat.lt_of_lt_of_le hk hlo), l, g1, fun a ha => .inr (Nat.le_trans hlo (g2 a ha))⟩
theorem Ok.storeCellK {t c o : Nat} {v : Value} {vs : List Value} (hs : E.size t = some 1) (hc : cellsL v = [v]) (h : Row s.mem c vs) (ho : o < vs.length) (hv : oneC v = true) (hlo : lo ≤ c) :
    Ok (fun _ => storeT E t c o v) s (fun w s' => w = U ∧ s'.ctr = s.ctr ∧ Row s'.mem c (vs.set o v) ∧ (∀ k, k ≠ c + 1 + o → s'.mem.get k = s.mem.get k) ∧ Kq b lo s s') := by
  refine Ok.mono (Ok.store1 hs hc h.1 ho hv) ?_
  rintro w s' ⟨rfl, rfl⟩
  refine ⟨rfl, rfl, h.set o v, fun k hk => by simp only; rw [Tr.get_set, if_neg hk], Nat.le_refl _, fun k hk _ => by simp only; rw [Tr.get_set, if_neg (by omega)], [⟨true, c + 1 + o, 1⟩, ⟨false, c, 1⟩], rfl, fun a ha => ?_⟩
  simp only [writesOf, List.mem_singleton] at ha
  subst ha
  exact .inr (by simp only; omega)
theorem Ok.storeRowK {t c n : Nat} {vs ws : List Value} (hs : E.size t = some n) (h : Row s.mem c vs) (hn : vs.length = n) (hw : ws.length = n) (hv : ws.all oneC = true) (hlo : lo ≤ c) :
    Ok (fun _ => storeT E t c 0 (.agg ⟨ws⟩)) s (fun w s' => w = U ∧ s'.ctr = s.ctr ∧ Row s'.mem c ws ∧ (∀ k, (k ≤ c ∨ c + 1 + n ≤ k) → s'.mem.get k = s.mem.get k) ∧ Kq b lo s s') := by
  obtain ⟨m, cc, l⟩ := s
  obtain ⟨⟨el, ex, z, sy, hf⟩, hc⟩ := h
  simp only at hf hc
  have hb : Nat.ble (0 + ws.length) vs.length = true := Nat.ble_eq_true_of_le (by omega)
  have h0 : Nat.ble 0 0 = true := rfl
  have ec : cellsL (.agg ⟨ws⟩) = ws := rfl
  refine ⟨U, ⟨layCells c ws (c + 1 + 0) m, cc, ⟨true, c + 1 + 0, ws.length⟩ :: ⟨false, c, 1⟩ :: l⟩, ⟨rfl, rfl, ⟨⟨el, ex, z, sy, ?_⟩, CellsAt.lay _ _ _⟩, fun k hk => ?_, Nat.le_refl _, fun k hk _ => ?_, [⟨true, c + 1 + 0, ws.length⟩, ⟨false, c, 1⟩], rfl, fun a ha => ?_⟩, 0, fun _ _ => ?_⟩
  · simp only
    rw [lay_below _ _ _ _ _ (by omega), hf, hw, hn]
  · simp only
    rw [lay_below _ _ _ _ _ (by omega)]
  · simp only
    rw [lay_below _ _ _ _ _ (by omega)]
  · simp only [writesOf, List.mem_singleton] at ha
    subst ha
    exact .inr (by simp only; omega)
  · simp only [storeT, hs, Ev.opt, ec, gd, hw, Nat.beq_refl, Prog.run, St.wr, hf, Bool.false_or, h0, hv, Bool.not_true, Nat.add_eq]
    rw [← hn, hn] at *
    simp only [hw] at hb
    simp only [hb, Bool.not_true]
theorem Ok.appK {E : Env} (b : Nat) {t el sz by_ lo : Nat} {cs : List Value} {v e : Value} {s : St} (ht : AppT E t el sz by_) (h : Grow s.mem lo s.ctr el sz cs v) (he : (cellsL e).length = sz) (he1 : (cellsL e).all oneC = true) (hlo : lo ≤ s.ctr)
    (hn : (cs.length + 1) * (by_ + 1) ≤ 1099511627776) :
    Ok (fun _ => builtinA E Builtin.append (t :: (t :: [])) (v :: (xlstV (e :: []) :: []))) s
      (fun w s' => Grow s'.mem lo s'.ctr el sz (cs ++ cellsL e) w ∧ Kq b lo s s') := by
  obtain ⟨m, c, l⟩ := s
  obtain ⟨hu, hs, hb, hz, hz0⟩ := ht
  obtain ⟨zv, hz⟩ := Option.isSome_iff_exists.1 hz
  obtain ⟨hone, hg⟩ := h
  have hel : elemOfSlice E t = some el := by unfold elemOfSlice; rw [hu]
  have hlen : lenA (xlstV [e]) = some 1 := rfl
  have hx : isL (xlstV [e]) = true := rfl
  have hxe : elems (xlstV [e]) = [e] := rfl
  have hok : hdOk sz [e] = true := by simp only [hdOk, he, Nat.beq_refl]
  have hfl : flatC ([e].take 1) = cellsL e := by simp [flatC]
  have hf1 : ∀ k, firstA sz 1 (xlstV [e]) k = gd (hdOk sz [e]) (k (flatC ([e].take 1))) := fun _ => rfl
  rcases hg with ⟨rfl, rfl⟩ | ⟨r, n, sy, olds, rfl, a2, a3, a4, a5, a6, a7⟩
  · have hd : decide ((0 + 1) * (by_ + 1) ≤ 1099511627776) = true := decide_eq_true (by simpa using hn)
    have hbl : Nat.ble (cellsL e).length (cellsL e).length = true := Nat.ble_eq_true_of_le (Nat.le_refl _)
    refine ⟨.slice (some ⟨c, 0, none⟩) 1 (capOf 1 false), ⟨layCells c (cellsL e) (c + 1) (m.set c (some (.hdr ⟨(cellsL e).length, el, false, false, true, 0, false, false, []⟩))), c + (cellsL e).length + 1, ⟨true, c, (cellsL e).length + 1⟩ :: l⟩, ⟨⟨?_, .inr ⟨c, 1, false, [], rfl, ?_, hlo, ?_, fun k hk => ?_, ?_, ?_⟩⟩, ⟨?_, fun k hk _ => ?_, ?_⟩⟩, 0, fun _ _ => ?_⟩
    · simpa using he1
    · simp [he]
    · simp; omega
    · cases hk
    · simp only [List.nil_append]
      rw [lay_below _ _ _ _ _ (by omega), Tr.get_set, if_pos rfl]
    · exact CellsAt.lay _ _ _
    · simp; omega
    · simp only at hlo ⊢
      rw [lay_below _ _ _ _ _ (by omega), Tr.get_set, if_neg (by omega)]
    · exact ⟨[⟨true, c, (cellsL e).length + 1⟩], rfl, fun a ha => by simp only [writesOf, List.mem_singleton] at ha; subst ha; exact .inr hlo⟩
    · simp only [builtinA, appendA, appendB, hel, hu, hs, hb, Ev.opt, isIntD, appN, hlen, hz, gd, hd, appC, hf1, hok, hfl, Nat.zero_add, Prog.run, Prog.new, hbl, St.newH, Nat.add_eq]
  · simp only at a4 a6 a7 hlo
    have hcl : capLo (capOf n false) = n := by show (2 * n + 0) / 2 = n; omega
    have hce : capEx (capOf n false) = false := by
      simp only [capEx, capOf, Nat.add_eq, Nat.mul_eq, Nat.add_zero]
      have : Nat.mod (2 * n) 2 = 0 := by show (2 * n) % 2 = 0; omega
      rw [this]; rfl
    have hnn : n ≤ cs.length := by rw [a2]; exact Nat.le_mul_of_pos_right n hz0
    have hd : decide ((n + 1) * (by_ + 1) ≤ 1099511627776) = true := decide_eq_true (Nat.le_trans (Nat.mul_le_mul_right _ (by omega)) hn)
    have hble : Nat.ble (n + 1) n = false := by
      cases hq : Nat.ble (n + 1) n with
      | false => rfl
      | true => have := Nat.le_of_ble_eq_true hq; omega
    have hg2 : decide (True ∧ 0 + n * sz = cs.length ∧ True ∧ True ∧ True ∧ 0 ≤ n * sz + 1 * sz) = true := decide_eq_true ⟨trivial, by omega, trivial, trivial, trivial, Nat.zero_le _⟩
    have hrd : rdCells m r (n * sz) 0 = some cs := by rw [← a2]; exact CellsAt.rd a7
    have hlenc : (cs ++ cellsL e).length = n * sz + 1 * sz := by rw [List.length_append, a2, he, Nat.one_mul]
    have hbl : Nat.ble (cs ++ cellsL e).length (n * sz + 1 * sz) = true := Nat.ble_eq_true_of_le (by omega)
    refine ⟨.slice (some ⟨c, 0, none⟩) (n + 1) (capOf (n + 1) false), ⟨layCells c (cs ++ cellsL e) (c + 1) ((m.set r (some (.hdr ⟨cs.length, el, false, false, true, 0, sy, true, []⟩))).set c (some (.hdr ⟨n * sz + 1 * sz, el, false, false, true, 0, sy, false, r :: olds⟩))), c + (n * sz + 1 * sz) + 1, ⟨true, c, n * sz + 1 * sz + 1⟩ :: ⟨true, r, 1⟩ :: ⟨false, r + 1 + 0, n * sz⟩ :: ⟨false, r, 1⟩ :: ⟨false, r, 1⟩ :: l⟩, ⟨⟨?_, .inr ⟨c, n + 1, sy, r :: olds, rfl, ?_, hlo, ?_, fun k hk => ?_, ?_, ?_⟩⟩, ⟨?_, fun k hk _ => ?_, ?_⟩⟩, 0, fun _ _ => ?_⟩
    · exact all_append _ _ _ hone he1
    · rw [hlenc, Nat.add_mul]
    · simp only; omega
    · rcases List.mem_cons.1 hk with rfl | hk
      · exact ⟨a3, by omega⟩
      · have := a5 k hk; omega
    · simp only
      rw [lay_below _ _ _ _ _ (by omega), Tr.get_set, if_pos rfl, hlenc]
    · exact CellsAt.lay _ _ _
    · simp only; omega
    · simp only at hlo ⊢
      rw [lay_below _ _ _ _ _ (by omega), Tr.get_set, if_neg (by omega), Tr.get_set, if_neg (by omega)]
    · exact ⟨[⟨true, c, n * sz + 1 * sz + 1⟩, ⟨true, r, 1⟩, ⟨false, r + 1 + 0, n * sz⟩, ⟨false, r, 1⟩, ⟨false, r, 1⟩], rfl, fun a ha => by
        simp only [writesOf, List.mem_cons, List.not_mem_nil, or_false] at ha
        rcases ha with rfl | rfl
        · exact .inr hlo
        · exact .inr a3⟩
    · simp only [builtinA, appendA, appendB, hel, hu, hs, hb, Ev.opt, isIntD, appN, hlen, hz, gd, hd, hcl, hce, hble, appC, hf1, hok, hfl, Prog.run, St.hd, St.setHd, St.rd, a6, hg2, hrd, he1, hbl, St.newH, Nat.add_eq, Bool.true_and, Nat.beq_refl]
end
end Go.Ev
namespace Go.Ev
open Go
theorem Ok.segRet {s : St} {Q : Value → St → Prop} {v : Value} {k : Nat → Value → List Acc → Nat → Prog} (hk : ∀ s1, Reads s s1 → Ok (fun f => k f v [] s.ctr) s1 Q) : Ok (fun f => .seg (.ret v) (k f)) s Q := by
  refine Ok.seg (Q1 := fun w s' => w = v ∧ s' = ⟨s.mem, s.ctr, []⟩) (Ok.ret ⟨rfl, rfl⟩) ?_
  rintro w s1 ⟨rfl, rfl⟩
  exact hk _ ⟨rfl, rfl, [], rfl, rfl⟩
end Go.Ev
namespace Go.Proofs.YtpljgnjdlciicaaGreatDoor
open Go Go.Ev Go.Proofs
def MxM (m : Tr Slot) : Prop := ∃ (h : Hdr) (v : Int), m.get 131073 = some (.hdr h) ∧ (h.ex = true ∧ h.el = 3 ∧ h.mv = false ∧ h.sy = false ∧ h.fz = 0) ∧ h.n = 1 ∧ m.get 131074 = some (.cell 131073 (.int .i64 v))
theorem MxM.congr {m m' : Tr Slot} (h : MxM m) (e : ∀ k, k < 131075 → m'.get k = m.get k) : MxM m' := by
  obtain ⟨hd, v, h1, h2, h3, h4⟩ := h
  exact ⟨hd, v, by rw [e _ (by omega)]; exact h1, h2, h3, by rw [e _ (by omega)]; exact h4⟩
def pC (str : ByteArray) (ts : List Tok) (en i deep err bad : Int) : List Value := [.string str, lstV (ts.map tokV), .int .i64 i, .int .i64 en, .int .i64 deep, .int .i64 err, .int .i64 bad]
def PX (s : St) (b : Nat) (str : ByteArray) (ts : List Tok) (en i deep err bad : Int) : Prop :=
  Row s.mem b (pC str ts en i deep err bad) ∧ b + 8 ≤ s.ctr ∧ 131075 ≤ b ∧ MxM s.mem
theorem Row.kq {b lo c : Nat} {s s' : St} {vs : List Value} (h : Row s.mem c vs) (hb : c + 1 + vs.length ≤ b ∨ b + 8 ≤ c) (hc : c + 1 + vs.length ≤ lo) (g : Kq b lo s s') : Row s'.mem c vs :=
  h.congr fun j h1 h2 => g.mem j (by omega) (by omega)
section
variable {s : St} {b : Nat} {str : ByteArray} {ts : List Tok} {en i deep err bad : Int}
theorem PX.frame {s' : St} (h : PX s b str ts en i deep err bad) (hc : s.ctr ≤ s'.ctr) (e : ∀ k, k < s.ctr → s'.mem.get k = s.mem.get k) : PX s' b str ts en i deep err bad := by
  obtain ⟨h1, h2, h3, h4⟩ := h
  exact ⟨h1.congr fun j _ hj => e j (by simp [pC] at hj; omega), by omega, h3, h4.congr fun k hk => e k (by omega)⟩
theorem PX.fresh {s' : St} (h : PX s b str ts en i deep err bad) (e : Fresh s s') : PX s' b str ts en i deep err bad := h.frame e.1 e.2
theorem PX.reads {s' : St} (h : PX s b str ts en i deep err bad) (r : Reads s s') : PX s' b str ts en i deep err bad := h.frame (by rw [r.2.1]; exact Nat.le_refl _) fun k _ => by rw [r.1]
theorem PX.c1 (h : PX s b str ts en i deep err bad) : Cell s.mem b 1 (lstV (ts.map tokV)) := h.1.cell 1 rfl
theorem PX.c0 (h : PX s b str ts en i deep err bad) : Cell s.mem b 0 (.string str) := h.1.cell 0 rfl
theorem PX.c2 (h : PX s b str ts en i deep err bad) : Cell s.mem b 2 (.int .i64 i) := h.1.cell 2 rfl
theorem PX.c3 (h : PX s b str ts en i deep err bad) : Cell s.mem b 3 (.int .i64 en) := h.1.cell 3 rfl
theorem PX.c4 (h : PX s b str ts en i deep err bad) : Cell s.mem b 4 (.int .i64 deep) := h.1.cell 4 rfl
theorem PX.c5 (h : PX s b str ts en i deep err bad) : Cell s.mem b 5 (.int .i64 err) := h.1.cell 5 rfl
theorem PX.c6 (h : PX s b str ts en i deep err bad) : Cell s.mem b 6 (.int .i64 bad) := h.1.cell 6 rfl
theorem PX.set (h : PX s b str ts en i deep err bad) {t o : Nat} {v : Value} {str' : ByteArray} {ts' : List Tok} {en' i' deep' err' bad' : Int} (hs : En.size t = some 1) (hc : cellsL v = [v]) (ho : o < 7) (hv : oneC v = true) (he : (pC str ts en i deep err bad).set o v = pC str' ts' en' i' deep' err' bad') :
    Ok (fun _ => storeT En t b o v) s (fun w s' => w = U ∧ PX s' b str' ts' en' i' deep' err' bad' ∧ s'.ctr = s.ctr ∧ ∀ lo, Kq b lo s s') := by
  obtain ⟨h1, h2, h3, h4⟩ := h
  refine Ok.mono (Ok.store1 (n := 7) hs hc h1.1 ho hv) ?_
  rintro w s' ⟨rfl, rfl⟩
  refine ⟨rfl, ⟨by rw [← he]; exact h1.set o v, h2, h3, h4.congr fun k hk => by simp only; rw [Tr.get_set, if_neg (by omega)]⟩, rfl, fun lo => ⟨Nat.le_refl _, fun k hk hb => by simp only; rw [Tr.get_set, if_neg (by omega)], [⟨true, b + 1 + o, 1⟩, ⟨false, b, 1⟩], rfl, fun a ha => ?_⟩⟩
  simp only [writesOf, List.mem_singleton] at ha
  subst ha
  exact .inl (by simp only; omega)
theorem at_toks (ts : List Tok) (i : Nat) (h : i < ts.length) : at_ (ts.map tokV) i = tokV ts[i] := by
  unfold at_
  simp [List.getD, List.getElem?_map, List.getElem?_eq_getElem h]
theorem hd_toks (ts : List Tok) : hdOk 8 (ts.map tokV) = true := by
  cases ts with
  | nil => rfl
  | cons t ts => rfl
theorem lenL42 (xs : List Value) : builtinA En Builtin.len (42 :: []) (lstV xs :: []) = .ret (vInt (xs.length : Nat)) := by kernel_rfl
def hereV (ts : List Tok) (en i : Int) : Int := match ts[i.toNat]? with
  | some t => t.at_
  | none => en
theorem sound_ok (h : PX s b str ts en i deep err bad) : Ok (fun f => callF En (runP En f) 39 [.pointer (some ⟨b, 0, none⟩)]) s (fun v s' => v = .bool (decide (err = 0)) ∧ Reads s s') := by
  refine Ok.step (fun f => f39_eq f b) ?_
  refine Ok.callP (Ok.load1 (by kernel_rfl) h.c5) ?_
  rintro v s1 ⟨rfl, m1, c1, l1⟩
  exact Ok.t rfl (Ok.ret ⟨rfl, m1, c1, [⟨false, b + 1 + 5, 1⟩, ⟨false, b, 1⟩], l1, rfl⟩)
theorem bnd_toks (ts : List Tok) (i : Nat) (h : i < ts.length) : (((Nat.ble (Nat.succ i) (List.length (ts.map tokV))) && Bool.true) && (hdOk 8 (ts.map tokV))) = true := by
  rw [hd_toks, Bool.and_true, Bool.and_true]
  exact Nat.ble_eq_true_of_le (by rw [List.length_map]; omega)
theorem here_ok (h : PX s b str ts en i deep err bad) (hi : 0 ≤ i) : Ok (fun f => callF En (runP En f) 41 [.pointer (some ⟨b, 0, none⟩)]) s (fun v s' => v = .int .i64 (hereV ts en i) ∧ Reads s s') := by
  have t3 : scal En 3 = true := by kernel_rfl
  have t42 : scal En 42 = true := by kernel_rfl
  refine Ok.step (fun f => f41_eq f b) ?_
  refine Ok.segLoad t3 h.c2 fun s1 r1 => ?_
  refine Ok.t rfl ?_
  refine Ok.segLoad t42 (h.c1.reads r1) fun s2 r2 => ?_
  have r2 := r1.trans r2
  refine Ok.gdL (by kernel_rfl) (Ok.t rfl ?_)
  simp only [show ∀ x, elems (lstV x) = x from fun _ => rfl, lenL42]
  refine Ok.segRet fun s3 r3 => ?_
  have r3 := r2.trans r3
  refine Ok.gdL (by kernel_rfl) (Ok.t rfl ?_)
  simp only [intOf, vInt, List.length_map]
  refine Ok.c (fun hlt => ?_) (fun hge => ?_)
  · have hlt := of_decide_eq_true hlt
    refine Ok.segLoad t42 (h.c1.reads r3) fun s4 r4 => ?_
    have r4 := r3.trans r4
    refine Ok.t rfl ?_
    refine Ok.segLoad t3 (h.c2.reads r4) fun s5 r5 => ?_
    have r5 := r4.trans r5
    refine Ok.gdL (by kernel_rfl) (Ok.t rfl ?_)
    have hl : i.toNat < ts.length := by omega
    simp only [show ∀ x, elems (lstV x) = x from fun _ => rfl, at_toks ts i.toNat hl]
    refine Ok.t (decide_eq_true hi) (Ok.t (bnd_toks ts i.toNat hl) (Ok.t rfl (Ok.t rfl (Ok.t rfl (Ok.ret ⟨?_, r5⟩)))))
    unfold hereV
    rw [List.getElem?_eq_getElem hl]
    rfl
  · have hge := of_decide_eq_false hge
    refine Ok.callP (Ok.load1 t3 (h.c3.reads r3)) ?_
    rintro v s4 ⟨rfl, m1, c1, l1⟩
    refine Ok.t rfl (Ok.ret ⟨?_, r3.trans ⟨m1, c1, [⟨false, b + 1 + 3, 1⟩, ⟨false, b, 1⟩], l1, rfl⟩⟩)
    unfold hereV
    rw [List.getElem?_eq_none (by omega)]
theorem is_ok (h : PX s b str ts en i deep err bad) (hi : 0 ≤ i) (k : Int) : Ok (fun f => callF En (runP En f) 129 [.pointer (some ⟨b, 0, none⟩), .int .i64 k]) s
    (fun v s' => (∃ r, v = .bool r ∧ (r = true → ∃ t, ts[i.toNat]? = some t ∧ t.kind = k)) ∧ Reads s s') := by
  have t3 : scal En 3 = true := by kernel_rfl
  have t42 : scal En 42 = true := by kernel_rfl
  refine Ok.step (fun f => f129_eq f b k) ?_
  refine Ok.segLoad t3 h.c2 fun s1 r1 => ?_
  refine Ok.t rfl ?_
  refine Ok.segLoad t42 (h.c1.reads r1) fun s2 r2 => ?_
  have r2 := r1.trans r2
  refine Ok.gdL (by kernel_rfl) (Ok.t rfl ?_)
  simp only [show ∀ x, elems (lstV x) = x from fun _ => rfl, lenL42]
  refine Ok.segRet fun s3 r3 => ?_
  have r3 := r2.trans r3
  refine Ok.gdL (by kernel_rfl) (Ok.t rfl ?_)
  simp only [intOf, vInt, List.length_map]
  refine Ok.c (fun hlt => ?_) (fun hge => Ok.ret ⟨⟨false, rfl, fun h => by cases h⟩, r3⟩)
  have hlt := of_decide_eq_true hlt
  refine Ok.segLoad t42 (h.c1.reads r3) fun s4 r4 => ?_
  have r4 := r3.trans r4
  refine Ok.gdL (by kernel_rfl) (Ok.t rfl ?_)
  refine Ok.segLoad t3 (h.c2.reads r4) fun s5 r5 => ?_
  have r5 := r4.trans r5
  refine Ok.gdL (by kernel_rfl) (Ok.t rfl ?_)
  have hl : i.toNat < ts.length := by omega
  simp only [show ∀ x, elems (lstV x) = x from fun _ => rfl, at_toks ts i.toNat hl]
  refine Ok.t (decide_eq_true hi) (Ok.t (bnd_toks ts i.toNat hl) (Ok.t rfl (Ok.t rfl (Ok.t rfl (Ok.ret ⟨⟨_, rfl, fun h => ⟨_, List.getElem?_eq_getElem hl, ?_⟩⟩, r5⟩)))))
  exact of_decide_eq_true h
theorem ahead_ok (h : PX s b str ts en i deep err bad) (hi : 0 ≤ i ∧ i ≤ 1000000) (n : Int) (hn : 0 ≤ n ∧ n ≤ 1000) (x : ByteArray) : Ok (fun f => callF En (runP En f) 93 [.pointer (some ⟨b, 0, none⟩), .int .i64 n, .string x]) s
    (fun v s' => (∃ r, v = .bool r ∧ (r = true → i + n < ts.length)) ∧ Reads s s') := by
  have t3 : scal En 3 = true := by kernel_rfl
  have t42 : scal En 42 = true := by kernel_rfl
  have hw : IntKind.i64.wrap (i + n) = i + n := wrap_in _ (by omega) (by omega)
  refine Ok.step (fun f => f93_eq f b n x) ?_
  refine Ok.segLoad t3 h.c2 fun s1 r1 => ?_
  refine Ok.t rfl ?_
  refine Ok.segLoad t42 (h.c1.reads r1) fun s2 r2 => ?_
  have r2 := r1.trans r2
  refine Ok.gdL (by kernel_rfl) (Ok.t rfl ?_)
  simp only [show ∀ x, elems (lstV x) = x from fun _ => rfl, lenL42]
  refine Ok.segRet fun s3 r3 => ?_
  have r3 := r2.trans r3
  refine Ok.gdL (by kernel_rfl) (Ok.t rfl ?_)
  simp only [intOf, vInt, List.length_map, hw]
  refine Ok.c (fun hlt => ?_) (fun hge => Ok.ret ⟨⟨false, rfl, fun h => by cases h⟩, r3⟩)
  have hlt := of_decide_eq_true hlt
  have hl : (i + n).toNat < ts.length := by omega
  refine Ok.segLoad t42 (h.c1.reads r3) fun s4 r4 => ?_
  have r4 := r3.trans r4
  refine Ok.gdL (by kernel_rfl) (Ok.t rfl ?_)
  refine Ok.segLoad t3 (h.c2.reads r4) fun s5 r5 => ?_
  have r5 := r4.trans r5
  refine Ok.gdL (by kernel_rfl) (Ok.t rfl ?_)
  simp only [show ∀ x, elems (lstV x) = x from fun _ => rfl, intOf, hw, at_toks ts _ hl]
  refine Ok.t (decide_eq_true (by omega)) (Ok.t (bnd_toks ts _ hl) (Ok.t rfl (Ok.t rfl (Ok.t rfl ?_))))
  refine Ok.c (fun _ => ?_) (fun _ => Ok.ret ⟨⟨false, rfl, fun h => by cases h⟩, r5⟩)
  refine Ok.segLoad t42 (h.c1.reads r5) fun s6 r6 => ?_
  have r6 := r5.trans r6
  refine Ok.gdL (by kernel_rfl) (Ok.t rfl ?_)
  refine Ok.segLoad t3 (h.c2.reads r6) fun s7 r7 => ?_
  have r7 := r6.trans r7
  refine Ok.gdL (by kernel_rfl) (Ok.t rfl ?_)
  simp only [show ∀ x, elems (lstV x) = x from fun _ => rfl, intOf, hw, at_toks ts _ hl]
  refine Ok.t (decide_eq_true (by omega)) (Ok.t (bnd_toks ts _ hl) (Ok.t rfl (Ok.t rfl (Ok.t rfl ?_))))
  exact Ok.ret ⟨⟨_, rfl, fun _ => by omega⟩, r7⟩
theorem pmark_ok (h : PX s b str ts en i deep err bad) (hi : 0 ≤ i ∧ i ≤ 1000000) (x : ByteArray) : Ok (fun f => callF En (runP En f) 43 [.pointer (some ⟨b, 0, none⟩), .string x]) s
    (fun v s' => (∃ r, v = .bool r ∧ (r = true → i < ts.length)) ∧ Reads s s') := by
  refine Ok.step (fun f => f43_eq f b x) ?_
  refine Ok.call (ahead_ok h hi 0 (by omega) x) ?_
  rintro v s1 ⟨⟨r, rfl, hr⟩, r1⟩
  exact Ok.t rfl (Ok.ret ⟨⟨r, rfl, fun e => by have := hr e; omega⟩, r1⟩)
theorem containsP_ok (hm : MxM s.mem) (x y : ByteArray) (hx : (bl x).length ≤ 1000000) : Ok (fun f => callF En (runP En f) 166 [.string x, .string y]) s (fun v s' => (∃ r, v = .bool r) ∧ Reads s s') := by
  obtain ⟨hd, v, h1, ⟨h2, _⟩, h3, h4⟩ := hm
  obtain ⟨m, c, l⟩ := s
  simp only at h1 h4
  have e : ∀ f, callF En (runP En f) 166 [.string x, .string y] = containsP [.string x, .string y] := fun f => by kernel_rfl
  have hb : Nat.ble x.data.toList.length 1000000 = true := Nat.ble_eq_true_of_le hx
  have g2 : (131073 : Nat) = gbase 2 := rfl
  refine ⟨.bool (Lib.contains x.data.toList y.data.toList), ⟨m, c, ⟨false, Nat.add (Nat.add 131073 1) 0, 1⟩ :: ⟨false, 131073, 1⟩ :: ⟨false, 131073, 1⟩ :: l⟩, ⟨⟨_, rfl⟩, rfl, rfl, [⟨false, Nat.add (Nat.add 131073 1) 0, 1⟩, ⟨false, 131073, 1⟩, ⟨false, 131073, 1⟩], rfl, rfl⟩, 0, fun f _ => ?_⟩
  show (callF En (runP En f) 166 [.string x, .string y]).run _ = _
  rw [e f]
  have hrd : rdCells m 131073 1 0 = some [.int .i64 v] := by
    simp only [rdCells, Nat.add_eq, Nat.add_zero, h4, Nat.beq_refl]
  simp only [containsP, gd, hb, Prog.run, tabP, ← g2, St.hd, h1, h2, h3, Nat.beq_refl, Bool.and_self, St.rd, hrd]
theorem infix_ok (hm : MxM s.mem) (x : ByteArray) (hx : (bl x).length ≤ 1000000) : Ok (fun f => callF En (runP En f) 130 [.string x]) s (fun v s' => (∃ r, v = .bool r) ∧ Reads s s') := by
  have hbl : (bl x).length = x.data.toList.length := rfl
  refine Ok.step (fun f => f130_eq f x) ?_
  refine Ok.t (Nat.ble_eq_true_of_le (by omega)) (Ok.t (Nat.ble_eq_true_of_le (by omega)) ?_)
  refine Ok.call (containsP_ok hm _ _ (by decide)) ?_
  rintro v s1 ⟨⟨r, rfl⟩, r1⟩
  exact Ok.t rfl (Ok.ret ⟨⟨r, rfl⟩, r1⟩)
end
end Go.Proofs.YtpljgnjdlciicaaGreatDoor
namespace Go.Ev
open Go
def Own (m : Tr Slot) (v : Value) (ks : List Nat) : Prop := (v = .slice none 0 0 ∧ ks = []) ∨ ∃ r n c h, v = .slice (some ⟨r, 0, none⟩) n c ∧ m.get r = some (.hdr h) ∧ ks = r :: h.olds
theorem killLogK {lo : Nat} : ∀ (ks : List Nat) (l : List Acc), (∀ k, k ∈ ks → lo ≤ k) → ∃ l', killLog ks l = l' ++ l ∧ ∀ a, a ∈ writesOf l' → lo ≤ a.k
  | [], l, _ => ⟨[], rfl, fun a ha => by cases ha⟩
  | k :: ks, l, h => by
    obtain ⟨l', e1, e2⟩ := killLogK ks (⟨true, k, 1⟩ :: l) fun j hj => h j (List.mem_cons_of_mem _ hj)
    refine ⟨l' ++ [⟨true, k, 1⟩], by simp only [killLog, e1, List.append_assoc, List.singleton_append], fun a ha => ?_⟩
    rw [writesOf_append] at ha
    rcases List.mem_append.1 ha with ha | ha
    · exact e2 a ha
    · simp only [writesOf, List.mem_singleton] at ha
      subst ha
      exact h k (List.mem_cons_self ..)
theorem Grow.frzK {m : Tr Slot} {lo hi el sz : Nat} {cs : List Value} {r n c : Nat} {l : List Acc} (h : Grow m lo hi el sz cs (.slice (some ⟨r, 0, none⟩) n c)) :
    ∃ s', St.frz ⟨m, hi, l⟩ r (n * sz) 0 = some (cs, s') ∧ s'.ctr = hi ∧ (∀ b, Kq b lo ⟨m, hi, l⟩ s') ∧ ∀ ks, Own m (.slice (some ⟨r, 0, none⟩) n c) ks → ∀ k, k ∉ ks → s'.mem.get k = m.get k := by
  obtain ⟨h1, h2⟩ := h
  rcases h2 with ⟨e, _⟩ | ⟨r', n', sy, olds, e, a2, a3, a4, a5, a6, a7⟩
  · cases e
  · cases e
    have hrd : rdCells m r (n * sz) 0 = some cs := by rw [← a2]; exact CellsAt.rd a7
    obtain ⟨l', e1, e2⟩ := killLogK olds (⟨false, Nat.add (Nat.add r 1) 0, n * sz⟩ :: l) fun k hk => (a5 k hk).1
    refine ⟨⟨(kill olds m).set r none, hi, ⟨true, r, 1⟩ :: killLog olds (⟨false, Nat.add (Nat.add r 1) 0, n * sz⟩ :: l)⟩, by simp only [St.frz, a6, Bool.false_or, hrd, h1], rfl, (fun b => ⟨Nat.le_refl _, fun k hk _ => ?_, ⟨true, r, 1⟩ :: (l' ++ [⟨false, Nat.add (Nat.add r 1) 0, n * sz⟩]), ?_, fun a ha => ?_⟩), fun ks hks k hk => ?_⟩
    · simp only
      rw [Tr.get_set, if_neg (by omega), kill_at, if_neg]
      intro hm
      have := a5 k hm
      omega
    · simp only [e1, List.cons_append, List.append_assoc, List.nil_append]
    · simp only [writesOf, List.mem_cons, writesOf_append, List.append_nil] at ha
      rcases ha with rfl | ha
      · exact .inr a3
      · exact .inr (e2 a ha)
    · simp only
      rcases hks with ⟨e, _⟩ | ⟨r2, n2, c2, h2, e, g2, rfl⟩
      · cases e
      · cases e
        rw [a6] at g2
        simp only [Option.some.injEq, Slot.hdr.injEq] at g2
        subst g2
        simp only [List.mem_cons, not_or] at hk
        rw [Tr.get_set, if_neg hk.1, kill_at, if_neg hk.2]
section
variable {E : Env} {s : St} {Q : Value → St → Prop}
theorem Ok.frzLK {e lo d : Nat} {cs : List Value} {v : Value} {p : Nat → Value → Prog} (hs : E.size e = some 1) (hsl : slots E 20 e = [none]) (h1 : isOneT E e = true) (h : Grow s.mem lo s.ctr e 1 cs v)
    (hk : ∀ s', s'.ctr = s.ctr → (∀ b, Kq b lo s s') → (∀ ks, Own s.mem v ks → ∀ k, k ∉ ks → s'.mem.get k = s.mem.get k) → Ok (fun f => p f (lstV cs)) s' Q) : Ok (fun f => Ev.frzL E (d + 1) e v (p f)) s Q := by
  obtain ⟨m, c, l⟩ := s
  have h' := h
  rcases h.2 with ⟨rfl, rfl⟩ | ⟨r, n, sy, olds, rfl, a2, _⟩
  · exact hk _ rfl (fun _ => Kq.refl _ _ _) (fun _ _ _ _ => rfl)
  · by_cases hn : n = 0
    · subst hn
      have : cs = [] := List.length_eq_zero_iff.1 (by omega)
      subst this
      exact hk _ rfl (fun _ => Kq.refl _ _ _) (fun _ _ _ _ => rfl)
    · obtain ⟨s', f1, f2, f3, f4⟩ := Grow.frzK (l := l) h'
      have hb : Nat.beq n 0 = false := by cases n with
        | zero => exact absurd rfl hn
        | succ n => rfl
      have hc : chunkC true 1 n cs = cs := by
        rcases chunk1 n cs (by omega) 1 with e | e
        · exact e
        · exact absurd rfl e
      have e2 : ∀ f, Ev.frzL E (d + 1) e (.slice (some ⟨r, 0, none⟩) n (capOf n false)) (p f) = .frz r (n * 1) 0 fun vs => p f (lstV (chunkC true 1 n vs)) := by
        intro f
        unfold Ev.frzL
        simp only [hb, hs, Ev.opt, ck, hsl, anySome, h1, Nat.mul_eq]
        rfl
      simp only [e2]
      refine Ok.frzO f1 ?_
      rw [hc]
      exact hk s' f2 f3 f4
def AllC (sz : Nat) (es : List Value) : Prop := ∀ e, e ∈ es → (cellsL e).length = sz ∧ (cellsL e).all oneC = true
theorem AllC.hd {sz : Nat} {es : List Value} (h : AllC sz es) : hdOk sz es = true := by
  cases es with
  | nil => rfl
  | cons e es => simp only [hdOk, (h e (List.mem_cons_self ..)).1, Nat.beq_refl]
theorem AllC.flat {sz : Nat} : ∀ {es : List Value}, AllC sz es → (flatC es).length = es.length * sz ∧ (flatC es).all oneC = true
  | [], _ => ⟨by simp [flatC], rfl⟩
  | e :: es, h => by
    obtain ⟨i1, i2⟩ := AllC.flat (es := es) fun x hx => h x (List.mem_cons_of_mem _ hx)
    obtain ⟨j1, j2⟩ := h e (List.mem_cons_self ..)
    refine ⟨by rw [flatC, List.length_append, i1, j1, List.length_cons, Nat.add_mul]; omega, ?_⟩
    rw [flatC]
    exact all_append _ _ _ j2 i2
theorem Ok.appXK (b : Nat) {t el sz by_ lo : Nat} {bs es : List Value} (ht : AppT E t el sz by_) (hb : AllC sz bs) (he : AllC sz es) (h0 : 0 < es.length) (hlo : lo ≤ s.ctr) (hn : (bs.length + es.length) * (by_ + 1) ≤ 1099511627776) :
    Ok (fun _ => builtinA E Builtin.append (t :: (t :: [])) (xlstV bs :: (lstV es :: []))) s
      (fun w s' => Grow s'.mem s.ctr s'.ctr el sz (flatC bs ++ flatC es) w ∧ Kq b lo s s') := by
  obtain ⟨m, c, l⟩ := s
  obtain ⟨hu, hs, hby, hz, hz0⟩ := ht
  obtain ⟨zv, hz⟩ := Option.isSome_iff_exists.1 hz
  have hel : elemOfSlice E t = some el := by unfold elemOfSlice; rw [hu]
  have hlen : lenA (lstV es) = some es.length := rfl
  obtain ⟨n1, hn1⟩ : ∃ n1, es.length = n1 + 1 := ⟨es.length - 1, by omega⟩
  have hf1 : ∀ n k, firstA sz n (lstV es) k = gd (hdOk sz es) (k (flatC (es.take n))) := fun _ _ => rfl
  have htk : es.take (n1 + 1) = es := by rw [← hn1]; exact List.take_length
  have hd : (hdOk sz bs && decide ((bs.length + (n1 + 1)) * (by_ + 1) ≤ 1099511627776)) = true := by
    rw [hn1] at hn
    simp only [hb.hd, Bool.true_and]
    exact decide_eq_true hn
  obtain ⟨b1, b2⟩ := hb.flat
  obtain ⟨e1, e2⟩ := he.flat
  have hlf : (flatC bs ++ flatC es).length = (bs.length + (n1 + 1)) * sz := by simp only [List.length_append, b1, e1, hn1, Nat.add_mul]
  have hbl : Nat.ble (flatC bs ++ flatC es).length (flatC bs ++ flatC es).length = true := Nat.ble_eq_true_of_le (Nat.le_refl _)
  have hxl : isXl (xlstV bs) = true := rfl
  have hxe : elems (xlstV bs) = bs := rfl
  have hap : appendA E (t :: (t :: [])) (xlstV bs :: (lstV es :: [])) = appendX E t t bs (lstV es) := rfl
  simp only at hlo
  refine ⟨.slice (some ⟨c, 0, none⟩) (bs.length + (n1 + 1)) (capOf (bs.length + (n1 + 1)) false), ⟨layCells c (flatC bs ++ flatC es) (c + 1) (m.set c (some (.hdr ⟨(flatC bs ++ flatC es).length, el, false, false, true, 0, false, false, []⟩))), c + (flatC bs ++ flatC es).length + 1, ⟨true, c, (flatC bs ++ flatC es).length + 1⟩ :: l⟩,
    ⟨⟨all_append _ _ _ b2 e2, .inr ⟨c, bs.length + (n1 + 1), false, [], rfl, hlf, Nat.le_refl _, (by simp only; omega), fun k hk => (by cases hk), ?_, CellsAt.lay _ _ _⟩⟩, (by simp only; omega), fun k hk _ => ?_, [⟨true, c, (flatC bs ++ flatC es).length + 1⟩], rfl, fun a ha => ?_⟩, 0, fun _ _ => ?_⟩
  · simp only
    rw [lay_below _ _ _ _ _ (by omega), Tr.get_set, if_pos rfl]
  · simp only
    rw [lay_below _ _ _ _ _ (by omega), Tr.get_set, if_neg (by omega)]
  · simp only [writesOf, List.mem_singleton] at ha
    subst ha
    exact .inr hlo
  · simp only [builtinA, hap, appendX, hel, hu, hs, hby, Ev.opt, isIntD, appN, hlen, hn1, hz, gd, hd, appC, hf1, he.hd, htk, Prog.run, Prog.new, hbl, St.newH, Nat.add_eq]
end
end Go.Ev
namespace Go.Proofs.YtpljgnjdlciicaaGreatDoor
open Go Go.Ev Go.Proofs
theorem cl207 (x : Value) (xs : List Value) : callF EnL (runP EnL 20) 207 [lstV (x :: xs)] = Ev.callP (fun v => Ev.frzL EnL 20 2 v fun w => .ret w) (builtinA EnL Builtin.append (30 :: (30 :: [])) (xlstV [] :: (lstV (x :: xs) :: []))) := by kernel_rfl
theorem cl108 (x : Value) (xs : List Value) : callF EnL (runP EnL 20) 108 [lstV (x :: xs)] = Ev.callP (fun v => Ev.frzL EnL 20 9 v fun w => .ret w) (builtinA EnL Builtin.append (31 :: (31 :: [])) (xlstV [] :: (lstV (x :: xs) :: []))) := by kernel_rfl
theorem flatC_one : ∀ (es : List Value), (∀ e, e ∈ es → cellsL e = [e]) → flatC es = es
  | [], _ => rfl
  | e :: es, h => by rw [flatC, h e (List.mem_cons_self ..), flatC_one es fun x hx => h x (List.mem_cons_of_mem _ hx)]; rfl
theorem cloneL (b : Nat) {t el by_ : Nat} (s : St) (es : List Value) (ht : AppT EnL t el 1 by_) (hsl : slots EnL 20 el = [none]) (h1 : isOneT EnL el = true) (he : ∀ e, e ∈ es → cellsL e = [e] ∧ oneC e = true) (h0 : 0 < es.length) (hn : es.length * (by_ + 1) ≤ 1099511627776) :
    Ok (fun _ => Ev.callP (fun v => Ev.frzL EnL 20 el v fun w => .ret w) (builtinA EnL Builtin.append (t :: (t :: [])) (xlstV [] :: (lstV es :: [])))) s (fun v s' => v = lstV es ∧ Kq b s.ctr s s') := by
  have hc : AllC 1 es := fun e h => by obtain ⟨e1, e2⟩ := he e h; rw [e1]; exact ⟨rfl, by simp [e2]⟩
  refine Ok.callP (Ok.appXK b (lo := s.ctr) ht (fun e h => by cases h) hc h0 (Nat.le_refl _) (by simpa using hn)) ?_
  rintro v s1 ⟨g, k⟩
  have hfl : flatC ([] : List Value) ++ flatC es = es := by rw [flatC_one es fun e h => (he e h).1]; rfl
  rw [hfl] at g
  exact Ok.frzLK ht.2.1 hsl h1 g fun s2 e2 k2 _ => Ok.ret ⟨rfl, k.trans (k2 b)⟩
theorem clone207_ok (b : Nat) (s : St) (es : List Value) (he : ∀ e, e ∈ es → ∃ i, e = .int .i64 i) (hn : es.length ≤ 1000000) : Ok (fun f => callF En (runP En f) 207 [lstV es]) s (fun v s' => v = lstV es ∧ Kq b s.ctr s s') := by
  cases es with
  | nil =>
    have e : ∀ f, callF En (runP En f) 207 [lstV []] = gd true (.ret (lstV [])) := fun f => by kernel_rfl
    simp only [e]
    exact Ok.g rfl (Ok.ret ⟨rfl, Kq.refl _ _ _⟩)
  | cons x xs =>
    have e : ∀ f, callF En (runP En f) 207 [lstV (x :: xs)] = callF EnL (runP EnL 20) 207 [lstV (x :: xs)] := fun f => by kernel_rfl
    simp only [e, cl207]
    exact cloneL b (by_ := 8) s _ ⟨by kernel_rfl, by kernel_rfl, by kernel_rfl, by kernel_rfl, by omega⟩ (by kernel_rfl) (by kernel_rfl) (fun e h => by obtain ⟨i, rfl⟩ := he e h; exact ⟨rfl, rfl⟩) (by simp) (by omega)
theorem clone108_ok (b : Nat) (s : St) (es : List Value) (he : ∀ e, e ∈ es → ∃ i, e = .string i) (hn : es.length ≤ 1000000) : Ok (fun f => callF En (runP En f) 108 [lstV es]) s (fun v s' => v = lstV es ∧ Kq b s.ctr s s') := by
  cases es with
  | nil =>
    have e : ∀ f, callF En (runP En f) 108 [lstV []] = gd true (.ret (lstV [])) := fun f => by kernel_rfl
    simp only [e]
    exact Ok.g rfl (Ok.ret ⟨rfl, Kq.refl _ _ _⟩)
  | cons x xs =>
    have e : ∀ f, callF En (runP En f) 108 [lstV (x :: xs)] = callF EnL (runP EnL 20) 108 [lstV (x :: xs)] := fun f => by kernel_rfl
    simp only [e, cl108]
    exact cloneL b (by_ := 16) s _ ⟨by kernel_rfl, by kernel_rfl, by kernel_rfl, by kernel_rfl, by omega⟩ (by kernel_rfl) (by kernel_rfl) (fun e h => by obtain ⟨i, rfl⟩ := he e h; exact ⟨rfl, rfl⟩) (by simp) (by omega)
theorem clone208_ok (b : Nat) (s : St) : Ok (fun f => callF En (runP En f) 208 [lstV []]) s (fun v s' => v = lstV [] ∧ Kq b s.ctr s s') := by
  have e : ∀ f, callF En (runP En f) 208 [lstV []] = gd true (.ret (lstV [])) := fun f => by kernel_rfl
  simp only [e]
  exact Ok.g rfl (Ok.ret ⟨rfl, Kq.refl _ _ _⟩)
end Go.Proofs.YtpljgnjdlciicaaGreatDoor
namespace Go.Proofs.YtpljgnjdlciicaaGreatDoor
open Go Go.Ev Go.Proofs
structure Cx (str : ByteArray) (ts : List Tok) (en : Int) : Prop where
  few : ts.length ≤ 16384
  cov : Cov str 0 ts (bl str).length
  en0 : 0 ≤ en
  en1 : en ≤ (bl str).length
  sh : (bl str).length ≤ 100000
theorem Cov.at {str : ByteArray} : ∀ {ts : List Tok} {w e : Int}, Cov str w ts e → ∀ (i : Nat) (t : Tok), ts[i]? = some t → w ≤ t.at_ ∧ t.en ≤ e ∧ TokOK str t.at_ t
  | [], _, _, _, i, t, h => by simp at h
  | x :: ts, w, e, h, i, t, ht => by
    obtain ⟨h1, h2, h3, h4⟩ := h
    have hx := h3.2.1
    cases i with
    | zero =>
      simp only [List.getElem?_cons_zero, Option.some.injEq] at ht
      subst ht
      refine ⟨h1, ?_, h3⟩
      clear hx
      have : ∀ {ts : List Tok} {w e : Int}, Cov str w ts e → w ≤ e := by
        intro ts
        induction ts with
        | nil => intro w e h; exact h.1
        | cons y ys ih =>
          intro w e h
          have := ih h.2.2.2
          have h5 := h.1
          have h6 := h.2.2.1.2.1
          omega
      exact this h4
    | succ i =>
      simp only [List.getElem?_cons_succ] at ht
      obtain ⟨i1, i2, i3⟩ := Cov.at h4 i t ht
      exact ⟨by omega, i2, i3⟩
theorem Cov.ord {str : ByteArray} : ∀ {ts : List Tok} {w e : Int}, Cov str w ts e → ∀ (i j : Nat) (t u : Tok), i ≤ j → ts[i]? = some t → ts[j]? = some u → t.at_ ≤ u.en
  | [], _, _, _, i, j, t, u, _, h, _ => by simp at h
  | x :: ts, w, e, h, i, j, t, u, hij, ht, hu => by
    obtain ⟨h1, h2, h3, h4⟩ := h
    have hx := h3.2.1
    cases i with
    | zero =>
      simp only [List.getElem?_cons_zero, Option.some.injEq] at ht
      subst ht
      cases j with
      | zero =>
        simp only [List.getElem?_cons_zero, Option.some.injEq] at hu
        subst hu
        omega
      | succ j =>
        simp only [List.getElem?_cons_succ] at hu
        obtain ⟨i1, _, i3⟩ := Cov.at h4 j u hu
        have := i3.2.1
        omega
    | succ i =>
      cases j with
      | zero => omega
      | succ j =>
        simp only [List.getElem?_cons_succ] at ht hu
        exact Cov.ord h4 i j t u (by omega) ht hu
theorem Cx.here {str : ByteArray} {ts : List Tok} {en : Int} (h : Cx str ts en) (i : Int) : 0 ≤ hereV ts en i ∧ hereV ts en i ≤ (bl str).length := by
  unfold hereV
  split
  · rename_i t ht
    obtain ⟨h1, h2, h3⟩ := Cov.at h.cov _ _ ht
    have := h3.2.1
    exact ⟨h1, by omega⟩
  · exact ⟨h.en0, h.en1⟩
def PI (s : St) (b : Nat) (str : ByteArray) (ts : List Tok) (en i err : Int) : Prop :=
  ∃ deep bad, PX s b str ts en i deep err bad ∧ 0 ≤ i ∧ i ≤ ts.length ∧ (err ≠ 0 → 0 ≤ bad ∧ bad ≤ (bl str).length)
section
variable {s : St} {b : Nat} {str : ByteArray} {ts : List Tok} {en i err : Int}
theorem PI.reads {s' : St} (h : PI s b str ts en i err) (r : Reads s s') : PI s' b str ts en i err := by
  obtain ⟨deep, bad, h1, h2⟩ := h
  exact ⟨deep, bad, h1.reads r, h2⟩
theorem PI.fresh {s' : St} (h : PI s b str ts en i err) (r : Fresh s s') : PI s' b str ts en i err := by
  obtain ⟨deep, bad, h1, h2⟩ := h
  exact ⟨deep, bad, h1.fresh r, h2⟩
theorem PI.mem {s' : St} (h : PI s b str ts en i err) (hc : s.ctr ≤ s'.ctr) (e : ∀ k, k < b + 8 → s'.mem.get k = s.mem.get k) : PI s' b str ts en i err := by
  obtain ⟨deep, bad, ⟨h1, h2, h3, h4⟩, h5⟩ := h
  exact ⟨deep, bad, ⟨h1.congr fun j _ hj => e j (by simp [pC] at hj; omega), by omega, h3, h4.congr fun k hk => e k (by omega)⟩, h5⟩
theorem PI.ctr (h : PI s b str ts en i err) : b + 8 ≤ s.ctr := by
  obtain ⟨deep, bad, h1, h2⟩ := h
  exact h1.2.1
theorem PI.low (h : PI s b str ts en i err) : 0 ≤ i ∧ i ≤ ts.length := by
  obtain ⟨deep, bad, h1, h2, h3, _⟩ := h
  exact ⟨h2, h3⟩
theorem PI.mx (h : PI s b str ts en i err) : MxM s.mem := by
  obtain ⟨deep, bad, h1, _⟩ := h
  exact h1.2.2.2
theorem isound_ok (h : PI s b str ts en i err) : Ok (fun f => callF En (runP En f) 39 [.pointer (some ⟨b, 0, none⟩)]) s (fun v s' => v = .bool (decide (err = 0)) ∧ Reads s s') := by
  obtain ⟨deep, bad, h1, _⟩ := h
  exact sound_ok h1
theorem ihere_ok (h : PI s b str ts en i err) : Ok (fun f => callF En (runP En f) 41 [.pointer (some ⟨b, 0, none⟩)]) s (fun v s' => v = .int .i64 (hereV ts en i) ∧ Reads s s') := by
  obtain ⟨deep, bad, h1, h2, _⟩ := h
  exact here_ok h1 h2
theorem iis_ok (h : PI s b str ts en i err) (k : Int) : Ok (fun f => callF En (runP En f) 129 [.pointer (some ⟨b, 0, none⟩), .int .i64 k]) s
    (fun v s' => (∃ r, v = .bool r ∧ (r = true → ∃ t, ts[i.toNat]? = some t ∧ t.kind = k)) ∧ Reads s s') := by
  obtain ⟨deep, bad, h1, h2, _⟩ := h
  exact is_ok h1 h2 k
theorem iahead_ok (cx : Cx str ts en) (h : PI s b str ts en i err) (n : Int) (hn : 0 ≤ n ∧ n ≤ 1000) (x : ByteArray) : Ok (fun f => callF En (runP En f) 93 [.pointer (some ⟨b, 0, none⟩), .int .i64 n, .string x]) s
    (fun v s' => (∃ r, v = .bool r ∧ (r = true → i + n < ts.length)) ∧ Reads s s') := by
  obtain ⟨deep, bad, h1, h2, h3, _⟩ := h
  exact ahead_ok h1 ⟨h2, by have := cx.few; omega⟩ n hn x
theorem imark_ok (cx : Cx str ts en) (h : PI s b str ts en i err) (x : ByteArray) : Ok (fun f => callF En (runP En f) 43 [.pointer (some ⟨b, 0, none⟩), .string x]) s
    (fun v s' => (∃ r, v = .bool r ∧ (r = true → i < ts.length)) ∧ Reads s s') := by
  obtain ⟨deep, bad, h1, h2, h3, _⟩ := h
  exact pmark_ok h1 ⟨h2, by have := cx.few; omega⟩ x
theorem ifail_ok (h : PI s b str ts en i err) (e a : Int) (he : e ≠ 0) (ha : 0 ≤ a ∧ a ≤ (bl str).length) (lo : Nat) : Ok (fun f => callF En (runP En f) 40 [.pointer (some ⟨b, 0, none⟩), .int .i64 e, .int .i64 a]) s
    (fun v s' => v = .tuple ⟨[]⟩ ∧ (∃ err', PI s' b str ts en i err' ∧ err' ≠ 0) ∧ Kq b lo s s') := by
  obtain ⟨deep, bad, h1, h2, h3, h4⟩ := h
  refine Ok.step (fun f => f40_eq f b e a) ?_
  refine Ok.call (sound_ok h1) ?_
  rintro v s1 ⟨rfl, r1⟩
  have g1 := h1.reads r1
  refine Ok.t rfl ?_
  refine Ok.c (fun hb => ?_) (fun hb => ?_)
  · refine Ok.callP (g1.set (v := .int .i64 e) (err' := e) (by kernel_rfl) rfl (by omega) rfl rfl) ?_
    rintro v s2 ⟨rfl, g2, _, k2⟩
    refine Ok.callP (g2.set (v := .int .i64 a) (bad' := a) (by kernel_rfl) rfl (by omega) rfl rfl) ?_
    rintro v s3 ⟨rfl, g3, _, k3⟩
    exact Ok.ret ⟨rfl, ⟨e, ⟨deep, a, g3, h2, h3, fun _ => ha⟩, he⟩, ((r1.kq b lo).trans (k2 lo)).trans (k3 lo)⟩
  · have hb := of_decide_eq_false hb
    exact Ok.ret ⟨rfl, ⟨err, ⟨deep, bad, g1, h2, h3, h4⟩, hb⟩, r1.kq b lo⟩
theorem PI.inc (h : PI s b str ts en i err) (hl : i < ts.length) : Ok (fun _ => storeT En 3 b 2 (.int .i64 (i + 1))) s (fun w s' => w = U ∧ PI s' b str ts en (i + 1) err ∧ s'.ctr = s.ctr ∧ ∀ lo, Kq b lo s s') := by
  obtain ⟨deep, bad, h1, h2, h3, h4⟩ := h
  refine Ok.mono (h1.set (v := .int .i64 (i + 1)) (i' := i + 1) (by kernel_rfl) rfl (by omega) rfl rfl) ?_
  rintro w s' ⟨rfl, g, e, k⟩
  exact ⟨rfl, ⟨deep, bad, g, by omega, by omega, h4⟩, e, k⟩
theorem PI.c2 (h : PI s b str ts en i err) : Cell s.mem b 2 (.int .i64 i) := by
  obtain ⟨deep, bad, h1, _⟩ := h
  exact h1.c2
theorem PI.c1 (h : PI s b str ts en i err) : Cell s.mem b 1 (lstV (ts.map tokV)) := by
  obtain ⟨deep, bad, h1, _⟩ := h
  exact h1.c1
theorem PI.c0 (h : PI s b str ts en i err) : Cell s.mem b 0 (.string str) := by
  obtain ⟨deep, bad, h1, _⟩ := h
  exact h1.c0
theorem wrap1 {i : Int} (h : 0 ≤ i ∧ i ≤ 1000000) : IntKind.i64.wrap (i + 1) = i + 1 := wrap_in _ (by omega) (by omega)
theorem must_ok (cx : Cx str ts en) (h : PI s b str ts en i err) (x : ByteArray) (lo : Nat) : Ok (fun f => callF En (runP En f) 170 [.pointer (some ⟨b, 0, none⟩), .string x]) s
    (fun v s' => v = .tuple ⟨[]⟩ ∧ (∃ i' err', PI s' b str ts en i' err' ∧ i ≤ i' ∧ (err ≠ 0 → err' ≠ 0) ∧ (err' = 0 → i < i')) ∧ Kq b lo s s') := by
  have t3 : scal En 3 = true := by kernel_rfl
  have hl := h.low
  have hf := cx.few
  refine Ok.step (fun f => f170_eq f b x) ?_
  refine Ok.call (isound_ok h) ?_
  rintro v s1 ⟨rfl, r1⟩
  have h1 := h.reads r1
  refine Ok.t rfl ?_
  refine Ok.c (fun hb => ?_) (fun hb => ?_)
  · have hb : err ≠ 0 := by simpa [boolOf] using hb
    exact Ok.ret ⟨rfl, ⟨i, err, h1, Int.le_refl _, fun h => h, fun e => absurd e hb⟩, r1.kq b lo⟩
  · have hb : err = 0 := by simpa [boolOf] using hb
    refine Ok.call (imark_ok cx h1 x) ?_
    rintro v s2 ⟨⟨r, rfl, hr⟩, r2⟩
    have h2 := h1.reads r2
    have r2 := r1.trans r2
    refine Ok.t rfl ?_
    refine Ok.c (fun hb2 => ?_) (fun _ => ?_)
    · have hlt := hr hb2
      refine Ok.callP (Ok.load1 t3 h2.c2) ?_
      rintro v s3 ⟨rfl, m3, c3, l3⟩
      have r3 : Reads s2 s3 := ⟨m3, c3, [⟨false, b + 1 + 2, 1⟩, ⟨false, b, 1⟩], l3, rfl⟩
      refine Ok.t rfl ?_
      simp only [intOf, wrap1 (i := i) (by omega)]
      refine Ok.callP ((h2.reads r3).inc hlt) ?_
      rintro v s4 ⟨rfl, h4, _, k4⟩
      exact Ok.ret ⟨rfl, ⟨i + 1, err, h4, by omega, fun h => h, fun _ => by omega⟩, ((r2.trans r3).kq b lo).trans (k4 lo)⟩
    · refine Ok.call (ihere_ok h2) ?_
      rintro v s3 ⟨rfl, r3⟩
      refine Ok.t rfl ?_
      refine Ok.call (ifail_ok (h2.reads r3) 150 _ (by decide) (cx.here i) lo) ?_
      rintro v s4 ⟨rfl, ⟨err', h4, he⟩, k4⟩
      exact Ok.t rfl (Ok.ret ⟨rfl, ⟨i, err', h4, Int.le_refl _, fun _ => he, fun e => absurd e he⟩, ((r2.trans r3).kq b lo).trans k4⟩)
theorem name_ok (cx : Cx str ts en) (h : PI s b str ts en i err) : Ok (fun f => callF En (runP En f) 95 [.pointer (some ⟨b, 0, none⟩)]) s
    (fun v s' => (∃ r, v = .bool r ∧ (r = true → i < ts.length)) ∧ Reads s s') := by
  have t3 : scal En 3 = true := by kernel_rfl
  have t42 : scal En 42 = true := by kernel_rfl
  refine Ok.step (fun f => f95_eq f b) ?_
  have h0 : PI ⟨s.mem, s.ctr, []⟩ b str ts en i err := h
  refine segReads (R := fun v => ∃ r, v = .bool r ∧ (r = true → ∃ t, ts[i.toNat]? = some t ∧ t.kind = 2)) (iis_ok h0 2) ?_
  rintro v s1 sg ⟨r, rfl, hr⟩ r1 hsg
  refine Ok.t rfl ?_
  refine Ok.c (fun hb => ?_) (fun _ => Ok.ret ⟨⟨false, rfl, fun h => by cases h⟩, r1⟩)
  obtain ⟨t, ht, hk⟩ := hr hb
  have hl : i.toNat < ts.length := (List.getElem?_eq_some_iff.1 ht).1
  have hi := h.low.1
  refine Ok.segLoad t42 (h.c1.reads r1) fun s2 r2 => ?_
  have r2 := r1.trans r2
  refine Ok.gdL (freeL_reads _ _ rfl _ fun d hd => by simp only [List.mem_singleton] at hd; subst hd; exact hsg) (Ok.t rfl ?_)
  refine Ok.segLoad t3 (h.c2.reads r2) fun s3 r3 => ?_
  have r3 := r2.trans r3
  refine Ok.gdL (freeL_reads _ _ rfl _ fun d hd => by simp only [List.mem_cons, List.not_mem_nil, or_false] at hd; rcases hd with rfl | rfl; rfl; exact hsg) (Ok.t rfl ?_)
  simp only [show ∀ x, elems (lstV x) = x from fun _ => rfl, intOf, at_toks ts i.toNat hl]
  refine Ok.t (decide_eq_true hi) (Ok.t (bnd_toks ts i.toNat hl) (Ok.t rfl (Ok.t rfl (Ok.t rfl ?_))))
  have hte : ts[i.toNat]'hl = t := by
    rw [List.getElem?_eq_getElem hl] at ht
    exact Option.some.inj ht
  have hx : (bl (ts[i.toNat]'hl).text).length ≤ 1000000 := by
    rw [hte]
    obtain ⟨_, _, h3⟩ := Cov.at cx.cov _ _ ht
    rw [h3.2.2.2.2.2.1 (by omega)]
    have := cx.sh
    simp only [sub, bl_mk, List.length_take, List.length_drop]
    omega
  refine segReads (R := fun v => ∃ r, v = .bool r) (infix_ok (s := ⟨s3.mem, s3.ctr, []⟩) (h.reads r3).mx _ hx) ?_
  rintro v s4 sg4 ⟨r, rfl⟩ r4 hsg4
  have r4 := r3.trans r4
  refine Ok.gdL (freeL_reads _ _ hsg4 _ fun d hd => by simp only [List.mem_cons, List.not_mem_nil, or_false] at hd; rcases hd with rfl | rfl | rfl; rfl; rfl; exact hsg) (Ok.t rfl ?_)
  exact Ok.ret ⟨⟨_, rfl, fun _ => by omega⟩, r4⟩
end
end Go.Proofs.YtpljgnjdlciicaaGreatDoor
namespace Go.Ev
open Go
theorem freeL_two {mask : Nat} {sg : List Acc} : ∀ (ds : List Done), (∀ d, d ∈ ds → Nat.testBit mask d.i = true ∨ ((∀ a, a ∈ d.ws → ∀ r, r ∈ sg → overlap a.k a.n r.k r.n = false) ∧ (∀ a, a ∈ writesOf sg → ∀ r, r ∈ d.all → overlap a.k a.n r.k r.n = false))) → freeL mask (writesOf sg) sg ds = true
  | [], _ => rfl
  | d :: ds, g => by
    have ih := freeL_two (mask := mask) (sg := sg) ds fun d hd => g d (List.mem_cons_of_mem _ hd)
    simp only [freeL, ih, Bool.and_true, Bool.or_eq_true]
    rcases g d (List.mem_cons_self ..) with e | ⟨e1, e2⟩
    · exact .inl e
    · refine .inr ?_
      unfold apartLogs
      have h1 := anyHits_no _ _ e1
      have h2 := anyHits_no _ _ e2
      rw [Bool.and_eq_true]
      constructor
      · split
        · rfl
        · simp only [h1, Bool.not_false]
      · split
        · rfl
        · simp only [h2, Bool.not_false]
end Go.Ev
namespace Go.Proofs.YtpljgnjdlciicaaGreatDoor
open Go Go.Ev Go.Proofs
theorem frz50 (t : Tok) (K : Value → Prog) : frzT En 50 (tokV t) K = K (tokV t) := by kernel_rfl
section
variable {s : St} {b : Nat} {str : ByteArray} {ts : List Tok} {en i err : Int}
theorem next_ok (cx : Cx str ts en) (h : PI s b str ts en i err) {t : Tok} (ht : ts[i.toNat]? = some t) {lo : Nat} (hlo : lo ≤ s.ctr) : Ok (fun f => callF En (runP En f) 96 [.pointer (some ⟨b, 0, none⟩)]) s
    (fun v s' => v = tokV t ∧ PI s' b str ts en (i + 1) err ∧ Kq b lo s s') := by
  have t3 : scal En 3 = true := by kernel_rfl
  have t42 : scal En 42 = true := by kernel_rfl
  have hl : i.toNat < ts.length := (List.getElem?_eq_some_iff.1 ht).1
  have hte : ts[i.toNat]'hl = t := by
    rw [List.getElem?_eq_getElem hl] at ht
    exact Option.some.inj ht
  have hi := h.low
  have hf := cx.few
  have hc := h.ctr
  refine Ok.step (fun f => f96_eq f b) ?_
  refine Ok.callP (Ok.newK (b := b) rfl hlo) ?_
  rintro v s1 ⟨rfl, e1, e2, e3, k1⟩
  refine Ok.t rfl ?_
  simp only [blk_itP, off_itP]
  have h1 : PI s1 b str ts en i err := h.mem (by omega) fun k hk => e3 k (by omega)
  refine Ok.callP (Ok.load1 t3 h1.c2) ?_
  rintro v s2 ⟨rfl, m2, c2, l2⟩
  have r2 : Reads s1 s2 := ⟨m2, c2, [⟨false, b + 1 + 2, 1⟩, ⟨false, b, 1⟩], l2, rfl⟩
  refine Ok.t rfl ?_
  simp only [intOf, wrap1 (i := i) (by omega)]
  refine Ok.callP ((h1.reads r2).inc (by omega)) ?_
  rintro v s3 ⟨rfl, h3, c3, k3a⟩
  have k3 := k1.trans ((r2.kq b lo).trans (k3a lo))
  refine Ok.segLoad t42 h3.c1 fun s4 r4 => ?_
  refine Ok.t rfl ?_
  refine Ok.segLoad t3 (h3.c2.reads r4) fun s5 r5 => ?_
  have r5 := r4.trans r5
  refine Ok.gdL (by kernel_rfl) (Ok.t rfl ?_)
  have hw : IntKind.i64.wrap (i + 1 + -1) = i := by rw [show i + 1 + -1 = i by omega]; exact wrap_in _ (by omega) (by omega)
  simp only [show ∀ x, elems (lstV x) = x from fun _ => rfl, intOf, hw, at_toks ts i.toNat hl, hte]
  refine Ok.t (decide_eq_true hi.1) (Ok.t (bnd_toks ts i.toNat hl) (Ok.t rfl (Ok.t rfl ?_)))
  have q1 : Row s1.mem s.ctr [.int .i64 0, .int .i64 0, .int .i64 0, .string (mkStr []), .int .i64 0, .slice none 0 0, .slice none 0 0, .slice none 0 0] := e2
  have hb8 : b + 8 ≤ s.ctr := hc
  have q5 : Row s5.mem s.ctr [.int .i64 0, .int .i64 0, .int .i64 0, .string (mkStr []), .int .i64 0, .slice none 0 0, .slice none 0 0, .slice none 0 0] := by
    refine q1.congr fun j j1 j2 => ?_
    simp only [List.length_cons, List.length_nil] at j2
    rw [r5.1]
    exact ((r2.kq b (s.ctr + 9)).trans (k3a _)).mem j (by omega) (.inr (by omega))
  refine Ok.segK (b := b) (lo := lo) (R := fun v s' => v = U ∧ s'.ctr = s5.ctr ∧ Row s'.mem s.ctr t.cells ∧ ∀ k, (k ≤ s.ctr ∨ s.ctr + 1 + 8 ≤ k) → s'.mem.get k = s5.mem.get k) (Ok.mono (Ok.storeRowK (s := ⟨s5.mem, s5.ctr, []⟩) (ws := t.cells) (b := b) (lo := lo) (by kernel_rfl) q5 rfl rfl rfl hlo) (fun v s' h => ⟨⟨h.1, h.2.1, h.2.2.1, h.2.2.2.1⟩, h.2.2.2.2⟩)) ?_
  rintro v m c sg ⟨rfl, c6, q6, m6⟩ k6 w6
  simp only at c6 q6 m6
  refine Ok.gdL (by simp [freeL, show Nat.testBit 2047 7 = true from rfl, show Nat.testBit 2047 3 = true from rfl]) ?_
  refine Ok.call (Ok.loadA (n := 8) (vs := t.cells) (by kernel_rfl) (by kernel_rfl) rfl ?_ (show CellsAt m s.ctr (s.ctr + 1 + 0) t.cells from q6.2)) ?_
  · obtain ⟨el, ex, z, sy', hf⟩ := q6.1
    exact ⟨_, hf⟩
  rintro v s7 ⟨rfl, m7, c7, l7⟩
  have r7 : Reads ⟨m, c, sg ++ s5.log⟩ s7 := ⟨m7, c7, [⟨false, s.ctr + 1 + 0, 8⟩, ⟨false, s.ctr, 1⟩], l7, rfl⟩
  have e7 : Value.agg ⟨t.cells⟩ = tokV t := rfl
  rw [e7]
  simp only [frz50]
  refine Ok.ret ⟨rfl, ?_, (k3.trans (r5.kq b lo)).trans (k6.trans (r7.kq b lo))⟩
  exact (h3.reads r5).mem (by rw [c7]; simp only; omega) fun k hk => by rw [m7]; exact m6 k (by omega)
theorem verb_ok (cx : Cx str ts en) (h : PI s b str ts en i err) : Ok (fun f => callF En (runP En f) 131 [.pointer (some ⟨b, 0, none⟩)]) s
    (fun v s' => (∃ r, v = .bool r ∧ (r = true → i < ts.length)) ∧ Reads s s') := by
  have hi := h.low
  refine Ok.step (fun f => f131_eq f b) ?_
  refine Ok.call (iis_ok h 4) ?_
  rintro v s1 ⟨⟨r, rfl, hr⟩, r1⟩
  have lt : ∀ {k : Int}, (∃ t, ts[i.toNat]? = some t ∧ t.kind = k) → i < ts.length := fun ⟨t, ht, _⟩ => by
    have := (List.getElem?_eq_some_iff.1 ht).1
    omega
  refine Ok.t rfl ?_
  refine Ok.c (fun hb => Ok.ret ⟨⟨true, rfl, fun _ => lt (hr hb)⟩, r1⟩) (fun _ => ?_)
  refine Ok.call (iis_ok (h.reads r1) 2) ?_
  rintro v s2 ⟨⟨r, rfl, hr2⟩, r2⟩
  have r2 := r1.trans r2
  refine Ok.t rfl ?_
  refine Ok.c (fun hb => ?_) (fun _ => Ok.ret ⟨⟨false, rfl, fun h => by cases h⟩, r2⟩)
  refine Ok.call (name_ok cx (h.reads r2)) ?_
  rintro v s3 ⟨⟨r, rfl, _⟩, r3⟩
  exact Ok.t rfl (Ok.ret ⟨⟨_, rfl, fun _ => lt (hr2 hb)⟩, r2.trans r3⟩)
end
theorem frz34 (t : Int) (n sy l : List Value) (K : Value → Prog) : frzT En 34 (.agg ⟨[.int .i64 t, lstV n, lstV sy, lstV l]⟩) K = K (.agg ⟨[.int .i64 t, lstV n, lstV sy, lstV l]⟩) := by kernel_rfl
theorem freeL_rd {b lo mask : Nat} {sg : List Acc} (hs : writesOf sg = []) (h2 : ∀ r, r ∈ sg → r.k + r.n ≤ lo ∧ (r.k + r.n ≤ b ∨ b + 8 ≤ r.k)) (ds : List Done) (h : ∀ d, d ∈ ds → ∀ a, a ∈ d.ws → (b ≤ a.k ∧ a.k + a.n ≤ b + 8) ∨ lo ≤ a.k) : freeL mask (writesOf sg) sg ds = true := by
  refine freeL_two ds fun d hd => .inr ⟨fun a ha r hr => ?_, fun a ha => by rw [hs] at ha; cases ha⟩
  obtain ⟨r1, r2⟩ := h2 r hr
  rcases h d hd a ha with ⟨a1, a2⟩ | a1
  · exact overlap_no (by omega)
  · exact overlap_no (by omega)
theorem vclone_ok (b : Nat) (s : St) (hb : b + 8 ≤ s.ctr) (t : Int) (n sy : List Value) (hn : ∀ e, e ∈ n → ∃ i, e = .int .i64 i) (hsy : ∀ e, e ∈ sy → ∃ i, e = .string i) (ln : n.length ≤ 1000000) (ls : sy.length ≤ 1000000) :
    Ok (fun f => callF En (runP En f) 167 [.agg ⟨[.int .i64 t, lstV n, lstV sy, lstV []]⟩]) s (fun v s' => v = .agg ⟨[.int .i64 t, lstV n, lstV sy, lstV []]⟩ ∧ Kq b s.ctr s s') := by
  have t30 : scal En 30 = true := by kernel_rfl
  have t31 : scal En 31 = true := by kernel_rfl
  have t32 : scal En 32 = true := by kernel_rfl
  refine Ok.step (fun f => f167_eq f t n sy []) ?_
  refine Ok.g rfl ?_
  refine Ok.callP (Ok.newK (b := b) rfl (Nat.le_refl s.ctr)) ?_
  rintro v s1 ⟨rfl, e1, q1, m1, k1⟩
  refine Ok.t rfl ?_
  refine Ok.callP (Ok.newK (b := b) (lo := s.ctr) rfl (by omega)) ?_
  rintro v s2 ⟨rfl, e2, q2, m2, k2⟩
  refine Ok.t rfl ?_
  have k2 := k1.trans k2
  simp only [blk_itP, off_itP, Nat.zero_add]
  have p2 : Row s2.mem s.ctr [.int .i64 t, lstV n, lstV sy, lstV []] := q1.congr fun j j1 j2 => m2 j (by simp only [List.length_cons, List.length_nil] at j2; omega)
  have hrow : ∀ {s' : St} {vs : List Value} {c lo : Nat}, Row s2.mem c vs → c + 1 + vs.length ≤ lo → b + 8 ≤ c → Kq b lo s2 s' → Row s'.mem c vs := fun h h1 h2 k => Row.kq h (.inr h2) h1 k
  refine Ok.segLoad (b := s.ctr) (o := 1) t30 (p2.cell 1 rfl) fun s3 r3 => ?_
  refine Ok.t rfl ?_
  simp only [show ∀ x, elems (lstV x) = x from fun _ => rfl]
  refine Ok.segK (b := b) (lo := s2.ctr) (R := fun v _ => v = lstV n) (Ok.mono (clone207_ok b ⟨s3.mem, s3.ctr, []⟩ n hn ln) (fun v s' h => ⟨h.1, h.2.weaken (Nat.le_of_eq r3.2.1.symm)⟩)) ?_
  rintro v m4 c4 g4 rfl k4 w4
  have k4 : Kq b s2.ctr s2 _ := (r3.kq b s2.ctr).trans k4
  refine Ok.gdL (by simp [freeL, show Nat.testBit 3 1 = true from rfl]) (Ok.t rfl ?_)
  have p4 : Row m4 s.ctr [.int .i64 t, lstV n, lstV sy, lstV []] := hrow p2 (by simp; omega) hb k4
  refine Ok.segLoad (b := s.ctr) (o := 2) t31 (p4.cell 2 rfl) fun s5 r5 => ?_
  refine Ok.gdL (freeL_rd (b := b) (lo := s2.ctr) rfl (fun r hr => by simp only [List.mem_cons, List.not_mem_nil, or_false] at hr; rcases hr with rfl | rfl <;> simp only <;> omega) _ (fun d hd => by
    simp only [List.mem_cons, List.not_mem_nil, or_false] at hd
    rcases hd with rfl | rfl
    · exact w4
    · intro a ha; cases ha)) (Ok.t rfl ?_)
  have k5 := k4.trans (r5.kq b s2.ctr)
  simp only [show ∀ x, elems (lstV x) = x from fun _ => rfl]
  have hc5 : s2.ctr ≤ s5.ctr := k5.ctr
  refine Ok.segK (b := b) (lo := s2.ctr) (R := fun v _ => v = lstV sy) (Ok.mono (clone108_ok b ⟨s5.mem, s5.ctr, []⟩ sy hsy ls) (fun v s' h => ⟨h.1, h.2.weaken hc5⟩)) ?_
  rintro v m6 c6 g6 rfl k6 w6
  have k6 := k5.trans k6
  refine Ok.gdL (by simp [freeL, show Nat.testBit 31 1 = true from rfl, show Nat.testBit 31 2 = true from rfl, show Nat.testBit 31 4 = true from rfl]) (Ok.t rfl ?_)
  have p6 : Row m6 s.ctr [.int .i64 t, lstV n, lstV sy, lstV []] := hrow p2 (by simp; omega) hb k6
  refine Ok.segLoad (b := s.ctr) (o := 3) t32 (p6.cell 3 rfl) fun s7 r7 => ?_
  refine Ok.gdL (freeL_rd (b := b) (lo := s2.ctr) rfl (fun r hr => by simp only [List.mem_cons, List.not_mem_nil, or_false] at hr; rcases hr with rfl | rfl <;> simp only <;> omega) _ (fun d hd => by
    simp only [List.mem_cons, List.not_mem_nil, or_false] at hd
    rcases hd with rfl | rfl | rfl | rfl
    · exact w6
    · intro a ha; cases ha
    · exact w4
    · intro a ha; cases ha)) (Ok.t rfl ?_)
  have k7 := k6.trans (r7.kq b s2.ctr)
  simp only [show ∀ x, elems (lstV x) = x from fun _ => rfl]
  have hc7 : s2.ctr ≤ s7.ctr := k7.ctr
  refine Ok.segK (b := b) (lo := s2.ctr) (R := fun v _ => v = lstV []) (Ok.mono (clone208_ok b ⟨s7.mem, s7.ctr, []⟩) (fun v s' h => ⟨h.1, h.2.weaken hc7⟩)) ?_
  rintro v m8 c8 g8 rfl k8 w8
  have k8 := k7.trans k8
  refine Ok.gdL (by simp [freeL, show Nat.testBit 255 1 = true from rfl, show Nat.testBit 255 2 = true from rfl, show Nat.testBit 255 4 = true from rfl, show Nat.testBit 255 5 = true from rfl, show Nat.testBit 255 7 = true from rfl]) (Ok.t rfl ?_)
  have p8 : Row m8 s.ctr [.int .i64 t, lstV n, lstV sy, lstV []] := hrow p2 (by simp; omega) hb k8
  have q8 : Row m8 s1.ctr [.int .i64 0, .slice none 0 0, .slice none 0 0, .slice none 0 0] := hrow q2 (by simp; omega) (by omega) k8
  simp only [show ∀ x, elems (lstV x) = x from fun _ => rfl]
  refine Ok.segK (b := b) (lo := s.ctr) (R := fun v s' => Row s'.mem s.ctr [.int .i64 t, lstV n, lstV sy, lstV []] ∧ ∀ k, k ≠ s.ctr + 1 + 1 → s'.mem.get k = m8.get k) (Ok.mono (Ok.storeCellK (s := ⟨m8, c8, []⟩) (b := b) (lo := s.ctr) (o := 1) (v := lstV n) (by kernel_rfl) rfl p8 (by simp) rfl (Nat.le_refl _)) (fun v s' h => ⟨⟨h.2.2.1, h.2.2.2.1⟩, h.2.2.2.2⟩)) ?_
  rintro v m9 c9 g9 ⟨p9, f9⟩ k9 w9
  have k9 := (k2.trans (k8.weaken (by omega))).trans k9
  refine Ok.gdL (by simp [freeL, show Nat.testBit 1023 1 = true from rfl, show Nat.testBit 1023 2 = true from rfl, show Nat.testBit 1023 4 = true from rfl, show Nat.testBit 1023 5 = true from rfl, show Nat.testBit 1023 7 = true from rfl, show Nat.testBit 1023 8 = true from rfl]) ?_
  refine Ok.segK (b := b) (lo := s.ctr) (R := fun v s' => Row s'.mem s.ctr [.int .i64 t, lstV n, lstV sy, lstV []] ∧ ∀ k, k ≠ s.ctr + 1 + 2 → s'.mem.get k = m9.get k) (Ok.mono (Ok.storeCellK (s := ⟨m9, c9, []⟩) (b := b) (lo := s.ctr) (o := 2) (v := lstV sy) (by kernel_rfl) rfl p9 (by simp) rfl (Nat.le_refl _)) (fun v s' h => ⟨⟨h.2.2.1, h.2.2.2.1⟩, h.2.2.2.2⟩)) ?_
  rintro v mA cA gA ⟨pA, fA⟩ kA wA
  have kA := k9.trans kA
  refine Ok.gdL (by simp [freeL, show Nat.testBit 4095 1 = true from rfl, show Nat.testBit 4095 2 = true from rfl, show Nat.testBit 4095 4 = true from rfl, show Nat.testBit 4095 5 = true from rfl, show Nat.testBit 4095 7 = true from rfl, show Nat.testBit 4095 8 = true from rfl, show Nat.testBit 4095 10 = true from rfl]) ?_
  refine Ok.segK (b := b) (lo := s.ctr) (R := fun v s' => Row s'.mem s.ctr [.int .i64 t, lstV n, lstV sy, lstV []] ∧ ∀ k, k ≠ s.ctr + 1 + 3 → s'.mem.get k = mA.get k) (Ok.mono (Ok.storeCellK (s := ⟨mA, cA, []⟩) (b := b) (lo := s.ctr) (o := 3) (v := lstV []) (by kernel_rfl) rfl pA (by simp) rfl (Nat.le_refl _)) (fun v s' h => ⟨⟨h.2.2.1, h.2.2.2.1⟩, h.2.2.2.2⟩)) ?_
  rintro v mB cB gB ⟨pB, fB⟩ kB wB
  have kB := kA.trans kB
  refine Ok.gdL (by simp [freeL, show Nat.testBit 16383 1 = true from rfl, show Nat.testBit 16383 2 = true from rfl, show Nat.testBit 16383 4 = true from rfl, show Nat.testBit 16383 5 = true from rfl, show Nat.testBit 16383 7 = true from rfl, show Nat.testBit 16383 8 = true from rfl, show Nat.testBit 16383 10 = true from rfl, show Nat.testBit 16383 12 = true from rfl]) ?_
  have qB : Row mB s1.ctr [.int .i64 0, .slice none 0 0, .slice none 0 0, .slice none 0 0] := q8.congr fun j j1 j2 => by
    simp only at fB fA f9
    rw [fB j (by omega), fA j (by omega), f9 j (by omega)]
  refine Ok.callP (Ok.load1 (b := s.ctr) (o := 3) t32 (pB.cell 3 rfl)) ?_
  rintro v sC ⟨rfl, mC, cC, lC⟩
  have rC : Reads ⟨mB, cB, gB ++ (gA ++ (g9 ++ (g8 ++ (s7.log))))⟩ sC := ⟨mC, cC, [⟨false, s.ctr + 1 + 3, 1⟩, ⟨false, s.ctr, 1⟩], lC, rfl⟩
  refine Ok.t rfl ?_
  simp only [show ∀ x, elems (lstV x) = x from fun _ => rfl]
  have pC : Row sC.mem s.ctr [.int .i64 t, lstV n, lstV sy, lstV []] := by rw [mC]; exact pB
  have qC : Row sC.mem s1.ctr [.int .i64 0, .slice none 0 0, .slice none 0 0, .slice none 0 0] := by rw [mC]; exact qB
  refine Ok.step (fun f => p167_3_eq f s.ctr 0 s1.ctr 0 _ 0) ?_
  refine Ok.f rfl ?_
  refine Ok.callP (Ok.loadA (b := s.ctr) (o := 0) (n := 4) (by kernel_rfl) (by kernel_rfl) rfl ?_ (show CellsAt sC.mem s.ctr (s.ctr + 1 + 0) _ from pC.2)) ?_
  · obtain ⟨el, ex, z, sy', hf⟩ := pC.1
    exact ⟨_, hf⟩
  rintro v sD ⟨rfl, mD, cD, lD⟩
  have rD : Reads sC sD := ⟨mD, cD, [⟨false, s.ctr + 1 + 0, 4⟩, ⟨false, s.ctr, 1⟩], lD, rfl⟩
  refine Ok.t rfl ?_
  have qD : Row sD.mem s1.ctr [.int .i64 0, .slice none 0 0, .slice none 0 0, .slice none 0 0] := by rw [mD]; exact qC
  refine Ok.callP (Ok.storeRowK (b := b) (lo := s.ctr) (n := 4) (ws := [.int .i64 t, lstV n, lstV sy, lstV []]) (by kernel_rfl) qD rfl rfl rfl (by omega)) ?_
  rintro v sE ⟨rfl, cE, qE, fE, kE⟩
  refine Ok.call (Ok.loadA (b := s1.ctr) (o := 0) (n := 4) (by kernel_rfl) (by kernel_rfl) rfl ?_ (show CellsAt sE.mem s1.ctr (s1.ctr + 1 + 0) _ from qE.2)) ?_
  · obtain ⟨el, ex, z, sy', hf⟩ := qE.1
    exact ⟨_, hf⟩
  rintro v sF ⟨rfl, mF, cF, lF⟩
  have rF : Reads sE sF := ⟨mF, cF, [⟨false, s1.ctr + 1 + 0, 4⟩, ⟨false, s1.ctr, 1⟩], lF, rfl⟩
  simp only [frz34]
  exact Ok.ret ⟨rfl, (kB.trans ((rC.trans rD).kq b s.ctr)).trans (kE.trans (rF.kq b s.ctr))⟩
end Go.Proofs.YtpljgnjdlciicaaGreatDoor
namespace Go.Ev
open Go
theorem CellsAt.left {m : Tr Slot} {b : Nat} : ∀ {xs ys : List Value} {k : Nat}, CellsAt m b k (xs ++ ys) → CellsAt m b k xs
  | [], _, _, _ => trivial
  | _ :: _, _, _, h => ⟨h.1, CellsAt.left h.2⟩
theorem Ok.const {p : Nat → Prog} {s : St} {v : Value} (h : ∀ f, p f = .ret v) : Ok p s (fun w s' => w = v ∧ s' = s) := ⟨v, s, ⟨rfl, rfl⟩, 0, fun f _ => by rw [h f]; rfl⟩
end Go.Ev
namespace Go.Proofs.YtpljgnjdlciicaaGreatDoor
open Go Go.Ev Go.Proofs
inductive Nd : Value → Prop
  | mk {k a t : Int} {tx : ByteArray} {n sy vl ss l : List Value} (h : ∀ x, x ∈ l → Nd x) (hl : l.length ≤ 100000) (hk : k = 7 → l.length = 3) : Nd (.agg ⟨[.int .i64 k, .int .i64 a, .string tx, .int .i64 t, lstV n, lstV sy, lstV vl, lstV ss, lstV l]⟩)
def LV (v : Value) (l : List Value) : Prop := v = lstV l ∨ v = xlstV l ∨ (v = .slice none 0 0 ∧ l = [])
theorem LV.l (l : List Value) : LV (lstV l) l := .inl rfl
theorem LV.x (l : List Value) : LV (xlstV l) l := .inr (.inl rfl)
theorem LV.n : LV (.slice none 0 0) [] := .inr (.inr ⟨rfl, rfl⟩)
theorem LV.one {v : Value} {l : List Value} (h : LV v l) : oneC v = true := by rcases h with rfl | rfl | ⟨rfl, rfl⟩ <;> rfl
theorem LV.frz {v : Value} {l : List Value} (h : LV v l) (e : TypeId) (K : Value → Prog) : frzL En 20 e v K = K (lstV l) := by rcases h with rfl | rfl | ⟨rfl, rfl⟩ <;> rfl
def NbC (cs : List Value) : Prop := ∃ (k a t : Int) (tx : ByteArray) (a1 a2 a3 a4 a5 : Value) (l1 l2 l3 l4 l5 : List Value), cs = [.int .i64 k, .int .i64 a, .string tx, .int .i64 t, a1, a2, a3, a4, a5] ∧
  LV a1 l1 ∧ LV a2 l2 ∧ LV a3 l3 ∧ LV a4 l4 ∧ LV a5 l5 ∧ (∀ x, x ∈ l5 → Nd x) ∧ l5.length ≤ 100000 ∧ (k = 7 → l5.length = 3)
theorem frz36 (k a t : Int) (tx : ByteArray) (a1 a2 a3 a4 a5 : Value) (K : Value → Prog) : frzT En 36 (.agg ⟨[.int .i64 k, .int .i64 a, .string tx, .int .i64 t, a1, a2, a3, a4, a5]⟩) K =
    frzL En 20 2 a1 fun b1 => frzL En 20 9 a2 fun b2 => frzL En 20 34 a3 fun b3 => frzL En 20 9 a4 fun b4 => frzL En 20 36 a5 fun b5 => K (.agg ⟨[.int .i64 k, .int .i64 a, .string tx, .int .i64 t, b1, b2, b3, b4, b5]⟩) := by kernel_rfl
theorem Nd.cells {v : Value} (h : Nd v) : ∃ cs, v = .agg ⟨cs⟩ ∧ NbC cs ∧ cs.length = 9 := by
  cases h with
  | mk h hl hk => exact ⟨_, rfl, ⟨_, _, _, _, _, _, _, _, _, _, _, _, _, _, rfl, LV.l _, LV.l _, LV.l _, LV.l _, LV.l _, h, hl, hk⟩, rfl⟩
theorem NbC.len {cs : List Value} (h : NbC cs) : cs.length = 9 := by
  obtain ⟨k, a, t, tx, a1, a2, a3, a4, a5, l1, l2, l3, l4, l5, rfl, _⟩ := h
  rfl
theorem NbC.all {cs : List Value} (h : NbC cs) : cs.all oneC = true := by
  obtain ⟨k, a, t, tx, a1, a2, a3, a4, a5, l1, l2, l3, l4, l5, rfl, h1, h2, h3, h4, h5, _⟩ := h
  simp only [List.all_cons, h1.one, h2.one, h3.one, h4.one, h5.one]
  rfl
theorem NbC.nil : NbC [.int .i64 0, .int .i64 0, .string (mkStr []), .int .i64 0, .slice none 0 0, .slice none 0 0, .slice none 0 0, .slice none 0 0, .slice none 0 0] :=
  ⟨_, _, _, _, _, _, _, _, _, _, _, _, _, _, rfl, LV.n, LV.n, LV.n, LV.n, LV.n, (fun x h => by cases h), by simp, fun h => absurd h (by decide)⟩
theorem hdr_of {m : Tr Slot} {c : Nat} {vs : List Value} (h : Row m c vs) : ∃ hd, m.get c = some (.hdr hd) := by
  obtain ⟨el, ex, z, sy', hf⟩ := h.1
  exact ⟨_, hf⟩
theorem ret36 {s : St} {c : Nat} {cs : List Value} (h : Row s.mem c cs) (hn : NbC cs) : Ok (fun f => Prog.call (loadT En 36 c 0) fun v => frzT En 36 v fun w => Prog.ret w) s (fun v s' => Nd v ∧ Reads s s') := by
  refine Ok.call (Ok.loadA (n := 9) (vs := cs) (by kernel_rfl) (by kernel_rfl) hn.len (hdr_of h) (show CellsAt s.mem c (c + 1 + 0) cs from h.2)) ?_
  rintro v s1 ⟨rfl, m1, c1, l1⟩
  have r1 : Reads s s1 := ⟨m1, c1, [⟨false, c + 1 + 0, 9⟩, ⟨false, c, 1⟩], l1, rfl⟩
  obtain ⟨k, a, t, tx, a1, a2, a3, a4, a5, l1, l2, l3, l4, l5, rfl, h1, h2, h3, h4, h5, h6, h7, h8⟩ := hn
  simp only [frz36, h1.frz, h2.frz, h3.frz, h4.frz, h5.frz]
  exact Ok.ret ⟨.mk h6 h7 h8, r1⟩
theorem bs1 (k a t : Int) (tx : ByteArray) (a1 a2 a3 a4 a5 : Value) : buildSliceA En 23 1 [(0, .agg ⟨[.int .i64 k, .int .i64 a, .string tx, .int .i64 t, a1, a2, a3, a4, a5]⟩)] =
    frzL En 20 2 a1 fun b1 => frzL En 20 9 a2 fun b2 => frzL En 20 34 a3 fun b3 => frzL En 20 9 a4 fun b4 => frzL En 20 36 a5 fun b5 => .ret (xlstV [.agg ⟨[.int .i64 k, .int .i64 a, .string tx, .int .i64 t, b1, b2, b3, b4, b5]⟩]) := by kernel_rfl
theorem bs2 (k a t : Int) (tx : ByteArray) (a1 a2 a3 a4 a5 : Value) (k' a' t' : Int) (tx' : ByteArray) (l1 l2 l3 l4 l5 : List Value) : buildSliceA En 23 2 [(0, .agg ⟨[.int .i64 k', .int .i64 a', .string tx', .int .i64 t', lstV l1, lstV l2, lstV l3, lstV l4, lstV l5]⟩), (1, .agg ⟨[.int .i64 k, .int .i64 a, .string tx, .int .i64 t, a1, a2, a3, a4, a5]⟩)] =
    frzL En 20 2 a1 fun b1 => frzL En 20 9 a2 fun b2 => frzL En 20 34 a3 fun b3 => frzL En 20 9 a4 fun b4 => frzL En 20 36 a5 fun b5 =>
      .ret (xlstV [.agg ⟨[.int .i64 k', .int .i64 a', .string tx', .int .i64 t', lstV l1, lstV l2, lstV l3, lstV l4, lstV l5]⟩, .agg ⟨[.int .i64 k, .int .i64 a, .string tx, .int .i64 t, b1, b2, b3, b4, b5]⟩]) := by kernel_rfl
theorem bs3 (k a t : Int) (tx : ByteArray) (a1 a2 a3 a4 a5 : Value) (k' a' t' : Int) (tx' : ByteArray) (l1 l2 l3 l4 l5 : List Value) (k2 a2' t2 : Int) (tx2 : ByteArray) (m1 m2 m3 m4 m5 : List Value) :
    buildSliceA En 23 3 [(0, .agg ⟨[.int .i64 k', .int .i64 a', .string tx', .int .i64 t', lstV l1, lstV l2, lstV l3, lstV l4, lstV l5]⟩), (1, .agg ⟨[.int .i64 k2, .int .i64 a2', .string tx2, .int .i64 t2, lstV m1, lstV m2, lstV m3, lstV m4, lstV m5]⟩), (2, .agg ⟨[.int .i64 k, .int .i64 a, .string tx, .int .i64 t, a1, a2, a3, a4, a5]⟩)] =
    frzL En 20 2 a1 fun b1 => frzL En 20 9 a2 fun b2 => frzL En 20 34 a3 fun b3 => frzL En 20 9 a4 fun b4 => frzL En 20 36 a5 fun b5 =>
      .ret (xlstV [.agg ⟨[.int .i64 k', .int .i64 a', .string tx', .int .i64 t', lstV l1, lstV l2, lstV l3, lstV l4, lstV l5]⟩, .agg ⟨[.int .i64 k2, .int .i64 a2', .string tx2, .int .i64 t2, lstV m1, lstV m2, lstV m3, lstV m4, lstV m5]⟩, .agg ⟨[.int .i64 k, .int .i64 a, .string tx, .int .i64 t, b1, b2, b3, b4, b5]⟩]) := by kernel_rfl
def TmV (v : Value) : Prop := ∃ (k a t : Int) (tx : ByteArray) (n sy vl ss l : List Value) (vb : Bool), v = .agg ⟨[.int .i64 k, .int .i64 a, .string tx, .int .i64 t, lstV n, lstV sy, lstV vl, lstV ss, lstV l, .bool vb]⟩ ∧
  (∀ x, x ∈ l → Nd x) ∧ l.length ≤ 100000 ∧ (k = 7 → l.length = 3)
theorem hd_terms (l : List Value) (h : ∀ x, x ∈ l → TmV x) : hdOk 10 l = true := by
  cases l with
  | nil => rfl
  | cons x l =>
    obtain ⟨k, a, t, tx, n, sy, vl, ss, l', vb, rfl, _⟩ := h x (List.mem_cons_self ..)
    rfl
theorem hd_nodes (l : List Value) (h : ∀ x, x ∈ l → Nd x) : hdOk 9 l = true := by
  cases l with
  | nil => rfl
  | cons x l =>
    cases h x (List.mem_cons_self ..) with
    | mk => rfl
theorem wlen (ys : List Value) (y : Value) (h : ys.length ≤ 1000000) : IntKind.i64.wrap (Int.subNatNat (ys ++ [y]).length 1) = (ys.length : Int) := by
  have : Int.subNatNat (ys ++ [y]).length 1 = (ys.length : Int) := by
    rw [List.length_append, List.length_singleton, Int.subNatNat_of_le (by omega)]
    simp
  rw [this]
  exact wrap_in _ (by omega) (by omega)
theorem at_last (ys : List Value) (y : Value) : at_ (ys ++ [y]) ys.length = y := by simp [at_, List.getD]
theorem take_init (ys : List Value) (y : Value) : List.take (ys.length - 0) (ys ++ [y]) = ys := by simp
structure FI (b : Nat) (s0 s : St) (x3 x4 : Nat) : Prop where
  cs : ∃ cs, Row s.mem x3 cs ∧ NbC cs
  res : ∃ cs, Row s.mem x4 cs ∧ cs.length = 9
  le : s0.ctr ≤ x3 ∧ x3 + 10 ≤ x4 ∧ x4 + 10 ≤ s.ctr ∧ b + 8 ≤ s0.ctr
  kq : Kq b s0.ctr s0 s
theorem fold_end {b : Nat} {s0 s : St} {x3 x4 : Nat} (h : FI b s0 s x3 x4) : Ok (fun f => p98_1 f [] x3 0 x4 0) s (fun v s' => Nd v ∧ Kq b s0.ctr s0 s') := by
  obtain ⟨⟨cs, hc, hn⟩, ⟨ds, hd, hdl⟩, ⟨q1, q2, q3, q4⟩, hk⟩ := h
  refine Ok.step (fun f => p98_1_eq f [] x3 0 x4 0) ?_
  refine Ok.f rfl ?_
  refine Ok.callP (Ok.loadA (n := 9) (vs := cs) (by kernel_rfl) (by kernel_rfl) hn.len (hdr_of hc) (show CellsAt s.mem x3 (x3 + 1 + 0) cs from hc.2)) ?_
  rintro v s1 ⟨rfl, m1, c1, l1⟩
  have r1 : Reads s s1 := ⟨m1, c1, [⟨false, x3 + 1 + 0, 9⟩, ⟨false, x3, 1⟩], l1, rfl⟩
  have hn' := hn
  obtain ⟨k, a, t, tx, a1, a2, a3, a4, a5, l1, l2, l3, l4, l5, rfl, h1, h2, h3, h4, h5, h6, h7, h8⟩ := hn'
  refine Ok.t rfl ?_
  have hd1 : Row s1.mem x4 ds := by rw [m1]; exact hd
  refine Ok.callP (Ok.storeRowK (b := b) (lo := s0.ctr) (n := 9) (ws := [.int .i64 k, .int .i64 a, .string tx, .int .i64 t, a1, a2, a3, a4, a5]) (by kernel_rfl) hd1 hdl rfl hn.all (by omega)) ?_
  rintro v s2 ⟨rfl, c2, g2, f2, k2⟩
  exact Ok.mono (ret36 g2 hn) fun v s' ⟨hv, r⟩ => ⟨hv, ((hk.trans (r1.kq b _)).trans k2).trans (r.kq b _)⟩
end Go.Proofs.YtpljgnjdlciicaaGreatDoor
namespace Go.Proofs.YtpljgnjdlciicaaGreatDoor
open Go Go.Ev Go.Proofs
def slN : List (Option TypeId) := [none, none, none, none, some 2, some 9, some 34, some 9, some 36]
theorem slotsN : slots En 20 36 = slN := by kernel_rfl
theorem flat_nodes : ∀ (l : List Value), (∀ x, x ∈ l → Nd x) → AllC 9 l := fun l h x hx => by
  obtain ⟨cs, rfl, h1, h2⟩ := (h x hx).cells
  exact ⟨h2, h1.all⟩
theorem frzGo_nodes : ∀ (l : List Value) (k : List Value → Prog), (∀ x, x ∈ l → Nd x) → frzGo (frzL En 19) ((List.replicate l.length ()).flatMap fun _ => slN) (flatC l) k = k (flatC l)
  | [], _, _ => rfl
  | x :: l, k, h => by
    have hx := h x (List.mem_cons_self ..)
    have ih := fun cs => frzGo_nodes l (fun r => k (cs ++ r)) fun y hy => h y (List.mem_cons_of_mem _ hy)
    cases hx with
    | mk =>
      show frzGo (frzL En 19) (slN ++ (List.replicate l.length ()).flatMap fun _ => slN) (_ ++ flatC l) k = k (_ ++ flatC l)
      rw [← ih]
      rfl
theorem chunk_nodes : ∀ (l : List Value), (∀ x, x ∈ l → Nd x) → chunkC false 9 l.length (flatC l) = l
  | [], _ => rfl
  | x :: l, h => by
    have hx := h x (List.mem_cons_self ..)
    have ih := chunk_nodes l fun y hy => h y (List.mem_cons_of_mem _ hy)
    cases hx with
    | mk =>
      exact congrArg (List.cons _) ih
def LG (s : St) (lo : Nat) (v : Value) (l : List Value) : Prop := LV v l ∨ Grow s.mem lo s.ctr 36 9 (flatC l) v
theorem LG.one {s : St} {lo : Nat} {v : Value} {l : List Value} (h : LG s lo v l) : oneC v = true := by
  rcases h with h | h
  · exact h.one
  · exact h.one.1
theorem LG.mem {s s' : St} {lo : Nat} {v : Value} {l : List Value} (h : LG s lo v l) (hc : s.ctr ≤ s'.ctr) (e : ∀ j, lo ≤ j → j < s.ctr → s'.mem.get j = s.mem.get j) : LG s' lo v l := by
  rcases h with h | h
  · exact .inl h
  · exact .inr (h.congr hc e)
theorem LG.frz {s : St} {Q : Value → St → Prop} {lo : Nat} {v : Value} {l : List Value} {p : Nat → Value → Prog} (h : LG s lo v l) (hn : ∀ x, x ∈ l → Nd x)
    (hk : ∀ s', s'.ctr = s.ctr → (∀ b, Kq b lo s s') → (∀ ks, Own s.mem v ks → ∀ k, k ∉ ks → s'.mem.get k = s.mem.get k) → Ok (fun f => p f (lstV l)) s' Q) : Ok (fun f => Ev.frzL En 20 36 v (p f)) s Q := by
  rcases h with h | h
  · have e : ∀ f, Ev.frzL En 20 36 v (p f) = p f (lstV l) := fun f => h.frz 36 (p f)
    simp only [e]
    exact hk s rfl (fun _ => Kq.refl _ _ _) (fun _ _ _ _ => rfl)
  obtain ⟨m, c, lg⟩ := s
  have h' := h
  have hfl := (flat_nodes l hn).flat
  rcases h.2 with ⟨rfl, e⟩ | ⟨r, n, sy, olds, rfl, a2, _⟩
  · have h0 : l = [] := by
      rw [e] at hfl
      have := hfl.1
      simp only [List.length_nil] at this
      exact List.length_eq_zero_iff.1 (by omega)
    subst h0
    exact hk _ rfl (fun _ => Kq.refl _ _ _) (fun _ _ _ _ => rfl)
  · have hln : n = l.length := by
      have := hfl.1
      omega
    subst hln
    by_cases hz : l.length = 0
    · have h0 : l = [] := List.length_eq_zero_iff.1 hz
      subst h0
      exact hk _ rfl (fun _ => Kq.refl _ _ _) (fun _ _ _ _ => rfl)
    · obtain ⟨s', f1, f2, f3, f4⟩ := Grow.frzK (l := lg) h'
      have hb : Nat.beq l.length 0 = false := by
        cases hq : l.length with
        | zero => exact absurd hq hz
        | succ n => rfl
      have hs : En.size 36 = some 9 := by kernel_rfl
      have h1 : isOneT En 36 = false := by kernel_rfl
      have e2 : ∀ f, Ev.frzL En (19 + 1) 36 (.slice (some ⟨r, 0, none⟩) l.length (capOf l.length false)) (p f) = .frz r (l.length * 9) 0 fun vs => frzGo (frzL En 19) ((List.replicate l.length ()).flatMap fun _ => slN) vs fun vs => p f (lstV (chunkC false 9 l.length vs)) := by
        intro f
        unfold Ev.frzL
        simp only [hb, hs, Ev.opt, ck, slotsN, h1, Nat.mul_eq]
        rfl
      have e3 : ∀ f, Ev.frzL En 20 36 (.slice (some ⟨r, 0, none⟩) l.length (capOf l.length false)) (p f) = .frz r (l.length * 9) 0 fun vs => frzGo (frzL En 19) ((List.replicate l.length ()).flatMap fun _ => slN) vs fun vs => p f (lstV (chunkC false 9 l.length vs)) := e2
      simp only [e3]
      refine Ok.frzO f1 ?_
      simp only [frzGo_nodes l _ hn, chunk_nodes l hn]
      exact hk s' f2 f3 f4
section
variable {s : St} {b : Nat} {str : ByteArray} {ts : List Tok} {en i err : Int}
theorem within2_ok (cx : Cx str ts en) (h : PI s b str ts en i 0) (hi : i < ts.length) (g : Nat) (cs : List Value) (e : ByteArray) {lo : Nat} (hlo : lo ≤ s.ctr) (R0 R : St → Prop) (hR0 : ∀ s1 s2, R0 s1 → Kq b s1.ctr s1 s2 → R0 s2) (hR : ∀ s1 s2, R s1 → Kq b s1.ctr s1 s2 → R s2) (h01 : ∀ s, R0 s → R s) (h0 : R0 s)
    (hf : ∀ s1, PI s1 b str ts en (i + 1) 0 → R0 s1 → s.ctr ≤ s1.ctr → Ok (fun f => callF En (runP En f) g cs) s1 (fun v s2 => v = .tuple ⟨[]⟩ ∧ R s2 ∧ (∃ i2 err2, PI s2 b str ts en i2 err2 ∧ i + 1 ≤ i2) ∧ Kq b lo s1 s2)) :
    Ok (fun f => callF En (runP En f) 133 [.pointer (some ⟨b, 0, none⟩), .string e, .func (.func g) ⟨[]⟩ ⟨cs⟩]) s (fun v s' => v = .tuple ⟨[]⟩ ∧ R s' ∧ (∃ i' err', PI s' b str ts en i' err' ∧ i ≤ i' ∧ (err' = 0 → i < i')) ∧ Kq b lo s s') := by
  have t3 : scal En 3 = true := by kernel_rfl
  have hlw := h.low
  have hfw := cx.few
  obtain ⟨deep, bad, h1, h2, h3, h4⟩ := h
  refine Ok.step (fun f => f133_eq f b e g cs) ?_
  refine Ok.callP (Ok.load1 t3 h1.c4) ?_
  rintro v s1 ⟨rfl, m1, c1, l1⟩
  have r1 : Reads s s1 := ⟨m1, c1, [⟨false, b + 1 + 4, 1⟩, ⟨false, b, 1⟩], l1, rfl⟩
  have g1 := h1.reads r1
  refine Ok.t rfl ?_
  refine Ok.c (fun _ => ?_) (fun _ => ?_)
  · have p1 : PI s1 b str ts en i 0 := ⟨deep, bad, g1, h2, h3, h4⟩
    refine Ok.call (ihere_ok p1) ?_
    rintro v s2 ⟨rfl, r2⟩
    refine Ok.t rfl ?_
    refine Ok.call (ifail_ok (p1.reads r2) 151 _ (by decide) (cx.here i) s.ctr) ?_
    rintro v s3 ⟨rfl, ⟨err', p3, he⟩, k3⟩
    have k := ((r1.trans r2).kq b s.ctr).trans k3
    exact Ok.t rfl (Ok.ret ⟨rfl, h01 _ (hR0 s s3 h0 k), ⟨i, err', p3, Int.le_refl _, fun h => absurd h he⟩, k.weaken hlo⟩)
  · refine Ok.callP (Ok.load1 t3 g1.c4) ?_
    rintro v s2 ⟨rfl, m2, c2, l2⟩
    have r2 := r1.trans ⟨m2, c2, [⟨false, b + 1 + 4, 1⟩, ⟨false, b, 1⟩], l2, rfl⟩
    refine Ok.t rfl ?_
    refine Ok.callP ((h1.reads r2).set (o := 4) (v := .int .i64 (IntKind.wrap .i64 (deep + 1))) (deep' := IntKind.wrap .i64 (deep + 1)) (by kernel_rfl) rfl (by omega) rfl rfl) ?_
    rintro v s3 ⟨rfl, g3, c3, k3⟩
    refine Ok.callP (Ok.load1 t3 g3.c2) ?_
    rintro v s4 ⟨rfl, m4, c4, l4⟩
    have r4 : Reads s3 s4 := ⟨m4, c4, [⟨false, b + 1 + 2, 1⟩, ⟨false, b, 1⟩], l4, rfl⟩
    refine Ok.t rfl ?_
    simp only [intOf, wrap1 (i := i) (by omega)]
    refine Ok.callP ((g3.reads r4).set (o := 2) (v := .int .i64 (i + 1)) (i' := i + 1) (by kernel_rfl) rfl (by omega) rfl rfl) ?_
    rintro v s5 ⟨rfl, g5, c5, k5⟩
    have k05 : ∀ lo, Kq b lo s s5 := fun lo => (((r2.kq b lo).trans (k3 lo)).trans (r4.kq b lo)).trans (k5 lo)
    have p5 : PI s5 b str ts en (i + 1) 0 := ⟨_, bad, g5, by omega, by omega, fun h => absurd rfl h⟩
    have R5 : R0 s5 := hR0 s s5 h0 (k05 _)
    refine Ok.call (hf s5 p5 R5 (k05 lo).ctr) ?_
    rintro v s6 ⟨rfl, R6, ⟨i2, err2, p6, hi2⟩, k6⟩
    refine Ok.t rfl ?_
    refine Ok.call (must_ok cx p6 e s6.ctr) ?_
    rintro v s7 ⟨rfl, ⟨i3, err3, p7, hi3, _, _⟩, k7⟩
    have R7 := hR s6 s7 R6 k7
    refine Ok.t rfl ?_
    obtain ⟨deep7, bad7, g7, u2, u3, u4⟩ := p7
    refine Ok.callP (Ok.load1 t3 g7.c4) ?_
    rintro v s8 ⟨rfl, m8, c8, l8⟩
    have r8 : Reads s7 s8 := ⟨m8, c8, [⟨false, b + 1 + 4, 1⟩, ⟨false, b, 1⟩], l8, rfl⟩
    refine Ok.t rfl ?_
    refine Ok.callP ((g7.reads r8).set (o := 4) (v := .int .i64 (IntKind.wrap .i64 (deep7 + -1))) (deep' := IntKind.wrap .i64 (deep7 + -1)) (by kernel_rfl) rfl (by omega) rfl rfl) ?_
    rintro v s9 ⟨rfl, g9, c9, k9⟩
    have k79 : ∀ lo, Kq b lo s7 s9 := fun lo => (r8.kq b lo).trans (k9 lo)
    have hc6 : lo ≤ s6.ctr := Nat.le_trans hlo (Nat.le_trans (k05 lo).ctr k6.ctr)
    exact Ok.ret ⟨rfl, hR s7 s9 R7 (k79 _), ⟨i3, err3, ⟨_, bad7, g9, u2, u3, u4⟩, by omega, fun _ => by omega⟩, (((k05 lo).trans k6).trans (k7.weaken hc6)).trans (k79 lo)⟩
theorem within_ok (cx : Cx str ts en) (h : PI s b str ts en i 0) (hi : i < ts.length) (g : Nat) (cs : List Value) (e : ByteArray) {lo : Nat} (hlo : lo ≤ s.ctr) (R : St → Prop) (hR : ∀ s1 s2, R s1 → Kq b s1.ctr s1 s2 → R s2) (h0 : R s)
    (hf : ∀ s1, PI s1 b str ts en (i + 1) 0 → R s1 → s.ctr ≤ s1.ctr → Ok (fun f => callF En (runP En f) g cs) s1 (fun v s2 => v = .tuple ⟨[]⟩ ∧ R s2 ∧ (∃ i2 err2, PI s2 b str ts en i2 err2 ∧ i + 1 ≤ i2) ∧ Kq b lo s1 s2)) :
    Ok (fun f => callF En (runP En f) 133 [.pointer (some ⟨b, 0, none⟩), .string e, .func (.func g) ⟨[]⟩ ⟨cs⟩]) s (fun v s' => v = .tuple ⟨[]⟩ ∧ R s' ∧ (∃ i' err', PI s' b str ts en i' err' ∧ i ≤ i' ∧ (err' = 0 → i < i')) ∧ Kq b lo s s') :=
  within2_ok cx h hi g cs e hlo R R hR hR (fun _ h => h) h0 hf
end
end Go.Proofs.YtpljgnjdlciicaaGreatDoor
namespace Go.Ev
open Go
theorem Ok.and {p : Nat → Prog} {s : St} {Q Q1 : Value → St → Prop} (h : Ok p s Q) (g : Ok p s Q1) : Ok p s (fun v s' => Q v s' ∧ Q1 v s') := by
  obtain ⟨v, s1, h1, f1, h2⟩ := h
  obtain ⟨w, s2, g1, f2, g2⟩ := g
  have e := (h2 (f1 + f2) (by omega)).symm.trans (g2 (f1 + f2) (by omega))
  simp only [Option.some.injEq, Prod.mk.injEq] at e
  obtain ⟨rfl, rfl⟩ := e
  exact ⟨v, s1, ⟨h1, g1⟩, f1, h2⟩
end Go.Ev
namespace Go.Proofs.YtpljgnjdlciicaaGreatDoor
open Go Go.Ev Go.Proofs
theorem flatC_app : ∀ (a b : List Value), flatC (a ++ b) = flatC a ++ flatC b
  | [], _ => rfl
  | x :: a, b => by rw [List.cons_append, flatC, flatC, flatC_app a b, List.append_assoc]
theorem Kq.low {lo : Nat} {s s' : St} (h : ∀ b, Kq b lo s s') (k : Nat) (hk : k < lo) : s'.mem.get k = s.mem.get k := (h (k + 1)).mem k hk (.inl (by omega))
theorem appN23 : AppT En 23 36 9 160 := ⟨by kernel_rfl, by kernel_rfl, by kernel_rfl, by kernel_rfl, by omega⟩
section
variable {b : Nat} {str : ByteArray} {ts : List Tok} {en : Int}
def ExprOK (b : Nat) (str : ByteArray) (ts : List Tok) (en : Int) (n : Int) : Prop := ∀ (s : St) (i : Int) (vb : Bool), PI s b str ts en i 0 → ts.length - i ≤ n →
  Ok (fun f => callF En (runP En f) 44 [.pointer (some ⟨b, 0, none⟩), .bool vb]) s (fun v s' => Nd v ∧ (∃ i' err', PI s' b str ts en i' err' ∧ i ≤ i') ∧ Kq b s.ctr s s')
def ListQ (b : Nat) (str : ByteArray) (ts : List Tok) (en i err : Int) (s : St) (v : Value) (s' : St) : Prop :=
  (∃ l, v = lstV l ∧ (∀ x, x ∈ l → Nd x) ∧ l.length ≤ 20000 ∧ (err = 0 → l ≠ [])) ∧ (∃ i' err', PI s' b str ts en i' err' ∧ i ≤ i') ∧ Kq b s.ctr s s'
def ListOK (b : Nat) (str : ByteArray) (ts : List Tok) (en : Int) (n : Int) : Prop := ∀ (s : St) (i err : Int) (e : ByteArray) (x y : Bool), PI s b str ts en i err → (err = 0 → ts.length - i ≤ n) →
  Ok (fun f => callF En (runP En f) 21 [.pointer (some ⟨b, 0, none⟩), .string e, .agg ⟨[.bool x, .bool y]⟩]) s (ListQ b str ts en i err s)
structure LI (b : Nat) (str : ByteArray) (ts : List Tok) (en : Int) (s0 : St) (i0 : Int) (s : St) (c : Nat) (i err : Int) (v : Value) (l : List Value) : Prop where
  pi : PI s b str ts en i err
  row : ∃ x y, Row s.mem c [.bool x, .bool y]
  le : s0.ctr ≤ c ∧ c + 3 ≤ s.ctr ∧ b + 8 ≤ s0.ctr
  gr : Grow s.mem (c + 3) s.ctr 36 9 (flatC l) v
  nd : ∀ x, x ∈ l → Nd x
  kq : Kq b s0.ctr s0 s
  i0 : 0 ≤ i0
theorem LI.go {s0 s s' : St} {i0 i i' err err' : Int} {c : Nat} {v : Value} {l : List Value} (h : LI b str ts en s0 i0 s c i err v l) (p : PI s' b str ts en i' err') (k : Kq b s.ctr s s') : LI b str ts en s0 i0 s' c i' err' v l := by
  obtain ⟨h1, ⟨x, y, h2⟩, ⟨q1, q2, q3⟩, h4, h5, h6, h7⟩ := h
  refine ⟨p, ⟨x, y, h2.congr fun j j1 j2 => k.mem j (by simp only [List.length_cons, List.length_nil] at j2; omega) (.inr (by omega))⟩, ⟨q1, by have := k.ctr; omega, q3⟩, h4.congr k.ctr fun j j1 j2 => k.mem j j2 (.inr (by omega)), h5, h6.trans (k.weaken (by omega)), h7⟩
theorem LI.app {s0 s : St} {i0 i err : Int} {c : Nat} {v x : Value} {l : List Value} (h : LI b str ts en s0 i0 s c i err v l) (hx : Nd x) (hl : l.length ≤ 20000) {Q : Value → St → Prop} {k : Nat → Value → Prog}
    (hk : ∀ w s', LI b str ts en s0 i0 s' c i err w (l ++ [x]) → Ok (fun f => k f w) s' Q) : Ok (fun f => callP (k f) (builtinA En Builtin.append (23 :: (23 :: [])) (v :: (xlstV (x :: []) :: [])))) s Q := by
  obtain ⟨h1, ⟨x', y', h2⟩, ⟨q1, q2, q3⟩, h4, h5, h6, h7⟩ := h
  obtain ⟨cs, rfl, c1, c2⟩ := hx.cells
  have hfl := (flat_nodes l h5).flat.1
  refine Ok.callP (Ok.and (Ok.appK b appN23 h4 (by exact c2) c1.all q2 (by rw [hfl]; omega)) (Ok.app appN23 h4 (by exact c2) c1.all q2 (by rw [hfl]; omega))) ?_
  rintro w s1 ⟨⟨g, kk⟩, _, _, low⟩
  have hf : flatC (l ++ [.agg ⟨cs⟩]) = flatC l ++ cellsL (.agg ⟨cs⟩) := by rw [flatC_app]; simp [flatC]
  refine hk w s1 ⟨h1.mem kk.ctr fun j hj => low j (by omega), ⟨x', y', h2.congr fun j j1 j2 => kk.mem j (by simp only [List.length_cons, List.length_nil] at j2; omega) (.inr (by omega))⟩, ⟨q1, by have := kk.ctr; omega, q3⟩, by rw [hf]; exact g, fun z hz => ?_, h6.trans (kk.weaken (by omega)), h7⟩
  rcases List.mem_append.1 hz with hz | hz
  · exact h5 z hz
  · simp only [List.mem_singleton] at hz
    subst hz
    exact hx
variable {s0 s : St} {i0 i err err0 : Int} {x0 x5 : Nat} {x6 : Value} {x1 : ByteArray} {l : List Value}
def NextOK (b : Nat) (str : ByteArray) (ts : List Tok) (en : Int) (s0 : St) (i0 err0 : Int) (x1 : ByteArray) (x5 : Nat) (i : Int) (n : Nat) : Prop := ∀ (s : St) (i' err : Int) (v : Value) (l : List Value), LI b str ts en s0 i0 s x5 i' err v l → i ≤ i' → l.length = n → l ≠ [] → Ok (fun f => p21_6 f b x1 x5 0 v) s (ListQ b str ts en i0 err0 s0)
theorem list_exp {n : Int} (hx : ExprOK b str ts en n) (h : LI b str ts en s0 i0 s x5 i 0 x6 l) (hn : ts.length - i ≤ n) (hl : l.length ≤ 19000) (hk : NextOK b str ts en s0 i0 err0 x1 x5 i (l.length + 1)) :
    Ok (fun f => (callP (fun v53 => (cnd (Prog.call (callF En (runP En f) 44 [(Value.pointer (Option.some (Addr.mk b 0 Option.none))), (Value.bool (boolOf v53))]) fun v54 => (cnd (callP (fun v55 => (p21_6 f b x1 x5 0 v55)) (builtinA En Builtin.append (23 :: (23 :: [])) (x6 :: ((xlstV ((Value.agg ⟨((Value.int IntKind.i64 (intOf (at_ (aggOf v54) 0))) :: ((Value.int IntKind.i64 (intOf (at_ (aggOf v54) 1))) :: ((Value.string (strOf (at_ (aggOf v54) 2))) :: ((Value.int IntKind.i64 (intOf (at_ (aggOf v54) 3))) :: ((lstV (elems (at_ (aggOf v54) 4))) :: ((lstV (elems (at_ (aggOf v54) 5))) :: ((lstV (elems (at_ (aggOf v54) 6))) :: ((lstV (elems (at_ (aggOf v54) 7))) :: ((lstV (elems (at_ (aggOf v54) 8))) :: [])))))))))⟩) :: [])) :: [])))) Prog.fail ((isAggV v54) && (okKs ((Kd.int IntKind.i64) :: ((Kd.int IntKind.i64) :: (Kd.str :: ((Kd.int IntKind.i64) :: (Kd.lst :: (Kd.lst :: (Kd.lst :: (Kd.lst :: (Kd.lst :: []))))))))) (aggOf v54))))) Prog.fail (okK Kd.bool v53))) (loadT En 4 x5 (0 + 1)))) s (ListQ b str ts en i0 err0 s0) := by
  obtain ⟨x, y, hr⟩ := h.row
  refine Ok.callP (Ok.load1 (b := x5) (o := 1) (by kernel_rfl) (hr.cell 1 rfl)) ?_
  rintro v s1 ⟨rfl, m1, c1, l1⟩
  have r1 : Reads s s1 := ⟨m1, c1, [⟨false, x5 + 1 + 1, 1⟩, ⟨false, x5, 1⟩], l1, rfl⟩
  have h1 := h.go (h.pi.reads r1) (r1.kq b _)
  refine Ok.t rfl ?_
  refine Ok.call (hx s1 i y h1.pi hn) ?_
  rintro v s2 ⟨hv, ⟨i', err', p2, hi⟩, k2⟩
  have h2 := h1.go p2 k2
  have hv' := hv
  cases hv with
  | mk =>
    refine Ok.t rfl ?_
    exact h2.app hv' (by omega) fun w s3 h3 => hk s3 i' err' w _ h3 hi (by simp) (by simp)
theorem list_nil (h : LI b str ts en s0 i0 s x5 i err x6 l) (hl : l.length ≤ 19000) (hk : NextOK b str ts en s0 i0 err0 x1 x5 i (l.length + 1)) :
    Ok (fun f => (Prog.call (callF En (runP En f) 41 [(Value.pointer (Option.some (Addr.mk b 0 Option.none)))]) fun v51 => (cnd (gd Bool.true (callP (fun v52 => (p21_6 f b x1 x5 0 v52)) (builtinA En Builtin.append (23 :: (23 :: [])) (x6 :: ((xlstV ((Value.agg ⟨((Value.int IntKind.i64 (12 : Int)) :: ((Value.int IntKind.i64 (intOf v51)) :: ((Value.string (mkStr [])) :: ((Value.int IntKind.i64 (0 : Int)) :: ((lstV []) :: ((lstV []) :: ((lstV []) :: ((lstV []) :: ((lstV []) :: [])))))))))⟩) :: [])) :: []))))) Prog.fail (okK (Kd.int IntKind.i64) v51)))) s (ListQ b str ts en i0 err0 s0) := by
  refine Ok.call (ihere_ok h.pi) ?_
  rintro v s1 ⟨rfl, r1⟩
  have h1 := h.go (h.pi.reads r1) (r1.kq b _)
  refine Ok.t rfl (Ok.g rfl ?_)
  exact h1.app (.mk (fun x hx => by cases hx) (by simp) (fun h => absurd h (by decide))) (by omega) fun w s3 h3 => hk s3 i err w _ h3 (Int.le_refl _) (by simp) (by simp)
end
end Go.Proofs.YtpljgnjdlciicaaGreatDoor
