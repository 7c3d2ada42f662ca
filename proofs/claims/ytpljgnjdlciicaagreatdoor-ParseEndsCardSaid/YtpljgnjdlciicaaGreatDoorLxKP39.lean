import Derived.Test.YtpljgnjdlciicaaGreatDoorLxKP38
import Derived.Test.YtpljgnjdlciicaaGreatDoorLxKP36
namespace Go.Proofs.YtpljgnjdlciicaaGreatDoor
open Go Go.Ev Go.Proofs
section
variable {b : Nat} {str : ByteArray} {ts : List Tok} {en : Int} {s0 s : St} {i0 i err err0 : Int} {x5 : Nat} {v : Value} {x1 : ByteArray} {l : List Value}
theorem list_end (h : LI b str ts en s0 i0 s x5 i err v l) (hne : err0 = 0 → l ≠ []) (hl : l.length ≤ 20000) (hi : i0 ≤ i) : Ok (fun f => p21_8 f v) s (ListQ b str ts en i0 err0 s0) := by
  refine Ok.step (fun f => p21_8_eq f v) ?_
  refine LG.frz (.inr h.gr) h.nd fun s' e k _ => ?_
  obtain ⟨q1, q2, q3⟩ := h.le
  exact Ok.ret ⟨⟨l, rfl, h.nd, hl, hne⟩, ⟨i, err, h.pi.mem (by omega) fun j hj => Kq.low k j (by omega), hi⟩, h.kq.trans ((k b).weaken (by omega))⟩
theorem list_head {n : Int} (cx : Cx str ts en) (hx : ExprOK b str ts en n) : ∀ (m : Nat) (s : St) (i err : Int) (v : Value) (l : List Value), ts.length - i < m → LI b str ts en s0 i0 s x5 i err v l → (l.length : Int) ≤ i - i0 → (err0 = 0 → l ≠ [] ∨ err = 0) →
    (err = 0 → ts.length - i ≤ n) → Ok (fun f => p21_1 f b x1 x5 0 v) s (ListQ b str ts en i0 err0 s0) := by
  have t3 : scal En 3 = true := by kernel_rfl
  have t4 : scal En 4 = true := by kernel_rfl
  have t42 : scal En 42 = true := by kernel_rfl
  have hf := cx.few
  intro m
  induction m with
  | zero =>
    intro s i err v l hm h
    have := h.pi.low
    omega
  | succ m IH =>
    intro s i err v l hm h hl hne hn
    have hlow := h.pi.low
    have h0 := h.i0
    refine Ok.step (fun f => p21_1_eq f b x1 x5 0 v) ?_
    refine Ok.call (isound_ok h.pi) ?_
    rintro w s1 ⟨rfl, r1⟩
    have h1 := h.go (h.pi.reads r1) (r1.kq b _)
    refine Ok.t rfl ?_
    refine Ok.c (fun hs => ?_) (fun hs => ?_)
    · have hs : err = 0 := by simpa [boolOf] using hs
      subst hs
      have hn := hn rfl
      have hnx : NextOK b str ts en s0 i0 err0 x1 x5 i (l.length + 1) := by
        intro s i' err' v' l' h hii hl' hne'
        have hlow' := h.pi.low
        refine Ok.step (fun f => p21_6_eq f b x1 x5 0 v') ?_
        refine Ok.call (isound_ok h.pi) ?_
        rintro w s1 ⟨rfl, r1⟩
        have h1 := h.go (h.pi.reads r1) (r1.kq b _)
        refine Ok.t rfl ?_
        refine Ok.c (fun _ => list_end h1 (fun _ => hne') (by omega) (by omega)) (fun hs => ?_)
        refine Ok.call (imark_ok cx h1.pi _) ?_
        rintro w s2 ⟨⟨r, rfl, hr⟩, r2⟩
        have h2 := h1.go (h1.pi.reads r2) (r2.kq b _)
        refine Ok.t rfl ?_
        refine Ok.c (fun _ => list_end h2 (fun _ => hne') (by omega) (by omega)) (fun hm2 => ?_)
        have hlt : i' < ts.length := hr (by simpa [boolOf] using hm2)
        refine Ok.callP (Ok.load1 t3 h2.pi.c2) ?_
        rintro w s3 ⟨rfl, m3, c3, l3⟩
        have r3 : Reads s2 s3 := ⟨m3, c3, [⟨false, b + 1 + 2, 1⟩, ⟨false, b, 1⟩], l3, rfl⟩
        have h3 := h2.go (h2.pi.reads r3) (r3.kq b _)
        refine Ok.t rfl ?_
        simp only [intOf, wrap1 (i := i') (by omega)]
        refine Ok.callP (h3.pi.inc hlt) ?_
        rintro w s4 ⟨rfl, p4, _, k4⟩
        have h4 := h3.go p4 (k4 _)
        exact IH s4 (i' + 1) err' v' l' (by omega) h4 (by omega) (fun _ => .inl hne') (fun _ => by omega)
      have EXP : ∀ {s : St}, LI b str ts en s0 i0 s x5 i 0 v l → _ := fun {s} h => list_exp (err0 := err0) (x1 := x1) hx h hn (by omega) hnx
      have NIL : ∀ {s : St}, LI b str ts en s0 i0 s x5 i 0 v l → _ := fun {s} h => list_nil (err0 := err0) (x1 := x1) h (by omega) hnx
      have go : ∀ (x : ByteArray) {s' : St}, LI b str ts en s0 i0 s' x5 i 0 v l → Ok (fun f => callF En (runP En f) 43 [.pointer (some ⟨b, 0, none⟩), .string x]) ⟨s'.mem, s'.ctr, []⟩ (fun v s1 => (∃ r, v = .bool r) ∧ Reads ⟨s'.mem, s'.ctr, []⟩ s1) := by
        intro x s' h
        have h' : PI ⟨s'.mem, s'.ctr, []⟩ b str ts en i 0 := h.pi
        exact Ok.mono (imark_ok cx h' x) fun v s1 ⟨⟨r, e, _⟩, h⟩ => ⟨⟨r, e⟩, h⟩
      have both : ∀ {s : St}, LI b str ts en s0 i0 s x5 i 0 v l → ∀ {k : Nat → Value → Prog}, (∀ {s : St} (x : Bool), LI b str ts en s0 i0 s x5 i 0 v l → Ok (fun f => k f (.bool x)) s (ListQ b str ts en i0 err0 s0)) → Ok (fun f => Ev.callP (k f) (loadT En 4 x5 (0 + 0))) s (ListQ b str ts en i0 err0 s0) := by
        intro s h k hk
        obtain ⟨x, y, hr⟩ := h.row
        refine Ok.callP (Ok.load1 (b := x5) (o := 0) t4 (hr.cell 0 rfl)) ?_
        rintro w s' ⟨rfl, m1, c1, l1⟩
        have r1 : Reads s s' := ⟨m1, c1, [⟨false, x5 + 1 + 0, 1⟩, ⟨false, x5, 1⟩], l1, rfl⟩
        exact hk x (h.go (h.pi.reads r1) (r1.kq b _))
      refine segReads (R := fun v => ∃ r, v = .bool r) (go _ h1) ?_
      rintro w s2 g2 ⟨r, rfl⟩ r2 w2
      have h2 := h1.go (h1.pi.reads r2) (r2.kq b _)
      refine Ok.t rfl ?_
      refine Ok.c (fun _ => both h2 fun x h3 => Ok.t rfl (Ok.c (fun _ => NIL h3) (fun _ => EXP h3))) (fun _ => ?_)
      refine segReads (R := fun v => ∃ r, v = .bool r) (go _ h2) ?_
      rintro w s3 g3 ⟨r, rfl⟩ r3 w3
      have h3 := h2.go (h2.pi.reads r3) (r3.kq b _)
      refine Ok.gdL (freeL_reads _ _ w3 _ fun d hd => by simp only [List.mem_cons, List.not_mem_nil, or_false] at hd; rcases hd with rfl; exact w2) (Ok.t rfl ?_)
      refine Ok.c (fun _ => both h3 fun x h4 => Ok.t rfl (Ok.c (fun _ => NIL h4) (fun _ => EXP h4))) (fun _ => ?_)
      refine Ok.c (fun _ => ?_) (fun _ => both h3 fun x h4 => Ok.t rfl (Ok.c (fun _ => EXP h4) (fun _ => EXP h4)))
      refine Ok.segLoad t3 h3.pi.c2 fun s4 r4 => ?_
      have h4 := h3.go (h3.pi.reads r4) (r4.kq b _)
      refine Ok.gdL (freeL_reads _ _ rfl _ fun d hd => by simp only [List.mem_cons, List.not_mem_nil, or_false] at hd; rcases hd with rfl | rfl <;> assumption) (Ok.t rfl ?_)
      refine Ok.segLoad t42 h4.pi.c1 fun s5 r5 => ?_
      have h5 := h4.go (h4.pi.reads r5) (r5.kq b _)
      refine Ok.gdL (freeL_reads _ _ rfl _ fun d hd => by simp only [List.mem_cons, List.not_mem_nil, or_false] at hd; rcases hd with rfl | rfl | rfl <;> first | rfl | assumption) (Ok.t rfl ?_)
      simp only [show ∀ x, elems (lstV x) = x from fun _ => rfl, lenL42]
      refine Ok.segRet fun s6 r6 => ?_
      have h6 := h5.go (h5.pi.reads r6) (r6.kq b _)
      refine Ok.gdL (freeL_reads _ _ rfl _ fun d hd => by simp only [List.mem_cons, List.not_mem_nil, or_false] at hd; rcases hd with rfl | rfl | rfl | rfl <;> first | rfl | assumption) (Ok.t rfl ?_)
      refine both h6 fun x h7 => Ok.t rfl (Ok.c (fun _ => Ok.c (fun _ => NIL h7) (fun _ => EXP h7)) (fun _ => EXP h7))
    · have hs : err ≠ 0 := by simpa [boolOf] using hs
      exact list_end h1 (fun e => (hne e).resolve_right hs) (by omega) (by omega)
theorem list_ok {n : Int} (cx : Cx str ts en) (hx : ExprOK b str ts en n) : ListOK b str ts en n := by
  intro s i err e x y h hn
  have hlow := h.low
  have hc := h.ctr
  refine Ok.step (fun f => f21_eq f b e x y) ?_
  refine Ok.g rfl ?_
  refine Ok.callP (Ok.and (Ok.newK (b := b) rfl (Nat.le_refl s.ctr)) (Ok.new rfl)) ?_
  rintro v s1 ⟨⟨rfl, e1, g1, m1, k1⟩, _⟩
  refine Ok.t rfl ?_
  simp only [blk_itP, off_itP]
  exact list_head cx hx (ts.length + 1) s1 i err (.slice none 0 0) [] (by omega) ⟨h.mem (by omega) fun k hk => m1 k (by omega), ⟨x, y, g1⟩, ⟨Nat.le_refl _, by omega, hc⟩, Grow.nil _ _ _ _ _, (fun x hx => by cases hx), k1, hlow.1⟩ (by simp) (fun e => .inr e) hn
end
end Go.Proofs.YtpljgnjdlciicaaGreatDoor
namespace Go.Proofs.YtpljgnjdlciicaaGreatDoor
open Go Go.Ev Go.Proofs
theorem blk_p (b o : Nat) : blkOf (.pointer (some ⟨b, o, none⟩)) = b := rfl
theorem off_p (b o : Nat) : offOf (.pointer (some ⟨b, o, none⟩)) = o := rfl
structure BX (b c0 c1 : Nat) (s : St) : Prop where
  p : Row s.mem c0 [.pointer (some ⟨b, 0, none⟩)]
  n : ∃ cs, Row s.mem c1 cs ∧ NbC cs
  le : b + 8 ≤ c0 ∧ c0 + 2 ≤ c1 ∧ c1 + 10 ≤ s.ctr
theorem BX.kq {b c0 c1 : Nat} {s s' : St} (h : BX b c0 c1 s) (k : Kq b s.ctr s s') : BX b c0 c1 s' := by
  obtain ⟨h1, ⟨cs, h2, h3⟩, q1, q2, q3⟩ := h
  have hl := h3.len
  exact ⟨h1.congr fun j j1 j2 => k.mem j (by simp only [List.length_cons, List.length_nil] at j2; omega) (.inr (by omega)), ⟨cs, h2.congr fun j j1 j2 => k.mem j (by omega) (.inr (by omega)), h3⟩, q1, q2, by have := k.ctr; omega⟩
section
variable {s : St} {b c0 c1 : Nat} {str : ByteArray} {ts : List Tok} {en i err : Int}
theorem Ok.ptr {Q : Value → St → Prop} {k : Nat → Value → Prog} (h : Row s.mem c0 [.pointer (some ⟨b, 0, none⟩)]) (hk : ∀ s', Reads s s' → Ok (fun f => k f (.pointer (some ⟨b, 0, none⟩))) s' Q) : Ok (fun f => callP (k f) (loadT En 54 c0 0)) s Q := by
  refine Ok.callP (Ok.load1 (b := c0) (o := 0) (by kernel_rfl) (h.cell 0 rfl)) ?_
  rintro v s1 ⟨rfl, m1, c1, l1⟩
  exact hk s1 ⟨m1, c1, [⟨false, c0 + 1 + 0, 1⟩, ⟨false, c0, 1⟩], l1, rfl⟩
theorem BX.set (h : BX b c0 c1 s) {lo : Nat} (hlo : lo ≤ c1) {ws : List Value} (hw : NbC ws) {Q : Value → St → Prop} {k : Nat → Value → Prog} (p : PI s b str ts en i err)
    (hk : ∀ s', BX b c0 c1 s' → Row s'.mem c1 ws → PI s' b str ts en i err → Kq b lo s s' → s'.ctr = s.ctr → Ok (fun f => k f U) s' Q) : Ok (fun f => callP (k f) (storeT En 36 c1 0 (.agg ⟨ws⟩))) s Q := by
  obtain ⟨h1, ⟨cs, h2, h3⟩, q1, q2, q3⟩ := h
  refine Ok.callP (Ok.storeRowK (b := b) (lo := lo) (n := 9) (by kernel_rfl) h2 h3.len hw.len hw.all hlo) ?_
  rintro v s' ⟨rfl, e1, e2, e3, e4⟩
  exact hk s' ⟨h1.congr fun j j1 j2 => e3 j (by simp only [List.length_cons, List.length_nil] at j2; omega), ⟨ws, e2, hw⟩, q1, q2, by omega⟩ e2 (p.mem (by omega) fun j hj => e3 j (by omega)) e4 e1
def PrimQ (b : Nat) (str : ByteArray) (ts : List Tok) (en i : Int) (s : St) (v : Value) (s' : St) : Prop :=
  Nd v ∧ (∃ i' err', PI s' b str ts en i' err' ∧ i ≤ i' ∧ (err' = 0 → i < i')) ∧ Kq b s.ctr s s'
theorem round1_ok {n : Int} (cx : Cx str ts en) (hL : ListOK b str ts en n) (h : BX b c0 c1 s) (p : PI s b str ts en i 0) (hn : ts.length - i ≤ n) {lo : Nat} (hlo : lo ≤ c1) :
    Ok (fun f => callF En (runP En f) 210 [.pointer (some ⟨c0, 0, none⟩), .pointer (some ⟨c1, 0, none⟩)]) s (fun v s' => v = .tuple ⟨[]⟩ ∧ BX b c0 c1 s' ∧ (∃ i' err', PI s' b str ts en i' err' ∧ i ≤ i') ∧ Kq b lo s s') := by
  have hle := h.le
  refine Ok.step (fun f => f210_eq f c0 0 c1 0) ?_
  refine Ok.ptr h.p fun s1 r1 => ?_
  have h1 := h.kq (r1.kq b _)
  have p1 := p.reads r1
  refine Ok.t rfl ?_
  simp only [blk_p, off_p, Nat.add_zero]
  refine Ok.call (imark_ok cx p1 _) ?_
  rintro v s2 ⟨⟨r, rfl, hr⟩, r2⟩
  have h2 := h1.kq (r2.kq b _)
  have p2 := p1.reads r2
  have k2 := (r1.trans r2).kq b lo
  refine Ok.t rfl ?_
  refine Ok.c (fun _ => ?_) (fun _ => ?_)
  · refine Ok.g rfl ?_
    refine h2.set hlo ⟨_, _, _, _, _, _, _, _, _, _, _, _, _, _, rfl, LV.n, LV.n, LV.n, LV.n, LV.n, (fun x h => by cases h), by simp, fun h => absurd h (by decide)⟩ p2 fun s3 h3 _ p3 k3 _ => ?_
    exact Ok.ret ⟨rfl, h3, ⟨i, 0, p3, Int.le_refl _⟩, k2.trans k3⟩
  · refine Ok.ptr h2.p fun s3 r3 => ?_
    have h3 := h2.kq (r3.kq b _)
    have p3 := p2.reads r3
    have k3 := k2.trans (r3.kq b lo)
    refine Ok.t rfl (Ok.g rfl ?_)
    simp only [blk_p, off_p]
    refine Ok.call (hL s3 i 0 _ false true p3 fun _ => hn) ?_
    rintro v s4 ⟨⟨l, rfl, l1, l2, l3⟩, ⟨i', err', p4, hi⟩, k4⟩
    have h4 := h3.kq k4
    have k4 := k3.trans (k4.weaken (by have := h3.le; omega))
    refine Ok.t rfl ?_
    simp only [show ∀ x, elems (lstV x) = x from fun _ => rfl]
    refine Ok.c (fun hl => ?_) (fun _ => ?_)
    · have hl := of_decide_eq_true hl
      simp only [Int.ofNat_eq_natCast] at hl
      obtain ⟨x, rfl⟩ : ∃ x, l = [x] := by
        cases l with
        | nil => simp at hl
        | cons x l => cases l with
          | nil => exact ⟨x, rfl⟩
          | cons y l => simp at hl; omega
      have hx := l1 x (by simp)
      cases hx with
      | mk a1 a2 a3 =>
        refine Ok.t rfl (Ok.t rfl (Ok.t rfl ?_))
        refine h4.set hlo (ws := [.int .i64 _, .int .i64 _, .string _, .int .i64 _, lstV _, lstV _, lstV _, lstV _, lstV _]) ⟨_, _, _, _, _, _, _, _, _, _, _, _, _, _, rfl, LV.l _, LV.l _, LV.l _, LV.l _, LV.l _, a1, a2, a3⟩ p4 fun s5 h5 _ p5 k5 _ => ?_
        exact Ok.ret ⟨rfl, h5, ⟨i', err', p5, hi⟩, k4.trans k5⟩
    · refine Ok.g rfl ?_
      refine h4.set hlo ⟨_, _, _, _, _, _, _, _, _, _, _, _, _, _, rfl, LV.n, LV.n, LV.n, LV.n, LV.l l, l1, by omega, fun h => absurd h (by decide)⟩ p4 fun s5 h5 _ p5 k5 _ => ?_
      exact Ok.ret ⟨rfl, h5, ⟨i', err', p5, hi⟩, k4.trans k5⟩
theorem round_ok {n : Int} (cx : Cx str ts en) (hL : ListOK b str ts en n) (hT : ∀ s, PI s b str ts en i 0 → i + 1 < ts.length → Ok (fun f => callF En (runP En f) 209 [.pointer (some ⟨b, 0, none⟩)]) s (PrimQ b str ts en i s))
    (p : PI s b str ts en i 0) (hi : i < ts.length) (hn : ts.length - (i + 1) ≤ n) : Ok (fun f => callF En (runP En f) 168 [.pointer (some ⟨b, 0, none⟩)]) s (PrimQ b str ts en i s) := by
  have hc := p.ctr
  refine Ok.step (fun f => f168_eq f b) ?_
  refine Ok.g rfl ?_
  refine Ok.callP (Ok.newK (b := b) rfl (Nat.le_refl s.ctr)) ?_
  rintro v s1 ⟨rfl, e1, g1, m1, k1⟩
  refine Ok.t rfl ?_
  refine Ok.callP (Ok.newK (b := b) (lo := s.ctr) rfl (by omega)) ?_
  rintro v s2 ⟨rfl, e2, g2, m2, k2⟩
  have k2 := k1.trans k2
  refine Ok.t rfl ?_
  simp only [blk_itP, off_itP]
  have hX : BX b s.ctr s1.ctr s2 := ⟨g1.congr fun j _ hj => m2 j (by simp only [List.length_cons, List.length_nil] at hj; omega), ⟨_, g2, NbC.nil⟩, by omega, by omega, by omega⟩
  have p2 : PI s2 b str ts en i 0 := p.mem (by omega) fun j hj => by rw [m2 j (by omega), m1 j (by omega)]
  refine Ok.ptr hX.p fun s3 r3 => ?_
  refine Ok.t rfl ?_
  simp only [blk_p, off_p, Nat.add_zero]
  refine Ok.call (ihere_ok (p2.reads r3)) ?_
  rintro v s4 ⟨rfl, r4⟩
  have r4 := r3.trans r4
  refine Ok.t rfl ?_
  refine Ok.ptr (by rw [r4.1]; exact hX.p) fun s5 r5 => ?_
  have r5 := r4.trans r5
  refine Ok.t rfl ?_
  simp only [blk_p, off_p, Nat.add_zero]
  refine Ok.call (iahead_ok cx (p2.reads r5) 1 (by omega) _) ?_
  rintro v s6 ⟨⟨r, rfl, hr⟩, r6⟩
  have r6 := r5.trans r6
  have h6 := hX.kq (r6.kq b _)
  have p6 := p2.reads r6
  have k6 := k2.trans (r6.kq b s.ctr)
  refine Ok.t rfl ?_
  refine Ok.c (fun hb => ?_) (fun _ => ?_)
  · refine Ok.ptr h6.p fun s7 r7 => ?_
    refine Ok.t rfl ?_
    simp only [blk_p, off_p]
    refine Ok.call (hT s7 (p6.reads r7) (hr hb)) ?_
    rintro v s8 ⟨hv, ⟨i', err', p8, hi1, hi2⟩, k8⟩
    have h8 := (h6.kq (r7.kq b _)).kq k8
    have k8 := (k6.trans (r7.kq b _)).trans (k8.weaken (by have := k6.ctr; have := r7.2.1; omega))
    cases hv with
    | mk a1 a2 a3 =>
      refine Ok.t rfl ?_
      refine h8.set (lo := s.ctr) (by omega) (ws := [.int .i64 _, .int .i64 _, .string _, .int .i64 _, lstV _, lstV _, lstV _, lstV _, lstV _]) ⟨_, _, _, _, _, _, _, _, _, _, _, _, _, _, rfl, LV.l _, LV.l _, LV.l _, LV.l _, LV.l _, a1, a2, a3⟩ p8 fun s9 h9 g9 p9 k9 _ => ?_
      refine Ok.mono (ret36 g9 ⟨_, _, _, _, _, _, _, _, _, _, _, _, _, _, rfl, LV.l _, LV.l _, LV.l _, LV.l _, LV.l _, a1, a2, a3⟩) ?_
      rintro v sz ⟨hv, rz⟩
      exact ⟨hv, ⟨i', err', p9.reads rz, hi1, hi2⟩, (k8.trans k9).trans (rz.kq b _)⟩
  · refine Ok.ptr h6.p fun s7 r7 => ?_
    have h7 := h6.kq (r7.kq b _)
    have k7 := k6.trans (r7.kq b s.ctr)
    refine Ok.t rfl ?_
    simp only [blk_p, off_p]
    refine Ok.call (within_ok cx (p6.reads r7) hi 210 _ _ (lo := s.ctr) k7.ctr (BX b s.ctr s1.ctr) (fun _ _ h k => h.kq k) h7 fun s' p' h' hc' => round1_ok cx hL h' p' hn (by omega)) ?_
    rintro v s8 ⟨rfl, h8, ⟨i', err', p8, hi1, hi2⟩, k8⟩
    have k8 := k7.trans k8
    refine Ok.t rfl ?_
    obtain ⟨w1, ⟨cs, w2, w3⟩, w4, w5, w6⟩ := h8
    have hcl := w3.len
    refine Ok.callP (Ok.storeCellK (b := b) (lo := s.ctr) (c := s1.ctr) (o := 1) (v := .int .i64 _) (by kernel_rfl) rfl w2 (by omega) rfl (by omega)) ?_
    rintro v s9 ⟨rfl, e9, g9, f9, k9⟩
    have k9 := k8.trans k9
    have p9 : PI s9 b str ts en i' err' := p8.mem (by omega) fun j hj => f9 j (by omega)
    obtain ⟨k0, a0, t0, tx0, a1, a2, a3, a4, a5, l1, l2, l3, l4, l5, rfl, u1, u2, u3, u4, u5, u6, u7, u8⟩ := w3
    refine Ok.callP (Ok.loadA (b := s1.ctr) (o := 0) (n := 9) (by kernel_rfl) (by kernel_rfl) rfl (hdr_of g9) (show CellsAt s9.mem s1.ctr (s1.ctr + 1 + 0) _ from g9.2)) ?_
    rintro v sa ⟨rfl, ma, ca, la⟩
    have ra : Reads s9 sa := ⟨ma, ca, [⟨false, s1.ctr + 1 + 0, 9⟩, ⟨false, s1.ctr, 1⟩], la, rfl⟩
    refine Ok.t rfl ?_
    have ha : BX b s.ctr s1.ctr sa := ⟨by rw [ma]; exact w1.congr fun j j1 j2 => f9 j (by simp only [List.length_cons, List.length_nil] at j2; omega), ⟨_, by rw [ma]; exact g9, ⟨_, _, _, _, _, _, _, _, _, _, _, _, _, _, rfl, u1, u2, u3, u4, u5, u6, u7, u8⟩⟩, w4, w5, by omega⟩
    have hN : NbC [.int .i64 k0, .int .i64 (hereV ts en i), .string tx0, .int .i64 t0, a1, a2, a3, a4, a5] := ⟨_, _, _, _, _, _, _, _, _, _, _, _, _, _, rfl, u1, u2, u3, u4, u5, u6, u7, u8⟩
    refine ha.set (lo := s.ctr) (by omega) hN (p9.reads ra) fun sb hb gb pb kb _ => ?_
    refine Ok.mono (ret36 gb hN) ?_
    rintro v sz ⟨hv, rz⟩
    exact ⟨hv, ⟨i', err', pb.reads rz, hi1, hi2⟩, ((k9.trans (ra.kq b _)).trans kb).trans (rz.kq b _)⟩
end
end Go.Proofs.YtpljgnjdlciicaaGreatDoor
namespace Go.Proofs.YtpljgnjdlciicaaGreatDoor
open Go Go.Ev Go.Proofs
theorem appS31 : AppT En 31 9 1 16 := ⟨by kernel_rfl, by kernel_rfl, by kernel_rfl, by kernel_rfl, by omega⟩
structure LS (b c0 c1 : Nat) (s : St) (n : Int) : Prop where
  p : Row s.mem c0 [.pointer (some ⟨b, 0, none⟩)]
  v : ∃ v cs, Row s.mem c1 [v] ∧ Grow s.mem (c1 + 2) s.ctr 9 1 cs v ∧ (∀ x, x ∈ cs → ∃ y, x = .string y) ∧ (cs.length : Int) ≤ n
  le : b + 8 ≤ c0 ∧ c0 + 2 ≤ c1 ∧ c1 + 2 ≤ s.ctr
theorem LS.kq {b c0 c1 : Nat} {s s' : St} {n : Int} (h : LS b c0 c1 s n) (k : Kq b s.ctr s s') : LS b c0 c1 s' n := by
  obtain ⟨h1, ⟨v, cs, h2, h3, h4, h5⟩, q1, q2, q3⟩ := h
  have hk := k.ctr
  exact ⟨h1.congr fun j j1 j2 => k.mem j (by simp only [List.length_cons, List.length_nil] at j2; omega) (.inr (by omega)), ⟨v, cs, h2.congr fun j j1 j2 => k.mem j (by simp only [List.length_cons, List.length_nil] at j2; omega) (.inr (by omega)), h3.congr hk fun j j1 j2 => k.mem j j2 (.inr (by omega)), h4, h5⟩, q1, q2, by omega⟩
theorem LS.le' {b c0 c1 : Nat} {s : St} {n m : Int} (h : LS b c0 c1 s n) (e : n ≤ m) : LS b c0 c1 s m := by
  obtain ⟨h1, ⟨v, cs, h2, h3, h4, h5⟩, q⟩ := h
  exact ⟨h1, ⟨v, cs, h2, h3, h4, by omega⟩, q⟩
section
variable {s : St} {b c0 c1 : Nat} {str : ByteArray} {ts : List Tok} {en i err : Int}
theorem Ok.segPtr {Q : Value → St → Prop} {k : Nat → Value → List Acc → Nat → Prog} (h : Row s.mem c0 [.pointer (some ⟨b, 0, none⟩)])
    (hk : ∀ s1, Reads s s1 → Ok (fun f => k f (.pointer (some ⟨b, 0, none⟩)) [⟨false, c0 + 1 + 0, 1⟩, ⟨false, c0, 1⟩] s.ctr) s1 Q) : Ok (fun f => .seg (loadT En 54 c0 0) (k f)) s Q :=
  Ok.segLoad (by kernel_rfl) (h.cell 0 rfl) hk
theorem params_loop (cx : Cx str ts en) {lo : Nat} (hlo : lo ≤ c1) : ∀ (m : Nat) (s : St) (i err : Int), ts.length - i < m → PI s b str ts en i err → LS b c0 c1 s i → Ok (fun f => p249_1 f c0 0 c1 0) s (fun v s' => v = .tuple ⟨[]⟩ ∧ LS b c0 c1 s' 20000 ∧ (∃ i' err', PI s' b str ts en i' err' ∧ i ≤ i') ∧ Kq b lo s s') := by
  have t3 : scal En 3 = true := by kernel_rfl
  have t31 : scal En 31 = true := by kernel_rfl
  have hf := cx.few
  intro m
  induction m with
  | zero =>
    intro s i err hm p
    have := p.low
    omega
  | succ m IH =>
    intro s i err hm p h
    have hlow := p.low
    have hle := h.le
    refine Ok.step (fun f => p249_1_eq f c0 0 c1 0) ?_
    refine Ok.ptr h.p fun s1 r1 => ?_
    have h1 := h.kq (r1.kq b _)
    have p1 := p.reads r1
    refine Ok.t rfl ?_
    simp only [blk_p, off_p, Nat.add_zero]
    refine Ok.call (isound_ok p1) ?_
    rintro v s2 ⟨rfl, r2⟩
    have r2 := r1.trans r2
    refine Ok.t rfl ?_
    refine Ok.c (fun _ => ?_) (fun _ => Ok.ret ⟨rfl, (h.kq (r2.kq b _)).le' (by omega), ⟨i, err, p.reads r2, Int.le_refl _⟩, r2.kq b lo⟩)
    refine Ok.ptr (by rw [r2.1]; exact h.p) fun s3 r3 => ?_
    have r3 := r2.trans r3
    refine Ok.t rfl ?_
    simp only [blk_p, off_p, Nat.add_zero]
    refine Ok.call (name_ok cx (p.reads r3)) ?_
    rintro v s4 ⟨⟨r, rfl, hr⟩, r4⟩
    have r4 := r3.trans r4
    have h4 := h.kq (r4.kq b _)
    have p4 := p.reads r4
    refine Ok.t rfl ?_
    refine Ok.c (fun _ => ?_) (fun hb => ?_)
    · refine Ok.segPtr h4.p fun s5 r5 => ?_
      refine Ok.t rfl ?_
      refine Ok.segPtr (by rw [r5.1]; exact h4.p) fun s6 r6 => ?_
      have r6 := r5.trans r6
      refine Ok.gdL (by kernel_rfl) (Ok.t rfl ?_)
      simp only [blk_p, off_p, Nat.add_zero]
      have p6 : PI ⟨s6.mem, s6.ctr, []⟩ b str ts en i err := show PI s6 b str ts en i err from p4.reads r6
      refine segReads (R := fun v => v = .int .i64 (hereV ts en i)) (ihere_ok p6) ?_
      rintro v s7 g7 rfl r7 w7
      have r7 := r6.trans r7
      refine Ok.gdL (freeL_reads _ _ w7 _ fun d hd => by simp only [List.mem_cons, List.not_mem_nil, or_false] at hd; rcases hd with rfl | rfl <;> rfl) (Ok.t rfl ?_)
      have p7 : PI ⟨s7.mem, s7.ctr, []⟩ b str ts en i err := show PI s7 b str ts en i err from p4.reads r7
      refine Ok.segK (b := b) (lo := s.ctr) (R := fun v s' => v = .tuple ⟨[]⟩ ∧ ∃ err', PI s' b str ts en i err' ∧ err' ≠ 0) (Ok.mono (ifail_ok p7 150 _ (by decide) (cx.here i) s.ctr) (fun v s' h => ⟨⟨h.1, h.2.1⟩, h.2.2⟩)) ?_
      rintro v m8 c8 g8 ⟨rfl, err', p8, _⟩ k8 w8
      have k8 := ((r4.trans r7).kq b s.ctr).trans k8
      refine Ok.gdL (by simp [freeL, show Nat.testBit 31 0 = true from rfl, show Nat.testBit 31 1 = true from rfl, show Nat.testBit 31 4 = true from rfl]) ?_
      exact Ok.t rfl (Ok.ret ⟨rfl, (h.kq k8).le' (by omega), ⟨i, err', p8, Int.le_refl _⟩, k8.weaken (by omega)⟩)
    · have hlt : i < ts.length := hr (by simpa [boolOf] using hb)
      have hit : i.toNat < ts.length := by omega
      obtain ⟨w, cs, g4, gg4, st4, ln4⟩ := h4.v
      refine Ok.segLoad (b := c1) (o := 0) t31 (g4.cell 0 rfl) fun s5 r5 => ?_
      refine Ok.segPtr (by rw [r5.1]; exact h4.p) fun s6 r6 => ?_
      have r6 := r5.trans r6
      refine Ok.gdL (by kernel_rfl) (Ok.t rfl ?_)
      simp only [blk_p, off_p, Nat.add_zero]
      have p6 : PI ⟨s6.mem, s6.ctr, []⟩ b str ts en i err := show PI s6 b str ts en i err from p4.reads r6
      have hc6 : s6.ctr = s.ctr := by rw [r6.2.1, r4.2.1]
      refine Ok.segK (b := b) (lo := s.ctr) (R := fun v s' => v = tokV (ts[i.toNat]'hit) ∧ PI s' b str ts en (i + 1) err) (Ok.mono (next_ok (lo := s.ctr) cx p6 (List.getElem?_eq_getElem hit) (by simp only; omega)) (fun v s' h => ⟨⟨h.1, h.2.1⟩, h.2.2⟩)) ?_
      rintro v m7 c7 g7 ⟨rfl, p7⟩ k7 w7
      have k47 : Kq b s.ctr s4 _ := (r6.kq b s.ctr).trans k7
      have k7 := (r4.kq b s.ctr).trans k47
      refine Ok.gdL (freeL_wl w7 _ fun d hd => by
        simp only [List.mem_cons, List.not_mem_nil, or_false] at hd
        rcases hd with rfl | rfl
        · exact .inl (show Nat.testBit 14 1 = true from rfl)
        · exact .inr ⟨rfl, fun r hr => by simp only [List.mem_cons, List.not_mem_nil, or_false] at hr; rcases hr with rfl | rfl <;> simp only <;> omega⟩) (Ok.t rfl ?_)
      generalize ts[i.toNat]'hit = tk at *
      have hc4 : s4.ctr = s.ctr := r4.2.1
      have hc7 : s.ctr ≤ c7 := k7.ctr
      have gw : Row m7 c1 [w] := g4.congr fun j j1 j2 => k47.mem j (by simp only [List.length_cons, List.length_nil] at j2; omega) (.inr (by omega))
      have gg : Grow m7 (c1 + 2) c7 9 1 cs w := gg4.congr (by omega) fun j j1 j2 => k47.mem j (by omega) (.inr (by omega))
      have gp : Row m7 c0 [.pointer (some ⟨b, 0, none⟩)] := h4.p.congr fun j j1 j2 => k47.mem j (by simp only [List.length_cons, List.length_nil] at j2; omega) (.inr (by omega))
      have p7 : PI ⟨m7, c7, []⟩ b str ts en (i + 1) err := p7
      refine Ok.seg (Q1 := fun v s' => v = xlstV [.string tk.text] ∧ s' = ⟨m7, c7, []⟩) (Ok.const fun f => by kernel_rfl) ?_
      rintro v s8 ⟨rfl, rfl⟩
      refine Ok.gdL (freeL_two (sg := []) _ fun d hd => .inr ⟨(fun a _ r hr => by cases hr), (fun a ha => by cases ha)⟩) ?_
      have hbnd : (cs.length + 1) * (16 + 1) ≤ 1099511627776 := by omega
      refine Ok.segK (b := b) (lo := c1 + 2) (R := fun w' s' => Grow s'.mem (c1 + 2) s'.ctr 9 1 (cs ++ [.string tk.text]) w' ∧ (∀ k, k < c1 + 2 → s'.mem.get k = m7.get k) ∧ c7 ≤ s'.ctr)
        (Ok.mono (Ok.and (Ok.appK (s := ⟨m7, c7, []⟩) b (e := .string tk.text) appS31 gg rfl rfl (by simp only; omega) hbnd) (Ok.app (s := ⟨m7, c7, []⟩) (e := .string tk.text) appS31 gg rfl rfl (by simp only; omega) hbnd)) (fun v s' h => ⟨⟨h.1.1, h.2.2.2, h.2.2.1⟩, h.1.2⟩)) ?_
      rintro w9 m9 c9 g9 ⟨gg9, low9, hc9⟩ k9 w9'
      simp only at gg9 low9 hc9
      refine Ok.gdL (by kernel_rfl) ?_
      have gw9 : Row m9 c1 [w] := gw.congr fun j j1 j2 => low9 j (by simp only [List.length_cons, List.length_nil] at j2; omega)
      refine Ok.segK (b := b) (lo := c1) (R := fun _ s' => Row s'.mem c1 [w9] ∧ (∀ k, k ≠ c1 + 1 + 0 → s'.mem.get k = m9.get k) ∧ s'.ctr = c9)
        (Ok.mono (Ok.storeCellK (s := ⟨m9, c9, []⟩) (b := b) (lo := c1) (o := 0) (v := w9) (by kernel_rfl) gg9.one.2 gw9 (by simp) gg9.one.1 (Nat.le_refl _)) (fun v s' h => ⟨⟨h.2.2.1, h.2.2.2.1, h.2.1⟩, h.2.2.2.2⟩)) ?_
      rintro v mA cA gA ⟨gwA, fA, hcA⟩ kA wA
      simp only at gwA fA hcA
      refine Ok.gdL (by kernel_rfl) ?_
      have lowA : ∀ k, k < c1 → mA.get k = m7.get k := fun k hk => by rw [fA k (by omega), low9 k (by omega)]
      have pA : PI ⟨mA, cA, gA ++ (g9 ++ ([] ++ (g7 ++ s6.log)))⟩ b str ts en (i + 1) err := p7.mem (by simp only; omega) fun k hk => lowA k (by omega)
      have kA7 : Kq b lo s ⟨mA, cA, gA ++ (g9 ++ ([] ++ (g7 ++ s6.log)))⟩ := ((k7.weaken (by omega)).trans (k9.weaken (by omega))).trans (kA.weaken hlo)
      have hA : LS b c0 c1 ⟨mA, cA, gA ++ (g9 ++ ([] ++ (g7 ++ s6.log)))⟩ (i + 1) := by
        refine ⟨gp.congr fun j j1 j2 => lowA j (by simp only [List.length_cons, List.length_nil] at j2; omega), ⟨w9, _, gwA, gg9.congr (by simp only; omega) fun j j1 j2 => fA j (by omega), fun x hx => ?_, ?_⟩, by simp only; omega⟩
        · rcases List.mem_append.1 hx with hx | hx
          · exact st4 x hx
          · simp only [List.mem_singleton] at hx
            exact ⟨_, hx⟩
        · rw [List.length_append, List.length_singleton]; omega
      clear kA k9 k7 k47 fA low9 gwA gw9 gg9 gg gw
      refine Ok.ptr hA.p fun sB rB => ?_
      refine Ok.t rfl ?_
      simp only [blk_p, off_p, Nat.add_zero]
      refine Ok.call (imark_ok cx (pA.reads rB) _) ?_
      rintro v sC ⟨⟨r, rfl, hr2⟩, rC⟩
      have rC := rB.trans rC
      have hC := hA.kq (rC.kq b _)
      have pC := pA.reads rC
      have kC := kA7.trans (rC.kq b lo)
      refine Ok.t rfl ?_
      refine Ok.c (fun _ => Ok.ret ⟨rfl, hC.le' (by omega), ⟨_, _, pC, by omega⟩, kC⟩) (fun hb2 => ?_)
      have hlt2 : i + 1 < ts.length := hr2 (by simpa [boolOf] using hb2)
      refine Ok.ptr hC.p fun sD rD => ?_
      refine Ok.t rfl ?_
      simp only [blk_p, off_p, Nat.zero_add]
      have pD := pC.reads rD
      refine Ok.callP (Ok.load1 (b := b) (o := 2) t3 pD.c2) ?_
      rintro v sE ⟨rfl, mE, cE, lE⟩
      have rE : Reads sD sE := ⟨mE, cE, [⟨false, b + 1 + 2, 1⟩, ⟨false, b, 1⟩], lE, rfl⟩
      have rE := rD.trans rE
      refine Ok.t rfl ?_
      simp only [intOf, wrap1 (i := i + 1) (by omega)]
      refine Ok.callP ((pC.reads rE).inc hlt2) ?_
      rintro v sF ⟨rfl, pF, _, kF⟩
      have hF := (hC.kq (rE.kq b _)).kq (kF _)
      refine Ok.mono (IH sF (i + 1 + 1) err (by omega) pF (hF.le' (by omega))) ?_
      rintro v s' ⟨rfl, q1, ⟨i', err', q2, q3⟩, q4⟩
      exact ⟨rfl, q1, ⟨i', err', q2, by omega⟩, (kC.trans ((rE.kq b lo).trans (kF lo))).trans q4⟩
theorem params1_ok (cx : Cx str ts en) {lo : Nat} (hlo : lo ≤ c1) (p : PI s b str ts en i err) (h : LS b c0 c1 s 0) : Ok (fun f => callF En (runP En f) 249 [.pointer (some ⟨c0, 0, none⟩), .pointer (some ⟨c1, 0, none⟩)]) s (fun v s' => v = .tuple ⟨[]⟩ ∧ LS b c0 c1 s' 20000 ∧ (∃ i' err', PI s' b str ts en i' err' ∧ i ≤ i') ∧ Kq b lo s s') := by
  have hl := p.low
  refine Ok.step (fun f => f249_eq f c0 0 c1 0) ?_
  refine Ok.ptr h.p fun s1 r1 => ?_
  refine Ok.t rfl ?_
  simp only [blk_p, off_p, Nat.add_zero]
  refine Ok.call (imark_ok cx (p.reads r1) _) ?_
  rintro v s2 ⟨⟨r, rfl, _⟩, r2⟩
  have r2 := r1.trans r2
  refine Ok.t rfl ?_
  refine Ok.c (fun _ => Ok.ret ⟨rfl, (h.kq (r2.kq b _)).le' (by omega), ⟨_, _, p.reads r2, Int.le_refl _⟩, r2.kq b lo⟩) (fun _ => ?_)
  refine Ok.mono (params_loop cx hlo (ts.length + 1) s2 i err (by omega) (p.reads r2) ((h.kq (r2.kq b _)).le' (by omega))) ?_
  rintro v s' ⟨rfl, q1, q2, q3⟩
  exact ⟨rfl, q1, q2, (r2.kq b lo).trans q3⟩
theorem params_ok (cx : Cx str ts en) (p : PI s b str ts en i 0) (hi : i < ts.length) : Ok (fun f => callF En (runP En f) 212 [.pointer (some ⟨b, 0, none⟩)]) s (fun v s' => (∃ cs, v = lstV cs) ∧ (∃ i' err', PI s' b str ts en i' err' ∧ i ≤ i') ∧ Kq b s.ctr s s') := by
  have hc := p.ctr
  have t31 : scal En 31 = true := by kernel_rfl
  refine Ok.step (fun f => f212_eq f b) ?_
  refine Ok.g rfl ?_
  refine Ok.callP (Ok.newK (b := b) rfl (Nat.le_refl s.ctr)) ?_
  rintro v s1 ⟨rfl, e1, g1, m1, k1⟩
  refine Ok.t rfl ?_
  refine Ok.callP (Ok.newK (b := b) (lo := s.ctr) rfl (by omega)) ?_
  rintro v s2 ⟨rfl, e2, g2, m2, k2⟩
  have k2 := k1.trans k2
  refine Ok.t rfl ?_
  simp only [blk_itP, off_itP]
  have hX : LS b s.ctr s1.ctr s2 0 := ⟨g1.congr fun j _ hj => m2 j (by simp only [List.length_cons, List.length_nil] at hj; omega), ⟨_, [], g2, Grow.nil _ _ _ _ _, (fun x hx => by cases hx), by simp⟩, by omega, by omega, by omega⟩
  have p2 : PI s2 b str ts en i 0 := p.mem (by omega) fun j hj => by rw [m2 j (by omega), m1 j (by omega)]
  refine Ok.ptr hX.p fun s3 r3 => ?_
  have h3 := hX.kq (r3.kq b _)
  have k3 := k2.trans (r3.kq b s.ctr)
  refine Ok.t rfl ?_
  simp only [blk_p, off_p]
  refine Ok.call (within2_ok cx (p2.reads r3) hi 249 _ _ (lo := s.ctr) k3.ctr (fun s => LS b _ s1.ctr s 0) (fun s => LS b _ s1.ctr s 20000) (fun _ _ h k => h.kq k) (fun _ _ h k => h.kq k) (fun _ h => h.le' (by omega)) h3 fun s' p' h' hc' => params1_ok cx (by omega) p' h') ?_
  rintro v s4 ⟨rfl, h4, ⟨i', err', p4, hi1, _⟩, k4⟩
  have k4 := k3.trans k4
  refine Ok.t rfl ?_
  obtain ⟨w1, ⟨v, cs, w2, w3, w4, w5⟩, w6, w7, w8⟩ := h4
  refine Ok.callP (Ok.load1 (b := s1.ctr) (o := 0) t31 (w2.cell 0 rfl)) ?_
  rintro v s5 ⟨rfl, m5, c5, l5⟩
  have r5 : Reads s4 s5 := ⟨m5, c5, [⟨false, s1.ctr + 1 + 0, 1⟩, ⟨false, s1.ctr, 1⟩], l5, rfl⟩
  refine Ok.callP (Ok.storeCellK (b := b) (lo := s.ctr) (c := s1.ctr) (o := 0) (by kernel_rfl) w3.one.2 (show Row s5.mem s1.ctr [v] by rw [m5]; exact w2) (by simp) w3.one.1 (by omega)) ?_
  rintro u s6 ⟨rfl, e6, g6, f6, k6⟩
  refine Ok.call (Ok.load1 (b := s1.ctr) (o := 0) t31 (g6.cell 0 rfl)) ?_
  rintro u s7 ⟨rfl, m7, c7, l7⟩
  have r7 : Reads s6 s7 := ⟨m7, c7, [⟨false, s1.ctr + 1 + 0, 1⟩, ⟨false, s1.ctr, 1⟩], l7, rfl⟩
  have gg : Grow s7.mem (s1.ctr + 2) s7.ctr 9 1 cs u := w3.congr (by omega) fun j j1 j2 => by rw [m7, f6 j (by omega), m5]
  refine Ok.frzLK (lo := s1.ctr + 2) (by kernel_rfl) (by kernel_rfl) (by kernel_rfl) gg fun s8 e8 k8 _ => ?_
  refine Ok.ret ⟨⟨cs, rfl⟩, ⟨i', err', p4.mem (by omega) fun j hj => by rw [Kq.low k8 j (by omega), m7, f6 j (by omega), m5], hi1⟩, ?_⟩
  exact (((k4.trans (r5.kq b _)).trans k6).trans (r7.kq b _)).trans ((k8 b).weaken (by omega))
end
end Go.Proofs.YtpljgnjdlciicaaGreatDoor
namespace Go.Proofs.YtpljgnjdlciicaaGreatDoor
open Go Go.Ev Go.Proofs
def BA (b c0 c1 : Nat) (a : Int) (s : St) : Prop := BX b c0 c1 s ∧ Cell s.mem c1 1 (.int .i64 a)
theorem BA.kq {b c0 c1 : Nat} {a : Int} {s s' : St} (h : BA b c0 c1 a s) (k : Kq b s.ctr s s') : BA b c0 c1 a s' := by
  obtain ⟨h1, h2⟩ := h
  have hl := h1.le
  exact ⟨h1.kq k, Cell.congr h2 (k.mem _ (by omega) (.inr (by omega))) (k.mem _ (by omega) (.inr (by omega)))⟩
section
variable {s : St} {b c0 c1 : Nat} {str : ByteArray} {ts : List Tok} {en i err a : Int}
theorem BA.setL (h : BA b c0 c1 a s) {lo : Nat} (hlo : lo ≤ c1) (o t : Nat) (ho : o = 7 ∨ o = 8) (hs : En.size t = some 1) (l : List Value) (hl : o = 8 → (∀ x, x ∈ l → Nd x) ∧ l.length ≤ 100000) (hk7 : ∃ cs, Row s.mem c1 cs ∧ NbC cs ∧ (cs[0]? = some (.int .i64 10) ∨ cs[0]? = some (.int .i64 0)))
    {Q : Value → St → Prop} {k : Nat → Value → Prog} (p : PI s b str ts en i err)
    (hk : ∀ s', BA b c0 c1 a s' → (∃ cs, Row s'.mem c1 cs ∧ NbC cs ∧ (cs[0]? = some (.int .i64 10) ∨ cs[0]? = some (.int .i64 0))) → PI s' b str ts en i err → Kq b lo s s' → s'.ctr = s.ctr → Ok (fun f => k f U) s' Q) : Ok (fun f => callP (k f) (storeT En t c1 o (lstV l))) s Q := by
  obtain ⟨⟨h1, _, q1, q2, q3⟩, h2⟩ := h
  obtain ⟨cs, r1, r2, r3⟩ := hk7
  have hcl := r2.len
  refine Ok.callP (Ok.storeCellK (b := b) (lo := lo) (c := c1) (o := o) (v := lstV l) hs rfl r1 (by omega) rfl hlo) ?_
  rintro v s' ⟨rfl, e1, e2, e3, e4⟩
  obtain ⟨k0, a0, t0, tx0, a1, a2, a3, a4, a5, l1, l2, l3, l4, l5, rfl, u1, u2, u3, u4, u5, u6, u7, u8⟩ := r2
  have hk0 : k0 ≠ 7 := by
    rcases r3 with e | e <;> simp at e <;> omega
  have hN : NbC (List.set [.int .i64 k0, .int .i64 a0, .string tx0, .int .i64 t0, a1, a2, a3, a4, a5] o (lstV l)) := by
    rcases ho with rfl | rfl
    · exact ⟨_, _, _, _, _, _, _, _, _, _, _, _, _, _, rfl, u1, u2, u3, LV.l l, u5, u6, u7, u8⟩
    · obtain ⟨g1, g2⟩ := hl rfl
      exact ⟨_, _, _, _, _, _, _, _, _, _, _, _, _, _, rfl, u1, u2, u3, u4, LV.l l, g1, g2, fun e => absurd e hk0⟩
  have hX : BX b c0 c1 s' := ⟨h1.congr fun j j1 j2 => e3 j (by simp only [List.length_cons, List.length_nil] at j2; omega), ⟨_, e2, hN⟩, q1, q2, by omega⟩
  refine hk s' ⟨hX, Cell.congr h2 (e3 _ (by omega)) (e3 _ (by omega))⟩ ⟨_, e2, hN, ?_⟩ (p.mem (by omega) fun j hj => e3 j (by omega)) e4 e1
  rcases ho with rfl | rfl <;> exact r3
def K0 (c1 : Nat) (s : St) : Prop := ∃ cs, Row s.mem c1 cs ∧ NbC cs ∧ (cs[0]? = some (.int .i64 10) ∨ cs[0]? = some (.int .i64 0))
theorem K0.kq {s s' : St} (h : K0 c1 s) (hb : b + 8 ≤ c1) (hc : c1 + 10 ≤ s.ctr) (k : Kq b s.ctr s s') : K0 c1 s' := by
  obtain ⟨cs, h1, h2, h3⟩ := h
  have hl := h2.len
  exact ⟨cs, h1.congr fun j j1 j2 => k.mem j (by omega) (.inr (by omega)), h2, h3⟩
def BK (b c0 c1 : Nat) (a : Int) (s : St) : Prop := BA b c0 c1 a s ∧ K0 c1 s
theorem BK.kq {s s' : St} (h : BK b c0 c1 a s) (k : Kq b s.ctr s s') : BK b c0 c1 a s' := by
  have hl := h.1.1.le
  exact ⟨h.1.kq k, h.2.kq (by omega) (by omega) k⟩
theorem lambda1_ok {n : Int} (cx : Cx str ts en) (hL : ListOK b str ts en n) (h : BK b c0 c1 a s) (p : PI s b str ts en i 0) (hn : ts.length - i ≤ n) {lo : Nat} (hlo : lo ≤ c1) :
    Ok (fun f => callF En (runP En f) 211 [.pointer (some ⟨c0, 0, none⟩), .pointer (some ⟨c1, 0, none⟩)]) s (fun v s' => v = .tuple ⟨[]⟩ ∧ BK b c0 c1 a s' ∧ (∃ i' err', PI s' b str ts en i' err' ∧ i ≤ i') ∧ Kq b lo s s') := by
  have two : ∀ {s : St} {i' err' : Int}, BK b c0 c1 a s → PI s b str ts en i' err' → (err' = 0 → ts.length - i' ≤ n) → Ok (fun f => p211_2 f c0 0 c1 0) s (fun v s' => v = .tuple ⟨[]⟩ ∧ BK b c0 c1 a s' ∧ (∃ i2 err2, PI s' b str ts en i2 err2 ∧ i' ≤ i2) ∧ Kq b lo s s') := by
    intro s i' err' h p hn
    have hle := h.1.1.le
    refine Ok.step (fun f => p211_2_eq f c0 0 c1 0) ?_
    refine Ok.ptr h.1.1.p fun s1 r1 => ?_
    have h1 := h.kq (r1.kq b _)
    refine Ok.t rfl (Ok.g rfl ?_)
    simp only [blk_p, off_p]
    refine Ok.call (hL s1 i' err' _ true false (p.reads r1) hn) ?_
    rintro v s2 ⟨⟨l, rfl, l1, l2, _⟩, ⟨i2, err2, p2, hi2⟩, k2⟩
    have h2 := h1.kq k2
    have k2 := (r1.kq b lo).trans (k2.weaken (by have := h1.1.1.le; omega))
    refine Ok.t rfl ?_
    simp only [show ∀ x, elems (lstV x) = x from fun _ => rfl, Nat.zero_add]
    refine h2.1.setL hlo 8 23 (.inr rfl) (by kernel_rfl) l (fun _ => ⟨l1, by omega⟩) h2.2 p2 fun s3 h3 hk3 p3 k3 _ => ?_
    exact Ok.ret ⟨rfl, ⟨h3, hk3⟩, ⟨i2, err2, p3, hi2⟩, k2.trans k3⟩
  have hle := h.1.1.le
  refine Ok.step (fun f => f211_eq f c0 0 c1 0) ?_
  refine Ok.ptr h.1.1.p fun s1 r1 => ?_
  refine Ok.t rfl ?_
  simp only [blk_p, off_p, Nat.add_zero]
  refine Ok.call (imark_ok cx (p.reads r1) _) ?_
  rintro v s2 ⟨⟨r, rfl, hr⟩, r2⟩
  have r2 := r1.trans r2
  have h2 := h.kq (r2.kq b _)
  have p2 := p.reads r2
  refine Ok.t rfl ?_
  refine Ok.c (fun hb => ?_) (fun _ => ?_)
  · have hlt : i < ts.length := hr hb
    refine Ok.ptr h2.1.1.p fun s3 r3 => ?_
    have h3 := h2.kq (r3.kq b _)
    refine Ok.t rfl ?_
    simp only [blk_p, off_p]
    refine Ok.call (params_ok cx (p2.reads r3) hlt) ?_
    rintro v s4 ⟨⟨cs, rfl⟩, ⟨i', err', p4, hi4⟩, k4⟩
    have h4 := h3.kq k4
    have k4 := ((r2.trans r3).kq b lo).trans (k4.weaken (by have := h3.1.1.le; omega))
    refine Ok.t rfl ?_
    simp only [show ∀ x, elems (lstV x) = x from fun _ => rfl, Nat.zero_add]
    refine h4.1.setL hlo 7 31 (.inl rfl) (by kernel_rfl) cs (fun e => absurd e (by decide)) h4.2 p4 fun s5 h5 hk5 p5 k5 _ => ?_
    refine Ok.mono (two ⟨h5, hk5⟩ p5 (fun _ => by omega)) ?_
    rintro v s6 ⟨rfl, q1, ⟨i2, err2, q2, q3⟩, q4⟩
    exact ⟨rfl, q1, ⟨i2, err2, q2, by omega⟩, (k4.trans k5).trans q4⟩
  · refine Ok.mono (two h2 p2 (fun _ => hn)) ?_
    rintro v s6 ⟨rfl, q1, q2, q4⟩
    exact ⟨rfl, q1, q2, (r2.kq b lo).trans q4⟩
theorem lambda_end {c2 : Nat} (h : BX b c0 c2 s) (hr : ∃ ds, Row s.mem c1 ds ∧ ds.length = 9) (h1 : b + 8 ≤ c1 ∧ c1 + 10 ≤ c2) (p : PI s b str ts en i err) {lo : Nat} (hlo : lo ≤ c1) : Ok (fun f => p169_5 f c1 0 c2 0) s (fun v s' => Nd v ∧ PI s' b str ts en i err ∧ Kq b lo s s') := by
  obtain ⟨w1, ⟨cs, w2, w3⟩, w4, w5, w6⟩ := h
  obtain ⟨ds, d1, d2⟩ := hr
  have w3' := w3
  obtain ⟨k0, a0, t0, tx0, a1, a2, a3, a4, a5, l1, l2, l3, l4, l5, rfl, u1, u2, u3, u4, u5, u6, u7, u8⟩ := w3'
  refine Ok.step (fun f => p169_5_eq f c1 0 c2 0) ?_
  refine Ok.callP (Ok.loadA (b := c2) (o := 0) (n := 9) (by kernel_rfl) (by kernel_rfl) rfl (hdr_of w2) (show CellsAt s.mem c2 (c2 + 1 + 0) _ from w2.2)) ?_
  rintro v s1 ⟨rfl, m1, cc1, lg1⟩
  have r1 : Reads s s1 := ⟨m1, cc1, [⟨false, c2 + 1 + 0, 9⟩, ⟨false, c2, 1⟩], lg1, rfl⟩
  refine Ok.t rfl ?_
  refine Ok.callP (Ok.storeRowK (b := b) (lo := lo) (n := 9) (ws := [.int .i64 k0, .int .i64 a0, .string tx0, .int .i64 t0, a1, a2, a3, a4, a5]) (by kernel_rfl) (show Row s1.mem c1 ds by rw [m1]; exact d1) d2 rfl w3.all hlo) ?_
  rintro v s2 ⟨rfl, e2, g2, f2, k2⟩
  refine Ok.mono (ret36 g2 w3) ?_
  rintro v s3 ⟨hv, r3⟩
  exact ⟨hv, ((p.reads r1).mem (by omega) fun j hj => f2 j (by omega)).reads r3, ((r1.kq b lo).trans k2).trans (r3.kq b lo)⟩
theorem lambda_ok {n : Int} (cx : Cx str ts en) (hL : ListOK b str ts en n) (p : PI s b str ts en i 0) (hi : i < ts.length) (hn : ts.length - (i + 1) ≤ n) : Ok (fun f => callF En (runP En f) 169 [.pointer (some ⟨b, 0, none⟩)]) s (PrimQ b str ts en i s) := by
  have hc := p.ctr
  have hlow := p.low
  have hf := cx.few
  have t9 : scal En 9 = true := by kernel_rfl
  have t3 : scal En 3 = true := by kernel_rfl
  have t42 : scal En 42 = true := by kernel_rfl
  refine Ok.step (fun f => f169_eq f b) ?_
  refine Ok.g rfl ?_
  refine Ok.callP (Ok.newK (b := b) rfl (Nat.le_refl s.ctr)) ?_
  rintro v s1 ⟨rfl, e1, g1, m1, k1⟩
  refine Ok.t rfl ?_
  refine Ok.callP (Ok.newK (b := b) (lo := s.ctr) rfl (by omega)) ?_
  rintro v s2 ⟨rfl, e2, g2, m2, k2⟩
  have k2 := k1.trans k2
  refine Ok.t rfl ?_
  simp only [blk_itP, off_itP]
  have gp : Row s2.mem s.ctr [.pointer (some ⟨b, 0, none⟩)] := g1.congr fun j _ hj => m2 j (by simp only [List.length_cons, List.length_nil] at hj; omega)
  have p2 : PI s2 b str ts en i 0 := p.mem (by omega) fun j hj => by rw [m2 j (by omega), m1 j (by omega)]
  refine Ok.ptr gp fun s3 r3 => ?_
  refine Ok.t rfl ?_
  simp only [blk_p, off_p, Nat.add_zero]
  refine Ok.call (ihere_ok (p2.reads r3)) ?_
  rintro v s4 ⟨rfl, r4⟩
  have r4 := r3.trans r4
  have p4 := p2.reads r4
  have k4 := k2.trans (r4.kq b s.ctr)
  refine Ok.t rfl (Ok.g rfl ?_)
  have hc4 : s4.ctr = s2.ctr := r4.2.1
  refine Ok.callP (Ok.newK (b := b) (lo := s.ctr) rfl (by omega)) ?_
  rintro v s5 ⟨rfl, e5, g5, m5, k5⟩
  have k5 := k4.trans k5
  refine Ok.t rfl ?_
  simp only [blk_itP, off_itP]
  have gp5 : Row s5.mem s.ctr [.pointer (some ⟨b, 0, none⟩)] := gp.congr fun j _ hj => by rw [m5 j (by simp only [List.length_cons, List.length_nil] at hj; omega), r4.1]
  have gr5 : Row s5.mem s1.ctr [.int .i64 0, .int .i64 0, .string (mkStr []), .int .i64 0, .slice none 0 0, .slice none 0 0, .slice none 0 0, .slice none 0 0, .slice none 0 0] := g2.congr fun j _ hj => by rw [m5 j (by simp only [List.length_cons, List.length_nil] at hj; omega), r4.1]
  have p5 : PI s5 b str ts en i 0 := p4.mem (by omega) fun j hj => m5 j (by omega)
  have hX : BX b s.ctr s4.ctr s5 := ⟨gp5, ⟨_, g5, NbC.nil⟩, by omega, by omega, by omega⟩
  have hN6 : NbC [.int .i64 10, .int .i64 (hereV ts en i), .string (mkStr []), .int .i64 0, .slice none 0 0, .slice none 0 0, .slice none 0 0, .slice none 0 0, .slice none 0 0] :=
    ⟨_, _, _, _, _, _, _, _, _, _, _, _, _, _, rfl, LV.n, LV.n, LV.n, LV.n, LV.n, (fun x h => by cases h), by simp, fun h => absurd h (by decide)⟩
  refine hX.set (lo := s4.ctr) (Nat.le_refl _) hN6 p5 fun s6 h6 g6 p6 k6 c6 => ?_
  have hK : BK b s.ctr s4.ctr (hereV ts en i) s6 := ⟨⟨h6, g6.cell 1 rfl⟩, ⟨_, g6, hN6, .inl rfl⟩⟩
  refine Ok.ptr h6.p fun s7 r7 => ?_
  have h7 := hK.kq (r7.kq b _)
  refine Ok.t rfl ?_
  simp only [blk_p, off_p]
  have k07 : Kq b s4.ctr s5 s7 := k6.trans (r7.kq b _)
  refine Ok.call (within_ok cx (p6.reads r7) hi 211 _ _ (lo := s4.ctr) (by have := k07.ctr; omega) (BK b s.ctr s4.ctr (hereV ts en i)) (fun _ _ h k => h.kq k) h7 fun s' p' h' hc' => lambda1_ok cx hL h' p' hn (Nat.le_refl _)) ?_
  rintro v s8 ⟨rfl, h8, ⟨i', err', p8, hi1, hi2⟩, k8⟩
  have k58 := k07.trans k8
  have k8 := k5.trans (k58.weaken (by omega))
  have gr8 : Row s8.mem s1.ctr [.int .i64 0, .int .i64 0, .string (mkStr []), .int .i64 0, .slice none 0 0, .slice none 0 0, .slice none 0 0, .slice none 0 0, .slice none 0 0] := gr5.congr fun j _ hj => k58.mem j (by simp only [List.length_cons, List.length_nil] at hj; omega) (.inr (by omega))
  refine Ok.t rfl ?_
  refine Ok.ptr h8.1.1.p fun s9 r9 => ?_
  refine Ok.t rfl ?_
  simp only [blk_p, off_p]
  refine Ok.call (isound_ok (p8.reads r9)) ?_
  rintro v sa ⟨rfl, ra⟩
  have ra := r9.trans ra
  have ha := h8.kq (ra.kq b _)
  have pa := p8.reads ra
  have ka := k8.trans (ra.kq b s.ctr)
  have gra : Row sa.mem s1.ctr [.int .i64 0, .int .i64 0, .string (mkStr []), .int .i64 0, .slice none 0 0, .slice none 0 0, .slice none 0 0, .slice none 0 0, .slice none 0 0] := by rw [ra.1]; exact gr8
  refine Ok.t rfl ?_
  refine Ok.c (fun hb => ?_) (fun _ => ?_)
  · have he : err' = 0 := by simpa [boolOf] using hb
    have hii := hi2 he
    have hlow' := pa.low
    refine Ok.segPtr ha.1.1.p fun sb rb => ?_
    refine Ok.t rfl ?_
    simp only [blk_p, off_p, Nat.add_zero]
    refine Ok.segLoad (b := b) (o := 0) t9 ((pa.reads rb).c0) fun sc rc => ?_
    have rc := rb.trans rc
    refine Ok.gdL (by kernel_rfl) (Ok.t rfl ?_)
    refine Ok.segLoad (b := s4.ctr) (o := 1) t3 (ha.1.2.reads rc) fun sd rd => ?_
    have rd := rc.trans rd
    refine Ok.gdL (by kernel_rfl) (Ok.t rfl ?_)
    refine Ok.segPtr (by rw [rd.1]; exact ha.1.1.p) fun se re => ?_
    have re := rd.trans re
    refine Ok.gdL (by kernel_rfl) (Ok.t rfl ?_)
    simp only [blk_p, off_p, Nat.zero_add]
    refine Ok.segLoad (b := b) (o := 1) t42 ((pa.reads re).c1) fun sf rf => ?_
    have rf := re.trans rf
    refine Ok.gdL (by kernel_rfl) (Ok.t rfl ?_)
    refine Ok.segPtr (by rw [rf.1]; exact ha.1.1.p) fun sg rg => ?_
    have rg := rf.trans rg
    refine Ok.gdL (by kernel_rfl) (Ok.t rfl ?_)
    simp only [blk_p, off_p, Nat.zero_add]
    refine Ok.segLoad (b := b) (o := 2) t3 ((pa.reads rg).c2) fun sh rh => ?_
    have rh := rg.trans rh
    refine Ok.gdL (by kernel_rfl) (Ok.t rfl ?_)
    have hw : IntKind.i64.wrap (i' + -1) = i' - 1 := wrap_in _ (by omega) (by omega)
    have hl : (i' - 1).toNat < ts.length := by omega
    have hl0 : i.toNat < ts.length := by omega
    have hat : hereV ts en i = (ts[i.toNat]'hl0).at_ := by unfold hereV; rw [List.getElem?_eq_getElem hl0]
    have ho := Cov.ord cx.cov i.toNat (i' - 1).toNat _ _ (by omega) (List.getElem?_eq_getElem hl0) (List.getElem?_eq_getElem hl)
    obtain ⟨w1, w2, w3⟩ := Cov.at cx.cov _ _ (List.getElem?_eq_getElem hl)
    obtain ⟨v1, v2, v3⟩ := Cov.at cx.cov _ _ (List.getElem?_eq_getElem hl0)
    simp only [show ∀ x, elems (lstV x) = x from fun _ => rfl, intOf, strOf, hw, at_toks ts _ hl]
    have hen : ∀ d, intOf (List.headD (List.drop 2 (Array.toList (Value.cells (tokV (ts[(i' - 1).toNat]'hl))))) d) = (ts[(i' - 1).toNat]'hl).en := fun _ => rfl
    rw [hat]
    generalize ts[(i' - 1).toNat]'hl = u at *
    generalize ts[i.toNat]'hl0 = u0 at *
    refine Ok.t (decide_eq_true (by omega)) (Ok.t (bnd_toks ts _ hl) (Ok.t rfl (Ok.t rfl (Ok.t rfl ?_))))
    refine Ok.t (decide_eq_true v1) ?_
    have hen0 : 0 ≤ u.en := by omega
    refine Ok.t (decide_eq_true hen0) ?_
    have hstr : (str.data.toList.length : Int) = (bl str).length := rfl
    refine Ok.t (by rw [Bool.and_eq_true]; exact ⟨Nat.ble_eq_true_of_le (show u0.at_.toNat ≤ u.en.toNat by omega), Nat.ble_eq_true_of_le (show u.en.toNat ≤ _ by omega)⟩) ?_
    obtain ⟨⟨⟨q1, _, q3⟩, q4⟩, cs, q5, q6, q7⟩ := (show BK b s.ctr s4.ctr (hereV ts en i) sa from ha)
    have hcl := q6.len
    refine Ok.segK (b := b) (lo := s4.ctr) (R := fun _ s' => s'.ctr = sh.ctr ∧ (∃ w, Row s'.mem s4.ctr (cs.set 2 (.string w))) ∧ ∀ k, k ≠ s4.ctr + 1 + 2 → s'.mem.get k = sh.mem.get k)
      (Ok.mono (Ok.storeCellK (s := ⟨sh.mem, sh.ctr, []⟩) (b := b) (lo := s4.ctr) (c := s4.ctr) (o := 2) (v := .string _) (by kernel_rfl) rfl (show Row sh.mem s4.ctr cs by rw [rh.1]; exact q5) (by omega) rfl (Nat.le_refl _)) (fun v s' h => ⟨⟨h.2.1, ⟨_, h.2.2.1⟩, h.2.2.2.1⟩, h.2.2.2.2⟩)) ?_
    rintro v mi ci gi ⟨e3, ⟨w, e4⟩, e5⟩ ki wi
    simp only at e3 e4 e5
    refine Ok.gdL (by kernel_rfl) ?_
    obtain ⟨k0, a0, t0, tx0, a1, a2, a3, a4, a5, l1, l2, l3, l4, l5, rfl, u1, u2, u3, u4, u5, u6, u7, u8⟩ := q6
    have hcs : sh.ctr = sa.ctr := rh.2.1
    have hXi : BX b s.ctr s4.ctr ⟨mi, ci, gi ++ sh.log⟩ := ⟨q1.congr fun j j1 j2 => by rw [e5 j (by simp only [List.length_cons, List.length_nil] at j2; omega), rh.1], ⟨_, e4, ⟨_, _, _, _, _, _, _, _, _, _, _, _, _, _, rfl, u1, u2, u3, u4, u5, u6, u7, u8⟩⟩, by omega, by omega, by simp only; omega⟩
    have pi : PI ⟨mi, ci, gi ++ sh.log⟩ b str ts en i' err' := pa.mem (by simp only; omega) fun j hj => by simp only; rw [e5 j (by omega), rh.1]
    refine Ok.mono (lambda_end (lo := s.ctr) hXi ⟨_, gra.congr fun j j1 j2 => by rw [e5 j (by simp only [List.length_cons, List.length_nil] at j2; omega), rh.1], rfl⟩ (by omega) pi (by omega)) ?_
    rintro v sj ⟨hv, pj, kj⟩
    exact ⟨hv, ⟨i', err', pj, hi1, hi2⟩, ((ka.trans (rh.kq b _)).trans (ki.weaken (by omega))).trans kj⟩
  · refine Ok.mono (lambda_end (lo := s.ctr) ha.1.1 ⟨_, gra, rfl⟩ (by omega) pa (by omega)) ?_
    rintro v sj ⟨hv, pj, kj⟩
    exact ⟨hv, ⟨i', err', pj, hi1, hi2⟩, ka.trans kj⟩
end
end Go.Proofs.YtpljgnjdlciicaaGreatDoor
namespace Go.Ev
open Go
theorem Ok.appG {E : Env} {t el sz by_ lo : Nat} {cs : List Value} {v e : Value} {s : St} (ht : AppT E t el sz by_) (h : Grow s.mem lo s.ctr el sz cs v) {ks : List Nat} (hks : Own s.mem v ks) (he : (cellsL e).length = sz) (he1 : (cellsL e).all oneC = true) (hlo : lo ≤ s.ctr)
    (hn : (cs.length + 1) * (by_ + 1) ≤ 1099511627776) :
    Ok (fun _ => builtinA E Builtin.append (t :: (t :: [])) (v :: (xlstV (e :: []) :: []))) s
      (fun w s' => Own s'.mem w (s.ctr :: ks) ∧ ∀ k, k < s.ctr → k ∉ ks → s'.mem.get k = s.mem.get k) := by
  obtain ⟨m, c, l⟩ := s
  obtain ⟨hu, hs, hb, hz, hz0⟩ := ht
  obtain ⟨zv, hz⟩ := Option.isSome_iff_exists.1 hz
  obtain ⟨hone, hg⟩ := h
  have hel : elemOfSlice E t = some el := by unfold elemOfSlice; rw [hu]
  have hlen : lenA (xlstV [e]) = some 1 := rfl
  have hx : isL (xlstV [e]) = true := rfl
  have hxe : elems (xlstV [e]) = [e] := rfl
  have hok : hdOk sz [e] = true := by simp only [hdOk, he, Nat.beq_refl]
  have hfl : flatC ([e].take 1) = cellsL e := by simp [flatC]
  have hf1 : ∀ k, firstA sz 1 (xlstV [e]) k = gd (hdOk sz [e]) (k (flatC ([e].take 1))) := fun _ => rfl
  rcases hg with ⟨rfl, rfl⟩ | ⟨r, n, sy, olds, rfl, a2, a3, a4, a5, a6, a7⟩
  · have hd : decide ((0 + 1) * (by_ + 1) ≤ 1099511627776) = true := decide_eq_true (by simpa using hn)
    have hbl : Nat.ble (cellsL e).length (cellsL e).length = true := Nat.ble_eq_true_of_le (Nat.le_refl _)
    refine ⟨.slice (some ⟨c, 0, none⟩) 1 (capOf 1 false), ⟨layCells c (cellsL e) (c + 1) (m.set c (some (.hdr ⟨(cellsL e).length, el, false, false, true, 0, false, false, []⟩))), c + (cellsL e).length + 1, ⟨true, c, (cellsL e).length + 1⟩ :: l⟩, ⟨?_, fun k hk hk2 => ?_⟩, 0, fun _ _ => ?_⟩
    · rcases hks with ⟨_, rfl⟩ | ⟨r2, n2, c2, h2, e, _⟩
      · refine .inr ⟨c, 1, capOf 1 false, ⟨(cellsL e).length, el, false, false, true, 0, false, false, []⟩, rfl, ?_, rfl⟩
        simp only
        rw [lay_below _ _ _ _ _ (by omega), Tr.get_set, if_pos rfl]
      · cases e
    · simp only at hk ⊢
      rw [lay_below _ _ _ _ _ (by omega), Tr.get_set, if_neg (by omega)]
    · simp only [builtinA, appendA, appendB, hel, hu, hs, hb, Ev.opt, isIntD, appN, hlen, hz, gd, hd, appC, hf1, hok, hfl, Nat.zero_add, Prog.run, Prog.new, hbl, St.newH, Nat.add_eq]
  · simp only at a4 a6 a7 hlo
    have hcl : capLo (capOf n false) = n := by show (2 * n + 0) / 2 = n; omega
    have hce : capEx (capOf n false) = false := by
      simp only [capEx, capOf, Nat.add_eq, Nat.mul_eq, Nat.add_zero]
      have : Nat.mod (2 * n) 2 = 0 := by show (2 * n) % 2 = 0; omega
      rw [this]; rfl
    have hnn : n ≤ cs.length := by rw [a2]; exact Nat.le_mul_of_pos_right n hz0
    have hd : decide ((n + 1) * (by_ + 1) ≤ 1099511627776) = true := decide_eq_true (Nat.le_trans (Nat.mul_le_mul_right _ (by omega)) hn)
    have hble : Nat.ble (n + 1) n = false := by
      cases hq : Nat.ble (n + 1) n with
      | false => rfl
      | true => have := Nat.le_of_ble_eq_true hq; omega
    have hg2 : decide (True ∧ 0 + n * sz = cs.length ∧ True ∧ True ∧ True ∧ 0 ≤ n * sz + 1 * sz) = true := decide_eq_true ⟨trivial, by omega, trivial, trivial, trivial, Nat.zero_le _⟩
    have hrd : rdCells m r (n * sz) 0 = some cs := by rw [← a2]; exact CellsAt.rd a7
    have hlenc : (cs ++ cellsL e).length = n * sz + 1 * sz := by rw [List.length_append, a2, he, Nat.one_mul]
    have hbl : Nat.ble (cs ++ cellsL e).length (n * sz + 1 * sz) = true := Nat.ble_eq_true_of_le (by omega)
    refine ⟨.slice (some ⟨c, 0, none⟩) (n + 1) (capOf (n + 1) false), ⟨layCells c (cs ++ cellsL e) (c + 1) ((m.set r (some (.hdr ⟨cs.length, el, false, false, true, 0, sy, true, []⟩))).set c (some (.hdr ⟨n * sz + 1 * sz, el, false, false, true, 0, sy, false, r :: olds⟩))), c + (n * sz + 1 * sz) + 1, ⟨true, c, n * sz + 1 * sz + 1⟩ :: ⟨true, r, 1⟩ :: ⟨false, r + 1 + 0, n * sz⟩ :: ⟨false, r, 1⟩ :: ⟨false, r, 1⟩ :: l⟩, ⟨?_, fun k hk hk2 => ?_⟩, 0, fun _ _ => ?_⟩
    · rcases hks with ⟨e, _⟩ | ⟨r2, n2, c2, h2, e, g2, rfl⟩
      · cases e
      · cases e
        simp only at g2
        rw [a6] at g2
        simp only [Option.some.injEq, Slot.hdr.injEq] at g2
        subst g2
        refine .inr ⟨c, n + 1, capOf (n + 1) false, ⟨n * sz + 1 * sz, el, false, false, true, 0, sy, false, r :: olds⟩, rfl, ?_, rfl⟩
        simp only
        rw [lay_below _ _ _ _ _ (by omega), Tr.get_set, if_pos rfl]
    · have hkr : k ≠ r := by
        rcases hks with ⟨e, _⟩ | ⟨r2, n2, c2, h2, e, g2, rfl⟩
        · cases e
        · cases e
          intro e
          exact hk2 (by rw [e]; exact List.mem_cons_self ..)
      simp only at hk ⊢
      rw [lay_below _ _ _ _ _ (by omega), Tr.get_set, if_neg (by omega), Tr.get_set, if_neg hkr]
    · simp only [builtinA, appendA, appendB, hel, hu, hs, hb, Ev.opt, isIntD, appN, hlen, hz, gd, hd, hcl, hce, hble, appC, hf1, hok, hfl, Prog.run, St.hd, St.setHd, St.rd, a6, hg2, hrd, he1, hbl, St.newH, Nat.add_eq, Bool.true_and, Nat.beq_refl]
theorem mem_writes : ∀ {l : List Acc} {a : Acc}, a ∈ writesOf l → a ∈ l
  | [], a, h => by cases h
  | x :: l, a, h => by
    simp only [writesOf] at h
    split at h
    · rcases List.mem_cons.1 h with rfl | h
      · exact List.mem_cons_self ..
      · exact List.mem_cons_of_mem _ (mem_writes h)
    · exact List.mem_cons_of_mem _ (mem_writes h)
theorem killLogA {lo : Nat} : ∀ (ks : List Nat) (l : List Acc), (∀ k, k ∈ ks → lo ≤ k) → ∃ l', killLog ks l = l' ++ l ∧ ∀ a, a ∈ l' → lo ≤ a.k
  | [], l, _ => ⟨[], rfl, fun a ha => by cases ha⟩
  | k :: ks, l, h => by
    obtain ⟨l', e1, e2⟩ := killLogA ks (⟨true, k, 1⟩ :: l) fun j hj => h j (List.mem_cons_of_mem _ hj)
    refine ⟨l' ++ [⟨true, k, 1⟩], by simp only [killLog, e1, List.append_assoc, List.singleton_append], fun a ha => ?_⟩
    rcases List.mem_append.1 ha with ha | ha
    · exact e2 a ha
    · simp only [List.mem_singleton] at ha
      subst ha
      exact h k (List.mem_cons_self ..)
theorem Ok.storeG {E : Env} (b : Nat) {t el sz lo r n c : Nat} {cs xs ws : List Value} {s : St} (h : Grow s.mem lo s.ctr el sz (cs ++ xs) (.slice (some ⟨r, 0, none⟩) n c)) {ks : List Nat} (hks : Own s.mem (.slice (some ⟨r, 0, none⟩) n c) ks) (hs : E.size t = some ws.length) (hw : ws.length = xs.length) (hv : ws.all oneC = true) :
    Ok (fun _ => storeT E t r cs.length (.agg ⟨ws⟩)) s (fun _ s' => Grow s'.mem lo s'.ctr el sz (cs ++ ws) (.slice (some ⟨r, 0, none⟩) n c) ∧ Own s'.mem (.slice (some ⟨r, 0, none⟩) n c) [r] ∧ s'.ctr = s.ctr ∧ (∀ k, k ∉ ks → (k < r ∨ r + 1 + (cs ++ xs).length ≤ k) → s'.mem.get k = s.mem.get k) ∧ Kq b lo s s' ∧ ∃ l', s'.log = l' ++ s.log ∧ ∀ a, a ∈ l' → lo ≤ a.k) := by
  obtain ⟨m, cc, l⟩ := s
  obtain ⟨h1, h2⟩ := h
  rcases h2 with ⟨e, _⟩ | ⟨r', n', sy, olds, e, a2, a3, a4, a5, a6, a7⟩
  · cases e
  cases e
  have hko : ks = r :: olds := by
    rcases hks with ⟨e, _⟩ | ⟨r2, n2, c2, h2, e, g2, rfl⟩
    · cases e
    · cases e
      simp only at g2
      rw [a6] at g2
      simp only [Option.some.injEq, Slot.hdr.injEq] at g2
      subst g2
      rfl
  subst hko
  simp only at a4 a6 a7
  have hlx : (cs ++ xs).length = cs.length + ws.length := by rw [List.length_append, hw]
  have hlw : (cs ++ ws).length = (cs ++ xs).length := by rw [List.length_append, hlx]
  have hb : Nat.ble (cs.length + ws.length) (cs ++ xs).length = true := Nat.ble_eq_true_of_le (by omega)
  have h00 : Nat.ble 0 cs.length = true := Nat.ble_eq_true_of_le (Nat.zero_le _)
  have ec : cellsL (.agg ⟨ws⟩) = ws := rfl
  have hall : (cs ++ ws).all oneC = true := by
    rw [List.all_append, Bool.and_eq_true] at h1 ⊢
    exact ⟨h1.1, hv⟩
  have c1 : CellsAt m r (r + 1) cs := CellsAt.left a7
  cases olds with
  | nil =>
    refine ⟨U, ⟨layCells r ws (r + 1 + cs.length) m, cc, ⟨true, r + 1 + cs.length, ws.length⟩ :: ⟨false, r, 1⟩ :: l⟩, ⟨⟨hall, .inr ⟨r, n, sy, [], rfl, by rw [hlw]; exact a2, a3, by rw [hlw]; exact a4, a5, ?_, ?_⟩⟩, .inr ⟨r, n, _, ⟨(cs ++ xs).length, el, false, false, true, 0, sy, false, []⟩, rfl, ?_, rfl⟩, rfl, fun k hk hk2 => ?_, ⟨Nat.le_refl _, fun k hk _ => ?_, [⟨true, r + 1 + cs.length, ws.length⟩, ⟨false, r, 1⟩], rfl, fun a ha => ?_⟩, [⟨true, r + 1 + cs.length, ws.length⟩, ⟨false, r, 1⟩], rfl, fun a ha => ?_⟩, 0, fun _ _ => ?_⟩
    · simp only
      rw [lay_below _ _ _ _ _ (by omega), a6, hlw]
    · simp only
      refine CellsAt.append (c1.congr fun j j1 j2 => lay_below _ _ _ _ _ (by omega)) (CellsAt.lay _ _ _)
    · simp only
      rw [lay_below _ _ _ _ _ (by omega), a6]
    · simp only
      rw [lay_below _ _ _ _ _ (by omega)]
    · simp only
      rw [lay_below _ _ _ _ _ (by omega)]
    · simp only [writesOf, List.mem_singleton] at ha
      subst ha
      exact .inr (by simp only; omega)
    · simp only [List.mem_cons, List.not_mem_nil, or_false] at ha
      rcases ha with rfl | rfl <;> simp only <;> omega
    · simp only [storeT, hs, Ev.opt, ec, gd, Nat.beq_refl, Prog.run, St.wr, a6, Bool.false_or, h00, hv, Bool.not_true, Nat.add_eq, hb]
  | cons k0 olds =>
    obtain ⟨l', e1, e2⟩ := killLogA (lo := lo) (k0 :: olds) l fun k hk => (a5 k hk).1
    refine ⟨U, ⟨layCells r ws (r + 1 + cs.length) ((kill (k0 :: olds) m).set r (some (.hdr ⟨(cs ++ xs).length, el, false, false, true, 0, sy, false, []⟩))), cc, ⟨true, r + 1 + cs.length, ws.length⟩ :: ⟨true, r, 1⟩ :: killLog (k0 :: olds) l⟩, ⟨⟨hall, .inr ⟨r, n, sy, [], rfl, by rw [hlw]; exact a2, a3, by rw [hlw]; exact a4, (fun k hk => by cases hk), ?_, ?_⟩⟩, .inr ⟨r, n, _, ⟨(cs ++ xs).length, el, false, false, true, 0, sy, false, []⟩, rfl, ?_, rfl⟩, rfl, fun k hk hk2 => ?_, ⟨Nat.le_refl _, fun k hk _ => ?_, ⟨true, r + 1 + cs.length, ws.length⟩ :: ⟨true, r, 1⟩ :: l', ?_, fun a ha => ?_⟩, ⟨true, r + 1 + cs.length, ws.length⟩ :: ⟨true, r, 1⟩ :: l', ?_, fun a ha => ?_⟩, 0, fun _ _ => ?_⟩
    · simp only
      rw [lay_below _ _ _ _ _ (by omega), Tr.get_set, if_pos rfl, hlw]
    · simp only
      refine CellsAt.append (c1.congr fun j j1 j2 => ?_) (CellsAt.lay _ _ _)
      rw [lay_below _ _ _ _ _ (by omega), Tr.get_set, if_neg (by omega), kill_at, if_neg]
      intro hm
      have := a5 j hm
      omega
    · simp only
      rw [lay_below _ _ _ _ _ (by omega), Tr.get_set, if_pos rfl]
    · simp only [List.mem_cons, not_or] at hk
      simp only
      rw [lay_below _ _ _ _ _ (by omega), Tr.get_set, if_neg hk.1, kill_at, if_neg]
      simp only [List.mem_cons, not_or]
      exact hk.2
    · simp only
      rw [lay_below _ _ _ _ _ (by omega), Tr.get_set, if_neg (by omega), kill_at, if_neg]
      intro hm
      have := a5 k hm
      omega
    · simp only [e1, List.cons_append]
    · simp only [writesOf, List.mem_cons] at ha
      rcases ha with rfl | rfl | ha
      · exact .inr (by simp only; omega)
      · exact .inr a3
      · exact .inr (e2 a (mem_writes ha))
    · simp only [e1, List.cons_append]
    · simp only [List.mem_cons] at ha
      rcases ha with rfl | rfl | ha
      · simp only; omega
      · exact a3
      · exact e2 a ha
    · simp only [storeT, hs, Ev.opt, ec, gd, Nat.beq_refl, Prog.run, St.wr, a6, Bool.false_or, h00, hv, Bool.not_true, Nat.add_eq, hb]
end Go.Ev
namespace Go.Ev
open Go
theorem Grow.keep {m m' : Tr Slot} {lo hi hi' el sz : Nat} {cs : List Value} {v : Value} (h : Grow m lo hi el sz cs v) (hh : hi ≤ hi') (e : ∀ r n c, v = .slice (some ⟨r, 0, none⟩) n c → ∀ j, r ≤ j → j < r + 1 + cs.length → m'.get j = m.get j) : Grow m' lo hi' el sz cs v := by
  obtain ⟨h1, h2⟩ := h
  refine ⟨h1, ?_⟩
  rcases h2 with h2 | ⟨r, n, sy, olds, rfl, a2, a3, a4, a5, a6, a7⟩
  · exact .inl h2
  · refine .inr ⟨r, n, sy, olds, rfl, a2, a3, by omega, a5, ?_, a7.congr fun j b1 b2 => e r n _ rfl j (by omega) (by omega)⟩
    rw [e r n _ rfl r (Nat.le_refl _) (by omega)]
    exact a6
theorem Own.keep {m m' : Tr Slot} {v : Value} {ks : List Nat} (h : Own m v ks) (e : ∀ r n c, v = .slice (some ⟨r, 0, none⟩) n c → m'.get r = m.get r) : Own m' v ks := by
  rcases h with h | ⟨r, n, c, h, rfl, h2, h3⟩
  · exact .inl h
  · exact .inr ⟨r, n, c, h, rfl, by rw [e r n c rfl]; exact h2, h3⟩
theorem Own.lt {m : Tr Slot} {lo hi el sz : Nat} {cs : List Value} {v : Value} {ks : List Nat} (g : Grow m lo hi el sz cs v) (h : Own m v ks) : ∀ k, k ∈ ks → lo ≤ k ∧ k < hi := by
  intro k hk
  rcases h with ⟨_, rfl⟩ | ⟨r, n, c, h, rfl, h2, rfl⟩
  · cases hk
  · rcases g.2 with ⟨e, _⟩ | ⟨r', n', sy, olds, e, a2, a3, a4, a5, a6, a7⟩
    · cases e
    · cases e
      rw [a6] at h2
      simp only [Option.some.injEq, Slot.hdr.injEq] at h2
      subst h2
      rcases List.mem_cons.1 hk with rfl | hk
      · omega
      · have := a5 k hk
        omega
theorem Grow.rng {m : Tr Slot} {lo hi el sz : Nat} {cs : List Value} {r n c : Nat} (g : Grow m lo hi el sz cs (.slice (some ⟨r, 0, none⟩) n c)) : lo ≤ r ∧ r + 1 + cs.length ≤ hi := by
  rcases g.2 with ⟨e, _⟩ | ⟨r', n', sy, olds, e, a2, a3, a4, a5, a6, a7⟩
  · cases e
  · cases e
    exact ⟨a3, a4⟩
theorem Grow.own {m : Tr Slot} {lo hi el sz : Nat} {cs : List Value} {v : Value} (g : Grow m lo hi el sz cs v) : ∃ ks, Own m v ks := by
  rcases g.2 with ⟨rfl, _⟩ | ⟨r', n', sy, olds, rfl, a2, a3, a4, a5, a6, a7⟩
  · exact ⟨[], .inl ⟨rfl, rfl⟩⟩
  · exact ⟨_, .inr ⟨_, _, _, _, rfl, a6, rfl⟩⟩
theorem Own.head {m : Tr Slot} {w : Value} {x : Nat} {ks : List Nat} (h : Own m w (x :: ks)) : ∃ n c, w = .slice (some ⟨x, 0, none⟩) n c := by
  rcases h with ⟨_, e⟩ | ⟨r, n, c, hd, e1, e2, e3⟩
  · cases e
  · cases e3
    exact ⟨n, c, e1⟩
end Go.Ev
namespace Go.Proofs.YtpljgnjdlciicaaGreatDoor
open Go Go.Ev Go.Proofs
theorem sBlk_s (b o n c : Nat) : sBlk (.slice (some ⟨b, o, none⟩) n c) = b := rfl
theorem sOff_s (b o n c : Nat) : sOff (.slice (some ⟨b, o, none⟩) n c) = o := rfl
theorem sLen_s (a : Option Addr) (n c : Nat) : sLen (.slice a n c) = n := rfl
theorem sCap_s (a : Option Addr) (n c : Nat) : sCap (.slice a n c) = c := rfl
def Ap (v : Value) (len : Nat) (ks : List Nat) : Prop := ∀ r n c, v = .slice (some ⟨r, 0, none⟩) n c → ∀ k, k ∈ ks → k < r ∨ r + 1 + len ≤ k
structure Two (m : Tr Slot) (lo hi : Nat) (cs : List Value) (v4 : Value) (l : List Value) (v5 : Value) : Prop where
  g4 : Grow m lo hi 9 1 cs v4
  g5 : Grow m lo hi 36 9 (flatC l) v5
  ap : ∃ k4 k5, Own m v4 k4 ∧ Own m v5 k5 ∧ Ap v4 cs.length k5 ∧ Ap v5 (flatC l).length k4
theorem lenS23 (a : Option Addr) (n c : Nat) : builtinA En Builtin.len (23 :: []) (Value.slice a n c :: []) = .ret (vInt n) := by kernel_rfl
theorem Two.congr {m m' : Tr Slot} {lo hi hi' : Nat} {cs l : List Value} {v4 v5 : Value} (h : Two m lo hi cs v4 l v5) (hh : hi ≤ hi') (e : ∀ j, lo ≤ j → j < hi → m'.get j = m.get j) : Two m' lo hi' cs v4 l v5 := by
  obtain ⟨h1, h2, k4, k5, h3, h4, h5, h6⟩ := h
  refine ⟨h1.congr hh e, h2.congr hh e, k4, k5, h3.keep fun r n c hv => ?_, h4.keep fun r n c hv => ?_, h5, h6⟩
  · subst hv
    have := h1.rng
    exact e r (by omega) (by omega)
  · subst hv
    have := h2.rng
    exact e r (by omega) (by omega)
theorem Two.one {m m' : Tr Slot} {lo hi hi' : Nat} {cs cs' l : List Value} {v4 v5 w : Value} {k4 : List Nat} (h : Two m lo hi cs v4 l v5) (h4 : Own m v4 k4) (g : Grow m' lo hi' 9 1 cs' w) (o : Own m' w (hi :: k4)) (hw : ∃ n c, w = .slice (some ⟨hi, 0, none⟩) n c) (hh : hi ≤ hi') (e : ∀ k, k < hi → k ∉ k4 → m'.get k = m.get k) : Two m' lo hi' cs' w l v5 := by
  obtain ⟨h1, h2, k4', k5, h3, h5, h6, h7⟩ := h
  have hkk : k4' = k4 := by
    rcases h3 with ⟨e1, rfl⟩ | ⟨r, n, c, hd, e1, e2, rfl⟩ <;> rcases h4 with ⟨f1, rfl⟩ | ⟨r', n', c', hd', f1, f2, rfl⟩
    · rfl
    · rw [e1] at f1; cases f1
    · rw [e1] at f1; cases f1
    · rw [e1] at f1
      cases f1
      rw [e2] at f2
      simp only [Option.some.injEq, Slot.hdr.injEq] at f2
      rw [f2]
  subst hkk
  have hv5 : ∀ r n c, v5 = .slice (some ⟨r, 0, none⟩) n c → ∀ j, r ≤ j → j < r + 1 + (flatC l).length → m'.get j = m.get j := by
    intro r n c hv j j1 j2
    have h7' := h7 r n c hv
    have hr : lo ≤ r ∧ r + 1 + (flatC l).length ≤ hi := by
      subst hv
      exact h2.rng
    refine e j (by omega) fun hj => ?_
    have := h7' j hj
    omega
  refine ⟨g, h2.keep hh hv5, _, k5, o, h5.keep fun r n c hv => hv5 r n c hv r (Nat.le_refl _) (by omega), ?_, ?_⟩
  · intro r n c hv k hk
    obtain ⟨n', c', rfl⟩ := hw
    cases hv
    exact .inl (Own.lt h2 h5 k hk).2
  · intro r n c hv k hk
    rcases List.mem_cons.1 hk with rfl | hk
    · subst hv
      have := h2.rng
      exact .inr (by omega)
    · exact h7 r n c hv k hk
theorem Two.two {m m' : Tr Slot} {lo hi hi' : Nat} {cs l l' : List Value} {v4 v5 w : Value} {k5 ks : List Nat} (h : Two m lo hi cs v4 l v5) (h5 : Own m v5 k5) (g : Grow m' lo hi' 36 9 (flatC l') w) (o : Own m' w (hi :: ks)) (hs : ∀ k, k ∈ ks → k ∈ k5) (hw : ∃ n c, w = .slice (some ⟨hi, 0, none⟩) n c) (hh : hi ≤ hi') (e : ∀ k, k < hi → k ∉ k5 → m'.get k = m.get k) : Two m' lo hi' cs v4 l' w := by
  obtain ⟨h1, h2, k4, k5', h3, h4, h6, h7⟩ := h
  have hkk : k5' = k5 := by
    rcases h4 with ⟨e1, rfl⟩ | ⟨r, n, c, hd, e1, e2, rfl⟩ <;> rcases h5 with ⟨f1, rfl⟩ | ⟨r', n', c', hd', f1, f2, rfl⟩
    · rfl
    · rw [e1] at f1; cases f1
    · rw [e1] at f1; cases f1
    · rw [e1] at f1
      cases f1
      rw [e2] at f2
      simp only [Option.some.injEq, Slot.hdr.injEq] at f2
      rw [f2]
  subst hkk
  have hv4 : ∀ r n c, v4 = .slice (some ⟨r, 0, none⟩) n c → ∀ j, r ≤ j → j < r + 1 + cs.length → m'.get j = m.get j := by
    intro r n c hv j j1 j2
    have h6' := h6 r n c hv
    have hr : lo ≤ r ∧ r + 1 + cs.length ≤ hi := by
      subst hv
      exact h1.rng
    refine e j (by omega) fun hj => ?_
    have := h6' j hj
    omega
  refine ⟨h1.keep hh hv4, g, k4, _, h3.keep fun r n c hv => hv4 r n c hv r (Nat.le_refl _) (by omega), o, ?_, ?_⟩
  · intro r n c hv k hk
    rcases List.mem_cons.1 hk with rfl | hk
    · subst hv
      have := h1.rng
      exact .inr (by omega)
    · exact h6 r n c hv k (hs k hk)
  · intro r n c hv k hk
    obtain ⟨n', c', rfl⟩ := hw
    cases hv
    exact .inl (Own.lt h1 h3 k hk).2
def tC (a : Int) (v4 v5 : Value) : List Value := [.int .i64 11, .int .i64 a, .string (mkStr []), .int .i64 0, .slice none 0 0, .slice none 0 0, .slice none 0 0, v4, v5]
structure TS (b c0 c1 : Nat) (s : St) (n : Int) : Prop where
  p : Row s.mem c0 [.pointer (some ⟨b, 0, none⟩)]
  t : ∃ a v4 v5 cs l, Row s.mem c1 (tC a v4 v5) ∧ Two s.mem (c1 + 10) s.ctr cs v4 l v5 ∧ (∀ x, x ∈ l → Nd x) ∧ (cs.length : Int) ≤ n ∧ (l.length : Int) ≤ n
  le : b + 8 ≤ c0 ∧ c0 + 2 ≤ c1 ∧ c1 + 10 ≤ s.ctr
theorem TS.kq {b c0 c1 : Nat} {s s' : St} {n : Int} (h : TS b c0 c1 s n) (k : Kq b s.ctr s s') : TS b c0 c1 s' n := by
  obtain ⟨h1, ⟨a, v4, v5, cs, l, h2, h3, h4⟩, q1, q2, q3⟩ := h
  have hk := k.ctr
  exact ⟨h1.congr fun j j1 j2 => k.mem j (by simp only [List.length_cons, List.length_nil] at j2; omega) (.inr (by omega)), ⟨a, v4, v5, cs, l, h2.congr fun j j1 j2 => k.mem j (by simp only [tC, List.length_cons, List.length_nil] at j2; omega) (.inr (by omega)), h3.congr hk fun j j1 j2 => k.mem j j2 (.inr (by omega)), h4⟩, q1, q2, by omega⟩
theorem TS.le' {b c0 c1 : Nat} {s : St} {n m : Int} (h : TS b c0 c1 s n) (e : n ≤ m) : TS b c0 c1 s m := by
  obtain ⟨h1, ⟨a, v4, v5, cs, l, h2, h3, h4, h5, h6⟩, q⟩ := h
  exact ⟨h1, ⟨a, v4, v5, cs, l, h2, h3, h4, by omega, by omega⟩, q⟩
section
variable {s : St} {b c0 c1 : Nat} {str : ByteArray} {ts : List Tok} {en i err : Int}
def TabQ (b c0 c1 : Nat) (str : ByteArray) (ts : List Tok) (en i : Int) (lo : Nat) (s : St) (v : Value) (s' : St) : Prop := v = .tuple ⟨[]⟩ ∧ TS b c0 c1 s' 20000 ∧ (∃ i' err', PI s' b str ts en i' err' ∧ i ≤ i') ∧ Kq b lo s s'
theorem table_tail {n : Int} (cx : Cx str ts en) (hx : ExprOK b str ts en n) {lo : Nat} (hlo : lo ≤ c1) (p : PI s b str ts en i err) (h : TS b c0 c1 s i) (hi : i < ts.length) (hn : ts.length - i ≤ n)
    (IH : ∀ (s' : St) (i' err' : Int), PI s' b str ts en i' err' → TS b c0 c1 s' i' → i < i' → Ok (fun f => p247_1 f c0 0 c1 0) s' (TabQ b c0 c1 str ts en i' lo s')) :
    Ok (fun f => (Prog.seg (loadT En 31 c1 (0 + 7)) fun v17 s18 _ => (Prog.seg (loadT En 54 c0 0) fun v19 s20 _ => (gdL 0 (writesOf s20) s20 [⟨1, writesOf s18, s18⟩] (cnd (Prog.seg (callF En (runP En f) 96 [(Value.pointer (Option.some (Addr.mk (blkOf v19) ((offOf v19) + 0) Option.none)))]) fun v21 s22 _ => (gdL 28 (writesOf s22) s22 [⟨2, writesOf s20, s20⟩, ⟨1, writesOf s18, s18⟩] (cnd (Prog.seg (buildSliceA En 31 1 ((Prod.mk 0 (Value.string (strOf (at_ (aggOf v21) 3)))) :: [])) fun v23 s24 _ => (gdL 124 (writesOf s24) s24 [⟨5, writesOf s22, s22⟩, ⟨2, writesOf s20, s20⟩, ⟨1, writesOf s18, s18⟩] (Prog.seg (builtinA En Builtin.append (31 :: (31 :: [])) (v17 :: (v23 :: []))) fun v25 s26 _ => (gdL 255 (writesOf s26) s26 [⟨7, writesOf s24, s24⟩, ⟨5, writesOf s22, s22⟩, ⟨2, writesOf s20, s20⟩, ⟨1, writesOf s18, s18⟩] (Prog.seg (storeT En 31 c1 (0 + 7) v25) fun v27 s28 _ => (gdL 1023 (writesOf s28) s28 [⟨8, writesOf s26, s26⟩, ⟨7, writesOf s24, s24⟩, ⟨5, writesOf s22, s22⟩, ⟨2, writesOf s20, s20⟩, ⟨1, writesOf s18, s18⟩] (callP (fun v29 => (cnd (Prog.call (callF En (runP En f) 170 [(Value.pointer (Option.some (Addr.mk (blkOf v29) (offOf v29) Option.none))), (Value.string (mkStr [58]))]) fun v30 => (cnd (callP (fun v31 => (cnd (Prog.call (callF En (runP En f) 39 [(Value.pointer (Option.some (Addr.mk (blkOf v31) (offOf v31) Option.none)))]) fun v32 => (cnd (cnd (Prog.ret (Value.tuple ⟨[]⟩)) (Prog.seg (loadT En 23 c1 (0 + 8)) fun v33 s34 _ => (Prog.seg (loadT En 54 c0 0) fun v35 s36 _ => (gdL 0 (writesOf s36) s36 [⟨1, writesOf s34, s34⟩] (cnd (Prog.seg (callF En (runP En f) 44 [(Value.pointer (Option.some (Addr.mk (blkOf v35) (offOf v35) Option.none))), (Value.bool Bool.false)]) fun v37 s38 _ => (gdL 4 (writesOf s38) s38 [⟨2, writesOf s36, s36⟩, ⟨1, writesOf s34, s34⟩] (cnd (Prog.seg (builtinA En Builtin.len (23 :: []) (v33 :: [])) fun v39 s40 _ => (gdL 3 (writesOf s40) s40 [⟨3, writesOf s38, s38⟩, ⟨2, writesOf s36, s36⟩, ⟨1, writesOf s34, s34⟩] (cnd (Prog.seg (buildSliceA En 23 1 ((Prod.mk 0 (Value.agg ⟨((Value.int IntKind.i64 (0 : Int)) :: ((Value.int IntKind.i64 (0 : Int)) :: ((Value.string (mkStr [])) :: ((Value.int IntKind.i64 (0 : Int)) :: ((Value.slice Option.none 0 0) :: ((Value.slice Option.none 0 0) :: ((Value.slice Option.none 0 0) :: ((Value.slice Option.none 0 0) :: ((Value.slice Option.none 0 0) :: [])))))))))⟩)) :: [])) fun v41 s42 _ => (gdL 0 (writesOf s42) s42 [⟨4, writesOf s40, s40⟩, ⟨3, writesOf s38, s38⟩, ⟨2, writesOf s36, s36⟩, ⟨1, writesOf s34, s34⟩] (Prog.seg (builtinA En Builtin.append (23 :: (23 :: [])) (v33 :: (v41 :: []))) fun v43 s44 _ => (gdL 63 (writesOf s44) s44 [⟨5, writesOf s42, s42⟩, ⟨4, writesOf s40, s40⟩, ⟨3, writesOf s38, s38⟩, ⟨2, writesOf s36, s36⟩, ⟨1, writesOf s34, s34⟩] (cnd (cnd (cnd (Prog.seg (storeT En 36 (sBlk v43) ((sOff v43) + ((Int.toNat (intOf v39)) * 9)) (Value.agg ⟨((Value.int IntKind.i64 (intOf (at_ (aggOf v37) 0))) :: ((Value.int IntKind.i64 (intOf (at_ (aggOf v37) 1))) :: ((Value.string (strOf (at_ (aggOf v37) 2))) :: ((Value.int IntKind.i64 (intOf (at_ (aggOf v37) 3))) :: ((lstV (elems (at_ (aggOf v37) 4))) :: ((lstV (elems (at_ (aggOf v37) 5))) :: ((lstV (elems (at_ (aggOf v37) 6))) :: ((lstV (elems (at_ (aggOf v37) 7))) :: ((lstV (elems (at_ (aggOf v37) 8))) :: [])))))))))⟩)) fun v45 s46 _ => (gdL 255 (writesOf s46) s46 [⟨6, writesOf s44, s44⟩, ⟨5, writesOf s42, s42⟩, ⟨4, writesOf s40, s40⟩, ⟨3, writesOf s38, s38⟩, ⟨2, writesOf s36, s36⟩, ⟨1, writesOf s34, s34⟩] (Prog.seg (storeT En 23 c1 (0 + 8) (Value.slice (Option.some (Addr.mk (sBlk v43) (sOff v43) Option.none)) (sLen v43) (sCap v43))) fun v47 s48 _ => (gdL 639 (writesOf s48) s48 [⟨8, writesOf s46, s46⟩, ⟨6, writesOf s44, s44⟩, ⟨5, writesOf s42, s42⟩, ⟨4, writesOf s40, s40⟩, ⟨3, writesOf s38, s38⟩, ⟨2, writesOf s36, s36⟩, ⟨1, writesOf s34, s34⟩] (callP (fun v49 => (cnd (Prog.call (callF En (runP En f) 43 [(Value.pointer (Option.some (Addr.mk (blkOf v49) ((offOf v49) + 0) Option.none))), (Value.string (mkStr [59]))]) fun v50 => (cnd (cnd (Prog.ret (Value.tuple ⟨[]⟩)) (callP (fun v51 => (cnd (callP (fun v52 => (cnd (callP (fun v53 => (p247_1 f c0 0 c1 0)) (storeT En 3 (blkOf v51) (((offOf v51) + 0) + 2) (Value.int IntKind.i64 (IntKind.wrap IntKind.i64 ((intOf v52) + (1 : Int)))))) Prog.fail (okK (Kd.int IntKind.i64) v52))) (loadT En 3 (blkOf v51) (((offOf v51) + 0) + 2))) Prog.fail (isPt v51))) (loadT En 54 c0 0)) (Bool.not (boolOf v50))) Prog.fail (okK Kd.bool v50))) Prog.fail (isPt v49))) (loadT En 54 c0 0)))))) Prog.fail ((Nat.ble (Nat.succ (Int.toNat (intOf v39))) (sLen v43)) && Bool.true)) Prog.fail (decide ((0 : Int) ≤ (intOf v39)))) Prog.fail (isSl v43)))))) Prog.fail (okK (Kd.int IntKind.i64) v39)))) Prog.fail ((isAggV v37) && (okKs ((Kd.int IntKind.i64) :: ((Kd.int IntKind.i64) :: (Kd.str :: ((Kd.int IntKind.i64) :: (Kd.lst :: (Kd.lst :: (Kd.lst :: (Kd.lst :: (Kd.lst :: []))))))))) (aggOf v37)))))) Prog.fail (isPt v35))))) (Bool.not (boolOf v32))) Prog.fail (okK Kd.bool v32))) Prog.fail (isPt v31))) (loadT En 54 c0 0)) Prog.fail ((isTupV v30) && (okNs [] (tupOf v30))))) Prog.fail (isPt v29))) (loadT En 54 c0 0)))))))) Prog.fail ((isAggV v21) && (okKs ((Kd.int IntKind.i64) :: ((Kd.int IntKind.i64) :: ((Kd.int IntKind.i64) :: (Kd.str :: ((Kd.int IntKind.i64) :: (Kd.lst :: (Kd.lst :: (Kd.lst :: [])))))))) (aggOf v21)))))) Prog.fail (isPt v19)))))) s (TabQ b c0 c1 str ts en i lo s) := by
  have t31 : scal En 31 = true := by kernel_rfl
  have t23 : scal En 23 = true := by kernel_rfl
  have t3 : scal En 3 = true := by kernel_rfl
  have hf := cx.few
  have hlow := p.low
  have hit : i.toNat < ts.length := by omega
  obtain ⟨hp, ⟨a, v4, v5, cs, l, gr, tw, nd, ln4, ln5⟩, q1, q2, q3⟩ := h
  refine Ok.segLoad (b := c1) (o := 7) t31 (gr.cell 7 rfl) fun s5 r5 => ?_
  refine Ok.segPtr (by rw [r5.1]; exact hp) fun s6 r6 => ?_
  have r6 := r5.trans r6
  refine Ok.gdL (by kernel_rfl) (Ok.t rfl ?_)
  simp only [blk_p, off_p, Nat.add_zero]
  have p6 : PI ⟨s6.mem, s6.ctr, []⟩ b str ts en i err := show PI s6 b str ts en i err from p.reads r6
  have hc6 : s6.ctr = s.ctr := r6.2.1
  refine Ok.segK (b := b) (lo := s.ctr) (R := fun v s' => v = tokV (ts[i.toNat]'hit) ∧ PI s' b str ts en (i + 1) err) (Ok.mono (next_ok (lo := s.ctr) cx p6 (List.getElem?_eq_getElem hit) (by simp only; omega)) (fun v s' h => ⟨⟨h.1, h.2.1⟩, h.2.2⟩)) ?_
  rintro v m7 cc7 lg7 ⟨rfl, p7⟩ k7 w7
  have k7 := (r6.kq b s.ctr).trans k7
  refine Ok.gdL (freeL_wl w7 _ fun d hd => by
    simp only [List.mem_cons, List.not_mem_nil, or_false] at hd
    rcases hd with rfl | rfl
    · exact .inl (show Nat.testBit 28 2 = true from rfl)
    · exact .inr ⟨rfl, fun r hr => by simp only [List.mem_cons, List.not_mem_nil, or_false] at hr; rcases hr with rfl | rfl <;> simp only <;> omega⟩) (Ok.t rfl ?_)
  generalize ts[i.toNat]'hit = tk at *
  have hc7 : s.ctr ≤ cc7 := k7.ctr
  have gr7 : Row m7 c1 (tC a v4 v5) := gr.congr fun j j1 j2 => k7.mem j (by simp only [tC, List.length_cons, List.length_nil] at j2; omega) (.inr (by omega))
  have hp7 : Row m7 c0 [.pointer (some ⟨b, 0, none⟩)] := hp.congr fun j j1 j2 => k7.mem j (by simp only [List.length_cons, List.length_nil] at j2; omega) (.inr (by omega))
  have tw7 : Two m7 (c1 + 10) cc7 cs v4 l v5 := tw.congr hc7 fun j j1 j2 => k7.mem j j2 (.inr (by omega))
  have p7 : PI ⟨m7, cc7, []⟩ b str ts en (i + 1) err := p7
  refine Ok.seg (Q1 := fun v s' => v = xlstV [.string tk.text] ∧ s' = ⟨m7, cc7, []⟩) (Ok.const fun f => by kernel_rfl) ?_
  rintro v s8 ⟨rfl, rfl⟩
  refine Ok.gdL (freeL_two (sg := []) _ fun d hd => .inr ⟨(fun a _ r hr => by cases hr), (fun a ha => by cases ha)⟩) ?_
  have hbnd : (cs.length + 1) * (16 + 1) ≤ 1099511627776 := by omega
  obtain ⟨k4, o4⟩ := tw7.g4.own
  refine Ok.segK (b := b) (lo := c1 + 10) (R := fun w' s' => Grow s'.mem (c1 + 10) s'.ctr 9 1 (cs ++ [.string tk.text]) w' ∧ (∀ k, k < c1 + 10 → s'.mem.get k = m7.get k) ∧ cc7 ≤ s'.ctr ∧ Own s'.mem w' (cc7 :: k4) ∧ ∀ k, k < cc7 → k ∉ k4 → s'.mem.get k = m7.get k)
    (Ok.mono (Ok.and (Ok.appK (s := ⟨m7, cc7, []⟩) b (e := .string tk.text) appS31 tw7.g4 rfl rfl (by simp only; omega) hbnd) (Ok.and (Ok.app (s := ⟨m7, cc7, []⟩) (e := .string tk.text) appS31 tw7.g4 rfl rfl (by simp only; omega) hbnd) (Ok.appG (s := ⟨m7, cc7, []⟩) (e := .string tk.text) appS31 tw7.g4 o4 rfl rfl (by simp only; omega) hbnd))) (fun v s' h => ⟨⟨h.1.1, h.2.1.2.2, h.2.1.2.1, h.2.2.1, h.2.2.2⟩, h.1.2⟩)) ?_
  rintro w9 m9 cc9 lg9 ⟨gg9, low9, hc9, o9, f9⟩ k9 w9'
  simp only at gg9 low9 hc9 o9 f9
  refine Ok.gdL (by kernel_rfl) ?_
  have tw9 : Two m9 (c1 + 10) cc9 (cs ++ [.string tk.text]) w9 l v5 := tw7.one o4 gg9 o9 o9.head hc9 f9
  have gr9 : Row m9 c1 (tC a v4 v5) := gr7.congr fun j j1 j2 => low9 j (by simp only [tC, List.length_cons, List.length_nil] at j2; omega)
  refine Ok.segK (b := b) (lo := c1) (R := fun _ s' => Row s'.mem c1 (tC a w9 v5) ∧ (∀ k, k ≠ c1 + 1 + 7 → s'.mem.get k = m9.get k) ∧ s'.ctr = cc9)
    (Ok.mono (Ok.storeCellK (s := ⟨m9, cc9, []⟩) (b := b) (lo := c1) (o := 7) (v := w9) (by kernel_rfl) gg9.one.2 gr9 (by simp [tC]) gg9.one.1 (Nat.le_refl _)) (fun v s' h => ⟨⟨h.2.2.1, h.2.2.2.1, h.2.1⟩, h.2.2.2.2⟩)) ?_
  rintro v mA ccA lgA ⟨grA, fA, hcA⟩ kA wA
  simp only at grA fA hcA
  refine Ok.gdL (by kernel_rfl) ?_
  have lowA : ∀ k, k < c1 → mA.get k = m7.get k := fun k hk => by rw [fA k (by omega), low9 k (by omega)]
  have pA : PI ⟨mA, ccA, lgA ++ (lg9 ++ ([] ++ (lg7 ++ s6.log)))⟩ b str ts en (i + 1) err := p7.mem (by simp only; omega) fun k hk => lowA k (by omega)
  have kA7 : Kq b lo s ⟨mA, ccA, lgA ++ (lg9 ++ ([] ++ (lg7 ++ s6.log)))⟩ := ((k7.weaken (by omega)).trans (k9.weaken (by omega))).trans (kA.weaken hlo)
  have hA : TS b c0 c1 ⟨mA, ccA, lgA ++ (lg9 ++ ([] ++ (lg7 ++ s6.log)))⟩ (i + 1) := by
    refine ⟨hp7.congr fun j j1 j2 => lowA j (by simp only [List.length_cons, List.length_nil] at j2; omega), ⟨a, w9, v5, _, l, grA, tw9.congr (by simp only; omega) fun j j1 j2 => fA j (by omega), nd, ?_, by omega⟩, q1, q2, by simp only; omega⟩
    rw [List.length_append, List.length_singleton]; omega
  clear kA k9 k7 fA low9 grA gr9 gg9 tw9 tw7 gr7 f9 o9 o4 lowA tw gr
  refine Ok.ptr hA.p fun sB rB => ?_
  refine Ok.t rfl ?_
  simp only [blk_p, off_p]
  refine Ok.call (must_ok cx (pA.reads rB) _ sB.ctr) ?_
  rintro v sC ⟨rfl, ⟨iC, errC, pC, hiC, _, _⟩, kC⟩
  have hC := (hA.kq (rB.kq b _)).kq kC
  have kC' : Kq b lo s sC := (kA7.trans (rB.kq b lo)).trans (kC.weaken (by have := hA.le; have := rB.2.1; simp only at *; omega))
  refine Ok.t rfl ?_
  refine Ok.ptr hC.p fun sD rD => ?_
  refine Ok.t rfl ?_
  simp only [blk_p, off_p]
  refine Ok.call (isound_ok (pC.reads rD)) ?_
  rintro v sE ⟨rfl, rE⟩
  have rE := rD.trans rE
  have hE := hC.kq (rE.kq b _)
  have pE := pC.reads rE
  have kE := kC'.trans (rE.kq b lo)
  have hlowE := pE.low
  refine Ok.t rfl ?_
  refine Ok.c (fun _ => Ok.ret ⟨rfl, hE.le' (by omega), ⟨_, _, pE, by omega⟩, kE⟩) (fun hb => ?_)
  have he : errC = 0 := by simpa [boolOf] using hb
  subst he
  clear hC pC hA pA kA7 kC'
  obtain ⟨hpE, ⟨aE, x4, x5, csE, lE, grE, twE, ndE, lnE4, lnE5⟩, _, _, q3E⟩ := hE
  have ln4 := ln4
  refine Ok.segLoad (b := c1) (o := 8) t23 (grE.cell 8 rfl) fun sF rF => ?_
  refine Ok.segPtr (by rw [rF.1]; exact hpE) fun sG rG => ?_
  have rG := rF.trans rG
  refine Ok.gdL (by kernel_rfl) (Ok.t rfl ?_)
  simp only [blk_p, off_p]
  have pG : PI ⟨sG.mem, sG.ctr, []⟩ b str ts en iC 0 := show PI sG b str ts en iC 0 from pE.reads rG
  have hcG : sG.ctr = sE.ctr := rG.2.1
  refine Ok.segK (b := b) (lo := sE.ctr) (R := fun v s' => Nd v ∧ ∃ i' err', PI s' b str ts en i' err' ∧ iC ≤ i') (Ok.mono (hx ⟨sG.mem, sG.ctr, []⟩ iC false pG (by omega)) (fun v s' h => ⟨⟨h.1, h.2.1⟩, h.2.2.weaken (by simp only; omega)⟩)) ?_
  rintro v mH ccH lgH ⟨hv, iH, errH, pH, hiH⟩ kH wH
  have kH := (rG.kq b sE.ctr).trans kH
  refine Ok.gdL (freeL_wl wH _ fun d hd => by
    simp only [List.mem_cons, List.not_mem_nil, or_false] at hd
    rcases hd with rfl | rfl
    · exact .inl (show Nat.testBit 4 2 = true from rfl)
    · exact .inr ⟨rfl, fun r hr => by simp only [List.mem_cons, List.not_mem_nil, or_false] at hr; rcases hr with rfl | rfl <;> simp only <;> omega⟩) ?_
  have hcH : sE.ctr ≤ ccH := kH.ctr
  have grH : Row mH c1 (tC aE x4 x5) := grE.congr fun j j1 j2 => kH.mem j (by simp only [tC, List.length_cons, List.length_nil] at j2; omega) (.inr (by omega))
  have hpH : Row mH c0 [.pointer (some ⟨b, 0, none⟩)] := hpE.congr fun j j1 j2 => kH.mem j (by simp only [List.length_cons, List.length_nil] at j2; omega) (.inr (by omega))
  have twH : Two mH (c1 + 10) ccH csE x4 lE x5 := twE.congr hcH fun j j1 j2 => kH.mem j j2 (.inr (by omega))
  have pH : PI ⟨mH, ccH, []⟩ b str ts en iH errH := pH
  have hlowH := pH.low
  have hvv := hv
  cases hv with
  | @mk nk na nt ntx nn nsy nvl nss nl b1 b2 b3 =>
  refine Ok.t rfl ?_
  have hfl := (flat_nodes lE ndE).flat.1
  obtain ⟨ax, cx5, rfl⟩ := twH.g5.len lE.length (by omega) hfl
  simp only [lenS23]
  refine Ok.segRet fun sI rI => ?_
  have kH := kH.trans (rI.kq b sE.ctr)
  obtain ⟨mI, cI, lI⟩ := sI
  obtain ⟨eI1, eI2, _⟩ := rI
  simp only at eI1 eI2
  have eI1 := eI1.symm
  have eI2 := eI2.symm
  subst eI1 eI2
  refine Ok.gdL (freeL_two (sg := []) _ fun d hd => .inr ⟨(fun a _ r hr => by cases hr), (fun a ha => by cases ha)⟩) (Ok.t rfl ?_)
  refine Ok.seg (Q1 := fun v s' => v = xlstV [.agg ⟨[.int .i64 0, .int .i64 0, .string (mkStr []), .int .i64 0, lstV [], lstV [], lstV [], lstV [], lstV []]⟩] ∧ s' = ⟨mH, ccH, []⟩) (Ok.const fun f => by kernel_rfl) ?_
  rintro v sJ ⟨rfl, rfl⟩
  refine Ok.gdL (freeL_two (sg := []) _ fun d hd => .inr ⟨(fun a _ r hr => by cases hr), (fun a ha => by cases ha)⟩) ?_
  obtain ⟨k5, o5⟩ := twH.g5.own
  have hbnd2 : ((flatC lE).length + 1) * (160 + 1) ≤ 1099511627776 := by rw [hfl]; omega
  refine Ok.segK (b := b) (lo := c1 + 10) (R := fun w' s' => Grow s'.mem (c1 + 10) s'.ctr 36 9 (flatC lE ++ [.int .i64 0, .int .i64 0, .string (mkStr []), .int .i64 0, lstV [], lstV [], lstV [], lstV [], lstV []]) w' ∧ (∀ k, k < c1 + 10 → s'.mem.get k = mH.get k) ∧ ccH ≤ s'.ctr ∧ Own s'.mem w' (ccH :: k5) ∧ ∀ k, k < ccH → k ∉ k5 → s'.mem.get k = mH.get k)
    (Ok.mono (Ok.and (Ok.appK (s := ⟨mH, ccH, []⟩) b (e := .agg ⟨[.int .i64 0, .int .i64 0, .string (mkStr []), .int .i64 0, lstV [], lstV [], lstV [], lstV [], lstV []]⟩) appN23 twH.g5 rfl rfl (by simp only; omega) hbnd2) (Ok.and (Ok.app (s := ⟨mH, ccH, []⟩) (e := .agg ⟨[.int .i64 0, .int .i64 0, .string (mkStr []), .int .i64 0, lstV [], lstV [], lstV [], lstV [], lstV []]⟩) appN23 twH.g5 rfl rfl (by simp only; omega) hbnd2) (Ok.appG (s := ⟨mH, ccH, []⟩) (e := .agg ⟨[.int .i64 0, .int .i64 0, .string (mkStr []), .int .i64 0, lstV [], lstV [], lstV [], lstV [], lstV []]⟩) appN23 twH.g5 o5 rfl rfl (by simp only; omega) hbnd2))) (fun v s' h => ⟨⟨h.1.1, h.2.1.2.2, h.2.1.2.1, h.2.2.1, h.2.2.2⟩, h.1.2⟩)) ?_
  rintro wK mK ccK lgK ⟨ggK, lowK, hcK, oK, fK⟩ kK wK'
  simp only at ggK lowK hcK oK fK
  refine Ok.gdL (by kernel_rfl) ?_
  obtain ⟨nK, cK, rfl⟩ := oK.head
  have hnK : nK = lE.length + 1 := by
    obtain ⟨a', c', e⟩ := ggK.len (lE.length + 1) (by omega) (by rw [List.length_append, hfl, Nat.add_mul]; rfl)
    cases e
    rfl
  subst hnK
  have hpos : 0 + Int.toNat (intOf (vInt ((lE.length : Nat) : Int))) * 9 = (flatC lE).length := by rw [hfl, Nat.zero_add]; rfl
  simp only [sBlk_s, sOff_s, sLen_s, sCap_s, hpos]
  refine Ok.t rfl (Ok.t (decide_eq_true (by show (0 : Int) ≤ (lE.length : Nat); omega)) (Ok.t (by rw [Bool.and_true]; exact Nat.ble_eq_true_of_le (Nat.le_refl _)) ?_))
  have hlo5 : ∀ k, k ∈ k5 → c1 + 10 ≤ k := fun k hk => (Own.lt twH.g5 o5 k hk).1
  refine Ok.segK (b := b) (lo := c1 + 10) (R := fun _ s' => Grow s'.mem (c1 + 10) s'.ctr 36 9 (flatC lE ++ [.int .i64 nk, .int .i64 na, .string ntx, .int .i64 nt, lstV nn, lstV nsy, lstV nvl, lstV nss, lstV nl]) (.slice (some ⟨ccH, 0, none⟩) (lE.length + 1) cK) ∧ Own s'.mem (.slice (some ⟨ccH, 0, none⟩) (lE.length + 1) cK) [ccH] ∧ s'.ctr = ccK ∧ (∀ k, k ∉ ccH :: k5 → k < ccH → s'.mem.get k = mK.get k) ∧ ∀ a, a ∈ s'.log → c1 + 10 ≤ a.k)
    (Ok.mono (Ok.storeG (s := ⟨mK, ccK, []⟩) b (lo := c1 + 10) (cs := flatC lE) (xs := [.int .i64 0, .int .i64 0, .string (mkStr []), .int .i64 0, lstV [], lstV [], lstV [], lstV [], lstV []]) (ws := [.int .i64 nk, .int .i64 na, .string ntx, .int .i64 nt, lstV nn, lstV nsy, lstV nvl, lstV nss, lstV nl]) ggK oK (by kernel_rfl) rfl rfl) (fun v s' h => ⟨⟨h.1, h.2.1, h.2.2.1, fun k hk hk2 => h.2.2.2.1 k hk (.inl hk2), fun a ha => by
      obtain ⟨l', e1, e2⟩ := h.2.2.2.2.2
      rw [e1, List.append_nil] at ha
      exact e2 a ha⟩, h.2.2.2.2.1⟩)) ?_
  rintro vL mL ccL lgL ⟨ggL, oL, hcL, fL, aL⟩ kL wL
  simp only at ggL oL hcL fL aL
  refine Ok.gdL (by kernel_rfl) ?_
  have hlowL : ∀ k, k < c1 + 10 → mL.get k = mH.get k := fun k hk => by
    rw [fL k (fun hm => by
      rcases List.mem_cons.1 hm with rfl | hm
      · omega
      · have := hlo5 k hm
        omega) (by omega), lowK k hk]
  have twL : Two mL (c1 + 10) ccL csE x4 (lE ++ [.agg ⟨[.int .i64 nk, .int .i64 na, .string ntx, .int .i64 nt, lstV nn, lstV nsy, lstV nvl, lstV nss, lstV nl]⟩]) (.slice (some ⟨ccH, 0, none⟩) (lE.length + 1) cK) := by
    refine twH.two o5 (ks := []) ?_ oL (fun k hk => by cases hk) ⟨_, _, rfl⟩ (by omega) fun k hk hk2 => ?_
    · rw [flatC_app]
      have e : flatC [Value.agg ⟨[.int .i64 nk, .int .i64 na, .string ntx, .int .i64 nt, lstV nn, lstV nsy, lstV nvl, lstV nss, lstV nl]⟩] = [.int .i64 nk, .int .i64 na, .string ntx, .int .i64 nt, lstV nn, lstV nsy, lstV nvl, lstV nss, lstV nl] := rfl
      rw [e]
      exact ggL
    · rw [fL k (fun hm => by
        rcases List.mem_cons.1 hm with rfl | hm
        · omega
        · exact hk2 hm) hk, fK k hk hk2]
  have grL : Row mL c1 (tC aE x4 (.slice ax lE.length cx5)) := grH.congr fun j j1 j2 => hlowL j (by simp only [tC, List.length_cons, List.length_nil] at j2; omega)
  refine Ok.segK (b := b) (lo := c1) (R := fun _ s' => Row s'.mem c1 (tC aE x4 (.slice (some ⟨ccH, 0, none⟩) (lE.length + 1) cK)) ∧ (∀ k, k ≠ c1 + 1 + 8 → s'.mem.get k = mL.get k) ∧ s'.ctr = ccL ∧ s'.log = [⟨true, c1 + 1 + 8, 1⟩, ⟨false, c1, 1⟩])
    (Ok.mono (Ok.and (Ok.storeCellK (s := ⟨mL, ccL, []⟩) (b := b) (lo := c1) (o := 8) (v := .slice (some ⟨ccH, 0, none⟩) (lE.length + 1) cK) (by kernel_rfl) rfl grL (by simp [tC]) rfl (Nat.le_refl _)) (Ok.store1 (s := ⟨mL, ccL, []⟩) (n := 9) (by kernel_rfl) rfl grL.1 (by omega) rfl)) (fun v s' h => ⟨⟨h.1.2.2.1, h.1.2.2.2.1, h.1.2.1, (congrArg St.log h.2.2).trans rfl⟩, h.1.2.2.2.2⟩)) ?_
  rintro v mM ccM lgM ⟨grM, fM, hcM, logM⟩ kM wM
  simp only at grM fM hcM logM
  subst logM
  refine Ok.gdL (freeL_two _ fun d hd => by
    simp only [List.mem_cons, List.not_mem_nil, or_false] at hd
    rcases hd with rfl | rfl | rfl | rfl | rfl | rfl | rfl
    · refine .inr ⟨fun a ha r hr => ?_, fun a ha r hr => ?_⟩
      · simp only [List.mem_cons, List.not_mem_nil, or_false] at hr
        have := aL a (mem_writes ha)
        rcases hr with rfl | rfl <;> exact overlap_no (by simp only; omega)
      · simp only [writesOf, List.mem_singleton] at ha
        subst ha
        have := aL r hr
        exact overlap_no (by simp only; omega)
    · exact .inl (show Nat.testBit 639 6 = true from rfl)
    · exact .inl (show Nat.testBit 639 5 = true from rfl)
    · exact .inl (show Nat.testBit 639 4 = true from rfl)
    · exact .inl (show Nat.testBit 639 3 = true from rfl)
    · exact .inl (show Nat.testBit 639 2 = true from rfl)
    · exact .inl (show Nat.testBit 639 1 = true from rfl)) ?_
  have hcHK : ccH ≤ ccK := hcK
  have lowM : ∀ k, k < c1 → mM.get k = mH.get k := fun k hk => by rw [fM k (by omega), hlowL k (by omega)]
  have pM : ∀ lg, PI ⟨mM, ccM, lg⟩ b str ts en iH errH := fun lg => PI.mem (s := ⟨mH, ccH, []⟩) pH (by simp only; omega) fun k hk => lowM k (by omega)
  have hM : ∀ lg, TS b c0 c1 ⟨mM, ccM, lg⟩ (iH + 1) := fun lg => by
    refine ⟨hpH.congr fun j j1 j2 => lowM j (by simp only [List.length_cons, List.length_nil] at j2; omega), ⟨aE, x4, _, csE, _, grM, twL.congr (by simp only; omega) fun j j1 j2 => fM j (by omega), fun x hx => ?_, by omega, ?_⟩, q1, q2, by simp only; omega⟩
    · rcases List.mem_append.1 hx with hx | hx
      · exact ndE x hx
      · simp only [List.mem_singleton] at hx
        subst hx
        exact hvv
    · rw [List.length_append, List.length_singleton]; omega
  have kM' := (((kE.trans (kH.weaken (by omega))).trans (kK.weaken (by omega))).trans (kL.weaken (by omega))).trans (kM.weaken hlo)
  clear kM kL kK kH fM fL fK hlowL lowM lowK twL ggL oL ggK oK grM grL twH o5 wL wM wH wK' aL
  refine Ok.ptr (hM _).p fun sB rB => ?_
  refine Ok.t rfl ?_
  simp only [blk_p, off_p, Nat.add_zero]
  refine Ok.call (imark_ok cx ((pM _).reads rB) _) ?_
  rintro v sC ⟨⟨r, rfl, hr2⟩, rC⟩
  have rC := rB.trans rC
  have hC := (hM _).kq (rC.kq b _)
  have pC := (pM _).reads rC
  have kC := kM'.trans (rC.kq b lo)
  refine Ok.t rfl ?_
  refine Ok.c (fun _ => Ok.ret ⟨rfl, hC.le' (by omega), ⟨_, _, pC, by omega⟩, kC⟩) (fun hb2 => ?_)
  have hlt2 : iH < ts.length := hr2 (by simpa [boolOf] using hb2)
  refine Ok.ptr hC.p fun sD rD => ?_
  refine Ok.t rfl ?_
  simp only [blk_p, off_p, Nat.zero_add]
  have pD := pC.reads rD
  refine Ok.callP (Ok.load1 (b := b) (o := 2) t3 pD.c2) ?_
  rintro v sE2 ⟨rfl, mE, cE, lgE⟩
  have rE2 : Reads sD sE2 := ⟨mE, cE, [⟨false, b + 1 + 2, 1⟩, ⟨false, b, 1⟩], lgE, rfl⟩
  have rE2 := rD.trans rE2
  refine Ok.t rfl ?_
  simp only [intOf, wrap1 (i := iH) (by omega)]
  refine Ok.callP ((pC.reads rE2).inc hlt2) ?_
  rintro v sF ⟨rfl, pF, _, kF⟩
  have hF := (hC.kq (rE2.kq b _)).kq (kF _)
  refine Ok.mono (IH sF (iH + 1) errH pF hF (by omega)) ?_
  rintro v s' ⟨rfl, w1, ⟨i', err', w2, w3⟩, w4⟩
  exact ⟨rfl, w1, ⟨i', err', w2, by omega⟩, (kC.trans ((rE2.kq b lo).trans (kF lo))).trans w4⟩
end
end Go.Proofs.YtpljgnjdlciicaaGreatDoor
namespace Go.Proofs.YtpljgnjdlciicaaGreatDoor
open Go Go.Ev Go.Proofs
section
variable {s : St} {b c0 c1 : Nat} {str : ByteArray} {ts : List Tok} {en i err : Int}
theorem table_loop {n : Int} (cx : Cx str ts en) (hx : ExprOK b str ts en n) {lo : Nat} (hlo : lo ≤ c1) : ∀ (m : Nat) (s : St) (i err : Int), ts.length - i < m → PI s b str ts en i err → TS b c0 c1 s i → ts.length - i ≤ n → Ok (fun f => p247_1 f c0 0 c1 0) s (TabQ b c0 c1 str ts en i lo s) := by
  have hf := cx.few
  intro m
  induction m with
  | zero =>
    intro s i err hm p
    have := p.low
    omega
  | succ m IH =>
    intro s i err hm p h hn
    have hlow := p.low
    have hle := h.le
    have tail : ∀ {s' : St}, Reads s s' → i < ts.length → _ := fun {s'} r hi => table_tail cx hx hlo (p.reads r) (h.kq (r.kq b _)) hi hn fun s2 i2 err2 p2 h2 hi2 => IH s2 i2 err2 (by omega) p2 h2 (by omega)
    have lt : ∀ {k : Int}, (∃ t, ts[i.toNat]? = some t ∧ t.kind = k) → i < ts.length := fun ⟨t, ht, _⟩ => by
      have := (List.getElem?_eq_some_iff.1 ht).1
      omega
    refine Ok.step (fun f => p247_1_eq f c0 0 c1 0) ?_
    refine Ok.ptr h.p fun s1 r1 => ?_
    refine Ok.t rfl ?_
    simp only [blk_p, off_p, Nat.add_zero]
    refine Ok.call (isound_ok (p.reads r1)) ?_
    rintro v s2 ⟨rfl, r2⟩
    have r2 := r1.trans r2
    refine Ok.t rfl ?_
    refine Ok.c (fun _ => ?_) (fun _ => Ok.ret ⟨rfl, (h.kq (r2.kq b _)).le' (by omega), ⟨i, err, p.reads r2, Int.le_refl _⟩, r2.kq b lo⟩)
    refine Ok.ptr (by rw [r2.1]; exact h.p) fun s3 r3 => ?_
    have r3 := r2.trans r3
    refine Ok.t rfl ?_
    simp only [blk_p, off_p, Nat.add_zero]
    refine Ok.call (iis_ok (p.reads r3) 2) ?_
    rintro v s4 ⟨⟨r, rfl, hr⟩, r4⟩
    have r4 := r3.trans r4
    refine Ok.t rfl ?_
    refine Ok.c (fun _ => ?_) (fun hb => ?_)
    · refine Ok.ptr (by rw [r4.1]; exact h.p) fun s5 r5 => ?_
      have r5 := r4.trans r5
      refine Ok.t rfl ?_
      simp only [blk_p, off_p, Nat.add_zero]
      refine Ok.call (iis_ok (p.reads r5) 3) ?_
      rintro v s6 ⟨⟨r, rfl, hr2⟩, r6⟩
      have r6 := r5.trans r6
      have h6 := h.kq (r6.kq b _)
      have p6 := p.reads r6
      refine Ok.t rfl ?_
      refine Ok.c (fun _ => ?_) (fun hb => ?_)
      · refine Ok.segPtr h6.p fun s7 r7 => ?_
        refine Ok.t rfl ?_
        refine Ok.segPtr (by rw [r7.1]; exact h6.p) fun s8 r8 => ?_
        have r8 := r7.trans r8
        refine Ok.gdL (by kernel_rfl) (Ok.t rfl ?_)
        simp only [blk_p, off_p, Nat.add_zero]
        have p8 : PI ⟨s8.mem, s8.ctr, []⟩ b str ts en i err := show PI s8 b str ts en i err from p6.reads r8
        refine segReads (R := fun v => v = .int .i64 (hereV ts en i)) (ihere_ok p8) ?_
        rintro v s9 g9 rfl r9 w9
        have r9 := r8.trans r9
        refine Ok.gdL (freeL_reads _ _ w9 _ fun d hd => by simp only [List.mem_cons, List.not_mem_nil, or_false] at hd; rcases hd with rfl | rfl <;> rfl) (Ok.t rfl ?_)
        have p9 : PI ⟨s9.mem, s9.ctr, []⟩ b str ts en i err := show PI s9 b str ts en i err from p6.reads r9
        refine Ok.segK (b := b) (lo := s.ctr) (R := fun v s' => v = .tuple ⟨[]⟩ ∧ ∃ err', PI s' b str ts en i err' ∧ err' ≠ 0) (Ok.mono (ifail_ok p9 150 _ (by decide) (cx.here i) s.ctr) (fun v s' h => ⟨⟨h.1, h.2.1⟩, h.2.2⟩)) ?_
        rintro v ma ca ga ⟨rfl, err', pa, _⟩ ka wa
        have ka := ((r6.trans r9).kq b s.ctr).trans ka
        refine Ok.gdL (by kernel_rfl) ?_
        exact Ok.t rfl (Ok.ret ⟨rfl, (h.kq ka).le' (by omega), ⟨i, err', pa, Int.le_refl _⟩, ka.weaken (by omega)⟩)
      · refine Ok.mono (tail r6 (lt (hr2 (by simpa [boolOf] using hb)))) ?_
        rintro v s' ⟨e1, e2, e3, e4⟩
        exact ⟨e1, e2, e3, (r6.kq b lo).trans e4⟩
    · refine Ok.mono (tail r4 (lt (hr (by simpa [boolOf] using hb)))) ?_
      rintro v s' ⟨e1, e2, e3, e4⟩
      exact ⟨e1, e2, e3, (r4.kq b lo).trans e4⟩
theorem table1_ok {n : Int} (cx : Cx str ts en) (hx : ExprOK b str ts en n) {lo : Nat} (hlo : lo ≤ c1) (p : PI s b str ts en i 0) (hi : i < ts.length) (h : TS b c0 c1 s 0) (hn : ts.length - i ≤ n) :
    Ok (fun f => callF En (runP En f) 247 [.pointer (some ⟨c0, 0, none⟩), .pointer (some ⟨c1, 0, none⟩)]) s (TabQ b c0 c1 str ts en i lo s) := by
  have hlow := p.low
  have hle := h.le
  refine Ok.step (fun f => f247_eq f c0 0 c1 0) ?_
  refine Ok.ptr h.p fun s1 r1 => ?_
  refine Ok.t rfl ?_
  simp only [blk_p, off_p]
  refine Ok.call (within_ok cx (p.reads r1) hi 248 [] _ (lo := lo) (by have := r1.2.1; omega) (fun s => TS b c0 c1 s 0) (fun _ _ h k => h.kq k) (h.kq (r1.kq b _)) fun s2 p2 h2 _ => ?_) ?_
  · exact Ok.step (fun f => f248_eq f) (Ok.ret ⟨rfl, h2, ⟨_, _, p2, Int.le_refl _⟩, Kq.refl _ _ _⟩)
  · rintro v s2 ⟨rfl, h2, ⟨i', err', p2, hi1, hi2⟩, k2⟩
    have hl2 := p2.low
    refine Ok.t rfl ?_
    refine Ok.mono (table_loop cx hx hlo (ts.length + 1) s2 i' err' (by omega) p2 (h2.le' (by omega)) (by omega)) ?_
    rintro v s' ⟨e1, e2, ⟨i3, err3, e3, e4⟩, e5⟩
    exact ⟨e1, e2, ⟨i3, err3, e3, by omega⟩, ((r1.kq b lo).trans k2).trans e5⟩
theorem table_ok {n : Int} (cx : Cx str ts en) (hx : ExprOK b str ts en n) (p : PI s b str ts en i 0) (hi : i + 1 < ts.length) (hn : ts.length - (i + 1) ≤ n) : Ok (fun f => callF En (runP En f) 209 [.pointer (some ⟨b, 0, none⟩)]) s (PrimQ b str ts en i s) := by
  have hc := p.ctr
  refine Ok.step (fun f => f209_eq f b) ?_
  refine Ok.g rfl ?_
  refine Ok.callP (Ok.newK (b := b) rfl (Nat.le_refl s.ctr)) ?_
  rintro v s1 ⟨rfl, e1, g1, m1, k1⟩
  refine Ok.t rfl ?_
  refine Ok.callP (Ok.newK (b := b) (lo := s.ctr) rfl (by omega)) ?_
  rintro v s2 ⟨rfl, e2, g2, m2, k2⟩
  have k2 := k1.trans k2
  refine Ok.t rfl ?_
  simp only [blk_itP, off_itP]
  have gp : Row s2.mem s.ctr [.pointer (some ⟨b, 0, none⟩)] := g1.congr fun j _ hj => m2 j (by simp only [List.length_cons, List.length_nil] at hj; omega)
  have p2 : PI s2 b str ts en i 0 := p.mem (by omega) fun j hj => by rw [m2 j (by omega), m1 j (by omega)]
  refine Ok.ptr gp fun s3 r3 => ?_
  refine Ok.t rfl ?_
  simp only [blk_p, off_p, Nat.add_zero]
  refine Ok.call (ihere_ok (p2.reads r3)) ?_
  rintro v s4 ⟨rfl, r4⟩
  have r4 := r3.trans r4
  have p4 := p2.reads r4
  have k4 := k2.trans (r4.kq b s.ctr)
  refine Ok.t rfl (Ok.g rfl ?_)
  have hc4 : s4.ctr = s2.ctr := r4.2.1
  refine Ok.callP (Ok.newK (b := b) (lo := s.ctr) rfl (by omega)) ?_
  rintro v s5 ⟨rfl, e5, g5, m5, k5⟩
  have k5 := k4.trans k5
  refine Ok.t rfl ?_
  simp only [blk_itP, off_itP]
  have gp5 : Row s5.mem s.ctr [.pointer (some ⟨b, 0, none⟩)] := gp.congr fun j _ hj => by rw [m5 j (by simp only [List.length_cons, List.length_nil] at hj; omega), r4.1]
  have gr5 : Row s5.mem s1.ctr [.int .i64 0, .int .i64 0, .string (mkStr []), .int .i64 0, .slice none 0 0, .slice none 0 0, .slice none 0 0, .slice none 0 0, .slice none 0 0] := g2.congr fun j _ hj => by rw [m5 j (by simp only [List.length_cons, List.length_nil] at hj; omega), r4.1]
  have p5 : PI s5 b str ts en i 0 := p4.mem (by omega) fun j hj => m5 j (by omega)
  refine Ok.callP (Ok.storeRowK (b := b) (lo := s4.ctr) (n := 9) (ws := tC (hereV ts en i) (.slice none 0 0) (.slice none 0 0)) (by kernel_rfl) g5 rfl rfl rfl (Nat.le_refl _)) ?_
  rintro v s6 ⟨rfl, c6, g6, f6, k6⟩
  have gp6 : Row s6.mem s.ctr [.pointer (some ⟨b, 0, none⟩)] := gp5.congr fun j _ hj => f6 j (by simp only [List.length_cons, List.length_nil] at hj; omega)
  have p6 : PI s6 b str ts en i 0 := p5.mem (by omega) fun j hj => f6 j (by omega)
  have hT : TS b s.ctr s4.ctr s6 0 := ⟨gp6, ⟨_, _, _, [], [], g6, ⟨Grow.nil _ _ _ _ _, Grow.nil _ _ _ _ _, [], [], .inl ⟨rfl, rfl⟩, .inl ⟨rfl, rfl⟩, (fun r n c h => by cases h), (fun r n c h => by cases h)⟩, (fun x hx => by cases hx), by simp, by simp⟩, by omega, by omega, by omega⟩
  refine Ok.ptr gp6 fun s7 r7 => ?_
  have h7 := hT.kq (r7.kq b _)
  refine Ok.t rfl ?_
  simp only [blk_p, off_p]
  have k07 : Kq b s4.ctr s5 s7 := k6.trans (r7.kq b _)
  refine Ok.call (within2_ok cx (p6.reads r7) (by omega) 247 _ _ (lo := s4.ctr) (by have := k07.ctr; omega) (fun s' => TS b s.ctr s4.ctr s' 0) (fun s' => TS b s.ctr s4.ctr s' 20000) (fun _ _ h k => h.kq k) (fun _ _ h k => h.kq k) (fun _ h => h.le' (by omega)) h7 fun s' p' h' hc' => ?_) ?_
  · refine Ok.mono (table1_ok cx hx (Nat.le_refl s4.ctr) p' hi h' hn) ?_
    rintro v s2 ⟨w1, w2, w3, w4⟩
    exact ⟨w1, w2, w3, w4⟩
  rintro v s8 ⟨rfl, h8, ⟨i', err', p8, hi1, hi2⟩, k8⟩
  have k58 := k07.trans k8
  have k8 := k5.trans (k58.weaken (by omega))
  have gr8 : Row s8.mem s1.ctr [.int .i64 0, .int .i64 0, .string (mkStr []), .int .i64 0, .slice none 0 0, .slice none 0 0, .slice none 0 0, .slice none 0 0, .slice none 0 0] := gr5.congr fun j _ hj => k58.mem j (by simp only [List.length_cons, List.length_nil] at hj; omega) (.inr (by omega))
  refine Ok.t rfl ?_
  obtain ⟨w1, ⟨a, v4, v5, cs, l, w2, w3, w4, w5, w6⟩, w7, w8, w9⟩ := h8
  refine Ok.callP (Ok.loadA (b := s4.ctr) (o := 0) (n := 9) (vs := tC a v4 v5) (by kernel_rfl) (by kernel_rfl) rfl (hdr_of w2) (show CellsAt s8.mem s4.ctr (s4.ctr + 1 + 0) _ from w2.2)) ?_
  rintro v s9 ⟨rfl, m9, c9, l9⟩
  have r9 : Reads s8 s9 := ⟨m9, c9, [⟨false, s4.ctr + 1 + 0, 9⟩, ⟨false, s4.ctr, 1⟩], l9, rfl⟩
  refine Ok.t rfl ?_
  refine Ok.callP (Ok.storeRowK (b := b) (lo := s.ctr) (n := 9) (ws := tC a v4 v5) (by kernel_rfl) (show Row s9.mem s1.ctr _ by rw [m9]; exact gr8) rfl rfl (by simp only [tC, List.all_cons, w3.g4.one.1, w3.g5.one.1]; rfl) (by omega)) ?_
  rintro v sa ⟨rfl, ca, ga, fa, ka⟩
  refine Ok.call (Ok.loadA (b := s1.ctr) (o := 0) (n := 9) (vs := tC a v4 v5) (by kernel_rfl) (by kernel_rfl) rfl (hdr_of ga) (show CellsAt sa.mem s1.ctr (s1.ctr + 1 + 0) _ from ga.2)) ?_
  rintro v sb ⟨rfl, mb, cb, lb⟩
  have rb : Reads sa sb := ⟨mb, cb, [⟨false, s1.ctr + 1 + 0, 9⟩, ⟨false, s1.ctr, 1⟩], lb, rfl⟩
  have kb := ((k8.trans (r9.kq b _)).trans ka).trans (rb.kq b s.ctr)
  have lowb : ∀ j, (j ≤ s1.ctr ∨ s1.ctr + 10 ≤ j) → sb.mem.get j = s8.mem.get j := fun j hj => by rw [mb, fa j (by omega), m9]
  have twb : Two sb.mem (s4.ctr + 10) sb.ctr cs v4 l v5 := w3.congr (by omega) fun j j1 j2 => lowb j (by omega)
  have pb : PI sb b str ts en i' err' := p8.mem (by omega) fun j hj => lowb j (by omega)
  simp only [tC, frz36, (LV.n).frz]
  obtain ⟨t4, t5, k4', k5', o4, o5, ap4, ap5⟩ := twb
  refine Ok.frzLK (lo := s4.ctr + 10) (by kernel_rfl) (by kernel_rfl) (by kernel_rfl) t4 fun sc ec kc oc => ?_
  have t5c : Grow sc.mem (s4.ctr + 10) sc.ctr 36 9 (flatC l) v5 := t5.keep (by omega) fun r n c hv j j1 j2 => oc k4' o4 j fun hj => by
    have := ap5 r n c hv j hj
    omega
  refine LG.frz (lo := s4.ctr + 10) (.inr t5c) w4 fun sd ed kd _ => ?_
  refine Ok.ret ⟨.mk w4 (by omega) (fun h => absurd h (by decide)), ⟨i', err', ?_, hi1, hi2⟩, ?_⟩
  · exact pb.mem (by omega) fun j hj => by rw [Kq.low kd j (by omega), Kq.low kc j (by omega)]
  · exact (kb.trans ((kc b).weaken (by omega))).trans ((kd b).weaken (by omega))
end
end Go.Proofs.YtpljgnjdlciicaaGreatDoor
namespace Go.Proofs.YtpljgnjdlciicaaGreatDoor
open Go Go.Ev Go.Proofs
section
variable {s : St} {b c : Nat} {str : ByteArray} {ts : List Tok} {en i err : Int}
theorem ret_set (h : ∃ cs, Row s.mem c cs ∧ cs.length = 9) {ws : List Value} (hw : NbC ws) (p : PI s b str ts en i err) {lo : Nat} (hlo : lo ≤ c) (hc : b + 8 ≤ c) :
    Ok (fun f => callP (fun _ => Prog.call (loadT En 36 c 0) fun v => frzT En 36 v fun w => Prog.ret w) (storeT En 36 c 0 (.agg ⟨ws⟩))) s (fun v s' => Nd v ∧ PI s' b str ts en i err ∧ Kq b lo s s') := by
  obtain ⟨cs, h1, h2⟩ := h
  refine Ok.callP (Ok.storeRowK (b := b) (lo := lo) (n := 9) (by kernel_rfl) h1 h2 hw.len hw.all hlo) ?_
  rintro v s1 ⟨rfl, e1, g1, f1, k1⟩
  refine Ok.mono (ret36 g1 hw) ?_
  rintro v s2 ⟨hv, r2⟩
  exact ⟨hv, (p.mem (by omega) fun j hj => f1 j (by omega)).reads r2, k1.trans (r2.kq b lo)⟩
theorem valOK_parts {t : Int} {n sy l : List Value} (h : ValOK t n sy l) : l = [] ∧ (∀ e, e ∈ n → ∃ i, e = .int .i64 i) ∧ (∀ e, e ∈ sy → ∃ i, e = .string i) ∧ n.length ≤ 65536 ∧ sy.length ≤ 65536 := by
  obtain ⟨h1, h2, k, _, _, h3⟩ := h
  rcases h3 with ⟨_, rfl, h3⟩ | ⟨_, rfl, h3⟩
  · exact ⟨h1, (fun e he => by cases he), fun e he => by obtain ⟨y, hy, _⟩ := h3 e he; exact ⟨y, hy⟩, by omega, by omega⟩
  · exact ⟨h1, fun e he => by obtain ⟨y, hy, _⟩ := h3 e he; exact ⟨y, hy⟩, (fun e he => by cases he), by omega, by omega⟩
theorem PI.b8 (h : PI s b str ts en i err) : 131075 ≤ b := by
  obtain ⟨_, _, h, _⟩ := h
  exact h.2.2.1
theorem primary_ok {n : Int} (cx : Cx str ts en) (hL : ListOK b str ts en n) (hT : ∀ s, PI s b str ts en i 0 → i + 1 < ts.length → Ok (fun f => callF En (runP En f) 209 [.pointer (some ⟨b, 0, none⟩)]) s (PrimQ b str ts en i s))
    (p : PI s b str ts en i 0) (hn : ts.length - (i + 1) ≤ n) : Ok (fun f => callF En (runP En f) 132 [.pointer (some ⟨b, 0, none⟩)]) s (PrimQ b str ts en i s) := by
  have hc := p.ctr
  have hlow := p.low
  have lt : ∀ {k : Int}, (∃ t, ts[i.toNat]? = some t ∧ t.kind = k) → i < ts.length := fun ⟨t, ht, _⟩ => by
    have := (List.getElem?_eq_some_iff.1 ht).1
    omega
  refine Ok.step (fun f => f132_eq f b) ?_
  refine Ok.callP (Ok.newK (b := b) rfl (Nat.le_refl s.ctr)) ?_
  rintro v s1 ⟨rfl, e1, g1, m1, k1⟩
  have p1 : PI s1 b str ts en i 0 := p.mem (by omega) fun j hj => m1 j (by omega)
  refine Ok.t rfl ?_
  simp only [blk_itP, off_itP]
  have keep : ∀ {s' : St}, Kq b s1.ctr s1 s' → ∃ cs, Row s'.mem s.ctr cs ∧ cs.length = 9 := fun {s'} k => ⟨_, g1.congr fun j j1 j2 => k.mem j (by simp only [List.length_cons, List.length_nil] at j2; omega) (.inr (by omega)), rfl⟩
  refine Ok.call (ihere_ok p1) ?_
  rintro v s2 ⟨rfl, r2⟩
  refine Ok.t rfl ?_
  refine Ok.call (iis_ok (p1.reads r2) 1) ?_
  rintro v s3 ⟨⟨r, rfl, hr⟩, r3⟩
  have r3 := r2.trans r3
  have p3 := p1.reads r3
  have hc3 : s3.ctr = s1.ctr := r3.2.1
  refine Ok.t rfl ?_
  refine Ok.c (fun hb => ?_) (fun _ => ?_)
  · obtain ⟨t, ht, hk⟩ := hr hb
    have hlt := lt ⟨t, ht, hk⟩
    obtain ⟨_, _, w3⟩ := Cov.at cx.cov _ _ ht
    obtain ⟨v1, v2, v3, v4, v5⟩ := valOK_parts (w3.2.2.2.2.2.2 hk)
    refine Ok.call (next_ok (lo := s3.ctr) cx p3 ht (Nat.le_refl _)) ?_
    rintro v s4 ⟨rfl, p4, k4⟩
    refine Ok.t rfl ?_
    have hc4 := k4.ctr
    refine Ok.call (Q1 := fun v s' => v = .agg ⟨[.int .i64 t.t, lstV t.n, lstV t.sy, lstV []]⟩ ∧ Fresh s4 s' ∧ Kq b s4.ctr s4 s') ?_ ?_
    · have e : ∀ f, callF En (runP En f) 167 [(Value.agg ⟨((Value.int IntKind.i64 (intOf (at_ (aggOf (tokV t)) 4))) :: ((lstV (elems (at_ (aggOf (tokV t)) 5))) :: ((lstV (elems (at_ (aggOf (tokV t)) 6))) :: ((lstV (elems (at_ (aggOf (tokV t)) 7))) :: []))))⟩)] = callF En (runP En f) 167 [.agg ⟨[.int .i64 t.t, lstV t.n, lstV t.sy, lstV []]⟩] := fun f => by
        show callF En (runP En f) 167 [.agg ⟨[.int .i64 t.t, lstV t.n, lstV t.sy, lstV t.l]⟩] = _
        rw [v1]
      simp only [e]
      have hb8 := p4.b8
      have hbc := p4.ctr
      refine Ok.mono (Ok.and (vclone_ok b s4 (by omega) t.t t.n t.sy v2 v3 (by omega) (by omega)) (vclone_ok 0 s4 (by omega) t.t t.n t.sy v2 v3 (by omega) (by omega))) ?_
      rintro v s5 ⟨⟨rfl, k5⟩, _, k6⟩
      refine ⟨rfl, ⟨k5.ctr, fun k hk => ?_⟩, k5⟩
      by_cases hk8 : k < b ∨ b + 8 ≤ k
      · exact k5.mem k hk hk8
      · exact k6.mem k hk (.inr (by omega))
    · rintro v s5 ⟨rfl, f5, k5⟩
      refine Ok.t rfl (Ok.g rfl ?_)
      have kk : Kq b s1.ctr s1 s5 := ((r3.kq b _).trans (k4.weaken (by omega))).trans (k5.weaken (by omega))
      refine Ok.mono (ret_set (lo := s.ctr) (keep kk) (ws := [.int .i64 1, .int .i64 (hereV ts en i), .string (mkStr []), .int .i64 t.t, lstV t.n, lstV t.sy, lstV [], .slice none 0 0, .slice none 0 0]) ⟨_, _, _, _, _, _, _, _, _, _, _, _, _, _, rfl, LV.l _, LV.l _, LV.l _, LV.n, LV.n, (fun x h => by cases h), by simp, fun h => absurd h (by decide)⟩ (p4.fresh f5) (Nat.le_refl _) (by omega)) ?_
      rintro v s6 ⟨hv, p6, k6⟩
      exact ⟨hv, ⟨i + 1, 0, p6, by omega, fun _ => by omega⟩, (k1.trans (kk.weaken (by omega))).trans k6⟩
  refine Ok.call (name_ok cx p3) ?_
  rintro v s4 ⟨⟨r, rfl, hr2⟩, r4⟩
  have r4 := r3.trans r4
  have p4 := p1.reads r4
  have hc4 : s4.ctr = s1.ctr := r4.2.1
  refine Ok.t rfl ?_
  refine Ok.c (fun hb => ?_) (fun _ => ?_)
  · have hlt := hr2 hb
    have hit : i.toNat < ts.length := by omega
    refine Ok.call (next_ok (lo := s4.ctr) cx p4 (List.getElem?_eq_getElem hit) (Nat.le_refl _)) ?_
    rintro v s5 ⟨rfl, p5, k5⟩
    generalize ts[i.toNat]'hit = tk at *
    refine Ok.t rfl (Ok.g rfl ?_)
    have kk : Kq b s1.ctr s1 s5 := (r4.kq b _).trans (k5.weaken (by omega))
    refine Ok.mono (ret_set (lo := s.ctr) (keep kk) (ws := [.int .i64 2, .int .i64 (hereV ts en i), .string tk.text, .int .i64 0, .slice none 0 0, .slice none 0 0, .slice none 0 0, .slice none 0 0, .slice none 0 0]) ⟨_, _, _, _, _, _, _, _, _, _, _, _, _, _, rfl, LV.n, LV.n, LV.n, LV.n, LV.n, (fun x h => by cases h), by simp, fun h => absurd h (by decide)⟩ p5 (Nat.le_refl _) (by omega)) ?_
    rintro v s6 ⟨hv, p6, k6⟩
    exact ⟨hv, ⟨i + 1, 0, p6, by omega, fun _ => by omega⟩, (k1.trans (kk.weaken (by omega))).trans k6⟩
  refine Ok.call (imark_ok cx p4 _) ?_
  rintro v s5 ⟨⟨r, rfl, hr3⟩, r5⟩
  have r5 := r4.trans r5
  have p5 := p1.reads r5
  have hc5 : s5.ctr = s1.ctr := r5.2.1
  refine Ok.t rfl ?_
  refine Ok.c (fun hb => ?_) (fun _ => ?_)
  · refine Ok.call (round_ok cx hL hT p5 (hr3 hb) hn) ?_
    rintro v s7 ⟨hv, ⟨i', err', p7, hi1, hi2⟩, k7⟩
    have hc6 : s5.ctr = s1.ctr := r5.2.1
    have kk : Kq b s1.ctr s1 s7 := (r5.kq b _).trans (k7.weaken (by omega))
    cases hv with
    | @mk nk na nt ntx nn nsy nvl nss nl a1 a2 a3 =>
      have hN : NbC [.int .i64 nk, .int .i64 na, .string ntx, .int .i64 nt, lstV nn, lstV nsy, lstV nvl, lstV nss, lstV nl] := ⟨_, _, _, _, _, _, _, _, _, _, _, _, _, _, rfl, LV.l _, LV.l _, LV.l _, LV.l _, LV.l _, a1, a2, a3⟩
      refine Ok.t rfl ?_
      refine Ok.mono (ret_set (lo := s.ctr) (keep kk) hN p7 (Nat.le_refl _) (by omega)) ?_
      rintro v s8 ⟨hv, p8, k8⟩
      exact ⟨hv, ⟨i', err', p8, hi1, hi2⟩, (k1.trans (kk.weaken (by omega))).trans k8⟩
  refine Ok.call (imark_ok cx p5 _) ?_
  rintro v s6 ⟨⟨r, rfl, hr4⟩, r6⟩
  have r6 := r5.trans r6
  have p6 := p1.reads r6
  refine Ok.t rfl ?_
  refine Ok.c (fun hb => ?_) (fun _ => ?_)
  · refine Ok.call (lambda_ok cx hL p6 (hr4 hb) hn) ?_
    rintro v s7 ⟨hv, ⟨i', err', p7, hi1, hi2⟩, k7⟩
    have hc6 : s6.ctr = s1.ctr := r6.2.1
    have kk : Kq b s1.ctr s1 s7 := (r6.kq b _).trans (k7.weaken (by omega))
    cases hv with
    | @mk nk na nt ntx nn nsy nvl nss nl a1 a2 a3 =>
      have hN : NbC [.int .i64 nk, .int .i64 na, .string ntx, .int .i64 nt, lstV nn, lstV nsy, lstV nvl, lstV nss, lstV nl] := ⟨_, _, _, _, _, _, _, _, _, _, _, _, _, _, rfl, LV.l _, LV.l _, LV.l _, LV.l _, LV.l _, a1, a2, a3⟩
      refine Ok.t rfl ?_
      refine Ok.mono (ret_set (lo := s.ctr) (keep kk) hN p7 (Nat.le_refl _) (by omega)) ?_
      rintro v s8 ⟨hv, p8, k8⟩
      exact ⟨hv, ⟨i', err', p8, hi1, hi2⟩, (k1.trans (kk.weaken (by omega))).trans k8⟩
  have hc6 : s6.ctr = s1.ctr := r6.2.1
  refine Ok.call (ifail_ok p6 150 _ (by decide) (cx.here i) s6.ctr) ?_
  rintro v s7 ⟨rfl, ⟨err', p7, he⟩, k7⟩
  refine Ok.t rfl (Ok.g rfl ?_)
  have kk : Kq b s1.ctr s1 s7 := (r6.kq b _).trans (k7.weaken (by omega))
  refine Ok.mono (ret_set (lo := s.ctr) (keep kk) NbC.nil p7 (Nat.le_refl _) (by omega)) ?_
  rintro v s8 ⟨hv, p8, k8⟩
  exact ⟨hv, ⟨i, err', p8, Int.le_refl _, fun h => absurd h he⟩, (k1.trans (kk.weaken (by omega))).trans k8⟩
end
end Go.Proofs.YtpljgnjdlciicaaGreatDoor
namespace Go.Ev
open Go
def La (b lo : Nat) (s s' : St) : Prop := ∃ l, s'.log = l ++ s.log ∧ ∀ a, a ∈ l → (b ≤ a.k ∧ a.k + a.n ≤ b + 8) ∨ lo ≤ a.k
theorem La.trans {b lo : Nat} {s s1 s2 : St} (h : La b lo s s1) (g : La b lo s1 s2) : La b lo s s2 := by
  obtain ⟨l, e1, e2⟩ := h
  obtain ⟨k, e3, e4⟩ := g
  refine ⟨k ++ l, by rw [e3, e1, List.append_assoc], fun a ha => ?_⟩
  rcases List.mem_append.1 ha with ha | ha
  · exact e4 a ha
  · exact e2 a ha
section
variable {E : Env} {s : St} {b lo : Nat}
theorem Ok.newL {n el : Nat} {ex z sy : Bool} {vs : List Value} {g : Nat → Value} (hn : vs.length = n) : Ok (fun _ => Prog.newH (Hdr.mk n el false ex z 0 sy false []) vs (fun k => Prog.ret (g k))) s (fun _ s' => s'.log = [⟨true, s.ctr, n + 1⟩] ++ s.log) := by
  obtain ⟨m, c, l⟩ := s
  subst hn
  have e : Nat.ble vs.length vs.length = true := Nat.ble_eq_true_of_le (Nat.le_refl _)
  refine ⟨g c, ⟨layCells c vs (c + 1) (m.set c (some (.hdr (Hdr.mk vs.length el false ex z 0 sy false [])))), c + vs.length + 1, ⟨true, c, vs.length + 1⟩ :: l⟩, rfl, 0, fun _ _ => ?_⟩
  simp only [Prog.run, e, St.newH, Nat.add_eq]
theorem Ok.segLoadE {t o : Nat} {v : Value} {Q : Value → St → Prop} {k : Nat → Value → List Acc → Nat → Prog} (hs : scal E t = true) (h : Cell s.mem b o v)
    (hk : ∀ s1, Reads s s1 → s1.log = [⟨false, b + 1 + o, 1⟩, ⟨false, b, 1⟩] ++ s.log → Ok (fun f => k f v [⟨false, b + 1 + o, 1⟩, ⟨false, b, 1⟩] s.ctr) s1 Q) : Ok (fun f => .seg (loadT E t b o) (k f)) s Q := by
  refine Ok.seg (Ok.load1 (s := ⟨s.mem, s.ctr, []⟩) hs h) ?_
  rintro w s1 ⟨rfl, e1, e2, e3⟩
  simp only at e1 e2 e3
  rw [e3, e1, e2]
  exact hk _ ⟨rfl, rfl, [⟨false, b + 1 + o, 1⟩, ⟨false, b, 1⟩], rfl, rfl⟩ rfl
theorem Ok.storeRowL {t c n : Nat} {vs ws : List Value} (hs : E.size t = some n) (h : Row s.mem c vs) (hn : vs.length = n) (hw : ws.length = n) (hv : ws.all oneC = true) :
    Ok (fun _ => storeT E t c 0 (.agg ⟨ws⟩)) s (fun _ s' => s'.log = [⟨true, c + 1 + 0, n⟩, ⟨false, c, 1⟩] ++ s.log) := by
  obtain ⟨m, cc, l⟩ := s
  obtain ⟨⟨el, ex, z, sy, hf⟩, hc⟩ := h
  simp only at hf hc
  have hb : Nat.ble (0 + ws.length) vs.length = true := Nat.ble_eq_true_of_le (by omega)
  have h0 : Nat.ble 0 0 = true := rfl
  have ec : cellsL (.agg ⟨ws⟩) = ws := rfl
  refine ⟨U, ⟨layCells c ws (c + 1 + 0) m, cc, ⟨true, c + 1 + 0, n⟩ :: ⟨false, c, 1⟩ :: l⟩, rfl, 0, fun _ _ => ?_⟩
  simp only [storeT, hs, Ev.opt, ec, gd, hw, Nat.beq_refl, Prog.run, St.wr, hf, Bool.false_or, h0, hv, Bool.not_true, Nat.add_eq]
  rw [← hn, hn] at *
  simp only [hw] at hb
  simp only [hb, Bool.not_true]
end
end Go.Ev
namespace Go.Proofs.YtpljgnjdlciicaaGreatDoor
open Go Go.Ev Go.Proofs
section
variable {s : St} {b : Nat} {str : ByteArray} {ts : List Tok} {en i err : Int}
theorem PI.incL (h : PI s b str ts en i err) : Ok (fun _ => storeT En 3 b 2 (.int .i64 (i + 1))) s (fun _ s' => s'.log = [⟨true, b + 1 + 2, 1⟩, ⟨false, b, 1⟩] ++ s.log) := by
  obtain ⟨deep, bad, h1, _⟩ := h
  refine Ok.mono (Ok.store1 (n := 7) (by kernel_rfl) rfl h1.1.1 (by omega) rfl) ?_
  rintro w s' ⟨rfl, rfl⟩
  rfl
theorem next_log (cx : Cx str ts en) (h : PI s b str ts en i err) {t : Tok} (ht : ts[i.toNat]? = some t) {lo : Nat} (hlo : lo ≤ s.ctr) : Ok (fun f => callF En (runP En f) 96 [.pointer (some ⟨b, 0, none⟩)]) s (fun _ s' => La b lo s s') := by
  have t3 : scal En 3 = true := by kernel_rfl
  have t42 : scal En 42 = true := by kernel_rfl
  have hl : i.toNat < ts.length := (List.getElem?_eq_some_iff.1 ht).1
  have hte : ts[i.toNat]'hl = t := by
    rw [List.getElem?_eq_getElem hl] at ht
    exact Option.some.inj ht
  have hi := h.low
  have hf := cx.few
  have hc := h.ctr
  have inB : ∀ {s s' : St} {o : Nat} {w : Bool}, o < 7 → s'.log = [⟨w, b + 1 + o, 1⟩, ⟨false, b, 1⟩] ++ s.log → La b lo s s' := by
    intro s s' o w ho e
    refine ⟨_, e, fun a ha => ?_⟩
    simp only [List.mem_cons, List.not_mem_nil, or_false] at ha
    rcases ha with rfl | rfl <;> exact .inl (by simp only; omega)
  refine Ok.step (fun f => f96_eq f b) ?_
  refine Ok.callP (Ok.and (Ok.newK (b := b) rfl hlo) (Ok.newL rfl)) ?_
  rintro v s1 ⟨⟨rfl, e1, e2, e3, k1⟩, g1⟩
  have L1 : La b lo s s1 := ⟨_, g1, fun a ha => by simp only [List.mem_singleton] at ha; subst ha; exact .inr hlo⟩
  refine Ok.t rfl ?_
  simp only [blk_itP, off_itP]
  have h1 : PI s1 b str ts en i err := h.mem (by omega) fun k hk => e3 k (by omega)
  refine Ok.callP (Ok.load1 t3 h1.c2) ?_
  rintro v s2 ⟨rfl, m2, c2, l2⟩
  have r2 : Reads s1 s2 := ⟨m2, c2, [⟨false, b + 1 + 2, 1⟩, ⟨false, b, 1⟩], l2, rfl⟩
  have L2 := L1.trans (inB (s := s1) (s' := s2) (o := 2) (by omega) l2)
  refine Ok.t rfl ?_
  simp only [intOf, wrap1 (i := i) (by omega)]
  refine Ok.callP (Ok.and ((h1.reads r2).inc (by omega)) (h1.reads r2).incL) ?_
  rintro v s3 ⟨⟨rfl, h3, c3, k3a⟩, g3⟩
  have L3 := L2.trans (inB (by omega) g3)
  refine Ok.segLoadE t42 h3.c1 fun s4 r4 g4 => ?_
  have L4 := L3.trans (inB (by omega) g4)
  refine Ok.t rfl ?_
  refine Ok.segLoadE t3 (h3.c2.reads r4) fun s5 r5 g5 => ?_
  have L5 := L4.trans (inB (by omega) g5)
  have r5 := r4.trans r5
  refine Ok.gdL (by kernel_rfl) (Ok.t rfl ?_)
  have hw : IntKind.i64.wrap (i + 1 + -1) = i := by rw [show i + 1 + -1 = i by omega]; exact wrap_in _ (by omega) (by omega)
  simp only [show ∀ x, elems (lstV x) = x from fun _ => rfl, intOf, hw, at_toks ts i.toNat hl, hte]
  refine Ok.t (decide_eq_true hi.1) (Ok.t (bnd_toks ts i.toNat hl) (Ok.t rfl (Ok.t rfl ?_)))
  have q1 : Row s1.mem s.ctr [.int .i64 0, .int .i64 0, .int .i64 0, .string (mkStr []), .int .i64 0, .slice none 0 0, .slice none 0 0, .slice none 0 0] := e2
  have q5 : Row s5.mem s.ctr [.int .i64 0, .int .i64 0, .int .i64 0, .string (mkStr []), .int .i64 0, .slice none 0 0, .slice none 0 0, .slice none 0 0] := by
    refine q1.congr fun j j1 j2 => ?_
    simp only [List.length_cons, List.length_nil] at j2
    rw [r5.1]
    exact ((r2.kq b (s.ctr + 9)).trans (k3a _)).mem j (by omega) (.inr (by omega))
  refine Ok.seg (Q1 := fun v s' => Row s'.mem s.ctr t.cells ∧ s'.log = [⟨true, s.ctr + 1 + 0, 8⟩, ⟨false, s.ctr, 1⟩]) (Ok.mono (Ok.and (Ok.storeRowK (s := ⟨s5.mem, s5.ctr, []⟩) (ws := t.cells) (b := b) (lo := lo) (by kernel_rfl) q5 rfl rfl rfl hlo) (Ok.storeRowL (s := ⟨s5.mem, s5.ctr, []⟩) (ws := t.cells) (by kernel_rfl) q5 rfl rfl rfl)) (fun v s' h => ⟨h.1.2.2.1, h.2⟩)) ?_
  rintro v s6 ⟨q6, g6⟩
  refine Ok.gdL (by kernel_rfl) ?_
  have L6 : La b lo s ⟨s6.mem, s6.ctr, s6.log ++ s5.log⟩ := L5.trans ⟨s6.log, rfl, fun a ha => by
    rw [g6] at ha
    simp only [List.mem_cons, List.not_mem_nil, or_false] at ha
    rcases ha with rfl | rfl <;> exact .inr (by simp only; omega)⟩
  refine Ok.call (Ok.loadA (n := 8) (vs := t.cells) (by kernel_rfl) (by kernel_rfl) rfl (hdr_of q6) (show CellsAt s6.mem s.ctr (s.ctr + 1 + 0) t.cells from q6.2)) ?_
  rintro v s7 ⟨rfl, m7, c7, l7⟩
  have e7 : Value.agg ⟨t.cells⟩ = tokV t := rfl
  rw [e7]
  simp only [frz50]
  refine Ok.ret (L6.trans ⟨[⟨false, s.ctr + 1 + 0, 8⟩, ⟨false, s.ctr, 1⟩], l7, fun a ha => ?_⟩)
  simp only [List.mem_cons, List.not_mem_nil, or_false] at ha
  rcases ha with rfl | rfl <;> exact .inr (by simp only; omega)
end
end Go.Proofs.YtpljgnjdlciicaaGreatDoor
namespace Go.Proofs.YtpljgnjdlciicaaGreatDoor
open Go Go.Ev Go.Proofs
theorem Grow.lo {m : Tr Slot} {lo lo' hi el sz : Nat} {cs : List Value} {v : Value} (h : Grow m lo hi el sz cs v) (e : lo' ≤ lo) : Grow m lo' hi el sz cs v := by
  obtain ⟨h1, h2⟩ := h
  refine ⟨h1, ?_⟩
  rcases h2 with h2 | ⟨r, n, sy, olds, rfl, a2, a3, a4, a5, a6, a7⟩
  · exact .inl h2
  · exact .inr ⟨r, n, sy, olds, rfl, a2, by omega, a4, fun k hk => by have := a5 k hk; omega, a6, a7⟩
theorem frz139 (k a t : Int) (tx : ByteArray) (a1 a2 a3 a4 a5 : Value) (vb : Bool) (K : Value → Prog) : frzT En 139 (.agg ⟨[.int .i64 k, .int .i64 a, .string tx, .int .i64 t, a1, a2, a3, a4, a5, .bool vb]⟩) K =
    frzL En 20 2 a1 fun b1 => frzL En 20 9 a2 fun b2 => frzL En 20 34 a3 fun b3 => frzL En 20 9 a4 fun b4 => frzL En 20 36 a5 fun b5 => K (.agg ⟨[.int .i64 k, .int .i64 a, .string tx, .int .i64 t, b1, b2, b3, b4, b5, .bool vb]⟩) := by kernel_rfl
structure TM (m : Tr Slot) (hi b c0 c1 c2 : Nat) : Prop where
  p : Row m c0 [.pointer (some ⟨b, 0, none⟩)]
  res : ∃ ds, Row m c1 ds ∧ ds.length = 10
  t : ∃ (k a t : Int) (tx : ByteArray) (a1 a2 a3 a4 a5 : Value) (l1 l2 l3 l4 l5 : List Value) (vb : Bool), Row m c2 [.int .i64 k, .int .i64 a, .string tx, .int .i64 t, a1, a2, a3, a4, a5, .bool vb] ∧ LV a1 l1 ∧ LV a2 l2 ∧ LV a3 l3 ∧ LV a4 l4 ∧ (LV a5 l5 ∨ Grow m (c2 + 11) hi 36 9 (flatC l5) a5) ∧ (∀ x, x ∈ l5 → Nd x) ∧ l5.length ≤ 100000 ∧ (k = 7 → l5.length = 3)
  le : b + 8 ≤ c0 ∧ c0 + 2 ≤ c1 ∧ c1 + 11 ≤ c2 ∧ c2 + 11 ≤ hi
theorem TM.frame {m m' : Tr Slot} {hi hi' b c0 c1 c2 : Nat} (h : TM m hi b c0 c1 c2) (hh : hi ≤ hi') (e : ∀ j, j < hi → b + 8 ≤ j → m'.get j = m.get j) : TM m' hi' b c0 c1 c2 := by
  obtain ⟨h1, ⟨ds, h2, h3⟩, ⟨k, a, t, tx, a1, a2, a3, a4, a5, l1, l2, l3, l4, l5, vb, r, u1, u2, u3, u4, u5, u6⟩, q1, q2, q3, q4⟩ := h
  refine ⟨h1.congr fun j j1 j2 => e j (by simp only [List.length_cons, List.length_nil] at j2; omega) (by omega), ⟨ds, h2.congr fun j j1 j2 => e j (by omega) (by omega), h3⟩, ⟨k, a, t, tx, a1, a2, a3, a4, a5, l1, l2, l3, l4, l5, vb, r.congr fun j j1 j2 => e j (by simp only [List.length_cons, List.length_nil] at j2; omega) (by omega), u1, u2, u3, u4, ?_, u6⟩, q1, q2, q3, by omega⟩
  rcases u5 with u5 | u5
  · exact .inl u5
  · exact .inr (u5.congr hh fun j j1 j2 => e j j2 (by omega))
theorem TM.kq {b c0 c1 c2 : Nat} {s s' : St} (h : TM s.mem s.ctr b c0 c1 c2) (k : Kq b s.ctr s s') : TM s'.mem s'.ctr b c0 c1 c2 := h.frame k.ctr fun j j1 j2 => k.mem j j1 (.inr j2)
section
variable {s s0 : St} {b c0 c1 c2 : Nat} {str : ByteArray} {ts : List Tok} {en i i0 err : Int}
def TermQ (b : Nat) (str : ByteArray) (ts : List Tok) (en i0 : Int) (s0 : St) (v : Value) (s' : St) : Prop := TmV v ∧ (∃ i' err', PI s' b str ts en i' err' ∧ i0 ≤ i' ∧ (err' = 0 → i0 < i')) ∧ Kq b s0.ctr s0 s'
theorem term_end (h : TM s.mem s.ctr b c0 c1 c2) (p : PI s b str ts en i err) (k : Kq b s0.ctr s0 s) (hs : s0.ctr ≤ c0) (hi : i0 ≤ i) (hp : err = 0 → i0 < i) :
    Ok (fun f => callP (fun v44 => cnd (callP (fun v45 => Prog.call (loadT En 139 c1 0) fun v46 => frzT En 139 v46 fun v47 => Prog.ret v47) (storeT En 139 c1 0 (Value.agg ⟨((Value.int IntKind.i64 (intOf (at_ (aggOf v44) 0))) :: ((Value.int IntKind.i64 (intOf (at_ (aggOf v44) 1))) :: ((Value.string (strOf (at_ (aggOf v44) 2))) :: ((Value.int IntKind.i64 (intOf (at_ (aggOf v44) 3))) :: ((at_ (aggOf v44) 4) :: ((at_ (aggOf v44) 5) :: ((at_ (aggOf v44) 6) :: ((at_ (aggOf v44) 7) :: ((at_ (aggOf v44) 8) :: ((Value.bool (boolOf (at_ (aggOf v44) 9))) :: []))))))))))⟩))) Prog.fail ((isAggV v44) && (okKs ((Kd.int IntKind.i64) :: ((Kd.int IntKind.i64) :: (Kd.str :: ((Kd.int IntKind.i64) :: (Kd.raw :: (Kd.raw :: (Kd.raw :: (Kd.raw :: (Kd.raw :: (Kd.bool :: [])))))))))) (aggOf v44)))) (loadT En 139 c2 0)) s (TermQ b str ts en i0 s0) := by
  obtain ⟨_, ⟨ds, d1, d2⟩, ⟨k0, a, t, tx, a1, a2, a3, a4, a5, l1, l2, l3, l4, l5, vb, r, u1, u2, u3, u4, u5, u6, u7, u8⟩, q1, q2, q3, q4⟩ := h
  refine Ok.callP (Ok.loadA (b := c2) (o := 0) (n := 10) (by kernel_rfl) (by kernel_rfl) rfl (hdr_of r) (show CellsAt s.mem c2 (c2 + 1 + 0) _ from r.2)) ?_
  rintro v s1 ⟨rfl, m1, cc1, lg1⟩
  have r1 : Reads s s1 := ⟨m1, cc1, [⟨false, c2 + 1 + 0, 10⟩, ⟨false, c2, 1⟩], lg1, rfl⟩
  refine Ok.t rfl ?_
  have o5 : oneC a5 = true := by rcases u5 with u5 | u5; exact u5.one; exact u5.one.1
  refine Ok.callP (Ok.storeRowK (b := b) (lo := s0.ctr) (n := 10) (ws := [.int .i64 k0, .int .i64 a, .string tx, .int .i64 t, a1, a2, a3, a4, a5, .bool vb]) (by kernel_rfl) (show Row s1.mem c1 ds by rw [m1]; exact d1) d2 rfl (by simp only [List.all_cons, u1.one, u2.one, u3.one, u4.one, o5]; rfl) (by omega)) ?_
  rintro v s2 ⟨rfl, e2, g2, f2, k2⟩
  refine Ok.call (Ok.loadA (b := c1) (o := 0) (n := 10) (by kernel_rfl) (by kernel_rfl) rfl (hdr_of g2) (show CellsAt s2.mem c1 (c1 + 1 + 0) _ from g2.2)) ?_
  rintro v s3 ⟨rfl, m3, cc3, lg3⟩
  have r3 : Reads s2 s3 := ⟨m3, cc3, [⟨false, c1 + 1 + 0, 10⟩, ⟨false, c1, 1⟩], lg3, rfl⟩
  simp only [frz139, u1.frz, u2.frz, u3.frz, u4.frz]
  have p3 : PI s3 b str ts en i err := ((p.reads r1).mem (by omega) fun j hj => f2 j (by omega)).reads r3
  have lg : LG s3 (c2 + 11) a5 l5 := by
    rcases u5 with u5 | u5
    · exact .inl u5
    · exact .inr (u5.congr (by omega) fun j j1 j2 => by rw [m3, f2 j (by omega), m1])
  refine LG.frz lg u6 fun s4 e4 k4 _ => ?_
  refine Ok.ret ⟨⟨_, _, _, _, _, _, _, _, _, _, rfl, u6, by omega, u8⟩, ⟨i, err, p3.mem (by omega) fun j hj => Kq.low k4 j (by omega), hi, hp⟩, ?_⟩
  exact (((k.trans (r1.kq b _)).trans k2).trans (r3.kq b _)).trans ((k4 b).weaken (by omega))
end
end Go.Proofs.YtpljgnjdlciicaaGreatDoor
namespace Go.Ev
open Go
theorem Ok.constG {p : Nat → Prog} {s : St} {v : Value} (h : ∀ f, p f = gd true (.ret v)) : Ok p s (fun w s' => w = v ∧ s' = s) := ⟨v, s, ⟨rfl, rfl⟩, 0, fun f _ => by rw [h f]; rfl⟩
theorem Ok.congrP {p q : Nat → Prog} {s : St} {Q : Value → St → Prop} (e : ∀ f, p f = q f) (h : Ok q s Q) : Ok p s Q := by
  obtain ⟨v, s', h1, f0, h2⟩ := h
  exact ⟨v, s', h1, f0, fun f hf => by rw [e f]; exact h2 f hf⟩
theorem killLogB {lo hi : Nat} : ∀ (ks : List Nat) (l : List Acc), (∀ k, k ∈ ks → lo ≤ k ∧ k < hi) → ∃ l', killLog ks l = l' ++ l ∧ ∀ a, a ∈ l' → lo ≤ a.k ∧ a.k + a.n ≤ hi
  | [], l, _ => ⟨[], rfl, fun a ha => by cases ha⟩
  | k :: ks, l, h => by
    obtain ⟨l', e1, e2⟩ := killLogB ks (⟨true, k, 1⟩ :: l) fun j hj => h j (List.mem_cons_of_mem _ hj)
    refine ⟨l' ++ [⟨true, k, 1⟩], by simp only [killLog, e1, List.append_assoc, List.singleton_append], fun a ha => ?_⟩
    rcases List.mem_append.1 ha with ha | ha
    · exact e2 a ha
    · simp only [List.mem_singleton] at ha
      subst ha
      have := h k (List.mem_cons_self ..)
      exact ⟨this.1, by simp only; omega⟩
theorem Grow.frzX {m : Tr Slot} {lo hi el sz : Nat} {cs : List Value} {r n c : Nat} {l : List Acc} (h : Grow m lo hi el sz cs (.slice (some ⟨r, 0, none⟩) n c)) :
    ∃ s', St.frz ⟨m, hi, l⟩ r (n * sz) 0 = some (cs, s') ∧ s'.ctr = hi ∧ (∀ b, Kq b lo ⟨m, hi, l⟩ s') ∧ (∀ ks, Own m (.slice (some ⟨r, 0, none⟩) n c) ks → ∀ k, k ∉ ks → s'.mem.get k = m.get k) ∧ ∃ l', s'.log = l' ++ l ∧ ∀ a, a ∈ l' → lo ≤ a.k ∧ a.k + a.n ≤ r + 1 + cs.length := by
  obtain ⟨h1, h2⟩ := h
  rcases h2 with ⟨e, _⟩ | ⟨r', n', sy, olds, e, a2, a3, a4, a5, a6, a7⟩
  · cases e
  · cases e
    have hrd : rdCells m r (n * sz) 0 = some cs := by rw [← a2]; exact CellsAt.rd a7
    obtain ⟨l', e1, e2⟩ := killLogB (lo := lo) (hi := r) olds (⟨false, Nat.add (Nat.add r 1) 0, n * sz⟩ :: l) fun k hk => a5 k hk
    refine ⟨⟨(kill olds m).set r none, hi, ⟨true, r, 1⟩ :: killLog olds (⟨false, Nat.add (Nat.add r 1) 0, n * sz⟩ :: l)⟩, by simp only [St.frz, a6, Bool.false_or, hrd, h1], rfl, (fun b => ⟨Nat.le_refl _, fun k hk _ => ?_, ⟨true, r, 1⟩ :: (l' ++ [⟨false, Nat.add (Nat.add r 1) 0, n * sz⟩]), ?_, fun a ha => ?_⟩), (fun ks hks k hk => ?_), ⟨true, r, 1⟩ :: (l' ++ [⟨false, Nat.add (Nat.add r 1) 0, n * sz⟩]), ?_, fun a ha => ?_⟩
    · simp only
      rw [Tr.get_set, if_neg (by omega), kill_at, if_neg]
      intro hm
      have := a5 k hm
      omega
    · simp only [e1, List.cons_append, List.append_assoc, List.nil_append]
    · simp only [writesOf, List.mem_cons, writesOf_append, List.append_nil] at ha
      rcases ha with rfl | ha
      · exact .inr a3
      · exact .inr (e2 a (mem_writes ha)).1
    · simp only
      rcases hks with ⟨e, _⟩ | ⟨r2, n2, c2, h2, e, g2, rfl⟩
      · cases e
      · cases e
        rw [a6] at g2
        simp only [Option.some.injEq, Slot.hdr.injEq] at g2
        subst g2
        simp only [List.mem_cons, not_or] at hk
        rw [Tr.get_set, if_neg hk.1, kill_at, if_neg hk.2]
    · simp only [e1, List.cons_append, List.append_assoc, List.nil_append]
    · simp only [List.mem_cons, List.mem_append, List.not_mem_nil, or_false] at ha
      rcases ha with rfl | ha | rfl
      · exact ⟨a3, by simp only; omega⟩
      · have := e2 a ha
        omega
      · simp only [Nat.add_eq]
        omega
end Go.Ev
namespace Go.Proofs.YtpljgnjdlciicaaGreatDoor
open Go Go.Ev Go.Proofs
theorem LG.frzX {s : St} {Q : Value → St → Prop} {lo : Nat} {v : Value} {l : List Value} {p : Nat → Value → Prog} (h : LG s lo v l) (hn : ∀ x, x ∈ l → Nd x)
    (hk : ∀ s', s'.ctr = s.ctr → (∀ b, Kq b lo s s') → (∀ ks, Own s.mem v ks → ∀ k, k ∉ ks → s'.mem.get k = s.mem.get k) → (∃ l', s'.log = l' ++ s.log ∧ ∀ a, a ∈ l' → lo ≤ a.k ∧ ∃ r n c, v = .slice (some ⟨r, 0, none⟩) n c ∧ a.k + a.n ≤ r + 1 + (flatC l).length) → Ok (fun f => p f (lstV l)) s' Q) : Ok (fun f => Ev.frzL En 20 36 v (p f)) s Q := by
  rcases h with h | h
  · have e : ∀ f, Ev.frzL En 20 36 v (p f) = p f (lstV l) := fun f => h.frz 36 (p f)
    simp only [e]
    exact hk s rfl (fun _ => Kq.refl _ _ _) (fun _ _ _ _ => rfl) ⟨[], rfl, fun a ha => by cases ha⟩
  obtain ⟨m, c, lg⟩ := s
  have h' := h
  have hfl := (flat_nodes l hn).flat
  rcases h.2 with ⟨rfl, e⟩ | ⟨r, n, sy, olds, rfl, a2, _⟩
  · have h0 : l = [] := by
      rw [e] at hfl
      have := hfl.1
      simp only [List.length_nil] at this
      exact List.length_eq_zero_iff.1 (by omega)
    subst h0
    exact hk _ rfl (fun _ => Kq.refl _ _ _) (fun _ _ _ _ => rfl) ⟨[], rfl, fun a ha => by cases ha⟩
  · have hln : n = l.length := by
      have := hfl.1
      omega
    subst hln
    by_cases hz : l.length = 0
    · have h0 : l = [] := List.length_eq_zero_iff.1 hz
      subst h0
      exact hk _ rfl (fun _ => Kq.refl _ _ _) (fun _ _ _ _ => rfl) ⟨[], rfl, fun a ha => by cases ha⟩
    · obtain ⟨s', f1, f2, f3, f4, l', f5, f6⟩ := Grow.frzX (l := lg) h'
      have hb : Nat.beq l.length 0 = false := by
        cases hq : l.length with
        | zero => exact absurd hq hz
        | succ n => rfl
      have hs : En.size 36 = some 9 := by kernel_rfl
      have h1 : isOneT En 36 = false := by kernel_rfl
      have e2 : ∀ f, Ev.frzL En (19 + 1) 36 (.slice (some ⟨r, 0, none⟩) l.length (capOf l.length false)) (p f) = .frz r (l.length * 9) 0 fun vs => frzGo (frzL En 19) ((List.replicate l.length ()).flatMap fun _ => slN) vs fun vs => p f (lstV (chunkC false 9 l.length vs)) := by
        intro f
        unfold Ev.frzL
        simp only [hb, hs, Ev.opt, ck, slotsN, h1, Nat.mul_eq]
        rfl
      have e3 : ∀ f, Ev.frzL En 20 36 (.slice (some ⟨r, 0, none⟩) l.length (capOf l.length false)) (p f) = .frz r (l.length * 9) 0 fun vs => frzGo (frzL En 19) ((List.replicate l.length ()).flatMap fun _ => slN) vs fun vs => p f (lstV (chunkC false 9 l.length vs)) := e2
      simp only [e3]
      refine Ok.frzO f1 ?_
      simp only [frzGo_nodes l _ hn, chunk_nodes l hn]
      exact hk s' f2 f3 f4 ⟨l', f5, fun a ha => ⟨(f6 a ha).1, _, _, _, rfl, (f6 a ha).2⟩⟩
section
variable {s s0 : St} {b c0 c1 c2 : Nat} {str : ByteArray} {ts : List Tok} {en i i0 err : Int}
theorem term9 (cx : Cx str ts en) (hs : s0.ctr ≤ c0) : ∀ (m : Nat) (s : St) (i err : Int), ts.length - i < m → TM s.mem s.ctr b c0 c1 c2 → PI s b str ts en i err → Kq b s0.ctr s0 s → i0 ≤ i → (err = 0 → i0 < i) → Ok (fun f => p97_9 f c0 0 c1 0 c2 0) s (TermQ b str ts en i0 s0) := by
  have t3 : scal En 3 = true := by kernel_rfl
  intro m
  induction m with
  | zero =>
    intro s i err hm _ p
    have := p.low
    omega
  | succ m IH =>
    intro s i err hm h p k hi hp
    have hlow := p.low
    refine Ok.step (fun f => p97_9_eq f c0 0 c1 0 c2 0) ?_
    refine Ok.ptr h.p fun s1 r1 => ?_
    refine Ok.t rfl ?_
    simp only [blk_p, off_p, Nat.add_zero, Nat.zero_add]
    refine Ok.call (isound_ok (p.reads r1)) ?_
    rintro v s2 ⟨rfl, r2⟩
    have r2 := r1.trans r2
    refine Ok.t rfl ?_
    refine Ok.c (fun hb => ?_) (fun _ => term_end (h.kq (r2.kq b _)) (p.reads r2) (k.trans (r2.kq b _)) hs hi hp)
    have he : err = 0 := by simpa [boolOf] using hb
    refine Ok.ptr (by rw [r2.1]; exact h.p) fun s3 r3 => ?_
    have r3 := r2.trans r3
    refine Ok.t rfl ?_
    simp only [blk_p, off_p, Nat.add_zero, Nat.zero_add]
    refine Ok.call (iis_ok (p.reads r3) 5) ?_
    rintro v s4 ⟨⟨r, rfl, hr⟩, r4⟩
    have r4 := r3.trans r4
    have h4 := h.kq (r4.kq b _)
    have p4 := p.reads r4
    have k4 := k.trans (r4.kq b _)
    refine Ok.t rfl ?_
    refine Ok.c (fun hb2 => ?_) (fun _ => term_end h4 p4 k4 hs hi hp)
    obtain ⟨tk, ht, _⟩ := hr hb2
    have hit : i.toNat < ts.length := (List.getElem?_eq_some_iff.1 ht).1
    obtain ⟨hp4, ⟨ds, d1, d2⟩, ⟨k0, a, t, tx, a1, a2, a3, a4, a5, l1, l2, l3, l4, l5, vb, rr, u1, u2, u3, u4, u5, u6, u7, u8⟩, q1, q2, q3, q4⟩ := h4
    refine Ok.segLoad (b := c2) (o := 1) t3 (rr.cell 1 rfl) fun s5 r5 => ?_
    refine Ok.t rfl ?_
    refine Ok.segPtr (by rw [r5.1]; exact hp4) fun s6 r6 => ?_
    have r6 := r5.trans r6
    refine Ok.gdL (by kernel_rfl) (Ok.t rfl ?_)
    simp only [blk_p, off_p, Nat.add_zero, Nat.zero_add]
    have p6 : PI ⟨s6.mem, s6.ctr, []⟩ b str ts en i err := show PI s6 b str ts en i err from p4.reads r6
    have hc6 : s6.ctr = s4.ctr := r6.2.1
    refine Ok.segK (b := b) (lo := s4.ctr) (R := fun v s' => v = tokV tk ∧ PI s' b str ts en (i + 1) err ∧ ∀ a, a ∈ s'.log → (b ≤ a.k ∧ a.k + a.n ≤ b + 8) ∨ s4.ctr ≤ a.k)
      (Ok.mono (Ok.and (next_ok (lo := s4.ctr) cx p6 ht (by simp only; omega)) (next_log (lo := s4.ctr) cx p6 ht (by simp only; omega))) (fun v s' h => ⟨⟨h.1.1, h.1.2.1, fun a ha => by
        obtain ⟨l, e1, e2⟩ := h.2
        rw [e1, List.append_nil] at ha
        exact e2 a ha⟩, h.1.2.2⟩)) ?_
    rintro v m7 cc7 lg7 ⟨rfl, p7, a7⟩ k7 w7
    simp only at a7
    have k47 : Kq b s4.ctr s4 _ := (r6.kq b s4.ctr).trans k7
    refine Ok.gdL (freeL_wl w7 _ fun d hd => by
      simp only [List.mem_cons, List.not_mem_nil, or_false] at hd
      rcases hd with rfl | rfl
      · exact .inl (show Nat.testBit 56 3 = true from rfl)
      · exact .inr ⟨rfl, fun r hr => by simp only [List.mem_cons, List.not_mem_nil, or_false] at hr; rcases hr with rfl | rfl <;> simp only <;> omega⟩) (Ok.t rfl ?_)
    have hc7 : s4.ctr ≤ cc7 := k47.ctr
    have rr7 : Row m7 c2 [.int .i64 k0, .int .i64 a, .string tx, .int .i64 t, a1, a2, a3, a4, a5, .bool vb] := rr.congr fun j j1 j2 => k47.mem j (by simp only [List.length_cons, List.length_nil] at j2; omega) (.inr (by omega))
    have hp7 : Row m7 c0 [.pointer (some ⟨b, 0, none⟩)] := hp4.congr fun j j1 j2 => k47.mem j (by simp only [List.length_cons, List.length_nil] at j2; omega) (.inr (by omega))
    have d7 : Row m7 c1 ds := d1.congr fun j j1 j2 => k47.mem j (by omega) (.inr (by omega))
    have u5s : LV a5 l5 ∨ Grow m7 (c2 + 11) s4.ctr 36 9 (flatC l5) a5 := by
      rcases u5 with u5 | u5
      · exact .inl u5
      · exact .inr (u5.congr (Nat.le_refl _) fun j j1 j2 => k47.mem j j2 (.inr (by omega)))
    have u5c : LV a5 l5 ∨ Grow m7 (c2 + 11) cc7 36 9 (flatC l5) a5 := by
      rcases u5s with u5 | u5
      · exact .inl u5
      · exact .inr (u5.congr hc7 fun j _ _ => rfl)
    have p7 : PI ⟨m7, cc7, []⟩ b str ts en (i + 1) err := p7
    refine Ok.segLoadA (b := c2) (o := 0) (n := 9) (vs := [.int .i64 k0, .int .i64 a, .string tx, .int .i64 t, a1, a2, a3, a4, a5]) (by kernel_rfl) (by kernel_rfl) rfl (hdr_of rr7) (CellsAt.left (ys := [.bool vb]) rr7.2) fun s8 r8 => ?_
    refine Ok.gdL (freeL_rd (b := b) (lo := s4.ctr) rfl (fun r hr => by simp only [List.mem_cons, List.not_mem_nil, or_false] at hr; rcases hr with rfl | rfl <;> simp only <;> omega) _ (fun d hd => by
      simp only [List.mem_cons, List.not_mem_nil, or_false] at hd
      rcases hd with rfl | rfl | rfl
      · exact w7
      · intro a ha; cases ha
      · intro a ha; cases ha)) (Ok.t rfl ?_)
    have k8 := k47.trans (r8.kq b s4.ctr)
    obtain ⟨m8, cc8, lg8⟩ := s8
    obtain ⟨e81, e82, _⟩ := r8
    simp only at e81 e82
    subst m8
    subst cc8
    refine Ok.seg (Q1 := fun v s' => v = xlstV [.agg ⟨[.int .i64 k0, .int .i64 a, .string tx, .int .i64 t, lstV l1, lstV l2, lstV l3, lstV l4, lstV l5]⟩] ∧ s'.ctr = cc7 ∧ (∀ b, Kq b (c2 + 11) ⟨m7, cc7, []⟩ s') ∧ ∀ a, a ∈ s'.log → c2 + 11 ≤ a.k ∧ a.k + a.n ≤ s4.ctr) ?_ ?_
    · refine Ok.congrP (q := fun _ => frzL En 20 36 a5 fun b5 => .ret (xlstV [.agg ⟨[.int .i64 k0, .int .i64 a, .string tx, .int .i64 t, lstV l1, lstV l2, lstV l3, lstV l4, b5]⟩])) (fun f => (bs1 k0 a t tx a1 a2 a3 a4 a5).trans (by rw [u1.frz, u2.frz, u3.frz, u4.frz])) ?_
      have lg : LG ⟨m7, cc7, []⟩ (c2 + 11) a5 l5 := u5c
      refine LG.frzX (p := fun _ b5 => Prog.ret (xlstV [.agg ⟨[.int .i64 k0, .int .i64 a, .string tx, .int .i64 t, lstV l1, lstV l2, lstV l3, lstV l4, b5]⟩])) lg u6 fun s9 e9 k9 _ ⟨l', x1, x2⟩ => ?_
      refine Ok.ret ⟨rfl, e9, k9, fun a ha => ?_⟩
      rw [x1, List.append_nil] at ha
      obtain ⟨y1, r, n, c, y2, y3⟩ := x2 a ha
      refine ⟨y1, ?_⟩
      rcases u5s with z | z
      · subst y2
        rcases z with z | z | z
        · cases z
        · cases z
        · cases z.1
      · subst y2
        have := z.rng
        omega
    rintro v s9 ⟨rfl, e9, k9, a9⟩
    have kc9 : s9.ctr = cc7 := e9
    obtain ⟨m9, cc9, lg9⟩ := s9
    simp only at e9 a9
    subst cc9
    refine Ok.gdL (freeL_two _ fun d hd => by
      simp only [List.mem_cons, List.not_mem_nil, or_false] at hd
      rcases hd with rfl | rfl | rfl | rfl
      · exact .inl (show Nat.testBit 768 9 = true from rfl)
      · refine .inr ⟨fun a ha r hr => ?_, fun a ha r hr => ?_⟩
        · have := a9 r hr
          rcases w7 a ha with h | h
          · exact overlap_no (by omega)
          · exact overlap_no (by omega)
        · have := a9 a (mem_writes ha)
          rcases a7 r hr with h | h
          · exact overlap_no (by omega)
          · exact overlap_no (by omega)
      · refine .inr ⟨(fun a ha => by cases ha), fun a ha r hr => ?_⟩
        have := a9 a (mem_writes ha)
        simp only [List.mem_cons, List.not_mem_nil, or_false] at hr
        rcases hr with rfl | rfl <;> exact overlap_no (by simp only; omega)
      · refine .inr ⟨(fun a ha => by cases ha), fun a ha r hr => ?_⟩
        have := a9 a (mem_writes ha)
        simp only [List.mem_cons, List.not_mem_nil, or_false] at hr
        rcases hr with rfl | rfl <;> exact overlap_no (by simp only; omega)) ?_
    have low9 : ∀ k, k < c2 + 11 → m9.get k = m7.get k := fun j hj => Kq.low k9 j hj
    have rr9 : Row m9 c2 [.int .i64 k0, .int .i64 a, .string tx, .int .i64 t, a1, a2, a3, a4, a5, .bool vb] := rr7.congr fun j j1 j2 => low9 j (by simp only [List.length_cons, List.length_nil] at j2; omega)
    have hnd : Nd (.agg ⟨[.int .i64 k0, .int .i64 a, .string tx, .int .i64 t, lstV l1, lstV l2, lstV l3, lstV l4, lstV l5]⟩) := .mk u6 (by omega) u8
    generalize (Value.agg ⟨[.int .i64 k0, .int .i64 a, .string tx, .int .i64 t, lstV l1, lstV l2, lstV l3, lstV l4, lstV l5]⟩) = nd at *
    refine Ok.seg (Q1 := fun v s' => v = .agg ⟨[.int .i64 5, .int .i64 a, .string tk.text, .int .i64 0, .slice none 0 0, .slice none 0 0, .slice none 0 0, .slice none 0 0, xlstV [nd]]⟩ ∧ s' = ⟨m9, cc7, []⟩) (Ok.constG fun f => by kernel_rfl) ?_
    rintro v sA ⟨rfl, rfl⟩
    refine Ok.gdL (by kernel_rfl) ?_
    refine Ok.seg (Q1 := fun v s' => v = .agg ⟨[.int .i64 5, .int .i64 a, .string tk.text, .int .i64 0, .slice none 0 0, .slice none 0 0, .slice none 0 0, .slice none 0 0, xlstV [nd], .bool true]⟩ ∧ s' = ⟨m9, cc7, []⟩) (Ok.constG fun f => by kernel_rfl) ?_
    rintro v sB ⟨rfl, rfl⟩
    refine Ok.gdL (by kernel_rfl) ?_
    refine Ok.segK (b := b) (lo := c2) (R := fun _ s' => Row s'.mem c2 [.int .i64 5, .int .i64 a, .string tk.text, .int .i64 0, .slice none 0 0, .slice none 0 0, .slice none 0 0, .slice none 0 0, xlstV [nd], .bool true] ∧ (∀ k, (k ≤ c2 ∨ c2 + 1 + 10 ≤ k) → s'.mem.get k = m9.get k) ∧ s'.ctr = cc7)
      (Ok.mono (Ok.storeRowK (s := ⟨m9, cc7, []⟩) (b := b) (lo := c2) (n := 10) (by kernel_rfl) rr9 rfl rfl rfl (Nat.le_refl _)) (fun v s' h => ⟨⟨h.2.2.1, h.2.2.2.1, h.2.1⟩, h.2.2.2.2⟩)) ?_
    rintro v mC ccC lgC ⟨rrC, fC, hcC⟩ kC wC
    simp only at rrC fC hcC
    refine Ok.gdL (by kernel_rfl) ?_
    have lowC : ∀ k, k < c2 → mC.get k = m7.get k := fun j hj => by rw [fC j (by omega), low9 j (by omega)]
    have k9' : Kq b (c2 + 11) _ _ := (show Kq b (c2 + 11) ⟨m7, cc7, lg8⟩ ⟨m9, cc7, lg9 ++ lg8⟩ from by
      obtain ⟨x1, x2, l, x3, x4⟩ := k9 b
      exact ⟨x1, x2, l, by simp only [List.append_nil] at x3; rw [x3], x4⟩)
    have kAll := (((k4.trans (k8.weaken (by omega))).trans (k9'.weaken (by omega))).trans (kC.weaken (by omega)))
    refine IH _ (i + 1) err (by omega) ⟨hp7.congr fun j j1 j2 => lowC j (by simp only [List.length_cons, List.length_nil] at j2; omega), ⟨ds, d7.congr fun j j1 j2 => lowC j (by omega), d2⟩, ⟨_, _, _, _, _, _, _, _, _, _, _, _, _, _, _, rrC, LV.n, LV.n, LV.n, LV.n, .inl (LV.x [nd]), (fun x hx => by simp only [List.mem_singleton] at hx; subst hx; exact hnd), by simp, fun h => absurd h (by decide)⟩, q1, q2, q3, by simp only; omega⟩ (p7.mem (by simp only; omega) fun j hj => lowC j (by omega)) kAll (by omega) (fun _ => by omega)
end
end Go.Proofs.YtpljgnjdlciicaaGreatDoor
namespace Go.Ev
open Go
theorem CellsAt.congr' {m m' : Tr Slot} {b k : Nat} {vs ws ys : List Value} (h : CellsAt m b (k + vs.length) ys) (e : ws.length = vs.length) (g : ∀ j, k + ws.length ≤ j → m'.get j = m.get j) : CellsAt m' b (k + ws.length) ys := by
  rw [e] at g ⊢
  exact h.congr fun j j1 _ => g j j1
theorem Ok.storePre {E : Env} {s : St} {b lo t c : Nat} {vs ws ys : List Value} (hs : E.size t = some ws.length) (h : Row s.mem c (vs ++ ys)) (hw : ws.length = vs.length) (hv : ws.all oneC = true) (hlo : lo ≤ c) :
    Ok (fun _ => storeT E t c 0 (.agg ⟨ws⟩)) s (fun w s' => w = U ∧ s'.ctr = s.ctr ∧ Row s'.mem c (ws ++ ys) ∧ (∀ k, (k ≤ c ∨ c + 1 + ws.length ≤ k) → s'.mem.get k = s.mem.get k) ∧ Kq b lo s s') := by
  obtain ⟨m, cc, l⟩ := s
  obtain ⟨⟨el, ex, z, sy, hf⟩, hc⟩ := h
  simp only at hf hc
  have hb : Nat.ble (0 + ws.length) (vs ++ ys).length = true := Nat.ble_eq_true_of_le (by rw [List.length_append]; omega)
  have h0 : Nat.ble 0 0 = true := rfl
  have ec : cellsL (.agg ⟨ws⟩) = ws := rfl
  have hl : (ws ++ ys).length = (vs ++ ys).length := by rw [List.length_append, List.length_append, hw]
  refine ⟨U, ⟨layCells c ws (c + 1 + 0) m, cc, ⟨true, c + 1 + 0, ws.length⟩ :: ⟨false, c, 1⟩ :: l⟩, ⟨rfl, rfl, ⟨⟨el, ex, z, sy, ?_⟩, ?_⟩, fun k hk => ?_, Nat.le_refl _, fun k hk _ => ?_, [⟨true, c + 1 + 0, ws.length⟩, ⟨false, c, 1⟩], rfl, fun a ha => ?_⟩, 0, fun _ _ => ?_⟩
  · simp only
    rw [lay_below _ _ _ _ _ (by omega), hf, hl]
  · simp only
    refine CellsAt.append (CellsAt.lay _ _ _) ((CellsAt.right hc).congr' hw fun j hj => lay_below _ _ _ _ _ (by omega))
  · simp only
    rw [lay_below _ _ _ _ _ (by omega)]
  · simp only
    rw [lay_below _ _ _ _ _ (by omega)]
  · simp only [writesOf, List.mem_singleton] at ha
    subst ha
    exact .inr (by simp only; omega)
  · simp only [storeT, hs, Ev.opt, ec, gd, Nat.beq_refl, Prog.run, St.wr, hf, Bool.false_or, h0, hv, Bool.not_true, Nat.add_eq, hb]
end Go.Ev
namespace Go.Proofs.YtpljgnjdlciicaaGreatDoor
open Go Go.Ev Go.Proofs
section
variable {s s0 : St} {b c0 c1 c2 c3 : Nat} {str : ByteArray} {ts : List Tok} {en i i0 err : Int}
structure L0 (b c0 c3 : Nat) (s : St) : Prop where
  p : Row s.mem c0 [.pointer (some ⟨b, 0, none⟩)]
  l : ∃ x, Row s.mem c3 [xlstV [x]] ∧ Nd x
  le : b + 8 ≤ c0 ∧ c0 + 2 ≤ c3 ∧ c3 + 2 ≤ s.ctr
structure L1 (b c0 c3 : Nat) (s : St) : Prop where
  p : Row s.mem c0 [.pointer (some ⟨b, 0, none⟩)]
  l : ∃ w l, Row s.mem c3 [w] ∧ LG s (c3 + 2) w l ∧ (∀ x, x ∈ l → Nd x) ∧ l.length ≤ 30000
  le : b + 8 ≤ c0 ∧ c0 + 2 ≤ c3 ∧ c3 + 2 ≤ s.ctr
theorem L0.kq {s s' : St} (h : L0 b c0 c3 s) (k : Kq b s.ctr s s') : L0 b c0 c3 s' := by
  obtain ⟨h1, ⟨x, h2, h3⟩, q1, q2, q3⟩ := h
  have := k.ctr
  exact ⟨h1.congr fun j j1 j2 => k.mem j (by simp only [List.length_cons, List.length_nil] at j2; omega) (.inr (by omega)), ⟨x, h2.congr fun j j1 j2 => k.mem j (by simp only [List.length_cons, List.length_nil] at j2; omega) (.inr (by omega)), h3⟩, q1, q2, by omega⟩
theorem L1.kq {s s' : St} (h : L1 b c0 c3 s) (k : Kq b s.ctr s s') : L1 b c0 c3 s' := by
  obtain ⟨h1, ⟨w, l, h2, h3, h4⟩, q1, q2, q3⟩ := h
  have := k.ctr
  exact ⟨h1.congr fun j j1 j2 => k.mem j (by simp only [List.length_cons, List.length_nil] at j2; omega) (.inr (by omega)), ⟨w, l, h2.congr fun j j1 j2 => k.mem j (by simp only [List.length_cons, List.length_nil] at j2; omega) (.inr (by omega)), h3.mem k.ctr fun j j1 j2 => k.mem j j2 (.inr (by omega)), h4⟩, q1, q2, by omega⟩
theorem L0.l1 {s : St} (h : L0 b c0 c3 s) : L1 b c0 c3 s := by
  obtain ⟨h1, ⟨x, h2, h3⟩, q⟩ := h
  exact ⟨h1, ⟨_, [x], h2, .inl (LV.x [x]), fun y hy => by simp only [List.mem_singleton] at hy; subst hy; exact h3, by simp⟩, q⟩
theorem term1_ok {n : Int} (cx : Cx str ts en) (hL : ListOK b str ts en n) (h : L0 b c0 c3 s) (p : PI s b str ts en i 0) (hn : ts.length - i ≤ n) {lo : Nat} (hlo : lo ≤ c3) :
    Ok (fun f => callF En (runP En f) 134 [.pointer (some ⟨c0, 0, none⟩), .pointer (some ⟨c3, 0, none⟩)]) s (fun v s' => v = .tuple ⟨[]⟩ ∧ L1 b c0 c3 s' ∧ (∃ i' err', PI s' b str ts en i' err' ∧ i ≤ i') ∧ Kq b lo s s') := by
  have t23 : scal En 23 = true := by kernel_rfl
  have hle := h.le
  refine Ok.step (fun f => f134_eq f c0 0 c3 0) ?_
  refine Ok.ptr h.p fun s1 r1 => ?_
  refine Ok.t rfl ?_
  simp only [blk_p, off_p, Nat.add_zero]
  refine Ok.call (imark_ok cx (p.reads r1) _) ?_
  rintro v s2 ⟨⟨r, rfl, hr⟩, r2⟩
  have r2 := r1.trans r2
  have h2 := h.kq (r2.kq b _)
  have p2 := p.reads r2
  refine Ok.t rfl ?_
  refine Ok.c (fun _ => ?_) (fun _ => Ok.ret ⟨rfl, h2.l1, ⟨i, 0, p2, Int.le_refl _⟩, r2.kq b lo⟩)
  obtain ⟨hp2, ⟨x, g2, hx⟩, _, _, _⟩ := h2
  refine Ok.segLoad (b := c3) (o := 0) t23 (g2.cell 0 rfl) fun s3 r3 => ?_
  refine Ok.segPtr (by rw [r3.1]; exact hp2) fun s4 r4 => ?_
  have r4 := r3.trans r4
  refine Ok.gdL (by kernel_rfl) (Ok.t rfl (Ok.g rfl ?_))
  simp only [blk_p, off_p]
  have p4 : PI ⟨s4.mem, s4.ctr, []⟩ b str ts en i 0 := show PI s4 b str ts en i 0 from p2.reads r4
  have hc4 : s4.ctr = s2.ctr := r4.2.1
  have hc2 : s2.ctr = s.ctr := r2.2.1
  refine Ok.segK (b := b) (lo := s.ctr) (R := fun v s' => (∃ l, v = lstV l ∧ (∀ x, x ∈ l → Nd x) ∧ l.length ≤ 20000 ∧ l ≠ []) ∧ ∃ i' err', PI s' b str ts en i' err' ∧ i ≤ i') (Ok.mono (hL ⟨s4.mem, s4.ctr, []⟩ i 0 _ true true p4 fun _ => hn) (fun v s' h => by
    obtain ⟨⟨l, e1, e2, e3, e4⟩, e5, e6⟩ := h
    exact ⟨⟨⟨l, e1, e2, e3, e4 rfl⟩, e5⟩, e6.weaken (by simp only; omega)⟩)) ?_
  rintro v m5 cc5 lg5 ⟨⟨l, rfl, l1, l2, l3⟩, i', err', p5, hi5⟩ k5 w5
  have k5 := (r4.kq b s.ctr).trans k5
  refine Ok.gdL (freeL_wl w5 _ fun d hd => by
    simp only [List.mem_cons, List.not_mem_nil, or_false] at hd
    rcases hd with rfl | rfl
    · exact .inl (show Nat.testBit 6 1 = true from rfl)
    · exact .inr ⟨rfl, fun r hr => by simp only [List.mem_cons, List.not_mem_nil, or_false] at hr; rcases hr with rfl | rfl <;> simp only <;> omega⟩) (Ok.t rfl ?_)
  simp only [show ∀ x, elems (lstV x) = x from fun _ => rfl]
  have hc5 : s2.ctr ≤ cc5 := k5.ctr
  have g5 : Row m5 c3 [xlstV [x]] := g2.congr fun j j1 j2 => k5.mem j (by simp only [List.length_cons, List.length_nil] at j2; omega) (.inr (by omega))
  have hp5 : Row m5 c0 [.pointer (some ⟨b, 0, none⟩)] := hp2.congr fun j j1 j2 => k5.mem j (by simp only [List.length_cons, List.length_nil] at j2; omega) (.inr (by omega))
  have p5 : PI ⟨m5, cc5, []⟩ b str ts en i' err' := p5
  have hl0 : 0 < l.length := List.length_pos_iff.2 l3
  have ax : AllC 9 [x] := flat_nodes [x] fun y hy => by simp only [List.mem_singleton] at hy; subst hy; exact hx
  have hb8 := p5.b8
  have hbc := p5.ctr
  refine Ok.segK (b := b) (lo := s.ctr) (R := fun w' s' => Grow s'.mem cc5 s'.ctr 36 9 (flatC ([x] ++ l)) w' ∧ (∀ k, k < cc5 → s'.mem.get k = m5.get k) ∧ cc5 ≤ s'.ctr)
    (Ok.mono (Ok.and (Ok.appXK (s := ⟨m5, cc5, []⟩) b (lo := s.ctr) appN23 ax (flat_nodes l l1) hl0 (by simp only; omega) (by simp only [List.length_singleton]; omega)) (Ok.appXK (s := ⟨m5, cc5, []⟩) 0 (lo := cc5) appN23 ax (flat_nodes l l1) hl0 (Nat.le_refl _) (by simp only [List.length_singleton]; omega))) (fun v s' h => ⟨⟨by rw [flatC_app]; exact h.1.1, fun k hk => by
      by_cases hk8 : k < 8
      · exact h.1.2.mem k (by omega) (.inl (by omega))
      · exact h.2.2.mem k hk (.inr (by omega)), h.1.2.ctr⟩, h.1.2⟩)) ?_
  rintro w6 m6 cc6 lg6 ⟨g6, low6, hc6⟩ k6 w6'
  simp only at g6 low6 hc6
  refine Ok.gdL (by kernel_rfl) ?_
  have g6r : Row m6 c3 [xlstV [x]] := g5.congr fun j j1 j2 => low6 j (by simp only [List.length_cons, List.length_nil] at j2; omega)
  refine Ok.segK (b := b) (lo := c3) (R := fun _ s' => Row s'.mem c3 [w6] ∧ (∀ k, k ≠ c3 + 1 + 0 → s'.mem.get k = m6.get k) ∧ s'.ctr = cc6)
    (Ok.mono (Ok.storeCellK (s := ⟨m6, cc6, []⟩) (b := b) (lo := c3) (o := 0) (v := w6) (by kernel_rfl) g6.one.2 g6r (by simp) g6.one.1 (Nat.le_refl _)) (fun v s' h => ⟨⟨h.2.2.1, h.2.2.2.1, h.2.1⟩, h.2.2.2.2⟩)) ?_
  rintro v m7 cc7 lg7 ⟨g7, f7, hc7⟩ k7 w7
  simp only at g7 f7 hc7
  refine Ok.gdL (by kernel_rfl) ?_
  refine Ok.ret ⟨rfl, ⟨hp5.congr fun j j1 j2 => by simp only [List.length_cons, List.length_nil] at j2; rw [f7 j (by omega), low6 j (by omega)], ⟨w6, [x] ++ l, g7, .inr ((Grow.lo g6 (by omega)).congr (by simp only; omega) fun j j1 j2 => f7 j (by omega)), fun y hy => ?_, by simp only [List.length_append, List.length_singleton]; omega⟩, by omega, by omega, by simp only; omega⟩, ⟨i', err', p5.mem (by simp only; omega) fun j hj => by rw [f7 j (by omega), low6 j (by omega)], hi5⟩, (((r2.kq b lo).trans (k5.weaken (by omega))).trans (k6.weaken (by omega))).trans (k7.weaken hlo)⟩
  rcases List.mem_append.1 hy with hy | hy
  · simp only [List.mem_singleton] at hy
    subst hy
    exact hx
  · exact l1 y hy
theorem term5_stop (cx : Cx str ts en) (hs : s0.ctr ≤ c0) (he : err ≠ 0) (h : TM s.mem s.ctr b c0 c1 c2) (p : PI s b str ts en i err) (k : Kq b s0.ctr s0 s) (hi : i0 ≤ i) : Ok (fun f => p97_5 f c0 0 c1 0 c2 0) s (TermQ b str ts en i0 s0) := by
  have hlow := p.low
  refine Ok.step (fun f => p97_5_eq f c0 0 c1 0 c2 0) ?_
  refine Ok.ptr h.p fun s1 r1 => ?_
  refine Ok.t rfl ?_
  simp only [blk_p, off_p]
  refine Ok.call (isound_ok (p.reads r1)) ?_
  rintro v s2 ⟨rfl, r2⟩
  have r2 := r1.trans r2
  refine Ok.t rfl ?_
  exact Ok.f (decide_eq_false he) (term9 cx hs (ts.length + 1) _ i err (by omega) (h.kq (r2.kq b _)) (p.reads r2) (k.trans (r2.kq b _)) hi (fun e => absurd e he))
theorem term5 {n : Int} (cx : Cx str ts en) (hL : ListOK b str ts en n) (hs : s0.ctr ≤ c0) : ∀ (m : Nat) (s : St) (i err : Int), ts.length - i < m → TM s.mem s.ctr b c0 c1 c2 → PI s b str ts en i err → Kq b s0.ctr s0 s → i0 ≤ i → (err = 0 → i0 < i) → (err = 0 → ts.length - (i + 1) ≤ n) → Ok (fun f => p97_5 f c0 0 c1 0 c2 0) s (TermQ b str ts en i0 s0) := by
  have t3 : scal En 3 = true := by kernel_rfl
  have t23 : scal En 23 = true := by kernel_rfl
  intro m
  induction m with
  | zero =>
    intro s i err hm _ p
    have := p.low
    omega
  | succ m IH =>
    intro s i err hm h p k hi hp hn
    have hlow := p.low
    have go9 : ∀ {s' : St}, TM s'.mem s'.ctr b c0 c1 c2 → PI s' b str ts en i err → Kq b s0.ctr s0 s' → Ok (fun f => p97_9 f c0 0 c1 0 c2 0) s' (TermQ b str ts en i0 s0) := fun h p k => term9 cx hs (ts.length + 1) _ i err (by omega) h p k hi hp
    refine Ok.step (fun f => p97_5_eq f c0 0 c1 0 c2 0) ?_
    refine Ok.ptr h.p fun s1 r1 => ?_
    refine Ok.t rfl ?_
    simp only [blk_p, off_p, Nat.add_zero, Nat.zero_add]
    refine Ok.call (isound_ok (p.reads r1)) ?_
    rintro v s2 ⟨rfl, r2⟩
    have r2 := r1.trans r2
    refine Ok.t rfl ?_
    refine Ok.c (fun hb => ?_) (fun _ => go9 (h.kq (r2.kq b _)) (p.reads r2) (k.trans (r2.kq b _)))
    have he : err = 0 := by simpa [boolOf] using hb
    subst he
    refine Ok.ptr (by rw [r2.1]; exact h.p) fun s3 r3 => ?_
    have r3 := r2.trans r3
    refine Ok.t rfl ?_
    simp only [blk_p, off_p, Nat.add_zero, Nat.zero_add]
    refine Ok.call (imark_ok cx (p.reads r3) _) ?_
    rintro v s4 ⟨⟨r, rfl, hr⟩, r4⟩
    have r4 := r3.trans r4
    have h4 := h.kq (r4.kq b _)
    have p4 := p.reads r4
    have k4 := k.trans (r4.kq b _)
    refine Ok.t rfl ?_
    refine Ok.c (fun hb2 => ?_) (fun _ => go9 h4 p4 k4)
    have hlt : i < ts.length := hr hb2
    obtain ⟨hp4, ⟨ds, d1, d2⟩, ⟨k0, a, t, tx, a1, a2, a3, a4, a5, l1, l2, l3, l4, l5, vb, rr, u1, u2, u3, u4, u5, u6, u7, u8⟩, q1, q2, q3, q4⟩ := h4
    refine Ok.callP (Ok.loadA (b := c2) (o := 0) (n := 9) (vs := [.int .i64 k0, .int .i64 a, .string tx, .int .i64 t, a1, a2, a3, a4, a5]) (by kernel_rfl) (by kernel_rfl) rfl (hdr_of rr) (CellsAt.left (ys := [.bool vb]) rr.2)) ?_
    rintro v s5 ⟨rfl, m5, cc5, lg5⟩
    have r5 : Reads s4 s5 := ⟨m5, cc5, [⟨false, c2 + 1 + 0, 9⟩, ⟨false, c2, 1⟩], lg5, rfl⟩
    refine Ok.t rfl ?_
    refine Ok.callP (Q1 := fun v s' => v = xlstV [.agg ⟨[.int .i64 k0, .int .i64 a, .string tx, .int .i64 t, lstV l1, lstV l2, lstV l3, lstV l4, lstV l5]⟩] ∧ s'.ctr = s5.ctr ∧ ∀ b, Kq b (c2 + 11) s5 s') ?_ ?_
    · refine Ok.congrP (q := fun _ => frzL En 20 36 a5 fun b5 => .ret (xlstV [.agg ⟨[.int .i64 k0, .int .i64 a, .string tx, .int .i64 t, lstV l1, lstV l2, lstV l3, lstV l4, b5]⟩])) (fun f => (bs1 k0 a t tx a1 a2 a3 a4 a5).trans (by rw [u1.frz, u2.frz, u3.frz, u4.frz])) ?_
      have lg : LG s5 (c2 + 11) a5 l5 := by
        rcases u5 with u5 | u5
        · exact .inl u5
        · exact .inr (u5.congr (by omega) fun j _ _ => by rw [m5])
      exact LG.frz (p := fun _ b5 => Prog.ret (xlstV [.agg ⟨[.int .i64 k0, .int .i64 a, .string tx, .int .i64 t, lstV l1, lstV l2, lstV l3, lstV l4, b5]⟩])) lg u6 fun s9 e9 k9 _ => Ok.ret ⟨rfl, e9, k9⟩
    rintro v s6 ⟨rfl, e6, k6⟩
    have hnd : Nd (.agg ⟨[.int .i64 k0, .int .i64 a, .string tx, .int .i64 t, lstV l1, lstV l2, lstV l3, lstV l4, lstV l5]⟩) := .mk u6 (by omega) u8
    generalize (Value.agg ⟨[.int .i64 k0, .int .i64 a, .string tx, .int .i64 t, lstV l1, lstV l2, lstV l3, lstV l4, lstV l5]⟩) = nd at *
    have k46 := (k4.trans (r5.kq b _)).trans ((k6 b).weaken (by omega))
    have low6 : ∀ j, j < c2 + 11 → s6.mem.get j = s4.mem.get j := fun j hj => by rw [Kq.low k6 j hj, m5]
    have p6 : PI s6 b str ts en i 0 := p4.mem (by omega) fun j hj => low6 j (by omega)
    have rr6 : Row s6.mem c2 [.int .i64 k0, .int .i64 a, .string tx, .int .i64 t, a1, a2, a3, a4, a5, .bool vb] := rr.congr fun j j1 j2 => low6 j (by simp only [List.length_cons, List.length_nil] at j2; omega)
    have hp6 : Row s6.mem c0 [.pointer (some ⟨b, 0, none⟩)] := hp4.congr fun j j1 j2 => low6 j (by simp only [List.length_cons, List.length_nil] at j2; omega)
    have d6 : Row s6.mem c1 ds := d1.congr fun j j1 j2 => low6 j (by omega)
    refine Ok.callP (Ok.newK (b := b) (lo := s6.ctr) rfl (Nat.le_refl _)) ?_
    rintro v s7 ⟨rfl, e7, g7, m7, k7⟩
    refine Ok.t rfl ?_
    simp only [blk_itP, off_itP]
    refine Ok.callP (Ok.storeCellK (b := b) (lo := s6.ctr) (c := s6.ctr) (o := 0) (v := xlstV [nd]) (by kernel_rfl) rfl g7 (by simp) rfl (Nat.le_refl _)) ?_
    rintro v s8 ⟨rfl, e8, g8, f8, k8⟩
    have low8 : ∀ j, j < s6.ctr → s8.mem.get j = s6.mem.get j := fun j hj => by rw [f8 j (by omega), m7 j hj]
    have p8 : PI s8 b str ts en i 0 := p6.mem (by omega) fun j hj => low8 j (by omega)
    have hp8 : Row s8.mem c0 [.pointer (some ⟨b, 0, none⟩)] := hp6.congr fun j j1 j2 => low8 j (by simp only [List.length_cons, List.length_nil] at j2; omega)
    refine Ok.ptr hp8 fun s9 r9 => ?_
    refine Ok.t rfl ?_
    simp only [blk_p, off_p]
    have h9 : L0 b c0 s6.ctr s9 := ⟨by rw [r9.1]; exact hp8, ⟨nd, by rw [r9.1]; exact g8, hnd⟩, q1, by omega, by rw [r9.2.1]; omega⟩
    have k69 : Kq b s6.ctr s6 s9 := (k7.trans k8).trans (r9.kq b _)
    refine Ok.call (within2_ok cx (p8.reads r9) hlt 134 _ _ (lo := s6.ctr) k69.ctr (L0 b c0 s6.ctr) (L1 b c0 s6.ctr) (fun _ _ h k => h.kq k) (fun _ _ h k => h.kq k) (fun _ h => h.l1) h9 fun s' p' h' hc' => term1_ok cx hL h' p' (hn rfl) (Nat.le_refl _)) ?_
    rintro v sA ⟨rfl, hA, ⟨i', err', pA, hi1, hi2⟩, kA⟩
    have k6A : Kq b s6.ctr s6 sA := k69.trans kA
    refine Ok.t rfl ?_
    have hlowA := pA.low
    have lowA : ∀ j, j < s6.ctr → b + 8 ≤ j → sA.mem.get j = s6.mem.get j := fun j j1 j2 => k6A.mem j j1 (.inr j2)
    have rrA : Row sA.mem c2 [.int .i64 k0, .int .i64 a, .string tx, .int .i64 t, a1, a2, a3, a4, a5, .bool vb] := rr6.congr fun j j1 j2 => lowA j (by simp only [List.length_cons, List.length_nil] at j2; omega) (by omega)
    refine Ok.callP (Ok.load1 (b := c2) (o := 1) t3 (rrA.cell 1 rfl)) ?_
    rintro v sB ⟨rfl, mB, ccB, lgB⟩
    have rB : Reads sA sB := ⟨mB, ccB, [⟨false, c2 + 1 + 1, 1⟩, ⟨false, c2, 1⟩], lgB, rfl⟩
    refine Ok.t rfl ?_
    obtain ⟨_, ⟨w, l, gA, lA, ndA, lnA⟩, _, _, q3A⟩ := hA
    refine Ok.callP (Ok.load1 (b := s6.ctr) (o := 0) t23 ((gA.cell 0 rfl).reads rB)) ?_
    rintro w sC ⟨rfl, mC, ccC, lgC⟩
    have rC := rB.trans ⟨mC, ccC, [⟨false, s6.ctr + 1 + 0, 1⟩, ⟨false, s6.ctr, 1⟩], lgC, rfl⟩
    refine Ok.g rfl ?_
    have lC : LG sC (s6.ctr + 2) w l := lA.mem (by rw [rC.2.1]; exact Nat.le_refl _) fun j _ _ => by rw [rC.1]
    have hform : (∃ t e, w = .iface t (.agg ⟨e⟩)) ∨ ∃ a n c, w = .slice a n c := by
      rcases lA with h | h
      · rcases h with rfl | rfl | ⟨rfl, rfl⟩
        · exact .inl ⟨_, _, rfl⟩
        · exact .inl ⟨_, _, rfl⟩
        · exact .inr ⟨_, _, _, rfl⟩
      · rcases h.2 with ⟨rfl, _⟩ | ⟨_, _, _, _, rfl, _⟩
        · exact .inr ⟨_, _, _, rfl⟩
        · exact .inr ⟨_, _, _, rfl⟩
    have hbld : ∀ {p : Nat → Prog}, (∀ t e f, w = .iface t (.agg ⟨e⟩) → p f = .ret (.agg ⟨[.int .i64 8, .int .i64 a, .string (mkStr []), .int .i64 0, .slice none 0 0, .slice none 0 0, .slice none 0 0, .slice none 0 0, w]⟩)) → (∀ a' n c f, w = .slice a' n c → p f = .ret (.agg ⟨[.int .i64 8, .int .i64 a, .string (mkStr []), .int .i64 0, .slice none 0 0, .slice none 0 0, .slice none 0 0, .slice none 0 0, w]⟩)) → ∀ f, p f = .ret (.agg ⟨[.int .i64 8, .int .i64 a, .string (mkStr []), .int .i64 0, .slice none 0 0, .slice none 0 0, .slice none 0 0, .slice none 0 0, w]⟩) := by
      intro p h1 h2 f
      rcases hform with ⟨t, e, h⟩ | ⟨a', n, c, h⟩
      · exact h1 t e f h
      · exact h2 a' n c f h
    refine Ok.callP (Q1 := fun v s' => v = .agg ⟨[.int .i64 8, .int .i64 a, .string (mkStr []), .int .i64 0, .slice none 0 0, .slice none 0 0, .slice none 0 0, .slice none 0 0, w]⟩ ∧ s' = sC) (Ok.const (hbld (fun t e f h => by subst h; kernel_rfl) (fun a' n c f h => by subst h; kernel_rfl))) ?_
    rintro v sD ⟨rfl, rfl⟩
    have rrD : Row sD.mem c2 ([.int .i64 k0, .int .i64 a, .string tx, .int .i64 t, a1, a2, a3, a4, a5] ++ [.bool vb]) := by rw [rC.1]; exact rrA
    refine Ok.callP (Ok.storePre (b := b) (lo := c2) (vs := [.int .i64 k0, .int .i64 a, .string tx, .int .i64 t, a1, a2, a3, a4, a5]) (ys := [.bool vb]) (by kernel_rfl) rrD rfl (by simp only [List.all_cons, lC.one]; rfl) (Nat.le_refl _)) ?_
    rintro v sE ⟨rfl, eE, gE, fE, kE⟩
    have lowE : ∀ j, j < s6.ctr → b + 8 ≤ j → (j ≤ c2 ∨ c2 + 1 + 9 ≤ j) → sE.mem.get j = s6.mem.get j := fun j j1 j2 j3 => by rw [fE j j3, rC.1, lowA j j1 j2]
    have hcE : sE.ctr = sA.ctr := by rw [eE, rC.2.1]
    have pE : PI sE b str ts en i' err' := (pA.reads rC).mem (by omega) fun j hj => fE j (by omega)
    have tE : TM sE.mem sE.ctr b c0 c1 c2 := by
      refine ⟨hp6.congr fun j j1 j2 => lowE j (by simp only [List.length_cons, List.length_nil] at j2; omega) (by omega) (by simp only [List.length_cons, List.length_nil] at j2; omega), ⟨ds, d6.congr fun j j1 j2 => lowE j (by omega) (by omega) (by omega), d2⟩, ⟨_, _, _, _, _, _, _, _, _, _, _, _, _, _, _, gE, LV.n, LV.n, LV.n, LV.n, ?_, ndA, by omega, fun h => absurd h (by decide)⟩, q1, q2, q3, by omega⟩
      rcases lC with h | h
      · exact .inl h
      · exact .inr ((Grow.lo h (by omega)).congr (by omega) fun j j1 j2 => fE j (.inr (by simp only [List.length_cons, List.length_nil]; omega)))
    have kE' := ((k46.trans (k6A.weaken (by omega))).trans (rC.kq b _)).trans (kE.weaken (by omega))
    by_cases he : err' = 0
    · have := hi2 he
      have := hn rfl
      exact IH sE i' err' (by omega) tE pE kE' (by omega) (fun _ => by omega) (fun _ => by omega)
    · exact term5_stop cx hs he tE pE kE' (by omega)
end
end Go.Proofs.YtpljgnjdlciicaaGreatDoor
namespace Go.Proofs.YtpljgnjdlciicaaGreatDoor
open Go Go.Ev Go.Proofs
section
variable {s : St} {b : Nat} {str : ByteArray} {ts : List Tok} {en i err : Int}
theorem term_ok {n : Int} (cx : Cx str ts en) (hL : ListOK b str ts en n) (hT : ∀ s, PI s b str ts en i 0 → i + 1 < ts.length → Ok (fun f => callF En (runP En f) 209 [.pointer (some ⟨b, 0, none⟩)]) s (PrimQ b str ts en i s))
    (p : PI s b str ts en i 0) (hn : ts.length - (i + 1) ≤ n) : Ok (fun f => callF En (runP En f) 97 [.pointer (some ⟨b, 0, none⟩)]) s (TermQ b str ts en i s) := by
  have hc := p.ctr
  have hlow := p.low
  refine Ok.step (fun f => f97_eq f b) ?_
  refine Ok.g rfl ?_
  refine Ok.callP (Ok.newK (b := b) rfl (Nat.le_refl s.ctr)) ?_
  rintro v s1 ⟨rfl, e1, g1, m1, k1⟩
  refine Ok.t rfl ?_
  refine Ok.callP (Ok.newK (b := b) (lo := s.ctr) rfl (by omega)) ?_
  rintro v s2 ⟨rfl, e2, g2, m2, k2⟩
  have k2 := k1.trans k2
  refine Ok.t rfl ?_
  simp only [blk_itP, off_itP]
  have gp : Row s2.mem s.ctr [.pointer (some ⟨b, 0, none⟩)] := g1.congr fun j _ hj => m2 j (by simp only [List.length_cons, List.length_nil] at hj; omega)
  have p2 : PI s2 b str ts en i 0 := p.mem (by omega) fun j hj => by rw [m2 j (by omega), m1 j (by omega)]
  refine Ok.ptr gp fun s3 r3 => ?_
  refine Ok.t rfl ?_
  simp only [blk_p, off_p, Nat.add_zero]
  refine Ok.call (verb_ok cx (p2.reads r3)) ?_
  rintro v s4 ⟨⟨r, rfl, hr⟩, r4⟩
  have r4 := r3.trans r4
  have p4 := p2.reads r4
  have k4 := k2.trans (r4.kq b s.ctr)
  refine Ok.t rfl (Ok.g rfl ?_)
  have hc4 : s4.ctr = s2.ctr := r4.2.1
  refine Ok.callP (Ok.newK (b := b) (lo := s4.ctr) rfl (Nat.le_refl _)) ?_
  rintro v s5 ⟨rfl, e5, g5, m5, k5⟩
  refine Ok.t rfl ?_
  simp only [blk_itP, off_itP]
  refine Ok.callP (Ok.storeRowK (b := b) (lo := s4.ctr) (n := 10) (ws := [.int .i64 0, .int .i64 0, .string (mkStr []), .int .i64 0, .slice none 0 0, .slice none 0 0, .slice none 0 0, .slice none 0 0, .slice none 0 0, .bool r]) (by kernel_rfl) g5 rfl rfl rfl (Nat.le_refl _)) ?_
  rintro v s6 ⟨rfl, e6, g6, f6, k6⟩
  have low6 : ∀ j, j < s4.ctr → s6.mem.get j = s2.mem.get j := fun j hj => by rw [f6 j (by omega), m5 j hj, r4.1]
  have gp6 : Row s6.mem s.ctr [.pointer (some ⟨b, 0, none⟩)] := gp.congr fun j _ hj => low6 j (by simp only [List.length_cons, List.length_nil] at hj; omega)
  have gr6 : Row s6.mem s1.ctr [.int .i64 0, .int .i64 0, .string (mkStr []), .int .i64 0, .slice none 0 0, .slice none 0 0, .slice none 0 0, .slice none 0 0, .slice none 0 0, .bool false] := g2.congr fun j _ hj => low6 j (by simp only [List.length_cons, List.length_nil] at hj; omega)
  have p6 : PI s6 b str ts en i 0 := p2.mem (by omega) fun j hj => low6 j (by omega)
  have k6' := (k4.trans (k5.weaken (by omega))).trans (k6.weaken (by omega))
  refine Ok.callP (Ok.load1 (b := s4.ctr) (o := 9) (by kernel_rfl) (g6.cell 9 rfl)) ?_
  rintro v s7 ⟨rfl, m7, c7, l7⟩
  have r7 : Reads s6 s7 := ⟨m7, c7, [⟨false, s4.ctr + 1 + 9, 1⟩, ⟨false, s4.ctr, 1⟩], l7, rfl⟩
  refine Ok.t rfl ?_
  have p7 := p6.reads r7
  have gp7 : Row s7.mem s.ctr [.pointer (some ⟨b, 0, none⟩)] := by rw [m7]; exact gp6
  have gr7 : Row s7.mem s1.ctr [.int .i64 0, .int .i64 0, .string (mkStr []), .int .i64 0, .slice none 0 0, .slice none 0 0, .slice none 0 0, .slice none 0 0, .slice none 0 0, .bool false] := by rw [m7]; exact gr6
  have g7 : Row s7.mem s4.ctr ([.int .i64 0, .int .i64 0, .string (mkStr []), .int .i64 0, .slice none 0 0, .slice none 0 0, .slice none 0 0, .slice none 0 0, .slice none 0 0] ++ [.bool r]) := by rw [m7]; exact g6
  have k7 := k6'.trans (r7.kq b s.ctr)
  have hc7 : s7.ctr = s6.ctr := c7
  refine Ok.c (fun hb => ?_) (fun _ => ?_)
  · have hlt : i < ts.length := hr hb
    have hit : i.toNat < ts.length := by omega
    refine Ok.segPtr gp7 fun s8 r8 => ?_
    refine Ok.t rfl ?_
    simp only [blk_p, off_p, Nat.add_zero]
    have p8 : PI ⟨s8.mem, s8.ctr, []⟩ b str ts en i 0 := show PI s8 b str ts en i 0 from p7.reads r8
    refine segReads (R := fun v => v = .int .i64 (hereV ts en i)) (ihere_ok p8) ?_
    rintro v s9 lg9 rfl r9 w9
    have r9 := r8.trans r9
    refine Ok.gdL (freeL_reads _ _ w9 _ fun d hd => by simp only [List.mem_cons, List.not_mem_nil, or_false] at hd; rcases hd with rfl; rfl) (Ok.t rfl ?_)
    refine Ok.segPtr (by rw [r9.1]; exact gp7) fun sA rA => ?_
    have rA := r9.trans rA
    refine Ok.gdL (freeL_reads _ _ rfl _ fun d hd => by simp only [List.mem_cons, List.not_mem_nil, or_false] at hd; rcases hd with rfl | rfl; exact w9; rfl) (Ok.t rfl ?_)
    simp only [blk_p, off_p, Nat.add_zero]
    have pA : PI ⟨sA.mem, sA.ctr, []⟩ b str ts en i 0 := show PI sA b str ts en i 0 from p7.reads rA
    have hcA : sA.ctr = s7.ctr := rA.2.1
    refine Ok.segK (b := b) (lo := s7.ctr) (R := fun v s' => v = tokV (ts[i.toNat]'hit) ∧ PI s' b str ts en (i + 1) 0) (Ok.mono (next_ok (lo := s7.ctr) cx pA (List.getElem?_eq_getElem hit) (by simp only; omega)) (fun v s' h => ⟨⟨h.1, h.2.1⟩, h.2.2⟩)) ?_
    rintro v mB ccB lgB ⟨rfl, pB⟩ kB wB
    have kB := (rA.kq b s7.ctr).trans kB
    refine Ok.gdL (by kernel_rfl) (Ok.t rfl (Ok.g rfl ?_))
    generalize ts[i.toNat]'hit = tk at *
    have hcB : s7.ctr ≤ ccB := kB.ctr
    have gB : Row mB s4.ctr ([.int .i64 0, .int .i64 0, .string (mkStr []), .int .i64 0, .slice none 0 0, .slice none 0 0, .slice none 0 0, .slice none 0 0, .slice none 0 0] ++ [.bool r]) := g7.congr fun j j1 j2 => kB.mem j (by simp only [List.length_append, List.length_cons, List.length_nil] at j2; omega) (.inr (by omega))
    have gpB : Row mB s.ctr [.pointer (some ⟨b, 0, none⟩)] := gp7.congr fun j j1 j2 => kB.mem j (by simp only [List.length_cons, List.length_nil] at j2; omega) (.inr (by omega))
    have grB : Row mB s1.ctr [.int .i64 0, .int .i64 0, .string (mkStr []), .int .i64 0, .slice none 0 0, .slice none 0 0, .slice none 0 0, .slice none 0 0, .slice none 0 0, .bool false] := gr7.congr fun j j1 j2 => kB.mem j (by simp only [List.length_cons, List.length_nil] at j2; omega) (.inr (by omega))
    have pB : PI ⟨mB, ccB, []⟩ b str ts en (i + 1) 0 := pB
    refine Ok.segK (b := b) (lo := s4.ctr) (R := fun _ s' => Row s'.mem s4.ctr ([.int .i64 4, .int .i64 (hereV ts en i), .string tk.text, .int .i64 0, .slice none 0 0, .slice none 0 0, .slice none 0 0, .slice none 0 0, .slice none 0 0] ++ [.bool r]) ∧ (∀ k, (k ≤ s4.ctr ∨ s4.ctr + 1 + 9 ≤ k) → s'.mem.get k = mB.get k) ∧ s'.ctr = ccB)
      (Ok.mono (Ok.storePre (s := ⟨mB, ccB, []⟩) (b := b) (lo := s4.ctr) (by kernel_rfl) gB rfl rfl (Nat.le_refl _)) (fun v s' h => ⟨⟨h.2.2.1, h.2.2.2.1, h.2.1⟩, h.2.2.2.2⟩)) ?_
    rintro v mC ccC lgC ⟨gC, fC, hcC⟩ kC wC
    simp only at gC fC hcC
    refine Ok.gdL (by kernel_rfl) ?_
    have kAll := (k7.trans (kB.weaken (by omega))).trans (kC.weaken (by omega))
    refine term9 cx (Nat.le_refl s.ctr) (ts.length + 1) _ (i + 1) 0 (by omega) ⟨gpB.congr fun j j1 j2 => fC j (by simp only [List.length_cons, List.length_nil] at j2; omega), ⟨_, grB.congr fun j j1 j2 => fC j (by simp only [List.length_cons, List.length_nil] at j2; omega), rfl⟩, ⟨_, _, _, _, _, _, _, _, _, _, _, _, _, _, _, gC, LV.n, LV.n, LV.n, LV.n, .inl LV.n, (fun x hx => by cases hx), by simp, fun h => absurd h (by decide)⟩, by omega, by omega, by omega, by simp only; omega⟩ (pB.mem (by simp only; omega) fun j hj => fC j (by omega)) kAll (by omega) (fun _ => by omega)
  · refine Ok.ptr gp7 fun s8 r8 => ?_
    refine Ok.t rfl ?_
    simp only [blk_p, off_p]
    have hc8 : s8.ctr = s7.ctr := r8.2.1
    refine Ok.call (primary_ok cx hL hT (p7.reads r8) hn) ?_
    rintro v s9 ⟨hv, ⟨i', err', p9, hi1, hi2⟩, k9⟩
    have k9 : Kq b s7.ctr s7 s9 := (r8.kq b _).trans (k9.weaken (by omega))
    have hl9 := p9.low
    have hc9 : s7.ctr ≤ s9.ctr := k9.ctr
    cases hv with
    | @mk nk na nt ntx nn nsy nvl nss nl b1 b2 b3 =>
      refine Ok.t rfl ?_
      have g9 : Row s9.mem s4.ctr ([.int .i64 0, .int .i64 0, .string (mkStr []), .int .i64 0, .slice none 0 0, .slice none 0 0, .slice none 0 0, .slice none 0 0, .slice none 0 0] ++ [.bool r]) := g7.congr fun j j1 j2 => k9.mem j (by simp only [List.length_append, List.length_cons, List.length_nil] at j2; omega) (.inr (by omega))
      have gp9 : Row s9.mem s.ctr [.pointer (some ⟨b, 0, none⟩)] := gp7.congr fun j j1 j2 => k9.mem j (by simp only [List.length_cons, List.length_nil] at j2; omega) (.inr (by omega))
      have gr9 : Row s9.mem s1.ctr [.int .i64 0, .int .i64 0, .string (mkStr []), .int .i64 0, .slice none 0 0, .slice none 0 0, .slice none 0 0, .slice none 0 0, .slice none 0 0, .bool false] := gr7.congr fun j j1 j2 => k9.mem j (by simp only [List.length_cons, List.length_nil] at j2; omega) (.inr (by omega))
      refine Ok.callP (Ok.storePre (b := b) (lo := s4.ctr) (vs := [.int .i64 0, .int .i64 0, .string (mkStr []), .int .i64 0, .slice none 0 0, .slice none 0 0, .slice none 0 0, .slice none 0 0, .slice none 0 0]) (ws := [.int .i64 nk, .int .i64 na, .string ntx, .int .i64 nt, lstV nn, lstV nsy, lstV nvl, lstV nss, lstV nl]) (ys := [.bool r]) (by kernel_rfl) g9 rfl rfl (Nat.le_refl _)) ?_
      rintro v sA ⟨rfl, eA, gA, fA, kA⟩
      have fA : ∀ k, (k ≤ s4.ctr ∨ s4.ctr + 1 + 9 ≤ k) → sA.mem.get k = s9.mem.get k := fA
      have pA : PI sA b str ts en i' err' := p9.mem (by omega) fun j hj => fA j (by omega)
      have tA : TM sA.mem sA.ctr b s.ctr s1.ctr s4.ctr := ⟨gp9.congr fun j j1 j2 => fA j (by simp only [List.length_cons, List.length_nil] at j2; omega), ⟨_, gr9.congr fun j j1 j2 => fA j (by simp only [List.length_cons, List.length_nil] at j2; omega), rfl⟩, ⟨_, _, _, _, _, _, _, _, _, _, _, _, _, _, _, gA, LV.l _, LV.l _, LV.l _, LV.l _, .inl (LV.l _), b1, ?_, b3⟩, by omega, by omega, by omega, by omega⟩
      · have kAll := (k7.trans (k9.weaken (by omega))).trans (kA.weaken (by omega))
        by_cases he : err' = 0
        · have := hi2 he
          exact term5 cx hL (Nat.le_refl s.ctr) (ts.length + 1) sA i' err' (by omega) tA pA kAll (by omega) (fun _ => by omega) (fun _ => by omega)
        · exact term5_stop cx (Nat.le_refl s.ctr) he tA pA kAll (by omega)
      · exact b2
end
end Go.Proofs.YtpljgnjdlciicaaGreatDoor
namespace Go.Proofs.YtpljgnjdlciicaaGreatDoor
open Go Go.Ev Go.Proofs
def aheadV (ts : List Tok) (j : Int) (x : ByteArray) : Bool := match ts[j.toNat]? with
  | some t => decide (t.kind = 6) && beqB t.text.data.toList x.data.toList
  | none => false
theorem aheadV_none {ts : List Tok} {j : Int} {x : ByteArray} (h : ts.length ≤ j.toNat) : aheadV ts j x = false := by
  unfold aheadV
  rw [List.getElem?_eq_none h]
theorem aheadV_some {ts : List Tok} {j : Int} {x : ByteArray} (h : j.toNat < ts.length) : aheadV ts j x = (decide ((ts[j.toNat]'h).kind = 6) && beqB (ts[j.toNat]'h).text.data.toList x.data.toList) := by
  unfold aheadV
  rw [List.getElem?_eq_getElem h]
def overV (ts : List Tok) (i : Int) : Bool := decide (i ≥ (ts.length : Int)) || aheadV ts i (mkStr [59]) || aheadV ts i (mkStr [41]) || aheadV ts i (mkStr [93]) || aheadV ts i (mkStr [125])
theorem overV_lt {ts : List Tok} {i : Int} (h : overV ts i = false) : i < ts.length := by
  unfold overV at h
  simp only [Bool.or_eq_false_iff] at h
  have := of_decide_eq_false h.1.1.1.1
  omega
section
variable {s : St} {b : Nat} {str : ByteArray} {ts : List Tok} {en i deep err bad : Int}
theorem aheadE_ok (h : PX s b str ts en i deep err bad) (hi : 0 ≤ i ∧ i ≤ 1000000) (n : Int) (hn : 0 ≤ n ∧ n ≤ 1000) (x : ByteArray) : Ok (fun f => callF En (runP En f) 93 [.pointer (some ⟨b, 0, none⟩), .int .i64 n, .string x]) s
    (fun v s' => v = .bool (aheadV ts (i + n) x) ∧ Reads s s') := by
  have t3 : scal En 3 = true := by kernel_rfl
  have t42 : scal En 42 = true := by kernel_rfl
  have hw : IntKind.i64.wrap (i + n) = i + n := wrap_in _ (by omega) (by omega)
  refine Ok.step (fun f => f93_eq f b n x) ?_
  refine Ok.segLoad t3 h.c2 fun s1 r1 => ?_
  refine Ok.t rfl ?_
  refine Ok.segLoad t42 (h.c1.reads r1) fun s2 r2 => ?_
  have r2 := r1.trans r2
  refine Ok.gdL (by kernel_rfl) (Ok.t rfl ?_)
  simp only [show ∀ x, elems (lstV x) = x from fun _ => rfl, lenL42]
  refine Ok.segRet fun s3 r3 => ?_
  have r3 := r2.trans r3
  refine Ok.gdL (by kernel_rfl) (Ok.t rfl ?_)
  simp only [intOf, vInt, List.length_map, hw]
  refine Ok.c (fun hlt => ?_) (fun hge => Ok.ret ⟨by rw [aheadV_none (by have := of_decide_eq_false hge; omega)], r3⟩)
  have hlt := of_decide_eq_true hlt
  have hl : (i + n).toNat < ts.length := by omega
  refine Ok.segLoad t42 (h.c1.reads r3) fun s4 r4 => ?_
  have r4 := r3.trans r4
  refine Ok.gdL (by kernel_rfl) (Ok.t rfl ?_)
  refine Ok.segLoad t3 (h.c2.reads r4) fun s5 r5 => ?_
  have r5 := r4.trans r5
  refine Ok.gdL (by kernel_rfl) (Ok.t rfl ?_)
  simp only [show ∀ x, elems (lstV x) = x from fun _ => rfl, intOf, hw, at_toks ts _ hl]
  refine Ok.t (decide_eq_true (by omega)) (Ok.t (bnd_toks ts _ hl) (Ok.t rfl (Ok.t rfl (Ok.t rfl ?_))))
  refine Ok.c (fun hk => ?_) (fun hk => Ok.ret ⟨by rw [aheadV_some hl, show decide ((ts[(i + n).toNat]'hl).kind = 6) = false from hk]; rfl, r5⟩)
  refine Ok.segLoad t42 (h.c1.reads r5) fun s6 r6 => ?_
  have r6 := r5.trans r6
  refine Ok.gdL (by kernel_rfl) (Ok.t rfl ?_)
  refine Ok.segLoad t3 (h.c2.reads r6) fun s7 r7 => ?_
  have r7 := r6.trans r7
  refine Ok.gdL (by kernel_rfl) (Ok.t rfl ?_)
  simp only [show ∀ x, elems (lstV x) = x from fun _ => rfl, intOf, hw, at_toks ts _ hl]
  refine Ok.t (decide_eq_true (by omega)) (Ok.t (bnd_toks ts _ hl) (Ok.t rfl (Ok.t rfl (Ok.t rfl ?_))))
  refine Ok.ret ⟨?_, r7⟩
  rw [aheadV_some hl]
  refine congrArg Value.bool ?_
  rw [show decide ((ts[(i + n).toNat]'hl).kind = 6) = true from hk, Bool.true_and]
  rfl
theorem pmarkE_ok (h : PX s b str ts en i deep err bad) (hi : 0 ≤ i ∧ i ≤ 1000000) (x : ByteArray) : Ok (fun f => callF En (runP En f) 43 [.pointer (some ⟨b, 0, none⟩), .string x]) s
    (fun v s' => v = .bool (aheadV ts i x) ∧ Reads s s') := by
  refine Ok.step (fun f => f43_eq f b x) ?_
  refine Ok.call (aheadE_ok h hi 0 (by omega) x) ?_
  rintro v s1 ⟨rfl, r1⟩
  exact Ok.t rfl (Ok.ret ⟨by rw [Int.add_zero]; rfl, r1⟩)
end
section
variable {s : St} {b : Nat} {str : ByteArray} {ts : List Tok} {en i err : Int}
theorem overE_ok (cx : Cx str ts en) (h : PI s b str ts en i err) : Ok (fun f => callF En (runP En f) 94 [.pointer (some ⟨b, 0, none⟩)]) s
    (fun v s' => v = .bool (overV ts i) ∧ Reads s s') := by
  have t3 : scal En 3 = true := by kernel_rfl
  have t42 : scal En 42 = true := by kernel_rfl
  have hi := h.low
  refine Ok.step (fun f => f94_eq f b) ?_
  refine Ok.segLoad t3 h.c2 fun s1 r1 => ?_
  refine Ok.t rfl ?_
  refine Ok.segLoad t42 (h.c1.reads r1) fun s2 r2 => ?_
  have r2 := r1.trans r2
  refine Ok.gdL (by kernel_rfl) (Ok.t rfl ?_)
  simp only [show ∀ x, elems (lstV x) = x from fun _ => rfl, lenL42]
  refine Ok.segRet fun s3 r3 => ?_
  have r3 := r2.trans r3
  refine Ok.gdL (by kernel_rfl) (Ok.t rfl ?_)
  simp only [intOf, vInt, List.length_map]
  refine Ok.c (fun hge => Ok.ret ⟨by rw [overV, show decide (i ≥ (ts.length : Int)) = true from hge]; rfl, r3⟩) (fun hge => ?_)
  have hge0 := hge
  have hge := of_decide_eq_false hge
  have go : ∀ (x : ByteArray) {s' : St}, Reads s s' → Ok (fun f => callF En (runP En f) 43 [.pointer (some ⟨b, 0, none⟩), .string x]) ⟨s'.mem, s'.ctr, []⟩ (fun v s1 => v = .bool (aheadV ts i x) ∧ Reads ⟨s'.mem, s'.ctr, []⟩ s1) := by
    intro x s' r
    have h' : PI s' b str ts en i err := h.reads r
    have h' : PI ⟨s'.mem, s'.ctr, []⟩ b str ts en i err := h'
    obtain ⟨deep, bad, h1, h2, h3, _⟩ := h'
    exact pmarkE_ok h1 ⟨h2, by have := cx.few; omega⟩ x
  refine segReads (R := fun v => v = .bool (aheadV ts i (mkStr [59]))) (go _ r3) ?_
  rintro v s4 g4 rfl r4 w4
  have r4 := r3.trans r4
  refine Ok.gdL (freeL_reads _ _ w4 _ fun d hd => by simp only [List.mem_cons, List.not_mem_nil, or_false] at hd; rcases hd with rfl | rfl | rfl <;> rfl) (Ok.t rfl ?_)
  refine Ok.c (fun h4 => Ok.ret ⟨by rw [overV, show aheadV ts i (mkStr [59]) = true from h4]; simp, r4⟩) (fun h4 => ?_)
  refine segReads (R := fun v => v = .bool (aheadV ts i (mkStr [41]))) (go _ r4) ?_
  rintro v s5 g5 rfl r5 w5
  have r5 := r4.trans r5
  refine Ok.gdL (freeL_reads _ _ w5 _ fun d hd => by simp only [List.mem_cons, List.not_mem_nil, or_false] at hd; rcases hd with rfl | rfl | rfl | rfl <;> first | rfl | assumption) (Ok.t rfl ?_)
  refine Ok.c (fun h5 => Ok.ret ⟨by rw [overV, show aheadV ts i (mkStr [41]) = true from h5]; simp, r5⟩) (fun h5 => ?_)
  refine segReads (R := fun v => v = .bool (aheadV ts i (mkStr [93]))) (go _ r5) ?_
  rintro v s6 g6 rfl r6 w6
  have r6 := r5.trans r6
  refine Ok.gdL (freeL_reads _ _ w6 _ fun d hd => by simp only [List.mem_cons, List.not_mem_nil, or_false] at hd; rcases hd with rfl | rfl | rfl | rfl | rfl <;> first | rfl | assumption) (Ok.t rfl ?_)
  refine Ok.c (fun h6 => Ok.ret ⟨by rw [overV, show aheadV ts i (mkStr [93]) = true from h6]; simp, r6⟩) (fun h6 => ?_)
  refine segReads (R := fun v => v = .bool (aheadV ts i (mkStr [125]))) (go _ r6) ?_
  rintro v s7 g7 rfl r7 w7
  have r7 := r6.trans r7
  refine Ok.gdL (freeL_reads _ _ w7 _ fun d hd => by simp only [List.mem_cons, List.not_mem_nil, or_false] at hd; rcases hd with rfl | rfl | rfl | rfl | rfl | rfl <;> first | rfl | assumption) (Ok.t rfl ?_)
  refine Ok.ret ⟨?_, r7⟩
  rw [overV, show aheadV ts i (mkStr [59]) = false from h4, show aheadV ts i (mkStr [41]) = false from h5, show aheadV ts i (mkStr [93]) = false from h6, show decide (i ≥ (ts.length : Int)) = false from hge0]
  rfl
end
end Go.Proofs.YtpljgnjdlciicaaGreatDoor
