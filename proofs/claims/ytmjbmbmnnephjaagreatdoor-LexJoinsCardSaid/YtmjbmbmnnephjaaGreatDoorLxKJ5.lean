/- strings.Builder: Grow, WriteString, String. -/
import Derived.Test.YtmjbmbmnnephjaaGreatDoorLxKJ4
import Derived.Test.YtmjbmbmnnephjaaGreatDoorLxKJ3
namespace Go.Ev
open Go
/-- A new row whose cells are not known yet. -/
theorem Ok.newE {n el : Nat} {ex z sy : Bool} {g : Nat → Value} {s : St} :
    Ok (fun _ => Prog.newH (Hdr.mk n el false ex z 0 sy false []) [] (fun k => Prog.ret (g k))) s
      (fun v s' => v = g s.ctr ∧ s'.ctr = s.ctr + n + 1 ∧ s'.mem.get s.ctr = some (.hdr (Hdr.mk n el false ex z 0 sy false [])) ∧ (∀ k, k < s.ctr → s'.mem.get k = s.mem.get k) ∧ Above s.ctr s s') := by
  obtain ⟨m, c, l⟩ := s
  have e : Nat.ble 0 n = true := Nat.ble_eq_true_of_le (Nat.zero_le _)
  refine ⟨g c, ⟨m.set c (some (.hdr (Hdr.mk n el false ex z 0 sy false []))), c + n + 1, ⟨true, c, n + 1⟩ :: l⟩, ⟨rfl, rfl, ?_, fun k hk => ?_, [⟨true, c, n + 1⟩], rfl, fun a ha => ?_⟩, 0, fun _ _ => ?_⟩
  · simp only
    rw [Tr.get_set, if_pos rfl]
  · simp only at hk ⊢
    rw [Tr.get_set, if_neg (by omega)]
  · simp only [writesOf, List.mem_singleton] at ha
    subst ha
    exact Nat.le_refl _
  · simp only [Prog.run, List.length_nil, e, St.newH, Nat.add_eq, layCells]
end Go.Ev
namespace Go.Proofs.YtmjbmbmnnephjaaGreatDoor
open Go Go.Ev Go.Proofs
/-- A builder with room, and what has been written to it. -/
def Bld (s : St) (b cap : Nat) (done : List UInt8) : Prop := ∃ r, BRow s.mem b (ptrV b) (.slice (some ⟨r, 0, none⟩) done.length (capOf cap false)) ∧ s.mem.get r = some (.hdr ⟨cap, 5, false, false, true, 0, false, false, []⟩) ∧ CellsAt s.mem r (r + 1) (u8s done) ∧ b + 3 ≤ r ∧ r + 1 + cap ≤ s.ctr ∧ done.length ≤ cap
theorem Bld.reads {s s' : St} {b cap : Nat} {done : List UInt8} (h : Bld s b cap done) (r : Reads s s') : Bld s' b cap done := by
  obtain ⟨k, h1, h2, h3, h4, h5, h6⟩ := h
  exact ⟨k, h1.reads r, by rw [r.1]; exact h2, by rw [r.1]; exact h3, h4, by rw [r.2.1]; exact h5, h6⟩
theorem apart_nil {c : Nat} {ws all : List Acc} (h : ∀ a, a ∈ ws → c ≤ a.k) : apartLogs ws all [] [] = true := apart_above h fun b hb => by cases hb
theorem slice0 (c n cp : Nat) : sliceA En 65 (Value.slice (some ⟨c, 0, none⟩) n cp) none (some (.int .i64 0)) none = Ev.gd true (Ev.gd (Nat.ble 0 0 && Nat.ble 0 (capLo cp)) (match capEx cp with
          | true => (match Nat.beq (capLo cp) 0 with
            | true => .ret (.slice (some ⟨c, 0, none⟩) 0 (capOf 0 true))
            | false => .ret (.slice (some ⟨c, 0 + 0 * 1, none⟩) (0 - 0) (capOf (capLo cp - 0) true)))
          | false => .hd c fun hd => Ev.gd (Nat.beq hd.el 5) (.ret (.slice (some ⟨c, 0 + 0 * 1, none⟩) (0 - 0) (capOf (capLo cp - 0) false))))) := by kernel_rfl
theorem copy0 (c cp : Nat) : builtinA En Builtin.copy (65 :: (65 :: [])) ((Value.slice (some ⟨c, 0, none⟩) 0 cp) :: (Value.slice none 0 0 :: [])) = .ret (vInt 0) := by kernel_rfl
theorem cap0 : builtinA En Builtin.cap (65 :: []) (Value.slice none 0 0 :: []) = .ret (vInt 0) := by kernel_rfl
theorem lenS (a : Option Addr) (n c : Nat) : builtinA En Builtin.len (65 :: []) (Value.slice a n c :: []) = .ret (vInt n) := by kernel_rfl
theorem capLo_of (n : Nat) : capLo (capOf n false) = n := by show (2 * n + 0) / 2 = n; omega
theorem capEx_of (n : Nat) : capEx (capOf n false) = false := by
  simp only [capEx, capOf, Nat.add_eq, Nat.mul_eq, Nat.add_zero]
  have : Nat.mod (2 * n) 2 = 0 := by show (2 * n) % 2 = 0; omega
  rw [this]; rfl
theorem growI_ok {s : St} {b n : Nat} (h : BRow s.mem b (ptrV b) (.slice none 0 0)) (hb : b + 3 ≤ s.ctr) (hn : n ≤ 1048576) :
    Ok (fun f => callF En (runP En f) 135 [ptrV b, .int .i64 n]) s (fun w s' => w = .tuple ⟨[]⟩ ∧ Bld s' b n [] ∧ Low b s s') := by
  have ew : IntKind.i64.wrap (IntKind.i64.wrap (2 * intOf (vInt 0)) + (n : Int)) = Int.ofNat n := by
    rw [show IntKind.i64.wrap (2 * intOf (vInt 0)) = 0 from rfl, Int.zero_add, wrap_in _ (by omega) (by omega)]; rfl
  refine Ok.step (fun f => f135_eq f b n) ?_
  refine Ok.segLoad t65 h.c1 fun s1 r1 => ?_
  simp only [cap0]
  refine Ok.seg (Q1 := fun w s' => w = vInt 0 ∧ s' = ⟨s1.mem, s1.ctr, []⟩) (Ok.ret ⟨rfl, rfl⟩) ?_
  rintro w s2 ⟨rfl, rfl⟩
  refine Ok.gdL (by kernel_rfl) (Ok.t rfl ?_)
  rw [ew]
  simp only [f183, List.nil_append]
  refine Ok.seg (Ok.g (by simp only [Bool.and_eq_true]; exact ⟨Nat.ble_eq_true_of_le hn, by kernel_rfl⟩) Ok.newE) ?_
  rintro w s3 ⟨rfl, c3, g3, m3, l3, e3, a3⟩
  simp only [List.append_nil] at e3
  subst e3
  simp only at c3 g3 m3 a3 ⊢
  have hc1 : s1.ctr = s.ctr := r1.2.1
  have h1 := h.reads r1
  have h3 : BRow s3.mem b (ptrV b) (.slice none 0 0) := h1.congr fun j _ hj => m3 j (by omega)
  refine Ok.gdL (by simp only [freeL]; rfl) (Ok.t rfl ?_)
  refine Ok.segLoad (s := ⟨s3.mem, s3.ctr, s3.log ++ s1.log⟩) t65 h3.c1 fun s4 r4 => ?_
  have a8 : apartLogs (writesOf s3.log) s3.log [] [⟨false, b + 1 + 1, 1⟩, ⟨false, b, 1⟩] = true := apart_above (c := s1.ctr) a3 fun x hx => by
    simp only [List.mem_cons, List.not_mem_nil, or_false] at hx
    rcases hx with rfl | rfl <;> simp only <;> omega
  refine Ok.gdL (by simp only [freeL, writesOf, a8, Bool.or_true]; rfl) ?_
  simp only [lenS]
  refine Ok.seg (Q1 := fun w s' => w = vInt 0 ∧ s' = ⟨s4.mem, s4.ctr, []⟩) (Ok.ret ⟨rfl, rfl⟩) ?_
  rintro w s5 ⟨rfl, rfl⟩
  refine Ok.gdL (by simp only [freeL, writesOf, apart_nil a3, Bool.or_true]; rfl) (Ok.t rfl ?_)
  simp only [show intOf (vInt 0) = 0 from rfl, slice0, show sBlk (Value.slice (some ⟨s1.ctr, 0, none⟩) n (capOf n false)) = s1.ctr from rfl, show sOff (Value.slice (some ⟨s1.ctr, 0, none⟩) n (capOf n false)) = 0 from rfl, show sLen (Value.slice (some ⟨s1.ctr, 0, none⟩) n (capOf n false)) = n from rfl, show sCap (Value.slice (some ⟨s1.ctr, 0, none⟩) n (capOf n false)) = capOf n false from rfl, capLo_of, capEx_of]
  have h4 : BRow s4.mem b (ptrV b) (.slice none 0 0) := by rw [r4.1]; exact h3
  have g4 : s4.mem.get s1.ctr = some (.hdr ⟨n, 5, false, false, true, 0, false, false, []⟩) := by rw [r4.1]; exact g3
  refine Ok.seg (Q1 := fun w s' => w = Value.slice (some ⟨s1.ctr, 0, none⟩) 0 (capOf n false) ∧ Reads ⟨s4.mem, s4.ctr, []⟩ s') (Ok.g rfl (Ok.g (by simp only [Bool.and_eq_true]; exact ⟨rfl, Nat.ble_eq_true_of_le (Nat.zero_le _)⟩) (Ok.hdr g4 fun s6 r6 => Ok.g rfl (Ok.ret ⟨rfl, r6⟩)))) ?_
  rintro w s6 ⟨rfl, r6⟩
  refine Ok.gdL (by simp only [freeL]; rfl) (Ok.t rfl ?_)
  have h6 : BRow s6.mem b (ptrV b) (.slice none 0 0) := by rw [r6.1]; exact h4
  refine Ok.pl (s := ⟨s6.mem, s6.ctr, s6.log ++ s4.log⟩) t65 h6.c1 fun s7 r7 => ?_
  simp only [show sBlk (Value.slice (some ⟨s1.ctr, 0, none⟩) 0 (capOf n false)) = s1.ctr from rfl, show sOff (Value.slice (some ⟨s1.ctr, 0, none⟩) 0 (capOf n false)) = 0 from rfl, show sLen (Value.slice (some ⟨s1.ctr, 0, none⟩) 0 (capOf n false)) = 0 from rfl, show sCap (Value.slice (some ⟨s1.ctr, 0, none⟩) 0 (capOf n false)) = capOf n false from rfl, copy0]
  refine Ok.callP (Q1 := fun w s' => w = vInt 0 ∧ s' = s7) (Ok.ret ⟨rfl, rfl⟩) ?_
  rintro w s8 ⟨rfl, rfl⟩
  refine Ok.t rfl ?_
  have h7 : BRow s8.mem b (ptrV b) (.slice none 0 0) := by rw [r7.1]; exact h6
  refine Ok.callP (Ok.store1 (by kernel_rfl) rfl h7.free (by omega) rfl) ?_
  rintro w s9 ⟨rfl, rfl⟩
  have em : s8.mem = s3.mem := by rw [r7.1, r6.1, r4.1]
  have ec : s8.ctr = s3.ctr := by rw [r7.2.1]; exact r6.2.1.trans r4.2.1
  refine Ok.ret ⟨rfl, ⟨s1.ctr, ⟨?_, ?_, ?_, trivial⟩, ?_, trivial, by omega, ?_, Nat.zero_le _⟩, ?_, fun k hk => ?_⟩
  · simp only
    rw [Tr.get_set, if_neg (by omega)]; exact h7.1
  · simp only
    rw [Tr.get_set, if_neg (by omega)]; exact h7.2.1
  · simp only
    rw [Tr.get_set, if_pos (by omega)]; rfl
  · simp only
    rw [Tr.get_set, if_neg (by omega), em]; exact g3
  · simp only; omega
  · simp only; omega
  · simp only
    rw [Tr.get_set, if_neg (by omega), em, m3 k (by omega), r1.1]
theorem grow_ok {s : St} {b n : Nat} (h : BRow s.mem b (.pointer none) (.slice none 0 0)) (hb : b + 3 ≤ s.ctr) (hn : n ≤ 1048576) (h0 : 0 < n) :
    Ok (fun f => callF En (runP En f) 77 [ptrV b, .int .i64 n]) s (fun w s' => w = .tuple ⟨[]⟩ ∧ Bld s' b n [] ∧ Low b s s') := by
  refine Ok.step (fun f => f77_eq f b n) ?_
  refine Ok.call (check0_ok h hb) ?_
  rintro w s1 ⟨rfl, h1, c1, m1⟩
  refine Ok.t rfl (Ok.f (decide_eq_false (by omega)) ?_)
  refine Ok.step (fun f => p77_3_eq f b n) ?_
  refine Ok.segLoad t65 h1.c1 fun s2 r2 => ?_
  simp only [cap0]
  refine Ok.seg (Q1 := fun w s' => w = vInt 0 ∧ s' = ⟨s2.mem, s2.ctr, []⟩) (Ok.ret ⟨rfl, rfl⟩) ?_
  rintro w s3 ⟨rfl, rfl⟩
  refine Ok.gdL (by kernel_rfl) (Ok.t rfl ?_)
  simp only [List.nil_append]
  have h2 := h1.reads r2
  refine Ok.segLoad t65 h2.c1 fun s4 r4 => ?_
  refine Ok.gdL (by kernel_rfl) ?_
  simp only [lenS]
  refine Ok.seg (Q1 := fun w s' => w = vInt 0 ∧ s' = ⟨s4.mem, s4.ctr, []⟩) (Ok.ret ⟨rfl, rfl⟩) ?_
  rintro w s5 ⟨rfl, rfl⟩
  refine Ok.gdL (by kernel_rfl) (Ok.t rfl ?_)
  simp only [List.nil_append]
  refine Ok.t (decide_eq_true (by rw [show IntKind.i64.wrap (intOf (vInt 0) + Int.neg (intOf (vInt 0))) = 0 from rfl]; omega)) ?_
  have r24 := r2.trans r4
  refine Ok.call (growI_ok (h2.reads r4) (by rw [r24.2.1]; omega) hn) ?_
  rintro w s6 ⟨rfl, g6, l6⟩
  refine Ok.t rfl (Ok.ret ⟨rfl, g6, ?_⟩)
  refine Low.trans ⟨Nat.le_of_eq c1.symm, fun k hk => m1 k (by omega)⟩ (Low.trans (Reads.low b r24) l6)
theorem appT65' : AppT En 65 5 1 1 := ⟨by kernel_rfl, by kernel_rfl, by kernel_rfl, by kernel_rfl, by omega⟩
theorem write_ok {s : St} {b cap : Nat} {done : List UInt8} (h : Bld s b cap done) (x : ByteArray) (hl : done.length + (bl x).length ≤ cap) (hc : cap ≤ 1048576) :
    Ok (fun f => callF En (runP En f) 78 [ptrV b, .string x]) s (fun w s' => (∃ n, w = .tuple ⟨[.int .i64 n, .nilIface]⟩) ∧ Bld s' b cap (done ++ bl x) ∧ Low b s s') := by
  obtain ⟨r, h1, h2, h3, h4, h5, h6⟩ := h
  refine Ok.step (fun f => f78_eq f b x) ?_
  refine Ok.call (check_ok h1) ?_
  rintro w s1 ⟨rfl, r1⟩
  refine Ok.t rfl ?_
  refine Ok.pl t65 (h1.reads r1).c1 fun s2 r2 => ?_
  have r2 := r1.trans r2
  refine Ok.callP (Ok.appIn (by_ := 1) appT65' (by kernel_rfl) (by rw [r2.1]; exact h2) (by rw [r2.1]; exact h3) hl (by omega)) ?_
  rintro w s3 ⟨rfl, c3, g3, k3, m3⟩
  have hb3 : BRow s3.mem b (ptrV b) (.slice (some ⟨r, 0, none⟩) done.length (capOf cap false)) := (h1.reads r2).congr fun j _ h2 => m3 j (.inl (by omega))
  refine Ok.callP (Ok.store1 (by kernel_rfl) rfl hb3.free (by omega) rfl) ?_
  rintro w s4 ⟨rfl, rfl⟩
  refine Ok.ret ⟨⟨_, rfl⟩, ⟨r, ⟨?_, ?_, ?_, trivial⟩, ?_, ?_, h4, ?_, ?_⟩, ?_, fun k hk => ?_⟩
  · simp only
    rw [Tr.get_set, if_neg (by omega)]; exact hb3.1
  · simp only
    rw [Tr.get_set, if_neg (by omega)]; exact hb3.2.1
  · simp only
    rw [Tr.get_set, if_pos (by omega)]
  · simp only
    rw [Tr.get_set, if_neg (by omega), g3, r2.1]; exact h2
  · exact k3.congr fun j h1 _ => by simp only; rw [Tr.get_set, if_neg (by omega)]
  · simp only; rw [c3, r2.2.1]; exact h5
  · rw [List.length_append]; exact hl
  · simp only; rw [c3, r2.2.1]; exact Nat.le_refl _
  · simp only
    rw [Tr.get_set, if_neg (by omega), m3 k (.inl (by omega)), r2.1]
theorem data_ok (r n c : Nat) : builtinA En Builtin.unsafeSliceData (65 :: []) (Value.slice (some ⟨r, 0, none⟩) n (capOf c false) :: []) = Ev.gd (Nat.blt 0 (capLo (capOf c false))) (.ret (.pointer (some ⟨r, 0, none⟩))) := by kernel_rfl
theorem string_ok {s : St} {b : Nat} {done : List UInt8} (h : Bld s b done.length done) (h0 : 0 < done.length) (hc : done.length ≤ 1048576) :
    Ok (fun f => callF En (runP En f) 55 [ptrV b]) s (fun w s' => w = .string (mkStr done) ∧ Low b s s') := by
  obtain ⟨r, h1, h2, h3, h4, h5, h6⟩ := h
  refine Ok.step (fun f => f55_eq f b) ?_
  refine Ok.segLoad t65 h1.c1 fun s1 r1 => ?_
  simp only [data_ok r done.length done.length, capLo_of]
  refine Ok.seg (Q1 := fun w s' => w = ptrV r ∧ s' = ⟨s1.mem, s1.ctr, []⟩) (Ok.g (Nat.ble_eq_true_of_le h0) (Ok.ret ⟨rfl, rfl⟩)) ?_
  rintro w s2 ⟨rfl, rfl⟩
  refine Ok.gdL (by simp only [freeL]; rfl) ?_
  simp only [List.nil_append]
  refine Ok.segLoad t65 (h1.reads r1).c1 fun s3 r3 => ?_
  have r3 := r1.trans r3
  refine Ok.gdL (by kernel_rfl) ?_
  simp only [lenS]
  refine Ok.seg (Q1 := fun w s' => w = vInt done.length ∧ s' = ⟨s3.mem, s3.ctr, []⟩) (Ok.ret ⟨rfl, rfl⟩) ?_
  rintro w s4 ⟨rfl, rfl⟩
  refine Ok.gdL (by kernel_rfl) (Ok.t rfl ?_)
  simp only [List.nil_append]
  refine Ok.seg (Ok.unsafeStr (s := ⟨s3.mem, s3.ctr, []⟩) (e := 5) (c := r) (n := done.length) (l := done) (by kernel_rfl) (by kernel_rfl) (by rw [r3.1]; exact h2) rfl h0 (by omega) (by rw [r3.1]; exact h3)) ?_
  rintro w s5 ⟨rfl, c5, m5, _⟩
  refine Ok.gdL (by simp only [freeL]; rfl) (Ok.ret ⟨rfl, ?_, fun k hk => ?_⟩)
  · simp only; rw [c5, r3.2.1]; exact Nat.le_refl _
  · simp only; rw [m5 k (by omega)]; simp only; rw [r3.1]
end Go.Proofs.YtmjbmbmnnephjaaGreatDoor
/- strings.Join. -/
namespace Go.Proofs.YtmjbmbmnnephjaaGreatDoor
open Go Go.Ev Go.Proofs
def jSR (sep : ByteArray) : List ByteArray → List UInt8
  | [] => []
  | p :: ps => bl sep ++ (bl p ++ jSR sep ps)
/-- Parts, joined. -/
def jS (sep : ByteArray) : List ByteArray → List UInt8
  | [] => []
  | p :: ps => bl p ++ jSR sep ps
def tl : List ByteArray → Nat
  | [] => 0
  | p :: ps => (bl p).length + tl ps
theorem jSR_length (sep : ByteArray) : ∀ ps : List ByteArray, (jSR sep ps).length = (bl sep).length * ps.length + tl ps
  | [] => by simp [jSR, tl]
  | p :: ps => by
    simp only [jSR, tl, List.length_append, jSR_length sep ps, List.length_cons, Nat.mul_succ]
    omega
theorem hd_strs (ps : List ByteArray) : hdOk 1 (ps.map Value.string) = true := by
  cases ps with
  | nil => rfl
  | cons t ts => rfl
theorem at_strs (ps : List ByteArray) (i : Nat) (h : i < ps.length) : at_ (ps.map Value.string) i = .string ps[i] := by
  refine atq ?_
  rw [List.getElem?_map, List.getElem?_eq_getElem h]
  rfl
def JQ (s : St) (l : List UInt8) (v : Value) (s' : St) : Prop := v = .string (mkStr l) ∧ Fresh s s'
/-- The loop that writes. -/
theorem join22 (sep : ByteArray) (ps : List ByteArray) (b T : Nat) (hT : T ≤ 1000000) (hT0 : 0 < T) (whole : List UInt8) (hw : whole.length = T) : ∀ (m i : Nat) (done : List UInt8) (s : St), i + m = ps.length → Bld s b T done → done ++ jSR sep (ps.drop i) = whole → b + 3 ≤ s.ctr → ps.length ≤ 1000000 →
    Ok (fun f => p41_22 f sep b 0 (ps.map Value.string) (Int.ofNat ps.length) (i : Int)) s (fun v s' => v = .string (mkStr whole) ∧ Low b s s') := by
  intro m
  induction m with
  | zero =>
    intro i done s hm h hd hb hl
    have : done = whole := by rw [← hd, List.drop_eq_nil_of_le (by omega)]; simp [jSR]
    subst this
    refine Ok.step (fun f => p41_22_eq f sep b 0 _ _ i) ?_
    refine Ok.f (decide_eq_false (by simp only [Int.ofNat_eq_natCast]; omega)) ?_
    refine Ok.call (string_ok (by rw [hw]; exact h) (by omega) (by omega)) ?_
    rintro w s1 ⟨rfl, l1⟩
    exact Ok.t rfl (Ok.ret ⟨rfl, l1⟩)
  | succ m ih =>
    intro i done s hm h hd hb hl
    have hi : i < ps.length := by omega
    have b1 : decide ((0 : Int) ≤ (i : Int)) = true := decide_eq_true (by omega)
    have b2 : ((Nat.ble (Nat.succ i) (List.length (ps.map Value.string))) && Bool.true && (hdOk 1 (ps.map Value.string))) = true := by
      rw [hd_strs, Bool.and_true, Bool.and_true]
      exact Nat.ble_eq_true_of_le (by rw [List.length_map]; omega)
    have hw1 : IntKind.i64.wrap ((i : Int) + 1) = ((i + 1 : Nat) : Int) := by rw [wrap_in _ (by omega) (by omega)]; omega
    rw [List.drop_eq_getElem_cons hi] at hd
    simp only [jSR] at hd
    have hlen := congrArg List.length hd
    simp only [List.length_append] at hlen
    refine Ok.step (fun f => p41_22_eq f sep b 0 _ _ i) ?_
    refine Ok.t (decide_eq_true (by simp only [Int.ofNat_eq_natCast]; omega)) ?_
    simp only [Int.toNat_natCast, at_strs ps i hi, hw1]
    refine Ok.t b1 (Ok.t b2 (Ok.t rfl (Ok.t rfl ?_)))
    refine Ok.call (write_ok h sep (by omega) (by omega)) ?_
    rintro w s1 ⟨⟨n1, rfl⟩, h1, l1⟩
    refine Ok.t rfl ?_
    refine Ok.call (write_ok h1 ps[i] (by rw [List.length_append]; omega) (by omega)) ?_
    rintro w s2 ⟨⟨n2, rfl⟩, h2, l2⟩
    refine Ok.t rfl ?_
    have l12 := Low.trans l1 l2
    refine Ok.mono (ih (i + 1) _ s2 (by omega) h2 (by rw [List.append_assoc, List.append_assoc]; exact hd) (by have := l12.1; omega) hl) ?_
    rintro v s3 ⟨g1, g2⟩
    exact ⟨g1, Low.trans l12 g2⟩
/-- The loop that counts. -/
theorem join12 (sep p : ByteArray) (ps : List ByteArray) (T : Nat) (hT : T ≤ 1000000) (hT0 : 0 < T) (hw : (jS sep (p :: ps)).length = T) (hl : ps.length ≤ 1000000) : ∀ (m i acc : Nat) (s : St), i + m = (p :: ps).length → acc + tl ((p :: ps).drop i) = T →
    Ok (fun f => p41_12 f ((p :: ps).map Value.string) sep (acc : Int) ((p :: ps).map Value.string) (Int.ofNat (p :: ps).length) (i : Int)) s (JQ s (jS sep (p :: ps))) := by
  intro m
  induction m with
  | zero =>
    intro i acc s hm hacc
    rw [List.drop_eq_nil_of_le (by omega)] at hacc
    have hacc : acc = T := hacc
    subst hacc
    refine Ok.step (fun f => p41_12_eq f _ sep _ _ _ i) ?_
    refine Ok.f (decide_eq_false (by simp only [Int.ofNat_eq_natCast]; omega)) ?_
    refine Ok.callP (Ok.newF (vs := [.pointer none, .slice none 0 0]) rfl) ?_
    rintro w s1 ⟨rfl, c1, g1, k1, m1, _⟩
    refine Ok.t rfl ?_
    simp only [show ∀ c, blkOf (itP c) = c from fun _ => rfl, show ∀ c, offOf (itP c) = 0 from fun _ => rfl]
    refine Ok.call (grow_ok (b := s.ctr) ⟨g1, k1⟩ (by omega) (by omega) hT0) ?_
    rintro w s2 ⟨rfl, h2, l2⟩
    have b2 : ((Nat.ble 1 (List.length ((p :: ps).map Value.string))) && Bool.true && (hdOk 1 ((p :: ps).map Value.string))) = true := by
      rw [hd_strs]; rfl
    refine Ok.t rfl (Ok.t b2 (Ok.t rfl (Ok.t rfl ?_)))
    have hlw := hw
    simp only [jS, List.length_append] at hlw
    refine Ok.call (write_ok h2 p (by simp only [List.length_nil]; omega) (by omega)) ?_
    rintro w s3 ⟨⟨n, rfl⟩, h3, l3⟩
    have hs : (List.take ((List.length ((p :: ps).map Value.string)) - 1) (List.drop 1 ((p :: ps).map Value.string))) = ps.map Value.string := by
      simp only [List.map_cons, List.length_cons, List.length_map, List.drop_succ_cons, List.drop_zero, Nat.add_sub_cancel]
      exact List.take_of_length_le (by rw [List.length_map]; exact Nat.le_refl _)
    refine Ok.t rfl (Ok.t (by rw [hd_strs]; simp only [Bool.true_and, Bool.and_eq_true]; exact ⟨rfl, Nat.ble_eq_true_of_le (Nat.le_refl _)⟩) ?_)
    rw [hs, List.length_map]
    refine Ok.mono (join22 sep ps s.ctr acc hT hT0 (jS sep (p :: ps)) hw ps.length 0 _ s3 (by omega) h3 (by simp [jS]) (by have := l2.1; have := l3.1; omega) hl) ?_
    rintro v s4 ⟨rfl, l4⟩
    have l := Low.trans l2 (Low.trans l3 l4)
    exact ⟨rfl, by have := l.1; omega, fun k hk => by rw [l.2 k hk, m1 k hk]⟩
  | succ m ih =>
    intro i acc s hm hacc
    have hi : i < (p :: ps).length := by omega
    have hn : (p :: ps).length ≤ 1000001 := by simp only [List.length_cons]; omega
    generalize p :: ps = qs at *
    have b1 : decide ((0 : Int) ≤ (i : Int)) = true := decide_eq_true (by omega)
    have b2 : ((Nat.ble (Nat.succ i) (List.length (qs.map Value.string))) && Bool.true && (hdOk 1 (qs.map Value.string))) = true := by
      rw [hd_strs, Bool.and_true, Bool.and_true]
      exact Nat.ble_eq_true_of_le (by rw [List.length_map]; omega)
    have hw1 : IntKind.i64.wrap ((i : Int) + 1) = ((i + 1 : Nat) : Int) := by rw [wrap_in _ (by omega) (by omega)]; omega
    rw [List.drop_eq_getElem_cons hi] at hacc
    simp only [tl] at hacc
    have hw2 : IntKind.i64.wrap ((acc : Int) + Int.ofNat (bl qs[i]).length) = ((acc + (bl qs[i]).length : Nat) : Int) := by
      simp only [Int.ofNat_eq_natCast]
      rw [wrap_in _ (by omega) (by omega)]; omega
    have hw3 : IntKind.i64.wrap ((9223372036854775807 : Int) + Int.neg (acc : Int)) = 9223372036854775807 - acc := wrap_in _ (by show _ ≤ (9223372036854775807 : Int) - acc; omega) (by show (9223372036854775807 : Int) - acc ≤ _; omega)
    refine Ok.step (fun f => p41_12_eq f _ sep _ _ _ i) ?_
    refine Ok.t (decide_eq_true (by simp only [Int.ofNat_eq_natCast]; omega)) ?_
    simp only [Int.toNat_natCast, at_strs qs i hi, hw3]
    refine Ok.t b1 (Ok.t b2 (Ok.t rfl (Ok.t rfl (Ok.f (decide_eq_false ?_) ?_))))
    · show ¬ (Int.ofNat (bl qs[i]).length > _)
      simp only [Int.ofNat_eq_natCast]
      omega
    refine Ok.step (fun f => p41_16_eq f _ sep _ _ _ _ i) ?_
    rw [hw1]
    have e : ∀ x : ByteArray, strOf ((Value.string x).cells.toList.headD (Value.tuple ⟨[]⟩)) = x := fun _ => rfl
    rw [e]
    have hw2' : IntKind.i64.wrap ((acc : Int) + Int.ofNat (List.length (Array.toList (ByteArray.data qs[i])))) = ((acc + (bl qs[i]).length : Nat) : Int) := hw2
    rw [hw2']
    exact ih (i + 1) _ s (by omega) (by omega)
theorem join_ok (s : St) (sep : ByteArray) (hs : 0 < (bl sep).length) (hs1 : (bl sep).length ≤ 1000) (ps : List ByteArray) (hl : ps.length ≤ 1000000) (hT : (jS sep ps).length ≤ 1000000) :
    Ok (fun f => callF En (runP En f) 41 [lstV (ps.map Value.string), .string sep]) s (JQ s (jS sep ps)) := by
  refine Ok.step (fun f => f41_eq f _ sep) ?_
  rw [List.length_map]
  cases ps with
  | nil => exact Ok.t rfl (Ok.ret ⟨rfl, Fresh.refl s⟩)
  | cons p ps =>
    refine Ok.f (decide_eq_false (by simp only [List.length_cons, Int.ofNat_eq_natCast]; omega)) ?_
    cases ps with
    | nil =>
      refine Ok.t rfl (Ok.t rfl (Ok.t rfl (Ok.t rfl (Ok.ret ⟨?_, Fresh.refl s⟩))))
      show Value.string p = _
      simp only [jS, jSR, List.append_nil]
      exact congrArg Value.string (mk_bl p).symm
    | cons q ps =>
      refine Ok.f (decide_eq_false (by simp only [List.length_cons, Int.ofNat_eq_natCast]; omega)) ?_
      refine Ok.t (decide_eq_true (by simp only [bl] at hs; simp only [Int.ofNat_eq_natCast]; omega)) ?_
      have hn : IntKind.i64.wrap (Int.subNatNat (p :: q :: ps).length 1) = ((ps.length + 1 : Nat) : Int) := by
        simp only [List.length_cons] at hl ⊢
        rw [Int.subNatNat_eq_coe, wrap_in _ (by omega) (by omega)]; omega
      have hl' := hl
      simp only [List.length_cons] at hl'
      rw [hn]
      refine Ok.t (decide_eq_true (by omega)) ?_
      have hq : Int.tdiv 9223372036854775807 ((ps.length + 1 : Nat) : Int) = (9223372036854775807 : Int) / ((ps.length + 1 : Nat) : Int) := Int.tdiv_eq_ediv_of_nonneg (by omega)
      have hq1 : (1000000 : Int) ≤ (9223372036854775807 : Int) / ((ps.length + 1 : Nat) : Int) := by
        rw [Int.le_ediv_iff_mul_le (by omega)]
        omega
      have hq2 : (9223372036854775807 : Int) / ((ps.length + 1 : Nat) : Int) ≤ 9223372036854775807 := by
        refine Int.ediv_le_self _ (by omega)
      refine Ok.f (decide_eq_false ?_) ?_
      · rw [hq, wrap_in _ (by omega) hq2]
        simp only [bl] at hs1
        simp only [Int.ofNat_eq_natCast]
        omega
      have hlen := jSR_length sep (q :: ps)
      have hT' : (jS sep (p :: q :: ps)).length = (bl p).length + (jSR sep (q :: ps)).length := by simp only [jS, List.length_append]
      simp only [List.length_cons] at hlen
      have hmul : (bl sep).length * (ps.length + 1) ≤ 1000000 := by omega
      have hmul0 : 0 < (bl sep).length * (ps.length + 1) := Nat.mul_pos hs (by omega)
      have e0 : IntKind.i64.wrap (0 + (IntKind.i64.wrap (Int.ofNat (List.length (Array.toList (ByteArray.data sep))) * ((ps.length + 1 : Nat) : Int)))) = (((bl sep).length * (ps.length + 1) : Nat) : Int) := by
        have : Int.ofNat (List.length (Array.toList (ByteArray.data sep))) * ((ps.length + 1 : Nat) : Int) = (((bl sep).length * (ps.length + 1) : Nat) : Int) := by
          simp only [Int.ofNat_eq_natCast, bl]
          exact (Int.natCast_mul _ _).symm
        rw [this, wrap_in (((bl sep).length * (ps.length + 1) : Nat) : Int) (by omega) (by omega), Int.zero_add, wrap_in _ (by omega) (by omega)]
      refine Ok.step (fun f => p41_10_eq f _ sep 0) ?_
      rw [List.length_map, hn, e0]
      refine Ok.step (fun f => p41_11_eq f _ sep _) ?_
      rw [List.length_map]
      refine join12 sep p (q :: ps) _ hT (by omega) rfl (by simp only [List.length_cons]; omega) (p :: q :: ps).length 0 _ s (by omega) ?_
      rw [hT', hlen]
      simp only [List.drop_zero, tl]
      omega
end Go.Proofs.YtmjbmbmnnephjaaGreatDoor
/- The reference's Same: tokens are the same as themselves. -/
namespace Go.Proofs.YtmjbmbmnnephjaaGreatDoor
open Go Go.Ev Go.Proofs
/-- A token's value is a tree of lists. -/
def TokF (t : Tok) : Prop := VF (.agg ⟨[.int .i64 t.t, lstV t.n, lstV t.sy, lstV t.l]⟩)
theorem at_map (ts : List Tok) (i : Nat) (h : i < ts.length) : at_ (ts.map tokV) i = tokV ts[i] := by
  refine atq ?_
  rw [List.getElem?_map, List.getElem?_eq_getElem h]
  rfl
theorem hd_toks (ts : List Tok) : hdOk 8 (ts.map tokV) = true := by
  cases ts with
  | nil => rfl
  | cons t ts => rfl
theorem same_loop (ts : List Tok) (hts : ∀ t, t ∈ ts → TokF t) (hn : ts.length ≤ 9223372036854775807) (c : Bool) : ∀ (m i : Nat) (s : St), i + m = ts.length →
    Ok (fun f => p23_4 f (ts.map tokV) (ts.map tokV) c (i : Int)) s (MQ s) := by
  intro m
  induction m with
  | zero =>
    intro i s hm
    refine Ok.step (fun f => p23_4_eq f _ _ c i) ?_
    refine Ok.f (decide_eq_false (by simp only [List.length_map, Int.ofNat_eq_natCast]; omega)) ?_
    exact Ok.ret ⟨rfl, Fresh.refl s⟩
  | succ m ih =>
    intro i s hm
    have hi : i < ts.length := by omega
    have ht := hts _ (List.getElem_mem hi)
    have he := at_map ts i hi
    generalize ts[i] = t at *
    have b1 : decide ((0 : Int) ≤ (i : Int)) = true := decide_eq_true (by omega)
    have b2 : ((Nat.ble (Nat.succ i) (List.length (ts.map tokV))) && Bool.true && (hdOk 8 (ts.map tokV))) = true := by
      rw [hd_toks, Bool.and_true, Bool.and_true]
      exact Nat.ble_eq_true_of_le (by rw [List.length_map]; omega)
    have hw1 : IntKind.i64.wrap ((i : Int) + 1) = ((i + 1 : Nat) : Int) := by rw [wrap_in _ (by omega) (by omega)]; omega
    refine Ok.step (fun f => p23_4_eq f _ _ c i) ?_
    refine Ok.t (decide_eq_true (by simp only [List.length_map, Int.ofNat_eq_natCast]; omega)) ?_
    simp only [Int.toNat_natCast, he, hw1]
    obtain ⟨kind, at', en, text, tt, n, sy, l⟩ := t
    refine Ok.t b1 (Ok.t b2 (Ok.t rfl (Ok.t rfl (Ok.t rfl ?_))))
    refine Ok.t b1 (Ok.t b2 (Ok.t rfl (Ok.t rfl (Ok.t rfl (Ok.f (by simp) ?_)))))
    refine Ok.t b1 (Ok.t b2 (Ok.t rfl (Ok.t rfl (Ok.t rfl ?_))))
    refine Ok.t b1 (Ok.t b2 (Ok.t rfl (Ok.t rfl (Ok.t rfl (Ok.f (by rw [beqB_eq]; simp) ?_)))))
    refine Ok.t b1 (Ok.t b2 (Ok.t rfl (Ok.t rfl (Ok.t rfl ?_))))
    refine Ok.t b1 (Ok.t b2 (Ok.t rfl (Ok.t rfl (Ok.t rfl ?_))))
    refine Ok.seg (match_ok (v := .agg ⟨[.int .i64 tt, lstV n, lstV sy, lstV l]⟩) ht _) ?_
    rintro w s1 ⟨rfl, f1⟩
    refine Ok.t rfl (Ok.f rfl ?_)
    have f1 : Fresh s ⟨s1.mem, s1.ctr, s1.log ++ s.log⟩ := ⟨f1.1, f1.2⟩
    refine Ok.c (fun _ => ?_) (fun _ => Ok.mq f1 (ih (i + 1) _ (by omega)))
    refine Ok.t b1 (Ok.t b2 (Ok.t rfl (Ok.t rfl (Ok.t rfl ?_))))
    refine Ok.t b1 (Ok.t b2 (Ok.t rfl (Ok.t rfl (Ok.t rfl (Ok.f (by simp) ?_)))))
    refine Ok.t b1 (Ok.t b2 (Ok.t rfl (Ok.t rfl (Ok.t rfl ?_))))
    refine Ok.t b1 (Ok.t b2 (Ok.t rfl (Ok.t rfl (Ok.t rfl (Ok.f (by simp) ?_)))))
    exact Ok.mq f1 (ih (i + 1) _ (by omega))
theorem same_ok (ts : List Tok) (hts : ∀ t, t ∈ ts → TokF t) (hn : ts.length ≤ 9223372036854775807) (c : Bool) (s : St) :
    Ok (fun f => callF En (runP En f) 23 [lstV (ts.map tokV), lstV (ts.map tokV), .bool c]) s (MQ s) := by
  refine Ok.step (fun f => f23_eq f _ _ c) ?_
  refine Ok.f (by simp) ?_
  exact same_loop ts hts hn c ts.length 0 s (by omega)
noncomputable def body23 (f : Nat) (x y : Value) (c : Bool) : Prog := runP En f 23 (frameTm 86 [x, y, .bool c]) [.code (cB 23)] [] none
theorem f23_frz (f : Nat) (x y : Value) (c : Bool) : callF En (runP En f) 23 [x, y, .bool c] = frzL En 20 34 x fun x => frzL En 20 34 y fun y => body23 f x y c := by kernel_rfl
theorem f23_lst (f : Nat) (x y : List Value) (c : Bool) : callF En (runP En f) 23 [lstV x, lstV y, .bool c] = body23 f (lstV x) (lstV y) c := by kernel_rfl
/-- The second list is a row of its own. -/
theorem sameRow_ok (ts : List Tok) (hts : ∀ t, t ∈ ts → TokF t) (hn : ts.length ≤ 9223372036854775807) (c : Bool) (s : St) {lo : Nat} {v : Value} (h : Grow s.mem lo s.ctr 34 8 (toksC ts) v) (hlo : lo ≤ s.ctr) :
    Ok (fun f => callF En (runP En f) 23 [lstV (ts.map tokV), v, .bool c]) s (fun v _ => v = .bool true) := by
  simp only [f23_frz]
  refine Ok.frzLst ?_
  refine frz_toks h fun s' _ _ => ?_
  simp only [← f23_lst]
  exact Ok.mono (same_ok ts hts hn c s') fun _ _ q => q.1
end Go.Proofs.YtmjbmbmnnephjaaGreatDoor
/- text.Quote and the reference's Quote: the same bytes. -/
namespace Go.Proofs.YtmjbmbmnnephjaaGreatDoor
open Go Go.Ev Go.Proofs
def hexE (x : ByteArray) (i : Nat) : List Value := [.int .u8 92, .int .u8 120,
  .int .u8 (Int.ofNat (byteAt (mkStr [48, 49, 50, 51, 52, 53, 54, 55, 56, 57, 97, 98, 99, 100, 101, 102]) (Int.toNat (IntKind.wrap IntKind.u8 (Int.ofNat (Nat.div (byteAt x i) 16)))))),
  .int .u8 (Int.ofNat (byteAt (mkStr [48, 49, 50, 51, 52, 53, 54, 55, 56, 57, 97, 98, 99, 100, 101, 102]) (Nat.mod (byteAt x i) 16)))]
/-- What is quoted of one byte. -/
def qV (x : ByteArray) (i : Nat) : List Value :=
  if (Int.ofNat (byteAt x i)) < (32 : Int) ∨ (Int.ofNat (byteAt x i)) > (126 : Int) ∨ (Int.ofNat (byteAt x i)) = (34 : Int) ∨ (Int.ofNat (byteAt x i)) = (92 : Int) then hexE x i else [.int .u8 (Int.ofNat (byteAt x i))]
def qVs (x : ByteArray) : Nat → Nat → List Value
  | _, 0 => []
  | i, m + 1 => qV x i ++ qVs x (i + 1) m
def qOut (x : ByteArray) (cs : List Value) (i m : Nat) : ByteArray := mkStr (bytesV ((cs ++ qVs x i m) ++ [Value.int IntKind.u8 34]))
def qStr (x : ByteArray) : ByteArray := qOut x [Value.int IntKind.u8 34] 0 (bl x).length
theorem qV_length (x : ByteArray) (i : Nat) : (qV x i).length ≤ 4 := by unfold qV; split <;> simp [hexE]
theorem qV_u8 (x : ByteArray) (i : Nat) : allU8 (qV x i) = true := by unfold qV; split <;> rfl
theorem qV_ints (x : ByteArray) (i : Nat) : ints (qV x i) = true := by unfold qV; split <;> rfl
theorem qVs_length (x : ByteArray) : ∀ (m i : Nat), (qVs x i m).length ≤ 4 * m
  | 0, _ => by simp [qVs]
  | m + 1, i => by
    have h1 := qVs_length x m (i + 1)
    have h2 := qV_length x i
    simp only [qVs, List.length_append]
    omega
theorem qStr_length (x : ByteArray) : (bl (qStr x)).length ≤ 4 * (bl x).length + 2 := by
  have := qVs_length x (bl x).length 0
  unfold qStr qOut
  rw [bl_mk, bytesV_length]
  simp only [List.length_append, List.length_singleton]
  omega
theorem qOut_step (x : ByteArray) (cs : List Value) (i m : Nat) : qOut x (cs ++ qV x i) (i + 1) m = qOut x cs i (m + 1) := by
  unfold qOut
  simp only [qVs, List.append_assoc]
def QQ (s : St) (lo : Nat) (y : ByteArray) (v : Value) (s' : St) : Prop := v = .string y ∧ s.ctr ≤ s'.ctr ∧ ∀ k, k < lo → s'.mem.get k = s.mem.get k
theorem quoteX_loop (x : ByteArray) (hx : (bl x).length ≤ 1000000) (lo : Nat) : ∀ (m i : Nat) (cs : List Value) (v : Value) (s : St), i + m = (bl x).length → cs.length ≤ 4 * i + 1 → allU8 cs = true → Buf s lo 5 cs v →
    Ok (fun f => p40_3 f x v (Int.ofNat (bl x).length) (i : Int)) s (QQ s lo (qOut x cs i m)) := by
  intro m
  induction m with
  | zero =>
    intro i cs v s hm hl hu h
    refine Ok.step (fun f => p40_3_eq f x v _ (i : Int)) ?_
    refine Ok.f (decide_eq_false (by simp only [Int.ofNat_eq_natCast]; omega)) ?_
    refine Ok.callP (Ok.appM appT65 h (es := [Value.int IntKind.u8 34]) rfl (by decide) (by simp; omega)) ?_
    rintro w s1 ⟨g1, g2, g3, g4⟩
    refine Ok.callP (conv65 (g1.grow g4) (allU8_append _ _ hu rfl)) ?_
    rintro w s2 ⟨rfl, r2⟩
    exact Ok.ret ⟨by simp only [qOut, qVs, List.append_nil], by rw [r2.2.1]; exact g2, fun k hk => by rw [r2.1, g3 k hk]⟩
  | succ m IH =>
    intro i cs v s hm hl hu h
    have hi : i < (bl x).length := by omega
    have hw1 : IntKind.i64.wrap ((i : Int) + 1) = ((i + 1 : Nat) : Int) := by rw [wrap_in _ (by omega) (by omega)]; omega
    have nx : ∀ (w : Value) (s' : St), Buf s' lo 5 (cs ++ qV x i) w → s.ctr ≤ s'.ctr → (∀ k, k < lo → s'.mem.get k = s.mem.get k) →
        Ok (fun f => p40_9 f x w (Int.ofNat (bl x).length) (i : Int)) s' (QQ s lo (qOut x cs i (m + 1))) := by
      intro w s' hb hc hf
      have he := qV_length x i
      refine Ok.step (fun f => p40_9_eq f x w _ (i : Int)) ?_
      rw [hw1]
      refine Ok.mono (IH (i + 1) (cs ++ qV x i) w s' (by omega) (by rw [List.length_append]; omega) (allU8_append _ _ hu (qV_u8 x i)) hb) ?_
      rintro v s2 ⟨h1, h2, h3⟩
      exact ⟨by rw [h1, qOut_step], by omega, fun k hk => by rw [h3 k hk, hf k hk]⟩
    obtain ⟨x1, x2, x3⟩ := hexOk (byteAt x i) (byteAt_lt x i)
    have hi' := hi
    simp only [bl] at hi
    refine Ok.step (fun f => p40_3_eq f x v _ (i : Int)) ?_
    refine Ok.t (decide_eq_true (by simp only [bl, Int.ofNat_eq_natCast]; omega)) ?_
    refine Ok.t (decide_eq_true (by omega)) ?_
    refine Ok.t (Nat.ble_eq_true_of_le (by simp only [Int.toNat_natCast]; omega)) ?_
    simp only [Int.toNat_natCast]
    have four : qV x i = hexE x i → Ok (fun f => .seg (buildSliceA En 65 4 ((Prod.mk 0 (Value.int IntKind.u8 92)) :: ((Prod.mk 1 (Value.int IntKind.u8 120)) :: ((Prod.mk 2 (Value.int IntKind.u8 (Int.ofNat (byteAt (mkStr [48, 49, 50, 51, 52, 53, 54, 55, 56, 57, 97, 98, 99, 100, 101, 102]) (Int.toNat (IntKind.wrap IntKind.u8 (Int.ofNat (Nat.div (byteAt x i) 16)))))))) :: ((Prod.mk 3 (Value.int IntKind.u8 (Int.ofNat (byteAt (mkStr [48, 49, 50, 51, 52, 53, 54, 55, 56, 57, 97, 98, 99, 100, 101, 102]) (Nat.mod (byteAt x i) 16))))) :: []))))) fun v68 s69 _ => .seg (builtinA En Builtin.append (65 :: (65 :: [])) (v :: (v68 :: []))) fun v70 s71 _ => Ev.gdL 255 (writesOf s71) s71 [⟨7, writesOf s69, s69⟩] (p40_9 f x v70 (Int.ofNat (bl x).length) (i : Int))) s (QQ s lo (qOut x cs i (m + 1))) := fun e =>
      push_seg (k := fun f w => p40_9 f x w (Int.ofNat (bl x).length) (i : Int)) (b65_4 _ _ _ _) h rfl (by simp) (by simp only [List.length_cons, List.length_nil]; omega) rfl fun w s' h1 _ h3 h4 => nx w s' (by rw [e]; exact h1) h3 h4
    refine Ok.c (fun h1 => Ok.t x3 (Ok.t x2 (Ok.t x1 (four (by unfold qV; rw [if_pos (.inl (of_decide_eq_true h1))]))))) (fun h1 => ?_)
    refine Ok.c (fun h1 => Ok.t x3 (Ok.t x2 (Ok.t x1 (four (by unfold qV; rw [if_pos (.inr (.inl (of_decide_eq_true h1)))]))))) (fun h2 => ?_)
    refine Ok.c (fun h1 => Ok.t x3 (Ok.t x2 (Ok.t x1 (four (by unfold qV; rw [if_pos (.inr (.inr (.inl (of_decide_eq_true h1))))]))))) (fun h3 => ?_)
    refine Ok.c (fun h1 => Ok.t x3 (Ok.t x2 (Ok.t x1 (four (by unfold qV; rw [if_pos (.inr (.inr (.inr (of_decide_eq_true h1))))]))))) (fun h4 => ?_)
    refine Ok.callP (Ok.appM appT65 h (es := [Value.int IntKind.u8 (Int.ofNat (byteAt x i))]) rfl (by simp) (by simp; omega)) ?_
    rintro w s1 ⟨g1, g2, g3, _⟩
    refine nx w s1 ?_ g2 g3
    have e : qV x i = [Value.int IntKind.u8 (Int.ofNat (byteAt x i))] := by
      unfold qV
      rw [if_neg]
      rintro (h | h | h | h)
      · exact (of_decide_eq_false h1) h
      · exact (of_decide_eq_false h2) h
      · exact (of_decide_eq_false h3) h
      · exact (of_decide_eq_false h4) h
    rw [e]
    exact g1
theorem quoteX_ok (s : St) (x : ByteArray) (hx : (bl x).length ≤ 1000000) : Ok (fun f => callF En (runP En f) 40 [.string x]) s (fun v s' => v = .string (qStr x) ∧ Fresh s s') := by
  refine Ok.step (fun f => f40_eq f x) ?_
  exact quoteX_loop x hx s.ctr (bl x).length 0 [Value.int IntKind.u8 34] _ s (by omega) (by simp) rfl ⟨rfl, Nat.le_refl _, .inr rfl⟩

/-! The reference's Quote. -/
def plainC (c : Int) : Bool := decide (c ≥ 32) && (decide (c ≤ 126) && (!decide (c = 34) && !decide (c = 92)))
theorem plain_ok (s : St) (c : Int) : Ok (fun f => callF En (runP En f) 79 [.int .u8 c]) s (fun v s' => v = .bool (plainC c) ∧ s' = s) := by
  refine Ok.step (fun f => f79_eq f c) ?_
  unfold plainC
  repeat' (first | refine Ok.c (fun h => ?_) (fun h => ?_) | exact Ok.ret ⟨by simp_all <;> omega, rfl⟩)
theorem refquote_loop (x : ByteArray) (hx : (bl x).length ≤ 1000000) (lo : Nat) : ∀ (m i : Nat) (cs : List Value) (v : Value) (s : St), i + m = (bl x).length → cs.length ≤ 4 * i + 1 → allU8 cs = true → Buf s lo 5 cs v →
    Ok (fun f => p42_4 f x (mkStr [48, 49, 50, 51, 52, 53, 54, 55, 56, 57, 97, 98, 99, 100, 101, 102]) v (i : Int)) s (QQ s lo (qOut x cs i m)) := by
  intro m
  induction m with
  | zero =>
    intro i cs v s hm hl hu h
    refine Ok.step (fun f => p42_4_eq f x _ v (i : Int)) ?_
    refine Ok.f (decide_eq_false (by simp only [bl] at hm; simp only [Int.ofNat_eq_natCast]; omega)) ?_
    refine Ok.callP (Ok.appM appT65 h (es := [Value.int IntKind.u8 34]) rfl (by decide) (by simp; omega)) ?_
    rintro w s1 ⟨g1, g2, g3, g4⟩
    refine Ok.callP (conv65 (g1.grow g4) (allU8_append _ _ hu rfl)) ?_
    rintro w s2 ⟨rfl, r2⟩
    exact Ok.ret ⟨by simp only [qOut, qVs, List.append_nil], by rw [r2.2.1]; exact g2, fun k hk => by rw [r2.1, g3 k hk]⟩
  | succ m IH =>
    intro i cs v s hm hl hu h
    have hi : i < (bl x).length := by omega
    have hw1 : IntKind.i64.wrap ((i : Int) + 1) = ((i + 1 : Nat) : Int) := by rw [wrap_in _ (by omega) (by omega)]; omega
    have nx : ∀ (w : Value) (s' : St), Buf s' lo 5 (cs ++ qV x i) w → s.ctr ≤ s'.ctr → (∀ k, k < lo → s'.mem.get k = s.mem.get k) →
        Ok (fun f => p42_5 f x (mkStr [48, 49, 50, 51, 52, 53, 54, 55, 56, 57, 97, 98, 99, 100, 101, 102]) w (i : Int)) s' (QQ s lo (qOut x cs i (m + 1))) := by
      intro w s' hb hc hf
      have he := qV_length x i
      refine Ok.step (fun f => p42_5_eq f x _ w (i : Int)) ?_
      rw [hw1]
      refine Ok.mono (IH (i + 1) (cs ++ qV x i) w s' (by omega) (by rw [List.length_append]; omega) (allU8_append _ _ hu (qV_u8 x i)) hb) ?_
      rintro v s2 ⟨h1, h2, h3⟩
      exact ⟨by rw [h1, qOut_step], by omega, fun k hk => by rw [h3 k hk, hf k hk]⟩
    obtain ⟨x1, x2, x3⟩ := hexOk (byteAt x i) (byteAt_lt x i)
    simp only [bl] at hi
    have b0 : Nat.ble (Nat.succ (Int.toNat (i : Int))) (List.length (Array.toList (ByteArray.data x))) = true := Nat.ble_eq_true_of_le (by simp only [Int.toNat_natCast]; omega)
    have b1 : decide ((0 : Int) ≤ (i : Int)) = true := decide_eq_true (by omega)
    refine Ok.step (fun f => p42_4_eq f x _ v (i : Int)) ?_
    refine Ok.t (decide_eq_true (by simp only [Int.ofNat_eq_natCast]; omega)) ?_
    refine Ok.t b1 (Ok.t b0 ?_)
    simp only [Int.toNat_natCast]
    refine Ok.call (plain_ok s _) ?_
    rintro w s1 ⟨rfl, rfl⟩
    refine Ok.t rfl ?_
    refine Ok.c (fun hp => ?_) (fun hp => ?_)
    · refine Ok.t b1 (Ok.t (by simpa using b0) ?_)
      refine Ok.callP (Ok.appM appT65 h (es := [Value.int IntKind.u8 (Int.ofNat (byteAt x i))]) rfl (by simp) (by simp; omega)) ?_
      rintro w s2 ⟨g1, g2, g3, _⟩
      refine nx w s2 ?_ g2 g3
      have e : qV x i = [Value.int IntKind.u8 (Int.ofNat (byteAt x i))] := by
        unfold qV
        rw [if_neg]
        simp only [boolOf, plainC, Bool.and_eq_true, Bool.not_eq_true', decide_eq_true_eq, decide_eq_false_iff_not] at hp
        rintro (h | h | h | h)
        · omega
        · omega
        · exact hp.2.2.1 h
        · exact hp.2.2.2 h
      rw [e]
      exact g1
    · have e : qV x i = hexE x i := by
        unfold qV
        rw [if_pos]
        simp only [boolOf, plainC, Bool.and_eq_false_iff, Bool.not_eq_false', decide_eq_true_eq, decide_eq_false_iff_not] at hp
        rcases hp with h | h | h | h
        · exact .inl (by omega)
        · exact .inr (.inl (by omega))
        · exact .inr (.inr (.inl h))
        · exact .inr (.inr (.inr h))
      refine Ok.t b1 (Ok.t (by simpa using b0) (Ok.t x3 (Ok.t x2 (Ok.t b1 (Ok.t (by simpa using b0) (Ok.t x1 ?_))))))
      exact push_seg (k := fun f w => p42_5 f x (mkStr [48, 49, 50, 51, 52, 53, 54, 55, 56, 57, 97, 98, 99, 100, 101, 102]) w (i : Int)) (b65_4 _ _ _ _) h rfl (by simp) (by simp only [List.length_cons, List.length_nil]; omega) rfl fun w s' h1 _ h3 h4 => nx w s' (by rw [e]; exact h1) h3 h4
theorem refquote_ok (s : St) (x : ByteArray) (hx : (bl x).length ≤ 1000000) : Ok (fun f => callF En (runP En f) 42 [.string x]) s (fun v s' => v = .string (qStr x) ∧ Fresh s s') := by
  refine Ok.step (fun f => f42_eq f x) ?_
  exact refquote_loop x hx s.ctr (bl x).length 0 [Value.int IntKind.u8 34] _ s (by omega) (by simp) rfl ⟨rfl, Nat.le_refl _, .inr rfl⟩
end Go.Proofs.YtmjbmbmnnephjaaGreatDoor
/- lex.Join: the texts of tokens, joined. -/
namespace Go.Ev
open Go
theorem CellsAt.left {m : Tr Slot} {b : Nat} : ∀ {xs ys : List Value} {k : Nat}, CellsAt m b k (xs ++ ys) → CellsAt m b k xs
  | [], _, _, _ => trivial
  | _ :: xs, _, _, h => ⟨h.1, CellsAt.left (xs := xs) h.2⟩
end Go.Ev
namespace Go.Proofs.YtmjbmbmnnephjaaGreatDoor
open Go Go.Ev Go.Proofs
theorem flatC_toks : ∀ ts : List Tok, flatC (ts.map tokV) = toksC ts
  | [] => rfl
  | t :: ts => by
    show t.cells ++ flatC (ts.map tokV) = t.cells ++ toksC ts
    rw [flatC_toks ts]
/-- A list of tokens that is a function's own: a row, or nothing. -/
def OwnT (m : Tr Slot) (lo hi : Nat) (ts : List Tok) (v : Value) : Prop := (ts = [] ∧ v = xlstV []) ∨ Grow m lo hi 34 8 (toksC ts) v
theorem OwnT.congr {m m' : Tr Slot} {lo hi hi' : Nat} {ts : List Tok} {v : Value} (h : OwnT m lo hi ts v) (hh : hi ≤ hi') (e : ∀ j, lo ≤ j → j < hi → m'.get j = m.get j) : OwnT m' lo hi' ts v := by
  rcases h with h | h
  · exact .inl h
  · exact .inr (h.congr hh e)
theorem Ok.copyT {s : St} (ts : List Tok) (hn : ts.length ≤ 1000000) :
    Ok (fun _ => builtinA En Builtin.append (23 :: (23 :: [])) ((xlstV []) :: ((lstV (ts.map tokV)) :: []))) s
      (fun v s' => OwnT s'.mem s.ctr s'.ctr ts v ∧ Fresh s s') := by
  obtain ⟨hu, hs, hb, hz, hz0⟩ := appT23
  obtain ⟨zv, hz⟩ := Option.isSome_iff_exists.1 hz
  have hel : elemOfSlice En 23 = some 34 := by unfold elemOfSlice; rw [hu]
  have hle : (ts.map tokV).length = ts.length := List.length_map ..
  have hfe := flatC_toks ts
  have hho := hd_toks ts
  generalize ts.map tokV = es at *
  have happ : appendA En (23 :: (23 :: [])) ((xlstV []) :: ((lstV es) :: [])) = appendX En 23 23 [] (lstV es) := rfl
  have hlen : lenA (lstV es) = some es.length := rfl
  have hf1 : ∀ n k, firstA 8 n (lstV es) k = gd (hdOk 8 es) (k (flatC (es.take n))) := fun _ _ => rfl
  have h80 : hdOk 8 [] = true := rfl
  have hf0 : ∀ l : List Value, flatC [] ++ l = l := fun _ => rfl
  obtain ⟨m, c, l⟩ := s
  by_cases h0 : es.length = 0
  · have ht : ts = [] := List.length_eq_zero_iff.1 (by omega)
    subst ht
    refine ⟨xlstV [], ⟨m, c, l⟩, ⟨.inl ⟨rfl, rfl⟩, Fresh.refl _⟩, 0, fun _ _ => ?_⟩
    have hd : decide ((0 + 0) * (120 + 1) ≤ 1099511627776) = true := by decide
    simp only [builtinA, happ, appendX, hel, hu, hs, hb, Ev.opt, isIntD, appN, hlen, h0, hz, gd, List.length_nil, h80, hd, Bool.true_and, Prog.run]
  · obtain ⟨n, hn1⟩ : ∃ n, es.length = n + 1 := ⟨es.length - 1, by omega⟩
    have hd : decide ((0 + (n + 1)) * (120 + 1) ≤ 1099511627776) = true := decide_eq_true (by omega)
    have hfl : flatC (es.take (n + 1)) = toksC ts := by rw [← hn1, List.take_length, hfe]
    have hbl : Nat.ble (toksC ts).length (toksC ts).length = true := Nat.ble_eq_true_of_le (Nat.le_refl _)
    refine ⟨.slice (some ⟨c, 0, none⟩) (0 + (n + 1)) (capOf (0 + (n + 1)) false), ⟨layCells c (toksC ts) (c + 1) (m.set c (some (.hdr ⟨(toksC ts).length, 34, false, false, true, 0, false, false, []⟩))), c + (toksC ts).length + 1, ⟨true, c, (toksC ts).length + 1⟩ :: l⟩, ⟨.inr ⟨toksC_one _, .inr ⟨c, 0 + (n + 1), false, [], rfl, ?_, Nat.le_refl _, ?_, fun k hk => ?_, ?_, ?_⟩⟩, ?_, fun k hk => ?_⟩, 0, fun _ _ => ?_⟩
    · rw [toksC_length, ← hle, hn1, Nat.zero_add]
    · simp only; omega
    · cases hk
    · simp only
      rw [lay_below _ _ _ _ _ (by omega), Tr.get_set, if_pos rfl]
    · exact CellsAt.lay _ _ _
    · simp only; omega
    · simp only at hk ⊢
      rw [lay_below _ _ _ _ _ (by omega), Tr.get_set, if_neg (by omega)]
    · simp only [builtinA, happ, appendX, hel, hu, hs, hb, Ev.opt, isIntD, appN, hlen, hn1, hz, gd, List.length_nil, h80, hd, appC, hf1, hfl, hho, Bool.true_and, hf0, Prog.run, Prog.new, hbl, St.newH, Nat.add_eq]
/-- A token's text, as it is joined. -/
def txt (t : Tok) : ByteArray := if t.kind = 3 then qStr t.text else t.text
def spc : ByteArray := mkStr [32]
noncomputable def body41 (f : Nat) (x : Value) (y : ByteArray) : Prog := runP En f 41 (frameTm 75 [x, .string y]) [.code (cB 41)] [] none
theorem f41_frz (f : Nat) (x : Value) (y : ByteArray) : callF En (runP En f) 41 [x, .string y] = frzL En 20 9 x fun x => body41 f x y := by kernel_rfl
theorem f41_lst (f : Nat) (x : List Value) (y : ByteArray) : callF En (runP En f) 41 [lstV x, .string y] = body41 f (lstV x) y := by kernel_rfl
theorem iaK (r n c : Nat) (j : Int) (k : Value → Prog) : indexAddrK En 23 (Value.slice (some ⟨r, 0, none⟩) n c) (Value.int IntKind.i64 j) k = gc (decide (0 ≤ j)) (gc (Nat.blt j.toNat n && Nat.blt 0 8) (k (.pointer (some ⟨r, Nat.add 0 (Nat.mul j.toNat 8), none⟩)))) := by kernel_rfl
theorem toks_at (m : Tr Slot) (b : Nat) (ts : List Tok) (i : Nat) (hi : i < ts.length) (k : Nat) (h : CellsAt m b k (toksC ts)) : CellsAt m b (k + i * 8) ts[i].cells := by
  have e : ts = ts.take i ++ (ts[i] :: ts.drop (i + 1)) := by rw [← List.drop_eq_getElem_cons hi, List.take_append_drop]
  have e2 : toksC ts = toksC (ts.take i) ++ (ts[i].cells ++ toksC (ts.drop (i + 1))) := by
    have := congrArg toksC e
    rw [toksC_append] at this
    exact this
  rw [e2] at h
  have h1 := h.right
  rw [toksC_length, List.length_take, Nat.min_eq_left (by omega)] at h1
  exact h1.left
theorem lexjoin_loop (lo hi : Nat) (ts : List Tok) (v : Value) (hn : ts.length ≤ 1000000) (hx : ∀ t, t ∈ ts → (bl t.text).length ≤ 1000000) (hT : (jS spc (ts.map txt)).length ≤ 1000000) : ∀ (m i : Nat) (x3 : Value) (s : St), i + m = ts.length → OwnT s.mem lo hi ts v → hi ≤ s.ctr →
    Grow s.mem hi s.ctr 9 1 (((ts.map txt).take i).map Value.string) x3 →
    Ok (fun f => p19_3 f x3 v (Int.ofNat ts.length) (i : Int)) s (fun w s' => w = .string (mkStr (jS spc (ts.map txt))) ∧ s.ctr ≤ s'.ctr ∧ ∀ k, k < hi → s'.mem.get k = s.mem.get k) := by
  intro m
  induction m with
  | zero =>
    intro i x3 s hm ho hc hg
    refine Ok.step (fun f => p19_3_eq f x3 v _ i) ?_
    refine Ok.f (decide_eq_false (by simp only [Int.ofNat_eq_natCast]; omega)) ?_
    rw [List.take_of_length_le (by rw [List.length_map]; omega)] at hg
    simp only [f41_frz]
    have fz : Ok (fun f => frzL En 20 9 x3 fun x => body41 f x spc) s (fun w s' => w = .string (mkStr (jS spc (ts.map txt))) ∧ s.ctr ≤ s'.ctr ∧ ∀ k, k < hi → s'.mem.get k = s.mem.get k) := by
      refine Ok.frzL (by kernel_rfl) sl9 (by kernel_rfl) hg fun s' c1 f1 => ?_
      simp only [← f41_lst]
      refine Ok.mono (join_ok s' spc (by decide) (by decide) (ts.map txt) (by rw [List.length_map]; exact hn) hT) ?_
      rintro w s2 ⟨h1, h2, h3⟩
      exact ⟨h1, by omega, fun k hk => by rw [h3 k (by omega), f1 k hk]⟩
    refine Ok.call fz ?_
    rintro w s1 ⟨rfl, h1⟩
    exact Ok.t rfl (Ok.ret ⟨rfl, h1⟩)
  | succ m ih =>
    intro i x3 s hm ho hc hg
    have hil : i < ts.length := by omega
    have hw1 : IntKind.i64.wrap ((i : Int) + 1) = ((i + 1 : Nat) : Int) := by rw [wrap_in _ (by omega) (by omega)]; omega
    refine Ok.step (fun f => p19_3_eq f x3 v _ i) ?_
    refine Ok.t (decide_eq_true (by simp only [Int.ofNat_eq_natCast]; omega)) ?_
    have ho' := ho
    rcases ho' with ⟨e, _⟩ | ⟨hone, ⟨_, e⟩ | ⟨r, n, sy, olds, rfl, a2, a3, a4, a5, a6, a7⟩⟩
    · rw [e] at hil; simp at hil
    · have := congrArg List.length e
      rw [toksC_length, List.length_nil] at this
      omega
    rw [toksC_length] at a2
    have hn' : n = ts.length := by omega
    subst hn'
    simp only [iaK, Int.toNat_natCast]
    refine Ok.t (decide_eq_true (by omega)) (Ok.t (by simp only [Bool.and_eq_true]; exact ⟨Nat.ble_eq_true_of_le hil, rfl⟩) (Ok.t rfl ?_))
    have hcell := toks_at s.mem r ts i hil (r + 1) a7
    have hlt : r + 1 + i * 8 + 8 ≤ hi := by rw [toksC_length] at a4; omega
    have hxt := hx _ (List.getElem_mem hil)
    have htk : (ts.map txt).take (i + 1) = (ts.map txt).take i ++ [txt ts[i]] := by
      rw [List.take_add_one, List.getElem?_eq_getElem (by rw [List.length_map]; exact hil)]
      simp
    generalize ts[i] = t at *
    obtain ⟨kind, at', en, text, tt, tn, tsy, tl'⟩ := t
    refine Ok.callP (Ok.loadA (n := 8) (vs := Tok.cells ⟨kind, at', en, text, tt, tn, tsy, tl'⟩) (by kernel_rfl) (by kernel_rfl) rfl ⟨_, a6⟩ (by simp only [offOf, Nat.add_eq, Nat.mul_eq, Nat.zero_add]; exact hcell)) ?_
    rintro w s1 ⟨rfl, m1, c1, _⟩
    refine Ok.t rfl ?_
    refine Ok.callP (Ok.newF (vs := [.int .i64 0, .int .i64 0, .int .i64 0, .string (mkStr []), .int .i64 0, .slice none 0 0, .slice none 0 0, .slice none 0 0]) rfl) ?_
    rintro w s2 ⟨rfl, c2, g2, k2, m2, _⟩
    refine Ok.t rfl ?_
    simp only [show ∀ c, blkOf (itP c) = c from fun _ => rfl, show ∀ c, offOf (itP c) = 0 from fun _ => rfl]
    have row2 : Row s2.mem s1.ctr [.int .i64 0, .int .i64 0, .int .i64 0, .string (mkStr []), .int .i64 0, .slice none 0 0, .slice none 0 0, .slice none 0 0] := ⟨⟨_, _, _, _, g2⟩, k2⟩
    refine Ok.callP (Ok.storeRow (n := 8) (ws := Tok.cells ⟨kind, at', en, text, tt, tn, tsy, tl'⟩) (by kernel_rfl) row2 rfl rfl rfl) ?_
    rintro w s3 ⟨rfl, c3, r3, m3⟩
    have h9 : scal En 9 = true := by kernel_rfl
    refine Ok.pl h9 (r3.cell 3 rfl) fun s4 q4 => ?_
    refine Ok.t rfl ?_
    refine Ok.pl s3' ((r3.cell 0 rfl).reads q4) fun s5 q5 => ?_
    refine Ok.t rfl ?_
    have q5 := q4.trans q5
    have c5 : s5.ctr = s.ctr + 9 := by rw [q5.2.1, c3, c2, c1]
    have m5 : ∀ k, k < s.ctr → s5.mem.get k = s.mem.get k := fun k hk => by rw [q5.1, m3 k (.inl (by omega)), m2 k (by omega), m1]
    -- the text is put behind the others
    have push : ∀ s6 : St, Fresh s5 s6 → Ok (fun f => p19_8 f x3 (txt ⟨kind, at', en, text, tt, tn, tsy, tl'⟩) (Value.slice (some ⟨r, 0, none⟩) ts.length (capOf ts.length false)) (Int.ofNat ts.length) (i : Int)) s6 (fun w s' => w = .string (mkStr (jS spc (ts.map txt))) ∧ s.ctr ≤ s'.ctr ∧ ∀ k, k < hi → s'.mem.get k = s.mem.get k) := by
      intro s6 f6
      refine Ok.step (fun f => p19_8_eq f x3 _ _ _ i) ?_
      have hg6 : Grow s6.mem hi s6.ctr 9 1 (((ts.map txt).take i).map Value.string) x3 := hg.congr (by have := f6.1; omega) fun j _ hj => by rw [f6.2 j (by omega), m5 j hj]
      refine Ok.callP (Ok.app appT29 hg6 rfl rfl (by have := f6.1; omega) ?_) ?_
      · rw [List.length_map, List.length_take]; simp only [List.length_map]; omega
      rintro w s7 ⟨g7, c7, m7⟩
      rw [hw1]
      have m7' : ∀ k, k < hi → s7.mem.get k = s.mem.get k := fun k hk => by rw [m7 k hk, f6.2 k (by omega), m5 k (by omega)]
      refine Ok.mono (ih (i + 1) w s7 (by omega) (ho.congr (Nat.le_refl _) fun j _ hj => m7' j hj) (by have := f6.1; omega) ?_) ?_
      · rw [htk, List.map_append]
        exact g7
      · rintro v s8 ⟨h1, h2, h3⟩
        exact ⟨h1, by have := f6.1; omega, fun k hk => by rw [h3 k hk, m7' k hk]⟩
    refine Ok.c (fun h => ?_) (fun h => ?_)
    · have h : kind = 3 := of_decide_eq_true h
      refine Ok.call (quoteX_ok s5 text hxt) ?_
      rintro w s6 ⟨rfl, f6⟩
      refine Ok.t rfl ?_
      have := push s6 f6
      simp only [txt, if_pos h] at this
      exact this
    · have h : kind ≠ 3 := of_decide_eq_false h
      have := push s5 (Fresh.refl _)
      simp only [txt, if_neg h] at this
      exact this
/-- lex.Join of a list of one's own. -/
theorem lexjoin_ok (s : St) (lo : Nat) (ts : List Tok) (v : Value) (hn : ts.length ≤ 1000000) (hx : ∀ t, t ∈ ts → (bl t.text).length ≤ 1000000) (hT : (jS spc (ts.map txt)).length ≤ 1000000) (ho : OwnT s.mem lo s.ctr ts v) :
    Ok (fun f => callF En (runP En f) 19 [v]) s (fun w s' => w = .string (mkStr (jS spc (ts.map txt))) ∧ Fresh s s') := by
  refine Ok.step (fun f => f19_eq f v) ?_
  have hl : Ok (fun _ => builtinA En Builtin.len (23 :: []) (v :: [])) s (fun w s' => w = vInt ts.length ∧ s' = s) := by
    have el : ∀ (a : Option Addr) (n c : Nat), builtinA En Builtin.len (23 :: []) (Value.slice a n c :: []) = .ret (vInt n) := fun _ _ _ => by kernel_rfl
    have ex : builtinA En Builtin.len (23 :: []) (xlstV [] :: []) = .ret (vInt 0) := by kernel_rfl
    rcases ho with ⟨rfl, rfl⟩ | ⟨_, ⟨rfl, e⟩ | ⟨r, n, sy, olds, rfl, a2, _⟩⟩
    · rw [ex]; exact Ok.ret ⟨rfl, rfl⟩
    · have := congrArg List.length e
      rw [toksC_length, List.length_nil] at this
      rw [el, show ts.length = 0 by omega]; exact Ok.ret ⟨rfl, rfl⟩
    · rw [toksC_length] at a2
      rw [el, show n = ts.length by omega]; exact Ok.ret ⟨rfl, rfl⟩
  refine Ok.callP hl ?_
  rintro w s1 ⟨rfl, rfl⟩
  refine Ok.t rfl ?_
  refine Ok.mono (lexjoin_loop lo s1.ctr ts v hn hx hT ts.length 0 _ s1 (by omega) ho (Nat.le_refl _) (Grow.nil _ _ _ _ _)) ?_
  rintro w s2 ⟨h1, h2, h3⟩
  exact ⟨h1, h2, h3⟩
end Go.Proofs.YtmjbmbmnnephjaaGreatDoor
/- The reference's Join. -/
namespace Go.Ev
open Go
theorem u8s_ints (l : List UInt8) : ints (u8s l) = true := by simp [ints, u8s]
theorem u8s_append (a b : List UInt8) : u8s (a ++ b) = u8s a ++ u8s b := by simp [u8s]
/-- A string that is appended: its bytes. -/
theorem appS_eq {E : Env} {t el by_ : Nat} (ht : AppT E t el 1 by_) (h9 : E.und 9 = some .string) (v : Value) (x : ByteArray) :
    builtinA E Builtin.append (t :: (9 :: [])) (v :: (Value.string x :: [])) = builtinA E Builtin.append (t :: (t :: [])) (v :: (xlstV (u8s x.data.toList) :: [])) := by
  obtain ⟨hu, hs, hb, hz, hz0⟩ := ht
  have hel : elemOfSlice E t = some el := by unfold elemOfSlice; rw [hu]
  have hl1 : lenA (.string x) = some x.data.toList.length := rfl
  have hl2 : lenA (xlstV (u8s x.data.toList)) = some x.data.toList.length := congrArg some (u8s_length _)
  have key : ∀ n, appC E false el 1 n (.string x) = appC E false el 1 n (xlstV (u8s x.data.toList)) := by
    intro n
    funext k
    show gd (Nat.beq 1 1) (k ((x.data.toList.take n).map fun b => .int .u8 b.toNat)) = gd (hdOk 1 (u8s x.data.toList)) (k (flatC ((u8s x.data.toList).take n)))
    have e : (u8s x.data.toList).take n = u8s (x.data.toList.take n) := (List.map_take ..).symm
    rw [ints_hd _ (u8s_ints _), e, flatC_ints _ (u8s_ints _)]
    rfl
  have hB : ∀ base len c, appendB E t 9 base len c (.string x) = appendB E t t base len c (xlstV (u8s x.data.toList)) := by
    intro base len c
    simp only [appendB, hel, hu, hs, hb, h9, Ev.opt, isIntD, appN, hl1, hl2, key]
  have hX : ∀ es, appendX E t 9 es (.string x) = appendX E t t es (xlstV (u8s x.data.toList)) := by
    intro es
    simp only [appendX, hel, hu, hs, hb, h9, Ev.opt, isIntD, appN, hl1, hl2, key]
  show appendA E [t, 9] [v, .string x] = appendA E [t, t] [v, xlstV (u8s x.data.toList)]
  cases v with
  | slice base len c => exact hB base len c
  | _ =>
    simp only [appendA, hX]
/-- Nothing is appended. -/
theorem Ok.app0 {E : Env} {t el by_ lo : Nat} {cs : List Value} {v : Value} {s : St} (ht : AppT E t el 1 by_) (h : Buf s lo el cs v) (hn : cs.length * (by_ + 1) ≤ 1099511627776) :
    Ok (fun _ => builtinA E Builtin.append (t :: (t :: [])) (v :: (xlstV [] :: []))) s (fun w s' => w = v ∧ s' = s) := by
  obtain ⟨m, c, l⟩ := s
  obtain ⟨hu, hs, hb, hz, hz0⟩ := ht
  obtain ⟨zv, hz⟩ := Option.isSome_iff_exists.1 hz
  obtain ⟨hi, hlo, hg⟩ := h
  have hel : elemOfSlice E t = some el := by unfold elemOfSlice; rw [hu]
  have hlen : lenA (xlstV []) = some 0 := rfl
  have hoke : hdOk 1 cs = true := ints_hd cs hi
  have hf1 : ∀ n k, firstA 1 n (xlstV []) k = gd true (k (flatC (([] : List Value).take n))) := fun _ _ => rfl
  rcases hg with ⟨_, ⟨rfl, rfl⟩ | ⟨r, n, sy, olds, rfl, a2, a3, a4, a5, a6, a7⟩⟩ | rfl
  · refine ⟨.slice none 0 0, ⟨m, c, l⟩, ⟨rfl, rfl⟩, 0, fun _ _ => ?_⟩
    have hd : decide ((0 + 0) * (by_ + 1) ≤ 1099511627776) = true := decide_eq_true (by simp)
    simp only [builtinA, appendA, appendB, hel, hu, hs, hb, Ev.opt, isIntD, appN, hlen, hz, gd, hd, Prog.run]
  · have hcl : capLo (capOf n false) = n := by show (2 * n + 0) / 2 = n; omega
    have hd : decide ((n + 0) * (by_ + 1) ≤ 1099511627776) = true := decide_eq_true (by rw [Nat.add_zero, show n = cs.length by omega]; exact hn)
    have hble : Nat.ble (n + 0) n = true := Nat.ble_eq_true_of_le (Nat.le_refl _)
    refine ⟨.slice (some ⟨r, 0, none⟩) n (capOf n false), ⟨m, c, l⟩, ⟨rfl, rfl⟩, 0, fun _ _ => ?_⟩
    simp only [builtinA, appendA, appendB, hel, hu, hs, hb, Ev.opt, isIntD, appN, hlen, hz, gd, hd, hcl, hble, appC, hf1, Prog.run]
  · have happ : appendA E (t :: (t :: [])) (xlstV cs :: (xlstV [] :: [])) = appendX E t t cs (xlstV []) := rfl
    have hd : (hdOk 1 cs && decide ((cs.length + 0) * (by_ + 1) ≤ 1099511627776)) = true := by
      rw [hoke, Bool.true_and]; exact decide_eq_true hn
    refine ⟨xlstV cs, ⟨m, c, l⟩, ⟨rfl, rfl⟩, 0, fun _ _ => ?_⟩
    simp only [builtinA, happ, appendX, hel, hu, hs, hb, Ev.opt, isIntD, appN, hlen, hz, gd, hd, Prog.run]
theorem Ok.appS {E : Env} {t el by_ lo : Nat} {cs : List Value} {v : Value} {x : ByteArray} {s : St} (ht : AppT E t el 1 by_) (h9 : E.und 9 = some .string) (h : Buf s lo el cs v) (hv : ∃ a b c, v = Value.slice a b c) (hn : (cs.length + x.data.toList.length) * (by_ + 1) ≤ 1099511627776) :
    Ok (fun _ => builtinA E Builtin.append (t :: (9 :: [])) (v :: (Value.string x :: []))) s
      (fun w s' => Buf s' lo el (cs ++ u8s x.data.toList) w ∧ s.ctr ≤ s'.ctr ∧ (∀ k, k < lo → s'.mem.get k = s.mem.get k) ∧ ∃ a b c, w = Value.slice a b c) := by
  rw [appS_eq ht h9]
  cases hx : x.data.toList with
  | nil =>
    refine Ok.mono (Ok.app0 ht h (Nat.le_trans (Nat.mul_le_mul_right _ (Nat.le_add_right _ _)) hn)) ?_
    rintro w s' ⟨rfl, rfl⟩
    exact ⟨by simpa [u8s] using h, Nat.le_refl _, fun _ _ => rfl, hv⟩
  | cons b l => exact Ok.appM ht h (u8s_ints _) (by rw [u8s_length]; simp) (by rw [u8s_length, ← hx]; exact hn)
end Go.Ev
namespace Go.Proofs.YtmjbmbmnnephjaaGreatDoor
open Go Go.Ev Go.Proofs
/-- What is still to be joined, behind so many parts. -/
def jO (i : Nat) (ps : List ByteArray) : List UInt8 := if i = 0 then jS spc ps else jSR spc ps
theorem h9s : En.und 9 = some .string := by kernel_rfl
theorem allU8_u8s (l : List UInt8) : allU8 (u8s l) = true := u8s_ok l
theorem refjoin_loop (lo : Nat) (ts : List Tok) (hn : ts.length ≤ 1000000) (hx : ∀ t, t ∈ ts → (bl t.text).length ≤ 1000000) (hT : (jS spc (ts.map txt)).length ≤ 1000000) : ∀ (m i : Nat) (cs : List UInt8) (v : Value) (s : St), i + m = ts.length → Buf s lo 5 (u8s cs) v → (∃ a b c, v = Value.slice a b c) → (i = 0 → cs = []) →
    cs ++ jO i ((ts.map txt).drop i) = jS spc (ts.map txt) →
    Ok (fun f => p20_3 f (ts.map tokV) v (i : Int)) s (QQ s lo (mkStr (jS spc (ts.map txt)))) := by
  intro m
  induction m with
  | zero =>
    intro i cs v s hm hb hv h0 hcs
    rw [List.drop_eq_nil_of_le (by rw [List.length_map]; omega)] at hcs
    have hcs : cs = jS spc (ts.map txt) := by
      rw [← hcs]
      unfold jO
      split <;> simp [jS, jSR]
    refine Ok.step (fun f => p20_3_eq f _ v i) ?_
    refine Ok.f (decide_eq_false (by simp only [List.length_map, Int.ofNat_eq_natCast]; omega)) ?_
    refine Ok.callP (conv65 (hb.grow hv) (allU8_u8s cs)) ?_
    rintro w s1 ⟨rfl, r1⟩
    exact Ok.ret ⟨by rw [u8s_bytes, hcs], by rw [r1.2.1]; exact Nat.le_refl _, fun k _ => by rw [r1.1]⟩
  | succ m ih =>
    intro i cs v s hm hb hv h0 hcs
    have hi : i < ts.length := by omega
    have he := at_map ts i hi
    have hxt := hx _ (List.getElem_mem hi)
    have hlen := congrArg List.length hcs
    rw [List.length_append] at hlen
    have b1 : decide ((0 : Int) ≤ (i : Int)) = true := decide_eq_true (by omega)
    have b2 : ((Nat.ble (Nat.succ i) (List.length (ts.map tokV))) && Bool.true && (hdOk 8 (ts.map tokV))) = true := by
      rw [hd_toks, Bool.and_true, Bool.and_true]
      exact Nat.ble_eq_true_of_le (by rw [List.length_map]; omega)
    have hw1 : IntKind.i64.wrap ((i : Int) + 1) = ((i + 1 : Nat) : Int) := by rw [wrap_in _ (by omega) (by omega)]; omega
    have hdr : (ts.map txt).drop i = txt ts[i] :: (ts.map txt).drop (i + 1) := by
      rw [List.drop_eq_getElem_cons (by rw [List.length_map]; exact hi)]
      simp
    -- with the blank
    have two : ∀ (ds : List UInt8) (w : Value) (s1 : St), Buf s1 lo 5 (u8s ds) w → (∃ a b c, w = Value.slice a b c) → ds ++ (bl (txt ts[i]) ++ jSR spc ((ts.map txt).drop (i + 1))) = jS spc (ts.map txt) → s.ctr ≤ s1.ctr → (∀ k, k < lo → s1.mem.get k = s.mem.get k) →
        Ok (fun f => p20_7 f (ts.map tokV) w (i : Int)) s1 (QQ s lo (mkStr (jS spc (ts.map txt)))) := by
      intro ds w s1 hb1 hw hds c1 m1
      have hlds := congrArg List.length hds
      simp only [List.length_append] at hlds
      have nx : ∀ (w2 : Value) (s2 : St), Buf s2 lo 5 (u8s (ds ++ bl (txt ts[i]))) w2 → (∃ a b c, w2 = Value.slice a b c) → s1.ctr ≤ s2.ctr → (∀ k, k < lo → s2.mem.get k = s1.mem.get k) →
          Ok (fun f => p20_4 f (ts.map tokV) w2 (i : Int)) s2 (QQ s lo (mkStr (jS spc (ts.map txt)))) := by
        intro w2 s2 hb2 hw2 c2 m2
        refine Ok.step (fun f => p20_4_eq f _ w2 i) ?_
        rw [hw1]
        refine Ok.mono (ih (i + 1) (ds ++ bl (txt ts[i])) w2 s2 (by omega) hb2 hw2 (fun h => by omega) ?_) ?_
        · unfold jO
          rw [if_neg (by omega), List.append_assoc]
          exact hds
        · rintro v s3 ⟨q1, q2, q3⟩
          exact ⟨q1, by omega, fun k hk => by rw [q3 k hk, m2 k hk, m1 k hk]⟩
      refine Ok.step (fun f => p20_7_eq f _ w i) ?_
      simp only [Int.toNat_natCast, he]
      generalize ts[i] = t at *
      obtain ⟨kind, at', en, text, tt, tn, tsy, tl'⟩ := t
      refine Ok.t b1 (Ok.t b2 (Ok.t rfl (Ok.t rfl (Ok.t rfl ?_))))
      refine Ok.c (fun h => ?_) (fun h => ?_)
      · have h : kind = 3 := of_decide_eq_true h
        have ht : txt ⟨kind, at', en, text, tt, tn, tsy, tl'⟩ = qStr text := by simp only [txt, if_pos h]
        rw [ht] at nx hlds
        refine Ok.t b1 (Ok.t b2 (Ok.t rfl (Ok.t rfl (Ok.t rfl ?_))))
        refine Ok.call (refquote_ok s1 text hxt) ?_
        rintro w2 s2 ⟨rfl, f2⟩
        refine Ok.t rfl ?_
        refine Ok.callP (Ok.appS (by_ := 1) appT65 h9s (hb1.fresh f2) hw (by rw [u8s_length]; simp only [strOf]; simp only [bl] at hlds; omega)) ?_
        rintro w3 s3 ⟨g1, g2, g3, g4⟩
        refine nx w3 s3 (by rw [u8s_append]; exact g1) g4 (by have := f2.1; omega) fun k hk => by rw [g3 k hk, f2.2 k (by have := hb1.2.1; omega)]
      · have h : kind ≠ 3 := of_decide_eq_false h
        have ht : txt ⟨kind, at', en, text, tt, tn, tsy, tl'⟩ = text := by simp only [txt, if_neg h]
        rw [ht] at nx hlds
        refine Ok.t b1 (Ok.t b2 (Ok.t rfl (Ok.t rfl (Ok.t rfl ?_))))
        refine Ok.callP (Ok.appS (by_ := 1) appT65 h9s hb1 hw (by rw [u8s_length]; show (_ + (bl text).length) * _ ≤ _; omega)) ?_
        rintro w3 s3 ⟨g1, g2, g3, g4⟩
        exact nx w3 s3 (by rw [u8s_append]; exact g1) g4 g2 g3
    refine Ok.step (fun f => p20_3_eq f _ v i) ?_
    refine Ok.t (decide_eq_true (by simp only [List.length_map, Int.ofNat_eq_natCast]; omega)) ?_
    refine Ok.c (fun h => ?_) (fun h => ?_)
    · have h : (0 : Int) < i := of_decide_eq_true h
      have hi0 : i ≠ 0 := by omega
      unfold jO at hcs
      rw [if_neg hi0, hdr] at hcs
      simp only [jSR] at hcs
      have hls := congrArg List.length hcs
      simp only [List.length_append] at hls
      refine Ok.callP (Ok.appM appT65 hb (es := [Value.int IntKind.u8 32]) rfl (by decide) (by rw [u8s_length]; simp only [List.length_singleton]; omega)) ?_
      rintro w s1 ⟨g1, g2, g3, g4⟩
      refine two (cs ++ bl spc) w s1 (by rw [u8s_append]; exact g1) g4 (by rw [List.append_assoc]; exact hcs) g2 g3
    · have h : ¬ ((i : Int) > 0) := of_decide_eq_false h
      have hi0 : i = 0 := by omega
      have hcn := h0 hi0
      subst hcn
      unfold jO at hcs
      rw [if_pos hi0, hdr] at hcs
      simp only [jS] at hcs
      exact two [] v s hb hv hcs (Nat.le_refl _) fun _ _ => rfl
theorem refjoin_ok (s : St) (ts : List Tok) (hn : ts.length ≤ 1000000) (hx : ∀ t, t ∈ ts → (bl t.text).length ≤ 1000000) (hT : (jS spc (ts.map txt)).length ≤ 1000000) :
    Ok (fun f => callF En (runP En f) 20 [lstV (ts.map tokV)]) s (fun w s' => w = .string (mkStr (jS spc (ts.map txt))) ∧ Fresh s s') := by
  refine Ok.step (fun f => f20_eq f _) ?_
  refine Ok.mono (refjoin_loop s.ctr ts hn hx hT ts.length 0 [] _ s (by omega) ⟨rfl, Nat.le_refl _, .inl (Grow.nil _ _ _ _ _)⟩ ⟨_, _, _, rfl⟩ (fun _ => rfl) ?_) ?_
  · unfold jO
    rw [if_pos rfl]; rfl
  · rintro w s2 ⟨h1, h2, h3⟩
    exact ⟨h1, h2, h3⟩
end Go.Proofs.YtmjbmbmnnephjaaGreatDoor
/- lex.Word and the reference's Word. -/
namespace Go.Proofs.YtmjbmbmnnephjaaGreatDoor
open Go Go.Ev Go.Proofs
def allIn (x : ByteArray) : Nat → Nat → Bool
  | _, 0 => true
  | i, m + 1 => isInside (Int.ofNat (byteAt x i)) && allIn x (i + 1) m
def headOk (x : ByteArray) : Bool := !(beqB x.data.toList []) && isLetter (Int.ofNat (byteAt x 0))
/-- What is a word. -/
def wordB (x : ByteArray) : Bool := allIn x 0 x.data.toList.length && headOk x
theorem word_loop (x : ByteArray) (hx : x.data.toList.length ≤ 1000000) : ∀ (m i : Nat) (s : St), i + m = x.data.toList.length →
    Ok (fun f => p21_2 f x (Int.ofNat x.data.toList.length) (i : Int)) s (fun v s' => v = .bool (allIn x i m && headOk x) ∧ s' = s) := by
  intro m
  induction m with
  | zero =>
    intro i s hm
    refine Ok.step (fun f => p21_2_eq f x _ i) ?_
    refine Ok.f (decide_eq_false (by simp only [Int.ofNat_eq_natCast]; omega)) ?_
    refine Ok.c (fun h => ?_) (fun h => ?_)
    · have hne : x.data.toList ≠ [] := fun e => by rw [e] at h; cases h
      refine Ok.t (Nat.ble_eq_true_of_le (List.length_pos_iff.2 hne)) ?_
      refine Ok.call (letter_ok s _) ?_
      rintro v s1 ⟨rfl, rfl⟩
      refine Ok.t rfl (Ok.ret ⟨?_, rfl⟩)
      simp only [allIn, headOk, Bool.true_and, boolOf]
      rw [show (!(beqB x.data.toList [])) = true from h, Bool.true_and]
    · refine Ok.ret ⟨?_, rfl⟩
      simp only [allIn, headOk, Bool.true_and]
      rw [show (!(beqB x.data.toList [])) = false from h, Bool.false_and]
  | succ m ih =>
    intro i s hm
    have hw1 : IntKind.i64.wrap ((i : Int) + 1) = ((i + 1 : Nat) : Int) := by rw [wrap_in _ (by omega) (by omega)]; omega
    refine Ok.step (fun f => p21_2_eq f x _ i) ?_
    refine Ok.t (decide_eq_true (by simp only [Int.ofNat_eq_natCast]; omega)) (Ok.t (decide_eq_true (by omega)) (Ok.t (Nat.ble_eq_true_of_le (by simp only [Int.toNat_natCast]; omega)) ?_))
    simp only [Int.toNat_natCast, hw1]
    refine Ok.call (inside_ok s _) ?_
    rintro v s1 ⟨rfl, rfl⟩
    refine Ok.t rfl ?_
    refine Ok.c (fun h => ?_) (fun h => ?_)
    · have h : isInside (Int.ofNat (byteAt x i)) = false := by simpa [boolOf] using h
      exact Ok.ret ⟨by simp only [allIn, h, Bool.false_and], rfl⟩
    · have h : isInside (Int.ofNat (byteAt x i)) = true := by simpa [boolOf] using h
      simp only [allIn, h, Bool.true_and]
      exact ih (i + 1) s1 (by omega)
theorem word_ok (s : St) (x : ByteArray) (hx : x.data.toList.length ≤ 1000000) : Ok (fun f => callF En (runP En f) 21 [.string x]) s (fun v s' => v = .bool (wordB x) ∧ s' = s) := by
  refine Ok.step (fun f => f21_eq f x) ?_
  exact word_loop x hx x.data.toList.length 0 s (by omega)
theorem rletter_ok (s : St) (c : Int) : Ok (fun f => callF En (runP En f) 45 [.int .u8 c]) s (fun v s' => v = .bool (isLetter c) ∧ s' = s) := by
  refine Ok.step (fun f => f45_eq f c) ?_
  unfold isLetter
  repeat' (first | refine Ok.c (fun h => ?_) (fun h => ?_) | exact Ok.ret ⟨by simp_all <;> omega, rfl⟩)
theorem rdigit_ok (s : St) (c : Int) : Ok (fun f => callF En (runP En f) 80 [.int .u8 c]) s (fun v s' => v = .bool (isDigit c) ∧ s' = s) := by
  refine Ok.step (fun f => f80_eq f c) ?_
  unfold isDigit
  repeat' (first | refine Ok.c (fun h => ?_) (fun h => ?_) | exact Ok.ret ⟨by simp_all <;> omega, rfl⟩)
theorem rinside_ok (s : St) (c : Int) : Ok (fun f => callF En (runP En f) 46 [.int .u8 c]) s (fun v s' => v = .bool (isInside c) ∧ s' = s) := by
  refine Ok.step (fun f => f46_eq f c) ?_
  refine Ok.call (rletter_ok s c) ?_
  rintro v s1 ⟨rfl, rfl⟩
  refine Ok.t rfl ?_
  refine Ok.c (fun h => ?_) (fun h => ?_)
  · exact Ok.ret ⟨by simp_all [isInside, boolOf], rfl⟩
  · refine Ok.call (rdigit_ok _ c) ?_
    rintro v s1 ⟨rfl, rfl⟩
    refine Ok.t rfl ?_
    refine Ok.c (fun h1 => ?_) (fun h1 => ?_)
    · exact Ok.ret ⟨by simp_all [isInside, boolOf], rfl⟩
    · exact Ok.ret ⟨by simp_all [isInside, boolOf], rfl⟩
theorem rword_loop (x : ByteArray) (hx : x.data.toList.length ≤ 1000000) : ∀ (m i : Nat) (s : St), i + m = x.data.toList.length →
    Ok (fun f => p22_4 f x (i : Int)) s (fun v s' => v = .bool (allIn x i m) ∧ s' = s) := by
  intro m
  induction m with
  | zero =>
    intro i s hm
    refine Ok.step (fun f => p22_4_eq f x i) ?_
    exact Ok.f (decide_eq_false (by simp only [Int.ofNat_eq_natCast]; omega)) (Ok.ret ⟨rfl, rfl⟩)
  | succ m ih =>
    intro i s hm
    have hw1 : IntKind.i64.wrap ((i : Int) + 1) = ((i + 1 : Nat) : Int) := by rw [wrap_in _ (by omega) (by omega)]; omega
    refine Ok.step (fun f => p22_4_eq f x i) ?_
    refine Ok.t (decide_eq_true (by simp only [Int.ofNat_eq_natCast]; omega)) (Ok.t (decide_eq_true (by omega)) (Ok.t (Nat.ble_eq_true_of_le (by simp only [Int.toNat_natCast]; omega)) ?_))
    simp only [Int.toNat_natCast, hw1]
    refine Ok.call (rinside_ok s _) ?_
    rintro v s1 ⟨rfl, rfl⟩
    refine Ok.t rfl ?_
    refine Ok.c (fun h => ?_) (fun h => ?_)
    · have h : isInside (Int.ofNat (byteAt x i)) = false := by simpa [boolOf] using h
      exact Ok.ret ⟨by simp only [allIn, h, Bool.false_and], rfl⟩
    · have h : isInside (Int.ofNat (byteAt x i)) = true := by simpa [boolOf] using h
      simp only [allIn, h, Bool.true_and]
      exact ih (i + 1) s1 (by omega)
theorem rword_ok (s : St) (x : ByteArray) (hx : x.data.toList.length ≤ 1000000) : Ok (fun f => callF En (runP En f) 22 [.string x]) s (fun v s' => v = .bool (wordB x) ∧ s' = s) := by
  refine Ok.step (fun f => f22_eq f x) ?_
  refine Ok.c (fun h => ?_) (fun h => ?_)
  · refine Ok.ret ⟨?_, rfl⟩
    simp only [wordB, headOk]
    rw [h]
    simp
  · have hne : x.data.toList ≠ [] := fun e => by rw [e] at h; cases h
    refine Ok.t (Nat.ble_eq_true_of_le (List.length_pos_iff.2 hne)) ?_
    refine Ok.call (rletter_ok s _) ?_
    rintro v s1 ⟨rfl, rfl⟩
    refine Ok.t rfl ?_
    refine Ok.c (fun h1 => ?_) (fun h1 => ?_)
    · have h1 : isLetter (Int.ofNat (byteAt x 0)) = false := by simpa [boolOf] using h1
      exact Ok.ret ⟨by simp only [wordB, headOk, h1, Bool.and_false], rfl⟩
    · have h1 : isLetter (Int.ofNat (byteAt x 0)) = true := by simpa [boolOf] using h1
      refine Ok.mono (rword_loop x hx x.data.toList.length 0 s1 (by omega)) ?_
      rintro v s2 ⟨rfl, rfl⟩
      refine ⟨?_, rfl⟩
      simp only [wordB, headOk, h1, h, Bool.not_false, Bool.and_true]
end Go.Proofs.YtmjbmbmnnephjaaGreatDoor
/- LexJoins itself: whatever tokens are joined, and what is a word. -/
namespace Go.Proofs.YtmjbmbmnnephjaaGreatDoor
open Go Go.Ev Go.Proofs
def wsum : List Tok → Nat
  | [] => 0
  | t :: ts => (bl t.text).length + 1 + wsum ts
theorem wsum_append : ∀ (a b : List Tok), wsum (a ++ b) = wsum a + wsum b
  | [], b => by simp [wsum]
  | t :: a, b => by simp only [List.cons_append, wsum, wsum_append a b]; omega
theorem wsum_length : ∀ ts : List Tok, ts.length ≤ wsum ts
  | [] => by simp
  | t :: ts => by have := wsum_length ts; simp only [List.length_cons, wsum]; omega
theorem wsum_mem : ∀ (ts : List Tok) (t : Tok), t ∈ ts → (bl t.text).length ≤ wsum ts
  | [], _, h => by cases h
  | a :: ts, t, h => by
    simp only [wsum]
    rcases List.mem_cons.1 h with rfl | h
    · omega
    · have := wsum_mem ts t h; omega
theorem txt_length (t : Tok) : (bl (txt t)).length ≤ 4 * (bl t.text).length + 2 := by
  unfold txt
  split
  · exact qStr_length _
  · omega
theorem jSR_wsum : ∀ ts : List Tok, (jSR spc (ts.map txt)).length ≤ 4 * wsum ts
  | [] => by simp [jSR]
  | t :: ts => by
    have h1 := jSR_wsum ts
    have h2 := txt_length t
    have h3 : (bl spc).length = 1 := rfl
    simp only [List.map_cons, jSR, wsum, List.length_append]
    omega
theorem jS_wsum (ts : List Tok) : (jS spc (ts.map txt)).length ≤ 4 * wsum ts := by
  cases ts with
  | nil => simp [jS]
  | cons t ts =>
    have h1 := jSR_wsum ts
    have h2 := txt_length t
    simp only [List.map_cons, jS, wsum, List.length_append]
    omega
theorem live10 (ih : Rec) : callF En ih 10 [] = .ret (.bool true) := by kernel_rfl
theorem beqB_self (l : List UInt8) : beqB l l = true := by rw [beqB_eq]; simp
theorem frzXl (n : Nat) (p : Value → Prog) : frzL En (n + 1) 34 (xlstV []) p = p (lstV []) := rfl
/-- The second list is a function's own. -/
theorem sameOwn_ok (ts : List Tok) (hts : ∀ t, t ∈ ts → TokF t) (hn : ts.length ≤ 9223372036854775807) (c : Bool) (s : St) {lo : Nat} {v : Value} (h : OwnT s.mem lo s.ctr ts v) (hlo : lo ≤ s.ctr) :
    Ok (fun f => callF En (runP En f) 23 [lstV (ts.map tokV), v, .bool c]) s (fun v _ => v = .bool true) := by
  rcases h with ⟨rfl, rfl⟩ | h
  · simp only [f23_frz]
    refine Ok.frzLst ?_
    simp only [frzXl, ← f23_lst]
    exact Ok.mono (same_ok [] hts hn c s) fun _ _ q => q.1
  · exact sameRow_ok ts hts hn c s h hlo
def BT (v : Value) (_ : St) : Prop := v = .bool true
theorem joins_live (s : St) : Ok (fun f => Prog.call (callF En (runP En f) 10 []) fun v1 => cnd (Prog.ret (Value.bool (boolOf v1))) Prog.fail (okK Kd.bool v1)) s BT := by
  simp only [live10]
  refine Ok.call (Q1 := fun w _ => w = .bool true) (Ok.ret rfl) ?_
  rintro w s1 rfl
  exact Ok.t rfl (Ok.ret rfl)
theorem joins_rest (s : St) (x : ByteArray) (ts : List Tok) (hts : ∀ t, t ∈ ts → TokF t) (hw : (bl x).length + wsum ts ≤ 70000) :
    Ok (fun f => callP (fun v10 =>
        (Prog.call (callF En (runP En f) 19 [v10]) fun v11 =>
          (cnd
            (Prog.call (callF En (runP En f) 20 [(lstV (ts.map tokV))]) fun v12 =>
              (cnd
                (cnd
                  (Prog.call (callF En (runP En f) 21 [(Value.string x)]) fun v13 =>
                    (cnd
                      (Prog.call (callF En (runP En f) 22 [(Value.string x)]) fun v14 =>
                        (cnd
                          (cnd
                            (Prog.call (callF En (runP En f) 23 [(lstV (ts.map tokV)), v10, (Value.bool Bool.true)]) fun v15 =>
                              (cnd
                                (cnd
                                  (Prog.call (callF En (runP En f) 10 []) fun v16 =>
                                    (cnd
                                      (Prog.ret (Value.bool (boolOf v16)))
                                      Prog.fail
                                      (okK Kd.bool v16)))
                                  (Prog.ret (Value.bool Bool.false))
                                  (boolOf v15))
                                Prog.fail
                                (okK Kd.bool v15)))
                            (Prog.ret (Value.bool Bool.false))
                            (decide ((boolOf v13) = (boolOf v14))))
                          Prog.fail
                          (okK Kd.bool v14)))
                      Prog.fail
                      (okK Kd.bool v13)))
                  (Prog.ret (Value.bool Bool.false))
                  (beqB (Array.toList (ByteArray.data (strOf v11))) (Array.toList (ByteArray.data (strOf v12)))))
                Prog.fail
                (okK Kd.str v12)))
            Prog.fail
            (okK Kd.str v11))))
        (builtinA En Builtin.append (23 :: (23 :: [])) ((xlstV []) :: ((lstV (ts.map tokV)) :: [])))) s BT := by
  have hl := wsum_length ts
  have hj := jS_wsum ts
  have hx : ∀ t, t ∈ ts → (bl t.text).length ≤ 1000000 := fun t ht => by have := wsum_mem ts t ht; omega
  refine Ok.callP (Ok.copyT ts (by omega)) ?_
  rintro v s1 ⟨o1, f1⟩
  refine Ok.call (lexjoin_ok s1 s.ctr ts v (by omega) hx (by omega) o1) ?_
  rintro w s2 ⟨rfl, f2⟩
  have o2 : OwnT s2.mem s.ctr s2.ctr ts v := o1.congr f2.1 fun j _ hj => f2.2 j hj
  refine Ok.t rfl ?_
  refine Ok.call (refjoin_ok s2 ts (by omega) hx (by omega)) ?_
  rintro w s3 ⟨rfl, f3⟩
  have o3 : OwnT s3.mem s.ctr s3.ctr ts v := o2.congr f3.1 fun j _ hj => f3.2 j hj
  refine Ok.t rfl (Ok.t (beqB_self _) ?_)
  refine Ok.call (word_ok s3 x (by show (bl x).length ≤ _; omega)) ?_
  rintro w s4 ⟨rfl, rfl⟩
  refine Ok.t rfl ?_
  refine Ok.call (rword_ok s4 x (by show (bl x).length ≤ _; omega)) ?_
  rintro w s5 ⟨rfl, rfl⟩
  refine Ok.t rfl (Ok.t (decide_eq_true rfl) ?_)
  refine Ok.call (sameOwn_ok ts hts (by omega) true s5 o3 (by have := f1.1; have := f2.1; have := f3.1; omega)) ?_
  rintro w s6 rfl
  exact Ok.t rfl (Ok.t rfl (joins_live s6))
theorem joins_loop (x : ByteArray) (hx : (bl x).length ≤ 140737488351232) (ts : List Tok) (hts : ∀ t, t ∈ ts → TokF t) (hn : ts.length ≤ 9223372036854775807) (hb : ∀ t, t ∈ ts → (bl t.text).length ≤ 140737488351232) : ∀ (m i acc : Nat) (s : St), i + m = ts.length → acc = (bl x).length + wsum (ts.take i) → acc ≤ 281474976710656 →
    Ok (fun f => p5_3 f (ts.map tokV) x (acc : Int) (i : Int)) s BT := by
  intro m
  induction m with
  | zero =>
    intro i acc s hm ha hacc
    refine Ok.step (fun f => p5_3_eq f _ x acc i) ?_
    refine Ok.f (decide_eq_false (by simp only [List.length_map, Int.ofNat_eq_natCast]; omega)) ?_
    refine Ok.c (fun _ => joins_live s) (fun h => ?_)
    have h : ¬ ((acc : Int) > 70000) := of_decide_eq_false h
    rw [List.take_of_length_le (by omega)] at ha
    exact joins_rest s x ts hts (by omega)
  | succ m ih =>
    intro i acc s hm ha hacc
    have hi : i < ts.length := by omega
    have he := at_map ts i hi
    have hbt := hb _ (List.getElem_mem hi)
    have hws : wsum (ts.take (i + 1)) = wsum (ts.take i) + ((bl ts[i].text).length + 1) := by
      rw [List.take_add_one, List.getElem?_eq_getElem hi, wsum_append]
      simp [wsum]
    have b1 : decide ((0 : Int) ≤ (i : Int)) = true := decide_eq_true (by omega)
    have b2 : ((Nat.ble (Nat.succ i) (List.length (ts.map tokV))) && Bool.true && (hdOk 8 (ts.map tokV))) = true := by
      rw [hd_toks, Bool.and_true, Bool.and_true]
      exact Nat.ble_eq_true_of_le (by rw [List.length_map]; omega)
    have hw1 : IntKind.i64.wrap ((i : Int) + 1) = ((i + 1 : Nat) : Int) := by rw [wrap_in _ (by omega) (by omega)]; omega
    refine Ok.step (fun f => p5_3_eq f _ x acc i) ?_
    refine Ok.t (decide_eq_true (by simp only [List.length_map, Int.ofNat_eq_natCast]; omega)) ?_
    simp only [Int.toNat_natCast, he, hw1]
    refine Ok.c (fun h => ?_) (fun h => ?_)
    · have h : (acc : Int) ≤ 70000 := of_decide_eq_true h
      generalize ts[i] = t at *
      obtain ⟨kind, at', en, text, tt, tn, tsy, tl'⟩ := t
      refine Ok.t b1 (Ok.t b2 (Ok.t rfl (Ok.t rfl (Ok.t rfl ?_))))
      have e : ∀ x : ByteArray, strOf ((List.drop 3 (Array.toList (Value.cells (tokV ⟨kind, at', en, x, tt, tn, tsy, tl'⟩)))).headD (Value.tuple ⟨[]⟩)) = x := fun _ => rfl
      rw [e]
      have hw2 : IntKind.i64.wrap (IntKind.i64.wrap ((acc : Int) + Int.ofNat (List.length (Array.toList (ByteArray.data text)))) + 1) = ((acc + ((bl text).length + 1) : Nat) : Int) := by
        show IntKind.i64.wrap (IntKind.i64.wrap ((acc : Int) + Int.ofNat (bl text).length) + 1) = _
        simp only [Int.ofNat_eq_natCast] at *
        rw [wrap_in ((acc : Int) + ((bl text).length : Nat)) (by omega) (by omega), wrap_in _ (by omega) (by omega)]
        omega
      rw [hw2]
      simp only at hws hbt
      exact ih (i + 1) _ s (by omega) (by rw [hws, ha]; omega) (by omega)
    · have h : ¬ ((acc : Int) ≤ 70000) := of_decide_eq_false h
      exact Ok.t (decide_eq_true (by omega)) (joins_live s)
theorem joins_ok (s : St) (x : ByteArray) (hx : (bl x).length ≤ 140737488351232) (ts : List Tok) (hts : ∀ t, t ∈ ts → TokF t) (hn : ts.length ≤ 9223372036854775807) (hb : ∀ t, t ∈ ts → (bl t.text).length ≤ 140737488351232) :
    Ok (fun f => callF En (runP En f) 5 [lstV (ts.map tokV), .string x]) s BT := by
  refine Ok.step (fun f => f5_eq f _ x) ?_
  exact joins_loop x hx ts hts hn hb ts.length 0 (bl x).length s (by omega) (by simp [wsum]) (by omega)
end Go.Proofs.YtmjbmbmnnephjaaGreatDoor
