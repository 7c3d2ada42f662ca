/- Rules on memory: several parts are appended; a row of bytes as a string. -/
import Derived.Test.YtmjbmbmnnephjaaGreatDoorLxKQ3
import Derived.Test.YtmjbmbmnnephjaaGreatDoorLxKQ2
import Derived.Test.YtmjbmbmnnephjaaGreatDoorLxKG1
import Derived.Test.YtmjbmbmnnephjaaGreatDoorLxKG3
import Derived.Test.YtmjbmbmnnephjaaGreatDoorLxKG2
namespace Go.Ev
open Go
def ints (l : List Value) : Bool := l.all fun v => match v with
  | .int _ _ => true
  | _ => false
theorem flatC_ints : ∀ (l : List Value), ints l = true → flatC l = l
  | [], _ => rfl
  | v :: l, h => by
    simp only [ints, List.all_cons, Bool.and_eq_true] at h
    have h2 := flatC_ints l h.2
    cases v with
    | int k n => simp only [flatC, h2]; rfl
    | _ => simp at h
theorem ints_one (l : List Value) (h : ints l = true) : l.all oneC = true := by
  simp only [ints, List.all_eq_true] at h ⊢
  intro v hv
  have := h v hv
  cases v <;> simp_all [oneC]
theorem ints_hd (l : List Value) (h : ints l = true) : hdOk 1 l = true := by
  cases l with
  | nil => rfl
  | cons v l =>
    simp only [ints, List.all_cons, Bool.and_eq_true] at h
    cases v with
    | int k n => rfl
    | _ => simp at h
theorem ints_append {a b : List Value} (ha : ints a = true) (hb : ints b = true) : ints (a ++ b) = true := by
  simp only [ints, List.all_append, Bool.and_eq_true] at *
  exact ⟨ha, hb⟩
/-- A buffer of numbers: a list without room, or a row that grows. -/
def Buf (s : St) (lo el : Nat) (cs : List Value) (v : Value) : Prop := ints cs = true ∧ lo ≤ s.ctr ∧ (Grow s.mem lo s.ctr el 1 cs v ∨ v = xlstV cs)
theorem Buf.grow {s : St} {lo el : Nat} {cs : List Value} {v : Value} (h : Buf s lo el cs v) (e : ∃ a b c, v = Value.slice a b c) : Grow s.mem lo s.ctr el 1 cs v := by
  obtain ⟨a, b, c, rfl⟩ := e
  rcases h.2.2 with g | g
  · exact g
  · cases g
theorem Buf.fresh {s s' : St} {lo el : Nat} {cs : List Value} {v : Value} (h : Buf s lo el cs v) (f : Fresh s s') : Buf s' lo el cs v := by
  obtain ⟨h1, h2, h3⟩ := h
  refine ⟨h1, by have := f.1; omega, ?_⟩
  rcases h3 with h3 | h3
  · exact .inl (h3.congr f.1 fun j _ hj => f.2 j hj)
  · exact .inr h3
theorem Ok.appM {E : Env} {t el by_ lo : Nat} {cs es : List Value} {v : Value} {s : St} (ht : AppT E t el 1 by_) (h : Buf s lo el cs v) (he : ints es = true) (h0 : 0 < es.length) (hn : (cs.length + es.length) * (by_ + 1) ≤ 1099511627776) :
    Ok (fun _ => builtinA E Builtin.append (t :: (t :: [])) (v :: (xlstV es :: []))) s
      (fun w s' => Buf s' lo el (cs ++ es) w ∧ s.ctr ≤ s'.ctr ∧ (∀ k, k < lo → s'.mem.get k = s.mem.get k) ∧ ∃ a b c, w = Value.slice a b c) := by
  obtain ⟨m, c, l⟩ := s
  obtain ⟨hu, hs, hb, hz, hz0⟩ := ht
  obtain ⟨zv, hz⟩ := Option.isSome_iff_exists.1 hz
  obtain ⟨hi, hlo, hg⟩ := h
  have hel : elemOfSlice E t = some el := by unfold elemOfSlice; rw [hu]
  have hlen : lenA (xlstV es) = some es.length := rfl
  have hok : hdOk 1 es = true := ints_hd es he
  have hoke : hdOk 1 cs = true := ints_hd cs hi
  have hone := ints_one cs hi
  have hone2 := ints_one es he
  have hfl : flatC (es.take es.length) = es := by rw [List.take_length]; exact flatC_ints es he
  have hfl1 : flatC cs = cs := flatC_ints cs hi
  have hf1 : ∀ n k, firstA 1 n (xlstV es) k = gd (hdOk 1 es) (k (flatC (es.take n))) := fun _ _ => rfl
  obtain ⟨n1, hn1⟩ : ∃ n1, es.length = n1 + 1 := ⟨es.length - 1, by omega⟩
  have hbi := ints_append hi he
  rcases hg with ⟨_, ⟨rfl, rfl⟩ | ⟨r, n, sy, olds, rfl, a2, a3, a4, a5, a6, a7⟩⟩ | rfl
  · have hd : decide ((0 + (n1 + 1)) * (by_ + 1) ≤ 1099511627776) = true := decide_eq_true (by rw [← hn1]; simpa using hn)
    have hbl : Nat.ble es.length es.length = true := Nat.ble_eq_true_of_le (Nat.le_refl _)
    refine ⟨.slice (some ⟨c, 0, none⟩) (n1 + 1) (capOf (n1 + 1) false), ⟨layCells c es (c + 1) (m.set c (some (.hdr ⟨es.length, el, false, false, true, 0, false, false, []⟩))), c + es.length + 1, ⟨true, c, es.length + 1⟩ :: l⟩, ⟨⟨hbi, ?_, .inl ⟨?_, .inr ⟨c, n1 + 1, false, [], rfl, ?_, hlo, ?_, fun k hk => ?_, ?_, ?_⟩⟩⟩, ?_, fun k hk => ?_, ⟨_, _, _, rfl⟩⟩, 0, fun _ _ => ?_⟩
    · simp only at hlo ⊢; omega
    · simpa using hone2
    · simp [hn1]
    · simp; omega
    · cases hk
    · simp only [List.nil_append]
      rw [lay_below _ _ _ _ _ (by omega), Tr.get_set, if_pos rfl]
    · exact CellsAt.lay _ _ _
    · simp; omega
    · simp only at hlo ⊢
      rw [lay_below _ _ _ _ _ (by omega), Tr.get_set, if_neg (by omega)]
    · have hfl' : flatC (es.take (n1 + 1)) = es := by rw [← hn1]; exact hfl
      simp only [builtinA, appendA, appendB, hel, hu, hs, hb, Ev.opt, isIntD, appN, hlen, hn1, hz, gd, hd, appC, hf1, hok, hfl', Prog.run, Prog.new]
      rw [show Nat.ble (n1 + 1) (n1 + 1) = true from Nat.ble_eq_true_of_le (Nat.le_refl _)]
      simp only [St.newH, Nat.add_eq]
  · simp only at a4 a6 a7 hlo
    have hcl : capLo (capOf n false) = n := by show (2 * n + 0) / 2 = n; omega
    have hce : capEx (capOf n false) = false := by
      simp only [capEx, capOf, Nat.add_eq, Nat.mul_eq, Nat.add_zero]
      have : Nat.mod (2 * n) 2 = 0 := by show (2 * n) % 2 = 0; omega
      rw [this]; rfl
    have hd : decide ((n + (n1 + 1)) * (by_ + 1) ≤ 1099511627776) = true := decide_eq_true (by rw [← hn1, show n = cs.length by omega]; exact hn)
    have hble : Nat.ble (n + (n1 + 1)) n = false := by
      cases hq : Nat.ble (n + (n1 + 1)) n with
      | false => rfl
      | true => have := Nat.le_of_ble_eq_true hq; omega
    have hg2 : decide (True ∧ 0 + n * 1 = cs.length ∧ True ∧ True ∧ True ∧ 0 ≤ n * 1 + (n1 + 1) * 1) = true := decide_eq_true ⟨trivial, by omega, trivial, trivial, trivial, Nat.zero_le _⟩
    have hrd : rdCells m r (n * 1) 0 = some cs := by rw [← a2]; exact CellsAt.rd a7
    have hlenc : (cs ++ es).length = n * 1 + (n1 + 1) * 1 := by rw [List.length_append, hn1]; omega
    have hbl : Nat.ble (cs ++ es).length (n * 1 + (n1 + 1) * 1) = true := Nat.ble_eq_true_of_le (by omega)
    refine ⟨.slice (some ⟨c, 0, none⟩) (n + (n1 + 1)) (capOf (n + (n1 + 1)) false), ⟨layCells c (cs ++ es) (c + 1) ((m.set r (some (.hdr ⟨cs.length, el, false, false, true, 0, sy, true, []⟩))).set c (some (.hdr ⟨n * 1 + (n1 + 1) * 1, el, false, false, true, 0, sy, false, r :: olds⟩))), c + (n * 1 + (n1 + 1) * 1) + 1, ⟨true, c, n * 1 + (n1 + 1) * 1 + 1⟩ :: ⟨true, r, 1⟩ :: ⟨false, r + 1 + 0, n * 1⟩ :: ⟨false, r, 1⟩ :: ⟨false, r, 1⟩ :: l⟩, ⟨⟨hbi, ?_, .inl ⟨?_, .inr ⟨c, n + (n1 + 1), sy, r :: olds, rfl, ?_, hlo, ?_, fun k hk => ?_, ?_, ?_⟩⟩⟩, ?_, fun k hk => ?_, ⟨_, _, _, rfl⟩⟩, 0, fun _ _ => ?_⟩
    · simp only; omega
    · exact all_append _ _ _ hone hone2
    · rw [hlenc]; omega
    · simp only; omega
    · rcases List.mem_cons.1 hk with rfl | hk
      · exact ⟨a3, by omega⟩
      · have := a5 k hk; omega
    · simp only
      rw [lay_below _ _ _ _ _ (by omega), Tr.get_set, if_pos rfl, hlenc]
    · exact CellsAt.lay _ _ _
    · simp only; omega
    · simp only at hlo ⊢
      rw [lay_below _ _ _ _ _ (by omega), Tr.get_set, if_neg (by omega), Tr.get_set, if_neg (by omega)]
    · have hfl' : flatC (es.take (n1 + 1)) = es := by rw [← hn1]; exact hfl
      simp only [builtinA, appendA, appendB, hel, hu, hs, hb, Ev.opt, isIntD, appN, hlen, hn1, hz, gd, hd, hcl, hce, hble, appC, hf1, hok, hfl', Prog.run, St.hd, St.setHd, St.rd, a6, hg2, hrd, hone2, hbl, St.newH, Nat.add_eq, Bool.true_and, Nat.beq_refl]
  · have hx : isXl (xlstV cs) = true := rfl
    have hxe : elems (xlstV cs) = cs := rfl
    have hd : (hdOk 1 cs && decide ((cs.length + (n1 + 1)) * (by_ + 1) ≤ 1099511627776)) = true := by
      rw [hoke, Bool.true_and]; exact decide_eq_true (by rw [← hn1]; exact hn)
    have happ : appendA E (t :: (t :: [])) (xlstV cs :: (xlstV es :: [])) = appendX E t t cs (xlstV es) := rfl
    refine ⟨.slice (some ⟨c, 0, none⟩) (cs.length + (n1 + 1)) (capOf (cs.length + (n1 + 1)) false), ⟨layCells c (cs ++ es) (c + 1) (m.set c (some (.hdr ⟨(cs ++ es).length, el, false, false, true, 0, false, false, []⟩))), c + (cs ++ es).length + 1, ⟨true, c, (cs ++ es).length + 1⟩ :: l⟩, ⟨⟨hbi, ?_, .inl ⟨all_append _ _ _ hone hone2, .inr ⟨c, cs.length + (n1 + 1), false, [], rfl, ?_, hlo, ?_, fun k hk => ?_, ?_, ?_⟩⟩⟩, ?_, fun k hk => ?_, ⟨_, _, _, rfl⟩⟩, 0, fun _ _ => ?_⟩
    · simp only at hlo ⊢; omega
    · rw [List.length_append, hn1, Nat.mul_one]
    · simp only; omega
    · cases hk
    · simp only
      rw [lay_below _ _ _ _ _ (by omega), Tr.get_set, if_pos rfl]
    · exact CellsAt.lay _ _ _
    · simp only; omega
    · simp only at hlo ⊢
      rw [lay_below _ _ _ _ _ (by omega), Tr.get_set, if_neg (by omega)]
    · have hfl' : flatC (es.take (n1 + 1)) = es := by rw [← hn1]; exact hfl
      have hbl : Nat.ble (cs ++ es).length (cs ++ es).length = true := Nat.ble_eq_true_of_le (Nat.le_refl _)
      simp only [builtinA, happ, appendX, hel, hu, hs, hb, Ev.opt, isIntD, appN, hlen, hn1, hz, gd, hd, appC, hf1, hok, hfl', hfl1, Prog.run, Prog.new, hbl, St.newH, Nat.add_eq]
/-- A row of bytes as a string. -/
theorem Ok.convStr {E : Env} {src dst e : Nat} {lo el : Nat} {cs : List Value} {v : Value} {s : St} (h1 : E.und src = some (.slice e)) (h2 : E.und dst = some .string) (h3 : isU8 E e = true) (h : Grow s.mem lo s.ctr el 1 cs v) (hu : allU8 cs = true) :
    Ok (fun _ => convA E src dst v) s (fun w s' => w = .string (mkStr (bytesV cs)) ∧ Reads s s') := by
  obtain ⟨m, c, l⟩ := s
  rcases h.2 with ⟨rfl, rfl⟩ | ⟨r, n, sy, olds, rfl, a2, a3, a4, a5, a6, a7⟩
  · refine ⟨_, ⟨m, c, l⟩, ⟨rfl, Reads.refl _⟩, 0, fun _ _ => ?_⟩
    simp only [convA, h1, h2, Ev.opt, ck, h3, Prog.run, bytesV]
  · have hrd : rdCells m r n 0 = some cs := by
      have := CellsAt.rd (o := 0) a7
      rw [a2, Nat.mul_one] at this
      exact this
    refine ⟨_, ⟨m, c, ⟨false, Nat.add (Nat.add r 1) 0, n⟩ :: ⟨false, r, 1⟩ :: l⟩, ⟨rfl, rfl, rfl, [⟨false, Nat.add (Nat.add r 1) 0, n⟩, ⟨false, r, 1⟩], rfl, rfl⟩, 0, fun _ _ => ?_⟩
    simp only at a6
    simp only [convA, h1, h2, Ev.opt, ck, h3, Prog.run, St.rd, a6, hrd, hu, gd]
end Go.Ev
/- text.Quote and text.Unquote: they answer with texts. -/
namespace Go.Proofs.YtmjbmbmnnephjaaGreatDoor
open Go Go.Ev Go.Proofs
theorem appT65 : AppT En 65 5 1 1 := ⟨by kernel_rfl, by kernel_rfl, by kernel_rfl, by kernel_rfl, by omega⟩
theorem b65_1 (a : Int) : buildSliceA En 65 1 ((Prod.mk 0 (Value.int IntKind.u8 a)) :: []) = .ret (xlstV (Value.int IntKind.u8 a :: [])) := by kernel_rfl
theorem b65_4 (a b c d : Int) : buildSliceA En 65 4 ((Prod.mk 0 (Value.int IntKind.u8 a)) :: ((Prod.mk 1 (Value.int IntKind.u8 b)) :: ((Prod.mk 2 (Value.int IntKind.u8 c)) :: ((Prod.mk 3 (Value.int IntKind.u8 d)) :: [])))) =
  .ret (xlstV (Value.int IntKind.u8 a :: Value.int IntKind.u8 b :: Value.int IntKind.u8 c :: Value.int IntKind.u8 d :: [])) := by kernel_rfl
theorem allU8_append : ∀ (a b : List Value), allU8 a = true → allU8 b = true → allU8 (a ++ b) = true
  | [], _, _, h => h
  | v :: a, b, h, g => by
    simp only [allU8, Bool.and_eq_true, List.cons_append] at *
    exact ⟨h.1, allU8_append a b h.2 g⟩
theorem conv65 {lo : Nat} {cs : List Value} {v : Value} {s : St} (h : Grow s.mem lo s.ctr 5 1 cs v) (hu : allU8 cs = true) :
    Ok (fun _ => convA En 65 9 v) s (fun w s' => w = .string (mkStr (bytesV cs)) ∧ Reads s s') := Ok.convStr (e := 5) (by kernel_rfl) (by kernel_rfl) (by kernel_rfl) h hu
/-- One operation more in a drawn region: a list is built, and appended. -/
theorem push_seg {s : St} {lo : Nat} {cs es : List Value} {v : Value} {Q : Value → St → Prop} {k : Nat → Value → Prog} {bs : Prog} {i1 m : Nat} (hbs : bs = .ret (xlstV es)) (h : Buf s lo 5 cs v) (he : ints es = true) (h0 : 0 < es.length) (hn : cs.length + es.length ≤ 100000000) (hm : Nat.testBit m i1 = true)
    (hk : ∀ w s', Buf s' lo 5 (cs ++ es) w → (∃ a b c, w = .slice a b c) → s.ctr ≤ s'.ctr → (∀ k, k < lo → s'.mem.get k = s.mem.get k) → Ok (fun f => k f w) s' Q) :
    Ok (fun f => .seg bs fun v68 s69 _ => .seg (builtinA En Builtin.append (65 :: (65 :: [])) (v :: (v68 :: []))) fun v70 s71 _ => Ev.gdL m (writesOf s71) s71 [⟨i1, writesOf s69, s69⟩] (k f v70)) s Q := by
  subst hbs
  refine Ok.seg (Q1 := fun v s' => v = xlstV es ∧ s' = ⟨s.mem, s.ctr, []⟩) (Ok.ret ⟨rfl, rfl⟩) ?_
  rintro w s1 ⟨rfl, rfl⟩
  have h1 : Buf ⟨s.mem, s.ctr, []⟩ lo 5 cs v := h
  refine Ok.seg (Ok.appM appT65 h1 he h0 (by omega)) ?_
  rintro w s2 ⟨g1, g2, g3, g4⟩
  exact Ok.gdL (by simp [freeL, hm]) (hk w _ g1 g4 g2 g3)
theorem hexOk (c : Nat) (h : c < 256) : (Nat.ble (Nat.succ (Nat.mod c 16)) 16) = true ∧ (Nat.ble (Nat.succ (Int.toNat (IntKind.wrap IntKind.u8 (Int.ofNat (Nat.div c 16))))) 16) = true ∧ (decide ((0 : Int) ≤ (IntKind.wrap IntKind.u8 (Int.ofNat (Nat.div c 16))))) = true := by
  have hm : Nat.mod c 16 < 16 := Nat.mod_lt c (by omega)
  have hd : Nat.div c 16 < 16 := by show c / 16 < 16; omega
  have e : IntKind.wrap IntKind.u8 (Int.ofNat (Nat.div c 16)) = Int.ofNat (Nat.div c 16) := IntWalk.u8_in _ ⟨by simp only [Int.ofNat_eq_natCast]; omega, by simp only [Int.ofNat_eq_natCast]; omega⟩
  rw [e]
  exact ⟨Nat.ble_eq_true_of_le (by omega), Nat.ble_eq_true_of_le (by simp only [Int.ofNat_eq_natCast, Int.toNat_natCast]; omega), decide_eq_true (by simp only [Int.ofNat_eq_natCast]; omega)⟩
theorem quote_loop (x : ByteArray) (hx : (bl x).length ≤ 1000000) (lo : Nat) : ∀ (m i : Nat) (cs : List Value) (v : Value) (s : St), i + m = (bl x).length → cs.length ≤ 4 * i + 1 → allU8 cs = true → Buf s lo 5 cs v →
    Ok (fun f => p40_3 f x v (Int.ofNat (bl x).length) (i : Int)) s (fun v s' => (∃ y, v = .string y) ∧ s.ctr ≤ s'.ctr ∧ ∀ k, k < lo → s'.mem.get k = s.mem.get k) := by
  intro m
  induction m with
  | zero =>
    intro i cs v s hm hl hu h
    refine Ok.step (fun f => p40_3_eq f x v _ (i : Int)) ?_
    refine Ok.f (decide_eq_false (by simp only [Int.ofNat_eq_natCast]; omega)) ?_
    refine Ok.callP (Ok.appM appT65 h (es := [Value.int IntKind.u8 34]) rfl (by decide) (by simp; omega)) ?_
    rintro w s1 ⟨g1, g2, g3, g4⟩
    refine Ok.callP (conv65 (g1.grow g4) (allU8_append _ _ hu rfl)) ?_
    rintro w s2 ⟨rfl, r2⟩
    exact Ok.ret ⟨⟨_, rfl⟩, by rw [r2.2.1]; exact g2, fun k hk => by rw [r2.1, g3 k hk]⟩
  | succ m IH =>
    intro i cs v s hm hl hu h
    have hi : i < (bl x).length := by omega
    have hw1 : IntKind.i64.wrap ((i : Int) + 1) = ((i + 1 : Nat) : Int) := by rw [wrap_in _ (by omega) (by omega)]; omega
    have nx : ∀ (w : Value) (es : List Value) (s' : St), es.length ≤ 4 → allU8 es = true → Buf s' lo 5 (cs ++ es) w → s.ctr ≤ s'.ctr → (∀ k, k < lo → s'.mem.get k = s.mem.get k) →
        Ok (fun f => p40_9 f x w (Int.ofNat (bl x).length) (i : Int)) s' (fun v s' => (∃ y, v = .string y) ∧ s.ctr ≤ s'.ctr ∧ ∀ k, k < lo → s'.mem.get k = s.mem.get k) := by
      intro w es s' he hue hb hc hf
      refine Ok.step (fun f => p40_9_eq f x w _ (i : Int)) ?_
      rw [hw1]
      refine Ok.mono (IH (i + 1) (cs ++ es) w s' (by omega) (by rw [List.length_append]; omega) (allU8_append _ _ hu hue) hb) ?_
      rintro v s2 ⟨h1, h2, h3⟩
      exact ⟨h1, by omega, fun k hk => by rw [h3 k hk, hf k hk]⟩
    obtain ⟨x1, x2, x3⟩ := hexOk (byteAt x i) (byteAt_lt x i)
    simp only [bl] at hi
    refine Ok.step (fun f => p40_3_eq f x v _ (i : Int)) ?_
    refine Ok.t (decide_eq_true (by simp only [bl, Int.ofNat_eq_natCast]; omega)) ?_
    refine Ok.t (decide_eq_true (by omega)) ?_
    refine Ok.t (Nat.ble_eq_true_of_le (by simp only [Int.toNat_natCast]; omega)) ?_
    simp only [Int.toNat_natCast]
    have four : ∀ a b c d : Int, Ok (fun f => .seg (buildSliceA En 65 4 ((Prod.mk 0 (Value.int IntKind.u8 a)) :: ((Prod.mk 1 (Value.int IntKind.u8 b)) :: ((Prod.mk 2 (Value.int IntKind.u8 c)) :: ((Prod.mk 3 (Value.int IntKind.u8 d)) :: []))))) fun v68 s69 _ => .seg (builtinA En Builtin.append (65 :: (65 :: [])) (v :: (v68 :: []))) fun v70 s71 _ => Ev.gdL 255 (writesOf s71) s71 [⟨7, writesOf s69, s69⟩] (p40_9 f x v70 (Int.ofNat (bl x).length) (i : Int))) s (fun v s' => (∃ y, v = .string y) ∧ s.ctr ≤ s'.ctr ∧ ∀ k, k < lo → s'.mem.get k = s.mem.get k) := fun a b c d =>
      push_seg (k := fun f w => p40_9 f x w (Int.ofNat (bl x).length) (i : Int)) (b65_4 a b c d) h rfl (by simp) (by simp only [List.length_cons, List.length_nil]; omega) rfl fun w s' h1 _ h3 h4 => nx w _ s' (by simp) rfl h1 h3 h4
    refine Ok.c (fun _ => Ok.t x3 (Ok.t x2 (Ok.t x1 (four _ _ _ _)))) (fun _ => ?_)
    refine Ok.c (fun _ => Ok.t x3 (Ok.t x2 (Ok.t x1 (four _ _ _ _)))) (fun _ => ?_)
    refine Ok.c (fun _ => Ok.t x3 (Ok.t x2 (Ok.t x1 (four _ _ _ _)))) (fun _ => ?_)
    refine Ok.c (fun _ => Ok.t x3 (Ok.t x2 (Ok.t x1 (four _ _ _ _)))) (fun _ => ?_)
    refine Ok.callP (Ok.appM appT65 h (es := [Value.int IntKind.u8 (Int.ofNat (byteAt x i))]) rfl (by simp) (by simp; omega)) ?_
    rintro w s1 ⟨g1, g2, g3, _⟩
    exact nx w _ s1 (by simp) rfl g1 g2 g3
theorem quote_ok (s : St) (x : ByteArray) (hx : (bl x).length ≤ 1000000) : Ok (fun f => callF En (runP En f) 40 [.string x]) s (fun v s' => (∃ y, v = .string y) ∧ Fresh s s') := by
  refine Ok.step (fun f => f40_eq f x) ?_
  exact quote_loop x hx s.ctr (bl x).length 0 [Value.int IntKind.u8 34] _ s (by omega) (by simp) rfl ⟨rfl, Nat.le_refl _, .inr rfl⟩
theorem bytesV_length : ∀ (l : List Value), (bytesV l).length = l.length
  | [] => rfl
  | a :: l => by simp [bytesV, bytesV_length l]
def UqV (v : Value) : Prop := ∃ y c, v = .tuple ⟨[.string y, .bool c]⟩
theorem unq_loop (x0 : ByteArray) (hx0 : (bl x0).length ≤ 1000000) (lo : Nat) : ∀ (m : Nat) (x : ByteArray) (cs : List Value) (v : Value) (s : St), (bl x).length = m → cs.length + m ≤ (bl x0).length → allU8 cs = true → Buf s lo 5 cs v → (∃ a b c, v = Value.slice a b c) → Lib s.mem lo →
    Ok (fun f => p123_5 f x0 v x) s (fun v s' => UqV v ∧ s.ctr ≤ s'.ctr ∧ ∀ k, k < lo → s'.mem.get k = s.mem.get k) := by
  intro m
  induction m using Nat.strongRecOn with
  | ind m IH =>
  intro x cs v s hm hl hu h hv hlb
  have no : ∀ s' : St, s.ctr ≤ s'.ctr → (∀ k, k < lo → s'.mem.get k = s.mem.get k) → Ok (fun _ => Prog.ret (Value.tuple ⟨((Value.string (mkStr [])) :: ((Value.bool Bool.false) :: []))⟩)) s' (fun v s' => UqV v ∧ s.ctr ≤ s'.ctr ∧ ∀ k, k < lo → s'.mem.get k = s.mem.get k) := fun s' h1 h2 => Ok.ret ⟨⟨_, _, rfl⟩, h1, h2⟩
  have nx : ∀ (w : Value) (a : Int) (n : Nat) (s' : St), 0 < n → n ≤ (bl x).length → Buf s' lo 5 (cs ++ [Value.int IntKind.u8 a]) w → (∃ a b c, w = Value.slice a b c) → s.ctr ≤ s'.ctr → (∀ k, k < lo → s'.mem.get k = s.mem.get k) →
      Ok (fun f => p123_5 f x0 w (mkStr (List.take ((List.length (Array.toList (ByteArray.data x))) - n) (List.drop n (Array.toList (ByteArray.data x)))))) s' (fun v s' => UqV v ∧ s.ctr ≤ s'.ctr ∧ ∀ k, k < lo → s'.mem.get k = s.mem.get k) := by
    intro w a n s' hn hnx hb hw hc hf
    refine Ok.mono (IH (m - n) (by omega) _ (cs ++ [Value.int IntKind.u8 a]) w s' ?_ (by rw [List.length_append, List.length_singleton]; omega) (allU8_append _ _ hu rfl) hb hw (hlb.congr (Nat.le_refl lo) hf)) ?_
    · rw [bl_mk, List.length_take, List.length_drop]
      simp only [bl] at hm hnx
      omega
    · rintro v s2 ⟨h1, h2, h3⟩
      exact ⟨h1, by omega, fun k hk => by rw [h3 k hk, hf k hk]⟩
  have hbl : (bl x).length = x.data.toList.length := rfl
  refine Ok.step (fun f => p123_5_eq f x0 v x) ?_
  refine Ok.c (fun hne => ?_) (fun _ => ?_)
  · have hne := not_t hne
    rw [beqB_eq] at hne
    have hne : bl x ≠ [] := of_decide_eq_false hne
    have h0 : 0 < (bl x).length := List.length_pos_iff.2 hne
    refine Ok.t (Nat.ble_eq_true_of_le (by omega)) ?_
    refine Ok.c (fun _ => ?_) (fun _ => ?_)
    · refine Ok.t (Nat.ble_eq_true_of_le (by omega)) ?_
      refine push_seg (k := fun f w => cnd (p123_5 f x0 w (mkStr (List.take ((List.length (Array.toList (ByteArray.data x))) - 1) (List.drop 1 (Array.toList (ByteArray.data x)))))) Prog.fail ((Nat.ble 1 (List.length (Array.toList (ByteArray.data x)))) && (Nat.ble (List.length (Array.toList (ByteArray.data x))) (List.length (Array.toList (ByteArray.data x)))))) (b65_1 _) h rfl (by simp) (by rw [List.length_singleton]; omega) rfl fun w s' h1 h2 h3 h4 => ?_
      refine Ok.t (by simp only [Bool.and_eq_true]; exact ⟨Nat.ble_eq_true_of_le (by omega), Nat.ble_eq_true_of_le (by omega)⟩) ?_
      exact nx w _ 1 s' (by omega) (by omega) h1 h2 h3 h4
    · refine Ok.c (fun _ => no s (Nat.le_refl _) fun _ _ => rfl) (fun h4 => ?_)
      have h4 := of_decide_eq_false h4
      simp only [Int.ofNat_eq_natCast] at h4
      refine Ok.t (Nat.ble_eq_true_of_le (by omega)) ?_
      refine Ok.call (parseUint_ok _ s 16 8 (.inr ⟨rfl, rfl⟩) (by rw [bl_mk, List.length_take]; omega) (hlb.congr h.2.1 fun _ _ => rfl)) ?_
      rintro w s1 ⟨⟨n, e, rfl, he⟩, f1⟩
      have b1 := h.fresh f1
      have f1' : ∀ k, k < lo → s1.mem.get k = s.mem.get k := fun k hk => f1.2 k (by have := h.2.1; omega)
      refine Ok.t rfl ?_
      simp only [show at_ (tupOf (Value.tuple ⟨[.int .u64 n, e]⟩)) 1 = e from rfl]
      rcases he with rfl | ⟨p, rfl⟩
      · simp only [neq_nil _ (Operand.const Value.nilIface) rfl]
        refine Ok.t rfl (Ok.f rfl ?_)
        refine push_seg (k := fun f w => cnd (p123_5 f x0 w (mkStr (List.take ((List.length (Array.toList (ByteArray.data x))) - 4) (List.drop 4 (Array.toList (ByteArray.data x)))))) Prog.fail ((Nat.ble 4 (List.length (Array.toList (ByteArray.data x)))) && (Nat.ble (List.length (Array.toList (ByteArray.data x))) (List.length (Array.toList (ByteArray.data x)))))) (b65_1 _) b1 rfl (by simp) (by rw [List.length_singleton]; omega) rfl fun w s' g1 g2 g3 g4 => ?_
        refine Ok.t (by simp only [Bool.and_eq_true]; exact ⟨Nat.ble_eq_true_of_le (by omega), Nat.ble_eq_true_of_le (by omega)⟩) ?_
        exact nx w _ 4 s' (by omega) (by omega) g1 g2 (Nat.le_trans f1.1 g3) fun k hk => by rw [g4 k hk, f1' k hk]
      · simp only [neq_ifc _ _ _ (show Nat.blt 192 LF = true from rfl)]
        exact Ok.t rfl (Ok.t rfl (no s1 f1.1 f1'))
  · refine Ok.callP (conv65 (h.grow hv) hu) ?_
    rintro w s1 ⟨rfl, r1⟩
    have hbv : (bl (mkStr (bytesV cs))).length ≤ 1000000 := by
      rw [bl_mk]
      rw [bytesV_length]
      omega
    refine Ok.call (quote_ok s1 _ hbv) ?_
    rintro w s2 ⟨⟨y, rfl⟩, f2⟩
    have f2 := (Go.Ev.Reads.fresh r1).trans f2
    have f2' : ∀ k, k < lo → s2.mem.get k = s.mem.get k := fun k hk => f2.2 k (by have := h.2.1; omega)
    refine Ok.t rfl ?_
    refine Ok.c (fun _ => no s2 f2.1 f2') (fun _ => ?_)
    refine Ok.callP (conv65 ((h.fresh f2).grow hv) hu) ?_
    rintro w s3 ⟨rfl, r3⟩
    exact Ok.ret ⟨⟨_, _, rfl⟩, by rw [r3.2.1]; exact f2.1, fun k hk => by rw [r3.1, f2' k hk]⟩
theorem unquote_ok (s : St) (x : ByteArray) (hx : (bl x).length ≤ 1000000) (hl : Lib s.mem s.ctr) : Ok (fun f => callF En (runP En f) 123 [.string x]) s (fun v s' => UqV v ∧ Fresh s s') := by
  refine Ok.step (fun f => f123_eq f x) ?_
  refine Ok.c (fun _ => Ok.ret ⟨⟨_, _, rfl⟩, Fresh.refl s⟩) (fun h => ?_)
  have h := of_decide_eq_false h
  have hbl : (bl x).length = x.data.toList.length := rfl
  simp only [Int.ofNat_eq_natCast] at h
  have e := sub1 (bl x).length (by omega) (by omega)
  simp only [bl] at e
  rw [e]
  simp only [Int.ofNat_eq_natCast, Int.toNat_natCast]
  refine Ok.t (decide_eq_true (by omega)) ?_
  refine Ok.t (by simp only [Bool.and_eq_true]; exact ⟨Nat.ble_eq_true_of_le (by omega), Nat.ble_eq_true_of_le (by omega)⟩) ?_
  refine unq_loop x hx s.ctr _ _ [] _ s rfl ?_ rfl ⟨rfl, Nat.le_refl _, .inl (Grow.nil _ _ _ _ _)⟩ ⟨_, _, _, rfl⟩ hl
  rw [bl_mk, List.length_take, List.length_drop]
  simp only [List.length_nil]; omega
end Go.Proofs.YtmjbmbmnnephjaaGreatDoor
/- The lexer: quoted. -/
namespace Go.Proofs.YtmjbmbmnnephjaaGreatDoor
open Go Go.Ev Go.Proofs
section
variable {s : St} {b : Nat} {str : ByteArray} {a : Int} {ts : List Tok} {bad : Int}
/-- What 'quoted' comes to: a text and how long it is, or an error. -/
def QuQ (b : Nat) (str : ByteArray) (a : Int) (p : Int) (ts : List Tok) (bad : Int) (s : St) (v : Value) (s' : St) : Prop :=
  s.ctr ≤ s'.ctr ∧ (∀ k, k < s.ctr → k ≠ b + 4 → k ≠ b + 5 → s'.mem.get k = s.mem.get k) ∧ ∃ y n, v = .tuple ⟨[.string y, .int .i64 n]⟩ ∧
    ((n = 0 ∧ y = mkStr [] ∧ LX s' b str a ts 142 p) ∨ (2 ≤ n ∧ p + n ≤ (bl str).length ∧ LX s' b str a ts 0 bad))
theorem indexB_ok (s : St) (x : ByteArray) (c : Int) (h : 0 ≤ c ∧ c < 256) : Ok (fun f => callF En (runP En f) 66 [.string x, .int .u8 c]) s
    (fun v s' => (∃ n : Int, v = .int .i64 n ∧ ((n = -1 ∧ ∀ b ∈ bl x, b.toNat ≠ c.toNat) ∨ ∃ j : Nat, n = j ∧ j < (bl x).length)) ∧ s' = s) := by
  refine Ok.mono (indexByte_ok s x c h) ?_
  rintro v s' ⟨rfl, rfl⟩
  refine ⟨⟨_, rfl, ?_⟩, rfl⟩
  rcases findByte_spec c.toNat (bl x) 0 with h | ⟨j, h1, h2, _⟩
  · exact .inl h
  · exact .inr ⟨j, by rw [h2, Nat.zero_add]; rfl, h1⟩
theorem quoted_7 (h : LX s b str a ts 0 bad) (p : Int) (s0 : St) (f0 : Fresh s0 s) : Ok (fun f => p65_7 f b p) s (QuQ b str a p ts bad s0) := by
  refine Ok.step (fun f => p65_7_eq f b p) ?_
  refine Ok.call (fail_lx h 142 p) ?_
  rintro v s1 ⟨rfl, h1, c1, f1⟩
  refine Ok.t rfl (Ok.ret ⟨by have := f0.1; omega, fun k hk k1 k2 => by rw [f1 k k1 k2, f0.2 k hk], _, _, rfl, .inl ⟨rfl, rfl, by simpa using h1⟩⟩)
theorem quoted_ok (h : LX s b str a ts 0 bad) (skip : Int) (ha : 0 ≤ a ∧ 0 ≤ skip ∧ a + skip < (bl str).length) (hs : (bl str).length ≤ 100000) :
    Ok (fun f => callF En (runP En f) 65 [.pointer (some ⟨b, 0, none⟩), .int .i64 skip]) s (QuQ b str a (a + skip) ts bad s) := by
  have t3 : scal En 3 = true := by kernel_rfl
  have t9 : scal En 9 = true := by kernel_rfl
  have hbl : (bl str).length = str.data.toList.length := rfl
  have hw1 : IntKind.i64.wrap (a + skip) = a + skip := wrap_in _ (by omega) (by omega)
  have hw2 : IntKind.i64.wrap (a + skip + 1) = a + skip + 1 := wrap_in _ (by omega) (by omega)
  refine Ok.step (fun f => f65_eq f b skip) ?_
  refine Ok.callP (Ok.load1 t3 h.c1) ?_
  rintro v s1 ⟨rfl, m1, c1, l1⟩
  have r1 : Reads s s1 := ⟨m1, c1, [⟨false, b + 1 + 1, 1⟩, ⟨false, b, 1⟩], l1, rfl⟩
  refine Ok.t rfl ?_
  refine Ok.callP (Ok.load1 t9 (h.c0.reads r1)) ?_
  rintro v s2 ⟨rfl, m2, c2, l2⟩
  have r2 : Reads s1 s2 := ⟨m2, c2, [⟨false, b + 1 + 0, 1⟩, ⟨false, b, 1⟩], l2, rfl⟩
  have r2 := r1.trans r2
  refine Ok.t rfl ?_
  simp only [intOf, strOf, hw1, hw2]
  refine Ok.t (decide_eq_true (by omega)) ?_
  refine Ok.t (by simp only [Bool.and_eq_true]; exact ⟨Nat.ble_eq_true_of_le (by omega), Nat.ble_eq_true_of_le (by omega)⟩) ?_
  refine Ok.call (indexB_ok s2 _ 34 (by decide)) ?_
  rintro v s3 ⟨⟨n, rfl, hsp⟩, rfl⟩
  refine Ok.t rfl ?_
  refine Ok.c (fun hn => ?_) (fun _ => quoted_7 (h.reads r2) _ s (Go.Ev.Reads.fresh r2))
  have hn := of_decide_eq_true hn
  obtain ⟨j, rfl, hj⟩ : ∃ j : Nat, n = Int.ofNat j ∧ a + skip + 1 + j < (bl str).length := by
    rcases hsp with ⟨rfl, _⟩ | ⟨j, h2, h1⟩
    · simp only [intOf] at hn
      omega
    · rw [bl_mk, List.length_take, List.length_drop] at h1
      exact ⟨j, by rw [h2]; rfl, by omega⟩
  refine Ok.callP (Ok.load1 t9 (h.c0.reads r2)) ?_
  rintro v s4 ⟨rfl, m4, c4, l4⟩
  have r4 : Reads s3 s4 := ⟨m4, c4, [⟨false, b + 1 + 0, 1⟩, ⟨false, b, 1⟩], l4, rfl⟩
  have r4 := r2.trans r4
  refine Ok.t rfl ?_
  have hw3 : IntKind.i64.wrap (a + skip + Int.ofNat j) = a + skip + j := wrap_in _ (by simp only [Int.ofNat_eq_natCast]; omega) (by simp only [Int.ofNat_eq_natCast]; omega)
  have hw4 : IntKind.i64.wrap (a + skip + (j : Int) + 2) = a + skip + j + 2 := wrap_in _ (by omega) (by omega)
  have hw5 : IntKind.i64.wrap (Int.ofNat j + 2) = (j : Int) + 2 := wrap_in _ (by simp only [Int.ofNat_eq_natCast]; omega) (by simp only [Int.ofNat_eq_natCast]; omega)
  simp only [intOf, strOf, hw3, hw4, hw5]
  refine Ok.t (decide_eq_true (by omega)) ?_
  refine Ok.t (decide_eq_true (by omega)) ?_
  refine Ok.t (by simp only [Bool.and_eq_true]; exact ⟨Nat.ble_eq_true_of_le (by omega), Nat.ble_eq_true_of_le (by omega)⟩) ?_
  have h4 := h.reads r4
  refine Ok.call (unquote_ok s4 _ (by rw [bl_mk, List.length_take, List.length_drop]; omega) h4.lib) ?_
  rintro v s5 ⟨⟨y, ok, rfl⟩, f5⟩
  have f5' := (Go.Ev.Reads.fresh r4).trans f5
  refine Ok.t rfl ?_
  refine Ok.c (fun _ => ?_) (fun _ => quoted_7 (h4.fresh f5) _ s f5')
  exact Ok.ret ⟨f5'.1, fun k hk _ _ => f5'.2 k hk, _, _, rfl, .inr ⟨by omega, by omega, h4.fresh f5⟩⟩
end
end Go.Proofs.YtmjbmbmnnephjaaGreatDoor
/- The lexer: symbols. -/
namespace Go.Proofs.YtmjbmbmnnephjaaGreatDoor
open Go Go.Ev Go.Proofs
section
variable {s : St} {b : Nat} {str : ByteArray} {a : Int} {ts : List Tok} {err bad : Int}
/-- The symbols so far: a row of a value at c. -/
def SS (s : St) (c : Nat) (b : Nat) (str : ByteArray) (a : Int) (ts : List Tok) (err bad : Int) (ns : List Value) : Prop :=
  LXh s.mem c b str a ts err bad ∧ c + 5 ≤ s.ctr ∧ ∃ v, Row s.mem c [.int .i64 3, .slice none 0 0, v, .slice none 0 0] ∧ Grow s.mem (c + 5) s.ctr 9 1 ns v
theorem SS.lx {c : Nat} {ns : List Value} (h : SS s c b str a ts err bad ns) : LX s b str a ts err bad := h.1.frame (by have := h.2.1; omega) fun _ _ => rfl
theorem SS.fresh {s' : St} {c : Nat} {ns : List Value} (h : SS s c b str a ts err bad ns) (f : Fresh s s') : SS s' c b str a ts err bad ns := by
  obtain ⟨h1, h2, v, h3, h4⟩ := h
  exact ⟨h1.frame (Nat.le_refl c) fun k hk => f.2 k (by omega), by have := f.1; omega, v, h3.congr fun j _ hj => f.2 j (by simp at hj; omega), h4.congr f.1 fun j _ hj => f.2 j hj⟩
theorem SS.reads {s' : St} {c : Nat} {ns : List Value} (h : SS s c b str a ts err bad ns) (r : Reads s s') : SS s' c b str a ts err bad ns := h.fresh (Go.Ev.Reads.fresh r)
/-- The lexer's place, or its error, may have changed. -/
theorem SS.lxr {s' : St} {c : Nat} {ns : List Value} {a' err' bad' : Int} {ts' : List Tok} (h : SS s c b str a ts err bad ns) (g : LX s' b str a' ts' err' bad') (hc : s.ctr ≤ s'.ctr) (f : ∀ k, k < s.ctr → k ≠ b + 2 → k ≠ b + 4 → k ≠ b + 5 → s'.mem.get k = s.mem.get k) : SS s' c b str a' ts err' bad' ns := by
  obtain ⟨⟨l, g1, g2, g3, g4⟩, h2, v, h3, h4⟩ := h
  obtain ⟨l', i1, i2, i3, i4⟩ := g
  have el : l' = l := by
    have e1 : s.mem.get (b + 1 + 2) = some (.cell b l) := CellsAt.get 2 l g1.2 rfl
    have e2 : s'.mem.get (b + 1 + 2) = some (.cell b l') := CellsAt.get 2 l' i1.2 rfl
    rw [f _ (by omega) (by omega) (by omega) (by omega), e1] at e2
    simpa using e2.symm
  subst el
  exact ⟨⟨l', i1, g2.congr (Nat.le_refl c) fun j h5 h6 => f j (by omega) (by omega) (by omega) (by omega), g3, i4⟩, by omega, v, h3.congr fun j _ hj => f j (by simp at hj; omega) (by omega) (by omega) (by omega), h4.congr hc fun j _ hj => f j hj (by omega) (by omega) (by omega)⟩
theorem SS.setAt {c : Nat} {ns : List Value} (h : SS s c b str a ts err bad ns) (a' : Int) :
    Ok (fun _ => storeT En 3 b 1 (.int .i64 a')) s (fun w s' => w = U ∧ SS s' c b str a' ts err bad ns) := by
  refine Ok.mono (setAt_ok h.lx a') ?_
  rintro v s' ⟨rfl, h1, c1, f1⟩
  exact ⟨rfl, h.lxr h1 (by omega) fun k _ hk _ _ => f1 k hk⟩
theorem SS.fail {c : Nat} {ns : List Value} (h : SS s c b str a ts 0 bad ns) (e p : Int) :
    Ok (fun f => callF En (runP En f) 35 [.pointer (some ⟨b, 0, none⟩), .int .i64 e, .int .i64 p]) s (fun v s' => v = .tuple ⟨[]⟩ ∧ SS s' c b str a ts e p ns) := by
  refine Ok.mono (fail_lx h.lx e p) ?_
  rintro v s' ⟨rfl, h1, c1, f1⟩
  exact ⟨rfl, h.lxr (by simpa using h1) (by omega) fun k _ _ k1 k2 => f1 k k1 k2⟩
theorem appT29 : AppT En 29 9 1 16 := ⟨by kernel_rfl, by kernel_rfl, by kernel_rfl, by kernel_rfl, by omega⟩
theorem SS.cell {c : Nat} {ns : List Value} (h : SS s c b str a ts err bad ns) : ∃ x y, Cell s.mem c 2 (.slice x ns.length y) := by
  obtain ⟨_, _, v, h3, h4⟩ := h
  obtain ⟨x, y, rfl⟩ := h4.len ns.length (by omega) (by omega)
  exact ⟨x, y, h3.cell 2 rfl⟩
theorem len29 (a : Option Addr) (n c : Nat) : builtinA En Builtin.len (29 :: []) (Value.slice a n c :: []) = .ret (vInt n) := by kernel_rfl
/-- One symbol more. -/
theorem SS.push {c : Nat} {ns : List Value} (h : SS s c b str a ts err bad ns) (hn : ns.length ≤ 65536) (x : ByteArray) {k : Nat → Value → Prog} {Q : Value → St → Prop} (hk : ∀ s', SS s' c b str a ts err bad (ns ++ [.string x]) → Ok (fun f => k f U) s' Q) :
    Ok (fun f => Ev.callP (fun v58 => Ev.callP (fun v59 => Ev.callP (k f) (storeT En 29 c 2 v59)) (builtinA En Builtin.append (29 :: (29 :: [])) (v58 :: ((xlstV ((Value.string x) :: [])) :: [])))) (loadT En 29 c 2)) s Q := by
  obtain ⟨h1, h2, v, h3, h4⟩ := h
  refine Ok.callP (Ok.load1 (by kernel_rfl) (h3.cell 2 rfl)) ?_
  rintro w s1 ⟨rfl, m1, c1, _⟩
  refine Ok.callP (Ok.app appT29 (h4.congr (by omega) fun j _ _ => by rw [m1]) rfl rfl (by omega) (by omega)) ?_
  rintro w' s2 ⟨g1, g2, g3⟩
  have h3' : Row s2.mem c [.int .i64 3, .slice none 0 0, w, .slice none 0 0] := h3.congr fun j _ hj => by rw [g3 j (by simp at hj; omega), m1]
  refine Ok.callP (Ok.storeCell (o := 2) (by kernel_rfl) g1.one.2 h3' (by simp) g1.one.1) ?_
  rintro v s3 ⟨rfl, e1, e2, e3⟩
  exact hk s3 ⟨h1.frame (Nat.le_refl c) fun k hk => by rw [e3 k (by omega), g3 k (by omega), m1], by omega, w', e2, g1.congr (by omega) fun j h5 _ => e3 j (by omega)⟩
theorem SS.value {c : Nat} {ns : List Value} (h : SS s c b str a ts err bad ns) (p : Int) (hp : 0 ≤ p ∧ p ≤ a ∧ a ≤ (bl str).length) (hn : ns.length ≤ 1000000) (hl : ts.length ≤ 20000) {Q : Value → St → Prop}
    (hq : ∀ s', LX s' b str a (ts ++ [⟨1, p, a, sub str p a, atomT 3 ns.length, [], ns, []⟩]) err bad → Q (.tuple ⟨[]⟩) s') :
    Ok (fun f => Ev.callP (fun v28 =>
            (cnd
              (Prog.call (callF En (runP En f) 119 [(Value.pointer (Option.some (Addr.mk b 0 Option.none))), (Value.int IntKind.i64 p), (Value.agg ⟨((Value.int IntKind.i64 (intOf (at_ (aggOf v28) 0))) :: ((at_ (aggOf v28) 1) :: ((at_ (aggOf v28) 2) :: ((at_ (aggOf v28) 3) :: []))))⟩)]) fun v29 =>
                (cnd
                  (Prog.ret (Value.tuple ⟨[]⟩))
                  Prog.fail
                  ((isTupV v29) && (okNs [] (tupOf v29)))))
              Prog.fail
              ((isAggV v28) && (okKs ((Kd.int IntKind.i64) :: (Kd.raw :: (Kd.raw :: (Kd.raw :: [])))) (aggOf v28)))))
            (loadT En 32 c 0)) s Q := by
  obtain ⟨h1, h2, v, h3, h4⟩ := h
  refine Ok.callP (Ok.loadA (n := 4) (vs := [.int .i64 3, .slice none 0 0, v, .slice none 0 0]) (by kernel_rfl) (by kernel_rfl) rfl ?_ h3.2) ?_
  · obtain ⟨el, ex, z, sy', hf⟩ := h3.1
    exact ⟨_, hf⟩
  rintro w s1 ⟨rfl, m1, c1, _⟩
  refine Ok.t rfl ?_
  refine Ok.call (valueS_ok (lo := c + 5) (v := v) (n := ns) (b := b) (str := str) (a := a) (ts := ts) (err := err) (bad := bad) ?_ (by omega) (h4.congr (by omega) fun j _ _ => by rw [m1]) p hp 3 hn hl) ?_
  · exact h1.frame (by omega) fun k _ => by rw [m1]
  rintro w s2 ⟨rfl, h5⟩
  exact Ok.t rfl (Ok.ret (hq s2 h5))
def SymV (x : Value) : Prop := ∃ y, x = .string y ∧ (bl y).length ≤ 64 ∧ ∀ c ∈ bl y, c ≠ 0
/-- Behind an error: the token is added, and nothing else. -/
theorem sym_err {c : Nat} {ns : List Value} (p : Int) (h : SS s c b str a ts err bad ns) (he : err ≠ 0) (hb : 0 ≤ bad ∧ bad ≤ (bl str).length) (hp : 0 ≤ p ∧ p ≤ a ∧ a ≤ (bl str).length) (hn : ns.length ≤ 1000000) (hl : ts.length ≤ 20000) (q bd : Int) :
    Ok (fun f => p64_2 f b p c 0) s (TokQ b str q ts bd) := by
  refine Ok.step (fun f => p64_2_eq f b p c 0) ?_
  refine Ok.callP (Ok.load1 (by kernel_rfl) h.lx.c3) ?_
  rintro v s1 ⟨rfl, m1, c1, l1⟩
  have r1 : Reads s s1 := ⟨m1, c1, [⟨false, b + 1 + 3, 1⟩, ⟨false, b, 1⟩], l1, rfl⟩
  refine Ok.t rfl ?_
  refine Ok.f (decide_eq_false he) ?_
  exact SS.value (h.reads r1) p hp hn hl fun s' h' => ⟨rfl, .inl ⟨_, _, _, _, he, hb.1, hb.2, h'⟩⟩
theorem sym_loop (c : Nat) (p : Int) (hp : 0 ≤ p) (hs : (bl str).length ≤ 100000) (hl : ts.length ≤ 20000) :
    ∀ (m : Nat) (a : Int) (ns : List Value) (s : St), (bl str).length - a < m → p ≤ a → a ≤ (bl str).length → (p < a ∨ byteOf str a = 96) → ns.length ≤ 65536 → (∀ y ∈ ns, SymV y) → SS s c b str a ts 0 bad ns →
    Ok (fun f => p64_2 f b p c 0) s (TokQ b str p ts bad) := by
  have t3 : scal En 3 = true := by kernel_rfl
  have t24 : scal En 24 = true := by kernel_rfl
  have hbl : (bl str).length = str.data.toList.length := rfl
  intro m
  induction m with
  | zero => intro a ns s hm hpa ha; omega
  | succ m IH =>
    intro a ns s hm hpa ha h96 hn hns h
    refine Ok.step (fun f => p64_2_eq f b p c 0) ?_
    refine Ok.callP (Ok.load1 t24 h.lx.c3) ?_
    rintro v s1 ⟨rfl, m1, c1, l1⟩
    have r1 : Reads s s1 := ⟨m1, c1, [⟨false, b + 1 + 3, 1⟩, ⟨false, b, 1⟩], l1, rfl⟩
    have h1 := h.reads r1
    refine Ok.t rfl (Ok.t rfl ?_)
    refine Ok.call (peek_ok s1 b str a 0 h1.lx.c0 h1.lx.c1 (by omega) (by omega)) ?_
    rintro v s2 ⟨rfl, r2⟩
    have h2 := h1.reads r2
    refine Ok.t rfl ?_
    rw [Int.add_zero]
    simp only [intOf]
    refine Ok.c (fun hc => ?_) (fun hc => ?_)
    rotate_left
    · have hc := of_decide_eq_false hc
      have hpa' : p < a := by
        rcases h96 with h | h
        · exact h
        · exact absurd h hc
      refine SS.value h2 p ⟨hp, by omega, ha⟩ (by omega) hl fun s' h' => ⟨rfl, .inr ⟨⟨1, p, a, sub str p a, atomT 3 ns.length, [], ns, []⟩, ⟨rfl, hpa', ha, Int.le_refl 1, (by decide : (1 : Int) ≤ 6), fun _ => rfl, fun _ => ⟨rfl, ?_, 3, by omega, ?_, .inl ⟨rfl, rfl, hns⟩⟩⟩, h'⟩⟩
      · show [].length + ns.length ≤ 65536
        simp only [List.length_nil]; omega
      · exact congrArg (atomT 3) (Nat.zero_add _).symm
    have hc := of_decide_eq_true hc
    have hlt := byteOf_ne str a (by omega)
    refine Ok.callP (Ok.load1 t3 h2.lx.c1) ?_
    rintro v s3 ⟨rfl, m3, c3, l3⟩
    have r3 : Reads s2 s3 := ⟨m3, c3, [⟨false, b + 1 + 1, 1⟩, ⟨false, b, 1⟩], l3, rfl⟩
    have h3 := h2.reads r3
    refine Ok.t rfl ?_
    obtain ⟨x, y, hcell⟩ := h3.cell
    simp only [Nat.zero_add]
    refine Ok.callP (Ok.load1 (by kernel_rfl) hcell) ?_
    rintro v s4 ⟨rfl, m4, c4, l4⟩
    have r4 : Reads s3 s4 := ⟨m4, c4, [⟨false, c + 1 + 2, 1⟩, ⟨false, c, 1⟩], l4, rfl⟩
    have h4 := h3.reads r4
    simp only [len29]
    refine Ok.callP (Q1 := fun v s' => v = vInt (ns.length : Nat) ∧ s' = s4) (Ok.ret ⟨rfl, rfl⟩) ?_
    rintro v s5 ⟨rfl, rfl⟩
    refine Ok.t rfl ?_
    refine Ok.c (fun _ => fail_q (err := 0) h4.lx 6 _ (by decide) (by first | omega | (simp only [intOf]; omega)) p) (fun hlt2 => ?_)
    have hlt2 := of_decide_eq_false hlt2
    simp only [intOf, vInt] at hlt2
    -- what comes behind: the symbol is added
    have k19 : ∀ (s6 : St) (e bd : Int) (x5 : ByteArray) (x6 : Int), SS s6 c b str a ts e bd ns → 0 ≤ x6 → a + 1 + x6 ≤ (bl str).length → (e = 0 ∧ bd = bad ∧ (bl x5).length ≤ 64 ∧ (∀ c ∈ bl x5, c ≠ 0)) ∨ (e ≠ 0 ∧ 0 ≤ bd ∧ bd ≤ (bl str).length) →
        Ok (fun f => p64_19 f b p c 0 x5 x6) s6 (TokQ b str p ts bad) := by
      intro s6 e bd x5 x6 h6 hx1 hx2 hor
      have hw1 : IntKind.i64.wrap (1 + x6) = 1 + x6 := wrap_in _ (by omega) (by omega)
      have hw2 : IntKind.i64.wrap (a + (1 + x6)) = a + (1 + x6) := wrap_in _ (by omega) (by omega)
      refine Ok.step (fun f => p64_19_eq f b p c 0 x5 x6) ?_
      refine Ok.callP (Ok.load1 t3 h6.lx.c1) ?_
      rintro v s7 ⟨rfl, m7, c7, l7⟩
      have r7 : Reads s6 s7 := ⟨m7, c7, [⟨false, b + 1 + 1, 1⟩, ⟨false, b, 1⟩], l7, rfl⟩
      refine Ok.t rfl ?_
      simp only [intOf, hw1, hw2, Nat.zero_add]
      refine Ok.callP ((h6.reads r7).setAt _) ?_
      rintro v s8 ⟨rfl, h8⟩
      refine SS.push (k := fun f _ => p64_2 f b p c 0) h8 hn x5 fun s9 h9 => ?_
      rcases hor with ⟨rfl, rfl, hx3, hx4⟩ | ⟨he, hb1, hb2⟩
      · refine IH (a + (1 + x6)) _ s9 (by omega) (by omega) (by omega) (.inl (by omega)) (by simp; omega) ?_ h9
        intro y hy
        rcases List.mem_append.1 hy with hy | hy
        · exact hns y hy
        · simp only [List.mem_singleton] at hy
          exact ⟨x5, hy, hx3, hx4⟩
      · exact sym_err p h9 he ⟨hb1, hb2⟩ ⟨hp, by omega, by omega⟩ (by simp; omega) hl p bad
    have k14 : ∀ (s6 : St) (x5 : ByteArray) (x6 : Int), SS s6 c b str a ts 0 bad ns → 0 ≤ x6 → a + 1 + x6 ≤ (bl str).length → Ok (fun f => p64_14 f b p c 0 a x5 x6) s6 (TokQ b str p ts bad) := by
      intro s6 x5 x6 h6 hx1 hx2
      refine Ok.step (fun f => p64_14_eq f b p c 0 a x5 x6) ?_
      refine Ok.callP (Ok.load1 t24 h6.lx.c3) ?_
      rintro v s7 ⟨rfl, m7, c7, l7⟩
      have r7 : Reads s6 s7 := ⟨m7, c7, [⟨false, b + 1 + 3, 1⟩, ⟨false, b, 1⟩], l7, rfl⟩
      have h7 := h6.reads r7
      refine Ok.t rfl (Ok.f rfl ?_)
      refine Ok.c (fun _ => ?_) (fun hle => ?_)
      · refine Ok.call (h7.fail 1 a) ?_
        rintro v s8 ⟨rfl, h8⟩
        exact Ok.t rfl (k19 s8 1 a x5 x6 h8 hx1 hx2 (.inr ⟨by decide, by omega, by omega⟩))
      · have hle := of_decide_eq_false hle
        simp only [Int.ofNat_eq_natCast] at hle
        refine Ok.call (indexB_ok s7 x5 0 (by decide)) ?_
        rintro v s8 ⟨⟨n, rfl, hor⟩, rfl⟩
        refine Ok.t rfl ?_
        refine Ok.c (fun _ => ?_) (fun hneg => ?_)
        · refine Ok.call (h7.fail 140 a) ?_
          rintro v s9 ⟨rfl, h9⟩
          exact Ok.t rfl (k19 s9 140 a x5 x6 h9 hx1 hx2 (.inr ⟨by decide, by omega, by omega⟩))
        · have hneg := of_decide_eq_false hneg
          simp only [intOf] at hneg
          refine k19 s8 0 bad x5 x6 h7 hx1 hx2 (.inl ⟨rfl, rfl, by simp only [bl]; omega, ?_⟩)
          rcases hor with ⟨_, hz⟩ | ⟨j, hj, _⟩
          · intro ch hch e
            subst e
            exact hz 0 hch rfl
          · omega
    refine Ok.call (peek_ok s5 b str a 1 h4.lx.c0 h4.lx.c1 (by omega) (by omega)) ?_
    rintro v s6 ⟨rfl, r6⟩
    have h6 := h4.reads r6
    refine Ok.t rfl ?_
    simp only [intOf]
    refine Ok.c (fun hq => ?_) (fun _ => ?_)
    · have hq := of_decide_eq_true hq
      have hlt3 := byteOf_ne str (a + 1) (by omega)
      refine Ok.call (quoted_ok h6.lx 1 ⟨by omega, by omega, by omega⟩ hs) ?_
      rintro v s7 ⟨q1, q2, y, n, rfl, hor⟩
      refine Ok.t rfl ?_
      simp only [show ∀ a b, at_ (tupOf (Value.tuple ⟨[.string a, .int .i64 b]⟩)) 0 = .string a from fun _ _ => rfl, show ∀ a b, at_ (tupOf (Value.tuple ⟨[.string a, .int .i64 b]⟩)) 1 = .int .i64 b from fun _ _ => rfl, strOf, intOf]
      rcases hor with ⟨rfl, rfl, h7⟩ | ⟨hn1, hn2, h7⟩
      · have h7 : SS s7 c b str a ts 142 (a + 1) ns := h6.lxr h7 q1 fun k hk _ k1 k2 => q2 k hk k1 k2
        refine Ok.step (fun f => p64_14_eq f b p c 0 a _ 0) ?_
        refine Ok.callP (Ok.load1 t24 h7.lx.c3) ?_
        rintro v s8 ⟨rfl, m8, c8, l8⟩
        have r8 : Reads s7 s8 := ⟨m8, c8, [⟨false, b + 1 + 3, 1⟩, ⟨false, b, 1⟩], l8, rfl⟩
        exact Ok.t rfl (Ok.t rfl (Ok.ret ⟨rfl, .inl ⟨_, _, _, _, by decide, by omega, by omega, (h7.reads r8).lx⟩⟩))
      · have h7 : SS s7 c b str a ts 0 bad ns := h6.lxr h7 q1 fun k hk _ k1 k2 => q2 k hk k1 k2
        exact k14 s7 y n h7 (by omega) (by omega)
    · refine Ok.call (peek_ok s6 b str a 1 h6.lx.c0 h6.lx.c1 (by omega) (by omega)) ?_
      rintro v s7 ⟨rfl, r7⟩
      have h7 := h6.reads r7
      refine Ok.t rfl ?_
      simp only [intOf]
      refine Ok.call (letter_ok s7 _) ?_
      rintro v s8 ⟨rfl, rfl⟩
      refine Ok.t rfl ?_
      refine Ok.c (fun hlet => ?_) (fun _ => k14 s8 _ 0 h7 (by omega) (by omega))
      have hlt3 := byteOf_ne str (a + 1) (by intro e; simp only [boolOf, e] at hlet; exact absurd hlet (by decide))
      refine Ok.callP (Ok.load1 t3 h7.lx.c1) ?_
      rintro v s9 ⟨rfl, m9, c9, l9⟩
      have r9 : Reads s8 s9 := ⟨m9, c9, [⟨false, b + 1 + 1, 1⟩, ⟨false, b, 1⟩], l9, rfl⟩
      refine Ok.t rfl ?_
      have hw1 : IntKind.i64.wrap (a + 1) = a + 1 := wrap_in _ (by omega) (by omega)
      have hw2 : IntKind.i64.wrap (a + 1 + -1) = a := by rw [show a + 1 + -1 = a by omega]; exact wrap_in _ (by omega) (by omega)
      simp only [intOf, hw1]
      refine Ok.callP ((h7.reads r9).setAt _) ?_
      rintro v s10 ⟨rfl, h10⟩
      refine Ok.call (run_ok long_ok s10 (by omega) (by omega) (by omega) h10.lx.c0 h10.lx.c1) ?_
      rintro v s11 ⟨n, hrun, rfl, r11⟩
      have h11 := h10.reads r11
      have hr1 := hrun.1
      have hxl : (mkStr (List.take n (List.drop (a + 1).toNat str.data.toList))).data.toList.length = n := by
        show (List.take n (List.drop (a + 1).toNat str.data.toList)).length = n
        rw [List.length_take, List.length_drop]; omega
      refine Ok.t rfl ?_
      refine Ok.callP (Ok.load1 t3 h11.lx.c1) ?_
      rintro v s12 ⟨rfl, m12, c12, l12⟩
      have r12 : Reads s11 s12 := ⟨m12, c12, [⟨false, b + 1 + 1, 1⟩, ⟨false, b, 1⟩], l12, rfl⟩
      refine Ok.t rfl ?_
      simp only [intOf, hw2, strOf, hxl, Int.ofNat_eq_natCast]
      refine Ok.callP ((h11.reads r12).setAt _) ?_
      rintro v s13 ⟨rfl, h13⟩
      exact k14 s13 _ n h13 (by omega) (by omega)
theorem symbols_ok (h : LX s b str a ts 0 bad) (ha : 0 ≤ a ∧ a ≤ (bl str).length) (hs : (bl str).length ≤ 100000) (hl : ts.length ≤ 20000) (h96 : byteOf str a = 96) :
    Ok (fun f => callF En (runP En f) 64 [.pointer (some ⟨b, 0, none⟩)]) s (TokQ b str a ts bad) := by
  refine Ok.step (fun f => f64_eq f b) ?_
  refine Ok.callP (Ok.load1 (by kernel_rfl) h.c1) ?_
  rintro v s1 ⟨rfl, m1, c1, l1⟩
  have r1 : Reads s s1 := ⟨m1, c1, [⟨false, b + 1 + 1, 1⟩, ⟨false, b, 1⟩], l1, rfl⟩
  have h1 := h.reads r1
  refine Ok.t rfl (Ok.g rfl ?_)
  refine Ok.callP (Ok.new rfl) ?_
  rintro v s2 ⟨rfl, e1, e2, e3⟩
  refine Ok.t rfl ?_
  simp only [blk_itP, off_itP, intOf]
  refine Ok.callP (Ok.storeRow (n := 4) (ws := [Value.int IntKind.i64 3, Value.slice none 0 0, Value.slice none 0 0, Value.slice none 0 0]) (by kernel_rfl) e2 rfl rfl rfl) ?_
  rintro v s3 ⟨rfl, c3, g3, k3⟩
  exact sym_loop s1.ctr a ha.1 hs hl (((bl str).length - a).toNat + 1) a [] s3 (by omega) (Int.le_refl a) ha.2 (.inr h96) (by simp) (fun y hy => by cases hy) ⟨LXh.frame h1 (Nat.le_refl _) fun k hk => by rw [k3 k (.inl (by omega)), e3 k hk], by omega, _, g3, Grow.nil _ _ _ _ _⟩
end
end Go.Proofs.YtmjbmbmnnephjaaGreatDoor
/- The lexer: negative. -/
namespace Go.Ev
open Go
theorem apart_above' {c : Nat} {ws all rs : List Acc} (h : ∀ a, a ∈ ws → c ≤ a.k) (g : ∀ b, b ∈ rs → b.k + b.n ≤ c) : apartLogs [] rs ws all = true := by
  unfold apartLogs
  cases ws with
  | nil => rfl
  | cons a ws => simp only [anyHits_above c _ h rs g, Bool.not_false, Bool.and_true]
theorem CellsAt.right {m : Tr Slot} {b : Nat} : ∀ {xs ys : List Value} {k : Nat}, CellsAt m b k (xs ++ ys) → CellsAt m b (k + xs.length) ys
  | [], _, _, h => by simpa using h
  | x :: xs, ys, k, h => by
    have := CellsAt.right (xs := xs) h.2
    rw [show k + (x :: xs).length = k + 1 + xs.length by simp only [List.length_cons]; omega]
    exact this
theorem Ok.rd {E : Env} {t b o : Nat} {v : Value} {s : St} {Q : Value → St → Prop} {k : Nat → Value → Prog} {Inv : St → Prop} (hr : ∀ s s', Inv s → Reads s s' → Inv s') (hI : Inv s) (hs : scal E t = true) (h : Cell s.mem b o v)
    (hk : ∀ s', Inv s' → Ok (fun f => k f v) s' Q) : Ok (fun f => Ev.callP (k f) (loadT E t b o)) s Q := by
  refine Ok.callP (Ok.load1 hs h) ?_
  rintro w s1 ⟨rfl, e1, e2, e3⟩
  exact hk s1 (hr s s1 hI ⟨e1, e2, [⟨false, b + 1 + o, 1⟩, ⟨false, b, 1⟩], e3, rfl⟩)
end Go.Ev
namespace Go.Proofs.YtmjbmbmnnephjaaGreatDoor
open Go Go.Ev Go.Proofs
section
variable {s : St} {b : Nat} {str : ByteArray} {a : Int} {ts : List Tok} {bad : Int}
def NegQ (b : Nat) (str : ByteArray) (a : Int) (ts : List Tok) (bad : Int) (v : Value) (s' : St) : Prop := ∃ r, v = .bool r ∧ (r = true → byteOf str a = 45) ∧ LX s' b str a ts 0 bad
theorem negative_ok (h : LX s b str a ts 0 bad) (ha : 0 ≤ a ∧ a ≤ (bl str).length) (hs : (bl str).length ≤ 100000) (hl : ts.length ≤ 20000) (hpre : ts = [] → a = 0 ∨ byteI str (a - 1) = 32) :
    Ok (fun f => callF En (runP En f) 61 [.pointer (some ⟨b, 0, none⟩)]) s (NegQ b str a ts bad) := by
  have t3 : scal En 3 = true := by kernel_rfl
  have t9 : scal En 9 = true := by kernel_rfl
  have t23 : scal En 23 = true := by kernel_rfl
  have hbl : (bl str).length = str.data.toList.length := rfl
  refine Ok.step (fun f => f61_eq f b) ?_
  refine Ok.call (peek_ok s b str a 0 h.c0 h.c1 (by omega) (by omega)) ?_
  rintro v s1 ⟨rfl, r1⟩
  have h1 := h.reads r1
  refine Ok.t rfl ?_
  rw [Int.add_zero]
  simp only [intOf]
  refine Ok.c (fun _ => Ok.ret ⟨_, rfl, (fun h => by cases h), h1⟩) (fun h45 => ?_)
  have h45 : byteOf str a = 45 := of_decide_eq_true (not_f h45)
  have hlt := byteOf_ne str a (by omega)
  refine Ok.call (peek_ok s1 b str a 1 h1.c0 h1.c1 (by omega) (by omega)) ?_
  rintro v s2 ⟨rfl, r2⟩
  have h2 := h1.reads r2
  refine Ok.t rfl ?_
  refine Ok.call (digit_ok s2 _) ?_
  rintro v s3 ⟨rfl, rfl⟩
  refine Ok.t rfl ?_
  refine Ok.c (fun _ => Ok.ret ⟨_, rfl, (fun h => by cases h), h2⟩) (fun _ => ?_)
  refine Ok.segLoad t3 h2.c1 fun s4 r4 => ?_
  have h4 := h2.reads r4
  refine Ok.t rfl ?_
  simp only [intOf]
  refine Ok.c (fun _ => Ok.ret ⟨_, rfl, fun _ => h45, h4⟩) (fun h0 => ?_)
  have h0 := of_decide_eq_false h0
  refine Ok.segLoad t9 h4.c0 fun s5 r5 => ?_
  refine Ok.gdL (by kernel_rfl) ?_
  have h5 := h4.reads r5
  refine Ok.t rfl ?_
  refine Ok.segLoad t3 h5.c1 fun s6 r6 => ?_
  refine Ok.gdL (by kernel_rfl) ?_
  have h6 := h5.reads r6
  refine Ok.t rfl ?_
  have hw : IntKind.i64.wrap (a + -1) = a - 1 := by rw [show a + -1 = a - 1 by omega]; exact wrap_in _ (by omega) (by omega)
  simp only [intOf, strOf, hw]
  refine Ok.t (decide_eq_true (by omega)) ?_
  refine Ok.t (Nat.ble_eq_true_of_le (by omega)) ?_
  refine Ok.c (fun _ => Ok.ret ⟨_, rfl, fun _ => h45, h6⟩) (fun h32 => ?_)
  have h32 := of_decide_eq_false h32
  have hne : ts ≠ [] := fun e => by
    rcases hpre e with h | h
    · exact h0 h
    · exact h32 h
  obtain ⟨ts', t, rfl⟩ : ∃ ts' t, ts = ts' ++ [t] := ⟨ts.dropLast, ts.getLast hne, (List.dropLast_concat_getLast hne).symm⟩
  have h6' := h6
  obtain ⟨l, g1, ⟨go, gg⟩, g3, g4⟩ := h6
  have htc : toksC (ts' ++ [t]) = toksC ts' ++ t.cells := by rw [toksC_append]; simp [toksC]
  rcases gg with ⟨rfl, gg⟩ | ⟨r, n, sy, olds, rfl, a2, a3, a4, a5, a6, a7⟩
  · rw [htc] at gg
    have := congrArg List.length gg
    simp [Tok.cells] at this
  rw [toksC_length, List.length_append, List.length_singleton] at a2
  have hn : n = ts'.length + 1 := by omega
  subst hn
  rw [htc] at a7
  have a7 := a7.right
  rw [toksC_length] at a7
  have row6 : Row s6.mem b (lxC str a (.slice (some ⟨r, 0, none⟩) (ts'.length + 1) (capOf (ts'.length + 1) false)) 0 bad) := g1
  rw [htc, List.length_append, toksC_length] at a4
  have h8 : t.cells.length = 8 := rfl
  refine Ok.segLoad t23 (row6.cell 2 rfl) fun s7 r7 => ?_
  refine Ok.t rfl ?_
  refine Ok.segLoad t23 ((row6.cell 2 rfl).reads r7) fun s8 r8 => ?_
  have r8 := r7.trans r8
  refine Ok.gdL (by kernel_rfl) ?_
  refine Ok.t rfl ?_
  have el : ∀ (x o n c : Nat), builtinA En Builtin.len (23 :: []) (Value.slice (some ⟨x, o, none⟩) n c :: []) = .ret (vInt n) := fun _ _ _ _ => by kernel_rfl
  simp only [sBlk, sOff, sLen, sCap, el]
  refine Ok.seg (Q1 := fun v s' => v = vInt ((ts'.length + 1 : Nat) : Int) ∧ s' = ⟨s8.mem, s8.ctr, []⟩) (Ok.ret ⟨rfl, rfl⟩) ?_
  rintro w s9 ⟨rfl, rfl⟩
  refine Ok.gdL (by kernel_rfl) ?_
  refine Ok.t rfl ?_
  simp only [List.length_append, List.length_singleton] at hl
  have hw2 : IntKind.i64.wrap (((ts'.length + 1 : Nat) : Int) + -1) = ((ts'.length : Nat) : Int) := by
    rw [show (((ts'.length + 1 : Nat) : Int) + -1) = ((ts'.length : Nat) : Int) by omega]
    exact wrap_in _ (by omega) (by omega)
  simp only [intOf, vInt, hw2, Int.toNat_natCast]
  refine Ok.t (decide_eq_true (by omega)) ?_
  refine Ok.t (by rw [Bool.and_true]; exact Nat.ble_eq_true_of_le (by omega)) ?_
  have m8 : s8.mem = s6.mem := r8.1
  have c8 : s8.ctr = s6.ctr := r8.2.1
  refine Ok.segLoadA (n := 8) (by kernel_rfl) (by kernel_rfl) h8 ⟨_, by simp only [m8]; exact a6⟩ (show CellsAt s8.mem r (r + 1 + (0 + ts'.length * 8)) t.cells by rw [m8, Nat.zero_add]; exact a7) fun s10 r10 => ?_
  refine Ok.gdL (by kernel_rfl) ?_
  have h10 : LX s10 b str a (ts' ++ [t]) 0 bad := (h6'.reads r8).reads r10
  have c10 : s10.ctr = s6.ctr := r10.2.1.trans c8
  refine Ok.t rfl ?_
  refine Ok.seg (Ok.newF rfl) ?_
  rintro v s11 ⟨rfl, e1, e2, e3, e4, l11, e5, e6⟩
  simp only [List.append_nil] at e5
  simp only at e1 e2 e3 e4 e6
  refine Ok.gdL ?_ ?_
  · rw [e5]
    simp only [freeL, Bool.and_true]
    simp only [Bool.and_eq_true, Bool.or_eq_true]
    refine ⟨.inr (apart_above' (c := s10.ctr) e6 ?_), .inr (apart_above' (c := s10.ctr) e6 ?_), .inr (apart_above' (c := s10.ctr) e6 ?_), .inr (apart_above' (c := s10.ctr) e6 ?_)⟩
    · intro x hx
      simp only [List.mem_cons, List.mem_nil_iff, or_false] at hx
      rcases hx with rfl | rfl <;> simp only <;> omega
    · intro x hx; cases hx
    · intro x hx
      simp only [List.mem_cons, List.mem_nil_iff, or_false] at hx
      rcases hx with rfl | rfl <;> simp only <;> omega
    · intro x hx
      simp only [List.mem_cons, List.mem_nil_iff, or_false] at hx
      rcases hx with rfl | rfl <;> simp only <;> omega
  refine Ok.t rfl ?_
  simp only [blk_itP, off_itP]
  have rw0 : Row s11.mem s10.ctr [Value.int IntKind.i64 0, Value.int IntKind.i64 0, Value.int IntKind.i64 0, Value.string (mkStr []), Value.int IntKind.i64 0, Value.slice none 0 0, Value.slice none 0 0, Value.slice none 0 0] := ⟨⟨_, _, _, _, e2⟩, e3⟩
  refine Ok.seg (Ok.storeRow (s := ⟨s11.mem, s11.ctr, []⟩) (n := 8) (ws := t.cells) (by kernel_rfl) rw0 rfl rfl rfl) ?_
  rintro v s12 ⟨rfl, c12, g12, k12⟩
  refine Ok.gdL (by kernel_rfl) ?_
  simp only at c12 k12
  have h12 : LX ⟨s12.mem, s12.ctr, s12.log ++ (s11.log ++ s10.log)⟩ b str a (ts' ++ [t]) 0 bad := h10.frame (by simp only; omega) fun k hk => by simp only; rw [k12 k (.inl (by omega)), e4 k hk]
  have hr : ∀ s s', (LX s b str a (ts' ++ [t]) 0 bad ∧ Row s.mem s10.ctr t.cells) → Reads s s' → (LX s' b str a (ts' ++ [t]) 0 bad ∧ Row s'.mem s10.ctr t.cells) := fun s s' h r => ⟨h.1.reads r, by rw [r.1]; exact h.2⟩
  have hI : LX ⟨s12.mem, s12.ctr, s12.log ++ (s11.log ++ s10.log)⟩ b str a (ts' ++ [t]) 0 bad ∧ Row (St.mem ⟨s12.mem, s12.ctr, s12.log ++ (s11.log ++ s10.log)⟩) s10.ctr t.cells := ⟨h12, g12⟩
  simp only [Nat.zero_add]
  repeat' (first
    | refine Ok.rd hr hI (by kernel_rfl) (hI.2.cell 0 rfl) fun s' hI => ?_
    | refine Ok.rd hr hI (by kernel_rfl) (hI.2.cell 3 rfl) fun s' hI => ?_
    | refine Ok.t rfl ?_
    | refine Ok.c (fun _ => ?_) (fun _ => ?_)
    | exact Ok.ret ⟨_, rfl, fun _ => h45, hI.1⟩)
end
end Go.Proofs.YtmjbmbmnnephjaaGreatDoor
/- The lexer: a token of a piece of the text; mark. -/
namespace Go.Proofs.YtmjbmbmnnephjaaGreatDoor
open Go Go.Ev Go.Proofs
theorem freeL_reads (m : Nat) (sg : List Acc) (h : writesOf sg = []) : ∀ (ds : List Done), (∀ d ∈ ds, d.ws = []) → freeL m (writesOf sg) sg ds = true
  | [], _ => rfl
  | d :: ds, g => by
    have hd := g d (List.mem_cons_self ..)
    have ih := freeL_reads m sg h ds fun d hd => g d (List.mem_cons_of_mem _ hd)
    have : apartLogs [] d.all [] sg = true := rfl
    rw [h] at ih ⊢
    simp only [freeL, ih, Bool.and_true, hd, this, Bool.or_true]
theorem segReads {p : Nat → Prog} {s : St} {R : Value → Prop} {Q : Value → St → Prop} {k : Nat → Value → List Acc → Nat → Prog} (h : Ok p ⟨s.mem, s.ctr, []⟩ (fun v s' => R v ∧ Reads ⟨s.mem, s.ctr, []⟩ s'))
    (hk : ∀ v s1 sg, R v → Reads s s1 → writesOf sg = [] → Ok (fun f => k f v sg s.ctr) s1 Q) : Ok (fun f => .seg (p f) (k f)) s Q := by
  refine Ok.seg h ?_
  rintro v s1 ⟨hR, e1, e2, l, e3, e4⟩
  simp only [List.append_nil] at e1 e2 e3
  rw [e2]
  exact hk v _ s1.log hR ⟨e1, rfl, s1.log, rfl, by rw [e3]; exact e4⟩ (by rw [e3]; exact e4)
section
variable {s : St} {b : Nat} {str : ByteArray} {a : Int} {ts : List Tok} {bad : Int}
/-- A token that is a piece of the text, and ends here. -/
theorem addSub (h : LX s b str a ts 0 bad) (p kind t : Int) (hp : 0 ≤ p ∧ p < a ∧ a ≤ (bl str).length) (hk : 1 ≤ kind ∧ kind ≤ 6) (hv : kind = 1 → ValOK t [] [] []) (hl : ts.length ≤ 20000) (m1 m2 i1 i2 : Nat) (hm1 : Nat.testBit m2 i1 = true) (hm2 : Nat.testBit m2 i2 = true) :
    Ok (fun f => .seg (loadT En 9 b 0) fun v60 s61 _ =>
    (cnd
      (Prog.seg (loadT En 3 b 1) fun v62 s63 _ =>
        (Ev.gdL m1 (writesOf s63) s63 [⟨i1, writesOf s61, s61⟩]
          (cnd
            (cnd
              (cnd
                (cnd
                  (gd Bool.true
                    (Prog.seg (callF En (runP En f) 63 [(Value.pointer (Option.some (Addr.mk b 0 Option.none))), (Value.int IntKind.i64 kind), (Value.int IntKind.i64 p), (Value.string (mkStr (List.take ((Int.toNat (intOf v62)) - (Int.toNat p)) (List.drop (Int.toNat p) (Array.toList (ByteArray.data (strOf v60))))))), (Value.agg ⟨((Value.int IntKind.i64 t) :: ((lstV []) :: ((lstV []) :: ((lstV []) :: []))))⟩)]) fun v64 s65 _ =>
                      (Ev.gdL m2 (writesOf s65) s65 [⟨i2, writesOf s63, s63⟩, ⟨i1, writesOf s61, s61⟩]
                        (cnd
                          (Prog.ret (Value.tuple ⟨[]⟩))
                          Prog.fail
                          ((isTupV v64) && (okNs [] (tupOf v64)))))))
                  Prog.fail
                  ((Nat.ble (Int.toNat p) (Int.toNat (intOf v62))) && (Nat.ble (Int.toNat (intOf v62)) (List.length (Array.toList (ByteArray.data (strOf v60)))))))
                Prog.fail
                (decide ((0 : Int) ≤ (intOf v62))))
              Prog.fail
              (decide ((0 : Int) ≤ p)))
            Prog.fail
            (okK (Kd.int IntKind.i64) v62))))
      Prog.fail
      (okK Kd.str v60))) s (TokQ b str p ts bad) := by
  have hbl : (bl str).length = str.data.toList.length := rfl
  refine Ok.segLoad (by kernel_rfl) h.c0 fun s1 r1 => ?_
  refine Ok.t rfl ?_
  refine Ok.segLoad (by kernel_rfl) (h.c1.reads r1) fun s2 r2 => ?_
  have r2 := r1.trans r2
  refine Ok.gdL (freeL_reads _ _ rfl _ fun d hd => by simp only [List.mem_singleton] at hd; subst hd; rfl) ?_
  refine Ok.t rfl ?_
  simp only [intOf, strOf]
  refine Ok.t (decide_eq_true hp.1) ?_
  refine Ok.t (decide_eq_true (by omega)) ?_
  refine Ok.t (by simp only [Bool.and_eq_true]; exact ⟨Nat.ble_eq_true_of_le (by omega), Nat.ble_eq_true_of_le (by omega)⟩) ?_
  refine Ok.g rfl ?_
  have h2 : LX s2 b str a ts 0 bad := h.reads r2
  have h2 : LX ⟨s2.mem, s2.ctr, []⟩ b str a ts 0 bad := h2
  refine Ok.seg (add_ok h2 kind p (sub str p a) t [] [] [] hl) ?_
  rintro v s3 ⟨rfl, h3⟩
  refine Ok.gdL (by simp [freeL, hm1, hm2]) ?_
  exact Ok.t rfl (Ok.ret ⟨rfl, .inr ⟨⟨kind, p, a, sub str p a, t, [], [], []⟩, ⟨rfl, hp.2.1, hp.2.2, hk.1, hk.2, fun _ => rfl, hv⟩, h3⟩⟩)
theorem mark_11 (h : LX s b str a ts 0 bad) (p : Int) (hp : 0 ≤ p ∧ p < a ∧ a ≤ (bl str).length) (hl : ts.length ≤ 20000) : Ok (fun f => p67_11 f b p) s (TokQ b str p ts bad) :=
  Ok.step (fun f => p67_11_eq f b p) (addSub h p 6 0 hp (by decide) (fun h => absurd h (by decide)) hl 3840 32767 6 12 rfl rfl)
theorem mark_6 (h : LX s b str a ts 0 bad) (ha : 0 ≤ a ∧ a ≤ (bl str).length) (hs : (bl str).length ≤ 100000) (hl : ts.length ≤ 20000) : Ok (fun f => p67_6 f b a (byteOf str a)) s (TokQ b str a ts bad) := by
  have t3 : scal En 3 = true := by kernel_rfl
  have hr : ∀ s s', LX s b str a ts 0 bad → Reads s s' → LX s' b str a ts 0 bad := fun s s' h r => h.reads r
  have hby : 0 ≤ byteOf str a ∧ byteOf str a < 256 := by
    unfold byteOf
    split
    · have := byteAt_lt str a.toNat
      simp only [Int.ofNat_eq_natCast]; omega
    · omega
  refine Ok.step (fun f => p67_6_eq f b a (byteOf str a)) ?_
  refine Ok.c (fun _ => fail_q (err := 0) h 140 a (by decide) ha a) (fun h0 => ?_)
  have h0 := of_decide_eq_false h0
  have hlt := byteOf_ne str a h0
  refine Ok.call (indexB_ok s _ _ hby) ?_
  rintro v s1 ⟨⟨n, rfl, _⟩, rfl⟩
  refine Ok.t rfl ?_
  refine Ok.c (fun _ => fail_q (err := 0) h 140 a (by decide) ha a) (fun _ => ?_)
  refine Ok.rd hr h t3 h.c1 fun s2 h2 => ?_
  refine Ok.t rfl ?_
  have hw1 : IntKind.i64.wrap (a + 1) = a + 1 := wrap_in _ (by omega) (by omega)
  simp only [intOf, hw1]
  refine Ok.callP (setAt_ok h2 (a + 1)) ?_
  rintro v s3 ⟨rfl, h3, _⟩
  refine Ok.c (fun _ => ?_) (fun _ => mark_11 h3 a ⟨ha.1, by omega, by omega⟩ hl)
  refine Ok.call (peek_ok s3 b str (a + 1) 0 h3.c0 h3.c1 (by omega) (by omega)) ?_
  rintro v s4 ⟨rfl, r4⟩
  have h4 := h3.reads r4
  refine Ok.t rfl ?_
  rw [Int.add_zero]
  refine Ok.c (fun h58 => ?_) (fun _ => mark_11 h4 a ⟨ha.1, by omega, by omega⟩ hl)
  have h58 := of_decide_eq_true h58
  simp only [intOf] at h58
  have hlt2 := byteOf_ne str (a + 1) (by omega)
  have hr : ∀ s s', LX s b str (a + 1) ts 0 bad → Reads s s' → LX s' b str (a + 1) ts 0 bad := fun s s' h r => h.reads r
  refine Ok.rd hr h4 t3 h4.c1 fun s5 h5 => ?_
  refine Ok.t rfl ?_
  have hw2 : IntKind.i64.wrap (a + 1 + 1) = a + 1 + 1 := wrap_in _ (by omega) (by omega)
  simp only [intOf, hw2]
  refine Ok.callP (setAt_ok h5 (a + 1 + 1)) ?_
  rintro v s6 ⟨rfl, h6, _⟩
  exact mark_11 h6 a ⟨ha.1, by omega, by omega⟩ hl
theorem mark_ok (h : LX s b str a ts 0 bad) (ha : 0 ≤ a ∧ a ≤ (bl str).length) (hs : (bl str).length ≤ 100000) (hl : ts.length ≤ 20000) :
    Ok (fun f => callF En (runP En f) 67 [.pointer (some ⟨b, 0, none⟩)]) s (TokQ b str a ts bad) := by
  have t3 : scal En 3 = true := by kernel_rfl
  have hr : ∀ s s', LX s b str a ts 0 bad → Reads s s' → LX s' b str a ts 0 bad := fun s s' h r => h.reads r
  refine Ok.step (fun f => f67_eq f b) ?_
  refine Ok.segLoad t3 h.c1 fun s1 r1 => ?_
  have h1 := h.reads r1
  refine Ok.t rfl ?_
  have pk : ∀ (s : St) (n : Int), LX s b str a ts 0 bad → 0 ≤ n → n ≤ 1000 → Ok (fun f => callF En (runP En f) 59 [.pointer (some ⟨b, 0, none⟩), .int .i64 n]) s (fun v s' => v = .int .u8 (byteOf str (a + n)) ∧ Reads s s') := fun s n h h1 h2 =>
    peek_ok s b str a n h.c0 h.c1 (by omega) (by omega)
  have h1' : LX ⟨s1.mem, s1.ctr, []⟩ b str a ts 0 bad := h1
  refine segReads (R := fun v => v = .int .u8 (byteOf str (a + 0))) (pk _ 0 h1' (by omega) (by omega)) ?_
  rintro v s2 sg rfl r2 hsg
  have h2 := h1.reads r2
  refine Ok.gdL (freeL_reads _ _ hsg _ fun d hd => by simp only [List.mem_singleton] at hd; subst hd; rfl) ?_
  refine Ok.t rfl ?_
  rw [Int.add_zero]
  simp only [intOf]
  have m6 : ∀ s, LX s b str a ts 0 bad → Ok (fun f => p67_6 f b a (byteOf str a)) s (TokQ b str a ts bad) := fun s h => mark_6 h ha hs hl
  refine Ok.c (fun _ => ?_) (fun _ => m6 _ h2)
  refine Ok.call (pk s2 1 h2 (by omega) (by omega)) ?_
  rintro v s3 ⟨rfl, r3⟩
  have h3 := h2.reads r3
  refine Ok.t rfl ?_
  refine Ok.c (fun _ => ?_) (fun _ => m6 _ h3)
  refine Ok.call (pk s3 3 h3 (by omega) (by omega)) ?_
  rintro v s4 ⟨rfl, r4⟩
  have h4 := h3.reads r4
  refine Ok.t rfl ?_
  refine Ok.call (inside_ok s4 _) ?_
  rintro v s5 ⟨rfl, rfl⟩
  refine Ok.t rfl ?_
  refine Ok.c (fun _ => ?_) (fun _ => m6 _ h4)
  have h4' : LX ⟨s5.mem, s5.ctr, []⟩ b str a ts 0 bad := h4
  refine segReads (R := fun v => v = .int .u8 (byteOf str (a + 2))) (pk _ 2 h4' (by omega) (by omega)) ?_
  rintro v s6 sg rfl r6 hsg
  have h6 := h4.reads r6
  refine Ok.t rfl ?_
  have hby : 0 ≤ byteOf str (a + 2) ∧ byteOf str (a + 2) < 256 := by
    unfold byteOf
    split
    · have := byteAt_lt str (a + 2).toNat
      simp only [Int.ofNat_eq_natCast]; omega
    · omega
  simp only [intOf]
  refine Ok.seg (indexB_ok ⟨s6.mem, s6.ctr, []⟩ _ _ hby) ?_
  rintro v s7 ⟨⟨n, rfl, hn⟩, rfl⟩
  have h7 : LX ⟨s6.mem, s6.ctr, [] ++ s6.log⟩ b str a ts 0 bad := h6
  refine Ok.gdL (freeL_reads _ _ rfl _ fun d hd => by simp only [List.mem_singleton] at hd; subst hd; exact hsg) ?_
  refine Ok.t rfl ?_
  simp only [intOf]
  refine Ok.c (fun hge => ?_) (fun _ => m6 _ h7)
  have hge := of_decide_eq_true hge
  refine Ok.call (pk _ 2 h7 (by omega) (by omega)) ?_
  rintro v s8 ⟨rfl, r8⟩
  have h8 := h7.reads r8
  refine Ok.t rfl ?_
  simp only [intOf]
  refine Ok.c (fun hne => ?_) (fun _ => m6 _ h8)
  have hne : byteOf str (a + 2) ≠ 0 := of_decide_eq_false (not_t hne)
  have hlt := byteOf_ne str (a + 2) hne
  refine Ok.rd hr h8 t3 h8.c1 fun s9 h9 => ?_
  refine Ok.t rfl ?_
  have hw3 : IntKind.i64.wrap (a + 3) = a + 3 := wrap_in _ (by omega) (by omega)
  simp only [intOf, hw3]
  refine Ok.callP (setAt_ok h9 (a + 3)) ?_
  rintro v s10 ⟨rfl, h10, _⟩
  obtain ⟨j, rfl, hj⟩ : ∃ j : Nat, n = j ∧ j < 5 := by
    rcases hn with ⟨rfl, _⟩ | ⟨j, h, hj⟩
    · omega
    · exact ⟨j, h, hj⟩
  have hw4 : IntKind.i64.wrap ((j : Int) + 1) = (j : Int) + 1 := wrap_in _ (by omega) (by omega)
  rw [hw4]
  refine addSub h10 a 1 ((j : Int) + 1) ⟨ha.1, by omega, by omega⟩ (by decide) (fun _ => ⟨rfl, by simp, (j : Int) + 1, by omega, rfl, ?_⟩) hl 3840 131071 6 12 rfl rfl
  by_cases h3 : (j : Int) + 1 = 3
  · exact .inl ⟨h3, rfl, fun x hx => by cases hx⟩
  · exact .inr ⟨h3, rfl, fun x hx => by cases hx⟩
end
end Go.Proofs.YtmjbmbmnnephjaaGreatDoor
/- The lexer: token. -/
namespace Go.Proofs.YtmjbmbmnnephjaaGreatDoor
open Go Go.Ev Go.Proofs
section
variable {s : St} {b : Nat} {str : ByteArray} {a : Int} {ts : List Tok} {bad : Int}
theorem tok_21 (h : LX s b str a ts 0 bad) (p : Int) (hp : 0 ≤ p ∧ p < a ∧ a ≤ (bl str).length) (hl : ts.length ≤ 20000) : Ok (fun f => p34_21 f b p) s (TokQ b str p ts bad) :=
  Ok.step (fun f => p34_21_eq f b p) (addSub h p 5 0 hp (by decide) (fun h => absurd h (by decide)) hl 3840 32767 6 12 rfl rfl)
theorem adv_ok (h : LX s b str a ts 0 bad) (ha : 0 ≤ a ∧ a < (bl str).length) (hs : (bl str).length ≤ 100000) (hl : ts.length ≤ 20000) :
    Ok (fun f => Ev.callP (fun v93 => (cnd (Ev.callP (fun _ => (Prog.call (callF En (runP En f) 59 [(Value.pointer (Option.some (Addr.mk b 0 Option.none))), (Value.int IntKind.i64 (0 : Int))]) fun v95 =>
        (cnd (cnd (Ev.callP (fun v96 => (cnd (Ev.callP (fun _ => (p34_21 f b a)) (storeT En 3 b 1 (Value.int IntKind.i64 (IntKind.wrap IntKind.i64 ((intOf v96) + (1 : Int)))))) Prog.fail (okK (Kd.int IntKind.i64) v96))) (loadT En 3 b 1))
          (p34_21 f b a) (decide ((intOf v95) = (58 : Int)))) Prog.fail (okK (Kd.int IntKind.u8) v95))))
        (storeT En 3 b 1 (Value.int IntKind.i64 (IntKind.wrap IntKind.i64 ((intOf v93) + (1 : Int)))))) Prog.fail (okK (Kd.int IntKind.i64) v93))) (loadT En 3 b 1)) s (TokQ b str a ts bad) := by
  have t3 : scal En 3 = true := by kernel_rfl
  have hr : ∀ s s', LX s b str a ts 0 bad → Reads s s' → LX s' b str a ts 0 bad := fun s s' h r => h.reads r
  refine Ok.rd hr h t3 h.c1 fun s2 h2 => ?_
  refine Ok.t rfl ?_
  have hw1 : IntKind.i64.wrap (a + 1) = a + 1 := wrap_in _ (by omega) (by omega)
  simp only [intOf, hw1]
  refine Ok.callP (setAt_ok h2 (a + 1)) ?_
  rintro v s3 ⟨rfl, h3, _⟩
  refine Ok.call (peek_ok s3 b str (a + 1) 0 h3.c0 h3.c1 (by omega) (by omega)) ?_
  rintro v s4 ⟨rfl, r4⟩
  have h4 := h3.reads r4
  refine Ok.t rfl ?_
  rw [Int.add_zero]
  refine Ok.c (fun h58 => ?_) (fun _ => tok_21 h4 a ⟨ha.1, by omega, by omega⟩ hl)
  have h58 := of_decide_eq_true h58
  simp only [intOf] at h58
  have hlt2 := byteOf_ne str (a + 1) (by omega)
  have hr : ∀ s s', LX s b str (a + 1) ts 0 bad → Reads s s' → LX s' b str (a + 1) ts 0 bad := fun s s' h r => h.reads r
  refine Ok.rd hr h4 t3 h4.c1 fun s5 h5 => ?_
  refine Ok.t rfl ?_
  have hw2 : IntKind.i64.wrap (a + 1 + 1) = a + 1 + 1 := wrap_in _ (by omega) (by omega)
  simp only [intOf, hw2]
  refine Ok.callP (setAt_ok h5 (a + 1 + 1)) ?_
  rintro v s6 ⟨rfl, h6, _⟩
  exact tok_21 h6 a ⟨ha.1, by omega, by omega⟩ hl
theorem callQ {Q : Value → St → Prop} {g : Nat} (hQ : ∀ v s', Q v s' → v = .tuple ⟨[]⟩) (h : Ok (fun f => callF En (runP En f) g [(Value.pointer (Option.some (Addr.mk b 0 Option.none)))]) s Q) :
    Ok (fun f => Prog.call (callF En (runP En f) g [(Value.pointer (Option.some (Addr.mk b 0 Option.none)))]) fun v79 => (cnd (Prog.ret (Value.tuple ⟨[]⟩)) Prog.fail ((isTupV v79) && (okNs [] (tupOf v79))))) s Q := by
  refine Ok.call h ?_
  intro v s1 hq
  have e := hQ v s1 hq
  subst e
  exact Ok.t rfl (Ok.ret hq)
theorem sub_run (str : ByteArray) (a : Int) (n : Nat) (ha : 0 ≤ a) : mkStr (List.take n (List.drop a.toNat str.data.toList)) = sub str a (a + n) := by
  unfold sub
  rw [show (a + (n : Int)).toNat - a.toNat = n by omega]
theorem token_ok (h : LX s b str a ts 0 bad) (ha : 0 ≤ a ∧ a ≤ (bl str).length) (hs : (bl str).length ≤ 100000) (hl : ts.length ≤ 20000) (hpre : ts = [] → a = 0 ∨ byteI str (a - 1) = 32) :
    Ok (fun f => callF En (runP En f) 34 [.pointer (some ⟨b, 0, none⟩)]) s (TokQ b str a ts bad) := by
  have t3 : scal En 3 = true := by kernel_rfl
  have hbl : (bl str).length = str.data.toList.length := rfl
  have hr : ∀ a s s', LX s b str a ts 0 bad → Reads s s' → LX s' b str a ts 0 bad := fun a s s' h r => h.reads r
  have hq : ∀ v s', TokQ b str a ts bad v s' → v = .tuple ⟨[]⟩ := fun v s' h => h.1
  refine Ok.step (fun f => f34_eq f b) ?_
  refine Ok.segLoad t3 h.c1 fun s1 r1 => ?_
  have h1 := h.reads r1
  refine Ok.t rfl ?_
  have h1' : LX ⟨s1.mem, s1.ctr, []⟩ b str a ts 0 bad := h1
  refine segReads (R := fun v => v = .int .u8 (byteOf str (a + 0))) (peek_ok ⟨s1.mem, s1.ctr, []⟩ b str a 0 h1'.c0 h1'.c1 (by omega) (by omega)) ?_
  rintro v s2 sg rfl r2 hsg
  have h2 := h1.reads r2
  refine Ok.gdL (freeL_reads _ _ hsg _ fun d hd => by simp only [List.mem_singleton] at hd; subst hd; rfl) ?_
  refine Ok.t rfl ?_
  rw [Int.add_zero]
  simp only [intOf]
  refine Ok.call (digit_ok s2 _) ?_
  rintro v s3 ⟨rfl, rfl⟩
  refine Ok.t rfl ?_
  refine Ok.c (fun hd => callQ hq (numeral_ok h2 ha hs hl (.inl hd))) (fun _ => ?_)
  refine Ok.call (negative_ok h2 ha hs hl hpre) ?_
  rintro v s4 ⟨r, rfl, hneg, h4⟩
  refine Ok.t rfl ?_
  refine Ok.c (fun hn => callQ hq (numeral_ok h4 ha hs hl (.inr (hneg hn)))) (fun _ => ?_)
  refine Ok.call (letter_ok s4 _) ?_
  rintro v s5 ⟨rfl, rfl⟩
  refine Ok.t rfl ?_
  refine Ok.c (fun hlet => ?_) (fun _ => ?_)
  · simp only [boolOf] at hlet
    have hlt := byteOf_ne str a (by intro e; rw [e] at hlet; exact absurd hlet (by decide))
    refine Ok.call (run_ok insideP s5 ha.1 ha.2 (by omega) h4.c0 h4.c1) ?_
    rintro v s6 ⟨n, hrun, rfl, r6⟩
    have h6 := h4.reads r6
    have hr1 := hrun.1
    have hn0 : n ≠ 0 := by
      intro e
      subst e
      have := hrun.2.2 (by omega)
      simp only [Int.natCast_zero, Int.add_zero] at this
      rw [← byteOf_in str a hlt] at this
      simp [isInside, hlet] at this
    have hxl : (mkStr (List.take n (List.drop a.toNat str.data.toList))).data.toList.length = n := by
      show (List.take n (List.drop a.toNat str.data.toList)).length = n
      rw [List.length_take, List.length_drop]; omega
    refine Ok.t rfl ?_
    refine Ok.rd (hr a) h6 t3 h6.c1 fun s7 h7 => ?_
    refine Ok.t rfl ?_
    have hw1 : IntKind.i64.wrap (a + (n : Int)) = a + n := wrap_in _ (by omega) (by omega)
    simp only [intOf, strOf, hxl, Int.ofNat_eq_natCast, hw1]
    refine Ok.callP (setAt_ok h7 _) ?_
    rintro v s8 ⟨rfl, h8, _⟩
    refine Ok.g rfl ?_
    refine Ok.call (add_ok h8 2 a _ 0 [] [] [] hl) ?_
    rintro v s9 ⟨rfl, h9⟩
    exact Ok.t rfl (Ok.ret ⟨rfl, .inr ⟨⟨2, a, a + n, mkStr (List.take n (List.drop a.toNat str.data.toList)), 0, [], [], []⟩, ⟨rfl, by show a < a + (n : Int); omega, by show a + (n : Int) ≤ _; omega, (by decide : (1 : Int) ≤ 2), (by decide : (2 : Int) ≤ 6), fun _ => sub_run str a n ha.1, fun e => absurd e (by decide : ¬ (2 : Int) = 1)⟩, h9⟩⟩)
  refine Ok.c (fun h96 => callQ hq (symbols_ok h4 ha hs hl (of_decide_eq_true h96))) (fun _ => ?_)
  refine Ok.c (fun h34 => ?_) (fun _ => ?_)
  · have h34 : byteOf str a = 34 := of_decide_eq_true h34
    have hlt := byteOf_ne str a (by omega)
    refine Ok.call (quoted_ok h4 0 ⟨ha.1, Int.le_refl 0, by omega⟩ hs) ?_
    rintro v s6 ⟨q1, q2, y, n, rfl, hor⟩
    refine Ok.t rfl ?_
    simp only [show ∀ a b, at_ (tupOf (Value.tuple ⟨[.string a, .int .i64 b]⟩)) 0 = .string a from fun _ _ => rfl, show ∀ a b, at_ (tupOf (Value.tuple ⟨[.string a, .int .i64 b]⟩)) 1 = .int .i64 b from fun _ _ => rfl, strOf, intOf]
    rcases hor with ⟨rfl, rfl, h6⟩ | ⟨hn1, hn2, h6⟩
    · have hr2 : ∀ s s', LX s b str a ts 142 (a + 0) → Reads s s' → LX s' b str a ts 142 (a + 0) := fun s s' h r => h.reads r
      refine Ok.rd hr2 h6 t3 h6.c1 fun s7 h7 => ?_
      refine Ok.t rfl ?_
      refine Ok.callP (setAt_ok h7 _) ?_
      rintro v s8 ⟨rfl, h8, _⟩
      refine Ok.g rfl ?_
      refine Ok.call (add_ok h8 3 a _ 0 [] [] [] hl) ?_
      rintro v s9 ⟨rfl, h9⟩
      exact Ok.t rfl (Ok.ret ⟨rfl, .inl ⟨_, _, _, _, by decide, by omega, by omega, h9⟩⟩)
    · refine Ok.rd (hr a) h6 t3 h6.c1 fun s7 h7 => ?_
      refine Ok.t rfl ?_
      have hw1 : IntKind.i64.wrap (a + n) = a + n := wrap_in _ (by omega) (by omega)
      simp only [intOf, hw1]
      refine Ok.callP (setAt_ok h7 _) ?_
      rintro v s8 ⟨rfl, h8, _⟩
      refine Ok.g rfl ?_
      refine Ok.call (add_ok h8 3 a _ 0 [] [] [] hl) ?_
      rintro v s9 ⟨rfl, h9⟩
      exact Ok.t rfl (Ok.ret ⟨rfl, .inr ⟨⟨3, a, a + n, y, 0, [], [], []⟩, ⟨rfl, by show a < a + n; omega, by show a + n ≤ _; omega, (by decide : (1 : Int) ≤ 3), (by decide : (3 : Int) ≤ 6), fun e => absurd rfl e, fun e => absurd e (by decide : ¬ (3 : Int) = 1)⟩, h9⟩⟩)
  have hby : 0 ≤ byteOf str a ∧ byteOf str a < 256 := by
    unfold byteOf
    split
    · have := byteAt_lt str a.toNat
      simp only [Int.ofNat_eq_natCast]; omega
    · omega
  refine Ok.c (fun h0 => ?_) (fun h0 => ?_)
  · have h0 : byteOf str a ≠ 0 := of_decide_eq_false (not_t h0)
    have hlt := byteOf_ne str a h0
    refine Ok.call (indexB_ok s5 _ _ hby) ?_
    rintro v s6 ⟨⟨n, rfl, _⟩, rfl⟩
    refine Ok.t rfl ?_
    refine Ok.c (fun _ => ?_) (fun _ => ?_)
    · refine Ok.rd (hr a) h4 t3 h4.c1 fun s7 h7 => ?_
      refine Ok.t rfl ?_
      have hw1 : IntKind.i64.wrap (a + 1) = a + 1 := wrap_in _ (by omega) (by omega)
      simp only [intOf, hw1]
      refine Ok.callP (setAt_ok h7 _) ?_
      rintro v s8 ⟨rfl, h8, _⟩
      exact addSub h8 a 4 0 ⟨ha.1, by omega, by omega⟩ (by decide) (fun h => absurd h (by decide)) hl 3840 32767 6 12 rfl rfl
    · refine Ok.c (fun _ => adv_ok h4 ⟨ha.1, hlt⟩ hs hl) (fun _ => ?_)
      refine Ok.c (fun _ => adv_ok h4 ⟨ha.1, hlt⟩ hs hl) (fun _ => ?_)
      refine Ok.c (fun _ => adv_ok h4 ⟨ha.1, hlt⟩ hs hl) (fun _ => ?_)
      exact callQ hq (mark_ok h4 ha hs hl)
  · have h0 : byteOf str a = 0 := of_decide_eq_true (not_f h0)
    refine Ok.f (decide_eq_false (by omega)) (Ok.f (decide_eq_false (by omega)) (Ok.f (decide_eq_false (by omega)) ?_))
    exact callQ hq (mark_ok h4 ha hs hl)
end
end Go.Proofs.YtmjbmbmnnephjaaGreatDoor
/- The lexer: Lex. -/
namespace Go.Proofs.YtmjbmbmnnephjaaGreatDoor
open Go Go.Ev Go.Proofs
def tokV (t : Tok) : Value := .agg ⟨t.cells⟩
def sl34 : List (Option TypeId) := [none, none, none, none, none, some 2, some 9, some 32]
theorem slots34 : slots En 20 34 = sl34 := by kernel_rfl
theorem frzGo_toks : ∀ (ts : List Tok) (k : List Value → Prog), frzGo (frzL En 19) ((List.replicate ts.length ()).flatMap fun _ => sl34) (toksC ts) k = k (toksC ts)
  | [], _ => rfl
  | t :: ts, k => by
    have ih := frzGo_toks ts fun r => k (t.cells ++ r)
    show frzGo (frzL En 19) (sl34 ++ (List.replicate ts.length ()).flatMap fun _ => sl34) (t.cells ++ toksC ts) k = k (t.cells ++ toksC ts)
    rw [← ih]
    rfl
theorem chunk_toks : ∀ (ts : List Tok), chunkC false 8 ts.length (toksC ts) = ts.map tokV
  | [] => rfl
  | t :: ts => by
    have ih := chunk_toks ts
    show Value.agg ⟨(t.cells ++ toksC ts).take 8⟩ :: chunkC false 8 ts.length ((t.cells ++ toksC ts).drop 8) = tokV t :: ts.map tokV
    rw [← ih]
    rfl
theorem frz_toks {s : St} {lo : Nat} {ts : List Tok} {v : Value} {Q : Value → St → Prop} {p : Nat → Value → Prog} (h : Grow s.mem lo s.ctr 34 8 (toksC ts) v)
    (hk : ∀ s', s'.ctr = s.ctr → (∀ k, k < lo → s'.mem.get k = s.mem.get k) → Ok (fun f => p f (lstV (ts.map tokV))) s' Q) : Ok (fun f => frzL En 20 34 v (p f)) s Q := by
  obtain ⟨m, c, l⟩ := s
  have h' := h
  rcases h.2 with ⟨rfl, e⟩ | ⟨r, n, sy, olds, rfl, a2, _⟩
  · have : ts = [] := by
      cases ts with
      | nil => rfl
      | cons t ts => have := congrArg List.length e; rw [toksC_length] at this; simp at this
    subst this
    exact hk _ rfl fun _ _ => rfl
  · rw [toksC_length] at a2
    have hn : ts.length = n := by omega
    by_cases h0 : n = 0
    · subst h0
      have : ts = [] := List.length_eq_zero_iff.1 hn
      subst this
      exact hk _ rfl fun _ _ => rfl
    · obtain ⟨s', f1, f2, f3⟩ := Grow.frz (l := l) h'
      have hb : Nat.beq n 0 = false := by cases n with
        | zero => exact absurd rfl h0
        | succ n => rfl
      have hs : En.size 34 = some 8 := by kernel_rfl
      have h1 : isOneT En 34 = false := by kernel_rfl
      have e2 : ∀ f, frzL En (19 + 1) 34 (.slice (some ⟨r, 0, none⟩) n (capOf n false)) (p f) = .frz r (n * 8) 0 fun vs => frzGo (frzL En 19) ((List.replicate n ()).flatMap fun _ => sl34) vs fun vs => p f (lstV (chunkC false 8 n vs)) := by
        intro f
        unfold frzL
        simp only [hb, hs, Ev.opt, ck, slots34, h1, Nat.mul_eq]
        rfl
      have e3 : ∀ f, frzL En 20 34 (.slice (some ⟨r, 0, none⟩) n (capOf n false)) (p f) = .frz r (n * 8) 0 fun vs => frzGo (frzL En 19) ((List.replicate n ()).flatMap fun _ => sl34) vs fun vs => p f (lstV (chunkC false 8 n vs)) := e2
      simp only [e3]
      refine Ok.frzO f1 ?_
      subst hn
      simp only [frzGo_toks, chunk_toks]
      exact hk s' f2 f3
def blanks (str : ByteArray) (p q : Int) : Prop := ∀ i : Int, p ≤ i → i < q → byteI str i = 32
/-- Tokens cover all bytes of a stretch but blanks. -/
def Cov (str : ByteArray) : Int → List Tok → Int → Prop
  | w, [], e => w ≤ e ∧ blanks str w e
  | w, t :: ts, e => w ≤ t.at_ ∧ blanks str w t.at_ ∧ TokOK str t.at_ t ∧ Cov str t.en ts e
theorem Cov.blank {str : ByteArray} : ∀ {ts : List Tok} {w e e' : Int}, Cov str w ts e → e ≤ e' → blanks str e e' → Cov str w ts e'
  | [], w, e, e', h, h1, h2 => ⟨by have := h.1; omega, fun i hi hj => if hk : i < e then h.2 i hi hk else h2 i (by omega) hj⟩
  | t :: ts, w, e, e', h, h1, h2 => ⟨h.1, h.2.1, h.2.2.1, Cov.blank h.2.2.2 h1 h2⟩
theorem Cov.snoc {str : ByteArray} {t : Tok} : ∀ {ts : List Tok} {w e : Int}, Cov str w ts e → TokOK str e t → Cov str w (ts ++ [t]) t.en
  | [], w, e, h, ht => by
    have : t.at_ = e := ht.1
    subst this
    exact ⟨h.1, h.2, ht, Int.le_refl _, fun i hi hj => by omega⟩
  | x :: ts, w, e, h, ht => ⟨h.1, h.2.1, h.2.2.1, Cov.snoc h.2.2.2 ht⟩
/-- What Lex answers. -/
def LexQ (str : ByteArray) (v : Value) : Prop :=
  (∃ err bad : Int, err ≠ 0 ∧ 0 ≤ bad ∧ bad ≤ (bl str).length ∧ v = .tuple ⟨[lstV [], .int .i64 err, .int .i64 bad]⟩) ∨
  (∃ ts : List Tok, ts.length ≤ 16384 ∧ Cov str 0 ts (bl str).length ∧ v = .tuple ⟨[lstV (ts.map tokV), .int .i64 0, .int .i64 0]⟩)
section
variable {s : St} {b : Nat} {str : ByteArray} {a : Int} {ts : List Tok} {err bad : Int}
theorem lex_err (h : LX s b str a ts err bad) (he : err ≠ 0) (hb : 0 ≤ bad ∧ bad ≤ (bl str).length) : Ok (fun f => p11_4 f str b 0) s (fun v _ => LexQ str v) := by
  have t3 : scal En 3 = true := by kernel_rfl
  have t24 : scal En 24 = true := by kernel_rfl
  refine Ok.step (fun f => p11_4_eq f str b 0) ?_
  simp only [Nat.zero_add]
  refine Ok.callP (Ok.load1 t24 h.c3) ?_
  rintro v s1 ⟨rfl, m1, c1, l1⟩
  have r1 : Reads s s1 := ⟨m1, c1, [⟨false, b + 1 + 3, 1⟩, ⟨false, b, 1⟩], l1, rfl⟩
  refine Ok.t rfl ?_
  refine Ok.f (decide_eq_false he) ?_
  refine Ok.segLoad t24 (h.c3.reads r1) fun s2 r2 => ?_
  have r2 := r1.trans r2
  refine Ok.t rfl ?_
  refine Ok.segLoad t3 (h.c4.reads r2) fun s3 r3 => ?_
  refine Ok.gdL (freeL_reads _ _ rfl _ fun d hd => by simp only [List.mem_singleton] at hd; subst hd; rfl) ?_
  exact Ok.t rfl (Ok.ret (.inl ⟨err, bad, he, hb.1, hb.2, rfl⟩))
theorem len23 (a : Option Addr) (n c : Nat) : builtinA En Builtin.len (23 :: []) (Value.slice a n c :: []) = .ret (vInt n) := by kernel_rfl
theorem lex_loop (hs : (bl str).length ≤ 100000) : ∀ (m : Nat) (a : Int) (ts : List Tok) (s : St), (bl str).length - a < m → 0 ≤ a → a ≤ (bl str).length → ts.length ≤ 16384 → Cov str 0 ts a → LX s b str a ts 0 bad →
    Ok (fun f => p11_4 f str b 0) s (fun v _ => LexQ str v) := by
  have t3 : scal En 3 = true := by kernel_rfl
  have t23 : scal En 23 = true := by kernel_rfl
  have t24 : scal En 24 = true := by kernel_rfl
  have hbl : (bl str).length = str.data.toList.length := rfl
  intro m
  induction m with
  | zero => intro a ts s hm h0 ha; omega
  | succ m IH =>
    intro a ts s hm h0 ha hl hcov h
    refine Ok.step (fun f => p11_4_eq f str b 0) ?_
    simp only [Nat.zero_add]
    refine Ok.callP (Ok.load1 t24 h.c3) ?_
    rintro v s1 ⟨rfl, m1, c1, l1⟩
    have r1 : Reads s s1 := ⟨m1, c1, [⟨false, b + 1 + 3, 1⟩, ⟨false, b, 1⟩], l1, rfl⟩
    have h1 := h.reads r1
    refine Ok.t rfl (Ok.t rfl ?_)
    refine Ok.segLoad t3 h1.c1 fun s2 r2 => ?_
    have h2 := h1.reads r2
    refine Ok.t rfl ?_
    have h2' : LX ⟨s2.mem, s2.ctr, []⟩ b str a ts 0 bad := h2
    refine segReads (R := fun v => ∃ n : Nat, runV str (fun c => decide (c = 32)) a n ∧ v = .string (mkStr ((str.data.toList.drop a.toNat).take n))) (Ok.mono (run_ok space_ok ⟨s2.mem, s2.ctr, []⟩ h0 (by omega) (by omega) h2'.c0 h2'.c1) ?_) ?_
    · rintro v s' ⟨n, h1, h2, h3⟩
      exact ⟨⟨n, h1, h2⟩, h3⟩
    rintro v s3 sg ⟨n, hrun, rfl⟩ r3 hsg
    have h3 := h2.reads r3
    have hr1 := hrun.1
    have hxl : (mkStr (List.take n (List.drop a.toNat str.data.toList))).data.toList.length = n := by
      show (List.take n (List.drop a.toNat str.data.toList)).length = n
      rw [List.length_take, List.length_drop]; omega
    refine Ok.gdL (freeL_reads _ _ hsg _ fun d hd => by simp only [List.mem_singleton] at hd; subst hd; rfl) ?_
    refine Ok.t rfl ?_
    have hw1 : IntKind.i64.wrap (a + (n : Int)) = a + n := wrap_in _ (by omega) (by omega)
    simp only [intOf, strOf, hxl, Int.ofNat_eq_natCast, hw1]
    have h3' : LX ⟨s3.mem, s3.ctr, []⟩ b str a ts 0 bad := h3
    refine Ok.seg (setAt_ok h3' (a + n)) ?_
    rintro v s4 ⟨rfl, h4, _⟩
    refine Ok.gdL (by simp [freeL, show Nat.testBit 16383 8 = true from rfl, show Nat.testBit 16383 4 = true from rfl]) ?_
    have h4 : LX ⟨s4.mem, s4.ctr, s4.log ++ s3.log⟩ b str (a + n) ts 0 bad := h4
    have hr : ∀ a s s', LX s b str a ts 0 bad → Reads s s' → LX s' b str a ts 0 bad := fun a s s' h r => h.reads r
    have hcov' : Cov str 0 ts (a + n) := hcov.blank (by omega) fun i hi hj => by
      have := hrun.2.1 (i - a).toNat (by omega)
      rw [show a + ((i - a).toNat : Int) = i by omega] at this
      exact of_decide_eq_true this
    refine Ok.rd (hr _) h4 t3 h4.c1 fun s5 h5 => ?_
    refine Ok.t rfl ?_
    refine Ok.c (fun hend => ?_) (fun hend => ?_)
    · have hend := of_decide_eq_true hend
      simp only [intOf] at hend
      obtain ⟨l, g1, g2, g3, g4⟩ := h5
      refine Ok.callP (Ok.load1 t23 (g1.cell 2 rfl)) ?_
      rintro v s6 ⟨rfl, m6, c6, l6⟩
      refine frz_toks (g2.congr (by omega) fun j _ _ => by rw [m6]) fun s7 _ _ => ?_
      refine Ok.ret (.inr ⟨ts, hl, ?_, rfl⟩)
      rw [show ((bl str).length : Int) = a + n by omega]
      exact hcov'
    · have hend := of_decide_eq_false hend
      simp only [intOf] at hend
      refine Ok.rd (hr _) h5 t3 h5.c1 fun s6 h6 => ?_
      refine Ok.t rfl ?_
      have hpre : ts = [] → a + n = 0 ∨ byteI str (a + n - 1) = 32 := by
        rintro rfl
        by_cases hz : a + n = 0
        · exact .inl hz
        · exact .inr (hcov'.2 _ (by omega) (by omega))
      refine Ok.call (token_ok h6 ⟨by omega, by omega⟩ hs (by omega) hpre) ?_
      rintro v s7 ⟨rfl, hq⟩
      refine Ok.t rfl ?_
      rcases hq with ⟨a', err', bad', ts', he, hb1, hb2, h7⟩ | ⟨t, ht, h7⟩
      · refine Ok.rd (Inv := fun s => LX s b str a' ts' err' bad') (fun s s' h r => h.reads r) h7 t24 h7.c3 fun s8 h8 => ?_
        refine Ok.t rfl (Ok.f (decide_eq_false he) ?_)
        exact lex_err h8 he ⟨hb1, hb2⟩
      · have hcov2 := hcov'.snoc ht
        have h8' := h7
        refine Ok.rd (Inv := fun s => LX s b str t.en (ts ++ [t]) 0 bad) (fun s s' h r => h.reads r) h7 t24 h7.c3 fun s8 h8 => ?_
        refine Ok.t rfl (Ok.t rfl ?_)
        have h8'' := h8
        obtain ⟨l, g1, g2, g3, g4⟩ := h8
        obtain ⟨x, y, rfl⟩ := g2.len (ts.length + 1) (by omega) (by rw [toksC_length, List.length_append, List.length_singleton])
        refine Ok.rd (Inv := fun s => LX s b str t.en (ts ++ [t]) 0 bad) (fun s s' h r => h.reads r) h8'' t23 (g1.cell 2 rfl) fun s9 h9 => ?_
        simp only [len23]
        refine Ok.callP (Q1 := fun v s' => v = vInt ((ts.length + 1 : Nat) : Int) ∧ s' = s9) (Ok.ret ⟨rfl, rfl⟩) ?_
        rintro v s10 ⟨rfl, rfl⟩
        refine Ok.t rfl ?_
        obtain ⟨u1, u2, u3, _⟩ := ht
        refine Ok.c (fun _ => ?_) (fun hle => ?_)
        · refine Ok.call (fail_lx h9 6 _) ?_
          rintro v s11 ⟨rfl, h11, _⟩
          refine Ok.t rfl ?_
          exact lex_err (err := 6) (bad := a + n) (by simpa using h11) (by decide) (by omega)
        · have hle := of_decide_eq_false hle
          simp only [intOf, vInt] at hle
          exact IH t.en (ts ++ [t]) s10 (by omega) (by omega) u3 (by simp; omega) hcov2 h9
theorem lex_ok (s : St) (str : ByteArray) (hlib : Lib s.mem s.ctr) : Ok (fun f => callF En (runP En f) 11 [.string str]) s (fun v _ => LexQ str v) := by
  refine Ok.step (fun f => f11_eq f str) ?_
  refine Ok.c (fun _ => Ok.ret (.inl ⟨1, 0, by decide, by decide, by omega, rfl⟩)) (fun hle => ?_)
  have hle := of_decide_eq_false hle
  simp only [Int.ofNat_eq_natCast] at hle
  have hbl : (bl str).length = str.data.toList.length := rfl
  refine Ok.g rfl (Ok.g rfl (Ok.g rfl ?_))
  refine Ok.callP (Ok.new rfl) ?_
  rintro v s1 ⟨rfl, e1, e2, e3⟩
  refine Ok.t rfl ?_
  simp only [blk_itP, off_itP]
  exact lex_loop (bad := 0) (by omega) ((bl str).length + 1) 0 [] s1 (by omega) (Int.le_refl 0) (by omega) (by simp) ⟨Int.le_refl 0, fun i hi hj => by omega⟩ ⟨_, e2, Grow.nil _ _ _ _ _, by omega, hlib.congr (Nat.le_refl _) e3⟩
end
end Go.Proofs.YtmjbmbmnnephjaaGreatDoor
