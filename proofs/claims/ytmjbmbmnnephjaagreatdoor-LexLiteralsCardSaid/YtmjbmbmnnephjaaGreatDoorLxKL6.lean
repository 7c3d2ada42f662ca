/- The lexer's number and more, exact. -/
import Derived.Test.YtmjbmbmnnephjaaGreatDoorLxKL5
import Derived.Test.YtmjbmbmnnephjaaGreatDoorLxKL3
namespace Go.Proofs.YtmjbmbmnnephjaaGreatDoor
open Go Go.Ev Go.Proofs Go.Num
theorem lng_eq (c : UInt8) : isLong (Int.ofNat c.toNat) = lngB c := by
  unfold isLong isInside isLetter isDigit lngB
  have e1 : ∀ k : Nat, decide ((k : Int) ≤ Int.ofNat c.toNat) = decide (k ≤ c.toNat) := fun k => by rw [decide_eq_decide]; simp only [Int.ofNat_eq_natCast]; omega
  have e2 : ∀ k : Nat, decide (Int.ofNat c.toNat ≤ (k : Int)) = decide (c.toNat ≤ k) := fun k => by rw [decide_eq_decide]; simp only [Int.ofNat_eq_natCast]; omega
  have e3 : ∀ k : Nat, decide (Int.ofNat c.toNat = (k : Int)) = decide (c.toNat = k) := fun k => by rw [decide_eq_decide]; simp only [Int.ofNat_eq_natCast]; omega
  have h1 := e1 97; have h2 := e2 122; have h3 := e1 65; have h4 := e2 90; have h5 := e1 48; have h6 := e2 57; have h7 := e3 95; have h8 := e3 46
  simp only [Int.cast_ofNat_Int] at h1 h2 h3 h4 h5 h6 h7 h8
  rw [h1, h2, h3, h4, h5, h6, h7, h8]
theorem dig_eq (c : UInt8) : isDigit (Int.ofNat c.toNat) = isD c := by
  unfold isDigit isD
  have e1 : decide ((48 : Int) ≤ Int.ofNat c.toNat) = decide (48 ≤ c.toNat) := by rw [decide_eq_decide]; simp only [Int.ofNat_eq_natCast]; omega
  have e2 : decide (Int.ofNat c.toNat ≤ (57 : Int)) = decide (c.toNat ≤ 57) := by rw [decide_eq_decide]; simp only [Int.ofNat_eq_natCast]; omega
  rw [e1, e2]
section
variable {str : ByteArray}
theorem byteI_at {k i : Nat} {l : List UInt8} (h : (bl str).drop k = l) (hi : i < l.length) : byteI str ((k : Int) + i) = Int.ofNat (l[i]'hi).toNat := by
  subst h
  unfold byteI byteAt
  congr 1
  have e : ((k : Int) + i).toNat = k + i := by omega
  rw [e]
  show ((bl str).getD (k + i) 0).toNat = _
  rw [List.length_drop] at hi
  rw [List.getD_eq_getElem?_getD, List.getElem?_eq_getElem (by omega), Option.getD_some, List.getElem_drop]
/-- A run ends where its bytes end. -/
theorem runV_exact {P : Int → Bool} {k n : Nat} {tok r : List UInt8} (h : runV str P k n) (hd : (bl str).drop k = tok ++ r) (ht : ∀ c ∈ tok, P (Int.ofNat c.toNat) = true) (hr : ∀ c r', r = c :: r' → P (Int.ofNat c.toNat) = false) : n = tok.length := by
  obtain ⟨h1, h2, h3⟩ := h
  have hbl : (bl str).length = str.data.toList.length := rfl
  have hlen := congrArg List.length hd
  rw [List.length_drop, List.length_append] at hlen
  by_cases hlt : n < tok.length
  · have h4 := h3 (by omega)
    rw [byteI_at hd (by rw [List.length_append]; omega), List.getElem_append_left hlt] at h4
    rw [ht _ (List.getElem_mem hlt)] at h4
    cases h4
  · by_cases hgt : tok.length < n
    · have h4 := h2 tok.length hgt
      rw [byteI_at hd (by rw [List.length_append]; omega)] at h4
      cases r with
      | nil => simp only [List.length_nil] at hlen; omega
      | cons c r' =>
        rw [List.getElem_append_right (Nat.le_refl _)] at h4
        simp only [Nat.sub_self, List.getElem_cons_zero] at h4
        rw [hr c r' rfl] at h4
        cases h4
    · omega
theorem byteOf_head {k : Nat} {c : UInt8} {r : List UInt8} (h : (bl str).drop k = c :: r) : byteOf str (k : Int) = Int.ofNat c.toNat := by
  have hlen := congrArg List.length h
  rw [List.length_drop, List.length_cons] at hlen
  rw [byteOf_in str k (by omega)]
  have := byteI_at (i := 0) h (by simp)
  simpa using this
theorem byteOf_end {k : Nat} (h : (bl str).drop k = []) : byteOf str (k : Int) = 0 := by
  refine byteOf_out str k ?_
  have := congrArg List.length h
  rw [List.length_drop, List.length_nil] at this
  omega
theorem drop_next {k : Nat} {c : UInt8} {r : List UInt8} (h : (bl str).drop k = c :: r) : (bl str).drop (k + 1) = r := by
  rw [show k + 1 = 1 + k by omega, Nat.add_comm, ← List.drop_drop, h]; rfl
theorem drop_app {k : Nat} {l r : List UInt8} (h : (bl str).drop k = l ++ r) : (bl str).drop (k + l.length) = r := by
  rw [← List.drop_drop, h, List.drop_left]
theorem drop_le {k : Nat} {l : List UInt8} (h : (bl str).drop k = l) (h0 : l ≠ []) : k + l.length = (bl str).length := by
  have hlen := congrArg List.length h
  rw [List.length_drop] at hlen
  have : 0 < l.length := List.length_pos_iff.2 h0
  omega
theorem sub_at {k : Nat} {l r : List UInt8} (h : (bl str).drop k = l ++ r) : sub str k ((k + l.length : Nat) : Int) = mkStr l := by
  unfold sub
  have e1 : ((k : Nat) : Int).toNat = k := by omega
  have e2 : ((k + l.length : Nat) : Int).toNat - k = l.length := by omega
  rw [e1, e2, h, List.take_left']
  rfl
/-- What may stand behind a number: nothing, or a byte that does not go on with it. -/
def Stop (r : List UInt8) : Prop := ∀ c r', r = c :: r' → lngB c = false
variable {s : St} {b : Nat} {ts : List Tok} {err bad : Int}
theorem numberX [Gh] {k : Nat} {r : List UInt8} (t : Nat) (n : Int) (h : LX s b str (k : Int) ts err bad) (hd : (bl str).drop k = numT t n ++ r) (hr : Stop r) (hs : (bl str).length ≤ 1000000) :
    Ok (fun f => callF En (runP En f) 120 [.pointer (some ⟨b, 0, none⟩)]) s (fun v s' => v = .string (mkStr (numT t n)) ∧ LX s' b str (k : Int) ts err bad ∧ Ats b s s') := by
  have hne : numT t n ++ r ≠ [] := by obtain ⟨c, x, e, _⟩ := numT_head t n; rw [e]; simp
  have hlen := drop_le hd hne
  rw [List.length_append] at hlen
  obtain ⟨c0, x0, hB, hc0⟩ := numB_head t n
  have hlng : ∀ c ∈ numB t n, isLong (Int.ofNat c.toNat) = true := fun c hc => by rw [lng_eq]; exact List.all_eq_true.1 (numB_lng t n) c hc
  have hstop : ∀ c r', r = c :: r' → isLong (Int.ofNat c.toNat) = false := fun c r' e => by rw [lng_eq]; exact hr c r' e
  refine Ok.step (fun f => f120_eq f b) ?_
  refine Ok.call (peek_ok s b str k 0 h.c0 h.c1 (by omega) (by omega)) ?_
  rintro v s1 ⟨rfl, r1⟩
  refine Ok.t rfl ?_
  rw [Int.add_zero]
  have hsub := sub_at hd
  cases hsg : numS n with
  | true =>
    have e : numT t n = 45 :: numB t n := by rw [numT_split, hsg]; rfl
    rw [e] at hd hsub hlen ⊢
    have hb : byteOf str (k : Int) = Int.ofNat (45 : UInt8).toNat := byteOf_head hd
    rw [hb]
    refine Ok.t rfl ?_
    simp only [List.length_cons] at hlen hsub
    refine Ok.mono (number_4 (h.reads r1) 1 ⟨by omega, by omega⟩ hs) ?_
    rintro v s' ⟨⟨m, hm, rfl⟩, h2, a2⟩
    have hm' : runV str isLong ((k + 1 : Nat) : Int) m := by
      rw [show ((k + 1 : Nat) : Int) = (k : Int) + ((1 : Nat) : Int) by omega]; exact hm
    have := runV_exact hm' (drop_next hd) hlng hstop
    subst this
    refine ⟨?_, h2, (Reads.ats b r1).trans a2⟩
    rw [← hsub]
    congr 2
    omega
  | false =>
    have e : numT t n = numB t n := by rw [numT_split, hsg]; rfl
    rw [e] at hd hsub hlen ⊢
    have hb : byteOf str (k : Int) = Int.ofNat c0.toNat := byteOf_head (by rw [hd, hB]; rfl)
    have hcd := isD_iff.1 hc0
    rw [hb]
    refine Ok.f (decide_eq_false (by simp only [intOf, Int.ofNat_eq_natCast]; omega)) ?_
    refine Ok.mono (number_4 (h.reads r1) 0 ⟨by omega, by omega⟩ hs) ?_
    rintro v s' ⟨⟨m, hm, rfl⟩, h2, a2⟩
    have hm' : runV str isLong (k : Int) m := by
      have e0 : (k : Int) + ((0 : Nat) : Int) = (k : Int) := by omega
      rw [e0] at hm; exact hm
    have := runV_exact hm' hd hlng hstop
    subst this
    refine ⟨?_, h2, (Reads.ats b r1).trans a2⟩
    rw [← hsub]
    congr 2
end
end Go.Proofs.YtmjbmbmnnephjaaGreatDoor
/- The reference's Match: a value matches itself. -/
namespace Go.Ev
open Go
/-- A load, outside a drawn region. -/
theorem Ok.pl {E : Env} {t b o : Nat} {v : Value} {s : St} {Q : Value → St → Prop} {k : Nat → Value → Prog} (hs : scal E t = true) (h : Cell s.mem b o v)
    (hk : ∀ s1, Reads s s1 → Ok (fun f => k f v) s1 Q) : Ok (fun f => Ev.callP (k f) (loadT E t b o)) s Q := by
  refine Ok.callP (Ok.load1 hs h) ?_
  rintro w s1 ⟨rfl, e1, e2, e3⟩
  exact hk s1 ⟨e1, e2, [⟨false, b + 1 + o, 1⟩, ⟨false, b, 1⟩], e3, rfl⟩
end Go.Ev
namespace Go.Proofs.YtmjbmbmnnephjaaGreatDoor
open Go Go.Ev Go.Proofs
/-- A value of the language, as a tree of lists. -/
inductive VF : Value → Prop
  | mk {t : Int} {n sy l : List Value} : n.length ≤ 9223372036854775807 → sy.length ≤ 9223372036854775807 → l.length ≤ 9223372036854775807 → (∀ x, x ∈ n → ∃ i, x = .int .i64 i) → (∀ x, x ∈ sy → ∃ b, x = .string b) → (∀ x, x ∈ l → VF x) →
      VF (.agg ⟨[.int .i64 t, lstV n, lstV sy, lstV l]⟩)
def v4 (t : Int) (n sy l : List Value) : List Value := [.int .i64 t, lstV n, lstV sy, lstV l]
theorem elems_lst (l : List Value) : elems (lstV l) = l := rfl
theorem atq {l : List Value} {i : Nat} {x : Value} (h : l[i]? = some x) : at_ l i = x := by
  induction l generalizing i with
  | nil => simp at h
  | cons a l ih =>
    cases i with
    | zero => simpa [at_] using h
    | succ i => simp only [List.getElem?_cons_succ] at h; exact ih h
theorem atmem {l : List Value} {i : Nat} (h : i < l.length) : at_ l i ∈ l := by
  rw [atq (List.getElem?_eq_getElem h)]
  exact List.getElem_mem h
/-- Two rows of a value, side by side. -/
structure MI (s : St) (a b : Nat) (vs : List Value) : Prop where
  ra : Row s.mem a vs
  rb : Row s.mem b vs
  la : a + 1 + vs.length ≤ s.ctr
  lb : b + 1 + vs.length ≤ s.ctr
theorem MI.fresh {s s' : St} {a b : Nat} {vs : List Value} (h : MI s a b vs) (f : Fresh s s') : MI s' a b vs :=
  ⟨h.ra.congr fun j _ h2 => f.2 j (by have := h.la; omega), h.rb.congr fun j _ h2 => f.2 j (by have := h.lb; omega), by have := h.la; have := f.1; omega, by have := h.lb; have := f.1; omega⟩
def MQ (s : St) (v : Value) (s' : St) : Prop := v = .bool true ∧ Fresh s s'
theorem Ok.mq {s s1 : St} {p : Nat → Prog} (f : Fresh s s1) (h : Ok p s1 (MQ s1)) : Ok p s1 (MQ s) := Ok.mono h fun _ _ q => ⟨q.1, f.trans q.2⟩
theorem hd_int {l : List Value} (h : ∀ x, x ∈ l → ∃ i, x = .int .i64 i) : hdOk 1 l = true := by
  cases l with
  | nil => rfl
  | cons a l => obtain ⟨i, rfl⟩ := h a (List.mem_cons_self ..); rfl
theorem hd_str {l : List Value} (h : ∀ x, x ∈ l → ∃ b, x = .string b) : hdOk 1 l = true := by
  cases l with
  | nil => rfl
  | cons a l => obtain ⟨i, rfl⟩ := h a (List.mem_cons_self ..); rfl
theorem hd_vf {l : List Value} (h : ∀ x, x ∈ l → VF x) : hdOk 4 l = true := by
  cases l with
  | nil => rfl
  | cons a l => obtain ⟨_, _, _, _, _, _⟩ := h a (List.mem_cons_self ..); rfl
section
variable {t : Int} {n sy l : List Value} {a b : Nat}
theorem s28 : scal En 28 = true := by kernel_rfl
theorem s29 : scal En 29 = true := by kernel_rfl
theorem s30 : scal En 30 = true := by kernel_rfl
theorem s3' : scal En 3 = true := by kernel_rfl
theorem match14 (hl : l.length ≤ 9223372036854775807) (hv : ∀ x, x ∈ l → ∀ s, Ok (fun f => callF En (runP En f) 18 [x, x]) s (MQ s)) (hf : ∀ x, x ∈ l → VF x) : ∀ (m i : Nat) (s : St), i + m = l.length → MI s a b (v4 t n sy l) → Ok (fun f => p18_14 f a 0 b 0 (i : Int)) s (MQ s) := by
  intro m
  induction m with
  | zero =>
    intro i s hm h
    refine Ok.step (fun f => p18_14_eq f a 0 b 0 i) ?_
    refine Ok.pl s30 (h.ra.cell 3 rfl) fun s1 r1 => ?_
    refine Ok.t rfl ?_
    refine Ok.f (decide_eq_false (by simp only [elems_lst, Int.ofNat_eq_natCast]; omega)) ?_
    exact Ok.ret ⟨rfl, r1.fresh⟩
  | succ m ih =>
    intro i s hm h
    have hi : i < l.length := by omega
    have hmem := atmem hi
    have hx := hf _ hmem
    have hcall := hv _ hmem
    have b1 : decide ((0 : Int) ≤ (i : Int)) = true := decide_eq_true (by omega)
    have b2 : ((Nat.ble (Nat.succ (Int.toNat (i : Int))) (List.length l)) && Bool.true && (hdOk 4 l)) = true := by
      rw [hd_vf hf, Bool.and_true, Bool.and_true]
      exact Nat.ble_eq_true_of_le (by simp only [Int.toNat_natCast]; omega)
    have hw1 : IntKind.i64.wrap ((i : Int) + 1) = ((i + 1 : Nat) : Int) := by rw [wrap_in _ (by omega) (by omega)]; omega
    refine Ok.step (fun f => p18_14_eq f a 0 b 0 i) ?_
    refine Ok.pl s30 (h.ra.cell 3 rfl) fun s1 r1 => ?_
    refine Ok.t rfl ?_
    refine Ok.t (decide_eq_true (by simp only [elems_lst, Int.ofNat_eq_natCast]; omega)) ?_
    refine Ok.segLoad s30 ((h.ra.cell 3 rfl).reads r1) fun s2 r2 => ?_
    have r2 := r1.trans r2
    simp only [elems_lst, Int.toNat_natCast]
    simp only [Int.toNat_natCast] at b2
    generalize hxe : at_ l i = x at *
    obtain ⟨_, _, _, _, _, _⟩ := hx
    refine Ok.t rfl (Ok.t b1 (Ok.t b2 (Ok.t rfl (Ok.t rfl ?_))))
    refine Ok.segLoad s30 ((h.rb.cell 3 rfl).reads r2) fun s3 r3 => ?_
    have r3 := r2.trans r3
    refine Ok.gdL (by kernel_rfl) ?_
    simp only [elems_lst, hxe]
    refine Ok.t rfl (Ok.t b1 (Ok.t b2 (Ok.t rfl (Ok.t rfl ?_))))
    refine Ok.seg (hcall _) ?_
    rintro w s4 ⟨rfl, f4⟩
    refine Ok.gdL (by simp only [freeL]; rfl) ?_
    refine Ok.t rfl (Ok.f rfl ?_)
    rw [hw1]
    have f3 : Fresh s ⟨s4.mem, s4.ctr, s4.log ++ s3.log⟩ := r3.fresh.trans ⟨f4.1, f4.2⟩
    exact Ok.mq f3 (ih (i + 1) _ (by omega) (h.fresh f3))
theorem match9 (hl : l.length ≤ 9223372036854775807) (hv : ∀ x, x ∈ l → ∀ s, Ok (fun f => callF En (runP En f) 18 [x, x]) s (MQ s)) (hf : ∀ x, x ∈ l → VF x) (hy : sy.length ≤ 9223372036854775807) (hs : ∀ x, x ∈ sy → ∃ b, x = .string b) : ∀ (m i : Nat) (s : St), i + m = sy.length → MI s a b (v4 t n sy l) → Ok (fun f => p18_9 f a 0 b 0 (i : Int)) s (MQ s) := by
  intro m
  induction m with
  | zero =>
    intro i s hm h
    refine Ok.step (fun f => p18_9_eq f a 0 b 0 i) ?_
    refine Ok.pl s29 (h.ra.cell 2 rfl) fun s1 r1 => ?_
    refine Ok.t rfl ?_
    refine Ok.f (decide_eq_false (by simp only [elems_lst, Int.ofNat_eq_natCast]; omega)) ?_
    exact Ok.mq r1.fresh (match14 hl hv hf l.length 0 s1 (by omega) (h.fresh r1.fresh))
  | succ m ih =>
    intro i s hm h
    have hi : i < sy.length := by omega
    obtain ⟨x, hx⟩ := hs _ (atmem hi)
    have b1 : decide ((0 : Int) ≤ (i : Int)) = true := decide_eq_true (by omega)
    have b2 : ((Nat.ble (Nat.succ i) (List.length sy)) && Bool.true && (hdOk 1 sy)) = true := by
      rw [hd_str hs, Bool.and_true, Bool.and_true]
      exact Nat.ble_eq_true_of_le (by omega)
    have hw1 : IntKind.i64.wrap ((i : Int) + 1) = ((i + 1 : Nat) : Int) := by rw [wrap_in _ (by omega) (by omega)]; omega
    refine Ok.step (fun f => p18_9_eq f a 0 b 0 i) ?_
    refine Ok.pl s29 (h.ra.cell 2 rfl) fun s1 r1 => ?_
    refine Ok.t rfl ?_
    refine Ok.t (decide_eq_true (by simp only [elems_lst, Int.ofNat_eq_natCast]; omega)) ?_
    refine Ok.segLoad s29 ((h.ra.cell 2 rfl).reads r1) fun s2 r2 => ?_
    have r2 := r1.trans r2
    simp only [elems_lst, Int.toNat_natCast, hx]
    refine Ok.t rfl (Ok.t b1 (Ok.t b2 (Ok.t rfl (Ok.t rfl ?_))))
    refine Ok.segLoad s29 ((h.rb.cell 2 rfl).reads r2) fun s3 r3 => ?_
    have r3 := r2.trans r3
    refine Ok.gdL (by kernel_rfl) ?_
    simp only [elems_lst, hx]
    refine Ok.t rfl (Ok.t b1 (Ok.t b2 (Ok.t rfl (Ok.t rfl (Ok.f ?_ ?_)))))
    · rw [beqB_eq]; simp
    rw [hw1]
    exact Ok.mq r3.fresh (ih (i + 1) _ (by omega) (h.fresh r3.fresh))
theorem match4 (hl : l.length ≤ 9223372036854775807) (hv : ∀ x, x ∈ l → ∀ s, Ok (fun f => callF En (runP En f) 18 [x, x]) s (MQ s)) (hf : ∀ x, x ∈ l → VF x) (hy : sy.length ≤ 9223372036854775807) (hs : ∀ x, x ∈ sy → ∃ b, x = .string b)
    (hn : n.length ≤ 9223372036854775807) (hi : ∀ x, x ∈ n → ∃ i, x = .int .i64 i) : ∀ (m i : Nat) (s : St), i + m = n.length → MI s a b (v4 t n sy l) → Ok (fun f => p18_4 f a 0 b 0 (i : Int)) s (MQ s) := by
  intro m
  induction m with
  | zero =>
    intro i s hm h
    refine Ok.step (fun f => p18_4_eq f a 0 b 0 i) ?_
    refine Ok.pl s28 (h.ra.cell 1 rfl) fun s1 r1 => ?_
    refine Ok.t rfl ?_
    refine Ok.f (decide_eq_false (by simp only [elems_lst, Int.ofNat_eq_natCast]; omega)) ?_
    exact Ok.mq r1.fresh (match9 hl hv hf hy hs sy.length 0 s1 (by omega) (h.fresh r1.fresh))
  | succ m ih =>
    intro i s hm h
    have hin : i < n.length := by omega
    obtain ⟨x, hx⟩ := hi _ (atmem hin)
    have b1 : decide ((0 : Int) ≤ (i : Int)) = true := decide_eq_true (by omega)
    have b2 : ((Nat.ble (Nat.succ i) (List.length n)) && Bool.true && (hdOk 1 n)) = true := by
      rw [hd_int hi, Bool.and_true, Bool.and_true]
      exact Nat.ble_eq_true_of_le (by omega)
    have hw1 : IntKind.i64.wrap ((i : Int) + 1) = ((i + 1 : Nat) : Int) := by rw [wrap_in _ (by omega) (by omega)]; omega
    refine Ok.step (fun f => p18_4_eq f a 0 b 0 i) ?_
    refine Ok.pl s28 (h.ra.cell 1 rfl) fun s1 r1 => ?_
    refine Ok.t rfl ?_
    refine Ok.t (decide_eq_true (by simp only [elems_lst, Int.ofNat_eq_natCast]; omega)) ?_
    refine Ok.segLoad s28 ((h.ra.cell 1 rfl).reads r1) fun s2 r2 => ?_
    have r2 := r1.trans r2
    simp only [elems_lst, Int.toNat_natCast, hx]
    refine Ok.t rfl (Ok.t b1 (Ok.t b2 (Ok.t rfl (Ok.t rfl ?_))))
    refine Ok.segLoad s28 ((h.rb.cell 1 rfl).reads r2) fun s3 r3 => ?_
    have r3 := r2.trans r3
    refine Ok.gdL (by kernel_rfl) ?_
    simp only [elems_lst, hx]
    refine Ok.t rfl (Ok.t b1 (Ok.t b2 (Ok.t rfl (Ok.t rfl (Ok.f (by simp) ?_)))))
    rw [hw1]
    exact Ok.mq r3.fresh (ih (i + 1) _ (by omega) (h.fresh r3.fresh))
end
theorem match_ok {v : Value} (h : VF v) : ∀ s, Ok (fun f => callF En (runP En f) 18 [v, v]) s (MQ s) := by
  induction h with
  | @mk t n sy l hn hy hl hi hs hf ih =>
    intro s
    refine Ok.step (fun f => f18_eq f t n sy l t n sy l) ?_
    refine Ok.g rfl ?_
    refine Ok.callP (Ok.newF (vs := v4 t n sy l) rfl) ?_
    rintro w s1 ⟨rfl, c1, g1, g2, g3, _⟩
    refine Ok.t rfl (Ok.g rfl ?_)
    refine Ok.callP (Ok.newF (vs := v4 t n sy l) rfl) ?_
    rintro w s2 ⟨rfl, c2, k1, k2, k3, _⟩
    refine Ok.t rfl ?_
    have hr1 : Row s1.mem s.ctr (v4 t n sy l) := ⟨⟨_, _, _, _, g1⟩, g2⟩
    have hr2 : Row s2.mem s1.ctr (v4 t n sy l) := ⟨⟨_, _, _, _, k1⟩, k2⟩
    have m2 : MI s2 s.ctr s1.ctr (v4 t n sy l) := ⟨hr1.congr fun j _ h2 => k3 j (by simp only [v4, List.length_cons, List.length_nil] at h2; omega), hr2, by simp only [v4, List.length_cons, List.length_nil]; omega, by simp only [v4, List.length_cons, List.length_nil]; omega⟩
    have f2 : Fresh s s2 := ⟨by omega, fun k hk => by rw [k3 k (by omega), g3 k hk]⟩
    simp only [show ∀ c, blkOf (itP c) = c from fun _ => rfl, show ∀ c, offOf (itP c) = 0 from fun _ => rfl]
    refine Ok.pl s3' (m2.ra.cell 0 rfl) fun s3 r3 => ?_
    refine Ok.t rfl ?_
    have f3 := f2.trans r3.fresh
    have m3 := m2.fresh r3.fresh
    refine Ok.pl s3' (m3.rb.cell 0 rfl) fun s4 r4 => ?_
    have f4 := f3.trans r4.fresh
    have m4 := m3.fresh r4.fresh
    refine Ok.t rfl (Ok.f (by simp) ?_)
    refine Ok.pl s28 (m4.ra.cell 1 rfl) fun s5 r5 => ?_
    have f5 := f4.trans r5.fresh
    have m5 := m4.fresh r5.fresh
    refine Ok.t rfl ?_
    refine Ok.pl s28 (m5.rb.cell 1 rfl) fun s6 r6 => ?_
    have f6 := f5.trans r6.fresh
    have m6 := m5.fresh r6.fresh
    refine Ok.t rfl (Ok.f (by simp) ?_)
    refine Ok.pl s29 (m6.ra.cell 2 rfl) fun s7 r7 => ?_
    have f7 := f6.trans r7.fresh
    have m7 := m6.fresh r7.fresh
    refine Ok.t rfl ?_
    refine Ok.pl s29 (m7.rb.cell 2 rfl) fun s8 r8 => ?_
    have f8 := f7.trans r8.fresh
    have m8 := m7.fresh r8.fresh
    refine Ok.t rfl (Ok.f (by simp) ?_)
    refine Ok.pl s30 (m8.ra.cell 3 rfl) fun s9 r9 => ?_
    have f9 := f8.trans r9.fresh
    have m9 := m8.fresh r9.fresh
    refine Ok.t rfl ?_
    refine Ok.pl s30 (m9.rb.cell 3 rfl) fun s10 r10 => ?_
    have f10 := f9.trans r10.fresh
    have m10 := m9.fresh r10.fresh
    refine Ok.t rfl (Ok.f (by simp) ?_)
    exact Ok.mq f10 (match4 hl ih hf hy hs hn hi n.length 0 s10 (by omega) m10)
end Go.Proofs.YtmjbmbmnnephjaaGreatDoor
/- The lexer's more, exact. -/
namespace Go.Proofs.YtmjbmbmnnephjaaGreatDoor
open Go Go.Ev Go.Proofs Go.Num
theorem t3L : scal En 3 = true := by kernel_rfl
theorem t9L : scal En 9 = true := by kernel_rfl
section
variable {str : ByteArray} {s : St} {b : Nat} {ts : List Tok} {err bad : Int}
/-- What follows is looked at by itself: it is no bools. -/
theorem more_yX [Gh] {k : Nat} {y r : List UInt8} (h : LX s b str (k : Int) ts err bad) (hd : (bl str).drop (k + 1) = y ++ r) (hy : ∀ c ∈ y, lngB c = true) (hr : Stop r) (hb : ∀ c, y.getLast? = some c → c.toNat ≠ 98) (hk : k + 1 ≤ (bl str).length) (hs : (bl str).length ≤ 1000000) (s0 : St) (h0 : Ats b s0 s) (a1 : Int) (ha1 : a1 = (k : Int) + 1) :
    Ok (fun f => Ev.callP (fun v9 => cnd (Ev.callP (fun _ => (Prog.call (callF En (runP En f) 32 [(Value.pointer (Option.some (Addr.mk (blkOf v9) (offOf v9) Option.none))), (Value.func (Fn.func 116) ⟨[]⟩ ⟨[]⟩)]) fun v11 =>
                                                  (cnd
                                                    (Prog.call (callF En (runP En f) 117 [(Value.string (strOf v11)), (Value.string (mkStr [98]))]) fun v12 =>
                                                      (cnd
                                                        (cnd
                                                          (cnd
                                                            (Prog.call (callF En (runP En f) 118 [(Value.string (strOf (at_ (tupOf v12) 0))), (Value.string (mkStr [48, 49]))]) fun v13 =>
                                                              (cnd
                                                                (cnd
                                                                  (Prog.ret (Value.bool Bool.false))
                                                                  (Ev.callP (fun _ =>
                                                                    (Prog.ret (Value.bool Bool.true)))
                                                                    (storeT En 3 b 1 (Value.int IntKind.i64 a1)))
                                                                  (beqB (Array.toList (ByteArray.data (strOf v13))) []))
                                                                Prog.fail
                                                                (okK Kd.str v13)))
                                                            (Ev.callP (fun _ =>
                                                              (Prog.ret (Value.bool Bool.true)))
                                                              (storeT En 3 b 1 (Value.int IntKind.i64 a1)))
                                                            (Bool.not (beqB (Array.toList (ByteArray.data (strOf (at_ (tupOf v12) 0)))) [])))
                                                          (Ev.callP (fun _ =>
                                                            (Prog.ret (Value.bool Bool.true)))
                                                            (storeT En 3 b 1 (Value.int IntKind.i64 a1)))
                                                          (boolOf (at_ (tupOf v12) 1)))
                                                        Prog.fail
                                                        ((isTupV v12) && (okNs ((Nm.one Kd.str) :: ((Nm.one Kd.bool) :: [])) (tupOf v12)))))
                                                    Prog.fail
                                                    (okK Kd.str v11))))
                                                (storeT En 58 (blkOf v9) (offOf v9) (Value.agg ⟨((Value.string str) :: ((Value.int IntKind.i64 a1) :: []))⟩)))
                                              Prog.fail
                                              (isPt v9))
                                            (Prog.newH (Hdr.mk 2 58 Bool.false Bool.true Bool.true 0 Bool.false Bool.false []) ((Value.string (mkStr [])) :: ((Value.int IntKind.i64 (0 : Int)) :: [])) (fun z8 => (Prog.ret (itP z8))))) s (fun v s' => v = .bool true ∧ LX s' b str ((k + 1 : Nat) : Int) ts err bad ∧ Ats b s0 s') := by
  subst ha1
  have hk1 : ((k + 1 : Nat) : Int) = (k : Int) + 1 := by omega
  refine Ok.callP (Ok.new rfl) ?_
  rintro v s1 ⟨rfl, e1, e2, e3⟩
  have f1 : Fresh s s1 := ⟨by omega, e3⟩
  refine Ok.t rfl ?_
  simp only [blk_itP, off_itP]
  refine Ok.callP (Ok.storeRow (n := 2) (ws := [Value.string str, Value.int IntKind.i64 ((k : Int) + 1)]) (by kernel_rfl) e2 rfl rfl rfl) ?_
  rintro v s2 ⟨rfl, c2, g2, k2⟩
  have f2 : Fresh s s2 := ⟨by rw [c2, e1]; omega, fun k hk => by rw [k2 k (.inl (by omega)), e3 k hk]⟩
  refine Ok.call (run_ok long_ok s2 (by omega) (by simp only [bl] at hk; omega) (by simp only [bl] at hs; omega) (g2.cell 0 rfl) (g2.cell 1 rfl)) ?_
  rintro v s3 ⟨m, hm, rfl, r3⟩
  have f3 := f2.trans (Go.Ev.Reads.fresh r3)
  refine Ok.t rfl ?_
  have hm' : runV str isLong ((k + 1 : Nat) : Int) m := by rw [hk1]; exact hm
  have := runV_exact hm' hd (fun c hc => by rw [lng_eq]; exact hy c hc) (fun c r' e => by rw [lng_eq]; exact hr c r' e)
  subst this
  have ey : mkStr (List.take y.length (List.drop ((k : Int) + 1).toNat str.data.toList)) = mkStr y := by
    have : ((k : Int) + 1).toNat = k + 1 := by omega
    rw [this, show List.drop (k + 1) str.data.toList = y ++ r from hd, List.take_left']
    rfl
  rw [ey]
  have hyl : y.length ≤ 1000000 := by
    have := congrArg List.length hd
    rw [List.length_drop, List.length_append] at this
    omega
  refine Ok.call (cutSuffix_ok s3 (mkStr y) _ (by show y.length ≤ _; omega)) ?_
  rintro v s4 ⟨rfl, rfl⟩
  simp only [bl_mk]
  refine Ok.t rfl ?_
  have hsf : sufB y [98] = false := sufB_no fun c hc e => hb c hc (by rw [e]; rfl)
  rw [hsf]
  refine Ok.f rfl ?_
  refine Ok.callP (setAt_ok (h.fresh f3) _) ?_
  rintro v s5 ⟨rfl, h5, c5, f5⟩
  rw [hk1]
  exact Ok.ret ⟨rfl, h5, h0.trans ((Fresh.ats b f3).trans (setAt_ats c5 f5))⟩
/-- Behind the last number nothing stands. -/
theorem moreX_end [Gh] {k : Nat} (h : LX s b str (k : Int) ts err bad) (hd : (bl str).drop k = []) (hk : k ≤ (bl str).length) (hs : (bl str).length ≤ 1000000) :
    Ok (fun f => callF En (runP En f) 122 [.pointer (some ⟨b, 0, none⟩)]) s (fun v s' => v = .bool false ∧ LX s' b str (k : Int) ts err bad ∧ Ats b s s') := by
  refine Ok.step (fun f => f122_eq f b) ?_
  refine Ok.step (fun f => p122_2_eq f b 0) ?_
  refine Ok.call (peek_ok s b str k 0 h.c0 h.c1 (by omega) (by omega)) ?_
  rintro v s1 ⟨rfl, r1⟩
  rw [Int.add_zero, byteOf_end hd]
  exact Ok.t rfl (Ok.f rfl (Ok.t rfl (Ok.ret ⟨rfl, h.reads r1, Reads.ats b r1⟩)))
/-- Behind a blank the next number stands. -/
theorem moreX_next [Gh] {k : Nat} {r : List UInt8} (t : Nat) (n : Int) (h : LX s b str (k : Int) ts err bad) (hd : (bl str).drop k = 32 :: (numT t n ++ r)) (hr : Stop r) (hs : (bl str).length ≤ 1000000) :
    Ok (fun f => callF En (runP En f) 122 [.pointer (some ⟨b, 0, none⟩)]) s (fun v s' => v = .bool true ∧ LX s' b str ((k + 1 : Nat) : Int) ts err bad ∧ Ats b s s') := by
  have hlen := drop_le hd (by simp)
  rw [List.length_cons] at hlen
  have hd1 : (bl str).drop (k + 1) = numT t n ++ r := drop_next hd
  obtain ⟨c0, x0, hB, hc0⟩ := numB_head t n
  have hcd := isD_iff.1 hc0
  refine Ok.step (fun f => f122_eq f b) ?_
  refine Ok.step (fun f => p122_2_eq f b 0) ?_
  refine Ok.call (peek_ok s b str k 0 h.c0 h.c1 (by omega) (by omega)) ?_
  rintro v s1 ⟨rfl, r1⟩
  rw [Int.add_zero, byteOf_head hd]
  refine Ok.t rfl (Ok.t rfl ?_)
  have h1 := h.reads r1
  have a1 := Reads.ats b r1
  rw [show IntKind.wrap IntKind.i64 ((0 : Int) + 1) = 1 from rfl]
  refine Ok.step (fun f => p122_2_eq f b 1) ?_
  refine Ok.call (peek_ok s1 b str k 1 h1.c0 h1.c1 (by omega) (by omega)) ?_
  rintro v s2 ⟨rfl, r2⟩
  have h2 := h1.reads r2
  have a2 := a1.trans (Reads.ats b r2)
  have ek1 : (k : Int) + 1 = ((k + 1 : Nat) : Int) := by omega
  rw [ek1]
  have hw : IntKind.wrap IntKind.i64 ((intOf (Value.int IntKind.i64 (k : Int))) + (1 : Int)) = (k : Int) + 1 := by
    simp only [intOf]; exact wrap_in _ (by omega) (by omega)
  have hw2 : IntKind.wrap IntKind.i64 ((1 : Int) + 1) = 2 := rfl
  -- the byte behind the blank
  have tail : ∀ (q : UInt8) (z : List UInt8), numT t n = q :: z → (isD q = true ∨ q = 45) → byteOf str ((k + 1 : Nat) : Int) = Int.ofNat q.toNat := fun q z e _ => byteOf_head (by rw [hd1, e]; rfl)
  cases hsg : numS n with
  | true =>
    have e : numT t n = 45 :: numB t n := by rw [numT_split, hsg]; rfl
    rw [tail 45 (numB t n) e (.inr rfl)]
    refine Ok.t rfl (Ok.f rfl (Ok.f rfl ?_))
    refine Ok.pl t3L h2.c1 fun s3 r3 => ?_
    have h3 := h2.reads r3
    have a3 := a2.trans (Reads.ats b r3)
    refine Ok.t rfl ?_
    refine Ok.call (peek_ok s3 b str k 1 h3.c0 h3.c1 (by omega) (by omega)) ?_
    rintro v s4 ⟨rfl, r4⟩
    have h4 := h3.reads r4
    have a4 := a3.trans (Reads.ats b r4)
    rw [ek1, tail 45 (numB t n) e (.inr rfl)]
    refine Ok.t rfl ?_
    refine Ok.call (digit_ok s4 _) ?_
    rintro v s5 ⟨rfl, rfl⟩
    refine Ok.t rfl (Ok.t rfl (Ok.f rfl ?_))
    rw [hw2]
    refine Ok.call (peek_ok s5 b str k 2 h4.c0 h4.c1 (by omega) (by omega)) ?_
    rintro v s6 ⟨rfl, r6⟩
    have h6 := h4.reads r6
    have a6 := a4.trans (Reads.ats b r6)
    have hd2 : (bl str).drop (k + 2) = numB t n ++ r := drop_next (k := k + 1) (by rw [hd1, e]; rfl)
    rw [show (k : Int) + 2 = ((k + 2 : Nat) : Int) by omega, byteOf_head (c := c0) (r := x0 ++ r) (by rw [hd2, hB]; rfl)]
    refine Ok.t rfl ?_
    refine Ok.call (digit_ok s6 _) ?_
    rintro v s7 ⟨rfl, rfl⟩
    refine Ok.t rfl ?_
    simp only [boolOf, intOf, dig_eq, hc0]
    refine Ok.f rfl ?_
    refine Ok.pl t9L h6.c0 fun s8 r8 => ?_
    refine Ok.t rfl (Ok.g rfl ?_)
    exact more_yX (y := []) (r := numT t n ++ r) (h6.reads r8) hd1 (fun c hc => by cases hc) (fun c r' e' => by rw [e] at e'; simp only [List.cons_append, List.cons.injEq] at e'; rw [← e'.1]; rfl) (fun c hc => by cases hc) (by omega) hs s (a6.trans (Reads.ats b r8)) _ hw
  | false =>
    have e : numT t n = numB t n := by rw [numT_split, hsg]; rfl
    have hq := tail c0 x0 (by rw [e, hB]) (.inl hc0)
    rw [hq]
    refine Ok.t rfl (Ok.f (decide_eq_false (by simp only [intOf, Int.ofNat_eq_natCast]; omega)) (Ok.f rfl ?_))
    refine Ok.pl t3L h2.c1 fun s3 r3 => ?_
    have h3 := h2.reads r3
    have a3 := a2.trans (Reads.ats b r3)
    refine Ok.t rfl ?_
    refine Ok.call (peek_ok s3 b str k 1 h3.c0 h3.c1 (by omega) (by omega)) ?_
    rintro v s4 ⟨rfl, r4⟩
    have h4 := h3.reads r4
    have a4 := a3.trans (Reads.ats b r4)
    rw [ek1, hq]
    refine Ok.t rfl ?_
    refine Ok.call (digit_ok s4 _) ?_
    rintro v s5 ⟨rfl, rfl⟩
    refine Ok.t rfl ?_
    simp only [boolOf, intOf, dig_eq, hc0]
    refine Ok.f rfl ?_
    refine Ok.pl t9L h4.c0 fun s8 r8 => ?_
    refine Ok.t rfl (Ok.g rfl ?_)
    exact more_yX (y := numB t n) (r := r) (h4.reads r8) (by rw [hd1, e]) (fun c hc => List.all_eq_true.1 (numB_lng t n) c hc) hr (fun c hc => numB_last t n hc) (by omega) hs s (a4.trans (Reads.ats b r8)) _ hw
end
end Go.Proofs.YtmjbmbmnnephjaaGreatDoor
/- The lexer: value, of a row. -/
namespace Go.Proofs.YtmjbmbmnnephjaaGreatDoor
open Go Go.Ev Go.Proofs
noncomputable def body119 (f : Nat) (b : Nat) (p t : Int) (n sy l : Value) : Prog := runP En f 119 (frameTm 34 [.pointer (some ⟨b, 0, none⟩), .int .i64 p, .agg ⟨[.int .i64 t, n, sy, l]⟩]) [.code (cB 119)] [] none
theorem f119_frz (f : Nat) (b : Nat) (p t : Int) (n sy l : Value) : callF En (runP En f) 119 [.pointer (some ⟨b, 0, none⟩), .int .i64 p, .agg ⟨[.int .i64 t, n, sy, l]⟩] =
    frzL En 20 2 n fun n => frzL En 20 9 sy fun sy => frzL En 20 32 l fun l => body119 f b p t n sy l := by kernel_rfl
theorem f119_lst (f : Nat) (b : Nat) (p t : Int) (n sy l : List Value) : callF En (runP En f) 119 [.pointer (some ⟨b, 0, none⟩), .int .i64 p, .agg ⟨[.int .i64 t, lstV n, lstV sy, lstV l]⟩] = body119 f b p t (lstV n) (lstV sy) (lstV l) := by kernel_rfl
section
variable {s : St} {b : Nat} {str : ByteArray} {a : Int} {ts : List Tok} {err bad : Int}
theorem valueN_ok [Gh] {lo : Nat} {v : Value} {n : List Value} (h : LXh s.mem lo b str a ts err bad) (hlo : lo ≤ s.ctr) (hg : Grow s.mem lo s.ctr 2 1 n v) (p : Int) (hp : 0 ≤ p ∧ p ≤ a ∧ a ≤ (bl str).length) (t : Int) (hn : n.length ≤ 1000000) (hl : ts.length ≤ 20000) :
    Ok (fun f => callF En (runP En f) 119 [.pointer (some ⟨b, 0, none⟩), .int .i64 p, .agg ⟨[.int .i64 t, v, .slice none 0 0, .slice none 0 0]⟩]) s
      (fun v s' => v = .tuple ⟨[]⟩ ∧ LX s' b str a (ts ++ [⟨1, p, a, sub str p a, atomT t n.length, n, [], []⟩]) err bad) := by
  simp only [f119_frz]
  refine Ok.frzL (by kernel_rfl) sl2 (by kernel_rfl) hg fun s' c1 f1 => ?_
  refine Ok.frzNil (Ok.frzNil ?_)
  simp only [← f119_lst]
  have h' : LX s' b str a ts err bad := h.frame (by omega) f1
  exact value_ok h' p hp t n [] [] hn hl
theorem valueS_ok [Gh] {lo : Nat} {v : Value} {n : List Value} (h : LXh s.mem lo b str a ts err bad) (hlo : lo ≤ s.ctr) (hg : Grow s.mem lo s.ctr 9 1 n v) (p : Int) (hp : 0 ≤ p ∧ p ≤ a ∧ a ≤ (bl str).length) (t : Int) (hn : n.length ≤ 1000000) (hl : ts.length ≤ 20000) :
    Ok (fun f => callF En (runP En f) 119 [.pointer (some ⟨b, 0, none⟩), .int .i64 p, .agg ⟨[.int .i64 t, .slice none 0 0, v, .slice none 0 0]⟩]) s
      (fun v s' => v = .tuple ⟨[]⟩ ∧ LX s' b str a (ts ++ [⟨1, p, a, sub str p a, atomT t n.length, [], n, []⟩]) err bad) := by
  simp only [f119_frz]
  refine Ok.frzNil ?_
  refine Ok.frzL (by kernel_rfl) sl9 (by kernel_rfl) hg fun s' c1 f1 => ?_
  refine Ok.frzNil ?_
  simp only [← f119_lst]
  have h' : LX s' b str a ts err bad := h.frame (by omega) f1
  refine Ok.mono (value_ok h' p hp t [] n [] (by simpa using hn) hl) ?_
  rintro v s2 ⟨rfl, h2⟩
  refine ⟨rfl, ?_⟩
  simp only [List.length_nil, Nat.zero_add] at h2
  exact h2
end
end Go.Proofs.YtmjbmbmnnephjaaGreatDoor
/- The lexer: numeral. -/
namespace Go.Proofs.YtmjbmbmnnephjaaGreatDoor
open Go Go.Ev Go.Proofs
/-- A value that the lexer makes. -/
def ValOK (t : Int) (n sy l : List Value) : Prop := l = [] ∧ n.length + sy.length ≤ 65536 ∧ ∃ k : Int, (k = 1 ∨ k = 2 ∨ k = 3 ∨ k = 4 ∨ k = 5) ∧ t = atomT k (n.length + sy.length) ∧
  ((k = 3 ∧ n = [] ∧ ∀ x ∈ sy, ∃ y, x = .string y ∧ (bl y).length ≤ 64 ∧ ∀ c ∈ bl y, c ≠ 0) ∨ (k ≠ 3 ∧ sy = [] ∧ ∀ x ∈ n, ∃ i, x = .int .i64 i ∧ (k = 1 → i = 0 ∨ i = 1)))
/-- A token that begins at a place. -/
def TokOK (str : ByteArray) (p : Int) (t : Tok) : Prop := t.at_ = p ∧ p < t.en ∧ t.en ≤ (bl str).length ∧ 1 ≤ t.kind ∧ t.kind ≤ 6 ∧ (t.kind ≠ 3 → t.text = sub str p t.en) ∧ (t.kind = 1 → ValOK t.t t.n t.sy t.l)
section
variable {s : St} {b : Nat} {str : ByteArray} {a : Int} {ts : List Tok} {bad : Int}
/-- The numbers so far: a row of a value at c. -/
def NS [Gh] (s : St) (c : Nat) (b : Nat) (str : ByteArray) (a : Int) (ts : List Tok) (bad : Int) (t : Int) (ns : List Value) : Prop :=
  LXh s.mem c b str a ts 0 bad ∧ c + 5 ≤ s.ctr ∧ ∃ v, Row s.mem c [.int .i64 t, v, .slice none 0 0, .slice none 0 0] ∧ Grow s.mem (c + 5) s.ctr 2 1 ns v
theorem NS.lx [Gh] {c : Nat} {t : Int} {ns : List Value} (h : NS s c b str a ts bad t ns) : LX s b str a ts 0 bad := h.1.frame (by have := h.2.1; omega) fun _ _ => rfl
theorem NS.fresh [Gh] {s' : St} {c : Nat} {t : Int} {ns : List Value} (h : NS s c b str a ts bad t ns) (f : Fresh s s') : NS s' c b str a ts bad t ns := by
  obtain ⟨h1, h2, v, h3, h4⟩ := h
  exact ⟨h1.frame (Nat.le_refl c) fun k hk => f.2 k (by omega), by have := f.1; omega, v, h3.congr fun j _ hj => f.2 j (by simp at hj; omega), h4.congr f.1 fun j _ hj => f.2 j hj⟩
theorem NS.reads [Gh] {s' : St} {c : Nat} {t : Int} {ns : List Value} (h : NS s c b str a ts bad t ns) (r : Reads s s') : NS s' c b str a ts bad t ns := h.fresh (Go.Ev.Reads.fresh r)
/-- The place may have moved. -/
theorem NS.ats [Gh] {s' : St} {c : Nat} {t : Int} {ns : List Value} {a' : Int} (h : NS s c b str a ts bad t ns) (g : LX s' b str a' ts 0 bad) (f : Ats b s s') : NS s' c b str a' ts bad t ns := by
  obtain ⟨⟨l, g1, g2, g3, g4⟩, h2, v, h3, h4⟩ := h
  obtain ⟨l', i1, i2, i3, i4⟩ := g
  have el : l' = l := by
    have e1 : s.mem.get (b + 1 + 2) = some (.cell b l) := CellsAt.get 2 l g1.2 rfl
    have e2 : s'.mem.get (b + 1 + 2) = some (.cell b l') := CellsAt.get 2 l' i1.2 rfl
    rw [f.2 _ (by omega) (by omega), e1] at e2
    simpa using e2.symm
  subst el
  exact ⟨⟨l', i1, g2.congr (Nat.le_refl c) fun j h5 h6 => f.2 j (by omega) (by omega), g3, i4⟩, by have := f.1; omega, v, h3.congr fun j _ hj => f.2 j (by simp at hj; omega) (by omega), h4.congr f.1 fun j _ hj => f.2 j hj (by omega)⟩
theorem NS.setAt [Gh] {c : Nat} {t : Int} {ns : List Value} (h : NS s c b str a ts bad t ns) (a' : Int) :
    Ok (fun _ => storeT En 3 b 1 (.int .i64 a')) s (fun w s' => w = U ∧ NS s' c b str a' ts bad t ns) := by
  refine Ok.mono (setAt_ok h.lx a') ?_
  rintro v s' ⟨rfl, h1, c1, f1⟩
  exact ⟨rfl, h.ats h1 (setAt_ats c1 f1)⟩
theorem appT28 : AppT En 28 2 1 8 := ⟨by kernel_rfl, by kernel_rfl, by kernel_rfl, by kernel_rfl, by omega⟩
/-- The row's list is taken, and one more stored. -/
theorem NS.push [Gh] {c : Nat} {t : Int} {ns : List Value} (h : NS s c b str a ts bad t ns) (hn : ns.length ≤ 65536) (i : Int) :
    ∃ v, Cell s.mem c 1 v ∧ Ok (fun _ => builtinA En Builtin.append (28 :: (28 :: [])) (v :: (xlstV (Value.int IntKind.i64 i :: []) :: []))) s (fun w s' => oneC w = true ∧ cellsL w = [w] ∧ c + 5 ≤ s'.ctr ∧ LXh s'.mem c b str a ts 0 bad ∧ Row s'.mem c [.int .i64 t, v, .slice none 0 0, .slice none 0 0] ∧ Grow s'.mem (c + 5) s'.ctr 2 1 (ns ++ [.int .i64 i]) w) := by
  obtain ⟨h1, h2, v, h3, h4⟩ := h
  refine ⟨v, h3.cell 1 rfl, ?_⟩
  refine Ok.mono (Ok.app appT28 h4 rfl rfl h2 (by omega)) ?_
  rintro w s' ⟨g1, g2, g3⟩
  exact ⟨g1.one.1, g1.one.2, by omega, h1.frame (Nat.le_refl c) fun k hk => g3 k (by omega), h3.congr fun j _ hj => g3 j (by simp at hj; omega), g1⟩
theorem NS.store [Gh] {c : Nat} {t : Int} {ns : List Value} {v w : Value} (h0 : oneC w = true) (h0' : cellsL w = [w]) (h2 : c + 5 ≤ s.ctr) (h1 : LXh s.mem c b str a ts 0 bad) (h3 : Row s.mem c [.int .i64 t, v, .slice none 0 0, .slice none 0 0]) (h4 : Grow s.mem (c + 5) s.ctr 2 1 ns w) :
    Ok (fun _ => storeT En 28 c 1 w) s (fun v s' => v = U ∧ NS s' c b str a ts bad t ns) := by
  refine Ok.mono (Ok.storeCell (by kernel_rfl) h0' h3 (by simp) h0) ?_
  rintro v s' ⟨rfl, e1, e2, e3⟩
  exact ⟨rfl, h1.frame (Nat.le_refl c) fun k hk => e3 k (by omega), by omega, w, e2, h4.congr (by omega) fun j h5 _ => e3 j (by omega)⟩
/-- The row is handed over. -/
theorem NS.value [Gh] {c : Nat} {t : Int} {ns : List Value} (h : NS s c b str a ts bad t ns) (p : Int) (hp : 0 ≤ p ∧ p ≤ a ∧ a ≤ (bl str).length) (hn : ns.length ≤ 1000000) (hl : ts.length ≤ 20000) {Q : Value → St → Prop}
    (hq : ∀ s', LX s' b str a (ts ++ [⟨1, p, a, sub str p a, atomT t ns.length, ns, [], []⟩]) 0 bad → Q (.tuple ⟨[]⟩) s') :
    Ok (fun f => Ev.callP (fun v28 =>
            (cnd
              (Prog.call (callF En (runP En f) 119 [(Value.pointer (Option.some (Addr.mk b 0 Option.none))), (Value.int IntKind.i64 p), (Value.agg ⟨((Value.int IntKind.i64 (intOf (at_ (aggOf v28) 0))) :: ((at_ (aggOf v28) 1) :: ((at_ (aggOf v28) 2) :: ((at_ (aggOf v28) 3) :: []))))⟩)]) fun v29 =>
                (cnd
                  (Prog.ret (Value.tuple ⟨[]⟩))
                  Prog.fail
                  ((isTupV v29) && (okNs [] (tupOf v29)))))
              Prog.fail
              ((isAggV v28) && (okKs ((Kd.int IntKind.i64) :: (Kd.raw :: (Kd.raw :: (Kd.raw :: [])))) (aggOf v28)))))
            (loadT En 32 c 0)) s Q := by
  have h' := h
  obtain ⟨h1, h2, v, h3, h4⟩ := h
  refine Ok.callP (Ok.loadA (n := 4) (vs := [.int .i64 t, v, .slice none 0 0, .slice none 0 0]) (by kernel_rfl) (by kernel_rfl) rfl ?_ h3.2) ?_
  · obtain ⟨el, ex, z, sy', hf⟩ := h3.1
    exact ⟨_, hf⟩
  rintro w s1 ⟨rfl, m1, c1, _⟩
  refine Ok.t rfl ?_
  refine Ok.call (valueN_ok (lo := c + 5) (v := v) (n := ns) (b := b) (str := str) (a := a) (ts := ts) (err := 0) (bad := bad) ?_ (by omega) (h4.congr (by omega) fun j _ _ => by rw [m1]) p hp t hn hl) ?_
  · exact h1.frame (by omega) fun k _ => by rw [m1]
  rintro w s2 ⟨rfl, h5⟩
  exact Ok.t rfl (Ok.ret (hq s2 h5))
end
end Go.Proofs.YtmjbmbmnnephjaaGreatDoor
/- The lexer: numeral's bools. -/
namespace Go.Proofs.YtmjbmbmnnephjaaGreatDoor
open Go Go.Ev Go.Proofs
section
variable {s : St} {b : Nat} {str : ByteArray} {a : Int} {ts : List Tok} {bad : Int}
def bit (c : Nat) : Int := IntKind.wrap IntKind.i64 (IntKind.wrap IntKind.u8 (Int.subNatNat c 48))
theorem build28 (i : Int) : buildSliceA En 28 1 ((Prod.mk 0 (Value.int IntKind.i64 i)) :: []) = .ret (xlstV (Value.int IntKind.i64 i :: [])) := by kernel_rfl
def BitV (x : Value) : Prop := ∃ i, x = .int .i64 i ∧ (i = 0 ∨ i = 1)
end
end Go.Proofs.YtmjbmbmnnephjaaGreatDoor
/- The lexer: numeral. -/
namespace Go.Proofs.YtmjbmbmnnephjaaGreatDoor
open Go Go.Ev Go.Proofs
section
variable {s : St} {b : Nat} {str : ByteArray} {a : Int} {ts : List Tok} {bad : Int}
theorem NS.cell [Gh] {c : Nat} {t : Int} {ns : List Value} (h : NS s c b str a ts bad t ns) : ∃ x y, Cell s.mem c 1 (.slice x ns.length y) := by
  obtain ⟨_, _, v, h3, h4⟩ := h
  obtain ⟨x, y, rfl⟩ := h4.len ns.length (by omega) (by omega)
  exact ⟨x, y, h3.cell 1 rfl⟩
theorem NS.cellT [Gh] {c : Nat} {t : Int} {ns : List Value} (h : NS s c b str a ts bad t ns) : Cell s.mem c 0 (.int .i64 t) := by
  obtain ⟨_, _, v, h3, h4⟩ := h
  exact h3.cell 0 rfl
theorem NS.setT [Gh] {c : Nat} {t : Int} {ns : List Value} (h : NS s c b str a ts bad t ns) (t' : Int) : Ok (fun _ => storeT En 3 c 0 (.int .i64 t')) s (fun w s' => w = U ∧ NS s' c b str a ts bad t' ns) := by
  obtain ⟨h1, h2, v, h3, h4⟩ := h
  refine Ok.mono (Ok.storeCell (by kernel_rfl) rfl h3 (by simp) rfl) ?_
  rintro w s' ⟨rfl, e1, e2, e3⟩
  exact ⟨rfl, h1.frame (Nat.le_refl c) fun k hk => e3 k (by omega), by omega, v, e2, h4.congr (by omega) fun j h5 _ => e3 j (by omega)⟩
theorem len28 (a : Option Addr) (n c : Nat) : builtinA En Builtin.len (28 :: []) (Value.slice a n c :: []) = .ret (vInt n) := by kernel_rfl
end
end Go.Proofs.YtmjbmbmnnephjaaGreatDoor
/- The lexer: numeral, whole. -/
namespace Go.Proofs.YtmjbmbmnnephjaaGreatDoor
open Go Go.Ev Go.Proofs
section
variable {s : St} {b : Nat} {str : ByteArray} {a : Int} {ts : List Tok} {bad : Int}
theorem ns_start [Gh] {Q : Value → St → Prop} (h : LX s b str a ts 0 bad) (t : Int) (k : Nat → Nat → Nat → Prog) (hk : ∀ s', NS s' s.ctr b str a ts bad t [] → Ok (fun f => k f s.ctr 0) s' Q) :
    Ok (fun f => gd Bool.true (Ev.callP (fun v65 => (cnd (Ev.callP (fun _ => k f (blkOf v65) (offOf v65))
          (storeT En 32 (blkOf v65) (offOf v65) (Value.agg ⟨((Value.int IntKind.i64 t) :: ((Value.slice Option.none 0 0) :: ((Value.slice Option.none 0 0) :: ((Value.slice Option.none 0 0) :: []))))⟩)))
        Prog.fail (isPt v65)))
      (Prog.newH (Hdr.mk 4 32 Bool.false Bool.true Bool.true 0 Bool.false Bool.false []) ((Value.int IntKind.i64 (0 : Int)) :: ((Value.slice Option.none 0 0) :: ((Value.slice Option.none 0 0) :: ((Value.slice Option.none 0 0) :: [])))) (fun z64 => (Prog.ret (itP z64)))))) s Q := by
  refine Ok.g rfl ?_
  refine Ok.callP (Ok.new rfl) ?_
  rintro v s1 ⟨rfl, e1, e2, e3⟩
  refine Ok.t rfl ?_
  simp only [blk_itP, off_itP]
  refine Ok.callP (Ok.storeRow (n := 4) (ws := [Value.int IntKind.i64 t, Value.slice none 0 0, Value.slice none 0 0, Value.slice none 0 0]) (by kernel_rfl) e2 rfl rfl rfl) ?_
  rintro v s2 ⟨rfl, c2, g2, k2⟩
  exact hk s2 ⟨LXh.frame h (Nat.le_refl _) fun k hk => by rw [k2 k (.inl (by omega)), e3 k hk], by omega, _, g2, Grow.nil _ _ _ _ _⟩
theorem byteAt_mem (x : ByteArray) (i : Nat) (h : i < (bl x).length) : ∃ c ∈ bl x, byteAt x i = c.toNat := by
  refine ⟨(bl x)[i], List.getElem_mem h, ?_⟩
  show ((bl x).getD i 0).toNat = _
  rw [List.getD_eq_getElem?_getD, List.getElem?_eq_getElem h]
  rfl
end
end Go.Proofs.YtmjbmbmnnephjaaGreatDoor
/- The lexer's numeral, exact: numbers with blanks between. -/
namespace Go.Proofs.YtmjbmbmnnephjaaGreatDoor
open Go Go.Ev Go.Proofs Go.Num
def i64s (l : List Int) : List Value := l.map fun n => .int .i64 n
theorem i64s_length (l : List Int) : (i64s l).length = l.length := by simp [i64s]
theorem joinN_head (t : Nat) (n : Int) (l : List Int) : ∃ r, joinN t (n :: l) = numT t n ++ r ∧ Stop r ∧ (l = [] → r = []) ∧ ∀ m l', l = m :: l' → r = 32 :: joinN t (m :: l') := by
  cases l with
  | nil => exact ⟨[], by simp [joinN], fun c r' e => (by cases e), fun _ => rfl, fun m l' e => (by cases e)⟩
  | cons m l' => exact ⟨32 :: joinN t (m :: l'), rfl, fun c r' e => (by simp only [List.cons.injEq] at e; rw [← e.1]; rfl), fun e => (by cases e), fun m' l'' e => (by cases e; rfl)⟩
section
variable {s : St} {b : Nat} {str : ByteArray} {ts : List Tok} {bad : Int}
/-- What taking a token comes to: one more, up to the text's end. -/
def OneQ [Gh] (b : Nat) (str : ByteArray) (p : Int) (ts : List Tok) (bad : Int) (t : Int) (n sy : List Value) (v : Value) (s' : St) : Prop :=
  v = .tuple ⟨[]⟩ ∧ LX s' b str ((bl str).length : Int) (ts ++ [⟨1, p, ((bl str).length : Int), sub str p ((bl str).length : Int), atomT t (n.length + sy.length), n, sy, []⟩]) 0 bad
/-- What follows a number that was taken. -/
noncomputable def tail62 (b : Nat) (p : Int) (c : Nat) (f : Nat) : Prog := (Prog.call (callF En (runP En f) 122 [(Value.pointer (Option.some (Addr.mk b 0 Option.none)))]) fun v57 =>
                                            (cnd
                                              (cnd
                                                (Ev.callP (fun v58 =>
                                                  (cnd
                                                    (Prog.call (callF En (runP En f) 119 [(Value.pointer (Option.some (Addr.mk b 0 Option.none))), (Value.int IntKind.i64 p), (Value.agg ⟨((Value.int IntKind.i64 (intOf (at_ (aggOf v58) 0))) :: ((at_ (aggOf v58) 1) :: ((at_ (aggOf v58) 2) :: ((at_ (aggOf v58) 3) :: []))))⟩)]) fun v59 =>
                                                      (cnd
                                                        (Prog.ret (Value.tuple ⟨[]⟩))
                                                        Prog.fail
                                                        ((isTupV v59) && (okNs [] (tupOf v59)))))
                                                    Prog.fail
                                                    ((isAggV v58) && (okKs ((Kd.int IntKind.i64) :: (Kd.raw :: (Kd.raw :: (Kd.raw :: [])))) (aggOf v58)))))
                                                  (loadT En 32 c 0))
                                                (p62_15 f b p c 0)
                                                (Bool.not (boolOf v57)))
                                              Prog.fail
                                              (okK Kd.bool v57)))
theorem num_oneX [Gh] (c : Nat) (p : Int) (hs : (bl str).length ≤ 100000) (t : Nat) (ht : t = 2 ∨ t = 4 ∨ t = 5) (n : Int) (hn0 : nul ≤ n) (hn1 : n ≤ 9223372036854775807) (done : List Int) (k : Nat) (tt : Int) {r : List UInt8} (hd : (bl str).drop k = numT t n ++ r) (hstop : Stop r)
    (htt : done = [] ∨ tt = t) (hcnt : done.length < 65536) (h : NS s c b str (k : Int) ts bad tt (i64s done)) {Q : Value → St → Prop}
    (K : ∀ s', NS s' c b str ((k + (numT t n).length : Nat) : Int) ts bad t (i64s (done ++ [n])) → Ok (tail62 b p c) s' Q) : Ok (fun f => p62_15 f b p c 0) s Q := by
  have t3 : scal En 3 = true := by kernel_rfl
  have t28 : scal En 28 = true := by kernel_rfl
  have hne : numT t n ++ r ≠ [] := by obtain ⟨c, x, e, _⟩ := numT_head t n; rw [e]; simp
  have hlen := drop_le hd hne
  rw [List.length_append] at hlen
  have hi : (i64s done).length = done.length := i64s_length done
  have eapp : i64s (done ++ [n]) = i64s done ++ [.int .i64 n] := by simp [i64s]
  refine Ok.step (fun f => p62_15_eq f b p c 0) ?_
  refine Ok.callP (Ok.load1 t3 h.lx.c1) ?_
  rintro v s1 ⟨rfl, m1, c1, l1⟩
  have r1 : Reads s s1 := ⟨m1, c1, [⟨false, b + 1 + 1, 1⟩, ⟨false, b, 1⟩], l1, rfl⟩
  have h1 := h.reads r1
  refine Ok.t rfl ?_
  refine Ok.call (numberX t n h1.lx hd hstop (by omega)) ?_
  rintro v s2 ⟨rfl, g2, a2⟩
  have h2 := h1.ats g2 a2
  refine Ok.t rfl ?_
  refine Ok.call (worthX t n ht hn0 hn1) ?_
  rintro v s3 ⟨rfl, f3⟩
  have h3 := h2.fresh f3
  refine Ok.t rfl (Ok.f rfl ?_)
  obtain ⟨x, y, hc⟩ := h3.cell
  simp only [Nat.zero_add]
  refine Ok.callP (Ok.load1 t28 hc) ?_
  rintro v s4 ⟨rfl, m4, c4, l4⟩
  have r4 : Reads s3 s4 := ⟨m4, c4, [⟨false, c + 1 + 1, 1⟩, ⟨false, c, 1⟩], l4, rfl⟩
  have h4 := h3.reads r4
  simp only [len28]
  refine Ok.callP (Q1 := fun v s' => v = vInt ((i64s done).length : Nat) ∧ s' = s4) (Ok.ret ⟨rfl, rfl⟩) ?_
  rintro v s5 ⟨rfl, rfl⟩
  refine Ok.t rfl ?_
  have hwe : IntKind.wrap IntKind.i64 ((intOf (Value.int IntKind.i64 (k : Int))) + (Int.ofNat (List.length (Array.toList (ByteArray.data (strOf (Value.string (mkStr (numT t n))))))))) = ((k + (numT t n).length : Nat) : Int) := by
    show IntKind.wrap IntKind.i64 ((k : Int) + Int.ofNat (numT t n).length) = _
    rw [wrap_in _ (by simp only [Int.ofNat_eq_natCast]; omega) (by simp only [Int.ofNat_eq_natCast]; omega)]
    simp only [Int.ofNat_eq_natCast]; omega
  have fin : ∀ (s7 : St) (k' : Nat → Value → Prog), NS s7 c b str (k : Int) ts bad tt (i64s done) →
      (∀ s8, NS s8 c b str ((k + (numT t n).length : Nat) : Int) ts bad t (i64s (done ++ [n])) → Ok (fun f => k' f U) s8 Q) →
      Ok (fun f => Ev.callP (fun _ => (Ev.callP (fun _ => (Ev.callP (fun v43 => (Ev.callP (fun v44 => (Ev.callP (k' f) (storeT En 28 c 1 v44)))
          (builtinA En Builtin.append (28 :: (28 :: [])) (v43 :: ((xlstV ((Value.int IntKind.i64 n) :: [])) :: [])))))
          (loadT En 28 c 1))) (storeT En 3 c 0 (Value.int IntKind.i64 (t : Int))))) (storeT En 3 b 1 (Value.int IntKind.i64 ((k + (numT t n).length : Nat) : Int)))) s7 Q := by
    intro s7 k' h7 hk
    refine Ok.callP (h7.setAt _) ?_
    rintro v s8 ⟨rfl, h8⟩
    refine Ok.callP (h8.setT (t : Int)) ?_
    rintro v s9 ⟨rfl, h9⟩
    obtain ⟨w, hw, _⟩ := h9.push (by omega) n
    refine Ok.callP (Ok.load1 t28 hw) ?_
    rintro v s10 ⟨rfl, m10, c10, l10⟩
    have r10 : Reads s9 s10 := ⟨m10, c10, [⟨false, c + 1 + 1, 1⟩, ⟨false, c, 1⟩], l10, rfl⟩
    have h10 := h9.reads r10
    obtain ⟨w', hw', hpush⟩ := h10.push (by omega) n
    have ev : w' = v := by
      have e1 := (hw.reads r10).2
      have e2 := hw'.2
      rw [e1] at e2
      simpa using e2.symm
    subst ev
    refine Ok.callP hpush ?_
    rintro w s11 ⟨w0, w1, w2, w3, w4, w5⟩
    refine Ok.callP (NS.store w0 w1 w2 w3 w4 w5) ?_
    rintro v s12 ⟨rfl, h12⟩
    exact hk s12 (by rw [eapp]; exact h12)
  refine Ok.c (fun hpos => ?_) (fun _ => ?_)
  · have hpos := of_decide_eq_true hpos
    simp only [intOf, vInt] at hpos
    have htt : tt = t := by
      rcases htt with h | h
      · have h0 : done.length = 0 := by rw [h]; rfl
        omega
      · exact h
    subst htt
    refine Ok.callP (Ok.load1 t3 h4.cellT) ?_
    rintro v s6 ⟨rfl, m6, c6, l6⟩
    have r6 : Reads s5 s6 := ⟨m6, c6, [⟨false, c + 1 + 0, 1⟩, ⟨false, c, 1⟩], l6, rfl⟩
    have h6 := h4.reads r6
    refine Ok.t rfl ?_
    refine Ok.f (by show (!decide ((t : Int) = (t : Int))) = false; simp) ?_
    obtain ⟨x', y', hc'⟩ := h6.cell
    refine Ok.callP (Ok.load1 t28 hc') ?_
    rintro v s7 ⟨rfl, m7, c7, l7⟩
    have r7 : Reads s6 s7 := ⟨m7, c7, [⟨false, c + 1 + 1, 1⟩, ⟨false, c, 1⟩], l7, rfl⟩
    have h7 := h6.reads r7
    simp only [len28]
    refine Ok.callP (Q1 := fun v s' => v = vInt ((i64s done).length : Nat) ∧ s' = s7) (Ok.ret ⟨rfl, rfl⟩) ?_
    rintro v s8 ⟨rfl, rfl⟩
    refine Ok.t rfl ?_
    refine Ok.f (decide_eq_false (by simp only [intOf, vInt]; omega)) ?_
    rw [hwe]
    exact fin s8 _ h7 fun s9 h9 => K s9 h9
  · obtain ⟨x', y', hc'⟩ := h4.cell
    refine Ok.callP (Ok.load1 t28 hc') ?_
    rintro v s7 ⟨rfl, m7, c7, l7⟩
    have r7 : Reads s5 s7 := ⟨m7, c7, [⟨false, c + 1 + 1, 1⟩, ⟨false, c, 1⟩], l7, rfl⟩
    have h7 := h4.reads r7
    simp only [len28]
    refine Ok.callP (Q1 := fun v s' => v = vInt ((i64s done).length : Nat) ∧ s' = s7) (Ok.ret ⟨rfl, rfl⟩) ?_
    rintro v s8 ⟨rfl, rfl⟩
    refine Ok.t rfl ?_
    refine Ok.f (decide_eq_false (by simp only [intOf, vInt]; omega)) ?_
    rw [hwe]
    exact fin s8 _ h7 fun s9 h9 => K s9 h9
theorem nums_loopX [Gh] (c : Nat) (p : Int) (hp : 0 ≤ p) (hs : (bl str).length ≤ 100000) (hl : ts.length ≤ 20000) (t : Nat) (ht : t = 2 ∨ t = 4 ∨ t = 5) :
    ∀ (rest : List Int) (n : Int) (done : List Int) (k : Nat) (tt : Int) (s : St), (∀ m ∈ n :: rest, nul ≤ m ∧ m ≤ 9223372036854775807) → (bl str).drop k = joinN t (n :: rest) → p ≤ k → (done = [] ∨ tt = t) → done.length + rest.length + 1 ≤ 65536 → NS s c b str (k : Int) ts bad tt (i64s done) →
    Ok (fun f => p62_15 f b p c 0) s (OneQ b str p ts bad t (i64s (done ++ n :: rest)) []) := by
  intro rest
  induction rest with
  | nil =>
    intro n done k tt s hr hd hpk htt hcnt h
    obtain ⟨r, e0, hstop, hr0, _⟩ := joinN_head t n []
    have hr0 := hr0 rfl
    subst hr0
    rw [e0] at hd
    obtain ⟨hn0, hn1⟩ := hr n (List.mem_cons_self ..)
    have hne : numT t n ++ [] ≠ [] := by obtain ⟨c, x, e, _⟩ := numT_head t n; rw [e]; simp
    have hlen := drop_le hd hne
    rw [List.append_nil] at hlen
    have hdn := drop_app hd
    simp only [List.length_nil] at hcnt
    refine num_oneX c p hs t ht n hn0 hn1 done k tt hd hstop htt (by omega) h fun s8 h8 => ?_
    unfold tail62
    refine Ok.call (moreX_end h8.lx hdn (by omega) (by omega)) ?_
    rintro v s9 ⟨rfl, h9, a9⟩
    have h9 := h8.ats h9 a9
    refine Ok.t rfl (Ok.t rfl ?_)
    refine NS.value h9 p ⟨hp, by omega, by omega⟩ (by rw [i64s_length, List.length_append, List.length_singleton]; omega) hl fun s' h10 => ⟨rfl, ?_⟩
    rw [hlen] at h10
    exact h10
  | cons m rest ih =>
    intro n done k tt s hr hd hpk htt hcnt h
    obtain ⟨r, e0, hstop, _, hr1⟩ := joinN_head t n (m :: rest)
    have hr1 := hr1 m rest rfl
    subst hr1
    rw [e0] at hd
    obtain ⟨hn0, hn1⟩ := hr n (List.mem_cons_self ..)
    have hlen := drop_le hd (by simp)
    rw [List.length_append, List.length_cons] at hlen
    have hdn := drop_app hd
    simp only [List.length_cons] at hcnt
    obtain ⟨r2, e2, hstop2, _, _⟩ := joinN_head t m rest
    refine num_oneX c p hs t ht n hn0 hn1 done k tt hd hstop htt (by omega) h fun s8 h8 => ?_
    unfold tail62
    refine Ok.call (moreX_next t m h8.lx (by rw [hdn, e2]) hstop2 (by omega)) ?_
    rintro v s9 ⟨rfl, h9, a9⟩
    have h9 := h8.ats h9 a9
    refine Ok.t rfl (Ok.f rfl ?_)
    have := ih m (done ++ [n]) (k + (numT t n).length + 1) (t : Int) s9 (fun x hx => hr x (List.mem_cons_of_mem _ hx)) (drop_next hdn) (by omega) (.inr rfl) (by rw [List.length_append, List.length_singleton]; omega) h9
    rw [List.append_assoc] at this
    exact this
end
end Go.Proofs.YtmjbmbmnnephjaaGreatDoor
/- The lexer's numeral, exact, whole: numbers; bools. -/
namespace Go.Proofs.YtmjbmbmnnephjaaGreatDoor
open Go Go.Ev Go.Proofs Go.Num
section
variable {s : St} {b : Nat} {str : ByteArray} {ts : List Tok} {bad : Int}
/-- Bools' text. -/
def bitsT (l : List Int) : List UInt8 := l.map bitB
theorem bitsT_length (l : List Int) : (bitsT l).length = l.length := by simp [bitsT]
theorem bit_of (n : Int) (h : n = 0 ∨ n = 1) : bit (bitB n).toNat = n := by
  rcases h with rfl | rfl
  · decide
  · decide
theorem bits_mem {l : List Int} {c : UInt8} (h : c ∈ bitsT l) : c = 48 ∨ c = 49 := by
  obtain ⟨n, _, rfl⟩ := List.mem_map.1 h
  unfold bitB
  split
  · exact .inl rfl
  · exact .inr rfl
theorem bits_loopX [Gh] (c : Nat) (k : Nat) (S : ByteArray) (l : List Int) (hb : ∀ n ∈ l, n = 0 ∨ n = 1) (hS : (k : Int) + (bl S).length = (bl str).length) (hs : (bl str).length ≤ 1000000) (hl : ts.length ≤ 20000) (hc : l.length ≤ 65536) :
    ∀ (r pre : List Int) (s : St), l = pre ++ r → NS s c b str (k : Int) ts bad 1 (i64s pre) →
    Ok (fun f => p62_6 f b (k : Int) S (mkStr (bitsT l)) c 0 (Int.ofNat l.length) (pre.length : Int)) s (OneQ b str (k : Int) ts bad 1 (i64s l) []) := by
  have t3 : scal En 3 = true := by kernel_rfl
  intro r
  induction r with
  | nil =>
    intro pre s hp h
    rw [List.append_nil] at hp
    subst hp
    refine Ok.step (fun f => p62_6_eq f b (k : Int) S _ c 0 _ _) ?_
    refine Ok.f (decide_eq_false (by simp only [Int.ofNat_eq_natCast]; omega)) ?_
    refine Ok.callP (Ok.load1 t3 h.lx.c1) ?_
    rintro v s1 ⟨rfl, m1, c1, l1⟩
    have r1 : Reads s s1 := ⟨m1, c1, [⟨false, b + 1 + 1, 1⟩, ⟨false, b, 1⟩], l1, rfl⟩
    refine Ok.t rfl ?_
    have hw : IntKind.i64.wrap ((k : Int) + ((bl S).length : Int)) = (bl str).length := by rw [wrap_in _ (by omega) (by omega)]; exact hS
    simp only [bl] at hw
    simp only [intOf, Int.ofNat_eq_natCast, hw]
    refine Ok.callP ((h.reads r1).setAt _) ?_
    rintro v s2 ⟨rfl, h2⟩
    refine NS.value h2 (k : Int) ⟨by omega, by simp only [bl] at *; omega, by simp only [bl]; omega⟩ (by rw [i64s_length]; omega) hl fun s' h3 => ⟨rfl, h3⟩
  | cons n r ih =>
    intro pre s hp h
    have hi : pre.length < l.length := by rw [hp]; simp
    have hgl : l[pre.length]? = some n := by rw [hp]; simp
    have hn : n = 0 ∨ n = 1 := hb n (by rw [hp]; simp)
    have hw1 : IntKind.i64.wrap ((pre.length : Int) + 1) = ((pre.length + 1 : Nat) : Int) := by rw [wrap_in _ (by omega) (by omega)]; omega
    have hby : byteAt (mkStr (bitsT l)) (Int.toNat (pre.length : Int)) = (bitB n).toNat := by
      unfold byteAt
      show ((bitsT l).getD (Int.toNat (pre.length : Int)) 0).toNat = _
      rw [Int.toNat_natCast, List.getD_eq_getElem?_getD, bitsT, List.getElem?_map, hgl]
      rfl
    refine Ok.step (fun f => p62_6_eq f b (k : Int) S _ c 0 _ _) ?_
    refine Ok.t (decide_eq_true (by simp only [Int.ofNat_eq_natCast]; omega)) ?_
    refine Ok.f (decide_eq_false (by omega)) ?_
    obtain ⟨v, hv, _⟩ := h.push (by rw [i64s_length]; omega) n
    simp only [Nat.zero_add]
    refine Ok.segLoad (by kernel_rfl) hv fun s1 r1 => ?_
    refine Ok.t (decide_eq_true (by omega)) ?_
    refine Ok.t (Nat.ble_eq_true_of_le (by simp only [Int.toNat_natCast]; show pre.length + 1 ≤ (bitsT l).length; rw [bitsT_length]; omega)) ?_
    simp only [hby, build28]
    have hbv : IntKind.wrap IntKind.i64 (IntKind.wrap IntKind.u8 (Int.subNatNat (bitB n).toNat 48)) = n := bit_of n hn
    rw [hbv]
    refine Ok.seg (Q1 := fun v s' => v = xlstV (Value.int IntKind.i64 n :: []) ∧ s' = ⟨s1.mem, s1.ctr, []⟩) (Ok.ret ⟨rfl, rfl⟩) ?_
    rintro w s2 ⟨rfl, rfl⟩
    refine Ok.gdL (by kernel_rfl) ?_
    have h1 : NS s1 c b str (k : Int) ts bad 1 (i64s pre) := h.reads r1
    have h1 : NS ⟨s1.mem, s1.ctr, []⟩ c b str (k : Int) ts bad 1 (i64s pre) := h1
    obtain ⟨v', hv', hpush⟩ := h1.push (by rw [i64s_length]; omega) n
    have ev : v' = v := by
      have e1 := (hv.reads r1).2
      have e2 := hv'.2
      simp only at e2
      rw [e1] at e2
      simpa using e2.symm
    subst ev
    refine Ok.seg hpush ?_
    rintro w s3 ⟨w0, w1, w2, w3, w4, w5⟩
    refine Ok.gdL (by kernel_rfl) ?_
    refine Ok.seg (NS.store (s := ⟨s3.mem, s3.ctr, []⟩) w0 w1 w2 w3 w4 w5) ?_
    rintro v s4 ⟨rfl, h4⟩
    refine Ok.gdL (by kernel_rfl) ?_
    rw [hw1]
    have e : i64s (pre ++ [n]) = i64s pre ++ [.int .i64 n] := by simp [i64s]
    have nx : ∀ s9 : St, NS s9 c b str (k : Int) ts bad 1 (i64s pre ++ [.int .i64 n]) → Ok (fun f => p62_6 f b (k : Int) S (mkStr (bitsT l)) c 0 (Int.ofNat l.length) ((pre.length + 1 : Nat) : Int)) s9 (OneQ b str (k : Int) ts bad 1 (i64s l) []) := fun s9 h9 => by
      have := ih (pre ++ [n]) s9 (by rw [hp]; simp) (by rw [e]; exact h9)
      rw [List.length_append, List.length_singleton] at this
      exact this
    exact nx _ h4
theorem numeral_nums [Gh] (k : Nat) (t : Nat) (ht : t = 2 ∨ t = 4 ∨ t = 5) (n : Int) (rest : List Int) (hr : ∀ m ∈ n :: rest, nul ≤ m ∧ m ≤ 9223372036854775807) (hcnt : rest.length + 1 ≤ 65536) (h : LX s b str (k : Int) ts 0 bad) (hd : (bl str).drop k = joinN t (n :: rest)) (hs : (bl str).length ≤ 100000) (hl : ts.length ≤ 20000) :
    Ok (fun f => callF En (runP En f) 62 [.pointer (some ⟨b, 0, none⟩)]) s (OneQ b str (k : Int) ts bad t (i64s (n :: rest)) []) := by
  have t3 : scal En 3 = true := by kernel_rfl
  obtain ⟨r, e0, hstop, _, _⟩ := joinN_head t n rest
  have hd0 := hd
  rw [e0] at hd
  have hne : numT t n ++ r ≠ [] := by obtain ⟨c, x, e, _⟩ := numT_head t n; rw [e]; simp
  have hlen := drop_le hd hne
  obtain ⟨c0, x0, hB, hc0⟩ := numB_head t n
  -- what runs on from the place, and what stands behind it
  obtain ⟨y, z, hyz, hy, hz, hyb⟩ : ∃ y z : List UInt8, (bl str).drop k = y ++ z ∧ (∀ c ∈ y, lngB c = true) ∧ Stop z ∧ (∀ c, y.getLast? = some c → c.toNat ≠ 98) := by
    cases hsg : numS n with
    | true =>
      have e : numT t n = 45 :: numB t n := by rw [numT_split, hsg]; rfl
      exact ⟨[], numT t n ++ r, hd, fun c hc => (by cases hc), fun c r' e' => (by rw [e] at e'; simp only [List.cons_append, List.cons.injEq] at e'; rw [← e'.1]; rfl), fun c hc => (by cases hc)⟩
    | false =>
      have e : numT t n = numB t n := by rw [numT_split, hsg]; rfl
      exact ⟨numB t n, r, by rw [hd, e], fun c hc => List.all_eq_true.1 (numB_lng t n) c hc, hstop, fun c hc => numB_last t n hc⟩
  have hyl : y.length ≤ 1000000 := by
    have := congrArg List.length hyz
    rw [List.length_drop, List.length_append] at this
    omega
  refine Ok.step (fun f => f62_eq f b) ?_
  refine Ok.callP (Ok.load1 t3 h.c1) ?_
  rintro v s1 ⟨rfl, m1, c1, l1⟩
  have r1 : Reads s s1 := ⟨m1, c1, [⟨false, b + 1 + 1, 1⟩, ⟨false, b, 1⟩], l1, rfl⟩
  have h1 := h.reads r1
  refine Ok.t rfl ?_
  refine Ok.call (run_ok long_ok s1 (by omega) (by simp only [bl] at hlen; omega) (by simp only [bl] at hs; omega) h1.c0 h1.c1) ?_
  rintro v s2 ⟨m, hm, rfl, r2⟩
  have h2 := h1.reads r2
  refine Ok.t rfl ?_
  have := runV_exact hm hyz (fun c hc => by rw [lng_eq]; exact hy c hc) (fun c r' e => by rw [lng_eq]; exact hz c r' e)
  subst this
  have ey : mkStr (List.take y.length (List.drop (k : Int).toNat str.data.toList)) = mkStr y := by
    rw [Int.toNat_natCast, show List.drop k str.data.toList = y ++ z from hyz, List.take_left']
    rfl
  rw [ey]
  refine Ok.call (cutSuffix_ok s2 (mkStr y) _ (by show y.length ≤ _; omega)) ?_
  rintro v s3 ⟨rfl, rfl⟩
  simp only [bl_mk]
  refine Ok.t rfl ?_
  have hsf : sufB y [98] = false := sufB_no fun c hc e => hyb c hc (by rw [e]; rfl)
  rw [hsf]
  refine Ok.f rfl ?_
  refine ns_start h2 0 (fun f x o => p62_15 f b (k : Int) x o) fun s' h' => ?_
  exact nums_loopX s3.ctr (k : Int) (by omega) hs hl t ht rest n [] k 0 s' hr hd0 (Int.le_refl _) (.inl rfl) (by simp only [List.length_nil]; omega) h'
theorem numeral_bits [Gh] (k : Nat) (l : List Int) (h0 : l ≠ []) (hb : ∀ n ∈ l, n = 0 ∨ n = 1) (hcnt : l.length ≤ 65536) (h : LX s b str (k : Int) ts 0 bad) (hd : (bl str).drop k = bitsT l ++ [98]) (hs : (bl str).length ≤ 100000) (hl : ts.length ≤ 20000) :
    Ok (fun f => callF En (runP En f) 62 [.pointer (some ⟨b, 0, none⟩)]) s (OneQ b str (k : Int) ts bad 1 (i64s l) []) := by
  have t3 : scal En 3 = true := by kernel_rfl
  have hlen := drop_le hd (by simp)
  rw [List.length_append, bitsT_length, List.length_singleton] at hlen
  have hyz : (bl str).drop k = (bitsT l ++ [98]) ++ [] := by rw [hd, List.append_nil]
  have hlng : ∀ c ∈ bitsT l ++ [98], lngB c = true := by
    intro c hc
    rcases List.mem_append.1 hc with hc | hc
    · rcases bits_mem hc with rfl | rfl <;> rfl
    · simp only [List.mem_singleton] at hc
      subst hc; rfl
  refine Ok.step (fun f => f62_eq f b) ?_
  refine Ok.callP (Ok.load1 t3 h.c1) ?_
  rintro v s1 ⟨rfl, m1, c1, l1⟩
  have r1 : Reads s s1 := ⟨m1, c1, [⟨false, b + 1 + 1, 1⟩, ⟨false, b, 1⟩], l1, rfl⟩
  have h1 := h.reads r1
  refine Ok.t rfl ?_
  refine Ok.call (run_ok long_ok s1 (by omega) (by simp only [bl] at hlen; omega) (by simp only [bl] at hs; omega) h1.c0 h1.c1) ?_
  rintro v s2 ⟨m, hm, rfl, r2⟩
  have h2 := h1.reads r2
  refine Ok.t rfl ?_
  have := runV_exact hm hyz (fun c hc => by rw [lng_eq]; exact hlng c hc) (fun c r' e => by cases e)
  subst this
  have ey : mkStr (List.take (bitsT l ++ [98]).length (List.drop (k : Int).toNat str.data.toList)) = mkStr (bitsT l ++ [98]) := by
    rw [Int.toNat_natCast, show List.drop k str.data.toList = (bitsT l ++ [98]) ++ [] from hyz, List.take_left']
    rfl
  rw [ey]
  have hyl : (bitsT l ++ [98]).length = l.length + 1 := by rw [List.length_append, bitsT_length]; rfl
  refine Ok.call (cutSuffix_ok s2 (mkStr (bitsT l ++ [98])) _ (by show (bitsT l ++ [98]).length ≤ _; omega)) ?_
  rintro v s3 ⟨rfl, rfl⟩
  simp only [bl_mk, sufB_yes, cutSuf_yes]
  refine Ok.t rfl (Ok.t rfl ?_)
  have hne : bitsT l ≠ [] := by
    intro e
    have := congrArg List.length e
    rw [bitsT_length] at this
    exact h0 (List.length_eq_zero_iff.1 this)
  refine Ok.t (by show (!beqB (bitsT l) []) = true; rw [beqB_eq, decide_eq_false hne]; rfl) ?_
  refine Ok.call (bits_ok s3 (mkStr (bitsT l)) (by rw [bl_mk, bitsT_length]; omega)) ?_
  rintro v s4 ⟨⟨y, rfl, hy⟩, f4⟩
  have hy := hy.2 fun c hc => by
    rcases bits_mem hc with rfl | rfl <;> rfl
  have h4 := h2.fresh f4
  refine Ok.t rfl ?_
  refine Ok.t (by show beqB (bl y) [] = true; rw [hy]; rfl) ?_
  have e1 : Int.ofNat (List.length (Array.toList (ByteArray.data (strOf (at_ (tupOf (Value.tuple ⟨[Value.string (mkStr (bitsT l)), Value.bool true]⟩)) 0))))) = Int.ofNat l.length := congrArg Int.ofNat (bitsT_length l)
  rw [e1]
  refine ns_start h4 1 (fun f x o => p62_6 f b (k : Int) (mkStr (bitsT l ++ [98])) (mkStr (bitsT l)) x o (Int.ofNat l.length) 0) fun s' h' => ?_
  exact bits_loopX s4.ctr k (mkStr (bitsT l ++ [98])) l hb (by rw [bl_mk, hyl]; omega) (by omega) hl hcnt l [] s' rfl h'
end
end Go.Proofs.YtmjbmbmnnephjaaGreatDoor
/- Symbols as texts, in plain Lean. -/
namespace Go.Num
def hexL : List UInt8 := [48, 49, 50, 51, 52, 53, 54, 55, 56, 57, 97, 98, 99, 100, 101, 102]
def hexd (n : Nat) : UInt8 := hexL.getD n 0
/-- Does a byte stand for itself within quotation marks? -/
def selfB (c : UInt8) : Bool := decide (32 ≤ c.toNat) && (decide (c.toNat ≤ 126) && (decide (c.toNat ≠ 34) && decide (c.toNat ≠ 92)))
def encB (c : UInt8) : List UInt8 := if selfB c = true then [c] else [92, 120, hexd (c.toNat / 16), hexd (c.toNat % 16)]
def enc : List UInt8 → List UInt8
  | [] => []
  | c :: r => encB c ++ enc r
def quoteT (x : List UInt8) : List UInt8 := 34 :: (enc x ++ [34])
theorem hexd_fin : ∀ n : Fin 16, ((48 ≤ (hexd n.val).toNat ∧ (hexd n.val).toNat ≤ 57) ∨ (97 ≤ (hexd n.val).toNat ∧ (hexd n.val).toNat ≤ 102)) ∧ (if (hexd n.val).toNat ≤ 57 then (hexd n.val).toNat - 48 else (hexd n.val).toNat - 87) = n.val := by decide
theorem encB_no (c : UInt8) : ∀ d ∈ encB c, d.toNat ≠ 34 := by
  intro d hd
  unfold encB at hd
  split at hd
  · rename_i h
    simp only [List.mem_singleton] at hd
    subst hd
    simp only [selfB, Bool.and_eq_true, decide_eq_true_eq] at h
    exact h.2.2.1
  · have hc : c.toNat < 256 := UInt8.toNat_lt c
    have h1 := (hexd_fin ⟨c.toNat / 16, by omega⟩).1
    have h2 := (hexd_fin ⟨c.toNat % 16, by omega⟩).1
    simp only at h1 h2
    simp only [List.mem_cons, List.not_mem_nil, or_false] at hd
    rcases hd with rfl | rfl | rfl | rfl
    · decide
    · decide
    · omega
    · omega
theorem enc_no : ∀ (x : List UInt8), ∀ d ∈ enc x, d.toNat ≠ 34
  | [], _, h => by cases h
  | c :: r, d, h => by
    rcases List.mem_append.1 h with h | h
    · exact encB_no c d h
    · exact enc_no r d h
theorem encB_len (c : UInt8) : (encB c).length ≤ 4 := by unfold encB; split <;> simp
theorem enc_len : ∀ (x : List UInt8), (enc x).length ≤ 4 * x.length
  | [] => by simp [enc]
  | c :: r => by
    have h1 := encB_len c
    have h2 := enc_len r
    simp only [enc, List.length_append, List.length_cons]
    omega
def letB (c : UInt8) : Bool := decide (97 ≤ c.toNat) && decide (c.toNat ≤ 122) || decide (65 ≤ c.toNat) && decide (c.toNat ≤ 90)
/-- Does a name need no quotation marks? -/
def plainB : List UInt8 → Bool
  | [] => false
  | c :: r => letB c && (c :: r).all lngB
def symB (x : List UInt8) : List UInt8 := if x = [] then [] else if plainB x = true then x else quoteT x
def symT (x : List UInt8) : List UInt8 := 96 :: symB x
def symsT : List (List UInt8) → List UInt8
  | [] => []
  | x :: l => symT x ++ symsT l
end Go.Num
/- text.Quote and text.Unquote: they answer with texts. -/
namespace Go.Proofs.YtmjbmbmnnephjaaGreatDoor
open Go Go.Ev Go.Proofs
end Go.Proofs.YtmjbmbmnnephjaaGreatDoor
/- The lexer: quoted. -/
namespace Go.Proofs.YtmjbmbmnnephjaaGreatDoor
open Go Go.Ev Go.Proofs
section
variable {s : St} {b : Nat} {str : ByteArray} {a : Int} {ts : List Tok} {bad : Int}
end
end Go.Proofs.YtmjbmbmnnephjaaGreatDoor
/- The lexer: symbols. -/
namespace Go.Proofs.YtmjbmbmnnephjaaGreatDoor
open Go Go.Ev Go.Proofs
section
variable {s : St} {b : Nat} {str : ByteArray} {a : Int} {ts : List Tok} {err bad : Int}
/-- The symbols so far: a row of a value at c. -/
def SS [Gh] (s : St) (c : Nat) (b : Nat) (str : ByteArray) (a : Int) (ts : List Tok) (err bad : Int) (ns : List Value) : Prop :=
  LXh s.mem c b str a ts err bad ∧ c + 5 ≤ s.ctr ∧ ∃ v, Row s.mem c [.int .i64 3, .slice none 0 0, v, .slice none 0 0] ∧ Grow s.mem (c + 5) s.ctr 9 1 ns v
theorem SS.lx [Gh] {c : Nat} {ns : List Value} (h : SS s c b str a ts err bad ns) : LX s b str a ts err bad := h.1.frame (by have := h.2.1; omega) fun _ _ => rfl
theorem SS.fresh [Gh] {s' : St} {c : Nat} {ns : List Value} (h : SS s c b str a ts err bad ns) (f : Fresh s s') : SS s' c b str a ts err bad ns := by
  obtain ⟨h1, h2, v, h3, h4⟩ := h
  exact ⟨h1.frame (Nat.le_refl c) fun k hk => f.2 k (by omega), by have := f.1; omega, v, h3.congr fun j _ hj => f.2 j (by simp at hj; omega), h4.congr f.1 fun j _ hj => f.2 j hj⟩
theorem SS.reads [Gh] {s' : St} {c : Nat} {ns : List Value} (h : SS s c b str a ts err bad ns) (r : Reads s s') : SS s' c b str a ts err bad ns := h.fresh (Go.Ev.Reads.fresh r)
/-- The lexer's place, or its error, may have changed. -/
theorem SS.lxr [Gh] {s' : St} {c : Nat} {ns : List Value} {a' err' bad' : Int} {ts' : List Tok} (h : SS s c b str a ts err bad ns) (g : LX s' b str a' ts' err' bad') (hc : s.ctr ≤ s'.ctr) (f : ∀ k, k < s.ctr → k ≠ b + 2 → k ≠ b + 4 → k ≠ b + 5 → s'.mem.get k = s.mem.get k) : SS s' c b str a' ts err' bad' ns := by
  obtain ⟨⟨l, g1, g2, g3, g4⟩, h2, v, h3, h4⟩ := h
  obtain ⟨l', i1, i2, i3, i4⟩ := g
  have el : l' = l := by
    have e1 : s.mem.get (b + 1 + 2) = some (.cell b l) := CellsAt.get 2 l g1.2 rfl
    have e2 : s'.mem.get (b + 1 + 2) = some (.cell b l') := CellsAt.get 2 l' i1.2 rfl
    rw [f _ (by omega) (by omega) (by omega) (by omega), e1] at e2
    simpa using e2.symm
  subst el
  exact ⟨⟨l', i1, g2.congr (Nat.le_refl c) fun j h5 h6 => f j (by omega) (by omega) (by omega) (by omega), g3, i4⟩, by omega, v, h3.congr fun j _ hj => f j (by simp at hj; omega) (by omega) (by omega) (by omega), h4.congr hc fun j _ hj => f j hj (by omega) (by omega) (by omega)⟩
theorem SS.setAt [Gh] {c : Nat} {ns : List Value} (h : SS s c b str a ts err bad ns) (a' : Int) :
    Ok (fun _ => storeT En 3 b 1 (.int .i64 a')) s (fun w s' => w = U ∧ SS s' c b str a' ts err bad ns) := by
  refine Ok.mono (setAt_ok h.lx a') ?_
  rintro v s' ⟨rfl, h1, c1, f1⟩
  exact ⟨rfl, h.lxr h1 (by omega) fun k _ hk _ _ => f1 k hk⟩
theorem SS.fail [Gh] {c : Nat} {ns : List Value} (h : SS s c b str a ts 0 bad ns) (e p : Int) :
    Ok (fun f => callF En (runP En f) 35 [.pointer (some ⟨b, 0, none⟩), .int .i64 e, .int .i64 p]) s (fun v s' => v = .tuple ⟨[]⟩ ∧ SS s' c b str a ts e p ns) := by
  refine Ok.mono (fail_lx h.lx e p) ?_
  rintro v s' ⟨rfl, h1, c1, f1⟩
  exact ⟨rfl, h.lxr (by simpa using h1) (by omega) fun k _ _ k1 k2 => f1 k k1 k2⟩
theorem SS.cell [Gh] {c : Nat} {ns : List Value} (h : SS s c b str a ts err bad ns) : ∃ x y, Cell s.mem c 2 (.slice x ns.length y) := by
  obtain ⟨_, _, v, h3, h4⟩ := h
  obtain ⟨x, y, rfl⟩ := h4.len ns.length (by omega) (by omega)
  exact ⟨x, y, h3.cell 2 rfl⟩
theorem len29 (a : Option Addr) (n c : Nat) : builtinA En Builtin.len (29 :: []) (Value.slice a n c :: []) = .ret (vInt n) := by kernel_rfl
/-- One symbol more. -/
theorem SS.push [Gh] {c : Nat} {ns : List Value} (h : SS s c b str a ts err bad ns) (hn : ns.length ≤ 65536) (x : ByteArray) {k : Nat → Value → Prog} {Q : Value → St → Prop} (hk : ∀ s', SS s' c b str a ts err bad (ns ++ [.string x]) → Ok (fun f => k f U) s' Q) :
    Ok (fun f => Ev.callP (fun v58 => Ev.callP (fun v59 => Ev.callP (k f) (storeT En 29 c 2 v59)) (builtinA En Builtin.append (29 :: (29 :: [])) (v58 :: ((xlstV ((Value.string x) :: [])) :: [])))) (loadT En 29 c 2)) s Q := by
  obtain ⟨h1, h2, v, h3, h4⟩ := h
  refine Ok.callP (Ok.load1 (by kernel_rfl) (h3.cell 2 rfl)) ?_
  rintro w s1 ⟨rfl, m1, c1, _⟩
  refine Ok.callP (Ok.app appT29 (h4.congr (by omega) fun j _ _ => by rw [m1]) rfl rfl (by omega) (by omega)) ?_
  rintro w' s2 ⟨g1, g2, g3⟩
  have h3' : Row s2.mem c [.int .i64 3, .slice none 0 0, w, .slice none 0 0] := h3.congr fun j _ hj => by rw [g3 j (by simp at hj; omega), m1]
  refine Ok.callP (Ok.storeCell (o := 2) (by kernel_rfl) g1.one.2 h3' (by simp) g1.one.1) ?_
  rintro v s3 ⟨rfl, e1, e2, e3⟩
  exact hk s3 ⟨h1.frame (Nat.le_refl c) fun k hk => by rw [e3 k (by omega), g3 k (by omega), m1], by omega, w', e2, g1.congr (by omega) fun j h5 _ => e3 j (by omega)⟩
theorem SS.value [Gh] {c : Nat} {ns : List Value} (h : SS s c b str a ts err bad ns) (p : Int) (hp : 0 ≤ p ∧ p ≤ a ∧ a ≤ (bl str).length) (hn : ns.length ≤ 1000000) (hl : ts.length ≤ 20000) {Q : Value → St → Prop}
    (hq : ∀ s', LX s' b str a (ts ++ [⟨1, p, a, sub str p a, atomT 3 ns.length, [], ns, []⟩]) err bad → Q (.tuple ⟨[]⟩) s') :
    Ok (fun f => Ev.callP (fun v28 =>
            (cnd
              (Prog.call (callF En (runP En f) 119 [(Value.pointer (Option.some (Addr.mk b 0 Option.none))), (Value.int IntKind.i64 p), (Value.agg ⟨((Value.int IntKind.i64 (intOf (at_ (aggOf v28) 0))) :: ((at_ (aggOf v28) 1) :: ((at_ (aggOf v28) 2) :: ((at_ (aggOf v28) 3) :: []))))⟩)]) fun v29 =>
                (cnd
                  (Prog.ret (Value.tuple ⟨[]⟩))
                  Prog.fail
                  ((isTupV v29) && (okNs [] (tupOf v29)))))
              Prog.fail
              ((isAggV v28) && (okKs ((Kd.int IntKind.i64) :: (Kd.raw :: (Kd.raw :: (Kd.raw :: [])))) (aggOf v28)))))
            (loadT En 32 c 0)) s Q := by
  obtain ⟨h1, h2, v, h3, h4⟩ := h
  refine Ok.callP (Ok.loadA (n := 4) (vs := [.int .i64 3, .slice none 0 0, v, .slice none 0 0]) (by kernel_rfl) (by kernel_rfl) rfl ?_ h3.2) ?_
  · obtain ⟨el, ex, z, sy', hf⟩ := h3.1
    exact ⟨_, hf⟩
  rintro w s1 ⟨rfl, m1, c1, _⟩
  refine Ok.t rfl ?_
  refine Ok.call (valueS_ok (lo := c + 5) (v := v) (n := ns) (b := b) (str := str) (a := a) (ts := ts) (err := err) (bad := bad) ?_ (by omega) (h4.congr (by omega) fun j _ _ => by rw [m1]) p hp 3 hn hl) ?_
  · exact h1.frame (by omega) fun k _ => by rw [m1]
  rintro w s2 ⟨rfl, h5⟩
  exact Ok.t rfl (Ok.ret (hq s2 h5))
def SymV (x : Value) : Prop := ∃ y, x = .string y ∧ (bl y).length ≤ 64 ∧ ∀ c ∈ bl y, c ≠ 0
end
end Go.Proofs.YtmjbmbmnnephjaaGreatDoor
/- text.Quote and the reference's Quote: the same bytes. -/
namespace Go.Proofs.YtmjbmbmnnephjaaGreatDoor
open Go Go.Ev Go.Proofs
def hexE (x : ByteArray) (i : Nat) : List Value := [.int .u8 92, .int .u8 120,
  .int .u8 (Int.ofNat (byteAt (mkStr [48, 49, 50, 51, 52, 53, 54, 55, 56, 57, 97, 98, 99, 100, 101, 102]) (Int.toNat (IntKind.wrap IntKind.u8 (Int.ofNat (Nat.div (byteAt x i) 16)))))),
  .int .u8 (Int.ofNat (byteAt (mkStr [48, 49, 50, 51, 52, 53, 54, 55, 56, 57, 97, 98, 99, 100, 101, 102]) (Nat.mod (byteAt x i) 16)))]
/-- What is quoted of one byte. -/
def qV (x : ByteArray) (i : Nat) : List Value :=
  if (Int.ofNat (byteAt x i)) < (32 : Int) ∨ (Int.ofNat (byteAt x i)) > (126 : Int) ∨ (Int.ofNat (byteAt x i)) = (34 : Int) ∨ (Int.ofNat (byteAt x i)) = (92 : Int) then hexE x i else [.int .u8 (Int.ofNat (byteAt x i))]
def qVs (x : ByteArray) : Nat → Nat → List Value
  | _, 0 => []
  | i, m + 1 => qV x i ++ qVs x (i + 1) m
def qOut (x : ByteArray) (cs : List Value) (i m : Nat) : ByteArray := mkStr (bytesV ((cs ++ qVs x i m) ++ [Value.int IntKind.u8 34]))
def qStr (x : ByteArray) : ByteArray := qOut x [Value.int IntKind.u8 34] 0 (bl x).length
theorem qV_length (x : ByteArray) (i : Nat) : (qV x i).length ≤ 4 := by unfold qV; split <;> simp [hexE]
theorem qV_u8 (x : ByteArray) (i : Nat) : allU8 (qV x i) = true := by unfold qV; split <;> rfl
theorem qOut_step (x : ByteArray) (cs : List Value) (i m : Nat) : qOut x (cs ++ qV x i) (i + 1) m = qOut x cs i (m + 1) := by
  unfold qOut
  simp only [qVs, List.append_assoc]
def QQ (s : St) (lo : Nat) (y : ByteArray) (v : Value) (s' : St) : Prop := v = .string y ∧ s.ctr ≤ s'.ctr ∧ ∀ k, k < lo → s'.mem.get k = s.mem.get k
theorem quoteX_loop (x : ByteArray) (hx : (bl x).length ≤ 1000000) (lo : Nat) : ∀ (m i : Nat) (cs : List Value) (v : Value) (s : St), i + m = (bl x).length → cs.length ≤ 4 * i + 1 → allU8 cs = true → Buf s lo 5 cs v →
    Ok (fun f => p40_3 f x v (Int.ofNat (bl x).length) (i : Int)) s (QQ s lo (qOut x cs i m)) := by
  intro m
  induction m with
  | zero =>
    intro i cs v s hm hl hu h
    refine Ok.step (fun f => p40_3_eq f x v _ (i : Int)) ?_
    refine Ok.f (decide_eq_false (by simp only [Int.ofNat_eq_natCast]; omega)) ?_
    refine Ok.callP (Ok.appM appT65 h (es := [Value.int IntKind.u8 34]) rfl (by decide) (by simp; omega)) ?_
    rintro w s1 ⟨g1, g2, g3, g4⟩
    refine Ok.callP (conv65 (g1.grow g4) (allU8_append _ _ hu rfl)) ?_
    rintro w s2 ⟨rfl, r2⟩
    exact Ok.ret ⟨by simp only [qOut, qVs, List.append_nil], by rw [r2.2.1]; exact g2, fun k hk => by rw [r2.1, g3 k hk]⟩
  | succ m IH =>
    intro i cs v s hm hl hu h
    have hi : i < (bl x).length := by omega
    have hw1 : IntKind.i64.wrap ((i : Int) + 1) = ((i + 1 : Nat) : Int) := by rw [wrap_in _ (by omega) (by omega)]; omega
    have nx : ∀ (w : Value) (s' : St), Buf s' lo 5 (cs ++ qV x i) w → s.ctr ≤ s'.ctr → (∀ k, k < lo → s'.mem.get k = s.mem.get k) →
        Ok (fun f => p40_9 f x w (Int.ofNat (bl x).length) (i : Int)) s' (QQ s lo (qOut x cs i (m + 1))) := by
      intro w s' hb hc hf
      have he := qV_length x i
      refine Ok.step (fun f => p40_9_eq f x w _ (i : Int)) ?_
      rw [hw1]
      refine Ok.mono (IH (i + 1) (cs ++ qV x i) w s' (by omega) (by rw [List.length_append]; omega) (allU8_append _ _ hu (qV_u8 x i)) hb) ?_
      rintro v s2 ⟨h1, h2, h3⟩
      exact ⟨by rw [h1, qOut_step], by omega, fun k hk => by rw [h3 k hk, hf k hk]⟩
    obtain ⟨x1, x2, x3⟩ := hexOk (byteAt x i) (byteAt_lt x i)
    have hi' := hi
    simp only [bl] at hi
    refine Ok.step (fun f => p40_3_eq f x v _ (i : Int)) ?_
    refine Ok.t (decide_eq_true (by simp only [bl, Int.ofNat_eq_natCast]; omega)) ?_
    refine Ok.t (decide_eq_true (by omega)) ?_
    refine Ok.t (Nat.ble_eq_true_of_le (by simp only [Int.toNat_natCast]; omega)) ?_
    simp only [Int.toNat_natCast]
    have four : qV x i = hexE x i → Ok (fun f => .seg (buildSliceA En 65 4 ((Prod.mk 0 (Value.int IntKind.u8 92)) :: ((Prod.mk 1 (Value.int IntKind.u8 120)) :: ((Prod.mk 2 (Value.int IntKind.u8 (Int.ofNat (byteAt (mkStr [48, 49, 50, 51, 52, 53, 54, 55, 56, 57, 97, 98, 99, 100, 101, 102]) (Int.toNat (IntKind.wrap IntKind.u8 (Int.ofNat (Nat.div (byteAt x i) 16)))))))) :: ((Prod.mk 3 (Value.int IntKind.u8 (Int.ofNat (byteAt (mkStr [48, 49, 50, 51, 52, 53, 54, 55, 56, 57, 97, 98, 99, 100, 101, 102]) (Nat.mod (byteAt x i) 16))))) :: []))))) fun v68 s69 _ => .seg (builtinA En Builtin.append (65 :: (65 :: [])) (v :: (v68 :: []))) fun v70 s71 _ => Ev.gdL 255 (writesOf s71) s71 [⟨7, writesOf s69, s69⟩] (p40_9 f x v70 (Int.ofNat (bl x).length) (i : Int))) s (QQ s lo (qOut x cs i (m + 1))) := fun e =>
      push_seg (k := fun f w => p40_9 f x w (Int.ofNat (bl x).length) (i : Int)) (b65_4 _ _ _ _) h rfl (by simp) (by simp only [List.length_cons, List.length_nil]; omega) rfl fun w s' h1 _ h3 h4 => nx w s' (by rw [e]; exact h1) h3 h4
    refine Ok.c (fun h1 => Ok.t x3 (Ok.t x2 (Ok.t x1 (four (by unfold qV; rw [if_pos (.inl (of_decide_eq_true h1))]))))) (fun h1 => ?_)
    refine Ok.c (fun h1 => Ok.t x3 (Ok.t x2 (Ok.t x1 (four (by unfold qV; rw [if_pos (.inr (.inl (of_decide_eq_true h1)))]))))) (fun h2 => ?_)
    refine Ok.c (fun h1 => Ok.t x3 (Ok.t x2 (Ok.t x1 (four (by unfold qV; rw [if_pos (.inr (.inr (.inl (of_decide_eq_true h1))))]))))) (fun h3 => ?_)
    refine Ok.c (fun h1 => Ok.t x3 (Ok.t x2 (Ok.t x1 (four (by unfold qV; rw [if_pos (.inr (.inr (.inr (of_decide_eq_true h1))))]))))) (fun h4 => ?_)
    refine Ok.callP (Ok.appM appT65 h (es := [Value.int IntKind.u8 (Int.ofNat (byteAt x i))]) rfl (by simp) (by simp; omega)) ?_
    rintro w s1 ⟨g1, g2, g3, _⟩
    refine nx w s1 ?_ g2 g3
    have e : qV x i = [Value.int IntKind.u8 (Int.ofNat (byteAt x i))] := by
      unfold qV
      rw [if_neg]
      rintro (h | h | h | h)
      · exact (of_decide_eq_false h1) h
      · exact (of_decide_eq_false h2) h
      · exact (of_decide_eq_false h3) h
      · exact (of_decide_eq_false h4) h
    rw [e]
    exact g1
theorem quoteX_ok (s : St) (x : ByteArray) (hx : (bl x).length ≤ 1000000) : Ok (fun f => callF En (runP En f) 40 [.string x]) s (fun v s' => v = .string (qStr x) ∧ Fresh s s') := by
  refine Ok.step (fun f => f40_eq f x) ?_
  exact quoteX_loop x hx s.ctr (bl x).length 0 [Value.int IntKind.u8 34] _ s (by omega) (by simp) rfl ⟨rfl, Nat.le_refl _, .inr rfl⟩

/-! The reference's Quote. -/
def plainC (c : Int) : Bool := decide (c ≥ 32) && (decide (c ≤ 126) && (!decide (c = 34) && !decide (c = 92)))
theorem itself_ok (s : St) (c : Int) : Ok (fun f => callF En (runP En f) 79 [.int .u8 c]) s (fun v s' => v = .bool (plainC c) ∧ s' = s) := by
  refine Ok.step (fun f => f79_eq f c) ?_
  unfold plainC
  repeat' (first | refine Ok.c (fun h => ?_) (fun h => ?_) | exact Ok.ret ⟨by simp_all <;> omega, rfl⟩)
theorem refquote_loop (x : ByteArray) (hx : (bl x).length ≤ 1000000) (lo : Nat) : ∀ (m i : Nat) (cs : List Value) (v : Value) (s : St), i + m = (bl x).length → cs.length ≤ 4 * i + 1 → allU8 cs = true → Buf s lo 5 cs v →
    Ok (fun f => p42_4 f x (mkStr [48, 49, 50, 51, 52, 53, 54, 55, 56, 57, 97, 98, 99, 100, 101, 102]) v (i : Int)) s (QQ s lo (qOut x cs i m)) := by
  intro m
  induction m with
  | zero =>
    intro i cs v s hm hl hu h
    refine Ok.step (fun f => p42_4_eq f x _ v (i : Int)) ?_
    refine Ok.f (decide_eq_false (by simp only [bl] at hm; simp only [Int.ofNat_eq_natCast]; omega)) ?_
    refine Ok.callP (Ok.appM appT65 h (es := [Value.int IntKind.u8 34]) rfl (by decide) (by simp; omega)) ?_
    rintro w s1 ⟨g1, g2, g3, g4⟩
    refine Ok.callP (conv65 (g1.grow g4) (allU8_append _ _ hu rfl)) ?_
    rintro w s2 ⟨rfl, r2⟩
    exact Ok.ret ⟨by simp only [qOut, qVs, List.append_nil], by rw [r2.2.1]; exact g2, fun k hk => by rw [r2.1, g3 k hk]⟩
  | succ m IH =>
    intro i cs v s hm hl hu h
    have hi : i < (bl x).length := by omega
    have hw1 : IntKind.i64.wrap ((i : Int) + 1) = ((i + 1 : Nat) : Int) := by rw [wrap_in _ (by omega) (by omega)]; omega
    have nx : ∀ (w : Value) (s' : St), Buf s' lo 5 (cs ++ qV x i) w → s.ctr ≤ s'.ctr → (∀ k, k < lo → s'.mem.get k = s.mem.get k) →
        Ok (fun f => p42_5 f x (mkStr [48, 49, 50, 51, 52, 53, 54, 55, 56, 57, 97, 98, 99, 100, 101, 102]) w (i : Int)) s' (QQ s lo (qOut x cs i (m + 1))) := by
      intro w s' hb hc hf
      have he := qV_length x i
      refine Ok.step (fun f => p42_5_eq f x _ w (i : Int)) ?_
      rw [hw1]
      refine Ok.mono (IH (i + 1) (cs ++ qV x i) w s' (by omega) (by rw [List.length_append]; omega) (allU8_append _ _ hu (qV_u8 x i)) hb) ?_
      rintro v s2 ⟨h1, h2, h3⟩
      exact ⟨by rw [h1, qOut_step], by omega, fun k hk => by rw [h3 k hk, hf k hk]⟩
    obtain ⟨x1, x2, x3⟩ := hexOk (byteAt x i) (byteAt_lt x i)
    simp only [bl] at hi
    have b0 : Nat.ble (Nat.succ (Int.toNat (i : Int))) (List.length (Array.toList (ByteArray.data x))) = true := Nat.ble_eq_true_of_le (by simp only [Int.toNat_natCast]; omega)
    have b1 : decide ((0 : Int) ≤ (i : Int)) = true := decide_eq_true (by omega)
    refine Ok.step (fun f => p42_4_eq f x _ v (i : Int)) ?_
    refine Ok.t (decide_eq_true (by simp only [Int.ofNat_eq_natCast]; omega)) ?_
    refine Ok.t b1 (Ok.t b0 ?_)
    simp only [Int.toNat_natCast]
    refine Ok.call (itself_ok s _) ?_
    rintro w s1 ⟨rfl, rfl⟩
    refine Ok.t rfl ?_
    refine Ok.c (fun hp => ?_) (fun hp => ?_)
    · refine Ok.t b1 (Ok.t (by simpa using b0) ?_)
      refine Ok.callP (Ok.appM appT65 h (es := [Value.int IntKind.u8 (Int.ofNat (byteAt x i))]) rfl (by simp) (by simp; omega)) ?_
      rintro w s2 ⟨g1, g2, g3, _⟩
      refine nx w s2 ?_ g2 g3
      have e : qV x i = [Value.int IntKind.u8 (Int.ofNat (byteAt x i))] := by
        unfold qV
        rw [if_neg]
        simp only [boolOf, plainC, Bool.and_eq_true, Bool.not_eq_true', decide_eq_true_eq, decide_eq_false_iff_not] at hp
        rintro (h | h | h | h)
        · omega
        · omega
        · exact hp.2.2.1 h
        · exact hp.2.2.2 h
      rw [e]
      exact g1
    · have e : qV x i = hexE x i := by
        unfold qV
        rw [if_pos]
        simp only [boolOf, plainC, Bool.and_eq_false_iff, Bool.not_eq_false', decide_eq_true_eq, decide_eq_false_iff_not] at hp
        rcases hp with h | h | h | h
        · exact .inl (by omega)
        · exact .inr (.inl (by omega))
        · exact .inr (.inr (.inl h))
        · exact .inr (.inr (.inr h))
      refine Ok.t b1 (Ok.t (by simpa using b0) (Ok.t x3 (Ok.t x2 (Ok.t b1 (Ok.t (by simpa using b0) (Ok.t x1 ?_))))))
      exact push_seg (k := fun f w => p42_5 f x (mkStr [48, 49, 50, 51, 52, 53, 54, 55, 56, 57, 97, 98, 99, 100, 101, 102]) w (i : Int)) (b65_4 _ _ _ _) h rfl (by simp) (by simp only [List.length_cons, List.length_nil]; omega) rfl fun w s' h1 _ h3 h4 => nx w s' (by rw [e]; exact h1) h3 h4
theorem refquote_ok (s : St) (x : ByteArray) (hx : (bl x).length ≤ 1000000) : Ok (fun f => callF En (runP En f) 42 [.string x]) s (fun v s' => v = .string (qStr x) ∧ Fresh s s') := by
  refine Ok.step (fun f => f42_eq f x) ?_
  exact refquote_loop x hx s.ctr (bl x).length 0 [Value.int IntKind.u8 34] _ s (by omega) (by simp) rfl ⟨rfl, Nat.le_refl _, .inr rfl⟩
end Go.Proofs.YtmjbmbmnnephjaaGreatDoor
/- text.Unquote, exact, of what was quoted; the lexer's quoted. -/
namespace Go.Proofs.YtmjbmbmnnephjaaGreatDoor
open Go Go.Ev Go.Proofs Go.Num
theorem bytesV_app : ∀ (a b : List Value), bytesV (a ++ b) = bytesV a ++ bytesV b
  | [], _ => rfl
  | v :: a, b => by simp only [List.cons_append, bytesV, bytesV_app a b]
theorem byte_mk (x : List UInt8) (i : Nat) (h : i < x.length) : byteAt (mkStr x) i = (x[i]'h).toNat := by
  unfold byteAt
  show (x.getD i 0).toNat = _
  rw [List.getD_eq_getElem?_getD, List.getElem?_eq_getElem h]
  rfl
theorem ofNat_byte (c : UInt8) : UInt8.ofNat ((Int.ofNat c.toNat).toNat) = c := by simp
theorem hex_byte (n : Nat) : byteAt (mkStr [48, 49, 50, 51, 52, 53, 54, 55, 56, 57, 97, 98, 99, 100, 101, 102]) n = (hexd n).toNat := rfl
theorem qV_enc (x : List UInt8) (i : Nat) (h : i < x.length) : bytesV (qV (mkStr x) i) = encB (x[i]'h) := by
  have e := byte_mk x i h
  have hc : (x[i]'h).toNat < 256 := UInt8.toNat_lt _
  generalize hq : x[i]'h = c at *
  unfold qV encB
  rw [e]
  by_cases hs : selfB c = true
  · rw [if_pos hs, if_neg]
    · simp only [bytesV, intOf, ofNat_byte]
    · simp only [selfB, Bool.and_eq_true, decide_eq_true_eq] at hs
      simp only [Int.ofNat_eq_natCast]
      omega
  · rw [if_neg hs, if_pos]
    · unfold hexE
      rw [e]
      have e1 : Int.toNat (IntKind.wrap IntKind.u8 (Int.ofNat (Nat.div c.toNat 16))) = c.toNat / 16 := by
        have hd : Nat.div c.toNat 16 = c.toNat / 16 := rfl
        rw [hd, IntWalk.u8_in _ (by simp only [Int.ofNat_eq_natCast]; omega)]
        simp only [Int.ofNat_eq_natCast, Int.toNat_natCast]
      have e2 : Nat.mod c.toNat 16 = c.toNat % 16 := rfl
      rw [e1, e2, hex_byte, hex_byte]
      simp only [bytesV, intOf, ofNat_byte]
      rfl
    · simp only [selfB, Bool.and_eq_true, decide_eq_true_eq] at hs
      simp only [Int.ofNat_eq_natCast]
      omega
theorem qVs_enc (x : List UInt8) : ∀ (m i : Nat), i + m = x.length → bytesV (qVs (mkStr x) i m) = enc (x.drop i)
  | 0, i, h => by
    rw [List.drop_eq_nil_of_le (by omega)]; rfl
  | m + 1, i, h => by
    have hi : i < x.length := by omega
    rw [List.drop_eq_getElem_cons hi]
    simp only [qVs, bytesV_app, enc]
    rw [qV_enc x i hi, qVs_enc x m (i + 1) (by omega)]
theorem qStr_enc (x : List UInt8) : qStr (mkStr x) = mkStr (quoteT x) := by
  unfold qStr qOut quoteT
  rw [bytesV_app, bytesV_app, show (bl (mkStr x)).length = x.length from rfl, qVs_enc x x.length 0 (by omega)]
  rfl
section
variable {s : St}
theorem hexX (c : UInt8) : okDg 16 (hexd (c.toNat / 16)) ∧ okDg 16 (hexd (c.toNat % 16)) ∧ numX 16 0 [hexd (c.toNat / 16), hexd (c.toNat % 16)] = c.toNat := by
  have hc : c.toNat < 256 := UInt8.toNat_lt c
  have h1 := hexd_fin ⟨c.toNat / 16, by omega⟩
  have h2 := hexd_fin ⟨c.toNat % 16, by omega⟩
  simp only at h1 h2
  refine ⟨?_, ?_, ?_⟩
  · unfold okDg; omega
  · unfold okDg; omega
  · rw [numX_cons, numX_cons, numX_nil]
    unfold dv
    omega
theorem u8s_snoc (l : List UInt8) (c : UInt8) : u8s (l ++ [c]) = u8s l ++ [.int .u8 (c.toNat : Int)] := by simp [u8s]
theorem unqX_loop (x : List UInt8) (hx : x.length ≤ 100000) (lo : Nat) : ∀ (y dn : List UInt8) (v : Value) (s : St), x = dn ++ y → Buf s lo 5 (u8s dn) v → (∃ a b c, v = Value.slice a b c) →
    Ok (fun f => p123_5 f (mkStr (quoteT x)) v (mkStr (enc y))) s (fun v s' => v = .tuple ⟨[.string (mkStr x), .bool true]⟩ ∧ s.ctr ≤ s'.ctr ∧ ∀ k, k < lo → s'.mem.get k = s.mem.get k) := by
  intro y
  induction y with
  | nil =>
    intro dn v s hp h hv
    rw [List.append_nil] at hp
    subst hp
    refine Ok.step (fun f => p123_5_eq f _ v _) ?_
    refine Ok.f rfl ?_
    refine Ok.callP (conv65 (h.grow hv) (u8s_ok x)) ?_
    rintro w s1 ⟨rfl, r1⟩
    rw [u8s_bytes]
    refine Ok.call (quoteX_ok s1 (mkStr x) (by show x.length ≤ _; omega)) ?_
    rintro w s2 ⟨rfl, f2⟩
    have f2 := (Go.Ev.Reads.fresh r1).trans f2
    have f2' : ∀ k, k < lo → s2.mem.get k = s.mem.get k := fun k hk => f2.2 k (by have := h.2.1; omega)
    refine Ok.t rfl ?_
    rw [qStr_enc]
    refine Ok.f (by show (!beqB (quoteT x) (quoteT x)) = false; rw [beqB_eq]; simp) ?_
    refine Ok.callP (conv65 ((h.fresh f2).grow hv) (u8s_ok x)) ?_
    rintro w s3 ⟨rfl, r3⟩
    rw [u8s_bytes]
    exact Ok.ret ⟨rfl, by rw [r3.2.1]; exact f2.1, fun k hk => by rw [r3.1, f2' k hk]⟩
  | cons c y ih =>
    intro dn v s hp h hv
    have hl : dn.length + y.length + 1 = x.length := by rw [hp, List.length_append, List.length_cons]; omega
    have hel := enc_len y
    have nx : ∀ (w : Value) (s' : St), Buf s' lo 5 (u8s dn ++ [Value.int IntKind.u8 (c.toNat : Int)]) w → (∃ a b c, w = Value.slice a b c) → s.ctr ≤ s'.ctr → (∀ k, k < lo → s'.mem.get k = s.mem.get k) →
        Ok (fun f => p123_5 f (mkStr (quoteT x)) w (mkStr (enc y))) s' (fun v s' => v = .tuple ⟨[.string (mkStr x), .bool true]⟩ ∧ s.ctr ≤ s'.ctr ∧ ∀ k, k < lo → s'.mem.get k = s.mem.get k) := by
      intro w s' hb hw hc hf
      rw [← u8s_snoc] at hb
      refine Ok.mono (ih (dn ++ [c]) w s' (by rw [hp]; simp) hb hw) ?_
      rintro v s2 ⟨h1, h2, h3⟩
      exact ⟨h1, by omega, fun k hk => by rw [h3 k hk, hf k hk]⟩
    by_cases hs : selfB c = true
    · have ee : enc (c :: y) = c :: enc y := by simp only [enc, encB, hs, if_true]; rfl
      rw [ee]
      have hs' := hs
      simp only [selfB, Bool.and_eq_true, decide_eq_true_eq] at hs'
      refine Ok.step (fun f => p123_5_eq f _ v _) ?_
      have hby : byteAt (mkStr (c :: enc y)) 0 = c.toNat := rfl
      simp only [hby]
      refine Ok.t rfl (Ok.t rfl (Ok.t ?_ (Ok.t rfl ?_)))
      · rw [decide_eq_false (by simp only [Int.ofNat_eq_natCast]; omega)]; rfl
      have et : List.take ((mkStr (c :: enc y)).data.toList.length - 1) (List.drop 1 (mkStr (c :: enc y)).data.toList) = enc y := by
        show List.take ((c :: enc y).length - 1) (List.drop 1 (c :: enc y)) = enc y
        simp
      rw [et]
      refine push_seg (k := fun f w => cnd (p123_5 f (mkStr (quoteT x)) w (mkStr (enc y))) Prog.fail ((Nat.ble 1 (List.length (Array.toList (ByteArray.data (mkStr (c :: enc y)))))) && (Nat.ble (List.length (Array.toList (ByteArray.data (mkStr (c :: enc y))))) (List.length (Array.toList (ByteArray.data (mkStr (c :: enc y)))))))) (b65_1 _) h rfl (by simp) (by rw [u8s_length, List.length_singleton]; omega) rfl fun w s' h1 h2 h3 h4 => ?_
      refine Ok.t (by simp only [Bool.and_eq_true]; exact ⟨rfl, Nat.ble_eq_true_of_le (Nat.le_refl _)⟩) ?_
      exact nx w s' h1 h2 h3 h4
    · have ee : enc (c :: y) = 92 :: 120 :: hexd (c.toNat / 16) :: hexd (c.toNat % 16) :: enc y := by simp only [enc, encB, hs]; rfl
      rw [ee]
      obtain ⟨x1, x2, x3⟩ := hexX c
      generalize hexd (c.toNat / 16) = d1 at *
      generalize hexd (c.toNat % 16) = d2 at *
      have hc : c.toNat < 256 := UInt8.toNat_lt c
      refine Ok.step (fun f => p123_5_eq f _ v _) ?_
      refine Ok.t rfl (Ok.t rfl (Ok.f rfl ?_))
      have hlen : (mkStr (92 :: 120 :: d1 :: d2 :: enc y)).data.toList.length = (enc y).length + 4 := by
        show (92 :: 120 :: d1 :: d2 :: enc y).length = _
        simp only [List.length_cons]
      refine Ok.f (decide_eq_false (by rw [hlen]; simp only [Int.ofNat_eq_natCast]; omega)) ?_
      refine Ok.t (by rw [hlen]; exact Nat.ble_eq_true_of_le (by omega)) ?_
      refine Ok.call (parseX (s := s) 16 8 [d1, d2] c.toNat fun s => by
        have := puX16 (s := s) [d1, d2] (by simp) (by simp) (fun z hz => by simp only [List.mem_cons, List.not_mem_nil, or_false] at hz; rcases hz with rfl | rfl; exact x1; exact x2) (by rw [x3]; omega)
        rw [x3] at this
        exact this) ?_
      rintro w s1 ⟨rfl, f1⟩
      have b1 := h.fresh f1
      have f1' : ∀ k, k < lo → s1.mem.get k = s.mem.get k := fun k hk => f1.2 k (by have := h.2.1; omega)
      refine Ok.t rfl ?_
      simp only [show at_ (tupOf (Value.tuple ⟨[.int .u64 (c.toNat : Int), Value.nilIface]⟩)) 1 = Value.nilIface from rfl, neq_nil _ (Operand.const Value.nilIface) rfl]
      refine Ok.t rfl (Ok.f rfl ?_)
      have ew : IntKind.wrap IntKind.u8 (intOf (at_ (tupOf (Value.tuple ⟨[.int .u64 (c.toNat : Int), Value.nilIface]⟩)) 0)) = (c.toNat : Int) := IntWalk.u8_in _ (by show 0 ≤ (c.toNat : Int) ∧ (c.toNat : Int) ≤ 255; omega)
      rw [ew]
      have et : List.take ((mkStr (92 :: 120 :: d1 :: d2 :: enc y)).data.toList.length - 4) (List.drop 4 (mkStr (92 :: 120 :: d1 :: d2 :: enc y)).data.toList) = enc y := by
        rw [hlen]
        show List.take ((enc y).length + 4 - 4) (List.drop 4 (92 :: 120 :: d1 :: d2 :: enc y)) = enc y
        simp
      rw [et]
      refine push_seg (k := fun f w => cnd (p123_5 f (mkStr (quoteT x)) w (mkStr (enc y))) Prog.fail ((Nat.ble 4 (List.length (Array.toList (ByteArray.data (mkStr (92 :: 120 :: d1 :: d2 :: enc y)))))) && (Nat.ble (List.length (Array.toList (ByteArray.data (mkStr (92 :: 120 :: d1 :: d2 :: enc y))))) (List.length (Array.toList (ByteArray.data (mkStr (92 :: 120 :: d1 :: d2 :: enc y)))))))) (b65_1 _) b1 rfl (by simp) (by rw [u8s_length, List.length_singleton]; omega) rfl fun w s' g1 g2 g3 g4 => ?_
      refine Ok.t (by rw [hlen]; simp only [Bool.and_eq_true]; exact ⟨Nat.ble_eq_true_of_le (by omega), Nat.ble_eq_true_of_le (Nat.le_refl _)⟩) ?_
      exact nx w s' g1 g2 (Nat.le_trans f1.1 g3) fun k hk => by rw [g4 k hk, f1' k hk]
/-- What was quoted is unquoted. -/
theorem unquoteX (x : List UInt8) (hx : x.length ≤ 100000) : Ok (fun f => callF En (runP En f) 123 [.string (mkStr (quoteT x))]) s (fun v s' => v = .tuple ⟨[.string (mkStr x), .bool true]⟩ ∧ Fresh s s') := by
  have hel := enc_len x
  have hlen : (mkStr (quoteT x)).data.toList.length = (enc x).length + 2 := by
    show (quoteT x).length = _
    simp only [quoteT, List.length_cons, List.length_append, List.length_nil]
  refine Ok.step (fun f => f123_eq f _) ?_
  refine Ok.f (decide_eq_false (by rw [hlen]; simp only [Int.ofNat_eq_natCast]; omega)) ?_
  have e := subNat1 ((enc x).length + 2) (by omega) (by omega)
  rw [hlen, e]
  simp only [Int.ofNat_eq_natCast, Int.toNat_natCast]
  refine Ok.t (decide_eq_true (by omega)) ?_
  refine Ok.t (by simp only [Bool.and_eq_true]; exact ⟨Nat.ble_eq_true_of_le (by omega), Nat.ble_eq_true_of_le (by omega)⟩) ?_
  have et : List.take ((enc x).length + 2 - 1 - 1) (List.drop 1 (mkStr (quoteT x)).data.toList) = enc x := by
    show List.take ((enc x).length + 2 - 1 - 1) (List.drop 1 (34 :: (enc x ++ [34]))) = enc x
    rw [List.drop_succ_cons, List.drop_zero, show (enc x).length + 2 - 1 - 1 = (enc x).length by omega, List.take_left]
  rw [et]
  exact unqX_loop x hx s.ctr x [] _ s rfl ⟨rfl, Nat.le_refl _, .inl (Grow.nil _ _ _ _ _)⟩ ⟨_, _, _, rfl⟩
end
end Go.Proofs.YtmjbmbmnnephjaaGreatDoor
/- The lexer's quoted and symbols, exact. -/
namespace Go.Proofs.YtmjbmbmnnephjaaGreatDoor
open Go Go.Ev Go.Proofs Go.Num
section
variable {s : St} {b : Nat} {str : ByteArray} {ts : List Tok} {bad : Int}
theorem quotedX [Gh] {k : Nat} {x r : List UInt8} (h : LX s b str (k : Int) ts 0 bad) (hd : (bl str).drop (k + 1) = quoteT x ++ r) (hx : x.length ≤ 1000) (hk : k + 1 ≤ (bl str).length) (hs : (bl str).length ≤ 100000) :
    Ok (fun f => callF En (runP En f) 65 [.pointer (some ⟨b, 0, none⟩), .int .i64 1]) s (fun v s' => v = .tuple ⟨[.string (mkStr x), .int .i64 ((quoteT x).length : Int)]⟩ ∧ LX s' b str (k : Int) ts 0 bad ∧ Fresh s s') := by
  have hbl : (bl str).length = str.data.toList.length := rfl
  have hel := enc_len x
  have hq : (quoteT x).length = (enc x).length + 2 := by simp only [quoteT, List.length_cons, List.length_append, List.length_nil]
  have hlen := drop_le hd (by simp [quoteT])
  rw [List.length_append, hq] at hlen
  have hd2 : (bl str).drop (k + 2) = enc x ++ 34 :: r := by
    have := drop_next (k := k + 1) (c := 34) (r := enc x ++ 34 :: r) (by rw [hd]; simp [quoteT])
    exact this
  have hw1 : IntKind.i64.wrap ((k : Int) + 1) = (k : Int) + 1 := wrap_in _ (by omega) (by omega)
  have hw2 : IntKind.i64.wrap ((k : Int) + 1 + 1) = (k : Int) + 2 := by rw [show (k : Int) + 1 + 1 = (k : Int) + 2 by omega]; exact wrap_in _ (by omega) (by omega)
  refine Ok.step (fun f => f65_eq f b 1) ?_
  refine Ok.pl t3L h.c1 fun s1 r1 => ?_
  refine Ok.t rfl ?_
  refine Ok.pl t9L (h.c0.reads r1) fun s2 r2 => ?_
  have r2 := r1.trans r2
  refine Ok.t rfl ?_
  simp only [intOf, strOf, hw1, hw2]
  have e2 : ((k : Int) + 2).toNat = k + 2 := by omega
  have e1 : ((k : Int) + 1).toNat = k + 1 := by omega
  rw [e2, e1]
  refine Ok.t (decide_eq_true (by omega)) ?_
  refine Ok.t (by simp only [Bool.and_eq_true]; exact ⟨Nat.ble_eq_true_of_le (by omega), Nat.ble_eq_true_of_le (by omega)⟩) ?_
  have et : List.take (str.data.toList.length - (k + 2)) (List.drop (k + 2) str.data.toList) = enc x ++ 34 :: r := by
    rw [List.take_of_length_le (by rw [List.length_drop]; omega)]
    exact hd2
  rw [et]
  refine Ok.call (indexByte_ok s2 (mkStr (enc x ++ 34 :: r)) 34 (by decide)) ?_
  rintro v s3 ⟨rfl, rfl⟩
  have ef : findByte (34 : Int).toNat (bl (mkStr (enc x ++ 34 :: r))) 0 = Int.ofNat (enc x).length := by
    have := find_at 34 34 rfl (enc x) r 0 (enc_no x)
    rw [Nat.zero_add] at this
    exact this
  rw [ef]
  refine Ok.t rfl ?_
  refine Ok.t (decide_eq_true (by simp only [Int.ofNat_eq_natCast]; omega)) ?_
  refine Ok.pl t9L (h.c0.reads r2) fun s4 r4 => ?_
  have r4 := r2.trans r4
  refine Ok.t rfl ?_
  have hw3 : IntKind.i64.wrap ((k : Int) + 1 + Int.ofNat (enc x).length) = ((k + 1 + (enc x).length : Nat) : Int) := by
    rw [wrap_in _ (by simp only [Int.ofNat_eq_natCast]; omega) (by simp only [Int.ofNat_eq_natCast]; omega)]; simp only [Int.ofNat_eq_natCast]; omega
  have hw4 : IntKind.i64.wrap (((k + 1 + (enc x).length : Nat) : Int) + 2) = ((k + 1 + (enc x).length + 2 : Nat) : Int) := by
    rw [wrap_in _ (by omega) (by omega)]; omega
  have hw5 : IntKind.i64.wrap (Int.ofNat (enc x).length + 2) = ((quoteT x).length : Int) := by
    rw [wrap_in _ (by simp only [Int.ofNat_eq_natCast]; omega) (by simp only [Int.ofNat_eq_natCast]; omega), hq]; simp only [Int.ofNat_eq_natCast]; omega
  simp only [hw3, hw4, hw5, Int.toNat_natCast]
  refine Ok.t (decide_eq_true (by omega)) ?_
  refine Ok.t (decide_eq_true (by omega)) ?_
  refine Ok.t (by simp only [Bool.and_eq_true]; exact ⟨Nat.ble_eq_true_of_le (by omega), Nat.ble_eq_true_of_le (by omega)⟩) ?_
  have eu : List.take (k + 1 + (enc x).length + 2 - (k + 1)) (List.drop (k + 1) str.data.toList) = quoteT x := by
    rw [show k + 1 + (enc x).length + 2 - (k + 1) = (quoteT x).length by omega, show List.drop (k + 1) str.data.toList = quoteT x ++ r from hd, List.take_left]
  rw [eu]
  have h4 := h.reads r4
  refine Ok.call (unquoteX x (by omega)) ?_
  rintro v s5 ⟨rfl, f5⟩
  refine Ok.t rfl (Ok.t rfl ?_)
  exact Ok.ret ⟨rfl, h4.fresh f5, (Go.Ev.Reads.fresh r4).trans f5⟩
/-- What may be a symbol. -/
def SymL (x : List UInt8) : Prop := x.length ≤ 64 ∧ ∀ c ∈ x, c ≠ 0
def strs (l : List (List UInt8)) : List Value := l.map fun x => .string (mkStr x)
theorem strs_length (l : List (List UInt8)) : (strs l).length = l.length := by simp [strs]
theorem let_eq (c : UInt8) : isLetter (Int.ofNat c.toNat) = letB c := by
  unfold isLetter letB
  have e1 : ∀ k : Nat, decide ((k : Int) ≤ Int.ofNat c.toNat) = decide (k ≤ c.toNat) := fun k => by rw [decide_eq_decide]; simp only [Int.ofNat_eq_natCast]; omega
  have e2 : ∀ k : Nat, decide (Int.ofNat c.toNat ≤ (k : Int)) = decide (c.toNat ≤ k) := fun k => by rw [decide_eq_decide]; simp only [Int.ofNat_eq_natCast]; omega
  have h1 := e1 97; have h2 := e2 122; have h3 := e1 65; have h4 := e2 90
  simp only [Int.cast_ofNat_Int] at h1 h2 h3 h4
  rw [h1, h2, h3, h4]
theorem symsT_head (l : List (List UInt8)) : ∀ c r', symsT l = c :: r' → c = 96 := by
  cases l with
  | nil => intro c r' e; cases e
  | cons x l => intro c r' e; simp only [symsT, symT, List.cons_append, List.cons.injEq] at e; exact e.1.symm
theorem sym_loopX [Gh] (c : Nat) (p : Int) (hp : 0 ≤ p) (hs : (bl str).length ≤ 100000) (hl : ts.length ≤ 20000) :
    ∀ (rest done : List (List UInt8)) (k : Nat) (s : St), (∀ x ∈ rest, SymL x) → (bl str).drop k = symsT rest → p ≤ k → k ≤ (bl str).length → done.length + rest.length ≤ 65536 → SS s c b str (k : Int) ts 0 bad (strs done) →
    Ok (fun f => p64_2 f b p c 0) s (OneQ b str p ts bad 3 [] (strs (done ++ rest))) := by
  have t24 : scal En 24 = true := by kernel_rfl
  intro rest
  induction rest with
  | nil =>
    intro done k s hr hd hpk hk hcnt h
    have hke : k = (bl str).length := by
      have := congrArg List.length hd
      rw [List.length_drop] at this
      simp only [symsT, List.length_nil] at this
      omega
    refine Ok.step (fun f => p64_2_eq f b p c 0) ?_
    refine Ok.pl t24 h.lx.c3 fun s1 r1 => ?_
    have h1 := h.reads r1
    refine Ok.t rfl (Ok.t rfl ?_)
    refine Ok.call (peek_ok s1 b str k 0 h1.lx.c0 h1.lx.c1 (by omega) (by omega)) ?_
    rintro v s2 ⟨rfl, r2⟩
    have h2 := h1.reads r2
    rw [Int.add_zero, byteOf_end hd]
    refine Ok.t rfl (Ok.f rfl ?_)
    rw [List.append_nil]
    refine SS.value h2 p ⟨hp, by omega, by omega⟩ (by rw [strs_length]; omega) hl fun s' h' => ⟨rfl, ?_⟩
    rw [hke] at h'
    have e : ([] : List Value).length + (strs done).length = (strs done).length := Nat.zero_add _
    rw [e]
    exact h'
  | cons x rest ih =>
    intro done k s hr hd hpk hk hcnt h
    obtain ⟨hx64, hx0⟩ := hr x (List.mem_cons_self ..)
    have hd0 : (bl str).drop k = 96 :: (symB x ++ symsT rest) := by rw [hd]; rfl
    have hd1 : (bl str).drop (k + 1) = symB x ++ symsT rest := drop_next hd0
    have hlen := drop_le hd0 (by simp)
    rw [List.length_cons, List.length_append] at hlen
    simp only [List.length_cons] at hcnt
    have hbl : (bl str).length = str.data.toList.length := rfl
    refine Ok.step (fun f => p64_2_eq f b p c 0) ?_
    refine Ok.pl t24 h.lx.c3 fun s1 r1 => ?_
    have h1 := h.reads r1
    refine Ok.t rfl (Ok.t rfl ?_)
    refine Ok.call (peek_ok s1 b str k 0 h1.lx.c0 h1.lx.c1 (by omega) (by omega)) ?_
    rintro v s2 ⟨rfl, r2⟩
    have h2 := h1.reads r2
    rw [Int.add_zero, byteOf_head hd0]
    refine Ok.t rfl (Ok.t rfl ?_)
    refine Ok.pl t3L h2.lx.c1 fun s3 r3 => ?_
    have h3 := h2.reads r3
    refine Ok.t rfl ?_
    obtain ⟨xx, yy, hcell⟩ := h3.cell
    simp only [Nat.zero_add]
    refine Ok.pl (by kernel_rfl) hcell fun s4 r4 => ?_
    have h4 := h3.reads r4
    simp only [len29]
    refine Ok.callP (Q1 := fun v s' => v = vInt ((strs done).length : Nat) ∧ s' = s4) (Ok.ret ⟨rfl, rfl⟩) ?_
    rintro v s5 ⟨rfl, rfl⟩
    refine Ok.t rfl ?_
    refine Ok.f (decide_eq_false (by simp only [intOf, vInt, strs_length]; omega)) ?_
    simp only [intOf]
    have ek1 : (k : Int) + 1 = ((k + 1 : Nat) : Int) := by omega
    -- what comes behind: the symbol is added
    have k14 : ∀ (s6 : St), SS s6 c b str (k : Int) ts 0 bad (strs done) → Ok (fun f => p64_14 f b p c 0 (k : Int) (mkStr x) ((symB x).length : Int)) s6 (OneQ b str p ts bad 3 [] (strs (done ++ x :: rest))) := by
      intro s6 h6
      refine Ok.step (fun f => p64_14_eq f b p c 0 _ _ _) ?_
      refine Ok.pl t24 h6.lx.c3 fun s7 r7 => ?_
      have h7 := h6.reads r7
      refine Ok.t rfl (Ok.f rfl ?_)
      refine Ok.f (decide_eq_false (by show ¬ (Int.ofNat x.length) > 64; simp only [Int.ofNat_eq_natCast]; omega)) ?_
      refine Ok.call (indexByte_ok s7 (mkStr x) 0 (by decide)) ?_
      rintro v s8 ⟨rfl, rfl⟩
      have ef : findByte (0 : Int).toNat (bl (mkStr x)) 0 = -1 := find_no 0 x 0 fun d hd e => hx0 d hd (UInt8.toNat_inj.1 e)
      rw [ef]
      refine Ok.t rfl (Ok.f rfl ?_)
      have hw1 : IntKind.i64.wrap (1 + ((symB x).length : Int)) = 1 + ((symB x).length : Int) := wrap_in _ (by omega) (by omega)
      have hw2 : IntKind.i64.wrap ((k : Int) + (1 + ((symB x).length : Int))) = ((k + 1 + (symB x).length : Nat) : Int) := by rw [wrap_in _ (by omega) (by omega)]; omega
      refine Ok.step (fun f => p64_19_eq f b p c 0 _ _) ?_
      refine Ok.pl t3L h7.lx.c1 fun s9 r9 => ?_
      refine Ok.t rfl ?_
      simp only [intOf, hw1, hw2, Nat.zero_add]
      refine Ok.callP ((h7.reads r9).setAt _) ?_
      rintro v s10 ⟨rfl, h10⟩
      refine SS.push (k := fun f _ => p64_2 f b p c 0) h10 (by rw [strs_length]; omega) (mkStr x) fun s11 h11 => ?_
      have e : strs done ++ [.string (mkStr x)] = strs (done ++ [x]) := by simp [strs]
      rw [e] at h11
      have hdn : (bl str).drop (k + 1 + (symB x).length) = symsT rest := drop_app hd1
      have := ih (done ++ [x]) (k + 1 + (symB x).length) s11 (fun y hy => hr y (List.mem_cons_of_mem _ hy)) hdn (by omega) (by omega) (by rw [List.length_append, List.length_singleton]; omega) h11
      rw [List.append_assoc] at this
      exact this
    refine Ok.call (peek_ok s5 b str k 1 h4.lx.c0 h4.lx.c1 (by omega) (by omega)) ?_
    rintro v s6 ⟨rfl, r6⟩
    have h6 := h4.reads r6
    refine Ok.t rfl ?_
    simp only
    rw [ek1]
    by_cases hxe : x = []
    · -- the empty symbol
      have hsb : symB x = [] := by unfold symB; rw [if_pos hxe]
      rw [hsb, List.nil_append] at hd1
      have hnx : byteOf str ((k + 1 : Nat) : Int) = 0 ∨ byteOf str ((k + 1 : Nat) : Int) = 96 := by
        cases hq : symsT rest with
        | nil => rw [hq] at hd1; exact .inl (byteOf_end hd1)
        | cons d r' =>
          have := symsT_head rest d r' hq
          subst this
          rw [hq] at hd1
          exact .inr (byteOf_head hd1)
      refine Ok.f (decide_eq_false (by rcases hnx with h | h <;> rw [h] <;> decide)) ?_
      refine Ok.call (peek_ok s6 b str k 1 h6.lx.c0 h6.lx.c1 (by omega) (by omega)) ?_
      rintro v s7 ⟨rfl, r7⟩
      have h7 := h6.reads r7
      refine Ok.t rfl ?_
      simp only
      rw [ek1]
      refine Ok.call (letter_ok s7 _) ?_
      rintro v s8 ⟨rfl, rfl⟩
      refine Ok.t rfl ?_
      refine Ok.f (by simp only [boolOf]; rcases hnx with h | h <;> rw [h] <;> rfl) ?_
      have := k14 s8 h7
      rw [hsb, hxe] at this
      rw [hxe]
      exact this
    · by_cases hpl : plainB x = true
      · -- a plain name
        have hsb : symB x = x := by unfold symB; rw [if_neg hxe, if_pos hpl]
        rw [hsb] at hd1
        cases hxc : x with
        | nil => exact absurd hxc hxe
        | cons d x' =>
          have hpl' := hpl
          rw [hxc] at hpl'
          simp only [plainB, Bool.and_eq_true] at hpl'
          obtain ⟨hlet, hlng⟩ := hpl'
          have hb1 : byteOf str ((k + 1 : Nat) : Int) = Int.ofNat d.toNat := byteOf_head (c := d) (r := x' ++ symsT rest) (by rw [hd1, hxc]; rfl)
          rw [hb1]
          have hd34 : d.toNat ≠ 34 := by
            intro e
            simp only [letB, Bool.or_eq_true, Bool.and_eq_true, decide_eq_true_eq] at hlet
            omega
          refine Ok.f (decide_eq_false (by simp only [Int.ofNat_eq_natCast]; omega)) ?_
          refine Ok.call (peek_ok s6 b str k 1 h6.lx.c0 h6.lx.c1 (by omega) (by omega)) ?_
          rintro v s7 ⟨rfl, r7⟩
          have h7 := h6.reads r7
          refine Ok.t rfl ?_
          simp only
          rw [ek1, hb1]
          refine Ok.call (letter_ok s7 _) ?_
          rintro v s8 ⟨rfl, rfl⟩
          refine Ok.t rfl ?_
          refine Ok.t (by simp only [boolOf, let_eq, hlet]) ?_
          refine Ok.pl t3L h7.lx.c1 fun s9 r9 => ?_
          refine Ok.t rfl ?_
          have hw1 : IntKind.i64.wrap ((k : Int) + 1) = ((k + 1 : Nat) : Int) := by rw [wrap_in _ (by omega) (by omega)]; omega
          have hw2 : IntKind.i64.wrap (((k + 1 : Nat) : Int) + -1) = (k : Int) := by rw [wrap_in _ (by omega) (by omega)]; omega
          simp only [hw1]
          refine Ok.callP ((h7.reads r9).setAt _) ?_
          rintro v s10 ⟨rfl, h10⟩
          rw [hsb] at hlen
          refine Ok.call (run_ok long_ok s10 (by omega) (by omega) (by omega) h10.lx.c0 h10.lx.c1) ?_
          rintro v s11 ⟨m, hrun, rfl, r11⟩
          have h11 := h10.reads r11
          have := runV_exact hrun hd1 (fun e he => by rw [lng_eq]; exact List.all_eq_true.1 hlng e (hxc ▸ he)) (fun e r' he => by rw [lng_eq, symsT_head rest e r' he]; rfl)
          subst this
          have ey : mkStr (List.take x.length (List.drop ((k + 1 : Nat) : Int).toNat str.data.toList)) = mkStr x := by
            rw [Int.toNat_natCast, show List.drop (k + 1) str.data.toList = x ++ symsT rest from hd1, List.take_left']
            rfl
          rw [ey]
          refine Ok.t rfl ?_
          refine Ok.pl t3L h11.lx.c1 fun s12 r12 => ?_
          refine Ok.t rfl ?_
          simp only [hw2]
          refine Ok.callP ((h11.reads r12).setAt _) ?_
          rintro v s13 ⟨rfl, h13⟩
          have := k14 s13 h13
          rw [hsb] at this
          rw [hxc] at this ⊢
          exact this
      · -- a quoted one
        have hsb : symB x = quoteT x := by unfold symB; rw [if_neg hxe, if_neg hpl]
        rw [hsb] at hd1 hlen
        have hb1 : byteOf str ((k + 1 : Nat) : Int) = Int.ofNat (34 : UInt8).toNat := byteOf_head (r := (enc x ++ [34]) ++ symsT rest) (by rw [hd1]; rfl)
        rw [hb1]
        refine Ok.t rfl ?_
        refine Ok.call (quotedX h6.lx hd1 (by omega) (by omega) hs) ?_
        rintro v s7 ⟨rfl, h7, f7⟩
        have h7 : SS s7 c b str (k : Int) ts 0 bad (strs done) := h6.lxr h7 f7.1 fun j hj _ _ _ => f7.2 j hj
        refine Ok.t rfl ?_
        have := k14 s7 h7
        rw [hsb] at this
        exact this
theorem symbolsX [Gh] (k : Nat) (l : List (List UInt8)) (h0 : l ≠ []) (hr : ∀ x ∈ l, SymL x) (hcnt : l.length ≤ 65536) (h : LX s b str (k : Int) ts 0 bad) (hd : (bl str).drop k = symsT l) (hs : (bl str).length ≤ 100000) (hl : ts.length ≤ 20000) :
    Ok (fun f => callF En (runP En f) 64 [.pointer (some ⟨b, 0, none⟩)]) s (OneQ b str (k : Int) ts bad 3 [] (strs l)) := by
  have hk : k ≤ (bl str).length := by
    cases l with
    | nil => exact absurd rfl h0
    | cons x l =>
      have := drop_le hd (by simp [symsT, symT])
      omega
  refine Ok.step (fun f => f64_eq f b) ?_
  refine Ok.pl t3L h.c1 fun s1 r1 => ?_
  have h1 := h.reads r1
  refine Ok.t rfl (Ok.g rfl ?_)
  refine Ok.callP (Ok.new rfl) ?_
  rintro v s2 ⟨rfl, e1, e2, e3⟩
  refine Ok.t rfl ?_
  simp only [blk_itP, off_itP, intOf]
  refine Ok.callP (Ok.storeRow (n := 4) (ws := [Value.int IntKind.i64 3, Value.slice none 0 0, Value.slice none 0 0, Value.slice none 0 0]) (by kernel_rfl) e2 rfl rfl rfl) ?_
  rintro v s3 ⟨rfl, c3, g3, k3⟩
  have := sym_loopX (b := b) (str := str) (ts := ts) (bad := bad) s1.ctr (k : Int) (by omega) hs hl l [] k s3 hr hd (Int.le_refl _) hk (by simp only [List.length_nil]; omega) ⟨LXh.frame h1 (Nat.le_refl _) fun k hk => by rw [k3 k (.inl (by omega)), e3 k hk], by omega, _, g3, Grow.nil _ _ _ _ _⟩
  exact this
end
end Go.Proofs.YtmjbmbmnnephjaaGreatDoor
/- The reference's Plain and Symbol, exact. -/
namespace Go.Proofs.YtmjbmbmnnephjaaGreatDoor
open Go Go.Ev Go.Proofs Go.Num
theorem r4letter_ok (s : St) (c : Int) : Ok (fun f => callF En (runP En f) 132 [.int .u8 c]) s (fun v s' => v = .bool (isLetter c) ∧ s' = s) := by
  refine Ok.step (fun f => f132_eq f c) ?_
  unfold isLetter
  repeat' (first | refine Ok.c (fun h => ?_) (fun h => ?_) | exact Ok.ret ⟨by simp_all <;> omega, rfl⟩)
theorem r4inside_ok (s : St) (c : Int) : Ok (fun f => callF En (runP En f) 133 [.int .u8 c]) s (fun v s' => v = .bool (isLong c) ∧ s' = s) := by
  refine Ok.step (fun f => f133_eq f c) ?_
  refine Ok.call (r4letter_ok s c) ?_
  rintro v s1 ⟨rfl, rfl⟩
  refine Ok.t rfl ?_
  unfold isLong isInside isDigit
  simp only [boolOf]
  repeat' (first | refine Ok.c (fun h => ?_) (fun h => ?_) | exact Ok.ret ⟨by simp_all <;> omega, rfl⟩)
theorem byteAt_drop {x : ByteArray} {i : Nat} {c : UInt8} {r : List UInt8} (h : (bl x).drop i = c :: r) : byteAt x i = c.toNat := by
  have e : (bl x)[i]? = some c := by rw [← List.head?_drop, h]; rfl
  unfold byteAt
  show ((bl x).getD i 0).toNat = _
  rw [List.getD_eq_getElem?_getD, e]
  rfl
theorem plain_loop (x : ByteArray) (hx : (bl x).length ≤ 1000000) : ∀ (m i : Nat) (s : St), i + m = (bl x).length → Ok (fun f => p76_4 f x (i : Int)) s (fun v s' => v = .bool (((bl x).drop i).all lngB) ∧ s' = s) := by
  have hbl : (bl x).length = x.data.toList.length := rfl
  intro m
  induction m with
  | zero =>
    intro i s hm
    refine Ok.step (fun f => p76_4_eq f x i) ?_
    refine Ok.f (decide_eq_false (by simp only [Int.ofNat_eq_natCast]; omega)) (Ok.ret ⟨?_, rfl⟩)
    rw [List.drop_of_length_le (by omega)]
    rfl
  | succ m ih =>
    intro i s hm
    have hw1 : IntKind.i64.wrap ((i : Int) + 1) = ((i + 1 : Nat) : Int) := by rw [wrap_in _ (by omega) (by omega)]; omega
    obtain ⟨c, r, hd⟩ : ∃ c r, (bl x).drop i = c :: r := by
      cases hd : (bl x).drop i with
      | nil => have := congrArg List.length hd; rw [List.length_drop, List.length_nil] at this; omega
      | cons c r => exact ⟨c, r, rfl⟩
    have hr : (bl x).drop (i + 1) = r := drop_next hd
    have ih := ih (i + 1) s (by omega)
    rw [hr] at ih
    refine Ok.step (fun f => p76_4_eq f x i) ?_
    refine Ok.t (decide_eq_true (by simp only [Int.ofNat_eq_natCast]; omega)) ?_
    refine Ok.t (decide_eq_true (by omega)) ?_
    refine Ok.t (Nat.ble_eq_true_of_le (by simp only [Int.toNat_natCast]; omega)) ?_
    rw [Int.toNat_natCast, byteAt_drop hd, hd, hw1]
    refine Ok.call (r4inside_ok s _) ?_
    rintro v s1 ⟨rfl, rfl⟩
    refine Ok.t rfl ?_
    simp only [boolOf, lng_eq, List.all_cons]
    cases hl : lngB c with
    | false => exact Ok.t rfl (Ok.ret ⟨by simp, rfl⟩)
    | true =>
      refine Ok.f rfl ?_
      simp only [Bool.true_and]
      exact ih
theorem plain4_ok (s : St) (x : List UInt8) (hx : x.length ≤ 1000000) : Ok (fun f => callF En (runP En f) 76 [.string (mkStr x)]) s (fun v s' => v = .bool (plainB x) ∧ s' = s) := by
  refine Ok.step (fun f => f76_eq f (mkStr x)) ?_
  cases x with
  | nil => exact Ok.t rfl (Ok.ret ⟨rfl, rfl⟩)
  | cons c r =>
    refine Ok.f rfl ?_
    refine Ok.t (Nat.ble_eq_true_of_le (by show 1 ≤ (c :: r).length; simp)) ?_
    rw [byteAt_drop (x := mkStr (c :: r)) (i := 0) (c := c) (r := r) rfl]
    refine Ok.call (r4letter_ok s _) ?_
    rintro v s1 ⟨rfl, rfl⟩
    refine Ok.t rfl ?_
    simp only [boolOf, let_eq, plainB]
    cases hl : letB c with
    | false => exact Ok.t rfl (Ok.ret ⟨by simp, rfl⟩)
    | true =>
      refine Ok.f rfl ?_
      simp only [Bool.true_and]
      exact plain_loop (mkStr (c :: r)) hx (c :: r).length 0 s1 (by rw [Nat.zero_add]; rfl)
theorem symbol4_ok (s : St) (x : List UInt8) (hx : x.length ≤ 100000) : Ok (fun f => callF En (runP En f) 73 [.string (mkStr x)]) s (fun v s' => v = .string (mkStr (symT x)) ∧ Fresh s s') := by
  refine Ok.step (fun f => f73_eq f (mkStr x)) ?_
  have hl : 1 + (Array.toList (ByteArray.data (mkStr x))).length ≤ 9223372036854775807 := by show 1 + x.length ≤ _; omega
  unfold symT symB
  cases x with
  | nil =>
    refine Ok.t rfl ?_
    exact Ok.t (Nat.ble_eq_true_of_le hl) (Ok.ret ⟨rfl, Fresh.refl _⟩)
  | cons c r =>
    refine Ok.f rfl ?_
    refine Ok.call (plain4_ok s (c :: r) (by omega)) ?_
    rintro v s1 ⟨rfl, rfl⟩
    refine Ok.t rfl ?_
    simp only [boolOf, if_neg (List.cons_ne_nil c r)]
    cases hp : plainB (c :: r) with
    | true => exact Ok.t rfl (Ok.t (Nat.ble_eq_true_of_le hl) (Ok.ret ⟨rfl, Fresh.refl _⟩))
    | false =>
      refine Ok.f rfl ?_
      have he := enc_len (c :: r)
      refine Ok.call (refquote_ok s1 (mkStr (c :: r)) (by show (c :: r).length ≤ _; omega)) ?_
      rintro v s2 ⟨rfl, f2⟩
      refine Ok.t rfl ?_
      rw [qStr_enc]
      refine Ok.t (Nat.ble_eq_true_of_le (by show 1 + (quoteT (c :: r)).length ≤ _; simp only [quoteT, List.length_cons, List.length_append, List.length_nil] at he hx ⊢; omega)) ?_
      exact Ok.ret ⟨rfl, f2⟩
end Go.Proofs.YtmjbmbmnnephjaaGreatDoor
/- The lexer: negative. -/
namespace Go.Ev
open Go
theorem Ok.rd {E : Env} {t b o : Nat} {v : Value} {s : St} {Q : Value → St → Prop} {k : Nat → Value → Prog} {Inv : St → Prop} (hr : ∀ s s', Inv s → Reads s s' → Inv s') (hI : Inv s) (hs : scal E t = true) (h : Cell s.mem b o v)
    (hk : ∀ s', Inv s' → Ok (fun f => k f v) s' Q) : Ok (fun f => Ev.callP (k f) (loadT E t b o)) s Q := by
  refine Ok.callP (Ok.load1 hs h) ?_
  rintro w s1 ⟨rfl, e1, e2, e3⟩
  exact hk s1 (hr s s1 hI ⟨e1, e2, [⟨false, b + 1 + o, 1⟩, ⟨false, b, 1⟩], e3, rfl⟩)
end Go.Ev
namespace Go.Proofs.YtmjbmbmnnephjaaGreatDoor
open Go Go.Ev Go.Proofs
section
variable {s : St} {b : Nat} {str : ByteArray} {a : Int} {ts : List Tok} {bad : Int}
end
end Go.Proofs.YtmjbmbmnnephjaaGreatDoor
/- The lexer: a token of a piece of the text; mark. -/
namespace Go.Proofs.YtmjbmbmnnephjaaGreatDoor
open Go Go.Ev Go.Proofs
theorem freeL_reads (m : Nat) (sg : List Acc) (h : writesOf sg = []) : ∀ (ds : List Done), (∀ d ∈ ds, d.ws = []) → freeL m (writesOf sg) sg ds = true
  | [], _ => rfl
  | d :: ds, g => by
    have hd := g d (List.mem_cons_self ..)
    have ih := freeL_reads m sg h ds fun d hd => g d (List.mem_cons_of_mem _ hd)
    have : apartLogs [] d.all [] sg = true := rfl
    rw [h] at ih ⊢
    simp only [freeL, ih, Bool.and_true, hd, this, Bool.or_true]
theorem segReads {p : Nat → Prog} {s : St} {R : Value → Prop} {Q : Value → St → Prop} {k : Nat → Value → List Acc → Nat → Prog} (h : Ok p ⟨s.mem, s.ctr, []⟩ (fun v s' => R v ∧ Reads ⟨s.mem, s.ctr, []⟩ s'))
    (hk : ∀ v s1 sg, R v → Reads s s1 → writesOf sg = [] → Ok (fun f => k f v sg s.ctr) s1 Q) : Ok (fun f => .seg (p f) (k f)) s Q := by
  refine Ok.seg h ?_
  rintro v s1 ⟨hR, e1, e2, l, e3, e4⟩
  simp only [List.append_nil] at e1 e2 e3
  rw [e2]
  exact hk v _ s1.log hR ⟨e1, rfl, s1.log, rfl, by rw [e3]; exact e4⟩ (by rw [e3]; exact e4)
section
variable {s : St} {b : Nat} {str : ByteArray} {a : Int} {ts : List Tok} {bad : Int}
end
end Go.Proofs.YtmjbmbmnnephjaaGreatDoor
/- The lexer: token. -/
namespace Go.Proofs.YtmjbmbmnnephjaaGreatDoor
open Go Go.Ev Go.Proofs
section
variable {s : St} {b : Nat} {str : ByteArray} {a : Int} {ts : List Tok} {bad : Int}
theorem callQ {Q : Value → St → Prop} {g : Nat} (hQ : ∀ v s', Q v s' → v = .tuple ⟨[]⟩) (h : Ok (fun f => callF En (runP En f) g [(Value.pointer (Option.some (Addr.mk b 0 Option.none)))]) s Q) :
    Ok (fun f => Prog.call (callF En (runP En f) g [(Value.pointer (Option.some (Addr.mk b 0 Option.none)))]) fun v79 => (cnd (Prog.ret (Value.tuple ⟨[]⟩)) Prog.fail ((isTupV v79) && (okNs [] (tupOf v79))))) s Q := by
  refine Ok.call h ?_
  intro v s1 hq
  have e := hQ v s1 hq
  subst e
  exact Ok.t rfl (Ok.ret hq)
end
end Go.Proofs.YtmjbmbmnnephjaaGreatDoor
/- The lexer: Lex. -/
namespace Go.Proofs.YtmjbmbmnnephjaaGreatDoor
open Go Go.Ev Go.Proofs
def blanks (str : ByteArray) (p q : Int) : Prop := ∀ i : Int, p ≤ i → i < q → byteI str i = 32
/-- Tokens cover all bytes of a stretch but blanks. -/
def Cov (str : ByteArray) : Int → List Tok → Int → Prop
  | w, [], e => w ≤ e ∧ blanks str w e
  | w, t :: ts, e => w ≤ t.at_ ∧ blanks str w t.at_ ∧ TokOK str t.at_ t ∧ Cov str t.en ts e
theorem Cov.blank {str : ByteArray} : ∀ {ts : List Tok} {w e e' : Int}, Cov str w ts e → e ≤ e' → blanks str e e' → Cov str w ts e'
  | [], w, e, e', h, h1, h2 => ⟨by have := h.1; omega, fun i hi hj => if hk : i < e then h.2 i hi hk else h2 i (by omega) hj⟩
  | t :: ts, w, e, e', h, h1, h2 => ⟨h.1, h.2.1, h.2.2.1, Cov.blank h.2.2.2 h1 h2⟩
section
variable {s : St} {b : Nat} {str : ByteArray} {a : Int} {ts : List Tok} {err bad : Int}
theorem len23 (a : Option Addr) (n c : Nat) : builtinA En Builtin.len (23 :: []) (Value.slice a n c :: []) = .ret (vInt n) := by kernel_rfl
end
end Go.Proofs.YtmjbmbmnnephjaaGreatDoor
/- The reference's Check: of values that the lexer makes. -/
namespace Go.Proofs.YtmjbmbmnnephjaaGreatDoor
open Go Go.Ev Go.Proofs
abbrev vC (t : Int) (n sy l : List Value) : List Value := [.int .i64 t, lstV n, lstV sy, lstV l]
/-- A value's row is at c, and nothing older has changed. -/
def VI (s0 : St) (c : Nat) (vs : List Value) (s : St) : Prop := (Row s.mem c vs ∧ c + 1 + vs.length ≤ s.ctr ∧ s0.ctr ≤ c) ∧ Fresh s0 s
theorem VI.fresh {s0 s s' : St} {c : Nat} {vs : List Value} (h : VI s0 c vs s) (f : Fresh s s') : VI s0 c vs s' := by
  obtain ⟨⟨h1, h2, h3⟩, h4⟩ := h
  exact ⟨⟨h1.congr fun j _ hj => f.2 j (by omega), by have := f.1; omega, h3⟩, h4.trans f⟩
theorem VI.reads {s0 : St} {c : Nat} {vs : List Value} (s s' : St) (h : VI s0 c vs s) (f : Reads s s') : VI s0 c vs s' := h.fresh (Go.Ev.Reads.fresh f)
section
variable {s s0 : St} {Q : Value → St → Prop} {c : Nat} {vs : List Value}
theorem vStart {t : Int} {n sy l : List Value} {k : Nat → Value → Prog} (hk : ∀ s', VI s s.ctr (vC t n sy l) s' → Ok (fun f => k f (itP s.ctr)) s' Q) :
    Ok (fun f => Ev.callP (k f) (Prog.newH (Hdr.mk 4 32 Bool.false Bool.true Bool.true 0 Bool.false Bool.false []) ((Value.int IntKind.i64 t) :: ((lstV n) :: ((lstV sy) :: ((lstV l) :: [])))) (fun z7 => (Prog.ret (itP z7))))) s Q := by
  refine Ok.callP (Ok.new rfl) ?_
  rintro v s1 ⟨rfl, e1, e2, e3⟩
  exact hk s1 ⟨⟨e2, by show s.ctr + 1 + 4 ≤ s1.ctr; omega, Nat.le_refl _⟩, by omega, e3⟩
theorem rdV {t o : Nat} {v : Value} {k : Nat → Value → Prog} (hI : VI s0 c vs s) (hs : scal En t = true) (hv : vs[o]? = some v) (hk : ∀ s', VI s0 c vs s' → Ok (fun f => k f v) s' Q) : Ok (fun f => Ev.callP (k f) (loadT En t c o)) s Q :=
  Ok.rd VI.reads hI hs (hI.1.1.cell o hv) hk
theorem rdVA {t : Nat} {k : Nat → Value → Prog} (hI : VI s0 c vs s) (ha : aggr En t = true) (hs : En.size t = some vs.length) (hk : ∀ s', VI s0 c vs s' → Ok (fun f => k f (.agg ⟨vs⟩)) s' Q) : Ok (fun f => Ev.callP (k f) (loadT En t c 0)) s Q := by
  obtain ⟨el, ex, z, sy', hf⟩ := hI.1.1.1
  refine Ok.callP (Ok.loadA (vs := vs) ha hs rfl ⟨_, hf⟩ hI.1.1.2) ?_
  rintro w s1 ⟨rfl, m1, c1, l1⟩
  exact hk s1 (VI.reads s s1 hI ⟨m1, c1, [⟨false, c + 1 + 0, vs.length⟩, ⟨false, c, 1⟩], l1, rfl⟩)
def absV (t : Int) : Int := if t < 0 ∧ t ≥ -5 then IntKind.i64.wrap ((0 : Int) + Int.neg t) else t
theorem callAbs {x : Int} {k : Nat → Value → Prog} (hk : Ok (fun f => k f (.int .i64 (absV x))) s Q) : Ok (fun f => .call (callF En (runP En f) 125 [.int .i64 x]) (k f)) s Q := by
  refine Ok.call (Q1 := fun v s' => v = .int .i64 (absV x) ∧ s' = s) ?_ ?_
  · refine Ok.step (fun f => f125_eq f x) ?_
    refine Ok.c (fun h1 => Ok.c (fun h2 => ?_) (fun h2 => ?_)) (fun h1 => ?_)
    · have h1 := of_decide_eq_true h1
      have h2 := of_decide_eq_true h2
      exact Ok.ret ⟨by rw [absV, if_pos ⟨h1, h2⟩], rfl⟩
    · have h2 := of_decide_eq_false h2
      exact Ok.ret ⟨by rw [absV, if_neg (fun h => h2 h.2)], rfl⟩
    · have h1 := of_decide_eq_false h1
      exact Ok.ret ⟨by rw [absV, if_neg (fun h => h1 h.1)], rfl⟩
  · rintro v s1 ⟨rfl, rfl⟩
    exact hk
def isAtomV (t : Int) : Bool := decide (t < 0) && decide (t ≥ -5)
def isVecV (t : Int) : Bool := decide (t ≥ 1) && decide (t ≤ 5)
theorem isAtom_ok (s : St) (t : Int) (n sy l : List Value) : Ok (fun f => callF En (runP En f) 14 [.agg ⟨vC t n sy l⟩]) s (fun v s' => v = .bool (isAtomV t) ∧ Fresh s s') := by
  refine Ok.step (fun f => f14_eq f t n sy l) ?_
  refine Ok.g rfl (vStart fun s' hI => ?_)
  refine Ok.t rfl ?_
  simp only [blk_itP, off_itP, Nat.zero_add]
  refine rdV hI (by kernel_rfl) rfl fun s' hI => ?_
  refine Ok.t rfl ?_
  refine Ok.c (fun h => ?_) (fun h => ?_)
  · refine rdV hI (by kernel_rfl) rfl fun s' hI => ?_
    refine Ok.t rfl (Ok.ret ⟨?_, hI.2⟩)
    have h := of_decide_eq_true h
    simp only [intOf] at h ⊢
    simp only [isAtomV, decide_eq_true h, Bool.true_and]
    rfl
  · have h := of_decide_eq_false h
    simp only [intOf] at h
    exact Ok.ret ⟨by simp only [isAtomV, decide_eq_false h, Bool.false_and], hI.2⟩
theorem isVec_ok (s : St) (t : Int) (n sy l : List Value) : Ok (fun f => callF En (runP En f) 15 [.agg ⟨vC t n sy l⟩]) s (fun v s' => v = .bool (isVecV t) ∧ Fresh s s') := by
  refine Ok.step (fun f => f15_eq f t n sy l) ?_
  refine Ok.g rfl (vStart fun s' hI => ?_)
  refine Ok.t rfl ?_
  simp only [blk_itP, off_itP, Nat.zero_add]
  refine rdV hI (by kernel_rfl) rfl fun s' hI => ?_
  refine Ok.t rfl ?_
  refine Ok.c (fun h => ?_) (fun h => ?_)
  · refine rdV hI (by kernel_rfl) rfl fun s' hI => ?_
    refine Ok.t rfl (Ok.ret ⟨?_, hI.2⟩)
    have h := of_decide_eq_true h
    simp only [intOf] at h ⊢
    simp only [isVecV, decide_eq_true h, Bool.true_and]
    rfl
  · have h := of_decide_eq_false h
    simp only [intOf] at h
    exact Ok.ret ⟨by simp only [isVecV, decide_eq_false h, Bool.false_and], hI.2⟩
theorem callAtom {t : Int} {n sy l : List Value} {k : Nat → Value → Prog} (hI : VI s0 c vs s) (hk : ∀ s', VI s0 c vs s' → Ok (fun f => k f (.bool (isAtomV t))) s' Q) : Ok (fun f => .call (callF En (runP En f) 14 [.agg ⟨vC t n sy l⟩]) (k f)) s Q := by
  refine Ok.call (isAtom_ok s t n sy l) ?_
  rintro v s1 ⟨rfl, f1⟩
  exact hk s1 (hI.fresh f1)
theorem callVec {t : Int} {n sy l : List Value} {k : Nat → Value → Prog} (hI : VI s0 c vs s) (hk : ∀ s', VI s0 c vs s' → Ok (fun f => k f (.bool (isVecV t))) s' Q) : Ok (fun f => .call (callF En (runP En f) 15 [.agg ⟨vC t n sy l⟩]) (k f)) s Q := by
  refine Ok.call (isVec_ok s t n sy l) ?_
  rintro v s1 ⟨rfl, f1⟩
  exact hk s1 (hI.fresh f1)
/-- Which values are checked here: plain numbers, or symbols. -/
def Num (t : Int) : Prop := t = 1 ∨ t = 2 ∨ t = 4 ∨ t = 5 ∨ t = -1 ∨ t = -2 ∨ t = -4 ∨ t = -5
def Sym (t : Int) : Prop := t = 3 ∨ t = -3
theorem fieldsN (s : St) (t : Int) (ht : Num t) : Ok (fun f => callF En (runP En f) 68 [.int .i64 t]) s (fun v s' => v = .tuple ⟨[.bool true, .bool false, .bool false, .bool true]⟩ ∧ s' = s) := by
  rcases ht with rfl | rfl | rfl | rfl | rfl | rfl | rfl | rfl <;>
  · refine Ok.step (fun f => f68_eq f _) ?_
    refine callAbs (Ok.t rfl (Ok.f rfl (Ok.t rfl (callAbs (Ok.t rfl (Ok.t rfl (callAbs (Ok.t rfl (Ok.t rfl ?_)))))))))
    exact Ok.ret ⟨rfl, rfl⟩
theorem fieldsS (s : St) (t : Int) (ht : Sym t) : Ok (fun f => callF En (runP En f) 68 [.int .i64 t]) s (fun v s' => v = .tuple ⟨[.bool false, .bool true, .bool false, .bool true]⟩ ∧ s' = s) := by
  rcases ht with rfl | rfl <;>
  · refine Ok.step (fun f => f68_eq f _) ?_
    refine callAbs (Ok.t rfl (Ok.t rfl ?_))
    exact Ok.ret ⟨rfl, rfl⟩
theorem many_ok (s : St) (t : Int) (n sy l : List Value) (ht : Num t ∨ Sym t) (hn : n.length ≤ 65536) (hs : sy.length ≤ 65536) : Ok (fun f => callF En (runP En f) 69 [.agg ⟨vC t n sy l⟩]) s (fun v s' => v = .bool false ∧ Fresh s s') := by
  refine Ok.step (fun f => f69_eq f t n sy l) ?_
  refine Ok.g rfl (vStart fun s' hI => ?_)
  refine Ok.t rfl ?_
  simp only [blk_itP, off_itP, Nat.zero_add]
  refine rdV hI (by kernel_rfl) rfl fun s' hI => ?_
  refine Ok.t rfl ?_
  simp only [intOf]
  refine Ok.c (fun _ => ?_) (fun h3 => ?_)
  · refine rdV hI (by kernel_rfl) rfl fun s' hI => ?_
    refine Ok.t rfl (Ok.ret ⟨?_, hI.2⟩)
    exact congrArg Value.bool (decide_eq_false (by show ¬ (sy.length : Int) > 65536; omega))
  have h3 := of_decide_eq_false h3
  have ht : Num t ∨ t = -3 := by
    rcases ht with h | h | h
    · exact .inl h
    · exact absurd h h3
    · exact .inr h
  refine rdVA hI (by kernel_rfl) (by kernel_rfl) fun s' hI => ?_
  refine Ok.t rfl ?_
  refine callVec (t := t) (n := n) (sy := sy) (l := l) hI fun s' hI => ?_
  refine Ok.t rfl ?_
  refine Ok.c (fun _ => ?_) (fun hv => ?_)
  · refine rdV hI (by kernel_rfl) rfl fun s' hI => ?_
    refine Ok.t rfl (Ok.ret ⟨?_, hI.2⟩)
    exact congrArg Value.bool (decide_eq_false (by show ¬ (n.length : Int) > 65536; omega))
  have hneg : t < 0 := by
    have hv : (isVecV t) = false := hv
    simp only [isVecV, Bool.and_eq_false_iff, decide_eq_false_iff_not] at hv
    rcases ht with h | h
    · unfold Num at h; omega
    · omega
  refine rdV hI (by kernel_rfl) rfl fun s' hI => ?_
  refine Ok.t rfl ?_
  simp only [intOf]
  refine Ok.f (decide_eq_false (by omega)) ?_
  refine rdV hI (by kernel_rfl) rfl fun s' hI => ?_
  refine Ok.t rfl ?_
  simp only [intOf]
  refine Ok.f (decide_eq_false (by omega)) (Ok.ret ⟨rfl, hI.2⟩)
end
end Go.Proofs.YtmjbmbmnnephjaaGreatDoor
/- The reference's Check: long, symbol, plain. -/
namespace Go.Proofs.YtmjbmbmnnephjaaGreatDoor
open Go Go.Ev Go.Proofs
section
variable {s s0 : St} {Q : Value → St → Prop} {c : Nat} {vs : List Value}
theorem at_get (l : List Value) (i : Nat) (h : i < l.length) : at_ l i = l[i] := by
  unfold at_
  simp [List.getD, h]
theorem str_hd (sy : List Value) (hs : ∀ x ∈ sy, SymV x) : hdOk 1 sy = true := by
  cases sy with
  | nil => rfl
  | cons x r =>
    obtain ⟨y, rfl, _⟩ := hs x (List.mem_cons_self ..)
    rfl
theorem long_loop (t : Int) (n sy : List Value) (most : Int) (hm : 64 ≤ most) (hs : ∀ x ∈ sy, SymV x) (hl : sy.length ≤ 65536) : ∀ (m i : Nat) (s : St), i + m = sy.length → VI s0 c (vC t n sy []) s →
    Ok (fun f => p70_5 f c 0 most (i : Int)) s (fun v s' => v = .bool false ∧ Fresh s0 s') := by
  intro m
  induction m with
  | zero =>
    intro i s hm hI
    refine Ok.step (fun f => p70_5_eq f c 0 most i) ?_
    simp only [Nat.zero_add]
    refine rdV hI (by kernel_rfl) rfl fun s' hI => ?_
    refine Ok.t rfl ?_
    refine Ok.f (decide_eq_false (by show ¬ (i : Int) < (sy.length : Int); omega)) (Ok.ret ⟨rfl, hI.2⟩)
  | succ m IH =>
    intro i s hm2 hI
    have hi : i < sy.length := by omega
    have hw1 : IntKind.i64.wrap ((i : Int) + 1) = ((i + 1 : Nat) : Int) := by rw [wrap_in _ (by omega) (by omega)]; omega
    obtain ⟨y, hy, hy2, _⟩ := hs sy[i] (List.getElem_mem hi)
    refine Ok.step (fun f => p70_5_eq f c 0 most i) ?_
    simp only [Nat.zero_add]
    refine rdV hI (by kernel_rfl) rfl fun s' hI => ?_
    refine Ok.t rfl ?_
    refine Ok.t (decide_eq_true (by show (i : Int) < (sy.length : Int); omega)) ?_
    refine rdV hI (by kernel_rfl) rfl fun s' hI => ?_
    refine Ok.t rfl ?_
    simp only [show ∀ x, elems (lstV x) = x from fun _ => rfl, Int.toNat_natCast, at_get sy i hi, hy]
    refine Ok.t (decide_eq_true (by omega)) ?_
    refine Ok.t (by rw [Bool.and_true]; simp only [Bool.and_eq_true]; exact ⟨Nat.ble_eq_true_of_le (by omega), str_hd sy hs⟩) ?_
    refine Ok.t rfl (Ok.t rfl ?_)
    refine Ok.f (decide_eq_false (by show ¬ ((bl y).length : Int) > most; omega)) ?_
    rw [hw1]
    exact IH (i + 1) s' (by omega) hI
theorem long_v (s : St) (t : Int) (n sy : List Value) (hs : ∀ x ∈ sy, SymV x) (hl : sy.length ≤ 65536) : Ok (fun f => callF En (runP En f) 70 [.agg ⟨vC t n sy []⟩]) s (fun v s' => v = .bool false ∧ Fresh s s') := by
  refine Ok.step (fun f => f70_eq f t n sy []) ?_
  refine Ok.g rfl (vStart fun s' hI => ?_)
  refine Ok.t rfl ?_
  simp only [blk_itP, off_itP, Nat.zero_add]
  refine rdV hI (by kernel_rfl) rfl fun s' hI => ?_
  refine Ok.t rfl ?_
  refine Ok.c (fun _ => ?_) (fun _ => ?_)
  · exact Ok.step (fun f => p70_4_eq f _ 0 65536) (long_loop t n sy _ (by decide) hs hl sy.length 0 s' (by omega) hI)
  · exact Ok.step (fun f => p70_4_eq f _ 0 64) (long_loop t n sy _ (by decide) hs hl sy.length 0 s' (by omega) hI)
theorem sym_l (y : ByteArray) (hy : ∀ c ∈ bl y, c ≠ 0) (hl : (bl y).length ≤ 1000000) (s : St) : ∀ (m i : Nat), i + m = (bl y).length → Ok (fun f => p129_2 f y (i : Int)) s (fun v s' => v = .bool true ∧ s' = s) := by
  intro m
  induction m with
  | zero =>
    intro i hm
    refine Ok.step (fun f => p129_2_eq f y i) ?_
    exact Ok.f (decide_eq_false (by show ¬ (i : Int) < ((bl y).length : Int); omega)) (Ok.ret ⟨rfl, rfl⟩)
  | succ m IH =>
    intro i hm
    have hw1 : IntKind.i64.wrap ((i : Int) + 1) = ((i + 1 : Nat) : Int) := by rw [wrap_in _ (by omega) (by omega)]; omega
    refine Ok.step (fun f => p129_2_eq f y i) ?_
    refine Ok.t (decide_eq_true (by show (i : Int) < ((bl y).length : Int); omega)) ?_
    refine Ok.t (decide_eq_true (by omega)) ?_
    simp only [Int.toNat_natCast]
    refine Ok.t (Nat.ble_eq_true_of_le (by show i + 1 ≤ (bl y).length; omega)) ?_
    obtain ⟨ch, hc, e⟩ := byteAt_mem y i (by omega)
    refine Ok.f (decide_eq_false (by rw [e]; intro h; exact hy ch hc (UInt8.toNat_inj.1 (by simpa using h)))) ?_
    rw [hw1]
    exact IH (i + 1) (by omega)
theorem callSym {y : ByteArray} (hy : ∀ c ∈ bl y, c ≠ 0) (hl : (bl y).length ≤ 1000000) {k : Nat → Value → Prog} (hk : Ok (fun f => k f (.bool true)) s Q) : Ok (fun f => .call (callF En (runP En f) 129 [.string y]) (k f)) s Q := by
  refine Ok.call (Q1 := fun v s' => v = .bool true ∧ s' = s) (Ok.step (fun f => f129_eq f y) (sym_l y hy hl s (bl y).length 0 (by omega))) ?_
  rintro v s1 ⟨rfl, rfl⟩
  exact hk
end
end Go.Proofs.YtmjbmbmnnephjaaGreatDoor
/- The reference's Check: plain. -/
namespace Go.Proofs.YtmjbmbmnnephjaaGreatDoor
open Go Go.Ev Go.Proofs
section
variable {s s0 : St} {Q : Value → St → Prop} {c : Nat} {vs : List Value}
theorem sym_19 (t : Int) (ht : absV t = 3) (n sy : List Value) (hs : ∀ x ∈ sy, SymV x) (hl : sy.length ≤ 65536) : ∀ (m i : Nat) (s : St), i + m = sy.length → VI s0 c (vC t n sy []) s →
    Ok (fun f => p71_19 f c 0 (i : Int)) s (fun v s' => v = .bool true ∧ Fresh s0 s') := by
  intro m
  induction m with
  | zero =>
    intro i s hm hI
    refine Ok.step (fun f => p71_19_eq f c 0 i) ?_
    simp only [Nat.zero_add]
    refine rdV hI (by kernel_rfl) rfl fun s' hI => ?_
    refine Ok.t rfl ?_
    refine Ok.f (decide_eq_false (by show ¬ (i : Int) < (sy.length : Int); omega)) (Ok.ret ⟨rfl, hI.2⟩)
  | succ m IH =>
    intro i s hm2 hI
    have hi : i < sy.length := by omega
    have hw1 : IntKind.i64.wrap ((i : Int) + 1) = ((i + 1 : Nat) : Int) := by rw [wrap_in _ (by omega) (by omega)]; omega
    obtain ⟨y, hy, hy2, hy3⟩ := hs sy[i] (List.getElem_mem hi)
    refine Ok.step (fun f => p71_19_eq f c 0 i) ?_
    simp only [Nat.zero_add]
    refine rdV hI (by kernel_rfl) rfl fun s' hI => ?_
    refine Ok.t rfl ?_
    refine Ok.t (decide_eq_true (by show (i : Int) < (sy.length : Int); omega)) ?_
    refine rdV hI (by kernel_rfl) rfl fun s' hI => ?_
    refine Ok.t rfl ?_
    refine callAbs (Ok.t rfl (Ok.t (decide_eq_true ht) ?_))
    refine rdV hI (by kernel_rfl) rfl fun s' hI => ?_
    refine Ok.t rfl ?_
    simp only [show ∀ x, elems (lstV x) = x from fun _ => rfl, Int.toNat_natCast, at_get sy i hi, hy]
    refine Ok.t (decide_eq_true (by omega)) ?_
    refine Ok.t (by rw [Bool.and_true]; simp only [Bool.and_eq_true]; exact ⟨Nat.ble_eq_true_of_le (by omega), str_hd sy hs⟩) ?_
    refine Ok.t rfl (Ok.t rfl ?_)
    refine callSym (y := y) hy3 (by omega) (Ok.t rfl (Ok.f rfl ?_))
    rw [hw1]
    exact IH (i + 1) s' (by omega) hI
theorem nil_19 (t : Int) (n : List Value) (s : St) (hI : VI s0 c (vC t n [] []) s) : Ok (fun f => p71_18 f c 0) s (fun v s' => v = .bool true ∧ Fresh s0 s') := by
  refine Ok.step (fun f => p71_18_eq f c 0) ?_
  refine Ok.step (fun f => p71_19_eq f c 0 0) ?_
  simp only [Nat.zero_add]
  refine rdV hI (by kernel_rfl) rfl fun s' hI => ?_
  exact Ok.t rfl (Ok.f rfl (Ok.ret ⟨rfl, hI.2⟩))
theorem int_hd (n : List Value) (hn : ∀ x ∈ n, ∃ i, x = .int .i64 i) : hdOk 1 n = true := by
  cases n with
  | nil => rfl
  | cons x r =>
    obtain ⟨y, rfl⟩ := hn x (List.mem_cons_self ..)
    rfl
theorem bool_5 (t : Int) (n : List Value) (hn : ∀ x ∈ n, BitV x) (hl : n.length ≤ 65536) : ∀ (m i : Nat) (s : St), i + m = n.length → VI s0 c (vC t n [] []) s →
    Ok (fun f => p71_5 f c 0 (i : Int)) s (fun v s' => v = .bool true ∧ Fresh s0 s') := by
  intro m
  induction m with
  | zero =>
    intro i s hm hI
    refine Ok.step (fun f => p71_5_eq f c 0 i) ?_
    simp only [Nat.zero_add]
    refine rdV hI (by kernel_rfl) rfl fun s' hI => ?_
    refine Ok.t rfl ?_
    exact Ok.f (decide_eq_false (by show ¬ (i : Int) < (n.length : Int); omega)) (nil_19 t n s' hI)
  | succ m IH =>
    intro i s hm2 hI
    have hi : i < n.length := by omega
    have hw1 : IntKind.i64.wrap ((i : Int) + 1) = ((i + 1 : Nat) : Int) := by rw [wrap_in _ (by omega) (by omega)]; omega
    obtain ⟨y, hy, hor⟩ := hn n[i] (List.getElem_mem hi)
    have hhd := int_hd n fun x hx => by obtain ⟨i, h, _⟩ := hn x hx; exact ⟨i, h⟩
    refine Ok.step (fun f => p71_5_eq f c 0 i) ?_
    simp only [Nat.zero_add]
    refine rdV hI (by kernel_rfl) rfl fun s' hI => ?_
    refine Ok.t rfl ?_
    refine Ok.t (decide_eq_true (by show (i : Int) < (n.length : Int); omega)) ?_
    refine rdV hI (by kernel_rfl) rfl fun s' hI => ?_
    refine Ok.t rfl ?_
    simp only [show ∀ x, elems (lstV x) = x from fun _ => rfl, Int.toNat_natCast, at_get n i hi, hy]
    refine Ok.t (decide_eq_true (by omega)) ?_
    refine Ok.t (by rw [Bool.and_true]; simp only [Bool.and_eq_true]; exact ⟨Nat.ble_eq_true_of_le (by omega), hhd⟩) ?_
    refine Ok.t rfl (Ok.t rfl ?_)
    rw [hw1]
    have nx := IH (i + 1)
    rcases hor with rfl | rfl
    · exact Ok.f rfl (nx s' (by omega) hI)
    · refine Ok.t rfl ?_
      refine rdV hI (by kernel_rfl) rfl fun s' hI => ?_
      refine Ok.t rfl ?_
      simp only [show ∀ x, elems (lstV x) = x from fun _ => rfl, Int.toNat_natCast, at_get n i hi, hy]
      refine Ok.t (decide_eq_true (by omega)) ?_
      refine Ok.t (by rw [Bool.and_true]; simp only [Bool.and_eq_true]; exact ⟨Nat.ble_eq_true_of_le (by omega), hhd⟩) ?_
      refine Ok.t rfl (Ok.t rfl (Ok.f rfl (nx s' (by omega) hI)))
theorem rd0 {t : Int} {n sy l : List Value} {k : Nat → Value → Prog} (hI : VI s0 c (vC t n sy l) s) (hk : ∀ s', VI s0 c (vC t n sy l) s' → Ok (fun f => k f (.int .i64 t)) s' Q) : Ok (fun f => Ev.callP (k f) (loadT En 3 c 0)) s Q := rdV hI (by kernel_rfl) rfl hk
theorem rd1 {t : Int} {n sy l : List Value} {k : Nat → Value → Prog} (hI : VI s0 c (vC t n sy l) s) (hk : ∀ s', VI s0 c (vC t n sy l) s' → Ok (fun f => k f (lstV n)) s' Q) : Ok (fun f => Ev.callP (k f) (loadT En 28 c 1)) s Q := rdV hI (by kernel_rfl) rfl hk
theorem rd2 {t : Int} {n sy l : List Value} {k : Nat → Value → Prog} (hI : VI s0 c (vC t n sy l) s) (hk : ∀ s', VI s0 c (vC t n sy l) s' → Ok (fun f => k f (lstV sy)) s' Q) : Ok (fun f => Ev.callP (k f) (loadT En 29 c 2)) s Q := rdV hI (by kernel_rfl) rfl hk
theorem rd3 {t : Int} {n sy l : List Value} {k : Nat → Value → Prog} (hI : VI s0 c (vC t n sy l) s) (hk : ∀ s', VI s0 c (vC t n sy l) s' → Ok (fun f => k f (lstV l)) s' Q) : Ok (fun f => Ev.callP (k f) (loadT En 30 c 3)) s Q := rdV hI (by kernel_rfl) rfl hk
theorem rdA {t : Int} {n sy l : List Value} {k : Nat → Value → Prog} (hI : VI s0 c (vC t n sy l) s) (hk : ∀ s', VI s0 c (vC t n sy l) s' → Ok (fun f => k f (.agg ⟨vC t n sy l⟩)) s' Q) : Ok (fun f => Ev.callP (k f) (loadT En 32 c 0)) s Q := rdVA hI (by kernel_rfl) (by kernel_rfl) hk
/-- The values that are checked here. -/
def VOK (t : Int) (n sy : List Value) : Prop :=
  n.length ≤ 65536 ∧ sy.length ≤ 65536 ∧ (isAtomV t = true → n.length + sy.length = 1) ∧
  ((Num t ∧ sy = [] ∧ (∀ x ∈ n, ∃ i, x = .int .i64 i) ∧ ((t = 1 ∨ t = -1) → ∀ x ∈ n, BitV x)) ∨ (Sym t ∧ n = [] ∧ ∀ x ∈ sy, SymV x))
theorem plain_ok (s : St) (t : Int) (n sy : List Value) (h : VOK t n sy) : Ok (fun f => callF En (runP En f) 71 [.agg ⟨vC t n sy []⟩]) s (fun v s' => v = .bool true ∧ Fresh s s') := by
  obtain ⟨hn, hsy, hat, hor⟩ := h
  refine Ok.step (fun f => f71_eq f t n sy []) ?_
  refine Ok.g rfl (vStart fun s' hI => ?_)
  refine Ok.t rfl ?_
  simp only [blk_itP, off_itP, Nat.zero_add]
  refine rdVA hI (by kernel_rfl) (by kernel_rfl) fun s' hI => ?_
  refine Ok.t rfl ?_
  refine callAtom (t := t) (n := n) (sy := sy) (l := []) hI fun s' hI => ?_
  refine Ok.t rfl ?_
  have hcnt : isAtomV t = true → (!(decide ((IntKind.wrap IntKind.i64 (Int.ofNat (n.length + sy.length))) = (1 : Int)))) = false := by
    intro ha
    have := hat ha
    rw [this]
    decide
  rcases hor with ⟨ht, rfl, hi, hb⟩ | ⟨ht, rfl, hs⟩
  · rcases ht with rfl | rfl | rfl | rfl | rfl | rfl | rfl | rfl
    all_goals
      repeat' (first
        | with_reducible exact nil_19 _ n _ hI
        | with_reducible refine rd0 hI fun s' hI => ?_
        | with_reducible refine rd1 hI fun s' hI => ?_
        | with_reducible refine rd2 hI fun s' hI => ?_
        | with_reducible refine callAbs ?_
        | ((with_reducible refine Ok.t ?_ ?_); · rfl)
        | ((with_reducible refine Ok.f ?_ ?_); · rfl)
        | ((with_reducible refine Ok.f ?_ ?_); · exact hcnt rfl))
    all_goals exact bool_5 _ n (hb (by omega)) hn n.length 0 _ (by omega) hI
  · rcases ht with rfl | rfl
    all_goals
      repeat' (first
        | with_reducible refine rd0 hI fun s' hI => ?_
        | with_reducible refine rd1 hI fun s' hI => ?_
        | with_reducible refine rd2 hI fun s' hI => ?_
        | with_reducible refine callAbs ?_
        | ((with_reducible refine Ok.t ?_ ?_); · rfl)
        | ((with_reducible refine Ok.f ?_ ?_); · rfl)
        | ((with_reducible refine Ok.f ?_ ?_); · exact hcnt rfl))
    all_goals exact Ok.step (fun f => p71_18_eq f _ 0) (sym_19 _ rfl [] sy hs hsy sy.length 0 _ (by omega) hI)
end
end Go.Proofs.YtmjbmbmnnephjaaGreatDoor
/- The reference's Check. -/
namespace Go.Proofs.YtmjbmbmnnephjaaGreatDoor
open Go Go.Ev Go.Proofs
section
variable {s s0 : St} {Q : Value → St → Prop} {c : Nat} {vs : List Value}
theorem callFr {g : Nat} {X a : Value} {k : Nat → Value → Prog} (sp : ∀ s, Ok (fun f => callF En (runP En f) g [a]) s (fun v s' => v = X ∧ Fresh s s')) (hI : VI s0 c vs s) (hk : ∀ s', VI s0 c vs s' → Ok (fun f => k f X) s' Q) :
    Ok (fun f => .call (callF En (runP En f) g [a]) (k f)) s Q := by
  refine Ok.call (sp s) ?_
  rintro v s1 ⟨rfl, f1⟩
  exact hk s1 (hI.fresh f1)
theorem nr0 (t : Int) (n sy l : List Value) : intOf (at_ (aggOf (.agg ⟨vC t n sy l⟩)) 0) = t := rfl
theorem nr1 (t : Int) (n sy l : List Value) : elems (at_ (aggOf (.agg ⟨vC t n sy l⟩)) 1) = n := rfl
theorem nr2 (t : Int) (n sy l : List Value) : elems (at_ (aggOf (.agg ⟨vC t n sy l⟩)) 2) = sy := rfl
theorem nr3 (t : Int) (n sy l : List Value) : elems (at_ (aggOf (.agg ⟨vC t n sy l⟩)) 3) = l := rfl
theorem parts_18 (t : Int) (n sy : List Value) (x : Int) (s : St) (hI : VI s0 c (vC t n sy []) s) : Ok (fun f => p36_18 f x c 0 0) s (fun v s' => v = .int .i64 0 ∧ Fresh s0 s') := by
  refine Ok.step (fun f => p36_18_eq f x c 0 0) ?_
  simp only [Nat.zero_add]
  refine rd3 hI fun s' hI => ?_
  exact Ok.t rfl (Ok.f rfl (Ok.ret ⟨rfl, hI.2⟩))
theorem parts_11 (t : Int) (n sy : List Value) (s : St) (hI : VI s0 c (vC t n sy []) s) : Ok (fun f => p36_11 f 1048576 c 0 1) s (fun v s' => v = .int .i64 0 ∧ Fresh s0 s') := by
  refine Ok.step (fun f => p36_11_eq f 1048576 c 0 1) ?_
  simp only [Nat.zero_add]
  refine rd3 hI fun s' hI => ?_
  exact Ok.t rfl (Ok.f rfl (Ok.f rfl (parts_18 t n sy _ s' hI)))
theorem parts_ok (s : St) (t : Int) (n sy : List Value) (h : VOK t n sy) : Ok (fun f => callF En (runP En f) 36 [.agg ⟨vC t n sy []⟩, .int .i64 1048576]) s (fun v s' => v = .int .i64 0 ∧ Fresh s s') := by
  have hm : ∀ s, Ok (fun f => callF En (runP En f) 69 [.agg ⟨vC t n sy []⟩]) s (fun v s' => v = .bool false ∧ Fresh s s') := fun s => many_ok s t n sy [] (by rcases h.2.2.2 with h | h; exact .inl h.1; exact .inr h.1) h.1 h.2.1
  have hg : ∀ s, Ok (fun f => callF En (runP En f) 70 [.agg ⟨vC t n sy []⟩]) s (fun v s' => v = .bool false ∧ Fresh s s') := fun s => long_v s t n sy (by rcases h.2.2.2 with h | h; (rw [h.2.1]; intro x hx; cases hx); exact h.2.2) h.2.1
  have hp : ∀ s, Ok (fun f => callF En (runP En f) 71 [.agg ⟨vC t n sy []⟩]) s (fun v s' => v = .bool true ∧ Fresh s s') := fun s => plain_ok s t n sy h
  refine Ok.step (fun f => f36_eq f t n sy [] 1048576) ?_
  refine Ok.g rfl (vStart fun s' hI => ?_)
  refine Ok.t rfl ?_
  simp only [blk_itP, off_itP, Nat.zero_add]
  refine rd0 hI fun s' hI => ?_
  refine Ok.t rfl ?_
  rcases h.2.2.2 with ⟨ht, rfl, _⟩ | ⟨ht, rfl, _⟩
  · refine Ok.call (fieldsN s' t ht) ?_
    rintro v s1 ⟨rfl, rfl⟩
    refine Ok.t rfl (Ok.f rfl (Ok.f rfl (Ok.t rfl ?_)))
    refine rd2 hI fun s' hI => ?_
    refine Ok.t rfl (Ok.f rfl (Ok.t rfl ?_))
    refine rd3 hI fun s' hI => ?_
    refine Ok.t rfl (Ok.f rfl ?_)
    refine rdA hI fun s' hI => ?_
    refine Ok.t rfl ?_
    refine callFr hm hI fun s' hI => ?_
    refine Ok.t rfl (Ok.f rfl ?_)
    refine rdA hI fun s' hI => ?_
    refine Ok.t rfl ?_
    refine callFr hg hI fun s' hI => ?_
    refine Ok.t rfl (Ok.f rfl ?_)
    refine rdA hI fun s' hI => ?_
    refine Ok.t rfl ?_
    refine callFr hp hI fun s' hI => ?_
    exact Ok.t rfl (Ok.f rfl (parts_11 t n [] s' hI))
  · refine Ok.call (fieldsS s' t ht) ?_
    rintro v s1 ⟨rfl, rfl⟩
    refine Ok.t rfl (Ok.f rfl (Ok.t rfl ?_))
    refine rd1 hI fun s' hI => ?_
    refine Ok.t rfl (Ok.f rfl (Ok.f rfl (Ok.t rfl ?_)))
    refine rd3 hI fun s' hI => ?_
    refine Ok.t rfl (Ok.f rfl ?_)
    refine rdA hI fun s' hI => ?_
    refine Ok.t rfl ?_
    refine callFr hm hI fun s' hI => ?_
    refine Ok.t rfl (Ok.f rfl ?_)
    refine rdA hI fun s' hI => ?_
    refine Ok.t rfl ?_
    refine callFr hg hI fun s' hI => ?_
    refine Ok.t rfl (Ok.f rfl ?_)
    refine rdA hI fun s' hI => ?_
    refine Ok.t rfl ?_
    refine callFr hp hI fun s' hI => ?_
    exact Ok.t rfl (Ok.f rfl (parts_11 t [] sy s' hI))
theorem depth_ok (s : St) (t : Int) (n sy : List Value) : Ok (fun f => callF En (runP En f) 37 [.agg ⟨vC t n sy []⟩]) s (fun v s' => v = .int .i64 1 ∧ Fresh s s') := by
  refine Ok.step (fun f => f37_eq f t n sy []) ?_
  refine Ok.g rfl (vStart fun s' hI => ?_)
  refine Ok.t rfl ?_
  simp only [blk_itP, off_itP]
  refine Ok.step (fun f => p37_3_eq f s.ctr 0 0 0) ?_
  simp only [Nat.zero_add]
  refine rd3 hI fun s' hI => ?_
  exact Ok.t rfl (Ok.f rfl (Ok.ret ⟨rfl, hI.2⟩))
theorem check_ok (s : St) (t : Int) (n sy : List Value) (h : VOK t n sy) : Ok (fun f => callF En (runP En f) 13 [.agg ⟨vC t n sy []⟩]) s (fun v s' => v = .int .i64 0 ∧ Fresh s s') := by
  refine Ok.step (fun f => f13_eq f t n sy []) ?_
  refine Ok.g rfl (vStart fun s' hI => ?_)
  refine Ok.t rfl ?_
  simp only [blk_itP, off_itP]
  refine rdA hI fun s' hI => ?_
  refine Ok.t rfl ?_
  refine Ok.call (parts_ok s' t n sy h) ?_
  rintro v s1 ⟨rfl, f1⟩
  have hI := hI.fresh f1
  refine Ok.t rfl (Ok.t rfl ?_)
  refine rdA hI fun s' hI => ?_
  refine Ok.t rfl ?_
  refine callFr (fun s => depth_ok s t n sy) hI fun s' hI => ?_
  exact Ok.t rfl (Ok.f rfl (Ok.ret ⟨rfl, hI.2⟩))
end
end Go.Proofs.YtmjbmbmnnephjaaGreatDoor
/- strings.Builder, as strings.Join uses it. -/
namespace Go.Ev
open Go
theorem Ok.hdr {s : St} {Q : Value → St → Prop} {b : Nat} {h : Hdr} {k : Nat → Hdr → Prog} (hh : s.mem.get b = some (.hdr h)) (hk : ∀ s1, Reads s s1 → Ok (fun f => k f h) s1 Q) : Ok (fun f => Prog.hd b (k f)) s Q := by
  obtain ⟨m, c, l⟩ := s
  simp only at hh
  obtain ⟨v, s', h1, f0, h2⟩ := hk ⟨m, c, ⟨false, b, 1⟩ :: l⟩ ⟨rfl, rfl, [⟨false, b, 1⟩], rfl, rfl⟩
  refine ⟨v, s', h1, f0, fun f hf => ?_⟩
  simp only [Prog.run, St.hd, hh]
  exact h2 f hf
end Go.Ev
namespace Go.Proofs.YtmjbmbmnnephjaaGreatDoor
open Go Go.Ev Go.Proofs
theorem f183 (ih : Rec) (n : Nat) : callF En ih 183 [.int .i64 (.ofNat n)] = Ev.gd (Nat.ble n 1048576 && isOne En 5) (.newH ⟨n, 5, false, false, true, 0, false, false, []⟩ [] fun k => .ret (.slice (some ⟨k, 0, none⟩) n (capOf n false))) := by kernel_rfl
def bhd : Hdr := ⟨2, 84, false, true, true, 0, false, false, []⟩
/-- A builder's row. -/
def BRow (m : Tr Slot) (b : Nat) (p v : Value) : Prop := m.get b = some (.hdr bhd) ∧ CellsAt m b (b + 1) [p, v]
theorem BRow.c0 {m : Tr Slot} {b : Nat} {p v : Value} (h : BRow m b p v) : Cell m b 0 p := ⟨⟨_, h.1⟩, h.2.1⟩
theorem BRow.c1 {m : Tr Slot} {b : Nat} {p v : Value} (h : BRow m b p v) : Cell m b 1 v := ⟨⟨_, h.1⟩, h.2.2.1⟩
theorem BRow.congr {m m' : Tr Slot} {b : Nat} {p v : Value} (h : BRow m b p v) (e : ∀ j, b ≤ j → j < b + 3 → m'.get j = m.get j) : BRow m' b p v :=
  ⟨(e b (by omega) (by omega)).trans h.1, h.2.congr fun j h1 h2 => e j (by omega) (by simp only [List.length_cons, List.length_nil] at h2; omega)⟩
theorem BRow.reads {s s' : St} {b : Nat} {p v : Value} (h : BRow s.mem b p v) (r : Reads s s') : BRow s'.mem b p v := h.congr fun j _ _ => by rw [r.1]
theorem BRow.free {m : Tr Slot} {b : Nat} {p v : Value} (h : BRow m b p v) : Free m b 2 := ⟨_, _, _, _, h.1⟩
/-- What a builder's method does to old memory: nothing below. -/
def Low (b : Nat) (s s' : St) : Prop := s.ctr ≤ s'.ctr ∧ ∀ k, k < b → s'.mem.get k = s.mem.get k
theorem Low.trans {b : Nat} {s s1 s2 : St} (h : Low b s s1) (g : Low b s1 s2) : Low b s s2 := ⟨Nat.le_trans h.1 g.1, fun k hk => (g.2 k hk).trans (h.2 k hk)⟩
theorem Reads.low {s s' : St} (b : Nat) (h : Reads s s') : Low b s s' := ⟨Nat.le_of_eq h.2.1.symm, fun k _ => by rw [h.1]⟩
def ptrV (b : Nat) : Value := .pointer (some ⟨b, 0, none⟩)
end Go.Proofs.YtmjbmbmnnephjaaGreatDoor
/- strings.Builder: Grow, WriteString, String. -/
namespace Go.Ev
open Go
end Go.Ev
namespace Go.Proofs.YtmjbmbmnnephjaaGreatDoor
open Go Go.Ev Go.Proofs
/-- A builder with room, and what has been written to it. -/
def Bld (s : St) (b cap : Nat) (done : List UInt8) : Prop := ∃ r, BRow s.mem b (ptrV b) (.slice (some ⟨r, 0, none⟩) done.length (capOf cap false)) ∧ s.mem.get r = some (.hdr ⟨cap, 5, false, false, true, 0, false, false, []⟩) ∧ CellsAt s.mem r (r + 1) (u8s done) ∧ b + 3 ≤ r ∧ r + 1 + cap ≤ s.ctr ∧ done.length ≤ cap
theorem Bld.reads {s s' : St} {b cap : Nat} {done : List UInt8} (h : Bld s b cap done) (r : Reads s s') : Bld s' b cap done := by
  obtain ⟨k, h1, h2, h3, h4, h5, h6⟩ := h
  exact ⟨k, h1.reads r, by rw [r.1]; exact h2, by rw [r.1]; exact h3, h4, by rw [r.2.1]; exact h5, h6⟩
end Go.Proofs.YtmjbmbmnnephjaaGreatDoor
/- strings.Join. -/
namespace Go.Proofs.YtmjbmbmnnephjaaGreatDoor
open Go Go.Ev Go.Proofs
end Go.Proofs.YtmjbmbmnnephjaaGreatDoor
/- The reference's Same: tokens are the same as themselves. -/
namespace Go.Proofs.YtmjbmbmnnephjaaGreatDoor
open Go Go.Ev Go.Proofs
end Go.Proofs.YtmjbmbmnnephjaaGreatDoor
/- lex.Join: the texts of tokens, joined. -/
namespace Go.Ev
open Go
theorem CellsAt.left {m : Tr Slot} {b : Nat} : ∀ {xs ys : List Value} {k : Nat}, CellsAt m b k (xs ++ ys) → CellsAt m b k xs
  | [], _, _, _ => trivial
  | _ :: xs, _, _, h => ⟨h.1, CellsAt.left (xs := xs) h.2⟩
end Go.Ev
namespace Go.Proofs.YtmjbmbmnnephjaaGreatDoor
open Go Go.Ev Go.Proofs
/-- A list of tokens that is a function's own: a row, or nothing. -/
def OwnT (m : Tr Slot) (lo hi : Nat) (ts : List Tok) (v : Value) : Prop := (ts = [] ∧ v = xlstV []) ∨ Grow m lo hi 34 8 (toksC ts) v
theorem OwnT.congr {m m' : Tr Slot} {lo hi hi' : Nat} {ts : List Tok} {v : Value} (h : OwnT m lo hi ts v) (hh : hi ≤ hi') (e : ∀ j, lo ≤ j → j < hi → m'.get j = m.get j) : OwnT m' lo hi' ts v := by
  rcases h with h | h
  · exact .inl h
  · exact .inr (h.congr hh e)
end Go.Proofs.YtmjbmbmnnephjaaGreatDoor
/- The reference's Join. -/
namespace Go.Ev
open Go
theorem u8s_ints (l : List UInt8) : ints (u8s l) = true := by simp [ints, u8s]
theorem u8s_append (a b : List UInt8) : u8s (a ++ b) = u8s a ++ u8s b := by simp [u8s]
/-- A string that is appended: its bytes. -/
theorem appS_eq {E : Env} {t el by_ : Nat} (ht : AppT E t el 1 by_) (h9 : E.und 9 = some .string) (v : Value) (x : ByteArray) :
    builtinA E Builtin.append (t :: (9 :: [])) (v :: (Value.string x :: [])) = builtinA E Builtin.append (t :: (t :: [])) (v :: (xlstV (u8s x.data.toList) :: [])) := by
  obtain ⟨hu, hs, hb, hz, hz0⟩ := ht
  have hel : elemOfSlice E t = some el := by unfold elemOfSlice; rw [hu]
  have hl1 : lenA (.string x) = some x.data.toList.length := rfl
  have hl2 : lenA (xlstV (u8s x.data.toList)) = some x.data.toList.length := congrArg some (u8s_length _)
  have key : ∀ n, appC E false el 1 n (.string x) = appC E false el 1 n (xlstV (u8s x.data.toList)) := by
    intro n
    funext k
    show gd (Nat.beq 1 1) (k ((x.data.toList.take n).map fun b => .int .u8 b.toNat)) = gd (hdOk 1 (u8s x.data.toList)) (k (flatC ((u8s x.data.toList).take n)))
    have e : (u8s x.data.toList).take n = u8s (x.data.toList.take n) := (List.map_take ..).symm
    rw [ints_hd _ (u8s_ints _), e, flatC_ints _ (u8s_ints _)]
    rfl
  have hB : ∀ base len c, appendB E t 9 base len c (.string x) = appendB E t t base len c (xlstV (u8s x.data.toList)) := by
    intro base len c
    simp only [appendB, hel, hu, hs, hb, h9, Ev.opt, isIntD, appN, hl1, hl2, key]
  have hX : ∀ es, appendX E t 9 es (.string x) = appendX E t t es (xlstV (u8s x.data.toList)) := by
    intro es
    simp only [appendX, hel, hu, hs, hb, h9, Ev.opt, isIntD, appN, hl1, hl2, key]
  show appendA E [t, 9] [v, .string x] = appendA E [t, t] [v, xlstV (u8s x.data.toList)]
  cases v with
  | slice base len c => exact hB base len c
  | _ =>
    simp only [appendA, hX]
/-- Nothing is appended. -/
theorem Ok.app0 {E : Env} {t el by_ lo : Nat} {cs : List Value} {v : Value} {s : St} (ht : AppT E t el 1 by_) (h : Buf s lo el cs v) (hn : cs.length * (by_ + 1) ≤ 1099511627776) :
    Ok (fun _ => builtinA E Builtin.append (t :: (t :: [])) (v :: (xlstV [] :: []))) s (fun w s' => w = v ∧ s' = s) := by
  obtain ⟨m, c, l⟩ := s
  obtain ⟨hu, hs, hb, hz, hz0⟩ := ht
  obtain ⟨zv, hz⟩ := Option.isSome_iff_exists.1 hz
  obtain ⟨hi, hlo, hg⟩ := h
  have hel : elemOfSlice E t = some el := by unfold elemOfSlice; rw [hu]
  have hlen : lenA (xlstV []) = some 0 := rfl
  have hoke : hdOk 1 cs = true := ints_hd cs hi
  have hf1 : ∀ n k, firstA 1 n (xlstV []) k = gd true (k (flatC (([] : List Value).take n))) := fun _ _ => rfl
  rcases hg with ⟨_, ⟨rfl, rfl⟩ | ⟨r, n, sy, olds, rfl, a2, a3, a4, a5, a6, a7⟩⟩ | rfl
  · refine ⟨.slice none 0 0, ⟨m, c, l⟩, ⟨rfl, rfl⟩, 0, fun _ _ => ?_⟩
    have hd : decide ((0 + 0) * (by_ + 1) ≤ 1099511627776) = true := decide_eq_true (by simp)
    simp only [builtinA, appendA, appendB, hel, hu, hs, hb, Ev.opt, isIntD, appN, hlen, hz, gd, hd, Prog.run]
  · have hcl : capLo (capOf n false) = n := by show (2 * n + 0) / 2 = n; omega
    have hd : decide ((n + 0) * (by_ + 1) ≤ 1099511627776) = true := decide_eq_true (by rw [Nat.add_zero, show n = cs.length by omega]; exact hn)
    have hble : Nat.ble (n + 0) n = true := Nat.ble_eq_true_of_le (Nat.le_refl _)
    refine ⟨.slice (some ⟨r, 0, none⟩) n (capOf n false), ⟨m, c, l⟩, ⟨rfl, rfl⟩, 0, fun _ _ => ?_⟩
    simp only [builtinA, appendA, appendB, hel, hu, hs, hb, Ev.opt, isIntD, appN, hlen, hz, gd, hd, hcl, hble, appC, hf1, Prog.run]
  · have happ : appendA E (t :: (t :: [])) (xlstV cs :: (xlstV [] :: [])) = appendX E t t cs (xlstV []) := rfl
    have hd : (hdOk 1 cs && decide ((cs.length + 0) * (by_ + 1) ≤ 1099511627776)) = true := by
      rw [hoke, Bool.true_and]; exact decide_eq_true hn
    refine ⟨xlstV cs, ⟨m, c, l⟩, ⟨rfl, rfl⟩, 0, fun _ _ => ?_⟩
    simp only [builtinA, happ, appendX, hel, hu, hs, hb, Ev.opt, isIntD, appN, hlen, hz, gd, hd, Prog.run]
theorem Ok.appS {E : Env} {t el by_ lo : Nat} {cs : List Value} {v : Value} {x : ByteArray} {s : St} (ht : AppT E t el 1 by_) (h9 : E.und 9 = some .string) (h : Buf s lo el cs v) (hv : ∃ a b c, v = Value.slice a b c) (hn : (cs.length + x.data.toList.length) * (by_ + 1) ≤ 1099511627776) :
    Ok (fun _ => builtinA E Builtin.append (t :: (9 :: [])) (v :: (Value.string x :: []))) s
      (fun w s' => Buf s' lo el (cs ++ u8s x.data.toList) w ∧ s.ctr ≤ s'.ctr ∧ (∀ k, k < lo → s'.mem.get k = s.mem.get k) ∧ ∃ a b c, w = Value.slice a b c) := by
  rw [appS_eq ht h9]
  cases hx : x.data.toList with
  | nil =>
    refine Ok.mono (Ok.app0 ht h (Nat.le_trans (Nat.mul_le_mul_right _ (Nat.le_add_right _ _)) hn)) ?_
    rintro w s' ⟨rfl, rfl⟩
    exact ⟨by simpa [u8s] using h, Nat.le_refl _, fun _ _ => rfl, hv⟩
  | cons b l => exact Ok.appM ht h (u8s_ints _) (by rw [u8s_length]; simp) (by rw [u8s_length, ← hx]; exact hn)
end Go.Ev
namespace Go.Proofs.YtmjbmbmnnephjaaGreatDoor
open Go Go.Ev Go.Proofs
theorem h9s : En.und 9 = some .string := by kernel_rfl
end Go.Proofs.YtmjbmbmnnephjaaGreatDoor
/- The lexer's mark, token and Lex, exact, for a text of one token. -/
namespace Go.Proofs.YtmjbmbmnnephjaaGreatDoor
open Go Go.Ev Go.Proofs Go.Num
section
variable {s : St} {b : Nat} {str : ByteArray} {ts : List Tok} {bad : Int}
theorem addSubX [Gh] {a : Int} (h : LX s b str a ts 0 bad) (p kind t : Int) (hp : 0 ≤ p ∧ p < a ∧ a ≤ (bl str).length) (hl : ts.length ≤ 20000) (m1 m2 i1 i2 : Nat) (hm1 : Nat.testBit m2 i1 = true) (hm2 : Nat.testBit m2 i2 = true) :
    Ok (fun f => .seg (loadT En 9 b 0) fun v60 s61 _ =>
    (cnd
      (Prog.seg (loadT En 3 b 1) fun v62 s63 _ =>
        (Ev.gdL m1 (writesOf s63) s63 [⟨i1, writesOf s61, s61⟩]
          (cnd
            (cnd
              (cnd
                (cnd
                  (gd Bool.true
                    (Prog.seg (callF En (runP En f) 63 [(Value.pointer (Option.some (Addr.mk b 0 Option.none))), (Value.int IntKind.i64 kind), (Value.int IntKind.i64 p), (Value.string (mkStr (List.take ((Int.toNat (intOf v62)) - (Int.toNat p)) (List.drop (Int.toNat p) (Array.toList (ByteArray.data (strOf v60))))))), (Value.agg ⟨((Value.int IntKind.i64 t) :: ((lstV []) :: ((lstV []) :: ((lstV []) :: []))))⟩)]) fun v64 s65 _ =>
                      (Ev.gdL m2 (writesOf s65) s65 [⟨i2, writesOf s63, s63⟩, ⟨i1, writesOf s61, s61⟩]
                        (cnd
                          (Prog.ret (Value.tuple ⟨[]⟩))
                          Prog.fail
                          ((isTupV v64) && (okNs [] (tupOf v64)))))))
                  Prog.fail
                  ((Nat.ble (Int.toNat p) (Int.toNat (intOf v62))) && (Nat.ble (Int.toNat (intOf v62)) (List.length (Array.toList (ByteArray.data (strOf v60)))))))
                Prog.fail
                (decide ((0 : Int) ≤ (intOf v62))))
              Prog.fail
              (decide ((0 : Int) ≤ p)))
            Prog.fail
            (okK (Kd.int IntKind.i64) v62))))
      Prog.fail
      (okK Kd.str v60))) s (fun v s' => v = .tuple ⟨[]⟩ ∧ LX s' b str a (ts ++ [⟨kind, p, a, sub str p a, t, [], [], []⟩]) 0 bad) := by
  have hbl : (bl str).length = str.data.toList.length := rfl
  refine Ok.segLoad (by kernel_rfl) h.c0 fun s1 r1 => ?_
  refine Ok.t rfl ?_
  refine Ok.segLoad (by kernel_rfl) (h.c1.reads r1) fun s2 r2 => ?_
  have r2 := r1.trans r2
  refine Ok.gdL (freeL_reads _ _ rfl _ fun d hd => by simp only [List.mem_singleton] at hd; subst hd; rfl) ?_
  refine Ok.t rfl ?_
  simp only [intOf, strOf]
  refine Ok.t (decide_eq_true hp.1) ?_
  refine Ok.t (decide_eq_true (by omega)) ?_
  refine Ok.t (by simp only [Bool.and_eq_true]; exact ⟨Nat.ble_eq_true_of_le (by omega), Nat.ble_eq_true_of_le (by omega)⟩) ?_
  refine Ok.g rfl ?_
  have h2 : LX s2 b str a ts 0 bad := h.reads r2
  have h2 : LX ⟨s2.mem, s2.ctr, []⟩ b str a ts 0 bad := h2
  refine Ok.seg (add_ok h2 kind p (sub str p a) t [] [] [] hl) ?_
  rintro v s3 ⟨rfl, h3⟩
  refine Ok.gdL (by simp [freeL, hm1, hm2]) ?_
  exact Ok.t rfl (Ok.ret ⟨rfl, h3⟩)
def mkL : List UInt8 := [98, 105, 115, 116, 100]
def mkC (j : Nat) : UInt8 := mkL.getD j 0
theorem mk_find : ∀ j : Fin 5, findByte (Int.ofNat (mkC j.val).toNat).toNat mkL 0 = (j.val : Int) ∧ (mkC j.val).toNat ≠ 0 := by decide
theorem markX [Gh] {j : Nat} (hj : j < 5) (h : LX s b str 0 ts 0 bad) (hd : bl str = [40, 41, mkC j]) (hl : ts.length ≤ 20000) :
    Ok (fun f => callF En (runP En f) 67 [.pointer (some ⟨b, 0, none⟩)]) s (OneQ b str 0 ts bad ((j : Int) + 1) [] []) := by
  have t3 : scal En 3 = true := by kernel_rfl
  have hr : ∀ s s', LX s b str 0 ts 0 bad → Reads s s' → LX s' b str 0 ts 0 bad := fun s s' h r => h.reads r
  obtain ⟨hf, hne⟩ := mk_find ⟨j, hj⟩
  simp only at hf hne
  have hlen : (bl str).length = 3 := by rw [hd]; rfl
  have b0 : byteOf str 0 = 40 := byteOf_head (k := 0) (c := 40) hd
  have b1 : byteOf str 1 = 41 := byteOf_head (k := 1) (c := 41) (r := [mkC j]) (by rw [hd]; rfl)
  have b2 : byteOf str 2 = Int.ofNat (mkC j).toNat := byteOf_head (k := 2) (r := []) (by rw [hd]; rfl)
  have b3 : byteOf str 3 = 0 := byteOf_end (k := 3) (by rw [hd]; rfl)
  refine Ok.step (fun f => f67_eq f b) ?_
  refine Ok.segLoad t3 h.c1 fun s1 r1 => ?_
  have h1 := h.reads r1
  refine Ok.t rfl ?_
  have pk : ∀ (s : St) (n : Int), LX s b str 0 ts 0 bad → 0 ≤ n → n ≤ 1000 → Ok (fun f => callF En (runP En f) 59 [.pointer (some ⟨b, 0, none⟩), .int .i64 n]) s (fun v s' => v = .int .u8 (byteOf str n) ∧ Reads s s') := fun s n h h1 h2 => by
    have := peek_ok s b str 0 n h.c0 h.c1 (by omega) (by omega)
    rw [Int.zero_add] at this
    exact this
  have h1' : LX ⟨s1.mem, s1.ctr, []⟩ b str 0 ts 0 bad := h1
  refine segReads (R := fun v => v = .int .u8 (byteOf str 0)) (pk _ 0 h1' (by omega) (by omega)) ?_
  rintro v s2 sg rfl r2 hsg
  have h2 := h1.reads r2
  refine Ok.gdL (freeL_reads _ _ hsg _ fun d hd => by simp only [List.mem_singleton] at hd; subst hd; rfl) ?_
  refine Ok.t rfl ?_
  simp only [intOf, b0]
  refine Ok.t rfl ?_
  refine Ok.call (pk s2 1 h2 (by omega) (by omega)) ?_
  rintro v s3 ⟨rfl, r3⟩
  have h3 := h2.reads r3
  refine Ok.t rfl ?_
  simp only [b1]
  refine Ok.t rfl ?_
  refine Ok.call (pk s3 3 h3 (by omega) (by omega)) ?_
  rintro v s4 ⟨rfl, r4⟩
  have h4 := h3.reads r4
  refine Ok.t rfl ?_
  simp only [b3]
  refine Ok.call (inside_ok s4 _) ?_
  rintro v s5 ⟨rfl, rfl⟩
  refine Ok.t rfl ?_
  refine Ok.t rfl ?_
  have h4' : LX ⟨s5.mem, s5.ctr, []⟩ b str 0 ts 0 bad := h4
  refine segReads (R := fun v => v = .int .u8 (byteOf str 2)) (pk _ 2 h4' (by omega) (by omega)) ?_
  rintro v s6 sg rfl r6 hsg
  have h6 := h4.reads r6
  refine Ok.t rfl ?_
  have hby : 0 ≤ byteOf str 2 ∧ byteOf str 2 < 256 := by
    rw [b2]
    have := (mkC j).toNat_lt
    simp only [Int.ofNat_eq_natCast]; omega
  simp only [intOf]
  refine Ok.seg (indexByte_ok ⟨s6.mem, s6.ctr, []⟩ (mkStr [98, 105, 115, 116, 100]) (byteOf str 2) hby) ?_
  rintro v s7 ⟨rfl, rfl⟩
  have h7 : LX ⟨s6.mem, s6.ctr, [] ++ s6.log⟩ b str 0 ts 0 bad := h6
  refine Ok.gdL (freeL_reads _ _ rfl _ fun d hd => by simp only [List.mem_singleton] at hd; subst hd; exact hsg) ?_
  refine Ok.t rfl ?_
  have hf' : findByte (byteOf str 2).toNat (bl (mkStr [98, 105, 115, 116, 100])) 0 = (j : Int) := by rw [b2]; exact hf
  simp only [intOf, hf']
  refine Ok.t (decide_eq_true (by omega)) ?_
  refine Ok.call (pk _ 2 h7 (by omega) (by omega)) ?_
  rintro v s8 ⟨rfl, r8⟩
  have h8 := h7.reads r8
  refine Ok.t rfl ?_
  simp only [intOf]
  refine Ok.t (by rw [b2, Bool.not_eq_true']; exact decide_eq_false (by simp only [Int.ofNat_eq_natCast]; omega)) ?_
  refine Ok.rd hr h8 t3 h8.c1 fun s9 h9 => ?_
  refine Ok.t rfl ?_
  have hw3 : IntKind.i64.wrap (0 + 3) = 3 := rfl
  simp only [hw3]
  refine Ok.callP (setAt_ok h9 3) ?_
  rintro v s10 ⟨rfl, h10, _⟩
  have hw4 : IntKind.i64.wrap ((j : Int) + 1) = (j : Int) + 1 := wrap_in _ (by omega) (by omega)
  rw [hw4]
  refine Ok.mono (addSubX h10 0 1 ((j : Int) + 1) ⟨by omega, by omega, by omega⟩ hl 3840 131071 6 12 rfl rfl) ?_
  rintro v s' ⟨rfl, h11⟩
  refine ⟨rfl, ?_⟩
  rw [hlen]
  exact h11
theorem ndec {p : Prop} [h : Decidable p] (n : ¬p) : (!decide p) = true := by rw [decide_eq_false n]; rfl
theorem negX [Gh] (h : LX s b str 0 ts 0 bad) (h45 : byteOf str 0 = 45) (hdg : isDigit (byteOf str 1) = true) (hs : (bl str).length ≤ 100000) :
    Ok (fun f => callF En (runP En f) 61 [.pointer (some ⟨b, 0, none⟩)]) s (fun v s' => v = .bool true ∧ LX s' b str 0 ts 0 bad) := by
  have t3 : scal En 3 = true := by kernel_rfl
  refine Ok.step (fun f => f61_eq f b) ?_
  refine Ok.call (peek_ok s b str 0 0 h.c0 h.c1 (by omega) (by omega)) ?_
  rintro v s1 ⟨rfl, r1⟩
  have h1 := h.reads r1
  refine Ok.t rfl ?_
  rw [Int.add_zero]
  simp only [intOf, h45]
  refine Ok.f rfl ?_
  refine Ok.call (peek_ok s1 b str 0 1 h1.c0 h1.c1 (by omega) (by omega)) ?_
  rintro v s2 ⟨rfl, r2⟩
  have h2 := h1.reads r2
  refine Ok.t rfl ?_
  rw [Int.zero_add]
  refine Ok.call (digit_ok s2 _) ?_
  rintro v s3 ⟨rfl, rfl⟩
  simp only [intOf, hdg]
  refine Ok.t rfl ?_
  refine Ok.f rfl ?_
  refine Ok.segLoad t3 h2.c1 fun s4 r4 => ?_
  have h4 := h2.reads r4
  refine Ok.t rfl ?_
  exact Ok.t rfl (Ok.ret ⟨rfl, h4⟩)
theorem negF [Gh] (h : LX s b str 0 ts 0 bad) (h45 : byteOf str 0 ≠ 45) (hs : (bl str).length ≤ 100000) :
    Ok (fun f => callF En (runP En f) 61 [.pointer (some ⟨b, 0, none⟩)]) s (fun v s' => v = .bool false ∧ LX s' b str 0 ts 0 bad) := by
  refine Ok.step (fun f => f61_eq f b) ?_
  refine Ok.call (peek_ok s b str 0 0 h.c0 h.c1 (by omega) (by omega)) ?_
  rintro v s1 ⟨rfl, r1⟩
  have h1 := h.reads r1
  refine Ok.t rfl ?_
  rw [Int.add_zero]
  simp only [intOf]
  exact Ok.t (ndec h45) (Ok.ret ⟨rfl, h1⟩)
/-- The head of 'token'. -/
theorem tok_head [Gh] {Q : Value → St → Prop} (h : LX s b str 0 ts 0 bad) (hs : (bl str).length ≤ 100000) (hQ : ∀ v s', Q v s' → v = .tuple ⟨[]⟩)
    (hk : ∀ s', LX s' b str 0 ts 0 bad → (isDigit (byteOf str 0) = true ∨ (byteOf str 0 = 45 ∧ isDigit (byteOf str 1) = true)) → Ok (fun f => callF En (runP En f) 62 [.pointer (some ⟨b, 0, none⟩)]) s' Q)
    (hy : ∀ s', LX s' b str 0 ts 0 bad → byteOf str 0 = 96 → Ok (fun f => callF En (runP En f) 64 [.pointer (some ⟨b, 0, none⟩)]) s' Q)
    (hm : ∀ s', LX s' b str 0 ts 0 bad → byteOf str 0 = 40 → Ok (fun f => callF En (runP En f) 67 [.pointer (some ⟨b, 0, none⟩)]) s' Q)
    (hc : isDigit (byteOf str 0) = true ∨ (byteOf str 0 = 45 ∧ isDigit (byteOf str 1) = true) ∨ byteOf str 0 = 96 ∨ byteOf str 0 = 40) :
    Ok (fun f => callF En (runP En f) 34 [.pointer (some ⟨b, 0, none⟩)]) s Q := by
  have t3 : scal En 3 = true := by kernel_rfl
  refine Ok.step (fun f => f34_eq f b) ?_
  refine Ok.segLoad t3 h.c1 fun s1 r1 => ?_
  have h1 := h.reads r1
  refine Ok.t rfl ?_
  have h1' : LX ⟨s1.mem, s1.ctr, []⟩ b str 0 ts 0 bad := h1
  refine segReads (R := fun v => v = .int .u8 (byteOf str (0 + 0))) (peek_ok ⟨s1.mem, s1.ctr, []⟩ b str 0 0 h1'.c0 h1'.c1 (by omega) (by omega)) ?_
  rintro v s2 sg rfl r2 hsg
  have h2 := h1.reads r2
  refine Ok.gdL (freeL_reads _ _ hsg _ fun d hd => by simp only [List.mem_singleton] at hd; subst hd; rfl) ?_
  refine Ok.t rfl ?_
  rw [Int.add_zero]
  simp only [intOf]
  refine Ok.call (digit_ok s2 _) ?_
  rintro v s3 ⟨rfl, rfl⟩
  refine Ok.t rfl ?_
  by_cases hdg : isDigit (byteOf str 0) = true
  · exact Ok.t hdg (callQ hQ (hk _ h2 (.inl hdg)))
  refine Ok.f (Bool.eq_false_iff.2 hdg) ?_
  by_cases h45 : byteOf str 0 = 45
  · have hd1 : isDigit (byteOf str 1) = true := by
      rcases hc with h | h | h | h
      · exact absurd h hdg
      · exact h.2
      · omega
      · omega
    refine Ok.call (negX h2 h45 hd1 hs) ?_
    rintro v s4 ⟨rfl, h4⟩
    exact Ok.t rfl (Ok.t rfl (callQ hQ (hk _ h4 (.inr ⟨h45, hd1⟩))))
  refine Ok.call (negF h2 h45 hs) ?_
  rintro v s4 ⟨rfl, h4⟩
  refine Ok.t rfl (Ok.f rfl ?_)
  refine Ok.call (letter_ok s4 _) ?_
  rintro v s5 ⟨rfl, rfl⟩
  refine Ok.t rfl ?_
  have hc' : byteOf str 0 = 96 ∨ byteOf str 0 = 40 := by
    rcases hc with h | h | h
    · exact absurd h hdg
    · exact absurd h.1 h45
    · exact h
  refine Ok.f (by simp only [boolOf]; rcases hc' with h | h <;> rw [h] <;> rfl) ?_
  rcases hc' with h96 | h40
  · exact Ok.t (decide_eq_true h96) (callQ hQ (hy _ h4 h96))
  refine Ok.f (decide_eq_false (by omega)) ?_
  refine Ok.f (decide_eq_false (by omega)) ?_
  refine Ok.t (by rw [h40]; rfl) ?_
  refine Ok.call (indexByte_ok s5 _ _ (by omega)) ?_
  rintro v s6 ⟨rfl, rfl⟩
  refine Ok.t rfl ?_
  refine Ok.f (by rw [h40]; decide) ?_
  refine Ok.f (decide_eq_false (by omega)) (Ok.f (decide_eq_false (by omega)) (Ok.f (decide_eq_false (by omega)) ?_))
  exact callQ hQ (hm _ h4 h40)
end
/-- A text of one token, cut. -/
theorem lexX [Gh] {s : St} {str : ByteArray} {t : Int} {n sy : List Value} (hlib : Lib s.mem s.ctr) (hle : (bl str).length ≤ 65536) (h0 : 0 < (bl str).length) (h32 : byteI str 0 ≠ 32)
    (htok : ∀ (s : St) (b : Nat), LX s b str 0 [] 0 0 → Ok (fun f => callF En (runP En f) 34 [.pointer (some ⟨b, 0, none⟩)]) s (OneQ b str 0 [] 0 t n sy)) :
    Ok (fun f => callF En (runP En f) 11 [.string str]) s
      (fun v s' => v = .tuple ⟨[lstV [tokV ⟨1, 0, ((bl str).length : Int), sub str 0 ((bl str).length : Int), atomT t (n.length + sy.length), n, sy, []⟩], .int .i64 0, .int .i64 0]⟩ ∧ s.ctr ≤ s'.ctr ∧ ∀ k, k < Gh.hi0 → s'.mem.get k = Gh.m0.get k) := by
  have t3 : scal En 3 = true := by kernel_rfl
  have t23 : scal En 23 = true := by kernel_rfl
  have t24 : scal En 24 = true := by kernel_rfl
  have hbl : (bl str).length = str.data.toList.length := rfl
  have hr : ∀ b a ts s s', LX s b str a ts 0 0 → Reads s s' → LX s' b str a ts 0 0 := fun b a ts s s' h r => h.reads r
  refine Ok.step (fun f => f11_eq f str) ?_
  refine Ok.f (decide_eq_false (by simp only [Int.ofNat_eq_natCast]; omega)) ?_
  refine Ok.g rfl (Ok.g rfl (Ok.g rfl ?_))
  refine Ok.callP (Ok.new rfl) ?_
  rintro v s1 ⟨rfl, e1, e2, e3⟩
  refine Ok.t rfl ?_
  simp only [blk_itP, off_itP]
  generalize hb : s.ctr = b at *
  have low : ∀ {s' : St} {a : Int} {ts : List Tok}, LX s' b str a ts 0 0 → b ≤ s'.ctr ∧ Gh.hi0 ≤ b ∧ ∀ k, k < Gh.hi0 → s'.mem.get k = Gh.m0.get k := fun h => by
    have := h.ctr
    obtain ⟨_, _, _, _, g⟩ := h
    exact ⟨by omega, g.2.1, g.2.2⟩
  -- one round
  have round : ∀ (a : Int) (ts : List Tok) (s : St) {Q : Value → St → Prop}, 0 ≤ a → a ≤ (bl str).length → (a < (bl str).length → byteI str a ≠ 32) → LX s b str a ts 0 0 →
      (a = (bl str).length → Q (.tuple ⟨[lstV (ts.map tokV), .int .i64 0, .int .i64 0]⟩) s → True) →
      (a = (bl str).length → ∀ s', b ≤ s'.ctr → (∀ k, k < Gh.hi0 → s'.mem.get k = Gh.m0.get k) → Q (.tuple ⟨[lstV (ts.map tokV), .int .i64 0, .int .i64 0]⟩) s') →
      (a < (bl str).length → a = 0 ∧ ts = []) → (∀ s', LX s' b str ((bl str).length : Int) [⟨1, 0, ((bl str).length : Int), sub str 0 ((bl str).length : Int), atomT t (n.length + sy.length), n, sy, []⟩] 0 0 → a < (bl str).length → Ok (fun f => p11_4 f str b 0) s' Q) →
      Ok (fun f => p11_4 f str b 0) s Q := by
    intro a ts s Q ha hae hn32 h _ hend hst hgo
    refine Ok.step (fun f => p11_4_eq f str b 0) ?_
    simp only [Nat.zero_add]
    refine Ok.callP (Ok.load1 t24 h.c3) ?_
    rintro v s1 ⟨rfl, m1, c1, l1⟩
    have r1 : Reads s s1 := ⟨m1, c1, [⟨false, b + 1 + 3, 1⟩, ⟨false, b, 1⟩], l1, rfl⟩
    have h1 := h.reads r1
    refine Ok.t rfl (Ok.t rfl ?_)
    refine Ok.segLoad t3 h1.c1 fun s2 r2 => ?_
    have h2 := h1.reads r2
    refine Ok.t rfl ?_
    have h2' : LX ⟨s2.mem, s2.ctr, []⟩ b str a ts 0 0 := h2
    refine segReads (R := fun v => ∃ n : Nat, runV str (fun c => decide (c = 32)) a n ∧ v = .string (mkStr ((str.data.toList.drop a.toNat).take n))) (Ok.mono (run_ok space_ok ⟨s2.mem, s2.ctr, []⟩ ha (by omega) (by omega) h2'.c0 h2'.c1) ?_) ?_
    · rintro v s' ⟨n, h1, h2, h3⟩
      exact ⟨⟨n, h1, h2⟩, h3⟩
    rintro v s3 sg ⟨m, hrun, rfl⟩ r3 hsg
    have h3 := h2.reads r3
    have hm : m = 0 := by
      by_cases hm : m = 0
      · exact hm
      · exfalso
        have h1 := hrun.1
        have h2 := hrun.2.1 0 (by omega)
        simp only [Int.natCast_zero, Int.add_zero] at h2
        exact hn32 (by omega) (of_decide_eq_true h2)
    subst hm
    refine Ok.gdL (freeL_reads _ _ hsg _ fun d hd => by simp only [List.mem_singleton] at hd; subst hd; rfl) ?_
    refine Ok.t rfl ?_
    have hw1 : IntKind.i64.wrap (a + 0) = a := by rw [Int.add_zero]; exact wrap_in _ (by omega) (by omega)
    have hxl : Int.ofNat (mkStr (List.take 0 (List.drop a.toNat str.data.toList))).data.toList.length = 0 := rfl
    simp only [intOf, strOf, hxl, hw1]
    have h3' : LX ⟨s3.mem, s3.ctr, []⟩ b str a ts 0 0 := h3
    refine Ok.seg (setAt_ok h3' a) ?_
    rintro v s4 ⟨rfl, h4, _⟩
    refine Ok.gdL (by simp [freeL, show Nat.testBit 16383 8 = true from rfl, show Nat.testBit 16383 4 = true from rfl]) ?_
    have h4 : LX ⟨s4.mem, s4.ctr, s4.log ++ s3.log⟩ b str a ts 0 0 := h4
    refine Ok.rd (hr b _ _) h4 t3 h4.c1 fun s5 h5 => ?_
    refine Ok.t rfl ?_
    by_cases hlt : a < (bl str).length
    · refine Ok.f (decide_eq_false (by simp only [intOf, Int.ofNat_eq_natCast]; omega)) ?_
      obtain ⟨rfl, rfl⟩ := hst hlt
      refine Ok.rd (hr b _ _) h5 t3 h5.c1 fun s6 h6 => ?_
      refine Ok.t rfl ?_
      refine Ok.call (htok s6 b h6) ?_
      rintro v s7 ⟨rfl, h7⟩
      refine Ok.t rfl ?_
      simp only [List.nil_append] at h7
      refine Ok.rd (hr b _ _) h7 t24 h7.c3 fun s8 h8 => ?_
      refine Ok.t rfl (Ok.t rfl ?_)
      have h8'' := h8
      obtain ⟨l, g1, g2, g3, g4⟩ := h8
      obtain ⟨x, y, rfl⟩ := g2.len 1 (by omega) (by rw [toksC_length]; rfl)
      refine Ok.rd (hr b _ _) h8'' t23 (g1.cell 2 rfl) fun s9 h9 => ?_
      simp only [len23]
      refine Ok.callP (Q1 := fun v s' => v = vInt ((1 : Nat) : Int) ∧ s' = s9) (Ok.ret ⟨rfl, rfl⟩) ?_
      rintro v s10 ⟨rfl, rfl⟩
      refine Ok.t rfl ?_
      refine Ok.f rfl ?_
      exact hgo s10 h9 hlt
    · have hea : a = (bl str).length := by omega
      refine Ok.t (decide_eq_true (by simp only [intOf, Int.ofNat_eq_natCast]; omega)) ?_
      obtain ⟨w1, w2, w3⟩ := low h5
      obtain ⟨l, g1, g2, g3, g4⟩ := h5
      refine Ok.callP (Ok.load1 t23 (g1.cell 2 rfl)) ?_
      rintro v s6 ⟨rfl, m6, c6, l6⟩
      refine frz_toks (g2.congr (by omega) fun j _ _ => by rw [m6]) fun s7 c7 k7 => ?_
      exact Ok.ret (hend hea s7 (by omega) fun k hk => by rw [k7 k (by omega), m6, w3 k hk])
  have hlx : LX s1 b str 0 [] 0 0 := ⟨_, e2, Grow.nil _ _ _ _ _, by omega, hlib.congr (Nat.le_refl _) e3⟩
  refine round 0 [] s1 (Int.le_refl 0) (by omega) (fun _ => h32) hlx (fun _ _ => trivial) (fun h => absurd h (by omega)) (fun _ => ⟨rfl, rfl⟩) fun s' h' _ => ?_
  exact round _ _ s' (by omega) (Int.le_refl _) (fun h => absurd h (by omega)) h' (fun _ _ => trivial) (fun _ s' h1 h2 => ⟨rfl, h1, h2⟩) (fun h => absurd h (by omega)) (fun _ _ h => absurd h (by omega))
end Go.Proofs.YtmjbmbmnnephjaaGreatDoor
