/- The reference's Check: of values that the lexer makes. -/
import Derived.Test.YtmjbmbmnnephjaaGreatDoorLxKQ4
import Derived.Test.YtmjbmbmnnephjaaGreatDoorLxKG1
import Derived.Test.YtmjbmbmnnephjaaGreatDoorLxKG3
import Derived.Test.YtmjbmbmnnephjaaGreatDoorLxKG2
namespace Go.Proofs.YtmjbmbmnnephjaaGreatDoor
open Go Go.Ev Go.Proofs
abbrev vC (t : Int) (n sy l : List Value) : List Value := [.int .i64 t, lstV n, lstV sy, lstV l]
/-- A value's row is at c, and nothing older has changed. -/
def VI (s0 : St) (c : Nat) (vs : List Value) (s : St) : Prop := (Row s.mem c vs ∧ c + 1 + vs.length ≤ s.ctr ∧ s0.ctr ≤ c) ∧ Fresh s0 s
theorem VI.fresh {s0 s s' : St} {c : Nat} {vs : List Value} (h : VI s0 c vs s) (f : Fresh s s') : VI s0 c vs s' := by
  obtain ⟨⟨h1, h2, h3⟩, h4⟩ := h
  exact ⟨⟨h1.congr fun j _ hj => f.2 j (by omega), by have := f.1; omega, h3⟩, h4.trans f⟩
theorem VI.reads {s0 : St} {c : Nat} {vs : List Value} (s s' : St) (h : VI s0 c vs s) (f : Reads s s') : VI s0 c vs s' := h.fresh (Go.Ev.Reads.fresh f)
section
variable {s s0 : St} {Q : Value → St → Prop} {c : Nat} {vs : List Value}
theorem vStart {t : Int} {n sy l : List Value} {k : Nat → Value → Prog} (hk : ∀ s', VI s s.ctr (vC t n sy l) s' → Ok (fun f => k f (itP s.ctr)) s' Q) :
    Ok (fun f => Ev.callP (k f) (Prog.newH (Hdr.mk 4 32 Bool.false Bool.true Bool.true 0 Bool.false Bool.false []) ((Value.int IntKind.i64 t) :: ((lstV n) :: ((lstV sy) :: ((lstV l) :: [])))) (fun z7 => (Prog.ret (itP z7))))) s Q := by
  refine Ok.callP (Ok.new rfl) ?_
  rintro v s1 ⟨rfl, e1, e2, e3⟩
  exact hk s1 ⟨⟨e2, by show s.ctr + 1 + 4 ≤ s1.ctr; omega, Nat.le_refl _⟩, by omega, e3⟩
theorem rdV {t o : Nat} {v : Value} {k : Nat → Value → Prog} (hI : VI s0 c vs s) (hs : scal En t = true) (hv : vs[o]? = some v) (hk : ∀ s', VI s0 c vs s' → Ok (fun f => k f v) s' Q) : Ok (fun f => Ev.callP (k f) (loadT En t c o)) s Q :=
  Ok.rd VI.reads hI hs (hI.1.1.cell o hv) hk
theorem rdVA {t : Nat} {k : Nat → Value → Prog} (hI : VI s0 c vs s) (ha : aggr En t = true) (hs : En.size t = some vs.length) (hk : ∀ s', VI s0 c vs s' → Ok (fun f => k f (.agg ⟨vs⟩)) s' Q) : Ok (fun f => Ev.callP (k f) (loadT En t c 0)) s Q := by
  obtain ⟨el, ex, z, sy', hf⟩ := hI.1.1.1
  refine Ok.callP (Ok.loadA (vs := vs) ha hs rfl ⟨_, hf⟩ hI.1.1.2) ?_
  rintro w s1 ⟨rfl, m1, c1, l1⟩
  exact hk s1 (VI.reads s s1 hI ⟨m1, c1, [⟨false, c + 1 + 0, vs.length⟩, ⟨false, c, 1⟩], l1, rfl⟩)
def absV (t : Int) : Int := if t < 0 ∧ t ≥ -5 then IntKind.i64.wrap ((0 : Int) + Int.neg t) else t
theorem callAbs {x : Int} {k : Nat → Value → Prog} (hk : Ok (fun f => k f (.int .i64 (absV x))) s Q) : Ok (fun f => .call (callF En (runP En f) 125 [.int .i64 x]) (k f)) s Q := by
  refine Ok.call (Q1 := fun v s' => v = .int .i64 (absV x) ∧ s' = s) ?_ ?_
  · refine Ok.step (fun f => f125_eq f x) ?_
    refine Ok.c (fun h1 => Ok.c (fun h2 => ?_) (fun h2 => ?_)) (fun h1 => ?_)
    · have h1 := of_decide_eq_true h1
      have h2 := of_decide_eq_true h2
      exact Ok.ret ⟨by rw [absV, if_pos ⟨h1, h2⟩], rfl⟩
    · have h2 := of_decide_eq_false h2
      exact Ok.ret ⟨by rw [absV, if_neg (fun h => h2 h.2)], rfl⟩
    · have h1 := of_decide_eq_false h1
      exact Ok.ret ⟨by rw [absV, if_neg (fun h => h1 h.1)], rfl⟩
  · rintro v s1 ⟨rfl, rfl⟩
    exact hk
def isAtomV (t : Int) : Bool := decide (t < 0) && decide (t ≥ -5)
def isVecV (t : Int) : Bool := decide (t ≥ 1) && decide (t ≤ 5)
theorem isAtom_ok (s : St) (t : Int) (n sy l : List Value) : Ok (fun f => callF En (runP En f) 14 [.agg ⟨vC t n sy l⟩]) s (fun v s' => v = .bool (isAtomV t) ∧ Fresh s s') := by
  refine Ok.step (fun f => f14_eq f t n sy l) ?_
  refine Ok.g rfl (vStart fun s' hI => ?_)
  refine Ok.t rfl ?_
  simp only [blk_itP, off_itP, Nat.zero_add]
  refine rdV hI (by kernel_rfl) rfl fun s' hI => ?_
  refine Ok.t rfl ?_
  refine Ok.c (fun h => ?_) (fun h => ?_)
  · refine rdV hI (by kernel_rfl) rfl fun s' hI => ?_
    refine Ok.t rfl (Ok.ret ⟨?_, hI.2⟩)
    have h := of_decide_eq_true h
    simp only [intOf] at h ⊢
    simp only [isAtomV, decide_eq_true h, Bool.true_and]
    rfl
  · have h := of_decide_eq_false h
    simp only [intOf] at h
    exact Ok.ret ⟨by simp only [isAtomV, decide_eq_false h, Bool.false_and], hI.2⟩
theorem isVec_ok (s : St) (t : Int) (n sy l : List Value) : Ok (fun f => callF En (runP En f) 15 [.agg ⟨vC t n sy l⟩]) s (fun v s' => v = .bool (isVecV t) ∧ Fresh s s') := by
  refine Ok.step (fun f => f15_eq f t n sy l) ?_
  refine Ok.g rfl (vStart fun s' hI => ?_)
  refine Ok.t rfl ?_
  simp only [blk_itP, off_itP, Nat.zero_add]
  refine rdV hI (by kernel_rfl) rfl fun s' hI => ?_
  refine Ok.t rfl ?_
  refine Ok.c (fun h => ?_) (fun h => ?_)
  · refine rdV hI (by kernel_rfl) rfl fun s' hI => ?_
    refine Ok.t rfl (Ok.ret ⟨?_, hI.2⟩)
    have h := of_decide_eq_true h
    simp only [intOf] at h ⊢
    simp only [isVecV, decide_eq_true h, Bool.true_and]
    rfl
  · have h := of_decide_eq_false h
    simp only [intOf] at h
    exact Ok.ret ⟨by simp only [isVecV, decide_eq_false h, Bool.false_and], hI.2⟩
theorem callAtom {t : Int} {n sy l : List Value} {k : Nat → Value → Prog} (hI : VI s0 c vs s) (hk : ∀ s', VI s0 c vs s' → Ok (fun f => k f (.bool (isAtomV t))) s' Q) : Ok (fun f => .call (callF En (runP En f) 14 [.agg ⟨vC t n sy l⟩]) (k f)) s Q := by
  refine Ok.call (isAtom_ok s t n sy l) ?_
  rintro v s1 ⟨rfl, f1⟩
  exact hk s1 (hI.fresh f1)
theorem callVec {t : Int} {n sy l : List Value} {k : Nat → Value → Prog} (hI : VI s0 c vs s) (hk : ∀ s', VI s0 c vs s' → Ok (fun f => k f (.bool (isVecV t))) s' Q) : Ok (fun f => .call (callF En (runP En f) 15 [.agg ⟨vC t n sy l⟩]) (k f)) s Q := by
  refine Ok.call (isVec_ok s t n sy l) ?_
  rintro v s1 ⟨rfl, f1⟩
  exact hk s1 (hI.fresh f1)
/-- Which values are checked here: plain numbers, or symbols. -/
def Num (t : Int) : Prop := t = 1 ∨ t = 2 ∨ t = 4 ∨ t = 5 ∨ t = -1 ∨ t = -2 ∨ t = -4 ∨ t = -5
def Sym (t : Int) : Prop := t = 3 ∨ t = -3
theorem fieldsN (s : St) (t : Int) (ht : Num t) : Ok (fun f => callF En (runP En f) 68 [.int .i64 t]) s (fun v s' => v = .tuple ⟨[.bool true, .bool false, .bool false, .bool true]⟩ ∧ s' = s) := by
  rcases ht with rfl | rfl | rfl | rfl | rfl | rfl | rfl | rfl <;>
  · refine Ok.step (fun f => f68_eq f _) ?_
    refine callAbs (Ok.t rfl (Ok.f rfl (Ok.t rfl (callAbs (Ok.t rfl (Ok.t rfl (callAbs (Ok.t rfl (Ok.t rfl ?_)))))))))
    exact Ok.ret ⟨rfl, rfl⟩
theorem fieldsS (s : St) (t : Int) (ht : Sym t) : Ok (fun f => callF En (runP En f) 68 [.int .i64 t]) s (fun v s' => v = .tuple ⟨[.bool false, .bool true, .bool false, .bool true]⟩ ∧ s' = s) := by
  rcases ht with rfl | rfl <;>
  · refine Ok.step (fun f => f68_eq f _) ?_
    refine callAbs (Ok.t rfl (Ok.t rfl ?_))
    exact Ok.ret ⟨rfl, rfl⟩
theorem many_ok (s : St) (t : Int) (n sy l : List Value) (ht : Num t ∨ Sym t) (hn : n.length ≤ 65536) (hs : sy.length ≤ 65536) : Ok (fun f => callF En (runP En f) 69 [.agg ⟨vC t n sy l⟩]) s (fun v s' => v = .bool false ∧ Fresh s s') := by
  refine Ok.step (fun f => f69_eq f t n sy l) ?_
  refine Ok.g rfl (vStart fun s' hI => ?_)
  refine Ok.t rfl ?_
  simp only [blk_itP, off_itP, Nat.zero_add]
  refine rdV hI (by kernel_rfl) rfl fun s' hI => ?_
  refine Ok.t rfl ?_
  simp only [intOf]
  refine Ok.c (fun _ => ?_) (fun h3 => ?_)
  · refine rdV hI (by kernel_rfl) rfl fun s' hI => ?_
    refine Ok.t rfl (Ok.ret ⟨?_, hI.2⟩)
    exact congrArg Value.bool (decide_eq_false (by show ¬ (sy.length : Int) > 65536; omega))
  have h3 := of_decide_eq_false h3
  have ht : Num t ∨ t = -3 := by
    rcases ht with h | h | h
    · exact .inl h
    · exact absurd h h3
    · exact .inr h
  refine rdVA hI (by kernel_rfl) (by kernel_rfl) fun s' hI => ?_
  refine Ok.t rfl ?_
  refine callVec (t := t) (n := n) (sy := sy) (l := l) hI fun s' hI => ?_
  refine Ok.t rfl ?_
  refine Ok.c (fun _ => ?_) (fun hv => ?_)
  · refine rdV hI (by kernel_rfl) rfl fun s' hI => ?_
    refine Ok.t rfl (Ok.ret ⟨?_, hI.2⟩)
    exact congrArg Value.bool (decide_eq_false (by show ¬ (n.length : Int) > 65536; omega))
  have hneg : t < 0 := by
    have hv : (isVecV t) = false := hv
    simp only [isVecV, Bool.and_eq_false_iff, decide_eq_false_iff_not] at hv
    rcases ht with h | h
    · unfold Num at h; omega
    · omega
  refine rdV hI (by kernel_rfl) rfl fun s' hI => ?_
  refine Ok.t rfl ?_
  simp only [intOf]
  refine Ok.f (decide_eq_false (by omega)) ?_
  refine rdV hI (by kernel_rfl) rfl fun s' hI => ?_
  refine Ok.t rfl ?_
  simp only [intOf]
  refine Ok.f (decide_eq_false (by omega)) (Ok.ret ⟨rfl, hI.2⟩)
end
end Go.Proofs.YtmjbmbmnnephjaaGreatDoor
/- The reference's Check: long, symbol, plain. -/
namespace Go.Proofs.YtmjbmbmnnephjaaGreatDoor
open Go Go.Ev Go.Proofs
section
variable {s s0 : St} {Q : Value → St → Prop} {c : Nat} {vs : List Value}
theorem at_get (l : List Value) (i : Nat) (h : i < l.length) : at_ l i = l[i] := by
  unfold at_
  simp [List.getD, h]
theorem str_hd (sy : List Value) (hs : ∀ x ∈ sy, SymV x) : hdOk 1 sy = true := by
  cases sy with
  | nil => rfl
  | cons x r =>
    obtain ⟨y, rfl, _⟩ := hs x (List.mem_cons_self ..)
    rfl
theorem long_loop (t : Int) (n sy : List Value) (most : Int) (hm : 64 ≤ most) (hs : ∀ x ∈ sy, SymV x) (hl : sy.length ≤ 65536) : ∀ (m i : Nat) (s : St), i + m = sy.length → VI s0 c (vC t n sy []) s →
    Ok (fun f => p70_5 f c 0 most (i : Int)) s (fun v s' => v = .bool false ∧ Fresh s0 s') := by
  intro m
  induction m with
  | zero =>
    intro i s hm hI
    refine Ok.step (fun f => p70_5_eq f c 0 most i) ?_
    simp only [Nat.zero_add]
    refine rdV hI (by kernel_rfl) rfl fun s' hI => ?_
    refine Ok.t rfl ?_
    refine Ok.f (decide_eq_false (by show ¬ (i : Int) < (sy.length : Int); omega)) (Ok.ret ⟨rfl, hI.2⟩)
  | succ m IH =>
    intro i s hm2 hI
    have hi : i < sy.length := by omega
    have hw1 : IntKind.i64.wrap ((i : Int) + 1) = ((i + 1 : Nat) : Int) := by rw [wrap_in _ (by omega) (by omega)]; omega
    obtain ⟨y, hy, hy2, _⟩ := hs sy[i] (List.getElem_mem hi)
    refine Ok.step (fun f => p70_5_eq f c 0 most i) ?_
    simp only [Nat.zero_add]
    refine rdV hI (by kernel_rfl) rfl fun s' hI => ?_
    refine Ok.t rfl ?_
    refine Ok.t (decide_eq_true (by show (i : Int) < (sy.length : Int); omega)) ?_
    refine rdV hI (by kernel_rfl) rfl fun s' hI => ?_
    refine Ok.t rfl ?_
    simp only [show ∀ x, elems (lstV x) = x from fun _ => rfl, Int.toNat_natCast, at_get sy i hi, hy]
    refine Ok.t (decide_eq_true (by omega)) ?_
    refine Ok.t (by rw [Bool.and_true]; simp only [Bool.and_eq_true]; exact ⟨Nat.ble_eq_true_of_le (by omega), str_hd sy hs⟩) ?_
    refine Ok.t rfl (Ok.t rfl ?_)
    refine Ok.f (decide_eq_false (by show ¬ ((bl y).length : Int) > most; omega)) ?_
    rw [hw1]
    exact IH (i + 1) s' (by omega) hI
theorem long_v (s : St) (t : Int) (n sy : List Value) (hs : ∀ x ∈ sy, SymV x) (hl : sy.length ≤ 65536) : Ok (fun f => callF En (runP En f) 70 [.agg ⟨vC t n sy []⟩]) s (fun v s' => v = .bool false ∧ Fresh s s') := by
  refine Ok.step (fun f => f70_eq f t n sy []) ?_
  refine Ok.g rfl (vStart fun s' hI => ?_)
  refine Ok.t rfl ?_
  simp only [blk_itP, off_itP, Nat.zero_add]
  refine rdV hI (by kernel_rfl) rfl fun s' hI => ?_
  refine Ok.t rfl ?_
  refine Ok.c (fun _ => ?_) (fun _ => ?_)
  · exact Ok.step (fun f => p70_4_eq f _ 0 65536) (long_loop t n sy _ (by decide) hs hl sy.length 0 s' (by omega) hI)
  · exact Ok.step (fun f => p70_4_eq f _ 0 64) (long_loop t n sy _ (by decide) hs hl sy.length 0 s' (by omega) hI)
theorem sym_l (y : ByteArray) (hy : ∀ c ∈ bl y, c ≠ 0) (hl : (bl y).length ≤ 1000000) (s : St) : ∀ (m i : Nat), i + m = (bl y).length → Ok (fun f => p129_2 f y (i : Int)) s (fun v s' => v = .bool true ∧ s' = s) := by
  intro m
  induction m with
  | zero =>
    intro i hm
    refine Ok.step (fun f => p129_2_eq f y i) ?_
    exact Ok.f (decide_eq_false (by show ¬ (i : Int) < ((bl y).length : Int); omega)) (Ok.ret ⟨rfl, rfl⟩)
  | succ m IH =>
    intro i hm
    have hw1 : IntKind.i64.wrap ((i : Int) + 1) = ((i + 1 : Nat) : Int) := by rw [wrap_in _ (by omega) (by omega)]; omega
    refine Ok.step (fun f => p129_2_eq f y i) ?_
    refine Ok.t (decide_eq_true (by show (i : Int) < ((bl y).length : Int); omega)) ?_
    refine Ok.t (decide_eq_true (by omega)) ?_
    simp only [Int.toNat_natCast]
    refine Ok.t (Nat.ble_eq_true_of_le (by show i + 1 ≤ (bl y).length; omega)) ?_
    obtain ⟨ch, hc, e⟩ := byteAt_mem y i (by omega)
    refine Ok.f (decide_eq_false (by rw [e]; intro h; exact hy ch hc (UInt8.toNat_inj.1 (by simpa using h)))) ?_
    rw [hw1]
    exact IH (i + 1) (by omega)
theorem callSym {y : ByteArray} (hy : ∀ c ∈ bl y, c ≠ 0) (hl : (bl y).length ≤ 1000000) {k : Nat → Value → Prog} (hk : Ok (fun f => k f (.bool true)) s Q) : Ok (fun f => .call (callF En (runP En f) 129 [.string y]) (k f)) s Q := by
  refine Ok.call (Q1 := fun v s' => v = .bool true ∧ s' = s) (Ok.step (fun f => f129_eq f y) (sym_l y hy hl s (bl y).length 0 (by omega))) ?_
  rintro v s1 ⟨rfl, rfl⟩
  exact hk
end
end Go.Proofs.YtmjbmbmnnephjaaGreatDoor
/- The reference's Check: plain. -/
namespace Go.Proofs.YtmjbmbmnnephjaaGreatDoor
open Go Go.Ev Go.Proofs
section
variable {s s0 : St} {Q : Value → St → Prop} {c : Nat} {vs : List Value}
theorem sym_19 (t : Int) (ht : absV t = 3) (n sy : List Value) (hs : ∀ x ∈ sy, SymV x) (hl : sy.length ≤ 65536) : ∀ (m i : Nat) (s : St), i + m = sy.length → VI s0 c (vC t n sy []) s →
    Ok (fun f => p71_19 f c 0 (i : Int)) s (fun v s' => v = .bool true ∧ Fresh s0 s') := by
  intro m
  induction m with
  | zero =>
    intro i s hm hI
    refine Ok.step (fun f => p71_19_eq f c 0 i) ?_
    simp only [Nat.zero_add]
    refine rdV hI (by kernel_rfl) rfl fun s' hI => ?_
    refine Ok.t rfl ?_
    refine Ok.f (decide_eq_false (by show ¬ (i : Int) < (sy.length : Int); omega)) (Ok.ret ⟨rfl, hI.2⟩)
  | succ m IH =>
    intro i s hm2 hI
    have hi : i < sy.length := by omega
    have hw1 : IntKind.i64.wrap ((i : Int) + 1) = ((i + 1 : Nat) : Int) := by rw [wrap_in _ (by omega) (by omega)]; omega
    obtain ⟨y, hy, hy2, hy3⟩ := hs sy[i] (List.getElem_mem hi)
    refine Ok.step (fun f => p71_19_eq f c 0 i) ?_
    simp only [Nat.zero_add]
    refine rdV hI (by kernel_rfl) rfl fun s' hI => ?_
    refine Ok.t rfl ?_
    refine Ok.t (decide_eq_true (by show (i : Int) < (sy.length : Int); omega)) ?_
    refine rdV hI (by kernel_rfl) rfl fun s' hI => ?_
    refine Ok.t rfl ?_
    refine callAbs (Ok.t rfl (Ok.t (decide_eq_true ht) ?_))
    refine rdV hI (by kernel_rfl) rfl fun s' hI => ?_
    refine Ok.t rfl ?_
    simp only [show ∀ x, elems (lstV x) = x from fun _ => rfl, Int.toNat_natCast, at_get sy i hi, hy]
    refine Ok.t (decide_eq_true (by omega)) ?_
    refine Ok.t (by rw [Bool.and_true]; simp only [Bool.and_eq_true]; exact ⟨Nat.ble_eq_true_of_le (by omega), str_hd sy hs⟩) ?_
    refine Ok.t rfl (Ok.t rfl ?_)
    refine callSym (y := y) hy3 (by omega) (Ok.t rfl (Ok.f rfl ?_))
    rw [hw1]
    exact IH (i + 1) s' (by omega) hI
theorem nil_19 (t : Int) (n : List Value) (s : St) (hI : VI s0 c (vC t n [] []) s) : Ok (fun f => p71_18 f c 0) s (fun v s' => v = .bool true ∧ Fresh s0 s') := by
  refine Ok.step (fun f => p71_18_eq f c 0) ?_
  refine Ok.step (fun f => p71_19_eq f c 0 0) ?_
  simp only [Nat.zero_add]
  refine rdV hI (by kernel_rfl) rfl fun s' hI => ?_
  exact Ok.t rfl (Ok.f rfl (Ok.ret ⟨rfl, hI.2⟩))
theorem int_hd (n : List Value) (hn : ∀ x ∈ n, ∃ i, x = .int .i64 i) : hdOk 1 n = true := by
  cases n with
  | nil => rfl
  | cons x r =>
    obtain ⟨y, rfl⟩ := hn x (List.mem_cons_self ..)
    rfl
theorem bool_5 (t : Int) (n : List Value) (hn : ∀ x ∈ n, BitV x) (hl : n.length ≤ 65536) : ∀ (m i : Nat) (s : St), i + m = n.length → VI s0 c (vC t n [] []) s →
    Ok (fun f => p71_5 f c 0 (i : Int)) s (fun v s' => v = .bool true ∧ Fresh s0 s') := by
  intro m
  induction m with
  | zero =>
    intro i s hm hI
    refine Ok.step (fun f => p71_5_eq f c 0 i) ?_
    simp only [Nat.zero_add]
    refine rdV hI (by kernel_rfl) rfl fun s' hI => ?_
    refine Ok.t rfl ?_
    exact Ok.f (decide_eq_false (by show ¬ (i : Int) < (n.length : Int); omega)) (nil_19 t n s' hI)
  | succ m IH =>
    intro i s hm2 hI
    have hi : i < n.length := by omega
    have hw1 : IntKind.i64.wrap ((i : Int) + 1) = ((i + 1 : Nat) : Int) := by rw [wrap_in _ (by omega) (by omega)]; omega
    obtain ⟨y, hy, hor⟩ := hn n[i] (List.getElem_mem hi)
    have hhd := int_hd n fun x hx => by obtain ⟨i, h, _⟩ := hn x hx; exact ⟨i, h⟩
    refine Ok.step (fun f => p71_5_eq f c 0 i) ?_
    simp only [Nat.zero_add]
    refine rdV hI (by kernel_rfl) rfl fun s' hI => ?_
    refine Ok.t rfl ?_
    refine Ok.t (decide_eq_true (by show (i : Int) < (n.length : Int); omega)) ?_
    refine rdV hI (by kernel_rfl) rfl fun s' hI => ?_
    refine Ok.t rfl ?_
    simp only [show ∀ x, elems (lstV x) = x from fun _ => rfl, Int.toNat_natCast, at_get n i hi, hy]
    refine Ok.t (decide_eq_true (by omega)) ?_
    refine Ok.t (by rw [Bool.and_true]; simp only [Bool.and_eq_true]; exact ⟨Nat.ble_eq_true_of_le (by omega), hhd⟩) ?_
    refine Ok.t rfl (Ok.t rfl ?_)
    rw [hw1]
    have nx := IH (i + 1)
    rcases hor with rfl | rfl
    · exact Ok.f rfl (nx s' (by omega) hI)
    · refine Ok.t rfl ?_
      refine rdV hI (by kernel_rfl) rfl fun s' hI => ?_
      refine Ok.t rfl ?_
      simp only [show ∀ x, elems (lstV x) = x from fun _ => rfl, Int.toNat_natCast, at_get n i hi, hy]
      refine Ok.t (decide_eq_true (by omega)) ?_
      refine Ok.t (by rw [Bool.and_true]; simp only [Bool.and_eq_true]; exact ⟨Nat.ble_eq_true_of_le (by omega), hhd⟩) ?_
      refine Ok.t rfl (Ok.t rfl (Ok.f rfl (nx s' (by omega) hI)))
theorem rd0 {t : Int} {n sy l : List Value} {k : Nat → Value → Prog} (hI : VI s0 c (vC t n sy l) s) (hk : ∀ s', VI s0 c (vC t n sy l) s' → Ok (fun f => k f (.int .i64 t)) s' Q) : Ok (fun f => Ev.callP (k f) (loadT En 3 c 0)) s Q := rdV hI (by kernel_rfl) rfl hk
theorem rd1 {t : Int} {n sy l : List Value} {k : Nat → Value → Prog} (hI : VI s0 c (vC t n sy l) s) (hk : ∀ s', VI s0 c (vC t n sy l) s' → Ok (fun f => k f (lstV n)) s' Q) : Ok (fun f => Ev.callP (k f) (loadT En 28 c 1)) s Q := rdV hI (by kernel_rfl) rfl hk
theorem rd2 {t : Int} {n sy l : List Value} {k : Nat → Value → Prog} (hI : VI s0 c (vC t n sy l) s) (hk : ∀ s', VI s0 c (vC t n sy l) s' → Ok (fun f => k f (lstV sy)) s' Q) : Ok (fun f => Ev.callP (k f) (loadT En 29 c 2)) s Q := rdV hI (by kernel_rfl) rfl hk
theorem rd3 {t : Int} {n sy l : List Value} {k : Nat → Value → Prog} (hI : VI s0 c (vC t n sy l) s) (hk : ∀ s', VI s0 c (vC t n sy l) s' → Ok (fun f => k f (lstV l)) s' Q) : Ok (fun f => Ev.callP (k f) (loadT En 30 c 3)) s Q := rdV hI (by kernel_rfl) rfl hk
theorem rdA {t : Int} {n sy l : List Value} {k : Nat → Value → Prog} (hI : VI s0 c (vC t n sy l) s) (hk : ∀ s', VI s0 c (vC t n sy l) s' → Ok (fun f => k f (.agg ⟨vC t n sy l⟩)) s' Q) : Ok (fun f => Ev.callP (k f) (loadT En 32 c 0)) s Q := rdVA hI (by kernel_rfl) (by kernel_rfl) hk
/-- The values that are checked here. -/
def VOK (t : Int) (n sy : List Value) : Prop :=
  n.length ≤ 65536 ∧ sy.length ≤ 65536 ∧ (isAtomV t = true → n.length + sy.length = 1) ∧
  ((Num t ∧ sy = [] ∧ (∀ x ∈ n, ∃ i, x = .int .i64 i) ∧ ((t = 1 ∨ t = -1) → ∀ x ∈ n, BitV x)) ∨ (Sym t ∧ n = [] ∧ ∀ x ∈ sy, SymV x))
theorem plain_ok (s : St) (t : Int) (n sy : List Value) (h : VOK t n sy) : Ok (fun f => callF En (runP En f) 71 [.agg ⟨vC t n sy []⟩]) s (fun v s' => v = .bool true ∧ Fresh s s') := by
  obtain ⟨hn, hsy, hat, hor⟩ := h
  refine Ok.step (fun f => f71_eq f t n sy []) ?_
  refine Ok.g rfl (vStart fun s' hI => ?_)
  refine Ok.t rfl ?_
  simp only [blk_itP, off_itP, Nat.zero_add]
  refine rdVA hI (by kernel_rfl) (by kernel_rfl) fun s' hI => ?_
  refine Ok.t rfl ?_
  refine callAtom (t := t) (n := n) (sy := sy) (l := []) hI fun s' hI => ?_
  refine Ok.t rfl ?_
  have hcnt : isAtomV t = true → (!(decide ((IntKind.wrap IntKind.i64 (Int.ofNat (n.length + sy.length))) = (1 : Int)))) = false := by
    intro ha
    have := hat ha
    rw [this]
    decide
  rcases hor with ⟨ht, rfl, hi, hb⟩ | ⟨ht, rfl, hs⟩
  · rcases ht with rfl | rfl | rfl | rfl | rfl | rfl | rfl | rfl
    all_goals
      repeat' (first
        | with_reducible exact nil_19 _ n _ hI
        | with_reducible refine rd0 hI fun s' hI => ?_
        | with_reducible refine rd1 hI fun s' hI => ?_
        | with_reducible refine rd2 hI fun s' hI => ?_
        | with_reducible refine callAbs ?_
        | ((with_reducible refine Ok.t ?_ ?_); · rfl)
        | ((with_reducible refine Ok.f ?_ ?_); · rfl)
        | ((with_reducible refine Ok.f ?_ ?_); · exact hcnt rfl))
    all_goals exact bool_5 _ n (hb (by omega)) hn n.length 0 _ (by omega) hI
  · rcases ht with rfl | rfl
    all_goals
      repeat' (first
        | with_reducible refine rd0 hI fun s' hI => ?_
        | with_reducible refine rd1 hI fun s' hI => ?_
        | with_reducible refine rd2 hI fun s' hI => ?_
        | with_reducible refine callAbs ?_
        | ((with_reducible refine Ok.t ?_ ?_); · rfl)
        | ((with_reducible refine Ok.f ?_ ?_); · rfl)
        | ((with_reducible refine Ok.f ?_ ?_); · exact hcnt rfl))
    all_goals exact Ok.step (fun f => p71_18_eq f _ 0) (sym_19 _ rfl [] sy hs hsy sy.length 0 _ (by omega) hI)
end
end Go.Proofs.YtmjbmbmnnephjaaGreatDoor
/- The reference's Check. -/
namespace Go.Proofs.YtmjbmbmnnephjaaGreatDoor
open Go Go.Ev Go.Proofs
section
variable {s s0 : St} {Q : Value → St → Prop} {c : Nat} {vs : List Value}
theorem callFr {g : Nat} {X a : Value} {k : Nat → Value → Prog} (sp : ∀ s, Ok (fun f => callF En (runP En f) g [a]) s (fun v s' => v = X ∧ Fresh s s')) (hI : VI s0 c vs s) (hk : ∀ s', VI s0 c vs s' → Ok (fun f => k f X) s' Q) :
    Ok (fun f => .call (callF En (runP En f) g [a]) (k f)) s Q := by
  refine Ok.call (sp s) ?_
  rintro v s1 ⟨rfl, f1⟩
  exact hk s1 (hI.fresh f1)
theorem nr0 (t : Int) (n sy l : List Value) : intOf (at_ (aggOf (.agg ⟨vC t n sy l⟩)) 0) = t := rfl
theorem nr1 (t : Int) (n sy l : List Value) : elems (at_ (aggOf (.agg ⟨vC t n sy l⟩)) 1) = n := rfl
theorem nr2 (t : Int) (n sy l : List Value) : elems (at_ (aggOf (.agg ⟨vC t n sy l⟩)) 2) = sy := rfl
theorem nr3 (t : Int) (n sy l : List Value) : elems (at_ (aggOf (.agg ⟨vC t n sy l⟩)) 3) = l := rfl
theorem parts_18 (t : Int) (n sy : List Value) (x : Int) (s : St) (hI : VI s0 c (vC t n sy []) s) : Ok (fun f => p36_18 f x c 0 0) s (fun v s' => v = .int .i64 0 ∧ Fresh s0 s') := by
  refine Ok.step (fun f => p36_18_eq f x c 0 0) ?_
  simp only [Nat.zero_add]
  refine rd3 hI fun s' hI => ?_
  exact Ok.t rfl (Ok.f rfl (Ok.ret ⟨rfl, hI.2⟩))
theorem parts_11 (t : Int) (n sy : List Value) (s : St) (hI : VI s0 c (vC t n sy []) s) : Ok (fun f => p36_11 f 1048576 c 0 1) s (fun v s' => v = .int .i64 0 ∧ Fresh s0 s') := by
  refine Ok.step (fun f => p36_11_eq f 1048576 c 0 1) ?_
  simp only [Nat.zero_add]
  refine rd3 hI fun s' hI => ?_
  exact Ok.t rfl (Ok.f rfl (Ok.f rfl (parts_18 t n sy _ s' hI)))
theorem parts_ok (s : St) (t : Int) (n sy : List Value) (h : VOK t n sy) : Ok (fun f => callF En (runP En f) 36 [.agg ⟨vC t n sy []⟩, .int .i64 1048576]) s (fun v s' => v = .int .i64 0 ∧ Fresh s s') := by
  have hm : ∀ s, Ok (fun f => callF En (runP En f) 69 [.agg ⟨vC t n sy []⟩]) s (fun v s' => v = .bool false ∧ Fresh s s') := fun s => many_ok s t n sy [] (by rcases h.2.2.2 with h | h; exact .inl h.1; exact .inr h.1) h.1 h.2.1
  have hg : ∀ s, Ok (fun f => callF En (runP En f) 70 [.agg ⟨vC t n sy []⟩]) s (fun v s' => v = .bool false ∧ Fresh s s') := fun s => long_v s t n sy (by rcases h.2.2.2 with h | h; (rw [h.2.1]; intro x hx; cases hx); exact h.2.2) h.2.1
  have hp : ∀ s, Ok (fun f => callF En (runP En f) 71 [.agg ⟨vC t n sy []⟩]) s (fun v s' => v = .bool true ∧ Fresh s s') := fun s => plain_ok s t n sy h
  refine Ok.step (fun f => f36_eq f t n sy [] 1048576) ?_
  refine Ok.g rfl (vStart fun s' hI => ?_)
  refine Ok.t rfl ?_
  simp only [blk_itP, off_itP, Nat.zero_add]
  refine rd0 hI fun s' hI => ?_
  refine Ok.t rfl ?_
  rcases h.2.2.2 with ⟨ht, rfl, _⟩ | ⟨ht, rfl, _⟩
  · refine Ok.call (fieldsN s' t ht) ?_
    rintro v s1 ⟨rfl, rfl⟩
    refine Ok.t rfl (Ok.f rfl (Ok.f rfl (Ok.t rfl ?_)))
    refine rd2 hI fun s' hI => ?_
    refine Ok.t rfl (Ok.f rfl (Ok.t rfl ?_))
    refine rd3 hI fun s' hI => ?_
    refine Ok.t rfl (Ok.f rfl ?_)
    refine rdA hI fun s' hI => ?_
    refine Ok.t rfl ?_
    refine callFr hm hI fun s' hI => ?_
    refine Ok.t rfl (Ok.f rfl ?_)
    refine rdA hI fun s' hI => ?_
    refine Ok.t rfl ?_
    refine callFr hg hI fun s' hI => ?_
    refine Ok.t rfl (Ok.f rfl ?_)
    refine rdA hI fun s' hI => ?_
    refine Ok.t rfl ?_
    refine callFr hp hI fun s' hI => ?_
    exact Ok.t rfl (Ok.f rfl (parts_11 t n [] s' hI))
  · refine Ok.call (fieldsS s' t ht) ?_
    rintro v s1 ⟨rfl, rfl⟩
    refine Ok.t rfl (Ok.f rfl (Ok.t rfl ?_))
    refine rd1 hI fun s' hI => ?_
    refine Ok.t rfl (Ok.f rfl (Ok.f rfl (Ok.t rfl ?_)))
    refine rd3 hI fun s' hI => ?_
    refine Ok.t rfl (Ok.f rfl ?_)
    refine rdA hI fun s' hI => ?_
    refine Ok.t rfl ?_
    refine callFr hm hI fun s' hI => ?_
    refine Ok.t rfl (Ok.f rfl ?_)
    refine rdA hI fun s' hI => ?_
    refine Ok.t rfl ?_
    refine callFr hg hI fun s' hI => ?_
    refine Ok.t rfl (Ok.f rfl ?_)
    refine rdA hI fun s' hI => ?_
    refine Ok.t rfl ?_
    refine callFr hp hI fun s' hI => ?_
    exact Ok.t rfl (Ok.f rfl (parts_11 t [] sy s' hI))
theorem depth_ok (s : St) (t : Int) (n sy : List Value) : Ok (fun f => callF En (runP En f) 37 [.agg ⟨vC t n sy []⟩]) s (fun v s' => v = .int .i64 1 ∧ Fresh s s') := by
  refine Ok.step (fun f => f37_eq f t n sy []) ?_
  refine Ok.g rfl (vStart fun s' hI => ?_)
  refine Ok.t rfl ?_
  simp only [blk_itP, off_itP]
  refine Ok.step (fun f => p37_3_eq f s.ctr 0 0 0) ?_
  simp only [Nat.zero_add]
  refine rd3 hI fun s' hI => ?_
  exact Ok.t rfl (Ok.f rfl (Ok.ret ⟨rfl, hI.2⟩))
theorem check_ok (s : St) (t : Int) (n sy : List Value) (h : VOK t n sy) : Ok (fun f => callF En (runP En f) 13 [.agg ⟨vC t n sy []⟩]) s (fun v s' => v = .int .i64 0 ∧ Fresh s s') := by
  refine Ok.step (fun f => f13_eq f t n sy []) ?_
  refine Ok.g rfl (vStart fun s' hI => ?_)
  refine Ok.t rfl ?_
  simp only [blk_itP, off_itP]
  refine rdA hI fun s' hI => ?_
  refine Ok.t rfl ?_
  refine Ok.call (parts_ok s' t n sy h) ?_
  rintro v s1 ⟨rfl, f1⟩
  have hI := hI.fresh f1
  refine Ok.t rfl (Ok.t rfl ?_)
  refine rdA hI fun s' hI => ?_
  refine Ok.t rfl ?_
  refine callFr (fun s => depth_ok s t n sy) hI fun s' hI => ?_
  exact Ok.t rfl (Ok.f rfl (Ok.ret ⟨rfl, hI.2⟩))
end
end Go.Proofs.YtmjbmbmnnephjaaGreatDoor
/- LexCovers: the law's own code. -/
namespace Go.Proofs.YtmjbmbmnnephjaaGreatDoor
open Go Go.Ev Go.Proofs
theorem f10_eq (f : Nat) : callF En (runP En f) 10 [] = .ret (.bool true) := by kernel_rfl
theorem valOK {t : Int} {n sy l : List Value} (h : ValOK t n sy l) : l = [] ∧ VOK t n sy := by
  obtain ⟨hl, hc, k, hk, ht, hor⟩ := h
  refine ⟨hl, by omega, by omega, ?_, ?_⟩
  · intro ha
    by_cases h1 : n.length + sy.length = 1
    · exact h1
    · exfalso
      have : t = k := by rw [ht, atomT, if_neg h1]
      subst this
      simp only [isAtomV, Bool.and_eq_true, decide_eq_true_eq] at ha
      omega
  · have hneg : ∀ k : Int, (k = 1 ∨ k = 2 ∨ k = 3 ∨ k = 4 ∨ k = 5) → IntKind.i64.wrap ((0 : Int) + Int.neg k) = -k := by
      intro k hk
      rcases hk with rfl | rfl | rfl | rfl | rfl <;> decide
    have htk : t = k ∨ t = -k := by
      rw [ht, atomT]
      split
      · exact .inr (hneg k hk)
      · exact .inl rfl
    rcases hor with ⟨rfl, hn, hs⟩ | ⟨hk3, hsy, hn⟩
    · exact .inr ⟨by unfold Sym; omega, hn, hs⟩
    · refine .inl ⟨by unfold Num; omega, hsy, fun x hx => by obtain ⟨i, h, _⟩ := hn x hx; exact ⟨i, h⟩, fun h1 x hx => ?_⟩
      obtain ⟨i, h, h2⟩ := hn x hx
      exact ⟨i, h, h2 (by omega)⟩
section
variable {s s0 : St} {str : ByteArray}
theorem liveEnd {Q : Value → St → Prop} (hq : ∀ s, Q (.bool true) s) : Ok (fun f => Prog.call (callF En (runP En f) 10 []) fun v62 => (cnd (Prog.ret (Value.bool (boolOf v62))) Prog.fail (okK Kd.bool v62))) s Q := by
  refine Ok.call (Q1 := fun v s' => v = .bool true ∧ s' = s) ?_ ?_
  · simp only [f10_eq]
    exact Ok.ret ⟨rfl, rfl⟩
  · rintro v s1 ⟨rfl, rfl⟩
    exact Ok.t rfl (Ok.ret (hq _))
theorem cov_22 (hs : (bl str).length ≤ 1000000) : ∀ (m : Nat) (w : Int), 0 ≤ w → w + m = (bl str).length → blanks str w (bl str).length → Ok (fun f => p3_22 f str w) s (fun v _ => v = .bool true) := by
  have hbl : (bl str).length = str.data.toList.length := rfl
  intro m
  induction m with
  | zero =>
    intro w h0 hm hb
    refine Ok.step (fun f => p3_22_eq f str w) ?_
    exact Ok.f (decide_eq_false (by simp only [Int.ofNat_eq_natCast]; omega)) (liveEnd fun _ => rfl)
  | succ m IH =>
    intro w h0 hm hb
    have hw1 : IntKind.i64.wrap (w + 1) = w + 1 := wrap_in _ (by omega) (by omega)
    refine Ok.step (fun f => p3_22_eq f str w) ?_
    refine Ok.t (decide_eq_true (by simp only [Int.ofNat_eq_natCast]; omega)) ?_
    refine Ok.t (decide_eq_true h0) ?_
    refine Ok.t (Nat.ble_eq_true_of_le (by omega)) ?_
    have hbl1 : Int.ofNat (byteAt str w.toNat) = 32 := hb w (Int.le_refl w) (by omega)
    refine Ok.f (by rw [decide_eq_true hbl1]; rfl) ?_
    rw [hw1]
    exact IH (w + 1) (by omega) (by omega) fun i h1 h2 => hb i (by omega) h2
theorem cov_13 (hs : (bl str).length ≤ 1000000) (x3 : List Value) (i : Int) (t : Tok) (p : Int) (ht : TokOK str p t) (hnx : ∀ s, Ok (fun f => p3_8 f str x3 t.en (IntKind.i64.wrap (i + 1))) s (fun v _ => v = .bool true)) (c : Nat) :
    ∀ (m : Nat) (w : Int) (s : St), 0 ≤ w → w + m = p → blanks str w p → VI s0 c t.cells s → Ok (fun f => p3_13 f str x3 w i c 0) s (fun v _ => v = .bool true) := by
  have hbl : (bl str).length = str.data.toList.length := rfl
  obtain ⟨u1, u2, u3, u4, u5, u6, u7⟩ := ht
  intro m
  induction m with
  | succ m IH =>
    intro w s h0 hm hb hI
    have hw1 : IntKind.i64.wrap (w + 1) = w + 1 := wrap_in _ (by omega) (by omega)
    refine Ok.step (fun f => p3_13_eq f str x3 w i c 0) ?_
    simp only [Nat.zero_add]
    refine rdV hI (o := 1) (v := .int .i64 t.at_) (by kernel_rfl) rfl fun s' hI => ?_
    refine Ok.t rfl ?_
    simp only [intOf]
    refine Ok.t (decide_eq_true (by omega)) ?_
    refine Ok.t (decide_eq_true h0) ?_
    refine Ok.t (Nat.ble_eq_true_of_le (by omega)) ?_
    have hbl1 : Int.ofNat (byteAt str w.toNat) = 32 := hb w (Int.le_refl w) (by omega)
    refine Ok.f (by rw [decide_eq_true hbl1]; rfl) ?_
    rw [hw1]
    exact IH (w + 1) s' (by omega) (by omega) (fun i h1 h2 => hb i (by omega) h2) hI
  | zero =>
    intro w s h0 hm hb hI
    have t3 : scal En 3 = true := by kernel_rfl
    have t9 : scal En 9 = true := by kernel_rfl
    refine Ok.step (fun f => p3_13_eq f str x3 w i c 0) ?_
    simp only [Nat.zero_add]
    refine rdV hI (o := 1) (v := .int .i64 t.at_) t3 rfl fun s' hI => ?_
    refine Ok.t rfl ?_
    simp only [intOf]
    refine Ok.f (decide_eq_false (by omega)) ?_
    have fin : ∀ s, VI s0 c t.cells s → Ok (fun f => Ev.callP (fun v55 => (cnd (p3_8 f str x3 (intOf v55) (IntKind.wrap IntKind.i64 (i + (1 : Int)))) Prog.fail (okK (Kd.int IntKind.i64) v55))) (loadT En 3 c 2)) s (fun v _ => v = .bool true) := by
      intro s hI
      refine rdV hI (o := 2) (v := .int .i64 t.en) t3 rfl fun s' hI => ?_
      exact Ok.t rfl (hnx s')
    have val : ∀ s, VI s0 c t.cells s → Ok (fun f => Ev.callP (fun v52 =>
                                          (cnd
                                            (cnd
                                              (Ev.callP (fun v53 =>
                                                (cnd
                                                  (Prog.call (callF En (runP En f) 13 [(Value.agg ⟨((Value.int IntKind.i64 (intOf (at_ (aggOf v53) 0))) :: ((lstV (elems (at_ (aggOf v53) 1))) :: ((lstV (elems (at_ (aggOf v53) 2))) :: ((lstV (elems (at_ (aggOf v53) 3))) :: []))))⟩)]) fun v54 =>
                                                    (cnd
                                                      (cnd
                                                        (Prog.ret (Value.bool Bool.false))
                                                        (Ev.callP (fun v55 =>
                                                          (cnd
                                                            (p3_8 f str x3 (intOf v55) (IntKind.wrap IntKind.i64 (i + (1 : Int))))
                                                            Prog.fail
                                                            (okK (Kd.int IntKind.i64) v55)))
                                                          (loadT En 3 c 2))
                                                        (Bool.not (decide ((intOf v54) = (0 : Int)))))
                                                      Prog.fail
                                                      (okK (Kd.int IntKind.i64) v54)))
                                                  Prog.fail
                                                  ((isAggV v53) && (okKs ((Kd.int IntKind.i64) :: (Kd.lst :: (Kd.lst :: (Kd.lst :: [])))) (aggOf v53)))))
                                                (loadT En 32 c 4))
                                              (Ev.callP (fun v56 =>
                                                (cnd
                                                  (p3_8 f str x3 (intOf v56) (IntKind.wrap IntKind.i64 (i + (1 : Int))))
                                                  Prog.fail
                                                  (okK (Kd.int IntKind.i64) v56)))
                                                (loadT En 3 c 2))
                                              (decide ((intOf v52) = (1 : Int))))
                                            Prog.fail
                                            (okK (Kd.int IntKind.i64) v52)))
                                          (loadT En 3 c 0)) s (fun v _ => v = .bool true) := by
      intro s hI
      refine rdV hI (o := 0) (v := .int .i64 t.kind) t3 rfl fun s' hI => ?_
      refine Ok.t rfl ?_
      refine Ok.c (fun h1 => ?_) (fun _ => fin s' hI)
      have h1 := of_decide_eq_true h1
      obtain ⟨hl, hv⟩ := valOK (u7 h1)
      obtain ⟨el, ex, z, sy', hf⟩ := hI.1.1.1
      have hcl : CellsAt s'.mem c (c + 1 + 4) (vC t.t t.n t.sy t.l) := (show CellsAt s'.mem c (c + 1) ([.int .i64 t.kind, .int .i64 t.at_, .int .i64 t.en, .string t.text] ++ vC t.t t.n t.sy t.l) from hI.1.1.2).right
      refine Ok.callP (Ok.loadA (n := 4) (vs := vC t.t t.n t.sy t.l) (by kernel_rfl) (by kernel_rfl) rfl ⟨_, hf⟩ hcl) ?_
      rintro w s1 ⟨rfl, m1, c1, l1⟩
      have hI := VI.reads s' s1 hI ⟨m1, c1, [⟨false, c + 1 + 4, 4⟩, ⟨false, c, 1⟩], l1, rfl⟩
      refine Ok.t rfl ?_
      have hl' : t.l = [] := hl
      rw [hl']
      refine Ok.call (check_ok s1 t.t t.n t.sy hv) ?_
      rintro v s2 ⟨rfl, f2⟩
      exact Ok.t rfl (Ok.f rfl (fin s2 (hI.fresh f2)))
    refine Ok.segLoad t3 (hI.1.1.cell 0 (v := .int .i64 t.kind) rfl) fun s1 r1 => ?_
    have hI := VI.reads s' s1 hI r1
    refine Ok.t rfl ?_
    simp only [intOf]
    refine Ok.c (fun h3 => ?_) (fun h3 => val s1 hI)
    have h3 : t.kind ≠ 3 := of_decide_eq_false (not_t h3)
    refine Ok.segLoad t9 (hI.1.1.cell 3 (v := .string t.text) rfl) fun s2 r2 => ?_
    have hI := VI.reads s1 s2 hI r2
    refine Ok.gdL (by kernel_rfl) (Ok.t rfl ?_)
    refine Ok.segLoad t3 (hI.1.1.cell 1 (v := .int .i64 t.at_) rfl) fun s3 r3 => ?_
    have hI := VI.reads s2 s3 hI r3
    refine Ok.gdL (by kernel_rfl) (Ok.t rfl ?_)
    refine Ok.segLoad t3 (hI.1.1.cell 2 (v := .int .i64 t.en) rfl) fun s4 r4 => ?_
    have hI := VI.reads s3 s4 hI r4
    refine Ok.gdL (by kernel_rfl) (Ok.t rfl ?_)
    simp only [intOf, strOf]
    refine Ok.t (decide_eq_true (by omega)) ?_
    refine Ok.t (decide_eq_true (by omega)) ?_
    refine Ok.t (by simp only [Bool.and_eq_true]; exact ⟨Nat.ble_eq_true_of_le (by omega), Nat.ble_eq_true_of_le (by omega)⟩) ?_
    refine Ok.f ?_ (val s4 hI)
    rw [beqB_eq]
    have htx := u6 h3
    rw [htx, u1]
    simp [sub, mkStr, bl]
theorem cov_8 (hs : (bl str).length ≤ 1000000) (ts : List Tok) (hl : ts.length ≤ 100000) : ∀ (m i : Nat) (w : Int) (s : St), i + m = ts.length → 0 ≤ w → Cov str w (ts.drop i) (bl str).length →
    Ok (fun f => p3_8 f str (ts.map tokV) w (i : Int)) s (fun v _ => v = .bool true) := by
  have hbl : (bl str).length = str.data.toList.length := rfl
  have t3 : scal En 3 = true := by kernel_rfl
  intro m
  induction m with
  | zero =>
    intro i w s hm h0 hc
    rw [List.drop_eq_nil_of_le (by omega)] at hc
    obtain ⟨h1, h2⟩ := hc
    refine Ok.step (fun f => p3_8_eq f str (ts.map tokV) w i) ?_
    refine Ok.f (decide_eq_false (by rw [List.length_map]; simp only [Int.ofNat_eq_natCast]; omega)) ?_
    exact cov_22 hs ((bl str).length - w.toNat) w h0 (by omega) h2
  | succ m IH =>
    intro i w s hm h0 hc
    have hi : i < ts.length := by omega
    rw [List.drop_eq_getElem_cons hi] at hc
    obtain ⟨h1, h2, h3, h4⟩ := hc
    generalize hte : ts[i] = t at h1 h2 h3 h4
    have hat : at_ (ts.map tokV) i = tokV t := by
      rw [at_get _ _ (by rw [List.length_map]; exact hi), List.getElem_map, hte]
    have hhd : hdOk 8 (ts.map tokV) = true := by
      cases ts with
      | nil => rfl
      | cons x r => rfl
    have hw1 : IntKind.i64.wrap ((i : Int) + 1) = ((i + 1 : Nat) : Int) := by rw [wrap_in _ (by omega) (by omega)]; omega
    refine Ok.step (fun f => p3_8_eq f str (ts.map tokV) w i) ?_
    simp only [Int.toNat_natCast, hat]
    refine Ok.t (decide_eq_true (by rw [List.length_map]; simp only [Int.ofNat_eq_natCast]; omega)) ?_
    refine Ok.t (decide_eq_true (by omega)) ?_
    refine Ok.t (by rw [Bool.and_true, hhd, Bool.and_true]; exact Nat.ble_eq_true_of_le (by rw [List.length_map]; omega)) ?_
    refine Ok.t rfl (Ok.t rfl ?_)
    refine Ok.callP (Ok.new rfl) ?_
    rintro v s1 ⟨rfl, e1, e2, e3⟩
    refine Ok.t rfl ?_
    simp only [blk_itP, off_itP, Nat.zero_add]
    refine Ok.callP (Ok.storeRow (n := 8) (ws := t.cells) (by kernel_rfl) e2 rfl rfl rfl) ?_
    rintro v s2 ⟨rfl, c2, g2, k2⟩
    have hI : VI s s.ctr t.cells s2 := ⟨⟨g2, by show s.ctr + 1 + 8 ≤ s2.ctr; omega, Nat.le_refl _⟩, by omega, fun k hk => by rw [k2 k (.inl (by omega)), e3 k hk]⟩
    have h3' := h3
    obtain ⟨u1, u2, u3, u4, u5, u6, u7⟩ := h3
    refine rdV hI (o := 1) (v := .int .i64 t.at_) t3 rfl fun s3 hI => ?_
    refine Ok.t rfl ?_
    simp only [intOf]
    refine Ok.f (decide_eq_false (by omega)) ?_
    refine rdV hI (o := 2) (v := .int .i64 t.en) t3 rfl fun s4 hI => ?_
    refine Ok.t rfl ?_
    refine rdV hI (o := 1) (v := .int .i64 t.at_) t3 rfl fun s5 hI => ?_
    refine Ok.t rfl ?_
    simp only [intOf]
    refine Ok.f (decide_eq_false (by omega)) ?_
    refine rdV hI (o := 2) (v := .int .i64 t.en) t3 rfl fun s6 hI => ?_
    refine Ok.t rfl ?_
    simp only [intOf]
    refine Ok.f (decide_eq_false (by simp only [Int.ofNat_eq_natCast]; omega)) ?_
    refine rdV hI (o := 0) (v := .int .i64 t.kind) t3 rfl fun s7 hI => ?_
    refine Ok.t rfl ?_
    simp only [intOf]
    refine Ok.f (decide_eq_false (by omega)) ?_
    refine rdV hI (o := 0) (v := .int .i64 t.kind) t3 rfl fun s8 hI => ?_
    refine Ok.t rfl ?_
    simp only [intOf]
    refine Ok.f (decide_eq_false (by omega)) ?_
    refine cov_13 hs (ts.map tokV) i t t.at_ h3' (fun s9 => ?_) s.ctr (t.at_ - w).toNat w s8 h0 (by omega) h2 hI
    rw [hw1]
    exact IH (i + 1) t.en s9 (by omega) (by omega) h4
theorem covers_ok (s : St) (str : ByteArray) (hlib : Lib s.mem s.ctr) : Ok (fun f => callF En (runP En f) 3 [.string str]) s (fun v _ => v = .bool true) := by
  have hbl : (bl str).length = str.data.toList.length := rfl
  refine Ok.step (fun f => f3_eq f str) ?_
  refine Ok.c (fun _ => liveEnd fun _ => rfl) (fun hle => ?_)
  have hle := of_decide_eq_false hle
  simp only [Int.ofNat_eq_natCast] at hle
  refine Ok.call (lex_ok s str hlib) ?_
  rintro v s1 (⟨err, bad, he, hb1, hb2, rfl⟩ | ⟨ts, hl, hcov, rfl⟩)
  · refine Ok.t rfl ?_
    refine Ok.call (Q1 := fun v s' => v = .int .i64 err) (Ok.step (fun f => f12_eq f err) (Ok.ret rfl)) ?_
    rintro v s2 rfl
    refine Ok.t rfl ?_
    refine Ok.t (by show (!(decide (err = 0))) = true; rw [decide_eq_false he]; rfl) ?_
    refine Ok.t (decide_eq_true (show bad ≥ 0 from hb1)) ?_
    refine Ok.t (decide_eq_true (show bad ≤ Int.ofNat _ from hb2)) ?_
    exact Ok.t rfl (liveEnd fun _ => rfl)
  · refine Ok.t rfl ?_
    refine Ok.call (Q1 := fun v s' => v = .int .i64 0) (Ok.step (fun f => f12_eq f 0) (Ok.ret rfl)) ?_
    rintro v s2 rfl
    refine Ok.t rfl (Ok.f rfl ?_)
    exact cov_8 (by omega) ts (by omega) ts.length 0 0 s2 (by omega) (Int.le_refl 0) (by rw [List.drop_zero]; exact hcov)
end
end Go.Proofs.YtmjbmbmnnephjaaGreatDoor
