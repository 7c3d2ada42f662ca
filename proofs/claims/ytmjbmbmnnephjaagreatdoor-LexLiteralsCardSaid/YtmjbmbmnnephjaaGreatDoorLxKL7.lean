/- The reference's Print of atoms and vectors, exact. -/
import Derived.Test.YtmjbmbmnnephjaaGreatDoorLxKL5
import Derived.Test.YtmjbmbmnnephjaaGreatDoorLxKL6
import Derived.Test.YtmjbmbmnnephjaaGreatDoorLxKL3
import Derived.Test.YtmjbmbmnnephjaaGreatDoorEvS26
import Derived.ChangeArms
import Derived.DataReads
import Derived.SizedLaws
import Derived.KernelRfl
namespace Go.Proofs.YtmjbmbmnnephjaaGreatDoor
open Go Go.Ev Go.Proofs Go.Num Go.Lib
/-- A value's row, and a text that grows behind it. -/
def PV (s0 : St) (c : Nat) (vs : List Value) (cs : List UInt8) (w : Value) (s : St) : Prop := VI s0 c vs s ∧ Buf s (c + 1 + vs.length) 5 (u8s cs) w ∧ ∃ a b d, w = .slice a b d
/-- What is answered: a text that grew. -/
def VQ (s0 : St) (T : List UInt8) (w : Value) (s : St) : Prop := (∃ lo, Buf s lo 5 (u8s T) w) ∧ (∃ a b d, w = .slice a b d) ∧ Fresh s0 s
section
variable {s s0 : St} {Q : Value → St → Prop} {c : Nat} {vs : List Value} {cs : List UInt8} {w : Value}
theorem PV.fresh {s' : St} (h : PV s0 c vs cs w s) (f : Fresh s s') : PV s0 c vs cs w s' := ⟨h.1.fresh f, h.2.1.fresh f, h.2.2⟩
theorem PV.reads {s' : St} (h : PV s0 c vs cs w s) (f : Reads s s') : PV s0 c vs cs w s' := h.fresh (Go.Ev.Reads.fresh f)
theorem PV.q (h : PV s0 c vs cs w s) : VQ s0 cs w s := ⟨⟨_, h.2.1⟩, h.2.2, h.1.2⟩
theorem PV.nil (h : VI s0 c vs s) : PV s0 c vs [] (.slice none 0 0) s := ⟨h, ⟨rfl, h.1.2.1, .inl (Grow.nil _ _ _ _ _)⟩, _, _, _, rfl⟩
theorem PV.next {cs' : List UInt8} {w' : Value} {s' : St} (h : PV s0 c vs cs w s) (h1 : Buf s' (c + 1 + vs.length) 5 (u8s cs') w') (h2 : s.ctr ≤ s'.ctr) (h3 : ∀ k, k < c + 1 + vs.length → s'.mem.get k = s.mem.get k) (h4 : ∃ a b d, w' = Value.slice a b d) :
    PV s0 c vs cs' w' s' := by
  obtain ⟨⟨⟨g1, g2, g3⟩, g4⟩, _, _⟩ := h
  exact ⟨⟨⟨g1.congr fun j _ hj => h3 j hj, by omega, g3⟩, ⟨Nat.le_trans g4.1 h2, fun k hk => (h3 k (by omega)).trans (g4.2 k hk)⟩⟩, h1, h4⟩
theorem PV.pushO {d : UInt8} {v : Int} (h : PV s0 c vs cs w s) (hv : v = (d.toNat : Int)) (hn : cs.length ≤ 100000000) :
    Ok (fun _ => builtinA En Builtin.append (65 :: (65 :: [])) (w :: ((xlstV ((Value.int IntKind.u8 v) :: [])) :: []))) s (fun w' s' => PV s0 c vs (cs ++ [d]) w' s') := by
  subst hv
  refine Ok.mono (Ok.appM appT65 h.2.1 (es := u8s [d]) (u8s_ints _) (by simp [u8s]) (by simp only [u8s_length, List.length_singleton]; omega)) ?_
  rintro w' s' ⟨g1, g2, g3, g4⟩
  rw [← u8s_append] at g1
  exact h.next g1 g2 g3 g4
theorem PV.push {d : UInt8} {v : Int} {k : Nat → Value → Prog} (h : PV s0 c vs cs w s) (hv : v = (d.toNat : Int)) (hn : cs.length ≤ 100000000) (hk : ∀ w' s', PV s0 c vs (cs ++ [d]) w' s' → Ok (fun f => k f w') s' Q) :
    Ok (fun f => Ev.callP (k f) (builtinA En Builtin.append (65 :: (65 :: [])) (w :: ((xlstV ((Value.int IntKind.u8 v) :: [])) :: [])))) s Q :=
  Ok.callP (h.pushO hv hn) fun w' s' h' => hk w' s' h'
theorem PV.strO {x : List UInt8} (h : PV s0 c vs cs w s) (hn : cs.length + x.length ≤ 100000000) :
    Ok (fun _ => builtinA En Builtin.append (65 :: (9 :: [])) (w :: ((Value.string (mkStr x)) :: []))) s (fun w' s' => PV s0 c vs (cs ++ x) w' s') := by
  refine Ok.mono (Ok.appS (x := mkStr x) appT65 h9s h.2.1 h.2.2 (by rw [u8s_length]; show (cs.length + x.length) * (1 + 1) ≤ _; omega)) ?_
  rintro w' s' ⟨g1, g2, g3, g4⟩
  rw [show (mkStr x).data.toList = x from rfl, ← u8s_append] at g1
  exact h.next g1 g2 g3 g4
theorem PV.str {x : List UInt8} {k : Nat → Value → Prog} (h : PV s0 c vs cs w s) (hn : cs.length + x.length ≤ 100000000) (hk : ∀ w' s', PV s0 c vs (cs ++ x) w' s' → Ok (fun f => k f w') s' Q) :
    Ok (fun f => Ev.callP (k f) (builtinA En Builtin.append (65 :: (9 :: [])) (w :: ((Value.string (mkStr x)) :: [])))) s Q :=
  Ok.callP (h.strO hn) fun w' s' h' => hk w' s' h'
theorem PV.rd {t o : Nat} {v : Value} {k : Nat → Value → Prog} (h : PV s0 c vs cs w s) (hs : scal En t = true) (hv : vs[o]? = some v) (hk : ∀ s', PV s0 c vs cs w s' → Ok (fun f => k f v) s' Q) : Ok (fun f => Ev.callP (k f) (loadT En t c o)) s Q :=
  Ok.rd (fun s s' (h : PV s0 c vs cs w s) r => h.reads r) h hs (h.1.1.1.cell o hv) hk
end
/-- The texts. -/
def vecT (t : Nat) (ns : List Int) (ss : List (List UInt8)) : List UInt8 :=
  if t = 3 then (if ss = [] then [40, 41, mkC (t - 1)] else symsT ss) else if ns = [] then [40, 41, mkC (t - 1)] else if t = 1 then bitsT ns ++ [98] else joinN t ns
theorem joinN_snoc (t : Nat) (n : Int) : ∀ (l : List Int), l ≠ [] → joinN t (l ++ [n]) = joinN t l ++ 32 :: numT t n
  | [], h => absurd rfl h
  | [m], _ => rfl
  | m :: m' :: l, _ => by
    have ih := joinN_snoc t n (m' :: l) (by simp)
    show numT t m ++ 32 :: joinN t ((m' :: l) ++ [n]) = _
    rw [ih]
    show _ = (numT t m ++ 32 :: joinN t (m' :: l)) ++ 32 :: numT t n
    simp
theorem joinN_len (t : Nat) : ∀ (l : List Int), (∀ n ∈ l, nul ≤ n ∧ n ≤ 9223372036854775807) → (joinN t l).length ≤ 28 * l.length
  | [], _ => by simp [joinN]
  | [m], h => by
    have := numT_len t m (h m (by simp)).1 (h m (by simp)).2
    simp only [joinN, List.length_singleton]; omega
  | m :: m' :: l, h => by
    have h1 := numT_len t m (h m (by simp)).1 (h m (by simp)).2
    have ih := joinN_len t (m' :: l) fun n hn => h n (List.mem_cons_of_mem _ hn)
    simp only [joinN, List.length_append, List.length_cons] at ih ⊢
    omega
theorem symsT_snoc (x : List UInt8) : ∀ (l : List (List UInt8)), symsT (l ++ [x]) = symsT l ++ symT x
  | [] => by simp [symsT]
  | y :: l => by
    have ih := symsT_snoc x l
    simp only [List.cons_append, symsT, ih, List.append_assoc]
theorem symT_len {x : List UInt8} (h : x.length ≤ 64) : (symT x).length ≤ 300 := by
  have he := enc_len x
  unfold symT symB
  split
  · simp
  · split
    · simp only [List.length_cons]; omega
    · simp only [List.length_cons, quoteT, List.length_append, List.length_nil]; omega
theorem symsT_len : ∀ (l : List (List UInt8)), (∀ x ∈ l, SymL x) → (symsT l).length ≤ 300 * l.length
  | [], _ => by simp [symsT]
  | x :: l, h => by
    have h1 := symT_len (h x (by simp)).1
    have ih := symsT_len l fun y hy => h y (List.mem_cons_of_mem _ hy)
    simp only [symsT, List.length_append, List.length_cons] at ih ⊢
    omega
theorem take_snoc {α : Type} (l : List α) (i : Nat) (h : i < l.length) : l.take (i + 1) = l.take i ++ [l[i]] := by
  rw [List.take_add_one, List.getElem?_eq_getElem h]; rfl
section
variable {s s0 : St} {Q : Value → St → Prop} {c : Nat} {w : Value}
theorem hd_i64s (l : List Int) : hdOk 1 (i64s l) = true := by cases l <;> rfl
theorem hd_strsL (l : List (List UInt8)) : hdOk 1 (strs l) = true := by cases l <;> rfl
theorem at_i64s (l : List Int) (i : Nat) (h : i < l.length) : at_ (i64s l) i = .int .i64 l[i] := by
  rw [at_get _ i (by rw [i64s_length]; exact h)]; simp [i64s]
theorem at_strsL (l : List (List UInt8)) (i : Nat) (h : i < l.length) : at_ (strs l) i = .string (mkStr l[i]) := by
  rw [at_get _ i (by rw [strs_length]; exact h)]; simp [strs]
theorem vec_loop {vs : List Value} (P : Nat → List UInt8) (n : Nat) (hn : n ≤ 65536) (T : List UInt8)
    (hstep : ∀ (i : Nat) (s : St) (w : Value) (Q : Value → St → Prop), i < n → PV s0 c vs (P i) w s → (∀ w' s', PV s0 c vs (P (i + 1)) w' s' → Ok (fun f => p75_8 f w' c 0 (n : Int) (i : Int)) s' Q) → Ok (fun f => p75_7 f w c 0 (n : Int) (i : Int)) s Q)
    (hend : ∀ (s : St) (w : Value), PV s0 c vs (P n) w s → Ok (fun f => p75_7 f w c 0 (n : Int) (n : Int)) s (VQ s0 T)) :
    ∀ (m i : Nat) (s : St) (w : Value), i + m = n → PV s0 c vs (P i) w s → Ok (fun f => p75_7 f w c 0 (n : Int) (i : Int)) s (VQ s0 T) := by
  intro m
  induction m with
  | zero =>
    intro i s w hm h
    have : i = n := by omega
    subst this
    exact hend s w h
  | succ m ih =>
    intro i s w hm h
    refine hstep i s w _ (by omega) h fun w' s' h' => ?_
    have hw1 : IntKind.i64.wrap ((i : Int) + 1) = ((i + 1 : Nat) : Int) := by rw [wrap_in _ (by omega) (by omega)]; omega
    refine Ok.step (fun f => p75_8_eq f _ _ _ _ _) ?_
    rw [hw1]
    exact ih (i + 1) s' w' (by omega) h'
theorem vec_syms (l : List (List UInt8)) (hl : l.length ≤ 20000) (hs : ∀ x ∈ l, SymL x) (n : List Value) (s : St) (w : Value) (h : PV s0 c (vC 3 n (strs l) []) [] w s) :
    Ok (fun f => p75_7 f w c 0 (l.length : Int) 0) s (VQ s0 (symsT l)) := by
  refine vec_loop (fun i => symsT (l.take i)) l.length (by omega) (symsT l) ?_ ?_ l.length 0 s w (by omega) h
  · intro i s w Q hi h K
    have hlen := symsT_len (l.take i) fun x hx => hs x (List.mem_of_mem_take hx)
    rw [List.length_take] at hlen
    have hx := hs l[i] (List.getElem_mem hi)
    have hx2 := symT_len hx.1
    refine Ok.step (fun f => p75_7_eq f w c 0 _ _) ?_
    refine Ok.t (decide_eq_true (by omega)) ?_
    simp only [Nat.zero_add]
    refine h.rd (by kernel_rfl) rfl fun s' h => ?_
    refine Ok.t rfl (Ok.t rfl ?_)
    refine h.rd (by kernel_rfl) rfl fun s' h => ?_
    refine Ok.t rfl ?_
    simp only [show ∀ x, elems (lstV x) = x from fun _ => rfl, Int.toNat_natCast, at_strsL l i hi]
    refine Ok.t (decide_eq_true (by omega)) ?_
    refine Ok.t (by rw [Bool.and_true]; simp only [Bool.and_eq_true]; exact ⟨Nat.ble_eq_true_of_le (by rw [strs_length]; omega), hd_strsL l⟩) ?_
    refine Ok.t rfl (Ok.t rfl ?_)
    refine Ok.call (symbol4_ok s' l[i] (by have := hx.1; omega)) ?_
    rintro v s1 ⟨rfl, f1⟩
    refine Ok.t rfl ?_
    refine PV.str (h.fresh f1) (by omega) fun w' s2 h2 => ?_
    refine K w' s2 ?_
    rw [take_snoc l i hi, symsT_snoc]
    exact h2
  · intro s w h
    refine Ok.step (fun f => p75_7_eq f w c 0 _ _) ?_
    refine Ok.f (decide_eq_false (by omega)) ?_
    simp only [Nat.zero_add]
    refine h.rd (by kernel_rfl) rfl fun s' h => ?_
    refine Ok.t rfl (Ok.f rfl ?_)
    refine Ok.step (fun f => p75_18_eq f w) (Ok.ret ?_)
    have := h.q
    simp only [List.take_length] at this
    exact this
theorem vec_bits (l : List Int) (hl : l.length ≤ 20000) (hb : ∀ x ∈ l, x = 0 ∨ x = 1) (sy : List Value) (s : St) (w : Value) (h : PV s0 c (vC 1 (i64s l) sy []) [] w s) :
    Ok (fun f => p75_7 f w c 0 (l.length : Int) 0) s (VQ s0 (bitsT l ++ [98])) := by
  refine vec_loop (fun i => bitsT (l.take i)) l.length (by omega) _ ?_ ?_ l.length 0 s w (by omega) h
  · intro i s w Q hi h K
    have hlen := bitsT_length (l.take i)
    rw [List.length_take] at hlen
    have hx := hb l[i] (List.getElem_mem hi)
    refine Ok.step (fun f => p75_7_eq f w c 0 _ _) ?_
    refine Ok.t (decide_eq_true (by omega)) ?_
    simp only [Nat.zero_add]
    refine h.rd (by kernel_rfl) rfl fun s' h => ?_
    refine Ok.t rfl (Ok.f rfl ?_)
    refine h.rd (by kernel_rfl) rfl fun s' h => ?_
    refine Ok.t rfl (Ok.t rfl ?_)
    refine h.rd (by kernel_rfl) rfl fun s' h => ?_
    refine Ok.t rfl ?_
    simp only [show ∀ x, elems (lstV x) = x from fun _ => rfl, Int.toNat_natCast, at_i64s l i hi]
    refine Ok.t (decide_eq_true (by omega)) ?_
    refine Ok.t (by rw [Bool.and_true]; simp only [Bool.and_eq_true]; exact ⟨Nat.ble_eq_true_of_le (by rw [i64s_length]; omega), hd_i64s l⟩) ?_
    refine Ok.t rfl (Ok.t rfl ?_)
    refine PV.push (d := bitB l[i]) h ?_ (by omega) fun w' s2 h2 => ?_
    · rcases hx with e | e
      · simp only [intOf, List.headD, Value.cells]; rw [e]; rfl
      · simp only [intOf, List.headD, Value.cells]; rw [e]; rfl
    refine K w' s2 ?_
    rw [take_snoc l i hi, bitsT, List.map_append]
    exact h2
  · intro s w h
    refine Ok.step (fun f => p75_7_eq f w c 0 _ _) ?_
    refine Ok.f (decide_eq_false (by omega)) ?_
    simp only [Nat.zero_add]
    refine h.rd (by kernel_rfl) rfl fun s' h => ?_
    refine Ok.t rfl (Ok.t rfl ?_)
    have hlen := bitsT_length (l.take l.length)
    rw [List.length_take] at hlen
    refine PV.push (d := 98) h rfl (by omega) fun w' s2 h2 => ?_
    refine Ok.step (fun f => p75_18_eq f w') (Ok.ret ?_)
    have := h2.q
    simp only [List.take_length] at this
    exact this
theorem vec_nums (t : Nat) (ht : t = 2 ∨ t = 4 ∨ t = 5) (l : List Int) (hl : l.length ≤ 20000) (hb : ∀ n ∈ l, nul ≤ n ∧ n ≤ 9223372036854775807) (sy : List Value) (s : St) (w : Value) (h : PV s0 c (vC (t : Int) (i64s l) sy []) [] w s) :
    Ok (fun f => p75_7 f w c 0 (l.length : Int) 0) s (VQ s0 (joinN t l)) := by
  refine vec_loop (fun i => joinN t (l.take i)) l.length (by omega) _ ?_ ?_ l.length 0 s w (by omega) h
  · intro i s w Q hi h K
    have hlen := joinN_len t (l.take i) fun x hx => hb x (List.mem_of_mem_take hx)
    rw [List.length_take] at hlen
    have hx := hb l[i] (List.getElem_mem hi)
    have hx2 := numT_len t l[i] hx.1 hx.2
    -- the number itself
    have fin : ∀ (cs : List UInt8) (w : Value) (s : St), cs.length ≤ 10000000 → cs ++ numT t l[i] = joinN t (l.take (i + 1)) → PV s0 c (vC (t : Int) (i64s l) sy []) cs w s → Ok (fun f => p75_11 f w c 0 (l.length : Int) (i : Int)) s Q := by
      intro cs w s hcs he h
      refine Ok.step (fun f => p75_11_eq f w c 0 _ _) ?_
      simp only [Nat.zero_add]
      refine Ok.segLoad (by kernel_rfl) (h.1.1.1.cell 0 rfl) fun s1 r1 => ?_
      have h := h.reads r1
      refine Ok.t rfl ?_
      refine Ok.segLoad (by kernel_rfl) (h.1.1.1.cell 1 rfl) fun s2 r2 => ?_
      have h := h.reads r2
      refine Ok.gdL (freeL_reads _ _ rfl _ fun d hd => by simp only [List.mem_singleton] at hd; subst hd; rfl) ?_
      refine Ok.t rfl ?_
      simp only [show ∀ x, elems (lstV x) = x from fun _ => rfl, Int.toNat_natCast, at_i64s l i hi]
      refine Ok.t (decide_eq_true (by omega)) ?_
      refine Ok.t (by rw [Bool.and_true]; simp only [Bool.and_eq_true]; exact ⟨Nat.ble_eq_true_of_le (by rw [i64s_length]; omega), hd_i64s l⟩) ?_
      refine Ok.t rfl (Ok.t rfl ?_)
      refine Ok.seg (numberW ⟨s2.mem, s2.ctr, []⟩ t (t : Int) (.inl rfl) (by omega) l[i] hx.1 hx.2) ?_
      rintro v s3 ⟨rfl, rfl⟩
      have h : PV s0 c (vC (t : Int) (i64s l) sy []) cs w ⟨s2.mem, s2.ctr, [] ++ s2.log⟩ := h
      refine Ok.gdL (freeL_reads _ _ rfl _ fun d hd => by simp only [List.mem_cons, List.mem_nil_iff, or_false] at hd; rcases hd with rfl | rfl <;> rfl) ?_
      refine Ok.t rfl ?_
      have hnw : numW t l[i] = numT t l[i] := by unfold numW; rw [if_neg (by omega)]
      rw [hnw]
      refine Ok.seg (PV.strO (x := numT t l[i]) (show PV s0 c (vC (t : Int) (i64s l) sy []) cs w ⟨s2.mem, s2.ctr, []⟩ from h) (by omega)) ?_
      rintro w' s4 h4
      refine Ok.gdL (by simp [freeL, show Nat.testBit 511 8 = true from rfl, show Nat.testBit 511 4 = true from rfl, show Nat.testBit 511 2 = true from rfl]) ?_
      refine K w' _ ?_
      rw [he] at h4
      exact h4
    refine Ok.step (fun f => p75_7_eq f w c 0 _ _) ?_
    refine Ok.t (decide_eq_true (by omega)) ?_
    simp only [Nat.zero_add]
    refine h.rd (by kernel_rfl) rfl fun s' h => ?_
    refine Ok.t rfl (Ok.f (decide_eq_false (by simp only [intOf]; omega)) ?_)
    refine h.rd (by kernel_rfl) rfl fun s' h => ?_
    refine Ok.t rfl (Ok.f (decide_eq_false (by simp only [intOf]; omega)) ?_)
    by_cases hi0 : i = 0
    · subst hi0
      refine Ok.f (decide_eq_false (by omega)) ?_
      refine fin _ w s' (by omega) ?_ h
      rw [take_snoc l 0 hi]
      rfl
    · refine Ok.t (decide_eq_true (by omega)) ?_
      refine PV.push (d := 32) h rfl (by omega) fun w' s2 h2 => ?_
      refine fin _ w' s2 (by simp only [List.length_append, List.length_singleton]; omega) ?_ h2
      rw [take_snoc l i hi, joinN_snoc t l[i] (l.take i) (by intro e; have := congrArg List.length e; rw [List.length_take, List.length_nil] at this; omega)]
      simp
  · intro s w h
    refine Ok.step (fun f => p75_7_eq f w c 0 _ _) ?_
    refine Ok.f (decide_eq_false (by omega)) ?_
    simp only [Nat.zero_add]
    refine h.rd (by kernel_rfl) rfl fun s' h => ?_
    refine Ok.t rfl (Ok.f (decide_eq_false (by simp only [intOf]; omega)) ?_)
    refine Ok.step (fun f => p75_18_eq f w) (Ok.ret ?_)
    have := h.q
    simp only [List.take_length] at this
    exact this
theorem count_v (s : St) (t : Int) (n sy : List Value) (hv : isVecV t = true) : Ok (fun f => callF En (runP En f) 16 [.agg ⟨vC t n sy []⟩]) s (fun v s' => v = .int .i64 (if t = 3 then (sy.length : Int) else (n.length : Int)) ∧ Fresh s s') := by
  refine Ok.step (fun f => f16_eq f t n sy []) ?_
  refine Ok.g rfl (vStart fun s' hI => ?_)
  refine Ok.t rfl ?_
  simp only [blk_itP, off_itP, Nat.zero_add]
  refine rd0 hI fun s' hI => ?_
  refine Ok.t rfl ?_
  simp only [intOf]
  by_cases h3 : t = 3
  · subst h3
    refine Ok.t rfl ?_
    refine rd2 hI fun s' hI => ?_
    exact Ok.t rfl (Ok.ret ⟨by rw [if_pos rfl]; rfl, hI.2⟩)
  · refine Ok.f (decide_eq_false h3) ?_
    refine rdA hI fun s' hI => ?_
    refine Ok.t rfl ?_
    refine callVec (t := t) (n := n) (sy := sy) (l := []) hI fun s' hI => ?_
    refine Ok.t rfl (Ok.t hv ?_)
    refine rd1 hI fun s' hI => ?_
    exact Ok.t rfl (Ok.ret ⟨by rw [if_neg h3]; rfl, hI.2⟩)
end
end Go.Proofs.YtmjbmbmnnephjaaGreatDoor
/- The reference's Print of atoms and vectors, exact: vector, printed, Print. -/
namespace Go.Proofs.YtmjbmbmnnephjaaGreatDoor
open Go Go.Ev Go.Proofs Go.Num Go.Lib
/-- The values that are printed here, as lists. -/
structure FV (t : Nat) (ns : List Int) (ss : List (List UInt8)) : Prop where
  ty : t = 1 ∨ t = 2 ∨ t = 3 ∨ t = 4 ∨ t = 5
  ln : ns.length ≤ 20000
  ls : ss.length ≤ 20000
  num : ∀ n ∈ ns, nul ≤ n ∧ n ≤ 9223372036854775807
  bit : t = 1 → ∀ n ∈ ns, n = 0 ∨ n = 1
  sym : ∀ x ∈ ss, SymL x
  ns3 : t = 3 → ns = []
  ss3 : t ≠ 3 → ss = []
def cntV (t : Nat) (ns : List Int) (ss : List (List UInt8)) : Nat := if t = 3 then ss.length else ns.length
section
variable {s s0 : St} {Q : Value → St → Prop} {c : Nat} {w : Value}
theorem mk_piece : ∀ j : Fin 5, List.take ((j.val + 1 + 1) - (j.val + 1)) (List.drop (j.val + 1) ([63, 98, 105, 115, 116, 100] : List UInt8)) = [mkC j.val] := by decide
theorem vector_ok {t : Nat} {ns : List Int} {ss : List (List UInt8)} (h : FV t ns ss) (hc : cntV t ns ss ≠ 1) (s : St) :
    Ok (fun f => callF En (runP En f) 75 [.slice none 0 0, .agg ⟨vC (t : Int) (i64s ns) (strs ss) []⟩]) s (VQ s (vecT t ns ss)) := by
  have hv : isVecV (t : Int) = true := by rcases h.ty with rfl | rfl | rfl | rfl | rfl <;> rfl
  refine Ok.step (fun f => f75_eq f _ _ _ _ _) ?_
  refine Ok.g rfl (vStart fun s' hI => ?_)
  refine Ok.t rfl ?_
  simp only [blk_itP, off_itP, Nat.zero_add]
  refine rdA hI fun s' hI => ?_
  refine Ok.t rfl ?_
  refine callFr (fun s => count_v s (t : Int) (i64s ns) (strs ss) hv) hI fun s' hI => ?_
  refine Ok.t rfl ?_
  have ecnt : (if (t : Int) = 3 then ((strs ss).length : Int) else ((i64s ns).length : Int)) = (cntV t ns ss : Int) := by
    rw [strs_length, i64s_length]
    unfold cntV
    by_cases h3 : t = 3
    · rw [if_pos h3, if_pos (by omega)]
    · rw [if_neg h3, if_neg (by omega)]
  rw [ecnt]
  simp only [intOf]
  by_cases h0 : cntV t ns ss = 0
  · rw [h0]
    refine Ok.t rfl ?_
    refine rd0 hI fun s' hI => ?_
    refine Ok.t rfl ?_
    refine rd0 hI fun s' hI => ?_
    refine Ok.t rfl ?_
    obtain ⟨j, rfl, hj⟩ : ∃ j : Nat, t = j + 1 ∧ j < 5 := ⟨t - 1, by have := h.ty; omega, by have := h.ty; omega⟩
    have hw : IntKind.i64.wrap (((j + 1 : Nat) : Int) + 1) = ((j + 1 + 1 : Nat) : Int) := by rw [wrap_in _ (by omega) (by omega)]; omega
    have hp := mk_piece ⟨j, hj⟩
    simp only at hp
    simp only [intOf, hw, Int.toNat_natCast, hp]
    refine Ok.t (decide_eq_true (by omega)) ?_
    refine Ok.t (decide_eq_true (by omega)) ?_
    refine Ok.t (by simp only [Bool.and_eq_true]; exact ⟨Nat.ble_eq_true_of_le (by omega), Nat.ble_eq_true_of_le (by omega)⟩) ?_
    refine Ok.t rfl ?_
    refine PV.str (x := [40, 41, mkC j]) (PV.nil hI) (by simp) fun w' s2 h2 => ?_
    refine Ok.ret ?_
    have e : vecT (j + 1) ns ss = [40, 41, mkC j] := by
      unfold vecT cntV at *
      by_cases h3 : j + 1 = 3
      · rw [if_pos h3] at h0
        rw [if_pos h3, if_pos (List.length_eq_zero_iff.1 h0), Nat.add_sub_cancel]
      · rw [if_neg h3] at h0
        rw [if_neg h3, if_pos (List.length_eq_zero_iff.1 h0), Nat.add_sub_cancel]
    rw [e]
    exact h2.q
  · refine Ok.f (decide_eq_false (by omega)) ?_
    refine Ok.f (decide_eq_false (by omega)) ?_
    refine Ok.step (fun f => p75_6_eq f _ _ _ _) ?_
    have hp := PV.nil hI
    unfold vecT
    by_cases h3 : t = 3
    · subst h3
      rw [if_pos rfl]
      unfold cntV at h0 ⊢
      rw [if_pos rfl] at h0 ⊢
      rw [if_neg (fun e => h0 (by rw [e]; rfl))]
      exact vec_syms ss h.ls h.sym _ s' _ hp
    · rw [if_neg h3]
      unfold cntV at h0 ⊢
      rw [if_neg h3] at h0 ⊢
      rw [if_neg (fun e => h0 (by rw [e]; rfl))]
      by_cases h1 : t = 1
      · subst h1
        rw [if_pos rfl]
        exact vec_bits ns h.ln (h.bit rfl) _ s' _ hp
      · rw [if_neg h1]
        exact vec_nums t (by have := h.ty; omega) ns h.ln h.num _ s' _ hp
/-- An atom's text. -/
def atomW (t : Nat) (ns : List Int) (ss : List (List UInt8)) : List UInt8 := if t = 3 then symsT ss else if t = 1 then bitsT ns ++ [98] else joinN t ns
theorem printed_vec {t : Nat} {ns : List Int} {ss : List (List UInt8)} (h : FV t ns ss) (hc : cntV t ns ss ≠ 1) (s : St) :
    Ok (fun f => callF En (runP En f) 39 [.slice none 0 0, .agg ⟨vC (t : Int) (i64s ns) (strs ss) []⟩]) s (VQ s (vecT t ns ss)) := by
  have hv : isVecV (t : Int) = true := by rcases h.ty with rfl | rfl | rfl | rfl | rfl <;> rfl
  have ha : isAtomV (t : Int) = false := by rcases h.ty with rfl | rfl | rfl | rfl | rfl <;> rfl
  refine Ok.step (fun f => f39_eq f _ _ _ _ _) ?_
  refine Ok.g rfl (vStart fun s' hI => ?_)
  refine Ok.t rfl ?_
  simp only [blk_itP, off_itP, Nat.zero_add]
  refine rd0 hI fun s' hI => ?_
  refine Ok.t rfl ?_
  refine Ok.f (decide_eq_false (by simp only [intOf]; omega)) ?_
  refine rdA hI fun s' hI => ?_
  refine Ok.t rfl ?_
  refine callAtom (t := (t : Int)) (n := i64s ns) (sy := strs ss) (l := []) hI fun s' hI => ?_
  refine Ok.t rfl (Ok.f ha ?_)
  refine rdA hI fun s' hI => ?_
  refine Ok.t rfl ?_
  refine callVec (t := (t : Int)) (n := i64s ns) (sy := strs ss) (l := []) hI fun s' hI => ?_
  refine Ok.t rfl (Ok.t hv ?_)
  refine rdA hI fun s' hI => ?_
  refine Ok.t rfl ?_
  refine Ok.call (vector_ok h hc s') ?_
  rintro v s2 ⟨q1, q2, q3⟩
  exact Ok.ret ⟨q1, q2, hI.2.trans q3⟩
theorem printed_atom {t : Nat} {ns : List Int} {ss : List (List UInt8)} (hF : FV t ns ss) (hc : cntV t ns ss = 1) (s : St) :
    Ok (fun f => callF En (runP En f) 39 [.slice none 0 0, .agg ⟨vC (-(t : Int)) (i64s ns) (strs ss) []⟩]) s (VQ s (atomW t ns ss)) := by
  have ha : isAtomV (-(t : Int)) = true := by rcases hF.ty with rfl | rfl | rfl | rfl | rfl <;> rfl
  unfold atomW
  refine Ok.step (fun f => f39_eq f _ _ _ _ _) ?_
  refine Ok.g rfl (vStart fun s' hI => ?_)
  refine Ok.t rfl ?_
  simp only [blk_itP, off_itP, Nat.zero_add]
  refine rd0 hI fun s' hI => ?_
  refine Ok.t rfl ?_
  unfold cntV at hc
  by_cases h3 : t = 3
  · subst h3
    rw [if_pos rfl] at hc ⊢
    obtain ⟨x, rfl⟩ := List.length_eq_one_iff.1 hc
    have hx := hF.sym x (by simp)
    have hx2 := symT_len hx.1
    refine Ok.t rfl ?_
    refine rd2 hI fun s' hI => ?_
    refine Ok.t rfl (Ok.t rfl (Ok.t rfl (Ok.t rfl ?_)))
    refine Ok.call (symbol4_ok s' x (by have := hx.1; omega)) ?_
    rintro v s1 ⟨rfl, f1⟩
    refine Ok.t rfl ?_
    refine PV.str (PV.nil (hI.fresh f1)) (by simp only [List.length_nil]; omega) fun w' s2 h2 => ?_
    refine Ok.ret ?_
    have := h2.q
    simpa [symsT] using this
  · rw [if_neg h3] at hc ⊢
    obtain ⟨n, rfl⟩ := List.length_eq_one_iff.1 hc
    have hn := hF.num n (by simp)
    refine Ok.f (decide_eq_false (by simp only [intOf]; omega)) ?_
    refine rdA hI fun s' hI => ?_
    refine Ok.t rfl ?_
    refine callAtom (t := -(t : Int)) (n := i64s [n]) (sy := strs ss) (l := []) hI fun s' hI => ?_
    refine Ok.t rfl (Ok.t ha ?_)
    have h := PV.nil hI
    refine Ok.segLoad (by kernel_rfl) (h.1.1.1.cell 0 rfl) fun s1 r1 => ?_
    have h := h.reads r1
    refine Ok.t rfl ?_
    refine Ok.segLoad (by kernel_rfl) (h.1.1.1.cell 1 rfl) fun s2 r2 => ?_
    have h := h.reads r2
    refine Ok.gdL (freeL_reads _ _ rfl _ fun d hd => by simp only [List.mem_singleton] at hd; subst hd; rfl) ?_
    refine Ok.t rfl (Ok.t rfl (Ok.t rfl (Ok.t rfl ?_)))
    have hty := hF.ty
    refine Ok.seg (numberW ⟨s2.mem, s2.ctr, []⟩ t (-(t : Int)) (.inr rfl) (by omega) n hn.1 hn.2) ?_
    rintro v s3 ⟨rfl, rfl⟩
    have h : PV s s.ctr (vC (-(t : Int)) (i64s [n]) (strs ss) []) [] (.slice none 0 0) ⟨s2.mem, s2.ctr, [] ++ s2.log⟩ := h
    refine Ok.gdL (freeL_reads _ _ rfl _ fun d hd => by simp only [List.mem_cons, List.mem_nil_iff, or_false] at hd; rcases hd with rfl | rfl <;> rfl) ?_
    refine Ok.t rfl ?_
    have hb : (numW t n).length ≤ 200 := by
      unfold numW
      split
      · have := itoa_short n hn.1 hn.2; simp only [List.length_append, List.length_singleton]; omega
      · have := numT_len t n hn.1 hn.2; omega
    refine Ok.seg (PV.strO (x := numW t n) (show PV s s.ctr (vC (-(t : Int)) (i64s [n]) (strs ss) []) [] (.slice none 0 0) ⟨s2.mem, s2.ctr, []⟩ from h) (by simp only [List.length_nil]; omega)) ?_
    rintro w' s4 h4
    refine Ok.gdL (by simp [freeL, show Nat.testBit 255 7 = true from rfl, show Nat.testBit 255 4 = true from rfl, show Nat.testBit 255 2 = true from rfl]) ?_
    refine Ok.ret ?_
    have e : numW t n = (if t = 1 then bitsT [n] ++ [98] else joinN t [n]) := by
      unfold numW
      by_cases h1 : t = 1
      · rw [if_pos h1, if_pos h1]
        rcases hF.bit h1 n (by simp) with rfl | rfl
        · have e : itoa 0 = [48] := by
            have := itoa_nonneg 0
            rw [decDigits_one (by decide)] at this
            exact this
          rw [e]; rfl
        · have e : itoa 1 = [49] := by
            have := itoa_nonneg 1
            rw [decDigits_one (by decide)] at this
            exact this
          rw [e]; rfl
      · rw [if_neg h1, if_neg h1]; rfl
    rw [List.nil_append, e] at h4
    exact h4.q
theorem lambdas_ok (s : St) (t : Int) (n sy : List Value) (ht : t ≠ 100) : Ok (fun f => callF En (runP En f) 38 [.agg ⟨vC t n sy []⟩]) s (fun v s' => v = .bool true ∧ Fresh s s') := by
  refine Ok.step (fun f => f38_eq f t n sy []) ?_
  refine Ok.g rfl (vStart fun s' hI => ?_)
  refine Ok.t rfl ?_
  simp only [blk_itP, off_itP, Nat.zero_add]
  refine rd0 hI fun s' hI => ?_
  refine Ok.t rfl ?_
  refine Ok.f (decide_eq_false (by simp only [intOf]; exact ht)) ?_
  refine Ok.step (fun f => p38_4_eq f s.ctr 0 0) ?_
  simp only [Nat.zero_add]
  refine rd3 hI fun s' hI => ?_
  exact Ok.t rfl (Ok.f rfl (Ok.ret ⟨rfl, hI.2⟩))
theorem len9 (x : ByteArray) : builtinA En Builtin.len (9 :: []) (Value.string x :: []) = .ret (vInt x.data.toList.length) := by kernel_rfl
/-- What Print answers. -/
def PrintQ (s : St) (T : List UInt8) (v : Value) (s' : St) : Prop := Fresh s s' ∧ ((65536 < T.length ∧ v = .tuple ⟨[.string (mkStr []), .int .i64 1]⟩) ∨ (T.length ≤ 65536 ∧ v = .tuple ⟨[.string (mkStr T), .int .i64 0]⟩))
theorem print_ok {t : Int} {n sy : List Value} {T : List UInt8} (hV : VOK t n sy) (ht : t ≠ 100) (hp : ∀ s, Ok (fun f => callF En (runP En f) 39 [.slice none 0 0, .agg ⟨vC t n sy []⟩]) s (VQ s T)) (s : St) :
    Ok (fun f => callF En (runP En f) 17 [.agg ⟨vC t n sy []⟩]) s (PrintQ s T) := by
  refine Ok.step (fun f => f17_eq f t n sy []) ?_
  refine Ok.g rfl (vStart fun s' hI => ?_)
  refine Ok.t rfl ?_
  simp only [blk_itP, off_itP]
  refine rdA hI fun s' hI => ?_
  refine Ok.t rfl ?_
  refine callFr (fun s => check_ok s t n sy hV) hI fun s' hI => ?_
  refine Ok.t rfl (Ok.f rfl ?_)
  refine rdA hI fun s' hI => ?_
  refine Ok.t rfl ?_
  refine callFr (fun s => lambdas_ok s t n sy ht) hI fun s' hI => ?_
  refine Ok.t rfl (Ok.f rfl ?_)
  refine rdA hI fun s' hI => ?_
  refine Ok.t rfl ?_
  refine Ok.call (hp s') ?_
  rintro v s2 ⟨⟨lo, q1⟩, q2, q3⟩
  have hI := hI.fresh q3
  refine Ok.callP (conv65 (q1.grow q2) (u8s_ok T)) ?_
  rintro v s3 ⟨rfl, r3⟩
  rw [u8s_bytes]
  have hI := VI.reads s2 s3 hI r3
  rw [len9]
  refine Ok.callP (Q1 := fun v s' => v = vInt (T.length : Nat) ∧ s' = s3) (Ok.ret ⟨rfl, rfl⟩) ?_
  rintro v s4 ⟨rfl, rfl⟩
  refine Ok.t rfl ?_
  refine Ok.c (fun h => ?_) (fun h => ?_)
  · have h := of_decide_eq_true h
    simp only [intOf, vInt] at h
    exact Ok.ret ⟨hI.2, .inl ⟨by omega, rfl⟩⟩
  · have h := of_decide_eq_false h
    simp only [intOf, vInt] at h
    exact Ok.ret ⟨hI.2, .inr ⟨by omega, rfl⟩⟩
end
end Go.Proofs.YtmjbmbmnnephjaaGreatDoor
/- The lexer takes what is printed of a value as one token with that value. -/
namespace Go.Proofs.YtmjbmbmnnephjaaGreatDoor
open Go Go.Ev Go.Proofs Go.Num Go.Lib
/-- The lexer's answer: one token with a value. -/
def LexOne (s : St) (X : List UInt8) (tv : Int) (n sy : List Value) (v : Value) (s' : St) : Prop :=
  v = .tuple ⟨[lstV [tokV ⟨1, 0, (X.length : Int), mkStr X, tv, n, sy, []⟩], .int .i64 0, .int .i64 0]⟩ ∧ Fresh s s'
section
variable {s : St} {b : Nat} {bad : Int}
theorem joinN_split (T : Nat) (n : Int) (rest : List Int) : ∃ r, joinN T (n :: rest) = sgn (numS n) (numB T n) ++ r := by
  obtain ⟨r, e, _⟩ := joinN_head T n rest
  exact ⟨r, by rw [e, numT_split]⟩
theorem tok_nums [Gh] {T : Nat} (hT : T = 2 ∨ T = 4 ∨ T = 5) (ns : List Int) (h0 : ns ≠ []) (hr : ∀ m ∈ ns, nul ≤ m ∧ m ≤ 9223372036854775807) (hcnt : ns.length ≤ 65536) (hs : (joinN T ns).length ≤ 65536) (h : LX s b (mkStr (joinN T ns)) 0 [] 0 bad) :
    Ok (fun f => callF En (runP En f) 34 [.pointer (some ⟨b, 0, none⟩)]) s (OneQ b (mkStr (joinN T ns)) 0 [] bad (T : Int) (i64s ns) []) := by
  have hbl : bl (mkStr (joinN T ns)) = joinN T ns := rfl
  obtain ⟨n, rest, rfl⟩ := List.exists_cons_of_ne_nil h0
  obtain ⟨r, e⟩ := joinN_split T n rest
  obtain ⟨c, x, eB, hc⟩ := numB_head T n
  have hcase : isDigit (byteOf (mkStr (joinN T (n :: rest))) 0) = true ∨ (byteOf (mkStr (joinN T (n :: rest))) 0 = 45 ∧ isDigit (byteOf (mkStr (joinN T (n :: rest))) 1) = true) := by
    cases hS : numS n with
    | false =>
      have hd : (bl (mkStr (joinN T (n :: rest)))).drop 0 = c :: (x ++ r) := by rw [hbl, e, hS, eB]; rfl
      have hb := byteOf_head hd
      exact .inl (by rw [show byteOf (mkStr (joinN T (n :: rest))) 0 = Int.ofNat c.toNat from hb, dig_eq]; exact hc)
    | true =>
      have hd : (bl (mkStr (joinN T (n :: rest)))).drop 0 = 45 :: (c :: (x ++ r)) := by rw [hbl, e, hS, eB]; rfl
      have hb := byteOf_head hd
      have hb1 := byteOf_head (drop_next hd)
      exact .inr ⟨hb, by rw [show byteOf (mkStr (joinN T (n :: rest))) 1 = Int.ofNat c.toNat from hb1, dig_eq]; exact hc⟩
  have no : ∀ k : Int, k ≠ 45 → (k < 48 ∨ 57 < k) → byteOf (mkStr (joinN T (n :: rest))) 0 ≠ k := by
    intro k hk hk2 e
    rcases hcase with h | ⟨h, _⟩
    · rw [e] at h
      simp only [isDigit, Bool.and_eq_true, decide_eq_true_eq] at h
      omega
    · exact hk (e.symm.trans h)
  refine tok_head h (by rw [hbl]; omega) (fun v s' h => h.1) (fun s' h' _ => ?_) (fun s' _ e => absurd e (no _ (by decide) (by decide))) (fun s' _ e => absurd e (no _ (by decide) (by decide))) (by rcases hcase with h | h; exact .inl h; exact .inr (.inl h))
  exact numeral_nums 0 T hT n rest hr (by simpa using hcnt) h' rfl (by rw [hbl]; omega) (by simp)
theorem bitB_dig (n : Int) : isD (bitB n) = true := by unfold bitB; split <;> rfl
theorem tok_bits [Gh] (ns : List Int) (h0 : ns ≠ []) (hb : ∀ n ∈ ns, n = 0 ∨ n = 1) (hcnt : ns.length ≤ 65536) (hs : (bitsT ns ++ [98]).length ≤ 65536) (h : LX s b (mkStr (bitsT ns ++ [98])) 0 [] 0 bad) :
    Ok (fun f => callF En (runP En f) 34 [.pointer (some ⟨b, 0, none⟩)]) s (OneQ b (mkStr (bitsT ns ++ [98])) 0 [] bad 1 (i64s ns) []) := by
  have hbl : bl (mkStr (bitsT ns ++ [98])) = bitsT ns ++ [98] := rfl
  obtain ⟨n, rest, e⟩ := List.exists_cons_of_ne_nil h0
  have hd : (bl (mkStr (bitsT ns ++ [98]))).drop 0 = bitB n :: (bitsT rest ++ [98]) := by rw [hbl, e]; rfl
  have hdg : isDigit (byteOf (mkStr (bitsT ns ++ [98])) 0) = true := by
    rw [show byteOf (mkStr (bitsT ns ++ [98])) 0 = Int.ofNat (bitB n).toNat from byteOf_head hd, dig_eq]
    exact bitB_dig n
  have no : ∀ k : Int, (k < 48 ∨ 57 < k) → byteOf (mkStr (bitsT ns ++ [98])) 0 ≠ k := by
    intro k hk2 e
    rw [e] at hdg
    simp only [isDigit, Bool.and_eq_true, decide_eq_true_eq] at hdg
    omega
  refine tok_head h (by rw [hbl]; omega) (fun v s' h => h.1) (fun s' h' _ => ?_) (fun s' _ e => absurd e (no _ (by decide))) (fun s' _ e => absurd e (no _ (by decide))) (.inl hdg)
  exact numeral_bits 0 ns h0 hb hcnt h' rfl (by rw [hbl]; omega) (by simp)
theorem tok_syms [Gh] (ss : List (List UInt8)) (h0 : ss ≠ []) (hb : ∀ x ∈ ss, SymL x) (hcnt : ss.length ≤ 65536) (hs : (symsT ss).length ≤ 65536) (h : LX s b (mkStr (symsT ss)) 0 [] 0 bad) :
    Ok (fun f => callF En (runP En f) 34 [.pointer (some ⟨b, 0, none⟩)]) s (OneQ b (mkStr (symsT ss)) 0 [] bad 3 [] (strs ss)) := by
  have hbl : bl (mkStr (symsT ss)) = symsT ss := rfl
  obtain ⟨x, rest, e⟩ := List.exists_cons_of_ne_nil h0
  have hd : (bl (mkStr (symsT ss))).drop 0 = 96 :: (symB x ++ symsT rest) := by rw [hbl, e]; rfl
  have h96 : byteOf (mkStr (symsT ss)) 0 = 96 := byteOf_head hd
  refine tok_head h (by rw [hbl]; omega) (fun v s' h => h.1) (fun s' _ e => ?_) (fun s' h' _ => ?_) (fun s' _ e => absurd (h96.symm.trans e) (by decide)) (.inr (.inr (.inl h96)))
  · rw [h96] at e
    rcases e with e | ⟨e, _⟩
    · exact absurd e (by decide)
    · exact absurd e (by decide)
  · exact symbolsX 0 ss h0 hb hcnt h' rfl (by rw [hbl]; omega) (by simp)
theorem tok_mark [Gh] {j : Nat} (hj : j < 5) (h : LX s b (mkStr [40, 41, mkC j]) 0 [] 0 bad) :
    Ok (fun f => callF En (runP En f) 34 [.pointer (some ⟨b, 0, none⟩)]) s (OneQ b (mkStr [40, 41, mkC j]) 0 [] bad ((j : Int) + 1) [] []) := by
  have h40 : byteOf (mkStr [40, 41, mkC j]) 0 = 40 := byteOf_head (k := 0) (c := 40) (r := [41, mkC j]) rfl
  refine tok_head h (by show 3 ≤ 100000; omega) (fun v s' h => h.1) (fun s' _ e => ?_) (fun s' h' e => absurd (h40.symm.trans e) (by decide)) (fun s' h' _ => markX hj h' rfl (by simp)) (.inr (.inr (.inr h40)))
  rw [h40] at e
  rcases e with e | ⟨e, _⟩
  · exact absurd e (by decide)
  · exact absurd e (by decide)
end
theorem lex_one {X : List UInt8} {T : Int} {n sy : List Value} {c : UInt8} {r : List UInt8} (hX : X = c :: r) (hc : c ≠ 32)
    (htok : ∀ [Gh] (s : St) (b : Nat), LX s b (mkStr X) 0 [] 0 0 → Ok (fun f => callF En (runP En f) 34 [.pointer (some ⟨b, 0, none⟩)]) s (OneQ b (mkStr X) 0 [] 0 T n sy))
    (s : St) (hlib : @Lib ghNone s.mem s.ctr) (hle : X.length ≤ 65536) : Ok (fun f => callF En (runP En f) 11 [.string (mkStr X)]) s (LexOne s X (atomT T (n.length + sy.length)) n sy) := by
  letI g : Gh := ⟨⟨s.mem, s.ctr⟩⟩
  have hl : @Lib g s.mem s.ctr := ⟨hlib.1, Nat.le_refl _, fun _ _ => rfl⟩
  have hb : byteI (mkStr X) 0 = Int.ofNat c.toNat := by
    have := byteI_at (str := mkStr X) (k := 0) (i := 0) (l := c :: r) (by rw [hX]; rfl) (by simp)
    exact this
  refine Ok.mono (lexX (str := mkStr X) hl hle (by show 0 < X.length; rw [hX]; simp) (by rw [hb]; intro e; exact hc (UInt8.toNat_inj.1 (by have e : ((c.toNat : Nat) : Int) = 32 := e; show c.toNat = 32; omega))) (fun s b h => htok s b h)) ?_
  rintro v s' ⟨rfl, h1, h2⟩
  refine ⟨?_, h1, h2⟩
  have hsub : sub (mkStr X) 0 ((bl (mkStr X)).length : Int) = mkStr X := by
    have := sub_at (str := mkStr X) (k := 0) (l := X) (r := []) (by rw [List.append_nil]; rfl)
    rw [Nat.zero_add] at this
    exact this
  rw [hsub]
  rfl
/-- The type of a value with these lists. -/
def tyV (t : Nat) (ns : List Int) (ss : List (List UInt8)) : Int := if cntV t ns ss = 1 then -(t : Int) else (t : Int)
def txtV (t : Nat) (ns : List Int) (ss : List (List UInt8)) : List UInt8 := if cntV t ns ss = 1 then atomW t ns ss else vecT t ns ss
theorem atomT_nat (t m : Nat) (h : t ≤ 10) : atomT (t : Int) m = if m = 1 then -(t : Int) else (t : Int) := by
  unfold atomT
  split
  · show IntKind.i64.wrap ((0 : Int) + -(t : Int)) = _
    rw [wrap_in _ (by omega) (by omega)]; omega
  · rfl
theorem lex_value {t : Nat} {ns : List Int} {ss : List (List UInt8)} (h : FV t ns ss) (s : St) (hlib : @Lib ghNone s.mem s.ctr) (hle : (txtV t ns ss).length ≤ 65536) :
    Ok (fun f => callF En (runP En f) 11 [.string (mkStr (txtV t ns ss))]) s (LexOne s (txtV t ns ss) (tyV t ns ss) (i64s ns) (strs ss)) := by
  have hty := h.ty
  have ecnt : (i64s ns).length + (strs ss).length = cntV t ns ss := by
    rw [i64s_length, strs_length]
    unfold cntV
    by_cases h3 : t = 3
    · rw [if_pos h3, h.ns3 h3]; simp
    · rw [if_neg h3, h.ss3 h3]; simp
  have ety : atomT (t : Int) ((i64s ns).length + (strs ss).length) = tyV t ns ss := by
    rw [ecnt, atomT_nat t _ (by omega)]; rfl
  by_cases h0 : cntV t ns ss = 0
  · obtain ⟨j, rfl, hj⟩ : ∃ j : Nat, t = j + 1 ∧ j < 5 := ⟨t - 1, by omega, by omega⟩
    have hns : ns = [] ∧ ss = [] := by
      unfold cntV at h0
      by_cases h3 : j + 1 = 3
      · rw [if_pos h3] at h0
        exact ⟨h.ns3 h3, List.length_eq_zero_iff.1 h0⟩
      · rw [if_neg h3] at h0
        exact ⟨List.length_eq_zero_iff.1 h0, h.ss3 h3⟩
    obtain ⟨rfl, rfl⟩ := hns
    have ex : txtV (j + 1) [] [] = [40, 41, mkC j] := by
      unfold txtV
      rw [if_neg (by rw [h0]; decide)]
      unfold vecT
      by_cases h3 : j + 1 = 3
      · rw [if_pos h3, if_pos rfl, Nat.add_sub_cancel]
      · rw [if_neg h3, if_pos rfl, Nat.add_sub_cancel]
    rw [ex] at hle ⊢
    have := lex_one (X := [40, 41, mkC j]) (T := (j : Int) + 1) (n := []) (sy := []) rfl (by decide) (fun s b h => tok_mark hj h) s hlib hle
    have e2 : atomT ((j : Int) + 1) (([] : List Value).length + ([] : List Value).length) = tyV (j + 1) [] [] := by
      rw [← ety]
      rfl
    rw [e2] at this
    exact this
  · by_cases h3 : t = 3
    · have h0' : ss ≠ [] := fun e => h0 (by unfold cntV; rw [if_pos h3, e]; rfl)
      have ex : txtV t ns ss = symsT ss := by
        unfold txtV atomW vecT
        rw [if_pos h3, if_pos h3, if_neg h0']
        split <;> rfl
      have hns := h.ns3 h3
      subst hns h3
      rw [ex] at hle ⊢
      obtain ⟨x, rest, e⟩ := List.exists_cons_of_ne_nil h0'
      have := lex_one (X := symsT ss) (T := 3) (n := []) (sy := strs ss) (c := 96) (r := symB x ++ symsT rest) (by rw [e]; rfl) (by decide) (fun s b h' => tok_syms ss h0' h.sym (by have := h.ls; omega) hle h') s hlib hle
      rw [show ([] : List Value).length = (i64s []).length from rfl, show (3 : Int) = ((3 : Nat) : Int) from rfl, ety] at this
      exact this
    · have h0' : ns ≠ [] := fun e => h0 (by unfold cntV; rw [if_neg h3, e]; rfl)
      have hss := h.ss3 h3
      subst hss
      obtain ⟨n, rest, e⟩ := List.exists_cons_of_ne_nil h0'
      by_cases h1 : t = 1
      · have ex : txtV t ns [] = bitsT ns ++ [98] := by
          unfold txtV atomW vecT
          rw [if_neg h3, if_neg h3, if_neg h0', if_pos h1]
          split <;> rfl
        subst h1
        rw [ex] at hle ⊢
        have := lex_one (X := bitsT ns ++ [98]) (T := 1) (n := i64s ns) (sy := []) (c := bitB n) (r := bitsT rest ++ [98]) (by rw [e]; rfl) (by unfold bitB; split <;> decide) (fun s b h' => tok_bits ns h0' (h.bit rfl) (by have := h.ln; omega) hle h') s hlib hle
        rw [show ([] : List Value).length = (strs []).length from rfl, show (1 : Int) = ((1 : Nat) : Int) from rfl, ety] at this
        exact this
      · have ex : txtV t ns [] = joinN t ns := by
          unfold txtV atomW vecT
          rw [if_neg h3, if_neg h3, if_neg h0', if_neg h1]
          split <;> rfl
        rw [ex] at hle ⊢
        obtain ⟨c, x, eh, hc⟩ := numT_head t n
        obtain ⟨r, er, _⟩ := joinN_head t n rest
        have := lex_one (X := joinN t ns) (T := (t : Int)) (n := i64s ns) (sy := []) (c := c) (r := x ++ r) (by rw [e, er, eh]; rfl) (by intro e; rw [e] at hc; revert hc; decide) (fun s b h' => tok_nums (by omega) ns h0' h.num (by have := h.ln; omega) hle h') s hlib hle
        rw [show ([] : List Value).length = (strs []).length from rfl, ety] at this
        exact this
end Go.Proofs.YtmjbmbmnnephjaaGreatDoor
/- The reference's Check of flat values, whatever they are: symbol, long, plain. -/
namespace Go.Proofs.YtmjbmbmnnephjaaGreatDoor
open Go Go.Ev Go.Proofs
section
variable {s s0 : St} {Q : Value → St → Prop} {c : Nat} {vs : List Value}
def IntV (x : Value) : Prop := ∃ i, x = .int .i64 i
def StrV (x : Value) : Prop := ∃ b, x = .string b
def bitOk (x : Value) : Bool := decide (intOf x = 0) || decide (intOf x = 1)
def noZ (y : ByteArray) : Bool := (bl y).all fun c => !decide (c = 0)
def symOk (x : Value) : Bool := noZ (strOf x)
def longV (most : Int) (x : Value) : Bool := decide (((bl (strOf x)).length : Int) > most)
theorem strV_hd (sy : List Value) (hs : ∀ x ∈ sy, StrV x) : hdOk 1 sy = true := by
  cases sy with
  | nil => rfl
  | cons x r => obtain ⟨y, rfl⟩ := hs x (List.mem_cons_self ..); rfl
theorem symX_l (y : ByteArray) (hl : (bl y).length ≤ 1000000) (s : St) : ∀ (m i : Nat), i + m = (bl y).length → Ok (fun f => p129_2 f y (i : Int)) s (fun v s' => v = .bool (((bl y).drop i).all fun c => !decide (c = 0)) ∧ s' = s) := by
  intro m
  induction m with
  | zero =>
    intro i hm
    refine Ok.step (fun f => p129_2_eq f y i) ?_
    refine Ok.f (decide_eq_false (by show ¬ (i : Int) < ((bl y).length : Int); omega)) (Ok.ret ⟨?_, rfl⟩)
    rw [List.drop_of_length_le (by omega)]; rfl
  | succ m IH =>
    intro i hm
    have hi : i < (bl y).length := by omega
    have hw1 : IntKind.i64.wrap ((i : Int) + 1) = ((i + 1 : Nat) : Int) := by rw [wrap_in _ (by omega) (by omega)]; omega
    have hd := List.drop_eq_getElem_cons hi
    have hb := byteAt_drop hd
    refine Ok.step (fun f => p129_2_eq f y i) ?_
    refine Ok.t (decide_eq_true (by show (i : Int) < ((bl y).length : Int); omega)) ?_
    refine Ok.t (decide_eq_true (by omega)) ?_
    simp only [Int.toNat_natCast]
    refine Ok.t (Nat.ble_eq_true_of_le (by show i + 1 ≤ (bl y).length; omega)) ?_
    rw [hd, List.all_cons]
    by_cases h0 : (bl y)[i] = 0
    · refine Ok.t (decide_eq_true (by rw [hb, h0]; rfl)) (Ok.ret ⟨by rw [decide_eq_true h0]; rfl, rfl⟩)
    · refine Ok.f (decide_eq_false (fun e => h0 (UInt8.toNat_inj.1 (by rw [hb] at e; simpa using e)))) ?_
      rw [hw1, decide_eq_false h0]
      simp only [Bool.not_false, Bool.true_and]
      exact IH (i + 1) (by omega)
theorem callSymX {y : ByteArray} (hl : (bl y).length ≤ 1000000) {k : Nat → Value → Prog} (hk : Ok (fun f => k f (.bool (noZ y))) s Q) : Ok (fun f => .call (callF En (runP En f) 129 [.string y]) (k f)) s Q := by
  refine Ok.call (Q1 := fun v s' => v = .bool (noZ y) ∧ s' = s) (Ok.step (fun f => f129_eq f y) (symX_l y hl s (bl y).length 0 (by omega))) ?_
  rintro v s1 ⟨rfl, rfl⟩
  exact hk
theorem longX_loop (t : Int) (n sy : List Value) (most : Int) (hs : ∀ x ∈ sy, StrV x) (hl : sy.length ≤ 65536) : ∀ (m i : Nat) (s : St), i + m = sy.length → VI s0 c (vC t n sy []) s →
    Ok (fun f => p70_5 f c 0 most (i : Int)) s (fun v s' => v = .bool ((sy.drop i).any (longV most)) ∧ Fresh s0 s') := by
  intro m
  induction m with
  | zero =>
    intro i s hm hI
    refine Ok.step (fun f => p70_5_eq f c 0 most i) ?_
    simp only [Nat.zero_add]
    refine rdV hI (by kernel_rfl) rfl fun s' hI => ?_
    refine Ok.t rfl ?_
    refine Ok.f (decide_eq_false (by show ¬ (i : Int) < (sy.length : Int); omega)) (Ok.ret ⟨?_, hI.2⟩)
    rw [List.drop_of_length_le (by omega)]; rfl
  | succ m IH =>
    intro i s hm2 hI
    have hi : i < sy.length := by omega
    have hw1 : IntKind.i64.wrap ((i : Int) + 1) = ((i + 1 : Nat) : Int) := by rw [wrap_in _ (by omega) (by omega)]; omega
    obtain ⟨y, hy⟩ := hs sy[i] (List.getElem_mem hi)
    have hd := List.drop_eq_getElem_cons hi
    rw [hy] at hd
    refine Ok.step (fun f => p70_5_eq f c 0 most i) ?_
    simp only [Nat.zero_add]
    refine rdV hI (by kernel_rfl) rfl fun s' hI => ?_
    refine Ok.t rfl ?_
    refine Ok.t (decide_eq_true (by show (i : Int) < (sy.length : Int); omega)) ?_
    refine rdV hI (by kernel_rfl) rfl fun s' hI => ?_
    refine Ok.t rfl ?_
    simp only [show ∀ x, elems (lstV x) = x from fun _ => rfl, Int.toNat_natCast, at_get sy i hi, hy]
    refine Ok.t (decide_eq_true (by omega)) ?_
    refine Ok.t (by rw [Bool.and_true]; simp only [Bool.and_eq_true]; exact ⟨Nat.ble_eq_true_of_le (by omega), strV_hd sy hs⟩) ?_
    refine Ok.t rfl (Ok.t rfl ?_)
    rw [hd, List.any_cons]
    by_cases hL : ((bl y).length : Int) > most
    · refine Ok.t (decide_eq_true hL) (Ok.ret ⟨?_, hI.2⟩)
      rw [show longV most (.string y) = true from decide_eq_true hL]; rfl
    · refine Ok.f (decide_eq_false hL) ?_
      rw [hw1, show longV most (.string y) = false from decide_eq_false hL, Bool.false_or]
      exact IH (i + 1) s' (by omega) hI
def mostOf (t : Int) : Int := if t = 100 then 65536 else 64
theorem longX (s : St) (t : Int) (n sy : List Value) (hs : ∀ x ∈ sy, StrV x) (hl : sy.length ≤ 65536) : Ok (fun f => callF En (runP En f) 70 [.agg ⟨vC t n sy []⟩]) s (fun v s' => v = .bool (sy.any (longV (mostOf t))) ∧ Fresh s s') := by
  refine Ok.step (fun f => f70_eq f t n sy []) ?_
  refine Ok.g rfl (vStart fun s' hI => ?_)
  refine Ok.t rfl ?_
  simp only [blk_itP, off_itP, Nat.zero_add]
  refine rdV hI (by kernel_rfl) rfl fun s' hI => ?_
  refine Ok.t rfl ?_
  unfold mostOf
  by_cases h : t = 100
  · rw [if_pos h]
    refine Ok.t (decide_eq_true h) ?_
    exact Ok.step (fun f => p70_4_eq f _ 0 65536) (longX_loop t n sy _ hs hl sy.length 0 s' (by omega) hI)
  · rw [if_neg h]
    refine Ok.f (decide_eq_false h) ?_
    exact Ok.step (fun f => p70_4_eq f _ 0 64) (longX_loop t n sy _ hs hl sy.length 0 s' (by omega) hI)
theorem symX_19 (t : Int) (ht : absV t = 3) (n sy : List Value) (hs : ∀ x ∈ sy, StrV x) (h64 : sy.any (longV 64) = false) (hl : sy.length ≤ 65536) : ∀ (m i : Nat) (s : St), i + m = sy.length → VI s0 c (vC t n sy []) s →
    Ok (fun f => p71_19 f c 0 (i : Int)) s (fun v s' => v = .bool ((sy.drop i).all symOk) ∧ Fresh s0 s') := by
  intro m
  induction m with
  | zero =>
    intro i s hm hI
    refine Ok.step (fun f => p71_19_eq f c 0 i) ?_
    simp only [Nat.zero_add]
    refine rdV hI (by kernel_rfl) rfl fun s' hI => ?_
    refine Ok.t rfl ?_
    refine Ok.f (decide_eq_false (by show ¬ (i : Int) < (sy.length : Int); omega)) (Ok.ret ⟨?_, hI.2⟩)
    rw [List.drop_of_length_le (by omega)]; rfl
  | succ m IH =>
    intro i s hm2 hI
    have hi : i < sy.length := by omega
    have hw1 : IntKind.i64.wrap ((i : Int) + 1) = ((i + 1 : Nat) : Int) := by rw [wrap_in _ (by omega) (by omega)]; omega
    obtain ⟨y, hy⟩ := hs sy[i] (List.getElem_mem hi)
    have hd := List.drop_eq_getElem_cons hi
    rw [hy] at hd
    have hy64 : (bl y).length ≤ 64 := by
      have := List.any_eq_false.1 h64 sy[i] (List.getElem_mem hi)
      rw [hy] at this
      have := of_decide_eq_false (Bool.eq_false_iff.2 this)
      simp only [strOf] at this
      omega
    refine Ok.step (fun f => p71_19_eq f c 0 i) ?_
    simp only [Nat.zero_add]
    refine rdV hI (by kernel_rfl) rfl fun s' hI => ?_
    refine Ok.t rfl ?_
    refine Ok.t (decide_eq_true (by show (i : Int) < (sy.length : Int); omega)) ?_
    refine rdV hI (by kernel_rfl) rfl fun s' hI => ?_
    refine Ok.t rfl ?_
    refine callAbs (Ok.t rfl (Ok.t (decide_eq_true ht) ?_))
    refine rdV hI (by kernel_rfl) rfl fun s' hI => ?_
    refine Ok.t rfl ?_
    simp only [show ∀ x, elems (lstV x) = x from fun _ => rfl, Int.toNat_natCast, at_get sy i hi, hy]
    refine Ok.t (decide_eq_true (by omega)) ?_
    refine Ok.t (by rw [Bool.and_true]; simp only [Bool.and_eq_true]; exact ⟨Nat.ble_eq_true_of_le (by omega), strV_hd sy hs⟩) ?_
    refine Ok.t rfl (Ok.t rfl ?_)
    rw [hd, List.all_cons]
    refine callSymX (y := y) (by omega) (Ok.t rfl ?_)
    simp only [show symOk (.string y) = noZ y from rfl]
    cases hz : noZ y with
    | false => exact Ok.t rfl (Ok.ret ⟨rfl, hI.2⟩)
    | true =>
      refine Ok.f rfl ?_
      rw [hw1, Bool.true_and]
      exact IH (i + 1) s' (by omega) hI
theorem intV_hd (n : List Value) (hn : ∀ x ∈ n, IntV x) : hdOk 1 n = true := int_hd n hn
theorem boolX_5 (t : Int) (n : List Value) (hn : ∀ x ∈ n, IntV x) (hl : n.length ≤ 65536) : ∀ (m i : Nat) (s : St), i + m = n.length → VI s0 c (vC t n [] []) s →
    Ok (fun f => p71_5 f c 0 (i : Int)) s (fun v s' => v = .bool ((n.drop i).all bitOk) ∧ Fresh s0 s') := by
  intro m
  induction m with
  | zero =>
    intro i s hm hI
    refine Ok.step (fun f => p71_5_eq f c 0 i) ?_
    simp only [Nat.zero_add]
    refine rdV hI (by kernel_rfl) rfl fun s' hI => ?_
    refine Ok.t rfl ?_
    refine Ok.f (decide_eq_false (by show ¬ (i : Int) < (n.length : Int); omega)) ?_
    rw [List.drop_of_length_le (by omega)]
    exact nil_19 t n s' hI
  | succ m IH =>
    intro i s hm2 hI
    have hi : i < n.length := by omega
    have hw1 : IntKind.i64.wrap ((i : Int) + 1) = ((i + 1 : Nat) : Int) := by rw [wrap_in _ (by omega) (by omega)]; omega
    obtain ⟨y, hy⟩ := hn n[i] (List.getElem_mem hi)
    have hhd := intV_hd n hn
    have hd := List.drop_eq_getElem_cons hi
    rw [hy] at hd
    refine Ok.step (fun f => p71_5_eq f c 0 i) ?_
    simp only [Nat.zero_add]
    refine rdV hI (by kernel_rfl) rfl fun s' hI => ?_
    refine Ok.t rfl ?_
    refine Ok.t (decide_eq_true (by show (i : Int) < (n.length : Int); omega)) ?_
    refine rdV hI (by kernel_rfl) rfl fun s' hI => ?_
    refine Ok.t rfl ?_
    simp only [show ∀ x, elems (lstV x) = x from fun _ => rfl, Int.toNat_natCast, at_get n i hi, hy]
    refine Ok.t (decide_eq_true (by omega)) ?_
    refine Ok.t (by rw [Bool.and_true]; simp only [Bool.and_eq_true]; exact ⟨Nat.ble_eq_true_of_le (by omega), hhd⟩) ?_
    refine Ok.t rfl (Ok.t rfl ?_)
    rw [hw1, hd, List.all_cons]
    have nx := IH (i + 1)
    by_cases h0 : y = 0
    · subst h0
      refine Ok.f rfl ?_
      rw [show bitOk (.int .i64 0) = true from rfl, Bool.true_and]
      exact nx s' (by omega) hI
    · refine Ok.t (ndec h0) ?_
      refine rdV hI (by kernel_rfl) rfl fun s' hI => ?_
      refine Ok.t rfl ?_
      simp only [show ∀ x, elems (lstV x) = x from fun _ => rfl, Int.toNat_natCast, at_get n i hi, hy]
      refine Ok.t (decide_eq_true (by omega)) ?_
      refine Ok.t (by rw [Bool.and_true]; simp only [Bool.and_eq_true]; exact ⟨Nat.ble_eq_true_of_le (by omega), hhd⟩) ?_
      refine Ok.t rfl (Ok.t rfl ?_)
      by_cases h1 : y = 1
      · subst h1
        refine Ok.f rfl ?_
        rw [show bitOk (.int .i64 1) = true from rfl, Bool.true_and]
        exact nx s' (by omega) hI
      · refine Ok.t (ndec h1) (Ok.ret ⟨?_, hI.2⟩)
        rw [show bitOk (.int .i64 y) = (decide (y = 0) || decide (y = 1)) from rfl, decide_eq_false h0, decide_eq_false h1]; rfl
/-- Behind the cases: nothing is asked of strings that are no symbols. -/
theorem end_18 (t : Int) (ht : absV t ≠ 3) (n sy : List Value) (s : St) (hI : VI s0 c (vC t n sy []) s) : Ok (fun f => p71_18 f c 0) s (fun v s' => v = .bool true ∧ Fresh s0 s') := by
  refine Ok.step (fun f => p71_18_eq f c 0) ?_
  refine Ok.step (fun f => p71_19_eq f c 0 0) ?_
  simp only [Nat.zero_add]
  refine rdV hI (by kernel_rfl) rfl fun s' hI => ?_
  refine Ok.t rfl ?_
  refine Ok.c (fun _ => ?_) (fun _ => Ok.ret ⟨rfl, hI.2⟩)
  refine rdV hI (by kernel_rfl) rfl fun s' hI => ?_
  refine Ok.t rfl ?_
  refine callAbs (Ok.t rfl (Ok.f (decide_eq_false ht) (Ok.ret ⟨rfl, hI.2⟩)))
theorem freeL_rd (m : Nat) (sg : List Acc) (h : writesOf sg = []) (ds : List Done) (g : (ds.all fun d => d.ws.isEmpty) = true) : freeL m (writesOf sg) sg ds = true :=
  freeL_reads m sg h ds fun d hd => by
    have := List.all_eq_true.1 g d hd
    simpa using this
theorem list0 (s : St) (t : Int) (n sy : List Value) : Ok (fun f => callF En (runP En f) 126 [.agg ⟨vC t n sy []⟩]) s (fun v s' => v = .bool true ∧ Fresh s s') := by
  refine Ok.step (fun f => f126_eq f t n sy []) ?_
  refine Ok.g rfl (vStart fun s' hI => ?_)
  refine Ok.t rfl ?_
  simp only [blk_itP, off_itP, Nat.zero_add]
  refine rd3 hI fun s' hI => ?_
  refine Ok.t rfl ?_
  refine Ok.step (fun f => p126_3_eq f s.ctr 0 _ 0) ?_
  simp only [Nat.zero_add]
  refine rd3 hI fun s' hI => ?_
  exact Ok.t rfl (Ok.f rfl (Ok.ret ⟨rfl, hI.2⟩))
theorem table0 (s : St) (t : Int) (n sy : List Value) : Ok (fun f => callF En (runP En f) 127 [.agg ⟨vC t n sy []⟩]) s (fun v s' => v = .bool false ∧ Fresh s s') := by
  refine Ok.step (fun f => f127_eq f t n sy []) ?_
  refine Ok.g rfl (vStart fun s' hI => ?_)
  refine Ok.t rfl ?_
  simp only [blk_itP, off_itP, Nat.zero_add]
  refine rd2 hI fun s' hI => ?_
  refine Ok.t rfl ?_
  refine Ok.c (fun _ => Ok.ret ⟨rfl, hI.2⟩) (fun h => ?_)
  have h := of_decide_eq_false h
  refine rd2 hI fun s' hI => ?_
  refine Ok.t rfl ?_
  refine rd3 hI fun s' hI => ?_
  refine Ok.t rfl ?_
  exact Ok.t (ndec h) (Ok.ret ⟨rfl, hI.2⟩)
theorem sg2 {t : Int} {n sy l : List Value} {k : Nat → Value → List Acc → Nat → Prog} (hI : VI s0 c (vC t n sy l) s) (hk : ∀ s' m, VI s0 c (vC t n sy l) s' → Ok (fun f => k f (lstV sy) [⟨false, c + 1 + 2, 1⟩, ⟨false, c, 1⟩] m) s' Q) : Ok (fun f => .seg (loadT En 29 c 2) (k f)) s Q :=
  Ok.segLoad (by kernel_rfl) (hI.1.1.cell 2 rfl) fun s1 r1 => hk s1 _ (VI.reads s s1 hI r1)
theorem ndecF {p : Prop} [h : Decidable p] (n : (!decide p) = false) : p := by
  by_cases hp : p
  · exact hp
  · rw [decide_eq_false hp] at n; cases n
theorem lenL29 (l : List Value) : builtinA En Builtin.len (29 :: []) (lstV l :: []) = .ret (vInt l.length) := by kernel_rfl
theorem plain_lam (n sy : List Value) (hs : ∀ x ∈ sy, StrV x) (hl : sy.any (longV 65536) = false) (hn : n.length + sy.length ≤ 1000000) (s : St) : Ok (fun f => callF En (runP En f) 71 [.agg ⟨vC 100 n sy []⟩]) s (fun v s' => (∃ r, v = .bool r) ∧ Fresh s s') := by
  refine Ok.step (fun f => f71_eq f 100 n sy []) ?_
  refine Ok.g rfl (vStart fun s' hI => ?_)
  refine Ok.t rfl ?_
  simp only [blk_itP, off_itP, Nat.zero_add]
  refine rdVA hI (by kernel_rfl) (by kernel_rfl) fun s' hI => ?_
  refine Ok.t rfl ?_
  refine callAtom (t := 100) (n := n) (sy := sy) (l := []) hI fun s' hI => ?_
  refine Ok.t rfl (Ok.f rfl ?_)
  refine rd0 hI fun s' hI => ?_
  refine Ok.t rfl (callAbs (Ok.t rfl (Ok.f rfl ?_)))
  refine rd0 hI fun s' hI => ?_
  refine Ok.t rfl (Ok.t rfl ?_)
  refine sg2 hI fun s' m hI => ?_
  refine Ok.t rfl ?_
  simp only [show ∀ x, elems (lstV x) = x from fun _ => rfl, lenL29]
  refine Ok.seg (Q1 := fun v s1 => v = vInt (sy.length : Nat) ∧ s1 = ⟨s'.mem, s'.ctr, []⟩) (Ok.ret ⟨rfl, rfl⟩) ?_
  rintro v s1 ⟨rfl, rfl⟩
  have hI : VI s s.ctr (vC 100 n sy []) ⟨s'.mem, s'.ctr, [] ++ s'.log⟩ := hI
  refine Ok.gdL (freeL_rd _ _ rfl _ rfl) ?_
  refine Ok.t rfl ?_
  refine Ok.c (fun _ => Ok.ret ⟨⟨_, rfl⟩, hI.2⟩) (fun h1 => ?_)
  have h1 : (sy.length : Int) = 1 := ndecF h1
  obtain ⟨x, rfl⟩ := List.length_eq_one_iff.1 (by omega : sy.length = 1)
  obtain ⟨y, rfl⟩ := hs x (by simp)
  have hy : (bl y).length ≤ 65536 := by
    have := List.any_eq_false.1 hl (.string y) (by simp)
    have := of_decide_eq_false (Bool.eq_false_iff.2 this)
    simp only [strOf] at this
    omega
  refine sg2 hI fun s' m hI => ?_
  refine Ok.gdL (freeL_rd _ _ rfl _ rfl) ?_
  refine Ok.t rfl (Ok.t rfl (Ok.t rfl (Ok.t rfl ?_)))
  refine Ok.c (fun _ => Ok.ret ⟨⟨_, rfl⟩, hI.2⟩) (fun h2 => ?_)
  have h2 : ¬ ((bl y).length : Int) < 2 := of_decide_eq_false h2
  refine sg2 hI fun s' m hI => ?_
  refine Ok.gdL (freeL_rd _ _ rfl _ rfl) ?_
  refine Ok.t rfl (Ok.t rfl (Ok.t rfl (Ok.t rfl ?_)))
  refine Ok.t (Nat.ble_eq_true_of_le (by show 1 ≤ (bl y).length; omega)) ?_
  refine Ok.c (fun _ => Ok.ret ⟨⟨_, rfl⟩, hI.2⟩) (fun _ => ?_)
  refine sg2 hI fun s' m hI => ?_
  refine Ok.gdL (freeL_rd _ _ rfl _ rfl) ?_
  refine Ok.t rfl (Ok.t rfl (Ok.t rfl (Ok.t rfl ?_)))
  refine sg2 hI fun s' m hI => ?_
  refine Ok.gdL (freeL_rd _ _ rfl _ rfl) ?_
  refine Ok.t rfl (Ok.t rfl (Ok.t rfl (Ok.t rfl ?_)))
  have e := subNat1 (bl y).length (by omega) (by omega)
  have e : IntKind.i64.wrap (Int.subNatNat (List.length (Array.toList (ByteArray.data (strOf (List.headD (Array.toList (Value.cells (at_ (elems (lstV [Value.string y])) 0))) (Value.tuple ⟨[]⟩)))))) 1) = Int.ofNat ((bl y).length - 1) := e
  rw [e]
  refine Ok.t (decide_eq_true (by simp only [Int.ofNat_eq_natCast]; omega)) ?_
  refine Ok.t (Nat.ble_eq_true_of_le (by simp only [Int.ofNat_eq_natCast, Int.toNat_natCast]; show (bl y).length - 1 + 1 ≤ (bl y).length; omega)) ?_
  refine Ok.c (fun _ => Ok.ret ⟨⟨_, rfl⟩, hI.2⟩) (fun _ => ?_)
  refine Ok.mono (end_18 100 (by decide) n _ _ hI) ?_
  rintro v s' ⟨rfl, f⟩
  exact ⟨⟨_, rfl⟩, f⟩
end
end Go.Proofs.YtmjbmbmnnephjaaGreatDoor
/- The reference's Check of flat values, whatever they are: what its OK says. -/
namespace Go.Proofs.YtmjbmbmnnephjaaGreatDoor
open Go Go.Ev Go.Proofs
section
variable {s s0 : St} {Q : Value → St → Prop} {c : Nat} {vs : List Value}
/-- What 'plain' says where it says true. -/
def PO (t : Int) (n sy : List Value) : Prop :=
  (Num t ∨ Sym t → isAtomV t = true → n.length + sy.length = 1) ∧ (t = 1 ∨ t = -1 → n.all bitOk = true) ∧ (Sym t → sy.all symOk = true)
def PC (t : Int) (n sy : List Value) (s0 : St) (v : Value) (s' : St) : Prop := (∃ r, v = .bool r ∧ (r = true → PO t n sy)) ∧ Fresh s0 s'
theorem pcF (t : Int) (n sy : List Value) (h : Fresh s0 s) : PC t n sy s0 (.bool false) s := ⟨⟨_, rfl, fun h => by cases h⟩, h⟩
theorem other_abs {t : Int} (h : ¬ (Num t ∨ Sym t)) : absV t ≠ 1 ∧ absV t ≠ 3 ∧ isAtomV t = false ∧ isVecV t = false := by
  unfold Num Sym at h
  refine ⟨?_, ?_, ?_, ?_⟩
  · unfold absV
    split
    · omega
    · omega
  · unfold absV
    split
    · omega
    · omega
  · unfold isAtomV
    by_cases h1 : t < 0
    · rw [decide_eq_true h1, decide_eq_false (by omega)]; rfl
    · rw [decide_eq_false h1]; rfl
  · unfold isVecV
    by_cases h1 : t ≥ 1
    · rw [decide_eq_true h1, decide_eq_false (by omega)]; rfl
    · rw [decide_eq_false h1]; rfl
theorem poOther {t : Int} (h : ¬ (Num t ∨ Sym t)) (n sy : List Value) : PO t n sy :=
  ⟨fun h' => absurd h' h, fun h' => absurd (.inl (by unfold Num; omega)) h, fun h' => absurd (.inr h') h⟩
theorem plain_other {t : Int} (h : ¬ (Num t ∨ Sym t)) (n sy : List Value) (hs : ∀ x ∈ sy, StrV x) (hl : sy.any (longV (mostOf t)) = false) (hn : n.length + sy.length ≤ 1000000) (s : St) :
    Ok (fun f => callF En (runP En f) 71 [.agg ⟨vC t n sy []⟩]) s (PC t n sy s) := by
  have hp := poOther h n sy
  obtain ⟨h1, h3, ha, _⟩ := other_abs h
  by_cases h100 : t = 100
  · subst h100
    refine Ok.mono (plain_lam n sy hs hl hn s) ?_
    rintro v s' ⟨⟨r, rfl⟩, f⟩
    exact ⟨⟨r, rfl, fun _ => hp⟩, f⟩
  refine Ok.step (fun f => f71_eq f t n sy []) ?_
  refine Ok.g rfl (vStart fun s' hI => ?_)
  refine Ok.t rfl ?_
  simp only [blk_itP, off_itP, Nat.zero_add]
  refine rdVA hI (by kernel_rfl) (by kernel_rfl) fun s' hI => ?_
  refine Ok.t rfl ?_
  refine callAtom (t := t) (n := n) (sy := sy) (l := []) hI fun s' hI => ?_
  refine Ok.t rfl (Ok.f ha ?_)
  refine rd0 hI fun s' hI => ?_
  refine Ok.t rfl (callAbs (Ok.t rfl (Ok.f (decide_eq_false h1) ?_)))
  refine rd0 hI fun s' hI => ?_
  refine Ok.t rfl (Ok.f (decide_eq_false h100) ?_)
  refine rd0 hI fun s' hI => ?_
  refine Ok.t rfl ?_
  refine Ok.c (fun _ => ?_) (fun _ => ?_)
  · refine rdA hI fun s' hI => ?_
    refine Ok.t rfl ?_
    refine callFr (fun s => list0 s t n sy) hI fun s' hI => ?_
    exact Ok.t rfl (Ok.ret ⟨⟨_, rfl, fun _ => hp⟩, hI.2⟩)
  refine rd0 hI fun s' hI => ?_
  refine Ok.t rfl ?_
  refine Ok.c (fun _ => ?_) (fun _ => ?_)
  · refine rdA hI fun s' hI => ?_
    refine Ok.t rfl ?_
    refine callFr (fun s => table0 s t n sy) hI fun s' hI => ?_
    exact Ok.t rfl (Ok.ret ⟨⟨_, rfl, fun _ => hp⟩, hI.2⟩)
  refine rd0 hI fun s' hI => ?_
  refine Ok.t rfl ?_
  refine Ok.c (fun _ => ?_) (fun _ => ?_)
  · refine rd3 hI fun s' hI => ?_
    exact Ok.t rfl (Ok.f rfl (Ok.ret ⟨⟨_, rfl, fun _ => hp⟩, hI.2⟩))
  refine Ok.mono (end_18 t h3 n sy _ hI) ?_
  rintro v s' ⟨rfl, f⟩
  exact ⟨⟨_, rfl, fun _ => hp⟩, f⟩
theorem cnt_of {a b : Nat} (h : a + b ≤ 1000000) (h1 : (!(decide ((IntKind.wrap IntKind.i64 (Int.ofNat (a + b))) = (1 : Int)))) = false) : a + b = 1 := by
  have h1 := ndecF h1
  rw [wrap_in _ (by simp only [Int.ofNat_eq_natCast]; omega) (by simp only [Int.ofNat_eq_natCast]; omega)] at h1
  simp only [Int.ofNat_eq_natCast] at h1
  omega
theorem plain_num {t : Int} (h : Num t) (n : List Value) (hi : ∀ x ∈ n, IntV x) (hn : n.length ≤ 65536) (s : St) :
    Ok (fun f => callF En (runP En f) 71 [.agg ⟨vC t n [] []⟩]) s (PC t n [] s) := by
  refine Ok.step (fun f => f71_eq f t n [] []) ?_
  refine Ok.g rfl (vStart fun s' hI => ?_)
  refine Ok.t rfl ?_
  simp only [blk_itP, off_itP, Nat.zero_add]
  refine rdVA hI (by kernel_rfl) (by kernel_rfl) fun s' hI => ?_
  refine Ok.t rfl ?_
  refine callAtom (t := t) (n := n) (sy := []) (l := []) hI fun s' hI => ?_
  refine Ok.t rfl ?_
  have hsym : ¬ Sym t := by unfold Num at h; unfold Sym; omega
  have h3 : absV t ≠ 3 := by
    rcases h with rfl | rfl | rfl | rfl | rfl | rfl | rfl | rfl <;> decide
  have fin1 : ∀ s', (isAtomV t = true → n.length + ([] : List Value).length = 1) → (t = 1 ∨ t = -1) → VI s s.ctr (vC t n [] []) s' → Ok (fun f => p71_5 f s.ctr 0 0) s' (PC t n [] s) := fun s' hc h1 hI => by
    refine Ok.mono (boolX_5 t n hi hn n.length 0 s' (by omega) hI) ?_
    rintro v s2 ⟨rfl, f⟩
    exact ⟨⟨_, rfl, fun hb => ⟨fun _ => hc, fun _ => hb, fun h => absurd h hsym⟩⟩, f⟩
  have fin18 : ∀ s', (isAtomV t = true → n.length + ([] : List Value).length = 1) → ¬ (t = 1 ∨ t = -1) → VI s s.ctr (vC t n [] []) s' → Ok (fun f => p71_18 f s.ctr 0) s' (PC t n [] s) := fun s' hc h1 hI => by
    refine Ok.mono (end_18 t h3 n [] s' hI) ?_
    rintro v s2 ⟨rfl, f⟩
    exact ⟨⟨_, rfl, fun _ => ⟨fun _ => hc, fun h => absurd h h1, fun h => absurd h hsym⟩⟩, f⟩
  have hcn : ∀ (a : Nat), (!(decide ((IntKind.wrap IntKind.i64 (Int.ofNat (a + ([] : List Value).length))) = (1 : Int)))) = false → a ≤ 65536 → a + ([] : List Value).length = 1 := fun a h ha => cnt_of (by simp only [List.length_nil]; omega) h
  have hc0 : isAtomV t = false → (isAtomV t = true → n.length + ([] : List Value).length = 1) := fun e h => by rw [e] at h; cases h
  rcases h with rfl | rfl | rfl | rfl | rfl | rfl | rfl | rfl
  iterate 4
    · have hna := hc0 rfl
      refine Ok.f rfl ?_
      repeat' (first
        | with_reducible exact fin1 _ hna (by omega) hI
        | with_reducible exact fin18 _ hna (by omega) hI
        | with_reducible refine rd0 hI fun s' hI => ?_
        | with_reducible refine callAbs ?_
        | ((with_reducible refine Ok.t ?_ ?_); · rfl)
        | ((with_reducible refine Ok.f ?_ ?_); · rfl))
  all_goals
    refine Ok.t rfl ?_
    refine rd1 hI fun s' hI => ?_
    refine Ok.t rfl ?_
    refine rd2 hI fun s' hI => ?_
    refine Ok.t rfl ?_
    refine Ok.c (fun _ => Ok.ret (pcF _ n [] hI.2)) (fun hc => ?_)
    have hc : n.length + ([] : List Value).length = 1 := hcn _ hc hn
    repeat' (first
        | with_reducible exact fin1 _ (fun _ => hc) (by omega) hI
        | with_reducible exact fin18 _ (fun _ => hc) (by omega) hI
        | with_reducible refine rd0 hI fun s' hI => ?_
        | with_reducible refine callAbs ?_
        | ((with_reducible refine Ok.t ?_ ?_); · rfl)
        | ((with_reducible refine Ok.f ?_ ?_); · rfl))
theorem plain_sym {t : Int} (h : Sym t) (sy : List Value) (hs : ∀ x ∈ sy, StrV x) (hl : sy.any (longV 64) = false) (hn : sy.length ≤ 65536) (s : St) :
    Ok (fun f => callF En (runP En f) 71 [.agg ⟨vC t [] sy []⟩]) s (PC t [] sy s) := by
  refine Ok.step (fun f => f71_eq f t [] sy []) ?_
  refine Ok.g rfl (vStart fun s' hI => ?_)
  refine Ok.t rfl ?_
  simp only [blk_itP, off_itP, Nat.zero_add]
  refine rdVA hI (by kernel_rfl) (by kernel_rfl) fun s' hI => ?_
  refine Ok.t rfl ?_
  refine callAtom (t := t) (n := []) (sy := sy) (l := []) hI fun s' hI => ?_
  refine Ok.t rfl ?_
  have h3 : absV t = 3 := by rcases h with rfl | rfl <;> decide
  have fin18 : ∀ s', (isAtomV t = true → ([] : List Value).length + sy.length = 1) → VI s s.ctr (vC t [] sy []) s' → Ok (fun f => p71_18 f s.ctr 0) s' (PC t [] sy s) := fun s' hc hI => by
    refine Ok.step (fun f => p71_18_eq f s.ctr 0) ?_
    refine Ok.mono (symX_19 t h3 [] sy hs hl hn sy.length 0 s' (by omega) hI) ?_
    rintro v s2 ⟨rfl, f⟩
    exact ⟨⟨_, rfl, fun hb => ⟨fun _ => hc, fun _ => rfl, fun _ => hb⟩⟩, f⟩
  have hc0 : isAtomV t = false → (isAtomV t = true → ([] : List Value).length + sy.length = 1) := fun e h => by rw [e] at h; cases h
  rcases h with rfl | rfl
  · have hna := hc0 rfl
    refine Ok.f rfl ?_
    repeat' (first
        | with_reducible exact fin18 _ hna hI
        | with_reducible refine rd0 hI fun s' hI => ?_
        | with_reducible refine callAbs ?_
        | ((with_reducible refine Ok.t ?_ ?_); · rfl)
        | ((with_reducible refine Ok.f ?_ ?_); · rfl))
  · refine Ok.t rfl ?_
    refine rd1 hI fun s' hI => ?_
    refine Ok.t rfl ?_
    refine rd2 hI fun s' hI => ?_
    refine Ok.t rfl ?_
    refine Ok.c (fun _ => Ok.ret (pcF _ [] sy hI.2)) (fun hc => ?_)
    have hc : ([] : List Value).length + sy.length = 1 := cnt_of (by simp only [List.length_nil]; omega) hc
    repeat' (first
        | with_reducible exact fin18 _ (fun _ => hc) hI
        | with_reducible refine rd0 hI fun s' hI => ?_
        | with_reducible refine callAbs ?_
        | ((with_reducible refine Ok.t ?_ ?_); · rfl)
        | ((with_reducible refine Ok.f ?_ ?_); · rfl))
end
end Go.Proofs.YtmjbmbmnnephjaaGreatDoor
/- The reference's Check of flat values, whatever they are: parts, Check. -/
namespace Go.Proofs.YtmjbmbmnnephjaaGreatDoor
open Go Go.Ev Go.Proofs
section
variable {s s0 : St} {Q : Value → St → Prop} {c : Nat} {vs : List Value}
theorem fields_any (s : St) (t : Int) : Ok (fun f => callF En (runP En f) 68 [.int .i64 t]) s (fun v s' => (∃ a b c d, v = .tuple ⟨[.bool a, .bool b, .bool c, .bool d]⟩) ∧ s' = s) := by
  refine Ok.step (fun f => f68_eq f _) ?_
  repeat' (first
    | with_reducible refine callAbs ?_
    | ((with_reducible refine Ok.t ?_ ?_); · rfl)
    | with_reducible refine Ok.c (fun _ => ?_) (fun _ => ?_)
    | exact Ok.ret ⟨⟨_, _, _, _, rfl⟩, rfl⟩)
theorem many_other {t : Int} (h : ¬ (Num t ∨ Sym t)) (n sy : List Value) (s : St) : Ok (fun f => callF En (runP En f) 69 [.agg ⟨vC t n sy []⟩]) s (fun v s' => (∃ r, v = .bool r) ∧ Fresh s s') := by
  obtain ⟨_, _, _, hv⟩ := other_abs h
  refine Ok.step (fun f => f69_eq f t n sy []) ?_
  refine Ok.g rfl (vStart fun s' hI => ?_)
  refine Ok.t rfl ?_
  simp only [blk_itP, off_itP, Nat.zero_add]
  refine rd0 hI fun s' hI => ?_
  refine Ok.t rfl ?_
  refine Ok.f (decide_eq_false (fun e : t = 3 => h (.inr (.inl e)))) ?_
  refine rdA hI fun s' hI => ?_
  refine Ok.t rfl ?_
  refine callVec (t := t) (n := n) (sy := sy) (l := []) hI fun s' hI => ?_
  refine Ok.t rfl (Ok.f hv ?_)
  repeat' (first
    | with_reducible refine rd0 hI fun s' hI => ?_
    | with_reducible refine rd2 hI fun s' hI => ?_
    | with_reducible refine rd3 hI fun s' hI => ?_
    | ((with_reducible refine Ok.t ?_ ?_); · rfl)
    | with_reducible refine Ok.c (fun _ => ?_) (fun _ => ?_)
    | exact Ok.ret ⟨⟨_, rfl⟩, hI.2⟩)
theorem callB {g : Nat} {a : Value} {R : Bool → Prop} {k : Nat → Value → Prog} (sp : ∀ s, Ok (fun f => callF En (runP En f) g [a]) s (fun v s' => (∃ r, v = .bool r ∧ R r) ∧ Fresh s s')) (hI : VI s0 c vs s) (hk : ∀ r s', R r → VI s0 c vs s' → Ok (fun f => k f (.bool r)) s' Q) :
    Ok (fun f => .call (callF En (runP En f) g [a]) (k f)) s Q := by
  refine Ok.call (sp s) ?_
  rintro v s1 ⟨⟨r, rfl, hr⟩, f1⟩
  exact hk r s1 hr (hI.fresh f1)
/-- What is said of a code. -/
def PX (t : Int) (n sy : List Value) (s0 : St) (v : Value) (s' : St) : Prop := (∃ e, v = .int .i64 e ∧ (e = 0 → (Num t ∨ Sym t) → VOK t n sy)) ∧ Fresh s0 s'
theorem pxE {t : Int} {n sy : List Value} {e : Int} (he : e ≠ 0) (h : Fresh s0 s) : PX t n sy s0 (.int .i64 e) s := ⟨⟨_, rfl, fun h => absurd h he⟩, h⟩
theorem parts_num {t : Int} (h : Num t) (n sy : List Value) (hi : ∀ x ∈ n, IntV x) (hn : n.length ≤ 65536) (hsy : sy.length ≤ 65536) (s : St) :
    Ok (fun f => callF En (runP En f) 36 [.agg ⟨vC t n sy []⟩, .int .i64 1048576]) s (PX t n sy s) := by
  refine Ok.step (fun f => f36_eq f t n sy [] 1048576) ?_
  refine Ok.g rfl (vStart fun s' hI => ?_)
  refine Ok.t rfl ?_
  simp only [blk_itP, off_itP, Nat.zero_add]
  refine rd0 hI fun s' hI => ?_
  refine Ok.t rfl ?_
  refine Ok.call (fieldsN s' t h) ?_
  rintro v s1 ⟨rfl, rfl⟩
  refine Ok.t rfl (Ok.f rfl (Ok.f rfl (Ok.t rfl ?_)))
  refine rd2 hI fun s' hI => ?_
  refine Ok.t rfl ?_
  refine Ok.c (fun _ => Ok.ret (pxE (by decide) hI.2)) (fun h0 => ?_)
  have h0 : ¬ (sy.length : Int) > 0 := of_decide_eq_false h0
  obtain rfl : sy = [] := List.length_eq_zero_iff.1 (by omega)
  refine Ok.t rfl ?_
  refine rd3 hI fun s' hI => ?_
  refine Ok.t rfl (Ok.f rfl ?_)
  refine rdA hI fun s' hI => ?_
  refine Ok.t rfl ?_
  refine callFr (fun s => many_ok s t n [] [] (.inl h) hn (by simp)) hI fun s' hI => ?_
  refine Ok.t rfl (Ok.f rfl ?_)
  refine rdA hI fun s' hI => ?_
  refine Ok.t rfl ?_
  refine callFr (fun s => longX s t n [] (fun x hx => by cases hx) (by simp)) hI fun s' hI => ?_
  refine Ok.t rfl (Ok.f rfl ?_)
  refine rdA hI fun s' hI => ?_
  refine Ok.t rfl ?_
  refine callB (fun s => plain_num h n hi hn s) hI fun r s' hr hI => ?_
  refine Ok.t rfl ?_
  cases r with
  | false => exact Ok.t rfl (Ok.ret (pxE (by decide) hI.2))
  | true =>
    refine Ok.f rfl ?_
    refine Ok.mono (parts_11 t n [] s' hI) ?_
    rintro v s2 ⟨rfl, f⟩
    obtain ⟨p1, p2, _⟩ := hr rfl
    refine ⟨⟨0, rfl, fun _ _ => ⟨hn, by simp, p1 (.inl h), .inl ⟨h, rfl, hi, fun h1 x hx => ?_⟩⟩⟩, f⟩
    obtain ⟨i, rfl⟩ := hi x hx
    have := List.all_eq_true.1 (p2 h1) _ hx
    simp only [bitOk, Bool.or_eq_true] at this
    exact ⟨i, rfl, this.elim (fun e => .inl (of_decide_eq_true e)) (fun e => .inr (of_decide_eq_true e))⟩
theorem parts_sym {t : Int} (h : Sym t) (n sy : List Value) (hs : ∀ x ∈ sy, StrV x) (hn : n.length ≤ 65536) (hsy : sy.length ≤ 65536) (s : St) :
    Ok (fun f => callF En (runP En f) 36 [.agg ⟨vC t n sy []⟩, .int .i64 1048576]) s (PX t n sy s) := by
  have hmo : mostOf t = 64 := by unfold mostOf; rw [if_neg (by rcases h with rfl | rfl <;> decide)]
  refine Ok.step (fun f => f36_eq f t n sy [] 1048576) ?_
  refine Ok.g rfl (vStart fun s' hI => ?_)
  refine Ok.t rfl ?_
  simp only [blk_itP, off_itP, Nat.zero_add]
  refine rd0 hI fun s' hI => ?_
  refine Ok.t rfl ?_
  refine Ok.call (fieldsS s' t h) ?_
  rintro v s1 ⟨rfl, rfl⟩
  refine Ok.t rfl (Ok.f rfl (Ok.t rfl ?_))
  refine rd1 hI fun s' hI => ?_
  refine Ok.t rfl ?_
  refine Ok.c (fun _ => Ok.ret (pxE (by decide) hI.2)) (fun h0 => ?_)
  have h0 : ¬ (n.length : Int) > 0 := of_decide_eq_false h0
  obtain rfl : n = [] := List.length_eq_zero_iff.1 (by omega)
  refine Ok.f rfl (Ok.t rfl ?_)
  refine rd3 hI fun s' hI => ?_
  refine Ok.t rfl (Ok.f rfl ?_)
  refine rdA hI fun s' hI => ?_
  refine Ok.t rfl ?_
  refine callFr (fun s => many_ok s t [] sy [] (.inr h) (by simp) hsy) hI fun s' hI => ?_
  refine Ok.t rfl (Ok.f rfl ?_)
  refine rdA hI fun s' hI => ?_
  refine Ok.t rfl ?_
  refine callFr (fun s => longX s t [] sy hs hsy) hI fun s' hI => ?_
  refine Ok.t rfl ?_
  rw [hmo]
  cases hL : sy.any (longV 64) with
  | true => exact Ok.t rfl (Ok.ret (pxE (by decide) hI.2))
  | false =>
  refine Ok.f rfl ?_
  refine rdA hI fun s' hI => ?_
  refine Ok.t rfl ?_
  refine callB (fun s => plain_sym h sy hs hL hsy s) hI fun r s' hr hI => ?_
  refine Ok.t rfl ?_
  cases r with
  | false => exact Ok.t rfl (Ok.ret (pxE (by decide) hI.2))
  | true =>
    refine Ok.f rfl ?_
    refine Ok.mono (parts_11 t [] sy s' hI) ?_
    rintro v s2 ⟨rfl, f⟩
    obtain ⟨p1, _, p3⟩ := hr rfl
    refine ⟨⟨0, rfl, fun _ _ => ⟨by simp, hsy, p1 (.inr h), .inr ⟨h, rfl, fun x hx => ?_⟩⟩⟩, f⟩
    obtain ⟨y, rfl⟩ := hs x hx
    have h1 := List.all_eq_true.1 (p3 h) _ hx
    have h2 := List.any_eq_false.1 hL _ hx
    have h2 := of_decide_eq_false (Bool.eq_false_iff.2 h2)
    simp only [strOf] at h2
    refine ⟨y, rfl, by omega, fun ch hc e => ?_⟩
    have := List.all_eq_true.1 h1 ch hc
    rw [e] at this
    cases this
theorem parts_other {t : Int} (h : ¬ (Num t ∨ Sym t)) (n sy : List Value) (hs : ∀ x ∈ sy, StrV x) (hn : n.length ≤ 65536) (hsy : sy.length ≤ 65536) (s : St) :
    Ok (fun f => callF En (runP En f) 36 [.agg ⟨vC t n sy []⟩, .int .i64 1048576]) s (PX t n sy s) := by
  have hret : ∀ (e : Int) (s' : St), VI s s.ctr (vC t n sy []) s' → Ok (fun _ => Prog.ret (.int .i64 e)) s' (PX t n sy s) := fun e s' hI => Ok.ret ⟨⟨e, rfl, fun _ h' => absurd h' h⟩, hI.2⟩
  have h11 : ∀ (s' : St), VI s s.ctr (vC t n sy []) s' → Ok (fun f => p36_11 f 1048576 s.ctr 0 1) s' (PX t n sy s) := fun s' hI => by
    refine Ok.mono (parts_11 t n sy s' hI) ?_
    rintro v s2 ⟨rfl, f⟩
    exact ⟨⟨0, rfl, fun _ h' => absurd h' h⟩, f⟩
  have hmany : ∀ s, Ok (fun f => callF En (runP En f) 69 [.agg ⟨vC t n sy []⟩]) s (fun v s' => (∃ r, v = .bool r ∧ True) ∧ Fresh s s') := fun s => by
    refine Ok.mono (many_other h n sy s) ?_
    rintro v s' ⟨⟨r, e⟩, f⟩
    exact ⟨⟨r, e, trivial⟩, f⟩
  have hlong : ∀ s, Ok (fun f => callF En (runP En f) 70 [.agg ⟨vC t n sy []⟩]) s (fun v s' => v = .bool (sy.any (longV (mostOf t))) ∧ Fresh s s') := fun s => longX s t n sy hs hsy
  -- many, long, plain
  refine Ok.step (fun f => f36_eq f t n sy [] 1048576) ?_
  refine Ok.g rfl (vStart fun s' hI => ?_)
  refine Ok.t rfl ?_
  simp only [blk_itP, off_itP, Nat.zero_add]
  refine rd0 hI fun s' hI => ?_
  refine Ok.t rfl ?_
  refine Ok.call (fields_any s' t) ?_
  rintro v s1 ⟨⟨a, b, c, d, rfl⟩, rfl⟩
  refine Ok.t rfl ?_
  cases hL : sy.any (longV (mostOf t)) with
  | true =>
    have hl2 : ∀ s, Ok (fun f => callF En (runP En f) 70 [.agg ⟨vC t n sy []⟩]) s (fun v s' => v = .bool true ∧ Fresh s s') := fun s => hL ▸ hlong s
    cases a <;> cases b <;> cases c <;> cases d
    all_goals
      repeat' (first
        | with_reducible exact hret _ _ hI
        | with_reducible refine rd1 hI fun s' hI => ?_
        | with_reducible refine rd2 hI fun s' hI => ?_
        | with_reducible refine rd3 hI fun s' hI => ?_
        | ((with_reducible refine rdA hI fun s' hI => ?_); simp only [nr0, nr1, nr2, nr3])
        | with_reducible refine callB hmany hI fun r s' _ hI => ?_
        | with_reducible refine callFr hl2 hI fun s' hI => ?_
        | ((with_reducible refine Ok.t ?_ ?_); · rfl)
        | ((with_reducible refine Ok.f ?_ ?_); · rfl)
        | with_reducible refine Ok.c (fun _ => ?_) (fun _ => ?_))
  | false =>
    have hl2 : ∀ s, Ok (fun f => callF En (runP En f) 70 [.agg ⟨vC t n sy []⟩]) s (fun v s' => v = .bool false ∧ Fresh s s') := fun s => hL ▸ hlong s
    have hpl : ∀ s, Ok (fun f => callF En (runP En f) 71 [.agg ⟨vC t n sy []⟩]) s (fun v s' => (∃ r, v = .bool r ∧ (r = true → PO t n sy)) ∧ Fresh s s') := fun s => plain_other h n sy hs hL (by omega) s
    cases a <;> cases b <;> cases c <;> cases d
    all_goals
      repeat' (first
        | with_reducible exact hret _ _ hI
        | with_reducible exact h11 _ hI
        | with_reducible refine rd1 hI fun s' hI => ?_
        | with_reducible refine rd2 hI fun s' hI => ?_
        | with_reducible refine rd3 hI fun s' hI => ?_
        | ((with_reducible refine rdA hI fun s' hI => ?_); simp only [nr0, nr1, nr2, nr3])
        | with_reducible refine callB hmany hI fun r s' _ hI => ?_
        | with_reducible refine callFr hl2 hI fun s' hI => ?_
        | with_reducible refine callB hpl hI fun r s' _ hI => ?_
        | ((with_reducible refine Ok.t ?_ ?_); · rfl)
        | ((with_reducible refine Ok.f ?_ ?_); · rfl)
        | with_reducible refine Ok.c (fun _ => ?_) (fun _ => ?_))
/-- Check of a flat value: a code, and where it is OK, what the value is. -/
theorem check_any (t : Int) (n sy : List Value) (hi : ∀ x ∈ n, IntV x) (hs : ∀ x ∈ sy, StrV x) (hn : n.length ≤ 65536) (hsy : sy.length ≤ 65536) (s : St) :
    Ok (fun f => callF En (runP En f) 13 [.agg ⟨vC t n sy []⟩]) s (PX t n sy s) := by
  have hp : ∀ s, Ok (fun f => callF En (runP En f) 36 [.agg ⟨vC t n sy []⟩, .int .i64 1048576]) s (PX t n sy s) := fun s => by
    by_cases h : Num t ∨ Sym t
    · rcases h with h | h
      · exact parts_num h n sy hi hn hsy s
      · exact parts_sym h n sy hs hn hsy s
    · exact parts_other h n sy hs hn hsy s
  refine Ok.step (fun f => f13_eq f t n sy []) ?_
  refine Ok.g rfl (vStart fun s' hI => ?_)
  refine Ok.t rfl ?_
  simp only [blk_itP, off_itP]
  refine rdA hI fun s' hI => ?_
  refine Ok.t rfl ?_
  refine Ok.call (hp s') ?_
  rintro v s1 ⟨⟨e, rfl, he⟩, f1⟩
  have hI := hI.fresh f1
  refine Ok.t rfl ?_
  refine Ok.c (fun _ => ?_) (fun _ => Ok.ret ⟨⟨e, rfl, he⟩, hI.2⟩)
  refine rdA hI fun s' hI => ?_
  refine Ok.t rfl ?_
  refine callFr (fun s => depth_ok s t n sy) hI fun s' hI => ?_
  exact Ok.t rfl (Ok.f rfl (Ok.ret ⟨⟨e, rfl, he⟩, hI.2⟩))
end
end Go.Proofs.YtmjbmbmnnephjaaGreatDoor
/- The law LexLiterals: what is printed of an atom, or of a vector that has not one element, is one token with that value. -/
namespace Go.Proofs.YtmjbmbmnnephjaaGreatDoor
open Go Go.Ev Go.Proofs Go.Num Go.Lib
/-- What follows where the value is printed: the tree as the tool printed it. -/
noncomputable def tail4 (c : Nat) (f : Nat) : Prog :=
 (callP (fun v67 =>
  (cnd
   (Prog.call (callF En (runP En f) 17 [(Value.agg ⟨((Value.int IntKind.i64 (intOf (at_ (aggOf v67) 0))) :: ((lstV (elems (at_ (aggOf v67) 1))) :: ((lstV (elems (at_ (aggOf v67) 2))) :: ((lstV (elems (at_ (aggOf v67) 3))) :: []))))⟩)]) fun v68 =>
    (cnd
     (cnd
      (Prog.call (callF En (runP En f) 10 []) fun v69 =>
       (cnd
        (Prog.ret (Value.bool (boolOf v69)))
        Prog.fail
        (okK Kd.bool v69)))
      (Prog.call (callF En (runP En f) 11 [(Value.string (strOf (at_ (tupOf v68) 0)))]) fun v70 =>
       (cnd
        (Prog.seg (callF En (runP En f) 12 [(Value.int IntKind.i64 (intOf (at_ (tupOf v70) 1)))]) fun v71 s72 _ =>
         (cnd
          (cnd
           (Prog.seg (builtinA En Builtin.len (23 :: []) ((lstV (elems (at_ (tupOf v70) 0))) :: [])) fun v73 s74 _ =>
            (gdL 31 (writesOf s74) s74 [⟨1, writesOf s72, s72⟩]
             (cnd
              (cnd
               (cnd
                (cnd
                 (cnd
                  (cnd
                   (cnd
                    (cnd
                     (cnd
                      (cnd
                       (cnd
                        (cnd
                         (cnd
                          (cnd
                           (cnd
                            (cnd
                             (Prog.seg (loadT En 32 c 0) fun v75 s76 _ =>
                              (gdL 16777215 (writesOf s76) s76 [⟨5, writesOf s74, s74⟩, ⟨1, writesOf s72, s72⟩]
                               (cnd
                                (Prog.seg (callF En (runP En f) 18 [(Value.agg ⟨((Value.int IntKind.i64 (intOf (at_ (List.take 4 (List.drop 4 (Array.toList (Value.cells (at_ (elems (at_ (tupOf v70) 0)) 0))))) 0))) :: ((lstV (elems (at_ (List.take 4 (List.drop 4 (Array.toList (Value.cells (at_ (elems (at_ (tupOf v70) 0)) 0))))) 1))) :: ((lstV (elems (at_ (List.take 4 (List.drop 4 (Array.toList (Value.cells (at_ (elems (at_ (tupOf v70) 0)) 0))))) 2))) :: ((lstV (elems (at_ (List.take 4 (List.drop 4 (Array.toList (Value.cells (at_ (elems (at_ (tupOf v70) 0)) 0))))) 3))) :: []))))⟩), (Value.agg ⟨((Value.int IntKind.i64 (intOf (at_ (aggOf v75) 0))) :: ((lstV (elems (at_ (aggOf v75) 1))) :: ((lstV (elems (at_ (aggOf v75) 2))) :: ((lstV (elems (at_ (aggOf v75) 3))) :: []))))⟩)]) fun v77 s78 _ =>
                                 (gdL 536870911 (writesOf s78) s78 [⟨28, writesOf s76, s76⟩, ⟨5, writesOf s74, s74⟩, ⟨1, writesOf s72, s72⟩]
                                  (cnd
                                   (cnd
                                    (Prog.seg (callF En (runP En f) 10 []) fun v79 s80 _ =>
                                     (gdL 4294967295 (writesOf s80) s80 [⟨29, writesOf s78, s78⟩, ⟨28, writesOf s76, s76⟩, ⟨5, writesOf s74, s74⟩, ⟨1, writesOf s72, s72⟩]
                                      (cnd
                                       (Prog.ret (Value.bool (boolOf v79)))
                                       Prog.fail
                                       (okK Kd.bool v79))))
                                    (Prog.ret (Value.bool Bool.false))
                                    (boolOf v77))
                                   Prog.fail
                                   (okK Kd.bool v77))))
                                Prog.fail
                                ((isAggV v75) && (okKs ((Kd.int IntKind.i64) :: (Kd.lst :: (Kd.lst :: (Kd.lst :: [])))) (aggOf v75))))))
                             Prog.fail
                             (okKs ((Kd.int IntKind.i64) :: (Kd.lst :: (Kd.lst :: (Kd.lst :: [])))) (List.take 4 (List.drop 4 (Array.toList (Value.cells (at_ (elems (at_ (tupOf v70) 0)) 0)))))))
                            Prog.fail
                            (Nat.ble 4 (List.length (List.drop 4 (Array.toList (Value.cells (at_ (elems (at_ (tupOf v70) 0)) 0)))))))
                           Prog.fail
                           (Nat.ble 5 (List.length (Array.toList (Value.cells (at_ (elems (at_ (tupOf v70) 0)) 0))))))
                          Prog.fail
                          (((Nat.ble 1 (List.length (elems (at_ (tupOf v70) 0)))) && Bool.true) && (hdOk 8 (elems (at_ (tupOf v70) 0)))))
                         (Prog.ret (Value.bool Bool.false))
                         (beqB (Array.toList (ByteArray.data (strOf (List.headD (List.drop 3 (Array.toList (Value.cells (at_ (elems (at_ (tupOf v70) 0)) 0)))) (Value.tuple ⟨[]⟩))))) (Array.toList (ByteArray.data (strOf (at_ (tupOf v68) 0))))))
                        Prog.fail
                        (okK Kd.str (List.headD (List.drop 3 (Array.toList (Value.cells (at_ (elems (at_ (tupOf v70) 0)) 0)))) (Value.tuple ⟨[]⟩))))
                       Prog.fail
                       (Nat.ble 1 (List.length (List.drop 3 (Array.toList (Value.cells (at_ (elems (at_ (tupOf v70) 0)) 0)))))))
                      Prog.fail
                      (Nat.ble 4 (List.length (Array.toList (Value.cells (at_ (elems (at_ (tupOf v70) 0)) 0))))))
                     Prog.fail
                     (((Nat.ble 1 (List.length (elems (at_ (tupOf v70) 0)))) && Bool.true) && (hdOk 8 (elems (at_ (tupOf v70) 0)))))
                    (Prog.ret (Value.bool Bool.false))
                    (decide ((intOf (List.headD (Array.toList (Value.cells (at_ (elems (at_ (tupOf v70) 0)) 0))) (Value.tuple ⟨[]⟩))) = (1 : Int))))
                   Prog.fail
                   (okK (Kd.int IntKind.i64) (List.headD (Array.toList (Value.cells (at_ (elems (at_ (tupOf v70) 0)) 0))) (Value.tuple ⟨[]⟩))))
                  Prog.fail
                  (Nat.ble 1 (List.length (Array.toList (Value.cells (at_ (elems (at_ (tupOf v70) 0)) 0))))))
                 Prog.fail
                 (Nat.ble 1 (List.length (Array.toList (Value.cells (at_ (elems (at_ (tupOf v70) 0)) 0))))))
                Prog.fail
                (((Nat.ble 1 (List.length (elems (at_ (tupOf v70) 0)))) && Bool.true) && (hdOk 8 (elems (at_ (tupOf v70) 0)))))
               (Prog.ret (Value.bool Bool.false))
               (decide ((intOf v73) = (1 : Int))))
              Prog.fail
              (okK (Kd.int IntKind.i64) v73))))
           (Prog.ret (Value.bool Bool.false))
           (decide ((intOf v71) = (0 : Int))))
          Prog.fail
          (okK (Kd.int IntKind.i64) v71)))
        Prog.fail
        ((isTupV v70) && (okNs ((Nm.one Kd.lst) :: ((Nm.one (Kd.int IntKind.i64)) :: ((Nm.one (Kd.int IntKind.i64)) :: []))) (tupOf v70)))))
      (Bool.not (decide ((intOf (at_ (tupOf v68) 1)) = (0 : Int)))))
     Prog.fail
     ((isTupV v68) && (okNs ((Nm.one Kd.str) :: ((Nm.one (Kd.int IntKind.i64)) :: [])) (tupOf v68)))))
   Prog.fail
   ((isAggV v67) && (okKs ((Kd.int IntKind.i64) :: (Kd.lst :: (Kd.lst :: (Kd.lst :: [])))) (aggOf v67)))))
  (loadT En 32 c 0))
theorem lit10 (ih : Rec) : callF En ih 10 [] = .ret (.bool true) := by kernel_rfl
abbrev LT (v : Value) (_ : St) : Prop := v = .bool true
theorem lit_live (s : St) : Ok (fun f => Prog.call (callF En (runP En f) 10 []) fun v1 => cnd (Prog.ret (Value.bool (boolOf v1))) Prog.fail (okK Kd.bool v1)) s LT := by
  simp only [lit10]
  refine Ok.call (Q1 := fun v s' => v = .bool true ∧ s' = s) (Ok.ret ⟨rfl, rfl⟩) ?_
  rintro v s1 ⟨rfl, rfl⟩
  exact Ok.t rfl (Ok.ret rfl)
theorem lenL23 (l : List Value) : builtinA En Builtin.len (23 :: []) (lstV l :: []) = .ret (vInt l.length) := by kernel_rfl
section
variable {s s0 : St} {c : Nat}
theorem lit_tail {t : Int} {n sy : List Value} {X : List UInt8} (hI : VI s0 c (vC t n sy []) s) (hlib : @Lib ghNone s.mem s.ctr) (hv : VF (.agg ⟨vC t n sy []⟩))
    (hp : ∀ s, Ok (fun f => callF En (runP En f) 17 [.agg ⟨vC t n sy []⟩]) s (PrintQ s X))
    (hx : ∀ s, @Lib ghNone s.mem s.ctr → X.length ≤ 65536 → Ok (fun f => callF En (runP En f) 11 [.string (mkStr X)]) s (LexOne s X t n sy)) :
    Ok (tail4 c) s LT := by
  unfold tail4
  refine Ok.callP (Ok.loadA (vs := vC t n sy []) (by kernel_rfl) (by kernel_rfl) rfl (by obtain ⟨el, ex, z, sy', hf⟩ := hI.1.1.1; exact ⟨_, hf⟩) hI.1.1.2) ?_
  rintro w s1 ⟨rfl, m1, c1, l1⟩
  have r1 : Reads s s1 := ⟨m1, c1, [⟨false, c + 1 + 0, 4⟩, ⟨false, c, 1⟩], l1, rfl⟩
  have hI := VI.reads s s1 hI r1
  have hlib := hlib.fresh (Go.Ev.Reads.fresh r1)
  refine Ok.t rfl ?_
  refine Ok.call (hp s1) ?_
  rintro v s2 ⟨f2, hor⟩
  have hI := hI.fresh f2
  have hlib := hlib.fresh f2
  rcases hor with ⟨_, rfl⟩ | ⟨hle, rfl⟩
  · refine Ok.t rfl (Ok.t rfl ?_)
    exact lit_live s2
  refine Ok.t rfl (Ok.f rfl ?_)
  refine Ok.call (hx s2 hlib hle) ?_
  rintro v s3 ⟨rfl, f3⟩
  have hI := hI.fresh f3
  refine Ok.t rfl ?_
  refine Ok.seg (Q1 := fun v s' => v = .int .i64 0 ∧ s' = ⟨s3.mem, s3.ctr, []⟩) (Ok.step (fun f => f12_eq f 0) (Ok.ret ⟨rfl, rfl⟩)) ?_
  rintro v s4 ⟨rfl, rfl⟩
  refine Ok.t rfl (Ok.t rfl ?_)
  simp only [show elems (at_ (tupOf (Value.tuple ⟨[lstV [tokV ⟨1, 0, (X.length : Int), mkStr X, t, n, sy, []⟩], .int .i64 0, .int .i64 0]⟩)) 0) = [tokV ⟨1, 0, (X.length : Int), mkStr X, t, n, sy, []⟩] from rfl, lenL23]
  refine Ok.seg (Q1 := fun v s' => v = vInt 1 ∧ s' = ⟨s3.mem, s3.ctr, []⟩) (Ok.ret ⟨rfl, rfl⟩) ?_
  rintro v s5 ⟨rfl, rfl⟩
  refine Ok.gdL (freeL_rd _ _ rfl _ rfl) ?_
  have hbq : beqB (mkStr X).data.toList (mkStr X).data.toList = true := by rw [beqB_eq]; simp
  refine Ok.t rfl (Ok.t rfl (Ok.t rfl (Ok.t rfl (Ok.t rfl (Ok.t rfl (Ok.t rfl (Ok.t rfl (Ok.t rfl ?_))))))))
  refine Ok.t rfl (Ok.t rfl (Ok.t hbq ?_))
  refine Ok.t rfl (Ok.t rfl (Ok.t rfl (Ok.t rfl ?_)))
  have hI : VI s0 c (vC t n sy []) ⟨s3.mem, s3.ctr, [] ++ ([] ++ s3.log)⟩ := hI
  obtain ⟨el, ex, z, sy', hf⟩ := hI.1.1.1
  refine Ok.segLoadA (n := 4) (by kernel_rfl) (by kernel_rfl) rfl ⟨_, hf⟩ hI.1.1.2 fun s6 r6 => ?_
  refine Ok.gdL (freeL_rd _ _ rfl _ rfl) ?_
  refine Ok.t rfl ?_
  refine Ok.seg (match_ok hv ⟨s6.mem, s6.ctr, []⟩) ?_
  rintro v s7 ⟨rfl, f7⟩
  refine Ok.gdL (by simp [freeL, show Nat.testBit 536870911 28 = true from rfl, show Nat.testBit 536870911 5 = true from rfl, show Nat.testBit 536870911 1 = true from rfl]) ?_
  refine Ok.t rfl (Ok.t rfl ?_)
  simp only [lit10]
  refine Ok.seg (Q1 := fun v s' => v = .bool true ∧ s' = ⟨s7.mem, s7.ctr, []⟩) (Ok.ret ⟨rfl, rfl⟩) ?_
  rintro v s8 ⟨rfl, rfl⟩
  refine Ok.gdL (by simp [freeL, show Nat.testBit 4294967295 29 = true from rfl, show Nat.testBit 4294967295 28 = true from rfl, show Nat.testBit 4294967295 5 = true from rfl, show Nat.testBit 4294967295 1 = true from rfl]) ?_
  exact Ok.t rfl (Ok.ret rfl)
end
end Go.Proofs.YtmjbmbmnnephjaaGreatDoor
/- The law LexLiterals, whole. -/
namespace Go.Proofs.YtmjbmbmnnephjaaGreatDoor
open Go Go.Ev Go.Proofs Go.Num Go.Lib
theorem ints_of {l : List Value} (h : ∀ x ∈ l, IntV x) : ∃ ns : List Int, l = i64s ns := by
  induction l with
  | nil => exact ⟨[], rfl⟩
  | cons x l ih =>
    obtain ⟨i, rfl⟩ := h x (List.mem_cons_self ..)
    obtain ⟨ns, rfl⟩ := ih fun y hy => h y (List.mem_cons_of_mem _ hy)
    exact ⟨i :: ns, rfl⟩
theorem strs_of {l : List Value} (h : ∀ x ∈ l, StrV x) : ∃ ss : List (List UInt8), l = strs ss := by
  induction l with
  | nil => exact ⟨[], rfl⟩
  | cons x l ih =>
    obtain ⟨y, rfl⟩ := h x (List.mem_cons_self ..)
    obtain ⟨ss, rfl⟩ := ih fun y hy => h y (List.mem_cons_of_mem _ hy)
    exact ⟨bl y :: ss, rfl⟩
theorem mem_i64s {n : Int} {ns : List Int} (h : n ∈ ns) : Value.int .i64 n ∈ i64s ns := List.mem_map_of_mem h
theorem mem_strs {x : List UInt8} {ss : List (List UInt8)} (h : x ∈ ss) : Value.string (mkStr x) ∈ strs ss := List.mem_map_of_mem (f := fun x => Value.string (mkStr x)) h
/-- A checked flat value, as lists. -/
theorem fv_of {t : Nat} {tv : Int} {ns : List Int} {ss : List (List UInt8)} (ht : t = 1 ∨ t = 2 ∨ t = 3 ∨ t = 4 ∨ t = 5) (htv : tv = (t : Int) ∨ tv = -(t : Int)) (hV : VOK tv (i64s ns) (strs ss)) (ln : ns.length ≤ 20000) (ls : ss.length ≤ 20000)
    (hr : ∀ n ∈ ns, nul ≤ n ∧ n ≤ 9223372036854775807) : FV t ns ss := by
  obtain ⟨_, _, _, hor⟩ := hV
  rcases hor with ⟨hN, hsy, _, hb⟩ | ⟨hS, hn, hs⟩
  · have hss : ss = [] := by
      cases ss with
      | nil => rfl
      | cons a b => cases hsy
    have h3 : t ≠ 3 := by rintro rfl; unfold Num at hN; omega
    refine ⟨ht, ln, ls, hr, fun h1 n hn => ?_, fun x hx => (by rw [hss] at hx; cases hx), fun h => absurd h h3, fun _ => hss⟩
    obtain ⟨i, e, h⟩ := hb (by omega) _ (mem_i64s hn)
    cases e
    exact h
  · have hns : ns = [] := by
      cases ns with
      | nil => rfl
      | cons a b => cases hn
    have h3 : t = 3 := by unfold Sym at hS; omega
    refine ⟨ht, ln, ls, hr, fun h1 => (by omega), fun x hx => ?_, fun _ => hns, fun h => absurd h3 h⟩
    obtain ⟨y, e, h1, h2⟩ := hs _ (mem_strs hx)
    cases e
    exact ⟨h1, h2⟩
theorem atom_nat {t : Int} (h : isAtomV t = true) : ∃ T : Nat, (T = 1 ∨ T = 2 ∨ T = 3 ∨ T = 4 ∨ T = 5) ∧ t = -(T : Int) := by
  simp only [isAtomV, Bool.and_eq_true, decide_eq_true_eq] at h
  exact ⟨t.natAbs, by omega, by omega⟩
theorem vec_nat {t : Int} (h : isVecV t = true) : ∃ T : Nat, (T = 1 ∨ T = 2 ∨ T = 3 ∨ T = 4 ∨ T = 5) ∧ t = (T : Int) := by
  simp only [isVecV, Bool.and_eq_true, decide_eq_true_eq] at h
  exact ⟨t.natAbs, by omega, by omega⟩
section
variable {s0 : St}
theorem lit_atom {t : Int} {n sy : List Value} {s : St} {c : Nat} (hI : VI s0 c (vC t n sy []) s) (hlib : @Lib ghNone s.mem s.ctr) (hv : VF (.agg ⟨vC t n sy []⟩)) (hi : ∀ x ∈ n, IntV x) (hs : ∀ x ∈ sy, StrV x) (hr : ∀ i, Value.int .i64 i ∈ n → nul ≤ i ∧ i ≤ 9223372036854775807)
    (hn : n.length ≤ 20000) (hsy : sy.length ≤ 20000) (hV : Num t ∨ Sym t → VOK t n sy) (ha : isAtomV t = true) : Ok (tail4 c) s LT := by
  obtain ⟨T, hT, rfl⟩ := atom_nat ha
  have hV := hV (by unfold Num Sym; omega)
  obtain ⟨ns, rfl⟩ := ints_of hi
  obtain ⟨ss, rfl⟩ := strs_of hs
  rw [i64s_length] at hn
  rw [strs_length] at hsy
  have hF := fv_of hT (.inr rfl) hV hn hsy fun m hm => hr m (mem_i64s hm)
  have hc : cntV T ns ss = 1 := by
    have := hV.2.2.1 ha
    rw [i64s_length, strs_length] at this
    unfold cntV
    by_cases h3 : T = 3
    · rw [if_pos h3]; rw [hF.ns3 h3] at this; simpa using this
    · rw [if_neg h3]; rw [hF.ss3 h3] at this; simpa using this
  refine lit_tail (X := txtV T ns ss) hI hlib hv (fun s => ?_) (fun s hl hle => ?_)
  · refine print_ok hV (by omega) (fun s => ?_) s
    unfold txtV
    rw [if_pos hc]
    exact printed_atom hF hc s
  · have := lex_value hF s hl hle
    have e : tyV T ns ss = -(T : Int) := by unfold tyV; rw [if_pos hc]
    rw [e] at this
    exact this
theorem lit_vec {t : Int} {n sy : List Value} {s : St} {c : Nat} (hI : VI s0 c (vC t n sy []) s) (hlib : @Lib ghNone s.mem s.ctr) (hv : VF (.agg ⟨vC t n sy []⟩)) (hi : ∀ x ∈ n, IntV x) (hs : ∀ x ∈ sy, StrV x) (hr : ∀ i, Value.int .i64 i ∈ n → nul ≤ i ∧ i ≤ 9223372036854775807)
    (hn : n.length ≤ 20000) (hsy : sy.length ≤ 20000) (hV : Num t ∨ Sym t → VOK t n sy) (ha : isVecV t = true) (hc1 : (if t = 3 then (sy.length : Int) else (n.length : Int)) ≠ 1) : Ok (tail4 c) s LT := by
  obtain ⟨T, hT, rfl⟩ := vec_nat ha
  have hV := hV (by unfold Num Sym; omega)
  obtain ⟨ns, rfl⟩ := ints_of hi
  obtain ⟨ss, rfl⟩ := strs_of hs
  rw [i64s_length] at hn
  rw [strs_length] at hsy
  have hF := fv_of hT (.inl rfl) hV hn hsy fun m hm => hr m (mem_i64s hm)
  have hc : cntV T ns ss ≠ 1 := by
    rw [i64s_length, strs_length] at hc1
    unfold cntV
    by_cases h3 : T = 3
    · rw [if_pos h3]; rw [if_pos (by omega)] at hc1; omega
    · rw [if_neg h3]; rw [if_neg (by omega)] at hc1; omega
  refine lit_tail (X := txtV T ns ss) hI hlib hv (fun s => ?_) (fun s hl hle => ?_)
  · refine print_ok hV (by omega) (fun s => ?_) s
    unfold txtV
    rw [if_neg hc]
    exact printed_vec hF hc s
  · have := lex_value hF s hl hle
    have e : tyV T ns ss = (T : Int) := by unfold tyV; rw [if_neg hc]
    rw [e] at this
    exact this
set_option maxRecDepth 8000 in
theorem literals_ok (s : St) (hlib : @Lib ghNone s.mem s.ctr) (t : Int) (n sy l : List Value) (hv : VF (.agg ⟨vC t n sy l⟩)) (hi : ∀ x ∈ n, IntV x) (hs : ∀ x ∈ sy, StrV x) (hr : ∀ i, Value.int .i64 i ∈ n → nul ≤ i ∧ i ≤ 9223372036854775807) :
    Ok (fun f => callF En (runP En f) 4 [.agg ⟨vC t n sy l⟩]) s LT := by
  refine Ok.step (fun f => f4_eq f t n sy l) ?_
  refine Ok.g rfl (vStart fun s' hI => ?_)
  have low : ∀ {s' : St} {l' : List Value}, VI s s.ctr (vC t n sy l') s' → @Lib ghNone s'.mem s'.ctr := fun hI => hlib.fresh hI.2
  refine Ok.t rfl ?_
  simp only [blk_itP, off_itP, Nat.zero_add]
  refine rd1 hI fun s' hI => ?_
  refine Ok.t rfl ?_
  refine Ok.c (fun _ => lit_live s') (fun h1 => ?_)
  have h1 : ¬ (n.length : Int) > 20000 := of_decide_eq_false h1
  refine rd2 hI fun s' hI => ?_
  refine Ok.t rfl ?_
  refine Ok.c (fun _ => lit_live s') (fun h2 => ?_)
  have h2 : ¬ (sy.length : Int) > 20000 := of_decide_eq_false h2
  refine rd3 hI fun s' hI => ?_
  refine Ok.t rfl ?_
  refine Ok.c (fun _ => lit_live s') (fun h3 => ?_)
  have h3 : ¬ (l.length : Int) > 0 := of_decide_eq_false h3
  obtain rfl : l = [] := List.length_eq_zero_iff.1 (by omega)
  refine rdA hI fun s' hI => ?_
  refine Ok.t rfl ?_
  refine Ok.call (check_any t n sy hi hs (by omega) (by omega) s') ?_
  rintro v s1 ⟨⟨e, rfl, he⟩, f1⟩
  have hI := hI.fresh f1
  refine Ok.t rfl ?_
  refine Ok.c (fun _ => lit_live s1) (fun h0 => ?_)
  have h0 : e = 0 := ndecF h0
  have hV := he h0
  refine rdA hI fun s' hI => ?_
  refine Ok.t rfl ?_
  refine callAtom (t := t) (n := n) (sy := sy) (l := []) hI fun s' hI => ?_
  refine Ok.t rfl ?_
  cases ha : isAtomV t with
  | true =>
    refine Ok.f rfl ?_
    exact lit_atom hI (low hI) hv hi hs hr (by omega) (by omega) hV ha
  | false =>
    refine Ok.t rfl ?_
    refine rdA hI fun s' hI => ?_
    refine Ok.t rfl ?_
    refine callVec (t := t) (n := n) (sy := sy) (l := []) hI fun s' hI => ?_
    refine Ok.t rfl ?_
    cases hvv : isVecV t with
    | false => exact Ok.t rfl (lit_live s')
    | true =>
      refine Ok.f rfl ?_
      refine rdA hI fun s' hI => ?_
      refine Ok.t rfl ?_
      refine callFr (fun s => count_v s t n sy hvv) hI fun s' hI => ?_
      refine Ok.t rfl ?_
      refine Ok.c (fun _ => lit_live s') (fun hc => ?_)
      have hc : ¬ (if t = 3 then (sy.length : Int) else (n.length : Int)) = 1 := of_decide_eq_false hc
      exact lit_vec hI (low hI) hv hi hs hr (by omega) (by omega) hV hvv hc
end
end Go.Proofs.YtmjbmbmnnephjaaGreatDoor
/- The bridge: an argument that reads as data has an abstract value: numbers, texts, lists, structs. -/
namespace Go.Ev
open Go Go.RowKit
/-- All blocks of cells are spoken of as lists. -/
def AllLs (ρ : Map) (w : World) : Prop := ∀ (B : Nat) (c : Array Value) (el : TypeId) (fr : Nat × Nat), w.heap[B]? = some (.cells c el fr) → ∃ x, ρ.ls B = some x ∧ x.fc = c.toList
def aggTy (P : Program) (t : TypeId) : Bool := match P.underlying t with
  | some (.struct _) => true
  | some (.array _ _) => true
  | _ => false
/-- What the abstract cells of a type look like: no text and no list is of more bytes than B. -/
def FormC (P : Program) (B : Nat) : Nat → TypeId → List Value → Prop
  | 0, _, _ => False
  | n + 1, t, vs => match P.underlying t with
    | some .bool => ∃ b, vs = [.bool b]
    | some (.int k) => ∃ i, vs = [.int k i] ∧ (Lit.int k i).wf = true
    | some .string => ∃ s : ByteArray, vs = [.string s] ∧ s.data.toList.length ≤ B
    | some (.slice e) => ∃ es, vs = [lstV es] ∧ es.length * P.bytesOf e ≤ B ∧ es.length ≤ maxLen ∧ ∀ x, x ∈ es → (cellsL x).length = P.cellsOf e ∧ (aggTy P e = true → x = .agg ⟨cellsL x⟩) ∧ (aggTy P e = false → cellsL x = [x]) ∧ FormC P B n e (cellsL x)
    | some (.struct fs) => vs.length = P.cellsOf t ∧ ∀ (i : Nat) (f : Field), fs[i]? = some f → FormC P B n f.type ((vs.drop f.offset).take (P.cellsOf f.type))
    | _ => False
section
variable {P : Program} {B n : Nat} {t : TypeId} {vs : List Value}
theorem FormC.int {k : IntKind} (ht : P.underlying t = some (.int k)) (h : FormC P B n t vs) : ∃ i, vs = [.int k i] ∧ (Lit.int k i).wf = true := by
  cases n with
  | zero => exact h.elim
  | succ n => unfold FormC at h; rw [ht] at h; exact h
theorem FormC.bool (ht : P.underlying t = some .bool) (h : FormC P B n t vs) : ∃ b, vs = [.bool b] := by
  cases n with
  | zero => exact h.elim
  | succ n => unfold FormC at h; rw [ht] at h; exact h
theorem FormC.string (ht : P.underlying t = some .string) (h : FormC P B n t vs) : ∃ s : ByteArray, vs = [.string s] ∧ s.data.toList.length ≤ B := by
  cases n with
  | zero => exact h.elim
  | succ n => unfold FormC at h; rw [ht] at h; exact h
theorem FormC.slice {e : TypeId} (ht : P.underlying t = some (.slice e)) (h : FormC P B n t vs) : ∃ m, n = m + 1 ∧ ∃ es, vs = [lstV es] ∧ es.length * P.bytesOf e ≤ B ∧ es.length ≤ maxLen ∧ ∀ x, x ∈ es → (cellsL x).length = P.cellsOf e ∧ (aggTy P e = true → x = .agg ⟨cellsL x⟩) ∧ (aggTy P e = false → cellsL x = [x]) ∧ FormC P B m e (cellsL x) := by
  cases n with
  | zero => exact h.elim
  | succ n => unfold FormC at h; rw [ht] at h; exact ⟨n, rfl, h⟩
theorem FormC.struct {fs : Array Field} (ht : P.underlying t = some (.struct fs)) (h : FormC P B n t vs) : ∃ m, n = m + 1 ∧ vs.length = P.cellsOf t ∧ ∀ (i : Nat) (f : Field), fs[i]? = some f → FormC P B m f.type ((vs.drop f.offset).take (P.cellsOf f.type)) := by
  cases n with
  | zero => exact h.elim
  | succ n => unfold FormC at h; rw [ht] at h; exact ⟨n, rfl, h⟩
end
/-- Fields lie one behind the other, and fill the row. -/
def contig (P : Program) : Nat → List Field → Nat → Bool
  | o, [], n => Nat.beq o n
  | o, f :: fs, n => Nat.beq f.offset o && contig P (o + P.cellsOf f.type) fs n
/-- A type of numbers, texts, lists and structs. -/
inductive PlainAt (P : Program) (T : TypeId → Prop) (t : TypeId) : Prop
  | bool : P.underlying t = some .bool → PlainAt P T t
  | int {k : IntKind} : P.underlying t = some (.int k) → PlainAt P T t
  | string : P.underlying t = some .string → PlainAt P T t
  | slice {e : TypeId} : P.underlying t = some (.slice e) → T e → 0 < P.cellsOf e → (aggTy P e = false → P.cellsOf e = 1) → PlainAt P T t
  | struct {fs : Array Field} : P.underlying t = some (.struct fs) → (∀ f, f ∈ fs.toList → T f.type) → contig P 0 fs.toList (P.cellsOf t) = true → PlainAt P T t
section
variable {P : Program} {w : World} {ρ : Map} {H : Type} {enc : TypeId × Value → H} {base : Nat} {sp : Nat → Bool} {held : Bool} {B : Nat}
/-- An element's value, of its cells. -/
def elemV (P : Program) (e : TypeId) (vs : List Value) : Value := match aggTy P e with
  | true => .agg ⟨vs⟩
  | false => vs.headD U
theorem elem_cells {n : Nat} {e : TypeId} {vs : List Value} (hf : FormC P B n e vs) (hl : vs.length = P.cellsOf e) (h1 : aggTy P e = false → P.cellsOf e = 1) : cellsL (elemV P e vs) = vs ∧ (aggTy P e = true → elemV P e vs = .agg ⟨vs⟩) ∧ (aggTy P e = false → vs = [elemV P e vs]) := by
  unfold elemV
  cases ha : aggTy P e with
  | true => exact ⟨rfl, fun _ => rfl, fun h => by cases h⟩
  | false =>
    have h1 := h1 ha
    rw [h1] at hl
    cases n with
    | zero => exact hf.elim
    | succ n =>
      unfold FormC at hf
      unfold aggTy at ha
      split at hf
      · obtain ⟨b, rfl⟩ := hf; exact ⟨rfl, (fun h => by cases h), fun _ => rfl⟩
      · obtain ⟨i, rfl, _⟩ := hf; exact ⟨rfl, (fun h => by cases h), fun _ => rfl⟩
      · obtain ⟨s, rfl, _⟩ := hf; exact ⟨rfl, (fun h => by cases h), fun _ => rfl⟩
      · obtain ⟨es, rfl, _⟩ := hf; exact ⟨rfl, (fun h => by cases h), fun _ => rfl⟩
      · rename_i fs hu
        rw [hu] at ha
        cases ha
      · exact hf.elim
theorem VRs.len {l l' : List Value} (h : VRs ρ l l') : l.length = l'.length := h.length.symm
theorem fields_ok {n : Nat} {fs : List Field} {cs : List Value} (N : Nat) (hN : cs.length = N)
    (h : ∀ f, f ∈ fs → ∃ vs, VRs ρ vs ((cs.drop f.offset).take (P.cellsOf f.type)) ∧ FormC P B n f.type vs) : ∀ (o : Nat), contig P o fs N = true → o ≤ N →
    ∃ vs, VRs ρ vs (cs.drop o) ∧ ∀ f, f ∈ fs → o ≤ f.offset ∧ FormC P B n f.type ((vs.drop (f.offset - o)).take (P.cellsOf f.type)) := by
  induction fs with
  | nil =>
    intro o hc ho
    have : o = N := Nat.eq_of_beq_eq_true hc
    refine ⟨[], ?_, fun f hf => by cases hf⟩
    rw [List.drop_eq_nil_of_le (by omega)]
    exact .nil
  | cons f fs ih =>
    intro o hc ho
    simp only [contig, Bool.and_eq_true] at hc
    have hfo := Nat.eq_of_beq_eq_true hc.1
    obtain ⟨v1, r1, f1⟩ := h f (List.mem_cons_self ..)
    have hle : o + P.cellsOf f.type ≤ N := by
      have : ∀ (fs : List Field) (o : Nat), contig P o fs N = true → o ≤ N := by
        intro fs
        induction fs with
        | nil => intro o h; have := Nat.eq_of_beq_eq_true h; omega
        | cons f fs ih => intro o h; simp only [contig, Bool.and_eq_true] at h; have := ih _ h.2; omega
      exact this fs _ hc.2
    obtain ⟨v2, r2, f2⟩ := ih (fun g hg => h g (List.mem_cons_of_mem _ hg)) (o + P.cellsOf f.type) hc.2 hle
    have hl1 : v1.length = P.cellsOf f.type := by
      rw [r1.len, List.length_take, List.length_drop]; omega
    refine ⟨v1 ++ v2, ?_, ?_⟩
    · have e : cs.drop o = (cs.drop f.offset).take (P.cellsOf f.type) ++ cs.drop (o + P.cellsOf f.type) := by
        rw [hfo, ← List.drop_drop, List.take_append_drop]
      rw [e]
      exact r1.append r2
    · intro g hg
      rcases List.mem_cons.1 hg with rfl | hg
      · refine ⟨by omega, ?_⟩
        rw [hfo, Nat.sub_self, List.drop_zero, List.take_append_of_le_length (by omega), List.take_of_length_le (by omega)]
        exact f1
      · obtain ⟨g1, g2⟩ := f2 g hg
        refine ⟨by omega, ?_⟩
        rw [List.drop_append, List.drop_eq_nil_of_le (by omega), List.nil_append, hl1, show g.offset - o - P.cellsOf f.type = g.offset - (o + P.cellsOf f.type) by omega]
        exact g2
theorem mem_weightsAll {e : TypeId} : ∀ {ds : List (DataW H)} {d : DataW H}, d ∈ ds → ∀ k, k ∈ d.weights P e → k ∈ DataW.weightsAll P e ds
  | [], _, h, _, _ => by cases h
  | a :: ds, d, h, k, hk => by
    simp only [DataW.weightsAll, List.mem_append]
    rcases List.mem_cons.1 h with rfl | h
    · exact .inl hk
    · exact .inr (mem_weightsAll h k hk)
theorem bridge {T : TypeId → Prop} (K : ∀ t, T t → PlainAt P T t) (ls : AllLs ρ w) : ∀ (n : Nat) (t : TypeId) (cs : List Value) (x : DataW H × List MemPlace), T t → DataW.trod enc P w base sp held n t cs = some x → (∀ k, k ∈ x.1.weights P t → k ≤ B) →
    ∃ vs, VRs ρ vs cs ∧ FormC P B n t vs := by
  intro n
  induction n with
  | zero => intro t cs x _ h _; simp [DataW.trod] at h
  | succ n ih =>
    intro t cs x hT h hw
    cases K t hT with
    | bool hu =>
      obtain ⟨b, rfl, _⟩ := DataW.trod_bool hu h
      exact ⟨[.bool b], .cons (.bool b) .nil, by unfold FormC; rw [hu]; exact ⟨b, rfl⟩⟩
    | int hu =>
      obtain ⟨i, rfl, _, hwf⟩ := DataW.trod_int hu h
      exact ⟨[.int _ i], .cons (.int _ i) .nil, by unfold FormC; rw [hu]; exact ⟨i, rfl, hwf⟩⟩
    | string hu =>
      obtain ⟨s, rfl, rfl, _⟩ := DataW.trod_string hu h
      have hwf := hw s.data.toList.length (by simp [DataW.weights])
      exact ⟨[.string s], .cons (.string s) .nil, by unfold FormC; rw [hu]; exact ⟨s, rfl, hwf⟩⟩
    | @struct fs hu hts hc =>
      obtain ⟨xs, m, hm, rfl, hl, hlen, hel⟩ := DataW.trod_struct hu h
      have hm : m = n := by omega
      subst hm
      obtain ⟨vs, r, hf⟩ := fields_ok (P := P) (ρ := ρ) (n := m) (fs := fs.toList) (cs := cs) (P.cellsOf t) hl (fun f hf => by
        obtain ⟨i, hi⟩ := List.getElem?_of_mem hf
        have hi' : fs[i]? = some f := by simpa using hi
        have := hel i f hi'
        have hlt : i < xs.length := by rw [hlen]; exact (Array.getElem?_eq_some_iff.1 hi').1
        rw [List.getElem?_eq_getElem hlt] at this
        refine ih f.type _ _ (hts f hf) this fun k hk => hw k ?_
        simp only [DataW.weights, hu]
        refine DataW.weights_mem_each (j := i) (t := f.type) (d := xs[i].1) ?_ ?_ k hk
        · rw [List.getElem?_map, hi]; rfl
        · rw [List.getElem?_map, List.getElem?_eq_getElem hlt]; rfl) 0 hc (Nat.zero_le _)
      refine ⟨vs, by simpa using r, ?_⟩
      unfold FormC
      rw [hu]
      refine ⟨by rw [r.len, List.drop_zero, hl], fun i f hf' => ?_⟩
      have := hf f (by have : fs.toList[i]? = some f := by simpa using hf'
                       exact List.mem_of_getElem? this)
      simpa using this.2
    | @slice e hu hTe hsz h1 =>
      rcases DataW.trod_slice hu h with ⟨rfl, _⟩ | ⟨a, len, cap, elems, rest, m, hm, rfl, rfl, _, hl, hcap, hlen, hel, _, _⟩
      · refine ⟨[lstV []], .cons .lst0 .nil, ?_⟩
        unfold FormC
        rw [hu]
        exact ⟨[], rfl, by simp, Nat.zero_le _, fun x hx => by cases hx⟩
      · have hm : m = n := by omega
        subst hm
        have hi : ∀ i, i < len → ∃ ci vs, w.cells? base (a.add (i * P.cellsOf e)) (P.cellsOf e) = some ci ∧ VRs ρ vs ci ∧ FormC P B m e vs := by
          intro i hi
          have := hel i hi
          rw [List.getElem?_eq_getElem (by omega)] at this
          obtain ⟨ci, h2, h3⟩ := Option.bind_eq_some_iff.1 this
          obtain ⟨vs, h4, h5⟩ := ih e ci _ hTe h3 fun k hk => hw k (by
            simp only [DataW.weights, hu, List.mem_cons, List.mem_append]
            refine .inr (.inl (mem_weightsAll (d := (elems[i]'(by omega)).1) (List.mem_map_of_mem (List.getElem_mem _)) k hk)))
          exact ⟨ci, vs, h2, h4, h5⟩
        cases hlz : len with
        | zero =>
          refine ⟨[lstV []], .cons .lst0 .nil, ?_⟩
          unfold FormC
          rw [hu]
          exact ⟨[], rfl, by simp, Nat.zero_le _, fun x hx => by cases hx⟩
        | succ l0 =>
          -- the block
          obtain ⟨c0, _, hc0, _, _⟩ := hi 0 (by omega)
          obtain ⟨_, hlen0, hcell0⟩ := World.cells?_some hc0
          have hcell00 := hcell0 0 hsz
          rw [Nat.zero_mul] at hcell00
          have ea : (a.add 0).add 0 = a := by simp [Addr.add]
          rw [ea, List.getElem?_eq_getElem (by omega)] at hcell00
          have hblk : a.spot = none ∧ ∃ c el fr, w.heap[a.block]? = some (.cells c el fr) := by
            unfold World.cell? at hcell00
            split at hcell00
            · rename_i c el fr hh
              refine ⟨?_, c, el, fr, hh⟩
              cases hs : a.spot with
              | none => rfl
              | some s => rw [hs] at hcell00; simp at hcell00
            · cases hcell00
          obtain ⟨hsp, c, el, fr, hh⟩ := hblk
          obtain ⟨b, off, sp'⟩ := a
          obtain rfl : sp' = none := hsp
          simp only at hh
          obtain ⟨y, hy, hfc⟩ := ls b c el fr hh
          have hcell : ∀ i j ci, i < len → w.cells? base ((⟨b, off, none⟩ : Addr).add (i * P.cellsOf e)) (P.cellsOf e) = some ci → ∀ v, ci[j]? = some v → y.fc[off + (i * P.cellsOf e + j)]? = some v := by
            intro i j ci _ hci v hv
            obtain ⟨_, hl2, hc2⟩ := World.cells?_some hci
            have hj : j < P.cellsOf e := by rw [← hl2]; exact (List.getElem?_eq_some_iff.1 hv).1
            have := hc2 j hj
            rw [hv] at this
            have ead : ((⟨b, off, none⟩ : Addr).add (i * P.cellsOf e)).add j = ⟨b, off + (i * P.cellsOf e + j), none⟩ := by
              unfold Addr.add
              by_cases h0 : i * P.cellsOf e = 0 <;> by_cases h2 : j = 0 <;> simp [h0, h2, Nat.add_assoc]
            rw [ead] at this
            unfold World.cell? at this
            simp only [hh, Option.isSome_none, Bool.false_eq_true, if_false] at this
            rw [hfc]
            simpa using this
          have main : ∀ k, k ≤ len → ∃ es cs', es.length = k ∧ VRs ρ (flatC es) cs' ∧ cs'.length = k * P.cellsOf e ∧ Sub y.fc off cs' ∧ ∀ x, x ∈ es → (cellsL x).length = P.cellsOf e ∧ (aggTy P e = true → x = .agg ⟨cellsL x⟩) ∧ (aggTy P e = false → cellsL x = [x]) ∧ FormC P B m e (cellsL x) := by
            intro k
            induction k with
            | zero => exact fun _ => ⟨[], [], rfl, .nil, by simp, fun j v h => by simp at h, fun x hx => by cases hx⟩
            | succ k ihk =>
              intro hk
              obtain ⟨es, cs', e1, e2, e3, e4, e5⟩ := ihk (by omega)
              obtain ⟨ci, vs, g1, g2, g3⟩ := hi k (by omega)
              obtain ⟨_, hl2, _⟩ := World.cells?_some g1
              have hvl : vs.length = P.cellsOf e := by rw [g2.len, hl2]
              obtain ⟨q1, q2, q3⟩ := elem_cells g3 hvl h1
              refine ⟨es ++ [elemV P e vs], cs' ++ ci, by simp [e1], ?_, ?_, ?_, ?_⟩
              · rw [flatC_append]
                refine e2.append ?_
                simp only [flatC, List.append_nil, q1]
                exact g2
              · rw [List.length_append, e3, hl2, Nat.succ_mul]
              · intro j v hv
                by_cases hj : j < cs'.length
                · rw [List.getElem?_append_left hj] at hv
                  exact e4 j v hv
                · rw [List.getElem?_append_right (by omega), e3] at hv
                  have := hcell k (j - k * P.cellsOf e) ci (by omega) g1 v hv
                  rw [show k * P.cellsOf e + (j - k * P.cellsOf e) = j by omega] at this
                  exact this
              · intro x hx
                rcases List.mem_append.1 hx with hx | hx
                · exact e5 x hx
                · simp only [List.mem_singleton] at hx
                  subst hx
                  rw [q1]
                  exact ⟨hvl, q2, q3, g3⟩
          obtain ⟨es, cs', e1, e2, e3, e4, e5⟩ := main len (Nat.le_refl _)
          refine ⟨[lstV es], .cons ?_ .nil, ?_⟩
          · rw [← hlz, ← e1]
            exact VR.lst (sz := P.cellsOf e) hy e2 e4 (fun x hx => (e5 x hx).1) (by omega)
          · unfold FormC
            rw [hu]
            refine ⟨es, rfl, ?_, by omega, e5⟩
            have h0 := hw ((elems.map (·.1)).length * P.bytesOf e + (rest.map (·.1)).length * P.bytesOf e) (by
              simp only [DataW.weights, hu, Nat.add_mul, List.mem_cons, true_or])
            rw [List.length_map, hlen] at h0
            rw [e1]
            omega
end
end Go.Ev
/- What the tokens of an argument look like. -/
namespace Go.Proofs.YtmjbmbmnnephjaaGreatDoor
open Go Go.Ev Go.Proofs
/-- The types of tokens. -/
def TokTy (t : TypeId) : Prop := t = 23 ∨ t = 34 ∨ t = 3 ∨ t = 9 ∨ t = 32 ∨ t = 28 ∨ t = 2 ∨ t = 29 ∨ t = 30
theorem tokTy (t : TypeId) (h : TokTy t) : PlainAt Tryz.prog TokTy t := by
  rcases h with rfl | rfl | rfl | rfl | rfl | rfl | rfl | rfl | rfl
  · exact .slice Tryz.underlying23 (by simp [TokTy]) (of_decide_eq_true (by kernel_rfl)) (fun h => by exact absurd h (by rw [show aggTy Tryz.prog 34 = true by kernel_rfl]; decide))
  · refine .struct Tryz.underlying34 (fun f hf => ?_) (by kernel_rfl)
    simp only [List.mem_cons, List.not_mem_nil, or_false] at hf
    rcases hf with rfl | rfl | rfl | rfl | rfl <;> simp [TokTy]
  · exact .int Tryz.underlying3
  · exact .string Tryz.underlying9
  · refine .struct Tryz.underlying32 (fun f hf => ?_) (by kernel_rfl)
    simp only [List.mem_cons, List.not_mem_nil, or_false] at hf
    rcases hf with rfl | rfl | rfl | rfl <;> simp [TokTy]
  · exact .slice Tryz.underlying28 (by simp [TokTy]) (of_decide_eq_true (by kernel_rfl)) (fun _ => by kernel_rfl)
  · exact .int Tryz.underlying2
  · exact .slice Tryz.underlying29 (by simp [TokTy]) (of_decide_eq_true (by kernel_rfl)) (fun _ => by kernel_rfl)
  · exact .slice Tryz.underlying30 (by simp [TokTy]) (of_decide_eq_true (by kernel_rfl)) (fun h => by exact absurd h (by rw [show aggTy Tryz.prog 32 = true by kernel_rfl]; decide))
theorem co3 : Tryz.prog.cellsOf 3 = 1 := by kernel_rfl
theorem co28 : Tryz.prog.cellsOf 28 = 1 := by kernel_rfl
theorem co29 : Tryz.prog.cellsOf 29 = 1 := by kernel_rfl
theorem co30 : Tryz.prog.cellsOf 30 = 1 := by kernel_rfl
theorem co32 : Tryz.prog.cellsOf 32 = 4 := by kernel_rfl
section
variable {B : Nat}
theorem form_int {n : Nat} {t : TypeId} (ht : Tryz.prog.underlying t = some (.int .i64)) {vs : List Value} (h : FormC Tryz.prog B n t vs) : ∃ i, vs = [.int .i64 i] := by
  obtain ⟨i, h, _⟩ := h.int ht
  exact ⟨i, h⟩
theorem form_str {n : Nat} {vs : List Value} (h : FormC Tryz.prog B n 9 vs) : ∃ s : ByteArray, vs = [.string s] ∧ s.data.toList.length ≤ B := h.string Tryz.underlying9
theorem form_lst {n : Nat} {t e : TypeId} (ht : Tryz.prog.underlying t = some (.slice e)) {vs : List Value} (h : FormC Tryz.prog B n t vs) :
    ∃ m es, n = m + 1 ∧ vs = [lstV es] ∧ es.length ≤ 9223372036854775807 ∧ ∀ x, x ∈ es → (aggTy Tryz.prog e = true → x = .agg ⟨cellsL x⟩) ∧ (aggTy Tryz.prog e = false → cellsL x = [x]) ∧ FormC Tryz.prog B m e (cellsL x) := by
  obtain ⟨m, hm, es, h1, _, h2, h3⟩ := h.slice ht
  exact ⟨m, es, hm, h1, h2, fun x hx => ⟨(h3 x hx).2.1, (h3 x hx).2.2.1, (h3 x hx).2.2.2⟩⟩
theorem len4 {vs : List Value} (h : vs.length = 4) : ∃ a b c d, vs = [a, b, c, d] := by
  match vs, h with
  | [a, b, c, d], _ => exact ⟨a, b, c, d, rfl⟩
theorem form_val : ∀ (n : Nat) (vs : List Value), FormC Tryz.prog B n 32 vs → ∃ t m sy l, vs = [.int .i64 t, lstV m, lstV sy, lstV l] ∧ VF (.agg ⟨[.int .i64 t, lstV m, lstV sy, lstV l]⟩) := by
  intro n
  induction n using Nat.strongRecOn with
  | ind n ih =>
  intro vs h
  obtain ⟨m0, hm0, hl, hf⟩ := h.struct Tryz.underlying32
  · skip
    rw [co32] at hl
    obtain ⟨a, b, c, d, rfl⟩ := len4 hl
    have f0 : FormC Tryz.prog B m0 3 (([a, b, c, d].drop 0).take (Tryz.prog.cellsOf 3)) := hf 0 _ rfl
    have f1 : FormC Tryz.prog B m0 28 (([a, b, c, d].drop 1).take (Tryz.prog.cellsOf 28)) := hf 1 _ rfl
    have f2 : FormC Tryz.prog B m0 29 (([a, b, c, d].drop 2).take (Tryz.prog.cellsOf 29)) := hf 2 _ rfl
    have f3 : FormC Tryz.prog B m0 30 (([a, b, c, d].drop 3).take (Tryz.prog.cellsOf 30)) := hf 3 _ rfl
    rw [co3] at f0
    rw [co28] at f1
    rw [co29] at f2
    rw [co30] at f3
    obtain ⟨t, e0⟩ := form_int Tryz.underlying3 f0
    obtain ⟨n1, m, _, e1, l1, g1⟩ := form_lst Tryz.underlying28 f1
    obtain ⟨n2, sy, _, e2, l2, g2⟩ := form_lst Tryz.underlying29 f2
    obtain ⟨n3, l, hn3, e3, l3, g3⟩ := form_lst Tryz.underlying30 f3
    simp only [List.drop_zero, List.drop_succ_cons, List.take_succ_cons, List.take_zero, List.cons.injEq, and_true] at e0 e1 e2 e3
    subst e0 e1 e2 e3
    refine ⟨t, m, sy, l, rfl, .mk l1 l2 l3 (fun x hx => ?_) (fun x hx => ?_) (fun x hx => ?_)⟩
    · obtain ⟨_, h2, h3⟩ := g1 x hx
      obtain ⟨i, hi⟩ := form_int Tryz.underlying2 h3
      rw [h2 (by kernel_rfl)] at hi
      exact ⟨i, by simpa using hi⟩
    · obtain ⟨_, h2, h3⟩ := g2 x hx
      obtain ⟨i, hi, _⟩ := form_str h3
      rw [h2 (by kernel_rfl)] at hi
      exact ⟨i, by simpa using hi⟩
    · obtain ⟨h1, _, h3⟩ := g3 x hx
      obtain ⟨t', m', sy', l', h4, h5⟩ := ih n3 (by omega) _ h3
      rw [h1 (by kernel_rfl), h4]
      exact h5
end
end Go.Proofs.YtmjbmbmnnephjaaGreatDoor
