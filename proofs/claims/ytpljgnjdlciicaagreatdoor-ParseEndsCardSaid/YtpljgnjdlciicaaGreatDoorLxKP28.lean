import Derived.Test.YtpljgnjdlciicaaGreatDoorLxKP27
namespace Go.Ev
open Go Go.RowKit
theorem writesOf_mem {l : List Acc} {a : Acc} (h : a ∈ l) (hw : a.w = true) : a ∈ writesOf l := by
  induction l with
  | nil => cases h
  | cons b l ih =>
    simp only [writesOf]
    rcases List.mem_cons.1 h with rfl | h
    · rw [hw]; exact List.mem_cons_self ..
    · split
      · exact List.mem_cons_of_mem _ (ih h)
      · exact ih h
theorem blt_of {a b : Nat} (h : a < b) : Nat.blt a b = true := Nat.ble_eq_true_of_le h
theorem hits_of {a : Acc} {k : Nat} (ha : a.k ≤ k ∧ k < a.k + a.n) : ∀ {l : List Acc}, touched l k → hits a l = true := by
  intro l
  induction l with
  | nil => intro h; exact (touched_nil h).elim
  | cons b l ih =>
    intro h
    simp only [hits, Bool.or_eq_true]
    rcases touched_cons.1 h with h | h
    · left
      simp only [overlap, Nat.add_eq, Bool.and_eq_true]
      exact ⟨blt_of (by omega), blt_of (by omega)⟩
    · exact .inr (ih h)
theorem anyHits_of {k : Nat} {b : List Acc} (hb : touched b k) : ∀ {l : List Acc}, touched l k → anyHits l b = true := by
  intro l
  induction l with
  | nil => intro h; exact (touched_nil h).elim
  | cons a l ih =>
    intro h
    simp only [anyHits, Bool.or_eq_true]
    rcases touched_cons.1 h with h | h
    · exact .inl (hits_of h hb)
    · exact .inr (ih h)
theorem wrote_writes {l : List Acc} {k : Nat} (h : wrote l k) : touched (writesOf l) k := by
  obtain ⟨a, h1, h2, h3⟩ := h
  exact ⟨a, writesOf_mem h1 h2, h3⟩
theorem apartLogs_spec {a b : List Acc} (h : apartLogs (writesOf a) a (writesOf b) b = true) (k : Nat) : ¬ (wrote a k ∧ touched b k) ∧ ¬ (touched a k ∧ wrote b k) := by
  simp only [apartLogs, Bool.and_eq_true] at h
  obtain ⟨h1, h2⟩ := h
  constructor
  · rintro ⟨ha, hb⟩
    have hw := wrote_writes ha
    have := anyHits_of hb hw
    split at h1
    · rename_i e; rw [e] at hw; exact touched_nil hw
    · rw [this] at h1; cases h1
  · rintro ⟨ha, hb⟩
    have hw := wrote_writes hb
    have := anyHits_of ha hw
    split at h2
    · rename_i e; rw [e] at hw; exact touched_nil hw
    · rw [this] at h2; cases h2
theorem shiftLeft_one_bit {m j : Nat} (h : Nat.testBit (Nat.shiftLeft 1 m) j = true) : j = m := by
  have e : Nat.shiftLeft 1 m = 2 ^ m := Nat.one_shiftLeft m
  rw [e, Nat.testBit_two_pow] at h
  exact (of_decide_eq_true h).symm
theorem maskFold_spec {before : List Nat} {j : Nat} : ∀ (l : List Edge) (m0 : Nat),
    Nat.testBit (l.foldl (fun m e => match bindsAny e with
      | true => Nat.lor (Nat.lor m (Nat.shiftLeft 1 e.on)) ((before[e.on]?).getD 0)
      | false => m) m0) j = true → Nat.testBit m0 j = true ∨ ∃ e ∈ l, bindsAny e = true ∧ (j = e.on ∨ Nat.testBit ((before[e.on]?).getD 0) j = true) := by
  intro l
  induction l with
  | nil => intro m0 h; exact .inl h
  | cons e l ih =>
    intro m0 h
    rw [List.foldl_cons] at h
    rcases ih _ h with h | ⟨e', h1, h2, h3⟩
    · split at h
      · rename_i hb
        have h : Nat.testBit ((m0 ||| Nat.shiftLeft 1 e.on) ||| ((before[e.on]?).getD 0)) j = true := h
        rw [Nat.testBit_or, Nat.testBit_or, Bool.or_eq_true, Bool.or_eq_true] at h
        rcases h with (h | h) | h
        · exact .inl h
        · exact .inr ⟨e, List.mem_cons_self .., hb, .inl (shiftLeft_one_bit h)⟩
        · exact .inr ⟨e, List.mem_cons_self .., hb, .inr h⟩
      · exact .inl h
    · exact .inr ⟨e', List.mem_cons_of_mem _ h1, h2, h3⟩
theorem masksOf_get {R : Nat → Rc} {i k : Nat} : ((masksOf R i)[k]?).getD 0 = if k < i then (R k).mask else 0 := by
  unfold masksOf
  rw [List.getElem?_map]
  by_cases h : k < i
  · rw [if_pos h, List.getElem?_range h]; rfl
  · rw [if_neg h, List.getElem?_eq_none (by simpa using Nat.le_of_not_lt h)]; rfl
theorem maskOf_spec {R : Nat → Rc} {i j : Nat} {o : Oper} (h : Nat.testBit (maskOf (masksOf R i) o) j = true) :
    ∃ e ∈ o.after.toList, bindsAny e = true ∧ (j = e.on ∨ Nat.testBit (R e.on).mask j = true) := by
  rcases maskFold_spec _ _ h with h | ⟨e, h1, h2, h3⟩
  · simp at h
  · refine ⟨e, h1, h2, h3.imp id fun h => ?_⟩
    rw [masksOf_get] at h
    split at h
    · exact h
    · simp at h
theorem edgesOk_spec {i : Nat} {o : Oper} (h : edgesOk i o = true) {e : Edge} (he : e ∈ o.after.toList) (hb : bindsAny e = true) : e.on < i := by
  have := List.all_eq_true.1 h e he
  rw [hb] at this
  simp only [Bool.not_true, Bool.false_or] at this
  exact Nat.le_of_ble_eq_true this
theorem evO_congr {tm tm' : Tm} {x : Operand} (h : ∀ t, x = .tmp t → tm.get t = tm'.get t) : evO tm x = evO tm' x := by
  cases x with
  | tmp t => exact h t rfl
  | _ => rfl
theorem plainOp_congr {E : Env} {ρ ρ' : Operand → Value} (op : Op) (h : ∀ x ∈ op.operands, ρ x = ρ' x) : plainOp E ρ op = plainOp E ρ' op := by
  have pairs : ∀ ps : Array (Nat × Operand), (∀ x ∈ ps.map (·.2), ρ x = ρ' x) →
      (ps.toList.map fun (i, x) => (i, ρ x)) = (ps.toList.map fun (i, x) => (i, ρ' x)) := fun ps hp =>
    List.map_congr_left fun p hm => by
      obtain ⟨i, x⟩ := p
      simp only [hp x (Array.mem_map.2 ⟨(i, x), by simpa using hm, rfl⟩)]
  cases op <;> simp only [Op.operands] at h <;> simp only [plainOp]
  case build t ps => rw [pairs ps fun x hx => h x (by simpa using hx)]
  case buildSlice t n ps => rw [pairs ps fun x hx => h x (by simpa using hx)]
  case makeFunc fn first captured =>
    rw [Array.map_congr_left (xs := first) fun x hx => h x (by simp [hx]), Array.map_congr_left (xs := captured) fun x hx => h x (by simp [hx])]
  case makeMap t r => cases r <;> simp_all
  case slice t x lo hi mx => cases lo <;> cases hi <;> cases mx <;> simp_all
  all_goals (first | rfl | (simp_all; done))
theorem opA_congr {E : Env} {ih : Rec} {tm tm' : Tm} (o : Oper) (h : ∀ x ∈ o.op.operands, evO tm x = evO tm' x) : opA E ih tm o = opA E ih tm' o := by
  obtain ⟨dst, op, type, pos, after, gd0⟩ := o
  unfold opA
  dsimp only at h ⊢
  split
  · rename_i c
    have hargs : c.args.toList.map (evO tm) = c.args.toList.map (evO tm') := List.map_congr_left fun x hx => h x (by simp [Op.operands, Call.operands]; exact .inr (by simpa using hx))
    split
    · rw [hargs]
    · rename_i f hcal
      rw [h f (by simp [Op.operands, Call.operands, hcal]), hargs]
    · rfl
  · exact plainOp_congr _ h
theorem looks_congr {ops : Array Oper} {tm tm' : Tm} (o : Oper) (h : ∀ t, t ∈ o.looksAt ops → tm.get t = tm'.get t) : ∀ x ∈ o.op.operands, evO tm x = evO tm' x :=
  fun x hx => evO_congr fun t e => h t (by
    subst e
    exact List.mem_append_left _ (List.mem_filterMap.2 ⟨.tmp t, by simpa using hx, rfl⟩))
def leftOf (listed : Array Bool) : Nat → Nat
  | 0 => 0
  | i + 1 => leftOf listed i + (if listed.getD i true = true then 0 else 1)
theorem getD_set_self {l : Array Bool} {i : Nat} (h : i < l.size) (d : Bool) : (l.setIfInBounds i true).getD i d = true := by
  rw [Array.getD_eq_getD_getElem?, Array.getElem?_setIfInBounds_self, if_pos h]; rfl
theorem getD_set_other {l : Array Bool} {i j : Nat} (h : j ≠ i) (d : Bool) : (l.setIfInBounds i true).getD j d = l.getD j d := by
  rw [Array.getD_eq_getD_getElem?, Array.getD_eq_getD_getElem?, Array.getElem?_setIfInBounds_ne (Ne.symm h)]
theorem leftOf_set_above {l : Array Bool} {p : Nat} : ∀ n, n ≤ p → leftOf (l.setIfInBounds p true) n = leftOf l n := by
  intro n
  induction n with
  | zero => intro _; rfl
  | succ n ih =>
    intro h
    simp only [leftOf]
    rw [ih (by omega), getD_set_other (by omega)]
theorem leftOf_set {l : Array Bool} {p : Nat} (hp : l.getD p true = false) (hs : p < l.size) : ∀ n, p < n → leftOf (l.setIfInBounds p true) n + 1 = leftOf l n := by
  intro n
  induction n with
  | zero => intro h; omega
  | succ n ih =>
    intro h
    simp only [leftOf]
    by_cases e : p = n
    · subst e
      rw [leftOf_set_above _ (Nat.le_refl _), getD_set_self hs, hp]; simp
    · rw [getD_set_other (fun x => e x.symm), ← ih (by omega)]
      omega
theorem leftOf_zero {l : Array Bool} : ∀ n, leftOf l n = 0 → ∀ j, j < n → l.getD j true = true := by
  intro n
  induction n with
  | zero => intro _ j h; omega
  | succ n ih =>
    intro h j hj
    simp only [leftOf] at h
    by_cases e : j = n
    · subst e
      cases hb : l.getD j true with
      | true => rfl
      | false => rw [hb] at h; simp at h
    · exact ih (by omega) j (by omega)
theorem leftOf_replicate : ∀ (m n : Nat), n ≤ m → leftOf (Array.replicate m false) n = n := by
  intro m n
  induction n with
  | zero => intro _; rfl
  | succ n ih =>
    intro h
    simp only [leftOf]
    have e : (Array.replicate m false).getD n true = false := by
      rw [Array.getD_eq_getD_getElem?, Array.getElem?_replicate, if_pos (show n < m by omega)]; rfl
    rw [ih (by omega), e]
    rfl
end Go.Ev
