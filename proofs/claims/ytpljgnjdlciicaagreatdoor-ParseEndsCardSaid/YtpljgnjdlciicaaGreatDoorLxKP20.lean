import Derived.Test.YtpljgnjdlciicaaGreatDoorLxKP19
namespace Go.Ev
open Go Go.RowKit
section
variable {P : Program} {E : Env} {ρ : Map} {B0 : Nat} {w0 w : World}
theorem bit_or {lv d i : Nat} (h : Nat.testBit (Nat.lor lv (Nat.shiftLeft 1 d)) i = true) : i = d ∨ Nat.testBit lv i = true := by
  have h : Nat.testBit (lv ||| Nat.shiftLeft 1 d) i = true := h
  rw [Nat.testBit_or, Bool.or_eq_true] at h
  rcases h with h | h
  · exact .inr h
  · have e : Nat.shiftLeft 1 d = 2 ^ d := Nat.one_shiftLeft d
    rw [e, Nat.testBit_two_pow] at h
    exact .inl (of_decide_eq_true h).symm
theorem TR.put {tm : Tm} {a : Act} (h : TR ρ tm a.tmps) (d : Option Nat) {v v' : Value} (hv : VR ρ v v') : TR ρ (putT tm d v) (a.put d v').tmps := by
  cases d with
  | none => exact h
  | some d =>
    obtain ⟨hs, hg⟩ := h
    obtain ⟨nt, lv, t⟩ := tm
    simp only [putT, Tm.set, Act.put]
    simp only at hs hg
    split
    · rename_i hlt
      have hlt : d < nt := Nat.le_of_ble_eq_true hlt
      refine ⟨by simp [hs], fun i hb => ?_⟩
      simp only [Tm.get, Tr.get_set, Array.getD_eq_getD_getElem?]
      by_cases hi : i = d
      · subst hi
        rw [if_pos rfl, Array.getElem?_setIfInBounds_self, if_pos (by omega)]
        exact hv
      · rw [if_neg hi, Array.getElem?_setIfInBounds_ne (fun e => hi e.symm)]
        have := hg i ((bit_or hb).resolve_left hi)
        simp only [Tm.get, Array.getD_eq_getD_getElem?] at this
        exact this
    · rename_i hlt
      have hlt : ¬ (d < nt) := fun e => by
        have := Nat.ble_eq_true_of_le (show d + 1 ≤ nt from e)
        rw [show Nat.blt d nt = Nat.ble (d + 1) nt from rfl, this] at hlt; cases hlt
      refine ⟨by simp [hs], fun i hb => ?_⟩
      rw [Array.setIfInBounds_eq_of_size_le (by omega)]
      exact hg i hb
theorem putL_get {f : Nat → Value} {T : Tr Value} {t : Nat} : ∀ (l : List (Nat × Value)), (∀ p ∈ l, p.2 = f p.1) → (∃ p ∈ l, p.1 = t) → (putL l T).get t = some (f t) := by
  intro l
  induction l with
  | nil => rintro _ ⟨p, h, _⟩; cases h
  | cons q l ih =>
    rintro h ⟨p, hp, he⟩
    obtain ⟨i, v⟩ := q
    rw [putL, Tr.get_set]
    by_cases hi : t = i
    · subst hi
      rw [if_pos rfl]
      exact congrArg some (h (t, v) (List.mem_cons_self ..))
    · rw [if_neg hi]
      refine ih (fun p hp => h p (List.mem_cons_of_mem _ hp)) ?_
      rcases List.mem_cons.1 hp with rfl | hp
      · exact absurd he.symm hi
      · exact ⟨p, hp, he⟩
theorem bitsL_mem {t : Nat} : ∀ {l : List (Nat × Value)}, Nat.testBit (bitsL l) t = true → ∃ p ∈ l, p.1 = t := by
  intro l
  induction l with
  | nil => intro h; simp [bitsL] at h
  | cons q l ih =>
    intro h
    obtain ⟨i, v⟩ := q
    rcases bit_or h with h | h
    · exact ⟨(i, v), List.mem_cons_self .., h.symm⟩
    · obtain ⟨p, hp, e⟩ := ih h
      exact ⟨p, List.mem_cons_of_mem _ hp, e⟩
theorem keepL_mem {tm : Tm} {p : Nat × Value} : ∀ {l : List Nat}, p ∈ keepL tm l → p.2 = tm.get p.1 ∧ Nat.testBit tm.lv p.1 = true := by
  intro l
  induction l with
  | nil => intro h; cases h
  | cons i l ih =>
    intro h
    simp only [keepL] at h
    split at h
    · rename_i hb
      rcases List.mem_cons.1 h with rfl | h
      · exact ⟨rfl, hb⟩
      · exact ih h
    · exact ih h
theorem TR.keep {tm : Tm} {a : Array Value} (h : TR ρ tm a) (l : List Nat) : TR ρ (keepT tm l) a := by
  refine ⟨h.1, fun t ht => ?_⟩
  obtain ⟨p, hp, rfl⟩ := bitsL_mem (show Nat.testBit (bitsL (keepL tm l)) t = true from ht)
  have hg : (keepT tm l).get p.1 = tm.get p.1 := by
    have := putL_get (f := tm.get) (T := uTree (Nat.add (Nat.log2 tm.nt) 1)) (keepL tm l) (fun q hq => (keepL_mem hq).1) ⟨p, hp, rfl⟩
    show (match (putL (keepL tm l) (uTree (Nat.add (Nat.log2 tm.nt) 1))).get p.1 with | some v => v | none => U) = _
    rw [this]
  rw [hg]
  exact h.2 _ (keepL_mem hp).2
theorem uTree_get : ∀ (d k : Nat), (uTree d).get k = none ∨ (uTree d).get k = some U := by
  intro d
  induction d with
  | zero => intro k; exact .inl (Tr.get_nil k)
  | succ d ih =>
    intro k
    cases k with
    | zero => exact .inr rfl
    | succ k =>
      simp only [uTree, Tr.get]
      split
      · exact ih _
      · exact ih _
theorem argsT_get (t : Tr Value) : ∀ (l : List Value) (k j : Nat), (argsT l k t).get j = if k ≤ j ∧ j < k + l.length then l[j - k]? else t.get j := by
  intro l
  induction l with
  | nil => intro k j; rw [if_neg (by simp)]; rfl
  | cons v l ih =>
    intro k j
    rw [argsT, Tr.get_set, ih]
    by_cases hj : j = k
    · subst hj; rw [if_pos rfl, if_pos ⟨Nat.le_refl _, by simp⟩]; simp
    · rw [if_neg hj]
      simp only [Nat.add_eq, List.length_cons]
      by_cases hk : k + 1 ≤ j ∧ j < k + 1 + l.length
      · rw [if_pos hk, if_pos (by omega), show j - k = (j - (k + 1)) + 1 from by omega]
        rfl
      · rw [if_neg hk, if_neg (by omega)]
theorem TR.enter {args args' : List Value} (h : VRs ρ args args') {n : Nat} (hn : args.length ≤ n) : TR ρ (frameTm n args) ((⟨args'⟩ : Array Value) ++ Array.replicate (n - (⟨args'⟩ : Array Value).size) undef) := by
  have hl := h.length
  refine ⟨by simp [frameTm]; omega, fun i _ => ?_⟩
  simp only [Tm.get, frameTm, argsT_get, Nat.zero_le, true_and, Nat.zero_add, Nat.sub_zero, Array.getD_eq_getD_getElem?]
  cases ha : args[i]? with
  | some v =>
    rw [if_pos (List.getElem?_eq_some_iff.1 ha).1]
    obtain ⟨v', e1, e2⟩ := h.get ha
    have hlt : i < args'.length := (List.getElem?_eq_some_iff.1 e1).1
    have : ((⟨args'⟩ : Array Value) ++ Array.replicate (n - (⟨args'⟩ : Array Value).size) undef)[i]? = some v' := by
      rw [Array.getElem?_append_left (by simpa using hlt)]
      simpa using e1
    rw [this]
    exact e2
  | none =>
    have hge : args'.length ≤ i := by
      have := List.getElem?_eq_none_iff.1 ha
      omega
    rw [if_neg (by have := List.getElem?_eq_none_iff.1 ha; omega)]
    have hu : (match (uTree (Nat.add (Nat.log2 n) 1)).get i with | some v => v | none => U) = U := by
      rcases uTree_get (Nat.add (Nat.log2 n) 1) i with e | e <;> rw [e]
    have : (((⟨args'⟩ : Array Value) ++ Array.replicate (n - (⟨args'⟩ : Array Value).size) undef)[i]?).getD undef = undef := by
      rw [Array.getElem?_append_right (by simpa using hge), Array.getElem?_replicate]
      split <;> rfl
    rw [this]
    refine Eq.subst (motive := fun x => VR ρ x undef) hu.symm ?_
    exact U_VR ρ
def tv (tm : Tm) (t : Nat) : Value × Bool := (tm.get t, Nat.testBit tm.lv t)
theorem bit_or_iff (lv d i : Nat) : Nat.testBit (Nat.lor lv (Nat.shiftLeft 1 d)) i = (decide (i = d) || Nat.testBit lv i) := by
  show Nat.testBit (lv ||| Nat.shiftLeft 1 d) i = _
  rw [Nat.testBit_or]
  have e : Nat.shiftLeft 1 d = 2 ^ d := Nat.one_shiftLeft d
  rw [e, Nat.testBit_two_pow, Bool.or_comm]
  congr 1
  exact decide_eq_decide.2 eq_comm
theorem putT_tv (tm : Tm) (d : Option Nat) (v : Value) (t : Nat) : tv (putT tm d v) t = if d = some t ∧ t < tm.nt then (v, true) else tv tm t := by
  cases d with
  | none => simp [putT]
  | some d =>
    obtain ⟨nt, lv, tr⟩ := tm
    simp only [tv, putT, Tm.set, Option.some.injEq]
    split
    · rename_i hlt
      have hlt : d < nt := Nat.le_of_ble_eq_true hlt
      simp only [Tm.get, Tr.get_set, bit_or_iff]
      by_cases e : t = d
      · subst e; rw [if_pos rfl, if_pos ⟨rfl, hlt⟩]; simp
      · rw [if_neg e, if_neg (fun h => e h.1.symm)]; simp [e]
    · rename_i hlt
      rw [if_neg]
      rintro ⟨rfl, h⟩
      rw [show Nat.blt d nt = true from Nat.ble_eq_true_of_le (show d + 1 ≤ nt from h)] at hlt; cases hlt
theorem liveO_congr {tm tm' : Tm} {x : Operand} (h : ∀ t, x = .tmp t → Nat.testBit tm.lv t = Nat.testBit tm'.lv t) : liveO tm x = liveO tm' x := by
  cases x with
  | tmp t => exact h t rfl
  | _ => rfl
theorem liveOs_congr {tm tm' : Tm} : ∀ {l : List Operand}, (∀ x ∈ l, liveO tm x = liveO tm' x) → liveOs tm l = liveOs tm' l
  | [], _ => rfl
  | x :: l, h => by
    simp only [liveOs, h x (List.mem_cons_self ..), liveOs_congr fun y hy => h y (List.mem_cons_of_mem _ hy)]
theorem putT_nt (tm : Tm) (d : Option Nat) (v : Value) : (putT tm d v).nt = tm.nt := by
  cases d with
  | none => rfl
  | some d =>
    obtain ⟨nt, tr⟩ := tm
    simp only [putT, Tm.set]
    split <;> rfl
def Same (tm tm' : Tm) : Prop := tm'.nt = tm.nt ∧ ∀ t, tv tm' t = tv tm t
theorem Same.refl (tm : Tm) : Same tm tm := ⟨rfl, fun _ => rfl⟩
theorem Same.put {tm : Tm} {d : Nat} {v : Value} (h : tm.get d = v) (hb : Nat.testBit tm.lv d = true) : Same tm (putT tm (some d) v) := by
  refine ⟨?_, fun t => ?_⟩
  · obtain ⟨nt, lv, tr⟩ := tm
    simp only [putT, Tm.set]
    split <;> rfl
  · rw [putT_tv]
    split
    · rename_i hc
      have hd : d = t := by simpa using hc.1
      subst hd
      simp only [tv, h, hb]
    · rfl
theorem TR.same {tm tm' : Tm} {a : Array Value} (h : TR ρ tm a) (hs : Same tm tm') : TR ρ tm' a := by
  refine ⟨h.1.trans hs.1.symm, fun t ht => ?_⟩
  have e := hs.2 t
  have e1 : tm'.get t = tm.get t := congrArg Prod.fst e
  have e2 : Nat.testBit tm'.lv t = Nat.testBit tm.lv t := congrArg Prod.snd e
  rw [e1]
  exact h.2 t (e2 ▸ ht)
theorem guardC_run {all : List Oper} {tm : Tm} {o : Oper} {A B : Tm → Prog} {s : St} {r : Value × St} (hl : liveG all tm o = true) (h : (guardC all tm o A B).run s = some r) :
    ∃ tm', Same tm tm' ∧ ((wantedA all tm o = true ∧ (A tm').run s = some r) ∨ (wantedA all tm o = false ∧ (B tm').run s = some r)) := by
  unfold guardC at h
  unfold wantedA
  unfold liveG at hl
  cases hg : o.guard with
  | none =>
    rw [hg] at h
    exact ⟨tm, Same.refl tm, .inl ⟨rfl, h⟩⟩
  | some g =>
    obtain ⟨j, want⟩ := g
    rw [hg] at h hl
    dsimp only at h hl ⊢
    cases hj : all[j]? with
    | none =>
      rw [hj] at h
      exact ⟨tm, Same.refl tm, .inr ⟨rfl, h⟩⟩
    | some oj =>
      rw [hj] at h hl
      dsimp only at h hl ⊢
      cases hd : oj.dst with
      | none =>
        rw [hd] at h
        exact ⟨tm, Same.refl tm, .inr ⟨rfl, h⟩⟩
      | some d =>
        rw [hd] at h hl
        dsimp only at h hl ⊢
        cases hv : tm.get d with
        | bool b =>
          rw [hv] at h
          dsimp only at h ⊢
          cases b with
          | true =>
            refine ⟨putT tm (some d) (.bool true), Same.put hv hl, ?_⟩
            cases want with
            | true => exact .inl ⟨rfl, h⟩
            | false => exact .inr ⟨rfl, h⟩
          | false =>
            refine ⟨putT tm (some d) (.bool false), Same.put hv hl, ?_⟩
            cases want with
            | true => exact .inr ⟨rfl, h⟩
            | false => exact .inl ⟨rfl, h⟩
        | _ =>
          rw [hv] at h
          exact ⟨tm, Same.refl tm, .inr ⟨rfl, h⟩⟩
theorem wanted_ok {ops : Array Oper} {tm : Tm} {a : Act} (h : TR ρ tm a.tmps) (o : Oper) (hl : liveG ops.toList tm o = true) : Region.wanted o (yielded ops a.tmps) = wantedA ops.toList tm o := by
  unfold Region.wanted wantedA
  unfold liveG at hl
  cases hgd : o.guard with
  | none => rfl
  | some g =>
    obtain ⟨j, want⟩ := g
    rw [hgd] at hl
    simp only [yielded]
    have e : ops.toList[j]? = ops[j]? := by simp
    simp only [e] at hl ⊢
    cases hoj : ops[j]? with
    | none => rfl
    | some oj =>
      rw [hoj] at hl
      simp only [Option.bind_some] at hl ⊢
      cases hod : oj.dst with
      | none => rfl
      | some d =>
        rw [hod] at hl
        simp only [Option.bind_some] at hl ⊢
        have hd := h.2 d hl
        rw [Array.getD_eq_getD_getElem?] at hd
        cases hx : a.tmps[d]? with
        | none =>
          rw [hx] at hd
          simp only [Option.getD_none] at hd
          generalize tm.get d = u at hd
          cases hd
          rfl
        | some u =>
          rw [hx] at hd
          simp only [Option.getD_some] at hd
          generalize tm.get d = u0 at hd
          cases hd <;> first | rfl | (rename_i b; cases b <;> cases want <;> rfl)
end
end Go.Ev
