import Derived.Test.YtpljgnjdlciicaaGreatDoorLxKP25
import Derived.Test.YtpljgnjdlciicaaGreatDoorLxKP26
namespace Go.Ev
open Go Go.RowKit
theorem chk_congr {ops : Array Oper} {tm tm' : Tm} (o : Oper) (h : ∀ t, t ∈ o.looksAt ops → Nat.testBit tm.lv t = Nat.testBit tm'.lv t) : chk ops.toList tm o = chk ops.toList tm' o := by
  unfold chk
  have h1 : liveG ops.toList tm o = liveG ops.toList tm' o := by
    unfold liveG
    cases hg : o.guard with
    | none => rfl
    | some g =>
      obtain ⟨j, want⟩ := g
      dsimp only
      have e : ops.toList[j]? = ops[j]? := by simp
      rw [e]
      cases hj : ops[j]? with
      | none => rfl
      | some oj =>
        dsimp only
        cases hd : oj.dst with
        | none => rfl
        | some d =>
          dsimp only
          exact h d (by simp [Oper.looksAt, hg, hj, hd])
  have h2 : liveOs tm o.op.operands.toList = liveOs tm' o.op.operands.toList := liveOs_congr fun x hx => liveO_congr fun t e => h t (by
    subst e
    exact List.mem_append_left _ (List.mem_filterMap.2 ⟨.tmp t, hx, rfl⟩))
  rw [h1, h2]
theorem wantedA_congr {ops : Array Oper} {tm tm' : Tm} (o : Oper) (h : ∀ t, t ∈ o.looksAt ops → tm.get t = tm'.get t) : wantedA ops.toList tm o = wantedA ops.toList tm' o := by
  unfold wantedA
  cases hg : o.guard with
  | none => rfl
  | some g =>
    obtain ⟨j, want⟩ := g
    dsimp only
    have e : ops.toList[j]? = ops[j]? := by simp
    rw [e]
    cases hj : ops[j]? with
    | none => rfl
    | some oj =>
      dsimp only
      cases hd : oj.dst with
      | none => rfl
      | some d =>
        dsimp only
        rw [h d (by simp [Oper.looksAt, hg, hj, hd])]
structure Rc where
  tm : Tm
  m : Tr Slot
  c : Nat
  v : Value
  sg : List Acc
  mask : Nat
  pu : Bool
structure Turn (E : Env) (ih : Rec) (ops : Array Oper) (R : Nat → Rc) (i : Nat) (o : Oper) : Prop where
  op : ops[i]? = some o
  edges : edgesOk i o = true
  chk : Ev.chk ops.toList (R i).tm o = true
  tmn : Same (putT (R i).tm o.dst (R i).v) (R (i + 1)).tm
  skip : wantedA ops.toList (R i).tm o = false → (R i).v = U ∧ (R i).sg = [] ∧ (R (i + 1)).m = (R i).m ∧ (R (i + 1)).c = (R i).c
  run : wantedA ops.toList (R i).tm o = true → deferOf o.op = none ∧ (opA E ih (R i).tm o).run ⟨(R i).m, (R i).c, []⟩ = some ((R i).v, ⟨(R (i + 1)).m, (R (i + 1)).c, (R i).sg⟩)
def doneOf (R : Nat → Rc) : Nat → List Done
  | 0 => []
  | i + 1 => if (R i).pu = true then doneOf R i else ⟨i, writesOf (R i).sg, (R i).sg⟩ :: doneOf R i
def masksOf (R : Nat → Rc) (i : Nat) : List Nat := (List.range i).map fun j => (R j).mask
theorem doneOf_congr {R R' : Nat → Rc} : ∀ {i : Nat}, (∀ j, j < i → R' j = R j) → doneOf R' i = doneOf R i
  | 0, _ => rfl
  | i + 1, h => by
    simp only [doneOf]
    rw [h i (Nat.lt_succ_self i), doneOf_congr (i := i) fun j hj => h j (by omega)]
theorem masksOf_congr {R R' : Nat → Rc} {i : Nat} (h : ∀ j, j < i → R' j = R j) : masksOf R' i = masksOf R i := by
  unfold masksOf
  refine List.map_congr_left fun j hj => ?_
  rw [h j (List.mem_range.1 hj)]
theorem anyHits_nil (l : List Acc) : anyHits l [] = false := by
  induction l with
  | nil => rfl
  | cons a l ih => simp [anyHits, hits, ih]
theorem apartLogs_left (wb b : List Acc) : apartLogs (writesOf []) [] wb b = true := by
  unfold apartLogs
  rw [anyHits_nil]
  cases wb <;> rfl
theorem apartLogs_right (wa a : List Acc) : apartLogs wa a (writesOf []) [] = true := by
  unfold apartLogs
  rw [anyHits_nil]
  cases wa <;> rfl
theorem freeT_spec {ops : Array Oper} {o : Oper} {mask i : Nat} : ∀ (l : List Oper) (j0 : Nat), ops.toList.drop j0 = l → freeT ops o mask i j0 l = true → ∀ j oj, j0 ≤ j → j < i → ops[j]? = some oj → Nat.testBit mask j = true ∨ oj.apart ops o = true := by
  intro l
  induction l with
  | nil =>
    intro j0 hd _ j oj h1 _ ho
    have : (ops.toList.drop j0)[j - j0]? = some oj := by
      rw [List.getElem?_drop, show j0 + (j - j0) = j from by omega]
      simpa using ho
    rw [hd] at this
    simp at this
  | cons x l ih =>
    intro j0 hd h j oj h1 h2 ho
    have hx : ops[j0]? = some x := by
      have : (ops.toList.drop j0)[0]? = some x := by rw [hd]; rfl
      simpa using this
    have hd1 : ops.toList.drop (j0 + 1) = l := by
      have : (ops.toList.drop j0).drop 1 = l := by rw [hd]; rfl
      simpa [Nat.add_comm] using this
    simp only [freeT] at h
    have hlt : Nat.blt j0 i = true := Nat.ble_eq_true_of_le (show j0 + 1 ≤ i by omega)
    rw [hlt] at h
    simp only [Bool.and_eq_true, Bool.or_eq_true] at h
    by_cases e : j = j0
    · subst e
      rw [ho] at hx
      obtain rfl := Option.some.inj hx
      exact h.1
    · exact ih (j0 + 1) hd1 h.2 j oj (by omega) h2 ho
theorem freeL_spec {R : Nat → Rc} {mask : Nat} {ws all : List Acc} : ∀ {i : Nat}, freeL mask ws all (doneOf R i) = true → ∀ j, j < i → (R j).pu = false →
    Nat.testBit mask j = true ∨ apartLogs (writesOf (R j).sg) (R j).sg ws all = true := by
  intro i
  induction i with
  | zero => intro _ j hj; omega
  | succ i ih =>
    intro h j hj hp
    simp only [doneOf] at h
    split at h
    · rename_i hpu
      by_cases e : j = i
      · subst e; rw [hpu] at hp; cases hp
      · exact ih h j (by omega) hp
    · simp only [freeL, Bool.and_eq_true, Bool.or_eq_true] at h
      by_cases e : j = i
      · subst e; exact h.1
      · exact ih h.2 j (by omega) hp
theorem gdL_run {mask : Nat} {ws all : List Acc} {done : List Done} {k : Prog} {s : St} {r : Value × St} (h : (gdL mask ws all done k).run s = some r) : freeL mask ws all done = true ∧ k.run s = some r := by
  cases done with
  | nil => exact ⟨rfl, h⟩
  | cons d ds => exact gd_run h
theorem opsD_turns {fn : Nat} {E : Env} {ih : Rec} {ops : Array Oper} {K : Tm → Prog} {v : Value} {s' : St} : ∀ (l : List Oper) (i : Nat) (tm : Tm) (s : St) (R0 : Nat → Rc), (∀ j, j < i → (R0 j).pu = true → (R0 j).sg = []) → i ≤ ops.size → ops.toList.drop i = l →
    (opsD E ih fn ops ops.toList l i (masksOf R0 i) (doneOf R0 i) tm K).run s = some (v, s') →
    ∃ R : Nat → Rc, (∀ j, j < i → R j = R0 j) ∧ Same tm (R i).tm ∧ (R i).m = s.mem ∧ (R i).c = s.ctr ∧
      (∀ j, i ≤ j → j < ops.size → ∃ o, Turn E ih ops R j o ∧ (R j).mask = maskOf (masksOf R j) o ∧ ∀ j' oj, j' < j → ops[j']? = some oj → Nat.testBit (R j).mask j' = true ∨ (oj.apart ops o = true ∧ apartLogs (writesOf (R j').sg) (R j').sg (writesOf (R j).sg) (R j).sg = true)) ∧
      ∃ s1, (K (R ops.size).tm).run s1 = some (v, s') ∧ s1.mem = (R ops.size).m ∧ s1.ctr = (R ops.size).c := by
  intro l
  induction l with
  | nil =>
    intro i tm s R0 hp0 hi hd h
    have hin : i = ops.size := by
      have : (ops.toList.drop i).length = 0 := by rw [hd]; rfl
      rw [List.length_drop] at this
      simp at this
      omega
    subst hin
    refine ⟨fun j => if j < ops.size then R0 j else ⟨tm, s.mem, s.ctr, U, [], 0, true⟩, fun j hj => if_pos hj, ?_, ?_, ?_, fun j h1 h2 => absurd h2 (by omega), s, ?_, ?_, ?_⟩
    · simp only [Nat.lt_irrefl, if_false]; exact Same.refl tm
    all_goals simp
    exact h
  | cons o rest IH =>
    intro i tm s R0 hp0 hi hd h
    have hoi : ops[i]? = some o := by
      have : (ops.toList.drop i)[0]? = some o := by rw [hd]; rfl
      simpa using this
    have hlt : i < ops.size := (Array.getElem?_eq_some_iff.1 hoi).1
    have hd1 : ops.toList.drop (i + 1) = rest := by
      have : (ops.toList.drop i).drop 1 = rest := by rw [hd]; rfl
      simpa [Nat.add_comm] using this
    simp only [opsD, opsDL] at h
    obtain ⟨hgd, h1⟩ := ck_run h
    simp only [Bool.and_eq_true] at hgd
    obtain ⟨⟨hedge, hfree⟩, hchk⟩ := hgd
    have hT := freeT_spec (ops := ops) ops.toList 0 rfl hfree
    obtain ⟨tm', hsame, h1⟩ := guardC_run (by simp only [chk, Bool.and_eq_true] at hchk; exact hchk.1) h1
    have hchk' : chk ops.toList tm' o = true := by rw [chk_congr (ops := ops) (tm' := tm) o fun t _ => congrArg Prod.snd (hsame.2 t)]; exact hchk
    have hwt' : wantedA ops.toList tm' o = wantedA ops.toList tm o := wantedA_congr o fun t _ => congrArg Prod.fst (hsame.2 t)
    have both : ∀ (u : Value) (sg : List Acc) (pu : Bool) (s1 : St), (pu = true → sg = []) → (pu = false → freeL (maskOf (masksOf R0 i) o) (writesOf sg) sg (doneOf R0 i) = true) →
        (opsD E ih fn ops ops.toList rest (i + 1) (masksOf R0 i ++ [maskOf (masksOf R0 i) o]) (if pu = true then doneOf R0 i else ⟨i, writesOf sg, sg⟩ :: doneOf R0 i) (putT tm' o.dst u) K).run s1 = some (v, s') →
        (∀ R : Nat → Rc, R i = ⟨tm', s.mem, s.ctr, u, sg, maskOf (masksOf R0 i) o, pu⟩ → Same (putT tm' o.dst u) (R (i + 1)).tm → (R (i + 1)).m = s1.mem → (R (i + 1)).c = s1.ctr → Turn E ih ops R i o) →
        ∃ R : Nat → Rc, (∀ j, j < i → R j = R0 j) ∧ Same tm (R i).tm ∧ (R i).m = s.mem ∧ (R i).c = s.ctr ∧
          (∀ j, i ≤ j → j < ops.size → ∃ o, Turn E ih ops R j o ∧ (R j).mask = maskOf (masksOf R j) o ∧ ∀ j' oj, j' < j → ops[j']? = some oj → Nat.testBit (R j).mask j' = true ∨ (oj.apart ops o = true ∧ apartLogs (writesOf (R j').sg) (R j').sg (writesOf (R j).sg) (R j).sg = true)) ∧
          ∃ s1, (K (R ops.size).tm).run s1 = some (v, s') ∧ s1.mem = (R ops.size).m ∧ s1.ctr = (R ops.size).c := by
      intro u sg pu s1 hpu hlog hrun hturn
      let R1 : Nat → Rc := fun j => if j < i then R0 j else ⟨tm', s.mem, s.ctr, u, sg, maskOf (masksOf R0 i) o, pu⟩
      have hR1 : ∀ j, j < i → R1 j = R0 j := fun j hj => if_pos hj
      have hRi : R1 i = ⟨tm', s.mem, s.ctr, u, sg, maskOf (masksOf R0 i) o, pu⟩ := if_neg (by omega)
      have hp1 : ∀ j, j < i + 1 → (R1 j).pu = true → (R1 j).sg = [] := by
        intro j hj hq
        by_cases e : j = i
        · subst e
          rw [hRi] at hq ⊢
          exact hpu hq
        · rw [hR1 j (by omega)] at hq ⊢
          exact hp0 j (by omega) hq
      have em : masksOf R1 (i + 1) = masksOf R0 i ++ [maskOf (masksOf R0 i) o] := by
        have : masksOf R1 (i + 1) = masksOf R1 i ++ [(R1 i).mask] := by
          unfold masksOf
          rw [List.range_succ, List.map_append]
          rfl
        rw [this, masksOf_congr hR1, hRi]
      have ed : doneOf R1 (i + 1) = if pu = true then doneOf R0 i else ⟨i, writesOf sg, sg⟩ :: doneOf R0 i := by
        simp only [doneOf, hRi]
        rw [doneOf_congr hR1]
      obtain ⟨R, q1, q2, q3, q4, q5, q6⟩ := IH (i + 1) (putT tm' o.dst u) s1 R1 hp1 (by omega) hd1 (by rw [em, ed]; exact hrun)
      have eRi : R i = ⟨tm', s.mem, s.ctr, u, sg, maskOf (masksOf R0 i) o, pu⟩ := (q1 i (by omega)).trans hRi
      have eR0 : ∀ j, j < i → R j = R0 j := fun j hj => (q1 j (by omega)).trans (hR1 j hj)
      refine ⟨R, eR0, by rw [eRi]; exact hsame, by rw [eRi], by rw [eRi], fun j h1 h2 => ?_, q6⟩
      by_cases hj : j = i
      · subst hj
        refine ⟨o, hturn R eRi q2 q3 q4, ?_, fun j' oj hj' ho' => ?_⟩
        · rw [eRi, masksOf_congr eR0]
        · rw [eRi, eR0 j' hj']
          rcases hT j' oj (Nat.zero_le _) hj' ho' with hb | ha
          · exact .inl hb
          · cases hq : pu with
            | true =>
              refine .inr ⟨ha, ?_⟩
              rw [hpu hq]
              exact apartLogs_right _ _
            | false =>
              cases hq' : (R0 j').pu with
              | true =>
                refine .inr ⟨ha, ?_⟩
                rw [hp0 j' hj' hq']
                exact apartLogs_left _ _
              | false =>
                rcases freeL_spec (hlog hq) j' hj' hq' with hb | hl
                · exact .inl hb
                · exact .inr ⟨ha, hl⟩
      · exact q5 j (by omega) h2
    rw [← hwt'] at h1
    rcases h1 with ⟨hw, h1⟩ | ⟨hw, h1⟩
    rotate_left
    · refine both U [] true s (fun _ => rfl) (fun h => by cases h) h1 (fun R e1 e2 e3 e4 => ⟨hoi, hedge, by rw [e1]; exact hchk', ?_, fun _ => ?_, fun hc => ?_⟩)
      · rw [e1]; exact e2
      · rw [e1, e3, e4]; exact ⟨rfl, rfl, rfl, rfl⟩
      · rw [e1] at hc
        simp only at hc
        rw [hw] at hc; cases hc
    · split at h1
      · exact (fail_run h1).elim
      · rename_i hdn
        split at h1
        · rename_i hpure
          simp only [Bool.and_eq_true] at hpure
          obtain ⟨u, s1, hr, h4⟩ := opK_run h1
          obtain ⟨e0, hp⟩ := pure_run hpure.2 hr
          rw [e0] at h4
          replace h4 := nmP_run h4
          refine both u [] true s (fun _ => rfl) (fun h => by cases h) h4 (fun R e1 e2 e3 e4 => ⟨hoi, hedge, by rw [e1]; exact hchk', ?_, fun hc => ?_, fun _ => ?_⟩)
          · rw [e1]; exact e2
          · rw [e1] at hc
            simp only at hc
            rw [hw] at hc; cases hc
          · rw [e1, e3, e4]
            exact ⟨hdn, hp _⟩
        · obtain ⟨u, s1, h2, h3⟩ := seg_run h1
          obtain ⟨hf, h4⟩ := gdL_run h3
          replace h4 := nmP_run h4
          refine both u s1.log false ⟨s1.mem, s1.ctr, s1.log ++ s.log⟩ (fun h => by cases h) (fun _ => hf) h4 (fun R e1 e2 e3 e4 => ⟨hoi, hedge, by rw [e1]; exact hchk', ?_, fun hc => ?_, fun _ => ?_⟩)
          · rw [e1]; exact e2
          · rw [e1] at hc
            simp only at hc
            rw [hw] at hc; cases hc
          · rw [e1, e3, e4]
            exact ⟨hdn, h2⟩
end Go.Ev
