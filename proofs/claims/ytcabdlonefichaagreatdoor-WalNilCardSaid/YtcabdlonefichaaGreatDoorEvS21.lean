/- Soundness, part 21: regions of open order: what the evaluator's own run in the text's order says of each operation. -/
import Derived.Test.YtcabdlonefichaaGreatDoorEvS20
import Derived.Test.YtcabdlonefichaaGreatDoorEvO
namespace Go.Ev
open Go Go.RowKit

/-- One operation's turn: the temporaries, the memory and the next number ahead of it; its value; what it touched; who keeps ahead of it. -/
structure Rc where
  tm : Tm
  m : Tr Slot
  c : Nat
  v : Value
  sg : List Acc
  mask : Nat
/-- The turns of a region, one behind the other. -/
structure Turn (E : Env) (ih : Rec) (ops : Array Oper) (R : Nat → Rc) (i : Nat) (o : Oper) : Prop where
  op : ops[i]? = some o
  edges : edgesOk i o = true
  tmn : (R (i + 1)).tm = putT (R i).tm o.dst (R i).v
  skip : wantedA ops.toList (R i).tm o = false → (R i).v = U ∧ (R i).sg = [] ∧ (R (i + 1)).m = (R i).m ∧ (R (i + 1)).c = (R i).c
  run : wantedA ops.toList (R i).tm o = true → deferOf o.op = none ∧ (opA E ih (R i).tm o).run ⟨(R i).m, (R i).c, []⟩ = some ((R i).v, ⟨(R (i + 1)).m, (R (i + 1)).c, (R i).sg⟩) ∧ allBelow (R (i + 1)).c (writesOf (R i).sg) = true
/-- What has been carried out ahead of operation i, the last first. -/
def doneOf (ops : Array Oper) (R : Nat → Rc) : Nat → List Done
  | 0 => []
  | i + 1 => (match ops[i]? with
    | some o => ⟨o, writesOf (R i).sg, (R i).sg⟩ :: doneOf ops R i
    | none => doneOf ops R i)
def masksOf (R : Nat → Rc) (i : Nat) : List Nat := (List.range i).map fun j => (R j).mask
theorem doneOf_congr {ops : Array Oper} {R R' : Nat → Rc} : ∀ {i : Nat}, (∀ j, j < i → R' j = R j) → doneOf ops R' i = doneOf ops R i
  | 0, _ => rfl
  | i + 1, h => by
    simp only [doneOf]
    rw [h i (Nat.lt_succ_self i), doneOf_congr (i := i) fun j hj => h j (by omega)]
theorem masksOf_congr {R R' : Nat → Rc} {i : Nat} (h : ∀ j, j < i → R' j = R j) : masksOf R' i = masksOf R i := by
  unfold masksOf
  refine List.map_congr_left fun j hj => ?_
  rw [h j (List.mem_range.1 hj)]
/-- What 'freeOf' says: of each that has gone ahead. -/
theorem freeOf_spec {ops : Array Oper} {R : Nat → Rc} {o : Oper} {mask : Nat} {ws all : List Acc} : ∀ {i : Nat}, i ≤ ops.size → freeOf ops o mask ws all (doneOf ops R i) i = true →
    ∀ j oj, j < i → ops[j]? = some oj → Nat.testBit mask j = true ∨ (oj.apart ops o = true ∧ apartLogs (writesOf (R j).sg) (R j).sg ws all = true) := by
  intro i
  induction i with
  | zero => intro _ _ j oj hj; omega
  | succ i ih =>
    intro hi h j oj hj ho
    have hsome : ∃ o', ops[i]? = some o' := ⟨ops[i], by simp [show i < ops.size from by omega]⟩
    obtain ⟨o', ho'⟩ := hsome
    simp only [doneOf, ho', freeOf, Nat.sub_eq, Nat.add_sub_cancel, Bool.and_eq_true, Bool.or_eq_true] at h
    obtain ⟨h1, h2⟩ := h
    by_cases e : j = i
    · subst e
      rw [ho] at ho'
      obtain rfl := Option.some.inj ho'
      exact h1
    · exact ih (by omega) h2 j oj (by omega) ho
/-- The turns, and what comes behind them. -/
theorem opsD_turns {E : Env} {ih : Rec} {ops : Array Oper} {K : Tm → Prog} {v : Value} {s' : St} : ∀ (l : List Oper) (i : Nat) (tm : Tm) (s : St) (R0 : Nat → Rc), i ≤ ops.size → ops.toList.drop i = l →
    (opsD E ih ops ops.toList l i (masksOf R0 i) (doneOf ops R0 i) tm K).run s = some (v, s') →
    ∃ R : Nat → Rc, (∀ j, j < i → R j = R0 j) ∧ (R i).tm = tm ∧ (R i).m = s.mem ∧ (R i).c = s.ctr ∧
      (∀ j, i ≤ j → j < ops.size → ∃ o, Turn E ih ops R j o ∧ (R j).mask = maskOf (masksOf R j) o ∧ ∀ j' oj, j' < j → ops[j']? = some oj → Nat.testBit (R j).mask j' = true ∨ (oj.apart ops o = true ∧ apartLogs (writesOf (R j').sg) (R j').sg (writesOf (R j).sg) (R j).sg = true)) ∧
      ∃ s1, (K (R ops.size).tm).run s1 = some (v, s') ∧ s1.mem = (R ops.size).m ∧ s1.ctr = (R ops.size).c := by
  intro l
  induction l with
  | nil =>
    intro i tm s R0 hi hd h
    have hin : i = ops.size := by
      have : (ops.toList.drop i).length = 0 := by rw [hd]; rfl
      rw [List.length_drop] at this
      simp at this
      omega
    subst hin
    refine ⟨fun j => if j < ops.size then R0 j else ⟨tm, s.mem, s.ctr, U, [], 0⟩, fun j hj => if_pos hj, ?_, ?_, ?_, fun j h1 h2 => absurd h2 (by omega), s, ?_, ?_, ?_⟩
    all_goals simp
    exact h
  | cons o rest IH =>
    intro i tm s R0 hi hd h
    have hoi : ops[i]? = some o := by
      have : (ops.toList.drop i)[0]? = some o := by rw [hd]; rfl
      simpa using this
    have hlt : i < ops.size := (Array.getElem?_eq_some_iff.1 hoi).1
    have hd1 : ops.toList.drop (i + 1) = rest := by
      have : (ops.toList.drop i).drop 1 = rest := by rw [hd]; rfl
      simpa [Nat.add_comm] using this
    simp only [opsD] at h
    obtain ⟨hedge, h1⟩ := gd_run h
    -- what both cases share
    have both : ∀ (u : Value) (sg : List Acc) (s1 : St), freeOf ops o (maskOf (masksOf R0 i) o) (writesOf sg) sg (doneOf ops R0 i) i = true →
        (opsD E ih ops ops.toList rest (i + 1) (masksOf R0 i ++ [maskOf (masksOf R0 i) o]) (⟨o, writesOf sg, sg⟩ :: doneOf ops R0 i) (putT tm o.dst u) K).run s1 = some (v, s') →
        (∀ R : Nat → Rc, R i = ⟨tm, s.mem, s.ctr, u, sg, maskOf (masksOf R0 i) o⟩ → (R (i + 1)).tm = putT tm o.dst u → (R (i + 1)).m = s1.mem → (R (i + 1)).c = s1.ctr → Turn E ih ops R i o) →
        ∃ R : Nat → Rc, (∀ j, j < i → R j = R0 j) ∧ (R i).tm = tm ∧ (R i).m = s.mem ∧ (R i).c = s.ctr ∧
          (∀ j, i ≤ j → j < ops.size → ∃ o, Turn E ih ops R j o ∧ (R j).mask = maskOf (masksOf R j) o ∧ ∀ j' oj, j' < j → ops[j']? = some oj → Nat.testBit (R j).mask j' = true ∨ (oj.apart ops o = true ∧ apartLogs (writesOf (R j').sg) (R j').sg (writesOf (R j).sg) (R j).sg = true)) ∧
          ∃ s1, (K (R ops.size).tm).run s1 = some (v, s') ∧ s1.mem = (R ops.size).m ∧ s1.ctr = (R ops.size).c := by
      intro u sg s1 hfree hrun hturn
      let R1 : Nat → Rc := fun j => if j < i then R0 j else ⟨tm, s.mem, s.ctr, u, sg, maskOf (masksOf R0 i) o⟩
      have hR1 : ∀ j, j < i → R1 j = R0 j := fun j hj => if_pos hj
      have hRi : R1 i = ⟨tm, s.mem, s.ctr, u, sg, maskOf (masksOf R0 i) o⟩ := if_neg (by omega)
      have em : masksOf R1 (i + 1) = masksOf R0 i ++ [maskOf (masksOf R0 i) o] := by
        have : masksOf R1 (i + 1) = masksOf R1 i ++ [(R1 i).mask] := by
          unfold masksOf
          rw [List.range_succ, List.map_append]
          rfl
        rw [this, masksOf_congr hR1, hRi]
      have ed : doneOf ops R1 (i + 1) = ⟨o, writesOf sg, sg⟩ :: doneOf ops R0 i := by
        simp only [doneOf, hoi, hRi]
        rw [doneOf_congr hR1]
      obtain ⟨R, q1, q2, q3, q4, q5, q6⟩ := IH (i + 1) (putT tm o.dst u) s1 R1 (by omega) hd1 (by rw [em, ed]; exact hrun)
      have eRi : R i = ⟨tm, s.mem, s.ctr, u, sg, maskOf (masksOf R0 i) o⟩ := (q1 i (by omega)).trans hRi
      have eR0 : ∀ j, j < i → R j = R0 j := fun j hj => (q1 j (by omega)).trans (hR1 j hj)
      refine ⟨R, eR0, by rw [eRi], by rw [eRi], by rw [eRi], fun j h1 h2 => ?_, q6⟩
      by_cases hj : j = i
      · subst hj
        refine ⟨o, hturn R eRi q2 q3 q4, ?_, fun j' oj hj' ho' => ?_⟩
        · rw [eRi, masksOf_congr eR0]
        · have := freeOf_spec (R := R0) (by omega) hfree j' oj hj' ho'
          rw [eRi, eR0 j' hj']
          exact this
      · exact q5 j (by omega) h2
    split at h1
    · rename_i hw
      obtain ⟨hf, h2⟩ := gd_run h1
      refine both U [] s hf h2 (fun R e1 e2 e3 e4 => ⟨hoi, hedge, ?_, fun _ => ?_, fun hc => ?_⟩)
      · rw [e1, e2]
      · rw [e1, e3, e4]; exact ⟨rfl, rfl, rfl, rfl⟩
      · rw [e1] at hc
        simp only at hc
        rw [hw] at hc; cases hc
    · rename_i hw
      split at h1
      · exact (fail_run h1).elim
      · rename_i hdn
        obtain ⟨u, s1, h2, h3⟩ := seg_run h1
        obtain ⟨hf, h4⟩ := gd_run h3
        simp only [Bool.and_eq_true] at hf
        refine both u s1.log ⟨s1.mem, s1.ctr, s1.log ++ s.log⟩ hf.2 h4 (fun R e1 e2 e3 e4 => ⟨hoi, hedge, ?_, fun hc => ?_, fun _ => ?_⟩)
        · rw [e1, e2]
        · rw [e1] at hc
          simp only at hc
          rw [hw] at hc; cases hc
        · rw [e1, e3, e4]
          exact ⟨hdn, h2, hf.1⟩
end Go.Ev
