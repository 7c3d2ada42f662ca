/- Soundness, part 15: temporaries; calls. -/
import Derived.Test.YtcabdlonefichaaGreatDoorEvS14
namespace Go.Ev
open Go Go.RowKit
section
variable {P : Program} {E : Env} {ρ : Map} {B0 : Nat} {w0 w : World}

theorem TR.put {tm : Tm} {a : Act} (h : TR ρ tm a.tmps) (d : Option Nat) {v v' : Value} (hv : VR ρ v v') : TR ρ (putT tm d v) (a.put d v').tmps := by
  cases d with
  | none => exact h
  | some d =>
    obtain ⟨hs, hg⟩ := h
    obtain ⟨nt, t⟩ := tm
    simp only [putT, Tm.set, Act.put]
    simp only at hs
    split
    · rename_i hlt
      have hlt : d < nt := Nat.le_of_ble_eq_true hlt
      refine ⟨by simp [hs], fun i => ?_⟩
      have := hg i
      simp only [Tm.get, Tr.get_set, Array.getD_eq_getD_getElem?] at this ⊢
      by_cases hi : i = d
      · subst hi
        rw [if_pos rfl, Array.getElem?_setIfInBounds_self, if_pos (by omega)]
        exact hv
      · rw [if_neg hi, Array.getElem?_setIfInBounds_ne (fun e => hi e.symm)]
        exact this
    · rename_i hlt
      have hlt : ¬ (d < nt) := fun e => by
        have := Nat.ble_eq_true_of_le (show d + 1 ≤ nt from e)
        rw [show Nat.blt d nt = Nat.ble (d + 1) nt from rfl, this] at hlt; cases hlt
      refine ⟨by simp [hs], fun i => ?_⟩
      have := hg i
      rw [Array.setIfInBounds_eq_of_size_le (by omega)]
      exact this
theorem argsT_get : ∀ (l : List Value) (k j : Nat), (argsT l k).get j = if k ≤ j then l[j - k]? else none := by
  intro l
  induction l with
  | nil => intro k j; simp [argsT, Tr.get_nil]
  | cons v l ih =>
    intro k j
    rw [argsT, Tr.get_set, ih]
    by_cases hj : j = k
    · subst hj; simp
    · rw [if_neg hj]
      simp only [Nat.add_eq]
      by_cases hk : k ≤ j
      · rw [if_pos (by omega), if_pos hk, show j - k = (j - (k + 1)) + 1 from by omega]
        rfl
      · rw [if_neg (by omega), if_neg hk]
theorem TR.enter {args args' : List Value} (h : VRs ρ args args') {n : Nat} (hn : args.length ≤ n) : TR ρ ⟨n, argsT args 0⟩ ((⟨args'⟩ : Array Value) ++ Array.replicate (n - (⟨args'⟩ : Array Value).size) undef) := by
  have hl := h.length
  refine ⟨by simp; omega, fun i => ?_⟩
  simp only [Tm.get, argsT_get, Nat.zero_le, if_true, Nat.sub_zero, Array.getD_eq_getD_getElem?]
  cases ha : args[i]? with
  | some v =>
    obtain ⟨v', e1, e2⟩ := h.get ha
    have hlt : i < args'.length := (List.getElem?_eq_some_iff.1 e1).1
    have : ((⟨args'⟩ : Array Value) ++ Array.replicate (n - (⟨args'⟩ : Array Value).size) undef)[i]? = some v' := by
      rw [Array.getElem?_append_left (by simpa using hlt)]
      simpa using e1
    rw [this]
    exact e2
  | none =>
    have hge : args'.length ≤ i := by
      have := List.getElem?_eq_none_iff.1 ha
      omega
    have : (((⟨args'⟩ : Array Value) ++ Array.replicate (n - (⟨args'⟩ : Array Value).size) undef)[i]?).getD undef = undef := by
      rw [Array.getElem?_append_right (by simpa using hge), Array.getElem?_replicate]
      split <;> rfl
    rw [this]
    exact U_VR ρ
theorem wanted_ok {ops : Array Oper} {tm : Tm} {a : Act} (h : TR ρ tm a.tmps) (o : Oper) : Region.wanted o (yielded ops a.tmps) = wantedA ops.toList tm o := by
  unfold Region.wanted wantedA
  cases o.guard with
  | none => rfl
  | some g =>
    obtain ⟨j, want⟩ := g
    simp only [yielded]
    have e : ops.toList[j]? = ops[j]? := by simp
    rw [e]
    cases ops[j]? with
    | none => rfl
    | some oj =>
      simp only [Option.bind_some]
      cases oj.dst with
      | none => rfl
      | some d =>
        simp only [Option.bind_some]
        have hd := h.2 d
        rw [Array.getD_eq_getD_getElem?] at hd
        cases hx : a.tmps[d]? with
        | none =>
          rw [hx] at hd
          simp only [Option.getD_none] at hd
          generalize tm.get d = u at hd
          cases hd
          rfl
        | some u =>
          rw [hx] at hd
          simp only [Option.getD_some] at hd
          generalize tm.get d = u0 at hd
          cases hd <;> first | rfl | (rename_i b; cases b <;> cases want <;> rfl)
end
end Go.Ev
