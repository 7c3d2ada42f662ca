/- Soundness, part 25: from the evaluator's answer to a contract on a call; the memory when the call begins. -/
import Derived.Test.YtcabdlonefichaaGreatDoorEvS24
namespace Go.Ev
open Go Go.RowKit
section
variable {P : Program} {E : Env} {B0 : Nat} {w0 : World}
theorem ev_calls (ok : EnvOK P E) (mixed : P.follows .mixedOrders = true) {n f : Nat} {args args' : List Value} {s s' : St} {v : Value} (h : (callF E (runP E n) f args).run s = some (v, s')) (hb : ∃ fn c, E.fn.get f = some fn ∧ fn.body = some c)
    {ρ : Map} {w : World} (r : WR P ρ B0 w0 s.mem w) (fresh : Fr ρ s.mem s.ctr s'.ctr) (gl : GlOK P ρ) (ha : VRs ρ args args') :
    Calls P f ⟨args'⟩ w (fun e w' => ∃ v' ρ', e = .returned v' ∧ VR ρ' v v' ∧ WR P ρ' B0 w0 s'.mem w') := by
  intro cs
  obtain ⟨fn, c, hf, hb⟩ := hb
  unfold callF at h
  rw [hf] at h
  simp only [opt, hb] at h
  obtain ⟨hlen, h2⟩ := gd_run h
  have hlen := Nat.le_of_ble_eq_true hlen
  have hPf := ok.fn f fn hf
  let b : Frame := { (default : Frame) with fn := f, kind := .normal }
  let a : Act := { tmps := (⟨args'⟩ : Array Value) ++ Array.replicate (fn.ntmps - (⟨args'⟩ : Array Value).size) undef, defers := [] }
  have henter : Frame.enter P f ⟨args'⟩ .normal = b.atR a [.code c] := by
    simp [Frame.enter, Frame.atR, hPf, hb, b, a]
    rfl
  obtain ⟨ρ', w', v', g1, g2, g3, g4⟩ := main_ok (B0 := B0) (w0 := w0) ok mixed n f ⟨fn.ntmps, argsT args 0⟩ [.code c] [] none s v s' h2 (by simp [okItem, ok.code f fn c hf hb]) ρ w b a cs
    ⟨rfl, TR.enter ha hlen, .nil, trivial, fun q => absurd rfl q, by simp [b]⟩ r fresh gl
  obtain ⟨fr', e1, e2, e3, e4, e5, fn', e6, e7⟩ := (show ∃ fr', Steps P (lone (b.atR a [.code c]) cs w) (lone fr' cs w') ∧ fr'.fn = b.fn ∧ fr'.kind = b.kind ∧ fr'.mode = .returning ∧ fr'.defers = [] ∧
    ∃ f, P.funcs[b.fn]? = some f ∧ (results f fr'.tmps).run P w' = .ok v' w' from g4)
  refine ⟨.returned v', w', fr', ⟨v', ρ', rfl, g2, g3⟩, ?_, e2, e4, e5, e3, fn', by rw [e2]; exact e6, e7⟩
  rw [henter]
  exact e1
/-- The closed form: the evaluator answers 'true'. -/
theorem ev_true (ok : EnvOK P E) (mixed : P.follows .mixedOrders = true) {n f : Nat} {args args' : List Value} {s : St} (h : isTrue ((callF E (runP E n) f args).run s) = true) (hb : ∃ fn c, E.fn.get f = some fn ∧ fn.body = some c)
    {ρ : Map} {w : World} (r : MR P ρ w.heap.size s.mem w) (fresh : ∀ k, s.ctr ≤ k → k < 1000000000 → ρ k = none) (gl : GlOK P ρ) (ha : VRs ρ args args') :
    Calls P f ⟨args'⟩ w (fun e w' => e = .returned (.bool true) ∧ Below w.heap.size w w') := by
  unfold isTrue at h
  split at h
  · rename_i s' hr
    have hlt : s'.ctr < 1000000000 := Nat.le_of_ble_eq_true h
    refine Calls.mono (ev_calls (B0 := w.heap.size) (w0 := w) ok mixed hr hb ⟨r, Below.refl _ _, Nat.le_refl _⟩ ⟨fun k h1 h2 => fresh k h1 (by omega)⟩ gl ha) ?_
    rintro e w' ⟨v', ρ', rfl, hv, hw⟩
    cases hv
    exact ⟨rfl, hw.bel⟩
  · cases h
/-- Where the package-level variables, and one argument's block, lie. -/
def mapG (ng : Nat) (N sz : Nat → Nat) (A : Nat) (arg : Option Blk) : Map := fun k =>
  if k = A then arg else if gbase 0 ≤ k ∧ (k - gbase 0) % 1048576 = 0 ∧ (k - gbase 0) / 1048576 < ng then some ⟨(k - gbase 0) / 1048576, 0, N ((k - gbase 0) / 1048576), sz ((k - gbase 0) / 1048576)⟩ else none
theorem gbase_eq (g : Nat) : gbase g = 1099511627776 + g * 1048576 := by simp [gbase]
theorem mapG_at {ng : Nat} {N sz : Nat → Nat} {A : Nat} {arg : Option Blk} {g : Nat} (h : g < ng) (hA : gbase g ≠ A) : mapG ng N sz A arg (gbase g) = some ⟨g, 0, N g, sz g⟩ := by
  have h0 : gbase g - gbase 0 = g * 1048576 := by rw [gbase_eq, gbase_eq]; omega
  have h1 : (g * 1048576) / 1048576 = g := Nat.mul_div_cancel _ (by omega)
  have h2 : (g * 1048576) % 1048576 = 0 := Nat.mul_mod_left _ _
  have h3 : gbase 0 ≤ gbase g := by rw [gbase_eq, gbase_eq]; omega
  unfold mapG
  rw [if_neg hA, h0, h1, h2, if_pos ⟨h3, rfl, h⟩]
theorem mapG_low {ng : Nat} {N sz : Nat → Nat} {A : Nat} {arg : Option Blk} {k : Nat} (h : k < 1000000000) (hA : 1000000000 ≤ A) : mapG ng N sz A arg k = none := by
  unfold mapG
  rw [if_neg (by omega), if_neg]
  rintro ⟨h1, _⟩
  rw [gbase_eq] at h1
  omega
theorem mapG_arg {ng : Nat} {N sz : Nat → Nat} {A : Nat} {arg : Option Blk} : mapG ng N sz A arg A = arg := if_pos rfl
theorem mapG_gl {N sz : Nat → Nat} {A : Nat} {arg : Option Blk} (hA : ∀ g, g < P.globals.size → gbase g ≠ A) : GlOK P (mapG P.globals.size N sz A arg) :=
  fun g hg => ⟨_, mapG_at hg (hA g hg), rfl, rfl⟩
/-- One table of numbers, laid. -/
theorem MR.table {N sz : Nat → Nat} {A : Nat} {arg : Option Blk} {w : World} {g el : Nat} {cells : List Value} {c : Array Value} (hg : g < P.globals.size) (hA : gbase g ≠ A)
    (hheap : w.heap[g]? = some (.cells c el (0, 0))) (hsz : c.size = cells.length) (hN : N g = cells.length) (hel : ∃ i, P.info? el = some i ∧ i.size = sz g) (hlit : cells.all lit = true) (hc : ∀ (i : Nat) (v : Value), cells[i]? = some v → c[i]? = some v)
    (hgs : P.globals.size ≤ w.heap.size) (harg : ∀ x, arg = some x → x.B < w.heap.size) : MR P (mapG P.globals.size N sz A arg) w.heap.size (layGlobal g el cells .nil) w := by
  have hat : mapG P.globals.size N sz A arg (gbase g) = some ⟨g, 0, N g, sz g⟩ := mapG_at hg hA
  have hget : ∀ k s, (layGlobal g el cells .nil).get k = some s → (k = gbase g ∧ s = .hdr ⟨cells.length, el, true, true, true, 0, false, false, []⟩) ∨ (∃ v, s = .cell (gbase g) v ∧ gbase g + 1 ≤ k ∧ cells[k - (gbase g + 1)]? = some v) := by
    intro k s e
    unfold layGlobal at e
    simp only [Nat.add_eq] at e
    rw [layCells_get] at e
    split at e
    · rename_i hin
      cases hv : cells[k - (gbase g + 1)]? with
      | none => rw [hv] at e; cases e
      | some v => rw [hv] at e; exact .inr ⟨v, (Option.some.inj e).symm, hin.1, rfl⟩
    · rw [Tr.get_set] at e
      split at e
      · rename_i hk; exact .inl ⟨hk, (Option.some.inj e).symm⟩
      · rw [Tr.get_nil] at e; cases e
  have hhdr : ∀ k hd, (layGlobal g el cells .nil).get k = some (.hdr hd) → k = gbase g ∧ hd = ⟨cells.length, el, true, true, true, 0, false, false, []⟩ := by
    intro k hd e
    rcases hget k _ e with ⟨h1, h2⟩ | ⟨v, h, _⟩
    · exact ⟨h1, by simpa using h2⟩
    · cases h
  have hnobj : ∀ k o, (layGlobal g el cells .nil).get k = some o → o.isObj = true → False := by
    intro k o e hi
    rcases hget k _ e with ⟨_, h⟩ | ⟨v, h, _⟩ <;> subst h <;> simp [Slot.isObj] at hi
  constructor
  · intro k hd e
    obtain ⟨rfl, rfl⟩ := hhdr k hd e
    exact ⟨_, c, 0, 0, hat, hheap, (by rw [hsz, hN]), hel, (by simp [hN]), fun _ => (by simp [hN]), fun _ => rfl, fun h => (by cases h), Nat.le_refl _, fun _ i h1 h2 => (by omega), fun _ _ i h1 h2 => (by omega), (by simp)⟩
  · intro k hd o v e e'
    obtain ⟨rfl, rfl⟩ := hhdr k hd e
    rcases hget _ _ e' with ⟨h1, _⟩ | ⟨u, h1, h2, h3⟩
    · omega
    · obtain rfl : v = u := by simpa using h1
      rw [show gbase g + 1 + o - (gbase g + 1) = o from by omega] at h3
      refine ⟨(List.getElem?_eq_some_iff.1 h3).1, _, v, hat, ?_, lit_VR (List.all_eq_true.1 hlit v (List.mem_of_getElem? h3)) _⟩
      rw [cell_of hheap]
      simpa using hc o v h3
  · intro k hd k2 hd2 x x2 e e2 hne
    exact absurd ((hhdr _ _ e).1.trans (hhdr _ _ e2).1.symm) hne
  · intro k hd k2 hd2 e hm
    obtain ⟨rfl, rfl⟩ := hhdr k hd e
    simp at hm
  · intro k o e hi; exact (hnobj k o e hi).elim
  · intro k o k2 o2 x x2 e hi; exact (hnobj k o e hi).elim
  · intro j b v e
    rcases hget _ _ e with ⟨_, h⟩ | ⟨u, h, _⟩
    · cases h
    · obtain ⟨rfl, rfl⟩ : b = gbase g ∧ v = u := by simpa using h
      exact ⟨_, hat⟩
  · intro k hd b2 e hm
    obtain ⟨rfl, rfl⟩ := hhdr k hd e
    simp at hm
  · intro k x e
    unfold mapG at e
    split at e
    · exact harg x e
    · split at e
      · rename_i h
        simp only [Option.some.injEq] at e
        subst e
        exact Nat.lt_of_lt_of_le h.2.2 hgs
      · cases e
end
end Go.Ev
