/- TextNumbers: the walk: whatever the numbers, the call returns true and leaves all that was there as it was. -/
import Derived.Test.YtmjbmbmnnephjaaGreatDoorLxKN19
import Derived.Test.YtmjbmbmnnephjaaGreatDoorLxKN11
namespace Go.Proofs.YtmjbmbmnnephjaaGreatDoor
open Go Go.Ev Go.Proofs Go.RowKit Go.Num
/-- A value that holds an address: one as it is, or the only cell of an aggregate. -/
def exV (ag : Bool) (p : Value) : Value := match ag with
  | true => .agg ⟨[p]⟩
  | false => p
def er0 (u : Nat) (ag : Bool) : Value := .iface u (exV ag (.pointer (some ⟨gbase 100, 0, none⟩)))
noncomputable def tabs9 (u : Nat) (ag : Bool) : List Tab := [⟨0, 176, pow10L⟩, ⟨6, 103, [er0 u ag]⟩]
noncomputable def st9 (u : Nat) (ag : Bool) : St := ⟨layTabs (tabs9 u ag), gbase 300, []⟩
theorem exV_VR {ρ : Map} {ag : Bool} {p p' : Value} (h : VR ρ p p') : VR ρ (exV ag p) (exV ag p') := by
  cases ag with
  | true => exact .agg (.cons h .nil)
  | false => exact h
theorem pow10V_L : pow10V = pow10L := pow10L_eq
theorem gb0 : gbase 0 = 1 := rfl
theorem gb6 : gbase 6 = 393217 := by rw [gbase_eq]
theorem gb3 : gbase 300 = 19660801 := by rw [gbase_eq]
theorem lay9 (u : Nat) (ag : Bool) : (st9 u ag).mem = layGlobal 0 176 pow10L (layGlobal 6 103 [er0 u ag] .nil) := by
  simp only [st9, tabs9, layTabs]
theorem pw9 (u : Nat) (ag : Bool) : Pw (st9 u ag).mem (st9 u ag).ctr := by
  have e3 : (st9 u ag).ctr = gbase 300 := by simp only [st9]
  rw [lay9, e3, gb3]
  unfold layGlobal
  simp only [Nat.add_eq, gb0]
  refine ⟨?_, ?_, by omega⟩
  · rw [lay_below _ _ _ _ _ (by omega), Tr.get_set, if_pos rfl, pow10L_len]
  · rw [pow10V_L]
    exact CellsAt.lay _ _ _
theorem er9 (u : Nat) (ag : Bool) (hu : u < 1000000000) : Er (st9 u ag).mem (st9 u ag).ctr := by
  have e3 : (st9 u ag).ctr = gbase 300 := by simp only [st9]
  rw [lay9, e3, gb3]
  have far : ∀ k, 22 ≤ k → (layGlobal 0 176 pow10L (layGlobal 6 103 [er0 u ag] .nil)).get k = (layGlobal 6 103 [er0 u ag] .nil).get k := by
    intro k hk
    rw [layGlobal]
    simp only [Nat.add_eq, gb0]
    rw [lay_below _ _ _ _ _ (by rw [pow10L_len]; omega), Tr.get_set, if_neg (by omega)]
  refine ⟨⟨er0 u ag, ?_, ?_, ?_⟩, by rw [gb6]; omega⟩
  · rw [far _ (by rw [gb6]; omega)]
    unfold layGlobal
    simp only [Nat.add_eq]
    rw [lay_below _ _ _ _ _ (by omega), Tr.get_set, if_pos rfl]
    rfl
  · refine CellsAt.congr (m := layGlobal 6 103 [er0 u ag] .nil) ?_ fun j hj _ => far j (by rw [gb6] at hj; omega)
    exact CellsAt.lay _ _ _
  · have hb : Nat.blt u LF = true := Nat.ble_eq_true_of_le hu
    cases ag with
    | true => exact hb
    | false => exact hb
theorem has9 : ∃ fn c, En.fn.get 9 = some fn ∧ fn.body = some c := by
  have h : (match En.fn.get 9 with | some fn => fn.body.isSome | none => false) = true := by kernel_rfl
  split at h
  · rename_i fn hfn
    obtain ⟨c, hc⟩ := Option.isSome_iff_exists.1 h
    exact ⟨fn, c, hfn, hc⟩
  · cases h
theorem orc9 : En.orc 9 = none := by kernel_rfl
theorem walkN (W : World) (a b : Int) (ha : nul ≤ a ∧ a ≤ 9223372036854775807) (hb : nul ≤ b ∧ b ≤ 9223372036854775807) (u : Nat) (ag : Bool) (a6 : Addr) (hu : u < 1000000000) (hs : a6.spot = none) (hb6 : a6.block < W.heap.size) (c : Array Value)
    (h0 : W.heap[0]? = some (.cells c 176 (0, 0))) (hsz : c.size = 20) (hc : ∀ (i : Nat) (v : Value), pow10L[i]? = some v → c[i]? = some v) (h6 : W.heap[6]? = some (.cells #[.iface u (exV ag (.pointer (some a6)))] 103 (0, 0))) (hgs : Tryz.prog.globals.size ≤ W.heap.size) :
    Calls Tryz.prog 9 #[.int .i64 a, .int .i64 b] W (fun e W' => e = .returned (.bool true) ∧ Below W.heap.size W W') := by
  obtain ⟨b6, o6, sp6⟩ := a6
  obtain rfl : sp6 = none := hs
  have hb6 : b6 < W.heap.size := hb6
  obtain ⟨v, s', rfl, f0, hrun⟩ := law_ok (s := st9 u ag) a b ha hb (pw9 u ag) (er9 u ag hu)
  have hr := hrun f0 (Nat.le_refl _)
  have hpx := map_px4 ⟨b6, o6, 0, 1, []⟩ (fun g => if g = 0 then 20 else 1) (fun g => if g = 0 then 20 else 1) (fun _ => none)
  have hf : ∀ k, (st9 u ag).ctr ≤ k → mapI Tryz.prog.globals.size (fun g => if g = 0 then 20 else 1) (fun g => if g = 0 then 20 else 1) (px4 ⟨b6, o6, 0, 1, []⟩) (fun _ => none) k = none := by
    intro k hk
    have e3 : (st9 u ag).ctr = gbase 300 := by simp only [st9]
    rw [e3] at hk
    have e : mapI Tryz.prog.globals.size (fun g => if g = 0 then 20 else 1) (fun g => if g = 0 then 20 else 1) (px4 ⟨b6, o6, 0, 1, []⟩) (fun _ => none) k = px4 ⟨b6, o6, 0, 1, []⟩ k := mapI_high (gb300 _ k globals8 hk)
    rw [e]
    unfold px4
    rw [if_neg]
    intro h
    have e1 := gbase_eq 300
    have e2 := gbase_eq 100
    omega
  have g8 := gsz8'
  have hMR : MR Tryz.prog (mapI Tryz.prog.globals.size (fun g => if g = 0 then 20 else 1) (fun g => if g = 0 then 20 else 1) (px4 ⟨b6, o6, 0, 1, []⟩) (fun _ => none)) W.heap.size (layTabs (tabs9 u ag)) W := by
    refine MR.tablesX ?_ ?_ hgs ?_ (fun _ _ h => by cases h)
    · intro t ht t' ht' h
      simp only [tabs9, List.mem_cons, List.not_mem_nil, or_false] at ht ht'
      rcases ht with rfl | rfl <;> rcases ht' with rfl | rfl
      · rfl
      · exact absurd h (by decide : ¬ (0 : Nat) = 6)
      · exact absurd h (by decide : ¬ (6 : Nat) = 0)
      · rfl
    · intro t ht
      simp only [tabs9, List.mem_cons, List.not_mem_nil, or_false] at ht
      rcases ht with rfl | rfl
      · refine ⟨by show 0 < _; omega, ⟨c, 0, 0, h0, Nat.le_refl _, fun i h1 h2 => by omega, by rw [hsz]; exact pow10L_len.symm, fun i v hv => ?_⟩, by show 20 = _; exact pow10L_len.symm, sz176⟩
        obtain ⟨n, rfl⟩ := pow10L_int v (List.mem_of_getElem? hv)
        exact ⟨_, hc i _ hv, .int _ _⟩
      · refine ⟨by show 6 < _; omega, ⟨_, 0, 0, h6, Nat.le_refl _, fun i h1 h2 => by omega, rfl, fun i v hv => ?_⟩, rfl, sz103⟩
        cases i with
        | zero =>
          simp only [List.getElem?_cons_zero, Option.some.injEq] at hv
          subst hv
          refine ⟨_, rfl, .iface hu (exV_VR ?_)⟩
          exact VR.ptr (o := 0) hpx
        | succ i => simp at hv
    · intro k y h
      unfold px4 at h
      split at h
      · cases h; exact hb6
      · cases h
  have hm0 : (st9 u ag).mem = layTabs (tabs9 u ag) := by simp only [st9]
  rw [← hm0] at hMR
  generalize st9 u ag = S at hr hMR hf
  refine Calls.mono (ev_calls (B0 := W.heap.size) (w0 := W) (s := S) enOK mixed hr has9 orc9 ⟨hMR, Below.refl _ _, Nat.le_refl _⟩ ⟨fun k h1 _ => hf k h1⟩ mapI_gl (.cons (.int .i64 a) (.cons (.int .i64 b) .nil))) ?_
  rintro e w' ⟨v', ρ', rfl, hv, hw⟩
  cases hv
  exact ⟨rfl, hw.bel⟩
end Go.Proofs.YtmjbmbmnnephjaaGreatDoor
