import Derived.Test.YtpljgnjdlciicaaGreatDoorLxKP45
import Derived.Test.YtpljgnjdlciicaaGreatDoorLxKP40
namespace Go.Proofs.YtpljgnjdlciicaaGreatDoor
open Go Go.Ev Go.Proofs Go.RowKit
def exNo (i : Nat) : Nat := gbase (100 + i)
def exV (ag : Bool) (p : Value) : Value := match ag with
  | true => .agg ⟨[p]⟩
  | false => p
def exC (i : Nat) (u : Nat) (ag : Bool) : Value := .iface u (exV ag (.pointer (some ⟨exNo i, 0, none⟩)))
def tabs (n : Int) (u6 u7 : Nat) (g6 g7 : Bool) : List Tab := [⟨2, 3, [.int .i64 n]⟩, ⟨5, 127, [exC 0 u6 g6]⟩, ⟨6, 127, [exC 1 u7 g7]⟩]
def st0 (n : Int) (u6 u7 : Nat) (g6 g7 : Bool) : St := ⟨layTabs (tabs n u6 u7 g6 g7), gbase 300, []⟩
def px (a6 a7 : Addr) (k : Nat) : Option Blk := if k = exNo 0 then some ⟨a6.block, a6.off, 0, 1, []⟩ else if k = exNo 1 then some ⟨a7.block, a7.off, 0, 1, []⟩ else none
theorem cell_tab (g el : Nat) (v : Value) (m : Tr Slot) : Cell (layGlobal g el [v] m) (gbase g) 0 v := by
  unfold layGlobal
  simp only [Nat.add_eq]
  refine ⟨⟨⟨1, el, true, true, true, 0, false, false, []⟩, ?_⟩, ?_⟩
  · rw [lay_below _ _ _ _ _ (by omega), Tr.get_set, if_pos rfl]
    rfl
  · exact (CellsAt.lay (b := gbase g) [v] (gbase g + 1) _).1
theorem cell_next (g g' el : Nat) (v w : Value) (m : Tr Slot) (h : Cell m (gbase g') 0 w) (hne : gbase g + 2 ≤ gbase g' ∨ gbase g' + 2 ≤ gbase g) : Cell (layGlobal g el [v] m) (gbase g') 0 w := by
  have e : ∀ k, (k = gbase g' ∨ k = gbase g' + 1 + 0) → (layGlobal g el [v] m).get k = m.get k := by
    intro k hk
    unfold layGlobal
    simp only [Nat.add_eq]
    rw [lay_below _ _ _ _ _ (by simp only [List.length_cons, List.length_nil]; omega), Tr.get_set, if_neg (by omega)]
  exact Cell.congr h (e _ (.inl rfl)) (e _ (.inr rfl))
theorem gb2 : gbase 2 = 131073 := by rw [gbase_eq]
theorem gb5 : gbase 5 = 327681 := by rw [gbase_eq]
theorem gb6 : gbase 6 = 393217 := by rw [gbase_eq]
theorem gb3 : gbase 300 = 19660801 := by rw [gbase_eq]
theorem mx0 (n : Int) (u6 u7 : Nat) (g6 g7 : Bool) : MxM (st0 n u6 u7 g6 g7).mem := by
  show MxM (layGlobal 2 3 [.int .i64 n] (layTabs [⟨5, 127, [exC 0 u6 g6]⟩, ⟨6, 127, [exC 1 u7 g7]⟩]))
  unfold layGlobal
  simp only [Nat.add_eq, gb2]
  refine ⟨⟨1, 3, true, true, true, 0, false, false, []⟩, n, ?_, ⟨rfl, rfl, rfl, rfl, rfl⟩, rfl, ?_⟩
  · rw [lay_below _ _ _ _ _ (by omega), Tr.get_set, if_pos rfl]
    rfl
  · exact (CellsAt.lay (b := 131073) [Value.int .i64 n] (131073 + 1) _).1
theorem lib_of {m : Tr Slot} {n : Nat} (h : (∃ t x, Cell m 327681 0 (.iface t x)) ∧ (∃ t x, Cell m 393217 0 (.iface t x)) ∧ 393219 ≤ n) : @Lib ⟨⟨m, n⟩⟩ m n := ⟨h, Nat.le_refl _, fun _ _ => rfl⟩
theorem lib0 (n : Int) (u6 u7 : Nat) (g6 g7 : Bool) : @Lib ⟨⟨(st0 n u6 u7 g6 g7).mem, (st0 n u6 u7 g6 g7).ctr⟩⟩ (st0 n u6 u7 g6 g7).mem (st0 n u6 u7 g6 g7).ctr := by
  have h6 : Cell (layTabs (tabs n u6 u7 g6 g7)) (gbase 5) 0 (exC 0 u6 g6) := cell_next 2 5 3 _ _ _ (cell_tab 5 127 _ _) (by rw [gb5, gb2]; omega)
  have h7 : Cell (layTabs (tabs n u6 u7 g6 g7)) (gbase 6) 0 (exC 1 u7 g7) := cell_next 2 6 3 _ _ _ (cell_next 5 6 127 _ _ _ (cell_tab 6 127 _ _) (by rw [gb6, gb5]; omega)) (by rw [gb6, gb2]; omega)
  rw [gb5] at h6
  rw [gb6] at h7
  have e : 393219 ≤ gbase 300 := by rw [gb3]; omega
  exact lib_of ⟨⟨_, _, h6⟩, ⟨_, _, h7⟩, e⟩
theorem has3 : ∃ fn c, En.fn.get 3 = some fn ∧ fn.body = some c := by
  have h : (match En.fn.get 3 with | some fn => fn.body.isSome | none => false) = true := by kernel_rfl
  split at h
  · rename_i fn hfn
    obtain ⟨c, hc⟩ := Option.isSome_iff_exists.1 h
    exact ⟨fn, c, hfn, hc⟩
  · cases h
theorem el127 : ∃ i, Tryz.prog.info? 127 = some i ∧ i.size = 1 := by
  have h : (Tryz.prog.info? 127).map (·.size) = some 1 := by kernel_rfl
  cases hi : Tryz.prog.info? 127 with
  | none => rw [hi] at h; cases h
  | some i => rw [hi] at h; exact ⟨i, rfl, by simpa using h⟩
theorem gsz : 8 ≤ Tryz.prog.globals.size := of_decide_eq_true (by kernel_rfl)
theorem exNo_inj : exNo 0 ≠ exNo 1 := by
  unfold exNo
  intro h
  exact absurd (gbase_inj h) (by decide)
theorem px0 (a6 a7 : Addr) : px a6 a7 (exNo 0) = some ⟨a6.block, a6.off, 0, 1, []⟩ := by unfold px; rw [if_pos rfl]
theorem px1 (a6 a7 : Addr) : px a6 a7 (exNo 1) = some ⟨a7.block, a7.off, 0, 1, []⟩ := by unfold px; rw [if_neg (fun h => exNo_inj h.symm), if_pos rfl]
theorem map_ex (i : Nat) (N sz : Nat → Nat) (p : Nat → Option Blk) : mapI Tryz.prog.globals.size N sz p (fun _ => none) (exNo i) = p (exNo i) := by
  refine mapI_high ?_
  have h := globals8
  have e1 := gbase_eq Tryz.prog.globals.size
  have e2 := gbase_eq (100 + i)
  unfold exNo
  generalize Tryz.prog.globals.size = ng at *
  omega
theorem exV_VR {ρ : Map} {ag : Bool} {p p' : Value} (h : VR ρ p p') : VR ρ (exV ag p) (exV ag p') := by
  cases ag with
  | true => exact .agg (.cons h .nil)
  | false => exact h
theorem walk (W : World) (s : ByteArray) (n : Int) (u6 u7 : Nat) (g6 g7 : Bool) (a6 a7 : Addr) (hu6 : u6 < 1000000000) (hu7 : u7 < 1000000000) (hs6 : a6.spot = none) (hs7 : a7.spot = none) (hb6 : a6.block < W.heap.size) (hb7 : a7.block < W.heap.size)
    (h2 : W.heap[2]? = some (.cells #[.int .i64 n] 3 (0, 0))) (h6 : W.heap[5]? = some (.cells #[.iface u6 (exV g6 (.pointer (some a6)))] 127 (0, 0))) (h7 : W.heap[6]? = some (.cells #[.iface u7 (exV g7 (.pointer (some a7)))] 127 (0, 0))) (hgs : Tryz.prog.globals.size ≤ W.heap.size) :
    Calls Tryz.prog 3 #[.string s] W (fun e W' => e = .returned (.bool true) ∧ Below W.heap.size W W') := by
  obtain ⟨v, s', rfl, f0, hrun⟩ := parse_ends (st0 n u6 u7 g6 g7) s (mx0 n u6 u7 g6 g7) (lib0 n u6 u7 g6 g7)
  have hr := hrun f0 (Nat.le_refl _)
  obtain ⟨b6, o6, sp6⟩ := a6
  obtain ⟨b7, o7, sp7⟩ := a7
  obtain rfl : sp6 = none := hs6
  obtain rfl : sp7 = none := hs7
  have v6 : VR (mapI Tryz.prog.globals.size (fun _ => 1) (fun _ => 1) (px ⟨b6, o6, none⟩ ⟨b7, o7, none⟩) (fun _ => none)) (exC 0 u6 g6) (.iface u6 (exV g6 (.pointer (some ⟨b6, o6, none⟩)))) :=
    .iface hu6 (exV_VR (VR.ptr (x := ⟨b6, o6, 0, 1, []⟩) (by rw [map_ex]; exact px0 _ _)))
  have v7 : VR (mapI Tryz.prog.globals.size (fun _ => 1) (fun _ => 1) (px ⟨b6, o6, none⟩ ⟨b7, o7, none⟩) (fun _ => none)) (exC 1 u7 g7) (.iface u7 (exV g7 (.pointer (some ⟨b7, o7, none⟩)))) :=
    .iface hu7 (exV_VR (VR.ptr (x := ⟨b7, o7, 0, 1, []⟩) (by rw [map_ex]; exact px1 _ _)))
  refine Calls.mono (ev_calls (B0 := W.heap.size) (w0 := W) enOK mixed hr has3 (by kernel_rfl) (ρ := mapI Tryz.prog.globals.size (fun _ => 1) (fun _ => 1) (px ⟨b6, o6, none⟩ ⟨b7, o7, none⟩) (fun _ => none)) ⟨MR.tables (l := tabs n u6 u7 g6 g7) ?_ ?_ hgs ?_ (fun _ _ h => by cases h), Below.refl _ _, Nat.le_refl _⟩ ⟨fun k h1 _ => ?_⟩ mapI_gl (.cons (.string s) .nil)) ?_
  · intro t ht t' ht' h
    simp only [tabs, List.mem_cons, List.not_mem_nil, or_false] at ht ht'
    rcases ht with rfl | rfl | rfl <;> rcases ht' with rfl | rfl | rfl <;> first
      | rfl
      | exact absurd h (by decide : ¬ (2 : Nat) = 5)
      | exact absurd h (by decide : ¬ (2 : Nat) = 6)
      | exact absurd h (by decide : ¬ (5 : Nat) = 2)
      | exact absurd h (by decide : ¬ (5 : Nat) = 6)
      | exact absurd h (by decide : ¬ (6 : Nat) = 2)
      | exact absurd h (by decide : ¬ (6 : Nat) = 5)
  · intro t ht
    have hg := gsz
    simp only [tabs, List.mem_cons, List.not_mem_nil, or_false] at ht
    rcases ht with rfl | rfl | rfl
    · refine ⟨by show 2 < _; omega, ⟨_, h2, rfl, ?_⟩, rfl, sz3⟩
      intro i v hv
      cases i with
      | zero => simp only [List.getElem?_cons_zero, Option.some.injEq] at hv; subst hv; exact ⟨_, rfl, .int _ _⟩
      | succ i => simp at hv
    · refine ⟨by show 5 < _; omega, ⟨_, h6, rfl, ?_⟩, rfl, el127⟩
      intro i v hv
      cases i with
      | zero => simp only [List.getElem?_cons_zero, Option.some.injEq] at hv; subst hv; exact ⟨_, rfl, v6⟩
      | succ i => simp at hv
    · refine ⟨by show 6 < _; omega, ⟨_, h7, rfl, ?_⟩, rfl, el127⟩
      intro i v hv
      cases i with
      | zero => simp only [List.getElem?_cons_zero, Option.some.injEq] at hv; subst hv; exact ⟨_, rfl, v7⟩
      | succ i => simp at hv
  · intro k x h
    unfold px at h
    split at h
    · cases h; exact hb6
    · split at h
      · cases h; exact hb7
      · cases h
  · have h1 : gbase 300 ≤ k := h1
    have e : mapI Tryz.prog.globals.size (fun _ => 1) (fun _ => 1) (px ⟨b6, o6, none⟩ ⟨b7, o7, none⟩) (fun _ => none) k = px ⟨b6, o6, none⟩ ⟨b7, o7, none⟩ k := mapI_high (gb300 _ k globals8 h1)
    rw [e]
    have e0 : k ≠ exNo 0 := fun h => by
      have := gbase_eq 300
      have := gbase_eq (100 + 0)
      unfold exNo at h
      omega
    have e1 : k ≠ exNo 1 := fun h => by
      have := gbase_eq 300
      have := gbase_eq (100 + 1)
      unfold exNo at h
      omega
    unfold px
    rw [if_neg e0, if_neg e1]
  · rintro e w' ⟨v', ρ', rfl, hv, hw, _⟩
    cases hv
    exact ⟨rfl, hw.bel⟩
end Go.Proofs.YtpljgnjdlciicaaGreatDoor
