/- QuerySplits: the walk: whatever the text, the call returns true and leaves all that was there as it was. -/
import Derived.Test.YtpljgnjdlciicaaGreatDoorLyKQ40
import Derived.Test.YtpljgnjdlciicaaGreatDoorLyKQ24
namespace Go.Proofs.YtpljgnjdlciicaaGreatDoor
open Go Go.Ev Go.Proofs Go.RowKit
theorem gb0 : gbase 0 = 1 := rfl
theorem gb2 : gbase 2 = 131073 := by rw [gbase_eq]
theorem gb3 : gbase 11 = 720897 := by rw [gbase_eq]
theorem isTab_map (k : IntKind) : ∀ (zs : List Int), isTab k zs (zs.map fun z => Value.int k z) = true
  | [] => rfl
  | z :: zs => by simp [isTab, isTab_map k zs]
theorem f9_or (ih : Rec) : callF En ih 9 [] = tabQ 2 1 3 fun vs => match vs with
    | [.int .i64 _] => tabQ 0 256 142 fun es => Ev.gd (isTab .u8 spaceTab es) (.ret (.bool true))
    | _ => .fail := by kernel_rfl
theorem lay9 (n : Int) : (liveSt n).mem = layGlobal 2 3 [.int .i64 n] (layGlobal 0 142 spaceL .nil) := by
  simp only [liveSt, liveTabs, layTabs]
theorem live_ok (n : Int) (s : St) (F : Fresh (liveSt n) s) : Ok (fun f => callF En (runP En f) 9 []) s (fun v _ => v = .bool true) := by
  have e3 : (liveSt n).ctr = 720897 := by simp only [liveSt]; exact gb3
  have low : ∀ k, k < 720897 → s.mem.get k = (layGlobal 2 3 [.int .i64 n] (layGlobal 0 142 spaceL .nil)).get k := fun k hk => by
    rw [F.2 k (by rw [e3]; exact hk), lay9]
  have h2 : s.mem.get (gbase 2) = some (.hdr ⟨1, 3, true, true, true, 0, false, false, []⟩) ∧ CellsAt s.mem (gbase 2) (gbase 2 + 1) [.int .i64 n] := by
    rw [gb2]
    refine ⟨?_, CellsAt.congr (m := layGlobal 2 3 [.int .i64 n] (layGlobal 0 142 spaceL .nil)) ?_ fun j _ hj => low j (by simp at hj; omega)⟩
    · rw [low _ (by omega)]
      unfold layGlobal
      simp only [Nat.add_eq, gb2]
      rw [lay_below _ _ _ _ _ (by omega), Tr.get_set, if_pos rfl]
      rfl
    · unfold layGlobal
      simp only [Nat.add_eq, gb2]
      exact CellsAt.lay _ _ _
  have h0 : s.mem.get (gbase 0) = some (.hdr ⟨256, 142, true, true, true, 0, false, false, []⟩) ∧ CellsAt s.mem (gbase 0) (gbase 0 + 1) spaceL := by
    have far : ∀ k, k < 300 → s.mem.get k = (layGlobal 0 142 spaceL .nil).get k := fun k hk => by
      rw [low k (by omega), layGlobal]
      simp only [Nat.add_eq, gb2]
      rw [lay_below _ _ _ _ _ (by omega), Tr.get_set, if_neg (by omega)]
    rw [gb0]
    refine ⟨?_, CellsAt.congr (m := layGlobal 0 142 spaceL .nil) ?_ fun j _ hj => far j (by rw [spaceL_len] at hj; omega)⟩
    · rw [far _ (by omega)]
      unfold layGlobal
      simp only [Nat.add_eq, gb0]
      rw [lay_below _ _ _ _ _ (by omega), Tr.get_set, if_pos rfl, spaceL_len]
    · unfold layGlobal
      simp only [Nat.add_eq, gb0]
      exact CellsAt.lay _ _ _
  obtain ⟨m, c, l⟩ := s
  simp only at h2 h0
  have r2 : rdCells m (gbase 2) 1 0 = some [.int .i64 n] := CellsAt.rd (vs := [.int .i64 n]) (o := 0) h2.2
  have r0 : rdCells m (gbase 0) 256 0 = some spaceL := by
    have := CellsAt.rd (vs := spaceL) (o := 0) (by simpa using h0.2)
    rw [spaceL_len] at this
    exact this
  have ht : isTab .u8 spaceTab spaceL = true := by rw [← spaceL_eq]; exact isTab_map _ _
  simp only [f9_or]
  refine ⟨.bool true, ⟨m, c, ⟨false, Nat.add (Nat.add (gbase 0) 1) 0, 256⟩ :: ⟨false, gbase 0, 1⟩ :: ⟨false, gbase 0, 1⟩ :: ⟨false, Nat.add (Nat.add (gbase 2) 1) 0, 1⟩ :: ⟨false, gbase 2, 1⟩ :: ⟨false, gbase 2, 1⟩ :: l⟩, rfl, 0, fun f _ => ?_⟩
  simp only [tabQ, gd, Prog.run, St.hd, St.rd, h2.1, h0.1, r2, r0, Nat.beq_refl, Bool.and_self, Bool.not_false, ht]
theorem gsz : 8 ≤ Tryz.prog.globals.size := of_decide_eq_true (by kernel_rfl)
theorem walk (W : World) (s : ByteArray) (n : Int) (c0 : Array Value) (h2 : W.heap[2]? = some (.cells #[.int .i64 n] 3 (0, 0))) (h0 : W.heap[0]? = some (.cells c0 142 (0, 0))) (hsz : c0.size = 256) (hc : ∀ (i : Nat) (v : Value), spaceL[i]? = some v → c0[i]? = some v) (hgs : Tryz.prog.globals.size ≤ W.heap.size) :
    Calls Tryz.prog 5 #[.string s] W (fun e W' => e = .returned (.bool true) ∧ Below W.heap.size W W') := by
  obtain ⟨v, s', rfl, f0, hrun⟩ := law_ok (liveSt n) s (live_ok n)
  have hr := hrun f0 (Nat.le_refl _)
  have hMR := mr9 n h2 (Nat.le_refl _) (fun i a b => by omega) rfl rfl h0 (Nat.le_refl _) (fun i a b => by omega) hsz hc hgs (ls := fun _ => none) (fun _ _ e => by cases e)
  have hf : ∀ k, (liveSt n).ctr ≤ k → mapI Tryz.prog.globals.size nS nS (fun _ => none) (fun _ => none) k = none := fun k hk => hf9 (by rw [ctr_live] at hk; exact hk)
  have hm0 : (liveSt n).mem = layTabs (liveTabs n) := by simp only [liveSt]
  rw [← hm0] at hMR
  clear hm0
  generalize liveSt n = S at hr hMR hf
  refine Calls.mono (ev_calls (B0 := W.heap.size) (w0 := W) (s := S) enOK mixed hr (hasB (by kernel_rfl)) (by kernel_rfl) ⟨hMR, Below.refl _ _, Nat.le_refl _⟩ ⟨fun k h1 _ => hf k h1⟩ mapI_gl (.cons (.string s) .nil)) ?_
  rintro e w' ⟨v', ρ', rfl, hv, hw, _⟩
  cases hv
  exact ⟨rfl, hw.bel⟩
end Go.Proofs.YtpljgnjdlciicaaGreatDoor
