/- Oracles: slices.Clone. -/
import Derived.Test.YtpljgnjdlciicaaGreatDoorLyKQ28
import Derived.Laws.AppendOwn
import Derived.OwnWalk
import Derived.Lib.SliceRun
import Derived.Lib.Walk
namespace Go.Proofs.YtpljgnjdlciicaaGreatDoor
open Go Go.Ev Go.Proofs Go.RowKit Go.Lib
set_option maxHeartbeats 2000000 in
set_option maxRecDepth 100000 in
theorem clone207_0 (a : Option Addr) (c : Nat) (w : World) : Calls Tryz.prog 207 #[.slice a 0 c] w fun e w' => (∃ a' c', e = .returned (.slice a' 0 c')) ∧ Below w.heap.size w w' := by
  have t4 := Tryz.underlying4; have a4 := Tryz.isAgg4; have z4 := Tryz.sizeOf4; have v4 := Tryz.zeroValue4
  have t30 := Tryz.underlying30; have a30 := Tryz.isAgg30; have z30 := Tryz.sizeOf30; have v30 := Tryz.zeroValue30
  have t2 := Tryz.underlying2; have a2 := Tryz.isAgg2; have z2 := Tryz.sizeOf2; have v2 := Tryz.zeroValue2
  obtain ⟨i0, hi, hz0, hz1, hz2⟩ := info_parts (P := Tryz.prog) (e := 2) (z := .int .i64 0) (size := 1) (bytes := 8) (by kernel_rfl)
  have q30 : ∀ (w : World) (a : Option Addr) (n c n' c' : Nat), (binOp .eql 30 (.slice a n c) (.slice none n' c')).run Tryz.prog w = .ok (.bool a.isNone) w := fun w a n c n' c' => Lib.run_eql_slice_nil w _ _ a n c n' c' t30
  have u30 : ∀ w, Sem.run Tryz.prog (underlying 30) w = .ok (TypeDesc.slice 2) w := run_underlying t30
  cases a with
  | none =>
    go_enter Tryz.func207, Tryz.ntmps207
    go_wp2
    go_ret
    exact ⟨⟨_, _, rfl⟩, Below.refl _ _⟩
  | some a =>
    go_enter Tryz.func207, Tryz.ntmps207
    go_wp2_with (at_builtin; refine wpList_append_own _ rfl _ _ 30 rfl w.heap.size 2 i0 (.int .i64 0) 1 8 t30 hi hz0 hz1 hz2 rfl (by decide) _ _ _ rfl (World.ownsRow_made w #[] 0 (Nat.le_refl _) (Nat.zero_le _) rfl) a 0 c [] rfl rfl (by intro j u hj; simp at hj) (by intro u hu; cases hu) (by unfold maxLen; omega) (by omega) (by simp) ?_)
    intro v' w1 hown hgrow hnil
    go_wp2
    go_ret
    refine ⟨?_, ((Below.refl _ w).alloc (Nat.le_refl _) _).grown hgrow (by simp) (by intro k hk; simp [Value.ownBlock] at hk; omega)⟩
    rcases hown.2 with ⟨rfl, _⟩ | ⟨g, cap, cur, rfl, _⟩
    · exact ⟨_, _, rfl⟩
    · exact ⟨_, _, rfl⟩
set_option maxHeartbeats 2000000 in
set_option maxRecDepth 100000 in
theorem clone108_0 (a : Option Addr) (c : Nat) (w : World) : Calls Tryz.prog 108 #[.slice a 0 c] w fun e w' => (∃ a' c', e = .returned (.slice a' 0 c')) ∧ Below w.heap.size w w' := by
  have t4 := Tryz.underlying4; have a4 := Tryz.isAgg4; have z4 := Tryz.sizeOf4; have v4 := Tryz.zeroValue4
  have t31 := Tryz.underlying31; have a31 := Tryz.isAgg31; have z31 := Tryz.sizeOf31; have v31 := Tryz.zeroValue31
  have t9 := Tryz.underlying9; have a9 := Tryz.isAgg9; have z9 := Tryz.sizeOf9; have v9 := Tryz.zeroValue9
  obtain ⟨i0, hi, hz0, hz1, hz2⟩ := info_parts (P := Tryz.prog) (e := 9) (z := .string ⟨#[]⟩) (size := 1) (bytes := 16) (by kernel_rfl)
  have q31 : ∀ (w : World) (a : Option Addr) (n c n' c' : Nat), (binOp .eql 31 (.slice a n c) (.slice none n' c')).run Tryz.prog w = .ok (.bool a.isNone) w := fun w a n c n' c' => Lib.run_eql_slice_nil w _ _ a n c n' c' t31
  have u31 : ∀ w, Sem.run Tryz.prog (underlying 31) w = .ok (TypeDesc.slice 9) w := run_underlying t31
  cases a with
  | none =>
    go_enter Tryz.func108, Tryz.ntmps108
    go_wp2
    go_ret
    exact ⟨⟨_, _, rfl⟩, Below.refl _ _⟩
  | some a =>
    go_enter Tryz.func108, Tryz.ntmps108
    go_wp2_with (at_builtin; refine wpList_append_own _ rfl _ _ 31 rfl w.heap.size 9 i0 (.string ⟨#[]⟩) 1 16 t31 hi hz0 hz1 hz2 rfl (by decide) _ _ _ rfl (World.ownsRow_made w #[] 0 (Nat.le_refl _) (Nat.zero_le _) rfl) a 0 c [] rfl rfl (by intro j u hj; simp at hj) (by intro u hu; cases hu) (by unfold maxLen; omega) (by omega) (by simp) ?_)
    intro v' w1 hown hgrow hnil
    go_wp2
    go_ret
    refine ⟨?_, ((Below.refl _ w).alloc (Nat.le_refl _) _).grown hgrow (by simp) (by intro k hk; simp [Value.ownBlock] at hk; omega)⟩
    rcases hown.2 with ⟨rfl, _⟩ | ⟨g, cap, cur, rfl, _⟩
    · exact ⟨_, _, rfl⟩
    · exact ⟨_, _, rfl⟩
set_option maxHeartbeats 2000000 in
set_option maxRecDepth 100000 in
theorem clone208_0 (a : Option Addr) (c : Nat) (w : World) : Calls Tryz.prog 208 #[.slice a 0 c] w fun e w' => (∃ a' c', e = .returned (.slice a' 0 c')) ∧ Below w.heap.size w w' := by
  have t4 := Tryz.underlying4; have a4 := Tryz.isAgg4; have z4 := Tryz.sizeOf4; have v4 := Tryz.zeroValue4
  have t32 := Tryz.underlying32; have a32 := Tryz.isAgg32; have z32 := Tryz.sizeOf32; have v32 := Tryz.zeroValue32
  have t34 := Tryz.underlying34; have a34 := Tryz.isAgg34; have z34 := Tryz.sizeOf34; have v34 := Tryz.zeroValue34
  obtain ⟨i0, hi, hz0, hz1, hz2⟩ := info_parts (P := Tryz.prog) (e := 34) (z := .agg #[.int .i64 0, .slice none 0 0, .slice none 0 0, .slice none 0 0]) (size := 4) (bytes := 80) (by kernel_rfl)
  have q32 : ∀ (w : World) (a : Option Addr) (n c n' c' : Nat), (binOp .eql 32 (.slice a n c) (.slice none n' c')).run Tryz.prog w = .ok (.bool a.isNone) w := fun w a n c n' c' => Lib.run_eql_slice_nil w _ _ a n c n' c' t32
  have u32 : ∀ w, Sem.run Tryz.prog (underlying 32) w = .ok (TypeDesc.slice 34) w := run_underlying t32
  cases a with
  | none =>
    go_enter Tryz.func208, Tryz.ntmps208
    go_wp2
    go_ret
    exact ⟨⟨_, _, rfl⟩, Below.refl _ _⟩
  | some a =>
    go_enter Tryz.func208, Tryz.ntmps208
    go_wp2_with (at_builtin; refine wpList_append_own _ rfl _ _ 32 rfl w.heap.size 34 i0 (.agg #[.int .i64 0, .slice none 0 0, .slice none 0 0, .slice none 0 0]) 4 80 t32 hi hz0 hz1 hz2 rfl (by decide) _ _ _ rfl (World.ownsRow_made w #[] 0 (Nat.le_refl _) (Nat.zero_le _) rfl) a 0 c [] rfl rfl (by intro j u hj; simp at hj) (by intro u hu; cases hu) (by unfold maxLen; omega) (by omega) (by simp) ?_)
    intro v' w1 hown hgrow hnil
    go_wp2
    go_ret
    refine ⟨?_, ((Below.refl _ w).alloc (Nat.le_refl _) _).grown hgrow (by simp) (by intro k hk; simp [Value.ownBlock] at hk; omega)⟩
    rcases hown.2 with ⟨rfl, _⟩ | ⟨g, cap, cur, rfl, _⟩
    · exact ⟨_, _, rfl⟩
    · exact ⟨_, _, rfl⟩
/-- An empty list, whatever stands for it. -/
theorem lst_nil {ρ : Map} {v : Value} (h : VR ρ (lstV []) v) : ∃ a c, v = .slice a 0 c := by
  generalize hx : lstV [] = x at h
  cases h with
  | iface h1 _ => cases hx; exact absurd h1 (by decide)
  | lst a b c d e => cases hx; exact ⟨_, _, rfl⟩
  | lst0 => exact ⟨_, _, rfl⟩
  | _ => cases hx
theorem orc_clone {g : Nat} (h0 : ∀ (a : Option Addr) (c : Nat) (w : World), Calls Tryz.prog g #[.slice a 0 c] w fun e w' => (∃ a' c', e = .returned (.slice a' 0 c')) ∧ Below w.heap.size w w')
    (hf : ∃ fn c, EnL.fn.get g = some fn ∧ fn.body = some c) (horc : EnL.orc g = none) : OrcOK Tryz.prog g (cloneP g) := by
  intro B0 w0 w ρ s s' v args args' h rr fr gl ha
  unfold cloneP at h
  split at h
  · rename_i t
    obtain ⟨hb, hret⟩ := gd_run h
    obtain ⟨rfl, rfl⟩ := ret_run hret
    have ht := Nat.eq_of_beq_eq_true hb
    subst ht
    cases ha with
    | cons p q =>
      cases q
      obtain ⟨a, c, rfl⟩ := lst_nil p
      refine Calls.mono (h0 a c w) ?_
      rintro e w' ⟨⟨a', c', rfl⟩, hb⟩
      have hB : B0 ≤ w.heap.size := Nat.le_trans rr.hB rr.bel.size
      exact ⟨ρ, _, rfl, Gr.refl _ _ _, .lst0, rr.mr.belowO hb, rr.bel.trans (hb.mono hB), rr.hB⟩
  · refine Calls.mono (ev_calls enLOK mixed h hf horc rr fr gl ha) ?_
    rintro e w' ⟨v', ρ', rfl, hv, hw, hg⟩
    exact ⟨ρ', v', rfl, hg, hv, hw⟩
theorem hasB {E : Env} {f : Nat} (h : (match E.fn.get f with | some fn => fn.body.isSome | none => false) = true) : ∃ fn c, E.fn.get f = some fn ∧ fn.body = some c := by
  split at h
  · rename_i fn hfn
    obtain ⟨c, hc⟩ := Option.isSome_iff_exists.1 h
    exact ⟨fn, c, hfn, hc⟩
  · cases h
theorem orc207 : OrcOK Tryz.prog 207 (cloneP 207) := orc_clone clone207_0 (hasB (by kernel_rfl)) (by kernel_rfl)
theorem orc108 : OrcOK Tryz.prog 108 (cloneP 108) := orc_clone clone108_0 (hasB (by kernel_rfl)) (by kernel_rfl)
theorem orc208 : OrcOK Tryz.prog 208 (cloneP 208) := orc_clone clone208_0 (hasB (by kernel_rfl)) (by kernel_rfl)
end Go.Proofs.YtpljgnjdlciicaaGreatDoor
