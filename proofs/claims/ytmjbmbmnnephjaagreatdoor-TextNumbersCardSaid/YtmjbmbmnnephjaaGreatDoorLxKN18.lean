/- Oracles by the library's contracts: strconv.FormatInt, strconv.FormatUint, strconv.ParseInt at base 10. -/
import Derived.Test.YtmjbmbmnnephjaaGreatDoorLxKN17
namespace Go.Proofs.YtmjbmbmnnephjaaGreatDoor
open Go Go.Ev Go.Proofs Go.Shelf Go.RowKit Go.Sort Go.Lib
theorem lays246 : LaysM.n246 Tryz.prog lays173_ren := { lays173 with }
theorem wrapU0 (n : Int) : IntKind.u64.wrap n = n % 18446744073709551616 := by simp [IntKind.wrap, IntKind.bits, IntKind.signed]
set_option maxHeartbeats 6400000 in
set_option maxRecDepth 100000 in
/-- internal/strconv.FormatUint at base 10. -/
theorem formatUint_10 (u : Nat) (hu64 : u < 18446744073709551616) (w : World)
    (htab : Lib.TabIs Tryz.prog w "internal/strconv.uint64pow10" .u64 Lib.pow10Tab) :
    Calls Tryz.prog 111 #[.int .u64 u, .int .i64 10] w fun e w' => e = .returned (.string ⟨(Lib.decDigits u).toArray⟩) ∧ ∃ k os, w' = grow (w.drewN k) os := by
  have L := lays246
  have mixed := L.mixed
  have t2 := Tryz.underlying2; have a2 := Tryz.isAgg2; have z2 := Tryz.sizeOf2; have v2 := Tryz.zeroValue2
  have t3 := Tryz.underlying3; have a3 := Tryz.isAgg3; have z3 := Tryz.sizeOf3; have v3 := Tryz.zeroValue3
  have t9 := Tryz.underlying9; have a9 := Tryz.isAgg9; have z9 := Tryz.sizeOf9; have v9 := Tryz.zeroValue9
  have t4 := Tryz.underlying4; have a4 := Tryz.isAgg4; have z4 := Tryz.sizeOf4; have v4 := Tryz.zeroValue4
  have t146 := Tryz.underlying146; have a146 := Tryz.isAgg146; have z146 := Tryz.sizeOf146; have v146 := Tryz.zeroValue146
  have t0 := Tryz.underlying0; have a0 := Tryz.isAgg0; have z0 := Tryz.sizeOf0; have v0 := Tryz.zeroValue0
  have t91 := Tryz.underlying91; have a91 := Tryz.isAgg91; have z91 := Tryz.sizeOf91; have v91 := Tryz.zeroValue91
  have t65 := Tryz.underlying65; have a65 := Tryz.isAgg65; have z65 := Tryz.sizeOf65; have v65 := Tryz.zeroValue65
  have t5 := Tryz.underlying5; have a5 := Tryz.isAgg5; have z5 := Tryz.sizeOf5; have v5 := Tryz.zeroValue5
  have t149 := Tryz.underlying149; have a149 := Tryz.isAgg149; have z149 := Tryz.sizeOf149; have v149 := Tryz.zeroValue149
  have e283 : ∀ args w, (callFunc 167 args).run Tryz.prog w = .ok (.enter 167 args) w := enters_of Tryz.func167 (by kernel_rfl) rfl
  have e284 : ∀ args w, (callFunc 168 args).run Tryz.prog w = .ok (.enter 168 args) w := enters_of Tryz.func168 (by kernel_rfl) rfl
  have e285 : ∀ args w, (callFunc 169 args).run Tryz.prog w = .ok (.enter 169 args) w := enters_of Tryz.func169 (by kernel_rfl) rfl
  by_cases hs : u < 100
  · go_enter Tryz.func111, Tryz.ntmps111
    have hS := Any.internal_strconv_small (ρ := lays173_ren) { L with } u hs
    have hS : ∀ w, Calls Tryz.prog 167 #[.int .i64 u] w fun e w' => e = .returned (.string ⟨(Lib.decDigits u).toArray⟩) ∧ w' = w := hS
    go_wp2_with (go_at_fn 167; refine (hS _).mono ?_; rintro e w' ⟨rfl, rfl⟩)
    go_ret
    exact ⟨rfl, 0, #[], by simp [World.drewN_zero]⟩
  · have hu1 : 1 ≤ u := by omega
    have hnd20 : Lib.nDigits u ≤ 20 := by have := Lib.numDigits_eq u hu1 hu64; split at this <;> omega
    have hb3 : Lib.nDigits u ≤ 24 := by omega
    have hal : Tryz.prog.arrayLen 146 = 24 := by simp [Program.arrayLen, t146]
    have hsl1 : ∀ W, (Instr.sliceAt 146 (.pointer (some ⟨w.heap.size, 0, none⟩)) none (some (.int .i64 (Lib.nDigits u : Int))) none).run Tryz.prog W = .ok (.slice (some ⟨w.heap.size, 0, none⟩) (Lib.nDigits u) 24) W := fun W => by
      rw [run_sliceAt_array_h W 146 ⟨w.heap.size, 0, none⟩ (by simp [Program.arrayLen, Program.elem, t146]) .i64 (Lib.nDigits u : Int) (by omega) (by rw [hal]; omega)]
      go_simp
    have hH0 := Lib.holds_zero0 w 146 (Lib.nDigits u) (by omega)
    have hfmt := Any.internal_strconv_formatBase10 (ρ := lays173_ren) { L with } w.heap.size 0 24 u (Array.replicate (Lib.nDigits u) 0) (w.alloc (.cells Lib.zeros24 146)) hH0 (by rw [Array.size_replicate]; exact Lib.lt_pow_nDigits u) hu64 (by rw [Array.size_replicate]; omega)
    rw [Array.size_replicate] at hfmt
    have HH0 := Lib.hid hH0
    clear hH0 hal
    have hN := fun W (h : Lib.TabIs Tryz.prog W "internal/strconv.uint64pow10" .u64 Lib.pow10Tab) => Any.internal_strconv_numDigits (ρ := lays173_ren) { L with } u hu1 hu64 W h
    have hN : ∀ W, Lib.TabIs Tryz.prog W "internal/strconv.uint64pow10" .u64 Lib.pow10Tab → Calls Tryz.prog 168 #[.int .u64 u] W fun e w' => e = .returned (.int .i64 (Lib.nDigits u : Int)) ∧ w' = W := hN
    go_enter Tryz.func111, Tryz.ntmps111
    go_wp2_with (first
      | (go_at_fn 168; refine (hN _ (Lib.tabIs_alloc htab _)).mono ?_; rintro e w' ⟨rfl, rfl⟩))
    go_at_fn 169
    refine hfmt.mono ?_
    rintro e w' ⟨rfl, k, v', dk, rfl, hF⟩
    have hcv : (convert 65 9 (.slice (some ⟨w.heap.size, 0, none⟩) (Lib.nDigits u) 24)).run Tryz.prog ((putRow (fun (b : UInt8) => Value.int .u8 (b.toNat : Int)) (w.alloc (.cells Lib.zeros24 146)) w.heap.size 0 dk).drewN k) = .ok (.string ⟨(Lib.decDigits u).toArray⟩) ((putRow (fun (b : UInt8) => Value.int .u8 (b.toNat : Int)) (w.alloc (.cells Lib.zeros24 146)) w.heap.size 0 dk).drewN k) := by
      have h := run_convert_bytes_back (P := Tryz.prog) ((putRow (fun (b : UInt8) => Value.int .u8 (b.toNat : Int)) (w.alloc (.cells Lib.zeros24 146)) w.heap.size 0 dk).drewN k) 65 9 5 ⟨w.heap.size, 0, none⟩ 24 (Lib.decDigits u) t65 t5 t9 (fun j hj => by
        rw [Lib.row_is_numeral hF j hj, Lib.add_plain, World.cell?_drewN]
        exact cell?_putRow (fun (b : UInt8) => Value.int .u8 (b.toNat : Int)) _ w.heap.size 0 _ dk HH0.out (by rw [hF.size, Array.size_replicate]) j (by rw [hF.size]; rw [Lib.decDigits_length] at hj; exact hj))
      rw [Lib.decDigits_length] at h
      exact h
    go_wp2
    go_ret
    obtain ⟨os, eo⟩ := Lib.fin_at w (.cells Lib.zeros24 146) dk k 0
    exact ⟨rfl, k, os, eo⟩
set_option maxRecDepth 100000 in
/-- strconv.FormatUint at base 10. -/
theorem fmtUint_calls (u : Nat) (hu64 : u < 18446744073709551616) (w : World) (htab : Lib.TabIs Tryz.prog w "internal/strconv.uint64pow10" .u64 Lib.pow10Tab) :
    Calls Tryz.prog 57 #[.int .u64 u, .int .i64 10] w fun e w' => e = .returned (.string ⟨(Lib.decDigits u).toArray⟩) ∧ ∃ k os, w' = grow (w.drewN k) os := by
  have mixed := lays246.mixed
  have t2 := Tryz.underlying2; have a2 := Tryz.isAgg2; have z2 := Tryz.sizeOf2; have v2 := Tryz.zeroValue2
  have t3 := Tryz.underlying3; have a3 := Tryz.isAgg3; have z3 := Tryz.sizeOf3; have v3 := Tryz.zeroValue3
  have t9 := Tryz.underlying9; have a9 := Tryz.isAgg9; have z9 := Tryz.sizeOf9; have v9 := Tryz.zeroValue9
  have t91 := Tryz.underlying91; have a91 := Tryz.isAgg91; have z91 := Tryz.sizeOf91; have v91 := Tryz.zeroValue91
  have e111 : ∀ args w, (callFunc 111 args).run Tryz.prog w = .ok (.enter 111 args) w := enters_of Tryz.func111 (by kernel_rfl) rfl
  go_enter Tryz.func57, Tryz.ntmps57
  go_wp2_with (go_at_fn 111; refine (formatUint_10 u hu64 _ htab).mono ?_; rintro e w' ⟨rfl, k, os, rfl⟩)
  go_ret
  exact ⟨rfl, k, os, rfl⟩
/-! The oracles. -/
theorem powName : Tryz.prog.globalNamed "internal/strconv.uint64pow10" = some 0 := by kernel_rfl
theorem powSize : 0 < Tryz.prog.globals.size := of_decide_eq_true (by kernel_rfl)
theorem below_of_grow {w w' : World} (h : ∃ k os, w' = grow (w.drewN k) os) : Below w.heap.size w w' := by
  obtain ⟨k, os, rfl⟩ := h
  exact Lib.below_grow _ _ (Nat.le_refl _) _ _
theorem orc56 : OrcOK Tryz.prog 56 fmtIntP := by
  refine orc_plain fun B0 w ρ s s' v args args' h r gl ha => ?_
  unfold fmtIntP at h
  split at h
  · rename_i n b
    obtain ⟨hb, hx⟩ := gd_run h
    clear h
    simp only [Bool.and_eq_true, decide_eq_true_eq] at hb
    obtain ⟨rfl, hb1, hb2⟩ := hb
    obtain ⟨vs, s1, h1, h2, h3, h4⟩ := tab_is (name := "internal/strconv.uint64pow10") (kd := .u64) (zs := Lib.pow10Tab) hx r gl powSize powName Lib.pow10Tab_length
    obtain ⟨hvs, hy⟩ := gd_run h1
    obtain ⟨rfl, rfl⟩ := ret_run hy
    refine ⟨h2, h3, .string _, ?_⟩
    cases ha with
    | cons p q =>
      cases p
      cases q with
      | cons p q =>
        cases p
        cases q
        have hc := Any.strconv_FormatInt_10 (ρ := lays173_ren) lays173 n hb1 hb2 w (h4 hvs)
        have hc : Calls Tryz.prog 56 #[.int .i64 n, .int .i64 10] w fun e w' => e = .returned (.string ⟨(Lib.itoa n).toArray⟩) ∧ ∃ k os, w' = grow (w.drewN k) os := hc
        refine Calls.mono hc ?_
        rintro e w' ⟨rfl, hg⟩
        exact ⟨rfl, below_of_grow hg⟩
  · exact (fail_run h).elim
theorem orc57 : OrcOK Tryz.prog 57 fmtUintP := by
  refine orc_plain fun B0 w ρ s s' v args args' h r gl ha => ?_
  unfold fmtUintP at h
  split at h
  · rename_i n b
    obtain ⟨hb, hx⟩ := gd_run h
    clear h
    simp only [Bool.and_eq_true, decide_eq_true_eq] at hb
    obtain ⟨rfl, hb1, hb2⟩ := hb
    obtain ⟨u, rfl⟩ : ∃ u : Nat, n = u := ⟨n.toNat, by omega⟩
    obtain ⟨vs, s1, h1, h2, h3, h4⟩ := tab_is (name := "internal/strconv.uint64pow10") (kd := .u64) (zs := Lib.pow10Tab) hx r gl powSize powName Lib.pow10Tab_length
    obtain ⟨hvs, hy⟩ := gd_run h1
    obtain ⟨rfl, rfl⟩ := ret_run hy
    refine ⟨h2, h3, .string _, ?_⟩
    cases ha with
    | cons p q =>
      cases p
      cases q with
      | cons p q =>
        cases p
        cases q
        refine Calls.mono (fmtUint_calls u (by omega) w (h4 hvs)) ?_
        rintro e w' ⟨rfl, hg⟩
        exact ⟨by rw [Int.toNat_natCast]; rfl, below_of_grow hg⟩
  · exact (fail_run h).elim
theorem orc192 : OrcOK Tryz.prog 192 parseIntP := by
  refine orc_plain fun B0 w ρ s s' v args args' h r gl ha => ?_
  unfold parseIntP at h
  split at h
  · rename_i x b z
    obtain ⟨hb, hx⟩ := gd_run h
    clear h
    simp only [Bool.and_eq_true, decide_eq_true_eq] at hb
    obtain ⟨rfl, rfl, hb2⟩ := hb
    have hlen := Nat.le_of_ble_eq_true hb2
    split at hx
    · rename_i n hn
      obtain ⟨rfl, rfl⟩ := ret_run hx
      refine ⟨rfl, rfl, .tuple (.cons (.int _ _) (.cons .nilIface .nil)), ?_⟩
      cases ha with
      | cons p q =>
        cases p
        cases q with
        | cons p q =>
          cases p
          cases q with
          | cons p q =>
            cases p
            cases q
            have hc := Any.strconv_ParseInt_10_at64_ok (ρ := lays174_ren) lays174 x (by show x.data.size ≤ _; rw [← Array.length_toList]; omega) n hn w
            have hc : Calls Tryz.prog 192 #[.string x, .int .i64 10, .int .i64 64] w fun e w' => e = .returned (.tuple #[.int .i64 n, .nilIface]) ∧ (w' = w ∨ ∃ t, w' = Lib.bytesWorld w (lays174_ren.t 5) t) := hc
            refine Calls.mono hc ?_
            rintro e w' ⟨rfl, hg⟩
            refine ⟨rfl, ?_⟩
            rcases hg with rfl | ⟨t, rfl⟩
            · exact Below.refl _ _
            · exact Lib.bytesWorld_below _ _ _
    · exact (fail_run hx).elim
  · exact (fail_run h).elim
end Go.Proofs.YtmjbmbmnnephjaaGreatDoor
