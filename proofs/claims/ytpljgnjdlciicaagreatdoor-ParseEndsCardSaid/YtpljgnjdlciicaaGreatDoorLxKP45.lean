import Derived.Test.YtpljgnjdlciicaaGreatDoorLxKP43
import Derived.Test.YtpljgnjdlciicaaGreatDoorLxKP44
import Derived.Test.YtpljgnjdlciicaaGreatDoorLxKP41
namespace Go.Proofs.YtpljgnjdlciicaaGreatDoor
open Go Go.Ev Go.Proofs Go.RowKit Go.Shelf
theorem gsz3 : 3 ≤ Tryz.prog.globals.size := of_decide_eq_true (by kernel_rfl)
theorem orc166 : OrcOK Tryz.prog 166 containsP := by
  refine orc_plain fun B0 w ρ s s' v args args' h r gl ha => ?_
  unfold containsP at h
  split at h
  · rename_i x y
    obtain ⟨hb, hx⟩ := gd_run h
    clear h
    have hlen := Nat.le_of_ble_eq_true hb
    have g3 := gsz3
    obtain ⟨vs, s1, h1, h2, h3, c, el, fr, h4, h5, h6, h7⟩ := tab_run hx r gl (by omega)
    split at h1
    · rename_i n
      obtain ⟨rfl, rfl⟩ := ret_run h1
      refine ⟨h2, h3, .bool _, ?_⟩
      obtain ⟨v', e1, e2⟩ := h7 0 _ rfl
      cases e2
      have hm : w.cell? ⟨2, 0, none⟩ = some (.int .i64 n) := by
        rw [cell_of h4]
        exact e1
      cases ha with
      | cons p q =>
        cases p
        cases q with
        | cons p q =>
          cases p
          cases q
          have hc := Any.strings_Contains (ρ := lays144_ren) lays144 x y n w (by show x.data.size < _; rw [← Array.length_toList]; omega) hm
          have hc : Calls Tryz.prog 166 #[.string x, .string y] w fun e w' => e = .returned (.bool (Lib.contains x.data.toList y.data.toList)) ∧ w' = w := hc
          refine Calls.mono hc ?_
          rintro e w' ⟨rfl, rfl⟩
          exact ⟨rfl, Below.refl _ _⟩
    · exact (fail_run h1).elim
  · exact (fail_run h).elim
theorem orcV_mem {f : Nat} {p : List Value → Prog} (l : List (Nat × (List Value → Prog))) : (l.foldr (fun (x : Nat × (List Value → Prog)) t => t.set x.1 (some x.2)) Tr.nil).get f = some p → (f, p) ∈ l := by
  induction l with
  | nil => intro h; cases h
  | cons a l ih =>
    intro h
    obtain ⟨g, q⟩ := a
    rw [List.foldr_cons, Tr.get_set] at h
    split at h
    · rename_i e
      simp only [Option.some.injEq] at h
      subst h e
      exact List.mem_cons_self ..
    · exact List.mem_cons_of_mem _ (ih h)
theorem enVOK : EnvOK Tryz.prog EnV := EnvOK.of zeros codes (fun f p h => by
  have h := orcV_mem orcV h
  simp only [orcV, List.mem_cons, List.not_mem_nil, or_false, Prod.mk.injEq] at h
  rcases h with ⟨rfl, rfl⟩ | ⟨rfl, rfl⟩ | ⟨rfl, rfl⟩ | ⟨rfl, rfl⟩
  · exact orc166
  · exact orc207
  · exact orc108
  · exact orc208) exts
theorem sz3 : ∃ i, Tryz.prog.info? 3 = some i ∧ i.size = 1 := by
  have h : (Tryz.prog.info? 3).map (·.size) = some 1 := by kernel_rfl
  cases hi : Tryz.prog.info? 3 with
  | none => rw [hi] at h; cases h
  | some i => rw [hi] at h; exact ⟨i, rfl, by simpa using h⟩
theorem orc6 : OrcOK Tryz.prog 6 liveP := by
  intro B0 w0 w ρ s s' v args args' h rr fr gl ha
  cases ha with
  | cons a b => exact (fail_run h).elim
  | nil =>
    have g3 := gsz3
    obtain ⟨vs, s1, h1, m1, c1, c, lo, hi, p1, p2, p3, p4, p5, p6⟩ := tabQ_run h rr.mr gl (by omega)
    split at h1
    · rename_i n
      obtain ⟨rfl, rfl⟩ := ret_run h1
      have hgs := gl.size rr.mr
      obtain ⟨v', e1, e2⟩ := p6 0 _ rfl
      cases e2
      have hMR : MR Tryz.prog (mapI Tryz.prog.globals.size (fun _ => 1) (fun _ => 1) (fun _ => none) (fun _ => none)) w.heap.size (layTabs (liveTabs n)) w := by
        refine MR.tablesX ?_ ?_ hgs (fun _ _ h => by cases h) (fun _ _ h => by cases h)
        · intro t ht t' ht' h
          simp only [liveTabs, List.mem_cons, List.not_mem_nil, or_false] at ht ht'
          rcases ht with rfl
          rcases ht' with rfl
          rfl
        · intro t ht
          simp only [liveTabs, List.mem_cons, List.not_mem_nil, or_false] at ht
          rcases ht with rfl
          refine ⟨by show 2 < _; omega, ⟨c, lo, hi, p1, p2, p3, p4, fun i v hv => ?_⟩, rfl, sz3⟩
          cases i with
          | zero =>
            simp only [List.getElem?_cons_zero, Option.some.injEq] at hv
            subst hv
            exact ⟨_, e1, .int _ _⟩
          | succ i => simp at hv
      have hf : ∀ k, (liveSt n).ctr ≤ k → mapI Tryz.prog.globals.size (fun _ => 1) (fun _ => 1) (fun _ => none) (fun _ => none) k = none := by
        intro k hk
        exact mapI_high (gb300 _ k globals8 hk)
      have hrun := live_run n
      have hm0 : (liveSt n).mem = layTabs (liveTabs n) := by simp only [liveSt]
      rw [← hm0] at hMR
      clear hm0
      generalize liveSt n = S at hrun hMR hf
      have hcalls := ev_true (P := Tryz.prog) (E := EnV) (n := 1000) (f := 6) (args := []) (args' := []) (s := S) (w := w) enVOK mixed hrun (hasB (by kernel_rfl)) (by kernel_rfl) hMR hf mapI_gl .nil
      refine Calls.mono hcalls ?_
      rintro e w' ⟨rfl, hb⟩
      have hB : B0 ≤ w.heap.size := Nat.le_trans rr.hB rr.bel.size
      refine ⟨ρ, .bool true, rfl, by rw [c1]; exact Gr.refl _ _ _, .bool true, ?_⟩
      rw [m1]
      exact ⟨rr.mr.belowO hb, rr.bel.trans (hb.mono hB), rr.hB⟩
    · exact (fail_run h1).elim
theorem orcF_mem {f : Nat} {p : List Value → Prog} (h : orcF f = some p) : (f, p) ∈ orcT := orcV_mem orcT h
theorem enOK : EnvOK Tryz.prog En := EnvOK.of zeros codes (fun f p h => by
  have h := orcF_mem h
  simp only [orcT, List.mem_cons, List.not_mem_nil, or_false, Prod.mk.injEq] at h
  rcases h with ⟨rfl, rfl⟩ | ⟨rfl, rfl⟩ | ⟨rfl, rfl⟩ | ⟨rfl, rfl⟩ | ⟨rfl, rfl⟩
  · exact orc6
  · exact orc166
  · exact orc207
  · exact orc108
  · exact orc208) exts
end Go.Proofs.YtpljgnjdlciicaaGreatDoor
