/- Oracles: strings.Contains, by the library's contract; the law's live(), by a closed run. -/
import Derived.Test.YtpljgnjdlciicaaGreatDoorLyKQ29
import Derived.Test.YtpljgnjdlciicaaGreatDoorLyKQ30
import Derived.Test.YtpljgnjdlciicaaGreatDoorLyKQ31
import Derived.Test.YtpljgnjdlciicaaGreatDoorLyKQ32
import Derived.Test.YtpljgnjdlciicaaGreatDoorLyKQ33
import Derived.Test.YtpljgnjdlciicaaGreatDoorLyKQ34
import Derived.Test.YtpljgnjdlciicaaGreatDoorLyKQ35
import Derived.Test.YtpljgnjdlciicaaGreatDoorLyKQ36
import Derived.Test.YtpljgnjdlciicaaGreatDoorLyKQ37
import Derived.Test.YtpljgnjdlciicaaGreatDoorLyKQ38
import Derived.Test.YtpljgnjdlciicaaGreatDoorLyKQ39
namespace Go.Proofs.YtpljgnjdlciicaaGreatDoor
open Go Go.Ev Go.Proofs Go.RowKit Go.Shelf
theorem gsz3 : 3 ≤ Tryz.prog.globals.size := of_decide_eq_true (by kernel_rfl)
theorem orc166 : OrcOK Tryz.prog 166 containsP := by
  refine orc_plain fun B0 w ρ s s' v args args' h r gl ha => ?_
  unfold containsP at h
  split at h
  · rename_i x y
    obtain ⟨hb, hx⟩ := gd_run h
    clear h
    have hlen := Nat.le_of_ble_eq_true hb
    have g3 := gsz3
    obtain ⟨vs, s1, h1, h2, h3, c, el, fr, h4, h5, h6, h7⟩ := tab_run hx r gl (by omega)
    split at h1
    · rename_i n
      obtain ⟨rfl, rfl⟩ := ret_run h1
      refine ⟨h2, h3, .bool _, ?_⟩
      obtain ⟨v', e1, e2⟩ := h7 0 _ rfl
      cases e2
      have hm : w.cell? ⟨2, 0, none⟩ = some (.int .i64 n) := by
        rw [cell_of h4]
        exact e1
      cases ha with
      | cons p q =>
        cases p
        cases q with
        | cons p q =>
          cases p
          cases q
          have hc := Any.strings_Contains (ρ := lays144_ren) lays144 x y n w (by show x.data.size < _; rw [← Array.length_toList]; omega) hm
          have hc : Calls Tryz.prog 166 #[.string x, .string y] w fun e w' => e = .returned (.bool (Lib.contains x.data.toList y.data.toList)) ∧ w' = w := hc
          refine Calls.mono hc ?_
          rintro e w' ⟨rfl, rfl⟩
          exact ⟨rfl, Below.refl _ _⟩
    · exact (fail_run h1).elim
  · exact (fail_run h).elim
theorem orcV_mem {f : Nat} {p : List Value → Prog} (l : List (Nat × (List Value → Prog))) : (l.foldr (fun (x : Nat × (List Value → Prog)) t => t.set x.1 (some x.2)) Tr.nil).get f = some p → (f, p) ∈ l := by
  induction l with
  | nil => intro h; cases h
  | cons a l ih =>
    intro h
    obtain ⟨g, q⟩ := a
    rw [List.foldr_cons, Tr.get_set] at h
    split at h
    · rename_i e
      simp only [Option.some.injEq] at h
      subst h e
      exact List.mem_cons_self ..
    · exact List.mem_cons_of_mem _ (ih h)
theorem enVOK : EnvOK Tryz.prog EnV := EnvOK.of zeros codes (fun f p h => by
  have h := orcV_mem orcV h
  simp only [orcV, List.mem_cons, List.not_mem_nil, or_false, Prod.mk.injEq] at h
  rcases h with ⟨rfl, rfl⟩ | ⟨rfl, rfl⟩ | ⟨rfl, rfl⟩ | ⟨rfl, rfl⟩
  · exact orc166
  · exact orc207
  · exact orc108
  · exact orc208) exts
theorem sz3 : ∃ i, Tryz.prog.info? 3 = some i ∧ i.size = 1 := by
  have h : (Tryz.prog.info? 3).map (·.size) = some 1 := by kernel_rfl
  cases hi : Tryz.prog.info? 3 with
  | none => rw [hi] at h; cases h
  | some i => rw [hi] at h; exact ⟨i, rfl, by simpa using h⟩
theorem isTab_eq {k : IntKind} : ∀ {zs : List Int} {vs : List Value}, isTab k zs vs = true → vs = zs.map fun z => Value.int k z
  | [], [], _ => rfl
  | z :: zs, .int k' v :: vs, h => by
    simp only [isTab, Bool.and_eq_true, decide_eq_true_eq] at h
    obtain ⟨⟨rfl, rfl⟩, h⟩ := h
    simp only [List.map_cons]
    rw [isTab_eq h]
  | [], _ :: _, h => by cases h
  | _ :: _, [], h => by cases h
theorem spaceL_eq : (spaceTab.map fun z => Value.int .u8 z) = spaceL := by kernel_rfl
theorem spaceL_int : ∀ v, v ∈ spaceL → ∃ n, v = .int .u8 n := by
  intro v hv
  rw [← spaceL_eq] at hv
  obtain ⟨z, _, rfl⟩ := List.mem_map.1 hv
  exact ⟨z, rfl⟩
theorem spaceL_len : spaceL.length = 256 := by kernel_rfl
theorem sz142 : ∃ i, Tryz.prog.info? 142 = some i ∧ i.size = 256 := by
  have h : (Tryz.prog.info? 142).map (·.size) = some 256 := by kernel_rfl
  cases hi : Tryz.prog.info? 142 with
  | none => rw [hi] at h; cases h
  | some i => rw [hi] at h; exact ⟨i, rfl, by simpa using h⟩
def nS (g : Nat) : Nat := if g = 0 then 256 else 1
theorem hf9 {ls : Nat → Option Blk} {k : Nat} (hk : gbase 11 ≤ k) : mapI Tryz.prog.globals.size nS nS (fun _ => none) ls k = none := mapI_high (gb11 _ k globals8 hk)
theorem mr9 {w : World} (n : Int) {c2 c0 : Array Value} {lo2 hi2 lo0 hi0 : Nat} (a1 : w.heap[2]? = some (.cells c2 3 (lo2, hi2))) (a2 : lo2 ≤ hi2) (a3 : ∀ i, lo2 ≤ i → i < hi2 → False) (a4 : c2.size = 1) (a5 : c2[0]? = some (.int .i64 n))
    (b1 : w.heap[0]? = some (.cells c0 142 (lo0, hi0))) (b2 : lo0 ≤ hi0) (b3 : ∀ i, lo0 ≤ i → i < hi0 → False) (b4 : c0.size = 256) (b5 : ∀ (i : Nat) (v : Value), spaceL[i]? = some v → c0[i]? = some v) (hgs : Tryz.prog.globals.size ≤ w.heap.size)
    {ls : Nat → Option Blk} (hls : ∀ B x, ls B = some x → x.B = B ∧ ∃ c el fr, w.heap[B]? = some (.cells c el fr) ∧ c.toList = x.fc) :
    MR Tryz.prog (mapI Tryz.prog.globals.size nS nS (fun _ => none) ls) w.heap.size (layTabs (liveTabs n)) w := by
  have g3 := gsz3
  refine MR.tablesX ?_ ?_ hgs (fun _ _ h => by cases h) hls
  · intro t ht t' ht' h
    simp only [liveTabs, List.mem_cons, List.not_mem_nil, or_false] at ht ht'
    rcases ht with rfl | rfl <;> rcases ht' with rfl | rfl
    · rfl
    · exact absurd h (by decide : ¬ (2 : Nat) = 0)
    · exact absurd h (by decide : ¬ (0 : Nat) = 2)
    · rfl
  · intro t ht
    simp only [liveTabs, List.mem_cons, List.not_mem_nil, or_false] at ht
    rcases ht with rfl | rfl
    · refine ⟨by show 2 < _; omega, ⟨c2, lo2, hi2, a1, a2, a3, a4, fun i v hv => ?_⟩, rfl, sz3⟩
      cases i with
      | zero =>
        simp only [List.getElem?_cons_zero, Option.some.injEq] at hv
        subst hv
        exact ⟨_, a5, .int _ _⟩
      | succ i => simp at hv
    · refine ⟨by show 0 < _; omega, ⟨c0, lo0, hi0, b1, b2, b3, by rw [b4]; exact spaceL_len.symm, fun i v hv => ?_⟩, by show 256 = _; exact spaceL_len.symm, sz142⟩
      obtain ⟨m, rfl⟩ := spaceL_int v (List.mem_of_getElem? hv)
      exact ⟨_, b5 i _ hv, .int _ _⟩
/-- What the tables' look says of the world. -/
theorem tabs_run {B0 : Nat} {w0 w : World} {ρ : Map} {s : St} {res : Value × St} {k : Prog} (h : (tabQ 2 1 3 fun vs => match vs with
    | [.int .i64 _] => tabQ 0 256 142 fun es => Ev.gd (isTab .u8 spaceTab es) k
    | _ => .fail).run s = some res) (rr : WR Tryz.prog ρ B0 w0 s.mem w) (gl : GlOK Tryz.prog ρ) :
    ∃ s1 n, k.run s1 = some res ∧ s1.mem = s.mem ∧ s1.ctr = s.ctr ∧ ∀ ls : Nat → Option Blk, (∀ B x, ls B = some x → x.B = B ∧ ∃ c el fr, w.heap[B]? = some (.cells c el fr) ∧ c.toList = x.fc) →
      MR Tryz.prog (mapI Tryz.prog.globals.size nS nS (fun _ => none) ls) w.heap.size (liveSt n).mem w := by
  have g3 := gsz3
  obtain ⟨vs, s1, h1, m1, c1, c, lo, hi, p1, p2, p3, p4, p5, p6⟩ := tabQ_run h rr.mr gl (by omega)
  split at h1
  · rename_i n
    have r1 : MR Tryz.prog ρ B0 s1.mem w := by rw [m1]; exact rr.mr
    obtain ⟨es, s2, h3, m2, c2, d, lo', hi', q1, q2, q3, q4, q5, q6⟩ := tabQ_run h1 r1 gl (by omega)
    obtain ⟨hes, h4⟩ := gd_run h3
    have hes := isTab_eq hes
    rw [spaceL_eq] at hes
    subst hes
    have hgs := gl.size rr.mr
    obtain ⟨v', e1, e2⟩ := p6 0 _ rfl
    cases e2
    refine ⟨s2, n, h4, m2.trans m1, c2.trans c1, fun ls hls => ?_⟩
    have hMR := mr9 n p1 p2 p3 p4 e1 q1 q2 q3 q4 (fun i v hv => by
      obtain ⟨m, rfl⟩ := spaceL_int v (List.mem_of_getElem? hv)
      obtain ⟨v', e1, e2⟩ := q6 i _ hv
      cases e2
      exact e1) hgs hls
    have hm0 : (liveSt n).mem = layTabs (liveTabs n) := by simp only [liveSt]
    rw [hm0]
    exact hMR
  · exact (fail_run h1).elim
theorem lsHold {B0 : Nat} {w0 w : World} {ρ : Map} {m : Tr Slot} (rr : WR Tryz.prog ρ B0 w0 m w) : ∀ B x, ρ.ls B = some x → x.B = B ∧ ∃ c el fr, w.heap[B]? = some (.cells c el fr) ∧ c.toList = x.fc := fun B x e => by
  obtain ⟨h1, h2, _⟩ := rr.mr.frz B x e
  exact ⟨h1, h2⟩
theorem ctr_live (n : Int) : (liveSt n).ctr = gbase 11 := by simp only [liveSt]
/-- An oracle by closed runs. -/
theorem orcC {f : Nat} {l : List (List Value × Value)} (hl : ∀ p, p ∈ l → AFs p.1 ∧ AF p.2 ∧ ∃ E, EnvOK Tryz.prog E ∧ E.orc f = none ∧ (∃ fn c, E.fn.get f = some fn ∧ fn.body = some c) ∧ ∀ n, isV ((callF E (runP E 1000) f p.1).run (liveSt n)) p.2 = true) : OrcOK Tryz.prog f (closedP l) := by
  intro B0 w0 w ρ s s' v args args' h rr fr gl ha
  obtain ⟨s1, n, h1, m1, c1, hMR⟩ := tabs_run h rr gl
  cases hlk : lookC l args with
  | none => rw [hlk] at h1; exact (fail_run h1).elim
  | some v1 =>
    rw [hlk] at h1
    obtain ⟨rfl, rfl⟩ := ret_run h1
    obtain ⟨ha1, hv1, E, ok, ho, hb, hrun⟩ := hl _ (lookC_ok hlk)
    obtain ⟨S', hrun⟩ := isV_ok (hrun n)
    have hMR := hMR ρ.ls (lsHold rr)
    have hf : ∀ k, (liveSt n).ctr ≤ k → mapI Tryz.prog.globals.size nS nS (fun _ => none) ρ.ls k = none := fun k hk => hf9 (by rw [ctr_live] at hk; exact hk)
    generalize liveSt n = S at hrun hMR hf
    have ha0 : VRs (mapI Tryz.prog.globals.size nS nS (fun _ => none) ρ.ls) args args' := VRs.free (ρ := ρ) (ρ' := mapI Tryz.prog.globals.size nS nS (fun _ => none) ρ.ls) (fun B x e => e) ha ha1
    refine Calls.mono (ev_calls (B0 := w.heap.size) (w0 := w) ok mixed hrun hb ho ⟨hMR, Below.refl _ _, Nat.le_refl _⟩ ⟨fun k h1 _ => hf k h1⟩ mapI_gl ha0) ?_
    rintro e w' ⟨v', ρ1, rfl, hv, hw, hg⟩
    obtain ⟨ρ', g, hv', hw'⟩ := merge_back (ρ0 := mapI Tryz.prog.globals.size nS nS (fun _ => none) ρ.ls) rr rfl rfl hg hw hv hv1
    exact ⟨ρ', v', rfl, g _ _, hv', by rw [m1]; exact hw'⟩
theorem env_of {l : List (Nat × (List Value → Prog))} {F : Nat → Option (List Value → Prog)} (hF : ∀ f, F f = (l.foldr (fun (x : Nat × (List Value → Prog)) t => t.set x.1 (some x.2)) Tr.nil).get f) (h : ∀ f p, (f, p) ∈ l → OrcOK Tryz.prog f p) : EnvOK Tryz.prog (Env.of Tryz.prog extT F rawT (fun _ _ => none) false false (fun _ _ => none) 1000000) :=
  EnvOK.of zeros codes (fun f p e => h f p (orcV_mem l (by rw [← hF f]; exact e))) exts
theorem orcV_ok : ∀ f p, (f, p) ∈ orcV → OrcOK Tryz.prog f p := by
  intro f p h
  simp only [orcV, List.mem_cons, List.not_mem_nil, or_false, Prod.mk.injEq] at h
  rcases h with ⟨rfl, rfl⟩ | ⟨rfl, rfl⟩ | ⟨rfl, rfl⟩ | ⟨rfl, rfl⟩
  · exact orc166
  · exact orc207
  · exact orc108
  · exact orc208
theorem afs {l : List Value} (h : l.all (afB 40) = true) : AFs l := afs_of (afB_ok 40) l h
theorem orc19 : OrcOK Tryz.prog 19 (closedP lexC) := by
  refine orcC fun p hp => ?_
  simp only [lexC, List.mem_cons, List.not_mem_nil, or_false] at hp
  rcases hp with rfl | rfl
  · exact ⟨afs (by kernel_rfl), afB_ok 40 _ (by kernel_rfl), EnV, enVOK, by kernel_rfl, hasB (by kernel_rfl), runL1⟩
  · exact ⟨afs (by kernel_rfl), afB_ok 40 _ (by kernel_rfl), EnV, enVOK, by kernel_rfl, hasB (by kernel_rfl), runL6⟩
theorem enV1OK : EnvOK Tryz.prog EnV1 := env_of (l := orcV1) (fun _ => rfl) fun f p h => by
  rcases List.mem_cons.1 h with h | h
  · obtain ⟨rfl, rfl⟩ := Prod.mk.inj h; exact orc19
  · exact orcV_ok f p h
theorem orc10 : OrcOK Tryz.prog 10 (closedP parC) := by
  refine orcC fun p hp => ?_
  simp only [parC, List.mem_cons, List.not_mem_nil, or_false] at hp
  rcases hp with rfl | rfl | rfl | rfl | rfl | rfl
  · exact ⟨afs (by kernel_rfl), afB_ok 40 _ (by kernel_rfl), EnV1, enV1OK, by kernel_rfl, hasB (by kernel_rfl), runP1⟩
  · exact ⟨afs (by kernel_rfl), afB_ok 40 _ (by kernel_rfl), EnV, enVOK, by kernel_rfl, hasB (by kernel_rfl), runP2⟩
  · exact ⟨afs (by kernel_rfl), afB_ok 40 _ (by kernel_rfl), EnV, enVOK, by kernel_rfl, hasB (by kernel_rfl), runP3⟩
  · exact ⟨afs (by kernel_rfl), afB_ok 40 _ (by kernel_rfl), EnV, enVOK, by kernel_rfl, hasB (by kernel_rfl), runP4⟩
  · exact ⟨afs (by kernel_rfl), afB_ok 40 _ (by kernel_rfl), EnV, enVOK, by kernel_rfl, hasB (by kernel_rfl), runP5⟩
  · exact ⟨afs (by kernel_rfl), afB_ok 40 _ (by kernel_rfl), EnV1, enV1OK, by kernel_rfl, hasB (by kernel_rfl), runP6⟩
theorem orc22 : OrcOK Tryz.prog 22 (closedP priC) := by
  refine orcC fun p hp => ?_
  simp only [priC, List.mem_cons, List.not_mem_nil, or_false] at hp
  obtain rfl := hp
  exact ⟨afs (by kernel_rfl), afB_ok 40 _ (by kernel_rfl), EnV, enVOK, by kernel_rfl, hasB (by kernel_rfl), runPr⟩
theorem enV2OK : EnvOK Tryz.prog EnV2 := env_of (l := orcV2) (fun _ => rfl) fun f p h => by
  rcases List.mem_cons.1 h with h | h
  · obtain ⟨rfl, rfl⟩ := Prod.mk.inj h; exact orc10
  · rcases List.mem_cons.1 h with h | h
    · obtain ⟨rfl, rfl⟩ := Prod.mk.inj h; exact orc22
    · exact orcV_ok f p h
theorem orc9 : OrcOK Tryz.prog 9 liveP := by
  intro B0 w0 w ρ s s' v args args' h rr fr gl ha
  cases ha with
  | cons a b => exact (fail_run h).elim
  | nil =>
    obtain ⟨s1, n, h1, m1, c1, hMR⟩ := tabs_run h rr gl
    obtain ⟨rfl, rfl⟩ := ret_run h1
    have hMR := hMR (fun _ => none) (fun _ _ e => by cases e)
    have hf : ∀ k, (liveSt n).ctr ≤ k → mapI Tryz.prog.globals.size nS nS (fun _ => none) (fun _ => none) k = none := fun k hk => hf9 (by rw [ctr_live] at hk; exact hk)
    have hrun := live_run n
    generalize liveSt n = S at hrun hMR hf
    have hcalls := ev_true (P := Tryz.prog) (E := EnV2) (n := 1000) (f := 9) (args := []) (args' := []) (s := S) (w := w) enV2OK mixed hrun (hasB (by kernel_rfl)) (by kernel_rfl) hMR hf mapI_gl .nil
    refine Calls.mono hcalls ?_
    rintro e w' ⟨rfl, hb⟩
    have hB : B0 ≤ w.heap.size := Nat.le_trans rr.hB rr.bel.size
    refine ⟨ρ, .bool true, rfl, Gr.refl _ _ _, .bool true, ?_⟩
    rw [m1]
    exact ⟨rr.mr.belowO hb, rr.bel.trans (hb.mono hB), rr.hB⟩
theorem orcF_mem {f : Nat} {p : List Value → Prog} (h : orcF f = some p) : (f, p) ∈ orcT := orcV_mem orcT h
theorem enOK : EnvOK Tryz.prog En := EnvOK.of zeros codes (fun f p h => by
  have h := orcF_mem h
  simp only [orcT, List.mem_cons, List.not_mem_nil, or_false, Prod.mk.injEq] at h
  obtain ⟨rfl, rfl⟩ := h
  exact orc9) exts
end Go.Proofs.YtpljgnjdlciicaaGreatDoor
