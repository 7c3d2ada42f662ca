/- Oracles by closed runs: value.Check and text.sources of an atom of a number, whatever the number is. -/
import Derived.Test.YtmjbmbmnnephjaaGreatDoorLxKN13
import Derived.Test.YtmjbmbmnnephjaaGreatDoorLxKN1
namespace Go.Proofs.YtmjbmbmnnephjaaGreatDoor
open Go Go.Ev Go.Proofs Go.RowKit
def atomV (t n : Int) : Value := .agg ⟨[.int .i64 t, lstV [.int .i64 n], lstV [], lstV []]⟩
theorem isLst_eq {v : Value} (h : isLst v = true) : v = lstV (elems v) := by
  unfold isLst at h
  split at h
  · rename_i t a
    obtain ⟨l⟩ := a
    have := Nat.eq_of_beq_eq_true h
    subst this
    rfl
  · cases h
theorem oneI_eq {l : List Value} (h : oneI l = true) : ∃ n, l = [.int .i64 n] := by
  unfold oneI at h
  split at h
  · exact ⟨_, rfl⟩
  · cases h
theorem atom3_eq {args : List Value} (h : atom3 args = true) : ∃ t n, (t = -2 ∨ t = -4 ∨ t = -5) ∧ args = [atomV t n] := by
  unfold atom3 at h
  split at h
  · rename_i t a b c
    simp only [Bool.and_eq_true, Bool.or_eq_true, decide_eq_true_eq, List.isEmpty_iff] at h
    obtain ⟨h1, h2, h3, h4, h5, h6, h7⟩ := h
    obtain ⟨n, hn⟩ := oneI_eq h4
    refine ⟨t, n, h7, ?_⟩
    rw [isLst_eq h1, isLst_eq h2, isLst_eq h3, hn, h5, h6]
    rfl
  · cases h
/-- What a number comes to. -/
def isI0 (r : Option (Value × St)) : Bool := match r with
  | some (.int .i64 n, _) => decide (n = 0)
  | _ => false
theorem check2 (n : Int) : isI0 ((callF EnL (runP EnL 1000) 51 [atomV (-2) n]).run liveSt) = true := by kernel_rfl
theorem check4 (n : Int) : isI0 ((callF EnL (runP EnL 1000) 51 [atomV (-4) n]).run liveSt) = true := by kernel_rfl
theorem check5 (n : Int) : isI0 ((callF EnL (runP EnL 1000) 51 [atomV (-5) n]).run liveSt) = true := by kernel_rfl
theorem sources2 (n : Int) : Ev.isTrue ((callF EnL (runP EnL 1000) 52 [atomV (-2) n]).run liveSt) = true := by kernel_rfl
theorem sources4 (n : Int) : Ev.isTrue ((callF EnL (runP EnL 1000) 52 [atomV (-4) n]).run liveSt) = true := by kernel_rfl
theorem sources5 (n : Int) : Ev.isTrue ((callF EnL (runP EnL 1000) 52 [atomV (-5) n]).run liveSt) = true := by kernel_rfl
theorem has51 : ∃ fn c, EnL.fn.get 51 = some fn ∧ fn.body = some c := by
  have h : (match EnL.fn.get 51 with | some fn => fn.body.isSome | none => false) = true := by kernel_rfl
  split at h
  · rename_i fn hfn
    obtain ⟨c, hc⟩ := Option.isSome_iff_exists.1 h
    exact ⟨fn, c, hfn, hc⟩
  · cases h
theorem has52 : ∃ fn c, EnL.fn.get 52 = some fn ∧ fn.body = some c := by
  have h : (match EnL.fn.get 52 with | some fn => fn.body.isSome | none => false) = true := by kernel_rfl
  split at h
  · rename_i fn hfn
    obtain ⟨c, hc⟩ := Option.isSome_iff_exists.1 h
    exact ⟨fn, c, hfn, hc⟩
  · cases h
/-- An atom speaks of lists alone. -/
theorem atom_VRs {ρ ρ0 : Map} (hls : ∀ B x, ρ.ls B = some x → ρ0.ls B = some x) {t n : Int} {args' : List Value} (h : VRs ρ [atomV t n] args') : VRs ρ0 [atomV t n] args' := by
  have e0 : ∀ v', VR ρ (lstV []) v' → VR ρ0 (lstV []) v' := by
    intro v' h
    cases h with
    | iface h1 _ => exact absurd h1 (by decide)
    | lst a b c d e => exact .lst (hls _ _ a) (by cases b; exact .nil) c d e
    | lst0 => exact .lst0
  have e1 : ∀ v', VR ρ (lstV [.int .i64 n]) v' → VR ρ0 (lstV [.int .i64 n]) v' := by
    intro v' h
    cases h with
    | iface h1 _ => exact absurd h1 (by decide)
    | lst a b c d e =>
      refine .lst (hls _ _ a) ?_ c d e
      have b' : VRs ρ [.int .i64 n] _ := b
      show VRs ρ0 [.int .i64 n] _
      cases b' with
      | cons p q => cases p; cases q; exact .cons (.int _ _) .nil
  cases h with
  | cons p q =>
    cases q
    refine .cons ?_ .nil
    cases p with
    | agg p =>
      refine .agg ?_
      cases p with
      | cons a p =>
        cases a
        cases p with
        | cons b p =>
          cases p with
          | cons c p =>
            cases p with
            | cons d p =>
              cases p
              exact .cons (.int _ _) (.cons (e1 _ b) (.cons (e0 _ c) (.cons (e0 _ d) .nil)))
theorem orc_atom {f : Nat} {r : Value} (hf : ∃ fn c, EnL.fn.get f = some fn ∧ fn.body = some c) (horc : EnL.orc f = none) (hrun : ∀ t n : Int, (t = -2 ∨ t = -4 ∨ t = -5) → ∃ s', (callF EnL (runP EnL 1000) f [atomV t n]).run liveSt = some (r, s'))
    (hr : ∀ ρ, VR ρ r r) (hr' : ∀ ρ v', VR ρ r v' → v' = r) : OrcOK Tryz.prog f (fun args => Ev.gd (atom3 args) (.ret r)) := by
  intro B0 w0 w ρ s s' v args args' h rr fr gl ha
  obtain ⟨hb, hret⟩ := gd_run h
  obtain ⟨t, n, ht, rfl⟩ := atom3_eq hb
  obtain ⟨rfl, rfl⟩ := ret_run hret
  obtain ⟨s1, hrun⟩ := hrun t n ht
  have hgs := gl.size rr.mr
  have ha' : VRs (mapI Tryz.prog.globals.size (fun _ => 0) (fun _ => 0) (fun _ => none) ρ.ls) [atomV t n] args' := atom_VRs (ρ := ρ) (ρ0 := mapI Tryz.prog.globals.size (fun _ => 0) (fun _ => 0) (fun _ => none) ρ.ls) (fun _ _ h => h) ha
  refine Calls.mono (ev_calls (B0 := w.heap.size) (w0 := w) (n := 1000) (s := liveSt) (ρ := mapI Tryz.prog.globals.size (fun _ => 0) (fun _ => 0) (fun _ => none) ρ.ls) enLOK mixed hrun hf horc
    ⟨MR.tables (l := []) (fun _ h => by cases h) (fun _ h => by cases h) hgs (fun _ _ h => by cases h) (fun B x h => ?_), Below.refl _ _, Nat.le_refl _⟩ ⟨fun k hk _ => ?_⟩ mapI_gl ha') ?_
  · obtain ⟨h1, h2, _⟩ := rr.mr.frz B x h
    exact ⟨h1, h2⟩
  · exact mapI_high (gb300 _ k globals8 hk)
  · rintro e w' ⟨v', ρ', rfl, hv, hw⟩
    obtain rfl := hr' _ _ hv
    have hB : B0 ≤ w.heap.size := Nat.le_trans rr.hB rr.bel.size
    exact ⟨ρ, _, rfl, Gr.refl _ _ _, hr ρ, rr.mr.below hw.bel, rr.bel.trans (hw.bel.mono hB), rr.hB⟩
theorem orc51 : OrcOK Tryz.prog 51 checkP := by
  refine orc_atom has51 (by kernel_rfl) (fun t n ht => ?_) (fun _ => .int _ _) (fun _ v' h => by cases h; rfl)
  have key : ∀ x : Option (Value × St), isI0 x = true → ∃ s', x = some (.int .i64 0, s') := by
    intro x h
    unfold isI0 at h
    split at h
    · have := of_decide_eq_true h
      subst this
      exact ⟨_, rfl⟩
    · cases h
  rcases ht with rfl | rfl | rfl
  · exact key _ (check2 n)
  · exact key _ (check4 n)
  · exact key _ (check5 n)
theorem orc52 : OrcOK Tryz.prog 52 sourcesP := by
  refine orc_atom has52 (by kernel_rfl) (fun t n ht => ?_) (fun _ => .bool _) (fun _ v' h => by cases h; rfl)
  have key : ∀ x : Option (Value × St), Ev.isTrue x = true → ∃ s', x = some (.bool true, s') := by
    intro x h
    unfold Ev.isTrue at h
    split at h
    · exact ⟨_, rfl⟩
    · cases h
  rcases ht with rfl | rfl | rfl
  · exact key _ (sources2 n)
  · exact key _ (sources4 n)
  · exact key _ (sources5 n)
end Go.Proofs.YtmjbmbmnnephjaaGreatDoor
