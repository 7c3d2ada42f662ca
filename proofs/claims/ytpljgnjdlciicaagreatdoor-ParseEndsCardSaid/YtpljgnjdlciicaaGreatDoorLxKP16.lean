import Derived.Test.YtpljgnjdlciicaaGreatDoorLxKP15
namespace Go.Ev
open Go Go.RowKit
section
variable {P : Program} {E : Env} {B0 : Nat} {w0 w : World}
def Gl (ρ ρ' : Map) : Prop := Ext ρ ρ' ∧ ∀ k, ρ' k = ρ k
theorem Gl.refl (ρ : Map) : Gl ρ ρ := ⟨Ext.refl ρ, fun _ => rfl⟩
theorem Gl.trans {a b c : Map} (h : Gl a b) (h' : Gl b c) : Gl a c := ⟨h.1.trans h'.1, fun k => (h'.2 k).trans (h.2 k)⟩
theorem Gl.gr {ρ ρ' : Map} (h : Gl ρ ρ') (a b : Nat) : Gr ρ ρ' a b := ⟨h.1, fun k _ => h.2 k⟩
theorem Gl.fr {ρ ρ' : Map} {m m' : Tr Slot} {a b : Nat} (h : Gl ρ ρ') (f : Fr ρ m a b) : Fr ρ' m' a b := ⟨fun k h1 h2 => (h.2 k).trans (f.map k h1 h2)⟩
theorem oneC_cells {v : Value} (h : oneC v = true) : cellsL v = [v] := by cases v <;> first | rfl | (simp [oneC] at h)
theorem chunkC_one : ∀ (n : Nat) (vs : List Value), vs.length = n → vs.all oneC = true → chunkC true 1 n vs = vs
  | 0, [], _, _ => rfl
  | 0, _ :: _, h, _ => by simp at h
  | n + 1, [], h, _ => by simp at h
  | n + 1, v :: vs, h, ha => by
    simp only [List.all_cons, Bool.and_eq_true] at ha
    simp only [chunkC, List.headD_cons, List.drop_succ_cons, List.drop_zero]
    rw [chunkC_one n vs (by simpa using h) ha.2]
theorem flatC_one : ∀ {vs : List Value}, vs.all oneC = true → flatC vs = vs
  | [], _ => rfl
  | v :: vs, h => by
    simp only [List.all_cons, Bool.and_eq_true] at h
    rw [flatC, oneC_cells h.1, flatC_one h.2]; rfl
theorem chunkC_agg {sz : Nat} : ∀ (n : Nat) (vs : List Value), vs.length = n * sz → flatC (chunkC false sz n vs) = vs ∧ AllSz sz (chunkC false sz n vs) ∧ (chunkC false sz n vs).length = n
  | 0, vs, h => by
    have : vs = [] := List.eq_nil_of_length_eq_zero (by simpa using h)
    subst this
    exact ⟨rfl, fun e he => by simp [chunkC] at he, rfl⟩
  | n + 1, vs, h => by
    rw [Nat.succ_mul] at h
    obtain ⟨h1, h2, h3⟩ := chunkC_agg (sz := sz) n (vs.drop sz) (by rw [List.length_drop]; omega)
    have hc : cellsL (.agg ⟨vs.take sz⟩) = vs.take sz := rfl
    refine ⟨?_, ?_, by simp only [chunkC, List.length_cons, h3]⟩
    · simp only [chunkC, flatC, h1, hc, List.take_append_drop]
    · intro e he
      simp only [chunkC, List.mem_cons] at he
      rcases he with rfl | he
      · rw [hc, List.length_take]; omega
      · exact h2 e he
theorem chunkC_ok {one : Bool} {sz n : Nat} {vs : List Value} (h1 : one = true → sz = 1) (hl : vs.length = n * sz) (ha : vs.all oneC = true) :
    flatC (chunkC one sz n vs) = vs ∧ AllSz sz (chunkC one sz n vs) ∧ (chunkC one sz n vs).length = n := by
  cases one with
  | false => exact chunkC_agg n vs hl
  | true =>
    obtain rfl := h1 rfl
    rw [Nat.mul_one] at hl
    rw [chunkC_one n vs hl ha]
    refine ⟨flatC_one ha, fun e he => ?_, hl⟩
    rw [oneC_cells (List.all_eq_true.1 ha e he)]; rfl
def Frz (P : Program) (B0 : Nat) (w0 : World) (F : Value → (Value → Prog) → Prog) : Prop :=
  ∀ (ρ : Map) (v v' : Value) (k : Value → Prog) (s : St) (w : World) (q : Value × St), (F v k).run s = some q → VR ρ v v' → WR P ρ B0 w0 s.mem w →
    ∃ ρ1 v1 s1, (k v1).run s1 = some q ∧ VR ρ1 v1 v' ∧ WR P ρ1 B0 w0 s1.mem w ∧ Gl ρ ρ1 ∧ s1.ctr = s.ctr ∧ (oneC v = true → oneC v1 = true) ∧ ((cellsL v1).length = (cellsL v).length)
theorem frzGo_ok {f : TypeId → Value → (Value → Prog) → Prog} (hf : ∀ e, Frz P B0 w0 (f e)) : ∀ (ss : List (Option TypeId)) (ρ : Map) (vs vs' : List Value) (k : List Value → Prog) (s : St) (w : World) (q : Value × St),
    (frzGo f ss vs k).run s = some q → VRs ρ vs vs' → WR P ρ B0 w0 s.mem w →
    ∃ ρ1 vs1 s1, (k vs1).run s1 = some q ∧ VRs ρ1 vs1 vs' ∧ WR P ρ1 B0 w0 s1.mem w ∧ Gl ρ ρ1 ∧ s1.ctr = s.ctr ∧ (vs.all oneC = true → vs1.all oneC = true) := by
  intro ss
  induction ss with
  | nil =>
    intro ρ vs vs' k s w q h hv r
    simp only [frzGo] at h
    split at h
    · exact ⟨ρ, [], s, h, hv, r, Gl.refl ρ, rfl, fun q => q⟩
    · exact (fail_run h).elim
  | cons o ss ih =>
    intro ρ vs vs' k s w q h hv r
    cases hv with
    | nil => exact (fail_run h).elim
    | cons h1 h2 =>
      rename_i v v' vs vs'
      simp only [frzGo] at h
      cases o with
      | none =>
        obtain ⟨ρ1, vs1, s1, a1, a2, a3, a4, a5, a6⟩ := ih ρ vs vs' _ s w q h h2 r
        refine ⟨ρ1, v :: vs1, s1, a1, .cons (h1.ext a4.1) a2, a3, a4, a5, fun hq => ?_⟩
        simp only [List.all_cons, Bool.and_eq_true] at hq ⊢
        exact ⟨hq.1, a6 hq.2⟩
      | some e =>
        obtain ⟨ρ0, v1, s0, b1, b2, b3, b4, b5, b6, _⟩ := hf e ρ v v' _ s w q h h1 r
        obtain ⟨ρ1, vs1, s1, a1, a2, a3, a4, a5, a6⟩ := ih ρ0 vs vs' _ s0 w q b1 (h2.ext b4.1) b3
        refine ⟨ρ1, v1 :: vs1, s1, a1, .cons (b2.ext a4.1) a2, a3, b4.trans a4, a5.trans b5, fun hq => ?_⟩
        simp only [List.all_cons, Bool.and_eq_true] at hq ⊢
        exact ⟨b6 hq.1, a6 hq.2⟩
theorem slots_one {e : TypeId} (h : isOneT E e = true) : (slots E 20 e).length = 1 := by
  unfold isOneT at h
  split at h
  · rename_i d hd
    unfold slots
    rw [hd]
    cases d <;> first | rfl | (simp [isAggD] at h)
  · cases h
theorem frzL_ok : ∀ (d : Nat) (e : TypeId), Frz P B0 w0 (frzL E d e) := by
  intro d
  induction d with
  | zero => intro e ρ v v' k s w q h; exact (fail_run h).elim
  | succ d ih =>
    intro e ρ v v' k s w q h hv r
    unfold frzL at h
    split at h
    · rename_i t es
      split at h
      · exact ⟨ρ, _, s, h, hv, r, Gl.refl ρ, rfl, fun q => q, rfl⟩
      · split at h
        · rename_i hb
          have := Nat.eq_of_beq_eq_true hb
          subst this
          refine ⟨ρ, _, s, h, ?_, r, Gl.refl ρ, rfl, fun q => rfl, rfl⟩
          cases hv with
          | iface ht _ => exact absurd ht (by unfold LZ; decide)
          | xl e a b c => exact .lst e a b c (Nat.le_refl _)
          | xl0 => exact .lst0
        · exact (fail_run h).elim
    · cases hv with
      | slN => exact ⟨ρ, _, s, h, .lst0, r, Gl.refl ρ, rfl, fun q => rfl, rfl⟩
    · rename_i a n c
      cases hv with
      | @sl b o o' _ _ c' x hb ho hlo hex hin hle =>
      split at h
      · rename_i hn
        obtain rfl := Nat.eq_of_beq_eq_true hn
        exact ⟨ρ, _, s, h, .lst0, r, Gl.refl ρ, rfl, fun q => rfl, rfl⟩
      · rename_i hn
        have hn0 : n ≠ 0 := fun q => by rw [q] at hn; simp at hn
        obtain ⟨sz, hsz, h1⟩ := opt_run h
        obtain ⟨hpos, h2⟩ := ck_run h1
        obtain ⟨vs, s1, h3, h4⟩ := frz_run h2
        obtain ⟨hss, h5⟩ := ck_run h4
        have hss := Nat.eq_of_beq_eq_true hss
        clear h h1 h2 h4
        obtain ⟨hh, f1, f2, f3, ⟨s2, f4⟩, f5, f6, f7⟩ := St.frz_spec h3
        obtain ⟨vs', a1, a2, a3⟩ := r.mr.rd f4 hb
        obtain ⟨hn1, c0, el, fr, g1, g2⟩ := r.mr.freeze f1 f3 f2 hb
        have hoo : o' = x.sh + o := by
          rcases ho with ho | ho
          · exact ho
          · omega
        subst hoo
        let ρ1 := updL ρ x.B ⟨x.B, 0, c0.size, 0, c0.toList⟩
        have gl : Gl ρ ρ1 := ⟨Ext.updL _ hn1, fun k => rfl⟩
        have hsub : Sub c0.toList (x.sh + o) vs' := by
          intro j u hj
          have := a3 j u hj
          rw [cell_of g1] at this
          simpa using this
        have hlen : vs.length = n * sz := by
          have := a2.length
          rw [← this]; exact a1
        have r1 : WR P ρ1 B0 w0 s1.mem w := ⟨by rw [f6]; exact g2, r.bel, r.hB⟩
        have fin : ∀ (ρ2 : Map) (us : List Value), Gl ρ1 ρ2 → VRs ρ2 us vs' → us.all oneC = true → VR ρ2 (lstV (chunkC (isOneT E e) sz n us)) (.slice (some ⟨x.B, x.sh + o, none⟩) n c') := by
          intro ρ2 us gl2 hus hone
          have hul : us.length = n * sz := by
            have := hus.length
            rw [← this]; exact a1
          obtain ⟨k1, k2, k3⟩ := chunkC_ok (one := isOneT E e) (sz := sz) (n := n) (fun h1 => by rw [← hss]; exact slots_one h1) hul hone
          have hkey : ρ2.ls x.B = some ⟨x.B, 0, c0.size, 0, c0.toList⟩ := gl2.1.ls _ _ (updL_same _ _ _)
          have := VR.lst (ρ := ρ2) (es := chunkC (isOneT E e) sz n us) (cs' := vs') (B := x.B) (o := x.sh + o) (sz := sz) (c' := c') hkey (by rw [k1]; exact hus) hsub k2 (by rw [k3]; exact hle)
          rw [k3] at this
          exact this
        split at h5
        · exact ⟨ρ1, _, s1, h5, fin ρ1 vs (Gl.refl _) (a2.ext gl.1) f5, r1, gl, f7, fun _ => rfl, rfl⟩
        · obtain ⟨ρ2, us, s3, b1, b2, b3, b4, b5, b6⟩ := frzGo_ok ih _ ρ1 vs vs' _ s1 w q h5 (a2.ext gl.1) r1
          exact ⟨ρ2, _, s3, b1, fin ρ2 us b4 b2 (b6 f5), b3, gl.trans b4, b5.trans f7, fun _ => rfl, rfl⟩
    · exact (fail_run h).elim
theorem frzT_ok (t : TypeId) : Frz P B0 w0 (frzT E t) := by
  intro ρ v v' k s w q h hv r
  unfold frzT at h
  split at h
  · exact frzL_ok 20 _ ρ v v' k s w q h hv r
  · split at h
    · exact ⟨ρ, v, s, h, hv, r, Gl.refl ρ, rfl, fun q => q, rfl⟩
    · split at h
      · rename_i vs
        cases hv with
        | @agg _ vs' hvs =>
        obtain ⟨ρ1, vs1, s1, a1, a2, a3, a4, a5, a6⟩ := frzGo_ok (frzL_ok 20) _ ρ vs vs' _ s w q h hvs r
        refine ⟨ρ1, _, s1, a1, .agg a2, a3, a4, a5, fun q => (nomatch q), ?_⟩
        show vs1.length = vs.length
        rw [← hvs.length, ← a2.length]
      · exact (fail_run h).elim
  · exact ⟨ρ, v, s, h, hv, r, Gl.refl ρ, rfl, fun q => q, rfl⟩
theorem frzPs_ok {e : TypeId} : ∀ (ps : List (Nat × Value)) (ρ : Map) (ps' : List (Nat × Value)) (k : List (Nat × Value) → Prog) (s : St) (w : World) (q : Value × St), (frzPs E e ps k).run s = some q → PsR ρ ps ps' → WR P ρ B0 w0 s.mem w →
    ∃ ρ1 ps1 s1, (k ps1).run s1 = some q ∧ PsR ρ1 ps1 ps' ∧ WR P ρ1 B0 w0 s1.mem w ∧ Gl ρ ρ1 ∧ s1.ctr = s.ctr := by
  intro ps
  induction ps with
  | nil => intro ρ ps' k s w q h hp r; exact ⟨ρ, [], s, h, hp, r, Gl.refl ρ, rfl⟩
  | cons p ps ih =>
    intro ρ ps' k s w q h hp r
    cases hp with
    | @cons i v v' _ l' h1 h2 =>
      simp only [frzPs] at h
      obtain ⟨ρ0, v1, s0, b1, b2, b3, b4, b5, _⟩ := frzT_ok e ρ v v' _ s w q h h1 r
      obtain ⟨ρ1, ps1, s1, a1, a2, a3, a4, a5⟩ := ih ρ0 l' _ s0 w q b1 (h2.ext b4.1) b3
      exact ⟨ρ1, _, s1, a1, .cons (b2.ext a4.1) a2, a3, b4.trans a4, a5.trans b5⟩
theorem frzAs_ok {m : Nat} : ∀ (ts : List TypeId) (i : Nat) (ρ : Map) (vs vs' : List Value) (k : List Value → Prog) (s : St) (w : World) (q : Value × St), (frzAs E m i ts vs k).run s = some q → VRs ρ vs vs' → WR P ρ B0 w0 s.mem w →
    ∃ ρ1 vs1 s1, (k vs1).run s1 = some q ∧ VRs ρ1 vs1 vs' ∧ WR P ρ1 B0 w0 s1.mem w ∧ Gl ρ ρ1 ∧ s1.ctr = s.ctr := by
  intro ts
  induction ts with
  | nil => intro i ρ vs vs' k s w q h hv r; exact ⟨ρ, vs, s, h, hv, r, Gl.refl ρ, rfl⟩
  | cons t ts ih =>
    intro i ρ vs vs' k s w q h hv r
    cases hv with
    | nil => exact ⟨ρ, [], s, h, .nil, r, Gl.refl ρ, rfl⟩
    | @cons v v' vs vs' h1 h2 =>
      simp only [frzAs] at h
      split at h
      · obtain ⟨ρ1, vs1, s1, a1, a2, a3, a4, a5⟩ := ih _ ρ vs vs' _ s w q h h2 r
        exact ⟨ρ1, _, s1, a1, .cons (h1.ext a4.1) a2, a3, a4, a5⟩
      · obtain ⟨ρ0, v1, s0, b1, b2, b3, b4, b5, _⟩ := frzT_ok t ρ v v' _ s w q h h1 r
        obtain ⟨ρ1, vs1, s1, a1, a2, a3, a4, a5⟩ := ih _ ρ0 vs vs' _ s0 w q b1 (h2.ext b4.1) b3
        exact ⟨ρ1, _, s1, a1, .cons (b2.ext a4.1) a2, a3, b4.trans a4, a5.trans b5⟩
end
end Go.Ev
