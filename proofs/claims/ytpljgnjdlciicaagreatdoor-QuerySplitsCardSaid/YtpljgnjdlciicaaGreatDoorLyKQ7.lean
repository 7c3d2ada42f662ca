/- What the evaluator does depends on what it says it touched, and changes what it says it wrote: nothing else. -/
import Derived.Test.YtpljgnjdlciicaaGreatDoorLyKQ4
namespace Go.Ev
open Go

def touched (l : List Acc) (k : Nat) : Prop := ∃ a ∈ l, a.k ≤ k ∧ k < a.k + a.n
def wrote (l : List Acc) (k : Nat) : Prop := ∃ a ∈ l, a.w = true ∧ a.k ≤ k ∧ k < a.k + a.n
theorem wrote.touched {l : List Acc} {k : Nat} (h : wrote l k) : touched l k := let ⟨a, b, _, d⟩ := h; ⟨a, b, d⟩
theorem touched_app {a b : List Acc} {k : Nat} : touched (a ++ b) k ↔ touched a k ∨ touched b k := by
  constructor
  · rintro ⟨x, h, e⟩
    rcases List.mem_append.1 h with h | h
    · exact .inl ⟨x, h, e⟩
    · exact .inr ⟨x, h, e⟩
  · rintro (⟨x, h, e⟩ | ⟨x, h, e⟩)
    · exact ⟨x, List.mem_append_left _ h, e⟩
    · exact ⟨x, List.mem_append_right _ h, e⟩
theorem wrote_app {a b : List Acc} {k : Nat} : wrote (a ++ b) k ↔ wrote a k ∨ wrote b k := by
  constructor
  · rintro ⟨x, h, e⟩
    rcases List.mem_append.1 h with h | h
    · exact .inl ⟨x, h, e⟩
    · exact .inr ⟨x, h, e⟩
  · rintro (⟨x, h, e⟩ | ⟨x, h, e⟩)
    · exact ⟨x, List.mem_append_left _ h, e⟩
    · exact ⟨x, List.mem_append_right _ h, e⟩
theorem touched_cons {x : Acc} {l : List Acc} {k : Nat} : touched (x :: l) k ↔ (x.k ≤ k ∧ k < x.k + x.n) ∨ touched l k := by
  constructor
  · rintro ⟨y, h, e⟩
    rcases List.mem_cons.1 h with rfl | h
    · exact .inl e
    · exact .inr ⟨y, h, e⟩
  · rintro (e | ⟨y, h, e⟩)
    · exact ⟨x, List.mem_cons_self .., e⟩
    · exact ⟨y, List.mem_cons_of_mem _ h, e⟩
theorem wrote_cons {x : Acc} {l : List Acc} {k : Nat} : wrote (x :: l) k ↔ (x.w = true ∧ x.k ≤ k ∧ k < x.k + x.n) ∨ wrote l k := by
  constructor
  · rintro ⟨y, h, e⟩
    rcases List.mem_cons.1 h with rfl | h
    · exact .inl e
    · exact .inr ⟨y, h, e⟩
  · rintro (e | ⟨y, h, e⟩)
    · exact ⟨x, List.mem_cons_self .., e⟩
    · exact ⟨y, List.mem_cons_of_mem _ h, e⟩
theorem wrote_nil {k : Nat} : ¬ wrote [] k := fun ⟨_, h, _⟩ => by cases h
theorem touched_nil {k : Nat} : ¬ touched [] k := fun ⟨_, h, _⟩ => by cases h

/-- What is so of one run. -/
structure Loc1 (s s' : St) (sg : List Acc) : Prop where
  log : s'.log = sg ++ s.log
  ctr : s.ctr ≤ s'.ctr
  keep : ∀ k, ¬ wrote sg k → s'.mem.get k = s.mem.get k
  cov : ∀ k, s.ctr ≤ k → k < s'.ctr → wrote sg k
/-- The same run from a state that is alike where the run looked. -/
structure Loc2 (s' t t' : St) (sg : List Acc) : Prop where
  ctr : t'.ctr = s'.ctr
  log : t'.log = sg ++ t.log
  wr : ∀ k, wrote sg k → t'.mem.get k = s'.mem.get k
  keep : ∀ k, ¬ wrote sg k → t'.mem.get k = t.mem.get k
def Loc {α : Type} (F : St → Option (α × St)) : Prop :=
  ∀ s v s', F s = some (v, s') → ∃ sg, Loc1 s s' sg ∧ ∀ t : St, t.ctr = s.ctr → (∀ k, touched sg k → t.mem.get k = s.mem.get k) → ∃ t', F t = some (v, t') ∧ Loc2 s' t t' sg

def andThen {α β : Type} (F : St → Option (α × St)) (G : α → St → Option (β × St)) (s : St) : Option (β × St) :=
  match F s with
  | some (a, s') => G a s'
  | none => none
theorem Loc.bind {α β : Type} {F : St → Option (α × St)} {G : α → St → Option (β × St)} (hF : Loc F) (hG : ∀ a, Loc (G a)) : Loc (andThen F G) := by
  intro s v s' h
  unfold andThen at h
  split at h
  · rename_i a s1 h1
    obtain ⟨g1, l1, q1⟩ := hF s a s1 h1
    obtain ⟨g2, l2, q2⟩ := hG a s1 v s' h
    refine ⟨g2 ++ g1, ⟨by rw [l2.log, l1.log, List.append_assoc], Nat.le_trans l1.ctr l2.ctr, ?_, ?_⟩, ?_⟩
    · intro k hk
      rw [l2.keep k (fun e => hk (wrote_app.2 (.inl e))), l1.keep k (fun e => hk (wrote_app.2 (.inr e)))]
    · intro k h1 h2
      by_cases hk : k < s1.ctr
      · exact wrote_app.2 (.inr (l1.cov k h1 hk))
      · exact wrote_app.2 (.inl (l2.cov k (by omega) h2))
    · intro t hc ht
      obtain ⟨t1, e1, m1⟩ := q1 t hc (fun k hk => ht k (touched_app.2 (.inr hk)))
      have hc1 : t1.ctr = s1.ctr := m1.ctr
      obtain ⟨t2, e2, m2⟩ := q2 t1 hc1 (fun k hk => by
        by_cases hw : wrote g1 k
        · exact m1.wr k hw
        · rw [m1.keep k hw, l1.keep k hw]
          exact ht k (touched_app.2 (.inl hk)))
      refine ⟨t2, by unfold andThen; rw [e1]; exact e2, ⟨m2.ctr, by rw [m2.log, m1.log, List.append_assoc], ?_, ?_⟩⟩
      · intro k hk
        by_cases hw : wrote g2 k
        · exact m2.wr k hw
        · rw [m2.keep k hw, l2.keep k hw]
          exact m1.wr k ((wrote_app.1 hk).resolve_left hw)
      · intro k hk
        rw [m2.keep k (fun e => hk (wrote_app.2 (.inl e))), m1.keep k (fun e => hk (wrote_app.2 (.inr e)))]
  · cases h
theorem Loc.ret {α : Type} (v : α) : Loc (fun s => some (v, s)) := by
  intro s v' s' h
  simp only [Option.some.injEq, Prod.mk.injEq] at h
  obtain ⟨rfl, rfl⟩ := h
  exact ⟨[], ⟨rfl, Nat.le_refl _, fun _ _ => rfl, fun k h1 h2 => absurd h2 (by omega)⟩, fun t hc _ => ⟨t, rfl, ⟨hc, rfl, fun k h => absurd h wrote_nil, fun _ _ => rfl⟩⟩⟩
theorem Loc.none {α : Type} : Loc (fun _ => (none : Option (α × St))) := fun s v s' h => by cases h

/-! ### The small steps -/
theorem rdCells_congr {m m' : Tr Slot} (b : Nat) : ∀ (n o : Nat), (∀ k, b + 1 + o ≤ k → k < b + 1 + o + n → m'.get k = m.get k) → rdCells m' b n o = rdCells m b n o := by
  intro n
  induction n with
  | zero => intro o h; rfl
  | succ n ih =>
    intro o h
    have e : m'.get (b + 1 + o) = m.get (b + 1 + o) := h (b + 1 + o) (Nat.le_refl _) (by omega)
    have e2 := ih (o + 1) (fun k h1 h2 => h k (by omega) (by omega))
    simp only [rdCells, Nat.add_eq, e, e2]
theorem loc_rd (b n o : Nat) : Loc (fun s => s.rd b n o) := by
  rintro ⟨m, c, l⟩ vs s' h
  simp only [St.rd] at h
  split at h
  · rename_i hd hb
    split at h
    · rename_i vs' hr
      simp only [Option.some.injEq, Prod.mk.injEq] at h
      obtain ⟨rfl, rfl⟩ := h
      have hnw : ∀ k, ¬ wrote [⟨false, b + 1 + o, n⟩, ⟨false, b, 1⟩] k := by
        intro k h
        rcases wrote_cons.1 h with h | h
        · cases h.1
        · rcases wrote_cons.1 h with h | h
          · cases h.1
          · exact wrote_nil h
      refine ⟨[⟨false, b + 1 + o, n⟩, ⟨false, b, 1⟩], ⟨rfl, Nat.le_refl _, fun _ _ => rfl, fun k (h1 : c ≤ k) (h2 : k < c) => absurd h2 (by omega)⟩, ?_⟩
      rintro ⟨mt, ct, lt⟩ hc ht
      simp only at hc ht
      have e1 : mt.get b = m.get b := ht b (touched_cons.2 (.inr (touched_cons.2 (.inl ⟨Nat.le_refl _, by simp only; omega⟩))))
      have e2 : rdCells mt b n o = rdCells m b n o := rdCells_congr b n o fun k h1 h2 => ht k (touched_cons.2 (.inl ⟨h1, h2⟩))
      refine ⟨⟨mt, ct, [⟨false, b + 1 + o, n⟩, ⟨false, b, 1⟩] ++ lt⟩, ?_, ⟨hc, rfl, fun k h => absurd h (hnw k), fun _ _ => rfl⟩⟩
      simp only [St.rd, e1, hb, e2, hr]
      rfl
    · cases h
  · cases h
theorem killLog_eq (l : List Nat) : ∀ (r : List Acc), ∃ sg, killLog l r = sg ++ r ∧ ∀ k, (wrote sg k ↔ k ∈ l) ∧ (touched sg k ↔ k ∈ l) := by
  induction l with
  | nil => exact fun r => ⟨[], rfl, fun k => ⟨⟨fun h => absurd h wrote_nil, fun h => by cases h⟩, ⟨fun h => absurd h touched_nil, fun h => by cases h⟩⟩⟩
  | cons x l ih =>
    intro r
    obtain ⟨sg, e, hw⟩ := ih (⟨true, x, 1⟩ :: r)
    refine ⟨sg ++ [⟨true, x, 1⟩], by rw [killLog, e, List.append_assoc]; rfl, fun k => ⟨?_, ?_⟩⟩
    · rw [wrote_app, (hw k).1, List.mem_cons, wrote_cons]
      constructor
      · rintro (h | h | h)
        · exact .inr h
        · exact .inl (by have := h.2; simp only at this; omega)
        · exact absurd h wrote_nil
      · rintro (rfl | h)
        · exact .inr (.inl ⟨rfl, Nat.le_refl _, by simp⟩)
        · exact .inl h
    · rw [touched_app, (hw k).2, List.mem_cons, touched_cons]
      constructor
      · rintro (h | h | h)
        · exact .inr h
        · exact .inl (by simp only at h; omega)
        · exact absurd h touched_nil
      · rintro (rfl | h)
        · exact .inr (.inl ⟨Nat.le_refl _, by simp⟩)
        · exact .inl h
theorem touched_at {k : Nat} (w : Bool) (l : List Acc) : touched (⟨w, k, 1⟩ :: l) k := touched_cons.2 (.inl ⟨Nat.le_refl _, by simp⟩)
theorem wrote_one {j k : Nat} : wrote [⟨true, j, 1⟩] k ↔ k = j := by
  rw [wrote_cons]
  constructor
  · rintro (h | h)
    · have := h.2; simp only at this; omega
    · exact absurd h wrote_nil
  · rintro rfl; exact .inl ⟨rfl, Nat.le_refl _, by simp⟩
theorem wrote_look {j k n : Nat} : ¬ wrote [⟨false, j, n⟩] k := fun h => by
  rcases wrote_cons.1 h with h | h
  · cases h.1
  · exact wrote_nil h
/-- A look at one place. -/
noncomputable def lookF {α : Type} (b : Nat) (f : Option Slot → Option α) (s : St) : Option (α × St) :=
  match f (s.mem.get b) with | some a => some (a, ⟨s.mem, s.ctr, ⟨false, b, 1⟩ :: s.log⟩) | none => none
theorem loc_look {α : Type} (b : Nat) (f : Option Slot → Option α) : Loc (lookF b f) := by
  intro s v s' h
  unfold lookF at h ⊢
  split at h
  · rename_i a hf
    simp only [Option.some.injEq, Prod.mk.injEq] at h
    obtain ⟨rfl, rfl⟩ := h
    refine ⟨[⟨false, b, 1⟩], ⟨rfl, Nat.le_refl _, fun _ _ => rfl, fun k (h1 : s.ctr ≤ k) (h2 : k < s.ctr) => absurd h2 (by omega)⟩, fun t hc ht => ?_⟩
    have e1 : t.mem.get b = s.mem.get b := ht b (touched_at _ _)
    refine ⟨⟨t.mem, t.ctr, ⟨false, b, 1⟩ :: t.log⟩, ?_, ⟨hc, rfl, fun k h => absurd h wrote_look, fun _ _ => rfl⟩⟩
    simp only [e1, hf]
  · cases h
def objF : Option Slot → Option Slot
  | some (.hdr _) | some (.cell _ _) | none => none
  | some o => some o
def hdF : Option Slot → Option Hdr
  | some (.hdr h) => some h
  | _ => none
def isObjF : Option Slot → Bool
  | some (.hdr _) | some (.cell _ _) | none => false
  | some _ => true
def isHdF : Option Slot → Bool
  | some (.hdr _) => true
  | _ => false
theorem loc_obj (i : Nat) : Loc (fun s => s.obj i) := by
  have : (fun s : St => s.obj i) = lookF i objF := by
    funext s
    obtain ⟨m, c, l⟩ := s
    simp only [St.obj, lookF]
    cases m.get i with
    | none => rfl
    | some o => cases o <;> rfl
  rw [this]
  exact loc_look i objF
theorem loc_hd (i : Nat) : Loc (fun s => s.hd i) := by
  have : (fun s : St => s.hd i) = lookF i hdF := by
    funext s
    obtain ⟨m, c, l⟩ := s
    simp only [St.hd, lookF]
    cases m.get i with
    | none => rfl
    | some o => cases o <;> rfl
  rw [this]
  exact loc_look i hdF
/-- One place is set, if what is there allows it. -/
theorem loc_put (b : Nat) (f : Option Slot → Bool) (o : Slot) :
    Loc (fun s => match f (s.mem.get b) with | true => some ((), ⟨s.mem.set b (some o), s.ctr, ⟨true, b, 1⟩ :: s.log⟩) | false => none) := by
  intro s v s' h
  simp only at h
  split at h
  · rename_i hf
    simp only [Option.some.injEq, Prod.mk.injEq] at h
    obtain ⟨-, rfl⟩ := h
    refine ⟨[⟨true, b, 1⟩], ⟨rfl, Nat.le_refl _, fun k hk => ?_, fun k (h1 : s.ctr ≤ k) (h2 : k < s.ctr) => absurd h2 (by omega)⟩, fun t hc ht => ?_⟩
    · exact Tr.get_set_ne _ _ (fun e => hk (wrote_one.2 e))
    · have e1 : t.mem.get b = s.mem.get b := ht b (touched_at _ _)
      refine ⟨⟨t.mem.set b (some o), t.ctr, ⟨true, b, 1⟩ :: t.log⟩, ?_, ⟨hc, rfl, fun k h => ?_, fun k hk => ?_⟩⟩
      · simp only [e1, hf]
      · obtain rfl := wrote_one.1 h
        show (t.mem.set k _).get k = (s.mem.set k _).get k
        rw [Tr.get_set_same, Tr.get_set_same]
      · exact Tr.get_set_ne _ _ (fun e => hk (wrote_one.2 e))
  · cases h
def lift (F : St → Option St) (s : St) : Option (Unit × St) := match F s with | some s => some ((), s) | none => none
theorem loc_setObj (i : Nat) (o : Slot) : Loc (lift fun s => s.setObj i o) := by
  have : (lift fun s => s.setObj i o) = (fun s => match isObjF (s.mem.get i) with
      | true => some ((), ⟨s.mem.set i (some o), s.ctr, ⟨true, i, 1⟩ :: s.log⟩) | false => none) := by
    funext s
    obtain ⟨m, c, l⟩ := s
    simp only [lift, St.setObj]
    cases m.get i with
    | none => rfl
    | some o => cases o <;> rfl
  rw [this]
  exact loc_put i isObjF o
theorem loc_setHd (i : Nat) (h : Hdr) : Loc (lift fun s => s.setHd i h) := by
  have : (lift fun s => s.setHd i h) = (fun s => match isHdF (s.mem.get i) with
      | true => some ((), ⟨s.mem.set i (some (.hdr h)), s.ctr, ⟨true, i, 1⟩ :: s.log⟩) | false => none) := by
    funext s
    obtain ⟨m, c, l⟩ := s
    simp only [lift, St.setHd]
    cases m.get i with
    | none => rfl
    | some o => cases o <;> rfl
  rw [this]
  exact loc_put i isHdF (.hdr h)
theorem layCells_at (b : Nat) (vs : List Value) (k : Nat) (m : Tr Slot) (j : Nat) (h : ¬ (k ≤ j ∧ j < k + vs.length)) : (layCells b vs k m).get j = m.get j := by
  induction vs generalizing k m with
  | nil => rfl
  | cons v vs ih =>
    simp only [List.length_cons] at h
    rw [layCells, ih (Nat.add k 1) _ (by simp only [Nat.add_eq]; omega)]
    exact Tr.get_set_ne _ _ (by omega)
theorem layCells_in (b : Nat) (vs : List Value) (k : Nat) (m m' : Tr Slot) (j : Nat) (h : k ≤ j ∧ j < k + vs.length) : (layCells b vs k m').get j = (layCells b vs k m).get j := by
  induction vs generalizing k m m' with
  | nil => simp at h; omega
  | cons v vs ih =>
    simp only [List.length_cons] at h
    rw [layCells, layCells]
    by_cases hj : j = k
    · subst hj
      rw [layCells_at _ _ _ _ _ (by simp only [Nat.add_eq]; omega), layCells_at _ _ _ _ _ (by simp only [Nat.add_eq]; omega), Tr.get_set_same, Tr.get_set_same]
    · exact ih (Nat.add k 1) _ _ (by simp only [Nat.add_eq]; omega)
theorem loc_newObj (o : Slot) : Loc (fun s => some (s.newObj o)) := by
  rintro ⟨m, c, l⟩ v s' h
  simp only [St.newObj, Option.some.injEq, Prod.mk.injEq] at h
  obtain ⟨rfl, rfl⟩ := h
  refine ⟨[⟨true, c, 1⟩], ⟨rfl, Nat.le_succ _, fun k hk => Tr.get_set_ne _ _ (fun e => hk (wrote_one.2 e)), fun k (h1 : c ≤ k) (h2 : k < c + 1) => wrote_one.2 (by omega)⟩, ?_⟩
  rintro ⟨mt, ct, lt⟩ hc ht
  simp only at hc
  subst hc
  refine ⟨⟨mt.set ct (some o), Nat.add ct 1, ⟨true, ct, 1⟩ :: lt⟩, rfl, ⟨rfl, rfl, fun k h => ?_, fun k hk => Tr.get_set_ne _ _ (fun e => hk (wrote_one.2 e))⟩⟩
  obtain rfl := wrote_one.1 h
  show (mt.set k _).get k = (m.set k _).get k
  rw [Tr.get_set_same, Tr.get_set_same]
theorem wrote_range {a n k : Nat} : wrote [⟨true, a, n⟩] k ↔ a ≤ k ∧ k < a + n := by
  rw [wrote_cons]
  constructor
  · rintro (h | h)
    · exact h.2
    · exact absurd h wrote_nil
  · intro h; exact .inl ⟨rfl, h⟩
theorem loc_newH (h : Hdr) (vs : List Value) (hl : vs.length ≤ h.n) : Loc (fun s => some (s.newH h vs)) := by
  rintro ⟨m, c, l⟩ v s' e
  simp only [St.newH, Option.some.injEq, Prod.mk.injEq, Nat.add_eq] at e
  obtain ⟨rfl, rfl⟩ := e
  refine ⟨[⟨true, c, h.n + 1⟩], ⟨rfl, by show c ≤ c + h.n + 1; omega, fun k hk => ?_, fun k (h1 : c ≤ k) (h2 : k < c + h.n + 1) => wrote_range.2 (by omega)⟩, ?_⟩
  · have hk := fun e => hk (wrote_range.2 e)
    show (layCells c vs (c + 1) (m.set c _)).get k = m.get k
    rw [layCells_at _ _ _ _ _ (fun e => hk (by omega)), Tr.get_set_ne _ _ (fun e => hk (by omega))]
  · rintro ⟨mt, ct, lt⟩ hc ht
    simp only at hc ht
    subst hc
    refine ⟨_, rfl, ⟨rfl, rfl, fun k hk => ?_, fun k hk => ?_⟩⟩
    · show (layCells ct vs (ct + 1) (mt.set ct _)).get k = (layCells ct vs (ct + 1) (m.set ct _)).get k
      by_cases hin : ct + 1 ≤ k ∧ k < ct + 1 + vs.length
      · exact layCells_in _ _ _ _ _ _ hin
      · rw [layCells_at _ _ _ _ _ hin, layCells_at _ _ _ _ _ hin]
        by_cases hk0 : k = ct
        · rw [hk0, Tr.get_set_same, Tr.get_set_same]
        · rw [Tr.get_set_ne _ _ hk0, Tr.get_set_ne _ _ hk0]
          exact ht k hk.touched
    · have hk := fun e => hk (wrote_range.2 e)
      show (layCells ct vs (ct + 1) (mt.set ct _)).get k = mt.get k
      rw [layCells_at _ _ _ _ _ (fun e => hk (by omega)), Tr.get_set_ne _ _ (fun e => hk (by omega))]
theorem kill_at (l : List Nat) : ∀ (m : Tr Slot) (k : Nat), (kill l m).get k = if k ∈ l then none else m.get k := by
  induction l with
  | nil => intro m k; simp [kill]
  | cons x l ih =>
    intro m k
    rw [kill, ih, Tr.get_set]
    by_cases h1 : k ∈ l
    · simp [h1]
    · by_cases h2 : k = x
      · simp [h2]
      · simp [h1, h2]
theorem loc_wr (b o : Nat) (vs : List Value) : Loc (lift fun s => s.wr b o vs) := by
  rintro ⟨m, c, l⟩ v s' e
  simp only [lift, St.wr] at e
  split at e
  · rename_i s1 e1
    simp only [Option.some.injEq, Prod.mk.injEq] at e
    obtain ⟨-, rfl⟩ := e
    split at e1
    · rename_i n el ro ex z fz sy mv olds hb
      split at e1
      · cases e1
      · rename_i hg
        split at e1
        · simp only [Option.some.injEq, Nat.add_eq] at e1
          subst e1
          have hw : ∀ k, wrote [⟨true, b + 1 + o, vs.length⟩, ⟨false, b, 1⟩] k ↔ b + 1 + o ≤ k ∧ k < b + 1 + o + vs.length := by
            intro k
            rw [wrote_cons]
            constructor
            · rintro (h | h)
              · exact h.2
              · exact absurd h wrote_look
            · intro h; exact .inl ⟨rfl, h⟩
          refine ⟨[⟨true, b + 1 + o, vs.length⟩, ⟨false, b, 1⟩], ⟨rfl, Nat.le_refl _, fun k hk => layCells_at _ _ _ _ _ (fun e => hk ((hw k).2 e)), fun k (h1 : c ≤ k) (h2 : k < c) => absurd h2 (by omega)⟩, ?_⟩
          rintro ⟨mt, ct, lt⟩ hc ht
          simp only at hc ht
          subst hc
          have e1 : mt.get b = m.get b := ht b (touched_cons.2 (.inr (touched_at _ _)))
          refine ⟨⟨layCells b vs (b + 1 + o) mt, ct, [⟨true, b + 1 + o, vs.length⟩, ⟨false, b, 1⟩] ++ lt⟩, ?_, ⟨rfl, rfl, fun k hk => layCells_in _ _ _ _ _ _ ((hw k).1 hk), fun k hk => layCells_at _ _ _ _ _ (fun e => hk ((hw k).2 e))⟩⟩
          simp only [lift, St.wr, e1, hb, hg]
          rfl
        · rename_i k0 ks
          simp only [Option.some.injEq, Nat.add_eq] at e1
          subst e1
          obtain ⟨sg, hsg, hsk⟩ := killLog_eq (k0 :: ks) l
          have hw : ∀ k, wrote (⟨true, b + 1 + o, vs.length⟩ :: ⟨true, b, 1⟩ :: sg) k ↔ (b + 1 + o ≤ k ∧ k < b + 1 + o + vs.length) ∨ k = b ∨ k ∈ k0 :: ks := by
            intro k
            rw [wrote_cons, wrote_cons, (hsk k).1]
            constructor
            · rintro (h | h | h)
              · exact .inl h.2
              · have := h.2; simp only at this; exact .inr (.inl (by omega))
              · exact .inr (.inr h)
            · rintro (h | h | h)
              · exact .inl ⟨rfl, h⟩
              · exact .inr (.inl ⟨rfl, by simp only; omega, by simp only; omega⟩)
              · exact .inr (.inr h)
          have hkeep : ∀ (mm : Tr Slot) (h' : Slot) (k : Nat), ¬ wrote (⟨true, b + 1 + o, vs.length⟩ :: ⟨true, b, 1⟩ :: sg) k → (layCells b vs (b + 1 + o) ((kill (k0 :: ks) mm).set b (some h'))).get k = mm.get k := by
            intro mm h' k hk
            have hk := fun e => hk ((hw k).2 e)
            rw [layCells_at _ _ _ _ _ (fun e => hk (.inl e)), Tr.get_set_ne _ _ (fun e => hk (.inr (.inl e))), kill_at, if_neg (fun e => hk (.inr (.inr e)))]
          refine ⟨⟨true, b + 1 + o, vs.length⟩ :: ⟨true, b, 1⟩ :: sg, ⟨by simp only [hsg]; rfl, Nat.le_refl _, fun k hk => hkeep m _ k hk, fun k (h1 : c ≤ k) (h2 : k < c) => absurd h2 (by omega)⟩, ?_⟩
          rintro ⟨mt, ct, lt⟩ hc ht
          simp only at hc ht
          subst hc
          have e1 : mt.get b = m.get b := ht b (touched_cons.2 (.inr (touched_at _ _)))
          obtain ⟨sg2, hsg2, -⟩ := killLog_eq (k0 :: ks) lt
          have hsame : ∀ (l' : List Nat) (a b : List Acc), ∃ sg, killLog l' a = sg ++ a ∧ killLog l' b = sg ++ b := by
            intro l'
            induction l' with
            | nil => exact fun a b => ⟨[], rfl, rfl⟩
            | cons x l' ih =>
              intro a b
              obtain ⟨sg, q1, q2⟩ := ih (⟨true, x, 1⟩ :: a) (⟨true, x, 1⟩ :: b)
              exact ⟨sg ++ [⟨true, x, 1⟩], by rw [killLog, q1]; simp, by rw [killLog, q2]; simp⟩
          have hsgt : killLog (k0 :: ks) lt = sg ++ lt := by
            obtain ⟨sg3, q1, q2⟩ := hsame (k0 :: ks) l lt
            rw [hsg] at q1
            rw [q2, List.append_cancel_right q1]
          refine ⟨⟨layCells b vs (b + 1 + o) ((kill (k0 :: ks) mt).set b (some (.hdr ⟨n, el, ro, ex, z, fz, sy, mv, []⟩))), ct, (⟨true, b + 1 + o, vs.length⟩ :: ⟨true, b, 1⟩ :: sg) ++ lt⟩, ?_, ⟨rfl, rfl, fun k hk => ?_, fun k hk => hkeep mt _ k hk⟩⟩
          · simp only [lift, St.wr, e1, hb, hg, hsgt]
            rfl
          · show (layCells b vs (b + 1 + o) ((kill (k0 :: ks) mt).set b _)).get k = (layCells b vs (b + 1 + o) ((kill (k0 :: ks) m).set b _)).get k
            by_cases hin : b + 1 + o ≤ k ∧ k < b + 1 + o + vs.length
            · exact layCells_in _ _ _ _ _ _ hin
            · rw [layCells_at _ _ _ _ _ hin, layCells_at _ _ _ _ _ hin]
              by_cases hk0 : k = b
              · rw [hk0, Tr.get_set_same, Tr.get_set_same]
              · rw [Tr.get_set_ne _ _ hk0, Tr.get_set_ne _ _ hk0, kill_at, kill_at]
                rcases (hw k).1 hk with h | h | h
                · exact absurd h hin
                · exact absurd h hk0
                · rw [if_pos h, if_pos h]
    · cases e1
  · cases e
theorem killLog_same : ∀ (l' : List Nat) (a b : List Acc), ∃ sg, killLog l' a = sg ++ a ∧ killLog l' b = sg ++ b := by
  intro l'
  induction l' with
  | nil => exact fun a b => ⟨[], rfl, rfl⟩
  | cons x l' ih =>
    intro a b
    obtain ⟨sg, q1, q2⟩ := ih (⟨true, x, 1⟩ :: a) (⟨true, x, 1⟩ :: b)
    exact ⟨sg ++ [⟨true, x, 1⟩], by rw [killLog, q1]; simp, by rw [killLog, q2]; simp⟩
theorem loc_frz (b n o : Nat) : Loc (fun s => s.frz b n o) := by
  rintro ⟨m, c, l⟩ vs s' e
  simp only [St.frz] at e
  split at e
  · rename_i hn el ro ex z fz sy mv olds hb
    split at e
    · cases e
    · rename_i hg
      split at e
      · rename_i vs' hr
        split at e
        rotate_left
        · cases e
        rename_i hall
        simp only [Option.some.injEq, Prod.mk.injEq, Nat.add_eq] at e
        obtain ⟨rfl, rfl⟩ := e
        obtain ⟨sg, hsg, hsk⟩ := killLog_eq olds (⟨false, b + 1 + o, n⟩ :: l)
        have hw : ∀ k, wrote (⟨true, b, 1⟩ :: (sg ++ [⟨false, b + 1 + o, n⟩])) k ↔ k = b ∨ k ∈ olds := by
          intro k
          rw [wrote_cons, wrote_app, (hsk k).1]
          constructor
          · rintro (h | h | h)
            · have := h.2; simp only at this; exact .inl (by omega)
            · exact .inr h
            · exact absurd h wrote_look
          · rintro (h | h)
            · exact .inl ⟨rfl, by simp only; omega, by simp only; omega⟩
            · exact .inr (.inl h)
        have hkeep : ∀ (mm : Tr Slot) (k : Nat), ¬ wrote (⟨true, b, 1⟩ :: (sg ++ [⟨false, b + 1 + o, n⟩])) k → ((kill olds mm).set b none).get k = mm.get k := by
          intro mm k hk
          have hk := fun e => hk ((hw k).2 e)
          rw [Tr.get_set_ne _ _ (fun e => hk (.inl e)), kill_at, if_neg (fun e => hk (.inr e))]
        refine ⟨⟨true, b, 1⟩ :: (sg ++ [⟨false, b + 1 + o, n⟩]), ⟨by simp only [hsg, List.cons_append, List.append_assoc, List.nil_append], Nat.le_refl _, fun k hk => hkeep m k hk, fun k (h1 : c ≤ k) (h2 : k < c) => absurd h2 (by omega)⟩, ?_⟩
        rintro ⟨mt, ct, lt⟩ hc ht
        simp only at hc ht
        subst hc
        have e1 : mt.get b = m.get b := ht b (touched_at _ _)
        have e2 : rdCells mt b n o = rdCells m b n o := rdCells_congr b n o fun k h1 h2 => ht k (touched_cons.2 (.inr (touched_app.2 (.inr (touched_cons.2 (.inl ⟨h1, h2⟩))))))
        have hsgt : killLog olds (⟨false, b + 1 + o, n⟩ :: lt) = sg ++ ⟨false, b + 1 + o, n⟩ :: lt := by
          obtain ⟨sg3, q1, q2⟩ := killLog_same olds (⟨false, b + 1 + o, n⟩ :: l) (⟨false, b + 1 + o, n⟩ :: lt)
          rw [hsg] at q1
          rw [q2, List.append_cancel_right q1]
        refine ⟨⟨(kill olds mt).set b none, ct, (⟨true, b, 1⟩ :: (sg ++ [⟨false, b + 1 + o, n⟩])) ++ lt⟩, ?_, ⟨rfl, rfl, fun k hk => ?_, fun k hk => hkeep mt k hk⟩⟩
        · simp only [St.frz, e1, hb, hg, e2, hr, hall, Nat.add_eq, hsgt, List.cons_append, List.append_assoc, List.nil_append]
        · show ((kill olds mt).set b none).get k = ((kill olds m).set b none).get k
          by_cases hk0 : k = b
          · rw [hk0, Tr.get_set_same, Tr.get_set_same]
          · rw [Tr.get_set_ne _ _ hk0, Tr.get_set_ne _ _ hk0, kill_at, kill_at]
            rcases (hw k).1 hk with h | h
            · exact absurd h hk0
            · rw [if_pos h, if_pos h]
      · cases e
  · cases e
theorem Prog.loc : ∀ p : Prog, Loc p.run := by
  intro p
  induction p with
  | ret v => exact .ret v
  | fail => exact .none
  | rd b n o k ih =>
    have e : (Prog.rd b n o k).run = andThen (fun s => s.rd b n o) (fun a => (k a).run) := by
      funext s
      simp only [Prog.run, andThen]
      cases s.rd b n o <;> rfl
    rw [e]; exact (loc_rd b n o).bind ih
  | wr b o vs k ih =>
    have := (loc_wr b o vs).bind (fun _ => ih)
    have e : (Prog.wr b o vs k).run = andThen (lift fun s => s.wr b o vs) (fun _ => k.run) := by
      funext s
      simp only [Prog.run, andThen, lift]
      cases s.wr b o vs <;> rfl
    rw [e]; exact this
  | newH h vs k ih =>
    by_cases hl : vs.length ≤ h.n
    · have e : (Prog.newH h vs k).run = andThen (fun s => some (s.newH h vs)) (fun a => (k a).run) := by
        funext s
        simp only [Prog.run, andThen, Nat.ble_eq_true_of_le hl]
      rw [e]; exact (loc_newH h vs hl).bind ih
    · have e : (Prog.newH h vs k).run = fun _ => none := by
        funext s
        have : Nat.ble vs.length h.n = false := by
          cases hb : Nat.ble vs.length h.n with
          | true => exact absurd (Nat.le_of_ble_eq_true hb) hl
          | false => rfl
        simp only [Prog.run, this]
      rw [e]; exact .none
  | newObj o k ih => exact (loc_newObj o).bind ih
  | obj i k ih =>
    have e : (Prog.obj i k).run = andThen (fun s => s.obj i) (fun a => (k a).run) := by
      funext s
      simp only [Prog.run, andThen]
      cases s.obj i <;> rfl
    rw [e]; exact (loc_obj i).bind ih
  | setObj i o k ih =>
    have := (loc_setObj i o).bind (fun _ => ih)
    have e : (Prog.setObj i o k).run = andThen (lift fun s => s.setObj i o) (fun _ => k.run) := by
      funext s
      simp only [Prog.run, andThen, lift]
      cases s.setObj i o <;> rfl
    rw [e]; exact this
  | hd b k ih =>
    have e : (Prog.hd b k).run = andThen (fun s => s.hd b) (fun a => (k a).run) := by
      funext s
      simp only [Prog.run, andThen]
      cases s.hd b <;> rfl
    rw [e]; exact (loc_hd b).bind ih
  | setHd b h k ih =>
    have := (loc_setHd b h).bind (fun _ => ih)
    have e : (Prog.setHd b h k).run = andThen (lift fun s => s.setHd b h) (fun _ => k.run) := by
      funext s
      simp only [Prog.run, andThen, lift]
      cases s.setHd b h <;> rfl
    rw [e]; exact this
  | frz b n o k ih =>
    have e : (Prog.frz b n o k).run = andThen (fun s => s.frz b n o) (fun a => (k a).run) := by
      funext s
      simp only [Prog.run, andThen]
      cases s.frz b n o <;> rfl
    rw [e]; exact (loc_frz b n o).bind ih
  | ite b p q ihp ihq => cases b with
    | true => exact ihp
    | false => exact ihq
  | call p k ihp ih =>
    have e : (Prog.call p k).run = andThen p.run (fun a => (k a).run) := by
      funext s
      simp only [Prog.run, andThen]
      cases p.run s <;> rfl
    rw [e]; exact ihp.bind ih
  | seg p k ihp ih =>
    let F : St → Option ((Value × List Acc × Nat) × St) := fun s => match p.run ⟨s.mem, s.ctr, []⟩ with
      | some (v, s1) => some ((v, s1.log, s1.ctr), ⟨s1.mem, s1.ctr, s1.log ++ s.log⟩)
      | none => none
    have hF : Loc F := by
      intro s v s' h
      simp only [F] at h
      split at h
      · rename_i v1 s1 h1
        simp only [Option.some.injEq, Prod.mk.injEq] at h
        obtain ⟨rfl, rfl⟩ := h
        obtain ⟨sg, l1, q⟩ := ihp _ _ _ h1
        have hl : s1.log = sg := by rw [l1.log]; simp
        refine ⟨sg, ⟨by rw [hl], l1.ctr, l1.keep, l1.cov⟩, fun t hc ht => ?_⟩
        obtain ⟨t1, e1, m1⟩ := q ⟨t.mem, t.ctr, []⟩ hc ht
        have hl1 : t1.log = sg := by rw [m1.log]; simp
        refine ⟨⟨t1.mem, t1.ctr, t1.log ++ t.log⟩, ?_, ⟨m1.ctr, by rw [hl1], m1.wr, m1.keep⟩⟩
        simp only [F, e1, hl, hl1, m1.ctr]
      · cases h
    have e : (Prog.seg p k).run = andThen F (fun x => (k x.1 x.2.1 x.2.2).run) := by
      funext s
      obtain ⟨m, c, l⟩ := s
      simp only [Prog.run, andThen, F]
      cases p.run ⟨m, c, []⟩ with
      | none => rfl
      | some r => obtain ⟨v, m1, c1, l1⟩ := r; rfl
    rw [e]
    exact hF.bind (fun x => ih x.1 x.2.1 x.2.2)
theorem Prog.ctr_le {p : Prog} {s s' : St} {v : Value} (h : p.run s = some (v, s')) : s.ctr ≤ s'.ctr := by
  obtain ⟨_, l, _⟩ := p.loc s v s' h
  exact l.ctr

/-! ### What a run says of its parts -/
section
variable {s s' : St} {v : Value}
theorem opt_run {α : Type} {x : Option α} {k : α → Prog} {r : Value × St} (h : (opt x k).run s = some r) : ∃ a, x = some a ∧ (k a).run s = some r := by
  cases x with
  | none => cases h
  | some a => exact ⟨a, rfl, h⟩
theorem ite_run {b : Bool} {p q : Prog} {r : Value × St} (h : (Prog.ite b p q).run s = some r) : (b = true ∧ p.run s = some r) ∨ (b = false ∧ q.run s = some r) := by
  cases b with
  | true => exact .inl ⟨rfl, h⟩
  | false => exact .inr ⟨rfl, h⟩
theorem gd_run {b : Bool} {k : Prog} {r : Value × St} (h : (gd b k).run s = some r) : b = true ∧ k.run s = some r := by
  cases b with
  | false => cases h
  | true => exact ⟨rfl, h⟩
theorem ret_run {u : Value} (h : (Prog.ret u).run s = some (v, s')) : v = u ∧ s' = s := by
  simp only [Prog.run, Option.some.injEq, Prod.mk.injEq] at h
  exact ⟨h.1.symm, h.2.symm⟩
theorem fail_run {r : Value × St} (h : Prog.fail.run s = some r) : False := by cases h
theorem rd_run {b n o : Nat} {k : List Value → Prog} {r : Value × St} (h : (Prog.rd b n o k).run s = some r) : ∃ vs s1, s.rd b n o = some (vs, s1) ∧ (k vs).run s1 = some r := by
  simp only [Prog.run] at h
  split at h
  · rename_i vs s1 e; exact ⟨vs, s1, e, h⟩
  · cases h
theorem wr_run {b o : Nat} {vs : List Value} {k : Prog} {r : Value × St} (h : (Prog.wr b o vs k).run s = some r) : ∃ s1, s.wr b o vs = some s1 ∧ k.run s1 = some r := by
  simp only [Prog.run] at h
  split at h
  · rename_i s1 e; exact ⟨s1, e, h⟩
  · cases h
theorem newH_run {hd : Hdr} {vs : List Value} {k : Nat → Prog} {r : Value × St} (h : (Prog.newH hd vs k).run s = some r) : vs.length ≤ hd.n ∧
    (k s.ctr).run ⟨layCells s.ctr vs (s.ctr + 1) (s.mem.set s.ctr (some (.hdr hd))), s.ctr + hd.n + 1, ⟨true, s.ctr, hd.n + 1⟩ :: s.log⟩ = some r := by
  obtain ⟨m, c, l⟩ := s
  simp only [Prog.run] at h
  split at h
  · rename_i e; exact ⟨Nat.le_of_ble_eq_true e, h⟩
  · cases h
theorem new_run {el : TypeId} {ex z sy : Bool} {vs : List Value} {k : Nat → Prog} {r : Value × St} (h : (Prog.new el ex vs z sy k).run s = some r) :
    (k s.ctr).run ⟨layCells s.ctr vs (s.ctr + 1) (s.mem.set s.ctr (some (.hdr ⟨vs.length, el, false, ex, z, 0, sy, false, []⟩))), s.ctr + vs.length + 1, ⟨true, s.ctr, vs.length + 1⟩ :: s.log⟩ = some r :=
  (newH_run h).2
theorem newObj_run {o : Slot} {k : Nat → Prog} {r : Value × St} (h : (Prog.newObj o k).run s = some r) : (k s.ctr).run ⟨s.mem.set s.ctr (some o), s.ctr + 1, ⟨true, s.ctr, 1⟩ :: s.log⟩ = some r := by
  obtain ⟨m, c, l⟩ := s
  exact h
theorem obj_run {i : Nat} {k : Slot → Prog} {r : Value × St} (h : (Prog.obj i k).run s = some r) : ∃ o, s.mem.get i = some o ∧ (∀ x, o ≠ .hdr x) ∧ (∀ b x, o ≠ .cell b x) ∧
    (k o).run ⟨s.mem, s.ctr, ⟨false, i, 1⟩ :: s.log⟩ = some r := by
  obtain ⟨m, c, l⟩ := s
  simp only [Prog.run, St.obj] at h
  cases hm : m.get i with
  | none => simp [hm] at h
  | some o =>
    rw [hm] at h
    cases o <;> first | (cases h; done) | exact ⟨_, rfl, fun x e => (by cases e), fun b x e => (by cases e), h⟩
theorem setObj_run {i : Nat} {o : Slot} {k : Prog} {r : Value × St} (h : (Prog.setObj i o k).run s = some r) : ∃ o0, s.mem.get i = some o0 ∧ (∀ x, o0 ≠ .hdr x) ∧ (∀ b x, o0 ≠ .cell b x) ∧
    k.run ⟨s.mem.set i (some o), s.ctr, ⟨true, i, 1⟩ :: s.log⟩ = some r := by
  obtain ⟨m, c, l⟩ := s
  simp only [Prog.run, St.setObj] at h
  cases hm : m.get i with
  | none => simp [hm] at h
  | some o =>
    rw [hm] at h
    cases o <;> first | (cases h; done) | exact ⟨_, rfl, fun x e => (by cases e), fun b x e => (by cases e), h⟩
theorem hd_run {b : Nat} {k : Hdr → Prog} {r : Value × St} (h : (Prog.hd b k).run s = some r) : ∃ x, s.mem.get b = some (.hdr x) ∧ (k x).run ⟨s.mem, s.ctr, ⟨false, b, 1⟩ :: s.log⟩ = some r := by
  obtain ⟨m, c, l⟩ := s
  simp only [Prog.run, St.hd] at h
  cases hm : m.get b with
  | none => simp [hm] at h
  | some o =>
    rw [hm] at h
    cases o <;> first | (cases h; done) | exact ⟨_, rfl, h⟩
theorem setHd_run {b : Nat} {x : Hdr} {k : Prog} {r : Value × St} (h : (Prog.setHd b x k).run s = some r) : ∃ x0, s.mem.get b = some (.hdr x0) ∧ k.run ⟨s.mem.set b (some (.hdr x)), s.ctr, ⟨true, b, 1⟩ :: s.log⟩ = some r := by
  obtain ⟨m, c, l⟩ := s
  simp only [Prog.run, St.setHd] at h
  cases hm : m.get b with
  | none => simp [hm] at h
  | some o =>
    rw [hm] at h
    cases o <;> first | (cases h; done) | exact ⟨_, rfl, h⟩
theorem call_run {p : Prog} {k : Value → Prog} {r : Value × St} (h : (Prog.call p k).run s = some r) : ∃ u s1, p.run s = some (u, s1) ∧ (k u).run s1 = some r := by
  simp only [Prog.run] at h
  split at h
  · rename_i u s1 e; exact ⟨u, s1, e, h⟩
  · cases h
theorem ck_run {b : Bool} {k : Prog} {r : Value × St} (h : (ck b k).run s = some r) : b = true ∧ k.run s = some r := by
  cases b with
  | false => cases h
  | true => exact ⟨rfl, h⟩
theorem gc_run {b : Bool} {k : Prog} {r : Value × St} (h : (gc b k).run s = some r) : b = true ∧ k.run s = some r := by
  cases b with
  | false => cases h
  | true => exact ⟨rfl, h⟩
theorem frz_run {b n o : Nat} {k : List Value → Prog} {r : Value × St} (h : (Prog.frz b n o k).run s = some r) : ∃ vs s1, s.frz b n o = some (vs, s1) ∧ (k vs).run s1 = some r := by
  simp only [Prog.run] at h
  split at h
  · rename_i vs s1 e; exact ⟨vs, s1, e, h⟩
  · cases h
theorem natP_run {v : Value} {k : Nat → Prog} {r : Value × St} (h : (natP v k).run s = some r) : ∃ n, natOf v = some n ∧ (k n).run s = some r := by
  unfold natP at h
  split at h
  · rename_i kd n
    obtain ⟨h1, h2⟩ := gd_run h
    have h1 := of_decide_eq_true h1
    cases n with
    | ofNat n => exact ⟨n, rfl, h2⟩
    | negSucc n => exact absurd h1 (by simp)
  · cases h
theorem natOrP_run {d : Nat} {o : Option Value} {k : Nat → Prog} {r : Value × St} (h : (natOrP d o k).run s = some r) : ∃ n, natOr d o = some n ∧ (k n).run s = some r := by
  cases o with
  | none => exact ⟨d, rfl, h⟩
  | some v => exact natP_run h
theorem callP_eq (k : Value → Prog) (s : St) : ∀ p : Prog, (callP k p).run s = (Prog.call p k).run s
  | .ret _ | .fail | .rd .. | .wr .. | .newH .. | .newObj .. | .obj .. | .setObj .. | .hd .. | .setHd .. | .frz .. | .call .. | .seg .. => rfl
  | .ite b p q => by
    have ih := callP_eq k s p
    cases q <;> first
      | rfl
      | (cases b with
        | true => simp only [callP, Prog.run] at ih ⊢; exact ih
        | false => rfl)
theorem callP_run {p : Prog} {k : Value → Prog} {r : Value × St} (h : (callP k p).run s = some r) : ∃ u s1, p.run s = some (u, s1) ∧ (k u).run s1 = some r :=
  call_run ((callP_eq k s p).symm.trans h)
theorem pure_run : ∀ {p : Prog} {s s' : St} {v : Value}, isPure p = true → p.run s = some (v, s') → s' = s ∧ ∀ t : St, p.run t = some (v, t)
  | .ret u, s, s', v, _, h => by
    obtain ⟨rfl, rfl⟩ := ret_run h
    exact ⟨rfl, fun _ => rfl⟩
  | .fail, _, _, _, _, h => by cases h
  | .ite b p q, s, s', v, hp, h => by
    simp only [isPure, Bool.and_eq_true] at hp
    cases b with
    | true => exact pure_run (p := p) hp.1 h
    | false => exact pure_run (p := q) hp.2 h
theorem seg_run {p : Prog} {k : Value → List Acc → Nat → Prog} {r : Value × St} (h : (Prog.seg p k).run s = some r) : ∃ u s1, p.run ⟨s.mem, s.ctr, []⟩ = some (u, s1) ∧
    (k u s1.log s1.ctr).run ⟨s1.mem, s1.ctr, s1.log ++ s.log⟩ = some r := by
  obtain ⟨m, c, l⟩ := s
  simp only [Prog.run] at h
  split at h
  · rename_i u m1 c1 l1 e; exact ⟨u, ⟨m1, c1, l1⟩, e, h⟩
  · cases h
end
end Go.Ev
