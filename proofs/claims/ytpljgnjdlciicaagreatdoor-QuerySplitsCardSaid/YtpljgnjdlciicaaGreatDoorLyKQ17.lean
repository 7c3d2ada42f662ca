/- Soundness, part 22: regions of open order: footprints, masks, what an operation looks at. -/
import Derived.Test.YtpljgnjdlciicaaGreatDoorLyKQ16
namespace Go.Ev
open Go Go.RowKit

/-! ### Footprints -/
theorem writesOf_mem {l : List Acc} {a : Acc} (h : a ∈ l) (hw : a.w = true) : a ∈ writesOf l := by
  induction l with
  | nil => cases h
  | cons b l ih =>
    simp only [writesOf]
    rcases List.mem_cons.1 h with rfl | h
    · rw [hw]; exact List.mem_cons_self ..
    · split
      · exact List.mem_cons_of_mem _ (ih h)
      · exact ih h
theorem blt_of {a b : Nat} (h : a < b) : Nat.blt a b = true := Nat.ble_eq_true_of_le h
theorem hits_of {a : Acc} {k : Nat} (ha : a.k ≤ k ∧ k < a.k + a.n) : ∀ {l : List Acc}, touched l k → hits a l = true := by
  intro l
  induction l with
  | nil => intro h; exact (touched_nil h).elim
  | cons b l ih =>
    intro h
    simp only [hits, Bool.or_eq_true]
    rcases touched_cons.1 h with h | h
    · left
      simp only [overlap, Nat.add_eq, Bool.and_eq_true]
      exact ⟨blt_of (by omega), blt_of (by omega)⟩
    · exact .inr (ih h)
theorem anyHits_of {k : Nat} {b : List Acc} (hb : touched b k) : ∀ {l : List Acc}, touched l k → anyHits l b = true := by
  intro l
  induction l with
  | nil => intro h; exact (touched_nil h).elim
  | cons a l ih =>
    intro h
    simp only [anyHits, Bool.or_eq_true]
    rcases touched_cons.1 h with h | h
    · exact .inl (hits_of h hb)
    · exact .inr (ih h)
theorem wrote_writes {l : List Acc} {k : Nat} (h : wrote l k) : touched (writesOf l) k := by
  obtain ⟨a, h1, h2, h3⟩ := h
  exact ⟨a, writesOf_mem h1 h2, h3⟩
theorem apartLogs_spec {a b : List Acc} (h : apartLogs (writesOf a) a (writesOf b) b = true) (k : Nat) : ¬ (wrote a k ∧ touched b k) ∧ ¬ (touched a k ∧ wrote b k) := by
  simp only [apartLogs, Bool.and_eq_true] at h
  obtain ⟨h1, h2⟩ := h
  constructor
  · rintro ⟨ha, hb⟩
    have hw := wrote_writes ha
    have := anyHits_of hb hw
    split at h1
    · rename_i e; rw [e] at hw; exact touched_nil hw
    · rw [this] at h1; cases h1
  · rintro ⟨ha, hb⟩
    have hw := wrote_writes hb
    have := anyHits_of ha hw
    split at h2
    · rename_i e; rw [e] at hw; exact touched_nil hw
    · rw [this] at h2; cases h2

/-! ### Masks -/
theorem shiftLeft_one_bit {m j : Nat} (h : Nat.testBit (Nat.shiftLeft 1 m) j = true) : j = m := by
  have e : Nat.shiftLeft 1 m = 2 ^ m := Nat.one_shiftLeft m
  rw [e, Nat.testBit_two_pow] at h
  exact (of_decide_eq_true h).symm
theorem maskFold_spec {before : List Nat} {j : Nat} : ∀ (l : List Edge) (m0 : Nat),
    Nat.testBit (l.foldl (fun m e => match bindsAny e with
      | true => Nat.lor (Nat.lor m (Nat.shiftLeft 1 e.on)) ((before[e.on]?).getD 0)
      | false => m) m0) j = true → Nat.testBit m0 j = true ∨ ∃ e ∈ l, bindsAny e = true ∧ (j = e.on ∨ Nat.testBit ((before[e.on]?).getD 0) j = true) := by
  intro l
  induction l with
  | nil => intro m0 h; exact .inl h
  | cons e l ih =>
    intro m0 h
    rw [List.foldl_cons] at h
    rcases ih _ h with h | ⟨e', h1, h2, h3⟩
    · split at h
      · rename_i hb
        have h : Nat.testBit ((m0 ||| Nat.shiftLeft 1 e.on) ||| ((before[e.on]?).getD 0)) j = true := h
        rw [Nat.testBit_or, Nat.testBit_or, Bool.or_eq_true, Bool.or_eq_true] at h
        rcases h with (h | h) | h
        · exact .inl h
        · exact .inr ⟨e, List.mem_cons_self .., hb, .inl (shiftLeft_one_bit h)⟩
        · exact .inr ⟨e, List.mem_cons_self .., hb, .inr h⟩
      · exact .inl h
    · exact .inr ⟨e', List.mem_cons_of_mem _ h1, h2, h3⟩
theorem masksOf_get {R : Nat → Rc} {i k : Nat} : ((masksOf R i)[k]?).getD 0 = if k < i then (R k).mask else 0 := by
  unfold masksOf
  rw [List.getElem?_map]
  by_cases h : k < i
  · rw [if_pos h, List.getElem?_range h]; rfl
  · rw [if_neg h, List.getElem?_eq_none (by simpa using Nat.le_of_not_lt h)]; rfl
theorem maskOf_spec {R : Nat → Rc} {i j : Nat} {o : Oper} (h : Nat.testBit (maskOf (masksOf R i) o) j = true) :
    ∃ e ∈ o.after.toList, bindsAny e = true ∧ (j = e.on ∨ Nat.testBit (R e.on).mask j = true) := by
  rcases maskFold_spec _ _ h with h | ⟨e, h1, h2, h3⟩
  · simp at h
  · refine ⟨e, h1, h2, h3.imp id fun h => ?_⟩
    rw [masksOf_get] at h
    split at h
    · exact h
    · simp at h
theorem edgesOk_spec {i : Nat} {o : Oper} (h : edgesOk i o = true) {e : Edge} (he : e ∈ o.after.toList) (hb : bindsAny e = true) : e.on < i := by
  have := List.all_eq_true.1 h e he
  rw [hb] at this
  simp only [Bool.not_true, Bool.false_or] at this
  exact Nat.le_of_ble_eq_true this

/-! ### What an operation looks at -/
theorem evO_congr {tm tm' : Tm} {x : Operand} (h : ∀ t, x = .tmp t → tm.get t = tm'.get t) : evO tm x = evO tm' x := by
  cases x with
  | tmp t => exact h t rfl
  | _ => rfl
theorem plainOp_congr {E : Env} {ρ ρ' : Operand → Value} (op : Op) (h : ∀ x ∈ op.operands, ρ x = ρ' x) : plainOp E ρ op = plainOp E ρ' op := by
  have pairs : ∀ ps : Array (Nat × Operand), (∀ x ∈ ps.map (·.2), ρ x = ρ' x) →
      (ps.toList.map fun (i, x) => (i, ρ x)) = (ps.toList.map fun (i, x) => (i, ρ' x)) := fun ps hp =>
    List.map_congr_left fun p hm => by
      obtain ⟨i, x⟩ := p
      simp only [hp x (Array.mem_map.2 ⟨(i, x), by simpa using hm, rfl⟩)]
  cases op <;> simp only [Op.operands] at h <;> simp only [plainOp]
  case build t ps => rw [pairs ps fun x hx => h x (by simpa using hx)]
  case buildSlice t n ps => rw [pairs ps fun x hx => h x (by simpa using hx)]
  case makeFunc fn first captured =>
    rw [Array.map_congr_left (xs := first) fun x hx => h x (by simp [hx]), Array.map_congr_left (xs := captured) fun x hx => h x (by simp [hx])]
  case makeMap t r => cases r <;> simp_all
  case slice t x lo hi mx => cases lo <;> cases hi <;> cases mx <;> simp_all
  all_goals (first | rfl | (simp_all; done))
theorem resolveA_congr {ρ ρ' : Operand → Value} (c : Call) (h : ∀ x ∈ c.operands, ρ x = ρ' x) : resolveA ρ c = resolveA ρ' c := by
  have hargs : c.args.toList.map ρ = c.args.toList.map ρ' := List.map_congr_left fun x hx => h x (by simp [Call.operands]; exact .inr (by simpa using hx))
  unfold resolveA
  simp only [hargs]
  cases hc : c.callee with
  | value f => have hf : ρ f = ρ' f := h f (by simp [Call.operands, hc]); simp only [hf]
  | _ => rfl
theorem opA_congr {E : Env} {ih : Rec} {tm tm' : Tm} (o : Oper) (h : ∀ x ∈ o.op.operands, evO tm x = evO tm' x) : opA E ih tm o = opA E ih tm' o := by
  obtain ⟨dst, op, type, pos, after, gd0⟩ := o
  unfold opA
  dsimp only at h ⊢
  split
  · rename_i c
    have hargs : c.args.toList.map (evO tm) = c.args.toList.map (evO tm') := List.map_congr_left fun x hx => h x (by simp [Op.operands, Call.operands]; exact .inr (by simpa using hx))
    split
    · rw [hargs]
    · rename_i f hcal
      rw [h f (by simp [Op.operands, Call.operands, hcal]), hargs]
    · rfl
  · exact plainOp_congr _ h
theorem looks_congr {ops : Array Oper} {tm tm' : Tm} (o : Oper) (h : ∀ t, t ∈ o.looksAt ops → tm.get t = tm'.get t) : ∀ x ∈ o.op.operands, evO tm x = evO tm' x :=
  fun x hx => evO_congr fun t e => h t (by
    subst e
    exact List.mem_append_left _ (List.mem_filterMap.2 ⟨.tmp t, by simpa using hx, rfl⟩))
theorem putT_get (tm : Tm) (d : Option Nat) (v : Value) (t : Nat) : (putT tm d v).get t = if d = some t ∧ t < tm.nt then v else tm.get t := by
  cases d with
  | none => simp [putT]
  | some d =>
    obtain ⟨nt, tr⟩ := tm
    simp only [putT, Tm.set, Option.some.injEq]
    split
    · rename_i hlt
      have hlt : d < nt := Nat.le_of_ble_eq_true hlt
      simp only [Tm.get, Tr.get_set]
      by_cases e : t = d
      · subst e; rw [if_pos rfl, if_pos ⟨rfl, hlt⟩]
      · rw [if_neg e, if_neg (fun h => e h.1.symm)]
    · rename_i hlt
      rw [if_neg]
      rintro ⟨rfl, h⟩
      rw [blt_of h] at hlt; cases hlt

/-! ### How many are left -/
def leftOf (listed : Array Bool) : Nat → Nat
  | 0 => 0
  | i + 1 => leftOf listed i + (if listed.getD i true = true then 0 else 1)
theorem getD_set_self {l : Array Bool} {i : Nat} (h : i < l.size) (d : Bool) : (l.setIfInBounds i true).getD i d = true := by
  rw [Array.getD_eq_getD_getElem?, Array.getElem?_setIfInBounds_self, if_pos h]; rfl
theorem getD_set_other {l : Array Bool} {i j : Nat} (h : j ≠ i) (d : Bool) : (l.setIfInBounds i true).getD j d = l.getD j d := by
  rw [Array.getD_eq_getD_getElem?, Array.getD_eq_getD_getElem?, Array.getElem?_setIfInBounds_ne (Ne.symm h)]
theorem leftOf_set_above {l : Array Bool} {p : Nat} : ∀ n, n ≤ p → leftOf (l.setIfInBounds p true) n = leftOf l n := by
  intro n
  induction n with
  | zero => intro _; rfl
  | succ n ih =>
    intro h
    simp only [leftOf]
    rw [ih (by omega), getD_set_other (by omega)]
theorem leftOf_set {l : Array Bool} {p : Nat} (hp : l.getD p true = false) (hs : p < l.size) : ∀ n, p < n → leftOf (l.setIfInBounds p true) n + 1 = leftOf l n := by
  intro n
  induction n with
  | zero => intro h; omega
  | succ n ih =>
    intro h
    simp only [leftOf]
    by_cases e : p = n
    · subst e
      rw [leftOf_set_above _ (Nat.le_refl _), getD_set_self hs, hp]; simp
    · rw [getD_set_other (fun x => e x.symm), ← ih (by omega)]
      omega
theorem leftOf_zero {l : Array Bool} : ∀ n, leftOf l n = 0 → ∀ j, j < n → l.getD j true = true := by
  intro n
  induction n with
  | zero => intro _ j h; omega
  | succ n ih =>
    intro h j hj
    simp only [leftOf] at h
    by_cases e : j = n
    · subst e
      cases hb : l.getD j true with
      | true => rfl
      | false => rw [hb] at h; simp at h
    · exact ih (by omega) j (by omega)
theorem leftOf_replicate : ∀ (m n : Nat), n ≤ m → leftOf (Array.replicate m false) n = n := by
  intro m n
  induction n with
  | zero => intro _; rfl
  | succ n ih =>
    intro h
    simp only [leftOf]
    have e : (Array.replicate m false).getD n true = false := by
      rw [Array.getD_eq_getD_getElem?, Array.getElem?_replicate, if_pos (show n < m by omega)]; rfl
    rw [ih (by omega), e]
    rfl
end Go.Ev
/- Soundness, part 23: regions of open order. -/
namespace Go.Ev
open Go Go.RowKit

/-! ### The turns' facts -/
section
variable {E : Env} {ih : Rec} {ops : Array Oper} {R : Nat → Rc}
def Turned (E : Env) (ih : Rec) (ops : Array Oper) (R : Nat → Rc) : Prop :=
  ∀ j, j < ops.size → ∃ o, Turn E ih ops R j o ∧ (R j).mask = maskOf (masksOf R j) o ∧ ∀ j' oj, j' < j → ops[j']? = some oj →
    Nat.testBit (R j).mask j' = true ∨ (oj.apart ops o = true ∧ apartLogs (writesOf (R j').sg) (R j').sg (writesOf (R j).sg) (R j).sg = true)
theorem Turn.keepM {i : Nat} {o : Oper} (h : Turn E ih ops R i o) {k : Nat} (hk : ¬ wrote (R i).sg k) : (R (i + 1)).m.get k = (R i).m.get k := by
  cases hw : wantedA ops.toList (R i).tm o with
  | false => obtain ⟨_, _, e, _⟩ := h.skip hw; rw [e]
  | true =>
    obtain ⟨_, hr⟩ := h.run hw
    obtain ⟨sg, l1, _⟩ := Prog.loc _ _ _ _ hr
    have e : (R i).sg = sg := by have := l1.log; simpa using this
    exact l1.keep k (by rw [← e]; exact hk)
theorem Turn.ctr {i : Nat} {o : Oper} (h : Turn E ih ops R i o) : (R i).c ≤ (R (i + 1)).c := by
  cases hw : wantedA ops.toList (R i).tm o with
  | false => obtain ⟨_, _, _, e⟩ := h.skip hw; omega
  | true =>
    obtain ⟨_, hr⟩ := h.run hw
    have := Prog.ctr_le hr
    exact this
theorem Turned.mono (h : Turned E ih ops R) : ∀ (j i : Nat), i ≤ j → j ≤ ops.size → (R i).c ≤ (R j).c := by
  intro j
  induction j with
  | zero => intro i hi _; obtain rfl : i = 0 := by omega
            exact Nat.le_refl _
  | succ j IH =>
    intro i hi hj
    by_cases e : i = j + 1
    · subst e; exact Nat.le_refl _
    · obtain ⟨o, t, _⟩ := h j (by omega)
      exact Nat.le_trans (IH i (by omega) (by omega)) t.ctr
theorem Turned.nt (h : Turned E ih ops R) : ∀ (j : Nat), j ≤ ops.size → (R j).tm.nt = (R 0).tm.nt := by
  intro j
  induction j with
  | zero => intro _; rfl
  | succ j IH =>
    intro hj
    obtain ⟨o, t, _⟩ := h j (by omega)
    rw [t.tmn.1, putT_nt]
    exact IH (by omega)
theorem Turned.mem (h : Turned E ih ops R) : Turns ops.size (fun j k => wrote (R j).sg k) (fun j k => touched (R j).sg k) (fun i j => Nat.testBit (R i).mask j = true) (fun i k => (R i).m.get k) where
  wt := fun j k hw => hw.touched
  conf := fun j i k hj hi hc => by
    obtain ⟨o, t, _, hf⟩ := h i hi
    obtain ⟨oj, tj, _⟩ := h j (by omega)
    rcases hf j oj hj tj.op with hb | ⟨_, ha⟩
    · exact hb
    · obtain ⟨q1, q2⟩ := apartLogs_spec ha k
      exact hc.elim (fun x => absurd x q1) (fun x => absurd x q2)
  keep := fun i k hi hw => by
    obtain ⟨o, t, _⟩ := h i hi
    exact t.keepM hw
theorem Turned.tms (h : Turned E ih ops R) : Turns ops.size (fun j t => ∃ o, ops[j]? = some o ∧ o.dst = some t) (fun j t => ∃ o, ops[j]? = some o ∧ (o.dst = some t ∨ t ∈ o.looksAt ops))
    (fun i j => Nat.testBit (R i).mask j = true) (fun i t => tv (R i).tm t) where
  wt := fun j k ⟨o, h1, h2⟩ => ⟨o, h1, .inl h2⟩
  conf := fun j i k hj hi hc => by
    obtain ⟨o, t, _, hf⟩ := h i hi
    obtain ⟨oj, tj, _⟩ := h j (by omega)
    rcases hf j oj hj tj.op with hb | ⟨ha, _⟩
    · exact hb
    · obtain ⟨q1, q2, q3⟩ := Oper.apart_spec ha
      rcases hc with ⟨⟨x, hx, hd⟩, y, hy, hk⟩ | ⟨⟨x, hx, hk⟩, y, hy, hd⟩
      · rw [tj.op] at hx; rw [t.op] at hy
        obtain rfl := Option.some.inj hx
        obtain rfl := Option.some.inj hy
        rcases hk with hk | hk
        · exact absurd hk (q2 k hd)
        · exact absurd hk (q1 k hd)
      · rw [tj.op] at hx; rw [t.op] at hy
        obtain rfl := Option.some.inj hx
        obtain rfl := Option.some.inj hy
        rcases hk with hk | hk
        · exact absurd hd (q2 k hk)
        · exact absurd hk (q3 k hd)
  keep := fun i k hi hw => by
    obtain ⟨o, t, _⟩ := h i hi
    rw [t.tmn.2, putT_tv, if_neg]
    rintro ⟨hd, _⟩
    exact hw ⟨o, t.op, hd⟩
end
theorem Now.congr {K V : Type} {n : Nat} {W : Nat → K → Prop} {val : Nat → K → V} {L L' : Nat → Prop} {cur : K → V} (h : Now n W val L cur) (e : ∀ j, L j ↔ L' j) : Now n W val L' cur :=
  fun i hi k h1 h2 => h i hi k (fun j hj hw => (e j).2 (h1 j hj hw)) (fun j hj hn hw hl => h2 j hj hn hw ((e j).1 hl))
theorem getD_lt {l : Array Bool} {i : Nat} (h : l.getD i false = true) : i < l.size := by
  rcases Nat.lt_or_ge i l.size with h1 | h1
  · exact h1
  · rw [Array.getD_eq_getD_getElem?, Array.getElem?_eq_none h1] at h
    cases h
theorem getD_any {l : Array Bool} {i : Nat} (h : i < l.size) (a b : Bool) : l.getD i a = l.getD i b := by
  rw [Array.getD_eq_getD_getElem?, Array.getD_eq_getD_getElem?, Array.getElem?_eq_getElem h]; rfl
theorem set_iff {l : Array Bool} {p : Nat} (hp : p < l.size) (j : Nat) : (l.getD j false = true ∨ j = p) ↔ (l.setIfInBounds p true).getD j false = true := by
  by_cases e : j = p
  · subst e; simp [getD_set_self hp]
  · rw [getD_set_other e]; simp [e]

section
variable {P : Program} {E : Env} {B0 : Nat} {w0 : World}
/-- Some of the operations have been carried out. -/
structure At (P : Program) (B0 : Nat) (w0 : World) (ops : Array Oper) (R : Nat → Rc) (fn : Nat) (df : List Deferred) (rd : Option Nat) (b : Frame) (cs : List Frame) (ρ : Map)
    (listed : Array Bool) (ρL : Map) (mL : Tr Slot) (tmL : Tm) (aL : Act) (wL : World) : Prop where
  size : listed.size = ops.size
  closed : ∀ j i, listed.getD i false = true → Nat.testBit (R i).mask j = true → listed.getD j false = true
  mem : Now ops.size (fun j k => wrote (R j).sg k) (fun i k => (R i).m.get k) (fun j => listed.getD j false = true) mL.get
  tms : Now ops.size (fun j t => ∃ o, ops[j]? = some o ∧ o.dst = some t) (fun i t => tv (R i).tm t) (fun j => listed.getD j false = true) (tv tmL)
  nt : tmL.nt = (R 0).tm.nt
  fr : FR P ρL fn tmL df rd b aL cs
  wr : WR P ρL B0 w0 mL wL
  ext : Ext ρ ρL
  grown : ∀ k, (∀ j, listed.getD j false = true → ¬ ((R j).c ≤ k ∧ k < (R (j + 1)).c)) → ρL k = ρ k
theorem At.step (ok : EnvOK P E) {io : Rec} (hm : Main P B0 w0 io) {ops : Array Oper} (hops : ops.toList.all (okOper P.globals.size) = true) {R : Nat → Rc} (hT : Turned E io ops R) {fn : Nat} {df : List Deferred} {rd : Option Nat}
    {b : Frame} {cs : List Frame} {ρ : Map} (gl : GlOK P ρ) (fresh : ∀ k, (R 0).c ≤ k → k < (R ops.size).c → ρ k = none) {listed : Array Bool} {ρL : Map} {mL : Tr Slot} {tmL : Tm} {aL : Act} {wL : World}
    (h : At P B0 w0 ops R fn df rd b cs ρ listed ρL mL tmL aL wL) {p : Nat} {o : Oper} (hop : ops[p]? = some o) (hn : listed.getD p false = false)
    (hready : ∀ e ∈ o.after.toList, bindsAny e = true → listed.getD e.on false = true) (rest : List Nat) (kk : List Item) :
    ∃ ρ' m' tm' a' w', At P B0 w0 ops R fn df rd b cs ρ (listed.setIfInBounds p true) ρ' m' tm' a' w' ∧
      Steps P (lone (b.atR aL (.inRegion ops (p :: rest) :: kk)) cs wL) (lone (b.atR a' (.inRegion ops rest :: kk)) cs w') := by
  have hp : p < ops.size := (Array.getElem?_eq_some_iff.1 hop).1
  have hps : p < listed.size := by rw [h.size]; exact hp
  obtain ⟨o', T, hmask, hfree⟩ := hT p hp
  obtain rfl : o' = o := by have := T.op; rw [hop] at this; exact (Option.some.inj this).symm
  have hoo : okOper P.globals.size o' = true := List.all_eq_true.1 hops o' (by
    have : ops.toList[p]? = some o' := by simpa using hop
    exact List.mem_of_getElem? this)
  have hnL : ¬ (listed.getD p false = true) := by rw [hn]; simp
  have hmL : ∀ j, Nat.testBit (R p).mask j = true → listed.getD j false = true := by
    intro j hj
    rw [hmask] at hj
    obtain ⟨e, h1, h2, h3⟩ := maskOf_spec hj
    have he := hready e h1 h2
    rcases h3 with rfl | h3
    · exact he
    · exact h.closed j e.on he h3
  have vm : ∀ k, touched (R p).sg k → mL.get k = (R p).m.get k := fun k hk => h.mem.view hT.mem h.closed hp hnL hmL hk
  have vt : ∀ t, (o'.dst = some t ∨ t ∈ o'.looksAt ops) → tv tmL t = tv (R p).tm t := fun t ht => h.tms.view hT.tms h.closed hp hnL hmL ⟨o', hop, ht⟩
  have vg : ∀ t, t ∈ o'.looksAt ops → tmL.get t = (R p).tm.get t := fun t ht => congrArg Prod.fst (vt t (.inr ht))
  have hchk : chk ops.toList tmL o' = true := by
    rw [chk_congr (ops := ops) o' fun t ht => congrArg Prod.snd (vt t (.inr ht))]
    exact T.chk
  simp only [chk, Bool.and_eq_true] at hchk
  obtain ⟨hlg, hlo⟩ := hchk
  have hclosed : ∀ j i, (listed.setIfInBounds p true).getD i false = true → Nat.testBit (R i).mask j = true → (listed.setIfInBounds p true).getD j false = true := by
    intro j i hi hb
    refine (set_iff hps j).1 ?_
    rcases (set_iff hps i).2 hi with hi | rfl
    · exact .inl (h.closed j i hi hb)
    · exact .inl (hmL j hb)
  have htms : Now ops.size (fun j t => ∃ o, ops[j]? = some o ∧ o.dst = some t) (fun i t => tv (R i).tm t) (fun j => (listed.setIfInBounds p true).getD j false = true) (tv (putT tmL o'.dst (R p).v)) := by
    refine (h.tms.step hT.tms h.closed hp hnL (fun t ht => ?_) (fun t ht => ?_)).congr (set_iff hps)
    · obtain ⟨x, hx, hd⟩ := ht
      rw [hop] at hx
      obtain rfl := Option.some.inj hx
      rw [T.tmn.2, putT_tv, putT_tv, h.nt, hT.nt p (by omega), vt t (.inl hd)]
    · rw [putT_tv, if_neg]
      rintro ⟨hd, _⟩
      exact ht ⟨o', hop, hd⟩
  have hwc : wantedA ops.toList tmL o' = wantedA ops.toList (R p).tm o' := wantedA_congr o' fun t ht => vg t ht
  have hw := wanted_ok (ops := ops) h.fr.htm o' hlg
  rw [hwc] at hw
  cases hwa : wantedA ops.toList (R p).tm o' with
  | false =>
    obtain ⟨e1, e2, e3, e4⟩ := T.skip hwa
    have hs := stepR_op_skip (P := P) (b := b) (a := aL) (k := kk) (cs := cs) (w := wL) (ops := ops) (i := p) (rest := rest) (by simp [hop, hw, hwa])
    simp only [hop, Option.bind_some] at hs
    refine ⟨ρL, mL, putT tmL o'.dst U, aL.put o'.dst undef, wL, ⟨by simp [h.size], hclosed, ?_, ?_, by rw [putT_nt]; exact h.nt, h.fr.put _ (U_VR ρL), h.wr, h.ext, ?_⟩, .one hs⟩
    · refine (h.mem.step hT.mem h.closed hp hnL (fun k hk => ?_) (fun k _ => rfl)).congr (set_iff hps)
      rw [e2] at hk
      exact (wrote_nil hk).elim
    · rw [e1] at htms; exact htms
    · intro k hk
      exact h.grown k fun j hj => hk j ((set_iff hps j).1 (.inl hj))
  | true =>
    obtain ⟨e1, e2⟩ := T.run hwa
    have hst := stepGR_op (P := P) (b := b) (a := aL) (k := kk) (cs := cs) (w := wL) (rest := rest) hop (by rw [hw, hwa])
    rw [o'.semAt_eq b.roundOf aL.eval (deferOf_none e1)] at hst
    have ec := opA_congr (E := E) (ih := io) (tm := (R p).tm) (tm' := tmL) o' (looks_congr (ops := ops) o' fun t ht => (vg t ht).symm)
    rw [ec] at e2
    obtain ⟨sg, l1, l2⟩ := Prog.loc _ _ _ _ e2
    have esg : (R p).sg = sg := by have := l1.log; simpa using this
    subst esg
    obtain ⟨t', g1, g2⟩ := l2 ⟨mL, (R p).c, []⟩ rfl vm
    have gc : t'.ctr = (R (p + 1)).c := g2.ctr
    have frL : Fr ρL mL (R p).c (R (p + 1)).c := ⟨fun k h1 h2 => by
      rw [h.grown k]
      · exact fresh k (Nat.le_trans (hT.mono p 0 (by omega) (by omega)) h1) (Nat.lt_of_lt_of_le h2 (hT.mono ops.size (p + 1) (by omega) (Nat.le_refl _)))
      · rintro j hj ⟨q1, q2⟩
        have hjs : j < ops.size := by rw [← h.size]; exact getD_lt hj
        rcases Nat.lt_trichotomy j p with x | x | x
        · have := hT.mono p (j + 1) (by omega) (by omega); omega
        · subst x; exact hnL hj
        · have := hT.mono j (p + 1) (by omega) (by omega); omega⟩
    obtain ⟨ρ1, w1, u', k1, k2, k3, k4, k5⟩ := opA_goes ok hm g1 h.wr (by rw [gc]; exact frL) (gl.ext h.ext) h.fr.htm hoo hlo (b.atR aL (.inRegion ops (p :: rest) :: kk)) cs _ (.inl ⟨_, _, _, rfl⟩) (at_lone hst)
    rw [Frame.finish_atR] at k5
    simp only [hop, Option.bind_some] at k5
    rw [gc] at k1
    refine ⟨ρ1, t'.mem, putT tmL o'.dst (R p).v, aL.put o'.dst u', w1, ⟨by simp [h.size], hclosed, ?_, htms, by rw [putT_nt]; exact h.nt, (h.fr.ext k1.1).put _ k3, k4, h.ext.trans k1.1, ?_⟩, k5⟩
    · exact (h.mem.step hT.mem h.closed hp hnL (fun k hk => g2.wr k hk) (fun k hk => g2.keep k hk)).congr (set_iff hps)
    · intro k hk
      rw [k1.2 k (hk p ((set_iff hps p).1 (.inr rfl)))]
      exact h.grown k fun j hj => hk j ((set_iff hps j).1 (.inl hj))
theorem At.all (ok : EnvOK P E) {io : Rec} (hm : Main P B0 w0 io) {ops : Array Oper} (hops : ops.toList.all (okOper P.globals.size) = true) {R : Nat → Rc} (hT : Turned E io ops R) {fn : Nat} {df : List Deferred} {rd : Option Nat}
    {b : Frame} {cs : List Frame} {ρ : Map} (gl : GlOK P ρ) (fresh : ∀ k, (R 0).c ≤ k → k < (R ops.size).c → ρ k = none) (kk : List Item) : ∀ (fuel t : Nat) (listed : Array Bool) (ρL : Map) (mL : Tr Slot) (tmL : Tm) (aL : Act) (wL : World),
    At P B0 w0 ops R fn df rd b cs ρ listed ρL mL tmL aL wL → leftOf listed ops.size = fuel →
    ∃ listed' ρ' m' tm' a' w', At P B0 w0 ops R fn df rd b cs ρ listed' ρ' m' tm' a' w' ∧ (∀ j, j < ops.size → listed'.getD j false = true) ∧
      Steps P (lone (b.atR aL (.inRegion ops (Region.linearise.go .any ops fuel t listed []) :: kk)) cs wL) (lone (b.atR a' (.inRegion ops [] :: kk)) cs w') := by
  intro fuel
  induction fuel with
  | zero =>
    intro t listed ρL mL tmL aL wL h hl
    refine ⟨listed, ρL, mL, tmL, aL, wL, h, fun j hj => ?_, ?_⟩
    · rw [← leftOf_zero _ hl j hj]
      exact getD_any (by rw [h.size]; exact hj) _ _
    · simp only [Region.linearise.go, List.reverse_nil]
      exact Steps.refl _ _
  | succ fuel IH =>
    intro t listed ρL mL tmL aL wL h hl
    simp only [Region.linearise.go]
    change ∃ listed' ρ' m' tm' a' w', At P B0 w0 ops R fn df rd b cs ρ listed' ρ' m' tm' a' w' ∧ (∀ j, j < ops.size → listed'.getD j false = true) ∧
      Steps P (lone (b.atR aL (.inRegion ops (match (Region.ready .any ops listed)[t % (Region.ready .any ops listed).length]? with
      | some i => Region.linearise.go .any ops fuel (t / (Region.ready .any ops listed).length) (listed.setIfInBounds i true) [i]
      | none => [].reverse) :: kk)) cs wL) (lone (b.atR a' (.inRegion ops [] :: kk)) cs w')
    cases hi : (Region.ready .any ops listed)[t % (Region.ready .any ops listed).length]? with
    | none =>
      exfalso
      have hnil : Region.ready .any ops listed = [] := by
        cases hr : Region.ready .any ops listed with
        | nil => rfl
        | cons x xs =>
          rw [hr] at hi
          have hlt : t % (x :: xs).length < (x :: xs).length := Nat.mod_lt _ (by simp)
          simp at hi
          simp at hlt
          omega
      -- all are listed, one behind the other
      have hall : ∀ m, m ≤ ops.size → ∀ j, j < m → listed.getD j true = true := by
        intro m
        induction m with
        | zero => intro _ j hj; omega
        | succ m IHm =>
          intro hm' j hj
          by_cases e : j = m
          · subst e
            cases hb : listed.getD j true with
            | true => rfl
            | false =>
              have hj' : j < ops.size := by omega
              obtain ⟨o, T, _⟩ := hT j hj'
              have : j ∈ Region.ready .any ops listed := by
                refine List.mem_filter.2 ⟨List.mem_range.2 hj', ?_⟩
                rw [hb, T.op]
                simp only [Bool.not_false, Bool.true_and, Option.map_some, Option.getD_some]
                rw [← Array.all_toList]
                refine List.all_eq_true.2 fun e he => ?_
                cases hbe : Region.binds .any e with
                | false => rfl
                | true =>
                  have hlt := edgesOk_spec T.edges he hbe
                  simp only [Bool.not_true, Bool.false_or]
                  rw [getD_any (by rw [h.size]; omega) false true]
                  exact IHm (by omega) e.on hlt
              rw [hnil] at this
              cases this
          · exact IHm (by omega) j (by omega)
      have hz : ∀ m, m ≤ ops.size → leftOf listed m = 0 := by
        intro m
        induction m with
        | zero => intro _; rfl
        | succ m IHm =>
          intro hm'
          simp only [leftOf]
          rw [IHm (by omega), hall ops.size (Nat.le_refl _) m (by omega)]
          rfl
      rw [hz ops.size (Nat.le_refl _)] at hl
      omega
    | some i =>
      dsimp only
      have hmem := List.mem_of_getElem? hi
      obtain ⟨h1, h2⟩ := List.mem_filter.1 hmem
      have his : i < ops.size := List.mem_range.1 h1
      have hils : i < listed.size := by rw [h.size]; exact his
      obtain ⟨o, T, _⟩ := hT i his
      rw [T.op] at h2
      simp only [Option.map_some, Option.getD_some, Bool.and_eq_true, Bool.not_eq_true'] at h2
      obtain ⟨h3, h4⟩ := h2
      rw [← Array.all_toList] at h4
      rw [linearise_go_acc, List.reverse_singleton, List.singleton_append]
      obtain ⟨ρ1, m1, tm1, a1, w1, q1, q2⟩ := At.step ok hm hops hT gl fresh h T.op (by rw [getD_any hils false true]; exact h3) (fun e he hb => by
        have := List.all_eq_true.1 h4 e he
        rw [show Region.binds .any e = true from hb] at this
        simpa using this) (Region.linearise.go .any ops fuel (t / (Region.ready .any ops listed).length) (listed.setIfInBounds i true) []) kk
      obtain ⟨l2, ρ2, m2, tm2, a2, w2, r1, r2, r3⟩ := IH (t / (Region.ready .any ops listed).length) _ _ _ _ _ _ q1 (by
        have := leftOf_set h3 hils ops.size his
        omega)
      exact ⟨l2, ρ2, m2, tm2, a2, w2, r1, r2, q2.trans r3⟩
theorem opsD_ok (ok : EnvOK P E) (mixed : P.follows .mixedOrders = true) {io : Rec} (hm : Main P B0 w0 io) {ops : Array Oper} (hops : ops.toList.all (okOper P.globals.size) = true) {id fn : Nat} {rd : Option Nat} {K : Tm → Prog}
    {tm : Tm} {df : List Deferred} {s s' : St} {v : Value} (h : (opsD E io fn ops ops.toList ops.toList 0 [] [] tm K).run s = some (v, s')) {ρ : Map} {w : World} {b : Frame} {a : Act} {cs : List Frame} {kk : List Item}
    (fr : FR P ρ fn tm df rd b a cs) (r : WR P ρ B0 w0 s.mem w) (fresh : Fr ρ s.mem s.ctr s'.ctr) (gl : GlOK P ρ) :
    ∃ tm1 s1 ρ1 w1 a1, (K tm1).run s1 = some (v, s') ∧ Gr ρ ρ1 s.ctr s1.ctr ∧ s.ctr ≤ s1.ctr ∧ FR P ρ1 fn tm1 df rd b a1 cs ∧ WR P ρ1 B0 w0 s1.mem w1 ∧
      Steps P (lone (b.atR a (.code (.region id ops true) :: kk)) cs w) (lone (b.atR a1 kk) cs w1) := by
  obtain ⟨R, _, q2, q3, q4, q5, s1, q6, q7, q8⟩ := opsD_turns ops.toList 0 tm s (fun _ => ⟨tm, s.mem, s.ctr, U, [], 0, true⟩) (fun j hj => absurd hj (Nat.not_lt_zero j)) (Nat.zero_le _) rfl h
  have hT : Turned E io ops R := fun j hj => q5 j (Nat.zero_le _) hj
  have hle := Prog.ctr_le q6
  have hrep : ∀ j, ¬ ((Array.replicate ops.size false).getD j false = true) := by
    intro j
    rw [Array.getD_eq_getD_getElem?, Array.getElem?_replicate]
    split <;> simp
  have at0 : At P B0 w0 ops R fn df rd b cs ρ (Array.replicate ops.size false) ρ s.mem tm a w.drew :=
    ⟨by simp, fun j i hi => absurd hi (hrep i), Now.first (fun k => by rw [q3]) hT.mem hrep, Now.first (fun k => (q2.2 k).symm) hT.tms hrep, q2.1.symm, fr, r.drew, Ext.refl ρ, fun _ _ => rfl⟩
  obtain ⟨l', ρ1, m1, tm1, a1, w1, h1, h2, h3⟩ := At.all ok hm hops hT gl (fun k e1 e2 => fresh.map k (by rw [q4] at e1; exact e1) (by rw [q8] at hle; omega)) kk ops.size (w.tape w.drawn (.order b.fn id)) _ _ _ _ _ _ at0 (leftOf_replicate _ _ (Nat.le_refl _))
  have hmono : s.ctr ≤ s1.ctr := by
    have := hT.mono ops.size 0 (Nat.zero_le _) (Nat.le_refl _)
    rw [q4] at this
    rw [q8]; exact this
  have hTR : ∀ t, tv (R ops.size).tm t = tv tm1 t := fun t => (h1.tms.last h2 t).symm
  refine ⟨(R ops.size).tm, s1, ρ1, w1, a1, q6, ⟨h1.ext, fun k hk => h1.grown k fun j hj hc => hk ?_⟩, hmono, ?_, ?_, ?_⟩
  · have hjs : j < ops.size := by rw [← h1.size]; exact getD_lt hj
    have e1 := hT.mono j 0 (by omega) (by omega)
    have e2 := hT.mono ops.size (j + 1) (by omega) (Nat.le_refl _)
    rw [q4] at e1
    rw [q8]
    omega
  · refine { h1.fr with htm := ⟨?_, fun t hb => ?_⟩ }
    · rw [hT.nt ops.size (Nat.le_refl _), ← h1.nt]
      exact h1.fr.htm.1
    · have e := hTR t
      rw [show (R ops.size).tm.get t = tm1.get t from congrArg Prod.fst e]
      exact h1.fr.htm.2 t (by rw [← show Nat.testBit (R ops.size).tm.lv t = Nat.testBit tm1.lv t from congrArg Prod.snd e]; exact hb)
  · refine { h1.wr with mr := h1.wr.mr.sub fun k x e => ?_ }
    rw [q7] at e
    rw [h1.mem.last h2 k]
    exact e
  · refine .head stepR_region_draw ?_
    rw [mixed]
    simp only [Region.schedule, Bool.true_or, if_true, Region.linearise]
    exact h3.trans (.one stepR_region_end)
end
end Go.Ev
