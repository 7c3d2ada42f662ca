/- Soundness, part 9: maps. -/
import Derived.Test.YtpljgnjdlciicaaGreatDoorLyKQ9
import Derived.Laws.NewFold
namespace Go.Ev
open Go Go.RowKit
section
variable {P : Program} {E : Env} (ok : EnvOK P E) {ρ : Map} {B0 : Nat} {w0 w : World}

/-! ### Objects -/
theorem run_getObj_of {r : Nat} {o : Obj} (h : w.heap[r]? = some o) (hc : ∀ c e fr, o ≠ .cells c e fr) : (getObj r).run P w = .ok o w := by
  simp only [getObj, Sem.run, h]
theorem run_setObj_of {r : Nat} {o o' : Obj} (h : w.heap[r]? = some o) (hc : ∀ c e fr, o ≠ .cells c e fr) : (setObj r o').run P w = .ok () { w with heap := w.heap.setIfInBounds r o' } := by
  simp only [setObj, Sem.run, h]
theorem isObj_of {o : Slot} (h1 : ∀ x, o ≠ .hdr x) (h2 : ∀ b x, o ≠ .cell b x) : o.isObj = true := by
  cases o <;> first | rfl | exact absurd rfl (h1 _) | exact absurd rfl (h2 _ _)
/-- What an object of the evaluator's memory is in the model's. -/
theorem WR.obj {s : St} (r : WR P ρ B0 w0 s.mem w) {k : Nat} {o : Slot} (h : s.mem.get k = some o) (h1 : ∀ x, o ≠ .hdr x) (h2 : ∀ b x, o ≠ .cell b x) {x : Blk} (hx : ρ k = some x) :
    ∃ ob, (getObj x.B).run P w = .ok ob w ∧ ObR P ρ o ob ∧ w.heap[x.B]? = some ob ∧ x.sh = 0 := by
  obtain ⟨x', ob, e1, e0, e2, e3, e4⟩ := r.mr.obj k o h (isObj_of h1 h2)
  rw [hx] at e1
  obtain rfl := Option.some.inj e1
  exact ⟨ob, run_getObj_of e3 e4.notCells, e4, e3, e0⟩
/-- An object set. -/
theorem WR.setObj {m : Tr Slot} (r : WR P ρ B0 w0 m w) {k : Nat} {o o' : Slot} {ob' : Obj} (h : m.get k = some o) (h1 : ∀ x, o ≠ .hdr x) (h2 : ∀ b x, o ≠ .cell b x) {x : Blk} (hx : ρ k = some x)
    (ho' : o'.isObj = true) (hR : ObR P ρ o' ob') :
    (Go.setObj x.B ob').run P w = .ok () { w with heap := w.heap.setIfInBounds x.B ob' } ∧ WR P ρ B0 w0 (m.set k (some o')) { w with heap := w.heap.setIfInBounds x.B ob' } := by
  obtain ⟨x', ob, e1, e0, e2, e3, e4⟩ := r.mr.obj k o h (isObj_of h1 h2)
  rw [hx] at e1
  obtain rfl := Option.some.inj e1
  refine ⟨run_setObj_of e3 e4.notCells, r.mr.setObj h (isObj_of h1 h2) ho' hx rfl hR, r.bel.trans ⟨rfl, rfl, rfl, by simp, fun i hi => ?_⟩, r.hB⟩
  exact Array.getElem?_setIfInBounds_ne (by omega)
/-- A new object. -/
theorem WR.newObj {m : Tr Slot} (r : WR P ρ B0 w0 m w) {k : Nat} {o : Slot} {ob : Obj} (fr : Fr ρ m k (k + 1)) (ho : o.isObj = true) (hR : ObR P ρ o ob) :
    ∃ ρ', Gr ρ ρ' k (k + 1) ∧ ρ' k = some ⟨w.heap.size, 0, 0, 0, []⟩ ∧ WR P ρ' B0 w0 (m.set k (some o)) (w.alloc ob) :=
  ⟨upd ρ k ⟨w.heap.size, 0, 0, 0, []⟩, ⟨Ext.upd _ (fr.map k (Nat.le_refl _) (by omega)), fun j hj => upd_ne (by omega)⟩, upd_same _ _ _, r.mr.newObj fr ho rfl r.size hR, r.bel.alloc r.size _, r.hB⟩

/-! ### Keys -/
theorem plain_eq {d : TypeDesc} {k k' : Value} (h : plainKey d k = true) (hk : VR ρ k k') : k' = k := by
  unfold plainKey at h
  split at h <;> first | (cases h; done) | (cases hk; rfl)
theorem checkKey_ok {b : Bool} {t : TypeId} {d : TypeDesc} (ok : EnvOK P E) (hd : E.und t = some d) {k : Value} (h : plainKey d k = true) : (Instr.checkKey b 10000 t k).run P w = .ok () w := by
  rw [show (10000 : Nat) = 9999 + 1 from rfl, Instr.checkKey, Sem.run_bind, run_und ok hd, Result.andThen_ok]
  unfold plainKey at h
  split at h <;> first | rfl | cases h
theorem keyNow_ok {d : TypeDesc} {k e e' : Value} {b : Bool} (h : keyNow d k e = some b) (he : VR ρ e e') : Instr.sameNow d k e' = some b ∧ (b = true → ∀ n, Instr.sameBits (n + 1) e' k = true) := by
  unfold keyNow at h
  split at h
  · cases he
    split at h
    · rename_i hk
      subst hk
      simp only [Option.some.injEq] at h
      subst h
      refine ⟨by simp [Instr.sameNow], fun hb n => ?_⟩
      simp only [beq_iff_eq] at hb
      subst hb
      simp [Instr.sameBits]
    · cases h
  · cases he
    simp only [Option.some.injEq, beqB_eq] at h
    subst h
    refine ⟨by simp [Instr.sameNow, ba_beq], fun hb n => ?_⟩
    simp only [beq_iff_eq] at hb
    simp [Instr.sameBits, ba_beq, hb]
  · cases he
    simp only [Option.some.injEq] at h
    subst h
    refine ⟨by simp [Instr.sameNow], fun hb n => ?_⟩
    simp only [beq_iff_eq] at hb
    subst hb
    simp [Instr.sameBits]
  · cases h
theorem EsR.get {l l' : List MapEntry} (h : EsR ρ l l') {i : Nat} {e : MapEntry} (hi : l[i]? = some e) : ∃ e', l'[i]? = some e' ∧ VR ρ e.key e'.key ∧ VR ρ e.val e'.val ∧ e'.born = e.born := by
  induction h generalizing i with
  | nil => simp at hi
  | cons a b c _ ih =>
    cases i with
    | zero => simp at hi; subst hi; exact ⟨_, rfl, a, b, c⟩
    | succ i => simpa using ih (by simpa using hi)
theorem EsR.length {l l' : List MapEntry} (h : EsR ρ l l') : l'.length = l.length := by
  induction h with
  | nil => rfl
  | cons _ _ _ _ ih => simp [ih]
theorem EsR.append {a a' b b' : List MapEntry} (h : EsR ρ a a') (k : EsR ρ b b') : EsR ρ (a ++ b) (a' ++ b') := by
  induction h with
  | nil => exact k
  | cons x y z _ ih => exact .cons x y z ih
theorem EsR.setAt {l l' : List MapEntry} (h : EsR ρ l l') (i : Nat) {e e' : MapEntry} (hk : VR ρ e.key e'.key) (hv : VR ρ e.val e'.val) (hb : e'.born = e.born) : EsR ρ (setAt l i e) (l'.set i e') := by
  induction h generalizing i with
  | nil => simp [Ev.setAt]; exact .nil
  | cons a b c r ih =>
    cases i with
    | zero => exact .cons hk hv hb r
    | succ i => exact .cons a b c (ih i)
theorem EsR.eraseIdx {l l' : List MapEntry} (h : EsR ρ l l') (i : Nat) : EsR ρ (l.eraseIdx i) (l'.eraseIdx i) := by
  induction h generalizing i with
  | nil => simp; exact .nil
  | cons a b c r ih =>
    cases i with
    | zero => exact r
    | succ i => exact .cons a b c (ih i)
theorem findK_ok {d : TypeDesc} {k : Value} {l l' : List MapEntry} (h : EsR ρ l l') : ∀ {i : Nat} {q : Option (Nat × MapEntry)}, findK d k l i = some q →
    match q with
    | none => Instr.findNow d k l' i = some none
    | some (j, e) => i ≤ j ∧ ∃ e', l[j - i]? = some e ∧ l'[j - i]? = some e' ∧ VR ρ e.key e'.key ∧ VR ρ e.val e'.val ∧ e'.born = e.born ∧ Instr.findNow d k l' i = some (some (j, e'.val)) ∧ (∀ n, Instr.sameBits (n + 1) e'.key k = true) := by
  induction h with
  | nil =>
    intro i q h
    simp only [findK, Option.some.injEq] at h
    subst h
    rfl
  | cons a b c r ih =>
    intro i q h
    simp only [findK] at h
    split at h
    · rename_i hk
      simp only [Option.some.injEq] at h
      subst h
      obtain ⟨h1, h2⟩ := keyNow_ok hk a
      refine ⟨Nat.le_refl _, _, by simp, by simp, a, b, c, ?_, h2 rfl⟩
      simp [Instr.findNow, h1]
    · rename_i hk
      obtain ⟨h1, -⟩ := keyNow_ok hk a
      have := ih h
      cases q with
      | none => simp only [Instr.findNow, h1]; exact this
      | some q =>
        obtain ⟨j, e⟩ := q
        obtain ⟨q1, e', q2, q3, q4, q5, q6, q7, q8⟩ := this
        simp only [Nat.add_eq] at q1 q2 q3
        refine ⟨by omega, e', ?_, ?_, q4, q5, q6, by simp only [Instr.findNow, h1]; exact q7, q8⟩
        · rw [show j - i = (j - (i + 1)) + 1 from by omega]; exact q2
        · rw [show j - i = (j - (i + 1)) + 1 from by omega]; exact q3
    · cases h
theorem mapOf_ok {t : TypeId} {q : TypeId × TypeId} (h : mapOf E t = some q) : E.und t = some (.map q.1 q.2) := by
  unfold mapOf at h
  split at h
  · rename_i hd
    simp only [Option.some.injEq] at h
    subst h
    exact hd
  · cases h
theorem entsOf_ok {o : Slot} {q : List MapEntry × Nat} (h : entsOf o = some q) : o = .mp q.1 q.2 := by
  unfold entsOf at h
  split at h
  · simp only [Option.some.injEq] at h
    subst h
    rfl
  · cases h
theorem ObR.mp_inv {es : List MapEntry} {c : Nat} {ob : Obj} (h : ObR P ρ (.mp es c) ob) : ∃ es', ob = .map ⟨es'⟩ c ∧ EsR ρ es es' := by
  cases h with | mp _ e => exact ⟨_, rfl, e⟩
theorem VR.mp_inv {m : Nat} {v : Value} (h : VR ρ (.map (some m)) v) : ∃ x, ρ m = some x ∧ v = .map (some x.B) := by
  cases h with | mp e => exact ⟨_, e, rfl⟩
theorem run_findKey (ok : EnvOK P E) {t : TypeId} {d : TypeDesc} (hd : E.und t = some d) {k : Value} {es : List MapEntry} {q : Option (Nat × Value)} (h : Instr.findNow d k es 0 = some q) :
    (Instr.findKey t k es).run P w = .ok q w := by
  simp only [Instr.findKey, Sem.run_bind, run_und ok hd, Result.andThen_ok, h, Sem.run_pure]
theorem okV_VR {b : Bool} {v v' : Value} (o : Bool) (h : VR ρ v v') : VR ρ (okV b v o) (if b then .tuple #[v', .bool o] else v') := by
  cases b
  · exact h
  · exact .tuple (.cons h (.cons (.bool _) .nil))
theorem lookupA_ok (ok : EnvOK P E) {t : TypeId} {x x' k k' v : Value} {b : Bool} {s s' : St} (h : (lookupA E t x k b).run s = some (v, s')) (r : WR P ρ B0 w0 s.mem w) (hx : VR ρ x x') (hk : VR ρ k k') :
    SR P ρ B0 w0 s s' v ((Instr.lookup t x' k' b).run P w) := by
  unfold lookupA at h
  obtain ⟨⟨kt, et⟩, hkt, h1⟩ := opt_run h
  obtain ⟨d, hd, h2⟩ := opt_run h1
  obtain ⟨hp, h3⟩ := gd_run h2
  obtain ⟨z, hz, h4⟩ := opt_run h3
  clear h h1 h2 h3
  have ht := mapOf_ok hkt
  obtain rfl := plain_eq hp hk
  simp only at hd hz h4
  split at h4
  · cases hx
    obtain ⟨rfl, rfl⟩ := ret_run h4
    simp only [Instr.lookup, Sem.run_bind, run_und ok ht, Result.andThen_ok, Sem.run_pure, checkKey_ok ok hd hp, run_findKey ok hd (show Instr.findNow d k' [] 0 = some none from rfl), run_zero ok hz]
    exact SR.pure r rfl rfl (okV_VR _ (zero_lit ok hz))
  · rename_i m
    obtain ⟨y, hy, rfl⟩ := hx.mp_inv
    obtain ⟨o, ho, n1, n2, h5⟩ := obj_run h4
    obtain ⟨⟨es, c⟩, hec, h6⟩ := opt_run h5
    obtain ⟨q, hq, h7⟩ := opt_run h6
    obtain rfl := entsOf_ok hec
    obtain ⟨ob, g1, g2, g3, g0⟩ := r.obj ho n1 n2 hy
    obtain ⟨es', rfl, hes⟩ := g2.mp_inv
    have hf := findK_ok hes hq
    cases q with
    | none =>
      obtain ⟨rfl, rfl⟩ := ret_run h7
      simp only [Instr.lookup, Sem.run_bind, run_und ok ht, Result.andThen_ok, g1, Sem.run_pure, checkKey_ok ok hd hp, run_findKey ok hd hf, run_zero ok hz]
      exact SR.pure r rfl rfl (okV_VR _ (zero_lit ok hz))
    | some q =>
      obtain ⟨j, e⟩ := q
      obtain ⟨_, e', _, _, _, q5, _, q7, _⟩ := hf
      obtain ⟨rfl, rfl⟩ := ret_run h7
      simp only [Instr.lookup, Sem.run_bind, run_und ok ht, Result.andThen_ok, g1, Sem.run_pure, checkKey_ok ok hd hp, run_findKey ok hd q7]
      exact SR.pure r rfl rfl (okV_VR _ q5)
  · exact (fail_run h4).elim
theorem modify_eq (l : List MapEntry) (j : Nat) (e' : MapEntry) (f : MapEntry → MapEntry) (h : l[j]? = some e') : (⟨l⟩ : Array MapEntry).modify j f = ⟨l.set j (f e')⟩ := by
  apply Array.ext'
  rw [Array.toList_modify]
  simp only
  apply List.ext_getElem?
  intro i
  rw [List.getElem?_modify, List.getElem?_set]
  by_cases hi : j = i
  · subst hi
    obtain ⟨hl, he⟩ := List.getElem?_eq_some_iff.1 h
    simp [hl, he]
  · simp [hi]
theorem keyStays {e k : Value} (h : ∀ n, Instr.sameBits (n + 1) e k = true) : (Instr.keyThatStays e k).run P w = .ok k w := by
  have := h 9999
  simp only [Instr.keyThatStays, show (10000 : Nat) = 9999 + 1 from rfl, this, if_true, Sem.run_pure]
theorem mapSet_ok (ok : EnvOK P E) {t : TypeId} {x x' k k' u u' v : Value} {s s' : St} (h : (mapSet E t x k u).run s = some (v, s')) (r : WR P ρ B0 w0 s.mem w) (hx : VR ρ x x') (hk : VR ρ k k') (hu : VR ρ u u') :
    v = U ∧ UR P ρ B0 w0 s s' ((Instr.mapUpdate t x' k' u').run P w) := by
  unfold mapSet at h
  split at h
  · rename_i m
    obtain ⟨y, hy, rfl⟩ := hx.mp_inv
    obtain ⟨⟨kt, et⟩, hkt, h1⟩ := opt_run h
    obtain ⟨d, hd, h2⟩ := opt_run h1
    obtain ⟨hp, h3⟩ := gd_run h2
    obtain ⟨o, ho, n1, n2, h5⟩ := obj_run h3
    obtain ⟨⟨es, c⟩, hec, h6⟩ := opt_run h5
    obtain ⟨q, hq, h7⟩ := opt_run h6
    clear h h1 h2 h3 h5 h6
    have ht := mapOf_ok hkt
    obtain rfl := plain_eq hp hk
    obtain rfl := entsOf_ok hec
    obtain ⟨ob, g1, g2, g3, g0⟩ := r.obj ho n1 n2 hy
    obtain ⟨es', rfl, hes⟩ := g2.mp_inv
    have hf := findK_ok hes hq
    cases q with
    | none =>
      obtain ⟨o0, ho0, m1, m2, h8⟩ := setObj_run h7
      obtain ⟨rfl, rfl⟩ := ret_run h8
      obtain ⟨e1, e2⟩ := r.setObj (k := m) ho0 m1 m2 hy (o' := .mp (es ++ [{ key := k', val := u, born := c }]) (c + 1)) (ob' := .map ((⟨es'⟩ : Array MapEntry).push { key := k', val := u', born := c }) (c + 1)) rfl
        (by
          have := hes.append (EsR.cons (e := { key := k', val := u, born := c }) (e' := { key := k', val := u', born := c }) hk hu rfl .nil)
          have e : (⟨es'⟩ : Array MapEntry).push { key := k', val := u', born := c } = ⟨es' ++ [{ key := k', val := u', born := c }]⟩ := by apply Array.ext'; simp
          rw [e]; exact .mp _ this)
      refine ⟨rfl, _, rfl, ?_, e2⟩
      simp only [Instr.mapUpdate, Sem.run_bind, run_und ok ht, Result.andThen_ok, g1, checkKey_ok ok hd hp, run_findKey ok hd hf]
      exact e1
    | some q =>
      obtain ⟨j, e⟩ := q
      obtain ⟨_, e', q2, q3, q4, q5, q6, q7, q8⟩ := hf
      simp only [Nat.sub_zero] at q2 q3
      obtain ⟨o0, ho0, m1, m2, h8⟩ := setObj_run h7
      obtain ⟨rfl, rfl⟩ := ret_run h8
      obtain ⟨e1, e2⟩ := r.setObj (k := m) ho0 m1 m2 hy (o' := .mp (setAt es j { e with key := k', val := u }) c) (ob' := .map ((⟨es'⟩ : Array MapEntry).modify j fun e => { e with key := k', val := u' }) c) rfl
        (by rw [modify_eq _ _ e' _ q3]; exact .mp _ (hes.setAt j hk hu q6))
      refine ⟨rfl, _, rfl, ?_, e2⟩
      simp only [Instr.mapUpdate, Sem.run_bind, run_und ok ht, Result.andThen_ok, g1, checkKey_ok ok hd hp, run_findKey ok hd q7, List.getElem?_toArray, q3, Option.map_some, Option.getD_some, keyStays q8]
      exact e1
  · exact (fail_run h).elim
theorem VR.itP {k : Nat} {x : Blk} (h : ρ k = some x) (h0 : x.sh = 0) : VR ρ (Ev.itP k) (.pointer (some ⟨x.B, 0, none⟩)) := by
  have := VR.ptr (ρ := ρ) (o := 0) h
  simpa [h0, Ev.itP] using this
theorem rangeA_ok (ok : EnvOK P E) {t : TypeId} {x x' v : Value} {s s' : St} (h : (rangeA E t x).run s = some (v, s')) (r : WR P ρ B0 w0 s.mem w) (fr : Fr ρ s.mem s.ctr s'.ctr) (hx : VR ρ x x') :
    SR P ρ B0 w0 s s' v ((Instr.range t x').run P w) := by
  unfold rangeA at h
  split at h
  · rename_i ht
    cases hx
    obtain ⟨rfl, rfl⟩ := ret_run (newObj_run h)
    obtain ⟨ρ', g, hk, wr⟩ := r.newObj (k := s.ctr) (o := .sit _ 0) (ob := .stringIter _ 0) fr rfl (.sit _ 0)
    simp only [Instr.range, Sem.run_bind, run_und ok ht, Result.andThen_ok, Sem.run_pure, Go.run_newObj_alloc]
    exact ⟨ρ', _, _, g, Nat.le_succ _, rfl, VR.itP hk rfl, wr⟩
  · rename_i ht
    cases hx
    obtain ⟨rfl, rfl⟩ := ret_run (newObj_run h)
    obtain ⟨ρ', g, hk, wr⟩ := r.newObj (k := s.ctr) (o := .mit none 0 [] 0) (ob := .mapIter none 0 #[] 0) fr rfl (.mitN 0 [] 0)
    simp only [Instr.range, Sem.run_bind, run_und ok ht, Result.andThen_ok, Sem.run_pure, Go.run_newObj_alloc]
    exact ⟨ρ', _, _, g, Nat.le_succ _, rfl, VR.itP hk rfl, wr⟩
  · rename_i m ht
    obtain ⟨y, hy, rfl⟩ := hx.mp_inv
    obtain ⟨o, ho, n1, n2, h5⟩ := obj_run h
    obtain ⟨⟨es, c⟩, hec, h6⟩ := opt_run h5
    obtain rfl := entsOf_ok hec
    obtain ⟨ob, g1, g2, g3, g0⟩ := r.obj ho n1 n2 hy
    obtain ⟨es', rfl, hes⟩ := g2.mp_inv
    obtain ⟨rfl, rfl⟩ := ret_run (newObj_run h6)
    obtain ⟨ρ', g, hk, wr⟩ := r.newObj (k := s.ctr) (o := .mit (some m) c [] c) (ob := .mapIter (some y.B) c #[] c) fr rfl (.mit c [] c hy)
    simp only [Instr.range, Sem.run_bind, run_und ok ht, Result.andThen_ok, Sem.run_pure, g1, Go.run_newObj_alloc]
    exact ⟨ρ', _, _, g, Nat.le_succ _, rfl, VR.itP hk rfl, wr⟩
  · exact (fail_run h).elim
theorem memN_eq (n : Nat) : ∀ l : List Nat, memN n l = l.contains n
  | [] => rfl
  | m :: l => by
    rw [memN, List.contains_cons, memN_eq n l]
    congr 1
    rw [Bool.eq_iff_iff, beq_iff_eq]
    rw [Nat.beq_eq]
theorem EsR.filter {l l' : List MapEntry} (h : EsR ρ l l') (f : Nat → Bool) : EsR ρ (l.filter fun e => f e.born) (l'.filter fun e => f e.born) := by
  induction h with
  | nil => exact .nil
  | @cons e e' _ _ a b c r ih =>
    rw [List.filter_cons, List.filter_cons, c]
    split
    · exact .cons a b c ih
    · exact ih
theorem EsR.all {l l' : List MapEntry} (h : EsR ρ l l') (f : Nat → Bool) : (l'.all fun e => f e.born) = (l.all fun e => f e.born) := by
  induction h with
  | nil => rfl
  | @cons e e' _ _ a b c r ih => rw [List.all_cons, List.all_cons, c, ih]
theorem EsR.isEmpty {l l' : List MapEntry} (h : EsR ρ l l') : l'.isEmpty = l.isEmpty := by cases h <;> rfl
theorem run_choose_one : (choose (.mapNext 1)).run P w = .ok 0 w := by simp [choose, Sem.run, Question.forced]
theorem ObR.mit_inv {m a b : Nat} {l : List Nat} {ob : Obj} (h : ObR P ρ (.mit (some m) a l b) ob) : ∃ x, ρ m = some x ∧ ob = .mapIter (some x.B) a ⟨l⟩ b := by
  cases h with | mit _ _ _ e => exact ⟨_, e, rfl⟩
theorem nextA_ok {t : TypeId} {x x' v : Value} {b : Bool} {s s' : St} (h : (nextA x b).run s = some (v, s')) (r : WR P ρ B0 w0 s.mem w) (hx : VR ρ x x') :
    SR P ρ B0 w0 s s' v ((Instr.next x' b t).run P w) := by
  unfold nextA at h
  split at h
  · rename_i a
    cases hx with
    | @ptr k off y hy =>
    obtain ⟨hoff, h0⟩ := gd_run h
    obtain rfl : off = 0 := Nat.eq_of_beq_eq_true hoff
    obtain ⟨ob, ho, n1, n2, h1⟩ := obj_run h0
    simp only at ho h1
    obtain ⟨o', g1, g2, g3, g0⟩ := r.obj ho n1 n2 hy
    rw [g0, Nat.add_zero]
    split at h1
    · obtain ⟨rfl, rfl⟩ := ret_run h1
      cases g2
      simp only [Instr.next, Sem.run_bind, g1, Result.andThen_ok, Sem.run_pure]
      exact SR.pure r rfl rfl (.tuple (.cons (.bool _) .nil))
    · rename_i m since seen last
      obtain ⟨y2, hy2, rfl⟩ := g2.mit_inv
      obtain ⟨o2, ho2, m1, m2, h2⟩ := obj_run h1
      obtain ⟨⟨es, c⟩, hec, h3⟩ := opt_run h2
      obtain rfl := entsOf_ok hec
      obtain ⟨hg, h4⟩ := gd_run h3
      obtain ⟨ob2, p1, p2, p3, p0⟩ := r.obj ho2 m1 m2 hy2
      obtain ⟨es', rfl, hes⟩ := p2.mp_inv
      simp only at hg h4
      have hall : (!(⟨seen⟩ : Array Nat).isEmpty && !(⟨es'⟩ : Array MapEntry).isEmpty && (⟨es'⟩ : Array MapEntry).all (fun e => decide (e.born ≥ last))) = false := by
        have e1 : (⟨es'⟩ : Array MapEntry).all (fun e => decide (e.born ≥ last)) = es.all (fun e => Nat.ble last e.born) := by
          rw [← Array.all_toList]
          have := hes.all (fun n => decide (n ≥ last))
          simp only at this
          rw [this]
          congr 1
          funext e
          rw [Bool.eq_iff_iff, decide_eq_true_iff, Nat.ble_eq]
        have e2 : (⟨es'⟩ : Array MapEntry).isEmpty = es.isEmpty := by
          rw [← hes.isEmpty]; simp
        have e3 : (⟨seen⟩ : Array Nat).isEmpty = seen.isEmpty := by simp
        rw [e1, e2, e3]
        rwa [Bool.not_eq_true'] at hg
      have hleft : EsR ρ (es.filter fun e => !memN e.born seen) (es'.filter fun e => !memN e.born seen) := hes.filter (fun n => !memN n seen)
      have hl : (⟨es'⟩ : Array MapEntry).filter (fun e => !(⟨seen⟩ : Array Nat).contains e.born) = ⟨es'.filter fun e => !memN e.born seen⟩ := by
        apply Array.ext'
        simp only [Array.toList_filter]
        congr 1
        funext e
        rw [memN_eq]
        simp
      simp only [Instr.next, Sem.run_bind, g1, Result.andThen_ok, p1, hall, Bool.false_eq_true, if_false, hl]
      split at h4
      · rename_i hnil
        rw [hnil] at hleft
        generalize (es'.filter fun e => !memN e.born seen) = l' at hleft
        cases hleft
        obtain ⟨rfl, rfl⟩ := ret_run h4
        have hcand : ((if (Array.filter (fun e : MapEntry => decide (e.born < since)) ⟨[]⟩).isEmpty = true then #[none] else #[]) ++
            Array.map some (Array.filter (fun e : MapEntry => decide (e.born < since)) ⟨[]⟩ ++ Array.filter (fun e : MapEntry => decide (e.born ≥ since)) ⟨[]⟩) : Array (Option MapEntry)) = #[none] := by simp
        rw [hcand]
        simp only [List.size_toArray, List.length_cons, List.length_nil, Nat.zero_add, run_choose_one, Result.andThen_ok]
        exact SR.pure r rfl rfl (.tuple (.cons (.bool _) .nil))
      · rename_i e hone
        rw [hone] at hleft
        generalize (es'.filter fun e => !memN e.born seen) = l' at hleft
        cases hleft with
        | @cons _ e' _ _ hk hv hb hr =>
        cases hr
        obtain ⟨hlt, h5⟩ := gd_run h4
        have hlt : e.born < since := Nat.le_of_ble_eq_true hlt
        obtain ⟨o0, ho0, q1, q2, h6⟩ := setObj_run h5
        obtain ⟨rfl, rfl⟩ := ret_run h6
        have hcand : ((if (Array.filter (fun e : MapEntry => decide (e.born < since)) ⟨[e']⟩).isEmpty = true then #[none] else #[]) ++
            Array.map some (Array.filter (fun e : MapEntry => decide (e.born < since)) ⟨[e']⟩ ++ Array.filter (fun e : MapEntry => decide (e.born ≥ since)) ⟨[e']⟩) : Array (Option MapEntry)) = #[some e'] := by
          have h1 : (Array.filter (fun e : MapEntry => decide (e.born < since)) ⟨[e']⟩) = #[e'] := by
            apply Array.ext'
            simp [hb, hlt]
          have h2 : (Array.filter (fun e : MapEntry => decide (e.born ≥ since)) ⟨[e']⟩) = #[] := by
            apply Array.ext'
            simp [hb]; omega
          rw [h1, h2]
          simp
        rw [hcand]
        obtain ⟨e1, e2⟩ := r.setObj (k := k) ho0 q1 q2 hy (o' := .mit (some m) since (seen ++ [e.born]) c) (ob' := .mapIter (some y2.B) since ⟨seen ++ [e.born]⟩ c) rfl (.mit since _ c hy2)
        have e3 : (⟨seen⟩ : Array Nat).push e'.born = ⟨seen ++ [e.born]⟩ := by apply Array.ext'; simp [hb]
        simp only [List.size_toArray, List.length_cons, List.length_nil, Nat.zero_add, run_choose_one, Result.andThen_ok, show (#[some e'] : Array (Option MapEntry))[0]? = some (some e') from rfl, e3, Sem.run_bind, e1, Sem.run_pure]
        exact ⟨ρ, _, _, Gr.refl _ _ _, Nat.le_refl _, rfl, .tuple (.cons (.bool _) (.cons hk (.cons hv .nil))), e2⟩
      · exact (fail_run h4).elim
    · rename_i str pos
      cases g2
      split at h1
      · rename_i hd
        obtain ⟨rfl, rfl⟩ := ret_run h1
        have : ¬ (pos < str.size) := by
          have : (str.data.toList.drop pos).length = 0 := by rw [hd]; rfl
          rw [List.length_drop] at this
          show ¬ (pos < str.data.toList.length)
          omega
        simp only [Instr.next, Sem.run_bind, g1, Result.andThen_ok, if_neg this]
        exact SR.pure r rfl rfl (.tuple (.cons (.bool _) .nil))
      · rename_i c cs hd
        obtain ⟨hlt, h5⟩ := gd_run h1
        have hlt : c.toNat < 128 := Nat.le_of_ble_eq_true hlt
        obtain ⟨o0, ho0, q1, q2, h6⟩ := setObj_run h5
        obtain ⟨rfl, rfl⟩ := ret_run h6
        have hget : str.data.toList[pos]? = some c := by
          have : (str.data.toList.drop pos)[0]? = some c := by rw [hd]; rfl
          simpa using this
        have hpos : pos < str.size := (List.getElem?_eq_some_iff.1 hget).1
        have hat : (str.get! (pos + 0)).toNat = c.toNat := by
          have : str.data[pos]? = some c := by simpa using hget
          show (str.data[pos]!).toNat = _
          rw [getElem!_def, this]
        have hdec : Utf8.decode str pos = (c.toNat, 1) := by
          unfold Utf8.decode
          simp only [hat, if_pos hlt]
        obtain ⟨e1, e2⟩ := r.setObj (k := k) ho0 q1 q2 hy (o' := .sit str (pos + 1)) (ob' := .stringIter str (pos + 1)) rfl (.sit str (pos + 1))
        simp only [Instr.next, Sem.run_bind, g1, Result.andThen_ok, if_pos hpos, hdec, e1, Sem.run_pure]
        exact ⟨ρ, _, _, Gr.refl _ _ _, Nat.le_refl _, rfl, .tuple (.cons (.bool _) (.cons (.int _ _) (.cons (.int _ _) .nil))), e2⟩
    · exact (fail_run h1).elim
  · exact (fail_run h).elim
theorem findBorn_ok {n : Nat} {l l' : List MapEntry} (h : EsR ρ l l') : ∀ {i j : Nat} {e : MapEntry}, findBorn n l i = some (j, e) → i ≤ j ∧ ∃ e', l'[j - i]? = some e' ∧ l'.find? (·.born == n) = some e' ∧
    l'.findIdx? (·.born == n) = some (j - i) ∧ VR ρ e.key e'.key ∧ VR ρ e.val e'.val ∧ e'.born = e.born := by
  induction h with
  | nil => intro i j e h; simp [findBorn] at h
  | @cons x x' _ _ a b c r ih =>
    intro i j e h
    simp only [findBorn] at h
    split at h
    · rename_i hb
      obtain rfl := Nat.eq_of_beq_eq_true hb
      simp only [Option.some.injEq, Prod.mk.injEq] at h
      obtain ⟨rfl, rfl⟩ := h
      exact ⟨Nat.le_refl _, x', by simp, by simp [c], by simp [c, List.findIdx?_cons], a, b, c⟩
    · rename_i hb
      have hne : x.born ≠ n := fun e => hb (by rw [e]; simp)
      obtain ⟨h1, e', h2, h3, h4, h5⟩ := ih h
      simp only [Nat.add_eq] at h1 h2 h4
      refine ⟨by omega, e', ?_, ?_, ?_, h5⟩
      · rw [show j - i = (j - (i + 1)) + 1 from by omega]; exact h2
      · rw [List.find?_cons]
        have : (x'.born == n) = false := by rw [c]; simpa using hne
        rw [this]; exact h3
      · rw [List.findIdx?_cons]
        have : (x'.born == n) = false := by rw [c]; simpa using hne
        rw [this]
        simp only [Bool.false_eq_true, if_false, h4, Option.map_some]
        congr 1; omega
theorem entryA_ok {x x' v : Value} {s s' : St} (h : (entryA x).run s = some (v, s')) (r : WR P ρ B0 w0 s.mem w) (hx : VR ρ x x') :
    SR P ρ B0 w0 s s' v ((Instr.entry x').run P w) := by
  unfold entryA at h
  split at h
  · rename_i a
    cases hx with
    | @ptr k off y hy =>
    obtain ⟨hoff, h0⟩ := gd_run h
    obtain rfl : off = 0 := Nat.eq_of_beq_eq_true hoff
    obtain ⟨ob, ho, n1, n2, h1⟩ := obj_run h0
    simp only at ho h1
    obtain ⟨o', g1, g2, g3, g0⟩ := r.obj ho n1 n2 hy
    rw [g0, Nat.add_zero]
    split at h1
    · rename_i m since seen stepped
      obtain ⟨y2, hy2, rfl⟩ := g2.mit_inv
      obtain ⟨o2, ho2, m1, m2, h2⟩ := obj_run h1
      obtain ⟨⟨es, c⟩, hec, h3⟩ := opt_run h2
      obtain rfl := entsOf_ok hec
      obtain ⟨stamp, hst, h4⟩ := opt_run h3
      obtain ⟨hc, h5⟩ := gd_run h4
      obtain ⟨⟨j, e⟩, hf, h6⟩ := opt_run h5
      obtain ⟨rfl, rfl⟩ := ret_run h6
      obtain rfl := Nat.eq_of_beq_eq_true hc
      obtain ⟨ob2, p1, p2, p3, p0⟩ := r.obj ho2 m1 m2 hy2
      obtain ⟨es', rfl, hes⟩ := p2.mp_inv
      obtain ⟨_, e', _, f1, _, f2, f3, _⟩ := findBorn_ok hes hf
      have hb : (⟨seen⟩ : Array Nat).back? = some stamp := by
        rw [← hst]; simp [Array.back?, List.getLast?_eq_getElem?]
      have hfd : (⟨es'⟩ : Array MapEntry).find? (·.born == stamp) = some e' := by
        rw [← f1]; simp
      simp only [Instr.entry, Sem.run_bind, g1, Result.andThen_ok, hb, p1, bne_self_eq_false, Bool.false_eq_true, if_false, hfd, Sem.run_pure]
      exact SR.pure r rfl rfl (.tuple (.cons f2 (.cons f3 .nil)))
    · exact (fail_run h1).elim
  · exact (fail_run h).elim
theorem mapEntryA_ok (ok : EnvOK P E) {t : TypeId} {x x' k k' v : Value} {s s' : St} (h : (mapEntryA E t x k).run s = some (v, s')) (r : WR P ρ B0 w0 s.mem w) (hx : VR ρ x x') (hk : VR ρ k k') :
    SR P ρ B0 w0 s s' v ((Instr.mapEntry t x' k').run P w) := by
  unfold mapEntryA at h
  split at h
  · rename_i m
    obtain ⟨y, hy, rfl⟩ := hx.mp_inv
    obtain ⟨⟨kt, et⟩, hkt, h1⟩ := opt_run h
    obtain ⟨d, hd, h2⟩ := opt_run h1
    obtain ⟨z, hz, h2'⟩ := opt_run h2
    obtain ⟨hp, h3⟩ := gd_run h2'
    obtain ⟨o, ho, n1, n2, h5⟩ := obj_run h3
    obtain ⟨⟨es, c⟩, hec, h6⟩ := opt_run h5
    obtain ⟨q, hq, h7⟩ := opt_run h6
    clear h h1 h2 h3 h5 h6
    have ht := mapOf_ok hkt
    obtain rfl := plain_eq hp hk
    obtain rfl := entsOf_ok hec
    obtain ⟨ob, g1, g2, g3, g0⟩ := r.obj ho n1 n2 hy
    obtain ⟨es', rfl, hes⟩ := g2.mp_inv
    have hf := findK_ok hes hq
    have hzv := zero_lit ok hz (ρ := ρ)
    cases q with
    | none =>
      obtain ⟨o0, ho0, m1, m2, h8⟩ := setObj_run h7
      obtain ⟨rfl, rfl⟩ := ret_run h8
      obtain ⟨e1, e2⟩ := r.setObj (k := m) ho0 m1 m2 hy (o' := .mp (es ++ [{ key := k', val := z, born := c }]) (c + 1)) (ob' := .map ((⟨es'⟩ : Array MapEntry).push { key := k', val := z, born := c }) (c + 1)) rfl
        (by
          have := hes.append (EsR.cons (e := { key := k', val := z, born := c }) (e' := { key := k', val := z, born := c }) hk hzv rfl .nil)
          have e : (⟨es'⟩ : Array MapEntry).push { key := k', val := z, born := c } = ⟨es' ++ [{ key := k', val := z, born := c }]⟩ := by apply Array.ext'; simp
          rw [e]; exact .mp _ this)
      simp only [Instr.mapEntry, Sem.run_bind, run_und ok ht, Result.andThen_ok, g1, checkKey_ok ok hd hp, run_findKey ok hd hf, run_zero ok hz, e1, Sem.run_pure]
      exact ⟨ρ, _, _, Gr.refl _ _ _, Nat.le_refl _, rfl, .tuple (.cons hzv (.cons (.int _ _) .nil)), e2⟩
    | some q =>
      obtain ⟨j, e⟩ := q
      obtain ⟨_, e', q2, q3, q4, q5, q6, q7, q8⟩ := hf
      simp only [Nat.sub_zero] at q2 q3
      obtain ⟨o0, ho0, m1, m2, h8⟩ := setObj_run h7
      obtain ⟨rfl, rfl⟩ := ret_run h8
      obtain ⟨e1, e2⟩ := r.setObj (k := m) ho0 m1 m2 hy (o' := .mp (setAt es j { e with key := k' }) c) (ob' := .map ((⟨es'⟩ : Array MapEntry).modify j fun e => { e with key := k' }) c) rfl
        (by rw [modify_eq _ _ e' _ q3]; exact .mp _ (hes.setAt j hk q5 q6))
      simp only [Instr.mapEntry, Sem.run_bind, run_und ok ht, Result.andThen_ok, g1, checkKey_ok ok hd hp, run_findKey ok hd q7, List.getElem?_toArray, q3, Option.map_some, Option.getD_some, keyStays q8, e1, Sem.run_pure, q6]
      exact ⟨ρ, _, _, Gr.refl _ _ _, Nat.le_refl _, rfl, .tuple (.cons q5 (.cons (.int _ _) .nil)), e2⟩
  · exact (fail_run h).elim
theorem entryStoreA_ok {t : TypeId} {x x' st st' u u' v : Value} {s s' : St} (h : (entryStoreA x st u).run s = some (v, s')) (r : WR P ρ B0 w0 s.mem w) (hx : VR ρ x x') (hs : VR ρ st st') (hu : VR ρ u u') :
    v = U ∧ UR P ρ B0 w0 s s' ((Instr.entryStore t x' st' u').run P w) := by
  unfold entryStoreA at h
  split at h
  · rename_i m
    obtain ⟨y, hy, rfl⟩ := hx.mp_inv
    obtain ⟨n, hn, h1⟩ := opt_run h
    obtain ⟨kk, rfl⟩ := natOf_ok hn hs
    obtain ⟨o, ho, n1, n2, h5⟩ := obj_run h1
    obtain ⟨⟨es, c⟩, hec, h6⟩ := opt_run h5
    obtain ⟨⟨j, e⟩, hf, h7⟩ := opt_run h6
    obtain rfl := entsOf_ok hec
    obtain ⟨ob, g1, g2, g3, g0⟩ := r.obj ho n1 n2 hy
    obtain ⟨es', rfl, hes⟩ := g2.mp_inv
    obtain ⟨_, e', f0, _, f1, f2, f3, f4⟩ := findBorn_ok hes hf
    simp only [Nat.sub_zero] at f0 f1
    obtain ⟨o0, ho0, m1, m2, h8⟩ := setObj_run h7
    obtain ⟨rfl, rfl⟩ := ret_run h8
    obtain ⟨e1, e2⟩ := r.setObj (k := m) ho0 m1 m2 hy (o' := .mp (setAt es j { e with val := u }) c) (ob' := .map ((⟨es'⟩ : Array MapEntry).modify j fun e => { e with val := u' }) c) rfl
      (by rw [modify_eq _ _ e' _ f0]; exact .mp _ (hes.setAt j f2 hu f4))
    have hfi : (⟨es'⟩ : Array MapEntry).findIdx? (fun e => (e.born : Int) == (n : Int)) = some j := by
      have : (fun e : MapEntry => (e.born : Int) == (n : Int)) = (fun e => e.born == n) := by
        funext e
        rw [Bool.eq_iff_iff, beq_iff_eq, beq_iff_eq]; omega
      rw [this]; simpa using f1
    refine ⟨rfl, _, rfl, ?_, e2⟩
    simp only [Instr.entryStore, Sem.run_bind, g1, Result.andThen_ok, asInt, asIntOf, Sem.run_pure, hfi]
    exact e1
  · exact (fail_run h).elim
theorem deleteA_ok (ok : EnvOK P E) {ts : List TypeId} {args args' : List Value} {ty : TypeId} {v : Value} {s s' : St} (h : (deleteA E ts args).run s = some (v, s')) (r : WR P ρ B0 w0 s.mem w) (ha : VRs ρ args args') :
    SR P ρ B0 w0 s s' v ((Builtin.delete_ ⟨ts⟩ ty ⟨args'⟩).run P w) := by
  unfold deleteA at h
  split at h
  · rename_i t ts r0 k
    obtain ⟨m', k', rfl, hm, hk⟩ := ha.two
    obtain ⟨⟨kt, et⟩, hkt, h1⟩ := opt_run h
    obtain ⟨d, hd, h2⟩ := opt_run h1
    obtain ⟨hp, h3⟩ := gd_run h2
    clear h h1 h2
    have ht := mapOf_ok hkt
    obtain rfl := plain_eq hp hk
    cases r0 with
    | none =>
      cases hm
      obtain ⟨rfl, rfl⟩ := ret_run h3
      simp only [Builtin.delete_, List.getElem?_toArray, List.getElem?_cons_zero, List.getElem?_cons_succ, Sem.run_bind, run_und ok ht, Result.andThen_ok, checkKey_ok ok hd hp, Sem.run_pure]
      exact SR.pure r rfl rfl (U_VR ρ)
    | some m =>
      obtain ⟨y, hy, rfl⟩ := hm.mp_inv
      obtain ⟨o, ho, n1, n2, h5⟩ := obj_run h3
      obtain ⟨⟨es, c⟩, hec, h6⟩ := opt_run h5
      obtain ⟨q, hq, h7⟩ := opt_run h6
      obtain rfl := entsOf_ok hec
      obtain ⟨ob, g1, g2, g3, g0⟩ := r.obj ho n1 n2 hy
      obtain ⟨es', rfl, hes⟩ := g2.mp_inv
      have hf := findK_ok hes hq
      cases q with
      | none =>
        obtain ⟨o0, ho0, m1, m2, h8⟩ := setObj_run h7
        obtain ⟨rfl, rfl⟩ := ret_run h8
        obtain ⟨e1, e2⟩ := r.setObj (k := m) ho0 m1 m2 hy (o' := .mp es c) (ob' := .map ⟨es'⟩ c) rfl (.mp _ hes)
        simp only [Builtin.delete_, List.getElem?_toArray, List.getElem?_cons_zero, List.getElem?_cons_succ, Sem.run_bind, run_und ok ht, Result.andThen_ok, g1, checkKey_ok ok hd hp, run_findKey ok hd hf, e1, Sem.run_pure]
        exact ⟨ρ, _, _, Gr.refl _ _ _, Nat.le_refl _, rfl, U_VR ρ, e2⟩
      | some q =>
        obtain ⟨j, e⟩ := q
        obtain ⟨_, e', q2, q3, q4, q5, q6, q7, q8⟩ := hf
        obtain ⟨o0, ho0, m1, m2, h8⟩ := setObj_run h7
        obtain ⟨rfl, rfl⟩ := ret_run h8
        obtain ⟨e1, e2⟩ := r.setObj (k := m) ho0 m1 m2 hy (o' := .mp (es.eraseIdx j) c) (ob' := .map ((⟨es'⟩ : Array MapEntry).eraseIdxIfInBounds j) c) rfl (by
          have e : (⟨es'⟩ : Array MapEntry).eraseIdxIfInBounds j = ⟨es'.eraseIdx j⟩ := by apply Array.ext'; simp
          rw [e]; exact .mp _ (hes.eraseIdx j))
        simp only [Builtin.delete_, List.getElem?_toArray, List.getElem?_cons_zero, List.getElem?_cons_succ, Sem.run_bind, run_und ok ht, Result.andThen_ok, g1, checkKey_ok ok hd hp, run_findKey ok hd q7, e1, Sem.run_pure]
        exact ⟨ρ, _, _, Gr.refl _ _ _, Nat.le_refl _, rfl, U_VR ρ, e2⟩
  · exact (fail_run h).elim
end
end Go.Ev
