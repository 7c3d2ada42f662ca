/- Soundness, part 12: all operations that are no calls. -/
import Derived.Test.YtcabdlonefichaaGreatDoorEvS11
import Derived.Laws.Tables
namespace Go.Ev
open Go Go.RowKit
section
variable {P : Program} {E : Env} (ok : EnvOK P E) {ρ : Map} {B0 : Nat} {w0 w : World}

theorem places_ok (ok : EnvOK P E) : ∀ l : List Field, (l.all fun f : Field => (E.size f.type).isSome) = true → ∃ places : List (Nat × Nat), l.mapM (fun f : Field => (P.info? f.type).map fun i => (f.offset, i.size)) = some places ∧
    ∀ (i : Nat) (q : Nat × Nat), ((l[i]?).bind fun f : Field => (E.size f.type).map fun n => (f.offset, n)) = some q → places[i]? = some q := by
  intro l
  induction l with
  | nil => exact fun _ => ⟨[], rfl, fun i q h => by simp at h⟩
  | cons f l ih =>
    intro h
    simp only [List.all_cons, Bool.and_eq_true] at h
    obtain ⟨h1, h2⟩ := h
    obtain ⟨places, e1, e2⟩ := ih h2
    obtain ⟨n, hn⟩ := Option.isSome_iff_exists.1 h1
    obtain ⟨i, hi, rfl⟩ := size_ok hn
    refine ⟨(f.offset, i.size) :: places, ?_, ?_⟩
    · simp [List.mapM_cons, ok.ty _ _ hi, e1]
    · intro j q hq
      cases j with
      | zero => simpa [hn] using hq
      | succ j => simpa using e2 j q (by simpa using hq)
theorem buildA_ok (ok : EnvOK P E) {t : TypeId} {ps ps' : List (Nat × Value)} {v : Value} {s s' : St} (h : (buildA E t ps).run s = some (v, s')) (r : WR P ρ B0 w0 s.mem w) (hp : PsR ρ ps ps') :
    SR P ρ B0 w0 s s' v ((Instr.build t ⟨ps'⟩).run P w) := by
  unfold buildA at h
  obtain ⟨z, hz, h1⟩ := opt_run h
  obtain ⟨d, hd, h2⟩ := opt_run h1
  obtain ⟨i, hi, hzi⟩ := zero_get hz
  have hinf := ok.ty _ _ hi
  have hu := und_ok ok hd
  have hzv := (zero_lit ok hz (ρ := ρ)).cells
  split at h2
  · rename_i fs
    obtain ⟨hall, h3⟩ := gd_run h2
    obtain ⟨cs, hcs, h4⟩ := opt_run h3
    obtain ⟨rfl, rfl⟩ := ret_run h4
    obtain ⟨places, e1, e2⟩ := places_ok ok fs.toList (by rw [Array.all_toList]; exact hall)
    obtain ⟨r', f1, f2, f3⟩ := fillA_ok (place' := (places.toArray[·]?)) (fun i q hq => by simpa using e2 i q (by simpa using hq)) hcs hp hzv
    have hb : P.built t ps' = some ⟨r'⟩ := by
      simp only [Program.built, hinf, hu, hzi, e1]
      exact f1
    rw [run_build w t ⟨ps'⟩ ⟨r'⟩ hb]
    exact SR.pure r rfl rfl (.agg f2)
  · rename_i n e
    obtain ⟨sz, hsz, h3⟩ := opt_run h2
    obtain ⟨cs, hcs, h4⟩ := opt_run h3
    obtain ⟨rfl, rfl⟩ := ret_run h4
    obtain ⟨ie, hie, rfl⟩ := size_ok hsz
    obtain ⟨r', f1, f2, f3⟩ := fillA_ok (fun i q hq => hq) hcs hp hzv
    have hb : P.built t ps' = some ⟨r'⟩ := by
      simp only [Program.built, hinf, hu, hzi, ok.ty _ _ hie]
      exact f1
    rw [run_build w t ⟨ps'⟩ ⟨r'⟩ hb]
    exact SR.pure r rfl rfl (.agg f2)
  · exact (fail_run h2).elim
theorem buildSliceA_ok (ok : EnvOK P E) {t : TypeId} {len : Nat} {ps ps' : List (Nat × Value)} {v : Value} {s s' : St} (h : (buildSliceA E t len ps).run s = some (v, s')) (r : WR P ρ B0 w0 s.mem w) (fr : Fr ρ s.mem s.ctr s'.ctr)
    (hp : PsR ρ ps ps') : SR P ρ B0 w0 s s' v ((Instr.buildSlice t len ⟨ps'⟩).run P w) := by
  unfold buildSliceA at h
  obtain ⟨e, he, h1⟩ := opt_run h
  obtain ⟨n, hn, h2⟩ := opt_run h1
  obtain ⟨hle, h3⟩ := gd_run h2
  obtain ⟨z, hz, h4⟩ := opt_run h3
  obtain ⟨cs, hcs, h5⟩ := opt_run h4
  obtain ⟨rfl, rfl⟩ := ret_run (new_run h5)
  have hle := Nat.le_of_ble_eq_true hle
  have ht := elemOfSlice_ok he
  have hzl := zero_len ok hz hn
  have hzc : z.cells.size = n := hzl
  obtain ⟨i, hi, hisz⟩ := size_ok hn
  obtain ⟨r', f1, f2, f3⟩ := fillA_ok (fun i q hq => hq) hcs hp ((zero_lit ok hz (ρ := ρ)).cells.rep len)
  obtain ⟨ρ', g, hk, hrun, wr⟩ := newRow_ok (ex := true) (z := true) r fr f2 (ok.ty _ _ hi)
  have hcond : ¬ (len * n > 2 ^ 24) := by omega
  refine ⟨ρ', .slice (some ⟨w.heap.size, 0, none⟩) len len, _, g, by simp only; omega, ?_, ?_, wr⟩
  · simp only [Instr.buildSlice, Sem.run_bind, run_und ok ht, Result.andThen_ok, run_size ok hn, if_neg hcond]
    by_cases h0 : len * n = 0
    · rw [if_pos h0, h0]
      have e0 : rep (cellsL z) len = [] := List.eq_nil_of_length_eq_zero (by rw [rep_length, hzl]; exact h0)
      rw [e0] at f1
      have e1 : ∀ f : Nat → Value, Array.map f (Array.range 0) = ⟨[]⟩ := fun f => by simp
      simp only [Sem.run_bind, Sem.run_pure, Result.andThen_ok, e1, f1, hrun]
    · rw [if_neg h0]
      simp only [Sem.run_bind, run_zero ok hz, Result.andThen_ok, Sem.run_pure]
      rw [← hzc] at f1 ⊢
      simp only [zeros_eq]
      rw [show (⟨rep z.cells.toList len⟩ : Array Value) = ⟨rep (cellsL z) len⟩ from rfl, f1]
      simp only [Sem.run_bind, hrun, Result.andThen_ok, Sem.run_pure]
  · have := VR.slice_exact (ρ := ρ') (o := 0) hk (Nat.le_refl len)
    simpa using this
theorem fieldAddrA_ok (ok : EnvOK P E) {t : TypeId} {x x' v : Value} {f : Nat} {s s' : St} (h : (fieldAddrA E t x f).run s = some (v, s')) (r : WR P ρ B0 w0 s.mem w) (hx : VR ρ x x') :
    SR P ρ B0 w0 s s' v ((Instr.fieldAt t x' f).run P w) := by
  unfold fieldAddrA at h
  split at h
  · rename_i fs a ht
    obtain ⟨fd, hf, h1⟩ := opt_run h
    split at h1
    · rename_i n hn
      obtain ⟨rfl, rfl⟩ := ret_run h1
      obtain ⟨y, hy, hs, rfl⟩ := hx.ptr_inv
      simp only [Instr.fieldAt, Sem.run_bind, run_und ok ht, Result.andThen_ok, hf, Instr.sureAddr, Sem.run_pure, fieldPlace, run_size ok hn]
      rw [if_neg (by omega), Sem.run_pure]
      simp only [Result.andThen_ok, Sem.run_pure, add_at, Nat.add_assoc]
      exact SR.pure r rfl rfl (.ptr hy)
    · exact (fail_run h1).elim
  · exact (fail_run h).elim
theorem fieldA_ok (ok : EnvOK P E) {t : TypeId} {x x' v : Value} {f : Nat} {s s' : St} (h : (fieldA E t x f).run s = some (v, s')) (r : WR P ρ B0 w0 s.mem w) (hx : VR ρ x x') :
    SR P ρ B0 w0 s s' v ((Instr.field t x' f).run P w) := by
  unfold fieldA at h
  split at h
  · rename_i fs cs ht
    obtain ⟨fd, hf, h1⟩ := opt_run h
    obtain ⟨u, hu, h2⟩ := opt_run h1
    obtain ⟨rfl, rfl⟩ := ret_run h2
    cases hx with
    | agg hcs =>
    obtain ⟨v', e1, e2⟩ := part_ok (w := w) ok hu hcs
    simp only [Instr.field, Sem.run_bind, run_und ok ht, Result.andThen_ok, hf, asAgg, Sem.run_pure, e1]
    exact SR.pure r rfl rfl e2
  · exact (fail_run h).elim
theorem indexAddrA_ok (ok : EnvOK P E) {t : TypeId} {x x' i i' v : Value} {s s' : St} (h : (indexAddrA E t x i).run s = some (v, s')) (r : WR P ρ B0 w0 s.mem w) (hx : VR ρ x x') (hi : VR ρ i i') :
    SR P ρ B0 w0 s s' v ((Instr.indexAt t x' i').run P w) := by
  unfold indexAddrA at h
  obtain ⟨n, hn, h1⟩ := opt_run h
  obtain ⟨k, rfl⟩ := natOf_ok hn hi
  split at h1
  · rename_i e a len c ht
    obtain ⟨sz, hsz, h2⟩ := opt_run h1
    obtain ⟨hg, h3⟩ := gd_run h2
    obtain ⟨rfl, rfl⟩ := ret_run h3
    simp only [Bool.and_eq_true] at hg
    have hlt : n < len := Nat.le_of_ble_eq_true hg.1
    cases hx with
    | @sl b o o' _ _ c' xb hxb ho hl0 hex hin hle =>
    have ho' : o' = xb.sh + o := by
      rcases ho with ho | ho
      · exact ho
      · omega
    subst ho'
    have hc : (0 : Int) ≤ (n : Int) ∧ (n : Int) < (len : Int) := by omega
    simp only [Instr.indexAt, Sem.run_bind, asIntOf, Sem.run_pure, Result.andThen_ok, run_und ok ht, if_pos hc, run_size ok hsz, Int.toNat_natCast, add_at, Nat.add_assoc]
    exact SR.pure r rfl rfl (.ptr hxb)
  · rename_i len e a ht
    obtain ⟨sz, hsz, h2⟩ := opt_run h1
    obtain ⟨hg, h3⟩ := gd_run h2
    obtain ⟨rfl, rfl⟩ := ret_run h3
    simp only [Bool.and_eq_true] at hg
    have hlt : n < len := Nat.le_of_ble_eq_true hg.1
    obtain ⟨y, hy, hs, rfl⟩ := hx.ptr_inv
    have hc : (0 : Int) ≤ (n : Int) ∧ (n : Int) < (len : Int) := by omega
    simp only [Instr.indexAt, Sem.run_bind, asIntOf, Sem.run_pure, Result.andThen_ok, run_und ok ht, Instr.sureAddr, if_pos hc, run_size ok hsz, Int.toNat_natCast, add_at, Nat.add_assoc]
    exact SR.pure r rfl rfl (.ptr hy)
  · exact (fail_run h1).elim
theorem indexOp_ok (ok : EnvOK P E) {t : TypeId} {x x' i i' v : Value} {s s' : St} (h : (indexOp E t x i).run s = some (v, s')) (r : WR P ρ B0 w0 s.mem w) (hx : VR ρ x x') (hi : VR ρ i i') :
    SR P ρ B0 w0 s s' v ((Instr.index t x' i').run P w) := by
  unfold indexOp at h
  obtain ⟨n, hn, h1⟩ := opt_run h
  obtain ⟨k, rfl⟩ := natOf_ok hn hi
  have h0 : (0 : Int) ≤ (n : Int) := by omega
  split at h1
  · rename_i b ht
    obtain ⟨c, hc, h2⟩ := opt_run h1
    obtain ⟨rfl, rfl⟩ := ret_run h2
    cases hx
    have hb : b[n]? = some c := by
      obtain ⟨hlt, he⟩ := List.getElem?_eq_some_iff.1 hc
      have hlt' : n < b.size := hlt
      rw [getElem?_pos b n hlt']
      exact congrArg some he
    simp only [Instr.index, Sem.run_bind, asIntOf, Sem.run_pure, Result.andThen_ok, run_und ok ht, if_pos h0, Int.toNat_natCast, hb]
    exact SR.pure r rfl rfl (.int _ _)
  · rename_i len e cs ht
    obtain ⟨sz, hsz, h2⟩ := opt_run h1
    obtain ⟨hg, h3⟩ := gd_run h2
    obtain ⟨u, hu, h4⟩ := opt_run h3
    obtain ⟨rfl, rfl⟩ := ret_run h4
    have hlt : n < len := Nat.le_of_ble_eq_true hg
    cases hx with
    | agg hcs =>
    obtain ⟨v', e1, e2⟩ := part_ok (w := w) ok hu hcs
    have hc : (0 : Int) ≤ (n : Int) ∧ (n : Int) < (len : Int) := by omega
    simp only [Nat.mul_eq] at e1
    simp only [Instr.index, Sem.run_bind, asIntOf, Sem.run_pure, Result.andThen_ok, run_und ok ht, if_pos hc, run_size ok hsz, Int.toNat_natCast, e1]
    exact SR.pure r rfl rfl e2
  · exact (fail_run h1).elim
theorem typeAssertA_ok (ok : EnvOK P E) {xt a : TypeId} {b : Bool} {x x' v : Value} {s s' : St} (h : (typeAssertA E x a b).run s = some (v, s')) (r : WR P ρ B0 w0 s.mem w) (hx : VR ρ x x') :
    SR P ρ B0 w0 s s' v ((Instr.typeAssert x' xt a b).run P w) := by
  unfold typeAssertA at h
  obtain ⟨d, hd, h1⟩ := opt_run h
  split at h1
  · exact (fail_run h1).elim
  · rename_i hni
    split at h1
    · rename_i t u
      cases hx with
      | iface hu =>
      split at h1
      · rename_i heq
        obtain rfl := Nat.eq_of_beq_eq_true heq
        obtain ⟨rfl, rfl⟩ := ret_run h1
        refine ?_
        cases d <;> first | exact absurd rfl (hni _) | (
          simp only [Instr.typeAssert, Sem.run_bind, run_und ok hd, Result.andThen_ok, if_true, Sem.run_pure]
          exact SR.pure r rfl rfl (okV_VR _ hu))
      · rename_i hne
        have hne : ¬ (t = a) := fun e => by rw [e] at hne; simp at hne
        obtain ⟨hb, h2⟩ := gd_run h1
        obtain ⟨z, hz, h3⟩ := opt_run h2
        obtain ⟨rfl, rfl⟩ := ret_run h3
        subst hb
        cases d <;> first | exact absurd rfl (hni _) | (
          simp only [Instr.typeAssert, Sem.run_bind, run_und ok hd, Result.andThen_ok, if_neg hne, if_true, run_zero ok hz, Sem.run_pure]
          exact SR.pure r rfl rfl (okV_VR (b := true) _ (zero_lit ok hz)))
    · cases hx
      obtain ⟨hb, h2⟩ := gd_run h1
      obtain ⟨z, hz, h3⟩ := opt_run h2
      obtain ⟨rfl, rfl⟩ := ret_run h3
      subst hb
      cases d <;> first | exact absurd rfl (hni _) | (
        simp only [Instr.typeAssert, Sem.run_bind, run_und ok hd, Result.andThen_ok, if_true, run_zero ok hz, Sem.run_pure]
        exact SR.pure r rfl rfl (okV_VR (b := true) _ (zero_lit ok hz)))
    · exact (fail_run h1).elim
/-- What an operation that is no call comes to. -/
def NR (P : Program) (ρ : Map) (B0 : Nat) (w0 : World) (s s' : St) (v : Value) (r : Result Next) : Prop :=
  ∃ ρ' v' w' n, Gr ρ ρ' s.ctr s'.ctr ∧ s.ctr ≤ s'.ctr ∧ r = .ok n w' ∧ (n = .value v' ∨ (n = .skip ∧ v' = undef)) ∧ VR ρ' v v' ∧ WR P ρ' B0 w0 s'.mem w'
theorem NR.value {s s' : St} {v : Value} {q : Sem Value} (h : SR P ρ B0 w0 s s' v (q.run P w)) : NR P ρ B0 w0 s s' v (((do pure (.value (← q))) : Sem Next).run P w) := by
  obtain ⟨ρ', v', w', a, b, c, d, e⟩ := h
  exact ⟨ρ', v', w', .value v', a, b, by rw [Sem.run_bind, c]; rfl, .inl rfl, d, e⟩
theorem NR.unit {s s' : St} {v : Value} {q : Sem Unit} (h : v = U ∧ UR P ρ B0 w0 s s' (q.run P w)) : NR P ρ B0 w0 s s' v (((do q; pure .skip) : Sem Next).run P w) := by
  obtain ⟨rfl, w', a, b, c⟩ := h
  exact ⟨ρ, undef, w', .skip, Gr.refl _ _ _, by omega, by rw [Sem.run_bind, b]; rfl, .inr ⟨rfl, rfl⟩, U_VR ρ, c⟩
theorem PsR.map {el er : Operand → Value} : ∀ (l : List (Nat × Operand)), (∀ p ∈ l, VR ρ (el p.2) (er p.2)) → PsR ρ (l.map fun (i, x) => (i, el x)) (l.map fun (i, x) => (i, er x))
  | [], _ => .nil
  | (i, x) :: l, h => .cons (h (i, x) (List.mem_cons_self ..)) (PsR.map l fun p hp => h p (List.mem_cons_of_mem _ hp))
theorem OptR.map {el er : Operand → Value} (o : Option Operand) (h : ∀ x, o = some x → VR ρ (el x) (er x)) : OptR ρ (o.map el) (o.map er) := by
  cases o with
  | none => trivial
  | some x => exact h x rfl
set_option maxHeartbeats 4000000 in
theorem plainOp_ok (ok : EnvOK P E) {o : Oper} {el er : Operand → Value} {s s' : St} {v : Value} (h : (plainOp E el o.op).run s = some (v, s')) (r : WR P ρ B0 w0 s.mem w) (fr : Fr ρ s.mem s.ctr s'.ctr)
    (hρ : ∀ x ∈ o.op.operands.toList, VR ρ (el x) (er x)) : NR P ρ B0 w0 s s' v ((execOp er o).run P w) := by
  obtain ⟨dst, op, type, pos, after, gd0⟩ := o
  simp only at h hρ
  have pr : ∀ {u : Value} {q : Next} {u' : Value}, (Prog.ret u).run s = some (v, s') → VR ρ u u' → NR P ρ B0 w0 s s' v (.ok (.value u') w) := by
    intro u q u' hh hu
    obtain ⟨rfl, rfl⟩ := ret_run hh
    exact ⟨ρ, u', w, _, Gr.refl _ _ _, Nat.le_refl _, rfl, .inl rfl, hu, r⟩
  cases op with
  | move x => exact pr (q := .skip) h (hρ x (by simp [Op.operands]))
  | assign x => exact pr (q := .skip) h (hρ x (by simp [Op.operands]))
  | pick c a b =>
    have hc := hρ c (by simp [Op.operands])
    have ha := hρ a (by simp [Op.operands])
    have hb := hρ b (by simp [Op.operands])
    simp only [plainOp] at h
    split at h
    · rename_i hcv
      rw [hcv] at hc
      have hcv' : er c = .bool true := by generalize er c = q at hc; cases hc; rfl
      have : (execOp er ⟨dst, .pick c a b, type, pos, after, gd0⟩).run P w = .ok (.value (er a)) w := by
        simp [execOp, hcv', asBool]
      rw [this]; exact pr (q := .skip) h ha
    · rename_i hcv
      rw [hcv] at hc
      have hcv' : er c = .bool false := by generalize er c = q at hc; cases hc; rfl
      have : (execOp er ⟨dst, .pick c a b, type, pos, after, gd0⟩).run P w = .ok (.value (er b)) w := by
        simp [execOp, hcv', asBool]
      rw [this]; exact pr (q := .skip) h hb
    · exact (fail_run h).elim
  | alloc e =>
    simp only [plainOp] at h
    obtain ⟨z, hz, h1⟩ := opt_run h
    obtain ⟨rfl, rfl⟩ := ret_run (new_run h1)
    obtain ⟨i, hi, hzi⟩ := zero_get hz
    obtain ⟨ρ', g, hk, hrun, wr⟩ := newRow_ok (ex := true) (z := true) r fr ((zero_lit ok hz (ρ := ρ)).cells) (ok.ty _ _ hi)
    refine NR.value (q := Instr.alloc e true (.tuple #[])) ⟨ρ', _, _, g, by simp only; omega, ?_, VR.itP hk rfl, wr⟩
    have hv : (newVar e z).run P w = .ok ⟨w.heap.size, 0, none⟩ { w with heap := w.heap.push (.cells ⟨cellsL z⟩ e) } := hrun
    simp only [Instr.alloc, Sem.run_bind, run_zero ok hz, Result.andThen_ok, hv, Sem.run_pure]
  | box e x =>
    simp only [plainOp] at h
    obtain ⟨n, hn, h1⟩ := opt_run h
    obtain ⟨hlen, h2⟩ := gd_run h1
    obtain ⟨rfl, rfl⟩ := ret_run (new_run h2)
    obtain ⟨i, hi, hisz⟩ := size_ok hn
    have hx := hρ x (by simp [Op.operands])
    obtain ⟨ρ', g, hk, hrun, wr⟩ := newRow_ok (ex := true) (z := true) r fr hx.cells (ok.ty _ _ hi)
    refine NR.value (q := Instr.box e (er x)) ⟨ρ', _, _, g, by simp only; omega, ?_, VR.itP hk rfl, wr⟩
    have hv : (newVar e (er x)).run P w = .ok ⟨w.heap.size, 0, none⟩ { w with heap := w.heap.push (.cells ⟨cellsL (er x)⟩ e) } := hrun
    simp only [Instr.box, Sem.run_bind, Result.andThen_ok, hv, Sem.run_pure]
  | build t parts =>
    simp only [plainOp] at h
    refine NR.value (q := Instr.build t (parts.map fun (i, x) => (i, er x))) ?_
    have := buildA_ok (ps' := parts.toList.map fun (i, x) => (i, er x)) ok h r (PsR.map parts.toList fun p hp => hρ p.2 (by simp only [Op.operands]; exact List.mem_map.2 ⟨p, hp, rfl⟩))
    have e : (parts.map fun (i, x) => (i, er x)) = ⟨parts.toList.map fun (i, x) => (i, er x)⟩ := by apply Array.ext'; simp
    rw [e]; exact this
  | buildSlice t len parts =>
    simp only [plainOp] at h
    refine NR.value (q := Instr.buildSlice t len (parts.map fun (i, x) => (i, er x))) ?_
    have := buildSliceA_ok (ps' := parts.toList.map fun (i, x) => (i, er x)) ok h r fr (PsR.map parts.toList fun p hp => hρ p.2 (by simp only [Op.operands]; exact List.mem_map.2 ⟨p, hp, rfl⟩))
    have e : (parts.map fun (i, x) => (i, er x)) = ⟨parts.toList.map fun (i, x) => (i, er x)⟩ := by apply Array.ext'; simp
    rw [e]; exact this
  | load t a =>
    have ha := hρ a (by simp [Op.operands])
    simp only [plainOp] at h
    split at h
    · rename_i ad hav
      rw [hav] at ha
      obtain ⟨y, hy, hs, he⟩ := ha.ptr_inv
      refine NR.value (q := Instr.loadAt t (er a)) ?_
      simp only [he, Instr.loadAt, Instr.sureAddr, Sem.run_bind, Sem.run_pure, Result.andThen_ok]
      exact loadT_ok ok h r hy
    · exact (fail_run h).elim
  | store t a x =>
    have ha := hρ a (by simp [Op.operands])
    have hx := hρ x (by simp [Op.operands])
    simp only [plainOp] at h
    split at h
    · rename_i ad hav
      rw [hav] at ha
      obtain ⟨y, hy, hs, he⟩ := ha.ptr_inv
      refine NR.unit (q := Instr.storeAt t (er a) (er x)) ?_
      simp only [he, Instr.storeAt, Instr.sureAddr, Sem.run_bind, Sem.run_pure, Result.andThen_ok]
      exact storeT_ok ok h r hx hy
    · exact (fail_run h).elim
  | nilCheck x =>
    have hx := hρ x (by simp [Op.operands])
    simp only [plainOp] at h
    have same : ∀ {u u' : Value}, (Prog.ret u).run s = some (v, s') → VR ρ u u' → er x = u' → (∀ q, u' = q → (execOp er ⟨dst, .nilCheck x, type, pos, after, gd0⟩).run P w = .ok (.value u') w) →
        NR P ρ B0 w0 s s' v ((execOp er ⟨dst, .nilCheck x, type, pos, after, gd0⟩).run P w) := by
      intro u u' hh hu he hq
      rw [hq u' rfl]; exact pr (q := .skip) hh hu
    split at h
    · rename_i a hav
      rw [hav] at hx
      obtain ⟨y, hy, hs, he⟩ := hx.ptr_inv
      rw [he] at hx
      exact same h hx he (fun _ _ => by simp [execOp, he])
    · rename_i t u hav
      rw [hav] at hx
      generalize he : er x = q at hx
      cases hx with
      | iface hu => exact same h (.iface hu) he (fun _ _ => by simp [execOp, he])
    · rename_i f a b hav
      rw [hav] at hx
      generalize he : er x = q at hx
      cases hx with
      | fn hf h1 h2 =>
        cases hf
        exact same h (.fn (.func _) h1 h2) he (fun _ _ => by simp [execOp, he])
    · rename_i l a b hav
      rw [hav] at hx
      generalize he : er x = q at hx
      cases hx with
      | fn hf h1 h2 =>
        cases hf with
        | yield hy => exact same h (.fn (.yield hy) h1 h2) he (fun _ _ => by simp [execOp, he])
    · exact (fail_run h).elim
  | binOp op t x y q =>
    simp only [plainOp] at h
    obtain ⟨u, hu, h1⟩ := opt_run h
    have := binA_ok (w := w) ok hu (hρ x (by simp [Op.operands])) (hρ y (by simp [Op.operands]))
    refine NR.value (q := do eqGuard op t x y (er x) (er y); Go.binOp op t (er x) (er y)) ?_
    rw [this.1]
    obtain ⟨rfl, rfl⟩ := ret_run h1
    exact SR.pure r rfl rfl (lit_VR this.2 ρ)
  | unOp op t x =>
    simp only [plainOp] at h
    obtain ⟨u, hu, h1⟩ := opt_run h
    have := unA_ok (P := P) (w := w) hu (hρ x (by simp [Op.operands]))
    refine NR.value (q := Op.unary op (er x)) ?_
    rw [this.1]
    obtain ⟨rfl, rfl⟩ := ret_run h1
    exact SR.pure r rfl rfl (lit_VR this.2 ρ)
  | convert a b x => exact NR.value (q := Go.convert a b (er x)) (convA_ok ok h r fr (hρ x (by simp [Op.operands])))
  | makeInterface t x =>
    simp only [plainOp] at h
    obtain ⟨d, hd, h1⟩ := opt_run h
    have hx := hρ x (by simp [Op.operands])
    split at h1
    · exact (fail_run h1).elim
    · rename_i hni
      refine NR.value (q := Instr.makeInterface t (er x)) ?_
      obtain ⟨rfl, rfl⟩ := ret_run h1
      have : (Instr.makeInterface t (er x)).run P w = .ok (.iface t (er x)) w := by
        simp only [Instr.makeInterface, Sem.run_bind, run_und ok hd, Result.andThen_ok]
        cases d <;> first | exact absurd rfl (hni _) | rfl
      rw [this]
      exact SR.pure r rfl rfl (.iface hx)
  | makeFunc fn first captured =>
    refine NR.value (q := Instr.makeFunc fn (first.map er) (captured.map er)) ?_
    simp only [plainOp] at h
    split at h
    · rename_i f
      obtain ⟨rfl, rfl⟩ := ret_run h
      have e : ∀ (l : Array Operand) (g : Operand → Value), l.map g = ⟨l.toList.map g⟩ := fun l g => by apply Array.ext'; simp
      have h1 : VRs ρ (first.toList.map el) (first.toList.map er) := VRs.map _ _ _ (fun x hx => hρ x (by simp [Op.operands] at hx ⊢; exact .inl hx))
      have h2 : VRs ρ (captured.toList.map el) (captured.toList.map er) := VRs.map _ _ _ (fun x hx => hρ x (by simp [Op.operands] at hx ⊢; exact .inr hx))
      rw [e first el, e captured el]
      refine SR.pure r rfl rfl ?_
      rw [e first er, e captured er]
      exact .fn (.func f) h1 h2
    · exact (fail_run h).elim
  | makeMap t m =>
    have hnew : ∀ {k : Nat → Prog}, (Prog.newObj (.mp [] 0) fun k => .ret (.map (some k))).run s = some (v, s') → SR P ρ B0 w0 s s' v (.ok (.map (some w.heap.size)) (w.alloc (.map #[] 0))) := by
      intro _ hh
      obtain ⟨rfl, rfl⟩ := ret_run (newObj_run hh)
      obtain ⟨ρ', g, hk, wr⟩ := r.newObj (k := s.ctr) (o := .mp [] 0) (ob := .map #[] 0) fr rfl (.mp 0 .nil)
      exact ⟨ρ', _, _, g, Nat.le_succ _, rfl, .mp hk, wr⟩
    cases m with
    | none =>
      refine NR.value (q := Instr.makeMap t none) ?_
      have : (Instr.makeMap t none).run P w = .ok (.map (some w.heap.size)) (w.alloc (.map #[] 0)) := rfl
      rw [this]
      exact hnew (k := fun _ => .fail) h
    | some x =>
      have hx := hρ x (by simp [Op.operands])
      simp only [plainOp] at h
      obtain ⟨q, hq, h1⟩ := opt_run h
      have ht := mapOf_ok hq
      split at h1
      · rename_i k n hav
        rw [hav] at hx
        generalize he : er x = q at hx
        cases hx
        refine NR.value (q := Instr.makeMap t (some (er x))) ?_
        have : (Instr.makeMap t (some (er x))).run P w = .ok (.map (some w.heap.size)) (w.alloc (.map #[] 0)) := by
          simp only [he, Instr.makeMap, Sem.run_bind, run_und ok ht, Result.andThen_ok, asInt, asIntOf, Sem.run_pure, Go.run_newObj_alloc]
        rw [this]
        exact hnew (k := fun _ => .fail) h1
      · exact (fail_run h1).elim
  | makeSlice t l c => exact NR.value (q := Instr.makeSlice t (er l) (er c)) (makeSliceA_ok ok h r fr (hρ l (by simp [Op.operands])) (hρ c (by simp [Op.operands])))
  | slice t x lo hi mx =>
    exact NR.value (q := Instr.sliceAt t (er x) (lo.map er) (hi.map er) (mx.map er)) (sliceA_ok ok h r (hρ x (by simp [Op.operands])) (OptR.map lo fun y e => hρ y (by simp [Op.operands, e])) (OptR.map hi fun y e => hρ y (by simp [Op.operands, e]))
      (OptR.map mx fun y e => hρ y (by simp [Op.operands, e])))
  | fieldAddr t x f => exact NR.value (q := Instr.fieldAt t (er x) f) (fieldAddrA_ok ok h r (hρ x (by simp [Op.operands])))
  | field t x f => exact NR.value (q := Instr.field t (er x) f) (fieldA_ok ok h r (hρ x (by simp [Op.operands])))
  | indexAddr t x i => exact NR.value (q := Instr.indexAt t (er x) (er i)) (indexAddrA_ok ok h r (hρ x (by simp [Op.operands])) (hρ i (by simp [Op.operands])))
  | index t x i => exact NR.value (q := Instr.index t (er x) (er i)) (indexOp_ok ok h r (hρ x (by simp [Op.operands])) (hρ i (by simp [Op.operands])))
  | lookup t x k b => exact NR.value (q := Instr.lookup t (er x) (er k) b) (lookupA_ok ok h r (hρ x (by simp [Op.operands])) (hρ k (by simp [Op.operands])))
  | mapUpdate t m k x => exact NR.unit (q := Instr.mapUpdate t (er m) (er k) (er x)) (mapSet_ok ok h r (hρ m (by simp [Op.operands])) (hρ k (by simp [Op.operands])) (hρ x (by simp [Op.operands])))
  | insert t m k x => exact NR.unit (q := Instr.mapUpdate t (er m) (er k) (er x)) (mapSet_ok ok h r (hρ m (by simp [Op.operands])) (hρ k (by simp [Op.operands])) (hρ x (by simp [Op.operands])))
  | mapEntry t m k => exact NR.value (q := Instr.mapEntry t (er m) (er k)) (mapEntryA_ok ok h r (hρ m (by simp [Op.operands])) (hρ k (by simp [Op.operands])))
  | entryStore t m st x => exact NR.unit (q := Instr.entryStore t (er m) (er st) (er x)) (entryStoreA_ok h r (hρ m (by simp [Op.operands])) (hρ st (by simp [Op.operands])) (hρ x (by simp [Op.operands])))
  | range t x => exact NR.value (q := Instr.range t (er x)) (rangeA_ok ok h r fr (hρ x (by simp [Op.operands])))
  | next x b => exact NR.value (q := Instr.next (er x) b type) (nextA_ok h r (hρ x (by simp [Op.operands])))
  | entry x => exact NR.value (q := Instr.entry (er x)) (entryA_ok h r (hρ x (by simp [Op.operands])))
  | typeAssert x xt a b => exact NR.value (q := Instr.typeAssert (er x) xt a b) (typeAssertA_ok ok h r (hρ x (by simp [Op.operands])))
  | extract x i =>
    have hx := hρ x (by simp [Op.operands])
    simp only [plainOp] at h
    split at h
    · rename_i vs hav
      rw [hav] at hx
      obtain ⟨u, hu, h1⟩ := opt_run h
      generalize he : er x = q at hx
      obtain ⟨vl⟩ := vs
      cases hx with
      | @tuple _ vs' hvs =>
      obtain ⟨u', e1, e2⟩ := hvs.get hu
      obtain ⟨rfl, rfl⟩ := ret_run h1
      refine NR.value (q := Instr.extract (er x) i) ?_
      have : (Instr.extract (er x) i).run P w = .ok u' w := by
        have e3 : (⟨vs'⟩ : Array Value)[i]? = some u' := by simpa using e1
        simp only [he, Instr.extract, e3, Sem.run_pure]
      rw [this]
      exact SR.pure r rfl rfl e2
    · exact (fail_run h).elim
  | _ => exact (fail_run h).elim
end
end Go.Ev
