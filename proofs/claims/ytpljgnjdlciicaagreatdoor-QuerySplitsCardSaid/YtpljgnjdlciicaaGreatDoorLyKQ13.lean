/- Soundness, part 12: all operations that are no calls. -/
import Derived.Test.YtpljgnjdlciicaaGreatDoorLyKQ12
import Derived.Laws.Tables
namespace Go.Ev
open Go Go.RowKit
section
variable {P : Program} {E : Env} (ok : EnvOK P E) {ρ : Map} {B0 : Nat} {w0 w : World}

theorem places_ok (ok : EnvOK P E) : ∀ l : List Field, (l.all fun f : Field => (E.size f.type).isSome) = true → ∃ places : List (Nat × Nat), l.mapM (fun f : Field => (P.info? f.type).map fun i => (f.offset, i.size)) = some places ∧
    ∀ (i : Nat) (q : Nat × Nat), ((l[i]?).bind fun f : Field => (E.size f.type).map fun n => (f.offset, n)) = some q → places[i]? = some q := by
  intro l
  induction l with
  | nil => exact fun _ => ⟨[], rfl, fun i q h => by simp at h⟩
  | cons f l ih =>
    intro h
    simp only [List.all_cons, Bool.and_eq_true] at h
    obtain ⟨h1, h2⟩ := h
    obtain ⟨places, e1, e2⟩ := ih h2
    obtain ⟨n, hn⟩ := Option.isSome_iff_exists.1 h1
    obtain ⟨i, hi, rfl⟩ := size_ok hn
    refine ⟨(f.offset, i.size) :: places, ?_, ?_⟩
    · simp [List.mapM_cons, ok.ty _ _ hi, e1]
    · intro j q hq
      cases j with
      | zero => simpa [hn] using hq
      | succ j => simpa using e2 j q (by simpa using hq)
theorem buildA_ok (ok : EnvOK P E) {t : TypeId} {ps ps' : List (Nat × Value)} {v : Value} {s s' : St} (h : (buildA E t ps).run s = some (v, s')) (r : WR P ρ B0 w0 s.mem w) (hp : PsR ρ ps ps') :
    SR P ρ B0 w0 s s' v ((Instr.build t ⟨ps'⟩).run P w) := by
  unfold buildA at h
  obtain ⟨z, hz, h1⟩ := opt_run h
  obtain ⟨d, hd, h2⟩ := opt_run h1
  obtain ⟨i, hi, hzi⟩ := zero_get hz
  have hinf := ok.ty _ _ hi
  have hu := und_ok ok hd
  have hzv := (zero_lit ok hz (ρ := ρ)).cells
  split at h2
  · rename_i fs
    obtain ⟨hall, h3⟩ := gd_run h2
    obtain ⟨cs, hcs, h4⟩ := opt_run h3
    obtain ⟨rfl, rfl⟩ := ret_run h4
    obtain ⟨places, e1, e2⟩ := places_ok ok fs.toList (by rw [Array.all_toList]; exact hall)
    obtain ⟨r', f1, f2, f3⟩ := fillA_ok (place' := (places.toArray[·]?)) (fun i q hq => by simpa using e2 i q (by simpa using hq)) hcs hp hzv
    have hb : P.built t ps' = some ⟨r'⟩ := by
      simp only [Program.built, hinf, hu, hzi, e1]
      exact f1
    rw [run_build w t ⟨ps'⟩ ⟨r'⟩ hb]
    exact SR.pure r rfl rfl (.agg f2)
  · rename_i n e
    obtain ⟨sz, hsz, h3⟩ := opt_run h2
    obtain ⟨cs, hcs, h4⟩ := opt_run h3
    obtain ⟨rfl, rfl⟩ := ret_run h4
    obtain ⟨ie, hie, rfl⟩ := size_ok hsz
    obtain ⟨r', f1, f2, f3⟩ := fillA_ok (fun i q hq => hq) hcs hp hzv
    have hb : P.built t ps' = some ⟨r'⟩ := by
      simp only [Program.built, hinf, hu, hzi, ok.ty _ _ hie]
      exact f1
    rw [run_build w t ⟨ps'⟩ ⟨r'⟩ hb]
    exact SR.pure r rfl rfl (.agg f2)
  · exact (fail_run h2).elim
theorem flatC_set {n i : Nat} {v : Value} : ∀ {zs : List Value}, AllSz n zs → i < zs.length → (cellsL v).length = n → flatC (zs.set i v) = (flatC zs).take (i * n) ++ cellsL v ++ (flatC zs).drop (i * n + n) := by
  intro zs ha hi hv
  have e : zs.set i v = zs.take i ++ v :: zs.drop (i + 1) := by
    rw [List.set_eq_take_append_cons_drop, if_pos hi]
  rw [e, flatC_append, flatC, flatC_take ha, flatC_drop ha, Nat.add_mul, Nat.one_mul, List.append_assoc]
theorem placeL_ok {n : Nat} : ∀ {ps ps' : List (Nat × Value)} {zs es cs' : List Value}, placeL n zs ps = some es → PsR ρ ps ps' → VRs ρ (flatC zs) cs' → AllSz n zs →
    ∃ r', Instr.fill (fun i => some (i * n, n)) ⟨cs'⟩ ps' = some ⟨r'⟩ ∧ VRs ρ (flatC es) r' ∧ AllSz n es ∧ es.length = zs.length := by
  intro ps
  induction ps with
  | nil =>
    intro ps' zs es cs' h hp hv ha
    cases hp
    simp only [placeL, Option.some.injEq] at h
    subst h
    exact ⟨cs', rfl, hv, ha, rfl⟩
  | cons p ps ih =>
    intro ps' zs es cs' h hp hv ha
    cases hp with
    | @cons i v v' _ l' h1 h2 =>
    simp only [placeL] at h
    split at h
    · rename_i hg
      simp only [Bool.and_eq_true] at hg
      have hi : i < zs.length := Nat.le_of_ble_eq_true hg.1
      have hn := Nat.eq_of_beq_eq_true hg.2
      have hvc := h1.cells
      have hvl := hvc.length
      have hcl := hv.length
      rw [flatC_length ha] at hcl
      have hin : i * n + n ≤ zs.length * n := by
        have := Nat.mul_le_mul_right n (show i + 1 ≤ zs.length from hi)
        rw [Nat.succ_mul] at this
        exact this
      have hv2 : VRs ρ (flatC (zs.set i v)) (cs'.take (i * n) ++ cellsL v' ++ cs'.drop (i * n + (cellsL v').length)) := by
        rw [flatC_set ha hi hn, hvl, hn]
        exact ((hv.take _).append hvc).append (hv.drop _)
      have ha2 : AllSz n (zs.set i v) := by
        intro e he
        rcases List.mem_or_eq_of_mem_set he with he | rfl
        · exact ha e he
        · exact hn
      obtain ⟨r', e1, e2, e3, e4⟩ := ih h h2 hv2 ha2
      refine ⟨r', ?_, e2, e3, by rw [e4]; simp⟩
      have hsz : v'.cells.size = n := by rw [← hn, ← hvl]; rfl
      simp only [Instr.fill]
      rw [if_neg (by simp only [hsz, List.size_toArray, Bool.or_eq_true, decide_eq_true_eq, not_or]; omega), fill_row cs' (i * n) v' (by omega)]
      exact e1
    · cases h
theorem flatC_replicate {z z' : Value} (h : VR ρ z z') : ∀ len, VRs ρ (flatC (List.replicate len z)) (rep (cellsL z') len)
  | 0 => .nil
  | len + 1 => by
    rw [List.replicate_succ, flatC, rep]
    exact h.cells.append (flatC_replicate h len)
theorem rowSliceA_ok (ok : EnvOK P E) {t : TypeId} {len : Nat} {ps ps' : List (Nat × Value)} {v : Value} {s s' : St} (h : (rowSliceA E t len ps).run s = some (v, s')) (r : WR P ρ B0 w0 s.mem w) (fr : Fr ρ s.mem s.ctr s'.ctr)
    (hp : PsR ρ ps ps') : SR P ρ B0 w0 s s' v ((Instr.buildSlice t len ⟨ps'⟩).run P w) := by
  unfold rowSliceA at h
  obtain ⟨e, he, h⟩ := opt_run h
  obtain ⟨n, hn, h⟩ := opt_run h
  obtain ⟨hle, h⟩ := ck_run h
  obtain ⟨z, hz, h⟩ := opt_run h
  obtain ⟨es, hes, h⟩ := opt_run h
  obtain ⟨hzn, h⟩ := ck_run h
  obtain ⟨rfl, rfl⟩ := ret_run (new_run h)
  have hle := Nat.le_of_ble_eq_true hle
  have hzn := Nat.eq_of_beq_eq_true hzn
  have ht := elemOfSlice_ok he
  have hzl := zero_len ok hz hn
  have hzc : z.cells.size = n := hzl
  obtain ⟨i, hi, hisz⟩ := size_ok hn
  obtain ⟨r', f1, f2, f3, f4⟩ := placeL_ok hes hp (flatC_replicate (zero_lit ok hz (ρ := ρ)) len) (fun x hx => by rw [List.eq_of_mem_replicate hx]; exact hzn)
  have hcond : ¬ (len * n > 2 ^ 24) := by omega
  obtain ⟨ρ', g, hk, hrun, wr⟩ := newRow_ok (ex := true) (z := true) r fr f2 (ok.ty _ _ hi)
  refine ⟨ρ', .slice (some ⟨w.heap.size, 0, none⟩) len len, _, g, by simp only; omega, ?_, ?_, wr⟩
  · simp only [Instr.buildSlice, Sem.run_bind, run_und ok ht, Result.andThen_ok, run_size ok hn, if_neg hcond]
    by_cases h0 : len * n = 0
    · rw [if_pos h0, h0]
      have e0 : rep (cellsL z) len = [] := List.eq_nil_of_length_eq_zero (by rw [rep_length, hzl]; exact h0)
      rw [e0] at f1
      have e1 : ∀ f : Nat → Value, Array.map f (Array.range 0) = ⟨[]⟩ := fun f => by simp
      simp only [Sem.run_bind, Sem.run_pure, Result.andThen_ok, e1, f1, hrun]
    · rw [if_neg h0]
      simp only [Sem.run_bind, run_zero ok hz, Result.andThen_ok, Sem.run_pure]
      rw [← hzc] at f1 ⊢
      simp only [zeros_eq]
      rw [show (⟨rep z.cells.toList len⟩ : Array Value) = ⟨rep (cellsL z) len⟩ from rfl, f1]
      simp only [Sem.run_bind, hrun, Result.andThen_ok, Sem.run_pure]
  · have := VR.slice_exact (ρ := ρ') (o := 0) hk (Nat.le_refl len)
    simpa using this
theorem buildSliceA_ok (ok : EnvOK P E) {t : TypeId} {len : Nat} {ps ps' : List (Nat × Value)} {v : Value} {s s' : St} (h : (buildSliceA E t len ps).run s = some (v, s')) (r : WR P ρ B0 w0 s.mem w) (fr : Fr ρ s.mem s.ctr s'.ctr)
    (hp : PsR ρ ps ps') : SR P ρ B0 w0 s s' v ((Instr.buildSlice t len ⟨ps'⟩).run P w) := by
  unfold buildSliceA at h
  split at h
  · exact rowSliceA_ok ok h r fr hp
  obtain ⟨e, he, h1⟩ := opt_run h
  obtain ⟨n, hn, h2⟩ := opt_run h1
  obtain ⟨hle, h3⟩ := ck_run h2
  obtain ⟨z, hz, h4⟩ := opt_run h3
  obtain ⟨ρ1, z1, s1, h5, hz1, r1, g1, c1, _⟩ := frzT_ok (E := E) e ρ z z _ s w _ h4 (zero_lit ok hz) r
  obtain ⟨ρ2, ps1, s2, h6, hp2, r2, g2, c2⟩ := frzPs_ok (E := E) (e := e) _ ρ1 ps' _ s1 w _ h5 (hp.ext g1.1) r1
  obtain ⟨es, hes, h7⟩ := opt_run h6
  obtain ⟨hzn, h8⟩ := ck_run h7
  obtain ⟨rfl, rfl⟩ := ret_run h8
  have hle := Nat.le_of_ble_eq_true hle
  have hzn := Nat.eq_of_beq_eq_true hzn
  have ht := elemOfSlice_ok he
  have hzl := zero_len ok hz hn
  have hzc : z.cells.size = n := hzl
  obtain ⟨i, hi, hisz⟩ := size_ok hn
  obtain ⟨r', f1, f2, f3, f4⟩ := placeL_ok hes hp2 (flatC_replicate (hz1.ext g2.1) len) (fun x hx => by rw [List.eq_of_mem_replicate hx]; exact hzn)
  have hlen : es.length = len := by rw [f4]; simp
  have hcond : ¬ (len * n > 2 ^ 24) := by omega
  let w' : World := { w with heap := w.heap.push (.cells ⟨r'⟩ e) }
  have hrun : (newRow e ⟨r'⟩).run P w = .ok ⟨w.heap.size, 0, none⟩ w' := rfl
  have rm := r2.mr.pushList (w1 := w') (c := ⟨r'⟩) (el := e) (fr := (0, 0)) (sz := i.size) rfl (Nat.le_trans r2.hB r2.bel.size)
  have hn1 : ρ2.ls w.heap.size = none := r2.mr.unlisted
  have gl := g1.trans g2
  refine ⟨_, .slice (some ⟨w.heap.size, 0, none⟩) len len, w', ⟨(gl.1).trans (Ext.updL _ hn1), fun k _ => gl.2 k⟩, by omega, ?_, ?_, ⟨rm, r2.bel.alloc r2.size _, r2.hB⟩⟩
  · simp only [Instr.buildSlice, Sem.run_bind, run_und ok ht, Result.andThen_ok, run_size ok hn, if_neg hcond]
    by_cases h0 : len * n = 0
    · rw [if_pos h0, h0]
      have e0 : rep (cellsL z) len = [] := List.eq_nil_of_length_eq_zero (by rw [rep_length, hzl]; exact h0)
      rw [e0] at f1
      have e1 : ∀ f : Nat → Value, Array.map f (Array.range 0) = ⟨[]⟩ := fun f => by simp
      simp only [Sem.run_bind, Sem.run_pure, Result.andThen_ok, e1, f1, hrun]
    · rw [if_neg h0]
      simp only [Sem.run_bind, run_zero ok hz, Result.andThen_ok, Sem.run_pure]
      rw [← hzc] at f1 ⊢
      simp only [zeros_eq]
      rw [show (⟨rep z.cells.toList len⟩ : Array Value) = ⟨rep (cellsL z) len⟩ from rfl, f1]
      simp only [Sem.run_bind, hrun, Result.andThen_ok, Sem.run_pure]
  · have := VR.xl (ρ := updL ρ2 w.heap.size ⟨w.heap.size, 0, (⟨r'⟩ : Array Value).size, i.size, (⟨r'⟩ : Array Value).toList⟩) (es := es) (cs' := r') (B := w.heap.size) (o := 0) (sz := n) (updL_same _ _ _) (f2.ext (Ext.updL _ hn1)) (fun j u hj => by simpa using hj) f3
    rw [hlen] at this
    exact this
theorem fieldAddrA_ok (ok : EnvOK P E) {t : TypeId} {x x' v : Value} {f : Nat} {s s' : St} (h : (fieldAddrA E t x f).run s = some (v, s')) (r : WR P ρ B0 w0 s.mem w) (hx : VR ρ x x') :
    SR P ρ B0 w0 s s' v ((Instr.fieldAt t x' f).run P w) := by
  unfold fieldAddrA at h
  split at h
  · rename_i fs a ht
    obtain ⟨fd, hf, h1⟩ := opt_run h
    split at h1
    · rename_i n hn
      obtain ⟨rfl, rfl⟩ := ret_run h1
      obtain ⟨y, hy, hs, rfl⟩ := hx.ptr_inv
      simp only [Instr.fieldAt, Sem.run_bind, run_und ok ht, Result.andThen_ok, hf, Instr.sureAddr, Sem.run_pure, fieldPlace, run_size ok hn]
      rw [if_neg (by omega), Sem.run_pure]
      simp only [Result.andThen_ok, add_at, Nat.add_assoc]
      exact SR.pure r rfl rfl (.ptr hy)
    · exact (fail_run h1).elim
  · rename_i fs ht n1
    split at h
    · rename_i hep
      obtain ⟨fd, hf, h1⟩ := opt_run h
      split at h1
      · rename_i n hn
        obtain ⟨hlt, h2⟩ := gd_run h1
        obtain ⟨rfl, rfl⟩ := ret_run h2
        obtain ⟨B, o, cs', z, rfl, hz, hv, hs⟩ := hx.isEp_inv hep
        simp only [Instr.fieldAt, Sem.run_bind, run_und ok ht, Result.andThen_ok, hf, Instr.sureAddr, Sem.run_pure, fieldPlace, run_size ok hn]
        rw [if_neg (by omega), Sem.run_pure]
        simp only [Result.andThen_ok, add_at]
        exact SR.pure r rfl rfl (.ep hz (hv.drop _) hs.drop)
      · exact (fail_run h1).elim
    · exact (fail_run h).elim
  · exact (fail_run h).elim
theorem fieldA_ok (ok : EnvOK P E) {t : TypeId} {x x' v : Value} {f : Nat} {s s' : St} (h : (fieldA E t x f).run s = some (v, s')) (r : WR P ρ B0 w0 s.mem w) (hx : VR ρ x x') :
    SR P ρ B0 w0 s s' v ((Instr.field t x' f).run P w) := by
  unfold fieldA at h
  split at h
  · rename_i fs cs ht
    obtain ⟨fd, hf, h1⟩ := opt_run h
    obtain ⟨u, hu, h2⟩ := opt_run h1
    obtain ⟨rfl, rfl⟩ := ret_run h2
    cases hx with
    | agg hcs =>
    obtain ⟨v', e1, e2⟩ := part_ok (w := w) ok hu hcs
    simp only [Instr.field, Sem.run_bind, run_und ok ht, Result.andThen_ok, hf, asAgg, Sem.run_pure, e1]
    exact SR.pure r rfl rfl e2
  · exact (fail_run h).elim
theorem indexAddrA_ok (ok : EnvOK P E) {t : TypeId} {x x' i i' v : Value} {s s' : St} (h : (indexAddrA E t x i).run s = some (v, s')) (r : WR P ρ B0 w0 s.mem w) (hx : VR ρ x x') (hi : VR ρ i i') :
    SR P ρ B0 w0 s s' v ((Instr.indexAt t x' i').run P w) := by
  unfold indexAddrA at h
  obtain ⟨n, hn, h1⟩ := natP_run h
  obtain ⟨k, rfl⟩ := natOf_ok hn hi
  clear h
  split at h1
  · rename_i hL
    split at h1
    · rename_i e ht
      obtain ⟨sz, hsz, h2⟩ := opt_run h1
      obtain ⟨hg, h3⟩ := gd_run h2
      obtain ⟨rfl, rfl⟩ := ret_run h3
      simp only [Bool.and_eq_true] at hg
      obtain ⟨⟨hlt, hpos⟩, hhd⟩ := hg
      have hlt : n < (elems x).length := Nat.le_of_ble_eq_true hlt
      obtain ⟨a, c', rfl, hcase, hle, _⟩ := hx.isL_inv hL
      have hne : elems x ≠ [] := fun q => by rw [q] at hlt; simp at hlt
      rcases hcase with ⟨q, _⟩ | ⟨B, o, sz', cs', z, rfl, hz, hv, hs, ha⟩
      · exact absurd q hne
      · obtain rfl := hdOk_all hhd ha hne
        have hc : (0 : Int) ≤ (n : Int) ∧ (n : Int) < ((elems x).length : Int) := by omega
        simp only [Instr.indexAt, Sem.run_bind, asIntOf, Sem.run_pure, Result.andThen_ok, run_und ok ht, if_pos hc, run_size ok hsz, Int.toNat_natCast, add_at]
        refine SR.pure r rfl rfl (.ep hz ?_ ((hs.drop (n := n * sz')).take (n := sz')))
        have e : cellsL (at_ (elems x) n) = ((flatC (elems x)).drop (n * sz')).take sz' := by
          have h1 := flatC_take (n := 1) (ha.drop (n := n))
          rw [Nat.one_mul, flatC_drop ha] at h1
          rw [← h1]
          have h2 : ((elems x).drop n).take 1 = [at_ (elems x) n] := by
            have hat : at_ (elems x) n = (elems x)[n] := by simp [at_, List.getD_eq_getElem?_getD, List.getElem?_eq_getElem hlt]
            rw [hat, List.drop_eq_getElem_cons hlt]
            rfl
          rw [h2]
          simp only [flatC, List.append_nil]
        rw [e]
        exact (hv.drop _).take _
    · exact (fail_run h1).elim
  rename_i hNL
  clear hNL
  split at h1
  · rename_i e a len c ht
    obtain ⟨sz, hsz, h2⟩ := opt_run h1
    obtain ⟨hg, h3⟩ := gd_run h2
    obtain ⟨rfl, rfl⟩ := ret_run h3
    simp only [Bool.and_eq_true] at hg
    have hlt : n < len := Nat.le_of_ble_eq_true hg.1
    cases hx with
    | @sl b o o' _ _ c' xb hxb ho hl0 hex hin hle =>
    have ho' : o' = xb.sh + o := by
      rcases ho with ho | ho
      · exact ho
      · omega
    subst ho'
    have hc : (0 : Int) ≤ (n : Int) ∧ (n : Int) < (len : Int) := by omega
    simp only [Instr.indexAt, Sem.run_bind, asIntOf, Sem.run_pure, Result.andThen_ok, run_und ok ht, if_pos hc, run_size ok hsz, Int.toNat_natCast, add_at, Nat.add_assoc]
    exact SR.pure r rfl rfl (.ptr hxb)
  · rename_i len e a ht
    obtain ⟨sz, hsz, h2⟩ := opt_run h1
    obtain ⟨hg, h3⟩ := gd_run h2
    obtain ⟨rfl, rfl⟩ := ret_run h3
    simp only [Bool.and_eq_true] at hg
    have hlt : n < len := Nat.le_of_ble_eq_true hg.1
    obtain ⟨y, hy, hs, rfl⟩ := hx.ptr_inv
    have hc : (0 : Int) ≤ (n : Int) ∧ (n : Int) < (len : Int) := by omega
    simp only [Instr.indexAt, Sem.run_bind, asIntOf, Sem.run_pure, Result.andThen_ok, run_und ok ht, Instr.sureAddr, if_pos hc, run_size ok hsz, Int.toNat_natCast, add_at, Nat.add_assoc]
    exact SR.pure r rfl rfl (.ptr hy)
  · exact (fail_run h1).elim
theorem indexOp_ok (ok : EnvOK P E) {t : TypeId} {x x' i i' v : Value} {s s' : St} (h : (indexOp E t x i).run s = some (v, s')) (r : WR P ρ B0 w0 s.mem w) (hx : VR ρ x x') (hi : VR ρ i i') :
    SR P ρ B0 w0 s s' v ((Instr.index t x' i').run P w) := by
  unfold indexOp at h
  obtain ⟨n, hn, h1⟩ := natP_run h
  obtain ⟨k, rfl⟩ := natOf_ok hn hi
  have h0 : (0 : Int) ≤ (n : Int) := by omega
  split at h1
  · rename_i b ht
    obtain ⟨hc, h2⟩ := gd_run h1
    obtain ⟨rfl, rfl⟩ := ret_run h2
    cases hx
    have hlt : n < b.data.toList.length := Nat.le_of_ble_eq_true hc
    have hlt' : n < b.size := hlt
    have hb : b[n]? = some b.data.toList[n] := by
      rw [getElem?_pos b n hlt']
      rfl
    have hba : byteAt b n = (b.data.toList[n]).toNat := by
      unfold byteAt
      rw [List.getD_eq_getElem?_getD, List.getElem?_eq_getElem hlt]
      rfl
    simp only [Instr.index, Sem.run_bind, asIntOf, Sem.run_pure, Result.andThen_ok, run_und ok ht, if_pos h0, Int.toNat_natCast, hb, hba]
    exact SR.pure r rfl rfl (.int _ _)
  · rename_i len e cs ht
    obtain ⟨sz, hsz, h2⟩ := opt_run h1
    obtain ⟨hg, h3⟩ := gd_run h2
    obtain ⟨u, hu, h4⟩ := opt_run h3
    obtain ⟨rfl, rfl⟩ := ret_run h4
    have hlt : n < len := Nat.le_of_ble_eq_true hg
    cases hx with
    | agg hcs =>
    obtain ⟨v', e1, e2⟩ := part_ok (w := w) ok hu hcs
    have hc : (0 : Int) ≤ (n : Int) ∧ (n : Int) < (len : Int) := by omega
    simp only [Nat.mul_eq] at e1
    simp only [Instr.index, Sem.run_bind, asIntOf, Sem.run_pure, Result.andThen_ok, run_und ok ht, if_pos hc, run_size ok hsz, Int.toNat_natCast, e1]
    exact SR.pure r rfl rfl e2
  · exact (fail_run h1).elim
theorem typeAssertA_ok (ok : EnvOK P E) {xt a : TypeId} {b : Bool} {x x' v : Value} {s s' : St} (h : (typeAssertA E x a b).run s = some (v, s')) (r : WR P ρ B0 w0 s.mem w) (hx : VR ρ x x') :
    SR P ρ B0 w0 s s' v ((Instr.typeAssert x' xt a b).run P w) := by
  unfold typeAssertA at h
  obtain ⟨d, hd, h1⟩ := opt_run h
  split at h1
  · exact (fail_run h1).elim
  · rename_i hni
    split at h1
    · rename_i t u
      have hck := ck_run h1
      have hlt := hck.1
      replace h1 := hck.2
      clear hck
      cases hx with
      | iface _ hu =>
      split at h1
      · rename_i heq
        obtain rfl := Nat.eq_of_beq_eq_true heq
        obtain ⟨rfl, rfl⟩ := ret_run h1
        refine ?_
        cases d <;> first | exact absurd rfl (hni _) | (
          simp only [Instr.typeAssert, Sem.run_bind, run_und ok hd, Result.andThen_ok, if_true, Sem.run_pure]
          exact SR.pure r rfl rfl (okV_VR _ hu))
      · rename_i hne
        have hne : ¬ (t = a) := fun e => by rw [e] at hne; simp at hne
        obtain ⟨hb, h2⟩ := gd_run h1
        obtain ⟨z, hz, h3⟩ := opt_run h2
        obtain ⟨rfl, rfl⟩ := ret_run h3
        subst hb
        cases d <;> first | exact absurd rfl (hni _) | (
          simp only [Instr.typeAssert, Sem.run_bind, run_und ok hd, Result.andThen_ok, if_neg hne, if_true, run_zero ok hz, Sem.run_pure]
          exact SR.pure r rfl rfl (okV_VR (b := true) _ (zero_lit ok hz)))
      | _ => exact absurd hlt (by decide)
    · cases hx
      obtain ⟨hb, h2⟩ := gd_run h1
      obtain ⟨z, hz, h3⟩ := opt_run h2
      obtain ⟨rfl, rfl⟩ := ret_run h3
      subst hb
      cases d <;> first | exact absurd rfl (hni _) | (
        simp only [Instr.typeAssert, Sem.run_bind, run_und ok hd, Result.andThen_ok, if_true, run_zero ok hz, Sem.run_pure]
        exact SR.pure r rfl rfl (okV_VR (b := true) _ (zero_lit ok hz)))
    · exact (fail_run h1).elim
/-- What an operation that is no call comes to. -/
def NR (P : Program) (ρ : Map) (B0 : Nat) (w0 : World) (s s' : St) (v : Value) (r : Result Next) : Prop :=
  ∃ ρ' v' w' n, Gr ρ ρ' s.ctr s'.ctr ∧ s.ctr ≤ s'.ctr ∧ r = .ok n w' ∧ (n = .value v' ∨ (n = .skip ∧ v' = undef)) ∧ VR ρ' v v' ∧ WR P ρ' B0 w0 s'.mem w'
theorem NR.value {s s' : St} {v : Value} {q : Sem Value} (h : SR P ρ B0 w0 s s' v (q.run P w)) : NR P ρ B0 w0 s s' v (((do pure (.value (← q))) : Sem Next).run P w) := by
  obtain ⟨ρ', v', w', a, b, c, d, e⟩ := h
  exact ⟨ρ', v', w', .value v', a, b, by rw [Sem.run_bind, c]; rfl, .inl rfl, d, e⟩
theorem NR.unit {s s' : St} {v : Value} {q : Sem Unit} (h : v = U ∧ UR P ρ B0 w0 s s' (q.run P w)) : NR P ρ B0 w0 s s' v (((do q; pure .skip) : Sem Next).run P w) := by
  obtain ⟨rfl, w', a, b, c⟩ := h
  exact ⟨ρ, undef, w', .skip, Gr.refl _ _ _, by omega, by rw [Sem.run_bind, b]; rfl, .inr ⟨rfl, rfl⟩, U_VR ρ, c⟩
theorem PsR.map {el er : Operand → Value} : ∀ (l : List (Nat × Operand)), (∀ p ∈ l, VR ρ (el p.2) (er p.2)) → PsR ρ (l.map fun (i, x) => (i, el x)) (l.map fun (i, x) => (i, er x))
  | [], _ => .nil
  | (i, x) :: l, h => .cons (h (i, x) (List.mem_cons_self ..)) (PsR.map l fun p hp => h p (List.mem_cons_of_mem _ hp))
theorem OptR.map {el er : Operand → Value} (o : Option Operand) (h : ∀ x, o = some x → VR ρ (el x) (er x)) : OptR ρ (o.map el) (o.map er) := by
  cases o with
  | none => trivial
  | some x => exact h x rfl
set_option maxHeartbeats 4000000 in
theorem plainOp_ok (ok : EnvOK P E) {o : Oper} {el er : Operand → Value} {s s' : St} {v : Value} (h : (plainOp E el o.op).run s = some (v, s')) (r : WR P ρ B0 w0 s.mem w) (fr : Fr ρ s.mem s.ctr s'.ctr)
    (hρ : ∀ x ∈ o.op.operands.toList, VR ρ (el x) (er x)) : NR P ρ B0 w0 s s' v ((execOp er o).run P w) := by
  obtain ⟨dst, op, type, pos, after, gd0⟩ := o
  simp only at h hρ
  have pr : ∀ {u : Value} {q : Next} {u' : Value}, (Prog.ret u).run s = some (v, s') → VR ρ u u' → NR P ρ B0 w0 s s' v (.ok (.value u') w) := by
    intro u q u' hh hu
    obtain ⟨rfl, rfl⟩ := ret_run hh
    exact ⟨ρ, u', w, _, Gr.refl _ _ _, Nat.le_refl _, rfl, .inl rfl, hu, r⟩
  cases op with
  | move x => exact pr (q := .skip) h (hρ x (by simp [Op.operands]))
  | assign x => exact pr (q := .skip) h (hρ x (by simp [Op.operands]))
  | pick c a b =>
    have hc := hρ c (by simp [Op.operands])
    have ha := hρ a (by simp [Op.operands])
    have hb := hρ b (by simp [Op.operands])
    simp only [plainOp] at h
    split at h
    · rename_i t hcv
      rw [hcv] at hc
      have hcv' : er c = .bool t := by generalize er c = q at hc; cases hc; rfl
      have : (execOp er ⟨dst, .pick c a b, type, pos, after, gd0⟩).run P w = .ok (.value (if t then er a else er b)) w := by
        simp [execOp, hcv', asBool]
      rcases ite_run h with ⟨rfl, h⟩ | ⟨rfl, h⟩
      · rw [this]; exact pr (q := .skip) h ha
      · rw [this]; exact pr (q := .skip) h hb
    · exact (fail_run h).elim
  | alloc e =>
    simp only [plainOp] at h
    obtain ⟨z, hz, h1⟩ := opt_run h
    obtain ⟨rfl, rfl⟩ := ret_run (new_run h1)
    obtain ⟨i, hi, hzi⟩ := zero_get hz
    obtain ⟨ρ', g, hk, hrun, wr⟩ := newRow_ok (ex := true) (z := true) r fr ((zero_lit ok hz (ρ := ρ)).cells) (ok.ty _ _ hi)
    refine NR.value (q := Instr.alloc e true (.tuple #[])) ⟨ρ', _, _, g, by simp only; omega, ?_, VR.itP hk rfl, wr⟩
    have hv : (newVar e z).run P w = .ok ⟨w.heap.size, 0, none⟩ { w with heap := w.heap.push (.cells ⟨cellsL z⟩ e) } := hrun
    simp only [Instr.alloc, Sem.run_bind, run_zero ok hz, Result.andThen_ok, hv, Sem.run_pure]
  | box e x =>
    simp only [plainOp] at h
    obtain ⟨n, hn, h1⟩ := opt_run h
    obtain ⟨hlen, h2⟩ := gd_run h1
    obtain ⟨rfl, rfl⟩ := ret_run (new_run h2)
    obtain ⟨i, hi, hisz⟩ := size_ok hn
    have hx := hρ x (by simp [Op.operands])
    obtain ⟨ρ', g, hk, hrun, wr⟩ := newRow_ok (ex := true) (z := true) r fr hx.cells (ok.ty _ _ hi)
    refine NR.value (q := Instr.box e (er x)) ⟨ρ', _, _, g, by simp only; omega, ?_, VR.itP hk rfl, wr⟩
    have hv : (newVar e (er x)).run P w = .ok ⟨w.heap.size, 0, none⟩ { w with heap := w.heap.push (.cells ⟨cellsL (er x)⟩ e) } := hrun
    simp only [Instr.box, Sem.run_bind, Result.andThen_ok, hv, Sem.run_pure]
  | build t parts =>
    simp only [plainOp] at h
    refine NR.value (q := Instr.build t (parts.map fun (i, x) => (i, er x))) ?_
    have := buildA_ok (ps' := parts.toList.map fun (i, x) => (i, er x)) ok h r (PsR.map parts.toList fun p hp => hρ p.2 (by simp only [Op.operands]; exact List.mem_map.2 ⟨p, hp, rfl⟩))
    have e : (parts.map fun (i, x) => (i, er x)) = ⟨parts.toList.map fun (i, x) => (i, er x)⟩ := by apply Array.ext'; simp
    rw [e]; exact this
  | buildSlice t len parts =>
    simp only [plainOp] at h
    refine NR.value (q := Instr.buildSlice t len (parts.map fun (i, x) => (i, er x))) ?_
    have := buildSliceA_ok (ps' := parts.toList.map fun (i, x) => (i, er x)) ok h r fr (PsR.map parts.toList fun p hp => hρ p.2 (by simp only [Op.operands]; exact List.mem_map.2 ⟨p, hp, rfl⟩))
    have e : (parts.map fun (i, x) => (i, er x)) = ⟨parts.toList.map fun (i, x) => (i, er x)⟩ := by apply Array.ext'; simp
    rw [e]; exact this
  | load t a =>
    have ha := hρ a (by simp [Op.operands])
    simp only [plainOp] at h
    split at h
    · rename_i ad hav
      rw [hav] at ha
      obtain ⟨y, hy, hs, he⟩ := ha.ptr_inv
      refine NR.value (q := Instr.loadAt t (er a)) ?_
      simp only [he, Instr.loadAt, Instr.sureAddr, Sem.run_bind, Sem.run_pure, Result.andThen_ok]
      exact loadT_ok ok h r hy
    · split at h
      · rename_i hep
        obtain ⟨B, o, cs', z, he, hz, hv, hs⟩ := ha.isEp_inv hep
        refine NR.value (q := Instr.loadAt t (er a)) ?_
        simp only [he, Instr.loadAt, Instr.sureAddr, Sem.run_bind, Sem.run_pure, Result.andThen_ok]
        exact loadE_ok ok h r hz hv hs
      · exact (fail_run h).elim
  | store t a x =>
    have ha := hρ a (by simp [Op.operands])
    have hx := hρ x (by simp [Op.operands])
    simp only [plainOp] at h
    split at h
    · rename_i ad hav
      rw [hav] at ha
      obtain ⟨y, hy, hs, he⟩ := ha.ptr_inv
      refine NR.unit (q := Instr.storeAt t (er a) (er x)) ?_
      simp only [he, Instr.storeAt, Instr.sureAddr, Sem.run_bind, Sem.run_pure, Result.andThen_ok]
      exact storeT_ok ok h r hx hy
    · exact (fail_run h).elim
  | nilCheck x =>
    have hx := hρ x (by simp [Op.operands])
    simp only [plainOp] at h
    have same : ∀ {u u' : Value}, (Prog.ret u).run s = some (v, s') → VR ρ u u' → er x = u' → (∀ q, u' = q → (execOp er ⟨dst, .nilCheck x, type, pos, after, gd0⟩).run P w = .ok (.value u') w) →
        NR P ρ B0 w0 s s' v ((execOp er ⟨dst, .nilCheck x, type, pos, after, gd0⟩).run P w) := by
      intro u u' hh hu he hq
      rw [hq u' rfl]; exact pr (q := .skip) hh hu
    split at h
    · rename_i a hav
      rw [hav] at hx
      obtain ⟨y, hy, hs, he⟩ := hx.ptr_inv
      rw [he] at hx
      exact same h hx he (fun _ _ => by simp [execOp, he])
    · rename_i t u hav
      rw [hav] at hx
      generalize he : er x = q at hx
      obtain ⟨hlt, h1⟩ := ck_run h
      cases hx with
      | iface ht hu => exact same h1 (.iface ht hu) he (fun _ _ => by simp [execOp, he])
      | ep a b c => exact same h1 (.ep a b c) he (fun _ _ => by simp [execOp, he])
      | _ => exact absurd hlt (by decide)
    · rename_i f a b hav
      rw [hav] at hx
      generalize he : er x = q at hx
      cases hx with
      | fn hf h1 h2 =>
        cases hf
        exact same h (.fn (.func _) h1 h2) he (fun _ _ => by simp [execOp, he])
    · rename_i l a b hav
      rw [hav] at hx
      generalize he : er x = q at hx
      cases hx with
      | fn hf h1 h2 =>
        cases hf with
        | yield hy => exact same h (.fn (.yield hy) h1 h2) he (fun _ _ => by simp [execOp, he])
    · exact (fail_run h).elim
  | binOp op t x y q =>
    simp only [plainOp] at h
    obtain ⟨hu, rfl⟩ := binP_run h
    have := binA_ok (w := w) ok hu (hρ x (by simp [Op.operands])) (hρ y (by simp [Op.operands]))
    refine NR.value (q := do eqGuard op t x y (er x) (er y); Go.binOp op t (er x) (er y)) ?_
    rw [this.1]
    exact SR.pure r rfl rfl (lit_VR this.2 ρ)
  | unOp op t x =>
    simp only [plainOp] at h
    obtain ⟨u, hu, h1⟩ := opt_run h
    have := unA_ok (P := P) (w := w) hu (hρ x (by simp [Op.operands]))
    refine NR.value (q := Op.unary op (er x)) ?_
    rw [this.1]
    obtain ⟨rfl, rfl⟩ := ret_run h1
    exact SR.pure r rfl rfl (lit_VR this.2 ρ)
  | convert a b x => exact NR.value (q := Go.convert a b (er x)) (convA_ok ok h r fr (hρ x (by simp [Op.operands])))
  | makeInterface t x =>
    simp only [plainOp] at h
    obtain ⟨d, hd, h1⟩ := opt_run h
    have hx := hρ x (by simp [Op.operands])
    split at h1
    · exact (fail_run h1).elim
    · rename_i hni
      refine NR.value (q := Instr.makeInterface t (er x)) ?_
      obtain ⟨hlt, h2⟩ := ck_run h1
      have hlt : t < 1000000000 := Nat.le_of_ble_eq_true hlt
      obtain ⟨rfl, rfl⟩ := ret_run h2
      have : (Instr.makeInterface t (er x)).run P w = .ok (.iface t (er x)) w := by
        simp only [Instr.makeInterface, Sem.run_bind, run_und ok hd, Result.andThen_ok]
        cases d <;> first | exact absurd rfl (hni _) | rfl
      rw [this]
      exact SR.pure r rfl rfl (.iface hlt hx)
  | makeFunc fn first captured =>
    refine NR.value (q := Instr.makeFunc fn (first.map er) (captured.map er)) ?_
    simp only [plainOp] at h
    split at h
    · rename_i f
      obtain ⟨rfl, rfl⟩ := ret_run h
      have e : ∀ (l : Array Operand) (g : Operand → Value), l.map g = ⟨l.toList.map g⟩ := fun l g => by apply Array.ext'; simp
      have h1 : VRs ρ (first.toList.map el) (first.toList.map er) := VRs.map _ _ _ (fun x hx => hρ x (by simp [Op.operands] at hx ⊢; exact .inl hx))
      have h2 : VRs ρ (captured.toList.map el) (captured.toList.map er) := VRs.map _ _ _ (fun x hx => hρ x (by simp [Op.operands] at hx ⊢; exact .inr hx))
      rw [e first el, e captured el]
      refine SR.pure r rfl rfl ?_
      rw [e first er, e captured er]
      exact .fn (.func f) h1 h2
    · exact (fail_run h).elim
  | makeMap t m =>
    have hnew : ∀ {k : Nat → Prog}, (Prog.newObj (.mp [] 0) fun k => .ret (.map (some k))).run s = some (v, s') → SR P ρ B0 w0 s s' v (.ok (.map (some w.heap.size)) (w.alloc (.map #[] 0))) := by
      intro _ hh
      obtain ⟨rfl, rfl⟩ := ret_run (newObj_run hh)
      obtain ⟨ρ', g, hk, wr⟩ := r.newObj (k := s.ctr) (o := .mp [] 0) (ob := .map #[] 0) fr rfl (.mp 0 .nil)
      exact ⟨ρ', _, _, g, Nat.le_succ _, rfl, .mp hk, wr⟩
    cases m with
    | none =>
      refine NR.value (q := Instr.makeMap t none) ?_
      have : (Instr.makeMap t none).run P w = .ok (.map (some w.heap.size)) (w.alloc (.map #[] 0)) := rfl
      rw [this]
      exact hnew (k := fun _ => .fail) h
    | some x =>
      have hx := hρ x (by simp [Op.operands])
      simp only [plainOp] at h
      obtain ⟨q, hq, h1⟩ := opt_run h
      have ht := mapOf_ok hq
      split at h1
      · rename_i k n hav
        rw [hav] at hx
        generalize he : er x = q at hx
        cases hx
        refine NR.value (q := Instr.makeMap t (some (er x))) ?_
        have : (Instr.makeMap t (some (er x))).run P w = .ok (.map (some w.heap.size)) (w.alloc (.map #[] 0)) := by
          simp only [he, Instr.makeMap, Sem.run_bind, run_und ok ht, Result.andThen_ok, asInt, asIntOf, Sem.run_pure, Go.run_newObj_alloc]
        rw [this]
        exact hnew (k := fun _ => .fail) h1
      · exact (fail_run h1).elim
  | makeSlice t l c => exact NR.value (q := Instr.makeSlice t (er l) (er c)) (makeSliceA_ok ok h r fr (hρ l (by simp [Op.operands])) (hρ c (by simp [Op.operands])))
  | slice t x lo hi mx =>
    exact NR.value (q := Instr.sliceAt t (er x) (lo.map er) (hi.map er) (mx.map er)) (sliceA_ok ok h r (hρ x (by simp [Op.operands])) (OptR.map lo fun y e => hρ y (by simp [Op.operands, e])) (OptR.map hi fun y e => hρ y (by simp [Op.operands, e]))
      (OptR.map mx fun y e => hρ y (by simp [Op.operands, e])))
  | fieldAddr t x f => exact NR.value (q := Instr.fieldAt t (er x) f) (fieldAddrA_ok ok h r (hρ x (by simp [Op.operands])))
  | field t x f => exact NR.value (q := Instr.field t (er x) f) (fieldA_ok ok h r (hρ x (by simp [Op.operands])))
  | indexAddr t x i => exact NR.value (q := Instr.indexAt t (er x) (er i)) (indexAddrA_ok ok h r (hρ x (by simp [Op.operands])) (hρ i (by simp [Op.operands])))
  | index t x i => exact NR.value (q := Instr.index t (er x) (er i)) (indexOp_ok ok h r (hρ x (by simp [Op.operands])) (hρ i (by simp [Op.operands])))
  | lookup t x k b => exact NR.value (q := Instr.lookup t (er x) (er k) b) (lookupA_ok ok h r (hρ x (by simp [Op.operands])) (hρ k (by simp [Op.operands])))
  | mapUpdate t m k x => exact NR.unit (q := Instr.mapUpdate t (er m) (er k) (er x)) (mapSet_ok ok h r (hρ m (by simp [Op.operands])) (hρ k (by simp [Op.operands])) (hρ x (by simp [Op.operands])))
  | insert t m k x => exact NR.unit (q := Instr.mapUpdate t (er m) (er k) (er x)) (mapSet_ok ok h r (hρ m (by simp [Op.operands])) (hρ k (by simp [Op.operands])) (hρ x (by simp [Op.operands])))
  | mapEntry t m k => exact NR.value (q := Instr.mapEntry t (er m) (er k)) (mapEntryA_ok ok h r (hρ m (by simp [Op.operands])) (hρ k (by simp [Op.operands])))
  | entryStore t m st x => exact NR.unit (q := Instr.entryStore t (er m) (er st) (er x)) (entryStoreA_ok h r (hρ m (by simp [Op.operands])) (hρ st (by simp [Op.operands])) (hρ x (by simp [Op.operands])))
  | range t x => exact NR.value (q := Instr.range t (er x)) (rangeA_ok ok h r fr (hρ x (by simp [Op.operands])))
  | next x b => exact NR.value (q := Instr.next (er x) b type) (nextA_ok h r (hρ x (by simp [Op.operands])))
  | entry x => exact NR.value (q := Instr.entry (er x)) (entryA_ok h r (hρ x (by simp [Op.operands])))
  | typeAssert x xt a b => exact NR.value (q := Instr.typeAssert (er x) xt a b) (typeAssertA_ok ok h r (hρ x (by simp [Op.operands])))
  | extract x i =>
    have hx := hρ x (by simp [Op.operands])
    simp only [plainOp] at h
    split at h
    · rename_i vs hav
      rw [hav] at hx
      obtain ⟨u, hu, h1⟩ := opt_run h
      generalize he : er x = q at hx
      obtain ⟨vl⟩ := vs
      cases hx with
      | @tuple _ vs' hvs =>
      obtain ⟨u', e1, e2⟩ := hvs.get hu
      obtain ⟨rfl, rfl⟩ := ret_run h1
      refine NR.value (q := Instr.extract (er x) i) ?_
      have : (Instr.extract (er x) i).run P w = .ok u' w := by
        have e3 : (⟨vs'⟩ : Array Value)[i]? = some u' := by simpa using e1
        simp only [he, Instr.extract, e3, Sem.run_pure]
      rw [this]
      exact SR.pure r rfl rfl e2
    · exact (fail_run h).elim
  | _ => exact (fail_run h).elim
end
end Go.Ev
