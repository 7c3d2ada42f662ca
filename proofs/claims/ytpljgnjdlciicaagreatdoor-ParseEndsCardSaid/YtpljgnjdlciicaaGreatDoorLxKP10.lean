import Derived.Test.YtpljgnjdlciicaaGreatDoorLxKP9
namespace Go.Ev
open Go Go.RowKit
section
variable {P : Program} {E : Env} (ok : EnvOK P E) {ρ : Map} {B0 : Nat} {w0 w : World}
omit ok in
theorem eqGuard_ok (op : BinOp) (t : TypeId) {xo yo : Operand} {x y x' y' : Value} (hg : guardOk xo yo x y = true) (hx : VR ρ x x') (hy : VR ρ y y') :
    (eqGuard op t xo yo x' y').run P w = .ok () w := by
  by_cases hop : (op matches .eql | .neq) = true
  · cases hx with
    | nilIface => cases hy with
      | nilIface =>
        cases xo with
        | const v => simp [eqGuard]
        | _ => cases yo with
          | const v => simp [eqGuard]
          | _ => simp [guardOk, isConstO] at hg
      | _ => simp [eqGuard]
    | agg => cases hy with
      | agg => simp [guardOk] at hg
      | _ => simp [eqGuard]
    | _ => simp [eqGuard]
  · simp [eqGuard]
    exact fun h => absurd h hop
omit ok in
theorem eqGuard_int (op : BinOp) (t : TypeId) (xo yo : Operand) (k k' : IntKind) (a b : Int) : (eqGuard op t xo yo (.int k a) (.int k' b)).run P w = .ok () w :=
  eqGuard_ok (ρ := ⟨fun _ => none, fun _ => none⟩) op t rfl (.int k a) (.int k' b)
omit ok in
theorem eqGuard_str (op : BinOp) (t : TypeId) (xo yo : Operand) (a b : ByteArray) : (eqGuard op t xo yo (.string a) (.string b)).run P w = .ok () w :=
  eqGuard_ok (ρ := ⟨fun _ => none, fun _ => none⟩) op t rfl (.string a) (.string b)
include ok
theorem eqlRun {t : TypeId} {x y x' y' : Value} {b : Bool} (h : eqV E 50 t x y = some b) (hx : VR ρ x x') (hy : VR ρ y y') :
    (binOp .eql t x' y').run P w = .ok (.bool b) w ∧ (binOp .neq t x' y').run P w = .ok (.bool (!b)) w := by
  have he := eqV_ok ok (w := w) 50 Op.maxDepth (by decide) t x y x' y' b h hx hy
  have hgen : ((do pure (.bool (← Op.equal t x' y'))) : Sem Value).run P w = .ok (.bool b) w ∧ ((do pure (.bool (!(← Op.equal t x' y')))) : Sem Value).run P w = .ok (.bool (!b)) w := by
    constructor <;> simp [Op.equal, he]
  unfold eqV at h
  split at h
  all_goals first
    | (cases hx; cases hy; split at h
       · rename_i hk
         simp only [Option.some.injEq] at h
         subst h hk
         constructor
         · simp [binOp, Op.intCmp]
         · simp [binOp, Op.intCmp, bne]
       · cases h)
    | (cases hx; cases hy
       simp only [Option.some.injEq, beqB_eq] at h
       subst h
       simp [binOp, Op.stringOp, ByteArray.toList_eq]
       done)
    | (cases h; done)
    | (cases hx <;> cases hy <;> exact hgen)
theorem binA_ok {op : BinOp} {t : TypeId} {xo yo : Operand} {x y x' y' v : Value} (h : binA E op t xo yo x y = some v) (hx : VR ρ x x') (hy : VR ρ y y') :
    ((do eqGuard op t xo yo x' y'; binOp op t x' y') : Sem Value).run P w = .ok v w ∧ lit v = true := by
  unfold binA at h
  split at h
  · rename_i k a yk b
    cases hx; cases hy
    have := shift_ok P w (yk := yk) h
    simp only [Sem.run_bind, eqGuard_int, Result.andThen_ok]
    exact this
  · rename_i k a yk b
    cases hx; cases hy
    have := shift_ok P w (yk := yk) h
    simp only [Sem.run_bind, eqGuard_int, Result.andThen_ok]
    exact this
  · rename_i op' k a k' b n1 n2
    cases hx; cases hy
    split at h
    · rename_i hk
      subst hk
      have h1 := arith_ok P w h
      simp only [Sem.run_bind, eqGuard_int, Result.andThen_ok]
      refine ⟨?_, h1.2⟩
      cases op with
      | shl => exact (n1 rfl).elim
      | shr => exact (n2 rfl).elim
      | _ => simpa [binOp] using h1.1
    · cases h
  · cases hx; cases hy
    have := strOp_ok P w h
    simp only [Sem.run_bind, eqGuard_str, Result.andThen_ok]
    refine ⟨?_, this.2⟩
    cases op <;> exact this.1
  · split at h
    · rename_i hg
      split at h
      · rename_i b hb
        simp only [Option.some.injEq] at h
        subst h
        simp only [Sem.run_bind, eqGuard_ok _ t hg hx hy, Result.andThen_ok]
        exact ⟨(eqlRun ok hb hx hy).1, rfl⟩
      · cases h
    · cases h
  · split at h
    · rename_i hg
      split at h
      · rename_i b hb
        simp only [Option.some.injEq] at h
        subst h
        simp only [Sem.run_bind, eqGuard_ok _ t hg hx hy, Result.andThen_ok]
        exact ⟨(eqlRun ok hb hx hy).2, rfl⟩
      · cases h
    · cases h
  · cases h
omit ok in
theorem shiftP_run {op : BinOp} {k : IntKind} {x y : Int} {s s' : St} {v : Value} (h : (shiftP op k x y).run s = some (v, s')) : shiftA op k x y = some v ∧ s' = s := by
  unfold shiftP at h
  split at h
  · obtain ⟨h1, h2⟩ := gd_run h
    have h1 := of_decide_eq_true h1
    obtain ⟨rfl, rfl⟩ := ret_run h2
    refine ⟨?_, rfl⟩
    unfold shiftA
    rw [if_neg (by omega)]
  · obtain ⟨h1, h2⟩ := gd_run h
    have h1 := of_decide_eq_true h1
    obtain ⟨rfl, rfl⟩ := ret_run h2
    refine ⟨?_, rfl⟩
    unfold shiftA
    rw [if_neg (by omega)]
  · cases h
omit ok in
theorem arithP_run {op : BinOp} {k : IntKind} {x y : Int} {s s' : St} {v : Value} (h : (arithP op k x y).run s = some (v, s')) : arith op k x y = some v ∧ s' = s := by
  unfold arithP at h
  split at h
  · obtain ⟨h1, h2⟩ := gd_run h
    have h1 := of_decide_eq_true h1
    obtain ⟨rfl, rfl⟩ := ret_run h2
    refine ⟨?_, rfl⟩
    simp only [arith, if_neg h1]
  · obtain ⟨h1, h2⟩ := gd_run h
    have h1 := of_decide_eq_true h1
    obtain ⟨rfl, rfl⟩ := ret_run h2
    refine ⟨?_, rfl⟩
    simp only [arith, if_neg h1]
  · obtain ⟨u, h1, h2⟩ := opt_run h
    obtain ⟨rfl, rfl⟩ := ret_run h2
    exact ⟨h1, rfl⟩
omit ok in
theorem strOpP_run {op : BinOp} {x y : ByteArray} {s s' : St} {v : Value} (h : (strOpP op x y).run s = some (v, s')) : strOp op x y = some v ∧ s' = s := by
  unfold strOpP at h
  split at h
  · obtain ⟨h1, h2⟩ := gd_run h
    obtain ⟨rfl, rfl⟩ := ret_run h2
    refine ⟨?_, rfl⟩
    simp only [strOp, h1]
  · obtain ⟨u, h1, h2⟩ := opt_run h
    obtain ⟨rfl, rfl⟩ := ret_run h2
    exact ⟨h1, rfl⟩
omit ok in
theorem binP_run {op : BinOp} {t : TypeId} {xo yo : Operand} {x y : Value} {s s' : St} {v : Value} (h : (binP E op t xo yo x y).run s = some (v, s')) : binA E op t xo yo x y = some v ∧ s' = s := by
  unfold binP at h
  split at h
  · exact shiftP_run h
  · exact shiftP_run h
  · rename_i k a k' b n1 n2
    split at h
    · rename_i hk
      have hk := of_decide_eq_true hk
      obtain ⟨h1, h2⟩ := arithP_run h
      refine ⟨?_, h2⟩
      cases op with
      | shl => exact (n1 rfl).elim
      | shr => exact (n2 rfl).elim
      | _ => simp only [binA, if_pos hk]; exact h1
    · cases h
  · obtain ⟨h1, h2⟩ := strOpP_run h
    refine ⟨?_, h2⟩
    cases op <;> exact h1
  · obtain ⟨u, h1, h2⟩ := opt_run h
    obtain ⟨rfl, rfl⟩ := ret_run h2
    exact ⟨h1, rfl⟩
omit ok in
theorem unA_ok {op : UnOp} {x x' v : Value} (h : unA op x = some v) (hx : VR ρ x x') : (Op.unary op x').run P w = .ok v w ∧ lit v = true := by
  unfold unA at h
  split at h
  · cases hx; exact arith_ok P w h
  · cases hx; exact arith_ok P w h
  · cases hx
    simp only [Option.some.injEq] at h
    subst h
    exact ⟨rfl, rfl⟩
  · cases h
omit ok in
theorem VR.ptr_inv {a : Addr} {v : Value} (h : VR ρ (.pointer (some a)) v) : ∃ x, ρ a.block = some x ∧ a.spot = none ∧ v = .pointer (some ⟨x.B, x.sh + a.off, none⟩) := by
  cases h with | ptr e => exact ⟨_, e, rfl, rfl⟩
include ok in
theorem isAgg_run {t : TypeId} {d : TypeDesc} (h : E.und t = some d) (w : World) : (isAgg t).run P w = .ok (isAggD d) w := by
  unfold isAgg
  rw [Sem.run_bind, run_und ok h w]
  cases d <;> rfl
include ok in
theorem loadT_ok {t b o : Nat} {s s' : St} {v : Value} (h : (loadT E t b o).run s = some (v, s')) (r : WR P ρ B0 w0 s.mem w) {x : Blk} (hb : ρ b = some x) :
    SR P ρ B0 w0 s s' v ((loadVar t ⟨x.B, x.sh + o, none⟩).run P w) := by
  unfold loadT at h
  split at h
  · rename_i d hd
    split at h
    · rename_i hag
      obtain ⟨n, hn, h⟩ := opt_run h
      obtain ⟨vs, s1, hr, h⟩ := rd_run h
      obtain ⟨rfl, rfl⟩ := ret_run h
      obtain ⟨hm, hc, _, _, _⟩ := St.rd_spec hr
      obtain ⟨vs', hl, hv, hcell⟩ := r.mr.rd hr hb
      have : (loadVar t ⟨x.B, x.sh + o, none⟩).run P w = .ok (.agg ⟨vs'⟩) w := by
        simp only [loadVar, Sem.run_bind, isAgg_run ok hd, hag, Result.andThen_ok, if_true, run_size ok hn, run_loadRow hl hcell, Sem.run_pure]
      rw [this]
      exact SR.pure r hm hc (.agg hv)
    · rename_i hag
      obtain ⟨vs, s1, hr, h⟩ := rd_run h
      split at h
      · rename_i u
        obtain ⟨rfl, rfl⟩ := ret_run h
        obtain ⟨hm, hc, _, _, _⟩ := St.rd_spec hr
        obtain ⟨vs', hl, hv, hcell⟩ := r.mr.rd hr hb
        cases hv with
        | cons hv htl =>
          have h0 := hcell 0 _ rfl
          simp only [Nat.add_zero] at h0
          simp only [loadVar, Sem.run_bind, isAgg_run ok hd, hag, Result.andThen_ok, Bool.false_eq_true, if_false, run_load, h0]
          exact SR.pure r hm hc hv
      · cases h
  · cases h
omit ok in
theorem VRs.head {l l' : List Value} (h : VRs ρ l l') (hl : 0 < l.length) : ∃ v', l'[0]? = some v' ∧ VR ρ (l.headD U) v' := by
  cases h with
  | nil => simp at hl
  | cons a b => exact ⟨_, rfl, a⟩
omit ok in
theorem run_loadList {B o n : Nat} {vs : List Value} (hl : vs.length = n) (h : ∀ j v, vs[j]? = some v → w.cell? ⟨B, o + j, none⟩ = some v) : (loadCells ⟨B, o, none⟩ n).run P w = .ok ⟨vs⟩ w := run_loadRow hl h
include ok in
theorem loadE_ok {t B o : Nat} {cs cs' : List Value} {s s' : St} {v : Value} (h : (loadE E t cs).run s = some (v, s')) (r : WR P ρ B0 w0 s.mem w) {x : Blk} (hb : ρ.ls B = some x) (hv : VRs ρ cs cs') (hs : Sub x.fc o cs') :
    SR P ρ B0 w0 s s' v ((loadVar t ⟨B, o, none⟩).run P w) := by
  unfold loadE at h
  split at h
  · rename_i d hd
    split at h
    · rename_i hag
      obtain ⟨n, hn, h⟩ := opt_run h
      obtain ⟨hle, h⟩ := gd_run h
      have hle := Nat.le_of_ble_eq_true hle
      obtain ⟨rfl, rfl⟩ := ret_run h
      have hlen := hv.length
      have hl : (cs'.take n).length = n := by simp; omega
      have hload : (loadCells ⟨B, o, none⟩ n).run P w = .ok ⟨cs'.take n⟩ w := run_loadList hl fun j u hj => by
        refine r.mr.frzCell hb (hs j u ?_)
        rw [List.getElem?_take] at hj
        split at hj
        · exact hj
        · cases hj
      have : (loadVar t ⟨B, o, none⟩).run P w = .ok (.agg ⟨cs'.take n⟩) w := by
        simp only [loadVar, Sem.run_bind, isAgg_run ok hd, hag, Result.andThen_ok, if_true, run_size ok hn, hload, Sem.run_pure]
      rw [this]
      exact SR.pure r rfl rfl (.agg (hv.take n))
    · rename_i hag
      obtain ⟨hle, h⟩ := gd_run h
      have hle := Nat.le_of_ble_eq_true hle
      obtain ⟨rfl, rfl⟩ := ret_run h
      obtain ⟨v', e1, e2⟩ := hv.head hle
      have h0 := r.mr.frzCell hb (hs 0 v' e1)
      simp only [Nat.add_zero] at h0
      simp only [loadVar, Sem.run_bind, isAgg_run ok hd, hag, Result.andThen_ok, Bool.false_eq_true, if_false, run_load, h0]
      exact SR.pure r rfl rfl e2
  · cases h
include ok in
theorem storeT_ok {t b o : Nat} {s s' : St} {v v' u : Value} (h : (storeT E t b o v).run s = some (u, s')) (r : WR P ρ B0 w0 s.mem w) (hv : VR ρ v v') {x : Blk} (hb : ρ b = some x) :
    u = U ∧ UR P ρ B0 w0 s s' ((storeVar t ⟨x.B, x.sh + o, none⟩ v').run P w) := by
  unfold storeT at h
  obtain ⟨n, hn, h⟩ := opt_run h
  obtain ⟨hlen, h⟩ := gd_run h
  obtain ⟨s1, h1, h⟩ := wr_run h
  obtain ⟨rfl, rfl⟩ := ret_run h
  refine ⟨rfl, ?_⟩
  have hlen := Nat.eq_of_beq_eq_true hlen
  have hcs := hv.cells
  obtain ⟨w', e1, e2, e3, e4⟩ := r.mr.wr h1 hcs hb
  have hsz : v'.cells.size = n := by
    have := hcs.length
    rw [hlen] at this
    simpa [cellsL] using this
  have : (storeVar t ⟨x.B, x.sh + o, none⟩ v').run P w = .ok () w' := by
    simp only [storeVar, Sem.run_bind, run_size ok hn, Result.andThen_ok, hsz, ne_eq, not_true, if_false]
    exact e1
  rw [this]
  exact ⟨w', e4.symm, rfl, e2, r.bel.trans e3, r.hB⟩
omit ok in
theorem newRow_ok {s : St} {el : TypeId} {ex z : Bool} {vs vs' : List Value} (r : WR P ρ B0 w0 s.mem w) (fr : Fr ρ s.mem s.ctr (s.ctr + vs.length + 1))
    (hv : VRs ρ vs vs') {i : TypeInfo} (hi : P.info? el = some i) :
    ∃ ρ', Gr ρ ρ' s.ctr (s.ctr + vs.length + 1) ∧ ρ' s.ctr = some ⟨w.heap.size, 0, vs'.length, i.size, []⟩ ∧ (newRow el ⟨vs'⟩).run P w = .ok ⟨w.heap.size, 0, none⟩ { w with heap := w.heap.push (.cells ⟨vs'⟩ el) } ∧
      WR P ρ' B0 w0 (layCells s.ctr vs (s.ctr + 1) (s.mem.set s.ctr (some (.hdr ⟨vs.length, el, false, ex, z, 0, false, false, []⟩)))) { w with heap := w.heap.push (.cells ⟨vs'⟩ el) } := by
  have hlen := hv.length
  refine ⟨upd ρ s.ctr ⟨w.heap.size, 0, vs'.length, i.size, []⟩, ⟨Ext.upd _ (fr.map s.ctr (Nat.le_refl _) (by omega)), fun k hk => upd_ne (by omega)⟩, upd_same _ _ _, rfl, ?_, ?_, r.hB⟩
  · have := r.mr.new (k := s.ctr) (n := vs.length) (el := el) (ex := ex) (z := z) (sy := false) (c := ⟨vs'⟩) (lo := 0) (hi := 0) (sz := i.size) (w1 := { w with heap := w.heap.push (.cells ⟨vs'⟩ el) })
      fr (Nat.le_refl _) hv rfl r.size (fun j v e => by simpa using e) (by simp [hlen]) (fun _ => by simp [hlen]) ⟨i, hi, rfl⟩ (Nat.le_refl _) (fun i _ h => absurd h (by omega)) (fun _ => Nat.le_refl _)
    exact this
  · exact r.bel.alloc r.size _
end
end Go.Ev
