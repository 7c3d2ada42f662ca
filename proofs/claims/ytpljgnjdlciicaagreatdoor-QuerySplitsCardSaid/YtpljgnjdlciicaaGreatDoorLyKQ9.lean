/- Soundness, part 8: appends and copies. -/
import Derived.Test.YtpljgnjdlciicaaGreatDoorLyKQ8
import Derived.Laws.Strings2
import Derived.Room.Entries
namespace Go.Ev
open Go Go.RowKit
section
variable {P : Program} {E : Env} (ok : EnvOK P E) {ρ : Map} {B0 : Nat} {w0 w : World}

theorem lenA_ok {x x' : Value} {n : Nat} (h : lenA x = some n) (hx : VR ρ x x') (w : World) : (Builtin.lenOf x').run P w = .ok n w := by
  unfold lenA at h
  split at h
  · simp only [Option.some.injEq] at h
    subst h
    cases hx <;> rfl
  · simp only [Option.some.injEq] at h
    subst h
    cases hx
    rfl
  · split at h
    · rename_i hl
      simp only [Option.some.injEq] at h
      subst h
      obtain ⟨a, c', rfl, _⟩ := hx.isL_inv hl
      rfl
    · cases h
theorem str_take (str : ByteArray) (n : Nat) : (str.extract 0 n).data.toList = str.data.toList.take n := by
  have := congrArg (fun b : ByteArray => b.data.toList) (ByteArray.extract_mk str.data.toList 0 n)
  simp only [List.drop_zero, Nat.sub_zero] at this
  exact this
/-- The first so many elements: they are no more than there are. -/
theorem firstA_ok {sz n m : Nat} {x x' : Value} {s : St} {k : List Value → Prog} {q : Value × St} (h : (firstA sz n x k).run s = some q) (hm : lenA x = some m) (hn : n ≤ m) (r : MR P ρ B0 s.mem w) (hx : VR ρ x x') :
    ∃ cs s1, (k cs).run s1 = some q ∧ s1.mem = s.mem ∧ s1.ctr = s.ctr ∧ ∃ cs', VRs ρ cs cs' ∧ cs'.length = n * sz ∧ (Builtin.firstCells sz n x').run P w = .ok ⟨cs'⟩ w := by
  unfold firstA at h
  split at h
  · rename_i a len c
    simp only [lenA, Option.some.injEq] at hm
    subst hm
    obtain ⟨cs, s1, hr, h⟩ := rd_run h
    obtain ⟨hm, hc, _, hl, _⟩ := St.rd_spec hr
    refine ⟨cs, s1, h, hm, hc, ?_⟩
    cases hx with
    | sl hb ho h1 h2 h3 hle =>
      obtain ⟨vs', a1, a2, a3⟩ := r.rd hr hb
      refine ⟨vs', a2, a1, ?_⟩
      rcases ho with ho | ho
      · subst ho
        simp only [Builtin.firstCells]
        exact run_loadRow a1 a3
      · have h0 : n = 0 := by omega
        subst h0
        have : vs' = [] := List.eq_nil_of_length_eq_zero (by simpa using a1)
        subst this
        simp [Builtin.firstCells, loadCells, loadCellsFrom]
  · cases hx
    simp only [lenA, Option.some.injEq] at hm
    have h0 : n = 0 := by omega
    subst h0
    exact ⟨[], s, h, rfl, rfl, [], .nil, by simp, rfl⟩
  · rename_i str
    obtain ⟨h1, h⟩ := gd_run h
    obtain rfl := Nat.eq_of_beq_eq_true h1
    cases hx
    simp only [lenA, Option.some.injEq] at hm
    refine ⟨_, s, h, rfl, rfl, (str.data.toList.take n).map (fun b => .int .u8 b.toNat), VRs.map _ _ _ (fun b _ => .int _ _), ?_, ?_⟩
    · simp only [List.length_map, List.length_take]; omega
    · simp only [Builtin.firstCells, Sem.run_pure]
      congr 1
      apply Array.ext'
      rw [Array.toList_map, str_take]
  · split at h
    · rename_i n1 n2 n3 hl
      obtain ⟨h1, h9⟩ := gd_run h
      clear h
      have hm' : m = (elems x).length := by
        unfold lenA at hm
        split at hm
        · cases hl
        · cases hl
        · rw [hl] at hm
          simp only [Option.some.injEq] at hm
          exact hm.symm
      subst hm'
      obtain ⟨a, c', rfl, hcase, hle, _⟩ := hx.isL_inv hl
      rcases hcase with ⟨he, _⟩ | ⟨B, o, sz', cs', z, rfl, hz, hv, hs, ha⟩
      · rw [he] at hn h9 ⊢
        have hn0 : n = 0 := by simpa using hn
        subst hn0
        refine ⟨_, s, h9, rfl, rfl, [], .nil, by simp, ?_⟩
        cases a <;> simp [Builtin.firstCells, loadCells, loadCellsFrom]
      · by_cases hnil : elems x = []
        · rw [hnil] at hn h9 ⊢
          have hn0 : n = 0 := by simpa using hn
          subst hn0
          refine ⟨_, s, h9, rfl, rfl, [], .nil, by simp, ?_⟩
          simp [Builtin.firstCells, loadCells, loadCellsFrom]
        · obtain rfl := hdOk_all h1 ha hnil
          have hfl := hv.length
          rw [flatC_length ha] at hfl
          have hcl : (cs'.take (n * sz')).length = n * sz' := by
            rw [List.length_take, hfl]
            exact Nat.min_eq_left (Nat.mul_le_mul_right _ hn)
          refine ⟨_, s, h9, rfl, rfl, cs'.take (n * sz'), by rw [flatC_take ha]; exact hv.take _, hcl, ?_⟩
          simp only [Builtin.firstCells]
          exact run_loadRow hcl fun j v e => r.frzCell hz (hs.take j v e)
    · exact (fail_run h).elim
/-- No element: nothing is read. -/
theorem first0 {sz : Nat} {x x' : Value} {m : Nat} (h : lenA x = some m) (hx : VR ρ x x') : (Builtin.firstCells sz 0 x').run P w = .ok #[] w := by
  unfold lenA at h
  split at h
  · cases hx with
    | slN => rfl
    | sl => simp [Builtin.firstCells, loadCells, loadCellsFrom]
  · cases hx
    simp [Builtin.firstCells]
  · split at h
    · rename_i hl
      obtain ⟨a, c', rfl, _⟩ := hx.isL_inv hl
      cases a <;> simp [Builtin.firstCells, loadCells, loadCellsFrom]
    · cases h
/-- What the model appends. -/
def appSem (z : Bool) (e : TypeId) (sz n : Nat) (x : Value) : Sem (Array Value) :=
  if !z then Builtin.firstCells sz n x else if n * sz = 0 then pure #[] else do pure (Builtin.zeroCells (← zeroValue e).cells n)
theorem appC_ok (ok : EnvOK P E) {d : Bool} {e sz n : Nat} {x x' : Value} {s : St} {k : List Value → Prog} {q : Value × St} (hsz : E.size e = some sz) (h : (appC E d e sz n x k).run s = some q) (hn : appN d x = some n)
    (r : MR P ρ B0 s.mem w) (hx : VR ρ x x') :
    ∃ cs s1, (k cs).run s1 = some q ∧ s1.mem = s.mem ∧ s1.ctr = s.ctr ∧ ∃ cs', VRs ρ cs cs' ∧ cs'.length = n * sz ∧ (appSem d e sz n x').run P w = .ok ⟨cs'⟩ w := by
  cases d with
  | true =>
    simp only [appC] at h
    obtain ⟨z, hz, h⟩ := opt_run h
    have hlen := zero_len ok hz hsz
    refine ⟨_, s, h, rfl, rfl, rep (cellsL z) n, (zero_lit ok hz).cells.rep n, by rw [rep_length, hlen], ?_⟩
    simp only [appSem, Bool.not_true, Bool.false_eq_true, if_false]
    by_cases h0 : n * sz = 0
    · rw [if_pos h0]
      have : rep (cellsL z) n = [] := List.eq_nil_of_length_eq_zero (by rw [rep_length, hlen]; exact h0)
      rw [this]; rfl
    · rw [if_neg h0]
      simp only [Sem.run_bind, run_zero ok hz, Result.andThen_ok, Sem.run_pure, zeroCells_eq]
      rfl
  | false => exact firstA_ok (sz := sz) (n := n) (m := n) h hn (Nat.le_refl _) r hx
/-- The model's append, told in two cases. -/
theorem run_append (ok : EnvOK P E) {t tx e : TypeId} {d : TypeDesc} {sz by_ n : Nat} {ty : TypeId} {base : Option Addr} {len cap : Nat} {x x' : Value} (ht : E.und t = some (.slice e)) (hd : E.und tx = some d)
    (hs : E.size e = some sz) (hb : E.bytes e = some by_) (hn : appN (isIntD d) x = some n) (hx : VR ρ x x') (hfit : (len + n) * (by_ + 1) ≤ 1099511627776) :
    (Builtin.append_ #[t, tx] ty #[.slice base len cap, x']).run P w =
      (if len + n ≤ cap then (do
          let new ← appSem (isIntD d) e sz n x'
          if let some a := base then storeCells (a.add (len * sz)) new.toList
          pure (.slice base (len + n) cap) : Sem Value)
        else (do
          let newCap ← choose (.appendCap (len + n) cap e)
          let old ← Builtin.firstCells sz len (.slice base len cap)
          let new ← appSem (isIntD d) e sz n x'
          let z ← zeroValue e
          pure (.slice (some (← newRow e (old ++ new ++ Builtin.zeroCells z.cells (newCap - (len + n))))) (len + n) newCap))).run P w := by
  obtain ⟨i, hi, rfl⟩ := run_bytes hb
  have hle : len + n ≤ 1099511627776 := Nat.le_trans (Nat.le_mul_of_pos_right _ (Nat.succ_pos _)) hfit
  have hby : (len + n) * i.bytes ≤ 1099511627776 := Nat.le_trans (Nat.mul_le_mul_left _ (Nat.le_succ _)) hfit
  have hinfo := info_ok ok hi
  have h48 : ∀ {c : Nat}, ¬ (len + n ≤ c) → ¬ (Builtin.nextslicecap (len + n) c * i.bytes > 2 ^ 48) := by
    intro c hc
    have h1 : Builtin.nextslicecap (len + n) c ≤ 2 * (len + n) := Room.nextslicecap_le' (by omega)
    have h2 := Nat.mul_le_mul_right i.bytes h1
    have h3 : 2 * (len + n) * i.bytes = 2 * ((len + n) * i.bytes) := Nat.mul_assoc ..
    omega
  have h63 : ¬ (((len + n : Nat) : Int) > IntKind.i64.max) := by
    have : IntKind.i64.max = 9223372036854775807 := by decide
    omega
  have h63' : ∀ q : Prop, ¬ (((len + n : Nat) : Int) > IntKind.i64.max ∧ q) := fun q h => h63 h.1
  cases hz : isIntD d with
  | false =>
    rw [hz] at hn
    have hl := lenA_ok (P := P) hn hx w
    cases d <;> first
      | (cases hz; done)
      | (simp only [Builtin.append_, List.getElem?_toArray, List.getElem?_cons_zero, List.getElem?_cons_succ, Sem.run_bind, run_und ok ht, run_und ok hd, Result.andThen_ok, run_size ok hs, Sem.run_pure, Bool.false_eq_true, if_false, hl, appSem, Bool.not_false, if_true]
         by_cases hc : len + n ≤ cap
         · simp only [if_pos hc]
           cases base <;> rfl
         · simp only [if_neg hc, Sem.run_bind, hinfo, Result.andThen_ok, if_neg (h63' _), if_neg (h48 hc), run_askRoom])
  | true =>
    rw [hz] at hn
    obtain ⟨k, rfl⟩ := natOf_ok hn hx
    have hwl : IntKind.i64.wrap (n : Int) = n := IntWalk.i64_in _ (by omega)
    have h1 : ¬ ((n : Int) < 0) := by omega
    have h2 : ¬ ((n : Int) * (i.bytes : Int) > 2 ^ 48) := by
      have : n * i.bytes ≤ (len + n) * i.bytes := Nat.mul_le_mul_right _ (by omega)
      have : ((n * i.bytes : Nat) : Int) ≤ 1099511627776 := by omega
      simp only [Int.natCast_mul] at this
      omega
    cases d <;> first
      | (cases hz; done)
      | (simp only [Builtin.append_, List.getElem?_toArray, List.getElem?_cons_zero, List.getElem?_cons_succ, Sem.run_bind, run_und ok ht, run_und ok hd, Result.andThen_ok, run_size ok hs, Sem.run_pure, if_true, asInt, asIntOf, hwl, if_neg h1, hinfo, if_neg h2, Int.toNat_natCast, appSem, Bool.not_true, Bool.false_eq_true, if_false]
         by_cases hc : len + n ≤ cap
         · simp only [if_pos hc]
           cases base <;> rfl
         · simp only [if_neg hc, Sem.run_bind, hinfo, Result.andThen_ok, if_neg (h63' _), if_neg (h48 hc), run_askRoom])
theorem run_grow (ok : EnvOK P E) {d : Bool} {e sz len n cap : Nat} {z : Value} {base : Option Addr} {x' : Value} {old' new' : List Value} (hz : E.zero e = some z)
    (hold : (Builtin.firstCells sz len (.slice base len cap)).run P w.drew = .ok ⟨old'⟩ w.drew) (hnew : (appSem d e sz n x').run P w.drew = .ok ⟨new'⟩ w.drew) :
    ∃ j, (do
          let newCap ← choose (.appendCap (len + n) cap e)
          let old ← Builtin.firstCells sz len (.slice base len cap)
          let new ← appSem d e sz n x'
          let z ← zeroValue e
          pure (.slice (some (← newRow e (old ++ new ++ Builtin.zeroCells z.cells (newCap - (len + n))))) (len + n) newCap) : Sem Value).run P w =
      .ok (.slice (some ⟨w.heap.size, 0, none⟩) (len + n) (len + n + j)) (w.drew.alloc (.cells ⟨old' ++ new' ++ rep (cellsL z) j⟩ e)) := by
  refine ⟨w.tape w.drawn (.appendCap (len + n) cap e) % (2 ^ 63 - (len + n)), ?_⟩
  have hc : (choose (.appendCap (len + n) cap e)).run P w = .ok (len + n + w.tape w.drawn (.appendCap (len + n) cap e) % (2 ^ 63 - (len + n))) w.drew := by
    rfl
  simp only [Sem.run_bind, hc, Result.andThen_ok, hold, hnew, run_zero ok hz, Nat.add_sub_cancel_left, zeroCells_eq]
  have : (⟨old'⟩ ++ ⟨new'⟩ ++ ⟨rep z.cells.toList (w.tape w.drawn (.appendCap (len + n) cap e) % (2 ^ 63 - (len + n)))⟩ : Array Value) =
      ⟨old' ++ new' ++ rep (cellsL z) (w.tape w.drawn (.appendCap (len + n) cap e) % (2 ^ 63 - (len + n)))⟩ := by
    apply Array.ext'
    simp [cellsL]
  rw [this]
  rfl
theorem WR.drew {m : Tr Slot} (r : WR P ρ B0 w0 m w) : WR P ρ B0 w0 m w.drew := ⟨r.mr.heap rfl, r.bel.drew, r.hB⟩
/-- A new row behind an append: what is known of it, and zeros. -/
theorem grown_ok {s : St} {e sz n : Nat} {old new old' new' : List Value} {z : Value} {j : Nat} {i : TypeInfo} (r : WR P ρ B0 w0 s.mem w) (hi : P.info? e = some i) (hsz : i.size = sz) (hz : (cellsL z).length = sz)
    (ho : VRs ρ old old') (hn : VRs ρ new new') (hlen : (old' ++ new').length = n * sz) (fr : Fr ρ s.mem s.ctr (s.ctr + (old ++ new).length + 1)) :
    ∃ ρ', Gr ρ ρ' s.ctr (s.ctr + (old ++ new).length + 1) ∧ ρ' s.ctr = some ⟨w.heap.size, 0, (n + j) * sz, sz, []⟩ ∧
      WR P ρ' B0 w0 (layCells s.ctr (old ++ new) (s.ctr + 1) (s.mem.set s.ctr (some (.hdr ⟨(old ++ new).length, e, false, false, true, 0, false, false, []⟩)))) (w.drew.alloc (.cells ⟨old' ++ new' ++ rep (cellsL z) j⟩ e)) := by
  have hv := ho.append hn
  have hl := hv.length
  have hN : (⟨old' ++ new' ++ rep (cellsL z) j⟩ : Array Value).size = (n + j) * sz := by
    simp only [List.size_toArray, List.length_append] at hlen ⊢
    rw [rep_length, hz, Nat.add_mul]; omega
  refine ⟨upd ρ s.ctr ⟨w.heap.size, 0, (n + j) * sz, sz, []⟩, ⟨Ext.upd _ (fr.map s.ctr (Nat.le_refl _) (by omega)), fun k hk => upd_ne (by omega)⟩, upd_same _ _ _, ?_, ?_, r.hB⟩
  · have := r.drew.mr.new (k := s.ctr) (n := (old ++ new).length) (el := e) (ex := false) (z := true) (sy := false) (c := ⟨old' ++ new' ++ rep (cellsL z) j⟩) (lo := 0) (hi := 0) (sz := sz)
      (w1 := w.drew.alloc (.cells ⟨old' ++ new' ++ rep (cellsL z) j⟩ e)) fr (Nat.le_refl _) hv rfl r.size
      (fun q v e => by
        have hq : q < (old' ++ new').length := (List.getElem?_eq_some_iff.1 e).1
        simp only [List.getElem?_toArray]
        rw [List.getElem?_append_left hq]; exact e)
      (by rw [hN, ← hl, hlen, Nat.add_mul]; omega) (fun h => by cases h) ⟨i, hi, hsz⟩ (Nat.le_refl _) (fun i _ h => absurd h (by omega)) (fun _ => Nat.le_refl _)
    rw [hN] at this
    exact this
  · exact r.bel.drew.alloc r.drew.size _
theorem VR.slice_grown {b n j sz B : Nat} (hb : ρ b = some ⟨B, 0, (n + j) * sz, sz, []⟩) : VR ρ (.slice (some ⟨b, 0, none⟩) n (capOf n false)) (.slice (some ⟨B, 0, none⟩) n (n + j)) :=
  .sl hb (.inl rfl) (by rw [capOf_lo]; omega) (fun h => by rw [capOf_ex] at h; cases h) (fun _ => .inr (by simp)) (by omega)
theorem fin_grow {s s2 s' : St} {v : Value} {e sz m j : Nat} {old new old' new' : List Value} {z : Value} {i : TypeInfo} (hm : s2.mem = s.mem) (hc : s2.ctr = s.ctr)
    (h : (Prog.new e false (old ++ new) true false fun k => .ret (.slice (some ⟨k, 0, none⟩) m (capOf m false))).run s2 = some (v, s')) (fr : Fr ρ s.mem s.ctr s'.ctr)
    (r : WR P ρ B0 w0 s.mem w) (hi : P.info? e = some i) (hsz : i.size = sz) (hz : (cellsL z).length = sz)
    (ho : VRs ρ old old') (hn : VRs ρ new new') (hlen : (old' ++ new').length = m * sz) :
    SR P ρ B0 w0 s s' v (.ok (.slice (some ⟨w.heap.size, 0, none⟩) m (m + j)) (w.drew.alloc (.cells ⟨old' ++ new' ++ rep (cellsL z) j⟩ e))) := by
  obtain ⟨rfl, rfl⟩ := ret_run (new_run h)
  rw [← hc, ← hm] at fr
  rw [← hm] at r
  obtain ⟨ρ', g, hk, wr⟩ := grown_ok (j := j) r hi hsz hz ho hn hlen fr
  exact ⟨ρ', _, _, by rw [← hc]; exact g, by show s.ctr ≤ s2.ctr + _ + 1; omega, rfl, VR.slice_grown hk, wr⟩
theorem VRs.two {a b : Value} {l : List Value} (h : VRs ρ [a, b] l) : ∃ a' b', l = [a', b'] ∧ VR ρ a a' ∧ VR ρ b b' := by
  cases h with | cons h1 h2 => cases h2 with | cons h2 h3 => cases h3; exact ⟨_, _, rfl, h1, h2⟩
theorem appendB_ok (ok : EnvOK P E) {t tx ty : TypeId} {base : Option Addr} {len c : Nat} {x b' x' : Value} {s s' : St} {v : Value} (h : (appendB E t tx base len c x).run s = some (v, s')) (r : WR P ρ B0 w0 s.mem w)
    (fr : Fr ρ s.mem s.ctr s'.ctr) (hb : VR ρ (.slice base len c) b') (hx : VR ρ x x') : SR P ρ B0 w0 s s' v ((Builtin.append_ ⟨[t, tx]⟩ ty ⟨[b', x']⟩).run P w) := by
  unfold appendB at h
  · obtain ⟨e, he, h1⟩ := opt_run h
    obtain ⟨d, hd, h2⟩ := opt_run h1
    obtain ⟨sz, hsz, h3⟩ := opt_run h2
    obtain ⟨by_, hby, h4⟩ := opt_run h3
    obtain ⟨n, hn, h5⟩ := opt_run h4
    obtain ⟨z, hz, h6⟩ := opt_run h5
    obtain ⟨hfit', hq⟩ := gd_run h6
    clear h h1 h2 h3 h4 h5 h6
    have hfit := of_decide_eq_true hfit'
    clear hfit'
    have ht := elemOfSlice_ok he
    obtain ⟨i, hi, hisz⟩ := size_ok hsz
    have hinf := ok.ty _ _ hi
    have hzl := zero_len ok hz hsz
    have hrun := fun (bb : Option Addr) (cap : Nat) => run_append (ty := ty) (base := bb) (cap := cap) (w := w) ok ht hd hsz hby hn hx hfit
    have h0 : ∀ l : List Value, l.length = 0 * sz → l = [] := fun l h => List.eq_nil_of_length_eq_zero (by simpa using h)
    cases base with
    | none =>
      cases hb
      cases n with
      | zero =>
        obtain ⟨rfl, rfl⟩ := ret_run hq
        have happ : (appSem (isIntD d) e sz 0 x').run P w = .ok #[] w := by
          cases hdd : isIntD d with
          | true => simp [appSem]
          | false =>
            rw [hdd] at hn
            simp only [appSem, Bool.not_false, if_true]
            exact first0 hn hx
        rw [hrun none 0]
        simp only [Nat.zero_add, Nat.le_refl, if_true, Sem.run_bind, happ, Result.andThen_ok, Sem.run_pure]
        exact SR.pure r rfl rfl .slN
      | succ n =>
        obtain ⟨cs1, s2, h8, hm1, hc1, cs', a1, a2, a3⟩ := appC_ok (w := w.drew) ok hsz hq hn r.drew.mr hx
        obtain ⟨j, hj⟩ := run_grow (base := none) (len := 0) (cap := 0) (old' := []) ok hz rfl a3
        rw [hrun none 0, if_neg (by omega), hj, Nat.zero_add]
        exact fin_grow (old := []) hm1 hc1 h8 fr r hinf hisz hzl .nil a1 (by simpa using a2)
    | some a =>
      cases hb with
      | @sl b o o' _ _ c' xb hxb ho hlo hex hin hle =>
      dsimp only at hq
      split at hq
      · -- there is room
        rename_i hroom
        have hroom := Nat.le_of_ble_eq_true hroom
        obtain ⟨cs, s1, h8, hm1, hc1, cs', a1, a2, a3⟩ := appC_ok (w := w) ok hsz hq hn r.mr hx
        rw [hrun _ c', if_pos (by omega)]
        cases n with
        | zero =>
          obtain ⟨rfl, rfl⟩ := ret_run h8
          obtain rfl := h0 _ a2
          simp only [Sem.run_bind, a3, Result.andThen_ok, storeCells, Sem.run_pure]
          exact SR.pure r hm1 hc1 (.sl hxb ho hlo hex hin (by omega))
        | succ n =>
          obtain ⟨s2, h9, hret⟩ := wr_run h8
          obtain ⟨rfl, rfl⟩ := ret_run hret
          rcases ho with ho | ho
          · subst ho
            rw [← hm1] at r
            obtain ⟨w', e1, e2, e3, e4⟩ := r.mr.wr h9 a1 hxb
            simp only [Sem.run_bind, a3, Result.andThen_ok, add_at, show xb.sh + o + len * sz = xb.sh + (o + len * sz) from by omega, e1, Sem.run_pure]
            exact ⟨ρ, _, w', Gr.refl _ _ _, by omega, rfl, .sl hxb (.inl rfl) hlo hex hin (by omega), e2, r.bel.trans e3, r.hB⟩
          · exact absurd ho (by omega)
      · rename_i hroom
        have hroom : ¬ (len + n ≤ capLo c) := fun e => by rw [Nat.ble_eq_true_of_le e] at hroom; cases hroom
        have hold : ∀ (w : World) (sX : St) (rr : WR P ρ B0 w0 sX.mem w) (old : List Value) (s1 : St), sX.rd b (len * sz) o = some (old, s1) →
            ∃ old', VRs ρ old old' ∧ old'.length = len * sz ∧ (Builtin.firstCells sz len (.slice (some ⟨xb.B, o', none⟩) len c')).run P w = .ok ⟨old'⟩ w ∧
              (o' = xb.sh + o → ∀ (q : Nat) (u : Value), old'[q]? = some u → w.cell? ⟨xb.B, o' + q, none⟩ = some u) := by
          intro w sX rr old s1 hr
          obtain ⟨vs', a1, a2, a3⟩ := rr.mr.rd hr hxb
          refine ⟨vs', a2, a1, ?_, fun e q u hu => by rw [e]; exact a3 q u hu⟩
          rcases ho with ho | ho
          · rw [ho]; exact run_loadRow a1 a3
          · have h0 : len = 0 := by omega
            subst h0
            have : vs' = [] := List.eq_nil_of_length_eq_zero (by simpa using a1)
            subst this
            simp [Builtin.firstCells, loadCells, loadCellsFrom]
        split at hq
        · -- the capacity is known: a new row
          rename_i hexact
          have hc' := hex hexact
          obtain ⟨old, s1, hr, hq2⟩ := rd_run hq
          obtain ⟨hm0, hc0, _, hl0, _⟩ := St.rd_spec hr
          obtain ⟨old', b1, b2, b3, -⟩ := hold w.drew s r.drew old s1 hr
          have r1 : WR P ρ B0 w0 s1.mem w := hm0 ▸ r
          obtain ⟨cs1, s2, h8, hm1, hc1, cs', a1, a2, a3⟩ := appC_ok (w := w.drew) ok hsz hq2 hn r1.drew.mr hx
          obtain ⟨j, hj⟩ := run_grow (base := some ⟨xb.B, o', none⟩) (len := len) (cap := c') ok hz b3 a3
          rw [hrun _ c', if_neg (by omega), hj]
          exact fin_grow (hm1.trans hm0) (hc1.trans hc0) h8 fr r hinf hisz hzl b1 a1 (by rw [List.length_append, b2, a2, Nat.add_mul])
        · -- the capacity is not known: in place, or a new row
          rename_i hinex
          obtain ⟨hh, hhd, hq2⟩ := hd_run hq
          obtain ⟨hck, hq3⟩ := gd_run hq2
          obtain ⟨hel, hend, hmv, hro, hexh, hfz⟩ := of_decide_eq_true hck
          obtain ⟨old, s1, hr, hq4⟩ := rd_run hq3
          obtain ⟨hm0, hc0, _, hl0, _⟩ := St.rd_spec hr
          simp only at hm0 hc0
          have r1 : WR P ρ B0 w0 s1.mem w := hm0 ▸ r
          obtain ⟨xb', c0, lo, hi', e1, row⟩ := r.mr.row b hh hhd
          rw [hxb] at e1
          obtain rfl := Option.some.inj e1
          obtain ⟨i2, hi2, hi2s⟩ := row.sz
          rw [hel, hinf] at hi2
          obtain rfl := Option.some.inj hi2
          have hsx : xb.sz = sz := by rw [← hi2s, hisz]
          have hfin : ∀ (cs : List Value) (s2 : St), s2.mem = s1.mem → s2.ctr = s1.ctr → (gd (cs.all oneC)
              (.setHd b ⟨hh.n, hh.el, hh.ro, hh.ex, hh.z, hh.fz, hh.sy, true, []⟩
                (.newH ⟨len * sz + n * sz, e, false, false, hh.z && Nat.beq o 0, hh.fz, hh.sy, false, b :: hh.olds⟩ (old ++ cs)
                  fun k => .ret (.slice (some ⟨k, 0, none⟩) (len + n) (capOf (len + n) false))))).run s2 = some (v, s') →
              cs.all oneC = true ∧ (old ++ cs).length ≤ len * sz + n * sz ∧ v = .slice (some ⟨s.ctr, 0, none⟩) (len + n) (capOf (len + n) false) ∧
              s'.mem = layCells s.ctr (old ++ cs) (s.ctr + 1) ((s.mem.set b (some (.hdr { hh with mv := true, olds := [] }))).set s.ctr (some (.hdr ⟨len * sz + n * sz, e, false, false, hh.z && Nat.beq o 0, hh.fz, hh.sy, false, b :: hh.olds⟩))) ∧
              s'.ctr = s.ctr + (len * sz + n * sz) + 1 := by
            intro cs s2 hm2 hc2 hrun2
            obtain ⟨hone, h9⟩ := gd_run hrun2
            obtain ⟨_, _, h10⟩ := setHd_run h9
            obtain ⟨hlen, h11⟩ := newH_run h10
            obtain ⟨rfl, rfl⟩ := ret_run h11
            have hc3 : s2.ctr = s.ctr := hc2.trans hc0
            have hm3 : s2.mem = s.mem := hm2.trans hm0
            refine ⟨hone, hlen, ?_, ?_, ?_⟩
            · simp only [hc3]
            · simp only [hc3, hm3]
            · simp only [hc3]
          by_cases hfitc : len + n ≤ c'
          · have ho' : o' = xb.sh + o := by
              rcases ho with ho | ho
              · exact ho
              · omega
            subst ho'
            have hN : xb.sh + o + c' * sz = xb.N := by
              rcases hin (by simpa using hinex) with q | q
              · omega
              · rw [hsx] at q; exact q
            have hNle : (len + n) * sz ≤ c' * sz := Nat.mul_le_mul_right _ hfitc
            rw [Nat.add_mul] at hNle
            obtain ⟨old', b1, b2, b3, b4⟩ := hold w ⟨s.mem, s.ctr, ⟨false, b, 1⟩ :: s.log⟩ r old s1 hr
            obtain ⟨cs, s2, h8, hm1, hc1, cs', a1, a2, a3⟩ := appC_ok (w := w) ok hsz hq4 hn r1.mr hx
            obtain ⟨hone, hlen, rfl, hsm, hsc⟩ := hfin cs s2 hm1 hc1 h8
            have hv := b1.append a1
            have hvl := hv.length
            rw [List.length_append, b2, a2] at hvl
            have hcN := row.N
            have hst := run_storeRow (P := P) xb.B cs' (xb.sh + o + len * sz) 0 w c0 hh.el (lo, hi') row.heap (by omega) (by rw [a1.oneC]; exact hone) (by
              intro j j1 j2 j3
              have := row.fn
              rcases row.fz hmv j j3.1 j3.2 with q | q <;> omega)
            simp only [Nat.add_zero] at hst
            rw [hrun _ c', if_pos hfitc]
            simp only [Sem.run_bind, a3, Result.andThen_ok, add_at, hst, Sem.run_pure]
            have hle0 : xb.sh + o + len * sz + cs'.length ≤ c0.size := by omega
            obtain ⟨⟨c2, d1, d2, d3⟩, dother, dsize, dos, dtape, dout⟩ := setCells_spec xb.B cs' (xb.sh + o + len * sz) w c0 hh.el (lo, hi') row.heap hle0
            have rb := r.mr.beyond hhd hmv hro hxb row.heap (o := xb.sh + o + len * sz) (by omega) hle0
            rw [hsc] at fr
            have hfzle := row.fz hmv
            have rm := rb.moved hhd hmv hro hxb (k := s.ctr) (n := len * sz + n * sz) (vs := old ++ cs) (h2 := ⟨len * sz + n * sz, e, false, false, hh.z && Nat.beq o 0, hh.fz, hh.sy, false, b :: hh.olds⟩)
              rfl rfl rfl fr (x2 := ⟨xb.B, xb.sh + o, xb.N, xb.sz, []⟩) (.inr ⟨rfl, by simp only; omega⟩) (fun _ _ _ _ => rfl) hlen hv (c := c2) (lo := lo) (hi := hi')
              { heap := by rw [d1, hel]
                N := d2.trans row.N
                sz := ⟨i, hinf, hi2s⟩
                fits := by simp only; omega
                ex := fun q => by cases q
                z := fun q => by
                  simp only [Bool.and_eq_true] at q
                  have h1 := row.z q.1
                  have h2 := Nat.eq_of_beq_eq_true q.2
                  simp only; omega
                own := fun _ => row.own hro
                le := row.le
                fz := fun _ q q1 q2 => by
                  rcases row.fz hmv q q1 q2 with q3 | q3
                  · left; simp only; omega
                  · right; exact q3
                sy := fun _ hs q q1 q2 => by
                  have := row.sy hmv hs q q1 q2
                  simp only; omega
                fn := hfz }
              (fun q u hu => by
                simp only
                rw [d3]
                by_cases hq : q < len * sz
                · rw [if_neg (by omega), ← cell_of row.heap]
                  exact b4 rfl q u (by rw [← hu, List.getElem?_append_left (by omega)])
                · have hlt : q < (old' ++ cs').length := (List.getElem?_eq_some_iff.1 hu).1
                  rw [List.length_append, b2] at hlt
                  rw [if_pos (by omega), ← hu, List.getElem?_append_right (by omega), b2]
                  congr 1; omega)
            refine ⟨upd ρ s.ctr ⟨xb.B, xb.sh + o, xb.N, xb.sz, []⟩, _, _, ⟨Ext.upd _ (fr.map s.ctr (Nat.le_refl _) (by omega)), fun k hk => upd_ne (by omega)⟩, by omega, rfl, ?_, ?_, ?_, r.hB⟩
            · refine VR.sl (x := ⟨xb.B, xb.sh + o, xb.N, xb.sz, []⟩) (upd_same _ _ _) (.inl (Nat.add_zero _).symm) (by rw [capOf_lo]; exact hfitc) (fun h => by rw [capOf_ex] at h; cases h) (fun _ => .inr ?_) hfitc
              rw [hsx]; exact hN
            · rw [hsm]; exact rm
            · refine r.bel.trans ⟨dos, dtape, dout, by omega, fun k hk => dother k ?_⟩
              have := row.own hro
              omega
          · obtain ⟨old', b1, b2, b3, b4⟩ := hold w.drew ⟨s.mem, s.ctr, ⟨false, b, 1⟩ :: s.log⟩ r.drew old s1 hr
            obtain ⟨cs, s2, h8, hm1, hc1, cs', a1, a2, a3⟩ := appC_ok (w := w.drew) ok hsz hq4 hn r1.drew.mr hx
            obtain ⟨hone, hlen, rfl, hsm, hsc⟩ := hfin cs s2 hm1 hc1 h8
            have hv := b1.append a1
            have hvl : (old' ++ cs').length = (len + n) * sz := by rw [List.length_append, b2, a2, Nat.add_mul]
            obtain ⟨j, hj⟩ := run_grow (base := some ⟨xb.B, o', none⟩) (len := len) (cap := c') ok hz b3 a3
            rw [hrun _ c', if_neg hfitc, hj]
            have hsz2 : (⟨old' ++ cs' ++ rep (cellsL z) j⟩ : Array Value).size = (len + n + j) * sz := by
              simp only [List.size_toArray]
              rw [List.length_append, hvl, rep_length, hzl, ← Nat.add_mul]
            rw [hsc] at fr
            have rp := r.drew.mr.push (w1 := w.drew.alloc (.cells ⟨old' ++ cs' ++ rep (cellsL z) j⟩ e)) rfl
            have rm := rp.moved hhd hmv hro hxb (k := s.ctr) (n := len * sz + n * sz) (vs := old ++ cs) (h2 := ⟨len * sz + n * sz, e, false, false, hh.z && Nat.beq o 0, hh.fz, hh.sy, false, b :: hh.olds⟩)
              rfl rfl rfl fr (x2 := ⟨w.heap.size, 0, (len + n + j) * sz, sz, []⟩) (.inl fun k y hy => by have := r.mr.rng k y hy; simp only; omega) (fun B y hy q => by have := r.mr.lsLt hy; simp only at q; omega) hlen hv
              (c := ⟨old' ++ cs' ++ rep (cellsL z) j⟩) (lo := 0) (hi := 0)
              { heap := push_new (w := w.drew) rfl
                N := hsz2
                sz := ⟨i, hinf, hisz⟩
                fits := by simp only; rw [Nat.add_mul, Nat.add_mul]; omega
                ex := fun q => by cases q
                z := fun _ => rfl
                own := fun _ => r.size
                le := Nat.le_refl _
                fz := fun _ q q1 q2 => absurd q2 (by omega)
                sy := fun _ hs q q1 q2 => absurd q2 (by omega)
                fn := hfz }
              (fun q u hu => by
                have hlt : q < (old' ++ cs').length := (List.getElem?_eq_some_iff.1 hu).1
                simp only [List.getElem?_toArray, Nat.zero_add]
                rw [List.getElem?_append_left hlt]; exact hu)
            refine ⟨upd ρ s.ctr ⟨w.heap.size, 0, (len + n + j) * sz, sz, []⟩, _, _, ⟨Ext.upd _ (fr.map s.ctr (Nat.le_refl _) (by omega)), fun k hk => upd_ne (by omega)⟩, by omega, rfl, VR.slice_grown (upd_same _ _ _), ?_, ?_, r.hB⟩
            · rw [hsm]; exact rm
            · exact r.bel.drew.alloc r.drew.size _
theorem appendX_ok (ok : EnvOK P E) {t tx ty : TypeId} {z0 x b' x' : Value} {s s' : St} {v : Value} (hxl : isXl z0 = true) (h : (appendX E t tx (elems z0) x).run s = some (v, s')) (r : WR P ρ B0 w0 s.mem w)
    (fr : Fr ρ s.mem s.ctr s'.ctr) (hb : VR ρ z0 b') (hx : VR ρ x x') : SR P ρ B0 w0 s s' v ((Builtin.append_ ⟨[t, tx]⟩ ty ⟨[b', x']⟩).run P w) := by
  unfold appendX at h
  obtain ⟨e, he, h1⟩ := opt_run h
  obtain ⟨d, hd, h2⟩ := opt_run h1
  obtain ⟨sz, hsz, h3⟩ := opt_run h2
  obtain ⟨by_, hby, h4⟩ := opt_run h3
  obtain ⟨n, hn, h5⟩ := opt_run h4
  obtain ⟨z, hz, h6⟩ := opt_run h5
  obtain ⟨hfit', hq⟩ := gd_run h6
  clear h h1 h2 h3 h4 h5 h6
  simp only [Bool.and_eq_true] at hfit'
  obtain ⟨hhd, hfit'⟩ := hfit'
  have hfit := of_decide_eq_true hfit'
  clear hfit'
  have ht := elemOfSlice_ok he
  obtain ⟨i, hi, hisz⟩ := size_ok hsz
  have hinf := ok.ty _ _ hi
  have hzl := zero_len ok hz hsz
  have hL : isL z0 = true := by simp [isL, hxl]
  have hb0 := hb
  obtain ⟨a, c', rfl, hcase, hle, hx2⟩ := hb.isL_inv hL
  obtain rfl := hx2 hxl
  have hrun := run_append (ty := ty) (base := a) (cap := (elems z0).length) (w := w) ok ht hd hsz hby hn hx hfit
  have hzz : VR ρ (xlstV (elems z0)) (.slice a (elems z0).length (elems z0).length) := by
    have : xlstV (elems z0) = z0 := by
      unfold isXl at hxl
      split at hxl
      · have := Nat.eq_of_beq_eq_true hxl
        subst this
        rfl
      · cases hxl
    rw [this]
    exact hb0
  cases n with
  | zero =>
    obtain ⟨rfl, rfl⟩ := ret_run hq
    have happ : (appSem (isIntD d) e sz 0 x').run P w = .ok #[] w := by
      cases hdd : isIntD d with
      | true => simp [appSem]
      | false =>
        rw [hdd] at hn
        simp only [appSem, Bool.not_false, if_true]
        exact first0 hn hx
    rw [hrun]
    simp only [Nat.add_zero, Nat.le_refl, if_true, Sem.run_bind, happ, Result.andThen_ok]
    cases a with
    | none =>
      simp only [Sem.run_pure]
      exact SR.pure r rfl rfl hzz
    | some a =>
      simp only [storeCells, Sem.run_pure, Sem.run_bind, Result.andThen_ok]
      exact SR.pure r rfl rfl hzz
  | succ n =>
    have hold : ∃ old', VRs ρ (flatC (elems z0)) old' ∧ old'.length = (elems z0).length * sz ∧ (Builtin.firstCells sz (elems z0).length (.slice a (elems z0).length (elems z0).length)).run P w.drew = .ok ⟨old'⟩ w.drew := by
      have hnil : elems z0 = [] → ∃ old', VRs ρ (flatC (elems z0)) old' ∧ old'.length = (elems z0).length * sz ∧ (Builtin.firstCells sz (elems z0).length (.slice a (elems z0).length (elems z0).length)).run P w.drew = .ok ⟨old'⟩ w.drew := by
        intro he
        rw [he]
        refine ⟨[], .nil, by simp, ?_⟩
        cases a <;> simp [Builtin.firstCells, loadCells, loadCellsFrom]
      rcases hcase with ⟨he, _⟩ | ⟨B, o, sz', cs', y, rfl, hy, hv, hs, ha⟩
      · exact hnil he
      · by_cases he : elems z0 = []
        · exact hnil he
        · obtain rfl := hdOk_all hhd ha he
          have hfl := hv.length
          rw [flatC_length ha] at hfl
          refine ⟨cs', hv, hfl, ?_⟩
          simp only [Builtin.firstCells]
          exact run_loadRow hfl fun j v e => r.drew.mr.frzCell hy (hs j v e)
    obtain ⟨old', b1, b2, b3⟩ := hold
    obtain ⟨cs1, s2, h8, hm1, hc1, cs', a1, a2, a3⟩ := appC_ok (w := w.drew) ok hsz hq hn r.drew.mr hx
    obtain ⟨j, hj⟩ := run_grow (base := a) (len := (elems z0).length) (cap := (elems z0).length) ok hz b3 a3
    rw [hrun, if_neg (by omega), hj]
    exact fin_grow hm1 hc1 h8 fr r hinf hisz hzl b1 a1 (by rw [List.length_append, b2, a2, Nat.add_mul (elems z0).length])
theorem appendA_ok (ok : EnvOK P E) {ts : List TypeId} {args args' : List Value} {ty : TypeId} {s s' : St} {v : Value} (h : (appendA E ts args).run s = some (v, s')) (r : WR P ρ B0 w0 s.mem w)
    (fr : Fr ρ s.mem s.ctr s'.ctr) (ha : VRs ρ args args') : SR P ρ B0 w0 s s' v ((Builtin.append_ ⟨ts⟩ ty ⟨args'⟩).run P w) := by
  unfold appendA at h
  split at h
  · obtain ⟨b', x', rfl, hb, hx⟩ := ha.two
    exact appendB_ok ok h r fr hb hx
  · obtain ⟨b', x', rfl, hb, hx⟩ := ha.two
    split at h
    · rename_i hxl
      exact appendX_ok ok hxl h r fr hb hx
    · exact (fail_run h).elim
  · exact (fail_run h).elim
end
end Go.Ev
