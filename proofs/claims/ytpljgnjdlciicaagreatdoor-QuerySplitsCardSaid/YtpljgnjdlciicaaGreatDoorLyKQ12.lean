/- Soundness, part 11: conversions, aggregates; all operations that are no calls. -/
import Derived.Test.YtpljgnjdlciicaaGreatDoorLyKQ11
import Derived.Lib.Builder
import Derived.Laws.BytesString
namespace Go.Ev
open Go Go.RowKit
section
variable {P : Program} {E : Env} (ok : EnvOK P E) {ρ : Map} {B0 : Nat} {w0 w : World}

theorem isU8_ok {t : TypeId} (h : isU8 E t = true) : E.und t = some (.int .u8) := by
  unfold isU8 at h
  split at h
  · rename_i hd; exact hd
  · cases h
theorem bytesRd_ok {vs vs' : List Value} : ∀ {bs : List UInt8}, bytesRd vs = some bs → VRs ρ vs vs' → ∃ ns : List Int, vs' = ns.map (Value.int .u8) ∧
    ∀ r : ByteArray, ns.foldl (fun r n => r.push (UInt8.ofNat n.toNat)) r = mkStr (r.data.toList ++ bs) := by
  induction vs generalizing vs' with
  | nil =>
    intro bs h hv
    cases hv
    simp only [bytesRd, Option.some.injEq] at h
    subst h
    exact ⟨[], rfl, fun r => by simp [mkStr]⟩
  | cons v vs ih =>
    intro bs h hv
    cases hv with
    | cons h1 h2 =>
    cases v <;> first | (simp [bytesRd] at h; done) | skip
    rename_i k n
    cases k <;> first | (simp [bytesRd] at h; done) | skip
    simp only [bytesRd] at h
    split at h
    · rename_i rr hr
      simp only [Option.some.injEq] at h
      subst h
      obtain ⟨ns, rfl, hf⟩ := ih hr h2
      cases h1
      refine ⟨n :: ns, rfl, fun r => ?_⟩
      rw [List.foldl_cons, hf]
      simp [mkStr, ByteArray.push]
    · cases h
theorem foldPush : ∀ (ns : List Int) (r : ByteArray), ns.foldl (fun r n => r.push (UInt8.ofNat n.toNat)) r = mkStr (r.data.toList ++ ns.map fun n => UInt8.ofNat n.toNat) := by
  intro ns
  induction ns with
  | nil => intro r; simp [mkStr]
  | cons n ns ih =>
    intro r
    rw [List.foldl_cons, ih]
    simp [mkStr, ByteArray.push]
theorem flatC_u8 : ∀ {es : List Value}, allU8 es = true → flatC es = es := by
  intro es
  induction es with
  | nil => intro _; rfl
  | cons e es ih =>
    intro h
    simp only [allU8, Bool.and_eq_true] at h
    rw [flatC, ih h.2]
    have hu := h.1
    cases e <;> first | (simp [u8V] at hu; done) | rfl
theorem MR.fresh_row {m : Tr Slot} {w : World} (r : MR P ρ B0 m w) {b : Nat} {x : Blk} (h : ρ b = some x) : x.B ≠ w.heap.size := by
  have := r.rng b x h; omega
theorem shape_at {B : Nat} {c : Array Value} {e : TypeId} {fr : Nat × Nat} (h : w.heap[B]? = some (.cells c e fr)) : w.shape? B = some (e, c.size) := by
  simp only [World.shape?, h]
theorem run_mark {B o : Nat} {c : Array Value} {e : TypeId} {fr : Nat × Nat} (h : w.heap[B]? = some (.cells c e fr)) : (markStringish ⟨B, o, none⟩).run P w = .ok () (w.freeze ⟨B, c.size, none⟩ 1) := by
  simp only [markStringish, Sem.run_bind, run_shape, shape_at h, Result.andThen_ok]
  rfl
theorem convA_ok (ok : EnvOK P E) {src dst : TypeId} {x x' v : Value} {s s' : St} (h : (convA E src dst x).run s = some (v, s')) (r : WR P ρ B0 w0 s.mem w) (fr : Fr ρ s.mem s.ctr s'.ctr) (hx : VR ρ x x') :
    SR P ρ B0 w0 s s' v ((Go.convert src dst x').run P w) := by
  unfold convA at h
  obtain ⟨ds, hs, h1⟩ := opt_run h
  obtain ⟨dd, hd, h2⟩ := opt_run h1
  clear h h1
  split at h2
  · cases hx
    obtain ⟨rfl, rfl⟩ := ret_run h2
    simp only [Go.convert, Sem.run_bind, run_und ok hs, run_und ok hd, Result.andThen_ok, Conv.unsafePointer, Sem.run_pure]
    exact SR.pure r rfl rfl .ptrN
  · rename_i tt a
    obtain ⟨n, hn, h3⟩ := opt_run h2
    obtain ⟨hpos, h4⟩ := ck_run h3
    obtain ⟨hh, hhd, h5⟩ := hd_run h4
    obtain ⟨hlt, h6⟩ := gd_run h5
    obtain ⟨rfl, rfl⟩ := ret_run h6
    have hlt : a.off < hh.n := Nat.le_of_ble_eq_true hlt
    have hpos : 0 < n := Nat.le_of_ble_eq_true hpos
    obtain ⟨i, hi, hisz⟩ := size_ok hn
    cases hx with
    | @ptr b o x hxb =>
    obtain ⟨x', c0, lo, hi', e1, row⟩ := r.mr.row _ hh hhd
    rw [hxb] at e1
    obtain rfl := Option.some.inj e1
    have hsh : w.shape? x.B = some (hh.el, c0.size) := by simp only [World.shape?, row.heap]
    have := row.fits
    have := row.N
    rw [Go.Lib.run_to_unsafe (e := hh.el) (cells := c0.size) w ⟨x.B, x.sh + o, none⟩ (und_ok ok hs) (und_ok ok hd) (ok.ty _ _ hi) (by omega) hsh (by simp only at hlt ⊢; omega)]
    exact SR.pure r rfl rfl (.ptr hxb)
  · cases hx
    obtain ⟨rfl, rfl⟩ := ret_run h2
    simp only [Go.convert, Sem.run_bind, run_und ok hs, run_und ok hd, Result.andThen_ok, Conv.unsafePointer, Sem.run_pure]
    exact SR.pure r rfl rfl .ptrN
  · rename_i u a
    obtain ⟨n, hn, h3⟩ := opt_run h2
    obtain ⟨hpos, h4⟩ := ck_run h3
    obtain ⟨hh, hhd, h5⟩ := hd_run h4
    obtain ⟨sz, hsz, h6⟩ := opt_run h5
    obtain ⟨hg, h7⟩ := gd_run h6
    obtain ⟨rfl, rfl⟩ := ret_run h7
    simp only [Bool.and_eq_true] at hg
    obtain ⟨⟨hex, hz⟩, hlies⟩ := hg
    obtain ⟨i, hi, hisz⟩ := size_ok hn
    obtain ⟨i2, hi2, hisz2⟩ := size_ok hsz
    cases hx with
    | @ptr b o x hxb =>
    obtain ⟨x', c0, lo, hi', e1, row⟩ := r.mr.row _ hh hhd
    rw [hxb] at e1
    obtain rfl := Option.some.inj e1
    have hsh : w.shape? x.B = some (hh.el, c0.size) := by simp only [World.shape?, row.heap]
    have h1 := row.N
    have h2' := row.ex hex
    have h3' := row.z hz
    have hcs : c0.size = hh.n := by omega
    have hce : P.cellsOf hh.el = sz := by simp [Program.cellsOf, ok.ty _ _ hi2, hisz2]
    rw [Go.Lib.run_from_unsafe (e := hh.el) (cells := c0.size) w ⟨x.B, x.sh + o, none⟩ (und_ok ok hs) (und_ok ok hd) (ok.ty _ _ hi) hsh (by
      rw [hcs, hce]
      simp only [h3', Nat.zero_add]
      rw [← ok.prog]
      exact hlies)]
    exact SR.pure r rfl rfl (.ptr hxb)
  · cases hx
    obtain ⟨rfl, rfl⟩ := ret_run h2
    simp only [Go.convert, Sem.run_bind, run_und ok hs, run_und ok hd, Result.andThen_ok, Conv.intToInt, Sem.run_pure]
    exact SR.pure r rfl rfl (.int _ _)
  · cases hx
    obtain ⟨rfl, rfl⟩ := ret_run h2
    simp only [Go.convert, Sem.run_bind, run_und ok hs, run_und ok hd, Result.andThen_ok, Sem.run_pure]
    exact SR.pure r rfl rfl (.string _)
  · rename_i e b
    cases hx
    obtain ⟨hu, h3⟩ := ck_run h2
    simp only [Bool.and_eq_true] at hu
    obtain ⟨hu, hone⟩ := hu
    have hu := isU8_ok hu
    obtain ⟨i, hi, hisz⟩ : ∃ i, E.ty.get e = some i ∧ i.size = 1 := by
      unfold isOne at hone
      split at hone
      · rename_i n hn
        obtain ⟨i, a, b⟩ := size_ok hn
        exact ⟨i, a, b.trans (Nat.eq_of_beq_eq_true hone)⟩
      · cases hone
    have h4 := new_run h3
    obtain ⟨rfl, rfl⟩ := ret_run h4
    simp only [List.length_map] at fr
    -- the model's own
    generalize hj : w.tape w.drawn (.appendCap b.size 0 e) % (2 ^ 63 - b.size) = j
    have hc : (choose (.appendCap b.size 0 e)).run P w = .ok (b.size + j) w.drew := by rw [← hj]; rfl
    let cs : List Value := b.data.toList.map (fun c => .int .u8 c.toNat)
    let row : List Value := cs ++ List.replicate j (.int .u8 0)
    have hlen : cs.length = b.size := by simp only [cs, List.length_map]; rfl
    have hrow : (b.data.map (fun c => (.int .u8 c.toNat : Value)) ++ Array.replicate (b.size + j - b.size) (.int .u8 0)) = ⟨row⟩ := by
      apply Array.ext'
      simp only [Array.toList_append, Array.toList_map, Array.toList_replicate, Nat.add_sub_cancel_left]
      rfl
    let w1 : World := w.drew.alloc (.cells ⟨row⟩ e)
    have hw1 : w1.heap[w.heap.size]? = some (.cells ⟨row⟩ e (0, 0)) := push_new (w := w.drew) rfl
    have hrl : (⟨row⟩ : Array Value).size = b.size + j := by simp [row, hlen]
    obtain ⟨f1, f2, f3, f4, f5, f6⟩ := freeze_at w1 w.heap.size 1 (b.size + j) ⟨row⟩ e 0 0 hw1 (by simp)
    have hrun : (Go.convert src dst (.string b)).run P w = .ok (.slice (some ⟨w.heap.size, 0, none⟩) b.size (b.size + j)) (w1.freeze ⟨w.heap.size, b.size + j, none⟩ 1) := by
      have hn : (newRow e ⟨row⟩).run P w.drew = .ok ⟨w.heap.size, 0, none⟩ w1 := rfl
      simp only [Go.convert, Sem.run_bind, run_und ok hs, run_und ok hd, run_und ok hu, Result.andThen_ok, Conv.stringToBytes, hc, hrow, hn, run_mark hw1, hrl, Sem.run_pure]
    rw [hrun]
    have hheap : (w1.freeze ⟨w.heap.size, b.size + j, none⟩ 1).heap = w.heap.push (.cells ⟨row⟩ e (b.size + j, b.size + j + 1)) := by
      apply Array.ext_getElem?
      intro q
      by_cases hq : q = w.heap.size
      · subst hq
        rw [f1, Array.getElem?_push, if_pos rfl]
        rfl
      · rw [f2 q hq]
        show (w.heap.push _)[q]? = _
        rw [Array.getElem?_push, Array.getElem?_push, if_neg hq, if_neg hq]
    have hv : VRs ρ cs cs := VRs.map _ _ _ (fun c _ => .int _ _)
    have hml : (b.data.toList.map (fun c => (.int .u8 c.toNat : Value))).length = b.size := hlen
    have fr' : Fr ρ s.mem s.ctr (s.ctr + cs.length + 1) := by
      rw [hlen]; exact fr
    have rm := r.drew.mr.new (k := s.ctr) (n := cs.length) (vs := cs) (vs' := cs) (el := e) (ex := false) (z := true) (sy := true) (c := ⟨row⟩) (lo := b.size + j) (hi := b.size + j + 1) (sz := 1)
      (w1 := w1.freeze ⟨w.heap.size, b.size + j, none⟩ 1) fr' (Nat.le_refl _) hv hheap r.size
      (fun q u e => by
        have hq : q < cs.length := (List.getElem?_eq_some_iff.1 e).1
        simp only [List.getElem?_toArray, row]
        rw [List.getElem?_append_left hq]; exact e)
      (by rw [hrl, hlen]; omega) (fun h => by cases h) ⟨i, ok.ty _ _ hi, hisz⟩ (by omega) (fun q h1 h2 => by rw [hrl]; omega) (fun h => by cases h)
    rw [hrl] at rm
    refine ⟨upd ρ s.ctr ⟨w.heap.size, 0, b.size + j, 1, []⟩, _, _, ⟨Ext.upd _ (fr'.map s.ctr (Nat.le_refl _) (by omega)), fun k hk => upd_ne (by simp only at hk; omega)⟩, by simp only; omega, rfl, ?_, rm, ?_, r.hB⟩
    · refine VR.sl (x := ⟨w.heap.size, 0, b.size + j, 1, []⟩) (upd_same _ _ _) (.inl rfl) (by rw [capOf_lo]; exact Nat.le_add_right b.size j) (fun h => by rw [capOf_ex] at h; cases h) (fun _ => .inr ?_) (Nat.le_add_right _ _)
      simp
    · refine r.bel.trans ⟨f4, f5, f6, ?_, fun k hk => ?_⟩
      · rw [hheap, Array.size_push]; omega
      · have := r.size
        rw [hheap, Array.getElem?_push, if_neg (by omega)]
  · rename_i e0 e a len c
    obtain ⟨hg, h3⟩ := ck_run h2
    simp only [Bool.and_eq_true] at hg
    obtain ⟨hsd, hu⟩ := hg
    obtain rfl := Nat.eq_of_beq_eq_true hsd
    have hu := isU8_ok hu
    obtain ⟨hh, hhd, h4⟩ := hd_run h3
    obtain ⟨hck, h5⟩ := gd_run h4
    obtain ⟨hfz, hmv, hro, hz⟩ := of_decide_eq_true hck
    obtain ⟨_, _, h6⟩ := setHd_run h5
    obtain ⟨rfl, rfl⟩ := ret_run h6
    cases hx with
    | @sl b o o' _ _ c' xb hxb ho hl0 hex hin hle =>
    obtain ⟨xb', c0, lo, hi, e1, row⟩ := r.mr.row b hh hhd
    rw [hxb] at e1
    obtain rfl := Option.some.inj e1
    have hsh := row.z hz
    obtain ⟨f1, f2, f3, f4, f5, f6⟩ := freeze_at w xb.B 1 c0.size c0 hh.el lo hi row.heap (by simp)
    have hrun : (Go.convert src src (.slice (some ⟨xb.B, o', none⟩) len c')).run P w = .ok (.slice (some ⟨xb.B, o', none⟩) len c') (w.freeze ⟨xb.B, c0.size, none⟩ 1) := by
      have hb : (src == src) = true := by simp
      simp only [Go.convert, Sem.run_bind, run_und ok hd, run_und ok hu, Result.andThen_ok, hb, run_mark row.heap, Sem.run_pure]
    rw [hrun]
    have hfz0 := row.fz hmv
    have hcN := row.N
    have hle0 := row.le
    have rm := r.mr.rehdr (h' := ⟨hh.n, hh.el, hh.ro, hh.ex, hh.z, hh.fz, true, hh.mv, hh.olds⟩) hhd hmv hxb rfl hmv rfl rfl row.heap (w1 := w.freeze ⟨xb.B, c0.size, none⟩ 1)
      (lo := (if lo == hi then (c0.size, c0.size + 1) else (min lo c0.size, max hi (c0.size + 1))).1) (hi := (if lo == hi then (c0.size, c0.size + 1) else (min lo c0.size, max hi (c0.size + 1))).2)
      { heap := f1
        N := row.N
        sz := row.sz
        fits := row.fits
        ex := row.ex
        z := row.z
        own := row.own
        le := by split <;> simp only <;> omega
        fz := fun _ q q1 q2 => by
          right
          split at q1
          · rename_i hlh
            simp only at q1; omega
          · rename_i hlh
            have hlh : lo ≠ hi := fun e => hlh (by simp [e])
            simp only at q1
            rcases hfz0 lo (Nat.le_refl _) (by omega) with q3 | q3 <;> omega
        sy := fun _ h => by cases h
        fn := row.fn } rfl f2 f3
    refine ⟨ρ, _, _, Gr.refl _ _ _, Nat.le_refl _, rfl, .sl hxb ho hl0 hex hin hle, rm, r.bel.trans ⟨f4, f5, f6, by rw [f3]; exact Nat.le_refl _, fun k hk => f2 k ?_⟩, r.hB⟩
    have := row.own hro
    omega
  · rename_i e a len c
    obtain ⟨hu, h3⟩ := ck_run h2
    have hu := isU8_ok hu
    cases a with
    | none =>
      cases hx
      obtain ⟨rfl, rfl⟩ := ret_run h3
      have : (Go.convert src dst (.slice none 0 0)).run P w = .ok (.string (mkStr [])) w := by
        simp only [Go.convert, Sem.run_bind, run_und ok hs, run_und ok hd, run_und ok hu, Result.andThen_ok, Conv.bytesToString]
        rfl
      rw [this]
      exact SR.pure r rfl rfl (.string _)
    | some a =>
      cases hx with
      | @sl b o o' _ _ c' xb hxb ho hl0 hex hin hle =>
      obtain ⟨vs, s1, hr, h4⟩ := rd_run h3
      obtain ⟨hbs, h5⟩ := gd_run h4
      obtain ⟨rfl, rfl⟩ := ret_run h5
      obtain ⟨hm, hc, _, _, _⟩ := St.rd_spec hr
      obtain ⟨vs', a1, a2, a3⟩ := r.mr.rd hr hxb
      obtain ⟨ns, rfl, hbv⟩ := bytesV_push hbs a2
      have hload : (loadCells ⟨xb.B, o', none⟩ len).run P w = .ok (ns.map (Value.int .u8)).toArray w := by
        rcases ho with ho | ho
        · rw [ho]; exact run_loadRow a1 a3
        · have h0 : len = 0 := by omega
          subst h0
          have : ns = [] := List.eq_nil_of_length_eq_zero (by simpa using a1)
          subst this
          rfl
      rw [run_convert_bytes_string w src dst e _ len c' (und_ok ok hs) (und_ok ok hu) (und_ok ok hd), run_bytesToString w _ len c' ns hload, foldPush, hbv]
      exact SR.pure r hm hc (.string _)
  · rename_i e n3 n4
    obtain ⟨hu, h3⟩ := ck_run h2
    have hu := isU8_ok hu
    split at h3
    · rename_i hL
      obtain ⟨hbs, h5⟩ := gd_run h3
      obtain ⟨rfl, rfl⟩ := ret_run h5
      obtain ⟨a, c', rfl, hcase, hle, _⟩ := hx.isL_inv hL
      obtain ⟨ns, hnl, hnone, hload, hbv⟩ : ∃ ns : List Int, ns.length = (elems x).length ∧ (a = none → ns = []) ∧ (∀ ad, a = some ad → (loadCells ad (elems x).length).run P w = .ok (ns.map (Value.int .u8)).toArray w) ∧ bytesV (elems x) = ns.map fun n => UInt8.ofNat n.toNat := by
        rcases hcase with ⟨he, _⟩ | ⟨B, o, sz, cs', z, rfl, hz, hv, hs, ha⟩
        · rw [he]
          exact ⟨[], rfl, fun _ => rfl, fun ad _ => rfl, rfl⟩
        · have hfl : flatC (elems x) = elems x := flatC_u8 hbs
          rw [hfl] at hv
          obtain ⟨ns, rfl, e⟩ := bytesV_push hbs hv
          have hl := hv.length
          simp only [List.length_map] at hl
          refine ⟨ns, hl, fun q => (nomatch q), fun ad q => ?_, e⟩
          obtain rfl := Option.some.inj q
          exact run_loadRow (by simpa using hl) fun j v e => r.mr.frzCell hz (hs j v e)
      cases a with
      | none =>
        have := hnone rfl
        subst this
        have h0 : (elems x).length = 0 := by simpa using hnl.symm
        rw [h0] at *
        simp only [Go.convert, Sem.run_bind, run_und ok hs, run_und ok hd, run_und ok hu, Result.andThen_ok, Conv.bytesToString, hbv]
        exact SR.pure r rfl rfl (.string _)
      | some ad =>
        rw [run_convert_bytes_string w src dst e ad _ c' (und_ok ok hs) (und_ok ok hu) (und_ok ok hd), run_bytesToString w _ _ c' ns (hload ad rfl), foldPush, hbv]
        exact SR.pure r rfl rfl (.string _)
    · exact (fail_run h3).elim
  · exact (fail_run h2).elim

/-! ### Aggregates -/
theorem foldSet_get (o : Nat) : ∀ (l : List Value) (k : Nat) (cs : Array Value), o + k + l.length ≤ cs.size →
    ((l.zipIdx k).foldl (fun cs (c, j) => cs.setIfInBounds (o + j) c) cs).size = cs.size ∧
    ∀ i, ((l.zipIdx k).foldl (fun cs (c, j) => cs.setIfInBounds (o + j) c) cs)[i]? = if o + k ≤ i ∧ i < o + k + l.length then l[i - (o + k)]? else cs[i]? := by
  intro l
  induction l with
  | nil => intro k cs _; exact ⟨rfl, fun i => by rw [if_neg (by simp)]; rfl⟩
  | cons x l ih =>
    intro k cs h
    simp only [List.length_cons] at h
    obtain ⟨h1, h2⟩ := ih (k + 1) (cs.setIfInBounds (o + k) x) (by simp; omega)
    rw [List.zipIdx_cons, List.foldl_cons]
    refine ⟨by rw [h1]; simp, fun i => ?_⟩
    rw [h2]
    by_cases hi : o + (k + 1) ≤ i ∧ i < o + (k + 1) + l.length
    · rw [if_pos hi, if_pos (by simp only [List.length_cons]; omega), show i - (o + k) = (i - (o + (k + 1))) + 1 from by omega]
      rfl
    · rw [if_neg hi]
      by_cases he : i = o + k
      · subst he
        rw [if_pos (by simp), Array.getElem?_setIfInBounds_self, if_pos (by omega)]
        simp
      · rw [if_neg (by simp only [List.length_cons]; omega), Array.getElem?_setIfInBounds_ne (fun e => he e.symm)]
theorem fill_row (cs : List Value) (o : Nat) (v : Value) (h : o + (cellsL v).length ≤ cs.length) :
    v.cells.zipIdx.foldl (fun cs (c, j) => cs.setIfInBounds (o + j) c) (⟨cs⟩ : Array Value) = ⟨cs.take o ++ cellsL v ++ cs.drop (o + (cellsL v).length)⟩ := by
  have e : v.cells.zipIdx.foldl (fun cs (c, j) => cs.setIfInBounds (o + j) c) (⟨cs⟩ : Array Value) = ((cellsL v).zipIdx 0).foldl (fun cs (c, j) => cs.setIfInBounds (o + j) c) (⟨cs⟩ : Array Value) := by
    rw [← Array.foldl_toList, Array.toList_zipIdx]
    rfl
  rw [e]
  obtain ⟨h1, h2⟩ := foldSet_get o (cellsL v) 0 ⟨cs⟩ (by simpa using h)
  apply Array.ext_getElem?
  intro i
  rw [h2]
  simp only [Nat.add_zero, List.getElem?_toArray]
  by_cases hi : o ≤ i ∧ i < o + (cellsL v).length
  · rw [if_pos hi, List.getElem?_append_left (by simp; omega), List.getElem?_append_right (by simp; omega)]
    congr 1
    simp
    omega
  · rw [if_neg hi]
    by_cases ho : i < o
    · rw [List.append_assoc, List.getElem?_append_left (by simp; omega), List.getElem?_take, if_pos ho]
    · rw [List.getElem?_append_right (by simp; omega), List.getElem?_drop]
      congr 1
      simp
      omega
inductive PsR (ρ : Map) : List (Nat × Value) → List (Nat × Value) → Prop
  | nil : PsR ρ [] []
  | cons {i : Nat} {v v' : Value} {l l' : List (Nat × Value)} : VR ρ v v' → PsR ρ l l' → PsR ρ ((i, v) :: l) ((i, v') :: l')
theorem PsR.ext {ρ ρ' : Map} (h : Ext ρ ρ') {l l' : List (Nat × Value)} (r : PsR ρ l l') : PsR ρ' l l' := by
  induction r with
  | nil => exact .nil
  | cons a _ ih => exact .cons (a.ext h) ih
theorem fillA_ok {place place' : Nat → Option (Nat × Nat)} (hp : ∀ i q, place i = some q → place' i = some q) : ∀ {ps ps' : List (Nat × Value)} {cs cs' r : List Value}, fillA place cs ps = some r → PsR ρ ps ps' → VRs ρ cs cs' →
    ∃ r', Instr.fill place' ⟨cs'⟩ ps' = some ⟨r'⟩ ∧ VRs ρ r r' ∧ r.length = cs.length := by
  intro ps
  induction ps with
  | nil =>
    intro ps' cs cs' r h hps hcs
    cases hps
    simp only [fillA, Option.some.injEq] at h
    subst h
    exact ⟨cs', rfl, hcs, rfl⟩
  | cons p ps ih =>
    intro ps' cs cs' r h hps hcs
    cases hps with
    | @cons i v v' _ l' hv hl =>
    simp only [fillA] at h
    split at h
    · rename_i o n hpl
      split at h
      · rename_i hg
        simp only [Bool.and_eq_true] at hg
        obtain ⟨g1, g2⟩ := hg
        have g1 := Nat.eq_of_beq_eq_true g1
        have g2 := Nat.le_of_ble_eq_true g2
        simp only [Nat.add_eq] at g2 h
        subst g1
        have hvc := hv.cells
        have hvl := hvc.length
        have hcl := hcs.length
        have hcs2 : VRs ρ (cs.take o ++ cellsL v ++ cs.drop (o + (cellsL v).length)) (cs'.take o ++ cellsL v' ++ cs'.drop (o + (cellsL v').length)) := by
          rw [hvl]
          exact ((hcs.take o).append hvc).append (hcs.drop _)
        obtain ⟨r', e1, e2, e3⟩ := ih h hl hcs2
        refine ⟨r', ?_, e2, by rw [e3]; simp; omega⟩
        have hsz : v'.cells.size = (cellsL v).length := by rw [← hvl]; rfl
        simp only [Instr.fill, hp _ _ hpl]
        rw [if_neg (by simp only [hsz, List.size_toArray, Bool.or_eq_true, decide_eq_true_eq, not_or]; omega), fill_row cs' o v' (by omega)]
        exact e1
      · cases h
    · cases h
end
end Go.Ev
/- Soundness, part 11 F: rows that become lists. -/
namespace Go.Ev
open Go Go.RowKit
section
variable {P : Program} {E : Env} {B0 : Nat} {w0 w : World}
/-- The map has grown by lists alone. -/
def Gl (ρ ρ' : Map) : Prop := Ext ρ ρ' ∧ ∀ k, ρ' k = ρ k
theorem Gl.refl (ρ : Map) : Gl ρ ρ := ⟨Ext.refl ρ, fun _ => rfl⟩
theorem Gl.trans {a b c : Map} (h : Gl a b) (h' : Gl b c) : Gl a c := ⟨h.1.trans h'.1, fun k => (h'.2 k).trans (h.2 k)⟩
theorem Gl.gr {ρ ρ' : Map} (h : Gl ρ ρ') (a b : Nat) : Gr ρ ρ' a b := ⟨h.1, fun k _ => h.2 k⟩
theorem Gl.fr {ρ ρ' : Map} {m m' : Tr Slot} {a b : Nat} (h : Gl ρ ρ') (f : Fr ρ m a b) : Fr ρ' m' a b := ⟨fun k h1 h2 => (h.2 k).trans (f.map k h1 h2)⟩
theorem oneC_cells {v : Value} (h : oneC v = true) : cellsL v = [v] := by cases v <;> first | rfl | (simp [oneC] at h)
theorem chunkC_one : ∀ (n : Nat) (vs : List Value), vs.length = n → vs.all oneC = true → chunkC true 1 n vs = vs
  | 0, [], _, _ => rfl
  | 0, _ :: _, h, _ => by simp at h
  | n + 1, [], h, _ => by simp at h
  | n + 1, v :: vs, h, ha => by
    simp only [List.all_cons, Bool.and_eq_true] at ha
    simp only [chunkC, List.headD_cons, List.drop_succ_cons, List.drop_zero]
    rw [chunkC_one n vs (by simpa using h) ha.2]
theorem flatC_one : ∀ {vs : List Value}, vs.all oneC = true → flatC vs = vs
  | [], _ => rfl
  | v :: vs, h => by
    simp only [List.all_cons, Bool.and_eq_true] at h
    rw [flatC, oneC_cells h.1, flatC_one h.2]; rfl
theorem chunkC_agg {sz : Nat} : ∀ (n : Nat) (vs : List Value), vs.length = n * sz → flatC (chunkC false sz n vs) = vs ∧ AllSz sz (chunkC false sz n vs) ∧ (chunkC false sz n vs).length = n
  | 0, vs, h => by
    have : vs = [] := List.eq_nil_of_length_eq_zero (by simpa using h)
    subst this
    exact ⟨rfl, fun e he => by simp [chunkC] at he, rfl⟩
  | n + 1, vs, h => by
    rw [Nat.succ_mul] at h
    obtain ⟨h1, h2, h3⟩ := chunkC_agg (sz := sz) n (vs.drop sz) (by rw [List.length_drop]; omega)
    have hc : cellsL (.agg ⟨vs.take sz⟩) = vs.take sz := rfl
    refine ⟨?_, ?_, by simp only [chunkC, List.length_cons, h3]⟩
    · simp only [chunkC, flatC, h1, hc, List.take_append_drop]
    · intro e he
      simp only [chunkC, List.mem_cons] at he
      rcases he with rfl | he
      · rw [hc, List.length_take]; omega
      · exact h2 e he
theorem chunkC_ok {one : Bool} {sz n : Nat} {vs : List Value} (h1 : one = true → sz = 1) (hl : vs.length = n * sz) (ha : vs.all oneC = true) :
    flatC (chunkC one sz n vs) = vs ∧ AllSz sz (chunkC one sz n vs) ∧ (chunkC one sz n vs).length = n := by
  cases one with
  | false => exact chunkC_agg n vs hl
  | true =>
    obtain rfl := h1 rfl
    rw [Nat.mul_one] at hl
    rw [chunkC_one n vs hl ha]
    refine ⟨flatC_one ha, fun e he => ?_, hl⟩
    rw [oneC_cells (List.all_eq_true.1 ha e he)]; rfl
/-- What making a value stand for itself comes to: the model does nothing. -/
def Frz (P : Program) (B0 : Nat) (w0 : World) (F : Value → (Value → Prog) → Prog) : Prop :=
  ∀ (ρ : Map) (v v' : Value) (k : Value → Prog) (s : St) (w : World) (q : Value × St), (F v k).run s = some q → VR ρ v v' → WR P ρ B0 w0 s.mem w →
    ∃ ρ1 v1 s1, (k v1).run s1 = some q ∧ VR ρ1 v1 v' ∧ WR P ρ1 B0 w0 s1.mem w ∧ Gl ρ ρ1 ∧ s1.ctr = s.ctr ∧ (oneC v = true → oneC v1 = true) ∧ ((cellsL v1).length = (cellsL v).length)
theorem frzGo_ok {f : TypeId → Value → (Value → Prog) → Prog} (hf : ∀ e, Frz P B0 w0 (f e)) : ∀ (ss : List (Option TypeId)) (ρ : Map) (vs vs' : List Value) (k : List Value → Prog) (s : St) (w : World) (q : Value × St),
    (frzGo f ss vs k).run s = some q → VRs ρ vs vs' → WR P ρ B0 w0 s.mem w →
    ∃ ρ1 vs1 s1, (k vs1).run s1 = some q ∧ VRs ρ1 vs1 vs' ∧ WR P ρ1 B0 w0 s1.mem w ∧ Gl ρ ρ1 ∧ s1.ctr = s.ctr ∧ (vs.all oneC = true → vs1.all oneC = true) := by
  intro ss
  induction ss with
  | nil =>
    intro ρ vs vs' k s w q h hv r
    simp only [frzGo] at h
    split at h
    · exact ⟨ρ, [], s, h, hv, r, Gl.refl ρ, rfl, fun q => q⟩
    · exact (fail_run h).elim
  | cons o ss ih =>
    intro ρ vs vs' k s w q h hv r
    cases hv with
    | nil => exact (fail_run h).elim
    | cons h1 h2 =>
      rename_i v v' vs vs'
      simp only [frzGo] at h
      cases o with
      | none =>
        obtain ⟨ρ1, vs1, s1, a1, a2, a3, a4, a5, a6⟩ := ih ρ vs vs' _ s w q h h2 r
        refine ⟨ρ1, v :: vs1, s1, a1, .cons (h1.ext a4.1) a2, a3, a4, a5, fun hq => ?_⟩
        simp only [List.all_cons, Bool.and_eq_true] at hq ⊢
        exact ⟨hq.1, a6 hq.2⟩
      | some e =>
        obtain ⟨ρ0, v1, s0, b1, b2, b3, b4, b5, b6, _⟩ := hf e ρ v v' _ s w q h h1 r
        obtain ⟨ρ1, vs1, s1, a1, a2, a3, a4, a5, a6⟩ := ih ρ0 vs vs' _ s0 w q b1 (h2.ext b4.1) b3
        refine ⟨ρ1, v1 :: vs1, s1, a1, .cons (b2.ext a4.1) a2, a3, b4.trans a4, a5.trans b5, fun hq => ?_⟩
        simp only [List.all_cons, Bool.and_eq_true] at hq ⊢
        exact ⟨b6 hq.1, a6 hq.2⟩
theorem slots_one {e : TypeId} (h : isOneT E e = true) : (slots E 20 e).length = 1 := by
  unfold isOneT at h
  split at h
  · rename_i d hd
    unfold slots
    rw [hd]
    cases d <;> first | rfl | (simp [isAggD] at h)
  · cases h
theorem frzL_ok : ∀ (d : Nat) (e : TypeId), Frz P B0 w0 (frzL E d e) := by
  intro d
  induction d with
  | zero => intro e ρ v v' k s w q h; exact (fail_run h).elim
  | succ d ih =>
    intro e ρ v v' k s w q h hv r
    unfold frzL at h
    split at h
    · rename_i t es
      split at h
      · exact ⟨ρ, _, s, h, hv, r, Gl.refl ρ, rfl, fun q => q, rfl⟩
      · split at h
        · rename_i hb
          have := Nat.eq_of_beq_eq_true hb
          subst this
          refine ⟨ρ, _, s, h, ?_, r, Gl.refl ρ, rfl, fun q => rfl, rfl⟩
          cases hv with
          | iface ht _ => exact absurd ht (by unfold LZ; decide)
          | xl e a b c => exact .lst e a b c (Nat.le_refl _)
          | xl0 => exact .lst0
        · exact (fail_run h).elim
    · cases hv with
      | slN => exact ⟨ρ, _, s, h, .lst0, r, Gl.refl ρ, rfl, fun q => rfl, rfl⟩
    · rename_i a n c
      cases hv with
      | @sl b o o' _ _ c' x hb ho hlo hex hin hle =>
      split at h
      · rename_i hn
        obtain rfl := Nat.eq_of_beq_eq_true hn
        exact ⟨ρ, _, s, h, .lst0, r, Gl.refl ρ, rfl, fun q => rfl, rfl⟩
      · rename_i hn
        have hn0 : n ≠ 0 := fun q => by rw [q] at hn; simp at hn
        obtain ⟨sz, hsz, h1⟩ := opt_run h
        obtain ⟨hpos, h2⟩ := ck_run h1
        obtain ⟨vs, s1, h3, h4⟩ := frz_run h2
        obtain ⟨hss, h5⟩ := ck_run h4
        have hss := Nat.eq_of_beq_eq_true hss
        clear h h1 h2 h4
        obtain ⟨hh, f1, f2, f3, ⟨s2, f4⟩, f5, f6, f7⟩ := St.frz_spec h3
        obtain ⟨vs', a1, a2, a3⟩ := r.mr.rd f4 hb
        obtain ⟨hn1, c0, el, fr, g1, g2⟩ := r.mr.freeze f1 f3 f2 hb
        have hoo : o' = x.sh + o := by
          rcases ho with ho | ho
          · exact ho
          · omega
        subst hoo
        let ρ1 := updL ρ x.B ⟨x.B, 0, c0.size, 0, c0.toList⟩
        have gl : Gl ρ ρ1 := ⟨Ext.updL _ hn1, fun k => rfl⟩
        have hsub : Sub c0.toList (x.sh + o) vs' := by
          intro j u hj
          have := a3 j u hj
          rw [cell_of g1] at this
          simpa using this
        have hlen : vs.length = n * sz := by
          have := a2.length
          rw [← this]; exact a1
        have r1 : WR P ρ1 B0 w0 s1.mem w := ⟨by rw [f6]; exact g2, r.bel, r.hB⟩
        -- the list's own value
        have fin : ∀ (ρ2 : Map) (us : List Value), Gl ρ1 ρ2 → VRs ρ2 us vs' → us.all oneC = true → VR ρ2 (lstV (chunkC (isOneT E e) sz n us)) (.slice (some ⟨x.B, x.sh + o, none⟩) n c') := by
          intro ρ2 us gl2 hus hone
          have hul : us.length = n * sz := by
            have := hus.length
            rw [← this]; exact a1
          obtain ⟨k1, k2, k3⟩ := chunkC_ok (one := isOneT E e) (sz := sz) (n := n) (fun h1 => by rw [← hss]; exact slots_one h1) hul hone
          have hkey : ρ2.ls x.B = some ⟨x.B, 0, c0.size, 0, c0.toList⟩ := gl2.1.ls _ _ (updL_same _ _ _)
          have := VR.lst (ρ := ρ2) (es := chunkC (isOneT E e) sz n us) (cs' := vs') (B := x.B) (o := x.sh + o) (sz := sz) (c' := c') hkey (by rw [k1]; exact hus) hsub k2 (by rw [k3]; exact hle)
          rw [k3] at this
          exact this
        split at h5
        · exact ⟨ρ1, _, s1, h5, fin ρ1 vs (Gl.refl _) (a2.ext gl.1) f5, r1, gl, f7, fun _ => rfl, rfl⟩
        · obtain ⟨ρ2, us, s3, b1, b2, b3, b4, b5, b6⟩ := frzGo_ok ih _ ρ1 vs vs' _ s1 w q h5 (a2.ext gl.1) r1
          exact ⟨ρ2, _, s3, b1, fin ρ2 us b4 b2 (b6 f5), b3, gl.trans b4, b5.trans f7, fun _ => rfl, rfl⟩
    · exact (fail_run h).elim
theorem frzT_ok (t : TypeId) : Frz P B0 w0 (frzT E t) := by
  intro ρ v v' k s w q h hv r
  unfold frzT at h
  split at h
  · exact frzL_ok 20 _ ρ v v' k s w q h hv r
  · split at h
    · exact ⟨ρ, v, s, h, hv, r, Gl.refl ρ, rfl, fun q => q, rfl⟩
    · split at h
      · rename_i vs
        cases hv with
        | @agg _ vs' hvs =>
        obtain ⟨ρ1, vs1, s1, a1, a2, a3, a4, a5, a6⟩ := frzGo_ok (frzL_ok 20) _ ρ vs vs' _ s w q h hvs r
        refine ⟨ρ1, _, s1, a1, .agg a2, a3, a4, a5, fun q => (nomatch q), ?_⟩
        show vs1.length = vs.length
        rw [← hvs.length, ← a2.length]
      · exact (fail_run h).elim
  · exact ⟨ρ, v, s, h, hv, r, Gl.refl ρ, rfl, fun q => q, rfl⟩
theorem frzPs_ok {e : TypeId} : ∀ (ps : List (Nat × Value)) (ρ : Map) (ps' : List (Nat × Value)) (k : List (Nat × Value) → Prog) (s : St) (w : World) (q : Value × St), (frzPs E e ps k).run s = some q → PsR ρ ps ps' → WR P ρ B0 w0 s.mem w →
    ∃ ρ1 ps1 s1, (k ps1).run s1 = some q ∧ PsR ρ1 ps1 ps' ∧ WR P ρ1 B0 w0 s1.mem w ∧ Gl ρ ρ1 ∧ s1.ctr = s.ctr := by
  intro ps
  induction ps with
  | nil => intro ρ ps' k s w q h hp r; exact ⟨ρ, [], s, h, hp, r, Gl.refl ρ, rfl⟩
  | cons p ps ih =>
    intro ρ ps' k s w q h hp r
    cases hp with
    | @cons i v v' _ l' h1 h2 =>
      simp only [frzPs] at h
      obtain ⟨ρ0, v1, s0, b1, b2, b3, b4, b5, _⟩ := frzT_ok e ρ v v' _ s w q h h1 r
      obtain ⟨ρ1, ps1, s1, a1, a2, a3, a4, a5⟩ := ih ρ0 l' _ s0 w q b1 (h2.ext b4.1) b3
      exact ⟨ρ1, _, s1, a1, .cons (b2.ext a4.1) a2, a3, b4.trans a4, a5.trans b5⟩
theorem frzAs_ok {m : Nat} : ∀ (ts : List TypeId) (i : Nat) (ρ : Map) (vs vs' : List Value) (k : List Value → Prog) (s : St) (w : World) (q : Value × St), (frzAs E m i ts vs k).run s = some q → VRs ρ vs vs' → WR P ρ B0 w0 s.mem w →
    ∃ ρ1 vs1 s1, (k vs1).run s1 = some q ∧ VRs ρ1 vs1 vs' ∧ WR P ρ1 B0 w0 s1.mem w ∧ Gl ρ ρ1 ∧ s1.ctr = s.ctr := by
  intro ts
  induction ts with
  | nil => intro i ρ vs vs' k s w q h hv r; exact ⟨ρ, vs, s, h, hv, r, Gl.refl ρ, rfl⟩
  | cons t ts ih =>
    intro i ρ vs vs' k s w q h hv r
    cases hv with
    | nil => exact ⟨ρ, [], s, h, .nil, r, Gl.refl ρ, rfl⟩
    | @cons v v' vs vs' h1 h2 =>
      simp only [frzAs] at h
      split at h
      · obtain ⟨ρ1, vs1, s1, a1, a2, a3, a4, a5⟩ := ih _ ρ vs vs' _ s w q h h2 r
        exact ⟨ρ1, _, s1, a1, .cons (h1.ext a4.1) a2, a3, a4, a5⟩
      · obtain ⟨ρ0, v1, s0, b1, b2, b3, b4, b5, _⟩ := frzT_ok t ρ v v' _ s w q h h1 r
        obtain ⟨ρ1, vs1, s1, a1, a2, a3, a4, a5⟩ := ih _ ρ0 vs vs' _ s0 w q b1 (h2.ext b4.1) b3
        exact ⟨ρ1, _, s1, a1, .cons (b2.ext a4.1) a2, a3, b4.trans a4, a5.trans b5⟩
end
end Go.Ev
