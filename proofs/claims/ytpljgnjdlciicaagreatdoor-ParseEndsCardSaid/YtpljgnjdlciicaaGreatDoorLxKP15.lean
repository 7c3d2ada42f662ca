import Derived.Test.YtpljgnjdlciicaaGreatDoorLxKP14
import Derived.Lib.Builder
import Derived.Laws.BytesString
namespace Go.Ev
open Go Go.RowKit
section
variable {P : Program} {E : Env} (ok : EnvOK P E) {ρ : Map} {B0 : Nat} {w0 w : World}
theorem isU8_ok {t : TypeId} (h : isU8 E t = true) : E.und t = some (.int .u8) := by
  unfold isU8 at h
  split at h
  · rename_i hd; exact hd
  · cases h
theorem foldPush : ∀ (ns : List Int) (r : ByteArray), ns.foldl (fun r n => r.push (UInt8.ofNat n.toNat)) r = mkStr (r.data.toList ++ ns.map fun n => UInt8.ofNat n.toNat) := by
  intro ns
  induction ns with
  | nil => intro r; simp [mkStr]
  | cons n ns ih =>
    intro r
    rw [List.foldl_cons, ih]
    simp [mkStr, ByteArray.push]
theorem flatC_u8 : ∀ {es : List Value}, allU8 es = true → flatC es = es := by
  intro es
  induction es with
  | nil => intro _; rfl
  | cons e es ih =>
    intro h
    simp only [allU8, Bool.and_eq_true] at h
    rw [flatC, ih h.2]
    have hu := h.1
    cases e <;> first | (simp [u8V] at hu; done) | rfl
theorem shape_at {B : Nat} {c : Array Value} {e : TypeId} {fr : Nat × Nat} (h : w.heap[B]? = some (.cells c e fr)) : w.shape? B = some (e, c.size) := by
  simp only [World.shape?, h]
theorem run_mark {B o : Nat} {c : Array Value} {e : TypeId} {fr : Nat × Nat} (h : w.heap[B]? = some (.cells c e fr)) : (markStringish ⟨B, o, none⟩).run P w = .ok () (w.freeze ⟨B, c.size, none⟩ 1) := by
  simp only [markStringish, Sem.run_bind, run_shape, shape_at h, Result.andThen_ok]
  rfl
theorem convA_ok (ok : EnvOK P E) {src dst : TypeId} {x x' v : Value} {s s' : St} (h : (convA E src dst x).run s = some (v, s')) (r : WR P ρ B0 w0 s.mem w) (fr : Fr ρ s.mem s.ctr s'.ctr) (hx : VR ρ x x') :
    SR P ρ B0 w0 s s' v ((Go.convert src dst x').run P w) := by
  unfold convA at h
  obtain ⟨ds, hs, h1⟩ := opt_run h
  obtain ⟨dd, hd, h2⟩ := opt_run h1
  clear h h1
  split at h2
  · cases hx
    obtain ⟨rfl, rfl⟩ := ret_run h2
    simp only [Go.convert, Sem.run_bind, run_und ok hs, run_und ok hd, Result.andThen_ok, Conv.unsafePointer, Sem.run_pure]
    exact SR.pure r rfl rfl .ptrN
  · rename_i tt a
    obtain ⟨n, hn, h3⟩ := opt_run h2
    obtain ⟨hpos, h4⟩ := ck_run h3
    obtain ⟨hh, hhd, h5⟩ := hd_run h4
    obtain ⟨hlt, h6⟩ := gd_run h5
    obtain ⟨rfl, rfl⟩ := ret_run h6
    have hlt : a.off < hh.n := Nat.le_of_ble_eq_true hlt
    have hpos : 0 < n := Nat.le_of_ble_eq_true hpos
    obtain ⟨i, hi, hisz⟩ := size_ok hn
    cases hx with
    | @ptr b o x hxb =>
    obtain ⟨x', c0, lo, hi', e1, row⟩ := r.mr.row _ hh hhd
    rw [hxb] at e1
    obtain rfl := Option.some.inj e1
    have hsh : w.shape? x.B = some (hh.el, c0.size) := by simp only [World.shape?, row.heap]
    have := row.fits
    have := row.N
    rw [Go.Lib.run_to_unsafe (e := hh.el) (cells := c0.size) w ⟨x.B, x.sh + o, none⟩ (und_ok ok hs) (und_ok ok hd) (ok.ty _ _ hi) (by omega) hsh (by simp only at hlt ⊢; omega)]
    exact SR.pure r rfl rfl (.ptr hxb)
  · cases hx
    obtain ⟨rfl, rfl⟩ := ret_run h2
    simp only [Go.convert, Sem.run_bind, run_und ok hs, run_und ok hd, Result.andThen_ok, Conv.unsafePointer, Sem.run_pure]
    exact SR.pure r rfl rfl .ptrN
  · rename_i u a
    obtain ⟨n, hn, h3⟩ := opt_run h2
    obtain ⟨hpos, h4⟩ := ck_run h3
    obtain ⟨hh, hhd, h5⟩ := hd_run h4
    obtain ⟨sz, hsz, h6⟩ := opt_run h5
    obtain ⟨hg, h7⟩ := gd_run h6
    obtain ⟨rfl, rfl⟩ := ret_run h7
    simp only [Bool.and_eq_true] at hg
    obtain ⟨⟨hex, hz⟩, hlies⟩ := hg
    obtain ⟨i, hi, hisz⟩ := size_ok hn
    obtain ⟨i2, hi2, hisz2⟩ := size_ok hsz
    cases hx with
    | @ptr b o x hxb =>
    obtain ⟨x', c0, lo, hi', e1, row⟩ := r.mr.row _ hh hhd
    rw [hxb] at e1
    obtain rfl := Option.some.inj e1
    have hsh : w.shape? x.B = some (hh.el, c0.size) := by simp only [World.shape?, row.heap]
    have h1 := row.N
    have h2' := row.ex hex
    have h3' := row.z hz
    have hcs : c0.size = hh.n := by omega
    have hce : P.cellsOf hh.el = sz := by simp [Program.cellsOf, ok.ty _ _ hi2, hisz2]
    rw [Go.Lib.run_from_unsafe (e := hh.el) (cells := c0.size) w ⟨x.B, x.sh + o, none⟩ (und_ok ok hs) (und_ok ok hd) (ok.ty _ _ hi) hsh (by
      rw [hcs, hce]
      simp only [h3', Nat.zero_add]
      rw [← ok.prog]
      exact hlies)]
    exact SR.pure r rfl rfl (.ptr hxb)
  · cases hx
    obtain ⟨rfl, rfl⟩ := ret_run h2
    simp only [Go.convert, Sem.run_bind, run_und ok hs, run_und ok hd, Result.andThen_ok, Conv.intToInt, Sem.run_pure]
    exact SR.pure r rfl rfl (.int _ _)
  · cases hx
    obtain ⟨rfl, rfl⟩ := ret_run h2
    simp only [Go.convert, Sem.run_bind, run_und ok hs, run_und ok hd, Result.andThen_ok, Sem.run_pure]
    exact SR.pure r rfl rfl (.string _)
  · rename_i e b
    cases hx
    obtain ⟨hu, h3⟩ := ck_run h2
    simp only [Bool.and_eq_true] at hu
    obtain ⟨hu, hone⟩ := hu
    have hu := isU8_ok hu
    obtain ⟨i, hi, hisz⟩ : ∃ i, E.ty.get e = some i ∧ i.size = 1 := by
      unfold isOne at hone
      split at hone
      · rename_i n hn
        obtain ⟨i, a, b⟩ := size_ok hn
        exact ⟨i, a, b.trans (Nat.eq_of_beq_eq_true hone)⟩
      · cases hone
    have h4 := new_run h3
    obtain ⟨rfl, rfl⟩ := ret_run h4
    simp only [List.length_map] at fr
    generalize hj : w.tape w.drawn (.appendCap b.size 0 e) % (2 ^ 63 - b.size) = j
    have hc : (choose (.appendCap b.size 0 e)).run P w = .ok (b.size + j) w.drew := by rw [← hj]; rfl
    let cs : List Value := b.data.toList.map (fun c => .int .u8 c.toNat)
    let row : List Value := cs ++ List.replicate j (.int .u8 0)
    have hlen : cs.length = b.size := by simp only [cs, List.length_map]; rfl
    have hrow : (b.data.map (fun c => (.int .u8 c.toNat : Value)) ++ Array.replicate (b.size + j - b.size) (.int .u8 0)) = ⟨row⟩ := by
      apply Array.ext'
      simp only [Array.toList_append, Array.toList_map, Array.toList_replicate, Nat.add_sub_cancel_left]
      rfl
    let w1 : World := w.drew.alloc (.cells ⟨row⟩ e)
    have hw1 : w1.heap[w.heap.size]? = some (.cells ⟨row⟩ e (0, 0)) := push_new (w := w.drew) rfl
    have hrl : (⟨row⟩ : Array Value).size = b.size + j := by simp [row, hlen]
    obtain ⟨f1, f2, f3, f4, f5, f6⟩ := freeze_at w1 w.heap.size 1 (b.size + j) ⟨row⟩ e 0 0 hw1 (by simp)
    have hrun : (Go.convert src dst (.string b)).run P w = .ok (.slice (some ⟨w.heap.size, 0, none⟩) b.size (b.size + j)) (w1.freeze ⟨w.heap.size, b.size + j, none⟩ 1) := by
      have hn : (newRow e ⟨row⟩).run P w.drew = .ok ⟨w.heap.size, 0, none⟩ w1 := rfl
      simp only [Go.convert, Sem.run_bind, run_und ok hs, run_und ok hd, run_und ok hu, Result.andThen_ok, Conv.stringToBytes, hc, hrow, hn, run_mark hw1, hrl, Sem.run_pure]
    rw [hrun]
    have hheap : (w1.freeze ⟨w.heap.size, b.size + j, none⟩ 1).heap = w.heap.push (.cells ⟨row⟩ e (b.size + j, b.size + j + 1)) := by
      apply Array.ext_getElem?
      intro q
      by_cases hq : q = w.heap.size
      · subst hq
        rw [f1, Array.getElem?_push, if_pos rfl]
        rfl
      · rw [f2 q hq]
        show (w.heap.push _)[q]? = _
        rw [Array.getElem?_push, Array.getElem?_push, if_neg hq, if_neg hq]
    have hv : VRs ρ cs cs := VRs.map _ _ _ (fun c _ => .int _ _)
    have hml : (b.data.toList.map (fun c => (.int .u8 c.toNat : Value))).length = b.size := hlen
    have fr' : Fr ρ s.mem s.ctr (s.ctr + cs.length + 1) := by
      rw [hlen]; exact fr
    have rm := r.drew.mr.new (k := s.ctr) (n := cs.length) (vs := cs) (vs' := cs) (el := e) (ex := false) (z := true) (sy := true) (c := ⟨row⟩) (lo := b.size + j) (hi := b.size + j + 1) (sz := 1)
      (w1 := w1.freeze ⟨w.heap.size, b.size + j, none⟩ 1) fr' (Nat.le_refl _) hv hheap r.size
      (fun q u e => by
        have hq : q < cs.length := (List.getElem?_eq_some_iff.1 e).1
        simp only [List.getElem?_toArray, row]
        rw [List.getElem?_append_left hq]; exact e)
      (by rw [hrl, hlen]; omega) (fun h => by cases h) ⟨i, ok.ty _ _ hi, hisz⟩ (by omega) (fun q h1 h2 => by rw [hrl]; omega) (fun h => by cases h)
    rw [hrl] at rm
    refine ⟨upd ρ s.ctr ⟨w.heap.size, 0, b.size + j, 1, []⟩, _, _, ⟨Ext.upd _ (fr'.map s.ctr (Nat.le_refl _) (by omega)), fun k hk => upd_ne (by simp only at hk; omega)⟩, by simp only; omega, rfl, ?_, rm, ?_, r.hB⟩
    · refine VR.sl (x := ⟨w.heap.size, 0, b.size + j, 1, []⟩) (upd_same _ _ _) (.inl rfl) (by rw [capOf_lo]; exact Nat.le_add_right b.size j) (fun h => by rw [capOf_ex] at h; cases h) (fun _ => .inr ?_) (Nat.le_add_right _ _)
      simp
    · refine r.bel.trans ⟨f4, f5, f6, ?_, fun k hk => ?_⟩
      · rw [hheap, Array.size_push]; omega
      · have := r.size
        rw [hheap, Array.getElem?_push, if_neg (by omega)]
  · rename_i e0 e a len c
    obtain ⟨hg, h3⟩ := ck_run h2
    simp only [Bool.and_eq_true] at hg
    obtain ⟨hsd, hu⟩ := hg
    obtain rfl := Nat.eq_of_beq_eq_true hsd
    have hu := isU8_ok hu
    obtain ⟨hh, hhd, h4⟩ := hd_run h3
    obtain ⟨hck, h5⟩ := gd_run h4
    obtain ⟨hfz, hmv, hro, hz⟩ := of_decide_eq_true hck
    obtain ⟨_, _, h6⟩ := setHd_run h5
    obtain ⟨rfl, rfl⟩ := ret_run h6
    cases hx with
    | @sl b o o' _ _ c' xb hxb ho hl0 hex hin hle =>
    obtain ⟨xb', c0, lo, hi, e1, row⟩ := r.mr.row b hh hhd
    rw [hxb] at e1
    obtain rfl := Option.some.inj e1
    have hsh := row.z hz
    obtain ⟨f1, f2, f3, f4, f5, f6⟩ := freeze_at w xb.B 1 c0.size c0 hh.el lo hi row.heap (by simp)
    have hrun : (Go.convert src src (.slice (some ⟨xb.B, o', none⟩) len c')).run P w = .ok (.slice (some ⟨xb.B, o', none⟩) len c') (w.freeze ⟨xb.B, c0.size, none⟩ 1) := by
      have hb : (src == src) = true := by simp
      simp only [Go.convert, Sem.run_bind, run_und ok hd, run_und ok hu, Result.andThen_ok, hb, run_mark row.heap, Sem.run_pure]
    rw [hrun]
    have hfz0 := row.fz hmv
    have hcN := row.N
    have hle0 := row.le
    have rm := r.mr.rehdr (h' := ⟨hh.n, hh.el, hh.ro, hh.ex, hh.z, hh.fz, true, hh.mv, hh.olds⟩) hhd hmv hxb rfl hmv rfl rfl row.heap (w1 := w.freeze ⟨xb.B, c0.size, none⟩ 1)
      (lo := (if lo == hi then (c0.size, c0.size + 1) else (min lo c0.size, max hi (c0.size + 1))).1) (hi := (if lo == hi then (c0.size, c0.size + 1) else (min lo c0.size, max hi (c0.size + 1))).2)
      { heap := f1
        N := row.N
        sz := row.sz
        fits := row.fits
        ex := row.ex
        z := row.z
        own := row.own
        le := by split <;> simp only <;> omega
        fz := fun _ q q1 q2 => by
          right
          split at q1
          · rename_i hlh
            simp only at q1; omega
          · rename_i hlh
            have hlh : lo ≠ hi := fun e => hlh (by simp [e])
            simp only at q1
            rcases hfz0 lo (Nat.le_refl _) (by omega) with q3 | q3 <;> omega
        sy := fun _ h => by cases h
        fn := row.fn } rfl f2 f3
    refine ⟨ρ, _, _, Gr.refl _ _ _, Nat.le_refl _, rfl, .sl hxb ho hl0 hex hin hle, rm, r.bel.trans ⟨f4, f5, f6, by rw [f3]; exact Nat.le_refl _, fun k hk => f2 k ?_⟩, r.hB⟩
    have := row.own hro
    omega
  · rename_i e a len c
    obtain ⟨hu, h3⟩ := ck_run h2
    have hu := isU8_ok hu
    cases a with
    | none =>
      cases hx
      obtain ⟨rfl, rfl⟩ := ret_run h3
      have : (Go.convert src dst (.slice none 0 0)).run P w = .ok (.string (mkStr [])) w := by
        simp only [Go.convert, Sem.run_bind, run_und ok hs, run_und ok hd, run_und ok hu, Result.andThen_ok, Conv.bytesToString]
        rfl
      rw [this]
      exact SR.pure r rfl rfl (.string _)
    | some a =>
      cases hx with
      | @sl b o o' _ _ c' xb hxb ho hl0 hex hin hle =>
      obtain ⟨vs, s1, hr, h4⟩ := rd_run h3
      obtain ⟨hbs, h5⟩ := gd_run h4
      obtain ⟨rfl, rfl⟩ := ret_run h5
      obtain ⟨hm, hc, _, _, _⟩ := St.rd_spec hr
      obtain ⟨vs', a1, a2, a3⟩ := r.mr.rd hr hxb
      obtain ⟨ns, rfl, hbv⟩ := bytesV_push hbs a2
      have hload : (loadCells ⟨xb.B, o', none⟩ len).run P w = .ok (ns.map (Value.int .u8)).toArray w := by
        rcases ho with ho | ho
        · rw [ho]; exact run_loadRow a1 a3
        · have h0 : len = 0 := by omega
          subst h0
          have : ns = [] := List.eq_nil_of_length_eq_zero (by simpa using a1)
          subst this
          rfl
      rw [run_convert_bytes_string w src dst e _ len c' (und_ok ok hs) (und_ok ok hu) (und_ok ok hd), run_bytesToString w _ len c' ns hload, foldPush, hbv]
      exact SR.pure r hm hc (.string _)
  · rename_i e n3 n4
    obtain ⟨hu, h3⟩ := ck_run h2
    have hu := isU8_ok hu
    split at h3
    · rename_i hL
      obtain ⟨hbs, h5⟩ := gd_run h3
      obtain ⟨rfl, rfl⟩ := ret_run h5
      obtain ⟨a, c', rfl, hcase, hle, _⟩ := hx.isL_inv hL
      obtain ⟨ns, hnl, hnone, hload, hbv⟩ : ∃ ns : List Int, ns.length = (elems x).length ∧ (a = none → ns = []) ∧ (∀ ad, a = some ad → (loadCells ad (elems x).length).run P w = .ok (ns.map (Value.int .u8)).toArray w) ∧ bytesV (elems x) = ns.map fun n => UInt8.ofNat n.toNat := by
        rcases hcase with ⟨he, _⟩ | ⟨B, o, sz, cs', z, rfl, hz, hv, hs, ha⟩
        · rw [he]
          exact ⟨[], rfl, fun _ => rfl, fun ad _ => rfl, rfl⟩
        · have hfl : flatC (elems x) = elems x := flatC_u8 hbs
          rw [hfl] at hv
          obtain ⟨ns, rfl, e⟩ := bytesV_push hbs hv
          have hl := hv.length
          simp only [List.length_map] at hl
          refine ⟨ns, hl, fun q => (nomatch q), fun ad q => ?_, e⟩
          obtain rfl := Option.some.inj q
          exact run_loadRow (by simpa using hl) fun j v e => r.mr.frzCell hz (hs j v e)
      cases a with
      | none =>
        have := hnone rfl
        subst this
        have h0 : (elems x).length = 0 := by simpa using hnl.symm
        rw [h0] at *
        simp only [Go.convert, Sem.run_bind, run_und ok hs, run_und ok hd, run_und ok hu, Result.andThen_ok, Conv.bytesToString, hbv]
        exact SR.pure r rfl rfl (.string _)
      | some ad =>
        rw [run_convert_bytes_string w src dst e ad _ c' (und_ok ok hs) (und_ok ok hu) (und_ok ok hd), run_bytesToString w _ _ c' ns (hload ad rfl), foldPush, hbv]
        exact SR.pure r rfl rfl (.string _)
    · exact (fail_run h3).elim
  · exact (fail_run h2).elim
theorem foldSet_get (o : Nat) : ∀ (l : List Value) (k : Nat) (cs : Array Value), o + k + l.length ≤ cs.size →
    ((l.zipIdx k).foldl (fun cs (c, j) => cs.setIfInBounds (o + j) c) cs).size = cs.size ∧
    ∀ i, ((l.zipIdx k).foldl (fun cs (c, j) => cs.setIfInBounds (o + j) c) cs)[i]? = if o + k ≤ i ∧ i < o + k + l.length then l[i - (o + k)]? else cs[i]? := by
  intro l
  induction l with
  | nil => intro k cs _; exact ⟨rfl, fun i => by rw [if_neg (by simp)]; rfl⟩
  | cons x l ih =>
    intro k cs h
    simp only [List.length_cons] at h
    obtain ⟨h1, h2⟩ := ih (k + 1) (cs.setIfInBounds (o + k) x) (by simp; omega)
    rw [List.zipIdx_cons, List.foldl_cons]
    refine ⟨by rw [h1]; simp, fun i => ?_⟩
    rw [h2]
    by_cases hi : o + (k + 1) ≤ i ∧ i < o + (k + 1) + l.length
    · rw [if_pos hi, if_pos (by simp only [List.length_cons]; omega), show i - (o + k) = (i - (o + (k + 1))) + 1 from by omega]
      rfl
    · rw [if_neg hi]
      by_cases he : i = o + k
      · subst he
        rw [if_pos (by simp), Array.getElem?_setIfInBounds_self, if_pos (by omega)]
        simp
      · rw [if_neg (by simp only [List.length_cons]; omega), Array.getElem?_setIfInBounds_ne (fun e => he e.symm)]
theorem fill_row (cs : List Value) (o : Nat) (v : Value) (h : o + (cellsL v).length ≤ cs.length) :
    v.cells.zipIdx.foldl (fun cs (c, j) => cs.setIfInBounds (o + j) c) (⟨cs⟩ : Array Value) = ⟨cs.take o ++ cellsL v ++ cs.drop (o + (cellsL v).length)⟩ := by
  have e : v.cells.zipIdx.foldl (fun cs (c, j) => cs.setIfInBounds (o + j) c) (⟨cs⟩ : Array Value) = ((cellsL v).zipIdx 0).foldl (fun cs (c, j) => cs.setIfInBounds (o + j) c) (⟨cs⟩ : Array Value) := by
    rw [← Array.foldl_toList, Array.toList_zipIdx]
    rfl
  rw [e]
  obtain ⟨h1, h2⟩ := foldSet_get o (cellsL v) 0 ⟨cs⟩ (by simpa using h)
  apply Array.ext_getElem?
  intro i
  rw [h2]
  simp only [Nat.add_zero, List.getElem?_toArray]
  by_cases hi : o ≤ i ∧ i < o + (cellsL v).length
  · rw [if_pos hi, List.getElem?_append_left (by simp; omega), List.getElem?_append_right (by simp; omega)]
    congr 1
    simp
    omega
  · rw [if_neg hi]
    by_cases ho : i < o
    · rw [List.append_assoc, List.getElem?_append_left (by simp; omega), List.getElem?_take, if_pos ho]
    · rw [List.getElem?_append_right (by simp; omega), List.getElem?_drop]
      congr 1
      simp
      omega
inductive PsR (ρ : Map) : List (Nat × Value) → List (Nat × Value) → Prop
  | nil : PsR ρ [] []
  | cons {i : Nat} {v v' : Value} {l l' : List (Nat × Value)} : VR ρ v v' → PsR ρ l l' → PsR ρ ((i, v) :: l) ((i, v') :: l')
theorem PsR.ext {ρ ρ' : Map} (h : Ext ρ ρ') {l l' : List (Nat × Value)} (r : PsR ρ l l') : PsR ρ' l l' := by
  induction r with
  | nil => exact .nil
  | cons a _ ih => exact .cons (a.ext h) ih
theorem fillA_ok {place place' : Nat → Option (Nat × Nat)} (hp : ∀ i q, place i = some q → place' i = some q) : ∀ {ps ps' : List (Nat × Value)} {cs cs' r : List Value}, fillA place cs ps = some r → PsR ρ ps ps' → VRs ρ cs cs' →
    ∃ r', Instr.fill place' ⟨cs'⟩ ps' = some ⟨r'⟩ ∧ VRs ρ r r' ∧ r.length = cs.length := by
  intro ps
  induction ps with
  | nil =>
    intro ps' cs cs' r h hps hcs
    cases hps
    simp only [fillA, Option.some.injEq] at h
    subst h
    exact ⟨cs', rfl, hcs, rfl⟩
  | cons p ps ih =>
    intro ps' cs cs' r h hps hcs
    cases hps with
    | @cons i v v' _ l' hv hl =>
    simp only [fillA] at h
    split at h
    · rename_i o n hpl
      split at h
      · rename_i hg
        simp only [Bool.and_eq_true] at hg
        obtain ⟨g1, g2⟩ := hg
        have g1 := Nat.eq_of_beq_eq_true g1
        have g2 := Nat.le_of_ble_eq_true g2
        simp only [Nat.add_eq] at g2 h
        subst g1
        have hvc := hv.cells
        have hvl := hvc.length
        have hcl := hcs.length
        have hcs2 : VRs ρ (cs.take o ++ cellsL v ++ cs.drop (o + (cellsL v).length)) (cs'.take o ++ cellsL v' ++ cs'.drop (o + (cellsL v').length)) := by
          rw [hvl]
          exact ((hcs.take o).append hvc).append (hcs.drop _)
        obtain ⟨r', e1, e2, e3⟩ := ih h hl hcs2
        refine ⟨r', ?_, e2, by rw [e3]; simp; omega⟩
        have hsz : v'.cells.size = (cellsL v).length := by rw [← hvl]; rfl
        simp only [Instr.fill, hp _ _ hpl]
        rw [if_neg (by simp only [hsz, List.size_toArray, Bool.or_eq_true, decide_eq_true_eq, not_or]; omega), fill_row cs' o v' (by omega)]
        exact e1
      · cases h
    · cases h
end
end Go.Ev
