/- Soundness, part 10: the other builtins, slices. -/
import Derived.Test.YtpljgnjdlciicaaGreatDoorLyKQ10
import Derived.Lib.UnsafeStr
namespace Go.Ev
open Go Go.RowKit
section
variable {P : Program} {E : Env} (ok : EnvOK P E) {ρ : Map} {B0 : Nat} {w0 w : World}

theorem copyA_ok (ok : EnvOK P E) {ts : List TypeId} {args args' : List Value} {ty : TypeId} {s s' : St} {v : Value} (h : (copyA E ts args).run s = some (v, s')) (r : WR P ρ B0 w0 s.mem w)
    (ha : VRs ρ args args') : SR P ρ B0 w0 s s' v ((Builtin.copy_ ⟨ts⟩ ty ⟨args'⟩).run P w) := by
  unfold copyA at h
  split at h
  · rename_i t ts base len c x
    obtain ⟨b', x', rfl, hb, hx⟩ := ha.two
    obtain ⟨e, he, h1⟩ := opt_run h
    obtain ⟨sz, hsz, h2⟩ := opt_run h1
    obtain ⟨m, hm, h3⟩ := opt_run h2
    clear h h1 h2
    have ht := elemOfSlice_ok he
    obtain ⟨cs, s1, h4, hm1, hc1, cs', a1, a2, a3⟩ := firstA_ok (w := w) h3 hm (Nat.min_le_left m len) r.mr hx
    have hrun : ∀ bb c, (Builtin.copy_ ⟨t :: ts⟩ ty ⟨[.slice bb len c, x']⟩).run P w = (match bb with | some a => (do storeCells a cs'; pure (goInt ((min m len : Nat) : Int))) | none => pure (goInt ((min m len : Nat) : Int)) : Sem Value).run P w := by
      intro bb c
      simp only [Builtin.copy_, List.getElem?_toArray, List.getElem?_cons_zero, List.getElem?_cons_succ, Sem.run_bind, run_und ok ht, Result.andThen_ok, lenA_ok hm hx, run_size ok hsz]
      rw [show Nat.min m len = min m len from rfl, a3]
      cases bb <;> rfl
    have h0 : min m len = 0 → cs' = [] := fun q => List.eq_nil_of_length_eq_zero (by rw [a2, q]; simp)
    cases base with
    | none =>
      cases hb
      obtain ⟨rfl, rfl⟩ := ret_run h4
      rw [hrun]
      dsimp only
      rw [show (((min m 0 : Nat) : Int)) = min (m : Int) ((0 : Nat) : Int) from by omega]
      exact SR.pure r hm1 hc1 (.int _ _)
    | some a =>
      cases hb with
      | @sl b o o' _ _ c' xb hxb ho hlo hex hin hle =>
      rw [hrun]
      dsimp only at h4
      cases hmin : min m len with
      | zero =>
        rw [hmin] at h4
        obtain ⟨rfl, rfl⟩ := ret_run h4
        obtain rfl := h0 hmin
        simp only [Sem.run_bind, storeCells, Sem.run_pure, Result.andThen_ok]
        exact SR.pure r hm1 hc1 (.int _ _)
      | succ n =>
        rw [hmin] at h4
        obtain ⟨s2, h9, hret⟩ := wr_run h4
        obtain ⟨rfl, rfl⟩ := ret_run hret
        rcases ho with ho | ho
        · subst ho
          rw [← hm1] at r
          obtain ⟨w', e1, e2, e3, e4⟩ := r.mr.wr h9 a1 hxb
          simp only [Sem.run_bind, e1, Result.andThen_ok, Sem.run_pure]
          exact ⟨ρ, _, w', Gr.refl _ _ _, by omega, rfl, .int _ _, e2, r.bel.trans e3, r.hB⟩
        · exact absurd ho (by omega)
  · exact (fail_run h).elim
theorem lenOp_ok (ok : EnvOK P E) {ts : List TypeId} {args args' : List Value} {ty : TypeId} {s s' : St} {v : Value} (h : (lenOp E ts args).run s = some (v, s')) (r : WR P ρ B0 w0 s.mem w)
    (ha : VRs ρ args args') : SR P ρ B0 w0 s s' v ((Builtin.len_ ⟨ts⟩ ty ⟨args'⟩).run P w) := by
  unfold lenOp at h
  split at h
  · rename_i t ts x
    cases ha with
    | @cons _ x' _ _ hx hnil =>
    cases hnil
    obtain ⟨d, hd, h1⟩ := opt_run h
    split at h1
    · obtain ⟨rfl, rfl⟩ := ret_run h1
      cases hx
      simp only [Builtin.len_, List.getElem?_toArray, List.getElem?_cons_zero, Sem.run_bind, run_und ok hd, Result.andThen_ok, Sem.run_pure]
      exact SR.pure r rfl rfl (.int _ _)
    · obtain ⟨rfl, rfl⟩ := ret_run h1
      simp only [Builtin.len_, List.getElem?_toArray, List.getElem?_cons_zero, Sem.run_bind, run_und ok hd, Result.andThen_ok, Sem.run_pure]
      exact SR.pure r rfl rfl (.int _ _)
    · obtain ⟨rfl, rfl⟩ := ret_run h1
      cases hx <;>
      · simp only [Builtin.len_, List.getElem?_toArray, List.getElem?_cons_zero, Sem.run_bind, run_und ok hd, Result.andThen_ok, Sem.run_pure]
        exact SR.pure r rfl rfl (.int _ _)
    · obtain ⟨rfl, rfl⟩ := ret_run h1
      cases hx
      simp only [Builtin.len_, List.getElem?_toArray, List.getElem?_cons_zero, Sem.run_bind, run_und ok hd, Result.andThen_ok, Sem.run_pure]
      exact SR.pure r rfl rfl (.int _ _)
    · obtain ⟨y, hy, rfl⟩ := hx.mp_inv
      obtain ⟨o, ho, n1, n2, h5⟩ := obj_run h1
      obtain ⟨⟨es, c⟩, hec, h6⟩ := opt_run h5
      obtain rfl := entsOf_ok hec
      obtain ⟨ob, g1, g2, g3, g0⟩ := r.obj ho n1 n2 hy
      obtain ⟨es', rfl, hes⟩ := g2.mp_inv
      obtain ⟨rfl, rfl⟩ := ret_run h6
      simp only [Builtin.len_, List.getElem?_toArray, List.getElem?_cons_zero, Sem.run_bind, run_und ok hd, Result.andThen_ok, g1, Sem.run_pure, List.size_toArray, hes.length]
      exact SR.pure r rfl rfl (.int _ _)
    · split at h1
      · rename_i hL
        obtain ⟨rfl, rfl⟩ := ret_run h1
        obtain ⟨a, c', rfl, _⟩ := hx.isL_inv hL
        simp only [Builtin.len_, List.getElem?_toArray, List.getElem?_cons_zero, Sem.run_bind, run_und ok hd, Result.andThen_ok, Sem.run_pure]
        exact SR.pure r rfl rfl (.int _ _)
      · exact (fail_run h1).elim
    · exact (fail_run h1).elim
  · exact (fail_run h).elim
theorem capOp_ok (ok : EnvOK P E) {ts : List TypeId} {args args' : List Value} {ty : TypeId} {s s' : St} {v : Value} (h : (capOp E ts args).run s = some (v, s')) (r : WR P ρ B0 w0 s.mem w)
    (ha : VRs ρ args args') : SR P ρ B0 w0 s s' v ((Builtin.cap_ ⟨ts⟩ ty ⟨args'⟩).run P w) := by
  unfold capOp at h
  split at h
  · rename_i t ts x
    cases ha with
    | @cons _ x' _ _ hx hnil =>
    cases hnil
    obtain ⟨d, hd, h1⟩ := opt_run h
    split at h1
    · obtain ⟨rfl, rfl⟩ := ret_run h1
      cases hx
      simp only [Builtin.cap_, List.getElem?_toArray, List.getElem?_cons_zero, Sem.run_bind, run_und ok hd, Result.andThen_ok, Sem.run_pure]
      exact SR.pure r rfl rfl (.int _ _)
    · obtain ⟨hc, h2⟩ := gd_run h1
      obtain ⟨rfl, rfl⟩ := ret_run h2
      cases hx with
      | sl hb ho h1 h2 h3 hle =>
      obtain rfl := h2 hc
      simp only [Builtin.cap_, List.getElem?_toArray, List.getElem?_cons_zero, Sem.run_bind, run_und ok hd, Result.andThen_ok, Sem.run_pure]
      exact SR.pure r rfl rfl (.int _ _)
    · obtain ⟨rfl, rfl⟩ := ret_run h1
      simp only [Builtin.cap_, List.getElem?_toArray, List.getElem?_cons_zero, Sem.run_bind, run_und ok hd, Result.andThen_ok, Sem.run_pure]
      exact SR.pure r rfl rfl (.int _ _)
    · exact (fail_run h1).elim
  · exact (fail_run h).elim
theorem clearOp_ok (ok : EnvOK P E) {ts : List TypeId} {args args' : List Value} {ty : TypeId} {s s' : St} {v : Value} (h : (clearOp E ts args).run s = some (v, s')) (r : WR P ρ B0 w0 s.mem w)
    (ha : VRs ρ args args') : SR P ρ B0 w0 s s' v ((Builtin.clear_ ⟨ts⟩ ty ⟨args'⟩).run P w) := by
  unfold clearOp at h
  split at h
  · rename_i t ts a n c
    cases ha with
    | @cons _ x' _ _ hx hnil =>
    cases hnil
    obtain ⟨e, he, h1⟩ := opt_run h
    obtain ⟨z, hz, h2⟩ := opt_run h1
    have ht := elemOfSlice_ok he
    split at h2
    · obtain ⟨rfl, rfl⟩ := ret_run h2
      cases hx
      simp only [Builtin.clear_, List.getElem?_toArray, List.getElem?_cons_zero, Sem.run_bind, run_und ok ht, Result.andThen_ok, Sem.run_pure]
      exact SR.pure r rfl rfl (U_VR ρ)
    · rename_i a n
      cases hx with
      | @sl b o o' _ _ c' xb hxb ho hlo hex hin hle =>
      obtain ⟨s2, h9, hret⟩ := wr_run h2
      obtain ⟨rfl, rfl⟩ := ret_run hret
      simp only at h9
      cases n with
      | zero =>
        obtain ⟨w', e1, e2, e3, e4⟩ := r.mr.wr h9 (VRs.nil) hxb
        simp only [storeCells, Sem.run_pure] at e1
        obtain rfl : w = w' := by injection e1
        simp only [Builtin.clear_, List.getElem?_toArray, List.getElem?_cons_zero, Sem.run_bind, run_und ok ht, Result.andThen_ok, Sem.run_pure]
        exact ⟨ρ, _, w, Gr.refl _ _ _, by omega, rfl, U_VR ρ, e2, r.bel, r.hB⟩
      | succ n =>
        rcases ho with ho | ho
        · subst ho
          obtain ⟨w', e1, e2, e3, e4⟩ := r.mr.wr h9 ((zero_lit ok hz (ρ := ρ)).cells.rep (n + 1)) hxb
          simp only [Builtin.clear_, List.getElem?_toArray, List.getElem?_cons_zero, Sem.run_bind, run_und ok ht, Result.andThen_ok, run_zero ok hz, zeroCells_eq, Sem.run_pure]
          rw [show rep z.cells.toList (n + 1) = rep (cellsL z) (n + 1) from rfl, e1]
          exact ⟨ρ, _, w', Gr.refl _ _ _, by omega, rfl, U_VR ρ, e2, r.bel.trans e3, r.hB⟩
        · exact absurd ho (by omega)
    · exact (fail_run h2).elim
  · exact (fail_run h).elim
theorem maxMin_ok {mx : Bool} : ∀ {l l' : List Value} {x x' v : Value}, maxMin mx x l = some v → VR ρ x x' → VRs ρ l l' →
    ∃ v', (l'.foldlM (if mx then Builtin.max2 else Builtin.min2) x').run P w = .ok v' w ∧ VR ρ v v' := by
  intro l
  induction l with
  | nil =>
    intro l' x x' v h hx hl
    cases hl
    cases x <;> (simp only [maxMin, Option.some.injEq] at h; subst h; exact ⟨x', rfl, hx⟩)
  | cons y l ih =>
    intro l' x x' v h hx hl
    cases hl with
    | cons hy hl =>
    cases x <;> first | (simp [maxMin] at h; done) | skip
    rename_i k a
    cases y <;> first | (simp [maxMin] at h; done) | skip
    rename_i k' b
    cases hx; cases hy
    simp only [maxMin] at h
    split at h
    · rename_i hk
      subst hk
      obtain ⟨v', e1, e2⟩ := ih h (.int k _) hl
      refine ⟨v', ?_, e2⟩
      rw [List.foldlM_cons, Sem.run_bind]
      cases mx
      · simp only [Bool.false_eq_true, if_false, Builtin.min2, Sem.run_pure, Result.andThen_ok] at e1 ⊢
        exact e1
      · simp only [if_true, Builtin.max2, Sem.run_pure, Result.andThen_ok] at e1 ⊢
        exact e1
    · cases h
theorem sliceDataOp_ok {args args' : List Value} {ts : List TypeId} {ty : TypeId} {s s' : St} {v : Value} (h : (match args with
    | [.slice none _ _] => .ret (.pointer none)
    | [.slice (some a) _ c] => gd (Nat.blt 0 (capLo c)) (.ret (.pointer (some a)))
    | _ => .fail : Prog).run s = some (v, s')) (r : WR P ρ B0 w0 s.mem w) (ha : VRs ρ args args') : SR P ρ B0 w0 s s' v ((Builtin.unsafeSliceData_ ⟨ts⟩ ty ⟨args'⟩).run P w) := by
  split at h
  · cases ha with
    | cons hx hnil =>
    cases hnil
    cases hx
    obtain ⟨rfl, rfl⟩ := ret_run h
    exact SR.pure r rfl rfl .ptrN
  · rename_i a n c
    cases ha with
    | cons hx hnil =>
    cases hnil
    obtain ⟨hc, h⟩ := gd_run h
    obtain ⟨rfl, rfl⟩ := ret_run h
    have hc := Nat.le_of_ble_eq_true hc
    cases hx with
    | @sl b o o' _ _ c' x hb ho hlo hex hin hle =>
    have hc0 : c' ≠ 0 := by omega
    rcases ho with ho | ho
    · subst ho
      have : (Builtin.unsafeSliceData_ ⟨ts⟩ ty ⟨[.slice (some ⟨x.B, x.sh + o, none⟩) n c']⟩).run P w = .ok (.pointer (some ⟨x.B, x.sh + o, none⟩)) w := by
        have hdef : Builtin.unsafeSliceData_ ⟨ts⟩ ty ⟨[.slice (some ⟨x.B, x.sh + o, none⟩) n c']⟩ = (do
          if c' ≠ 0 then pure (.pointer (some ⟨x.B, x.sh + o, none⟩))
          else if (← viewAt x.B).isSome then pure (.pointer (some ⟨x.B, x.sh + o, none⟩))
          else pure (.pointer (some ⟨← newObj (.view ⟨x.B, x.sh + o, none⟩ (← elemOf ty)), 0, none⟩)) : Sem Value) := rfl
        rw [hdef, if_pos hc0]; rfl
      rw [this]
      exact SR.pure r rfl rfl (.ptr hb)
    · exact absurd ho hc0
  · exact (fail_run h).elim
theorem freeze_at (w : World) (B n k : Nat) (c : Array Value) (e : TypeId) (lo hi : Nat) (h : w.heap[B]? = some (.cells c e (lo, hi))) (hn : n ≠ 0) :
    (w.freeze ⟨B, k, none⟩ n).heap[B]? = some (.cells c e (if lo == hi then (k, k + n) else (min lo k, max hi (k + n)))) ∧ (∀ i, i ≠ B → (w.freeze ⟨B, k, none⟩ n).heap[i]? = w.heap[i]?) ∧
    (w.freeze ⟨B, k, none⟩ n).heap.size = w.heap.size ∧ (w.freeze ⟨B, k, none⟩ n).os = w.os ∧ (w.freeze ⟨B, k, none⟩ n).tape = w.tape ∧ (w.freeze ⟨B, k, none⟩ n).output = w.output := by
  unfold World.freeze
  rw [if_neg hn]
  refine ⟨?_, fun i hi => ?_, ?_, rfl, rfl, rfl⟩
  · simp only [Array.getElem?_modify, if_true, h, Option.map_some]
  · simp only [Array.getElem?_modify, if_neg (fun e : B = i => hi e.symm)]
  · simp
theorem bytesV_push {vs vs' : List Value} (h : allU8 vs = true) (hv : VRs ρ vs vs') : ∃ ns : List Int, vs' = ns.map (Value.int .u8) ∧ bytesV vs = ns.map fun n => UInt8.ofNat n.toNat := by
  induction vs generalizing vs' with
  | nil => cases hv; exact ⟨[], rfl, rfl⟩
  | cons v vs ih =>
    cases hv with
    | cons h1 h2 =>
    simp only [allU8, Bool.and_eq_true] at h
    obtain ⟨ns, rfl, e⟩ := ih h.2 h2
    have hu := h.1
    cases v <;> first | (simp [u8V] at hu; done) | skip
    rename_i k n
    cases k <;> first | (simp [u8V] at hu; done) | skip
    cases h1
    exact ⟨n :: ns, rfl, by simp only [bytesV, intOf, e, List.map_cons]⟩
theorem run_loadBytesL : ∀ (ns : List Int) (B o : Nat) (acc : ByteArray) (w : World), (∀ j v, (ns.map (Value.int .u8))[j]? = some v → w.cell? ⟨B, o + j, none⟩ = some v) →
    (loadBytes ⟨B, o, none⟩ acc ns.length).run P w = .ok (mkStr (acc.data.toList ++ ns.map fun n => UInt8.ofNat n.toNat)) w := by
  intro ns
  induction ns with
  | nil =>
    intro B o acc w _
    simp only [List.length_nil, loadBytes, Sem.run_pure, List.map_nil, List.append_nil]
    rfl
  | cons n ns ih =>
    intro B o acc w h
    have h0 := h 0 _ rfl
    simp only [Nat.add_zero] at h0
    have ih' := ih B (o + 1) (acc.push n.toNat.toUInt8) w (fun j v e => by
      have := h (j + 1) v (by simpa using e)
      rwa [show o + (j + 1) = o + 1 + j from by omega] at this)
    rw [List.length_cons, loadBytes, Sem.run_bind, run_load, h0]
    simp only [Result.andThen_ok, add_at, ih']
    congr 1
    simp [mkStr, ByteArray.push]
theorem stringOp_ok (ok : EnvOK P E) {args args' : List Value} {ts : List TypeId} {ty : TypeId} {s s' : St} {v : Value} (h : (match ts, args with
    | [pt, _], [.pointer p, .int .i64 n] => gd (decide (0 ≤ n) && decide (n ≤ 9223372036854775807)) (.ite (decide (n = 0)) (.ret (.string (mkStr []))) (match p with
      | none => .fail
      | some a => opt (ptrElem E pt) fun e => ck (isOne E e) (.hd a.block fun h => gd (Nat.beq a.off 0 && h.z && !h.mv && !h.ro && !h.sy && Nat.beq h.el e)
        (.rd a.block n.toNat 0 fun vs => gd (allU8 vs) (.setHd a.block ⟨h.n, h.el, h.ro, h.ex, h.z, Nat.max h.fz n.toNat, h.sy, h.mv, h.olds⟩ (.ret (.string (mkStr (bytesV vs)))))))))
    | _, _ => .fail : Prog).run s = some (v, s')) (r : WR P ρ B0 w0 s.mem w) (ha : VRs ρ args args') : SR P ρ B0 w0 s s' v ((Builtin.unsafeString_ ⟨ts⟩ ty ⟨args'⟩).run P w) := by
  split at h
  · rename_i pt it p n
    obtain ⟨p', n', rfl, hp, hn⟩ := ha.two
    cases hn
    obtain ⟨hg, h1⟩ := gd_run h
    clear h
    simp only [Bool.and_eq_true, decide_eq_true_eq] at hg
    rcases ite_run h1 with ⟨h0, h2⟩ | ⟨h0, h2⟩
    · have h0 := of_decide_eq_true h0
      subst h0
      obtain ⟨rfl, rfl⟩ := ret_run h2
      have : (Builtin.unsafeString_ ⟨[pt, it]⟩ ty ⟨[p', .int .i64 0]⟩).run P w = .ok (.string (mkStr [])) w := by
        cases hp with
        | ptrN => exact Go.Lib.run_unsafeString_none w pt it ty none
        | ptr => exact Go.Lib.run_unsafeString_none w pt it ty (some _)
      rw [this]
      exact SR.pure r rfl rfl (.string _)
    · have h0 := of_decide_eq_false h0
      split at h2
      · exact (fail_run h2).elim
      · rename_i a
        obtain ⟨e, he, h3⟩ := opt_run h2
        obtain ⟨hone, h4⟩ := ck_run h3
        obtain ⟨hh, hhd, h5⟩ := hd_run h4
        obtain ⟨hck, h6⟩ := gd_run h5
        simp only [Bool.and_eq_true, Bool.not_eq_true'] at hck
        obtain ⟨⟨⟨⟨⟨ho, hz⟩, hmv⟩, hro⟩, hsy⟩, hel⟩ := hck
        have ho := Nat.eq_of_beq_eq_true ho
        have hel := Nat.eq_of_beq_eq_true hel
        obtain ⟨vs, s1, hr, h7⟩ := rd_run h6
        obtain ⟨hu8, h8⟩ := gd_run h7
        obtain ⟨_, _, h9⟩ := setHd_run h8
        obtain ⟨rfl, rfl⟩ := ret_run h9
        obtain ⟨x, hxb, hspot, rfl⟩ := hp.ptr_inv
        obtain ⟨hm, hc, _, hl, _⟩ := St.rd_spec hr
        simp only at hm hc
        obtain ⟨vs', a1, a2, a3⟩ := r.mr.rd (s := ⟨s.mem, s.ctr, ⟨false, a.block, 1⟩ :: s.log⟩) hr hxb
        obtain ⟨ns, rfl, hbs⟩ := bytesV_push hu8 a2
        obtain ⟨x', c0, lo, hi, e1, row⟩ := r.mr.row _ hh hhd
        rw [hxb] at e1
        obtain rfl := Option.some.inj e1
        have hsh := row.z hz
        have hnl : ns.length = n.toNat := by simpa using a1
        have hnn : ((ns.length : Nat) : Int) = n := by omega
        have hne : ns ≠ [] := fun q => by rw [q] at hnn; exact h0 hnn.symm
        obtain ⟨i, hi', hisz⟩ : ∃ i, E.ty.get e = some i ∧ i.size = 1 := by
          unfold isOne at hone
          split at hone
          · rename_i n hn
            obtain ⟨i, a, b⟩ := size_ok hn
            exact ⟨i, a, b.trans (Nat.eq_of_beq_eq_true hone)⟩
          · cases hone
        have hpt : P.underlying pt = some (.pointer e) := by
          unfold ptrElem at he
          split at he
          · rename_i e' hd
            simp only [Option.some.injEq] at he
            subst he
            exact und_ok ok hd
          · cases he
        have hcells : P.cellsOf e = 1 := by
          simp [Program.cellsOf, ok.ty _ _ hi', hisz]
        have hheap : w.heap[x.B]? = some (.cells c0 e (lo, hi)) := by rw [row.heap, hel]
        have hshape : w.shape? x.B = some (e, c0.size) := by simp only [World.shape?, hheap]
        have hcl : n.toNat ≤ hh.n := by
          rcases Nat.eq_zero_or_pos n.toNat with q | q
          · omega
          · obtain ⟨_, _, _, hl2, hv2⟩ := St.rd_spec hr
            have hlt : n.toNat - 1 < vs.length := by omega
            have := hv2 (n.toNat - 1) _ (List.getElem?_eq_getElem hlt)
            have := (r.mr.cell _ hh _ _ hhd this).1
            omega
        have hlen : ns.length ≤ c0.size := by
          have := row.fits
          have := row.N
          omega
        have hlies := Go.Lib.liesAt_bytes (P := P) hcells (c0.size / P.cellsOf e) ns.length (by rw [hcells]; simpa using hlen)
        have hload := run_loadBytesL (P := P) ns x.B 0 .empty w (fun j v e => by
          have := a3 j v e
          rwa [show x.sh + 0 + j = 0 + j from by omega] at this)
        have hl0 : ns.length ≠ 0 := by simpa using hne
        have hrun : (Builtin.unsafeString_ ⟨[pt, it]⟩ ty ⟨[.pointer (some ⟨x.B, x.sh + a.off, none⟩), .int .i64 n]⟩).run P w = .ok (.string (mkStr (bytesV vs))) (w.freeze ⟨x.B, 0, none⟩ ns.length) := by
          rw [hsh, ho, ← hnn]
          have h63' : ¬ (9223372036854775807 : Int) < (ns.length : Int) := by omega
          have hdef : Builtin.unsafeString_ ⟨[pt, it]⟩ ty ⟨[.pointer (some ⟨x.B, 0, none⟩), .int .i64 ns.length]⟩ =
              (do
                let n ← asInt (.int .i64 ns.length)
                if n < 0 then runtimePanic (.error "unsafe.String: len out of range")
                if n > IntKind.i64.max then unsupported (.unsafePointer "String: a length above the largest int")
                if n = 0 then pure (.string .empty)
                else if ← variablesAt ⟨x.B, 0, none⟩ (← elemOf pt) n.toNat then do
                  let s ← loadBytes ⟨x.B, 0, none⟩ .empty n.toNat
                  freeze ⟨x.B, 0, none⟩ n.toNat
                  pure (.string s)
                else unsupported (.unsafePointer "String: not so many bytes at ptr")) := rfl
          rw [show (0 + 0 : Nat) = 0 from rfl, hdef]
          have hmax : IntKind.i64.max = 9223372036854775807 := rfl
          have hneg : ¬ (ns.length : Int) < 0 := by omega
          simp [asInt, asIntOf, hmax, h63', hneg, hl0, variablesAt, hshape, elemOf, run_underlying hpt, hlies, hload, hbs]
        rw [hrun]
        obtain ⟨f1, f2, f3, f4, f5, f6⟩ := freeze_at w x.B ns.length 0 c0 e lo hi hheap hl0
        have hsy' := row.sy hmv hsy
        have hle0 := row.le
        have hfn := row.fn
        have rm := r.mr.rehdr (h' := ⟨hh.n, hh.el, hh.ro, hh.ex, hh.z, Nat.max hh.fz n.toNat, hh.sy, hh.mv, hh.olds⟩) hhd hmv hxb rfl hmv rfl rfl row.heap (w1 := w.freeze ⟨x.B, 0, none⟩ ns.length)
          (lo := (if lo == hi then (0, 0 + ns.length) else (min lo 0, max hi (0 + ns.length))).1) (hi := (if lo == hi then (0, 0 + ns.length) else (min lo 0, max hi (0 + ns.length))).2)
          { heap := by rw [f1, hel]
            N := row.N
            sz := row.sz
            fits := row.fits
            ex := row.ex
            z := row.z
            own := row.own
            le := by split <;> simp only <;> omega
            fz := fun _ q q1 q2 => by
              left
              show q < x.sh + max hh.fz n.toNat
              split at q2
              · simp only at q2; omega
              · rename_i hlh
                have hlh : lo ≠ hi := fun e => hlh (by simp [e])
                simp only at q2
                have := hsy' (hi - 1) (by omega) (by omega)
                omega
            sy := fun _ _ q q1 q2 => by
              show q < x.sh + max hh.fz n.toNat
              split at q2
              · simp only at q2; omega
              · rename_i hlh
                have hlh : lo ≠ hi := fun e => hlh (by simp [e])
                simp only at q2
                have := hsy' (hi - 1) (by omega) (by omega)
                omega
            fn := by show max hh.fz n.toNat ≤ hh.n; omega } rfl f2 f3
        refine ⟨ρ, _, _, Gr.refl _ _ _, by simp only [hc]; exact Nat.le_refl _, rfl, .string _, by simp only [hm]; exact rm, r.bel.trans ⟨f4, f5, f6, by rw [f3]; exact Nat.le_refl _, fun k hk => f2 k ?_⟩, r.hB⟩
        have := row.own hro
        omega
  · exact (fail_run h).elim
theorem VRs.one {a : Value} {l : List Value} (h : VRs ρ [a] l) : ∃ a', l = [a'] ∧ VR ρ a a' := by
  cases h with | cons h1 h2 => cases h2; exact ⟨_, rfl, h1⟩
theorem builtinA_ok (ok : EnvOK P E) {b : Builtin} {ts : List TypeId} {args args' : List Value} {ty : TypeId} {cs : Array Bool} {s s' : St} {v : Value} (h : (builtinA E b ts args).run s = some (v, s')) (r : WR P ρ B0 w0 s.mem w)
    (fr : Fr ρ s.mem s.ctr s'.ctr) (ha : VRs ρ args args') :
    ∃ ρ' v' w', Gr ρ ρ' s.ctr s'.ctr ∧ s.ctr ≤ s'.ctr ∧ (builtin b ⟨ts⟩ ty cs ⟨args'⟩).run P w = .ok (.value v') w' ∧ VR ρ' v v' ∧ WR P ρ' B0 w0 s'.mem w' := by
  have key : ∀ q : Sem Value, SR P ρ B0 w0 s s' v (q.run P w) → ∃ ρ' v' w', Gr ρ ρ' s.ctr s'.ctr ∧ s.ctr ≤ s'.ctr ∧ ((do pure (.value (← q))) : Sem Next).run P w = .ok (.value v') w' ∧ VR ρ' v v' ∧ WR P ρ' B0 w0 s'.mem w' := by
    rintro q ⟨ρ', v', w', a, b, c, d, e⟩
    exact ⟨ρ', v', w', a, b, by rw [Sem.run_bind, c]; rfl, d, e⟩
  unfold builtinA at h
  split at h
  · exact key _ (appendA_ok ok h r fr ha)
  · exact key _ (lenOp_ok ok h r ha)
  · exact key _ (capOp_ok ok h r ha)
  · exact key _ (copyA_ok ok h r ha)
  · exact key _ (deleteA_ok ok h r ha)
  · exact key _ (clearOp_ok ok h r ha)
  · exact key _ (sliceDataOp_ok h r ha)
  · exact key _ (stringOp_ok ok h r ha)
  · split at h
    · cases ha with
      | cons hx hl =>
      obtain ⟨u, hu, h1⟩ := opt_run h
      obtain ⟨rfl, rfl⟩ := ret_run h1
      obtain ⟨v', e1, e2⟩ := maxMin_ok (P := P) (w := w) hu hx hl
      refine key (Builtin.max_ ⟨ts⟩ ty ⟨_ :: _⟩) ?_
      simp only [if_true] at e1
      simp only [Builtin.max_, e1]
      exact SR.pure r rfl rfl e2
    · exact (fail_run h).elim
  · split at h
    · cases ha with
      | cons hx hl =>
      obtain ⟨u, hu, h1⟩ := opt_run h
      obtain ⟨rfl, rfl⟩ := ret_run h1
      obtain ⟨v', e1, e2⟩ := maxMin_ok (P := P) (w := w) hu hx hl
      refine key (Builtin.min_ ⟨ts⟩ ty ⟨_ :: _⟩) ?_
      simp only [Bool.false_eq_true, if_false] at e1
      simp only [Builtin.min_, e1]
      exact SR.pure r rfl rfl e2
    · exact (fail_run h).elim
  · exact (fail_run h).elim

/-! ### Slices of what is there -/
def BdR (d n : Nat) : Option Value → Prop
  | none => n = d
  | some v => ∃ k, v = .int k (n : Int)
theorem run_bound {k : IntKind} {n y : Nat} {c : BoundsCode} (h : n ≤ y) : (Instr.sliceBound (.int k (n : Int)) y c).run P w = .ok n w := by
  simp only [Instr.sliceBound, Sem.run_bind, asIntOf, Sem.run_pure, Result.andThen_ok]
  rw [if_pos (by omega)]
  simp
theorem run_bounds {b : Bool} {len cap l h m : Nat} {lo hi mx : Option Value} (hlo : BdR 0 l lo) (hhi : BdR len h hi)
    (hmx : BdR cap m mx) (h1 : l ≤ h) (h2 : hi ≠ none → h ≤ m) (h3 : m ≤ cap) (h4 : mx ≠ none → hi ≠ none) :
    (Instr.sliceBounds b len cap lo hi mx).run P w = .ok (l, h, m) w := by
  cases mx with
  | none =>
    obtain rfl := hmx
    cases hi with
    | none =>
      obtain rfl := hhi
      cases lo with
      | none => obtain rfl := hlo; simp only [Instr.sliceBounds, Sem.run_bind, Sem.run_pure, Result.andThen_ok]
      | some v => obtain ⟨k, rfl⟩ := hlo; simp only [Instr.sliceBounds, Sem.run_bind, Sem.run_pure, Result.andThen_ok, run_bound h1]
    | some u =>
      obtain ⟨k, rfl⟩ := hhi
      have h2 := h2 (by simp)
      cases lo with
      | none => obtain rfl := hlo; simp only [Instr.sliceBounds, Sem.run_bind, Sem.run_pure, Result.andThen_ok, run_bound h2]
      | some v => obtain ⟨k, rfl⟩ := hlo; simp only [Instr.sliceBounds, Sem.run_bind, Sem.run_pure, Result.andThen_ok, run_bound h1, run_bound h2]
  | some u0 =>
    obtain ⟨k0, rfl⟩ := hmx
    cases hi with
    | none => exact absurd rfl (h4 (by simp))
    | some u =>
      obtain ⟨k, rfl⟩ := hhi
      have h2 := h2 (by simp)
      cases lo with
      | none => obtain rfl := hlo; simp only [Instr.sliceBounds, Sem.run_bind, Sem.run_pure, Result.andThen_ok, run_bound h2, run_bound h3]
      | some v => obtain ⟨k, rfl⟩ := hlo; simp only [Instr.sliceBounds, Sem.run_bind, Sem.run_pure, Result.andThen_ok, run_bound h1, run_bound h2, run_bound h3]
def OptR (ρ : Map) : Option Value → Option Value → Prop
  | none, none => True
  | some a, some b => VR ρ a b
  | _, _ => False
theorem natOr_ok' {d : Nat} {o o' : Option Value} {n : Nat} (h : natOr d o = some n) (ho : OptR ρ o o') : BdR d n o' := by
  cases o with
  | none => cases o' with
    | none => simp only [natOr, Option.some.injEq] at h; exact h.symm
    | some b => exact ho.elim
  | some a => cases o' with
    | none => exact ho.elim
    | some b => exact natOf_ok h ho
theorem VR.piece {x : Value} {a : Option Addr} {l hn sz m : Nat} (hcase : (elems x = [] ∧ True) ∨ ∃ B o sz cs' z, a = some ⟨B, o, none⟩ ∧ ρ.ls B = some z ∧ VRs ρ (flatC (elems x)) cs' ∧ Sub z.fc o cs' ∧ AllSz sz (elems x))
    (g0 : hdOk sz (elems x) = true) (g1 : l ≤ hn) (g2 : hn ≤ (elems x).length) (g3 : hn ≤ m) :
    VR ρ (lstV (((elems x).drop l).take (hn - l))) (.slice (if m = l then a else a.map (·.add (l * sz))) (hn - l) (m - l)) := by
  have hlen : (((elems x).drop l).take (hn - l)).length = hn - l := by
    rw [List.length_take, List.length_drop]; omega
  by_cases h0 : hn - l = 0
  · rw [h0, List.take_zero]
    exact .lst0
  · have hne : elems x ≠ [] := fun q => by rw [q] at g2; simp at g2; omega
    rcases hcase with ⟨q, _⟩ | ⟨B, o, sz', cs', z, rfl, hz, hv, hs, ha⟩
    · exact absurd q hne
    · obtain rfl := hdOk_all g0 ha hne
      rw [if_neg (by omega)]
      simp only [Option.map_some, add_at]
      have hv2 : VRs ρ (flatC (((elems x).drop l).take (hn - l))) ((cs'.drop (l * sz')).take ((hn - l) * sz')) := by
        rw [flatC_take ha.drop, flatC_drop ha]
        exact (hv.drop _).take _
      have := VR.lst (c' := m - l) hz hv2 hs.drop.take ha.drop.take (by rw [hlen]; omega)
      rw [hlen] at this
      exact this
theorem VR.pieceX {x : Value} {a : Option Addr} {l hn sz : Nat} (hcase : (elems x = [] ∧ True) ∨ ∃ B o sz cs' z, a = some ⟨B, o, none⟩ ∧ ρ.ls B = some z ∧ VRs ρ (flatC (elems x)) cs' ∧ Sub z.fc o cs' ∧ AllSz sz (elems x))
    (g0 : hdOk sz (elems x) = true) (g1 : l ≤ hn) (g2 : hn ≤ (elems x).length) :
    VR ρ (xlstV (((elems x).drop l).take (hn - l))) (.slice (if hn = l then a else a.map (·.add (l * sz))) (hn - l) (hn - l)) := by
  have hlen : (((elems x).drop l).take (hn - l)).length = hn - l := by
    rw [List.length_take, List.length_drop]; omega
  by_cases h0 : hn - l = 0
  · rw [h0, List.take_zero]
    exact .xl0
  · have hne : elems x ≠ [] := fun q => by rw [q] at g2; simp at g2; omega
    rcases hcase with ⟨q, _⟩ | ⟨B, o, sz', cs', z, rfl, hz, hv, hs, ha⟩
    · exact absurd q hne
    · obtain rfl := hdOk_all g0 ha hne
      rw [if_neg (by omega)]
      simp only [Option.map_some, add_at]
      have hv2 : VRs ρ (flatC (((elems x).drop l).take (hn - l))) ((cs'.drop (l * sz')).take ((hn - l) * sz')) := by
        rw [flatC_take ha.drop, flatC_drop ha]
        exact (hv.drop _).take _
      have := VR.xl hz hv2 hs.drop.take ha.drop.take
      rw [hlen] at this
      exact this
theorem sliceA_ok (ok : EnvOK P E) {t : TypeId} {x x' v : Value} {lo hi mx lo' hi' mx' : Option Value} {s s' : St} (h : (sliceA E t x lo hi mx).run s = some (v, s')) (r : WR P ρ B0 w0 s.mem w) (hx : VR ρ x x')
    (hl : OptR ρ lo lo') (hh : OptR ρ hi hi') (hm : OptR ρ mx mx') : SR P ρ B0 w0 s s' v ((Instr.sliceAt t x' lo' hi' mx').run P w) := by
  unfold sliceA at h
  obtain ⟨l, hlo, h1⟩ := natOrP_run h
  have hlo := natOr_ok' hlo hl
  clear h
  split at h1
  · rename_i hL
    split at h1
    · rename_i e ht
      obtain ⟨sz, hsz, h2⟩ := opt_run h1
      obtain ⟨hn, hhi, h3⟩ := natOrP_run h2
      have hhi := natOr_ok' hhi hh
      obtain ⟨a, c', rfl, hcase, hle, _⟩ := hx.isL_inv hL
      have hrun : ∀ m : Nat, (Instr.sliceBounds true (elems x).length c' lo' hi' mx').run P w = .ok (l, hn, m) w →
          (Instr.sliceAt t (.slice a (elems x).length c') lo' hi' mx').run P w = .ok (.slice (if m = l then a else a.map (·.add (l * sz))) (hn - l) (m - l)) w := by
        intro m hb
        simp only [Instr.sliceAt, Instr.slice, Sem.run_bind, run_und ok ht, Result.andThen_ok, hb, run_size ok hsz, Sem.run_pure]
      split at h3
      · cases mx' with
        | some _ => exact hm.elim
        | none =>
        obtain ⟨hg, h4⟩ := gd_run h3
        simp only [Bool.and_eq_true] at hg
        obtain ⟨⟨g0, g1⟩, g2⟩ := hg
        have g1 := Nat.le_of_ble_eq_true g1
        have g2 := Nat.le_of_ble_eq_true g2
        obtain ⟨rfl, rfl⟩ := ret_run h4
        rw [hrun c' (run_bounds hlo hhi rfl g1 (fun _ => by omega) (Nat.le_refl _) (fun q => absurd rfl q))]
        exact SR.pure r rfl rfl (VR.piece hcase g0 g1 g2 (by omega))
      · rename_i m
        cases mx' with
        | none => exact hm.elim
        | some mv =>
        obtain ⟨mn, hmn, h4⟩ := natP_run h3
        obtain ⟨hsome, h5'⟩ := gd_run h4
        obtain ⟨hg, h5⟩ := gd_run h5'
        simp only [Bool.and_eq_true] at hg
        obtain ⟨⟨⟨g0, gm⟩, g1⟩, g2⟩ := hg
        have gm := Nat.eq_of_beq_eq_true gm
        have g1 := Nat.le_of_ble_eq_true g1
        have g2 := Nat.le_of_ble_eq_true g2
        obtain ⟨km, rfl⟩ := natOf_ok hmn hm
        obtain ⟨rfl, rfl⟩ := ret_run h5
        subst gm
        cases hi' with
        | none =>
          cases hi with
          | none => cases hsome
          | some _ => exact hh.elim
        | some hv =>
        rw [hrun mn (run_bounds hlo hhi ⟨km, rfl⟩ g1 (fun _ => Nat.le_refl _) (by omega) (fun _ => by simp))]
        exact SR.pure r rfl rfl (VR.pieceX hcase g0 g1 g2)
    · exact (fail_run h1).elim
  rename_i hNL
  clear hNL
  split at h1
  · rename_i str
    cases hx
    split at h1
    · rename_i ht
      obtain ⟨hn, hhi, h2⟩ := natOrP_run h1
      have hhi := natOr_ok' hhi hh
      obtain ⟨hg, h3⟩ := gd_run h2
      simp only [Bool.and_eq_true] at hg
      have g1 := Nat.le_of_ble_eq_true hg.1
      have g2 := Nat.le_of_ble_eq_true hg.2
      obtain ⟨rfl, rfl⟩ := ret_run h3
      cases mx' with
      | some _ => exact hm.elim
      | none =>
      have hb : (Instr.sliceBounds false str.size str.size lo' hi' none).run P w = .ok (l, hn, str.size) w :=
        run_bounds hlo hhi rfl g1 (fun _ => g2) (Nat.le_refl _) (fun q => absurd rfl q)
      have e : str.extract l hn = mkStr ((str.data.toList.drop l).take (hn - l)) := by
        have := ByteArray.extract_mk str.data.toList l hn
        exact this
      simp only [Instr.sliceAt, Instr.slice, Sem.run_bind, run_und ok ht, Result.andThen_ok, Option.isSome_none, Bool.false_eq_true, if_false, hb, Sem.run_pure, e]
      exact SR.pure r rfl rfl (.string _)
    · exact (fail_run h1).elim
  · rename_i a len c
    split at h1
    · rename_i e ht
      obtain ⟨hn, hhi, h2⟩ := natOrP_run h1
      have hhi := natOr_ok' hhi hh
      obtain ⟨sz, hsz, h3⟩ := opt_run h2
      have hrun : ∀ (a : Option Addr) (cap m : Nat), (Instr.sliceBounds true len cap lo' hi' mx').run P w = .ok (l, hn, m) w →
          (Instr.sliceAt t (.slice a len cap) lo' hi' mx').run P w = .ok (.slice (if m = l then a else a.map (·.add (l * sz))) (hn - l) (m - l)) w := by
        intro a cap m hb
        simp only [Instr.sliceAt, Instr.slice, Sem.run_bind, run_und ok ht, Result.andThen_ok, hb, run_size ok hsz, Sem.run_pure]
      cases a with
      | none =>
        cases hx
        obtain ⟨hg, h4⟩ := gd_run h3
        simp only [Bool.and_eq_true] at hg
        obtain ⟨⟨⟨e1, e2⟩, _⟩, hmx⟩ := hg
        obtain rfl := Nat.eq_of_beq_eq_true e1
        obtain rfl := Nat.eq_of_beq_eq_true e2
        obtain ⟨rfl, rfl⟩ := ret_run h4
        cases mx with
        | some _ => cases hmx
        | none =>
        cases mx' with
        | some _ => exact hm.elim
        | none =>
        rw [hrun none 0 0 (run_bounds hlo hhi rfl (Nat.le_refl _) (fun _ => Nat.le_refl _) (Nat.le_refl _) (fun q => absurd rfl q))]
        exact SR.pure r rfl rfl .slN
      | some a =>
        cases hx with
        | @sl b o o' _ _ c' xb hxb ho hl0 hex hin hle =>
        dsimp only at h3
        -- the new slice, by its new capacity
        have hnew : ∀ (m : Nat) (q : Bool) (c0 : Nat), l ≤ hn → hn ≤ m → m ≤ c' → c0 ≤ m - l → (q = true → c0 = m - l) → (q = false → m = c' ∧ capEx c = false ∧ sz = xb.sz) → ¬ (m = l) →
            VR ρ (.slice (some ⟨b, o + l * sz, none⟩) (hn - l) (capOf c0 q)) (.slice (if m = l then some ⟨xb.B, o', none⟩ else (some ⟨xb.B, o', none⟩ : Option Addr).map (·.add (l * sz))) (hn - l) (m - l)) := by
          intro m q c0 a1 a2 a3 a4 a5 a6 a7
          rw [if_neg a7]
          simp only [Option.map_some, add_at]
          refine .sl hxb (.inl ?_) (by rw [capOf_lo]; exact a4) (fun h => by rw [capOf_ex] at h; rw [capOf_lo]; exact (a5 h).symm) (fun h => ?_) (by omega)
          · rcases ho with ho | ho
            · omega
            · omega
          · rw [capOf_ex] at h
            obtain ⟨rfl, b2, rfl⟩ := a6 h
            rcases hin b2 with h8 | h8
            · omega
            · right
              have : l * xb.sz + (m - l) * xb.sz = m * xb.sz := by rw [← Nat.add_mul]; congr 1; omega
              omega
        have hsame : ∀ (m : Nat), m = l → l ≤ hn → hn ≤ m → VR ρ (.slice (some ⟨b, o, none⟩) 0 (capOf 0 true)) (.slice (if m = l then some ⟨xb.B, o', none⟩ else (some ⟨xb.B, o', none⟩ : Option Addr).map (·.add (l * sz))) (hn - l) (m - l)) := by
          intro m a1 a2 a3
          rw [if_pos a1, show hn - l = 0 from by omega, show m - l = 0 from by omega]
          exact .sl hxb (.inr rfl) (by rw [capOf_lo]; exact Nat.le_refl _) (fun _ => by rw [capOf_lo]) (fun _ => .inl rfl) (Nat.le_refl _)
        split at h3
        · -- two bounds
          cases mx' with
          | some _ => exact hm.elim
          | none =>
          obtain ⟨hg, h4⟩ := gd_run h3
          simp only [Bool.and_eq_true] at hg
          have g1 := Nat.le_of_ble_eq_true hg.1
          have g2 := Nat.le_of_ble_eq_true hg.2
          have hb : (Instr.sliceBounds true len c' lo' hi' none).run P w = .ok (l, hn, c') w := run_bounds hlo hhi rfl g1 (fun _ => by omega) (Nat.le_refl _) (fun q => absurd rfl q)
          rw [hrun _ c' c' hb]
          split at h4
          · rename_i hx1
            have hx2 := hex hx1
            split at h4
            · rename_i hcl
              have hcl := Nat.eq_of_beq_eq_true hcl
              obtain ⟨rfl, rfl⟩ := ret_run h4
              exact SR.pure r rfl rfl (hsame c' (by omega) g1 (by omega))
            · rename_i hcl
              obtain ⟨rfl, rfl⟩ := ret_run h4
              have : ¬ (c' = l) := fun q => by rw [hx2] at q; rw [q] at hcl; simp at hcl
              exact SR.pure r rfl rfl (hnew c' true _ g1 (by omega) (Nat.le_refl _) (by omega) (fun _ => by omega) (fun q => by cases q) this)
          · rename_i hx1
            obtain ⟨hd, hhd, h5⟩ := hd_run h4
            obtain ⟨hel, h6⟩ := gd_run h5
            have hel := Nat.eq_of_beq_eq_true hel
            obtain ⟨rfl, rfl⟩ := ret_run h6
            obtain ⟨xb', c0, lo0, hi0, e1, row⟩ := r.mr.row b hd hhd
            rw [hxb] at e1
            obtain rfl := Option.some.inj e1
            obtain ⟨i2, hi2, hi2s⟩ := row.sz
            obtain ⟨i, hi, hisz⟩ := size_ok hsz
            rw [hel, ok.ty _ _ hi] at hi2
            obtain rfl := Option.some.inj hi2
            by_cases hcl : c' = l
            · refine SR.pure r rfl rfl ?_
              rw [if_pos hcl, show hn - l = 0 from by omega, show c' - l = 0 from by omega]
              exact .sl hxb (.inr rfl) (by rw [capOf_lo]; omega) (fun h => by rw [capOf_ex] at h; cases h) (fun _ => .inl rfl) (Nat.le_refl _)
            · exact SR.pure r rfl rfl (hnew c' false _ g1 (by omega) (Nat.le_refl _) (by omega) (fun q => by cases q) (fun _ => ⟨rfl, by simpa using hx1, by rw [← hisz, hi2s]⟩) hcl)
        · rename_i m
          cases mx' with
          | none => exact hm.elim
          | some mv =>
          obtain ⟨mn, hmn, h4⟩ := natP_run h3
          obtain ⟨hsome, h5'⟩ := gd_run h4
          obtain ⟨hg, h5⟩ := gd_run h5'
          simp only [Bool.and_eq_true] at hg
          have g1 := Nat.le_of_ble_eq_true hg.1.1
          have g2 := Nat.le_of_ble_eq_true hg.1.2
          have g3 := Nat.le_of_ble_eq_true hg.2
          obtain ⟨km, rfl⟩ := natOf_ok hmn hm
          cases hi' with
          | none =>
            cases hi with
            | none => cases hsome
            | some _ => exact hh.elim
          | some hv =>
          have hb : (Instr.sliceBounds true len c' lo' (some hv) (some (.int km mn))).run P w = .ok (l, hn, mn) w := run_bounds hlo hhi ⟨km, rfl⟩ g1 (fun _ => g2) (by omega) (fun _ => by simp)
          rw [hrun _ c' mn hb]
          split at h5
          · rename_i hcl
            have hcl := Nat.eq_of_beq_eq_true hcl
            obtain ⟨rfl, rfl⟩ := ret_run h5
            exact SR.pure r rfl rfl (hsame mn hcl g1 g2)
          · rename_i hcl
            obtain ⟨rfl, rfl⟩ := ret_run h5
            exact SR.pure r rfl rfl (hnew mn true _ g1 g2 (by omega) (Nat.le_refl _) (fun _ => rfl) (fun q => by cases q) (fun q => by rw [q] at hcl; simp at hcl))
    · exact (fail_run h1).elim
  · rename_i a
    split at h1
    · rename_i n e hae
      obtain ⟨hn, hhi, h2⟩ := natOrP_run h1
      have hhi := natOr_ok' hhi hh
      obtain ⟨sz, hsz, h3⟩ := opt_run h2
      obtain ⟨hg, h4⟩ := gd_run h3
      simp only [Bool.and_eq_true] at hg
      have g1 := Nat.le_of_ble_eq_true hg.1.1
      have g2 := Nat.le_of_ble_eq_true hg.1.2
      have g3 : l < n := Nat.le_of_ble_eq_true hg.2
      obtain ⟨rfl, rfl⟩ := ret_run h4
      cases mx' with
      | some _ => exact hm.elim
      | none =>
      obtain ⟨x, hxb, hspot, rfl⟩ := hx.ptr_inv
      unfold arrOf at hae
      split at hae
      · rename_i arr ht
        split at hae
        · rename_i n' e' ha
          simp only [Option.some.injEq, Prod.mk.injEq] at hae
          obtain ⟨rfl, rfl⟩ := hae
          have hb : (Instr.sliceBounds false n' n' lo' hi' none).run P w = .ok (l, hn, n') w := run_bounds hlo hhi rfl g1 (fun _ => g2) (Nat.le_refl _) (fun q => absurd rfl q)
          have hne : ¬ (n' = l) := by omega
          simp only [Instr.sliceAt, Instr.slice, Sem.run_bind, run_und ok ht, Result.andThen_ok, asAddr, run_und ok ha, hb, run_size ok hsz, if_neg hne, Sem.run_pure, add_at]
          refine SR.pure r rfl rfl (.sl hxb (.inl (by omega)) (by rw [capOf_lo]; exact Nat.le_refl _) (fun _ => (capOf_lo _ _).symm) (fun h => by rw [capOf_ex] at h; cases h) (by omega))
        · cases hae
      · rename_i n' e' ht
        simp only [Option.some.injEq, Prod.mk.injEq] at hae
        obtain ⟨rfl, rfl⟩ := hae
        have hb : (Instr.sliceBounds false n' n' lo' hi' none).run P w = .ok (l, hn, n') w := run_bounds hlo hhi rfl g1 (fun _ => g2) (Nat.le_refl _) (fun q => absurd rfl q)
        have hne : ¬ (n' = l) := by omega
        simp only [Instr.sliceAt, Sem.run_bind, run_und ok ht, Result.andThen_ok, Instr.sureAddr, hb, run_size ok hsz, if_neg hne, Sem.run_pure, add_at]
        refine SR.pure r rfl rfl (.sl hxb (.inl (by omega)) (by rw [capOf_lo]; exact Nat.le_refl _) (fun _ => (capOf_lo _ _).symm) (fun h => by rw [capOf_ex] at h; cases h) (by omega))
      · cases hae
    · exact (fail_run h1).elim
  · exact (fail_run h1).elim
end
end Go.Ev
