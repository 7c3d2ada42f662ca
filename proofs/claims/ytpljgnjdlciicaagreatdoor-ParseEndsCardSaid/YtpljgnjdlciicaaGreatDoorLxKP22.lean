import Derived.Test.YtpljgnjdlciicaaGreatDoorLxKP21
namespace Go.Ev
open Go Go.RowKit
section
variable {P : Program} {E : Env} {B0 : Nat} {w0 : World}
theorem nmK_eq {k : Kd} {v : Value} (h : okK k v = true) : nmK k v = v := by
  cases k with
  | int k =>
    simp only [okK] at h
    split at h
    · have := of_decide_eq_true h
      subst this
      rfl
    · cases h
  | bool =>
    simp only [okK] at h
    split at h
    · rfl
    · cases h
  | str =>
    simp only [okK] at h
    split at h
    · rfl
    · cases h
  | lst =>
    simp only [okK] at h
    unfold isLst at h
    split at h
    · rename_i t cs
      have := Nat.eq_of_beq_eq_true h
      subst this
      rfl
    · cases h
  | ptr =>
    simp only [okK] at h
    unfold isPt at h
    split at h
    · rfl
    · cases h
  | row =>
    simp only [okK] at h
    unfold isSl at h
    split at h
    · rfl
    · cases h
  | raw => rfl
theorem at_drop {vs : List Value} {i : Nat} {v : Value} {r : List Value} (h : vs.drop i = v :: r) : at_ vs i = v ∧ vs.drop (i + 1) = r := by
  have h1 : (vs.drop i)[0]? = some v := by rw [h]; rfl
  rw [List.getElem?_drop, Nat.add_zero] at h1
  refine ⟨by simp [at_, List.getD_eq_getElem?_getD, h1], ?_⟩
  have : (vs.drop i).drop 1 = r := by rw [h]; rfl
  simpa [Nat.add_comm] using this
theorem nmKs_eq : ∀ {ks : List Kd} {i : Nat} {vs : List Value}, okKs ks (vs.drop i) = true → nmKs ks i vs = vs.drop i := by
  intro ks
  induction ks with
  | nil =>
    intro i vs h
    simp only [okKs] at h
    split at h
    · rename_i e; rw [nmKs, e]
    · cases h
  | cons k ks ih =>
    intro i vs h
    simp only [okKs] at h
    split at h
    · cases h
    · rename_i v r e
      simp only [Bool.and_eq_true] at h
      obtain ⟨h1, h2⟩ := at_drop e
      rw [nmKs, h1, nmK_eq h.1, e, Nat.add_eq, ih (by rw [h2]; exact h.2), h2]
theorem nmN1_eq {k : Nm} {v : Value} (h : okN1 k v = true) : nmN1 k v = v := by
  cases k with
  | one k => exact nmK_eq h
  | agg ks =>
    simp only [okN1, Bool.and_eq_true] at h
    obtain ⟨h1, h2⟩ := h
    cases v <;> first | (simp [isAggV] at h1; done) | skip
    rename_i cs
    obtain ⟨cs⟩ := cs
    simp only [nmN1, aggOf] at h2 ⊢
    rw [nmKs_eq (i := 0) (by simpa using h2)]
    simp
  | tup _ => rfl
  | raw => rfl
theorem nmNs_eq : ∀ {ks : List Nm} {i : Nat} {vs : List Value}, okNs ks (vs.drop i) = true → nmNs ks i vs = vs.drop i := by
  intro ks
  induction ks with
  | nil =>
    intro i vs h
    simp only [okNs] at h
    split at h
    · rename_i e; rw [nmNs, e]
    · cases h
  | cons k ks ih =>
    intro i vs h
    simp only [okNs] at h
    split at h
    · cases h
    · rename_i v r e
      simp only [Bool.and_eq_true] at h
      obtain ⟨h1, h2⟩ := at_drop e
      rw [nmNs, h1, nmN1_eq h.1, e, Nat.add_eq, ih (by rw [h2]; exact h.2), h2]
theorem nmP_run {k : Nm} {v : Value} {c : Value → Prog} {s : St} {r : Value × St} (h : (nmP k v c).run s = some r) : (c v).run s = some r := by
  unfold nmP at h
  split at h
  · exact h
  · exact h
  · rename_i ks
    obtain ⟨h1, h2⟩ := gc_run h
    simp only [Bool.and_eq_true] at h1
    obtain ⟨h1, h3⟩ := h1
    cases v <;> first | (simp [isTupV] at h1; done) | skip
    rename_i cs
    obtain ⟨cs⟩ := cs
    simp only [tupOf] at h2 h3
    rw [nmNs_eq (i := 0) (by simpa using h3)] at h2
    simpa using h2
  · obtain ⟨h1, h2⟩ := gc_run h
    rw [nmN1_eq h1] at h2
    exact h2
def KR (q : (Value → Prog) → Prog) (p : Prog) : Prop := ∀ (k : Value → Prog) (s : St) (r : Value × St), (q k).run s = some r → (Prog.call p k).run s = some r
theorem KR.ret (v : Value) : KR (fun k => k v) (.ret v) := fun _ _ _ h => h
theorem KR.fail (p : Prog) : KR (fun _ => .fail) p := fun _ _ _ h => (fail_run h).elim
theorem KR.gc {b : Bool} {q : (Value → Prog) → Prog} {p : Prog} (h : KR q p) : KR (fun k => gc b (q k)) (gd b p) := fun k s r e => by
  obtain ⟨rfl, e⟩ := gc_run e
  have := h k s r e
  simpa [Prog.run, gd] using this
theorem KR.opt {α : Type} {x : Option α} {q : α → (Value → Prog) → Prog} {p : α → Prog} (h : ∀ a, KR (q a) (p a)) : KR (fun k => opt x fun a => q a k) (opt x p) := fun k s r e => by
  obtain ⟨a, rfl, e⟩ := opt_run e
  exact h a k s r e
theorem KR.natK {v : Value} {q : Nat → (Value → Prog) → Prog} {p : Nat → Prog} (h : ∀ n, KR (q n) (p n)) : KR (fun k => natK v fun n => q n k) (natP v p) := by
  unfold Ev.natK natP
  cases v <;> first | exact KR.fail _ | exact KR.gc (h _)
theorem KR.natOrK {d : Nat} {o : Option Value} {q : Nat → (Value → Prog) → Prog} {p : Nat → Prog} (h : ∀ n, KR (q n) (p n)) : KR (fun k => natOrK d o fun n => q n k) (natOrP d o p) := by
  cases o with
  | none => exact h d
  | some v => exact KR.natK h
theorem KR.callP (p : Prog) : KR (fun k => callP k p) p := fun k s r e => (callP_eq k s p).symm.trans e
theorem KR.run {q : (Value → Prog) → Prog} {p : Prog} (h : KR q p) {k : Value → Prog} {s : St} {r : Value × St} (e : (q k).run s = some r) : ∃ u s1, p.run s = some (u, s1) ∧ (k u).run s1 = some r := call_run (h k s r e)
theorem isEp_form {v : Value} (h : isEp v = true) : ∃ es, v = .iface 1000000002 (.agg ⟨es⟩) := by
  unfold isEp at h
  split at h
  · rename_i t es
    have := Nat.eq_of_beq_eq_true h
    subst this
    exact ⟨es.toList, rfl⟩
  · cases h
section
variable {E : Env}
theorem kr_opt (x : Option Value) : KR (fun k => opt x k) (opt x .ret) := KR.opt (q := fun a k => k a) fun _ => KR.ret _
theorem arithK_kr (op : BinOp) (d : IntKind) (x y : Int) : KR (arithK op d x y) (arithP op d x y) := by
  cases op <;> unfold arithK arithP <;> dsimp only <;> first | exact kr_opt _ | exact KR.gc (KR.ret _)
theorem shiftK_kr (op : BinOp) (d : IntKind) (x y : Int) : KR (shiftK op d x y) (shiftP op d x y) := by
  cases op <;> unfold shiftK shiftP <;> dsimp only <;> first | exact KR.fail _ | exact KR.gc (KR.ret _)
theorem strOpK_kr (op : BinOp) (x y : ByteArray) : KR (strOpK op x y) (strOpP op x y) := by
  cases op <;> unfold strOpK strOpP <;> dsimp only <;> first | exact kr_opt _ | exact KR.gc (KR.ret _)
theorem binK_kr (op : BinOp) (t : TypeId) (xo yo : Operand) (x y : Value) : KR (binK E op t xo yo x y) (binP E op t xo yo x y) := by
  have hi : ∀ (op : BinOp) (d d' : IntKind) (a b : Int), KR (fun k => match decide (d = d') with | true => arithK op d a b k | false => Prog.fail) (match decide (d = d') with | true => arithP op d a b | false => .fail) := by
    intro op d d' a b
    cases decide (d = d')
    · exact KR.fail _
    · exact arithK_kr _ _ _ _
  cases x
  case int d a =>
    cases y
    case int d' b =>
      cases op <;> unfold binK binP <;> dsimp only <;> first | exact hi _ _ _ _ _ | exact shiftK_kr _ _ _ _
    all_goals (cases op <;> unfold binK binP <;> dsimp only <;> exact kr_opt _)
  case string a =>
    cases y
    case string b => cases op <;> unfold binK binP <;> dsimp only <;> exact strOpK_kr _ _ _
    all_goals (cases op <;> unfold binK binP <;> dsimp only <;> exact kr_opt _)
  all_goals (cases op <;> unfold binK binP <;> dsimp only <;> exact kr_opt _)
theorem loadK_kr (t : TypeId) (cs : List Value) : KR (loadK E t cs) (loadE E t cs) := by
  unfold loadK loadE
  cases E.und t with
  | none => exact KR.fail _
  | some d =>
    dsimp only
    cases isAggD d with
    | true => exact KR.opt fun _ => KR.gc (KR.ret _)
    | false => exact KR.gc (KR.ret _)
theorem fieldAddrK_kr (t : TypeId) (x : Value) (f : Nat) : KR (fieldAddrK E t x f) (fieldAddrA E t x f) := by
  unfold fieldAddrK
  split
  · rename_i hep
    obtain ⟨es, rfl⟩ := isEp_form hep
    unfold fieldAddrA
    split
    · rename_i fs he
      simp only [he]
      show KR (fun k => opt fs[f]? fun fd => match E.size fd.type with | some (_ + 1) => _ | _ => .fail) (opt fs[f]? fun fd => match E.size fd.type with | some (_ + 1) => _ | _ => .fail)
      refine KR.opt fun fd => ?_
      cases E.size fd.type with
      | none => exact KR.fail _
      | some n =>
        cases n with
        | zero => exact KR.fail _
        | succ n => exact KR.gc (KR.ret _)
    · exact KR.fail _
  · exact KR.callP _
theorem indexAddrK_kr (t : TypeId) (x i : Value) : KR (indexAddrK E t x i) (indexAddrA E t x i) := by
  unfold indexAddrK indexAddrA
  cases isL x with
  | true =>
    refine KR.natK fun n => ?_
    dsimp only
    split
    · rename_i e he
      simp only [he]
      exact KR.opt fun _ => KR.gc (KR.ret _)
    · exact KR.fail _
  | false =>
    refine KR.natK fun n => ?_
    dsimp only
    split
    · rename_i e a len c he
      simp only [he]
      exact KR.opt fun _ => KR.gc (KR.ret _)
    · rename_i len e a he
      simp only [he]
      exact KR.opt fun _ => KR.gc (KR.ret _)
    · exact KR.fail _
theorem indexK_kr (t : TypeId) (x i : Value) : KR (indexK E t x i) (indexOp E t x i) := by
  unfold indexK indexOp
  refine KR.natK fun n => ?_
  split
  · rename_i he
    simp only [he]
    exact KR.gc (KR.ret _)
  · rename_i he
    simp only [he]
    exact KR.opt fun _ => KR.gc (kr_opt _)
  · exact KR.fail _
theorem sliceK_kr (t : TypeId) (x : Value) (lo hi mx : Option Value) : KR (sliceK E t x lo hi mx) (sliceA E t x lo hi mx) := by
  unfold sliceK
  split
  · rename_i hL
    unfold sliceA
    rw [hL]
    refine KR.natOrK fun l => ?_
    dsimp only
    split
    · rename_i e he
      simp only [he]
      refine KR.opt fun _ => KR.natOrK fun h => ?_
      cases mx with
      | none => exact KR.gc (KR.ret _)
      | some m => exact KR.natK fun _ => KR.gc (KR.gc (KR.ret _))
    · exact KR.fail _
  · rename_i hL
    split
    · unfold sliceA
      rw [hL]
      refine KR.natOrK fun l => ?_
      dsimp only
      split
      · rename_i he
        simp only [he]
        exact KR.natOrK fun _ => KR.gc (KR.ret _)
      · exact KR.fail _
    · exact KR.callP _
theorem plainK_kr (ρ : Operand → Value) (op : Op) : KR (plainK E ρ op) (plainOp E ρ op) := by
  unfold plainK
  split
  · exact KR.ret _
  · exact KR.ret _
  · rename_i c a b
    simp only [plainOp]
    split
    · rename_i t hct
      simp only [hct]
      split
      · rename_i hb
        simp only [Bool.and_eq_true] at hb
        obtain ⟨ha, hb⟩ := hb
        intro k s r h
        have ea : ∀ v : Value, isBoolV v = true → v = .bool (boolOf v) := by
          intro v hv
          cases v <;> first | rfl | (simp [isBoolV] at hv)
        cases t with
        | true =>
          show (k (ρ a)).run s = some r
          rw [ea _ ha]
          exact h
        | false =>
          show (k (ρ b)).run s = some r
          rw [ea _ hb]
          exact h
      · intro k s r h
        cases t <;> exact h
    · exact KR.fail _
  · rename_i t a
    split
    · rename_i hep
      obtain ⟨es, he⟩ := isEp_form hep
      simp only [plainOp, he, isEp, elems]
      exact loadK_kr t es
    · exact KR.callP _
  · simp only [plainOp]; exact binK_kr _ _ _ _ _ _
  · simp only [plainOp]; exact sliceK_kr _ _ _ _ _
  · simp only [plainOp]; exact fieldAddrK_kr _ _ _
  · simp only [plainOp]; exact indexAddrK_kr _ _ _
  · simp only [plainOp]; exact indexK_kr _ _ _
  · exact KR.callP _
end
theorem opK_run {E : Env} {ih : Rec} {tm : Tm} {o : Oper} {k : Value → Prog} {s : St} {r : Value × St} (h : (opK E ih tm o k).run s = some r) : ∃ u s1, (opA E ih tm o).run s = some (u, s1) ∧ (k u).run s1 = some r := by
  obtain ⟨dst, op, type, pos, after, gd0⟩ := o
  unfold opK at h
  unfold opA
  dsimp only at h ⊢
  split at h
  · split at h
    · exact callP_run h
    · split at h
      · exact call_run h
      · exact (fail_run h).elim
    · exact (fail_run h).elim
  · exact (plainK_kr _ _).run h
theorem deferOf_ok {op : Op} {c : Call} (h : deferOf op = some c) : op = .defer c := by
  unfold deferOf at h
  split at h
  · simp only [Option.some.injEq] at h; rw [h]
  · cases h
theorem deferOf_none {op : Op} (h : deferOf op = none) : ∀ c, op ≠ .defer c := by
  rintro c rfl
  simp [deferOf] at h
theorem FR.put {ρ : Map} {fn : Nat} {tm : Tm} {df : List Deferred} {rd : Option Nat} {b : Frame} {a : Act} {cs : List Frame} (h : FR P ρ fn tm df rd b a cs) (d : Option Nat) {v v' : Value} (hv : VR ρ v v') :
    FR P ρ fn (putT tm d v) df rd b (a.put d v') cs :=
  ⟨h.hfn, h.htm.put d hv, by cases d <;> exact h.hdf, h.hrd, h.hkind, h.hdk⟩
theorem opsA_ok (ok : EnvOK P E) {io : Rec} (hm : Main P B0 w0 io) {ops : Array Oper} (hops : ops.toList.all (okOper P.globals.size) = true) {fn : Nat} {rd : Option Nat} {K : Tm → List Deferred → Prog} : ∀ (l : List Oper) (i : Nat), ops.toList.drop i = l →
    ∀ (tm : Tm) (df : List Deferred) (s s' : St) (v : Value), (opsA E io fn rd ops.toList l tm df K).run s = some (v, s') → ∀ (ρ : Map) (w : World) (b : Frame) (a : Act) (cs : List Frame) (kk : List Item),
    FR P ρ fn tm df rd b a cs → WR P ρ B0 w0 s.mem w → Fr ρ s.mem s.ctr s'.ctr → GlOK P ρ →
    ∃ tm1 df1 s1 ρ1 w1 a1, (K tm1 df1).run s1 = some (v, s') ∧ Gr ρ ρ1 s.ctr s1.ctr ∧ s.ctr ≤ s1.ctr ∧ FR P ρ1 fn tm1 df1 rd b a1 cs ∧ WR P ρ1 B0 w0 s1.mem w1 ∧
      Steps P (lone (b.atR a (.inRegion ops (List.range' i l.length) :: kk)) cs w) (lone (b.atR a1 (.inRegion ops [] :: kk)) cs w1) := by
  intro l
  induction l with
  | nil =>
    intro i _ tm df s s' v h ρ w b a cs kk fr r fresh gl
    exact ⟨tm, df, s, ρ, w, a, h, Gr.refl _ _ _, Nat.le_refl _, fr, r, Steps.refl _ _⟩
  | cons o rest ih =>
    intro i hd tm df s s' v h ρ w b a cs kk fr r fresh gl
    have hi : ops[i]? = some o := by
      have : (ops.toList.drop i)[0]? = some o := by rw [hd]; rfl
      simpa using this
    have hd1 : ops.toList.drop (i + 1) = rest := by
      have : (ops.toList.drop i).drop 1 = rest := by rw [hd]; rfl
      simpa [Nat.add_comm] using this
    have hoo : okOper P.globals.size o = true := List.all_eq_true.1 hops o (by
      have : ops.toList[i]? = some o := by simpa using hi
      exact List.mem_of_getElem? this)
    rw [List.length_cons, List.range'_succ]
    simp only [opsA, opsL] at h
    obtain ⟨hchk, h⟩ := ck_run h
    simp only [chk, Bool.and_eq_true] at hchk
    obtain ⟨hlg, hlo⟩ := hchk
    have hw := wanted_ok (ops := ops) fr.htm o hlg
    obtain ⟨tm', hsame, h⟩ := guardC_run hlg h
    have hlo' : liveOs tm' o.op.operands.toList = true := by
      rw [← hlo]
      exact liveOs_congr fun x _ => liveO_congr fun t _ => congrArg Prod.snd (hsame.2 t)
    have frs : FR P ρ fn tm' df rd b a cs := { fr with htm := fr.htm.same hsame }
    rcases h with ⟨hwt, h⟩ | ⟨hwf, h⟩
    rotate_left
    · have hs := stepR_op_skip (P := P) (b := b) (a := a) (k := kk) (cs := cs) (w := w) (ops := ops) (i := i) (rest := List.range' (i + 1) rest.length) (by simp [hi, hw, hwf])
      simp only [hi, Option.bind_some] at hs
      obtain ⟨tm1, df1, s1, ρ1, w1, a1, q1, q2, q3, q4, q5, q6⟩ := ih (i + 1) hd1 _ df s s' v h ρ w b (a.put o.dst undef) cs kk (frs.put o.dst (U_VR ρ)) r fresh gl
      exact ⟨tm1, df1, s1, ρ1, w1, a1, q1, q2, q3, q4, q5, .head hs q6⟩
    · have hst := stepGR_op (P := P) (b := b) (a := a) (k := kk) (cs := cs) (w := w) (rest := List.range' (i + 1) rest.length) hi (by rw [hw, hwt])
      split at h
      · rename_i c hdc
        have hop := deferOf_ok hdc
        obtain ⟨d, hda, h1⟩ := opt_run h
        unfold deferA at hda
        split at hda
        · rename_i f hcal _ _
          split at hda
          · rename_i fv first captured hev
            simp only [Option.some.injEq] at hda
            subst hda
            have hro := frs.hrd.none_inv
            have hρ : ∀ x ∈ c.operands.toList, VR ρ (evO tm' x) (a.eval x) := fun x hx => evO_ok frs.htm gl (List.all_eq_true.1 hoo x (by rw [hop]; exact hx)) (liveOs_mem hlo' (by rw [hop]; exact hx))
            have hfv := hρ f (by simp [Call.operands, hcal])
            rw [hev] at hfv
            generalize hav : a.eval f = fu at hfv
            obtain ⟨fl⟩ := first
            obtain ⟨cl⟩ := captured
            cases hfv with
            | @fn _ fv' _ first' _ captured' h2 h3 h4 =>
            have hargs : VRs ρ (c.args.toList.map (evO tm')) (c.args.toList.map a.eval) := VRs.map _ _ _ (fun x hx => hρ x (by simp only [Call.operands, Array.toList_append, List.mem_append]; exact .inr hx))
            let d' : Deferred := ⟨.fn fv' ⟨captured'⟩, ⟨first'⟩ ++ c.args.map a.eval⟩
            have hdr : DR ρ ⟨.fn fv ⟨cl⟩, ⟨fl⟩ ++ c.args.map (evO tm')⟩ d' := by
              have e1 : (⟨fl⟩ ++ c.args.map (evO tm') : Array Value) = ⟨fl ++ c.args.toList.map (evO tm')⟩ := by apply Array.ext'; simp
              have e2 : (⟨first'⟩ ++ c.args.map a.eval : Array Value) = ⟨first' ++ c.args.toList.map a.eval⟩ := by apply Array.ext'; simp
              simp only [d', e1, e2]
              exact .fn h2 h4 (h3.append hargs)
            have hrun : (execOp a.eval o).run P w = .ok (.defer d') w := by
              simp only [execOp, hop, resolve, hcal, hav, Deferred.ofValue, Sem.run_bind, Sem.run_pure, Result.andThen_ok]
              rfl
            rw [hro, Oper.semAt_none] at hst
            have hs : step P (lone (b.atR a (.inRegion ops (i :: List.range' (i + 1) rest.length) :: kk)) cs w) =
                .next (lone (b.atR ({ a with defers := d' :: a.defers }.put o.dst undef) (.inRegion ops (List.range' (i + 1) rest.length) :: kk)) cs w) := by
              refine step_lone_go ?_
              rw [hst]
              have := Frame.finish_atR b { a with defers := d' :: a.defers } ops i (List.range' (i + 1) rest.length) kk undef
              rw [hi] at this
              simp only [stepG.apply, Sem.runT_eq, hrun, GStep.bare_after]
              exact congrArg (fun fr => GStep.go { frame := fr, callers := cs, status := .running, dying := none } w) this
            have fr1 : FR P ρ fn tm' (⟨.fn fv ⟨cl⟩, ⟨fl⟩ ++ c.args.map (evO tm')⟩ :: df) none b { a with defers := d' :: a.defers } cs := ⟨frs.hfn, frs.htm, .cons hdr frs.hdf, frs.hrd, frs.hkind, frs.hdk⟩
            obtain ⟨tm1, df1, s1, ρ1, w1, a1, q1, q2, q3, q4, q5, q6⟩ := ih (i + 1) hd1 _ _ s s' v h1 ρ w b _ cs kk (fr1.put o.dst (U_VR ρ)) r fresh gl
            exact ⟨tm1, df1, s1, ρ1, w1, a1, q1, q2, q3, q4, q5, .head hs q6⟩
          · cases hda
        · cases hda
      · rename_i hdn
        obtain ⟨u, s1, h1, h2⟩ := opK_run h
        replace h2 := nmP_run h2
        rw [o.semAt_eq b.roundOf a.eval (deferOf_none hdn)] at hst
        have hle := Prog.ctr_le h2
        have hle1 := Prog.ctr_le h1
        obtain ⟨ρ1, w1, u', g1, g2, g3, g4, g5⟩ := opA_goes ok hm h1 r (fresh.before hle) gl frs.htm hoo hlo' (b.atR a (.inRegion ops (i :: List.range' (i + 1) rest.length) :: kk)) cs _ (.inl ⟨_, _, _, rfl⟩) (at_lone hst)
        rw [Frame.finish_atR] at g5
        simp only [hi, Option.bind_some] at g5
        obtain ⟨tm1, df1, s2, ρ2, w2, a1, q1, q2, q3, q4, q5, q6⟩ := ih (i + 1) hd1 _ df s1 s' v h2 ρ1 w1 b (a.put o.dst u') cs kk ((frs.ext g1.1).put o.dst g3) g4 (fresh.after g1 hle1) (gl.ext g1.1)
        exact ⟨tm1, df1, s2, ρ2, w2, a1, q1, g1.trans q2 hle1 q3, Nat.le_trans hle1 q3, q4, q5, g5.trans q6⟩
end
end Go.Ev
