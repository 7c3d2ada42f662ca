/- Soundness, part 13: entries without a body. -/
import Derived.Test.YtpljgnjdlciicaaGreatDoorLyKQ13
import Derived.AtR
import Derived.Defers
namespace Go.Ev
open Go Go.RowKit
section
variable {P : Program} {E : Env} (ok : EnvOK P E) {ρ : Map} {B0 : Nat} {w0 w : World}

theorem findByte_ok (c : Nat) (hc : c < 256) (b : ByteArray) : ∀ (l : List UInt8) (i : Nat), b.data.toList.drop i = l →
    (match (List.range' i l.length).find? (fun i => b[i]! == UInt8.ofNat c) with | some j => ((j : Nat) : Int) | none => -1) = findByte c l i := by
  intro l
  induction l with
  | nil => intro i _; rfl
  | cons x l ih =>
    intro i h
    have hx : b.data.toList[i]? = some x := by
      have : (b.data.toList.drop i)[0]? = some x := by rw [h]; rfl
      simpa using this
    have hlt : i < b.size := (List.getElem?_eq_some_iff.1 hx).1
    have hb : b[i]! = x := by
      rw [getElem!_pos b i hlt]
      exact (List.getElem?_eq_some_iff.1 hx).2
    have hd : b.data.toList.drop (i + 1) = l := by
      have : (b.data.toList.drop i).drop 1 = l := by rw [h]; rfl
      simpa [Nat.add_comm] using this
    rw [List.length_cons, List.range'_succ, List.find?_cons, hb]
    simp only [findByte]
    cases hxc : Nat.beq x.toNat c with
    | true =>
      have e : (x == UInt8.ofNat c) = true := by
        have := Nat.eq_of_beq_eq_true hxc
        rw [beq_iff_eq, ← this]; simp
      rw [e]
      rfl
    | false =>
      have e : (x == UInt8.ofNat c) = false := by
        rw [beq_eq_false_iff_ne]
        rintro rfl
        simp [Nat.mod_eq_of_lt hc] at hxc
      rw [e]
      simp only [Nat.add_eq]
      exact ih (i + 1) hd
theorem digits_size : ∀ (n t : Nat) (acc : Array Value), (Extern.BytealgMakeNoZero.digits n t acc).size = acc.size + n
  | 0, _, acc => rfl
  | n + 1, t, acc => by
    rw [Extern.BytealgMakeNoZero.digits, digits_size n]
    simp; omega
theorem externA_ok (ok : EnvOK P E) {f code : Nat} {fn : Func} (hf : E.fn.get f = some fn) (hx : E.ext.get f = some code) (hb : fn.body = none) {args args' : List Value} {s s' : St} {v : Value}
    (h : (externA E code fn args).run s = some (v, s')) (r : WR P ρ B0 w0 s.mem w) (fr : Fr ρ s.mem s.ctr s'.ctr) (ha : VRs ρ args args') :
    NR P ρ B0 w0 s s' v ((callFunc f ⟨args'⟩).run P w) := by
  obtain ⟨hn, e, he, hsem⟩ := ok.ext f fn code hf hx
  have hPf := ok.fn f fn hf
  have hname := ok.names f fn hf
  have hrun : (callFunc f ⟨args'⟩).run P w = ((do pure (.value (← e ⟨args'⟩))) : Sem Next).run P w := by
    unfold callFunc
    simp only [Sem.run_bind, show (program).run P w = .ok P w from rfl, Result.andThen_ok, hPf, hname, Bool.false_eq_true, if_false, hb, Option.isNone_none, if_true, hn, he]
    rfl
  rw [hrun]
  refine NR.value ?_
  clear hrun he hn
  unfold externA at h
  split at h
  · rename_i b c
    obtain rfl : e = Extern.BytealgIndexByte.indexByte := hsem
    obtain ⟨b', c', rfl, h1, h2⟩ := ha.two
    cases h1; cases h2
    obtain ⟨hc, h3⟩ := gd_run h
    obtain ⟨rfl, rfl⟩ := ret_run h3
    simp only [Bool.and_eq_true, decide_eq_true_eq] at hc
    obtain ⟨m, hm⟩ : ∃ m : Nat, c = (m : Int) := ⟨c.toNat, by omega⟩
    have hc8 : m < 256 := by omega
    have hm' : c = Int.ofNat m := hm
    clear hm
    subst hm'
    rename Nat => c
    have htn : (Int.ofNat c).toNat = c := rfl
    rw [htn]
    have hfb := findByte_ok c hc8 b b.data.toList 0 rfl
    have hby : (Extern.Bytes.asByte (.int .u8 (Int.ofNat c))).run P w = .ok (UInt8.ofNat c) w := rfl
    have hbs : (Extern.Bytes.bytesOf (.string b)).run P w = .ok b w := rfl
    rw [← List.range_eq_range'] at hfb
    have hsz : b.data.toList.length = b.size := rfl
    rw [hsz] at hfb
    have : (Extern.BytealgIndexByte.indexByte ⟨[.string b, .int .u8 (Int.ofNat c)]⟩).run P w = .ok (vInt (findByte c b.data.toList 0)) w := by
      have e1 : Extern.BytealgIndexByte.indexByte ⟨[.string b, .int .u8 (Int.ofNat c)]⟩ = (do
          let b ← Extern.Bytes.bytesOf (.string b)
          let c ← Extern.Bytes.asByte (.int .u8 (Int.ofNat c))
          match (List.range b.size).find? fun i => b[i]! == c with
          | some i => pure (goInt i)
          | none => pure (goInt (-1)) : Sem Value) := rfl
      rw [e1]
      simp only [Sem.run_bind, hbs, hby, Result.andThen_ok]
      rw [← hfb]
      cases (List.range b.size).find? (fun i => b[i]! == UInt8.ofNat c) <;> rfl
    rw [this]
    exact SR.pure r rfl rfl (.int _ _)
  · rename_i n
    obtain ⟨ps, rfl⟩ : ∃ ps, e = Extern.BytealgMakeNoZero.makeNoZero ps fn.resultTypes := hsem
    obtain ⟨n', rfl, h1⟩ := ha.one
    cases h1
    split at h
    · rename_i t ts htr
      obtain ⟨e, he, h2⟩ := opt_run h
      obtain ⟨hg, h3⟩ := gd_run h2
      simp only [Bool.and_eq_true] at hg
      have hle := Nat.le_of_ble_eq_true hg.1
      obtain ⟨hlen, h4⟩ := newH_run h3
      obtain ⟨rfl, rfl⟩ := ret_run h4
      obtain ⟨i, hi, hisz⟩ : ∃ i, E.ty.get e = some i ∧ i.size = 1 := by
        have hone := hg.2
        unfold isOne at hone
        split at hone
        · rename_i n hn
          obtain ⟨i, a, b⟩ := size_ok hn
          exact ⟨i, a, b.trans (Nat.eq_of_beq_eq_true hone)⟩
        · cases hone
      have ht := elemOfSlice_ok he
      have hr0 : fn.resultTypes[0]? = some t := by
        have : fn.resultTypes.toList[0]? = some t := by rw [htr]; rfl
        simpa using this
      generalize hj : w.tape w.drawn (.appendCap n 0 e) % (2 ^ 63 - n) = j
      have hc : (choose (.appendCap n 0 e)).run P w = .ok (n + j) w.drew := by rw [← hj]; rfl
      generalize hbt : w.drew.tape w.drew.drawn (.extern "internal/bytealg.MakeNoZero.bytes" 0) = bt
      have hc2 : (choose (.extern "internal/bytealg.MakeNoZero.bytes" 0)).run P w.drew = .ok bt w.drew.drew := by rw [← hbt]; rfl
      have hsz := digits_size (n + j) bt #[]
      simp only [List.size_toArray, List.length_nil, Nat.zero_add] at hsz
      have hcond : ((decide ((Int.ofNat n) < 0) || decide ((Int.ofNat n) > 2 ^ 48)) = true) = False := by
        simp only [Bool.or_eq_true, decide_eq_true_eq, eq_iff_iff, iff_false, not_or]
        constructor
        · exact Int.not_lt.2 (Int.natCast_nonneg n)
        · show ¬ ((n : Int) > 2 ^ 48); omega
      have hrun : (Extern.BytealgMakeNoZero.makeNoZero ps fn.resultTypes ⟨[.int .i64 (Int.ofNat n)]⟩).run P w =
          .ok (.slice (some ⟨w.heap.size, 0, none⟩) n (n + j)) (w.drew.drew.alloc (.cells (Extern.BytealgMakeNoZero.digits (n + j) bt #[]) e)) := by
        have hn : (newRow e (Extern.BytealgMakeNoZero.digits (n + j) bt #[])).run P w.drew.drew = .ok ⟨w.heap.size, 0, none⟩ (w.drew.drew.alloc (.cells (Extern.BytealgMakeNoZero.digits (n + j) bt #[]) e)) := rfl
        have e1 : Extern.BytealgMakeNoZero.makeNoZero ps fn.resultTypes ⟨[.int .i64 (Int.ofNat n)]⟩ = (do
            let some t := fn.resultTypes[0]? | stuck "bytealg.MakeNoZero: no result type"
            let .slice elem ← underlying t | stuck "bytealg.MakeNoZero: slice type expected"
            if (Int.ofNat n) < 0 || (Int.ofNat n) > 2 ^ 48 then runtimePanic (.error "makeslice: len out of range")
            let cap ← choose (.appendCap (Int.ofNat n).toNat 0 elem)
            askRoom cap
            let bytes ← choose (.extern "internal/bytealg.MakeNoZero.bytes" 0)
            let a ← newRow elem (Extern.BytealgMakeNoZero.digits cap bytes #[])
            pure (.slice (some a) (Int.ofNat n).toNat cap) : Sem Value) := rfl
        rw [e1]
        simp only [Sem.run_bind, hr0, run_und ok ht, Result.andThen_ok, hcond, if_false]
        rw [show (Int.ofNat n).toNat = n from rfl]
        simp only [hc, Result.andThen_ok, run_askRoom, hc2, hn, Sem.run_pure]
      rw [hrun]
      have rm := r.drew.drew.mr.new (k := s.ctr) (n := n) (vs := []) (vs' := []) (el := e) (ex := false) (z := true) (sy := false) (c := Extern.BytealgMakeNoZero.digits (n + j) bt #[]) (lo := 0) (hi := 0) (sz := 1)
        (w1 := w.drew.drew.alloc (.cells (Extern.BytealgMakeNoZero.digits (n + j) bt #[]) e)) fr (Nat.zero_le _) .nil rfl r.size (fun q u e => by simp at e) (by omega) (fun h => by cases h) ⟨i, ok.ty _ _ hi, hisz⟩ (Nat.le_refl _)
        (fun q h1 h2 => absurd h2 (by omega)) (fun _ => Nat.le_refl _)
      rw [hsz] at rm
      refine ⟨upd ρ s.ctr ⟨w.heap.size, 0, n + j, 1, []⟩, _, _, ⟨Ext.upd _ (fr.map s.ctr (Nat.le_refl _) (by simp only; omega)), fun k hk => upd_ne (by simp only at hk; omega)⟩, by simp only; omega, rfl, ?_, rm, ?_, r.hB⟩
      · refine VR.sl (x := ⟨w.heap.size, 0, n + j, 1, []⟩) (upd_same _ _ _) (.inl rfl) (by rw [capOf_lo]; exact Nat.le_add_right _ _) (fun h => by rw [capOf_ex] at h; cases h) (fun _ => .inr ?_) (Nat.le_add_right _ _)
        simp
      · exact r.drew.drew.bel.alloc r.drew.drew.size _
    · exact (fail_run h).elim
  · obtain rfl : e = Extern.AbiNoEscape.same := hsem
    obtain ⟨n', rfl, h1⟩ := ha.one
    obtain ⟨rfl, rfl⟩ := ret_run h
    exact SR.pure r rfl rfl h1
  · rename_i t m
    obtain rfl : e = Extern.MapsClone.clone := hsem
    obtain ⟨n', rfl, h1⟩ := ha.one
    obtain ⟨hlt, h⟩ := ck_run h
    have hlt : t < 1000000000 := Nat.le_of_ble_eq_true hlt
    cases h1 with
    | iface _ h1 =>
    obtain ⟨y, hy, rfl⟩ := h1.mp_inv
    obtain ⟨o, ho, n1, n2, h5⟩ := obj_run h
    obtain ⟨⟨es, c⟩, hec, h6⟩ := opt_run h5
    obtain rfl := entsOf_ok hec
    obtain ⟨ob, g1, g2, g3, g0⟩ := r.obj ho n1 n2 hy
    obtain ⟨es', rfl, hes⟩ := g2.mp_inv
    obtain ⟨rfl, rfl⟩ := ret_run (newObj_run h6)
    obtain ⟨ρ', g, hk, wr⟩ := r.newObj (k := s.ctr) (o := .mp es c) (ob := .map ⟨es'⟩ c) fr rfl (.mp c hes)
    have hrun : (Extern.MapsClone.clone ⟨[.iface t (.map (some y.B))]⟩).run P w = .ok (.iface t (.map (some w.heap.size))) (w.alloc (.map ⟨es'⟩ c)) := by
      have e1 : Extern.MapsClone.clone ⟨[.iface t (.map (some y.B))]⟩ = (do
          let .map entries clock ← getObj y.B | stuck "maps.clone: a map expected"
          pure (.iface t (.map (some (← newObj (.map entries clock))))) : Sem Value) := rfl
      rw [e1]
      simp only [Sem.run_bind, g1, Result.andThen_ok, Go.run_newObj_alloc, Sem.run_pure]
    rw [hrun]
    exact ⟨ρ', _, _, g, Nat.le_succ _, rfl, .iface hlt (.mp hk), wr⟩
  · exact (fail_run h).elim
end
end Go.Ev
/- Soundness, part 14: frames: what the main theorem says, and the steps that are no operations. -/
namespace Go.Ev
open Go Go.RowKit

/-! ### Where a frame stands -/
def okItem (ng : Nat) : Item → Bool
  | .code c => okCode ng c
  | .inBlock _ => true
  | .inLoop b => okCode ng b
  | .inScope b => okCode ng b
  | .beginRound => true
  | _ => false
theorem exitTo_ok {ng id : Nat} : ∀ {k k' : List Item}, exitTo id k = some k' → k.all (okItem ng) = true → k'.all (okItem ng) = true := by
  intro k
  induction k with
  | nil => intro k' h; simp [exitTo] at h
  | cons x k ih =>
    intro k' h hk
    simp only [List.all_cons, Bool.and_eq_true] at hk
    cases x <;> simp only [exitTo] at h <;> first
      | exact ih h hk.2
      | (split at h
         · simp only [Option.some.injEq] at h
           subst h
           exact hk.2
         · exact ih h hk.2)
theorem findLabel_ok {ng l : Nat} : ∀ {c c' : Code}, findLabel c l = some c' → okCode ng c = true → okCode ng c' = true := by
  intro c
  induction c with
  | seq a b iha ihb =>
    intro c' h hc
    simp only [okCode, Bool.and_eq_true] at hc
    simp only [findLabel] at h
    split at h
    · rename_i r hr
      simp only [Option.some.injEq] at h
      subst h
      simp only [okCode, Bool.and_eq_true]
      exact ⟨iha hr hc.1, hc.2⟩
    · exact ihb h hc.2
  | label l' =>
    intro c' h hc
    simp only [findLabel] at h
    split at h
    · simp only [Option.some.injEq] at h
      subst h
      rfl
    · cases h
  | _ => intro c' h; simp [findLabel] at h
theorem gotoIn_ok {ng l : Nat} : ∀ {k k' : List Item}, gotoIn l k = some k' → k.all (okItem ng) = true → k'.all (okItem ng) = true := by
  intro k
  induction k with
  | nil => intro k' h; simp [gotoIn] at h
  | cons x k ih =>
    intro k' h hk
    simp only [List.all_cons, Bool.and_eq_true] at hk
    cases x <;> simp only [gotoIn] at h <;> first
      | exact ih h hk.2
      | (split at h
         · rename_i r hr
           simp only [Option.some.injEq] at h
           subst h
           simp only [List.all_cons, Bool.and_eq_true]
           exact ⟨findLabel_ok hr hk.1, hk.1, hk.2⟩
         · exact ih h hk.2)

def RdR (ρ : Map) : Option Nat → Option Nat → Prop
  | none, none => True
  | some l, some B => ∃ x, ρ l = some x ∧ B = x.B
  | _, _ => False
theorem RdR.ext {ρ ρ' : Map} (h : Ext ρ ρ') {a b : Option Nat} (r : RdR ρ a b) : RdR ρ' a b := by
  cases a <;> cases b <;> first | trivial | exact r.elim | exact (let ⟨x, e, q⟩ := r; ⟨x, h _ _ e, q⟩)
/-- How a frame's run ends: a function's: it is about to return · a round's: its caller goes on. -/
def Ends (P : Program) (b : Frame) (cs : List Frame) (m0 : Machine) (w' : World) (v' : Value) : Prop :=
  match b.roundOf with
  | none => ∃ fr', Steps P m0 (lone fr' cs w') ∧ fr'.fn = b.fn ∧ fr'.kind = b.kind ∧ fr'.mode = .returning ∧ fr'.defers = [] ∧ ∃ f, P.funcs[b.fn]? = some f ∧ (results f fr'.tmps).run P w' = .ok v' w'
  | some _ => ∀ c cs', cs = c :: cs' → Steps P m0 (lone (c.finish v') cs' w')
theorem Ends.of_steps {P : Program} {b : Frame} {cs : List Frame} {m0 m1 : Machine} {w' : World} {v' : Value} (h : Steps P m0 m1) (e : Ends P b cs m1 w' v') : Ends P b cs m0 w' v' := by
  unfold Ends at *
  split at e
  · obtain ⟨fr', h1, h2⟩ := e; exact ⟨fr', h.trans h1, h2⟩
  · exact fun c cs' hc => h.trans (e c cs' hc)
/-- What a frame holds, at a state of the evaluator. -/
structure FR (P : Program) (ρ : Map) (fn : Nat) (tm : Tm) (df : List Deferred) (rd : Option Nat) (b : Frame) (a : Act) (cs : List Frame) : Prop where
  hfn : b.fn = fn
  htm : TR ρ tm a.tmps
  hdf : DsR ρ df a.defers
  hrd : RdR ρ rd b.roundOf
  hkind : rd ≠ none → b.kind = .normal ∧ cs ≠ []
  hdk : b.kind ≠ .early
theorem FR.ext {P : Program} {ρ ρ' : Map} (h : Ext ρ ρ') {fn : Nat} {tm : Tm} {df : List Deferred} {rd : Option Nat} {b : Frame} {a : Act} {cs : List Frame} (r : FR P ρ fn tm df rd b a cs) : FR P ρ' fn tm df rd b a cs :=
  ⟨r.hfn, r.htm.ext h, r.hdf.ext h, r.hrd.ext h, r.hkind, r.hdk⟩
/-- What the evaluator's run of a frame says of the machine's. -/
def MainAt (P : Program) (B0 : Nat) (w0 : World) (q : Prog) (fn : Nat) (tm : Tm) (todo : List Item) (df : List Deferred) (rd : Option Nat) : Prop :=
  ∀ (s : St) (v : Value) (s' : St), q.run s = some (v, s') → todo.all (okItem P.globals.size) = true → ∀ (ρ : Map) (w : World) (b : Frame) (a : Act) (cs : List Frame), FR P ρ fn tm df rd b a cs →
    WR P ρ B0 w0 s.mem w → Fr ρ s.mem s.ctr s'.ctr → (∀ g, g < P.globals.size → ∃ x, ρ (gbase g) = some x ∧ x.B = g ∧ x.sh = 0) →
    ∃ ρ' w' v', Gr ρ ρ' s.ctr s'.ctr ∧ VR ρ' v v' ∧ WR P ρ' B0 w0 s'.mem w' ∧ Ends P b cs (lone (b.atR a todo) cs w) w' v'
def Main (P : Program) (B0 : Nat) (w0 : World) (io : Rec) : Prop := ∀ fn tm todo df rd, MainAt P B0 w0 (io fn tm todo df rd) fn tm todo df rd
/-- A step that only turns what is to be done. -/
theorem MainAt.step {P : Program} {B0 : Nat} {w0 : World} {q : Prog} {fn : Nat} {tm : Tm} {todo todo' : List Item} {df : List Deferred} {rd : Option Nat} (h : MainAt P B0 w0 q fn tm todo' df rd)
    (hok : todo.all (okItem P.globals.size) = true → todo'.all (okItem P.globals.size) = true)
    (hs : ∀ (ρ : Map) (b : Frame) (a : Act) (cs : List Frame) (w : World), FR P ρ fn tm df rd b a cs → (∀ g, g < P.globals.size → ∃ x, ρ (gbase g) = some x ∧ x.B = g ∧ x.sh = 0) → todo.all (okItem P.globals.size) = true →
      step P (lone (b.atR a todo) cs w) = .next (lone (b.atR a todo') cs w)) : MainAt P B0 w0 q fn tm todo df rd := by
  intro s v s' hr hk ρ w b a cs fr r fresh hg
  obtain ⟨ρ', w', v', h1, h2, h3, h4⟩ := h s v s' hr (hok hk) ρ w b a cs fr r fresh hg
  exact ⟨ρ', w', v', h1, h2, h3, h4.of_steps (.one (hs ρ b a cs w fr hg hk))⟩
/-- Operands. -/
theorem evO_ok {P : Program} {ρ : Map} {tm : Tm} {a : Act} (h : TR ρ tm a.tmps) (hg : ∀ g, g < P.globals.size → ∃ x, ρ (gbase g) = some x ∧ x.B = g ∧ x.sh = 0) {x : Operand} (ho : okO P.globals.size x = true) (hl : liveO tm x = true) : VR ρ (evO tm x) (a.eval x) := by
  cases x with
  | tmp t => exact h.2 t hl
  | const v => exact lit_VR ho ρ
  | global g =>
    obtain ⟨y, e1, e2, e3⟩ := hg g (Nat.le_of_ble_eq_true ho)
    have := VR.ptr (ρ := ρ) (o := 0) e1
    rw [e2, e3] at this
    exact this
  | func f => exact .fn (.func f) .nil .nil
theorem RdR.none_inv {ρ : Map} {o : Option Nat} (h : RdR ρ none o) : o = none := by
  cases o with
  | none => rfl
  | some _ => exact h.elim
theorem RdR.some_inv {ρ : Map} {l : Nat} {o : Option Nat} (h : RdR ρ (some l) o) : ∃ x, ρ l = some x ∧ o = some x.B := by
  cases o with
  | none => exact h.elim
  | some B => obtain ⟨x, e, rfl⟩ := h; exact ⟨x, e, rfl⟩
theorem GlOK.ext {P : Program} {ρ ρ' : Map} (h : Ext ρ ρ') (g : GlOK P ρ) : GlOK P ρ' := fun i hi => let ⟨x, a, b⟩ := g i hi; ⟨x, h _ _ a, b⟩
/-- The round's end: the record, the caller goes on. -/
theorem endRound_run {P : Program} {ρ : Map} {B0 : Nat} {w0 w : World} {l : Nat} {jump : Option Code} {s s' : St} {v : Value} (hj : ∀ c, jump = some c → okCode P.globals.size c = true)
    (h : (endRoundA l jump).run s = some (v, s')) (r : WR P ρ B0 w0 s.mem w) {x : Blk} (hx : ρ l = some x) :
    ∃ w', (Instr.endRound x.B jump).run P w = .ok (.bool jump.isNone) w' ∧ v = .bool jump.isNone ∧ WR P ρ B0 w0 s'.mem w' ∧ s'.ctr = s.ctr := by
  unfold endRoundA at h
  obtain ⟨o, ho, n1, n2, h1⟩ := obj_run h
  obtain ⟨p, hp, h2⟩ := opt_run h1
  obtain ⟨o0, ho0, m1, m2, h3⟩ := setObj_run h2
  obtain ⟨rfl, rfl⟩ := ret_run h3
  obtain ⟨ob, g1, g2, g3, g0⟩ := r.obj ho n1 n2 hx
  have ho' : o = .lp p := by
    unfold lpOf at hp
    split at hp
    · simp only [Option.some.injEq] at hp; rw [hp]
    · cases hp
  subst ho'
  cases g2 with
  | @lp _ a y htm hd ha hb hpd =>
  obtain ⟨e1, e2⟩ := r.setObj (k := l) (o' := .lp { p with st := afterR jump, pending := jump })
    (ob' := .loop { state := (if jump.isNone then .ready else .done), pending := jump, fn := p.fn, tmps := a, params := ⟨p.params⟩, assign := p.assign, body := p.body, defers := y.B }) ho0 m1 m2 hx rfl (by
      have e : (if jump.isNone then LoopState.ready else .done) = lst (afterR jump) := by cases jump <;> rfl
      rw [e]
      exact .lp (p := { p with st := afterR jump, pending := jump }) htm hd ha hb hj)
  refine ⟨_, ?_, rfl, e2, rfl⟩
  simp only [Instr.endRound, Instr.getLoop, Sem.run_bind, g1, Result.andThen_ok, Sem.run_pure, e1]
end Go.Ev
/- Soundness, part 15: temporaries; calls. -/
namespace Go.Ev
open Go Go.RowKit
section
variable {P : Program} {E : Env} {ρ : Map} {B0 : Nat} {w0 w : World}

theorem bit_or {lv d i : Nat} (h : Nat.testBit (Nat.lor lv (Nat.shiftLeft 1 d)) i = true) : i = d ∨ Nat.testBit lv i = true := by
  have h : Nat.testBit (lv ||| Nat.shiftLeft 1 d) i = true := h
  rw [Nat.testBit_or, Bool.or_eq_true] at h
  rcases h with h | h
  · exact .inr h
  · have e : Nat.shiftLeft 1 d = 2 ^ d := Nat.one_shiftLeft d
    rw [e, Nat.testBit_two_pow] at h
    exact .inl (of_decide_eq_true h).symm
theorem TR.put {tm : Tm} {a : Act} (h : TR ρ tm a.tmps) (d : Option Nat) {v v' : Value} (hv : VR ρ v v') : TR ρ (putT tm d v) (a.put d v').tmps := by
  cases d with
  | none => exact h
  | some d =>
    obtain ⟨hs, hg⟩ := h
    obtain ⟨nt, lv, t⟩ := tm
    simp only [putT, Tm.set, Act.put]
    simp only at hs hg
    split
    · rename_i hlt
      have hlt : d < nt := Nat.le_of_ble_eq_true hlt
      refine ⟨by simp [hs], fun i hb => ?_⟩
      simp only [Tm.get, Tr.get_set, Array.getD_eq_getD_getElem?]
      by_cases hi : i = d
      · subst hi
        rw [if_pos rfl, Array.getElem?_setIfInBounds_self, if_pos (by omega)]
        exact hv
      · rw [if_neg hi, Array.getElem?_setIfInBounds_ne (fun e => hi e.symm)]
        have := hg i ((bit_or hb).resolve_left hi)
        simp only [Tm.get, Array.getD_eq_getD_getElem?] at this
        exact this
    · rename_i hlt
      have hlt : ¬ (d < nt) := fun e => by
        have := Nat.ble_eq_true_of_le (show d + 1 ≤ nt from e)
        rw [show Nat.blt d nt = Nat.ble (d + 1) nt from rfl, this] at hlt; cases hlt
      refine ⟨by simp [hs], fun i hb => ?_⟩
      rw [Array.setIfInBounds_eq_of_size_le (by omega)]
      exact hg i hb
theorem putL_get {f : Nat → Value} {T : Tr Value} {t : Nat} : ∀ (l : List (Nat × Value)), (∀ p ∈ l, p.2 = f p.1) → (∃ p ∈ l, p.1 = t) → (putL l T).get t = some (f t) := by
  intro l
  induction l with
  | nil => rintro _ ⟨p, h, _⟩; cases h
  | cons q l ih =>
    rintro h ⟨p, hp, he⟩
    obtain ⟨i, v⟩ := q
    rw [putL, Tr.get_set]
    by_cases hi : t = i
    · subst hi
      rw [if_pos rfl]
      exact congrArg some (h (t, v) (List.mem_cons_self ..))
    · rw [if_neg hi]
      refine ih (fun p hp => h p (List.mem_cons_of_mem _ hp)) ?_
      rcases List.mem_cons.1 hp with rfl | hp
      · exact absurd he.symm hi
      · exact ⟨p, hp, he⟩
theorem bitsL_mem {t : Nat} : ∀ {l : List (Nat × Value)}, Nat.testBit (bitsL l) t = true → ∃ p ∈ l, p.1 = t := by
  intro l
  induction l with
  | nil => intro h; simp [bitsL] at h
  | cons q l ih =>
    intro h
    obtain ⟨i, v⟩ := q
    rcases bit_or h with h | h
    · exact ⟨(i, v), List.mem_cons_self .., h.symm⟩
    · obtain ⟨p, hp, e⟩ := ih h
      exact ⟨p, List.mem_cons_of_mem _ hp, e⟩
theorem keepL_mem {tm : Tm} {p : Nat × Value} : ∀ {l : List Nat}, p ∈ keepL tm l → p.2 = tm.get p.1 ∧ Nat.testBit tm.lv p.1 = true := by
  intro l
  induction l with
  | nil => intro h; cases h
  | cons i l ih =>
    intro h
    simp only [keepL] at h
    split at h
    · rename_i hb
      rcases List.mem_cons.1 h with rfl | h
      · exact ⟨rfl, hb⟩
      · exact ih h
    · exact ih h
theorem TR.keep {tm : Tm} {a : Array Value} (h : TR ρ tm a) (l : List Nat) : TR ρ (keepT tm l) a := by
  refine ⟨h.1, fun t ht => ?_⟩
  obtain ⟨p, hp, rfl⟩ := bitsL_mem (show Nat.testBit (bitsL (keepL tm l)) t = true from ht)
  have hg : (keepT tm l).get p.1 = tm.get p.1 := by
    have := putL_get (f := tm.get) (T := uTree (Nat.add (Nat.log2 tm.nt) 1)) (keepL tm l) (fun q hq => (keepL_mem hq).1) ⟨p, hp, rfl⟩
    show (match (putL (keepL tm l) (uTree (Nat.add (Nat.log2 tm.nt) 1))).get p.1 with | some v => v | none => U) = _
    rw [this]
  rw [hg]
  exact h.2 _ (keepL_mem hp).2
theorem uTree_get : ∀ (d k : Nat), (uTree d).get k = none ∨ (uTree d).get k = some U := by
  intro d
  induction d with
  | zero => intro k; exact .inl (Tr.get_nil k)
  | succ d ih =>
    intro k
    cases k with
    | zero => exact .inr rfl
    | succ k =>
      simp only [uTree, Tr.get_s]
      split
      · exact ih _
      · exact ih _
theorem argsT_get (t : Tr Value) : ∀ (l : List Value) (k j : Nat), (argsT l k t).get j = if k ≤ j ∧ j < k + l.length then l[j - k]? else t.get j := by
  intro l
  induction l with
  | nil => intro k j; rw [if_neg (by simp)]; rfl
  | cons v l ih =>
    intro k j
    rw [argsT, Tr.get_set, ih]
    by_cases hj : j = k
    · subst hj; rw [if_pos rfl, if_pos ⟨Nat.le_refl _, by simp⟩]; simp
    · rw [if_neg hj]
      simp only [Nat.add_eq, List.length_cons]
      by_cases hk : k + 1 ≤ j ∧ j < k + 1 + l.length
      · rw [if_pos hk, if_pos (by omega), show j - k = (j - (k + 1)) + 1 from by omega]
        rfl
      · rw [if_neg hk, if_neg (by omega)]
theorem TR.enter {args args' : List Value} (h : VRs ρ args args') {n : Nat} (hn : args.length ≤ n) : TR ρ (frameTm n args) ((⟨args'⟩ : Array Value) ++ Array.replicate (n - (⟨args'⟩ : Array Value).size) undef) := by
  have hl := h.length
  refine ⟨by simp [frameTm]; omega, fun i _ => ?_⟩
  simp only [Tm.get, frameTm, argsT_get, Nat.zero_le, true_and, Nat.zero_add, Nat.sub_zero, Array.getD_eq_getD_getElem?]
  cases ha : args[i]? with
  | some v =>
    rw [if_pos (List.getElem?_eq_some_iff.1 ha).1]
    obtain ⟨v', e1, e2⟩ := h.get ha
    have hlt : i < args'.length := (List.getElem?_eq_some_iff.1 e1).1
    have : ((⟨args'⟩ : Array Value) ++ Array.replicate (n - (⟨args'⟩ : Array Value).size) undef)[i]? = some v' := by
      rw [Array.getElem?_append_left (by simpa using hlt)]
      simpa using e1
    rw [this]
    exact e2
  | none =>
    have hge : args'.length ≤ i := by
      have := List.getElem?_eq_none_iff.1 ha
      omega
    rw [if_neg (by have := List.getElem?_eq_none_iff.1 ha; omega)]
    have hu : (match (uTree (Nat.add (Nat.log2 n) 1)).get i with | some v => v | none => U) = U := by
      rcases uTree_get (Nat.add (Nat.log2 n) 1) i with e | e <;> rw [e]
    have : (((⟨args'⟩ : Array Value) ++ Array.replicate (n - (⟨args'⟩ : Array Value).size) undef)[i]?).getD undef = undef := by
      rw [Array.getElem?_append_right (by simpa using hge), Array.getElem?_replicate]
      split <;> rfl
    rw [this]
    refine Eq.subst (motive := fun x => VR ρ x undef) hu.symm ?_
    exact U_VR ρ
/-- A slot: what is in it, and is it known? -/
noncomputable def tv (tm : Tm) (t : Nat) : Value × Bool := (tm.get t, Nat.testBit tm.lv t)
theorem bit_or_iff (lv d i : Nat) : Nat.testBit (Nat.lor lv (Nat.shiftLeft 1 d)) i = (decide (i = d) || Nat.testBit lv i) := by
  show Nat.testBit (lv ||| Nat.shiftLeft 1 d) i = _
  rw [Nat.testBit_or]
  have e : Nat.shiftLeft 1 d = 2 ^ d := Nat.one_shiftLeft d
  rw [e, Nat.testBit_two_pow, Bool.or_comm]
  congr 1
  exact decide_eq_decide.2 eq_comm
theorem putT_tv (tm : Tm) (d : Option Nat) (v : Value) (t : Nat) : tv (putT tm d v) t = if d = some t ∧ t < tm.nt then (v, true) else tv tm t := by
  cases d with
  | none => simp [putT]
  | some d =>
    obtain ⟨nt, lv, tr⟩ := tm
    simp only [tv, putT, Tm.set, Option.some.injEq]
    split
    · rename_i hlt
      have hlt : d < nt := Nat.le_of_ble_eq_true hlt
      simp only [Tm.get, Tr.get_set, bit_or_iff]
      by_cases e : t = d
      · subst e; rw [if_pos rfl, if_pos ⟨rfl, hlt⟩]; simp
      · rw [if_neg e, if_neg (fun h => e h.1.symm)]; simp [e]
    · rename_i hlt
      rw [if_neg]
      rintro ⟨rfl, h⟩
      rw [show Nat.blt d nt = true from Nat.ble_eq_true_of_le (show d + 1 ≤ nt from h)] at hlt; cases hlt
theorem liveO_congr {tm tm' : Tm} {x : Operand} (h : ∀ t, x = .tmp t → Nat.testBit tm.lv t = Nat.testBit tm'.lv t) : liveO tm x = liveO tm' x := by
  cases x with
  | tmp t => exact h t rfl
  | _ => rfl
theorem liveOs_congr {tm tm' : Tm} : ∀ {l : List Operand}, (∀ x ∈ l, liveO tm x = liveO tm' x) → liveOs tm l = liveOs tm' l
  | [], _ => rfl
  | x :: l, h => by
    simp only [liveOs, h x (List.mem_cons_self ..), liveOs_congr fun y hy => h y (List.mem_cons_of_mem _ hy)]
theorem putT_nt (tm : Tm) (d : Option Nat) (v : Value) : (putT tm d v).nt = tm.nt := by
  cases d with
  | none => rfl
  | some d =>
    obtain ⟨nt, tr⟩ := tm
    simp only [putT, Tm.set]
    split <;> rfl
/-- The same slots. -/
def Same (tm tm' : Tm) : Prop := tm'.nt = tm.nt ∧ ∀ t, tv tm' t = tv tm t
theorem Same.refl (tm : Tm) : Same tm tm := ⟨rfl, fun _ => rfl⟩
theorem Same.put {tm : Tm} {d : Nat} {v : Value} (h : tm.get d = v) (hb : Nat.testBit tm.lv d = true) : Same tm (putT tm (some d) v) := by
  refine ⟨?_, fun t => ?_⟩
  · obtain ⟨nt, lv, tr⟩ := tm
    simp only [putT, Tm.set]
    split <;> rfl
  · rw [putT_tv]
    split
    · rename_i hc
      have hd : d = t := by simpa using hc.1
      subst hd
      simp only [tv, h, hb]
    · rfl
theorem TR.same {tm tm' : Tm} {a : Array Value} (h : TR ρ tm a) (hs : Same tm tm') : TR ρ tm' a := by
  refine ⟨h.1.trans hs.1.symm, fun t ht => ?_⟩
  have e := hs.2 t
  have e1 : tm'.get t = tm.get t := congrArg Prod.fst e
  have e2 : Nat.testBit tm'.lv t = Nat.testBit tm.lv t := congrArg Prod.snd e
  rw [e1]
  exact h.2 t (e2 ▸ ht)
theorem guardC_run {all : List Oper} {tm : Tm} {o : Oper} {A B : Tm → Prog} {s : St} {r : Value × St} (hl : liveG all tm o = true) (h : (guardC all tm o A B).run s = some r) :
    ∃ tm', Same tm tm' ∧ ((wantedA all tm o = true ∧ (A tm').run s = some r) ∨ (wantedA all tm o = false ∧ (B tm').run s = some r)) := by
  unfold guardC at h
  unfold wantedA
  unfold liveG at hl
  cases hg : o.guard with
  | none =>
    rw [hg] at h
    exact ⟨tm, Same.refl tm, .inl ⟨rfl, h⟩⟩
  | some g =>
    obtain ⟨j, want⟩ := g
    rw [hg] at h hl
    dsimp only at h hl ⊢
    cases hj : all[j]? with
    | none =>
      rw [hj] at h
      exact ⟨tm, Same.refl tm, .inr ⟨rfl, h⟩⟩
    | some oj =>
      rw [hj] at h hl
      dsimp only at h hl ⊢
      cases hd : oj.dst with
      | none =>
        rw [hd] at h
        exact ⟨tm, Same.refl tm, .inr ⟨rfl, h⟩⟩
      | some d =>
        rw [hd] at h hl
        dsimp only at h hl ⊢
        cases hv : tm.get d with
        | bool b =>
          rw [hv] at h
          dsimp only at h ⊢
          cases b with
          | true =>
            refine ⟨putT tm (some d) (.bool true), Same.put hv hl, ?_⟩
            cases want with
            | true => exact .inl ⟨rfl, h⟩
            | false => exact .inr ⟨rfl, h⟩
          | false =>
            refine ⟨putT tm (some d) (.bool false), Same.put hv hl, ?_⟩
            cases want with
            | true => exact .inr ⟨rfl, h⟩
            | false => exact .inl ⟨rfl, h⟩
        | _ =>
          rw [hv] at h
          exact ⟨tm, Same.refl tm, .inr ⟨rfl, h⟩⟩
theorem wanted_ok {ops : Array Oper} {tm : Tm} {a : Act} (h : TR ρ tm a.tmps) (o : Oper) (hl : liveG ops.toList tm o = true) : Region.wanted o (yielded ops a.tmps) = wantedA ops.toList tm o := by
  unfold Region.wanted wantedA
  unfold liveG at hl
  cases hgd : o.guard with
  | none => rfl
  | some g =>
    obtain ⟨j, want⟩ := g
    rw [hgd] at hl
    simp only [yielded]
    have e : ops.toList[j]? = ops[j]? := by simp
    simp only [e] at hl ⊢
    cases hoj : ops[j]? with
    | none => rfl
    | some oj =>
      rw [hoj] at hl
      simp only [Option.bind_some] at hl ⊢
      cases hod : oj.dst with
      | none => rfl
      | some d =>
        rw [hod] at hl
        simp only [Option.bind_some] at hl ⊢
        have hd := h.2 d hl
        rw [Array.getD_eq_getD_getElem?] at hd
        cases hx : a.tmps[d]? with
        | none =>
          rw [hx] at hd
          simp only [Option.getD_none] at hd
          generalize tm.get d = u at hd
          cases hd
          rfl
        | some u =>
          rw [hx] at hd
          simp only [Option.getD_some] at hd
          generalize tm.get d = u0 at hd
          cases hd <;> first | rfl | (rename_i b; cases b <;> cases want <;> rfl)
end
end Go.Ev
