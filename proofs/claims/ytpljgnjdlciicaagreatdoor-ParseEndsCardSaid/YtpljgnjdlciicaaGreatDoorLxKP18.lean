import Derived.Test.YtpljgnjdlciicaaGreatDoorLxKP17
namespace Go.Ev
open Go Go.RowKit
section
variable {P : Program} {E : Env} (ok : EnvOK P E) {ρ : Map} {B0 : Nat} {w0 w : World}
theorem findByte_ok (c : Nat) (hc : c < 256) (b : ByteArray) : ∀ (l : List UInt8) (i : Nat), b.data.toList.drop i = l →
    (match (List.range' i l.length).find? (fun i => b[i]! == UInt8.ofNat c) with | some j => ((j : Nat) : Int) | none => -1) = findByte c l i := by
  intro l
  induction l with
  | nil => intro i _; rfl
  | cons x l ih =>
    intro i h
    have hx : b.data.toList[i]? = some x := by
      have : (b.data.toList.drop i)[0]? = some x := by rw [h]; rfl
      simpa using this
    have hlt : i < b.size := (List.getElem?_eq_some_iff.1 hx).1
    have hb : b[i]! = x := by
      rw [getElem!_pos b i hlt]
      exact (List.getElem?_eq_some_iff.1 hx).2
    have hd : b.data.toList.drop (i + 1) = l := by
      have : (b.data.toList.drop i).drop 1 = l := by rw [h]; rfl
      simpa [Nat.add_comm] using this
    rw [List.length_cons, List.range'_succ, List.find?_cons, hb]
    simp only [findByte]
    cases hxc : Nat.beq x.toNat c with
    | true =>
      have e : (x == UInt8.ofNat c) = true := by
        have := Nat.eq_of_beq_eq_true hxc
        rw [beq_iff_eq, ← this]; simp
      rw [e]
      rfl
    | false =>
      have e : (x == UInt8.ofNat c) = false := by
        rw [beq_eq_false_iff_ne]
        rintro rfl
        simp [Nat.mod_eq_of_lt hc] at hxc
      rw [e]
      simp only [Nat.add_eq]
      exact ih (i + 1) hd
theorem digits_size : ∀ (n t : Nat) (acc : Array Value), (Extern.BytealgMakeNoZero.digits n t acc).size = acc.size + n
  | 0, _, acc => rfl
  | n + 1, t, acc => by
    rw [Extern.BytealgMakeNoZero.digits, digits_size n]
    simp; omega
theorem externA_ok (ok : EnvOK P E) {f code : Nat} {fn : Func} (hf : E.fn.get f = some fn) (hx : E.ext.get f = some code) (hb : fn.body = none) {args args' : List Value} {s s' : St} {v : Value}
    (h : (externA E code fn args).run s = some (v, s')) (r : WR P ρ B0 w0 s.mem w) (fr : Fr ρ s.mem s.ctr s'.ctr) (ha : VRs ρ args args') :
    NR P ρ B0 w0 s s' v ((callFunc f ⟨args'⟩).run P w) := by
  obtain ⟨hn, e, he, hsem⟩ := ok.ext f fn code hf hx
  have hPf := ok.fn f fn hf
  have hname := ok.names f fn hf
  have hrun : (callFunc f ⟨args'⟩).run P w = ((do pure (.value (← e ⟨args'⟩))) : Sem Next).run P w := by
    unfold callFunc
    simp only [Sem.run_bind, show (program).run P w = .ok P w from rfl, Result.andThen_ok, hPf, hname, Bool.false_eq_true, if_false, hb, Option.isNone_none, if_true, hn, he]
    rfl
  rw [hrun]
  refine NR.value ?_
  clear hrun he hn
  unfold externA at h
  split at h
  · rename_i b c
    obtain rfl : e = Extern.BytealgIndexByte.indexByte := hsem
    obtain ⟨b', c', rfl, h1, h2⟩ := ha.two
    cases h1; cases h2
    obtain ⟨hc, h3⟩ := gd_run h
    obtain ⟨rfl, rfl⟩ := ret_run h3
    simp only [Bool.and_eq_true, decide_eq_true_eq] at hc
    obtain ⟨m, hm⟩ : ∃ m : Nat, c = (m : Int) := ⟨c.toNat, by omega⟩
    have hc8 : m < 256 := by omega
    have hm' : c = Int.ofNat m := hm
    clear hm
    subst hm'
    rename Nat => c
    have htn : (Int.ofNat c).toNat = c := rfl
    rw [htn]
    have hfb := findByte_ok c hc8 b b.data.toList 0 rfl
    have hby : (Extern.Bytes.asByte (.int .u8 (Int.ofNat c))).run P w = .ok (UInt8.ofNat c) w := rfl
    have hbs : (Extern.Bytes.bytesOf (.string b)).run P w = .ok b w := rfl
    rw [← List.range_eq_range'] at hfb
    have hsz : b.data.toList.length = b.size := rfl
    rw [hsz] at hfb
    have : (Extern.BytealgIndexByte.indexByte ⟨[.string b, .int .u8 (Int.ofNat c)]⟩).run P w = .ok (vInt (findByte c b.data.toList 0)) w := by
      have e1 : Extern.BytealgIndexByte.indexByte ⟨[.string b, .int .u8 (Int.ofNat c)]⟩ = (do
          let b ← Extern.Bytes.bytesOf (.string b)
          let c ← Extern.Bytes.asByte (.int .u8 (Int.ofNat c))
          match (List.range b.size).find? fun i => b[i]! == c with
          | some i => pure (goInt i)
          | none => pure (goInt (-1)) : Sem Value) := rfl
      rw [e1]
      simp only [Sem.run_bind, hbs, hby, Result.andThen_ok]
      rw [← hfb]
      cases (List.range b.size).find? (fun i => b[i]! == UInt8.ofNat c) <;> rfl
    rw [this]
    exact SR.pure r rfl rfl (.int _ _)
  · rename_i n
    obtain ⟨ps, rfl⟩ : ∃ ps, e = Extern.BytealgMakeNoZero.makeNoZero ps fn.resultTypes := hsem
    obtain ⟨n', rfl, h1⟩ := ha.one
    cases h1
    split at h
    · rename_i t ts htr
      obtain ⟨e, he, h2⟩ := opt_run h
      obtain ⟨hg, h3⟩ := gd_run h2
      simp only [Bool.and_eq_true] at hg
      have hle := Nat.le_of_ble_eq_true hg.1
      obtain ⟨hlen, h4⟩ := newH_run h3
      obtain ⟨rfl, rfl⟩ := ret_run h4
      obtain ⟨i, hi, hisz⟩ : ∃ i, E.ty.get e = some i ∧ i.size = 1 := by
        have hone := hg.2
        unfold isOne at hone
        split at hone
        · rename_i n hn
          obtain ⟨i, a, b⟩ := size_ok hn
          exact ⟨i, a, b.trans (Nat.eq_of_beq_eq_true hone)⟩
        · cases hone
      have ht := elemOfSlice_ok he
      have hr0 : fn.resultTypes[0]? = some t := by
        have : fn.resultTypes.toList[0]? = some t := by rw [htr]; rfl
        simpa using this
      generalize hj : w.tape w.drawn (.appendCap n 0 e) % (2 ^ 63 - n) = j
      have hc : (choose (.appendCap n 0 e)).run P w = .ok (n + j) w.drew := by rw [← hj]; rfl
      generalize hbt : w.drew.tape w.drew.drawn (.extern "internal/bytealg.MakeNoZero.bytes" 0) = bt
      have hc2 : (choose (.extern "internal/bytealg.MakeNoZero.bytes" 0)).run P w.drew = .ok bt w.drew.drew := by rw [← hbt]; rfl
      have hsz := digits_size (n + j) bt #[]
      simp only [List.size_toArray, List.length_nil, Nat.zero_add] at hsz
      have hcond : ((decide ((Int.ofNat n) < 0) || decide ((Int.ofNat n) > 2 ^ 48)) = true) = False := by
        simp only [Bool.or_eq_true, decide_eq_true_eq, eq_iff_iff, iff_false, not_or]
        constructor
        · exact Int.not_lt.2 (Int.natCast_nonneg n)
        · show ¬ ((n : Int) > 2 ^ 48); omega
      have hrun : (Extern.BytealgMakeNoZero.makeNoZero ps fn.resultTypes ⟨[.int .i64 (Int.ofNat n)]⟩).run P w =
          .ok (.slice (some ⟨w.heap.size, 0, none⟩) n (n + j)) (w.drew.drew.alloc (.cells (Extern.BytealgMakeNoZero.digits (n + j) bt #[]) e)) := by
        have hn : (newRow e (Extern.BytealgMakeNoZero.digits (n + j) bt #[])).run P w.drew.drew = .ok ⟨w.heap.size, 0, none⟩ (w.drew.drew.alloc (.cells (Extern.BytealgMakeNoZero.digits (n + j) bt #[]) e)) := rfl
        have e1 : Extern.BytealgMakeNoZero.makeNoZero ps fn.resultTypes ⟨[.int .i64 (Int.ofNat n)]⟩ = (do
            let some t := fn.resultTypes[0]? | stuck "bytealg.MakeNoZero: no result type"
            let .slice elem ← underlying t | stuck "bytealg.MakeNoZero: slice type expected"
            if (Int.ofNat n) < 0 || (Int.ofNat n) > 2 ^ 48 then runtimePanic (.error "makeslice: len out of range")
            let cap ← choose (.appendCap (Int.ofNat n).toNat 0 elem)
            askRoom cap
            let bytes ← choose (.extern "internal/bytealg.MakeNoZero.bytes" 0)
            let a ← newRow elem (Extern.BytealgMakeNoZero.digits cap bytes #[])
            pure (.slice (some a) (Int.ofNat n).toNat cap) : Sem Value) := rfl
        rw [e1]
        simp only [Sem.run_bind, hr0, run_und ok ht, Result.andThen_ok, hcond, if_false]
        rw [show (Int.ofNat n).toNat = n from rfl]
        simp only [hc, Result.andThen_ok, run_askRoom, hc2, hn, Sem.run_pure]
      rw [hrun]
      have rm := r.drew.drew.mr.new (k := s.ctr) (n := n) (vs := []) (vs' := []) (el := e) (ex := false) (z := true) (sy := false) (c := Extern.BytealgMakeNoZero.digits (n + j) bt #[]) (lo := 0) (hi := 0) (sz := 1)
        (w1 := w.drew.drew.alloc (.cells (Extern.BytealgMakeNoZero.digits (n + j) bt #[]) e)) fr (Nat.zero_le _) .nil rfl r.size (fun q u e => by simp at e) (by omega) (fun h => by cases h) ⟨i, ok.ty _ _ hi, hisz⟩ (Nat.le_refl _)
        (fun q h1 h2 => absurd h2 (by omega)) (fun _ => Nat.le_refl _)
      rw [hsz] at rm
      refine ⟨upd ρ s.ctr ⟨w.heap.size, 0, n + j, 1, []⟩, _, _, ⟨Ext.upd _ (fr.map s.ctr (Nat.le_refl _) (by simp only; omega)), fun k hk => upd_ne (by simp only at hk; omega)⟩, by simp only; omega, rfl, ?_, rm, ?_, r.hB⟩
      · refine VR.sl (x := ⟨w.heap.size, 0, n + j, 1, []⟩) (upd_same _ _ _) (.inl rfl) (by rw [capOf_lo]; exact Nat.le_add_right _ _) (fun h => by rw [capOf_ex] at h; cases h) (fun _ => .inr ?_) (Nat.le_add_right _ _)
        simp
      · exact r.drew.drew.bel.alloc r.drew.drew.size _
    · exact (fail_run h).elim
  · obtain rfl : e = Extern.AbiNoEscape.same := hsem
    obtain ⟨n', rfl, h1⟩ := ha.one
    obtain ⟨rfl, rfl⟩ := ret_run h
    exact SR.pure r rfl rfl h1
  · rename_i t m
    obtain rfl : e = Extern.MapsClone.clone := hsem
    obtain ⟨n', rfl, h1⟩ := ha.one
    obtain ⟨hlt, h⟩ := ck_run h
    have hlt : t < 1000000000 := Nat.le_of_ble_eq_true hlt
    cases h1 with
    | iface _ h1 =>
    obtain ⟨y, hy, rfl⟩ := h1.mp_inv
    obtain ⟨o, ho, n1, n2, h5⟩ := obj_run h
    obtain ⟨⟨es, c⟩, hec, h6⟩ := opt_run h5
    obtain rfl := entsOf_ok hec
    obtain ⟨ob, g1, g2, g3, g0⟩ := r.obj ho n1 n2 hy
    obtain ⟨es', rfl, hes⟩ := g2.mp_inv
    obtain ⟨rfl, rfl⟩ := ret_run (newObj_run h6)
    obtain ⟨ρ', g, hk, wr⟩ := r.newObj (k := s.ctr) (o := .mp es c) (ob := .map ⟨es'⟩ c) fr rfl (.mp c hes)
    have hrun : (Extern.MapsClone.clone ⟨[.iface t (.map (some y.B))]⟩).run P w = .ok (.iface t (.map (some w.heap.size))) (w.alloc (.map ⟨es'⟩ c)) := by
      have e1 : Extern.MapsClone.clone ⟨[.iface t (.map (some y.B))]⟩ = (do
          let .map entries clock ← getObj y.B | stuck "maps.clone: a map expected"
          pure (.iface t (.map (some (← newObj (.map entries clock))))) : Sem Value) := rfl
      rw [e1]
      simp only [Sem.run_bind, g1, Result.andThen_ok, Go.run_newObj_alloc, Sem.run_pure]
    rw [hrun]
    exact ⟨ρ', _, _, g, Nat.le_succ _, rfl, .iface hlt (.mp hk), wr⟩
  · exact (fail_run h).elim
end
end Go.Ev
