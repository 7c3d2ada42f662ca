/- TextNumbers: for every input the call returns true, and the arguments read behind it as they did before (the row's statement). Conditions: the listed package-level variables read, when the call begins, as the row's cell 'laid' says (the card ties them to the program's text). -/
import Derived.Test.YtmjbmbmnnephjaaGreatDoorRows
import Derived.ProofKit
import Derived.LaidMore
import Derived.OpenShut
import Derived.Stop.Joined
import Derived.MakeChecks
import Derived.Lay
import Derived.LaidLaws
import Derived.ChangeMaps5
import Derived.Test.YtmjbmbmnnephjaaGreatDoorLxKN20
namespace Go.Proofs.YtmjbmbmnnephjaaGreatDoor
open Go Go.ChangeShapes Go.WideShapes Go.ChangeAt Go.WideMaps Go.WideElems Go.ChangeMaps Go.RowKit

theorem own : ownKnob Tryz.prog.godebug = none := by kernel_rfl
theorem laidOut : laidOutB Tryz.prog = true := by kernel_rfl
theorem gSyn : Tryz.prog.globalNamed "strconv.ErrSyntax" = some 6 := by kernel_rfl
theorem gRng : Tryz.prog.globalNamed "strconv.ErrRange" = some 7 := by kernel_rfl
theorem tSyn : (Tryz.prog.globals[6]?).map (·.type) = some 103 := by kernel_rfl
theorem tRng : (Tryz.prog.globals[7]?).map (·.type) = some 103 := by kernel_rfl
theorem row6 : (((begin Tryz.prog (fun _ _ => 0) default).world.heap[6]?).bind Obj.row?).map (·.2) = some 103 := by kernel_rfl
theorem row7 : (((begin Tryz.prog (fun _ _ => 0) default).world.heap[7]?).bind Obj.row?).map (·.2) = some 103 := by kernel_rfl
theorem gsz8 : Tryz.prog.globals.size = 8 := by kernel_rfl
theorem typesN : Tryz.prog.types.size ≤ 1000000 := of_decide_eq_true (by kernel_rfl)
/-- A variable's block, in a world that has the program's shape. -/
theorem shaped_at {W : World} (h : W.ShapedOpen Tryz.prog) {g t : Nat} (hg : g < Tryz.prog.globals.size) (hr : (((begin Tryz.prog (fun _ _ => 0) default).world.heap[g]?).bind Obj.row?).map (·.2) = some t) : ∃ cs, W.heap[g]? = some (.cells cs t (0, 0)) := by
  obtain ⟨h1, _⟩ := h
  cases hz : ((begin Tryz.prog (fun _ _ => 0) default).world.heap[g]?).bind Obj.row? with
  | none => rw [hz] at hr; cases hr
  | some x =>
    obtain ⟨zero, t'⟩ := x
    rw [hz] at hr
    obtain rfl : t' = t := by simpa using hr
    obtain ⟨cs, e, _⟩ := h1 g zero t' hg hz
    exact ⟨cs, e⟩
theorem err_type (u : Nat) (h : Tryz.prog.typeName? 3 u = some "*errors.errorString") : u = 206 :=
  typeName_ptr_named (P := Tryz.prog) (nm := "errors.errorString") (tp := 206) (by kernel_rfl) (by kernel_rfl) (by decide) u h
theorem c208 : Tryz.prog.cellsOf 208 = 1 := by kernel_rfl
theorem one_cell {v p : Value} (h : v.cells.toList = [p]) : ∃ ag, v = exV ag p := by
  cases v with
  | agg c =>
    obtain ⟨l⟩ := c
    have h : l = [p] := h
    exact ⟨true, by rw [h]; rfl⟩
  | _ =>
    refine ⟨false, ?_⟩
    have h := List.head_eq_of_cons_eq h
    exact h
/-- What the condition says of an error's variable. -/
theorem of_err {W : World} {g : Nat} {n : String} {cs : Array Value} {fuel : Nat} {d : DataW Unit} {p : List MemPlace} (hg : Tryz.prog.globalNamed n = some g) (hb : W.heap[g]? = some (.cells cs 103 (0, 0)))
    {cs' : Array Value} (hv : W.var? Tryz.prog n = some cs') (hd : DataW.trod (fun _ => ()) Tryz.prog W 0 (fun _ => true) false fuel 103 cs'.toList = some (.iface "*errors.errorString" (.ptr d), p)) :
    ∃ ag a, cs = #[.iface 206 (exV ag (.pointer (some a)))] ∧ a.spot = none ∧ a.block < W.heap.size := by
  have hcs : cs' = cs := by
    simp only [World.var?, hg, Option.bind_some, hb, Option.some.injEq] at hv
    exact hv.symm
  subst hcs
  obtain ⟨n, u, v, hc, hn, hr⟩ := iface_of_trod Tryz.underlying103 hd
  obtain rfl := err_type u hn
  obtain ⟨m, a, cs2, q, hvc, hcells, _, _⟩ := ptr_of_trod Tryz.underlying206 hr
  · have hcell : ∃ x, W.cell? (a.add 0) = some x := by
      unfold World.cells? at hcells
      rw [if_pos (Nat.zero_le _), c208] at hcells
      simp only [List.range_succ, List.range_zero, List.nil_append, List.mapM_cons, List.mapM_nil] at hcells
      cases hcc : W.cell? (a.add 0) with
      | none => simp [hcc] at hcells
      | some c => exact ⟨c, rfl⟩
    obtain ⟨x, hcell⟩ := hcell
    have e0 : a.add 0 = a := by simp [Addr.add]
    rw [e0] at hcell
    have hsp : a.spot = none ∧ a.block < W.heap.size := by
      unfold World.cell? at hcell
      split at hcell
      · rename_i hh
        refine ⟨?_, (Array.getElem?_eq_some_iff.1 hh).1⟩
        cases hs : a.spot with
        | none => rfl
        | some s => rw [hs] at hcell; simp at hcell
      · cases hcell
    have hcs : cs' = #[.iface 206 v] := by
      apply Array.toList_inj.1
      rw [hc]
    obtain ⟨ag, rfl⟩ := one_cell hvc
    exact ⟨ag, a, hcs, hsp.1, hsp.2⟩
theorem gPow : Tryz.prog.globalNamed "internal/strconv.uint64pow10" = some 0 := by kernel_rfl
theorem tPow : (Tryz.prog.globals[0]?).map (·.type) = some 176 := by kernel_rfl
theorem u176 : Tryz.prog.underlying 176 = some (.array 20 91) := by kernel_rfl
theorem c176 : Tryz.prog.cellsOf 176 = 20 := by kernel_rfl
theorem c91 : Tryz.prog.cellsOf 91 = 1 := by kernel_rfl
theorem row0 : (((begin Tryz.prog (fun _ _ => 0) default).world.heap[0]?).bind Obj.row?).map (·.2) = some 176 := by kernel_rfl
/-- What the condition says of the table's cells. -/
theorem of_pow {W : World} {cs cs' : Array Value} {fuel : Nat} {p : List MemPlace} (hb : W.heap[0]? = some (.cells cs 176 (0, 0))) (hv2 : W.var? Tryz.prog "internal/strconv.uint64pow10" = some cs')
    (hd2 : DataW.trod (fun _ => ()) Tryz.prog W 0 (fun _ => true) false fuel 176 cs'.toList = some (Rows.laid_internal_strconv_uint64pow10, p)) : cs.size = 20 ∧ ∀ (i : Nat) (v : Value), pow10L[i]? = some v → cs[i]? = some v := by
  have hcs : cs' = cs := by
    simp only [World.var?, gPow, Option.bind_some, hb, Option.some.injEq] at hv2
    exact hv2.symm
  subst hcs
  obtain ⟨xs, m, rfl, hx, hlen, hn, hel⟩ := DataW.trod_array u176 hd2
  rw [c176] at hlen
  have hsz : cs'.size = 20 := by simpa using hlen
  refine ⟨hsz, fun i v hv => ?_⟩
  have hi : i < 20 := by have := (List.getElem?_eq_some_iff.1 hv).1; rw [pow10L_len] at this; exact this
  have hxi := hel i hi
  have hlt : i < xs.length := by omega
  rw [List.getElem?_eq_getElem hlt] at hxi
  obtain ⟨k, e1, e2, _⟩ := DataW.trod_int Tryz.underlying91 hxi
  have hki : (xs.map (·.1))[i]? = some (.lit (.int .u64 k)) := by
    rw [List.getElem?_map, List.getElem?_eq_getElem hlt, e2]; rfl
  have hlist : xs.map (·.1) = pow10L.map (fun v => match v with | .int k n => .lit (.int k n) | _ => .nil) := by
    have hx1 : DataW.agg (pow10L.map (fun v => match v with | .int k n => .lit (.int k n) | _ => .nil)) = DataW.agg (xs.map (·.1)) := congrArg Prod.fst hx
    exact (DataW.agg.inj hx1).symm
  rw [hlist, List.getElem?_map, hv] at hki
  rw [c91] at e1
  have hcell : cs'.toList[i]? = some (.int .u64 k) := by
    have : ((cs'.toList.drop (i * 1)).take 1)[0]? = some (.int .u64 k) := by rw [e1]; rfl
    simpa using this
  have hvv : v = .int .u64 k := by
    obtain ⟨n, rfl⟩ := pow10L_int v (List.mem_of_getElem? hv)
    have h : (DataW.lit (.int .u64 n) : DataW Unit) = .lit (.int .u64 k) := by simpa using hki
    simp only [DataW.lit.injEq, Lit.int.injEq, true_and] at h
    rw [h]
  rw [hvv]
  simpa using hcell
theorem wf64 {n : Int} (h : (Lit.int .i64 n).wf = true) : Go.Num.nul ≤ n ∧ n ≤ 9223372036854775807 := by
  simp only [Lit.wf, Bool.and_eq_true, decide_eq_true_eq] at h
  exact h
/-- The builder of the row's form, with what is known of the memory's shape. -/
theorem returns_shaped {H : Type} {enc : TypeId × Value → H} {a : Assume} {C : Checked} {os : Os} {f : FuncId} {fn : Func} {s : ChangeSpec} {apart fresh handsOn again : Bool} {X : World → Prop} (hX : ∀ (w w' : World), w.heap = w'.heap → X w → X w')
    (own : ownKnob C.prog.godebug = none) (started : os.Started) (noInit : C.prog.inits.idxOf? f = none) (hfn : C.prog.funcs[f]? = some fn)
    (witness : ∃ (w : World) (tape : Tape) (i : Input), w.os = os ∧ (w.forCall tape i).Shaped C.prog ∧ i.vars = [] ∧ Input.okWide C.prog (w.forCall tape i) .any w.heap.size f i ∧
      ((s.pre enc C.prog fn [] apart (w.forCall tape i).memory i.args ∧ X (w.forCall tape i).memory) ∧ sizedMet enc C.prog fn (OpenSpec.ofChange s) apart (w.forCall tape i).memory i.args) ∧ a.holds C.prog (lone (Frame.enter C.prog f i.args .normal) [] (w.forCall tape i)))
    (contract : ∀ (W : World) (base : Nat) (args : Array Value) (ds gs : List (DataW H)) (before : List MemPlace), W.ShapedOpen C.prog →
      (∀ (j : Nat) t v, fn.params[j]? = some t → args[j]? = some v → Value.okWide C.prog W .any base t v) → DataW.Whole enc C.prog fn.params.toList s.vars apart W args.toList ds gs before → X W →
      Calls C.prog f args W fun e W' => ∃ v, e = .returned v ∧ s.post enc C.prog fn apart fresh handsOn again W args v W') :
    ReturnsInHanded a C os f .any (fun w args => (s.pre enc C.prog fn [] apart w args ∧ X w) ∧ sizedMet enc C.prog fn (OpenSpec.ofChange s) apart w args) (s.post enc C.prog fn apart fresh handsOn again) := by
  refine returnsInHanded_of_calls own started noInit witness ?_
  intro w tape i _ hsh _ hok hpre _
  obtain ⟨_, _, _, fn', hfn', _, _, _, _, hval⟩ := hok
  obtain rfl : fn' = fn := Option.some.inj (hfn'.symm.trans hfn)
  obtain ⟨⟨⟨ds, gs, before, hw, _⟩, hx⟩, _⟩ := hpre
  refine (contract (w.forCall tape i) w.heap.size i.args ds gs before hsh hval (DataW.Whole.of_heap (w' := w.forCall tape i) (by rfl) hw) (hX _ _ (by rfl) hx)).mono fun e W' ⟨v, he, hp⟩ => ?_
  subst he
  exact ChangeSpec.post_blind hp
set_option maxRecDepth 100000 in
theorem lifted (os : Os) (started : os.Started) (H : Type) (enc : TypeId × Value → H) :
    ReturnsInHanded {} Tryz.checked os 9 .any (fun w args => (Rows.textNumbersSpec.pre enc Tryz.prog Tryz.f9 [] false w args ∧ laidMetH Tryz.prog Rows.textNumbersRow.laid w) ∧ sizedMet enc Tryz.prog Tryz.f9 (OpenSpec.ofChange Rows.textNumbersSpec) false w args)
      (Rows.textNumbersSpec.post enc Tryz.prog Tryz.f9 false true false false) := by
  refine returns_shaped (C := Tryz.checked) (X := fun w => laidMetH Tryz.prog Rows.textNumbersRow.laid w) (fun _ _ hh h => h.of_heap hh) own started (by kernel_rfl) Tryz.func9
    (ChangeSpec.witness_shaped (enc := enc) (C := Tryz.checked) (os := os) (X := fun w _ => laidMetH Tryz.prog Rows.textNumbersRow.laid w) false (World.laidAll Tryz.prog os Rows.textNumbersRow.laid) #[.int .i64 0, .int .i64 0] 8 (World.laidAll_os _ _ _) (World.shaped_of_ZipB (by kernel_rfl) (by kernel_rfl)) (by kernel_rfl) (by kernel_rfl) (by kernel_rfl)
      (by rw [MakeChecks.laidMetH_plain _ _ _ (by kernel_rfl)]; exact laidMet_laidAll _ (by kernel_rfl) (by kernel_rfl))) ?_
  intro W base args ds gs before hsh hval0 hW hL
  have hval : ∀ (j : Nat) t v, Tryz.f9.params[j]? = some t → args[j]? = some v → Value.okWide Tryz.prog W .any base t v := hval0
  have hW' := hW
  obtain ⟨p, q, hA0, hV, rfl, hfz, hnd⟩ := hW
  have hA : DataW.TrodAll enc Tryz.prog W 0 (fun _ => true) true Tryz.f9.params.toList args.toList ds p := hA0
  rw [Tryz.params9] at hA hval
  obtain ⟨v0, v1, d0, d1, p0, p1, rfl, rfl, rfl, h0, h1⟩ := trodAll_two hA
  obtain ⟨rfl, rfl⟩ := trodVars_none hV
  obtain ⟨a, rfl, rfl, rfl, wa⟩ := open_int Tryz.underlying2 (hval 0 2 v0 rfl rfl) h0
  obtain ⟨b, rfl, rfl, rfl, wb⟩ := open_int Tryz.underlying2 (hval 1 2 v1 rfl rfl) h1
  obtain ⟨c0, hc0⟩ := shaped_at hsh (by rw [gsz8]; omega) row0
  obtain ⟨c6, hc6⟩ := shaped_at hsh (by rw [gsz8]; omega) row6
  obtain ⟨c7, hc7⟩ := shaped_at hsh (by rw [gsz8]; omega) row7
  have hgs : Tryz.prog.globals.size ≤ W.heap.size := by
    rw [gsz8]
    have := (Array.getElem?_eq_some_iff.1 hc7).1
    omega
  rw [MakeChecks.laidMetH_plain _ _ _ (by kernel_rfl)] at hL
  obtain ⟨ps, ⟨g0, t0, cs0, f0, q0, r0, _, _, _, _, ⟨g1, t1, cs1, f1, q1, r1, _, _, _, _, ⟨g2, t2, cs2, f2, q2, r2, hg2, ht2, hv2, hd2, ⟨g3, t3, cs3, f3, q3, r3, _, _, _, _, ⟨g4, t4, cs4, f4, q4, r4, _, _, _, _, ⟨g5, t5, cs5, f5, q5, r5, hg5, ht5, hv5, hd5, _⟩, _⟩, _⟩, _⟩, _⟩, _⟩, _⟩ := hL
  obtain rfl := Option.some.inj (gPow.symm.trans hg2)
  obtain rfl := Option.some.inj (tPow.symm.trans ht2)
  obtain rfl := Option.some.inj (gSyn.symm.trans hg5)
  obtain rfl := Option.some.inj (tSyn.symm.trans ht5)
  obtain ⟨hsz, hcells⟩ := of_pow hc0 hv2 hd2
  obtain ⟨ag6, a6, rfl, hs6, hb6⟩ := of_err gSyn hc6 hv5 hd5
  refine (walkN W a b (wf64 wa) (wf64 wb) 206 ag6 a6 (by omega) hs6 hb6 c0 hc0 hsz hcells hc6 hgs).mono fun e W' ⟨he, hb⟩ => ?_
  subst he
  exact ⟨_, rfl, _, _, _, [], [] ++ ([] ++ []), [], hW', trodAll_mk1 (shut_bool Tryz.underlying4 true), trodAll_mk2 (shut_int Tryz.underlying2 wa) (shut_int Tryz.underlying2 wb), rfl, hb.frame _, fun h => by cases h⟩
theorem row_holds : Rows.TextNumbersSaid :=
  OpenClaim.holds_of_wide 9 Tryz.f9 rfl rfl rfl rfl rfl rfl rfl ⟨rfl, rfl, rfl, rfl, rfl⟩ rfl rfl rfl rfl rfl (by kernel_rfl) Tryz.func9 (by kernel_rfl)
    (of_decide_eq_true (by kernel_rfl)) (by unfold Func.isWrapper; rw [if_neg (of_decide_eq_false (by kernel_rfl))]; exact ⟨rfl, rfl⟩)
    (fun os started H enc _ => lifted os started H enc)
end Go.Proofs.YtmjbmbmnnephjaaGreatDoor
