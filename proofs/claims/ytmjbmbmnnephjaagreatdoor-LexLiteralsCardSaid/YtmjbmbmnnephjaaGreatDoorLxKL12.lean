/- LexLiterals: for every input the call returns true, and the argument reads behind it as it did before (the row's statement). Conditions: the listed package-level variables read, when the call begins, as the row's cell 'laid' says (the card ties them to the program's text; nothing here asks for them); no text of an argument is longer than 2^47 bytes: the card's own reach. -/
import Derived.Test.YtmjbmbmnnephjaaGreatDoorRows
import Derived.ProofKit
import Derived.LaidMore
import Derived.OpenShut
import Derived.Stop.Joined
import Derived.MakeChecks
import Derived.Lay
import Derived.LaidLaws
import Derived.ChangeMaps5
import Derived.ChangeStays
import Derived.ChangeOld
import Derived.ReadAgain
import Derived.SizedLaws
import Derived.Test.YtmjbmbmnnephjaaGreatDoorLxKL11
namespace Go.Ev
open Go Go.RowKit
section
variable {H : Type} {enc : TypeId × Value → H} {P : Program} {W W' : World} {T : TypeId → Prop}
theorem sameAt_below (hb : Below W.heap.size W W') (p : MemPlace) (h : p.block < W.heap.size) : W.sameAt W' p := by
  cases p with
  | cell b off =>
    show W'.cell? ⟨b, off, none⟩ = W.cell? ⟨b, off, none⟩
    simp only [World.cell?, hb.block b h]
  | map b => exact hb.block b h
/-- What a call leaves as it was reads as it did. -/
theorem trod_still (K : Kids P T) (hz : ∀ {t e : TypeId}, T t → P.underlying t = some (.slice e) → 0 < P.cellsOf e) (hb : Below W.heap.size W W') {t : TypeId} (hT : T t) {v : Value} {d : DataW H} {ps : List MemPlace}
    (h : DataW.Trod enc P W 0 (fun _ => true) true t v d ps) : DataW.Trod enc P W' 0 (fun b => decide (b < W.heap.size)) true t v d ps := by
  obtain ⟨n, hn⟩ := h
  have hlt := DataW.trod_lt n t _ _ hn
  exact ⟨n, DataW.trod_stays K hz (fun h => by cases h) hT hn (fun p hp => sameAt_below hb p (hlt p hp)) fun p hp => decide_eq_true (hlt p hp)⟩
theorem trodAll_still (K : Kids P T) (hz : ∀ {t e : TypeId}, T t → P.underlying t = some (.slice e) → 0 < P.cellsOf e) (hb : Below W.heap.size W W') : ∀ {ts : List TypeId} {vs : List Value} {ds : List (DataW H)} {ps : List MemPlace}, (∀ t ∈ ts, T t) →
    DataW.TrodAll enc P W 0 (fun _ => true) true ts vs ds ps → DataW.TrodAll enc P W' 0 (fun b => decide (b < W.heap.size)) true ts vs ds ps
  | [], [], [], _, _, h => h
  | _ :: _, _ :: _, _ :: _, _, hT, ⟨p, q, h1, h2, e⟩ => ⟨p, q, trod_still K hz hb (hT _ (List.mem_cons.2 (Or.inl rfl))) h1, trodAll_still K hz hb (fun t ht => hT t (List.mem_cons.2 (Or.inr ht))) h2, e⟩
end
/-- The builder of the row's form, with what is known of the memory's shape, and of sizes. -/
theorem returns_sized {H : Type} {enc : TypeId × Value → H} {a : Assume} {C : Checked} {os : Os} {f : FuncId} {fn : Func} {s : ChangeSpec} {apart fresh handsOn again : Bool} {X : World → Prop} (hX : ∀ (w w' : World), w.heap = w'.heap → X w → X w')
    (own : ownKnob C.prog.godebug = none) (started : os.Started) (noInit : C.prog.inits.idxOf? f = none) (hfn : C.prog.funcs[f]? = some fn)
    (witness : ∃ (w : World) (tape : Tape) (i : Input), w.os = os ∧ (w.forCall tape i).Shaped C.prog ∧ i.vars = [] ∧ Input.okWide C.prog (w.forCall tape i) .any w.heap.size f i ∧
      ((s.pre enc C.prog fn [] apart (w.forCall tape i).memory i.args ∧ X (w.forCall tape i).memory) ∧ sizedMet enc C.prog fn (OpenSpec.ofChange s) apart (w.forCall tape i).memory i.args) ∧ a.holds C.prog (lone (Frame.enter C.prog f i.args .normal) [] (w.forCall tape i)))
    (contract : ∀ (W : World) (base : Nat) (args : Array Value) (ds gs : List (DataW H)) (before : List MemPlace), W.ShapedOpen C.prog →
      (∀ (j : Nat) t v, fn.params[j]? = some t → args[j]? = some v → Value.okWide C.prog W .any base t v) → DataW.Whole enc C.prog fn.params.toList s.vars apart W args.toList ds gs before → X W →
      (DataW.weightsEach C.prog (fn.params.toList ++ s.plain.varTypes C.prog) (ds ++ gs)).all (· ≤ reachBytes) = true →
      Calls C.prog f args W fun e W' => ∃ v, e = .returned v ∧ s.post enc C.prog fn apart fresh handsOn again W args v W') :
    ReturnsInHanded a C os f .any (fun w args => (s.pre enc C.prog fn [] apart w args ∧ X w) ∧ sizedMet enc C.prog fn (OpenSpec.ofChange s) apart w args) (s.post enc C.prog fn apart fresh handsOn again) := by
  refine returnsInHanded_of_calls own started noInit witness ?_
  intro w tape i _ hsh _ hok hpre _
  obtain ⟨_, _, _, fn', hfn', _, _, _, _, hval⟩ := hok
  obtain rfl : fn' = fn := Option.some.inj (hfn'.symm.trans hfn)
  obtain ⟨⟨⟨ds, gs, before, hw, _⟩, hx⟩, hsz⟩ := hpre
  have hweights := hsz.weights hw
  refine (contract (w.forCall tape i) w.heap.size i.args ds gs before hsh hval (DataW.Whole.of_heap (w' := w.forCall tape i) (by rfl) hw) (hX _ _ (by rfl) hx) hweights).mono fun e W' ⟨v, he, hp⟩ => ?_
  subst he
  exact ChangeSpec.post_blind hp
end Go.Ev
namespace Go.Proofs.YtmjbmbmnnephjaaGreatDoor
open Go Go.Ev Go.ChangeShapes Go.WideShapes Go.ChangeAt Go.WideMaps Go.WideElems Go.ChangeMaps Go.RowKit

theorem own : ownKnob Tryz.prog.godebug = none := by kernel_rfl
theorem laidOut : laidOutB Tryz.prog = true := by kernel_rfl
theorem gSyn : Tryz.prog.globalNamed "strconv.ErrSyntax" = some 6 := by kernel_rfl
theorem gRng : Tryz.prog.globalNamed "strconv.ErrRange" = some 7 := by kernel_rfl
theorem tSyn : (Tryz.prog.globals[6]?).map (·.type) = some 103 := by kernel_rfl
theorem tRng : (Tryz.prog.globals[7]?).map (·.type) = some 103 := by kernel_rfl
theorem row6 : (((begin Tryz.prog (fun _ _ => 0) default).world.heap[6]?).bind Obj.row?).map (·.2) = some 103 := by kernel_rfl
theorem row7 : (((begin Tryz.prog (fun _ _ => 0) default).world.heap[7]?).bind Obj.row?).map (·.2) = some 103 := by kernel_rfl
theorem gsz8 : Tryz.prog.globals.size = 8 := by kernel_rfl
/-- A variable's block, in a world that has the program's shape. -/
theorem shaped_at {W : World} (h : W.ShapedOpen Tryz.prog) {g t : Nat} (hg : g < Tryz.prog.globals.size) (hr : (((begin Tryz.prog (fun _ _ => 0) default).world.heap[g]?).bind Obj.row?).map (·.2) = some t) : ∃ cs, W.heap[g]? = some (.cells cs t (0, 0)) := by
  obtain ⟨h1, _⟩ := h
  cases hz : ((begin Tryz.prog (fun _ _ => 0) default).world.heap[g]?).bind Obj.row? with
  | none => rw [hz] at hr; cases hr
  | some x =>
    obtain ⟨zero, t'⟩ := x
    rw [hz] at hr
    obtain rfl : t' = t := by simpa using hr
    obtain ⟨cs, e, _⟩ := h1 g zero t' hg hz
    exact ⟨cs, e⟩
theorem err_type (u : Nat) (h : Tryz.prog.typeName? 3 u = some "*errors.errorString") : u = 206 :=
  typeName_ptr_named (P := Tryz.prog) (nm := "errors.errorString") (tp := 206) (by kernel_rfl) (by kernel_rfl) (by decide) u h
theorem c208 : Tryz.prog.cellsOf 208 = 1 := by kernel_rfl
theorem one_cell {v p : Value} (h : v.cells.toList = [p]) : ∃ ag, v = exV ag p := by
  cases v with
  | agg c =>
    obtain ⟨l⟩ := c
    have h : l = [p] := h
    exact ⟨true, by rw [h]; rfl⟩
  | _ =>
    refine ⟨false, ?_⟩
    have h := List.head_eq_of_cons_eq h
    exact h
/-- What the condition says of an error's variable. -/
theorem of_err {W : World} {g : Nat} {n : String} {cs : Array Value} {fuel : Nat} {d : DataW Unit} {p : List MemPlace} (hg : Tryz.prog.globalNamed n = some g) (hb : W.heap[g]? = some (.cells cs 103 (0, 0)))
    {cs' : Array Value} (hv : W.var? Tryz.prog n = some cs') (hd : DataW.trod (fun _ => ()) Tryz.prog W 0 (fun _ => true) false fuel 103 cs'.toList = some (.iface "*errors.errorString" (.ptr d), p)) :
    ∃ ag a, cs = #[.iface 206 (exV ag (.pointer (some a)))] ∧ a.spot = none ∧ a.block < W.heap.size := by
  have hcs : cs' = cs := by
    simp only [World.var?, hg, Option.bind_some, hb, Option.some.injEq] at hv
    exact hv.symm
  subst hcs
  obtain ⟨n, u, v, hc, hn, hr⟩ := iface_of_trod Tryz.underlying103 hd
  obtain rfl := err_type u hn
  obtain ⟨m, a, cs2, q, hvc, hcells, _, _⟩ := ptr_of_trod Tryz.underlying206 hr
  · have hcell : ∃ x, W.cell? (a.add 0) = some x := by
      unfold World.cells? at hcells
      rw [if_pos (Nat.zero_le _), c208] at hcells
      simp only [List.range_succ, List.range_zero, List.nil_append, List.mapM_cons, List.mapM_nil] at hcells
      cases hcc : W.cell? (a.add 0) with
      | none => simp [hcc] at hcells
      | some c => exact ⟨c, rfl⟩
    obtain ⟨x, hcell⟩ := hcell
    have e0 : a.add 0 = a := by simp [Addr.add]
    rw [e0] at hcell
    have hsp : a.spot = none ∧ a.block < W.heap.size := by
      unfold World.cell? at hcell
      split at hcell
      · rename_i hh
        refine ⟨?_, (Array.getElem?_eq_some_iff.1 hh).1⟩
        cases hs : a.spot with
        | none => rfl
        | some s => rw [hs] at hcell; simp at hcell
      · cases hcell
    have hcs : cs' = #[.iface 206 v] := by
      apply Array.toList_inj.1
      rw [hc]
    obtain ⟨ag, rfl⟩ := one_cell hvc
    exact ⟨ag, a, hcs, hsp.1, hsp.2⟩
theorem mapsOk : mapsRowed Tryz.prog = true := by kernel_rfl
theorem fulls : ∀ t e, t < Tryz.prog.types.size → Tryz.prog.underlying t = some (.slice e) → 0 < Tryz.prog.cellsOf e := slices_full_of Tryz.prog (by kernel_rfl)
theorem lt32 : (32 : Nat) < Tryz.prog.types.size := of_decide_eq_true (by kernel_rfl)
/-- The numbers of a value are of 64 bits. -/
theorem form_rng {B n : Nat} {vs : List Value} (h : FormC Tryz.prog B n 32 vs) {a b c d : Value} (e : vs = [a, b, c, d]) : ∃ m : List Value, b = lstV m ∧ ∀ i, Value.int .i64 i ∈ m → Num.nul ≤ i ∧ i ≤ 9223372036854775807 := by
  subst e
  obtain ⟨m0, _, _, hf⟩ := h.struct Tryz.underlying32
  have f1 : FormC Tryz.prog B m0 28 (([a, b, c, d].drop 1).take (Tryz.prog.cellsOf 28)) := hf 1 _ rfl
  rw [co28] at f1
  obtain ⟨n1, _, es, h1, _, _, h3⟩ := f1.slice Tryz.underlying28
  simp only [List.drop_succ_cons, List.drop_zero, List.take_succ_cons, List.take_zero, List.cons.injEq, and_true] at h1
  refine ⟨es, h1, fun i hi => ?_⟩
  obtain ⟨_, _, _, g⟩ := h3 _ hi
  obtain ⟨i', e, hwf⟩ := g.int Tryz.underlying2
  have e : [Value.int .i64 i] = [Value.int .i64 i'] := e
  simp only [List.cons.injEq, Value.int.injEq, true_and, and_true] at e
  subst e
  simp only [Lit.wf, Bool.and_eq_true, decide_eq_true_eq] at hwf
  have e1 : IntKind.i64.min = -9223372036854775808 := by decide
  have e2 : IntKind.i64.max = 9223372036854775807 := by decide
  rw [e1, e2] at hwf
  exact hwf
set_option maxRecDepth 100000 in
theorem lifted (os : Os) (started : os.Started) (H : Type) (enc : TypeId × Value → H) :
    ReturnsInHanded {} Tryz.checked os 4 .any (fun w args => (Rows.lexLiteralsSpec.pre enc Tryz.prog Tryz.f4 [] false w args ∧ laidMetH Tryz.prog Rows.lexLiteralsRow.laid w) ∧ sizedMet enc Tryz.prog Tryz.f4 (OpenSpec.ofChange Rows.lexLiteralsSpec) false w args)
      (Rows.lexLiteralsSpec.post enc Tryz.prog Tryz.f4 false true false false) := by
  refine returns_sized (C := Tryz.checked) (X := fun w => laidMetH Tryz.prog Rows.lexLiteralsRow.laid w) (fun _ _ hh h => h.of_heap hh) own started (by kernel_rfl) Tryz.func4
    (ChangeSpec.witness_shaped (enc := enc) (C := Tryz.checked) (os := os) (X := fun w _ => laidMetH Tryz.prog Rows.lexLiteralsRow.laid w) false (World.laidAll Tryz.prog os Rows.lexLiteralsRow.laid) #[.agg #[.int .i64 0, .slice none 0 0, .slice none 0 0, .slice none 0 0]] 8 (World.laidAll_os _ _ _) (World.shaped_of_ZipB (by kernel_rfl) (by kernel_rfl)) (by kernel_rfl) (by kernel_rfl) (by kernel_rfl)
      (by rw [MakeChecks.laidMetH_plain _ _ _ (by kernel_rfl)]; exact laidMet_laidAll _ (by kernel_rfl) (by kernel_rfl))) ?_
  intro W base args ds gs before hsh hval0 hW hL hsz0
  have hval : ∀ (j : Nat) t v, Tryz.f4.params[j]? = some t → args[j]? = some v → Value.okWide Tryz.prog W .any base t v := hval0
  have hW' := hW
  obtain ⟨p, q, hA0, hV, rfl, hfz, hnd⟩ := hW
  have hA : DataW.TrodAll enc Tryz.prog W 0 (fun _ => true) true Tryz.f4.params.toList args.toList ds p := hA0
  have hsz : (DataW.weightsEach Tryz.prog (Tryz.f4.params.toList ++ Rows.lexLiteralsSpec.plain.varTypes Tryz.prog) (ds ++ gs)).all (· ≤ reachBytes) = true := hsz0
  rw [Tryz.params4] at hA hval hsz
  have hA' := hA
  obtain ⟨v0, d0, rfl, rfl, h0⟩ := trodAll_one hA
  obtain ⟨rfl, rfl⟩ := trodVars_none hV
  obtain ⟨cs, rfl, hcs⟩ := okWide_struct Tryz.underlying32 (hval 0 32 v0 rfl rfl)
  obtain ⟨fuel, hf⟩ := h0
  obtain ⟨c6, hc6⟩ := shaped_at hsh (by rw [gsz8]; omega) row6
  obtain ⟨c7, hc7⟩ := shaped_at hsh (by rw [gsz8]; omega) row7
  have hgs : Tryz.prog.globals.size ≤ W.heap.size := by
    rw [gsz8]
    have := (Array.getElem?_eq_some_iff.1 hc7).1
    omega
  rw [MakeChecks.laidMetH_plain _ _ _ (by kernel_rfl)] at hL
  obtain ⟨ps, ⟨g0, t0, cs0, f0, p0, q0, _, _, _, _, ⟨g1, t1, cs1, f1, p1, q1, _, _, _, _, ⟨g2, t2, cs2, f2, p2, q2, _, _, _, _, ⟨g3, t3, cs3, f3, p3, q3, _, _, _, _, ⟨g4, t4, cs4, f4, p4, q4, hg4, ht4, hv4, hd4, ⟨g5, t5, cs5, f5, p5, q5, hg5, ht5, hv5, hd5, _⟩, _⟩, _⟩, _⟩, _⟩, _⟩, _⟩ := hL
  obtain rfl := Option.some.inj (gRng.symm.trans hg4)
  obtain rfl := Option.some.inj (tRng.symm.trans ht4)
  obtain rfl := Option.some.inj (gSyn.symm.trans hg5)
  obtain rfl := Option.some.inj (tSyn.symm.trans ht5)
  obtain ⟨ag7, a7, rfl, hs7, hb7⟩ := of_err gRng hc7 hv4 hd4
  obtain ⟨ag6, a6, rfl, hs6, hb6⟩ := of_err gSyn hc6 hv5 hd5
  have hall := List.all_eq_true.1 hsz
  obtain ⟨vs, hvr, hform⟩ := bridge (B := 140737488351232) (ρ := map4 W a6 a7) tokTy (map4_ls W a6 a7) fuel 32 _ _ (by simp [TokTy]) hf fun k hk => by
    have := hall _ (DataW.weights_mem_each (j := 0) (t := 32) (d := d0) rfl rfl k hk)
    simp only [decide_eq_true_eq] at this
    exact this
  obtain ⟨t, n, sy, l, e, hvf⟩ := form_val _ _ hform
  obtain ⟨n', en, hr⟩ := form_rng hform e
  obtain rfl : n = n' := congrArg elems en
  subst e
  have hin : (∀ x ∈ n, IntV x) ∧ ∀ x ∈ sy, StrV x := by
    have hvf := hvf
    cases hvf with
    | mk _ _ _ h1 h2 _ => exact ⟨h1, h2⟩
  refine (walk4 W _ t n sy l hvf hin.1 hin.2 hr 206 206 ag6 ag7 a6 a7 (.cons (.agg hvr) .nil) (by omega) (by omega) hs6 hs7 hb6 hb7 hc6 hc7 hgs).mono fun e W' ⟨he, hb⟩ => ?_
  subst he
  have hargs := trodAll_still (kids_rows laidOut mapsOk) (fun {t e} h1 h2 => fulls t e h1 h2) hb (fun t ht => by
    simp only [List.mem_cons, List.not_mem_nil, or_false] at ht
    rcases ht with rfl
    exact lt32) hA'
  exact ⟨_, rfl, _, _, _, [], p, [], hW', trodAll_mk1 (shut_bool Tryz.underlying4 true), hargs, rfl, hb.frame _, fun h => by cases h⟩
theorem row_holds : Rows.LexLiteralsSaid :=
  OpenClaim.holds_of_wide 4 Tryz.f4 rfl rfl rfl rfl rfl rfl rfl ⟨rfl, rfl, rfl, rfl, rfl⟩ rfl rfl rfl rfl rfl (by kernel_rfl) Tryz.func4 (by kernel_rfl)
    (of_decide_eq_true (by kernel_rfl)) (by unfold Func.isWrapper; rw [if_neg (of_decide_eq_false (by kernel_rfl))]; exact ⟨rfl, rfl⟩)
    (fun os started H enc _ => lifted os started H enc)
end Go.Proofs.YtmjbmbmnnephjaaGreatDoor
