import Derived.Test.YtpljgnjdlciicaaGreatDoorRows
import Derived.ProofKit
import Derived.LaidMore
import Derived.OpenShut
import Derived.Stop.Joined
import Derived.MakeChecks
import Derived.Lay
import Derived.LaidLaws
import Derived.ChangeMaps5
import Derived.Shelf.Vars
import Derived.Test.YtpljgnjdlciicaaGreatDoorLxKP46
namespace Go.Proofs.YtpljgnjdlciicaaGreatDoor
open Go Go.ChangeShapes Go.WideShapes Go.ChangeAt Go.WideMaps Go.WideElems Go.ChangeMaps Go.RowKit
theorem own : ownKnob Tryz.prog.godebug = none := by kernel_rfl
theorem gSyn : Tryz.prog.globalNamed "strconv.ErrSyntax" = some 5 := by kernel_rfl
theorem gRng : Tryz.prog.globalNamed "strconv.ErrRange" = some 6 := by kernel_rfl
theorem tSyn : (Tryz.prog.globals[5]?).map (·.type) = some 127 := by kernel_rfl
theorem tRng : (Tryz.prog.globals[6]?).map (·.type) = some 127 := by kernel_rfl
theorem row6 : (((begin Tryz.prog (fun _ _ => 0) default).world.heap[5]?).bind Obj.row?).map (·.2) = some 127 := by kernel_rfl
theorem row7 : (((begin Tryz.prog (fun _ _ => 0) default).world.heap[6]?).bind Obj.row?).map (·.2) = some 127 := by kernel_rfl
theorem gsz8 : Tryz.prog.globals.size = 11 := by kernel_rfl
theorem shaped_at {W : World} (h : W.ShapedOpen Tryz.prog) {g t : Nat} (hg : g < Tryz.prog.globals.size) (hr : (((begin Tryz.prog (fun _ _ => 0) default).world.heap[g]?).bind Obj.row?).map (·.2) = some t) : ∃ cs, W.heap[g]? = some (.cells cs t (0, 0)) := by
  obtain ⟨h1, _⟩ := h
  cases hz : ((begin Tryz.prog (fun _ _ => 0) default).world.heap[g]?).bind Obj.row? with
  | none => rw [hz] at hr; cases hr
  | some x =>
    obtain ⟨zero, t'⟩ := x
    rw [hz] at hr
    obtain rfl : t' = t := by simpa using hr
    obtain ⟨cs, e, _⟩ := h1 g zero t' hg hz
    exact ⟨cs, e⟩
theorem row10 : (((begin Tryz.prog (fun _ _ => 0) default).world.heap[10]?).bind Obj.row?).map (·.2) = (Tryz.prog.globals[10]?).map (·.type) := by kernel_rfl
theorem shaped_size {W : World} (h : W.ShapedOpen Tryz.prog) : 11 ≤ W.heap.size := by
  cases ht : (Tryz.prog.globals[10]?).map (·.type) with
  | none =>
    have h2 : ((Tryz.prog.globals[10]?).map (·.type)).isSome = true := by kernel_rfl
    rw [ht] at h2
    cases h2
  | some t =>
    obtain ⟨c, hc⟩ := shaped_at h (g := 10) (t := t) (by rw [gsz8]; omega) (row10.trans ht)
    have := (Array.getElem?_eq_some_iff.1 hc).1
    omega
theorem err_type (u : Nat) (h : Tryz.prog.typeName? 3 u = some "*errors.errorString") : u = 287 :=
  typeName_ptr_named (P := Tryz.prog) (nm := "errors.errorString") (tp := 287) (by kernel_rfl) (by kernel_rfl) (by decide) u h
theorem c208 : Tryz.prog.cellsOf 289 = 1 := by kernel_rfl
theorem one_cell {v p : Value} (h : v.cells.toList = [p]) : ∃ ag, v = exV ag p := by
  cases v with
  | agg c =>
    obtain ⟨l⟩ := c
    have h : l = [p] := h
    exact ⟨true, by rw [h]; rfl⟩
  | _ =>
    refine ⟨false, ?_⟩
    have h := List.head_eq_of_cons_eq h
    exact h
theorem of_err {W : World} {g : Nat} {n : String} {cs : Array Value} {fuel : Nat} {d : DataW Unit} {p : List MemPlace} (hg : Tryz.prog.globalNamed n = some g) (hb : W.heap[g]? = some (.cells cs 127 (0, 0)))
    {cs' : Array Value} (hv : W.var? Tryz.prog n = some cs') (hd : DataW.trod (fun _ => ()) Tryz.prog W 0 (fun _ => true) false fuel 127 cs'.toList = some (.iface "*errors.errorString" (.ptr d), p)) :
    ∃ ag a, cs = #[.iface 287 (exV ag (.pointer (some a)))] ∧ a.spot = none ∧ a.block < W.heap.size := by
  have hcs : cs' = cs := by
    simp only [World.var?, hg, Option.bind_some, hb, Option.some.injEq] at hv
    exact hv.symm
  subst hcs
  obtain ⟨n, u, v, hc, hn, hr⟩ := iface_of_trod Tryz.underlying127 hd
  obtain rfl := err_type u hn
  obtain ⟨m, a, cs2, q, hvc, hcells, _, _⟩ := ptr_of_trod Tryz.underlying287 hr
  · have hcell : ∃ x, W.cell? (a.add 0) = some x := by
      unfold World.cells? at hcells
      rw [if_pos (Nat.zero_le _), c208] at hcells
      simp only [List.range_succ, List.range_zero, List.nil_append, List.mapM_cons, List.mapM_nil] at hcells
      cases hcc : W.cell? (a.add 0) with
      | none => simp [hcc] at hcells
      | some c => exact ⟨c, rfl⟩
    obtain ⟨x, hcell⟩ := hcell
    have e0 : a.add 0 = a := by simp [Addr.add]
    rw [e0] at hcell
    have hsp : a.spot = none ∧ a.block < W.heap.size := by
      unfold World.cell? at hcell
      split at hcell
      · rename_i hh
        refine ⟨?_, (Array.getElem?_eq_some_iff.1 hh).1⟩
        cases hs : a.spot with
        | none => rfl
        | some s => rw [hs] at hcell; simp at hcell
      · cases hcell
    have hcs : cs' = #[.iface 287 v] := by
      apply Array.toList_inj.1
      rw [hc]
    obtain ⟨ag, rfl⟩ := one_cell hvc
    exact ⟨ag, a, hcs, hsp.1, hsp.2⟩
theorem shaped_mx {W : World} (h : W.ShapedOpen Tryz.prog) : ∃ n, W.heap[2]? = some (.cells #[.int .i64 n] 3 (0, 0)) := by
  obtain ⟨m, hm⟩ := Go.Proofs.cell_of_shapedOpen_int (g := 2) (zero := #[.int .i64 0]) (t := 3) h (of_decide_eq_true (by kernel_rfl)) (by kernel_rfl) rfl (by kernel_rfl) (by kernel_rfl) Tryz.underlying3
  have h1 := h.1
  obtain ⟨cs, e, hs, _⟩ := h1 2 #[.int .i64 0] 3 (of_decide_eq_true (by kernel_rfl)) (by kernel_rfl)
  refine ⟨m, ?_⟩
  rw [e]
  have e : W.heap[2]? = some (.cells cs 3 (0, 0)) := e
  rw [Go.Ev.cell_of e] at hm
  obtain ⟨l⟩ := cs
  have hs : l.length = 1 := hs
  cases l with
  | nil => cases hs
  | cons a l =>
    cases l with
    | nil =>
      have hm : some a = some (Value.int .i64 m) := hm
      cases hm
      rfl
    | cons b l => simp at hs
theorem returns_shaped {H : Type} {enc : TypeId × Value → H} {a : Assume} {C : Checked} {os : Os} {f : FuncId} {fn : Func} {s : ChangeSpec} {apart fresh handsOn again : Bool} {X : World → Prop} (hX : ∀ (w w' : World), w.heap = w'.heap → X w → X w')
    (own : ownKnob C.prog.godebug = none) (started : os.Started) (noInit : C.prog.inits.idxOf? f = none) (hfn : C.prog.funcs[f]? = some fn)
    (witness : ∃ (w : World) (tape : Tape) (i : Input), w.os = os ∧ (w.forCall tape i).Shaped C.prog ∧ i.vars = [] ∧ Input.okWide C.prog (w.forCall tape i) .any w.heap.size f i ∧
      ((s.pre enc C.prog fn [] apart (w.forCall tape i).memory i.args ∧ X (w.forCall tape i).memory) ∧ sizedMet enc C.prog fn (OpenSpec.ofChange s) apart (w.forCall tape i).memory i.args) ∧ a.holds C.prog (lone (Frame.enter C.prog f i.args .normal) [] (w.forCall tape i)))
    (contract : ∀ (W : World) (base : Nat) (args : Array Value) (ds gs : List (DataW H)) (before : List MemPlace), W.ShapedOpen C.prog →
      (∀ (j : Nat) t v, fn.params[j]? = some t → args[j]? = some v → Value.okWide C.prog W .any base t v) → DataW.Whole enc C.prog fn.params.toList s.vars apart W args.toList ds gs before → X W →
      Calls C.prog f args W fun e W' => ∃ v, e = .returned v ∧ s.post enc C.prog fn apart fresh handsOn again W args v W') :
    ReturnsInHanded a C os f .any (fun w args => (s.pre enc C.prog fn [] apart w args ∧ X w) ∧ sizedMet enc C.prog fn (OpenSpec.ofChange s) apart w args) (s.post enc C.prog fn apart fresh handsOn again) := by
  refine returnsInHanded_of_calls own started noInit witness ?_
  intro w tape i _ hsh _ hok hpre _
  obtain ⟨_, _, _, fn', hfn', _, _, _, _, hval⟩ := hok
  obtain rfl : fn' = fn := Option.some.inj (hfn'.symm.trans hfn)
  obtain ⟨⟨⟨ds, gs, before, hw, _⟩, hx⟩, _⟩ := hpre
  refine (contract (w.forCall tape i) w.heap.size i.args ds gs before hsh hval (DataW.Whole.of_heap (w' := w.forCall tape i) (by rfl) hw) (hX _ _ (by rfl) hx)).mono fun e W' ⟨v, he, hp⟩ => ?_
  subst he
  exact ChangeSpec.post_blind hp
set_option maxRecDepth 100000 in
theorem lifted (os : Os) (started : os.Started) (H : Type) (enc : TypeId × Value → H) :
    ReturnsInHanded {} Tryz.checked os 3 .any (fun w args => (Rows.parseEndsSpec.pre enc Tryz.prog Tryz.f3 [] false w args ∧ laidMetH Tryz.prog Rows.parseEndsRow.laid w) ∧ sizedMet enc Tryz.prog Tryz.f3 (OpenSpec.ofChange Rows.parseEndsSpec) false w args)
      (Rows.parseEndsSpec.post enc Tryz.prog Tryz.f3 false true false false) := by
  refine returns_shaped (C := Tryz.checked) (X := fun w => laidMetH Tryz.prog Rows.parseEndsRow.laid w) (fun _ _ hh h => h.of_heap hh) own started (by kernel_rfl) Tryz.func3
    (ChangeSpec.witness_shaped (enc := enc) (C := Tryz.checked) (os := os) (X := fun w _ => laidMetH Tryz.prog Rows.parseEndsRow.laid w) false (World.laidAll Tryz.prog os Rows.parseEndsRow.laid) #[.string ⟨#[]⟩] 8 (World.laidAll_os _ _ _) (World.shaped_of_ZipB (by kernel_rfl) (by kernel_rfl)) (by kernel_rfl) (by kernel_rfl) (by kernel_rfl)
      (by rw [MakeChecks.laidMetH_plain _ _ _ (by kernel_rfl)]; exact laidMet_laidAll _ (by kernel_rfl) (by kernel_rfl))) ?_
  intro W base args ds gs before hsh hval0 hW hL
  have hval : ∀ (j : Nat) t v, Tryz.f3.params[j]? = some t → args[j]? = some v → Value.okWide Tryz.prog W .any base t v := hval0
  have hW' := hW
  obtain ⟨p, q, hA0, hV, rfl, hfz, hnd⟩ := hW
  have hA : DataW.TrodAll enc Tryz.prog W 0 (fun _ => true) true Tryz.f3.params.toList args.toList ds p := hA0
  rw [Tryz.params3] at hA hval
  obtain ⟨v0, d0, rfl, rfl, h0⟩ := trodAll_one hA
  obtain ⟨rfl, rfl⟩ := trodVars_none hV
  obtain ⟨s, rfl, rfl, rfl, hsz⟩ := open_string Tryz.underlying9 (hval 0 9 v0 rfl rfl) h0
  obtain ⟨n, hn⟩ := shaped_mx hsh
  obtain ⟨c6, hc6⟩ := shaped_at hsh (by rw [gsz8]; omega) row6
  obtain ⟨c7, hc7⟩ := shaped_at hsh (by rw [gsz8]; omega) row7
  have hgs : Tryz.prog.globals.size ≤ W.heap.size := by
    rw [gsz8]
    exact shaped_size hsh
  rw [MakeChecks.laidMetH_plain _ _ _ (by kernel_rfl)] at hL
  obtain ⟨ps, ⟨g0, t0, cs0, f0, p0, q0, _, _, _, _, ⟨g1, t1, cs1, f1, p1, q1, _, _, _, _, ⟨g2, t2, cs2, f2, p2, q2, _, _, _, _, ⟨g3, t3, cs3, f3, p3, q3, _, _, _, _, ⟨g4, t4, cs4, f4, p4, q4, hg4, ht4, hv4, hd4, ⟨g5, t5, cs5, f5, p5, q5, hg5, ht5, hv5, hd5, _⟩, _⟩, _⟩, _⟩, _⟩, _⟩, _⟩ := hL
  obtain rfl := Option.some.inj (gRng.symm.trans hg4)
  obtain rfl := Option.some.inj (tRng.symm.trans ht4)
  obtain rfl := Option.some.inj (gSyn.symm.trans hg5)
  obtain rfl := Option.some.inj (tSyn.symm.trans ht5)
  obtain ⟨ag7, a7, rfl, hs7, hb7⟩ := of_err gRng hc7 hv4 hd4
  obtain ⟨ag6, a6, rfl, hs6, hb6⟩ := of_err gSyn hc6 hv5 hd5
  refine (walk W s n 287 287 ag6 ag7 a6 a7 (by omega) (by omega) hs6 hs7 hb6 hb7 hn hc6 hc7 hgs).mono fun e W' ⟨he, hb⟩ => ?_
  subst he
  exact ⟨_, rfl, _, _, _, [], [] ++ [], [], hW', trodAll_mk1 (shut_bool Tryz.underlying4 true), trodAll_mk1 (shut_string Tryz.underlying9 hsz), rfl, hb.frame _, fun h => by cases h⟩
theorem row_holds : Rows.ParseEndsSaid :=
  OpenClaim.holds_of_wide 3 Tryz.f3 rfl rfl rfl rfl rfl rfl rfl ⟨rfl, rfl, rfl, rfl, rfl⟩ rfl rfl rfl rfl rfl (by kernel_rfl) Tryz.func3 (by kernel_rfl)
    (of_decide_eq_true (by kernel_rfl)) (by unfold Func.isWrapper; rw [if_neg (of_decide_eq_false (by kernel_rfl))]; exact ⟨rfl, rfl⟩)
    (fun os started H enc _ => lifted os started H enc)
end Go.Proofs.YtpljgnjdlciicaaGreatDoor
