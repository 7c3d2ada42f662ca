/- QuerySplits: for every input the call returns true, and the argument reads behind it as it did before (the row's statement). Conditions: the listed package-level variables read, when the call begins, as the row's cell 'laid' says (the card ties them to the program's text). -/
import Derived.Test.YtpljgnjdlciicaaGreatDoorRows
import Derived.ProofKit
import Derived.LaidMore
import Derived.OpenShut
import Derived.Stop.Joined
import Derived.MakeChecks
import Derived.Lay
import Derived.LaidLaws
import Derived.ChangeMaps5
import Derived.Shelf.Vars
import Derived.Test.YtpljgnjdlciicaaGreatDoorLyKQ41
namespace Go.Proofs.YtpljgnjdlciicaaGreatDoor
open Go Go.ChangeShapes Go.WideShapes Go.ChangeAt Go.WideMaps Go.WideElems Go.ChangeMaps Go.RowKit

theorem own : ownKnob Tryz.prog.godebug = none := by kernel_rfl
theorem laidOut : laidOutB Tryz.prog = true := by kernel_rfl
theorem gsz8 : Tryz.prog.globals.size = 11 := by kernel_rfl
theorem typesN : Tryz.prog.types.size ≤ 1000000 := of_decide_eq_true (by kernel_rfl)
/-- A variable's block, in a world that has the program's shape. -/
theorem shaped_at {W : World} (h : W.ShapedOpen Tryz.prog) {g t : Nat} (hg : g < Tryz.prog.globals.size) (hr : (((begin Tryz.prog (fun _ _ => 0) default).world.heap[g]?).bind Obj.row?).map (·.2) = some t) : ∃ cs, W.heap[g]? = some (.cells cs t (0, 0)) := by
  obtain ⟨h1, _⟩ := h
  cases hz : ((begin Tryz.prog (fun _ _ => 0) default).world.heap[g]?).bind Obj.row? with
  | none => rw [hz] at hr; cases hr
  | some x =>
    obtain ⟨zero, t'⟩ := x
    rw [hz] at hr
    obtain rfl : t' = t := by simpa using hr
    obtain ⟨cs, e, _⟩ := h1 g zero t' hg hz
    exact ⟨cs, e⟩
theorem row10 : (((begin Tryz.prog (fun _ _ => 0) default).world.heap[10]?).bind Obj.row?).map (·.2) = (Tryz.prog.globals[10]?).map (·.type) := by kernel_rfl
theorem shaped_size {W : World} (h : W.ShapedOpen Tryz.prog) : 11 ≤ W.heap.size := by
  cases ht : (Tryz.prog.globals[10]?).map (·.type) with
  | none =>
    have h2 : ((Tryz.prog.globals[10]?).map (·.type)).isSome = true := by kernel_rfl
    rw [ht] at h2
    cases h2
  | some t =>
    obtain ⟨c, hc⟩ := shaped_at h (g := 10) (t := t) (by rw [gsz8]; omega) (row10.trans ht)
    have := (Array.getElem?_eq_some_iff.1 hc).1
    omega
theorem gSpc : Tryz.prog.globalNamed "strings.asciiSpace" = some 0 := by kernel_rfl
theorem tSpc : (Tryz.prog.globals[0]?).map (·.type) = some 142 := by kernel_rfl
theorem row0 : (((begin Tryz.prog (fun _ _ => 0) default).world.heap[0]?).bind Obj.row?).map (·.2) = some 142 := by kernel_rfl
theorem u142 : Tryz.prog.underlying 142 = some (.array 256 5) := by kernel_rfl
theorem laidSpace : (Rows.laid_strings_asciiSpace : DataW Unit) = DataW.agg (spaceL.map (fun v => match v with | .int k n => .lit (.int k n) | _ => .nil)) := by kernel_rfl
theorem c142 : Tryz.prog.cellsOf 142 = 256 := by kernel_rfl
theorem c5 : Tryz.prog.cellsOf 5 = 1 := by kernel_rfl
/-- What the condition says of the table of blanks. -/
theorem of_space {W : World} {cs cs' : Array Value} {fuel : Nat} {p : List MemPlace} (hb : W.heap[0]? = some (.cells cs 142 (0, 0))) (hv2 : W.var? Tryz.prog "strings.asciiSpace" = some cs')
    (hd2 : DataW.trod (fun _ => ()) Tryz.prog W 0 (fun _ => true) false fuel 142 cs'.toList = some (Rows.laid_strings_asciiSpace, p)) : cs.size = 256 ∧ ∀ (i : Nat) (v : Value), spaceL[i]? = some v → cs[i]? = some v := by
  have hcs : cs' = cs := by
    simp only [World.var?, gSpc, Option.bind_some, hb, Option.some.injEq] at hv2
    exact hv2.symm
  subst hcs
  obtain ⟨xs, m, rfl, hx, hlen, hn, hel⟩ := DataW.trod_array u142 hd2
  rw [c142] at hlen
  have hsz : cs'.size = 256 := by simpa using hlen
  refine ⟨hsz, fun i v hv => ?_⟩
  have hi : i < 256 := by have := (List.getElem?_eq_some_iff.1 hv).1; rw [spaceL_len] at this; exact this
  have hxi := hel i hi
  have hlt : i < xs.length := by omega
  rw [List.getElem?_eq_getElem hlt] at hxi
  obtain ⟨k, e1, e2, _⟩ := DataW.trod_int Tryz.underlying5 hxi
  have hki : (xs.map (·.1))[i]? = some (.lit (.int .u8 k)) := by
    rw [List.getElem?_map, List.getElem?_eq_getElem hlt, e2]; rfl
  have hlist : xs.map (·.1) = spaceL.map (fun v => match v with | .int k n => .lit (.int k n) | _ => .nil) := by
    have hx0 : Rows.laid_strings_asciiSpace = DataW.agg (xs.map (·.1)) := congrArg Prod.fst hx
    exact (DataW.agg.inj (laidSpace.symm.trans hx0)).symm
  rw [hlist, List.getElem?_map, hv] at hki
  rw [c5] at e1
  have hcell : cs'.toList[i]? = some (.int .u8 k) := by
    have : ((cs'.toList.drop (i * 1)).take 1)[0]? = some (.int .u8 k) := by rw [e1]; rfl
    simpa using this
  have hvv : v = .int .u8 k := by
    obtain ⟨n, rfl⟩ := spaceL_int v (List.mem_of_getElem? hv)
    have h : (DataW.lit (.int .u8 n) : DataW Unit) = .lit (.int .u8 k) := by simpa using hki
    simp only [DataW.lit.injEq, Lit.int.injEq, true_and] at h
    rw [h]
  rw [hvv]
  simpa using hcell
/-- The bound of short needles is some number. -/
theorem shaped_mx {W : World} (h : W.ShapedOpen Tryz.prog) : ∃ n, W.heap[2]? = some (.cells #[.int .i64 n] 3 (0, 0)) := by
  obtain ⟨m, hm⟩ := Go.Proofs.cell_of_shapedOpen_int (g := 2) (zero := #[.int .i64 0]) (t := 3) h (of_decide_eq_true (by kernel_rfl)) (by kernel_rfl) rfl (by kernel_rfl) (by kernel_rfl) Tryz.underlying3
  have h1 := h.1
  obtain ⟨cs, e, hs, _⟩ := h1 2 #[.int .i64 0] 3 (of_decide_eq_true (by kernel_rfl)) (by kernel_rfl)
  refine ⟨m, ?_⟩
  rw [e]
  have e : W.heap[2]? = some (.cells cs 3 (0, 0)) := e
  rw [Go.Ev.cell_of e] at hm
  obtain ⟨l⟩ := cs
  have hs : l.length = 1 := hs
  cases l with
  | nil => cases hs
  | cons a l =>
    cases l with
    | nil =>
      have hm : some a = some (Value.int .i64 m) := hm
      cases hm
      rfl
    | cons b l => simp at hs
/-- The builder of the row's form, with what is known of the memory's shape. -/
theorem returns_shaped {H : Type} {enc : TypeId × Value → H} {a : Assume} {C : Checked} {os : Os} {f : FuncId} {fn : Func} {s : ChangeSpec} {apart fresh handsOn again : Bool} {X : World → Prop} (hX : ∀ (w w' : World), w.heap = w'.heap → X w → X w')
    (own : ownKnob C.prog.godebug = none) (started : os.Started) (noInit : C.prog.inits.idxOf? f = none) (hfn : C.prog.funcs[f]? = some fn)
    (witness : ∃ (w : World) (tape : Tape) (i : Input), w.os = os ∧ (w.forCall tape i).Shaped C.prog ∧ i.vars = [] ∧ Input.okWide C.prog (w.forCall tape i) .any w.heap.size f i ∧
      ((s.pre enc C.prog fn [] apart (w.forCall tape i).memory i.args ∧ X (w.forCall tape i).memory) ∧ sizedMet enc C.prog fn (OpenSpec.ofChange s) apart (w.forCall tape i).memory i.args) ∧ a.holds C.prog (lone (Frame.enter C.prog f i.args .normal) [] (w.forCall tape i)))
    (contract : ∀ (W : World) (base : Nat) (args : Array Value) (ds gs : List (DataW H)) (before : List MemPlace), W.ShapedOpen C.prog →
      (∀ (j : Nat) t v, fn.params[j]? = some t → args[j]? = some v → Value.okWide C.prog W .any base t v) → DataW.Whole enc C.prog fn.params.toList s.vars apart W args.toList ds gs before → X W →
      Calls C.prog f args W fun e W' => ∃ v, e = .returned v ∧ s.post enc C.prog fn apart fresh handsOn again W args v W') :
    ReturnsInHanded a C os f .any (fun w args => (s.pre enc C.prog fn [] apart w args ∧ X w) ∧ sizedMet enc C.prog fn (OpenSpec.ofChange s) apart w args) (s.post enc C.prog fn apart fresh handsOn again) := by
  refine returnsInHanded_of_calls own started noInit witness ?_
  intro w tape i _ hsh _ hok hpre _
  obtain ⟨_, _, _, fn', hfn', _, _, _, _, hval⟩ := hok
  obtain rfl : fn' = fn := Option.some.inj (hfn'.symm.trans hfn)
  obtain ⟨⟨⟨ds, gs, before, hw, _⟩, hx⟩, _⟩ := hpre
  refine (contract (w.forCall tape i) w.heap.size i.args ds gs before hsh hval (DataW.Whole.of_heap (w' := w.forCall tape i) (by rfl) hw) (hX _ _ (by rfl) hx)).mono fun e W' ⟨v, he, hp⟩ => ?_
  subst he
  exact ChangeSpec.post_blind hp
set_option maxRecDepth 100000 in
theorem lifted (os : Os) (started : os.Started) (H : Type) (enc : TypeId × Value → H) :
    ReturnsInHanded {} Tryz.checked os 5 .any (fun w args => (Rows.querySplitsSpec.pre enc Tryz.prog Tryz.f5 [] false w args ∧ laidMetH Tryz.prog Rows.querySplitsRow.laid w) ∧ sizedMet enc Tryz.prog Tryz.f5 (OpenSpec.ofChange Rows.querySplitsSpec) false w args)
      (Rows.querySplitsSpec.post enc Tryz.prog Tryz.f5 false true false false) := by
  refine returns_shaped (C := Tryz.checked) (X := fun w => laidMetH Tryz.prog Rows.querySplitsRow.laid w) (fun _ _ hh h => h.of_heap hh) own started (by kernel_rfl) Tryz.func5
    (ChangeSpec.witness_shaped (enc := enc) (C := Tryz.checked) (os := os) (X := fun w _ => laidMetH Tryz.prog Rows.querySplitsRow.laid w) false (World.laidAll Tryz.prog os Rows.querySplitsRow.laid) #[.string ⟨#[]⟩] 8 (World.laidAll_os _ _ _) (World.shaped_of_ZipB (by kernel_rfl) (by kernel_rfl)) (by kernel_rfl) (by kernel_rfl) (by kernel_rfl)
      (by rw [MakeChecks.laidMetH_plain _ _ _ (by kernel_rfl)]; exact laidMet_laidAll _ (by kernel_rfl) (by kernel_rfl))) ?_
  intro W base args ds gs before hsh hval0 hW hL
  have hval : ∀ (j : Nat) t v, Tryz.f5.params[j]? = some t → args[j]? = some v → Value.okWide Tryz.prog W .any base t v := hval0
  have hW' := hW
  obtain ⟨p, q, hA0, hV, rfl, hfz, hnd⟩ := hW
  have hA : DataW.TrodAll enc Tryz.prog W 0 (fun _ => true) true Tryz.f5.params.toList args.toList ds p := hA0
  rw [Tryz.params5] at hA hval
  obtain ⟨v0, d0, rfl, rfl, h0⟩ := trodAll_one hA
  obtain ⟨rfl, rfl⟩ := trodVars_none hV
  obtain ⟨s, rfl, rfl, rfl, hsz⟩ := open_string Tryz.underlying9 (hval 0 9 v0 rfl rfl) h0
  obtain ⟨n, hn⟩ := shaped_mx hsh
  obtain ⟨c0, hc0⟩ := shaped_at hsh (by rw [gsz8]; omega) row0
  have hgs : Tryz.prog.globals.size ≤ W.heap.size := by
    rw [gsz8]
    exact shaped_size hsh
  rw [MakeChecks.laidMetH_plain _ _ _ (by kernel_rfl)] at hL
  obtain ⟨ps, ⟨g0, t0, cs0, f0, p0, q0, _, _, _, _, ⟨g1, t1, cs1, f1, p1, q1, _, _, _, _, ⟨g2, t2, cs2, f2, p2, q2, _, _, _, _, ⟨g3, t3, cs3, f3, p3, q3, _, _, _, _, ⟨g4, t4, cs4, f4, p4, q4, _, _, _, _, ⟨g5, t5, cs5, f5, p5, q5, _, _, _, _, ⟨g6, t6, cs6, f6, p6, q6, _, _, _, _, ⟨g7, t7, cs7, f7, p7, q7, hg7, ht7, hv7, hd7, _⟩, _⟩, _⟩, _⟩, _⟩, _⟩, _⟩, _⟩, _⟩ := hL
  obtain rfl := Option.some.inj (gSpc.symm.trans hg7)
  obtain rfl := Option.some.inj (tSpc.symm.trans ht7)
  obtain ⟨hsz0, hcells⟩ := of_space hc0 hv7 hd7
  refine (walk W s n c0 hn hc0 hsz0 hcells hgs).mono fun e W' ⟨he, hb⟩ => ?_
  subst he
  exact ⟨_, rfl, _, _, _, [], [] ++ [], [], hW', trodAll_mk1 (shut_bool Tryz.underlying4 true), trodAll_mk1 (shut_string Tryz.underlying9 hsz), rfl, hb.frame _, fun h => by cases h⟩
theorem row_holds : Rows.QuerySplitsSaid :=
  OpenClaim.holds_of_wide 5 Tryz.f5 rfl rfl rfl rfl rfl rfl rfl ⟨rfl, rfl, rfl, rfl, rfl⟩ rfl rfl rfl rfl rfl (by kernel_rfl) Tryz.func5 (by kernel_rfl)
    (of_decide_eq_true (by kernel_rfl)) (by unfold Func.isWrapper; rw [if_neg (of_decide_eq_false (by kernel_rfl))]; exact ⟨rfl, rfl⟩)
    (fun os started H enc _ => lifted os started H enc)
end Go.Proofs.YtpljgnjdlciicaaGreatDoor
