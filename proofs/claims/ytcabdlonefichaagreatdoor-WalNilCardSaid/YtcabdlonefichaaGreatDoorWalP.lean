/- WalNil: for every input the call returns true, and the arguments read behind it as they did before (the row's statement). Conditions: the listed package-level variables read, when the call begins, as the row's cell 'laid' says (the card ties them to the program's text). -/
import Derived.Test.YtcabdlonefichaaGreatDoorRows
import Derived.ProofKit
import Derived.LaidMore
import Derived.OpenShut
import Derived.Stop.Joined
import Derived.MakeChecks
import Derived.Test.YtcabdlonefichaaGreatDoorWalW
namespace Go.Proofs.YtcabdlonefichaaGreatDoor
open Go Go.ChangeShapes Go.WideShapes Go.ChangeAt Go.WideMaps Go.WideElems Go.RowKit

theorem own : ownKnob Tryz.prog.godebug = none := by kernel_rfl
theorem laidOut : laidOutB Tryz.prog = true := by kernel_rfl
theorem gPow : Tryz.prog.globalNamed "internal/strconv.uint64pow10" = some 2 := by kernel_rfl
theorem tPow : (Tryz.prog.globals[2]?).map (·.type) = some 184 := by kernel_rfl
theorem u184 : Tryz.prog.underlying 184 = some (.array 20 23) := by kernel_rfl
theorem c184 : Tryz.prog.cellsOf 184 = 20 := by kernel_rfl
theorem c23 : Tryz.prog.cellsOf 23 = 1 := by kernel_rfl
theorem row2 : (((begin Tryz.prog (fun _ _ => 0) default).world.heap[2]?).bind Obj.row?).map (·.2) = some 184 := by kernel_rfl
theorem row5 : (((begin Tryz.prog (fun _ _ => 0) default).world.heap[5]?).bind Obj.row?).isSome = true := by kernel_rfl

/-- The table's block, in a world that has the program's shape. -/
theorem shaped_block {W : World} (h : W.ShapedOpen Tryz.prog) : (∃ cs, W.heap[2]? = some (.cells cs 184 (0, 0))) ∧ Tryz.prog.globals.size ≤ W.heap.size := by
  obtain ⟨h1, _⟩ := h
  constructor
  · cases hz : ((begin Tryz.prog (fun _ _ => 0) default).world.heap[2]?).bind Obj.row? with
    | none => have := row2; rw [hz] at this; cases this
    | some x =>
      obtain ⟨zero, t⟩ := x
      have ht := row2
      rw [hz] at ht
      obtain rfl : t = 184 := by simpa using ht
      obtain ⟨cs, e, _⟩ := h1 2 zero 184 (by rw [globals6]; omega) hz
      exact ⟨cs, e⟩
  · cases hz : ((begin Tryz.prog (fun _ _ => 0) default).world.heap[5]?).bind Obj.row? with
    | none => have := row5; rw [hz] at this; cases this
    | some x =>
      obtain ⟨zero, t⟩ := x
      obtain ⟨cs, e, _⟩ := h1 5 zero t (by rw [globals6]; omega) hz
      have := (Array.getElem?_eq_some_iff.1 e).1
      rw [globals6]; omega
/-- What the condition says of the table's cells. -/
theorem of_laid {W : World} (h : laidMetH Tryz.prog Rows.walNilRow.laid W) {cs : Array Value} (hb : W.heap[2]? = some (.cells cs 184 (0, 0))) : cs.size = 20 ∧ ∀ (i : Nat) (v : Value), pow10[i]? = some v → cs[i]? = some v := by
  rw [MakeChecks.laidMetH_plain _ _ _ (by kernel_rfl)] at h
  obtain ⟨ps, ⟨g0, t0, cs0, f0, p0, q0, hg0, ht0, hv0, hd0, ⟨g1, t1, cs1, f1, p1, q1, hg1, ht1, hv1, hd1, ⟨g2, t2, cs2, f2, p2, q2, hg2, ht2, hv2, hd2, _⟩, _⟩, _⟩, _⟩ := h
  obtain rfl := Option.some.inj (gPow.symm.trans hg2)
  obtain rfl := Option.some.inj (tPow.symm.trans ht2)
  have hcs : cs2 = cs := by
    simp only [World.var?, hg2, Option.bind_some, hb, Option.some.injEq] at hv2
    exact hv2.symm
  subst hcs
  obtain ⟨xs, m, rfl, hx, hlen, hn, hel⟩ := DataW.trod_array u184 hd2
  rw [c184] at hlen
  have hsz : cs2.size = 20 := by simpa using hlen
  refine ⟨hsz, fun i v hv => ?_⟩
  have hi : i < 20 := (List.getElem?_eq_some_iff.1 hv).1
  have hxi := hel i hi
  have hlt : i < xs.length := by omega
  rw [List.getElem?_eq_getElem hlt] at hxi
  obtain ⟨k, e1, e2, _⟩ := DataW.trod_int Tryz.underlying23 hxi
  have hki : (xs.map (·.1))[i]? = some (.lit (.int .u64 k)) := by
    rw [List.getElem?_map, List.getElem?_eq_getElem hlt, e2]; rfl
  have hlist : xs.map (·.1) = pow10.map (fun v => match v with | .int k n => .lit (.int k n) | _ => .nil) := by
    have hx1 : DataW.agg (pow10.map (fun v => match v with | .int k n => .lit (.int k n) | _ => .nil)) = DataW.agg (xs.map (·.1)) := congrArg Prod.fst hx
    exact (DataW.agg.inj hx1).symm
  rw [hlist, List.getElem?_map, hv] at hki
  rw [c23] at e1
  have hcell : cs2.toList[i]? = some (.int .u64 k) := by
    have : ((cs2.toList.drop (i * 1)).take 1)[0]? = some (.int .u64 k) := by rw [e1]; rfl
    simpa using this
  have hvv : v = .int .u64 k := by
    have : ∀ v ∈ pow10, ∀ k, (match v with | .int k n => (.lit (.int k n) : DataW Unit) | _ => .nil) = .lit (.int .u64 k) → v = .int .u64 k := by
      intro v hv k h
      simp only [pow10, List.mem_cons, List.not_mem_nil, or_false] at hv
      rcases hv with rfl | rfl | rfl | rfl | rfl | rfl | rfl | rfl | rfl | rfl | rfl | rfl | rfl | rfl | rfl | rfl | rfl | rfl | rfl | rfl <;>
        (simp only [DataW.lit.injEq, Lit.int.injEq, true_and] at h; rw [h])
    exact this v (List.mem_of_getElem? hv) k (by simpa using hki)
  rw [hvv]
  simpa using hcell
/-- The builder of the row's form, with what is known of the memory's shape. -/
theorem returns_shaped {H : Type} {enc : TypeId × Value → H} {a : Assume} {C : Checked} {os : Os} {f : FuncId} {fn : Func} {s : ChangeSpec} {apart fresh handsOn again : Bool} {X : World → Prop} (hX : ∀ (w w' : World), w.heap = w'.heap → X w → X w')
    (own : ownKnob C.prog.godebug = none) (started : os.Started) (noInit : C.prog.inits.idxOf? f = none) (hfn : C.prog.funcs[f]? = some fn)
    (witness : ∃ (w : World) (tape : Tape) (i : Input), w.os = os ∧ (w.forCall tape i).Shaped C.prog ∧ i.vars = [] ∧ Input.okWide C.prog (w.forCall tape i) .any w.heap.size f i ∧
      ((s.pre enc C.prog fn [] apart (w.forCall tape i).memory i.args ∧ X (w.forCall tape i).memory) ∧ sizedMet enc C.prog fn (OpenSpec.ofChange s) apart (w.forCall tape i).memory i.args) ∧ a.holds C.prog (lone (Frame.enter C.prog f i.args .normal) [] (w.forCall tape i)))
    (contract : ∀ (W : World) (base : Nat) (args : Array Value) (ds gs : List (DataW H)) (before : List MemPlace), W.ShapedOpen C.prog →
      (∀ (j : Nat) t v, fn.params[j]? = some t → args[j]? = some v → Value.okWide C.prog W .any base t v) → DataW.Whole enc C.prog fn.params.toList s.vars apart W args.toList ds gs before → X W →
      Calls C.prog f args W fun e W' => ∃ v, e = .returned v ∧ s.post enc C.prog fn apart fresh handsOn again W args v W') :
    ReturnsInHanded a C os f .any (fun w args => (s.pre enc C.prog fn [] apart w args ∧ X w) ∧ sizedMet enc C.prog fn (OpenSpec.ofChange s) apart w args) (s.post enc C.prog fn apart fresh handsOn again) := by
  refine returnsInHanded_of_calls own started noInit witness ?_
  intro w tape i _ hsh _ hok hpre _
  obtain ⟨_, _, _, fn', hfn', _, _, _, _, hval⟩ := hok
  obtain rfl : fn' = fn := Option.some.inj (hfn'.symm.trans hfn)
  obtain ⟨⟨⟨ds, gs, before, hw, _⟩, hx⟩, _⟩ := hpre
  refine (contract (w.forCall tape i) w.heap.size i.args ds gs before hsh hval (DataW.Whole.of_heap (w' := w.forCall tape i) (by rfl) hw) (hX _ _ (by rfl) hx)).mono fun e W' ⟨v, he, hp⟩ => ?_
  subst he
  exact ChangeSpec.post_blind hp
/-- A slice that can be read: nil, or a row of a block that is there. -/
theorem slice_ok {P : Program} {w : World} {r : Reach} {base t e : Nat} {a : Option Addr} {len cap : Nat} (ht : P.underlying t = some (.slice e)) (h : Value.okWide P w r base t (.slice a len cap)) :
    (a = none ∧ len = 0 ∧ cap = 0) ∨ ∃ b off, a = some ⟨b, off, none⟩ ∧ len ≤ cap ∧ b < w.heap.size := by
  simp only [Value.okWide, ht, Cell.okWide] at h
  unfold Cell.ok at h
  rw [ht] at h
  cases a with
  | none =>
    cases len with
    | zero => cases cap with
      | zero => exact .inl ⟨rfl, rfl, rfl⟩
      | succ c => exact h.elim
    | succ l => exact h.elim
  | some ad =>
    obtain ⟨h1, _, _, h2, row, cells, h3, _⟩ := h
    obtain ⟨b, off, sp⟩ := ad
    obtain rfl : sp = none := h2
    refine .inr ⟨b, off, rfl, h1, ?_⟩
    unfold World.shape? at h3
    split at h3
    · rename_i hh
      exact (Array.getElem?_eq_some_iff.1 hh).1
    · cases h3
/-- The door's own heap meets the condition. -/
theorem door_met (os : Os) (args : Array Value) : laidMetH Tryz.prog Rows.walNilRow.laid ((World.doorLaid Tryz.prog 62 os).forCall (fun _ _ => 0) ⟨#[], args, []⟩).memory := by
  rw [MakeChecks.laidMetH_plain _ _ _ (by kernel_rfl)]
  exact laidMet_of_run' 8 (by kernel_rfl) (by kernel_rfl)
set_option maxRecDepth 100000 in
theorem lifted (os : Os) (started : os.Started) (H : Type) (enc : TypeId × Value → H) :
    ReturnsInHanded {} Tryz.checked os 3 .any (fun w args => (Rows.walNilSpec.pre enc Tryz.prog Tryz.f3 [] false w args ∧ laidMetH Tryz.prog Rows.walNilRow.laid w) ∧ sizedMet enc Tryz.prog Tryz.f3 (OpenSpec.ofChange Rows.walNilSpec) false w args)
      (Rows.walNilSpec.post enc Tryz.prog Tryz.f3 false true false false) := by
  refine returns_shaped (C := Tryz.checked) (X := fun w => laidMetH Tryz.prog Rows.walNilRow.laid w) (fun _ _ hh h => h.of_heap hh) own started (by kernel_rfl) Tryz.func3
    (ChangeSpec.witness_shaped (enc := enc) (C := Tryz.checked) (os := os) (X := fun w _ => laidMetH Tryz.prog Rows.walNilRow.laid w) false (World.doorLaid Tryz.prog 62 os) #[.slice none 0 0, .int .u64 0] 8 rfl (World.shaped_of_RefB (by kernel_rfl) (by kernel_rfl)) (by kernel_rfl) (by kernel_rfl) (by kernel_rfl) (door_met os _)) ?_
  intro W base args ds gs before hsh hval0 hW hL
  have hval : ∀ (j : Nat) t v, Tryz.f3.params[j]? = some t → args[j]? = some v → Value.okWide Tryz.prog W .any base t v := hval0
  have hW' := hW
  obtain ⟨p, q, hA0, hV, rfl, hfz, hnd⟩ := hW
  have hA : DataW.TrodAll enc Tryz.prog W 0 (fun _ => true) true Tryz.f3.params.toList args.toList ds p := hA0
  rw [Tryz.params3] at hA hval
  obtain ⟨v0, v1, d0, d1, p0, p1, rfl, rfl, rfl, h0, h1⟩ := trodAll_two hA
  obtain ⟨rfl, rfl⟩ := trodVars_none hV
  obtain ⟨n, rfl, rfl, rfl, wn⟩ := open_int Tryz.underlying23 (hval 1 23 v1 rfl rfl) h1
  have hv0 := hval 0 22 v0 rfl rfl
  have hlt : ∀ x ∈ p0, x.block < W.heap.size := fun x hx => by simpa using hW'.lt x (by simp [hx])
  obtain ⟨⟨cs, hcs⟩, hgs⟩ := shaped_block hsh
  obtain ⟨hsz, hc⟩ := of_laid hL hcs
  have fin : ∀ W', Below W.heap.size W W' → Rows.walNilSpec.post enc Tryz.prog Tryz.f3 false true false false W #[v0, .int .u64 n] (.bool true) W' := fun W' hb =>
    ⟨_, _, _, [], p0 ++ [], [], hW', trodAll_mk1 (shut_bool Tryz.underlying4 true), trodAll_mk2 (Below.trod laidOut (by kernel_rfl) (of_decide_eq_true (by kernel_rfl)) h0 hb hlt) (shut_int Tryz.underlying23 wn), rfl, hb.frame _, fun h => by cases h⟩
  obtain ⟨a, len, cap, rfl⟩ := okWide_slice Tryz.underlying22 hv0
  have fin2 : Calls Tryz.prog 3 #[.slice a len cap, .int .u64 n] W (fun e W' => e = .returned (.bool true) ∧ Below W.heap.size W W') := by
    rcases slice_ok Tryz.underlying22 hv0 with ⟨rfl, rfl, rfl⟩ | ⟨b, off, rfl, hle, hb⟩
    · exact walk_none W n cs hcs hsz hc hgs
    · exact walk_some W b off len cap n hle hb cs hcs hsz hc hgs
  refine fin2.mono fun e W' ⟨he, hb⟩ => ?_
  subst he
  exact ⟨_, rfl, fin W' hb⟩
theorem row_holds : Rows.WalNilSaid :=
  OpenClaim.holds_of_wide 3 Tryz.f3 rfl rfl rfl rfl rfl rfl rfl ⟨rfl, rfl, rfl, rfl, rfl⟩ rfl rfl rfl rfl rfl (by kernel_rfl) Tryz.func3 (by kernel_rfl)
    (of_decide_eq_true (by kernel_rfl)) (by unfold Func.isWrapper; rw [if_neg (of_decide_eq_false (by kernel_rfl))]; exact ⟨rfl, rfl⟩)
    (fun os started H enc _ => lifted os started H enc)
end Go.Proofs.YtcabdlonefichaaGreatDoor
