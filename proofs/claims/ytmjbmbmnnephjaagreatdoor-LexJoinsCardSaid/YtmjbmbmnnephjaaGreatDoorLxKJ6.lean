/- The bridge: an argument that reads as data has an abstract value: numbers, texts, lists, structs. -/
import Derived.Test.YtmjbmbmnnephjaaGreatDoorEvS26
import Derived.Test.YtmjbmbmnnephjaaGreatDoorLxKJ4
import Derived.ChangeArms
import Derived.DataReads
import Derived.SizedLaws
import Derived.Test.YtmjbmbmnnephjaaGreatDoorLxKJ5
import Derived.KernelRfl
namespace Go.Ev
open Go Go.RowKit
/-- All blocks of cells are spoken of as lists. -/
def AllLs (ρ : Map) (w : World) : Prop := ∀ (B : Nat) (c : Array Value) (el : TypeId) (fr : Nat × Nat), w.heap[B]? = some (.cells c el fr) → ∃ x, ρ.ls B = some x ∧ x.fc = c.toList
def aggTy (P : Program) (t : TypeId) : Bool := match P.underlying t with
  | some (.struct _) => true
  | some (.array _ _) => true
  | _ => false
/-- What the abstract cells of a type look like: no text and no list is of more bytes than B. -/
def FormC (P : Program) (B : Nat) : Nat → TypeId → List Value → Prop
  | 0, _, _ => False
  | n + 1, t, vs => match P.underlying t with
    | some .bool => ∃ b, vs = [.bool b]
    | some (.int k) => ∃ i, vs = [.int k i] ∧ (Lit.int k i).wf = true
    | some .string => ∃ s : ByteArray, vs = [.string s] ∧ s.data.toList.length ≤ B
    | some (.slice e) => ∃ es, vs = [lstV es] ∧ es.length * P.bytesOf e ≤ B ∧ es.length ≤ maxLen ∧ ∀ x, x ∈ es → (cellsL x).length = P.cellsOf e ∧ (aggTy P e = true → x = .agg ⟨cellsL x⟩) ∧ (aggTy P e = false → cellsL x = [x]) ∧ FormC P B n e (cellsL x)
    | some (.struct fs) => vs.length = P.cellsOf t ∧ ∀ (i : Nat) (f : Field), fs[i]? = some f → FormC P B n f.type ((vs.drop f.offset).take (P.cellsOf f.type))
    | _ => False
section
variable {P : Program} {B n : Nat} {t : TypeId} {vs : List Value}
theorem FormC.int {k : IntKind} (ht : P.underlying t = some (.int k)) (h : FormC P B n t vs) : ∃ i, vs = [.int k i] ∧ (Lit.int k i).wf = true := by
  cases n with
  | zero => exact h.elim
  | succ n => unfold FormC at h; rw [ht] at h; exact h
theorem FormC.bool (ht : P.underlying t = some .bool) (h : FormC P B n t vs) : ∃ b, vs = [.bool b] := by
  cases n with
  | zero => exact h.elim
  | succ n => unfold FormC at h; rw [ht] at h; exact h
theorem FormC.string (ht : P.underlying t = some .string) (h : FormC P B n t vs) : ∃ s : ByteArray, vs = [.string s] ∧ s.data.toList.length ≤ B := by
  cases n with
  | zero => exact h.elim
  | succ n => unfold FormC at h; rw [ht] at h; exact h
theorem FormC.slice {e : TypeId} (ht : P.underlying t = some (.slice e)) (h : FormC P B n t vs) : ∃ m, n = m + 1 ∧ ∃ es, vs = [lstV es] ∧ es.length * P.bytesOf e ≤ B ∧ es.length ≤ maxLen ∧ ∀ x, x ∈ es → (cellsL x).length = P.cellsOf e ∧ (aggTy P e = true → x = .agg ⟨cellsL x⟩) ∧ (aggTy P e = false → cellsL x = [x]) ∧ FormC P B m e (cellsL x) := by
  cases n with
  | zero => exact h.elim
  | succ n => unfold FormC at h; rw [ht] at h; exact ⟨n, rfl, h⟩
theorem FormC.struct {fs : Array Field} (ht : P.underlying t = some (.struct fs)) (h : FormC P B n t vs) : ∃ m, n = m + 1 ∧ vs.length = P.cellsOf t ∧ ∀ (i : Nat) (f : Field), fs[i]? = some f → FormC P B m f.type ((vs.drop f.offset).take (P.cellsOf f.type)) := by
  cases n with
  | zero => exact h.elim
  | succ n => unfold FormC at h; rw [ht] at h; exact ⟨n, rfl, h⟩
end
/-- Fields lie one behind the other, and fill the row. -/
def contig (P : Program) : Nat → List Field → Nat → Bool
  | o, [], n => Nat.beq o n
  | o, f :: fs, n => Nat.beq f.offset o && contig P (o + P.cellsOf f.type) fs n
/-- A type of numbers, texts, lists and structs. -/
inductive PlainAt (P : Program) (T : TypeId → Prop) (t : TypeId) : Prop
  | bool : P.underlying t = some .bool → PlainAt P T t
  | int {k : IntKind} : P.underlying t = some (.int k) → PlainAt P T t
  | string : P.underlying t = some .string → PlainAt P T t
  | slice {e : TypeId} : P.underlying t = some (.slice e) → T e → 0 < P.cellsOf e → (aggTy P e = false → P.cellsOf e = 1) → PlainAt P T t
  | struct {fs : Array Field} : P.underlying t = some (.struct fs) → (∀ f, f ∈ fs.toList → T f.type) → contig P 0 fs.toList (P.cellsOf t) = true → PlainAt P T t
section
variable {P : Program} {w : World} {ρ : Map} {H : Type} {enc : TypeId × Value → H} {base : Nat} {sp : Nat → Bool} {held : Bool} {B : Nat}
/-- An element's value, of its cells. -/
def elemV (P : Program) (e : TypeId) (vs : List Value) : Value := match aggTy P e with
  | true => .agg ⟨vs⟩
  | false => vs.headD U
theorem elem_cells {n : Nat} {e : TypeId} {vs : List Value} (hf : FormC P B n e vs) (hl : vs.length = P.cellsOf e) (h1 : aggTy P e = false → P.cellsOf e = 1) : cellsL (elemV P e vs) = vs ∧ (aggTy P e = true → elemV P e vs = .agg ⟨vs⟩) ∧ (aggTy P e = false → vs = [elemV P e vs]) := by
  unfold elemV
  cases ha : aggTy P e with
  | true => exact ⟨rfl, fun _ => rfl, fun h => by cases h⟩
  | false =>
    have h1 := h1 ha
    rw [h1] at hl
    cases n with
    | zero => exact hf.elim
    | succ n =>
      unfold FormC at hf
      unfold aggTy at ha
      split at hf
      · obtain ⟨b, rfl⟩ := hf; exact ⟨rfl, (fun h => by cases h), fun _ => rfl⟩
      · obtain ⟨i, rfl, _⟩ := hf; exact ⟨rfl, (fun h => by cases h), fun _ => rfl⟩
      · obtain ⟨s, rfl, _⟩ := hf; exact ⟨rfl, (fun h => by cases h), fun _ => rfl⟩
      · obtain ⟨es, rfl, _⟩ := hf; exact ⟨rfl, (fun h => by cases h), fun _ => rfl⟩
      · rename_i fs hu
        rw [hu] at ha
        cases ha
      · exact hf.elim
theorem VRs.len {l l' : List Value} (h : VRs ρ l l') : l.length = l'.length := h.length.symm
theorem fields_ok {n : Nat} {fs : List Field} {cs : List Value} (N : Nat) (hN : cs.length = N)
    (h : ∀ f, f ∈ fs → ∃ vs, VRs ρ vs ((cs.drop f.offset).take (P.cellsOf f.type)) ∧ FormC P B n f.type vs) : ∀ (o : Nat), contig P o fs N = true → o ≤ N →
    ∃ vs, VRs ρ vs (cs.drop o) ∧ ∀ f, f ∈ fs → o ≤ f.offset ∧ FormC P B n f.type ((vs.drop (f.offset - o)).take (P.cellsOf f.type)) := by
  induction fs with
  | nil =>
    intro o hc ho
    have : o = N := Nat.eq_of_beq_eq_true hc
    refine ⟨[], ?_, fun f hf => by cases hf⟩
    rw [List.drop_eq_nil_of_le (by omega)]
    exact .nil
  | cons f fs ih =>
    intro o hc ho
    simp only [contig, Bool.and_eq_true] at hc
    have hfo := Nat.eq_of_beq_eq_true hc.1
    obtain ⟨v1, r1, f1⟩ := h f (List.mem_cons_self ..)
    have hle : o + P.cellsOf f.type ≤ N := by
      have : ∀ (fs : List Field) (o : Nat), contig P o fs N = true → o ≤ N := by
        intro fs
        induction fs with
        | nil => intro o h; have := Nat.eq_of_beq_eq_true h; omega
        | cons f fs ih => intro o h; simp only [contig, Bool.and_eq_true] at h; have := ih _ h.2; omega
      exact this fs _ hc.2
    obtain ⟨v2, r2, f2⟩ := ih (fun g hg => h g (List.mem_cons_of_mem _ hg)) (o + P.cellsOf f.type) hc.2 hle
    have hl1 : v1.length = P.cellsOf f.type := by
      rw [r1.len, List.length_take, List.length_drop]; omega
    refine ⟨v1 ++ v2, ?_, ?_⟩
    · have e : cs.drop o = (cs.drop f.offset).take (P.cellsOf f.type) ++ cs.drop (o + P.cellsOf f.type) := by
        rw [hfo, ← List.drop_drop, List.take_append_drop]
      rw [e]
      exact r1.append r2
    · intro g hg
      rcases List.mem_cons.1 hg with rfl | hg
      · refine ⟨by omega, ?_⟩
        rw [hfo, Nat.sub_self, List.drop_zero, List.take_append_of_le_length (by omega), List.take_of_length_le (by omega)]
        exact f1
      · obtain ⟨g1, g2⟩ := f2 g hg
        refine ⟨by omega, ?_⟩
        rw [List.drop_append, List.drop_eq_nil_of_le (by omega), List.nil_append, hl1, show g.offset - o - P.cellsOf f.type = g.offset - (o + P.cellsOf f.type) by omega]
        exact g2
theorem mem_weightsAll {e : TypeId} : ∀ {ds : List (DataW H)} {d : DataW H}, d ∈ ds → ∀ k, k ∈ d.weights P e → k ∈ DataW.weightsAll P e ds
  | [], _, h, _, _ => by cases h
  | a :: ds, d, h, k, hk => by
    simp only [DataW.weightsAll, List.mem_append]
    rcases List.mem_cons.1 h with rfl | h
    · exact .inl hk
    · exact .inr (mem_weightsAll h k hk)
theorem bridge {T : TypeId → Prop} (K : ∀ t, T t → PlainAt P T t) (ls : AllLs ρ w) : ∀ (n : Nat) (t : TypeId) (cs : List Value) (x : DataW H × List MemPlace), T t → DataW.trod enc P w base sp held n t cs = some x → (∀ k, k ∈ x.1.weights P t → k ≤ B) →
    ∃ vs, VRs ρ vs cs ∧ FormC P B n t vs := by
  intro n
  induction n with
  | zero => intro t cs x _ h _; simp [DataW.trod] at h
  | succ n ih =>
    intro t cs x hT h hw
    cases K t hT with
    | bool hu =>
      obtain ⟨b, rfl, _⟩ := DataW.trod_bool hu h
      exact ⟨[.bool b], .cons (.bool b) .nil, by unfold FormC; rw [hu]; exact ⟨b, rfl⟩⟩
    | int hu =>
      obtain ⟨i, rfl, _, hwf⟩ := DataW.trod_int hu h
      exact ⟨[.int _ i], .cons (.int _ i) .nil, by unfold FormC; rw [hu]; exact ⟨i, rfl, hwf⟩⟩
    | string hu =>
      obtain ⟨s, rfl, rfl, _⟩ := DataW.trod_string hu h
      have hwf := hw s.data.toList.length (by simp [DataW.weights])
      exact ⟨[.string s], .cons (.string s) .nil, by unfold FormC; rw [hu]; exact ⟨s, rfl, hwf⟩⟩
    | @struct fs hu hts hc =>
      obtain ⟨xs, m, hm, rfl, hl, hlen, hel⟩ := DataW.trod_struct hu h
      have hm : m = n := by omega
      subst hm
      obtain ⟨vs, r, hf⟩ := fields_ok (P := P) (ρ := ρ) (n := m) (fs := fs.toList) (cs := cs) (P.cellsOf t) hl (fun f hf => by
        obtain ⟨i, hi⟩ := List.getElem?_of_mem hf
        have hi' : fs[i]? = some f := by simpa using hi
        have := hel i f hi'
        have hlt : i < xs.length := by rw [hlen]; exact (Array.getElem?_eq_some_iff.1 hi').1
        rw [List.getElem?_eq_getElem hlt] at this
        refine ih f.type _ _ (hts f hf) this fun k hk => hw k ?_
        simp only [DataW.weights, hu]
        refine DataW.weights_mem_each (j := i) (t := f.type) (d := xs[i].1) ?_ ?_ k hk
        · rw [List.getElem?_map, hi]; rfl
        · rw [List.getElem?_map, List.getElem?_eq_getElem hlt]; rfl) 0 hc (Nat.zero_le _)
      refine ⟨vs, by simpa using r, ?_⟩
      unfold FormC
      rw [hu]
      refine ⟨by rw [r.len, List.drop_zero, hl], fun i f hf' => ?_⟩
      have := hf f (by have : fs.toList[i]? = some f := by simpa using hf'
                       exact List.mem_of_getElem? this)
      simpa using this.2
    | @slice e hu hTe hsz h1 =>
      rcases DataW.trod_slice hu h with ⟨rfl, _⟩ | ⟨a, len, cap, elems, rest, m, hm, rfl, rfl, _, hl, hcap, hlen, hel, _, _⟩
      · refine ⟨[lstV []], .cons .lst0 .nil, ?_⟩
        unfold FormC
        rw [hu]
        exact ⟨[], rfl, by simp, Nat.zero_le _, fun x hx => by cases hx⟩
      · have hm : m = n := by omega
        subst hm
        have hi : ∀ i, i < len → ∃ ci vs, w.cells? base (a.add (i * P.cellsOf e)) (P.cellsOf e) = some ci ∧ VRs ρ vs ci ∧ FormC P B m e vs := by
          intro i hi
          have := hel i hi
          rw [List.getElem?_eq_getElem (by omega)] at this
          obtain ⟨ci, h2, h3⟩ := Option.bind_eq_some_iff.1 this
          obtain ⟨vs, h4, h5⟩ := ih e ci _ hTe h3 fun k hk => hw k (by
            simp only [DataW.weights, hu, List.mem_cons, List.mem_append]
            refine .inr (.inl (mem_weightsAll (d := (elems[i]'(by omega)).1) (List.mem_map_of_mem (List.getElem_mem _)) k hk)))
          exact ⟨ci, vs, h2, h4, h5⟩
        cases hlz : len with
        | zero =>
          refine ⟨[lstV []], .cons .lst0 .nil, ?_⟩
          unfold FormC
          rw [hu]
          exact ⟨[], rfl, by simp, Nat.zero_le _, fun x hx => by cases hx⟩
        | succ l0 =>
          -- the block
          obtain ⟨c0, _, hc0, _, _⟩ := hi 0 (by omega)
          obtain ⟨_, hlen0, hcell0⟩ := World.cells?_some hc0
          have hcell00 := hcell0 0 hsz
          rw [Nat.zero_mul] at hcell00
          have ea : (a.add 0).add 0 = a := by simp [Addr.add]
          rw [ea, List.getElem?_eq_getElem (by omega)] at hcell00
          have hblk : a.spot = none ∧ ∃ c el fr, w.heap[a.block]? = some (.cells c el fr) := by
            unfold World.cell? at hcell00
            split at hcell00
            · rename_i c el fr hh
              refine ⟨?_, c, el, fr, hh⟩
              cases hs : a.spot with
              | none => rfl
              | some s => rw [hs] at hcell00; simp at hcell00
            · cases hcell00
          obtain ⟨hsp, c, el, fr, hh⟩ := hblk
          obtain ⟨b, off, sp'⟩ := a
          obtain rfl : sp' = none := hsp
          simp only at hh
          obtain ⟨y, hy, hfc⟩ := ls b c el fr hh
          have hcell : ∀ i j ci, i < len → w.cells? base ((⟨b, off, none⟩ : Addr).add (i * P.cellsOf e)) (P.cellsOf e) = some ci → ∀ v, ci[j]? = some v → y.fc[off + (i * P.cellsOf e + j)]? = some v := by
            intro i j ci _ hci v hv
            obtain ⟨_, hl2, hc2⟩ := World.cells?_some hci
            have hj : j < P.cellsOf e := by rw [← hl2]; exact (List.getElem?_eq_some_iff.1 hv).1
            have := hc2 j hj
            rw [hv] at this
            have ead : ((⟨b, off, none⟩ : Addr).add (i * P.cellsOf e)).add j = ⟨b, off + (i * P.cellsOf e + j), none⟩ := by
              unfold Addr.add
              by_cases h0 : i * P.cellsOf e = 0 <;> by_cases h2 : j = 0 <;> simp [h0, h2, Nat.add_assoc]
            rw [ead] at this
            unfold World.cell? at this
            simp only [hh, Option.isSome_none, Bool.false_eq_true, if_false] at this
            rw [hfc]
            simpa using this
          have main : ∀ k, k ≤ len → ∃ es cs', es.length = k ∧ VRs ρ (flatC es) cs' ∧ cs'.length = k * P.cellsOf e ∧ Sub y.fc off cs' ∧ ∀ x, x ∈ es → (cellsL x).length = P.cellsOf e ∧ (aggTy P e = true → x = .agg ⟨cellsL x⟩) ∧ (aggTy P e = false → cellsL x = [x]) ∧ FormC P B m e (cellsL x) := by
            intro k
            induction k with
            | zero => exact fun _ => ⟨[], [], rfl, .nil, by simp, fun j v h => by simp at h, fun x hx => by cases hx⟩
            | succ k ihk =>
              intro hk
              obtain ⟨es, cs', e1, e2, e3, e4, e5⟩ := ihk (by omega)
              obtain ⟨ci, vs, g1, g2, g3⟩ := hi k (by omega)
              obtain ⟨_, hl2, _⟩ := World.cells?_some g1
              have hvl : vs.length = P.cellsOf e := by rw [g2.len, hl2]
              obtain ⟨q1, q2, q3⟩ := elem_cells g3 hvl h1
              refine ⟨es ++ [elemV P e vs], cs' ++ ci, by simp [e1], ?_, ?_, ?_, ?_⟩
              · rw [flatC_append]
                refine e2.append ?_
                simp only [flatC, List.append_nil, q1]
                exact g2
              · rw [List.length_append, e3, hl2, Nat.succ_mul]
              · intro j v hv
                by_cases hj : j < cs'.length
                · rw [List.getElem?_append_left hj] at hv
                  exact e4 j v hv
                · rw [List.getElem?_append_right (by omega), e3] at hv
                  have := hcell k (j - k * P.cellsOf e) ci (by omega) g1 v hv
                  rw [show k * P.cellsOf e + (j - k * P.cellsOf e) = j by omega] at this
                  exact this
              · intro x hx
                rcases List.mem_append.1 hx with hx | hx
                · exact e5 x hx
                · simp only [List.mem_singleton] at hx
                  subst hx
                  rw [q1]
                  exact ⟨hvl, q2, q3, g3⟩
          obtain ⟨es, cs', e1, e2, e3, e4, e5⟩ := main len (Nat.le_refl _)
          refine ⟨[lstV es], .cons ?_ .nil, ?_⟩
          · rw [← hlz, ← e1]
            exact VR.lst (sz := P.cellsOf e) hy e2 e4 (fun x hx => (e5 x hx).1) (by omega)
          · unfold FormC
            rw [hu]
            refine ⟨es, rfl, ?_, by omega, e5⟩
            have h0 := hw ((elems.map (·.1)).length * P.bytesOf e + (rest.map (·.1)).length * P.bytesOf e) (by
              simp only [DataW.weights, hu, Nat.add_mul, List.mem_cons, true_or])
            rw [List.length_map, hlen] at h0
            rw [e1]
            omega
end
end Go.Ev
/- What the tokens of an argument look like. -/
namespace Go.Proofs.YtmjbmbmnnephjaaGreatDoor
open Go Go.Ev Go.Proofs
/-- The types of tokens. -/
def TokTy (t : TypeId) : Prop := t = 23 ∨ t = 34 ∨ t = 3 ∨ t = 9 ∨ t = 32 ∨ t = 28 ∨ t = 2 ∨ t = 29 ∨ t = 30
theorem tokTy (t : TypeId) (h : TokTy t) : PlainAt Tryz.prog TokTy t := by
  rcases h with rfl | rfl | rfl | rfl | rfl | rfl | rfl | rfl | rfl
  · exact .slice Tryz.underlying23 (by simp [TokTy]) (of_decide_eq_true (by kernel_rfl)) (fun h => by exact absurd h (by rw [show aggTy Tryz.prog 34 = true by kernel_rfl]; decide))
  · refine .struct Tryz.underlying34 (fun f hf => ?_) (by kernel_rfl)
    simp only [List.mem_cons, List.not_mem_nil, or_false] at hf
    rcases hf with rfl | rfl | rfl | rfl | rfl <;> simp [TokTy]
  · exact .int Tryz.underlying3
  · exact .string Tryz.underlying9
  · refine .struct Tryz.underlying32 (fun f hf => ?_) (by kernel_rfl)
    simp only [List.mem_cons, List.not_mem_nil, or_false] at hf
    rcases hf with rfl | rfl | rfl | rfl <;> simp [TokTy]
  · exact .slice Tryz.underlying28 (by simp [TokTy]) (of_decide_eq_true (by kernel_rfl)) (fun _ => by kernel_rfl)
  · exact .int Tryz.underlying2
  · exact .slice Tryz.underlying29 (by simp [TokTy]) (of_decide_eq_true (by kernel_rfl)) (fun _ => by kernel_rfl)
  · exact .slice Tryz.underlying30 (by simp [TokTy]) (of_decide_eq_true (by kernel_rfl)) (fun h => by exact absurd h (by rw [show aggTy Tryz.prog 32 = true by kernel_rfl]; decide))
theorem co3 : Tryz.prog.cellsOf 3 = 1 := by kernel_rfl
theorem co9 : Tryz.prog.cellsOf 9 = 1 := by kernel_rfl
theorem co28 : Tryz.prog.cellsOf 28 = 1 := by kernel_rfl
theorem co29 : Tryz.prog.cellsOf 29 = 1 := by kernel_rfl
theorem co30 : Tryz.prog.cellsOf 30 = 1 := by kernel_rfl
theorem co32 : Tryz.prog.cellsOf 32 = 4 := by kernel_rfl
theorem co34 : Tryz.prog.cellsOf 34 = 8 := by kernel_rfl
section
variable {B : Nat}
theorem form_int {n : Nat} {t : TypeId} (ht : Tryz.prog.underlying t = some (.int .i64)) {vs : List Value} (h : FormC Tryz.prog B n t vs) : ∃ i, vs = [.int .i64 i] := by
  obtain ⟨i, h, _⟩ := h.int ht
  exact ⟨i, h⟩
theorem form_str {n : Nat} {vs : List Value} (h : FormC Tryz.prog B n 9 vs) : ∃ s : ByteArray, vs = [.string s] ∧ s.data.toList.length ≤ B := h.string Tryz.underlying9
theorem form_lst {n : Nat} {t e : TypeId} (ht : Tryz.prog.underlying t = some (.slice e)) {vs : List Value} (h : FormC Tryz.prog B n t vs) :
    ∃ m es, n = m + 1 ∧ vs = [lstV es] ∧ es.length ≤ 9223372036854775807 ∧ ∀ x, x ∈ es → (aggTy Tryz.prog e = true → x = .agg ⟨cellsL x⟩) ∧ (aggTy Tryz.prog e = false → cellsL x = [x]) ∧ FormC Tryz.prog B m e (cellsL x) := by
  obtain ⟨m, hm, es, h1, _, h2, h3⟩ := h.slice ht
  exact ⟨m, es, hm, h1, h2, fun x hx => ⟨(h3 x hx).2.1, (h3 x hx).2.2.1, (h3 x hx).2.2.2⟩⟩
theorem len4 {vs : List Value} (h : vs.length = 4) : ∃ a b c d, vs = [a, b, c, d] := by
  match vs, h with
  | [a, b, c, d], _ => exact ⟨a, b, c, d, rfl⟩
theorem len8 {vs : List Value} (h : vs.length = 8) : ∃ a b c d e f g k, vs = [a, b, c, d, e, f, g, k] := by
  match vs, h with
  | [a, b, c, d, e, f, g, k], _ => exact ⟨a, b, c, d, e, f, g, k, rfl⟩
theorem form_val : ∀ (n : Nat) (vs : List Value), FormC Tryz.prog B n 32 vs → ∃ t m sy l, vs = [.int .i64 t, lstV m, lstV sy, lstV l] ∧ VF (.agg ⟨[.int .i64 t, lstV m, lstV sy, lstV l]⟩) := by
  intro n
  induction n using Nat.strongRecOn with
  | ind n ih =>
  intro vs h
  obtain ⟨m0, hm0, hl, hf⟩ := h.struct Tryz.underlying32
  · skip
    rw [co32] at hl
    obtain ⟨a, b, c, d, rfl⟩ := len4 hl
    have f0 : FormC Tryz.prog B m0 3 (([a, b, c, d].drop 0).take (Tryz.prog.cellsOf 3)) := hf 0 _ rfl
    have f1 : FormC Tryz.prog B m0 28 (([a, b, c, d].drop 1).take (Tryz.prog.cellsOf 28)) := hf 1 _ rfl
    have f2 : FormC Tryz.prog B m0 29 (([a, b, c, d].drop 2).take (Tryz.prog.cellsOf 29)) := hf 2 _ rfl
    have f3 : FormC Tryz.prog B m0 30 (([a, b, c, d].drop 3).take (Tryz.prog.cellsOf 30)) := hf 3 _ rfl
    rw [co3] at f0
    rw [co28] at f1
    rw [co29] at f2
    rw [co30] at f3
    obtain ⟨t, e0⟩ := form_int Tryz.underlying3 f0
    obtain ⟨n1, m, _, e1, l1, g1⟩ := form_lst Tryz.underlying28 f1
    obtain ⟨n2, sy, _, e2, l2, g2⟩ := form_lst Tryz.underlying29 f2
    obtain ⟨n3, l, hn3, e3, l3, g3⟩ := form_lst Tryz.underlying30 f3
    simp only [List.drop_zero, List.drop_succ_cons, List.take_succ_cons, List.take_zero, List.cons.injEq, and_true] at e0 e1 e2 e3
    subst e0 e1 e2 e3
    refine ⟨t, m, sy, l, rfl, .mk l1 l2 l3 (fun x hx => ?_) (fun x hx => ?_) (fun x hx => ?_)⟩
    · obtain ⟨_, h2, h3⟩ := g1 x hx
      obtain ⟨i, hi⟩ := form_int Tryz.underlying2 h3
      rw [h2 (by kernel_rfl)] at hi
      exact ⟨i, by simpa using hi⟩
    · obtain ⟨_, h2, h3⟩ := g2 x hx
      obtain ⟨i, hi, _⟩ := form_str h3
      rw [h2 (by kernel_rfl)] at hi
      exact ⟨i, by simpa using hi⟩
    · obtain ⟨h1, _, h3⟩ := g3 x hx
      obtain ⟨t', m', sy', l', h4, h5⟩ := ih n3 (by omega) _ h3
      rw [h1 (by kernel_rfl), h4]
      exact h5
theorem form_tok {n : Nat} {vs : List Value} (h : FormC Tryz.prog B n 34 vs) : ∃ t : Tok, vs = t.cells ∧ TokF t ∧ (bl t.text).length ≤ B := by
  obtain ⟨m0, hm0, hl, hf⟩ := h.struct Tryz.underlying34
  · skip
    rw [co34] at hl
    obtain ⟨a, b, c, d, e, f, g, k, rfl⟩ := len8 hl
    have f0 : FormC Tryz.prog B m0 3 (([a, b, c, d, e, f, g, k].drop 0).take (Tryz.prog.cellsOf 3)) := hf 0 _ rfl
    have f1 : FormC Tryz.prog B m0 3 (([a, b, c, d, e, f, g, k].drop 1).take (Tryz.prog.cellsOf 3)) := hf 1 _ rfl
    have f2 : FormC Tryz.prog B m0 3 (([a, b, c, d, e, f, g, k].drop 2).take (Tryz.prog.cellsOf 3)) := hf 2 _ rfl
    have f3 : FormC Tryz.prog B m0 9 (([a, b, c, d, e, f, g, k].drop 3).take (Tryz.prog.cellsOf 9)) := hf 3 _ rfl
    have f4 : FormC Tryz.prog B m0 32 (([a, b, c, d, e, f, g, k].drop 4).take (Tryz.prog.cellsOf 32)) := hf 4 _ rfl
    rw [co3] at f0 f1 f2
    rw [co9] at f3
    rw [co32] at f4
    obtain ⟨i0, e0⟩ := form_int Tryz.underlying3 f0
    obtain ⟨i1, e1⟩ := form_int Tryz.underlying3 f1
    obtain ⟨i2, e2⟩ := form_int Tryz.underlying3 f2
    obtain ⟨s, e3, l3⟩ := form_str f3
    obtain ⟨t, m, sy, l, e4, v4⟩ := form_val _ _ f4
    simp only [List.drop_zero, List.drop_succ_cons, List.take_succ_cons, List.take_zero, List.cons.injEq, and_true] at e0 e1 e2 e3 e4
    obtain ⟨e4, e5, e6, e7⟩ := e4
    subst e0 e1 e2 e3 e4 e5 e6 e7
    exact ⟨⟨i0, i1, i2, s, t, m, sy, l⟩, rfl, v4, l3⟩
theorem choose_toks {p : Tok → Prop} : ∀ {es : List Value}, (∀ x, x ∈ es → ∃ t, x = tokV t ∧ p t) → ∃ ts : List Tok, es = ts.map tokV ∧ ∀ t, t ∈ ts → p t
  | [], _ => ⟨[], rfl, fun _ h => by cases h⟩
  | x :: es, h => by
    obtain ⟨t, h1, h2⟩ := h x (List.mem_cons_self ..)
    obtain ⟨ts, h3, h4⟩ := choose_toks fun y hy => h y (List.mem_cons_of_mem _ hy)
    refine ⟨t :: ts, by rw [h1, h3]; rfl, fun u hu => ?_⟩
    rcases List.mem_cons.1 hu with rfl | hu
    · exact h2
    · exact h4 u hu
theorem form_toks {n : Nat} {vs : List Value} (h : FormC Tryz.prog B n 23 vs) : ∃ ts : List Tok, vs = [lstV (ts.map tokV)] ∧ ts.length ≤ 9223372036854775807 ∧ (∀ t, t ∈ ts → TokF t ∧ (bl t.text).length ≤ B) := by
  obtain ⟨m, es, _, h1, h2, h3⟩ := form_lst Tryz.underlying23 h
  obtain ⟨ts, rfl, h5⟩ := choose_toks (p := fun t => TokF t ∧ (bl t.text).length ≤ B) (es := es) fun x hx => by
    obtain ⟨g1, _, g3⟩ := h3 x hx
    obtain ⟨t, g4, g5, g6⟩ := form_tok g3
    exact ⟨t, by rw [g1 (by kernel_rfl), g4]; rfl, g5, g6⟩
  exact ⟨ts, h1, by rw [List.length_map] at h2; exact h2, h5⟩
end
end Go.Proofs.YtmjbmbmnnephjaaGreatDoor
