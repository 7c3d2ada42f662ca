/- Soundness, part 1: the evaluator's memory against the model's. -/
import Derived.Test.YtpljgnjdlciicaaGreatDoorLyKQ3
import Derived.Below
import Derived.Laws.Cells
import Derived.Laws.Append
import Derived.Laws.AppendOwn
import Derived.Laws.Rows
namespace Go.Ev
open Go

/-! ### Maps from numbers -/
namespace Tr
variable {α : Type}
theorem par_t {k : Nat} (h : Nat.beq (Nat.mod k 2) 0 = true) : k % 2 = 0 := Nat.eq_of_beq_eq_true h
theorem par_f {k : Nat} (h : Nat.beq (Nat.mod k 2) 0 = false) : ¬ k % 2 = 0 := fun e => by
  rw [show Nat.mod k 2 = 0 from e] at h
  cases h
theorem get_n (k : Nat) : (nil : Tr α).get k = none := rfl
theorem get_z (l : Tr α) (v : Option α) (r : Tr α) : (node l v r).get 0 = v := rfl
theorem get_s (l : Tr α) (v : Option α) (r : Tr α) (k : Nat) : (node l v r).get (k + 1) = match Nat.beq (Nat.mod k 2) 0 with
    | true => l.get (Nat.div k 2)
    | false => r.get (Nat.div k 2) := by
  show Bool.rec (motive := fun _ => Option α) (r.get (Nat.div k 2)) (l.get (Nat.div k 2)) (Nat.beq (Nat.mod k 2) 0) = _
  cases Nat.beq (Nat.mod k 2) 0 <;> rfl
theorem single_s (v : Option α) (f k : Nat) : single v (f + 1) (k + 1) = match Nat.beq (Nat.mod k 2) 0 with
    | true => .node (single v f (Nat.div k 2)) none .nil
    | false => .node .nil none (single v f (Nat.div k 2)) := by
  show Bool.rec (motive := fun _ => Tr α) (.node .nil none (single v f (Nat.div k 2))) (.node (single v f (Nat.div k 2)) none .nil) (Nat.beq (Nat.mod k 2) 0) = _
  cases Nat.beq (Nat.mod k 2) 0 <;> rfl
theorem set_z (l : Tr α) (x : Option α) (r : Tr α) (v : Option α) : (node l x r).set 0 v = .node l v r := rfl
theorem set_s (l : Tr α) (x : Option α) (r : Tr α) (k : Nat) (v : Option α) : (node l x r).set (k + 1) v = match Nat.beq (Nat.mod k 2) 0 with
    | true => .node (l.set (Nat.div k 2) v) x r
    | false => .node l x (r.set (Nat.div k 2) v) := by
  show Bool.rec (motive := fun _ => Tr α) (.node l x (r.set (Nat.div k 2) v)) (.node (l.set (Nat.div k 2) v) x r) (Nat.beq (Nat.mod k 2) 0) = _
  cases Nat.beq (Nat.mod k 2) 0 <;> rfl
theorem get_leaf (v : Option α) (j : Nat) : (node nil v nil).get j = if j = 0 then v else none := by
  cases j with
  | zero => rfl
  | succ j =>
    rw [get_s]
    have e : ∀ k, (nil : Tr α).get k = none := fun _ => rfl
    split <;> simp [e]
theorem get_single (v : Option α) : ∀ (f k j : Nat), k ≤ f → (single v f k).get j = if j = k then v else none := by
  intro f
  induction f with
  | zero =>
    intro k j hk
    obtain rfl : k = 0 := by omega
    exact get_leaf v j
  | succ f ih =>
    intro k j hk
    cases k with
    | zero => exact get_leaf v j
    | succ k =>
      cases hp : Nat.beq (Nat.mod k 2) 0 with
      | true =>
        have hp' : k % 2 = 0 := par_t hp
        simp only [single_s, hp]
        cases j with
        | zero => simp [get_z]
        | succ j =>
          cases hj : Nat.beq (Nat.mod j 2) 0 with
          | true =>
            have hj' : j % 2 = 0 := par_t hj
            simp only [get_s, hj]
            rw [ih _ _ (by show k / 2 ≤ f; omega)]
            have : (Nat.div j 2 = Nat.div k 2) ↔ (j + 1 = k + 1) := by show j / 2 = k / 2 ↔ _; omega
            simp only [this]
          | false =>
            have hj' : ¬ j % 2 = 0 := par_f hj
            simp only [get_s, hj, get_n]
            rw [if_neg (by omega)]
      | false =>
        have hp' : ¬ k % 2 = 0 := par_f hp
        simp only [single_s, hp]
        cases j with
        | zero => simp [get_z]
        | succ j =>
          cases hj : Nat.beq (Nat.mod j 2) 0 with
          | true =>
            have hj' : j % 2 = 0 := par_t hj
            simp only [get_s, hj, get_n]
            rw [if_neg (by omega)]
          | false =>
            have hj' : ¬ j % 2 = 0 := par_f hj
            simp only [get_s, hj]
            rw [ih _ _ (by show k / 2 ≤ f; omega)]
            have : (Nat.div j 2 = Nat.div k 2) ↔ (j + 1 = k + 1) := by show j / 2 = k / 2 ↔ _; omega
            simp only [this]
theorem get_nil (k : Nat) : (nil : Tr α).get k = none := by cases k <;> rfl
theorem get_set (t : Tr α) (v : Option α) : ∀ (k j : Nat), (t.set k v).get j = if j = k then v else t.get j := by
  induction t with
  | nil =>
    intro k j
    rw [show (nil : Tr α).set k v = single v k k from rfl, get_single v k k j (Nat.le_refl k), get_nil]
  | node l x r ihl ihr =>
    intro k j
    cases k with
    | zero => cases j <;> simp [set_z, get_z, get_s]
    | succ k =>
      cases hp : Nat.beq (Nat.mod k 2) 0 with
      | true =>
        have hp' : k % 2 = 0 := par_t hp
        simp only [set_s, hp]
        cases j with
        | zero => simp [get_z]
        | succ j =>
          cases hj : Nat.beq (Nat.mod j 2) 0 with
          | true =>
            have hj' : j % 2 = 0 := par_t hj
            simp only [get_s, hj]
            rw [ihl]
            have : (Nat.div j 2 = Nat.div k 2) ↔ (j + 1 = k + 1) := by show j / 2 = k / 2 ↔ _; omega
            simp only [this]
          | false =>
            have hj' : ¬ j % 2 = 0 := par_f hj
            simp only [get_s, hj]
            rw [if_neg (by omega)]
      | false =>
        have hp' : ¬ k % 2 = 0 := par_f hp
        simp only [set_s, hp]
        cases j with
        | zero => simp [get_z]
        | succ j =>
          cases hj : Nat.beq (Nat.mod j 2) 0 with
          | true =>
            have hj' : j % 2 = 0 := par_t hj
            simp only [get_s, hj]
            rw [if_neg (by omega)]
          | false =>
            have hj' : ¬ j % 2 = 0 := par_f hj
            simp only [get_s, hj]
            rw [ihr]
            have : (Nat.div j 2 = Nat.div k 2) ↔ (j + 1 = k + 1) := by show j / 2 = k / 2 ↔ _; omega
            simp only [this]
theorem get_set_same (t : Tr α) (v : Option α) (k : Nat) : (t.set k v).get k = v := by rw [get_set, if_pos rfl]
theorem get_set_ne (t : Tr α) (v : Option α) {k j : Nat} (h : j ≠ k) : (t.set k v).get j = t.get j := by rw [get_set, if_neg h]
theorem get_ofList (l : List α) : ∀ (k j : Nat), (ofList k l).get j = if k ≤ j then l[j - k]? else none := by
  induction l with
  | nil => intro k j; simp [ofList, get_nil]
  | cons x xs ih =>
    intro k j
    rw [ofList, get_set, ih]
    by_cases h : j = k
    · subst h; simp
    · rw [if_neg h]
      by_cases hk : k ≤ j
      · have e : j - k = (j - (k + 1)) + 1 := by omega
        rw [if_pos hk, if_pos (show k + 1 ≤ j by omega), e]
        rfl
      · rw [if_neg hk, if_neg (by omega)]
end Tr

/-! ### Values: where the evaluator's rows lie -/
/-- Where a row, or an object, lies: its block, from which cell on; the block's cells; the cells of an element. Of a block that nobody changes any more: what is in it. -/
structure Blk where
  B : Nat
  sh : Nat
  N : Nat
  sz : Nat
  fc : List Value
/-- Where the evaluator's numbers lie; the blocks that nobody changes any more. -/
structure Map where
  f : Nat → Option Blk
  ls : Nat → Option Blk
  /-- Lists that were there at the begin. -/
  l0 : Nat → Option Blk
instance : CoeFun Map (fun _ => Nat → Option Blk) := ⟨Map.f⟩

inductive FnR (ρ : Map) : Fn → Fn → Prop
  | func (f : Nat) : FnR ρ (.func f) (.func f)
  | method (n : String) : FnR ρ (.method n) (.method n)
  | yield {l : Nat} {x : Blk} : ρ l = some x → FnR ρ (.yield l) (.yield x.B)

/-- These stand in a row from a place on. -/
def Sub (fc : List Value) (o : Nat) (cs : List Value) : Prop := ∀ (j : Nat) (v : Value), cs[j]? = some v → fc[o + j]? = some v
def AllSz (sz : Nat) (es : List Value) : Prop := ∀ e ∈ es, (cellsL e).length = sz
mutual
inductive VR (ρ : Map) : Value → Value → Prop
  | bool (b : Bool) : VR ρ (.bool b) (.bool b)
  | int (k : IntKind) (n : Int) : VR ρ (.int k n) (.int k n)
  | float (k : FloatKind) (b : Nat) : VR ρ (.float k b) (.float k b)
  | complex (k : FloatKind) (a b : Nat) : VR ρ (.complex k a b) (.complex k a b)
  | string (s : ByteArray) : VR ρ (.string s) (.string s)
  | ptrN : VR ρ (.pointer none) (.pointer none)
  | ptr {b o : Nat} {x : Blk} : ρ b = some x → VR ρ (.pointer (some ⟨b, o, none⟩)) (.pointer (some ⟨x.B, x.sh + o, none⟩))
  | slN : VR ρ (.slice none 0 0) (.slice none 0 0)
  | sl {b o o' n c c' : Nat} {x : Blk} : ρ b = some x → (o' = x.sh + o ∨ c' = 0) → capLo c ≤ c' → (capEx c = true → c' = capLo c) →
      (capEx c = false → c' = 0 ∨ o' + c' * x.sz = x.N) → n ≤ c' → VR ρ (.slice (some ⟨b, o, none⟩) n c) (.slice (some ⟨x.B, o', none⟩) n c')
  | mpN : VR ρ (.map none) (.map none)
  | mp {r : Nat} {x : Blk} : ρ r = some x → VR ρ (.map (some r)) (.map (some x.B))
  | fn {f f' : Fn} {a a' b b' : List Value} : FnR ρ f f' → VRs ρ a a' → VRs ρ b b' → VR ρ (.func f ⟨a⟩ ⟨b⟩) (.func f' ⟨a'⟩ ⟨b'⟩)
  | nilFunc : VR ρ .nilFunc .nilFunc
  | iface {t : TypeId} {v v' : Value} : t < 1000000000 → VR ρ v v' → VR ρ (.iface t v) (.iface t v')
  | lst {es cs' : List Value} {B o sz c' : Nat} {x : Blk} : ρ.ls B = some x → VRs ρ (flatC es) cs' → Sub x.fc o cs' → AllSz sz es → es.length ≤ c' →
      VR ρ (.iface 1000000000 (.agg ⟨es⟩)) (.slice (some ⟨B, o, none⟩) es.length c')
  | lst0 {a : Option Addr} {c' : Nat} : VR ρ (.iface 1000000000 (.agg ⟨[]⟩)) (.slice a 0 c')
  | xl {es cs' : List Value} {B o sz : Nat} {x : Blk} : ρ.ls B = some x → VRs ρ (flatC es) cs' → Sub x.fc o cs' → AllSz sz es →
      VR ρ (.iface 1000000001 (.agg ⟨es⟩)) (.slice (some ⟨B, o, none⟩) es.length es.length)
  | xl0 {a : Option Addr} : VR ρ (.iface 1000000001 (.agg ⟨[]⟩)) (.slice a 0 0)
  | ep {cs cs' : List Value} {B o : Nat} {x : Blk} : ρ.ls B = some x → VRs ρ cs cs' → Sub x.fc o cs' → VR ρ (.iface 1000000002 (.agg ⟨cs⟩)) (.pointer (some ⟨B, o, none⟩))
  | nilIface : VR ρ .nilIface .nilIface
  | agg {a a' : List Value} : VRs ρ a a' → VR ρ (.agg ⟨a⟩) (.agg ⟨a'⟩)
  | tuple {a a' : List Value} : VRs ρ a a' → VR ρ (.tuple ⟨a⟩) (.tuple ⟨a'⟩)
inductive VRs (ρ : Map) : List Value → List Value → Prop
  | nil : VRs ρ [] []
  | cons {v v' : Value} {l l' : List Value} : VR ρ v v' → VRs ρ l l' → VRs ρ (v :: l) (v' :: l')
end

structure Ext (ρ ρ' : Map) : Prop where
  nm : ∀ k x, ρ k = some x → ρ' k = some x
  ls : ∀ B x, ρ.ls B = some x → ρ'.ls B = some x
  l0 : ρ'.l0 = ρ.l0
instance {ρ ρ' : Map} : CoeFun (Ext ρ ρ') (fun _ => ∀ k x, ρ k = some x → ρ' k = some x) := ⟨Ext.nm⟩
theorem Ext.refl (ρ : Map) : Ext ρ ρ := ⟨fun _ _ h => h, fun _ _ h => h, rfl⟩
theorem Ext.trans {a b c : Map} (h : Ext a b) (h' : Ext b c) : Ext a c := ⟨fun k x e => h' k x (h k x e), fun k x e => h'.ls k x (h.ls k x e), h'.l0.trans h.l0⟩
theorem FnR.ext {ρ ρ' : Map} (h : Ext ρ ρ') {f f' : Fn} (r : FnR ρ f f') : FnR ρ' f f' := by
  cases r with
  | func f => exact .func f
  | method n => exact .method n
  | yield e => exact .yield (h _ _ e)
mutual
theorem VR.ext {ρ ρ' : Map} (h : Ext ρ ρ') : ∀ {v v' : Value}, VR ρ v v' → VR ρ' v v'
  | _, _, .bool b => .bool b
  | _, _, .int k n => .int k n
  | _, _, .float k b => .float k b
  | _, _, .complex k a b => .complex k a b
  | _, _, .string s => .string s
  | _, _, .ptrN => .ptrN
  | _, _, .ptr e => .ptr (h _ _ e)
  | _, _, .slN => .slN
  | _, _, .sl e a b c d f => .sl (h _ _ e) a b c d f
  | _, _, .mpN => .mpN
  | _, _, .mp e => .mp (h _ _ e)
  | _, _, .fn a b c => .fn (a.ext h) (b.ext h) (c.ext h)
  | _, _, .nilFunc => .nilFunc
  | _, _, .iface i a => .iface i (a.ext h)
  | _, _, .lst e a b c d => .lst (h.ls _ _ e) (a.ext h) b c d
  | _, _, .lst0 => .lst0
  | _, _, .xl e a b c => .xl (h.ls _ _ e) (a.ext h) b c
  | _, _, .xl0 => .xl0
  | _, _, .ep e a b => .ep (h.ls _ _ e) (a.ext h) b
  | _, _, .nilIface => .nilIface
  | _, _, .agg a => .agg (a.ext h)
  | _, _, .tuple a => .tuple (a.ext h)
theorem VRs.ext {ρ ρ' : Map} (h : Ext ρ ρ') : ∀ {l l' : List Value}, VRs ρ l l' → VRs ρ' l l'
  | _, _, .nil => .nil
  | _, _, .cons a b => .cons (a.ext h) (b.ext h)
end
section
variable {ρ : Map}
theorem VRs.length {l l' : List Value} (h : VRs ρ l l') : l'.length = l.length := by
  induction l generalizing l' with
  | nil => cases h; rfl
  | cons v l ih => cases h with | cons a b => simp [ih b]
theorem VRs.append {a a' b b' : List Value} (h : VRs ρ a a') (k : VRs ρ b b') : VRs ρ (a ++ b) (a' ++ b') := by
  induction a generalizing a' with
  | nil => cases h; exact k
  | cons v l ih => cases h with | cons x y => exact .cons x (ih y)
theorem VRs.get {l l' : List Value} (h : VRs ρ l l') {i : Nat} {v : Value} (e : l[i]? = some v) : ∃ v', l'[i]? = some v' ∧ VR ρ v v' := by
  induction l generalizing l' i with
  | nil => simp at e
  | cons x l ih =>
    cases h with
    | cons a b =>
      cases i with
      | zero => simp at e; subst e; exact ⟨_, rfl, a⟩
      | succ i => simp at e; obtain ⟨v', e', r⟩ := ih b e; exact ⟨v', by simpa using e', r⟩
theorem VRs.drop {l l' : List Value} (h : VRs ρ l l') (n : Nat) : VRs ρ (l.drop n) (l'.drop n) := by
  induction n generalizing l l' with
  | zero => simpa using h
  | succ n ih => cases h with
    | nil => simp; exact .nil
    | cons a b => simpa using ih b
theorem VRs.take {l l' : List Value} (h : VRs ρ l l') (n : Nat) : VRs ρ (l.take n) (l'.take n) := by
  induction n generalizing l l' with
  | zero => simp; exact .nil
  | succ n ih => cases h with
    | nil => simp; exact .nil
    | cons a b => simp; exact .cons a (ih b)
theorem VRs.map {α : Type} (l : List α) (f g : α → Value) (h : ∀ x ∈ l, VR ρ (f x) (g x)) : VRs ρ (l.map f) (l.map g) := by
  induction l with
  | nil => exact .nil
  | cons x l ih => exact .cons (h x (by simp)) (ih fun y hy => h y (by simp [hy]))
theorem VRs.set {l l' : List Value} (h : VRs ρ l l') (i : Nat) {v v' : Value} (r : VR ρ v v') : VRs ρ (l.set i v) (l'.set i v') := by
  induction l generalizing l' i with
  | nil => cases h; exact .nil
  | cons x l ih =>
    cases h with
    | cons a b => cases i with
      | zero => exact .cons r b
      | succ i => exact .cons a (ih b i)
/-- Values without addresses stand for themselves. -/
theorem VRs.rep {z z' : List Value} (h : VRs ρ z z') : ∀ n, VRs ρ (Ev.rep z n) (Ev.rep z' n)
  | 0 => .nil
  | n + 1 => h.append (VRs.rep h n)
theorem VR.cells {v v' : Value} (h : VR ρ v v') : VRs ρ (cellsL v) (cellsL v') := by
  have h' := h
  cases h <;> first
    | exact .cons h' .nil
    | (rename_i a; exact a)
/-- A list against the model's slice. -/
theorem VR.isL_inv {x x' : Value} (h : isL x = true) (hx : VR ρ x x') : ∃ a c', x' = .slice a (elems x).length c' ∧
    ((elems x = [] ∧ True) ∨ ∃ B o sz cs' z, a = some ⟨B, o, none⟩ ∧ ρ.ls B = some z ∧ VRs ρ (flatC (elems x)) cs' ∧ Sub z.fc o cs' ∧ AllSz sz (elems x)) ∧ (elems x).length ≤ c' ∧ (isXl x = true → c' = (elems x).length) := by
  cases hx with
  | @iface t v v' ht hv =>
    exfalso
    have h1 : Nat.beq t LF = false := by
      cases hb : Nat.beq t LF with
      | false => rfl
      | true => have := Nat.eq_of_beq_eq_true hb; subst this; exact absurd ht (by unfold LF; decide)
    have h2 : Nat.beq t LZ = false := by
      cases hb : Nat.beq t LZ with
      | false => rfl
      | true => have := Nat.eq_of_beq_eq_true hb; subst this; exact absurd ht (by unfold LZ; decide)
    cases v <;> simp [isL, isLst, isXl, h1, h2] at h
  | lst e a b c d => exact ⟨_, _, rfl, .inr ⟨_, _, _, _, _, rfl, e, a, b, c⟩, d, fun q => by cases q⟩
  | lst0 => exact ⟨_, _, rfl, .inl ⟨rfl, trivial⟩, Nat.zero_le _, fun q => by cases q⟩
  | xl e a b c => exact ⟨_, _, rfl, .inr ⟨_, _, _, _, _, rfl, e, a, b, c⟩, Nat.le_refl _, fun _ => rfl⟩
  | xl0 => exact ⟨_, _, rfl, .inl ⟨rfl, trivial⟩, Nat.zero_le _, fun _ => rfl⟩
  | _ => cases h
theorem VR.isEp_inv {x x' : Value} (h : isEp x = true) (hx : VR ρ x x') : ∃ B o cs' z, x' = .pointer (some ⟨B, o, none⟩) ∧ ρ.ls B = some z ∧ VRs ρ (elems x) cs' ∧ Sub z.fc o cs' := by
  cases hx with
  | @iface t v v' ht hv =>
    exfalso
    have h1 : Nat.beq t LE = false := by
      cases hb : Nat.beq t LE with
      | false => rfl
      | true => have := Nat.eq_of_beq_eq_true hb; subst this; exact absurd ht (by unfold LE; decide)
    cases v <;> simp [isEp, h1] at h
  | ep e a b => exact ⟨_, _, _, _, rfl, e, a, b⟩
  | _ => cases h
theorem flatC_append (a b : List Value) : flatC (a ++ b) = flatC a ++ flatC b := by
  induction a with
  | nil => rfl
  | cons e a ih => simp [flatC, ih]
theorem flatC_length {sz : Nat} : ∀ {es : List Value}, AllSz sz es → (flatC es).length = es.length * sz := by
  intro es
  induction es with
  | nil => intro _; simp [flatC]
  | cons e es ih =>
    intro h
    rw [flatC, List.length_append, ih fun x hx => h x (List.mem_cons_of_mem _ hx), h e (List.mem_cons_self ..), List.length_cons, Nat.succ_mul, Nat.add_comm]
theorem AllSz.take {sz n : Nat} {es : List Value} (h : AllSz sz es) : AllSz sz (es.take n) := fun e he => h e (List.mem_of_mem_take he)
theorem AllSz.drop {sz n : Nat} {es : List Value} (h : AllSz sz es) : AllSz sz (es.drop n) := fun e he => h e (List.mem_of_mem_drop he)
theorem flatC_take {sz n : Nat} : ∀ {es : List Value}, AllSz sz es → flatC (es.take n) = (flatC es).take (n * sz) := by
  intro es h
  by_cases hn : n ≤ es.length
  · have e := congrArg flatC (List.take_append_drop n es)
    rw [flatC_append] at e
    have hl : (flatC (es.take n)).length = n * sz := by rw [flatC_length h.take, List.length_take, Nat.min_eq_left hn]
    rw [← e, ← hl, List.take_left]
  · rw [List.take_of_length_le (by omega), List.take_of_length_le (by rw [flatC_length h]; exact Nat.mul_le_mul_right _ (by omega))]
theorem flatC_drop {sz n : Nat} : ∀ {es : List Value}, AllSz sz es → flatC (es.drop n) = (flatC es).drop (n * sz) := by
  intro es h
  by_cases hn : n ≤ es.length
  · have e := congrArg flatC (List.take_append_drop n es)
    rw [flatC_append] at e
    have hl : (flatC (es.take n)).length = n * sz := by rw [flatC_length h.take, List.length_take, Nat.min_eq_left hn]
    rw [← e, ← hl, List.drop_left]
  · rw [List.drop_of_length_le (by omega), List.drop_of_length_le (by rw [flatC_length h]; exact Nat.mul_le_mul_right _ (by omega))]
    rfl
theorem Sub.take {fc cs : List Value} {o n : Nat} (h : Sub fc o cs) : Sub fc o (cs.take n) := fun j v e => by
  rw [List.getElem?_take] at e
  split at e
  · exact h j v e
  · cases e
theorem Sub.drop {fc cs : List Value} {o n : Nat} (h : Sub fc o cs) : Sub fc (o + n) (cs.drop n) := fun j v e => by
  rw [List.getElem?_drop] at e
  rw [Nat.add_assoc]
  exact h _ v e
theorem hdOk_all {sz sz' : Nat} {es : List Value} (h : hdOk sz es = true) (ha : AllSz sz' es) (hn : es ≠ []) : sz' = sz := by
  cases es with
  | nil => exact absurd rfl hn
  | cons e es =>
    have := ha e (List.mem_cons_self ..)
    have h2 := Nat.eq_of_beq_eq_true h
    omega
end
end Go.Ev
/- Soundness, part 2: the memory's relation, and its keeping. -/
namespace Go.Ev
open Go Go.RowKit

/-! ### What is checked of the code once -/
def lit1 : Value → Bool
  | .bool _ | .int _ _ | .float _ _ | .complex _ _ _ | .string _ | .pointer none | .map none | .nilFunc | .nilIface => true
  | .slice none n c => Nat.beq n 0 && Nat.beq c 0
  | _ => false
def lit2 : Value → Bool
  | .agg cs => cs.toList.all lit1
  | v => lit1 v
/-- A value without addresses. -/
def lit : Value → Bool
  | .agg cs => cs.toList.all lit1
  | .tuple cs => cs.toList.all lit2
  | v => lit1 v
def okO (ng : Nat) : Operand → Bool
  | .const v => lit v
  | .global g => Nat.blt g ng
  | _ => true
def okOper (ng : Nat) (o : Oper) : Bool := o.op.operands.toList.all (okO ng)
def okCode (ng : Nat) : Code → Bool
  | .skip | .exit _ | .label _ | .goto _ | .ret | .refuse _ => true
  | .region _ ops _ => ops.toList.all (okOper ng)
  | .seq a b => okCode ng a && okCode ng b
  | .cond c a b => okO ng c && okCode ng a && okCode ng b
  | .block _ b => okCode ng b
  | .loop b => okCode ng b
  | .rangeFunc f _ a b => okO ng f && okCode ng a && okCode ng b
  | .scope b => okCode ng b

/-! ### Objects that are no rows -/
inductive EsR (ρ : Map) : List MapEntry → List MapEntry → Prop
  | nil : EsR ρ [] []
  | cons {e e' : MapEntry} {l l' : List MapEntry} : VR ρ e.key e'.key → VR ρ e.val e'.val → e'.born = e.born → EsR ρ l l' → EsR ρ (e :: l) (e' :: l')
def TR (ρ : Map) (tm : Tm) (a : Array Value) : Prop := a.size = tm.nt ∧ ∀ t, Nat.testBit tm.lv t = true → VR ρ (tm.get t) (a.getD t undef)
inductive DR (ρ : Map) : Deferred → Deferred → Prop
  | fn {f f' : Fn} {c c' a a' : List Value} : FnR ρ f f' → VRs ρ c c' → VRs ρ a a' → DR ρ ⟨.fn f ⟨c⟩, ⟨a⟩⟩ ⟨.fn f' ⟨c'⟩, ⟨a'⟩⟩
  | col {r : Nat} {x : Blk} : ρ r = some x → DR ρ ⟨.collected r, #[]⟩ ⟨.collected x.B, #[]⟩
inductive DsR (ρ : Map) : List Deferred → List Deferred → Prop
  | nil : DsR ρ [] []
  | cons {d d' : Deferred} {l l' : List Deferred} : DR ρ d d' → DsR ρ l l' → DsR ρ (d :: l) (d' :: l')
def lst : LSt → LoopState
  | .ready => .ready | .busy => .busy | .done => .done | .exhausted => .exhausted
inductive ObR (P : Program) (ρ : Map) : Slot → Obj → Prop
  | mp {es es' : List MapEntry} (c : Nat) : EsR ρ es es' → ObR P ρ (.mp es c) (.map ⟨es'⟩ c)
  | sit (s : ByteArray) (p : Nat) : ObR P ρ (.sit s p) (.stringIter s p)
  | mitN (a : Nat) (l : List Nat) (b : Nat) : ObR P ρ (.mit none a l b) (.mapIter none a ⟨l⟩ b)
  | mit {m : Nat} {x : Blk} (a : Nat) (l : List Nat) (b : Nat) : ρ m = some x → ObR P ρ (.mit (some m) a l b) (.mapIter (some x.B) a ⟨l⟩ b)
  | lp {p : Lp} {a : Array Value} {x : Blk} : TR ρ ⟨p.nt, p.lv, p.tm⟩ a → ρ p.defers = some x → okCode P.globals.size p.assign = true → okCode P.globals.size p.body = true →
      (∀ c, p.pending = some c → okCode P.globals.size c = true) →
      ObR P ρ (.lp p) (.loop { state := lst p.st, pending := p.pending, fn := p.fn, tmps := a, params := ⟨p.params⟩, assign := p.assign, body := p.body, defers := x.B })
  | dfrN : ObR P ρ (.dfr none) (.deferred none)
  | dfr {ds ds' : List Deferred} : DsR ρ ds ds' → ObR P ρ (.dfr (some ds)) (.deferred (some ds'))
def Slot.isObj : Slot → Bool
  | .hdr _ | .cell _ _ => false
  | _ => true

theorem EsR.ext {ρ ρ' : Map} (h : Ext ρ ρ') {l l' : List MapEntry} (r : EsR ρ l l') : EsR ρ' l l' := by
  induction r with
  | nil => exact .nil
  | cons a b c _ ih => exact .cons (a.ext h) (b.ext h) c ih
theorem TR.ext {ρ ρ' : Map} (h : Ext ρ ρ') {tm : Tm} {a : Array Value} (r : TR ρ tm a) : TR ρ' tm a := ⟨r.1, fun t ht => (r.2 t ht).ext h⟩
theorem DR.ext {ρ ρ' : Map} (h : Ext ρ ρ') {d d' : Deferred} (r : DR ρ d d') : DR ρ' d d' := by
  cases r with
  | fn a b c => exact .fn (a.ext h) (b.ext h) (c.ext h)
  | col e => exact .col (h _ _ e)
theorem DsR.ext {ρ ρ' : Map} (h : Ext ρ ρ') {l l' : List Deferred} (r : DsR ρ l l') : DsR ρ' l l' := by
  induction r with
  | nil => exact .nil
  | cons a _ ih => exact .cons (a.ext h) ih
theorem ObR.ext {P : Program} {ρ ρ' : Map} (h : Ext ρ ρ') {s : Slot} {o : Obj} (r : ObR P ρ s o) : ObR P ρ' s o := by
  cases r with
  | mp c e => exact .mp c (e.ext h)
  | sit s p => exact .sit s p
  | mitN a l b => exact .mitN a l b
  | mit a l b e => exact .mit a l b (h _ _ e)
  | lp a b c d e => exact .lp (a.ext h) (h _ _ b) c d e
  | dfrN => exact .dfrN
  | dfr a => exact .dfr (a.ext h)

/-! ### The relation -/
/-- A row's header against its block. -/
structure RowR (P : Program) (B0 : Nat) (h : Hdr) (w : World) (x : Blk) (c : Array Value) (lo hi : Nat) : Prop where
  heap : w.heap[x.B]? = some (.cells c h.el (lo, hi))
  N : c.size = x.N
  sz : ∃ i, P.info? h.el = some i ∧ i.size = x.sz
  fits : x.sh + h.n ≤ x.N
  ex : h.ex = true → x.N = x.sh + h.n
  z : h.z = true → x.sh = 0
  own : h.ro = false → B0 ≤ x.B
  le : lo ≤ hi
  fz : h.mv = false → ∀ i, lo ≤ i → i < hi → i < x.sh + h.fz ∨ x.N ≤ i
  sy : h.mv = false → h.sy = false → ∀ i, lo ≤ i → i < hi → i < x.sh + h.fz
  fn : h.fz ≤ h.n
structure MR (P : Program) (ρ : Map) (B0 : Nat) (m : Tr Slot) (w : World) : Prop where
  row : ∀ b h, m.get b = some (.hdr h) → ∃ x c lo hi, ρ b = some x ∧ RowR P B0 h w x c lo hi
  cell : ∀ b h o v, m.get b = some (.hdr h) → m.get (b + 1 + o) = some (.cell b v) → o < h.n ∧ ∃ x v', ρ b = some x ∧ w.cell? ⟨x.B, x.sh + o, none⟩ = some v' ∧ VR ρ v v'
  sep : ∀ b h b2 h2 x x2, m.get b = some (.hdr h) → m.get b2 = some (.hdr h2) → b ≠ b2 → ρ b = some x → ρ b2 = some x2 → x.B = x2.B →
    (h.mv = true ∧ h2.mv = true) ∨ (b2 ∈ h.olds ∧ x2.sh + h2.n ≤ x.sh + h.n) ∨ (b ∈ h2.olds ∧ x.sh + h.n ≤ x2.sh + h2.n)
  old : ∀ b h b2 h2, m.get b = some (.hdr h) → b2 ∈ h.olds → m.get b2 = some (.hdr h2) → h2.mv = true
  obj : ∀ k o, m.get k = some o → o.isObj = true → ∃ x ob, ρ k = some x ∧ x.sh = 0 ∧ B0 ≤ x.B ∧ w.heap[x.B]? = some ob ∧ ObR P ρ o ob
  osep : ∀ k o k2 o2 x x2, m.get k = some o → o.isObj = true → m.get k2 = some o2 → o2.isObj = true → k ≠ k2 → ρ k = some x → ρ k2 = some x2 → x.B = x2.B → False
  dom : ∀ j b v, m.get j = some (.cell b v) → ∃ x, ρ b = some x
  odom : ∀ b h b2, m.get b = some (.hdr h) → b2 ∈ h.olds → ∃ x, ρ b2 = some x
  rng : ∀ b x, ρ b = some x → x.B < w.heap.size
  frz : ∀ B x, ρ.ls B = some x → x.B = B ∧ (∃ c el fr, w.heap[B]? = some (.cells c el fr) ∧ c.toList = x.fc) ∧ ∀ b h y, m.get b = some (.hdr h) → ρ b = some y → y.B = B → h.ro = true
  lsB : ∀ B x, ρ.ls B = some x → B0 ≤ B ∨ ρ.l0 B = some x

section
variable {P : Program} {ρ : Map} {B0 : Nat}
/-- With less in the evaluator's memory all still holds. -/
theorem MR.sub {m m' : Tr Slot} {w : World} (r : MR P ρ B0 m w) (h : ∀ k s, m'.get k = some s → m.get k = some s) : MR P ρ B0 m' w where
  row b hd e := r.row b hd (h _ _ e)
  cell b hd o v e e' := r.cell b hd o v (h _ _ e) (h _ _ e')
  sep b hd b2 h2 x x2 e e2 := r.sep b hd b2 h2 x x2 (h _ _ e) (h _ _ e2)
  old b hd b2 h2 e i e2 := r.old b hd b2 h2 (h _ _ e) i (h _ _ e2)
  obj k o e := r.obj k o (h _ _ e)
  osep k o k2 o2 x x2 e i e2 := r.osep k o k2 o2 x x2 (h _ _ e) i (h _ _ e2)
  dom j b v e := r.dom j b v (h _ _ e)
  odom b hd b2 e := r.odom b hd b2 (h _ _ e)
  rng := r.rng
  frz B x e := let ⟨h1, h2, h3⟩ := r.frz B x e; ⟨h1, h2, fun b hd y e1 => h3 b hd y (h _ _ e1)⟩
  lsB := r.lsB
/-- The world's blocks alone count. -/
theorem MR.heap {m : Tr Slot} {w w' : World} (r : MR P ρ B0 m w) (h : w'.heap = w.heap) : MR P ρ B0 m w' where
  row b hd e := by
    obtain ⟨x, c, lo, hi, e1, y⟩ := r.row b hd e
    exact ⟨x, c, lo, hi, e1, { y with heap := h ▸ y.heap }⟩
  cell b hd o v e e' := by
    obtain ⟨a, x, v', e1, y, z⟩ := r.cell b hd o v e e'
    exact ⟨a, x, v', e1, by rw [← y]; simp only [World.cell?, h], z⟩
  sep := r.sep
  old := r.old
  obj k o e i := by
    obtain ⟨x, ob, e1, e0, y, z, u⟩ := r.obj k o e i
    exact ⟨x, ob, e1, e0, y, h ▸ z, u⟩
  osep := r.osep
  dom := r.dom
  odom := r.odom
  rng b x e := h ▸ r.rng b x e
  lsB := r.lsB
  frz B x e := by
    obtain ⟨h1, ⟨c, el, fr, h2, h2'⟩, h3⟩ := r.frz B x e
    exact ⟨h1, ⟨c, el, fr, h ▸ h2, h2'⟩, h3⟩
end

theorem kill_get (l : List Nat) : ∀ (m : Tr Slot) (k : Nat), (kill l m).get k = if k ∈ l then none else m.get k := by
  induction l with
  | nil => intro m k; simp [kill]
  | cons x l ih =>
    intro m k
    rw [kill, ih, Tr.get_set]
    by_cases h : k ∈ l
    · simp [h]
    · by_cases hx : k = x <;> simp [h, hx]

/-! ### Reading -/
theorem rdCells_spec (m : Tr Slot) (b : Nat) : ∀ (n o : Nat) (vs : List Value), rdCells m b n o = some vs → vs.length = n ∧ ∀ j v, vs[j]? = some v → m.get (b + 1 + (o + j)) = some (.cell b v) := by
  intro n
  induction n with
  | zero => intro o vs h; simp [rdCells] at h; subst h; simp
  | succ n ih =>
    intro o vs h
    rw [rdCells] at h
    split at h
    · rename_i b' v hg
      split at h
      · rename_i hb
        obtain rfl := Nat.eq_of_beq_eq_true hb
        split at h
        · rename_i l hl
          obtain ⟨h1, h2⟩ := ih _ _ hl
          simp only [Option.some.injEq] at h
          subst h
          refine ⟨by simp [h1], fun j u hj => ?_⟩
          cases j with
          | zero => simp at hj; subst hj; simpa using hg
          | succ j =>
            simp at hj
            have := h2 j u hj
            rw [show o + (j + 1) = Nat.add o 1 + j from by show _ = o + 1 + j; omega]
            exact this
        · cases h
      · cases h
    · cases h
theorem St.rd_spec {s s' : St} {b n o : Nat} {vs : List Value} (h : s.rd b n o = some (vs, s')) :
    s'.mem = s.mem ∧ s'.ctr = s.ctr ∧ (∃ hd, s.mem.get b = some (.hdr hd)) ∧ vs.length = n ∧ ∀ j v, vs[j]? = some v → s.mem.get (b + 1 + (o + j)) = some (.cell b v) := by
  obtain ⟨m, c, l⟩ := s
  simp only [St.rd] at h
  split at h
  · rename_i hd hg
    split at h
    · rename_i vs' hv
      simp only [Option.some.injEq, Prod.mk.injEq] at h
      obtain ⟨rfl, rfl⟩ := h
      obtain ⟨h1, h2⟩ := rdCells_spec m b n o _ hv
      exact ⟨rfl, rfl, ⟨_, hg⟩, h1, h2⟩
    · cases h
  · cases h
/-- What is read is in the block. -/
theorem MR.rd {P : Program} {ρ : Map} {B0 : Nat} {s s' : St} {w : World} (r : MR P ρ B0 s.mem w) {b n o : Nat} {vs : List Value} (h : s.rd b n o = some (vs, s')) {x : Blk} (hb : ρ b = some x) :
    ∃ vs', vs'.length = n ∧ VRs ρ vs vs' ∧ ∀ j v, vs'[j]? = some v → w.cell? ⟨x.B, x.sh + o + j, none⟩ = some v := by
  obtain ⟨_, _, ⟨hd, hg⟩, hl, hv⟩ := St.rd_spec h
  clear h
  suffices H : ∀ (vs : List Value) (o : Nat), (∀ j v, vs[j]? = some v → s.mem.get (b + 1 + (o + j)) = some (.cell b v)) →
      ∃ vs', vs'.length = vs.length ∧ VRs ρ vs vs' ∧ ∀ j v, vs'[j]? = some v → w.cell? ⟨x.B, x.sh + o + j, none⟩ = some v by
    obtain ⟨vs', a, c, d⟩ := H vs o hv
    exact ⟨vs', a.trans hl, c, d⟩
  intro vs
  induction vs with
  | nil => intro o _; exact ⟨[], rfl, .nil, by simp⟩
  | cons y vs ih =>
    intro o hv
    obtain ⟨_, x', v', e1, e2, e3⟩ := r.cell b hd o y hg (by simpa using hv 0 y rfl)
    rw [hb] at e1
    obtain rfl := Option.some.inj e1
    obtain ⟨vs', a, c, d⟩ := ih (o + 1) (fun j v hj => by
      have := hv (j + 1) v (by simpa using hj)
      rwa [show o + (j + 1) = o + 1 + j from by omega] at this)
    refine ⟨v' :: vs', by simp [a], .cons e3 c, fun j v hj => ?_⟩
    cases j with
    | zero => simp at hj; subst hj; simpa using e2
    | succ j =>
      simp at hj
      have := d j v hj
      rwa [show x.sh + (o + 1) + j = x.sh + o + (j + 1) from by omega] at this
theorem add_at (B o j : Nat) : (⟨B, o, none⟩ : Addr).add j = ⟨B, o + j, none⟩ := by
  unfold Addr.add
  split <;> simp_all
theorem run_loadRow {P : Program} {w : World} {B o n : Nat} {vs : List Value} (hl : vs.length = n) (h : ∀ j v, vs[j]? = some v → w.cell? ⟨B, o + j, none⟩ = some v) :
    (loadCells ⟨B, o, none⟩ n).run P w = .ok ⟨vs⟩ w := by
  subst hl
  exact run_loadCells_list (P := P) w ⟨B, o, none⟩ vs (fun j v hj => by rw [add_at]; exact h j v hj)

/-! ### Writing -/
/-- So many cells written one behind the other. -/
def setCells (w : World) (B o : Nat) : List Value → World
  | [] => w
  | v :: vs => setCells (w.setCell ⟨B, o, none⟩ v) B (o + 1) vs
theorem setCells_spec (B : Nat) : ∀ (vs : List Value) (o : Nat) (w : World) (c : Array Value) (e : TypeId) (fr : Nat × Nat), w.heap[B]? = some (.cells c e fr) → o + vs.length ≤ c.size →
    (∃ c', (setCells w B o vs).heap[B]? = some (.cells c' e fr) ∧ c'.size = c.size ∧ ∀ i, c'[i]? = if o ≤ i ∧ i < o + vs.length then vs[i - o]? else c[i]?) ∧
    (∀ k, k ≠ B → (setCells w B o vs).heap[k]? = w.heap[k]?) ∧ (setCells w B o vs).heap.size = w.heap.size ∧
    (setCells w B o vs).os = w.os ∧ (setCells w B o vs).tape = w.tape ∧ (setCells w B o vs).output = w.output := by
  intro vs
  induction vs with
  | nil =>
    intro o w c e fr h _
    refine ⟨⟨c, h, rfl, fun i => ?_⟩, fun _ _ => rfl, rfl, rfl, rfl, rfl⟩
    rw [if_neg (by simp)]
  | cons v vs ih =>
    intro o w c e fr h hle
    have hle' : o + 1 + vs.length ≤ c.size := by simp at hle; omega
    have h1 : (w.setCell ⟨B, o, none⟩ v).heap[B]? = some (.cells (c.setIfInBounds o v) e fr) := by
      simp [World.setCell, Array.getElem?_modify, h]
    obtain ⟨⟨c', a1, a2, a3⟩, b, d, x, y, z⟩ := ih (o + 1) (w.setCell ⟨B, o, none⟩ v) _ e fr h1 (by simpa using hle')
    refine ⟨⟨c', a1, by simpa using a2, fun i => ?_⟩, fun k hk => ?_, ?_, x, y, z⟩
    · rw [a3]
      by_cases hi : o + 1 ≤ i ∧ i < o + 1 + vs.length
      · rw [if_pos hi, if_pos (by simp; omega), show i - o = (i - (o + 1)) + 1 from by omega]
        rfl
      · rw [if_neg hi]
        by_cases ho : i = o
        · subst ho
          rw [if_pos (by simp)]
          simp only [Nat.sub_self, List.getElem?_cons_zero]
          rw [Array.getElem?_setIfInBounds_self, if_pos (by simp at hle; omega)]
        · rw [if_neg (by simp; omega), Array.getElem?_setIfInBounds_ne (fun e => ho e.symm)]
    · rw [show setCells w B o (v :: vs) = setCells (w.setCell ⟨B, o, none⟩ v) B (o + 1) vs from rfl, b k hk]
      exact Below.heap_setCell w ⟨B, o, none⟩ v k hk
    · rw [show setCells w B o (v :: vs) = setCells (w.setCell ⟨B, o, none⟩ v) B (o + 1) vs from rfl, d]
      simp
theorem oneC_eq (v : Value) : oneC v = v.oneCell' := by cases v <;> rfl
/-- What stands in a list is in its block. -/
theorem MR.frzCell {P : Program} {ρ : Map} {B0 : Nat} {m : Tr Slot} {w : World} (r : MR P ρ B0 m w) {B : Nat} {x : Blk} (h : ρ.ls B = some x) {i : Nat} {v : Value} (hv : x.fc[i]? = some v) : w.cell? ⟨B, i, none⟩ = some v := by
  obtain ⟨_, ⟨c, el, fr, h2, h3⟩, _⟩ := r.frz B x h
  rw [← h3] at hv
  simp only [World.cell?, h2]
  simpa using hv
theorem run_storeRow {P : Program} (B : Nat) : ∀ (vs : List Value) (o i : Nat) (w : World) (c : Array Value) (e : TypeId) (fr : Nat × Nat), w.heap[B]? = some (.cells c e fr) →
    o + i + vs.length ≤ c.size → vs.all oneC = true → (∀ j, o + i ≤ j → j < o + i + vs.length → ¬ (fr.1 ≤ j ∧ j < fr.2)) →
    (storeCells ⟨B, o, none⟩ vs i).run P w = .ok () (setCells w B (o + i) vs) := by
  intro vs
  induction vs with
  | nil => intro o i w c e fr _ _ _ _; rfl
  | cons v vs ih =>
    intro o i w c e fr h hle hone hfr
    obtain ⟨flo, fhi⟩ := fr
    simp only [List.all_cons, Bool.and_eq_true] at hone
    have hlt : o + i < c.size := by simp at hle; omega
    have hc : w.cell? ⟨B, o + i, none⟩ = some c[o + i] := by simp [World.cell?, h, hlt]
    have hf : w.frozen? ⟨B, o + i, none⟩ = false := by
      have := hfr (o + i) (Nat.le_refl _) (by simp)
      simp only [World.frozen?, h]
      simpa using this
    have hone' : v.oneCell' = true := by rw [← oneC_eq]; exact hone.1
    rw [storeCells, Sem.run_bind, add_at, run_store P w _ v .plain hone', hc]
    simp only [hf, Bool.false_eq_true, if_false, Result.andThen_ok]
    have h1 : (w.setCell ⟨B, o + i, none⟩ v).heap[B]? = some (.cells (c.setIfInBounds (o + i) v) e (flo, fhi)) := by
      simp [World.setCell, Array.getElem?_modify, h]
    rw [ih o (i + 1) _ _ e (flo, fhi) h1 (by simp at hle ⊢; omega) hone.2 (fun j a b => hfr j (by omega) (by simp; omega))]
    rfl
theorem layCells_get (b : Nat) : ∀ (vs : List Value) (k : Nat) (m : Tr Slot) (j : Nat),
    (layCells b vs k m).get j = if k ≤ j ∧ j < k + vs.length then (vs[j - k]?).map (Slot.cell b) else m.get j := by
  intro vs
  induction vs with
  | nil => intro k m j; rw [if_neg (by simp)]; rfl
  | cons v vs ih =>
    intro k m j
    rw [layCells, ih, Nat.add_eq]
    by_cases h : k + 1 ≤ j ∧ j < k + 1 + vs.length
    · rw [if_pos h, if_pos (by simp; omega), show j - k = (j - (k + 1)) + 1 from by omega]
      rfl
    · rw [if_neg h, Tr.get_set]
      by_cases hk : j = k
      · subst hk
        simp
      · rw [if_neg hk, if_neg (by simp; omega)]
end Go.Ev
