import Derived.Test.YtpljgnjdlciicaaGreatDoorLxKP3
import Derived.Below
import Derived.Laws.Cells
import Derived.Laws.Append
import Derived.Laws.AppendOwn
import Derived.Laws.Rows
namespace Go.Ev
open Go
namespace Tr
variable {α : Type}
theorem par_t {k : Nat} (h : Nat.beq (Nat.mod k 2) 0 = true) : k % 2 = 0 := Nat.eq_of_beq_eq_true h
theorem par_f {k : Nat} (h : Nat.beq (Nat.mod k 2) 0 = false) : ¬ k % 2 = 0 := fun e => by
  rw [show Nat.mod k 2 = 0 from e] at h
  cases h
theorem get_leaf (v : Option α) (j : Nat) : (node nil v nil).get j = if j = 0 then v else none := by
  cases j with
  | zero => rfl
  | succ j => simp only [get]; split <;> simp
theorem get_single (v : Option α) : ∀ (f k j : Nat), k ≤ f → (single v f k).get j = if j = k then v else none := by
  intro f
  induction f with
  | zero =>
    intro k j hk
    obtain rfl : k = 0 := by omega
    exact get_leaf v j
  | succ f ih =>
    intro k j hk
    cases k with
    | zero => exact get_leaf v j
    | succ k =>
      cases hp : Nat.beq (Nat.mod k 2) 0 with
      | true =>
        have hp' : k % 2 = 0 := par_t hp
        simp only [single, hp]
        cases j with
        | zero => simp [get]
        | succ j =>
          cases hj : Nat.beq (Nat.mod j 2) 0 with
          | true =>
            have hj' : j % 2 = 0 := par_t hj
            simp only [get, hj]
            rw [ih _ _ (by show k / 2 ≤ f; omega)]
            have : (Nat.div j 2 = Nat.div k 2) ↔ (j + 1 = k + 1) := by show j / 2 = k / 2 ↔ _; omega
            simp only [this]
          | false =>
            have hj' : ¬ j % 2 = 0 := par_f hj
            simp only [get, hj]
            rw [if_neg (by omega)]
      | false =>
        have hp' : ¬ k % 2 = 0 := par_f hp
        simp only [single, hp]
        cases j with
        | zero => simp [get]
        | succ j =>
          cases hj : Nat.beq (Nat.mod j 2) 0 with
          | true =>
            have hj' : j % 2 = 0 := par_t hj
            simp only [get, hj]
            rw [if_neg (by omega)]
          | false =>
            have hj' : ¬ j % 2 = 0 := par_f hj
            simp only [get, hj]
            rw [ih _ _ (by show k / 2 ≤ f; omega)]
            have : (Nat.div j 2 = Nat.div k 2) ↔ (j + 1 = k + 1) := by show j / 2 = k / 2 ↔ _; omega
            simp only [this]
theorem get_nil (k : Nat) : (nil : Tr α).get k = none := by cases k <;> rfl
theorem get_set (t : Tr α) (v : Option α) : ∀ (k j : Nat), (t.set k v).get j = if j = k then v else t.get j := by
  induction t with
  | nil =>
    intro k j
    rw [show (nil : Tr α).set k v = single v k k from rfl, get_single v k k j (Nat.le_refl k), get_nil]
  | node l x r ihl ihr =>
    intro k j
    cases k with
    | zero => cases j <;> simp [set, get]
    | succ k =>
      cases hp : Nat.beq (Nat.mod k 2) 0 with
      | true =>
        have hp' : k % 2 = 0 := par_t hp
        simp only [set, hp]
        cases j with
        | zero => simp [get]
        | succ j =>
          cases hj : Nat.beq (Nat.mod j 2) 0 with
          | true =>
            have hj' : j % 2 = 0 := par_t hj
            simp only [get, hj]
            rw [ihl]
            have : (Nat.div j 2 = Nat.div k 2) ↔ (j + 1 = k + 1) := by show j / 2 = k / 2 ↔ _; omega
            simp only [this]
          | false =>
            have hj' : ¬ j % 2 = 0 := par_f hj
            simp only [get, hj]
            rw [if_neg (by omega)]
      | false =>
        have hp' : ¬ k % 2 = 0 := par_f hp
        simp only [set, hp]
        cases j with
        | zero => simp [get]
        | succ j =>
          cases hj : Nat.beq (Nat.mod j 2) 0 with
          | true =>
            have hj' : j % 2 = 0 := par_t hj
            simp only [get, hj]
            rw [if_neg (by omega)]
          | false =>
            have hj' : ¬ j % 2 = 0 := par_f hj
            simp only [get, hj]
            rw [ihr]
            have : (Nat.div j 2 = Nat.div k 2) ↔ (j + 1 = k + 1) := by show j / 2 = k / 2 ↔ _; omega
            simp only [this]
theorem get_set_same (t : Tr α) (v : Option α) (k : Nat) : (t.set k v).get k = v := by rw [get_set, if_pos rfl]
theorem get_set_ne (t : Tr α) (v : Option α) {k j : Nat} (h : j ≠ k) : (t.set k v).get j = t.get j := by rw [get_set, if_neg h]
theorem get_ofList (l : List α) : ∀ (k j : Nat), (ofList k l).get j = if k ≤ j then l[j - k]? else none := by
  induction l with
  | nil => intro k j; simp [ofList, get_nil]
  | cons x xs ih =>
    intro k j
    rw [ofList, get_set, ih]
    by_cases h : j = k
    · subst h; simp
    · rw [if_neg h]
      by_cases hk : k ≤ j
      · have e : j - k = (j - (k + 1)) + 1 := by omega
        rw [if_pos hk, if_pos (show k + 1 ≤ j by omega), e]
        rfl
      · rw [if_neg hk, if_neg (by omega)]
end Tr
structure Blk where
  B : Nat
  sh : Nat
  N : Nat
  sz : Nat
  fc : List Value
structure Map where
  f : Nat → Option Blk
  ls : Nat → Option Blk
instance : CoeFun Map (fun _ => Nat → Option Blk) := ⟨Map.f⟩
inductive FnR (ρ : Map) : Fn → Fn → Prop
  | func (f : Nat) : FnR ρ (.func f) (.func f)
  | method (n : String) : FnR ρ (.method n) (.method n)
  | yield {l : Nat} {x : Blk} : ρ l = some x → FnR ρ (.yield l) (.yield x.B)
def Sub (fc : List Value) (o : Nat) (cs : List Value) : Prop := ∀ (j : Nat) (v : Value), cs[j]? = some v → fc[o + j]? = some v
def AllSz (sz : Nat) (es : List Value) : Prop := ∀ e ∈ es, (cellsL e).length = sz
mutual
inductive VR (ρ : Map) : Value → Value → Prop
  | bool (b : Bool) : VR ρ (.bool b) (.bool b)
  | int (k : IntKind) (n : Int) : VR ρ (.int k n) (.int k n)
  | float (k : FloatKind) (b : Nat) : VR ρ (.float k b) (.float k b)
  | complex (k : FloatKind) (a b : Nat) : VR ρ (.complex k a b) (.complex k a b)
  | string (s : ByteArray) : VR ρ (.string s) (.string s)
  | ptrN : VR ρ (.pointer none) (.pointer none)
  | ptr {b o : Nat} {x : Blk} : ρ b = some x → VR ρ (.pointer (some ⟨b, o, none⟩)) (.pointer (some ⟨x.B, x.sh + o, none⟩))
  | slN : VR ρ (.slice none 0 0) (.slice none 0 0)
  | sl {b o o' n c c' : Nat} {x : Blk} : ρ b = some x → (o' = x.sh + o ∨ c' = 0) → capLo c ≤ c' → (capEx c = true → c' = capLo c) →
      (capEx c = false → c' = 0 ∨ o' + c' * x.sz = x.N) → n ≤ c' → VR ρ (.slice (some ⟨b, o, none⟩) n c) (.slice (some ⟨x.B, o', none⟩) n c')
  | mpN : VR ρ (.map none) (.map none)
  | mp {r : Nat} {x : Blk} : ρ r = some x → VR ρ (.map (some r)) (.map (some x.B))
  | fn {f f' : Fn} {a a' b b' : List Value} : FnR ρ f f' → VRs ρ a a' → VRs ρ b b' → VR ρ (.func f ⟨a⟩ ⟨b⟩) (.func f' ⟨a'⟩ ⟨b'⟩)
  | nilFunc : VR ρ .nilFunc .nilFunc
  | iface {t : TypeId} {v v' : Value} : t < 1000000000 → VR ρ v v' → VR ρ (.iface t v) (.iface t v')
  | lst {es cs' : List Value} {B o sz c' : Nat} {x : Blk} : ρ.ls B = some x → VRs ρ (flatC es) cs' → Sub x.fc o cs' → AllSz sz es → es.length ≤ c' →
      VR ρ (.iface 1000000000 (.agg ⟨es⟩)) (.slice (some ⟨B, o, none⟩) es.length c')
  | lst0 {a : Option Addr} {c' : Nat} : VR ρ (.iface 1000000000 (.agg ⟨[]⟩)) (.slice a 0 c')
  | xl {es cs' : List Value} {B o sz : Nat} {x : Blk} : ρ.ls B = some x → VRs ρ (flatC es) cs' → Sub x.fc o cs' → AllSz sz es →
      VR ρ (.iface 1000000001 (.agg ⟨es⟩)) (.slice (some ⟨B, o, none⟩) es.length es.length)
  | xl0 {a : Option Addr} : VR ρ (.iface 1000000001 (.agg ⟨[]⟩)) (.slice a 0 0)
  | ep {cs cs' : List Value} {B o : Nat} {x : Blk} : ρ.ls B = some x → VRs ρ cs cs' → Sub x.fc o cs' → VR ρ (.iface 1000000002 (.agg ⟨cs⟩)) (.pointer (some ⟨B, o, none⟩))
  | nilIface : VR ρ .nilIface .nilIface
  | agg {a a' : List Value} : VRs ρ a a' → VR ρ (.agg ⟨a⟩) (.agg ⟨a'⟩)
  | tuple {a a' : List Value} : VRs ρ a a' → VR ρ (.tuple ⟨a⟩) (.tuple ⟨a'⟩)
inductive VRs (ρ : Map) : List Value → List Value → Prop
  | nil : VRs ρ [] []
  | cons {v v' : Value} {l l' : List Value} : VR ρ v v' → VRs ρ l l' → VRs ρ (v :: l) (v' :: l')
end
structure Ext (ρ ρ' : Map) : Prop where
  nm : ∀ k x, ρ k = some x → ρ' k = some x
  ls : ∀ B x, ρ.ls B = some x → ρ'.ls B = some x
instance {ρ ρ' : Map} : CoeFun (Ext ρ ρ') (fun _ => ∀ k x, ρ k = some x → ρ' k = some x) := ⟨Ext.nm⟩
theorem Ext.refl (ρ : Map) : Ext ρ ρ := ⟨fun _ _ h => h, fun _ _ h => h⟩
theorem Ext.trans {a b c : Map} (h : Ext a b) (h' : Ext b c) : Ext a c := ⟨fun k x e => h' k x (h k x e), fun k x e => h'.ls k x (h.ls k x e)⟩
theorem FnR.ext {ρ ρ' : Map} (h : Ext ρ ρ') {f f' : Fn} (r : FnR ρ f f') : FnR ρ' f f' := by
  cases r with
  | func f => exact .func f
  | method n => exact .method n
  | yield e => exact .yield (h _ _ e)
mutual
theorem VR.ext {ρ ρ' : Map} (h : Ext ρ ρ') : ∀ {v v' : Value}, VR ρ v v' → VR ρ' v v'
  | _, _, .bool b => .bool b
  | _, _, .int k n => .int k n
  | _, _, .float k b => .float k b
  | _, _, .complex k a b => .complex k a b
  | _, _, .string s => .string s
  | _, _, .ptrN => .ptrN
  | _, _, .ptr e => .ptr (h _ _ e)
  | _, _, .slN => .slN
  | _, _, .sl e a b c d f => .sl (h _ _ e) a b c d f
  | _, _, .mpN => .mpN
  | _, _, .mp e => .mp (h _ _ e)
  | _, _, .fn a b c => .fn (a.ext h) (b.ext h) (c.ext h)
  | _, _, .nilFunc => .nilFunc
  | _, _, .iface i a => .iface i (a.ext h)
  | _, _, .lst e a b c d => .lst (h.ls _ _ e) (a.ext h) b c d
  | _, _, .lst0 => .lst0
  | _, _, .xl e a b c => .xl (h.ls _ _ e) (a.ext h) b c
  | _, _, .xl0 => .xl0
  | _, _, .ep e a b => .ep (h.ls _ _ e) (a.ext h) b
  | _, _, .nilIface => .nilIface
  | _, _, .agg a => .agg (a.ext h)
  | _, _, .tuple a => .tuple (a.ext h)
theorem VRs.ext {ρ ρ' : Map} (h : Ext ρ ρ') : ∀ {l l' : List Value}, VRs ρ l l' → VRs ρ' l l'
  | _, _, .nil => .nil
  | _, _, .cons a b => .cons (a.ext h) (b.ext h)
end
section
variable {ρ : Map}
theorem VRs.length {l l' : List Value} (h : VRs ρ l l') : l'.length = l.length := by
  induction l generalizing l' with
  | nil => cases h; rfl
  | cons v l ih => cases h with | cons a b => simp [ih b]
theorem VRs.append {a a' b b' : List Value} (h : VRs ρ a a') (k : VRs ρ b b') : VRs ρ (a ++ b) (a' ++ b') := by
  induction a generalizing a' with
  | nil => cases h; exact k
  | cons v l ih => cases h with | cons x y => exact .cons x (ih y)
theorem VRs.get {l l' : List Value} (h : VRs ρ l l') {i : Nat} {v : Value} (e : l[i]? = some v) : ∃ v', l'[i]? = some v' ∧ VR ρ v v' := by
  induction l generalizing l' i with
  | nil => simp at e
  | cons x l ih =>
    cases h with
    | cons a b =>
      cases i with
      | zero => simp at e; subst e; exact ⟨_, rfl, a⟩
      | succ i => simp at e; obtain ⟨v', e', r⟩ := ih b e; exact ⟨v', by simpa using e', r⟩
theorem VRs.drop {l l' : List Value} (h : VRs ρ l l') (n : Nat) : VRs ρ (l.drop n) (l'.drop n) := by
  induction n generalizing l l' with
  | zero => simpa using h
  | succ n ih => cases h with
    | nil => simp; exact .nil
    | cons a b => simpa using ih b
theorem VRs.take {l l' : List Value} (h : VRs ρ l l') (n : Nat) : VRs ρ (l.take n) (l'.take n) := by
  induction n generalizing l l' with
  | zero => simp; exact .nil
  | succ n ih => cases h with
    | nil => simp; exact .nil
    | cons a b => simp; exact .cons a (ih b)
theorem VRs.map {α : Type} (l : List α) (f g : α → Value) (h : ∀ x ∈ l, VR ρ (f x) (g x)) : VRs ρ (l.map f) (l.map g) := by
  induction l with
  | nil => exact .nil
  | cons x l ih => exact .cons (h x (by simp)) (ih fun y hy => h y (by simp [hy]))
theorem VRs.set {l l' : List Value} (h : VRs ρ l l') (i : Nat) {v v' : Value} (r : VR ρ v v') : VRs ρ (l.set i v) (l'.set i v') := by
  induction l generalizing l' i with
  | nil => cases h; exact .nil
  | cons x l ih =>
    cases h with
    | cons a b => cases i with
      | zero => exact .cons r b
      | succ i => exact .cons a (ih b i)
theorem VRs.rep {z z' : List Value} (h : VRs ρ z z') : ∀ n, VRs ρ (Ev.rep z n) (Ev.rep z' n)
  | 0 => .nil
  | n + 1 => h.append (VRs.rep h n)
theorem VR.cells {v v' : Value} (h : VR ρ v v') : VRs ρ (cellsL v) (cellsL v') := by
  have h' := h
  cases h <;> first
    | exact .cons h' .nil
    | (rename_i a; exact a)
theorem VR.isL_inv {x x' : Value} (h : isL x = true) (hx : VR ρ x x') : ∃ a c', x' = .slice a (elems x).length c' ∧
    ((elems x = [] ∧ True) ∨ ∃ B o sz cs' z, a = some ⟨B, o, none⟩ ∧ ρ.ls B = some z ∧ VRs ρ (flatC (elems x)) cs' ∧ Sub z.fc o cs' ∧ AllSz sz (elems x)) ∧ (elems x).length ≤ c' ∧ (isXl x = true → c' = (elems x).length) := by
  cases hx with
  | @iface t v v' ht hv =>
    exfalso
    have h1 : Nat.beq t LF = false := by
      cases hb : Nat.beq t LF with
      | false => rfl
      | true => have := Nat.eq_of_beq_eq_true hb; subst this; exact absurd ht (by unfold LF; decide)
    have h2 : Nat.beq t LZ = false := by
      cases hb : Nat.beq t LZ with
      | false => rfl
      | true => have := Nat.eq_of_beq_eq_true hb; subst this; exact absurd ht (by unfold LZ; decide)
    cases v <;> simp [isL, isLst, isXl, h1, h2] at h
  | lst e a b c d => exact ⟨_, _, rfl, .inr ⟨_, _, _, _, _, rfl, e, a, b, c⟩, d, fun q => by cases q⟩
  | lst0 => exact ⟨_, _, rfl, .inl ⟨rfl, trivial⟩, Nat.zero_le _, fun q => by cases q⟩
  | xl e a b c => exact ⟨_, _, rfl, .inr ⟨_, _, _, _, _, rfl, e, a, b, c⟩, Nat.le_refl _, fun _ => rfl⟩
  | xl0 => exact ⟨_, _, rfl, .inl ⟨rfl, trivial⟩, Nat.zero_le _, fun _ => rfl⟩
  | _ => cases h
theorem VR.isEp_inv {x x' : Value} (h : isEp x = true) (hx : VR ρ x x') : ∃ B o cs' z, x' = .pointer (some ⟨B, o, none⟩) ∧ ρ.ls B = some z ∧ VRs ρ (elems x) cs' ∧ Sub z.fc o cs' := by
  cases hx with
  | @iface t v v' ht hv =>
    exfalso
    have h1 : Nat.beq t LE = false := by
      cases hb : Nat.beq t LE with
      | false => rfl
      | true => have := Nat.eq_of_beq_eq_true hb; subst this; exact absurd ht (by unfold LE; decide)
    cases v <;> simp [isEp, h1] at h
  | ep e a b => exact ⟨_, _, _, _, rfl, e, a, b⟩
  | _ => cases h
theorem flatC_append (a b : List Value) : flatC (a ++ b) = flatC a ++ flatC b := by
  induction a with
  | nil => rfl
  | cons e a ih => simp [flatC, ih]
theorem flatC_length {sz : Nat} : ∀ {es : List Value}, AllSz sz es → (flatC es).length = es.length * sz := by
  intro es
  induction es with
  | nil => intro _; simp [flatC]
  | cons e es ih =>
    intro h
    rw [flatC, List.length_append, ih fun x hx => h x (List.mem_cons_of_mem _ hx), h e (List.mem_cons_self ..), List.length_cons, Nat.succ_mul, Nat.add_comm]
theorem AllSz.take {sz n : Nat} {es : List Value} (h : AllSz sz es) : AllSz sz (es.take n) := fun e he => h e (List.mem_of_mem_take he)
theorem AllSz.drop {sz n : Nat} {es : List Value} (h : AllSz sz es) : AllSz sz (es.drop n) := fun e he => h e (List.mem_of_mem_drop he)
theorem flatC_take {sz n : Nat} : ∀ {es : List Value}, AllSz sz es → flatC (es.take n) = (flatC es).take (n * sz) := by
  intro es h
  by_cases hn : n ≤ es.length
  · have e := congrArg flatC (List.take_append_drop n es)
    rw [flatC_append] at e
    have hl : (flatC (es.take n)).length = n * sz := by rw [flatC_length h.take, List.length_take, Nat.min_eq_left hn]
    rw [← e, ← hl, List.take_left]
  · rw [List.take_of_length_le (by omega), List.take_of_length_le (by rw [flatC_length h]; exact Nat.mul_le_mul_right _ (by omega))]
theorem flatC_drop {sz n : Nat} : ∀ {es : List Value}, AllSz sz es → flatC (es.drop n) = (flatC es).drop (n * sz) := by
  intro es h
  by_cases hn : n ≤ es.length
  · have e := congrArg flatC (List.take_append_drop n es)
    rw [flatC_append] at e
    have hl : (flatC (es.take n)).length = n * sz := by rw [flatC_length h.take, List.length_take, Nat.min_eq_left hn]
    rw [← e, ← hl, List.drop_left]
  · rw [List.drop_of_length_le (by omega), List.drop_of_length_le (by rw [flatC_length h]; exact Nat.mul_le_mul_right _ (by omega))]
    rfl
theorem Sub.take {fc cs : List Value} {o n : Nat} (h : Sub fc o cs) : Sub fc o (cs.take n) := fun j v e => by
  rw [List.getElem?_take] at e
  split at e
  · exact h j v e
  · cases e
theorem Sub.drop {fc cs : List Value} {o n : Nat} (h : Sub fc o cs) : Sub fc (o + n) (cs.drop n) := fun j v e => by
  rw [List.getElem?_drop] at e
  rw [Nat.add_assoc]
  exact h _ v e
theorem hdOk_all {sz sz' : Nat} {es : List Value} (h : hdOk sz es = true) (ha : AllSz sz' es) (hn : es ≠ []) : sz' = sz := by
  cases es with
  | nil => exact absurd rfl hn
  | cons e es =>
    have := ha e (List.mem_cons_self ..)
    have h2 := Nat.eq_of_beq_eq_true h
    omega
end
end Go.Ev
