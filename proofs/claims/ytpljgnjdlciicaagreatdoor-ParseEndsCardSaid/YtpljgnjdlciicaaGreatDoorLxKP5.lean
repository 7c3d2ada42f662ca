import Derived.Test.YtpljgnjdlciicaaGreatDoorLxKP4
namespace Go.Ev
open Go Go.RowKit
def lit1 : Value → Bool
  | .bool _ | .int _ _ | .float _ _ | .complex _ _ _ | .string _ | .pointer none | .map none | .nilFunc | .nilIface => true
  | .slice none n c => Nat.beq n 0 && Nat.beq c 0
  | _ => false
def lit2 : Value → Bool
  | .agg cs => cs.toList.all lit1
  | v => lit1 v
def lit : Value → Bool
  | .agg cs => cs.toList.all lit1
  | .tuple cs => cs.toList.all lit2
  | v => lit1 v
def okO (ng : Nat) : Operand → Bool
  | .const v => lit v
  | .global g => Nat.blt g ng
  | _ => true
def okOper (ng : Nat) (o : Oper) : Bool := o.op.operands.toList.all (okO ng)
def okCode (ng : Nat) : Code → Bool
  | .skip | .exit _ | .label _ | .goto _ | .ret | .refuse _ => true
  | .region _ ops _ => ops.toList.all (okOper ng)
  | .seq a b => okCode ng a && okCode ng b
  | .cond c a b => okO ng c && okCode ng a && okCode ng b
  | .block _ b => okCode ng b
  | .loop b => okCode ng b
  | .rangeFunc f _ a b => okO ng f && okCode ng a && okCode ng b
  | .scope b => okCode ng b
inductive EsR (ρ : Map) : List MapEntry → List MapEntry → Prop
  | nil : EsR ρ [] []
  | cons {e e' : MapEntry} {l l' : List MapEntry} : VR ρ e.key e'.key → VR ρ e.val e'.val → e'.born = e.born → EsR ρ l l' → EsR ρ (e :: l) (e' :: l')
def TR (ρ : Map) (tm : Tm) (a : Array Value) : Prop := a.size = tm.nt ∧ ∀ t, Nat.testBit tm.lv t = true → VR ρ (tm.get t) (a.getD t undef)
inductive DR (ρ : Map) : Deferred → Deferred → Prop
  | fn {f f' : Fn} {c c' a a' : List Value} : FnR ρ f f' → VRs ρ c c' → VRs ρ a a' → DR ρ ⟨.fn f ⟨c⟩, ⟨a⟩⟩ ⟨.fn f' ⟨c'⟩, ⟨a'⟩⟩
  | col {r : Nat} {x : Blk} : ρ r = some x → DR ρ ⟨.collected r, #[]⟩ ⟨.collected x.B, #[]⟩
inductive DsR (ρ : Map) : List Deferred → List Deferred → Prop
  | nil : DsR ρ [] []
  | cons {d d' : Deferred} {l l' : List Deferred} : DR ρ d d' → DsR ρ l l' → DsR ρ (d :: l) (d' :: l')
def lst : LSt → LoopState
  | .ready => .ready | .busy => .busy | .done => .done | .exhausted => .exhausted
inductive ObR (P : Program) (ρ : Map) : Slot → Obj → Prop
  | mp {es es' : List MapEntry} (c : Nat) : EsR ρ es es' → ObR P ρ (.mp es c) (.map ⟨es'⟩ c)
  | sit (s : ByteArray) (p : Nat) : ObR P ρ (.sit s p) (.stringIter s p)
  | mitN (a : Nat) (l : List Nat) (b : Nat) : ObR P ρ (.mit none a l b) (.mapIter none a ⟨l⟩ b)
  | mit {m : Nat} {x : Blk} (a : Nat) (l : List Nat) (b : Nat) : ρ m = some x → ObR P ρ (.mit (some m) a l b) (.mapIter (some x.B) a ⟨l⟩ b)
  | lp {p : Lp} {a : Array Value} {x : Blk} : TR ρ ⟨p.nt, p.lv, p.tm⟩ a → ρ p.defers = some x → okCode P.globals.size p.assign = true → okCode P.globals.size p.body = true →
      (∀ c, p.pending = some c → okCode P.globals.size c = true) →
      ObR P ρ (.lp p) (.loop { state := lst p.st, pending := p.pending, fn := p.fn, tmps := a, params := ⟨p.params⟩, assign := p.assign, body := p.body, defers := x.B })
  | dfrN : ObR P ρ (.dfr none) (.deferred none)
  | dfr {ds ds' : List Deferred} : DsR ρ ds ds' → ObR P ρ (.dfr (some ds)) (.deferred (some ds'))
def Slot.isObj : Slot → Bool
  | .hdr _ | .cell _ _ => false
  | _ => true
theorem EsR.ext {ρ ρ' : Map} (h : Ext ρ ρ') {l l' : List MapEntry} (r : EsR ρ l l') : EsR ρ' l l' := by
  induction r with
  | nil => exact .nil
  | cons a b c _ ih => exact .cons (a.ext h) (b.ext h) c ih
theorem TR.ext {ρ ρ' : Map} (h : Ext ρ ρ') {tm : Tm} {a : Array Value} (r : TR ρ tm a) : TR ρ' tm a := ⟨r.1, fun t ht => (r.2 t ht).ext h⟩
theorem DR.ext {ρ ρ' : Map} (h : Ext ρ ρ') {d d' : Deferred} (r : DR ρ d d') : DR ρ' d d' := by
  cases r with
  | fn a b c => exact .fn (a.ext h) (b.ext h) (c.ext h)
  | col e => exact .col (h _ _ e)
theorem DsR.ext {ρ ρ' : Map} (h : Ext ρ ρ') {l l' : List Deferred} (r : DsR ρ l l') : DsR ρ' l l' := by
  induction r with
  | nil => exact .nil
  | cons a _ ih => exact .cons (a.ext h) ih
theorem ObR.ext {P : Program} {ρ ρ' : Map} (h : Ext ρ ρ') {s : Slot} {o : Obj} (r : ObR P ρ s o) : ObR P ρ' s o := by
  cases r with
  | mp c e => exact .mp c (e.ext h)
  | sit s p => exact .sit s p
  | mitN a l b => exact .mitN a l b
  | mit a l b e => exact .mit a l b (h _ _ e)
  | lp a b c d e => exact .lp (a.ext h) (h _ _ b) c d e
  | dfrN => exact .dfrN
  | dfr a => exact .dfr (a.ext h)
structure RowR (P : Program) (B0 : Nat) (h : Hdr) (w : World) (x : Blk) (c : Array Value) (lo hi : Nat) : Prop where
  heap : w.heap[x.B]? = some (.cells c h.el (lo, hi))
  N : c.size = x.N
  sz : ∃ i, P.info? h.el = some i ∧ i.size = x.sz
  fits : x.sh + h.n ≤ x.N
  ex : h.ex = true → x.N = x.sh + h.n
  z : h.z = true → x.sh = 0
  own : h.ro = false → B0 ≤ x.B
  le : lo ≤ hi
  fz : h.mv = false → ∀ i, lo ≤ i → i < hi → i < x.sh + h.fz ∨ x.N ≤ i
  sy : h.mv = false → h.sy = false → ∀ i, lo ≤ i → i < hi → i < x.sh + h.fz
  fn : h.fz ≤ h.n
structure MR (P : Program) (ρ : Map) (B0 : Nat) (m : Tr Slot) (w : World) : Prop where
  row : ∀ b h, m.get b = some (.hdr h) → ∃ x c lo hi, ρ b = some x ∧ RowR P B0 h w x c lo hi
  cell : ∀ b h o v, m.get b = some (.hdr h) → m.get (b + 1 + o) = some (.cell b v) → o < h.n ∧ ∃ x v', ρ b = some x ∧ w.cell? ⟨x.B, x.sh + o, none⟩ = some v' ∧ VR ρ v v'
  sep : ∀ b h b2 h2 x x2, m.get b = some (.hdr h) → m.get b2 = some (.hdr h2) → b ≠ b2 → ρ b = some x → ρ b2 = some x2 → x.B = x2.B →
    (h.mv = true ∧ h2.mv = true) ∨ (b2 ∈ h.olds ∧ x2.sh + h2.n ≤ x.sh + h.n) ∨ (b ∈ h2.olds ∧ x.sh + h.n ≤ x2.sh + h2.n)
  old : ∀ b h b2 h2, m.get b = some (.hdr h) → b2 ∈ h.olds → m.get b2 = some (.hdr h2) → h2.mv = true
  obj : ∀ k o, m.get k = some o → o.isObj = true → ∃ x ob, ρ k = some x ∧ x.sh = 0 ∧ B0 ≤ x.B ∧ w.heap[x.B]? = some ob ∧ ObR P ρ o ob
  osep : ∀ k o k2 o2 x x2, m.get k = some o → o.isObj = true → m.get k2 = some o2 → o2.isObj = true → k ≠ k2 → ρ k = some x → ρ k2 = some x2 → x.B = x2.B → False
  dom : ∀ j b v, m.get j = some (.cell b v) → ∃ x, ρ b = some x
  odom : ∀ b h b2, m.get b = some (.hdr h) → b2 ∈ h.olds → ∃ x, ρ b2 = some x
  rng : ∀ b x, ρ b = some x → x.B < w.heap.size
  frz : ∀ B x, ρ.ls B = some x → x.B = B ∧ (∃ c el fr, w.heap[B]? = some (.cells c el fr) ∧ c.toList = x.fc) ∧ ∀ b h y, m.get b = some (.hdr h) → ρ b = some y → y.B = B → h.ro = true
section
variable {P : Program} {ρ : Map} {B0 : Nat}
theorem MR.sub {m m' : Tr Slot} {w : World} (r : MR P ρ B0 m w) (h : ∀ k s, m'.get k = some s → m.get k = some s) : MR P ρ B0 m' w where
  row b hd e := r.row b hd (h _ _ e)
  cell b hd o v e e' := r.cell b hd o v (h _ _ e) (h _ _ e')
  sep b hd b2 h2 x x2 e e2 := r.sep b hd b2 h2 x x2 (h _ _ e) (h _ _ e2)
  old b hd b2 h2 e i e2 := r.old b hd b2 h2 (h _ _ e) i (h _ _ e2)
  obj k o e := r.obj k o (h _ _ e)
  osep k o k2 o2 x x2 e i e2 := r.osep k o k2 o2 x x2 (h _ _ e) i (h _ _ e2)
  dom j b v e := r.dom j b v (h _ _ e)
  odom b hd b2 e := r.odom b hd b2 (h _ _ e)
  rng := r.rng
  frz B x e := let ⟨h1, h2, h3⟩ := r.frz B x e; ⟨h1, h2, fun b hd y e1 => h3 b hd y (h _ _ e1)⟩
theorem MR.heap {m : Tr Slot} {w w' : World} (r : MR P ρ B0 m w) (h : w'.heap = w.heap) : MR P ρ B0 m w' where
  row b hd e := by
    obtain ⟨x, c, lo, hi, e1, y⟩ := r.row b hd e
    exact ⟨x, c, lo, hi, e1, { y with heap := h ▸ y.heap }⟩
  cell b hd o v e e' := by
    obtain ⟨a, x, v', e1, y, z⟩ := r.cell b hd o v e e'
    exact ⟨a, x, v', e1, by rw [← y]; simp only [World.cell?, h], z⟩
  sep := r.sep
  old := r.old
  obj k o e i := by
    obtain ⟨x, ob, e1, e0, y, z, u⟩ := r.obj k o e i
    exact ⟨x, ob, e1, e0, y, h ▸ z, u⟩
  osep := r.osep
  dom := r.dom
  odom := r.odom
  rng b x e := h ▸ r.rng b x e
  frz B x e := by
    obtain ⟨h1, ⟨c, el, fr, h2, h2'⟩, h3⟩ := r.frz B x e
    exact ⟨h1, ⟨c, el, fr, h ▸ h2, h2'⟩, h3⟩
end
theorem kill_get (l : List Nat) : ∀ (m : Tr Slot) (k : Nat), (kill l m).get k = if k ∈ l then none else m.get k := by
  induction l with
  | nil => intro m k; simp [kill]
  | cons x l ih =>
    intro m k
    rw [kill, ih, Tr.get_set]
    by_cases h : k ∈ l
    · simp [h]
    · by_cases hx : k = x <;> simp [h, hx]
theorem rdCells_spec (m : Tr Slot) (b : Nat) : ∀ (n o : Nat) (vs : List Value), rdCells m b n o = some vs → vs.length = n ∧ ∀ j v, vs[j]? = some v → m.get (b + 1 + (o + j)) = some (.cell b v) := by
  intro n
  induction n with
  | zero => intro o vs h; simp [rdCells] at h; subst h; simp
  | succ n ih =>
    intro o vs h
    rw [rdCells] at h
    split at h
    · rename_i b' v hg
      split at h
      · rename_i hb
        obtain rfl := Nat.eq_of_beq_eq_true hb
        split at h
        · rename_i l hl
          obtain ⟨h1, h2⟩ := ih _ _ hl
          simp only [Option.some.injEq] at h
          subst h
          refine ⟨by simp [h1], fun j u hj => ?_⟩
          cases j with
          | zero => simp at hj; subst hj; simpa using hg
          | succ j =>
            simp at hj
            have := h2 j u hj
            rw [show o + (j + 1) = Nat.add o 1 + j from by show _ = o + 1 + j; omega]
            exact this
        · cases h
      · cases h
    · cases h
theorem St.rd_spec {s s' : St} {b n o : Nat} {vs : List Value} (h : s.rd b n o = some (vs, s')) :
    s'.mem = s.mem ∧ s'.ctr = s.ctr ∧ (∃ hd, s.mem.get b = some (.hdr hd)) ∧ vs.length = n ∧ ∀ j v, vs[j]? = some v → s.mem.get (b + 1 + (o + j)) = some (.cell b v) := by
  obtain ⟨m, c, l⟩ := s
  simp only [St.rd] at h
  split at h
  · rename_i hd hg
    split at h
    · rename_i vs' hv
      simp only [Option.some.injEq, Prod.mk.injEq] at h
      obtain ⟨rfl, rfl⟩ := h
      obtain ⟨h1, h2⟩ := rdCells_spec m b n o _ hv
      exact ⟨rfl, rfl, ⟨_, hg⟩, h1, h2⟩
    · cases h
  · cases h
theorem MR.rd {P : Program} {ρ : Map} {B0 : Nat} {s s' : St} {w : World} (r : MR P ρ B0 s.mem w) {b n o : Nat} {vs : List Value} (h : s.rd b n o = some (vs, s')) {x : Blk} (hb : ρ b = some x) :
    ∃ vs', vs'.length = n ∧ VRs ρ vs vs' ∧ ∀ j v, vs'[j]? = some v → w.cell? ⟨x.B, x.sh + o + j, none⟩ = some v := by
  obtain ⟨_, _, ⟨hd, hg⟩, hl, hv⟩ := St.rd_spec h
  clear h
  suffices H : ∀ (vs : List Value) (o : Nat), (∀ j v, vs[j]? = some v → s.mem.get (b + 1 + (o + j)) = some (.cell b v)) →
      ∃ vs', vs'.length = vs.length ∧ VRs ρ vs vs' ∧ ∀ j v, vs'[j]? = some v → w.cell? ⟨x.B, x.sh + o + j, none⟩ = some v by
    obtain ⟨vs', a, c, d⟩ := H vs o hv
    exact ⟨vs', a.trans hl, c, d⟩
  intro vs
  induction vs with
  | nil => intro o _; exact ⟨[], rfl, .nil, by simp⟩
  | cons y vs ih =>
    intro o hv
    obtain ⟨_, x', v', e1, e2, e3⟩ := r.cell b hd o y hg (by simpa using hv 0 y rfl)
    rw [hb] at e1
    obtain rfl := Option.some.inj e1
    obtain ⟨vs', a, c, d⟩ := ih (o + 1) (fun j v hj => by
      have := hv (j + 1) v (by simpa using hj)
      rwa [show o + (j + 1) = o + 1 + j from by omega] at this)
    refine ⟨v' :: vs', by simp [a], .cons e3 c, fun j v hj => ?_⟩
    cases j with
    | zero => simp at hj; subst hj; simpa using e2
    | succ j =>
      simp at hj
      have := d j v hj
      rwa [show x.sh + (o + 1) + j = x.sh + o + (j + 1) from by omega] at this
theorem add_at (B o j : Nat) : (⟨B, o, none⟩ : Addr).add j = ⟨B, o + j, none⟩ := by
  unfold Addr.add
  split <;> simp_all
theorem run_loadRow {P : Program} {w : World} {B o n : Nat} {vs : List Value} (hl : vs.length = n) (h : ∀ j v, vs[j]? = some v → w.cell? ⟨B, o + j, none⟩ = some v) :
    (loadCells ⟨B, o, none⟩ n).run P w = .ok ⟨vs⟩ w := by
  subst hl
  exact run_loadCells_list (P := P) w ⟨B, o, none⟩ vs (fun j v hj => by rw [add_at]; exact h j v hj)
def setCells (w : World) (B o : Nat) : List Value → World
  | [] => w
  | v :: vs => setCells (w.setCell ⟨B, o, none⟩ v) B (o + 1) vs
theorem setCells_spec (B : Nat) : ∀ (vs : List Value) (o : Nat) (w : World) (c : Array Value) (e : TypeId) (fr : Nat × Nat), w.heap[B]? = some (.cells c e fr) → o + vs.length ≤ c.size →
    (∃ c', (setCells w B o vs).heap[B]? = some (.cells c' e fr) ∧ c'.size = c.size ∧ ∀ i, c'[i]? = if o ≤ i ∧ i < o + vs.length then vs[i - o]? else c[i]?) ∧
    (∀ k, k ≠ B → (setCells w B o vs).heap[k]? = w.heap[k]?) ∧ (setCells w B o vs).heap.size = w.heap.size ∧
    (setCells w B o vs).os = w.os ∧ (setCells w B o vs).tape = w.tape ∧ (setCells w B o vs).output = w.output := by
  intro vs
  induction vs with
  | nil =>
    intro o w c e fr h _
    refine ⟨⟨c, h, rfl, fun i => ?_⟩, fun _ _ => rfl, rfl, rfl, rfl, rfl⟩
    rw [if_neg (by simp)]
  | cons v vs ih =>
    intro o w c e fr h hle
    have hle' : o + 1 + vs.length ≤ c.size := by simp at hle; omega
    have h1 : (w.setCell ⟨B, o, none⟩ v).heap[B]? = some (.cells (c.setIfInBounds o v) e fr) := by
      simp [World.setCell, Array.getElem?_modify, h]
    obtain ⟨⟨c', a1, a2, a3⟩, b, d, x, y, z⟩ := ih (o + 1) (w.setCell ⟨B, o, none⟩ v) _ e fr h1 (by simpa using hle')
    refine ⟨⟨c', a1, by simpa using a2, fun i => ?_⟩, fun k hk => ?_, ?_, x, y, z⟩
    · rw [a3]
      by_cases hi : o + 1 ≤ i ∧ i < o + 1 + vs.length
      · rw [if_pos hi, if_pos (by simp; omega), show i - o = (i - (o + 1)) + 1 from by omega]
        rfl
      · rw [if_neg hi]
        by_cases ho : i = o
        · subst ho
          rw [if_pos (by simp)]
          simp only [Nat.sub_self, List.getElem?_cons_zero]
          rw [Array.getElem?_setIfInBounds_self, if_pos (by simp at hle; omega)]
        · rw [if_neg (by simp; omega), Array.getElem?_setIfInBounds_ne (fun e => ho e.symm)]
    · rw [show setCells w B o (v :: vs) = setCells (w.setCell ⟨B, o, none⟩ v) B (o + 1) vs from rfl, b k hk]
      exact Below.heap_setCell w ⟨B, o, none⟩ v k hk
    · rw [show setCells w B o (v :: vs) = setCells (w.setCell ⟨B, o, none⟩ v) B (o + 1) vs from rfl, d]
      simp
theorem oneC_eq (v : Value) : oneC v = v.oneCell' := by cases v <;> rfl
theorem MR.frzCell {P : Program} {ρ : Map} {B0 : Nat} {m : Tr Slot} {w : World} (r : MR P ρ B0 m w) {B : Nat} {x : Blk} (h : ρ.ls B = some x) {i : Nat} {v : Value} (hv : x.fc[i]? = some v) : w.cell? ⟨B, i, none⟩ = some v := by
  obtain ⟨_, ⟨c, el, fr, h2, h3⟩, _⟩ := r.frz B x h
  rw [← h3] at hv
  simp only [World.cell?, h2]
  simpa using hv
theorem run_storeRow {P : Program} (B : Nat) : ∀ (vs : List Value) (o i : Nat) (w : World) (c : Array Value) (e : TypeId) (fr : Nat × Nat), w.heap[B]? = some (.cells c e fr) →
    o + i + vs.length ≤ c.size → vs.all oneC = true → (∀ j, o + i ≤ j → j < o + i + vs.length → ¬ (fr.1 ≤ j ∧ j < fr.2)) →
    (storeCells ⟨B, o, none⟩ vs i).run P w = .ok () (setCells w B (o + i) vs) := by
  intro vs
  induction vs with
  | nil => intro o i w c e fr _ _ _ _; rfl
  | cons v vs ih =>
    intro o i w c e fr h hle hone hfr
    obtain ⟨flo, fhi⟩ := fr
    simp only [List.all_cons, Bool.and_eq_true] at hone
    have hlt : o + i < c.size := by simp at hle; omega
    have hc : w.cell? ⟨B, o + i, none⟩ = some c[o + i] := by simp [World.cell?, h, hlt]
    have hf : w.frozen? ⟨B, o + i, none⟩ = false := by
      have := hfr (o + i) (Nat.le_refl _) (by simp)
      simp only [World.frozen?, h]
      simpa using this
    have hone' : v.oneCell' = true := by rw [← oneC_eq]; exact hone.1
    rw [storeCells, Sem.run_bind, add_at, run_store P w _ v .plain hone', hc]
    simp only [hf, Bool.false_eq_true, if_false, Result.andThen_ok]
    have h1 : (w.setCell ⟨B, o + i, none⟩ v).heap[B]? = some (.cells (c.setIfInBounds (o + i) v) e (flo, fhi)) := by
      simp [World.setCell, Array.getElem?_modify, h]
    rw [ih o (i + 1) _ _ e (flo, fhi) h1 (by simp at hle ⊢; omega) hone.2 (fun j a b => hfr j (by omega) (by simp; omega))]
    rfl
theorem layCells_get (b : Nat) : ∀ (vs : List Value) (k : Nat) (m : Tr Slot) (j : Nat),
    (layCells b vs k m).get j = if k ≤ j ∧ j < k + vs.length then (vs[j - k]?).map (Slot.cell b) else m.get j := by
  intro vs
  induction vs with
  | nil => intro k m j; rw [if_neg (by simp)]; rfl
  | cons v vs ih =>
    intro k m j
    rw [layCells, ih, Nat.add_eq]
    by_cases h : k + 1 ≤ j ∧ j < k + 1 + vs.length
    · rw [if_pos h, if_pos (by simp; omega), show j - k = (j - (k + 1)) + 1 from by omega]
      rfl
    · rw [if_neg h, Tr.get_set]
      by_cases hk : j = k
      · subst hk
        simp
      · rw [if_neg hk, if_neg (by simp; omega)]
end Go.Ev
