import Derived.Test.YtpljgnjdlciicaaGreatDoorLxKP3
namespace Go.Ev
section
variable {K V : Type}
structure Turns (n : Nat) (W T : Nat → K → Prop) (mask : Nat → Nat → Prop) (val : Nat → K → V) : Prop where
  wt : ∀ j k, W j k → T j k
  /-- Who touches what another writes keeps its turn. -/
  conf : ∀ j i k, j < i → i < n → (W j k ∧ T i k) ∨ (T j k ∧ W i k) → mask i j
  keep : ∀ i k, i < n → ¬ W i k → val (i + 1) k = val i k
def Now (n : Nat) (W : Nat → K → Prop) (val : Nat → K → V) (L : Nat → Prop) (cur : K → V) : Prop :=
  ∀ i, i ≤ n → ∀ k, (∀ j, j < i → W j k → L j) → (∀ j, i ≤ j → j < n → W j k → ¬ L j) → cur k = val i k
variable {n : Nat} {W T : Nat → K → Prop} {mask : Nat → Nat → Prop} {val : Nat → K → V} {L : Nat → Prop} {cur cur' : K → V}
theorem Now.first (h : ∀ k, cur k = val 0 k) (t : Turns n W T mask val) (hL : ∀ j, ¬ L j) : Now n W val L cur := by
  intro i hi k h1 _
  have : ∀ m, m ≤ i → val m k = val 0 k := by
    intro m
    induction m with
    | zero => intro _; rfl
    | succ m ih =>
      intro hm
      rw [t.keep m k (by omega) (fun hw => hL m (h1 m (by omega) hw))]
      exact ih (by omega)
  rw [h k, this i (Nat.le_refl _)]
theorem Now.view (h : Now n W val L cur) (t : Turns n W T mask val) (closed : ∀ j i, L i → mask i j → L j) {p : Nat} (hp : p < n) (hn : ¬ L p) (hm : ∀ j, mask p j → L j) {k : K} (hk : T p k) : cur k = val p k := by
  refine h p (Nat.le_of_lt hp) k (fun j hj hw => hm j (t.conf j p k hj hp (.inl ⟨hw, hk⟩))) (fun j hj hjn hw hl => ?_)
  by_cases e : j = p
  · exact hn (e ▸ hl)
  · exact hn (closed p j hl (t.conf p j k (by omega) hjn (.inr ⟨hk, hw⟩)))
theorem Now.step (h : Now n W val L cur) (t : Turns n W T mask val) (closed : ∀ j i, L i → mask i j → L j) {p : Nat} (hp : p < n) (hn : ¬ L p) (hw : ∀ k, W p k → cur' k = val (p + 1) k) (hk : ∀ k, ¬ W p k → cur' k = cur k) :
    Now n W val (fun j => L j ∨ j = p) cur' := by
  intro i hi k h1 h2
  by_cases hpk : W p k
  · have hpi : p < i := by
      rcases Nat.lt_or_ge p i with h | h
      · exact h
      · exact absurd (.inr rfl) (h2 p h hp hpk)
    rw [hw k hpk]
    have : ∀ m, p + 1 ≤ m → m ≤ i → val m k = val (p + 1) k := by
      intro m
      induction m with
      | zero => intro a; omega
      | succ m ih =>
        intro a b
        by_cases e : m = p
        · rw [e]
        · rw [t.keep m k (by omega) (fun hwm => ?_)]
          · exact ih (by omega) (by omega)
          · rcases h1 m (by omega) hwm with hl | hl
            · exact hn (closed p m hl (t.conf p m k (by omega) (by omega) (.inl ⟨hpk, t.wt m k hwm⟩)))
            · exact e hl
    exact (this i (by omega) (Nat.le_refl _)).symm
  · rw [hk k hpk]
    refine h i hi k (fun j hj hwj => ?_) (fun j hj hjn hwj hl => h2 j hj hjn hwj (.inl hl))
    rcases h1 j hj hwj with hl | hl
    · exact hl
    · exact absurd (hl ▸ hwj) hpk
theorem Now.last (h : Now n W val L cur) (hL : ∀ j, j < n → L j) (k : K) : cur k = val n k :=
  h n (Nat.le_refl _) k (fun j hj _ => hL j hj) (fun j hj hjn _ => absurd hjn (by omega))
end
end Go.Ev
