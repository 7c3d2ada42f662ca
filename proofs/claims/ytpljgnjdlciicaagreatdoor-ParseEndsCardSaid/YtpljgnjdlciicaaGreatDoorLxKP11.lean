import Derived.Test.YtpljgnjdlciicaaGreatDoorLxKP10
import Derived.IntWalk
namespace Go.Ev
open Go Go.RowKit
section
variable {P : Program} {E : Env} (ok : EnvOK P E) {ρ : Map} {B0 : Nat} {w0 w : World}
theorem natOf_ok {v v' : Value} {n : Nat} (h : natOf v = some n) (hv : VR ρ v v') : ∃ k, v' = .int k (n : Int) := by
  unfold natOf at h
  split at h
  · rename_i k m
    simp only [Option.some.injEq] at h
    subst h
    cases hv
    exact ⟨k, rfl⟩
  · cases h
theorem elemOfSlice_ok {t e : TypeId} (h : elemOfSlice E t = some e) : E.und t = some (.slice e) := by
  unfold elemOfSlice at h
  split at h
  · rename_i e' hd
    simp only [Option.some.injEq] at h
    subst h
    exact hd
  · cases h
include ok in
theorem part_ok {t : TypeId} {cs cs' : List Value} {off : Nat} {v : Value} (h : part E t cs off = some v) (hcs : VRs ρ cs cs') : ∃ v', (Go.part t ⟨cs'⟩ off).run P w = .ok v' w ∧ VR ρ v v' := by
  unfold part at h
  split at h
  · rename_i d hd
    split at h
    · rename_i hag
      split at h
      · rename_i n hn
        simp only [Option.some.injEq] at h
        subst h
        refine ⟨.agg ⟨(cs'.drop off).take n⟩, ?_, .agg ((hcs.drop off).take n)⟩
        simp only [Go.part, Sem.run_bind, isAgg_run ok hd, hag, Result.andThen_ok, if_true, run_size ok hn, Sem.run_pure]
        congr 2
        apply Array.ext'
        simp
      · cases h
    · rename_i hag
      obtain ⟨v', e, r⟩ := hcs.get h
      refine ⟨v', ?_, r⟩
      have : (⟨cs'⟩ : Array Value)[off]? = some v' := by simpa using e
      simp only [Go.part, Sem.run_bind, isAgg_run ok hd, hag, Result.andThen_ok, Bool.false_eq_true, if_false, this, Sem.run_pure]
  · cases h
theorem rep_length (z : List Value) : ∀ n, (rep z n).length = n * z.length
  | 0 => by simp [rep]
  | n + 1 => by rw [rep, List.length_append, rep_length z n, Nat.succ_mul]; omega
theorem rep_get (z : List Value) : ∀ (n i : Nat), i < n * z.length → (rep z n)[i]? = z[i % z.length]? := by
  intro n
  induction n with
  | zero => intro i h; simp at h
  | succ n ih =>
    intro i h
    rw [rep]
    by_cases hi : i < z.length
    · rw [List.getElem?_append_left hi, Nat.mod_eq_of_lt hi]
    · have hz : z.length ≤ i := by omega
      rw [List.getElem?_append_right hz, ih _ (by rw [Nat.succ_mul] at h; omega), Nat.mod_eq_sub_mod hz]
theorem zeros_eq (z : Array Value) (n : Nat) : ((Array.range (n * z.size)).map (z[· % z.size]!)) = ⟨rep z.toList n⟩ := by
  apply Array.ext'
  apply List.ext_getElem?
  intro i
  by_cases hi : i < n * z.size
  · have hz : 0 < z.size := by
      rcases Nat.eq_zero_or_pos z.size with h | h
      · rw [h] at hi; simp at hi
      · exact h
    have hm := Nat.mod_lt i hz
    simp only [Array.toList_map, Array.toList_range, List.getElem?_map]
    rw [List.getElem?_range hi, rep_get z.toList n i (by simpa using hi)]
    simp [hm, getElem!_def]
  · have h1 : (rep z.toList n)[i]? = none := List.getElem?_eq_none (by rw [rep_length]; simpa using Nat.le_of_not_lt hi)
    simp only [Array.toList_map, Array.toList_range, List.getElem?_map]
    rw [h1, List.getElem?_eq_none (by simpa using Nat.le_of_not_lt hi)]
    rfl
theorem zeroCells_eq (z : Array Value) (n : Nat) : Builtin.zeroCells z n = ⟨rep z.toList n⟩ := zeros_eq z n
include ok in
theorem zero_lit {t : TypeId} {z : Value} (h : E.zero t = some z) : VR ρ z z := by
  obtain ⟨i, hg, hz⟩ := zero_get h
  exact lit_VR (ok.zero _ _ _ hg hz).1 ρ
include ok in
theorem zero_len {t : TypeId} {z : Value} {n : Nat} (h : E.zero t = some z) (hn : E.size t = some n) : (cellsL z).length = n := by
  obtain ⟨i, hg, hz⟩ := zero_get h
  obtain ⟨j, hg', rfl⟩ := size_ok hn
  rw [hg] at hg'
  obtain rfl := Option.some.inj hg'
  exact (ok.zero _ _ _ hg hz).2
theorem capOf_lo (c : Nat) (b : Bool) : capLo (capOf c b) = c := by
  unfold capLo capOf
  cases b
  · show (2 * c + 0) / 2 = c; omega
  · show (2 * c + 1) / 2 = c; omega
theorem capOf_ex (c : Nat) (b : Bool) : capEx (capOf c b) = b := by
  unfold capEx capOf
  cases b
  · show Nat.beq ((2 * c + 0) % 2) 1 = false
    rw [show (2 * c + 0) % 2 = 0 from by omega]; rfl
  · show Nat.beq ((2 * c + 1) % 2) 1 = true
    rw [show (2 * c + 1) % 2 = 1 from by omega]; rfl
theorem VR.slice_exact {b o n c : Nat} {x : Blk} (hb : ρ b = some x) (hn : n ≤ c) : VR ρ (.slice (some ⟨b, o, none⟩) n (capOf c true)) (.slice (some ⟨x.B, x.sh + o, none⟩) n c) :=
  .sl hb (.inl rfl) (by rw [capOf_lo]; exact Nat.le_refl _) (fun _ => (capOf_lo c true).symm) (fun h => by rw [capOf_ex] at h; cases h) hn
include ok in
theorem makeSliceA_ok {t : TypeId} {l c l' c' : Value} {s s' : St} {v : Value} (h : (makeSliceA E t l c).run s = some (v, s')) (r : WR P ρ B0 w0 s.mem w) (fr : Fr ρ s.mem s.ctr s'.ctr)
    (hl : VR ρ l l') (hc : VR ρ c c') : SR P ρ B0 w0 s s' v ((Instr.makeSlice t l' c').run P w) := by
  unfold makeSliceA at h
  obtain ⟨e, he, h⟩ := opt_run h
  obtain ⟨ln, hln, h⟩ := natP_run h
  obtain ⟨cn, hcn, h⟩ := natP_run h
  obtain ⟨z, hz, h⟩ := opt_run h
  obtain ⟨by_, hby, h⟩ := opt_run h
  obtain ⟨hle, h⟩ := gd_run h
  have hle := of_decide_eq_true hle
  obtain ⟨rfl, rfl⟩ := ret_run (new_run h)
  obtain ⟨kl, rfl⟩ := natOf_ok hln hl
  obtain ⟨kc, rfl⟩ := natOf_ok hcn hc
  have hd := elemOfSlice_ok he
  obtain ⟨i, hi, rfl⟩ := run_bytes hby
  obtain ⟨i', hi', hzz⟩ := zero_get hz
  rw [hi] at hi'
  obtain rfl := Option.some.inj hi'
  have hzs := zero_len ok hz (n := i.size) (by simp [Env.size, hi])
  have hzc : z.cells.size = i.size := by rw [← hzs]; rfl
  obtain ⟨ρ', g, hk, hrun, wr⟩ := newRow_ok (ex := true) (z := true) r fr ((zero_lit ok hz (ρ := ρ)).cells.rep cn) (ok.ty _ _ hi)
  refine ⟨ρ', .slice (some ⟨w.heap.size, 0, none⟩) ln cn, _, g, by simp only; omega, ?_, ?_, wr⟩
  · have hwl : IntKind.i64.wrap (ln : Int) = ln := IntWalk.i64_in _ (by omega)
    have hwc : IntKind.i64.wrap (cn : Int) = cn := IntWalk.i64_in _ (by omega)
    have hb : ¬ ((i.bytes : Int) * (cn : Int) > 2 ^ 48) := by
      have := hle.2.1
      have : ((i.bytes * cn : Nat) : Int) ≤ 1099511627776 := by omega
      simp only [Int.natCast_mul] at this
      omega
    have hcond : ¬ ((decide ((cn : Int) < 0) || decide ((i.bytes : Int) * (cn : Int) > 2 ^ 48) || decide ((ln : Int) < 0) || decide ((ln : Int) > (cn : Int))) = true) := by
      simp only [Bool.or_eq_true, decide_eq_true_eq]
      rintro (((h | h) | h) | h) <;> first | omega | exact hb h
    simp only [Instr.makeSlice, Sem.run_bind, run_und ok hd, Result.andThen_ok, asInt, asIntOf, Sem.run_pure, info_ok ok hi, hwl, hwc]
    rw [if_neg hcond]
    simp only [Sem.run_bind, run_askRoom, Result.andThen_ok, run_size ok (show E.size e = some i.size by simp [Env.size, hi]), Int.toNat_natCast]
    by_cases h0 : cn * i.size = 0
    · rw [if_pos h0, h0]
      have : rep (cellsL z) cn = [] := List.eq_nil_of_length_eq_zero (by rw [rep_length, hzs]; exact h0)
      rw [this] at hrun ⊢
      have e0 : ∀ f : Nat → Value, Array.map f (Array.range 0) = ⟨[]⟩ := fun f => by simp
      simp only [Sem.run_bind, Sem.run_pure, Result.andThen_ok, e0, hrun]
    · rw [if_neg h0]
      simp only [Sem.run_bind, run_zero ok hz, Result.andThen_ok, Sem.run_pure, ← hzc, zeros_eq]
      rw [show (⟨rep z.cells.toList cn⟩ : Array Value) = ⟨rep (cellsL z) cn⟩ from rfl, hrun]
      simp only [Result.andThen_ok]
  · have := VR.slice_exact (ρ := ρ') (o := 0) hk hle.1
    simpa using this
end
end Go.Ev
