/-
  Books in plain words: what an entry changes; chains, step by step.
-/
import Derived.Test.YtiggefmckomilaaTraceMath2
namespace Go.Proofs.Ytiggefmckomilaa

/-- The entry is a standard of another name, or none. -/
def Fresh (e : Ent) (n : ByteArray) : Prop := match e with
  | .define s => s.name ≠ n
  | _ => True
theorem stdT_cons {e : Ent} {l : List Ent} {n : ByteArray} (h : Fresh e n) : stdT (e :: l) n = stdT l n := by
  cases e <;> first | rfl | (rw [stdT]; rw [if_neg h])
theorem chainT_cons {e : Ent} {l : List Ent} {n : ByteArray} (h : Fresh e n) : chainT (e :: l) n = chainT l n := by
  cases e <;> first | rfl | (rw [chainT]; rw [if_neg h])
theorem madeT_cons {e : Ent} {l : List Ent} {n : ByteArray} (h : Fresh e n) : madeT (e :: l) n = madeT l n := by
  cases e <;> first | rfl | (rw [madeT]; rw [if_neg h])
/-- A name that is there is not that of a new standard. -/
theorem fresh_of {e : Ent} {l : List Ent} {n : ByteArray} {s : Std} (hg : GoodB (e :: l)) (h : stdT l n = some s) : Fresh e n := by
  cases e with
  | define x =>
    have he : defineE l x = 0 := by have := hg.1; unfold okEnt at this; simpa using this
    obtain ⟨-, -, h3, -⟩ := defineE_zero he
    show x.name ≠ n
    intro e
    rw [e, h] at h3
    cases h3
  | _ => trivial
/-- The parent of a standard. -/
theorem par_of : ∀ {l : List Ent} {n : ByteArray} {s : Std}, GoodB l → stdT l n = some s → s.par ≠ ByteArray.empty → ∃ p, stdT l s.par = some p ∧ p.time ≤ s.time ∧ s.time ≤ p.stop
  | [], n, s, _, h, _ => by cases h
  | .radar m d :: l, n, s, hg, h, hp => par_of (l := l) hg.2 h hp
  | .test t :: l, n, s, hg, h, hp => par_of (l := l) hg.2 h hp
  | .turn m o :: l, n, s, hg, h, hp => par_of (l := l) hg.2 h hp
  | .define x :: l, n, s, hg, h, hp => by
    have he : defineE l x = 0 := by have := hg.1; unfold okEnt at this; simpa using this
    obtain ⟨-, -, h3, -, h5⟩ := defineE_zero he
    have key : ∀ p, stdT l s.par = some p → stdT (.define x :: l) s.par = some p := fun p h7 => by rw [stdT_cons (fresh_of hg h7)]; exact h7
    unfold stdT at h
    by_cases hx : x.name = n
    · rw [if_pos hx] at h
      obtain rfl := Option.some.inj h
      rcases h5 with h5 | ⟨-, -, p, h7, -, h9, h10, -⟩
      · exact absurd h5 hp
      · exact ⟨p, key p h7, h9, h10⟩
    · rw [if_neg hx] at h
      obtain ⟨p, h7, h9, h10⟩ := par_of (l := l) hg.2 h hp
      exact ⟨p, key p h7, h9, h10⟩
/-- A chain, step by step. -/
theorem chain_step : ∀ {l : List Ent} {n : ByteArray} {s : Std}, GoodB l → stdT l n = some s → chainT l n = n :: (if s.par = ByteArray.empty then [] else chainT l s.par)
  | [], n, s, _, h => by cases h
  | .radar m d :: l, n, s, hg, h => chain_step (l := l) hg.2 h
  | .test t :: l, n, s, hg, h => chain_step (l := l) hg.2 h
  | .turn m o :: l, n, s, hg, h => chain_step (l := l) hg.2 h
  | .define x :: l, n, s, hg, h => by
    have h0 := h
    unfold stdT at h
    by_cases hx : x.name = n
    · rw [if_pos hx] at h
      obtain rfl := Option.some.inj h
      rw [chainT, if_pos hx, hx]
      by_cases hp : x.par = ByteArray.empty
      · rw [if_pos hp, if_pos hp]
      · rw [if_neg hp, if_neg hp]
        have he : defineE l x = 0 := by have := hg.1; unfold okEnt at this; simpa using this
        obtain ⟨-, -, h3, -, h5⟩ := defineE_zero he
        rcases h5 with h5 | ⟨-, -, p, h7, -⟩
        · exact absurd h5 hp
        · rw [chainT_cons (fresh_of hg h7)]
    · rw [if_neg hx] at h
      rw [chainT_cons (show Fresh (.define x) n from hx), chain_step (l := l) hg.2 h]
      by_cases hp : s.par = ByteArray.empty
      · rw [if_pos hp, if_pos hp]
      · rw [if_neg hp, if_neg hp]
        obtain ⟨p, h7, -⟩ := par_of (l := l) hg.2 h hp
        rw [chainT_cons (fresh_of hg h7)]
/-- What a standard was worth when it was made. -/
theorem made_step : ∀ {l : List Ent} {n : ByteArray} {s : Std}, GoodB l → stdT l n = some s →
    (s.par = ByteArray.empty → madeT l n = (s.lo, s.hi)) ∧ ∀ p, stdT l s.par = some p → s.par ≠ ByteArray.empty → madeT l n = scaledS (valueT l p s.time) (s.lo, s.hi)
  | [], n, s, _, h => by cases h
  | .radar m d :: l, n, s, hg, h => made_step (l := l) hg.2 h
  | .test t :: l, n, s, hg, h => made_step (l := l) hg.2 h
  | .turn m o :: l, n, s, hg, h => made_step (l := l) hg.2 h
  | .define x :: l, n, s, hg, h => by
    unfold stdT at h
    by_cases hx : x.name = n
    · rw [if_pos hx] at h
      obtain rfl := Option.some.inj h
      refine ⟨fun hp => by rw [madeT, if_pos hx, if_pos hp], fun p h7 hp => ?_⟩
      have he : defineE l x = 0 := by have := hg.1; unfold okEnt at this; simpa using this
      obtain ⟨-, -, h3, -, h5⟩ := defineE_zero he
      rcases h5 with h5 | ⟨-, -, q, h8, -⟩
      · exact absurd h5 hp
      · rw [stdT_cons (fresh_of hg h8), h8] at h7
        obtain rfl := Option.some.inj h7
        rw [madeT, if_pos hx, if_neg hp, h8]
        simp only
        obtain ⟨-, hq, -⟩ := good_std hg.2 h8
        unfold valueT
        rw [hq, madeT_cons (fresh_of hg h8)]
    · rw [if_neg hx] at h
      obtain ⟨a, b⟩ := made_step (l := l) hg.2 h
      refine ⟨fun hp => by rw [madeT_cons (show Fresh (.define x) n from hx)]; exact a hp, fun p h7 hp => ?_⟩
      obtain ⟨q, h8, -⟩ := par_of (l := l) hg.2 h hp
      rw [stdT_cons (fresh_of hg h8), h8] at h7
      obtain rfl := Option.some.inj h7
      rw [madeT_cons (show Fresh (.define x) n from hx), b _ h8 hp]
      obtain ⟨-, hq, -⟩ := good_std hg.2 h8
      unfold valueT
      rw [hq, madeT_cons (fresh_of hg h8)]
end Go.Proofs.Ytiggefmckomilaa
