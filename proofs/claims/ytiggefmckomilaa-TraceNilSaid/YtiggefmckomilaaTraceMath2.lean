/-
  Books in plain words: bounds.
-/
import Derived.Test.YtiggefmckomilaaTraceMath
namespace Go.Proofs.Ytiggefmckomilaa

theorem upD_bd {a b : Int} (ha : 0 ≤ a) (hb : 1 ≤ b) : 0 ≤ upD a b ∧ upD a b ≤ a ∧ a ≤ b * upD a b ∧ b * upD a b ≤ a + b - 1 := by
  unfold upD
  have h1 := Int.mul_ediv_add_emod (a + b - 1) b
  have h2 := Int.emod_nonneg (a + b - 1) (show b ≠ 0 by omega)
  have h3 := Int.emod_lt_of_pos (a + b - 1) (show 0 < b by omega)
  have h4 : 0 ≤ (a + b - 1) / b := Int.ediv_nonneg (by omega) (by omega)
  generalize (a + b - 1) / b = q at *
  refine ⟨h4, ?_, by omega, by omega⟩
  by_cases hq : q = 0
  · omega
  · have h5 : b * q + b * 0 ≤ a + b - 1 := by rw [Int.mul_zero]; omega
    have h6 : q - 1 ≤ b * (q - 1) := by
      have := Int.mul_le_mul_of_nonneg_right hb (show 0 ≤ q - 1 by omega)
      omega
    rw [Int.mul_sub] at h6
    omega
theorem upD_mono {a a' b : Int} (hb : 1 ≤ b) (h : a ≤ a') : upD a b ≤ upD a' b := by
  unfold upD
  exact Int.ediv_le_ediv (by omega) (by omega)
theorem div_bd {a b : Int} (ha : 0 ≤ a) (hb : 1 ≤ b) : 0 ≤ a / b ∧ a / b ≤ a ∧ b * (a / b) ≤ a := by
  have h4 : 0 ≤ a / b := Int.ediv_nonneg ha (by omega)
  refine ⟨h4, ?_, Int.mul_ediv_self_le (by omega)⟩
  exact Int.ediv_le_self _ ha
theorem mul_bdT {d m D M : Int} (h0 : 0 ≤ d) (h1 : d ≤ D) (h2 : 0 ≤ m) (h3 : m ≤ M) : 0 ≤ d * m ∧ d * m ≤ D * M :=
  ⟨Int.mul_nonneg h0 h2, Int.mul_le_mul h1 h3 h2 (by omega)⟩
/-- What a span is widened by. -/
theorem wide_bd {d f t : Int} (h0 : 0 ≤ d) (h1 : d ≤ 1000000) (f0 : 0 ≤ f) (f1 : f ≤ 4294967296) (t0 : 0 ≤ t) (t1 : t ≤ 4294967296) :
    0 ≤ d * max (t - f) (f - t) ∧ d * max (t - f) (f - t) ≤ 4294967296000000 ∧ 0 ≤ upD (d * max (t - f) (f - t)) 86400 ∧ upD (d * max (t - f) (f - t)) 86400 ≤ 49710269631 := by
  obtain ⟨a, b⟩ := mul_bdT (m := max (t - f) (f - t)) (M := 4294967296) h0 h1 (by omega) (by omega)
  obtain ⟨c, -, -, e⟩ := upD_bd (b := 86400) a (by omega)
  generalize d * max (t - f) (f - t) = p at *
  exact ⟨a, by omega, c, by omega⟩
theorem widenS_bd {s : Int × Int} {d f t : Int} (h0 : 0 ≤ d) (h1 : d ≤ 1000000) (f0 : 0 ≤ f) (f1 : f ≤ 4294967296) (t0 : 0 ≤ t) (t1 : t ≤ 4294967296) (s1 : s.1 ≤ s.2) (s2 : 1 ≤ s.2) :
    1 ≤ (widenS s d f t).1 ∧ (widenS s d f t).1 ≤ (widenS s d f t).2 ∧ (widenS s d f t).2 ≤ s.2 + 49710269631 := by
  obtain ⟨-, -, c, e⟩ := wide_bd h0 h1 f0 f1 t0 t1
  unfold widenS
  simp only
  omega
theorem scaledS_bd {s t : Int × Int} (s0 : 1 ≤ s.1) (s1 : s.1 ≤ s.2) (s2 : s.2 ≤ 100000000000) (t0 : 1 ≤ t.1) (t1 : t.1 ≤ t.2) (t2 : t.2 ≤ 1000000) :
    1 ≤ (scaledS s t).1 ∧ (scaledS s t).1 ≤ (scaledS s t).2 ∧ (scaledS s t).2 ≤ 100000000000000000 ∧ 0 ≤ s.1 * t.1 ∧ s.1 * t.1 ≤ s.2 * t.2 ∧ s.2 * t.2 ≤ 100000000000000000 := by
  obtain ⟨a, b⟩ := mul_bdT (d := s.1) (m := t.1) (D := s.2) (M := t.2) (by omega) s1 (by omega) t1
  obtain ⟨c, e⟩ := mul_bdT (d := s.2) (m := t.2) (D := 100000000000) (M := 1000000) (by omega) s2 (by omega) t2
  have one : 1 ≤ s.2 * t.2 := by
    have := Int.mul_le_mul (show (1 : Int) ≤ s.2 by omega) (show (1 : Int) ≤ t.2 by omega) (by omega) (by omega)
    omega
  unfold scaledS
  simp only
  generalize s.1 * t.1 = p at *
  generalize s.2 * t.2 = q at *
  obtain ⟨u1, u2, u3, u4⟩ := upD_bd (a := q) (b := 1000) c (by omega)
  have v1 := Int.ediv_le_ediv (c := 1000) (by omega) b
  have v2 : q / 1000 ≤ upD q 1000 := by unfold upD; exact Int.ediv_le_ediv (by omega) (by omega)
  have v3 : 1 ≤ upD q 1000 := by omega
  refine ⟨by omega, by omega, by omega, a, b, by omega⟩

/-- A standard as it is kept. -/
structure StdOk (s : Std) : Prop where
  name : nameB s.name = true
  lo : 1 ≤ s.lo
  le : s.lo ≤ s.hi
  hi : s.hi ≤ 1000000
  t0 : 0 ≤ s.time
  t1 : s.time ≤ s.stop
  t2 : s.stop ≤ 4294967296
  d0 : 0 ≤ s.drift
  d1 : s.drift ≤ 1000000
def SpanOk (m : Int × Int) : Prop := 1 ≤ m.1 ∧ m.1 ≤ m.2 ∧ m.2 ≤ 1000000000

theorem inS_iff {a b lo hi : Int} : inS a b lo hi = true ↔ lo ≤ a ∧ a ≤ b ∧ b ≤ hi := by simp [inS]
theorem inR_iff {n lo hi : Int} : inR n lo hi = true ↔ lo ≤ n ∧ n ≤ hi := by simp [inR]
/-- What an accepted standard is. -/
theorem defineE_zero {l : List Ent} {s : Std} (h : defineE l s = 0) : l.length < 2000 ∧ StdOk s ∧ stdT l s.name = none ∧ (stdsT l).length < 64 ∧
    (s.par = ByteArray.empty ∨ s.par ≠ ByteArray.empty ∧ s.hi ≤ 100000 ∧ ∃ p, stdT l s.par = some p ∧ voidT l s.par = false ∧ p.time ≤ s.time ∧ s.time ≤ p.stop ∧ (scaledS (valueT l p s.time) (s.lo, s.hi)).2 ≤ 1000000000) := by
  unfold defineE at h
  obtain ⟨M, hM⟩ : ∃ M : Int, (if s.par = ByteArray.empty then 1000000 else 100000) = M := ⟨_, rfl⟩
  rw [hM] at h
  split at h
  · exact absurd h (by omega)
  rename_i h1
  split at h
  · exact absurd h (by omega)
  rename_i h2
  split at h
  · exact absurd h (by omega)
  rename_i h3
  split at h
  · exact absurd h (by omega)
  rename_i h4
  split at h
  · exact absurd h (by omega)
  rename_i h5
  rw [Bool.not_eq_false, Bool.and_eq_true, Bool.and_eq_true, Bool.and_eq_true] at h5
  obtain ⟨⟨⟨k1, k2⟩, k3⟩, k4⟩ := h5
  obtain ⟨a1, a2, a3⟩ := inS_iff.1 k1
  obtain ⟨b1, b2⟩ := inR_iff.1 k2
  have k3' := of_decide_eq_true k3
  obtain ⟨c1, c2⟩ := inR_iff.1 k4
  have hn : stdT l s.name = none := by
    cases hs : stdT l s.name with
    | none => rfl
    | some x => exact absurd (by rw [hs]; rfl) h3
  have hi' : s.hi ≤ 1000000 := by rw [← hM] at a3; split at a3 <;> omega
  refine ⟨by omega, ⟨by simpa using h2, a1, a2, hi', b1, b2, k3', c1, c2⟩, hn, by omega, ?_⟩
  by_cases hp : s.par = ByteArray.empty
  · exact .inl hp
  · rw [if_neg hp] at h hM
    right
    refine ⟨hp, by omega, ?_⟩
    cases hs : stdT l s.par with
    | none => rw [hs] at h; exact absurd h (by simp)
    | some p =>
      rw [hs] at h
      simp only at h
      split at h
      · exact absurd h (by omega)
      rename_i h6
      split at h
      · exact absurd h (by omega)
      rename_i h7
      simp only [Bool.or_eq_true, not_or, Bool.not_eq_true, Bool.not_eq_false'] at h6
      obtain ⟨d1, d2⟩ := inR_iff.1 h6.2
      exact ⟨p, rfl, h6.1, d1, d2, by omega⟩

/-- What is known of each standard of a book. -/
theorem good_std : ∀ {l : List Ent} {n : ByteArray} {s : Std}, GoodB l → stdT l n = some s → StdOk s ∧ s.name = n ∧ SpanOk (madeT l n)
  | [], n, s, _, h => by cases h
  | .radar m d :: l, n, s, hg, h => good_std (l := l) hg.2 h
  | .test t :: l, n, s, hg, h => good_std (l := l) hg.2 h
  | .turn m o :: l, n, s, hg, h => good_std (l := l) hg.2 h
  | .define x :: l, n, s, hg, h => by
    unfold stdT at h
    unfold madeT
    by_cases hx : x.name = n
    · rw [if_pos hx] at h ⊢
      obtain rfl := Option.some.inj h
      have he : defineE l x = 0 := by have := hg.1; unfold okEnt at this; simpa using this
      obtain ⟨h1, h2, h3, h4, h5⟩ := defineE_zero he
      refine ⟨h2, hx, ?_⟩
      rcases h5 with h5 | ⟨h5, h6, p, h7, h8, h9, h10, h11⟩
      · rw [if_pos h5]; exact ⟨h2.lo, h2.le, by have := h2.hi; simp only; omega⟩
      · rw [if_neg h5, h7]
        simp only
        obtain ⟨q1, q2, q3⟩ := good_std (l := l) hg.2 h7
        obtain ⟨m1, m2, m3⟩ := q3
        have hv := widenS_bd (s := madeT l x.par) (d := p.drift) (f := p.time) (t := x.time) q1.d0 q1.d1 q1.t0 (by have := q1.t1; have := q1.t2; omega) h2.t0 (by have := h2.t1; have := h2.t2; omega) m2 (by omega)
        have hs := scaledS_bd (s := widenS (madeT l x.par) p.drift p.time x.time) (t := (x.lo, x.hi)) hv.1 hv.2.1 (by omega) h2.lo h2.le h2.hi
        unfold valueT at h11
        rw [q2] at h11
        exact ⟨hs.1, hs.2.1, h11⟩
    · rw [if_neg hx] at h ⊢
      exact good_std (l := l) hg.2 h
end Go.Proofs.Ytiggefmckomilaa
