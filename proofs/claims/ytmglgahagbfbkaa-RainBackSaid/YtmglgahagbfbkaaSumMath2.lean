/-
  Sums of records, as the reference adds them up: each piece times the slack; no program in sight.
-/
import Derived.Test.YtmglgahagbfbkaaSumMath
namespace Go.Proofs.Ytmglgahagbfbkaa

theorem stepL (z : Nat → Int) (k : Nat) (s : Int) : psL z (k + 1) * s = psL z k * s + min (z (k * 3 + 1)) (z ((k + 1) * 3 + 1)) * s * (z ((k + 1) * 3) - z (k * 3)) := by
  rw [psL, Int.add_mul, swap3 (min (z (k * 3 + 1)) (z ((k + 1) * 3 + 1))) s]
theorem stepH (z : Nat → Int) (k : Nat) (s : Int) : psH z (k + 1) * s = psH z k * s + max (z (k * 3 + 2)) (z ((k + 1) * 3 + 2)) * s * (z ((k + 1) * 3) - z (k * 3)) := by
  rw [psH, Int.add_mul, swap3 (max (z (k * 3 + 2)) (z ((k + 1) * 3 + 2))) s]
theorem lastL (z : Nat → Int) (m : Nat) (e s : Int) : totL z (m + 1) e * s = psL z m * s + z (m * 3 + 1) * s * (e - z (m * 3)) := by
  unfold totL
  rw [Nat.add_sub_cancel, Int.add_mul, swap3 (z (m * 3 + 1)) s]
theorem lastH (z : Nat → Int) (m : Nat) (e s : Int) : totH z (m + 1) e * s = psH z m * s + z (m * 3 + 2) * s * (e - z (m * 3)) := by
  unfold totH
  rw [Nat.add_sub_cancel, Int.add_mul, swap3 (z (m * 3 + 2)) s]
theorem prod_bd {a b A B : Int} (ha : 0 ≤ a) (hb : 0 ≤ b) (hA : a ≤ A) (hB : b ≤ B) : 0 ≤ a * b ∧ a * b ≤ A * B := ⟨Int.mul_nonneg ha hb, Int.mul_le_mul hA hB hb (by omega)⟩

/-- What a round needs to know of the sums. -/
structure SumBd (L H : Int) : Prop where
  l0 : 0 ≤ L
  l1 : L ≤ 4294967296000000000
  h0 : 0 ≤ H
  h1 : H ≤ 8589934592000000000
theorem sumBd_of {P Q s : Int} (h1 : 0 ≤ P) (h2 : P ≤ Q) (h3 : Q ≤ 4294967296000000) (hs : 0 ≤ s) (hs2 : s ≤ 1000) : SumBd (P * (1000 - s)) (Q * (1000 + s)) := by
  have a := prod_bd (a := P) (b := 1000 - s) (A := 4294967296000000) (B := 1000) h1 (by omega) (by omega) (by omega)
  have b := prod_bd (a := Q) (b := 1000 + s) (A := 4294967296000000) (B := 2000) (by omega) (by omega) (by omega) (by omega)
  exact ⟨a.1, by omega, b.1, by omega⟩
structure RateBd (l h d s : Int) : Prop where
  a0 : 0 ≤ l * (1000 - s)
  a1 : l * (1000 - s) ≤ 1000000000
  b0 : 0 ≤ l * (1000 - s) * d
  b1 : l * (1000 - s) * d ≤ 4294967296000000000
  c0 : 0 ≤ h * (1000 + s)
  c1 : h * (1000 + s) ≤ 2000000000
  d0 : 0 ≤ h * (1000 + s) * d
  d1 : h * (1000 + s) * d ≤ 8589934592000000000
theorem rateBd_of {l h d s : Int} (h1 : 0 ≤ l) (h2 : l ≤ 1000000) (h3 : 0 ≤ h) (h4 : h ≤ 1000000) (hd : 0 ≤ d) (hd2 : d ≤ 4294967296) (hs : 0 ≤ s) (hs2 : s ≤ 1000) : RateBd l h d s := by
  have a := prod3 (a := l) (b := 1000 - s) (c := d) (A := 1000000) (B := 1000) (C := 4294967296) h1 (by omega) hd h2 (by omega) hd2
  have b := prod3 (a := h) (b := 1000 + s) (c := d) (A := 1000000) (B := 2000) (C := 4294967296) h3 (by omega) hd h4 (by omega) hd2
  exact ⟨a.1, by omega, a.2.2.1, by omega, b.1, by omega, b.2.2.1, by omega⟩
theorem min_if (a b : Int) : min a b = if b < a then b else a := by
  rw [Int.min_def]
  split <;> split <;> omega
theorem max_if (a b : Int) : max a b = if a < b then b else a := by
  rw [Int.max_def]
  split <;> split <;> omega

/-- A round that is not the last one. -/
theorem round_mid {z : Nat → Int} {n k : Nat} {s : Int} (g : Good3 z n) (h : k + 1 < n) (hs : 0 ≤ s) (hs2 : s ≤ 1000) : ∃ mn mx : Int,
    (if z ((k + 1) * 3 + 1) < z (k * 3 + 1) then z ((k + 1) * 3 + 1) else z (k * 3 + 1)) = mn ∧ (if z (k * 3 + 2) < z ((k + 1) * 3 + 2) then z ((k + 1) * 3 + 2) else z (k * 3 + 2)) = mx ∧
    psL z (k + 1) * (1000 - s) = psL z k * (1000 - s) + mn * (1000 - s) * (z ((k + 1) * 3) - z (k * 3)) ∧ psH z (k + 1) * (1000 + s) = psH z k * (1000 + s) + mx * (1000 + s) * (z ((k + 1) * 3) - z (k * 3)) ∧
    SumBd (psL z k * (1000 - s)) (psH z k * (1000 + s)) ∧ SumBd (psL z k * (1000 - s) + mn * (1000 - s) * (z ((k + 1) * 3) - z (k * 3))) (psH z k * (1000 + s) + mx * (1000 + s) * (z ((k + 1) * 3) - z (k * 3))) ∧
    RateBd mn mx (z ((k + 1) * 3) - z (k * 3)) s ∧ 0 ≤ z (k * 3) ∧ z (k * 3) ≤ z ((k + 1) * 3) ∧ z ((k + 1) * 3) ≤ 4294967296 := by
  have p0 := ps_le g (k := k) (by omega)
  have p1 := ps_le g h
  have oka := okR_iff.1 (g.ok k (by omega))
  have okb := okR_iff.1 (g.ok (k + 1) h)
  have hup := g.up k h
  refine ⟨_, _, rfl, rfl, ?_, ?_, sumBd_of p0.1 p0.2.1 p0.2.2 hs hs2, ?_, ?_, by omega, by omega, by omega⟩
  · rw [stepL, min_if]
  · rw [stepH, max_if]
  · rw [← min_if, ← max_if, ← stepL, ← stepH]
    exact sumBd_of p1.1 p1.2.1 p1.2.2 hs hs2
  · rw [← min_if, ← max_if]
    exact rateBd_of (by omega) (by omega) (by omega) (by omega) (by omega) (by omega) hs hs2
/-- The last round. -/
theorem round_last {z : Nat → Int} {m : Nat} {e s : Int} (g : Good3 z (m + 1)) (he : z (m * 3) ≤ e) (he2 : e ≤ 4294967296) (hs : 0 ≤ s) (hs2 : s ≤ 1000) :
    totL z (m + 1) e * (1000 - s) = psL z m * (1000 - s) + z (m * 3 + 1) * (1000 - s) * (e - z (m * 3)) ∧ totH z (m + 1) e * (1000 + s) = psH z m * (1000 + s) + z (m * 3 + 2) * (1000 + s) * (e - z (m * 3)) ∧
    SumBd (psL z m * (1000 - s)) (psH z m * (1000 + s)) ∧ SumBd (psL z m * (1000 - s) + z (m * 3 + 1) * (1000 - s) * (e - z (m * 3))) (psH z m * (1000 + s) + z (m * 3 + 2) * (1000 + s) * (e - z (m * 3))) ∧
    RateBd (z (m * 3 + 1)) (z (m * 3 + 2)) (e - z (m * 3)) s ∧ 0 ≤ z (m * 3) := by
  have p0 := ps_le g (k := m) (by omega)
  have oka := okR_iff.1 (g.ok m (by omega))
  have t := tot_bd g (by omega) (e := e) (by rw [Nat.add_sub_cancel]; exact he) he2
  refine ⟨lastL z m e _, lastH z m e _, sumBd_of p0.1 p0.2.1 p0.2.2 hs hs2, ?_, rateBd_of (by omega) (by omega) (by omega) (by omega) (by omega) (by omega) hs hs2, by omega⟩
  rw [← lastL, ← lastH]
  exact sumBd_of t.1 t.2.1 t.2.2 hs hs2
end Go.Proofs.Ytmglgahagbfbkaa
