/-
  Sums of records: what Sum computes, on the cells of the readings; no program in sight.
-/
import Derived.Test.YtmglgahagbfbkaaRainMath
import Derived.Test.YtmglgahagbfbkaaDivMath
namespace Go.Proofs.Ytmglgahagbfbkaa

/-- Reading k is as stated. -/
def okR (z : Nat → Int) (k : Nat) : Bool := win (z (k * 3)) 0 4294967296 && ins (z (k * 3 + 1)) (z (k * 3 + 2)) 1000000
/-- The first error of the readings from k on. -/
def scanE (z : Nat → Int) (k : Nat) : Nat → Int
  | 0 => 0
  | m + 1 => if okR z k = false then 3 else if 0 < k ∧ z (k * 3) ≤ z ((k - 1) * 3) then 12 else scanE z (k + 1) m
def psL (z : Nat → Int) : Nat → Int
  | 0 => 0
  | k + 1 => psL z k + (z ((k + 1) * 3) - z (k * 3)) * min (z (k * 3 + 1)) (z ((k + 1) * 3 + 1))
def psH (z : Nat → Int) : Nat → Int
  | 0 => 0
  | k + 1 => psH z k + (z ((k + 1) * 3) - z (k * 3)) * max (z (k * 3 + 2)) (z ((k + 1) * 3 + 2))
def totL (z : Nat → Int) (n : Nat) (e : Int) : Int := psL z (n - 1) + (e - z ((n - 1) * 3)) * z ((n - 1) * 3 + 1)
def totH (z : Nat → Int) (n : Nat) (e : Int) : Int := psH z (n - 1) + (e - z ((n - 1) * 3)) * z ((n - 1) * 3 + 2)
def sumR (z : Nat → Int) (n : Nat) (e s : Int) : (Int × Int) × Int :=
  if n = 0 then ((0, 0), 18) else if scanE z 0 n ≠ 0 then ((0, 0), scanE z 0 n) else if (win e 0 4294967296 && win s 0 1000) = false then ((0, 0), 3) else if e < z ((n - 1) * 3) then ((0, 0), 17)
  else ((totL z n e * (1000 - s) / 360000, cdiv (totH z n e * (1000 + s)) 360000), 0)

theorem scan_step (z : Nat → Int) (n k : Nat) (h : k < n) : scanE z k (n - k) = if okR z k = false then 3 else if 0 < k ∧ z (k * 3) ≤ z ((k - 1) * 3) then 12 else scanE z (k + 1) (n - (k + 1)) := by
  rw [show n - k = (n - (k + 1)) + 1 by omega, scanE]
theorem scan_all (z : Nat → Int) : ∀ (m k : Nat), scanE z k m = 0 → ∀ j, k ≤ j → j < k + m → okR z j = true ∧ (0 < j → z ((j - 1) * 3) < z (j * 3))
  | 0, k, _, j, h1, h2 => by omega
  | m + 1, k, h, j, h1, h2 => by
    rw [scanE] at h
    split at h
    · cases h
    · rename_i hb
      split at h
      · cases h
      · rename_i ho
        rcases Nat.eq_or_lt_of_le h1 with rfl | h1
        · exact ⟨by simpa using hb, fun h0 => by omega⟩
        · exact scan_all z m (k + 1) h j h1 (by omega)
theorem okR_iff {z : Nat → Int} {k : Nat} : okR z k = true ↔ (0 ≤ z (k * 3) ∧ z (k * 3) ≤ 4294967296) ∧ 0 ≤ z (k * 3 + 1) ∧ z (k * 3 + 1) ≤ z (k * 3 + 2) ∧ z (k * 3 + 2) ≤ 1000000 := by
  simp [okR, win, ins]
theorem okR_no {z : Nat → Int} {k : Nat} (h : okR z k = false) : win (z (k * 3)) 0 4294967296 = false ∨ (win (z (k * 3)) 0 4294967296 = true ∧ ins (z (k * 3 + 1)) (z (k * 3 + 2)) 1000000 = false) := by
  unfold okR at h
  cases h1 : win (z (k * 3)) 0 4294967296
  · exact .inl rfl
  · rw [h1] at h; exact .inr ⟨rfl, by simpa using h⟩

/-- All readings are as stated, one after the other. -/
structure Good3 (z : Nat → Int) (n : Nat) : Prop where
  ok : ∀ k, k < n → okR z k = true
  up : ∀ k, k + 1 < n → z (k * 3) < z ((k + 1) * 3)
theorem good3_of {z : Nat → Int} {n : Nat} (h : scanE z 0 n = 0) : Good3 z n :=
  ⟨fun k hk => (scan_all z n 0 h k (by omega) (by omega)).1, fun k hk => (scan_all z n 0 h (k + 1) (by omega) (by omega)).2 (by omega)⟩

/-- What one piece adds. -/
theorem piece_bd {z : Nat → Int} {n k : Nat} (g : Good3 z n) (h : k + 1 < n) : 0 ≤ (z ((k + 1) * 3) - z (k * 3)) * min (z (k * 3 + 1)) (z ((k + 1) * 3 + 1)) ∧
    (z ((k + 1) * 3) - z (k * 3)) * min (z (k * 3 + 1)) (z ((k + 1) * 3 + 1)) ≤ (z ((k + 1) * 3) - z (k * 3)) * max (z (k * 3 + 2)) (z ((k + 1) * 3 + 2)) ∧
    (z ((k + 1) * 3) - z (k * 3)) * max (z (k * 3 + 2)) (z ((k + 1) * 3 + 2)) ≤ (z ((k + 1) * 3) - z (k * 3)) * 1000000 := by
  have h1 := okR_iff.1 (g.ok k (by omega))
  have h2 := okR_iff.1 (g.ok (k + 1) (by omega))
  have h3 := g.up k h
  exact ⟨Int.mul_nonneg (by omega) (by omega), Int.mul_le_mul_of_nonneg_left (by omega) (by omega), Int.mul_le_mul_of_nonneg_left (by omega) (by omega)⟩
theorem ps_bd {z : Nat → Int} {n : Nat} (g : Good3 z n) : ∀ k, k < n → 0 ≤ psL z k ∧ psL z k ≤ psH z k ∧ psH z k ≤ (z (k * 3) - z 0) * 1000000
  | 0, _ => by simp [psL, psH]
  | k + 1, h => by
    obtain ⟨h1, h2, h3⟩ := ps_bd g k (by omega)
    obtain ⟨p1, p2, p3⟩ := piece_bd g h
    simp only [psL, psH]
    have e : (z ((k + 1) * 3) - z 0) * 1000000 = (z (k * 3) - z 0) * 1000000 + (z ((k + 1) * 3) - z (k * 3)) * 1000000 := by rw [← Int.add_mul]; congr 1; omega
    omega
theorem last_bd {z : Nat → Int} {n : Nat} (g : Good3 z n) (hn : 0 < n) {e : Int} (he : z ((n - 1) * 3) ≤ e) : 0 ≤ (e - z ((n - 1) * 3)) * z ((n - 1) * 3 + 1) ∧
    (e - z ((n - 1) * 3)) * z ((n - 1) * 3 + 1) ≤ (e - z ((n - 1) * 3)) * z ((n - 1) * 3 + 2) ∧ (e - z ((n - 1) * 3)) * z ((n - 1) * 3 + 2) ≤ (e - z ((n - 1) * 3)) * 1000000 := by
  have h1 := okR_iff.1 (g.ok (n - 1) (by omega))
  exact ⟨Int.mul_nonneg (by omega) (by omega), Int.mul_le_mul_of_nonneg_left (by omega) (by omega), Int.mul_le_mul_of_nonneg_left (by omega) (by omega)⟩
/-- All sums on the way stay small: with a piece more and the last piece. -/
theorem way_bd {z : Nat → Int} {n k : Nat} (g : Good3 z n) (hn : 0 < n) {e : Int} (he : z ((n - 1) * 3) ≤ e) (he2 : e ≤ 4294967296) (hk : k < n) :
    0 ≤ (e - z ((n - 1) * 3)) * z ((n - 1) * 3 + 1) + psL z k ∧ (e - z ((n - 1) * 3)) * z ((n - 1) * 3 + 1) + psL z k ≤ (e - z ((n - 1) * 3)) * z ((n - 1) * 3 + 2) + psH z k ∧
      (e - z ((n - 1) * 3)) * z ((n - 1) * 3 + 2) + psH z k ≤ 4294967296000000 := by
  obtain ⟨h1, h2, h3⟩ := ps_bd g k hk
  obtain ⟨l1, l2, l3⟩ := last_bd g hn he
  have mono : ∀ j, k ≤ j → j < n → z (k * 3) ≤ z (j * 3) := by
    intro j
    induction j with
    | zero => intro h _; have : k = 0 := by omega
              subst this; exact Int.le_refl _
    | succ j ih =>
      intro h hj
      rcases Nat.eq_or_lt_of_le h with h | h
      · rw [h]; exact Int.le_refl _
      · have := ih (by omega) (by omega)
        have := g.up j hj
        omega
  have hm := mono (n - 1) (by omega) (by omega)
  have h0 := (okR_iff.1 (g.ok 0 hn)).1.1
  simp only [Nat.zero_mul] at h0
  have e1 : (z (k * 3) - z 0) * 1000000 + (e - z ((n - 1) * 3)) * 1000000 ≤ 4294967296000000 := by omega
  omega
theorem tot_bd {z : Nat → Int} {n : Nat} (g : Good3 z n) (hn : 0 < n) {e : Int} (he : z ((n - 1) * 3) ≤ e) (he2 : e ≤ 4294967296) : 0 ≤ totL z n e ∧ totL z n e ≤ totH z n e ∧ totH z n e ≤ 4294967296000000 := by
  have := way_bd g hn he he2 (k := n - 1) (by omega)
  unfold totL totH
  omega

theorem mono3 {z : Nat → Int} {n : Nat} (g : Good3 z n) : ∀ (j k : Nat), k ≤ j → j < n → z (k * 3) ≤ z (j * 3) := by
  intro j
  induction j with
  | zero =>
    intro k h _
    obtain rfl : k = 0 := by omega
    exact Int.le_refl _
  | succ j ih =>
    intro k h hj
    rcases Nat.eq_or_lt_of_le h with h | h
    · rw [h]; exact Int.le_refl _
    · have := ih k (by omega) (by omega)
      have := g.up j hj
      omega
/-- The sums so far, whatever the end. -/
theorem ps_le {z : Nat → Int} {n k : Nat} (g : Good3 z n) (hk : k < n) : 0 ≤ psL z k ∧ psL z k ≤ psH z k ∧ psH z k ≤ 4294967296000000 := by
  obtain ⟨h1, h2, h3⟩ := ps_bd g k hk
  have h4 := (okR_iff.1 (g.ok k hk)).1
  have h5 := (okR_iff.1 (g.ok 0 (by omega))).1
  simp only [Nat.zero_mul] at h5
  exact ⟨h1, h2, by omega⟩
theorem prod3 {a b c A B C : Int} (ha : 0 ≤ a) (hb : 0 ≤ b) (hc : 0 ≤ c) (hA : a ≤ A) (hB : b ≤ B) (hC : c ≤ C) : 0 ≤ a * b ∧ a * b ≤ A * B ∧ 0 ≤ a * b * c ∧ a * b * c ≤ A * B * C := by
  have h1 := Int.mul_nonneg ha hb
  have h2 := Int.mul_le_mul hA hB hb (by omega)
  exact ⟨h1, h2, Int.mul_nonneg h1 hc, Int.mul_le_mul h2 hC hc (by omega)⟩
theorem swap3 (a b c : Int) : a * b * c = c * a * b := by rw [Int.mul_comm (a * b) c, ← Int.mul_assoc]
end Go.Proofs.Ytmglgahagbfbkaa
