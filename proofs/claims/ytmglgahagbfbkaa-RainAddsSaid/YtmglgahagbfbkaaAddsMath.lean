/-
  Sums of records, cut in two, with more slack, with one reading more: no program in sight.
-/
import Derived.Test.YtmglgahagbfbkaaSumMath
namespace Go.Proofs.Ytmglgahagbfbkaa

theorem scanE_same {z z' : Nat → Int} : ∀ (m k : Nat), (∀ j, j < (k + m) * 3 → z j = z' j) → scanE z k m = scanE z' k m
  | 0, _, _ => rfl
  | m + 1, k, h => by
    have e0 := h (k * 3) (by omega)
    have e1 := h (k * 3 + 1) (by omega)
    have e2 := h (k * 3 + 2) (by omega)
    have e3 := h ((k - 1) * 3) (by omega)
    rw [scanE, scanE, scanE_same m (k + 1) (fun j hj => h j (by omega))]
    unfold okR
    rw [e0, e1, e2, e3]
theorem ps_same {z z' : Nat → Int} : ∀ (k : Nat), (∀ j, j < (k + 1) * 3 → z j = z' j) → psL z k = psL z' k ∧ psH z k = psH z' k
  | 0, _ => ⟨rfl, rfl⟩
  | k + 1, h => by
    obtain ⟨i1, i2⟩ := ps_same k (fun j hj => h j (by omega))
    have e0 := h (k * 3) (by omega)
    have e1 := h (k * 3 + 1) (by omega)
    have e2 := h (k * 3 + 2) (by omega)
    have f0 := h ((k + 1) * 3) (by omega)
    have f1 := h ((k + 1) * 3 + 1) (by omega)
    have f2 := h ((k + 1) * 3 + 2) (by omega)
    unfold psL psH
    rw [i1, i2, e0, e1, e2, f0, f1, f2]
    exact ⟨rfl, rfl⟩
theorem sumR_same {z z' : Nat → Int} {n : Nat} (e s : Int) (h : ∀ j, j < n * 3 → z j = z' j) : sumR z n e s = sumR z' n e s := by
  by_cases h0 : n = 0
  · subst h0; rfl
  · have e1 := scanE_same n 0 (z := z) (z' := z') (fun j hj => h j (by omega))
    have e2 := ps_same (n - 1) (z := z) (z' := z') (fun j hj => h j (by omega))
    have f0 := h ((n - 1) * 3) (by omega)
    have f1 := h ((n - 1) * 3 + 1) (by omega)
    have f2 := h ((n - 1) * 3 + 2) (by omega)
    unfold sumR totL totH
    rw [e1, e2.1, e2.2, f0, f1, f2]
theorem scan_good {z : Nat → Int} {n : Nat} (g : Good3 z n) : ∀ (m k : Nat), k + m ≤ n → scanE z k m = 0
  | 0, _, _ => rfl
  | m + 1, k, h => by
    rw [scanE, if_neg (by simp [g.ok k (by omega)]), scan_good g m (k + 1) (by omega)]
    split
    · rename_i hh
      have := g.up (k - 1) (by omega)
      rw [show k - 1 + 1 = k by omega] at this
      omega
    · rfl
theorem sumR_good {z : Nat → Int} {n : Nat} {e s : Int} (g : Good3 z n) (hn : 0 < n) (h1 : 0 ≤ e) (h2 : e ≤ 4294967296) (h3 : 0 ≤ s) (h4 : s ≤ 1000) (h5 : z ((n - 1) * 3) ≤ e) :
    sumR z n e s = ((totL z n e * (1000 - s) / 360000, cdiv (totH z n e * (1000 + s)) 360000), 0) := by
  unfold sumR
  rw [if_neg (by omega), if_neg (by rw [scan_good g n 0 (by omega)]; simp), if_neg (by simp [win]; omega), if_neg (by omega)]
theorem sumR_inv {z : Nat → Int} {n : Nat} {e s : Int} (h : (sumR z n e s).2 = 0) : 0 < n ∧ Good3 z n ∧ 0 ≤ e ∧ e ≤ 4294967296 ∧ 0 ≤ s ∧ s ≤ 1000 ∧ z ((n - 1) * 3) ≤ e := by
  unfold sumR at h
  split at h
  · simp at h
  · split at h
    · rename_i h1 h2; exact absurd h h2
    · split at h
      · simp at h
      · split at h
        · simp at h
        · rename_i h1 h2 h3 h4
          simp [win] at h3
          have := good3_of (z := z) (n := n) (by omega)
          exact ⟨by omega, this, by omega, by omega, by omega, by omega, by omega⟩
/-- The readings from k on. -/
theorem ps_tail (z : Nat → Int) (k : Nat) : ∀ (m : Nat), psL (fun j => z (k * 3 + j)) m = psL z (k + m) - psL z k ∧ psH (fun j => z (k * 3 + j)) m = psH z (k + m) - psH z k
  | 0 => by simp [psL, psH]
  | m + 1 => by
    obtain ⟨i1, i2⟩ := ps_tail z k m
    rw [show k + (m + 1) = (k + m) + 1 by omega]
    have fL : psL (fun j => z (k * 3 + j)) (m + 1) = psL (fun j => z (k * 3 + j)) m + (z (k * 3 + (m + 1) * 3) - z (k * 3 + m * 3)) * min (z (k * 3 + (m * 3 + 1))) (z (k * 3 + ((m + 1) * 3 + 1))) := rfl
    have fH : psH (fun j => z (k * 3 + j)) (m + 1) = psH (fun j => z (k * 3 + j)) m + (z (k * 3 + (m + 1) * 3) - z (k * 3 + m * 3)) * max (z (k * 3 + (m * 3 + 2))) (z (k * 3 + ((m + 1) * 3 + 2))) := rfl
    have eL : psL z (k + m + 1) = psL z (k + m) + (z ((k + m + 1) * 3) - z ((k + m) * 3)) * min (z ((k + m) * 3 + 1)) (z ((k + m + 1) * 3 + 1)) := rfl
    have eH : psH z (k + m + 1) = psH z (k + m) + (z ((k + m + 1) * 3) - z ((k + m) * 3)) * max (z ((k + m) * 3 + 2)) (z ((k + m + 1) * 3 + 2)) := rfl
    rw [fL, fH, eL, eH, i1, i2, show k * 3 + (m + 1) * 3 = (k + m + 1) * 3 by omega, show k * 3 + m * 3 = (k + m) * 3 by omega, show k * 3 + (m * 3 + 1) = (k + m) * 3 + 1 by omega, show k * 3 + (m * 3 + 2) = (k + m) * 3 + 2 by omega,
      show k * 3 + ((m + 1) * 3 + 1) = (k + m + 1) * 3 + 1 by omega, show k * 3 + ((m + 1) * 3 + 2) = (k + m + 1) * 3 + 2 by omega]
    constructor <;> omega
theorem good_tail {z : Nat → Int} {n k : Nat} (g : Good3 z n) (_hk : k < n) : Good3 (fun j => z (k * 3 + j)) (n - k) := by
  refine ⟨fun i hi => ?_, fun i hi => ?_⟩
  · have := g.ok (k + i) (by omega)
    unfold okR at this ⊢
    rw [show (k + i) * 3 = k * 3 + i * 3 by omega] at this
    simpa [Nat.add_assoc] using this
  · have := g.up (k + i) (by omega)
    rw [show (k + i + 1) * 3 = k * 3 + (i + 1) * 3 by omega, show (k + i) * 3 = k * 3 + i * 3 by omega] at this
    exact this
theorem good_head {z : Nat → Int} {n k : Nat} (g : Good3 z n) (hk : k < n) : Good3 z (k + 1) := ⟨fun i hi => g.ok i (by omega), fun i hi => g.up i (by omega)⟩
theorem tot_head (z : Nat → Int) (k : Nat) : totL z (k + 1) (z (k * 3)) = psL z k ∧ totH z (k + 1) (z (k * 3)) = psH z k := by
  unfold totL totH
  rw [Nat.add_sub_cancel]
  simp
theorem tot_tail (z : Nat → Int) {n k : Nat} (hk : k < n) (e : Int) : totL (fun j => z (k * 3 + j)) (n - k) e = totL z n e - psL z k ∧ totH (fun j => z (k * 3 + j)) (n - k) e = totH z n e - psH z k := by
  obtain ⟨i1, i2⟩ := ps_tail z k (n - k - 1)
  unfold totL totH
  dsimp only
  rw [i1, i2, show k + (n - k - 1) = n - 1 by omega, show k * 3 + (n - k - 1) * 3 = (n - 1) * 3 by omega, show k * 3 + ((n - k - 1) * 3 + 1) = (n - 1) * 3 + 1 by omega, show k * 3 + ((n - k - 1) * 3 + 2) = (n - 1) * 3 + 2 by omega]
  constructor <;> omega
theorem cut_sum {z : Nat → Int} {n k : Nat} {e s : Int} (g : Good3 z n) (hk : k < n) (h3 : 0 ≤ s) (h4 : s ≤ 1000) (h1 : 0 ≤ e) (h2 : e ≤ 4294967296) (h5 : z ((n - 1) * 3) ≤ e) :
    ∃ al ah bl bh tl th : Int, sumR z n e s = ((tl, th), 0) ∧ sumR z (k + 1) (z (k * 3)) s = ((al, ah), 0) ∧ sumR (fun j => z (k * 3 + j)) (n - k) e s = ((bl, bh), 0) ∧
      0 ≤ al ∧ al ≤ ah ∧ 0 ≤ bl ∧ bl ≤ bh ∧ tl ≤ th ∧ al + bl ≤ tl ∧ th ≤ ah + bh ∧ tl - al - bl ≤ 2 ∧ ah + bh - th ≤ 2 ∧ ah ≤ 100000000000000000 ∧ bh ≤ 100000000000000000 ∧ th ≤ 100000000000000000 := by
  have o := (okR_iff.1 (g.ok k hk)).1
  have hm := mono3 g (n - 1) k (by omega) (by omega)
  have ga := good_head g hk
  have gb := good_tail g hk
  have e1 : k * 3 + (n - k - 1) * 3 = (n - 1) * 3 := by omega
  refine ⟨_, _, _, _, _, _, sumR_good g (by omega) h1 h2 h3 h4 h5, sumR_good ga (by omega) o.1 o.2 h3 h4 (by rw [Nat.add_sub_cancel]; exact Int.le_refl _), sumR_good gb (by omega) h1 h2 h3 h4 (by rw [e1]; exact h5), ?_⟩
  obtain ⟨t1, t2⟩ := tot_head z k
  obtain ⟨t3, t4⟩ := tot_tail z hk e
  rw [t1, t2, t3, t4]
  have b1 := tot_bd ga (by omega) (e := z (k * 3)) (by rw [Nat.add_sub_cancel]; exact Int.le_refl _) o.2
  have b2 := tot_bd gb (by omega) (e := e) (by rw [e1]; exact h5) h2
  rw [t1, t2] at b1
  rw [t3, t4] at b2
  generalize psL z k = P at *
  generalize psH z k = Q at *
  obtain ⟨R, hR⟩ : ∃ R, totL z n e - P = R := ⟨_, rfl⟩
  obtain ⟨S, hS⟩ : ∃ S, totH z n e - Q = S := ⟨_, rfl⟩
  rw [show totL z n e = P + R by omega, show totH z n e = Q + S by omega]
  rw [show P + R - P = R by omega, show Q + S - Q = S by omega]
  rw [hR, hS] at b2
  have m1 := Int.mul_nonneg b1.1 (show 0 ≤ 1000 - s by omega)
  have m2 := Int.mul_nonneg b2.1 (show 0 ≤ 1000 - s by omega)
  have m3 : P * (1000 - s) ≤ Q * (1000 + s) := Int.mul_le_mul b1.2.1 (by omega) (by omega) (by omega)
  have m4 : R * (1000 - s) ≤ S * (1000 + s) := Int.mul_le_mul b2.2.1 (by omega) (by omega) (by omega)
  have m5 : Q * (1000 + s) ≤ 4294967296000000 * 2000 := Int.mul_le_mul b1.2.2 (by omega) (by omega) (by omega)
  have m6 : S * (1000 + s) ≤ 4294967296000000 * 2000 := Int.mul_le_mul b2.2.2 (by omega) (by omega) (by omega)
  rw [Int.add_mul, Int.add_mul]
  simp only [cdiv_eq (show (0 : Int) < 360000 by omega)]
  generalize P * (1000 - s) = X at *
  generalize Q * (1000 + s) = Y at *
  generalize R * (1000 - s) = U at *
  generalize S * (1000 + s) = V at *
  omega
/-- With more slack the sum is wider. -/
theorem more_slack {z : Nat → Int} {n : Nat} {e s s' : Int} (g : Good3 z n) (hn : 0 < n) (h3 : 0 ≤ s) (hs : s ≤ s') (h4 : s' ≤ 1000) (h1 : 0 ≤ e) (h2 : e ≤ 4294967296) (h5 : z ((n - 1) * 3) ≤ e) :
    ∃ tl th cl ch : Int, sumR z n e s = ((tl, th), 0) ∧ sumR z n e s' = ((cl, ch), 0) ∧ tl ≤ th ∧ cl ≤ tl ∧ th ≤ ch := by
  refine ⟨_, _, _, _, sumR_good g hn h1 h2 h3 (by omega) h5, sumR_good g hn h1 h2 (by omega) h4 h5, ?_⟩
  have b1 := tot_bd g hn h5 h2
  generalize totL z n e = P at *
  generalize totH z n e = Q at *
  have m3 : P * (1000 - s) ≤ Q * (1000 + s) := Int.mul_le_mul b1.2.1 (by omega) (by omega) (by omega)
  have m4 : P * (1000 - s') ≤ P * (1000 - s) := Int.mul_le_mul_of_nonneg_left (by omega) b1.1
  have m5 : Q * (1000 + s) ≤ Q * (1000 + s') := Int.mul_le_mul_of_nonneg_left (by omega) (by omega)
  have m6 := Int.mul_nonneg b1.1 (show 0 ≤ 1000 - s' by omega)
  simp only [cdiv_eq (show (0 : Int) < 360000 by omega)]
  generalize P * (1000 - s) = X at *
  generalize Q * (1000 + s) = Y at *
  generalize P * (1000 - s') = U at *
  generalize Q * (1000 + s') = V at *
  omega
/-- z' has one reading more than z, behind reading k. -/
structure Ins (z z' : Nat → Int) (k : Nat) (t lo hi : Int) : Prop where
  head : ∀ j, j < (k + 1) * 3 → z' j = z j
  t : z' ((k + 1) * 3) = t
  lo : z' ((k + 1) * 3 + 1) = lo
  hi : z' ((k + 1) * 3 + 2) = hi
  tail : ∀ j, (k + 1) * 3 ≤ j → z' (j + 3) = z j
theorem ins_at {z z' : Nat → Int} {k : Nat} {t lo hi : Int} (h : Ins z z' k t lo hi) (i r : Nat) (hi2 : k < i) : z' ((i + 1) * 3 + r) = z (i * 3 + r) := by
  have := h.tail (i * 3 + r) (by omega)
  rwa [show i * 3 + r + 3 = (i + 1) * 3 + r by omega] at this
theorem ins_good {z z' : Nat → Int} {n k : Nat} {t lo hi : Int} (g : Good3 z n) (h : Ins z z' k t lo hi) (hk : k + 1 < n) (t1 : z (k * 3) < t) (t2 : t < z ((k + 1) * 3)) (l1 : 0 ≤ lo) (l2 : lo ≤ hi) (l3 : hi ≤ 1000000) : Good3 z' (n + 1) := by
  have oa := okR_iff.1 (g.ok k (by omega))
  have ob := okR_iff.1 (g.ok (k + 1) hk)
  refine ⟨fun i hi' => ?_, fun i hi' => ?_⟩
  · rcases Nat.lt_trichotomy i (k + 1) with c | c | c
    · have := g.ok i (by omega)
      unfold okR at this ⊢
      rw [h.head _ (by omega), h.head _ (by omega), h.head _ (by omega)]
      exact this
    · subst c
      rw [okR_iff, h.t, h.lo, h.hi]
      omega
    · obtain ⟨j, rfl⟩ : ∃ j, i = j + 1 := ⟨i - 1, by omega⟩
      have := g.ok j (by omega)
      have e0 := ins_at h j 0 (by omega)
      simp only [Nat.add_zero] at e0
      unfold okR at this ⊢
      rw [e0, ins_at h j 1 (by omega), ins_at h j 2 (by omega)]
      exact this
  · rcases Nat.lt_trichotomy i k with c | c | c
    · rw [h.head _ (by omega), h.head _ (by omega)]
      exact g.up i (by omega)
    · subst c
      rw [h.head _ (by omega), h.t]
      exact t1
    · have e1 := ins_at h i 0 c
      simp only [Nat.add_zero] at e1
      rw [e1]
      by_cases c2 : i = k + 1
      · subst c2; rw [h.t]; exact t2
      · obtain ⟨j, rfl⟩ : ∃ j, i = j + 1 := ⟨i - 1, by omega⟩
        have e0 := ins_at h j 0 (by omega)
        simp only [Nat.add_zero] at e0
        rw [e0]
        exact g.up j (by omega)
theorem ins_ps {z z' : Nat → Int} {k : Nat} {t lo hi : Int} (h : Ins z z' k t lo hi) (t1 : z (k * 3) < t) (t2 : t < z ((k + 1) * 3)) (l1 : min (z (k * 3 + 1)) (z ((k + 1) * 3 + 1)) ≤ lo) (l3 : hi ≤ max (z (k * 3 + 2)) (z ((k + 1) * 3 + 2))) :
    ∀ m, psL z (k + 1 + m) ≤ psL z' (k + 2 + m) ∧ psH z' (k + 2 + m) ≤ psH z (k + 1 + m)
  | 0 => by
    obtain ⟨i1, i2⟩ := ps_same k (z := z') (z' := z) h.head
    have e1 := ins_at h (k + 1) 0 (by omega)
    simp only [Nat.add_zero] at e1
    have eL : psL z' (k + 1 + 1) = psL z' k + (z' ((k + 1) * 3) - z' (k * 3)) * min (z' (k * 3 + 1)) (z' ((k + 1) * 3 + 1)) + (z' ((k + 1 + 1) * 3) - z' ((k + 1) * 3)) * min (z' ((k + 1) * 3 + 1)) (z' ((k + 1 + 1) * 3 + 1)) := rfl
    have eH : psH z' (k + 1 + 1) = psH z' k + (z' ((k + 1) * 3) - z' (k * 3)) * max (z' (k * 3 + 2)) (z' ((k + 1) * 3 + 2)) + (z' ((k + 1 + 1) * 3) - z' ((k + 1) * 3)) * max (z' ((k + 1) * 3 + 2)) (z' ((k + 1 + 1) * 3 + 2)) := rfl
    have fL : psL z (k + 1) = psL z k + (z ((k + 1) * 3) - z (k * 3)) * min (z (k * 3 + 1)) (z ((k + 1) * 3 + 1)) := rfl
    have fH : psH z (k + 1) = psH z k + (z ((k + 1) * 3) - z (k * 3)) * max (z (k * 3 + 2)) (z ((k + 1) * 3 + 2)) := rfl
    rw [h.t, h.lo, e1, i1, h.head _ (by omega), h.head _ (by omega), ins_at h (k + 1) 1 (by omega)] at eL
    rw [h.t, h.hi, e1, i2, h.head _ (by omega), h.head _ (by omega), ins_at h (k + 1) 2 (by omega)] at eH
    show psL z (k + 1) ≤ psL z' (k + 1 + 1) ∧ psH z' (k + 1 + 1) ≤ psH z (k + 1)
    rw [eL, eH, fL, fH]
    generalize z (k * 3) = a at *
    generalize z ((k + 1) * 3) = b at *
    generalize z (k * 3 + 1) = xl at *
    generalize z ((k + 1) * 3 + 1) = yl at *
    generalize z (k * 3 + 2) = xh at *
    generalize z ((k + 1) * 3 + 2) = yh at *
    obtain ⟨M, hM⟩ : ∃ M, min xl yl = M := ⟨_, rfl⟩
    obtain ⟨N, hN⟩ : ∃ N, max xh yh = N := ⟨_, rfl⟩
    have m1 : (t - a) * M ≤ (t - a) * min xl lo := Int.mul_le_mul_of_nonneg_left (by omega) (by omega)
    have m2 : (b - t) * M ≤ (b - t) * min lo yl := Int.mul_le_mul_of_nonneg_left (by omega) (by omega)
    have m3 : (t - a) * max xh hi ≤ (t - a) * N := Int.mul_le_mul_of_nonneg_left (by omega) (by omega)
    have m4 : (b - t) * max hi yh ≤ (b - t) * N := Int.mul_le_mul_of_nonneg_left (by omega) (by omega)
    have s1 : (b - a) * M = (t - a) * M + (b - t) * M := by rw [← Int.add_mul]; congr 1; omega
    have s2 : (b - a) * N = (t - a) * N + (b - t) * N := by rw [← Int.add_mul]; congr 1; omega
    rw [hM, hN, s1, s2]
    omega
  | m + 1 => by
    obtain ⟨i1, i2⟩ := ins_ps h t1 t2 l1 l3 m
    have e0 := ins_at h (k + 1 + m) 0 (by omega)
    have e3 := ins_at h (k + 1 + m + 1) 0 (by omega)
    simp only [Nat.add_zero] at e0 e3
    have e1 := ins_at h (k + 1 + m) 1 (by omega)
    have e2 := ins_at h (k + 1 + m) 2 (by omega)
    have e4 := ins_at h (k + 1 + m + 1) 1 (by omega)
    have e5 := ins_at h (k + 1 + m + 1) 2 (by omega)
    rw [show k + 2 + (m + 1) = k + 1 + m + 1 + 1 by omega, show k + 1 + (m + 1) = k + 1 + m + 1 by omega]
    rw [show k + 2 + m = k + 1 + m + 1 by omega] at i1 i2
    have eL : psL z' (k + 1 + m + 1 + 1) = psL z' (k + 1 + m + 1) + (z' ((k + 1 + m + 1 + 1) * 3) - z' ((k + 1 + m + 1) * 3)) * min (z' ((k + 1 + m + 1) * 3 + 1)) (z' ((k + 1 + m + 1 + 1) * 3 + 1)) := rfl
    have eH : psH z' (k + 1 + m + 1 + 1) = psH z' (k + 1 + m + 1) + (z' ((k + 1 + m + 1 + 1) * 3) - z' ((k + 1 + m + 1) * 3)) * max (z' ((k + 1 + m + 1) * 3 + 2)) (z' ((k + 1 + m + 1 + 1) * 3 + 2)) := rfl
    have fL : psL z (k + 1 + m + 1) = psL z (k + 1 + m) + (z ((k + 1 + m + 1) * 3) - z ((k + 1 + m) * 3)) * min (z ((k + 1 + m) * 3 + 1)) (z ((k + 1 + m + 1) * 3 + 1)) := rfl
    have fH : psH z (k + 1 + m + 1) = psH z (k + 1 + m) + (z ((k + 1 + m + 1) * 3) - z ((k + 1 + m) * 3)) * max (z ((k + 1 + m) * 3 + 2)) (z ((k + 1 + m + 1) * 3 + 2)) := rfl
    rw [eL, eH, fL, fH, e0, e1, e2, e3, e4, e5]
    constructor <;> omega
/-- With one reading more, within the hull of its neighbours, the sum is narrower. -/
theorem ins_sum {z z' : Nat → Int} {n k : Nat} {t lo hi e s : Int} (g : Good3 z n) (h : Ins z z' k t lo hi) (hk : k + 1 < n) (t1 : z (k * 3) < t) (t2 : t < z ((k + 1) * 3)) (l0 : min (z (k * 3 + 1)) (z ((k + 1) * 3 + 1)) ≤ lo) (l2 : lo ≤ hi) (l3 : hi ≤ max (z (k * 3 + 2)) (z ((k + 1) * 3 + 2)))
    (h3 : 0 ≤ s) (h4 : s ≤ 1000) (h1 : 0 ≤ e) (h2 : e ≤ 4294967296) (h5 : z ((n - 1) * 3) ≤ e) :
    ∃ tl th dl dh : Int, sumR z n e s = ((tl, th), 0) ∧ sumR z' (n + 1) e s = ((dl, dh), 0) ∧ dl ≤ dh ∧ tl ≤ dl ∧ dh ≤ th := by
  have oa := okR_iff.1 (g.ok k (by omega))
  have ob := okR_iff.1 (g.ok (k + 1) hk)
  have g' := ins_good g h hk t1 t2 (by omega) l2 (by omega)
  have f0 := ins_at h (n - 1) 0 (by omega)
  have f1 := ins_at h (n - 1) 1 (by omega)
  have f2 := ins_at h (n - 1) 2 (by omega)
  simp only [Nat.add_zero] at f0
  rw [show n - 1 + 1 = n by omega] at f0 f1 f2
  have h5' : z' ((n + 1 - 1) * 3) ≤ e := by rw [Nat.add_sub_cancel, f0]; exact h5
  refine ⟨_, _, _, _, sumR_good g (by omega) h1 h2 h3 h4 h5, sumR_good g' (by omega) h1 h2 h3 h4 h5', ?_⟩
  have b1 := tot_bd g (by omega) h5 h2
  have b2 := tot_bd g' (by omega) h5' h2
  have p := ins_ps h t1 t2 l0 l3 (n - 1 - (k + 1))
  rw [show k + 1 + (n - 1 - (k + 1)) = n - 1 by omega, show k + 2 + (n - 1 - (k + 1)) = n by omega] at p
  have q1 : totL z n e ≤ totL z' (n + 1) e := by unfold totL; rw [Nat.add_sub_cancel, f0, f1]; omega
  have q2 : totH z' (n + 1) e ≤ totH z n e := by unfold totH; rw [Nat.add_sub_cancel, f0, f2]; omega
  generalize totL z n e = P at *
  generalize totH z n e = Q at *
  generalize totL z' (n + 1) e = R at *
  generalize totH z' (n + 1) e = S at *
  have m1 : P * (1000 - s) ≤ R * (1000 - s) := Int.mul_le_mul_of_nonneg_right q1 (by omega)
  have m2 : S * (1000 + s) ≤ Q * (1000 + s) := Int.mul_le_mul_of_nonneg_right q2 (by omega)
  have m3 : R * (1000 - s) ≤ S * (1000 + s) := Int.mul_le_mul b2.2.1 (by omega) (by omega) (by omega)
  have m4 := Int.mul_nonneg b1.1 (show 0 ≤ 1000 - s by omega)
  simp only [cdiv_eq (show (0 : Int) < 360000 by omega)]
  generalize P * (1000 - s) = X at *
  generalize Q * (1000 + s) = Y at *
  generalize R * (1000 - s) = U at *
  generalize S * (1000 + s) = V at *
  omega
/-- What 'inner' answers lies within. -/
theorem inner_bd {a b x y : Int} (h : a ≤ b) (_hx : 0 ≤ x) (_hy : 0 ≤ y) : a ≤ a + x % (b - a + 1) ∧ a + x % (b - a + 1) ≤ a + x % (b - a + 1) + y % (b - (a + x % (b - a + 1)) + 1) ∧ a + x % (b - a + 1) + y % (b - (a + x % (b - a + 1)) + 1) ≤ b := by
  have h1 := Int.emod_nonneg x (show b - a + 1 ≠ 0 by omega)
  have h2 := Int.emod_lt_of_pos x (show 0 < b - a + 1 by omega)
  generalize x % (b - a + 1) = r at *
  have h3 := Int.emod_nonneg y (show b - (a + r) + 1 ≠ 0 by omega)
  have h4 := Int.emod_lt_of_pos y (show 0 < b - (a + r) + 1 by omega)
  omega
theorem head_list (zs : List Int) (n k : Nat) (e s : Int) (_hz : zs.length = n * 3) (_hk : k ≤ n) : sumR (fun j => (zs.take (k * 3)).getD j 0) k e s = sumR (fun j => zs.getD j 0) k e s :=
  sumR_same e s fun j hj => by simp [List.getD, List.getElem?_take, hj]
theorem tail_list (zs : List Int) (k m : Nat) (e s : Int) : sumR (fun j => (zs.drop (k * 3)).getD j 0) m e s = sumR (fun j => zs.getD (k * 3 + j) 0) m e s :=
  sumR_same e s fun j _ => by simp [List.getD, List.getElem?_drop]
theorem ins_list (zs : List Int) (n k : Nat) (t lo hi : Int) (hz : zs.length = n * 3) (hk : k < n) : Ins (fun j => zs.getD j 0) (fun j => (zs.take ((k + 1) * 3) ++ [t, lo, hi] ++ zs.drop ((k + 1) * 3)).getD j 0) k t lo hi := by
  have e1 : (zs.take ((k + 1) * 3)).length = (k + 1) * 3 := by rw [List.length_take]; omega
  refine ⟨fun j hj => ?_, ?_, ?_, ?_, fun j hj => ?_⟩
  · simp only [List.getD, List.append_assoc]
    rw [List.getElem?_append_left (by omega), List.getElem?_take, if_pos hj]
  · simp only [List.getD, List.append_assoc]
    rw [List.getElem?_append_right (by omega), e1, Nat.sub_self]
    rfl
  · simp only [List.getD, List.append_assoc]
    rw [List.getElem?_append_right (by omega), e1, Nat.add_sub_cancel_left]
    rfl
  · simp only [List.getD, List.append_assoc]
    rw [List.getElem?_append_right (by omega), e1, Nat.add_sub_cancel_left]
    rfl
  · simp only [List.getD, List.append_assoc]
    rw [List.getElem?_append_right (by omega), e1, List.getElem?_append_right (by simp; omega), List.getElem?_drop]
    congr 2
    simp
    omega
end Go.Proofs.Ytmglgahagbfbkaa
