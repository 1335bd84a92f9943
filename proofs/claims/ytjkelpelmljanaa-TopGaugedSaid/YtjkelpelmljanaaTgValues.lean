/-
  Plain functions that say what package rain and its reference compute, on lists and integers; no program in sight.
  Gauges: what fell; no program in sight.
  Sums of records: what Sum computes, on the cells of the readings; no program in sight.
  Sums of records, as the reference adds them up: each piece times the slack; no program in sight.
  The scales that suit pairs of a sum and a gauge: what rain and the reference compute; no program in sight.
  Contracts of the small functions of package rain and of the reference: bounds, quotients rounded down and up.
  Contracts of the functions that round quotients: rain's and the reference's.
  Tables and their values; no program in sight.
  slices.BinarySearchFunc over a table, with rain's comparison: the first point whose power is not below the one that is asked for.
  rain's value of a table at a power, found by a closure over the points: the same values as the reference's.
  CheckTable: the contract, for every slice of points.
  The reference's CheckTable: the contract, for every slice of points.
  Value: rain's and the reference's: one contract for both.
-/
import Derived.Test.YtjkelpelmljanaaMapV
import Derived.Test.YtjkelpelmljanaaProg
import Derived.Test.YtjkelpelmljanaaWords
import Derived.Handy
import Derived.Test.YtjkelpelmljanaaRegionStep
import Derived.BigQuiet
set_option linter.unusedSimpArgs false
set_option linter.unusedVariables false
namespace Go.Proofs.Ytjkelpelmljanaa

def win (n lo hi : Int) : Bool := decide (lo ≤ n ∧ n ≤ hi)
theorem win_iff {n lo hi : Int} : win n lo hi = true ↔ lo ≤ n ∧ n ≤ hi := by simp [win]
theorem win_no {n lo hi : Int} : win n lo hi = false ↔ ¬ (lo ≤ n ∧ n ≤ hi) := by simp [win]
def ins (a b most : Int) : Bool := decide (0 ≤ a ∧ a ≤ b ∧ b ≤ most)

def flat2 : List (Int × Int) → List Int
  | [] => []
  | p :: t => p.1 :: p.2 :: flat2 t
theorem flat2_length (l : List (Int × Int)) : (flat2 l).length = l.length * 2 := by
  induction l with
  | nil => rfl
  | cons p t ih => simp [flat2, ih]; omega
theorem flat2_0 (l : List (Int × Int)) : ∀ k, (flat2 l).getD (k * 2) 0 = (l.getD k (0, 0)).1 := by
  induction l with
  | nil => intro k; simp [flat2]
  | cons p t ih =>
    intro k
    cases k with
    | zero => simp [flat2]
    | succ k => have := ih k; rw [show (k + 1) * 2 = k * 2 + 1 + 1 by omega]; simpa [flat2] using this
theorem flat2_1 (l : List (Int × Int)) : ∀ k, (flat2 l).getD (k * 2 + 1) 0 = (l.getD k (0, 0)).2 := by
  induction l with
  | nil => intro k; simp [flat2]
  | cons p t ih =>
    intro k
    cases k with
    | zero => simp [flat2]
    | succ k => have := ih k; rw [show (k + 1) * 2 + 1 = k * 2 + 1 + 1 + 1 by omega]; simpa [flat2] using this
theorem flat2_append (a b : List (Int × Int)) : flat2 (a ++ b) = flat2 a ++ flat2 b := by
  induction a with
  | nil => rfl
  | cons p t ih => simp [flat2, ih]

def chkGo (most : Int) (k : Nat) (bz br : Int) : List (Int × Int) → Int
  | [] => 0
  | p :: t => if ¬ (win p.1 0 1073741824 = true ∧ win p.2 0 most = true) then 3 else if (k = 0 ∧ 0 < p.1) ∨ p.1 ≤ bz ∨ p.2 < br then 12 else chkGo most (k + 1) p.1 p.2 t
def chk (l : List (Int × Int)) (most : Int) : Int := if l.length < 2 then 18 else if 32 < l.length then 9 else chkGo most 0 (-1) 0 l
theorem chkGo_drop (most : Int) (i : Nat) (bz br : Int) (l : List (Int × Int)) (k : Nat) (hk : k < l.length) : chkGo most i bz br (l.drop k) =
    if ¬ (win (l.getD k (0, 0)).1 0 1073741824 = true ∧ win (l.getD k (0, 0)).2 0 most = true) then 3 else if (i = 0 ∧ 0 < (l.getD k (0, 0)).1) ∨ (l.getD k (0, 0)).1 ≤ bz ∨ (l.getD k (0, 0)).2 < br then 12
    else chkGo most (i + 1) (l.getD k (0, 0)).1 (l.getD k (0, 0)).2 (l.drop (k + 1)) := by
  rw [List.drop_eq_getElem_cons hk, chkGo]
  simp [List.getD, hk]
theorem chkGo_end (most : Int) (i : Nat) (bz br : Int) (l : List (Int × Int)) (k : Nat) (hk : l.length ≤ k) : chkGo most i bz br (l.drop k) = 0 := by
  rw [List.drop_eq_nil_of_le hk, chkGo]
def pz (l : List (Int × Int)) (k : Nat) : Int := if k = 0 then -1 else (l.getD (k - 1) (0, 0)).1
def pr (l : List (Int × Int)) (k : Nat) : Int := if k = 0 then 0 else (l.getD (k - 1) (0, 0)).2
end Go.Proofs.Ytjkelpelmljanaa
namespace Go.Proofs.Ytjkelpelmljanaa
def okG (t s : Int) : Bool := win t 0 1000000 && win s 1 10000
def fellS (t s : Int) : Int × Int := (max 0 ((t - 1) * s + 1), (t + 1) * s - 1)
/-- What Fell returns. -/
def fellR (t s : Int) : (Int × Int) × Int := if okG t s = true then (fellS t s, 0) else ((0, 0), 3)
theorem gauge_bd {t s : Int} (h : okG t s = true) : 0 ≤ t ∧ t ≤ 1000000 ∧ 1 ≤ s ∧ s ≤ 10000 ∧ -10000 ≤ (t - 1) * s ∧ (t - 1) * s ≤ 10000000000 ∧ 0 ≤ (t + 1) * s ∧ (t + 1) * s ≤ 10000010000 := by
  simp only [okG, Bool.and_eq_true] at h
  obtain ⟨h1, h2⟩ := h
  obtain ⟨a, b⟩ := win_iff.1 h1
  obtain ⟨c, d⟩ := win_iff.1 h2
  have e : (t - 1) * s = t * s - s := by rw [Int.sub_mul]; omega
  have f : (t + 1) * s = t * s + s := by rw [Int.add_mul]; omega
  have g : 0 ≤ t * s := Int.mul_nonneg a (by omega)
  have i : t * s ≤ 1000000 * 10000 := Int.mul_le_mul b d (by omega) (by omega)
  omega
end Go.Proofs.Ytjkelpelmljanaa
namespace Go.Proofs.Ytjkelpelmljanaa

/-- Reading k is as stated. -/
def okR (z : Nat → Int) (k : Nat) : Bool := win (z (k * 3)) 0 4294967296 && ins (z (k * 3 + 1)) (z (k * 3 + 2)) 1000000
/-- The first error of the readings from k on. -/
def scanE (z : Nat → Int) (k : Nat) : Nat → Int
  | 0 => 0
  | m + 1 => if okR z k = false then 3 else if 0 < k ∧ z (k * 3) ≤ z ((k - 1) * 3) then 12 else scanE z (k + 1) m
def psL (z : Nat → Int) : Nat → Int
  | 0 => 0
  | k + 1 => psL z k + (z ((k + 1) * 3) - z (k * 3)) * min (z (k * 3 + 1)) (z ((k + 1) * 3 + 1))
def psH (z : Nat → Int) : Nat → Int
  | 0 => 0
  | k + 1 => psH z k + (z ((k + 1) * 3) - z (k * 3)) * max (z (k * 3 + 2)) (z ((k + 1) * 3 + 2))
def totL (z : Nat → Int) (n : Nat) (e : Int) : Int := psL z (n - 1) + (e - z ((n - 1) * 3)) * z ((n - 1) * 3 + 1)
def totH (z : Nat → Int) (n : Nat) (e : Int) : Int := psH z (n - 1) + (e - z ((n - 1) * 3)) * z ((n - 1) * 3 + 2)
def sumR (z : Nat → Int) (n : Nat) (e s : Int) : (Int × Int) × Int :=
  if n = 0 then ((0, 0), 18) else if scanE z 0 n ≠ 0 then ((0, 0), scanE z 0 n) else if (win e 0 4294967296 && win s 0 1000) = false then ((0, 0), 3) else if e < z ((n - 1) * 3) then ((0, 0), 17)
  else ((totL z n e * (1000 - s) / 360000, cdiv (totH z n e * (1000 + s)) 360000), 0)

theorem scan_step (z : Nat → Int) (n k : Nat) (h : k < n) : scanE z k (n - k) = if okR z k = false then 3 else if 0 < k ∧ z (k * 3) ≤ z ((k - 1) * 3) then 12 else scanE z (k + 1) (n - (k + 1)) := by
  rw [show n - k = (n - (k + 1)) + 1 by omega, scanE]
theorem scan_all (z : Nat → Int) : ∀ (m k : Nat), scanE z k m = 0 → ∀ j, k ≤ j → j < k + m → okR z j = true ∧ (0 < j → z ((j - 1) * 3) < z (j * 3))
  | 0, k, _, j, h1, h2 => by omega
  | m + 1, k, h, j, h1, h2 => by
    rw [scanE] at h
    split at h
    · cases h
    · rename_i hb
      split at h
      · cases h
      · rename_i ho
        rcases Nat.eq_or_lt_of_le h1 with rfl | h1
        · exact ⟨by simpa using hb, fun h0 => by omega⟩
        · exact scan_all z m (k + 1) h j h1 (by omega)
theorem okR_iff {z : Nat → Int} {k : Nat} : okR z k = true ↔ (0 ≤ z (k * 3) ∧ z (k * 3) ≤ 4294967296) ∧ 0 ≤ z (k * 3 + 1) ∧ z (k * 3 + 1) ≤ z (k * 3 + 2) ∧ z (k * 3 + 2) ≤ 1000000 := by
  simp [okR, win, ins]
theorem okR_no {z : Nat → Int} {k : Nat} (h : okR z k = false) : win (z (k * 3)) 0 4294967296 = false ∨ (win (z (k * 3)) 0 4294967296 = true ∧ ins (z (k * 3 + 1)) (z (k * 3 + 2)) 1000000 = false) := by
  unfold okR at h
  cases h1 : win (z (k * 3)) 0 4294967296
  · exact .inl rfl
  · rw [h1] at h; exact .inr ⟨rfl, by simpa using h⟩

/-- All readings are as stated, one after the other. -/
structure Good3 (z : Nat → Int) (n : Nat) : Prop where
  ok : ∀ k, k < n → okR z k = true
  up : ∀ k, k + 1 < n → z (k * 3) < z ((k + 1) * 3)
theorem good3_of {z : Nat → Int} {n : Nat} (h : scanE z 0 n = 0) : Good3 z n :=
  ⟨fun k hk => (scan_all z n 0 h k (by omega) (by omega)).1, fun k hk => (scan_all z n 0 h (k + 1) (by omega) (by omega)).2 (by omega)⟩

/-- What one piece adds. -/
theorem piece_bd {z : Nat → Int} {n k : Nat} (g : Good3 z n) (h : k + 1 < n) : 0 ≤ (z ((k + 1) * 3) - z (k * 3)) * min (z (k * 3 + 1)) (z ((k + 1) * 3 + 1)) ∧
    (z ((k + 1) * 3) - z (k * 3)) * min (z (k * 3 + 1)) (z ((k + 1) * 3 + 1)) ≤ (z ((k + 1) * 3) - z (k * 3)) * max (z (k * 3 + 2)) (z ((k + 1) * 3 + 2)) ∧
    (z ((k + 1) * 3) - z (k * 3)) * max (z (k * 3 + 2)) (z ((k + 1) * 3 + 2)) ≤ (z ((k + 1) * 3) - z (k * 3)) * 1000000 := by
  have h1 := okR_iff.1 (g.ok k (by omega))
  have h2 := okR_iff.1 (g.ok (k + 1) (by omega))
  have h3 := g.up k h
  exact ⟨Int.mul_nonneg (by omega) (by omega), Int.mul_le_mul_of_nonneg_left (by omega) (by omega), Int.mul_le_mul_of_nonneg_left (by omega) (by omega)⟩
theorem ps_bd {z : Nat → Int} {n : Nat} (g : Good3 z n) : ∀ k, k < n → 0 ≤ psL z k ∧ psL z k ≤ psH z k ∧ psH z k ≤ (z (k * 3) - z 0) * 1000000
  | 0, _ => by simp [psL, psH]
  | k + 1, h => by
    obtain ⟨h1, h2, h3⟩ := ps_bd g k (by omega)
    obtain ⟨p1, p2, p3⟩ := piece_bd g h
    simp only [psL, psH]
    have e : (z ((k + 1) * 3) - z 0) * 1000000 = (z (k * 3) - z 0) * 1000000 + (z ((k + 1) * 3) - z (k * 3)) * 1000000 := by rw [← Int.add_mul]; congr 1; omega
    omega
theorem last_bd {z : Nat → Int} {n : Nat} (g : Good3 z n) (hn : 0 < n) {e : Int} (he : z ((n - 1) * 3) ≤ e) : 0 ≤ (e - z ((n - 1) * 3)) * z ((n - 1) * 3 + 1) ∧
    (e - z ((n - 1) * 3)) * z ((n - 1) * 3 + 1) ≤ (e - z ((n - 1) * 3)) * z ((n - 1) * 3 + 2) ∧ (e - z ((n - 1) * 3)) * z ((n - 1) * 3 + 2) ≤ (e - z ((n - 1) * 3)) * 1000000 := by
  have h1 := okR_iff.1 (g.ok (n - 1) (by omega))
  exact ⟨Int.mul_nonneg (by omega) (by omega), Int.mul_le_mul_of_nonneg_left (by omega) (by omega), Int.mul_le_mul_of_nonneg_left (by omega) (by omega)⟩
/-- All sums on the way stay small: with a piece more and the last piece. -/
theorem way_bd {z : Nat → Int} {n k : Nat} (g : Good3 z n) (hn : 0 < n) {e : Int} (he : z ((n - 1) * 3) ≤ e) (he2 : e ≤ 4294967296) (hk : k < n) :
    0 ≤ (e - z ((n - 1) * 3)) * z ((n - 1) * 3 + 1) + psL z k ∧ (e - z ((n - 1) * 3)) * z ((n - 1) * 3 + 1) + psL z k ≤ (e - z ((n - 1) * 3)) * z ((n - 1) * 3 + 2) + psH z k ∧
      (e - z ((n - 1) * 3)) * z ((n - 1) * 3 + 2) + psH z k ≤ 4294967296000000 := by
  obtain ⟨h1, h2, h3⟩ := ps_bd g k hk
  obtain ⟨l1, l2, l3⟩ := last_bd g hn he
  have mono : ∀ j, k ≤ j → j < n → z (k * 3) ≤ z (j * 3) := by
    intro j
    induction j with
    | zero => intro h _; have : k = 0 := by omega
              subst this; exact Int.le_refl _
    | succ j ih =>
      intro h hj
      rcases Nat.eq_or_lt_of_le h with h | h
      · rw [h]; exact Int.le_refl _
      · have := ih (by omega) (by omega)
        have := g.up j hj
        omega
  have hm := mono (n - 1) (by omega) (by omega)
  have h0 := (okR_iff.1 (g.ok 0 hn)).1.1
  simp only [Nat.zero_mul] at h0
  have e1 : (z (k * 3) - z 0) * 1000000 + (e - z ((n - 1) * 3)) * 1000000 ≤ 4294967296000000 := by omega
  omega
theorem tot_bd {z : Nat → Int} {n : Nat} (g : Good3 z n) (hn : 0 < n) {e : Int} (he : z ((n - 1) * 3) ≤ e) (he2 : e ≤ 4294967296) : 0 ≤ totL z n e ∧ totL z n e ≤ totH z n e ∧ totH z n e ≤ 4294967296000000 := by
  have := way_bd g hn he he2 (k := n - 1) (by omega)
  unfold totL totH
  omega

theorem mono3 {z : Nat → Int} {n : Nat} (g : Good3 z n) : ∀ (j k : Nat), k ≤ j → j < n → z (k * 3) ≤ z (j * 3) := by
  intro j
  induction j with
  | zero =>
    intro k h _
    obtain rfl : k = 0 := by omega
    exact Int.le_refl _
  | succ j ih =>
    intro k h hj
    rcases Nat.eq_or_lt_of_le h with h | h
    · rw [h]; exact Int.le_refl _
    · have := ih k (by omega) (by omega)
      have := g.up j hj
      omega
/-- The sums so far, whatever the end. -/
theorem ps_le {z : Nat → Int} {n k : Nat} (g : Good3 z n) (hk : k < n) : 0 ≤ psL z k ∧ psL z k ≤ psH z k ∧ psH z k ≤ 4294967296000000 := by
  obtain ⟨h1, h2, h3⟩ := ps_bd g k hk
  have h4 := (okR_iff.1 (g.ok k hk)).1
  have h5 := (okR_iff.1 (g.ok 0 (by omega))).1
  simp only [Nat.zero_mul] at h5
  exact ⟨h1, h2, by omega⟩
theorem prod3 {a b c A B C : Int} (ha : 0 ≤ a) (hb : 0 ≤ b) (hc : 0 ≤ c) (hA : a ≤ A) (hB : b ≤ B) (hC : c ≤ C) : 0 ≤ a * b ∧ a * b ≤ A * B ∧ 0 ≤ a * b * c ∧ a * b * c ≤ A * B * C := by
  have h1 := Int.mul_nonneg ha hb
  have h2 := Int.mul_le_mul hA hB hb (by omega)
  exact ⟨h1, h2, Int.mul_nonneg h1 hc, Int.mul_le_mul h2 hC hc (by omega)⟩
theorem swap3 (a b c : Int) : a * b * c = c * a * b := by rw [Int.mul_comm (a * b) c, ← Int.mul_assoc]
end Go.Proofs.Ytjkelpelmljanaa
namespace Go.Proofs.Ytjkelpelmljanaa

theorem stepL (z : Nat → Int) (k : Nat) (s : Int) : psL z (k + 1) * s = psL z k * s + min (z (k * 3 + 1)) (z ((k + 1) * 3 + 1)) * s * (z ((k + 1) * 3) - z (k * 3)) := by
  rw [psL, Int.add_mul, swap3 (min (z (k * 3 + 1)) (z ((k + 1) * 3 + 1))) s]
theorem stepH (z : Nat → Int) (k : Nat) (s : Int) : psH z (k + 1) * s = psH z k * s + max (z (k * 3 + 2)) (z ((k + 1) * 3 + 2)) * s * (z ((k + 1) * 3) - z (k * 3)) := by
  rw [psH, Int.add_mul, swap3 (max (z (k * 3 + 2)) (z ((k + 1) * 3 + 2))) s]
theorem lastL (z : Nat → Int) (m : Nat) (e s : Int) : totL z (m + 1) e * s = psL z m * s + z (m * 3 + 1) * s * (e - z (m * 3)) := by
  unfold totL
  rw [Nat.add_sub_cancel, Int.add_mul, swap3 (z (m * 3 + 1)) s]
theorem lastH (z : Nat → Int) (m : Nat) (e s : Int) : totH z (m + 1) e * s = psH z m * s + z (m * 3 + 2) * s * (e - z (m * 3)) := by
  unfold totH
  rw [Nat.add_sub_cancel, Int.add_mul, swap3 (z (m * 3 + 2)) s]
theorem prod_bdR {a b A B : Int} (ha : 0 ≤ a) (hb : 0 ≤ b) (hA : a ≤ A) (hB : b ≤ B) : 0 ≤ a * b ∧ a * b ≤ A * B := ⟨Int.mul_nonneg ha hb, Int.mul_le_mul hA hB hb (by omega)⟩

/-- What a round needs to know of the sums. -/
structure SumBd (L H : Int) : Prop where
  l0 : 0 ≤ L
  l1 : L ≤ 4294967296000000000
  h0 : 0 ≤ H
  h1 : H ≤ 8589934592000000000
theorem sumBd_of {P Q s : Int} (h1 : 0 ≤ P) (h2 : P ≤ Q) (h3 : Q ≤ 4294967296000000) (hs : 0 ≤ s) (hs2 : s ≤ 1000) : SumBd (P * (1000 - s)) (Q * (1000 + s)) := by
  have a := prod_bdR (a := P) (b := 1000 - s) (A := 4294967296000000) (B := 1000) h1 (by omega) (by omega) (by omega)
  have b := prod_bdR (a := Q) (b := 1000 + s) (A := 4294967296000000) (B := 2000) (by omega) (by omega) (by omega) (by omega)
  exact ⟨a.1, by omega, b.1, by omega⟩
structure RateBd (l h d s : Int) : Prop where
  a0 : 0 ≤ l * (1000 - s)
  a1 : l * (1000 - s) ≤ 1000000000
  b0 : 0 ≤ l * (1000 - s) * d
  b1 : l * (1000 - s) * d ≤ 4294967296000000000
  c0 : 0 ≤ h * (1000 + s)
  c1 : h * (1000 + s) ≤ 2000000000
  d0 : 0 ≤ h * (1000 + s) * d
  d1 : h * (1000 + s) * d ≤ 8589934592000000000
theorem rateBd_of {l h d s : Int} (h1 : 0 ≤ l) (h2 : l ≤ 1000000) (h3 : 0 ≤ h) (h4 : h ≤ 1000000) (hd : 0 ≤ d) (hd2 : d ≤ 4294967296) (hs : 0 ≤ s) (hs2 : s ≤ 1000) : RateBd l h d s := by
  have a := prod3 (a := l) (b := 1000 - s) (c := d) (A := 1000000) (B := 1000) (C := 4294967296) h1 (by omega) hd h2 (by omega) hd2
  have b := prod3 (a := h) (b := 1000 + s) (c := d) (A := 1000000) (B := 2000) (C := 4294967296) h3 (by omega) hd h4 (by omega) hd2
  exact ⟨a.1, by omega, a.2.2.1, by omega, b.1, by omega, b.2.2.1, by omega⟩
theorem min_if (a b : Int) : min a b = if b < a then b else a := by
  rw [Int.min_def]
  split <;> split <;> omega
theorem max_if (a b : Int) : max a b = if a < b then b else a := by
  rw [Int.max_def]
  split <;> split <;> omega

/-- A round that is not the last one. -/
theorem round_mid {z : Nat → Int} {n k : Nat} {s : Int} (g : Good3 z n) (h : k + 1 < n) (hs : 0 ≤ s) (hs2 : s ≤ 1000) : ∃ mn mx : Int,
    (if z ((k + 1) * 3 + 1) < z (k * 3 + 1) then z ((k + 1) * 3 + 1) else z (k * 3 + 1)) = mn ∧ (if z (k * 3 + 2) < z ((k + 1) * 3 + 2) then z ((k + 1) * 3 + 2) else z (k * 3 + 2)) = mx ∧
    psL z (k + 1) * (1000 - s) = psL z k * (1000 - s) + mn * (1000 - s) * (z ((k + 1) * 3) - z (k * 3)) ∧ psH z (k + 1) * (1000 + s) = psH z k * (1000 + s) + mx * (1000 + s) * (z ((k + 1) * 3) - z (k * 3)) ∧
    SumBd (psL z k * (1000 - s)) (psH z k * (1000 + s)) ∧ SumBd (psL z k * (1000 - s) + mn * (1000 - s) * (z ((k + 1) * 3) - z (k * 3))) (psH z k * (1000 + s) + mx * (1000 + s) * (z ((k + 1) * 3) - z (k * 3))) ∧
    RateBd mn mx (z ((k + 1) * 3) - z (k * 3)) s ∧ 0 ≤ z (k * 3) ∧ z (k * 3) ≤ z ((k + 1) * 3) ∧ z ((k + 1) * 3) ≤ 4294967296 := by
  have p0 := ps_le g (k := k) (by omega)
  have p1 := ps_le g h
  have oka := okR_iff.1 (g.ok k (by omega))
  have okb := okR_iff.1 (g.ok (k + 1) h)
  have hup := g.up k h
  refine ⟨_, _, rfl, rfl, ?_, ?_, sumBd_of p0.1 p0.2.1 p0.2.2 hs hs2, ?_, ?_, by omega, by omega, by omega⟩
  · rw [stepL, min_if]
  · rw [stepH, max_if]
  · rw [← min_if, ← max_if, ← stepL, ← stepH]
    exact sumBd_of p1.1 p1.2.1 p1.2.2 hs hs2
  · rw [← min_if, ← max_if]
    exact rateBd_of (by omega) (by omega) (by omega) (by omega) (by omega) (by omega) hs hs2
/-- The last round. -/
theorem round_last {z : Nat → Int} {m : Nat} {e s : Int} (g : Good3 z (m + 1)) (he : z (m * 3) ≤ e) (he2 : e ≤ 4294967296) (hs : 0 ≤ s) (hs2 : s ≤ 1000) :
    totL z (m + 1) e * (1000 - s) = psL z m * (1000 - s) + z (m * 3 + 1) * (1000 - s) * (e - z (m * 3)) ∧ totH z (m + 1) e * (1000 + s) = psH z m * (1000 + s) + z (m * 3 + 2) * (1000 + s) * (e - z (m * 3)) ∧
    SumBd (psL z m * (1000 - s)) (psH z m * (1000 + s)) ∧ SumBd (psL z m * (1000 - s) + z (m * 3 + 1) * (1000 - s) * (e - z (m * 3))) (psH z m * (1000 + s) + z (m * 3 + 2) * (1000 + s) * (e - z (m * 3))) ∧
    RateBd (z (m * 3 + 1)) (z (m * 3 + 2)) (e - z (m * 3)) s ∧ 0 ≤ z (m * 3) := by
  have p0 := ps_le g (k := m) (by omega)
  have oka := okR_iff.1 (g.ok m (by omega))
  have t := tot_bd g (by omega) (e := e) (by rw [Nat.add_sub_cancel]; exact he) he2
  refine ⟨lastL z m e _, lastH z m e _, sumBd_of p0.1 p0.2.1 p0.2.2 hs hs2, ?_, rateBd_of (by omega) (by omega) (by omega) (by omega) (by omega) (by omega) hs hs2, by omega⟩
  rw [← lastL, ← lastH]
  exact sumBd_of t.1 t.2.1 t.2.2 hs hs2
end Go.Proofs.Ytjkelpelmljanaa
namespace Go.Proofs.Ytjkelpelmljanaa

/-- rain's scales of a pair: none, if the first is above the second. -/
def scS (lo hi t s : Int) : Int × Int :=
  if 0 < hi then (max 1 (cdiv (1000 * (fellS t s).1) hi), if 0 < lo then min 100000 (1000 * (fellS t s).2 / lo) else 100000) else if 0 < (fellS t s).1 then (1, 0) else (1, 100000)
/-- The reference's. -/
def scR (lo hi t s : Int) : Int × Int :=
  (if hi = 0 ∧ 0 < (fellS t s).1 then 100001 else if 0 < hi then max 1 (cdiv (1000 * (fellS t s).1) hi) else 1, if 0 < lo then min 100000 (1000 * (fellS t s).2 / lo) else 100000)
def okP4 (lo hi t s : Int) : Bool := ins lo hi 2147483648 && okG t s
theorem okP4_iff {lo hi t s : Int} (h : okP4 lo hi t s = true) : 0 ≤ lo ∧ lo ≤ hi ∧ hi ≤ 2147483648 ∧ okG t s = true := by
  simp [okP4, ins] at h
  exact ⟨h.1.1, h.1.2.1, h.1.2.2, h.2⟩
theorem fell_bd {t s : Int} (h : okG t s = true) : 0 ≤ (fellS t s).1 ∧ (fellS t s).1 ≤ 10000000001 ∧ 0 ≤ (fellS t s).2 ∧ (fellS t s).2 ≤ 10000010000 := by
  obtain ⟨a1, a2, a3, a4, a5, a6, a7, a8⟩ := gauge_bd h
  have e : (t + 1) * s = t * s + s := by rw [Int.add_mul]; omega
  have g : 0 ≤ t * s := Int.mul_nonneg a1 (by omega)
  simp only [fellS]
  omega
/-- Either a pair has no scale at all, in both; or both have the same. -/
theorem sc_cases {lo hi t s : Int} (h : okP4 lo hi t s = true) : (scS lo hi t s = (1, 0) ∧ scR lo hi t s = (100001, 100000)) ∨ (scS lo hi t s = scR lo hi t s ∧ 1 ≤ (scS lo hi t s).1 ∧ (scS lo hi t s).2 ≤ 100000) := by
  obtain ⟨h1, h2, h3, h4⟩ := okP4_iff h
  by_cases hh : 0 < hi
  · right
    unfold scS scR
    rw [if_pos hh, if_neg (show ¬ (hi = 0 ∧ 0 < (fellS t s).1) from fun h => by omega), if_pos hh]
    refine ⟨rfl, by simp only; omega, ?_⟩
    simp only
    split <;> omega
  · by_cases hg : 0 < (fellS t s).1
    · left
      unfold scS scR
      rw [if_neg hh, if_pos hg, if_pos (show hi = 0 ∧ 0 < (fellS t s).1 from ⟨by omega, hg⟩), if_neg (show ¬ 0 < lo by omega)]
      exact ⟨rfl, rfl⟩
    · right
      unfold scS scR
      rw [if_neg hh, if_neg hg, if_neg (show ¬ (hi = 0 ∧ 0 < (fellS t s).1) from fun h => hg h.2), if_neg hh, if_neg (show ¬ 0 < lo by omega)]
      exact ⟨rfl, by simp, by simp⟩
theorem cdiv_bd' {a b : Int} (ha : 0 ≤ a) (hb : 1 ≤ b) : 0 ≤ cdiv a b ∧ cdiv a b ≤ a := by
  rw [cdiv_eq (by omega)]
  refine ⟨Int.ediv_nonneg (by omega) (by omega), ?_⟩
  have : (a + b - 1) / b < a + 1 := Int.ediv_lt_of_lt_mul (by omega) (by
    have : a * 1 ≤ a * b := Int.mul_le_mul_of_nonneg_left hb ha
    rw [Int.add_mul]; omega)
  omega
def meetS (a b : Int × Int) : Int × Int := (max a.1 b.1, min a.2 b.2)
end Go.Proofs.Ytjkelpelmljanaa
namespace Go.Proofs.Ytjkelpelmljanaa
open Go.RowKit

theorem within_anyR (n lo hi : Int) (w : World) :
    Calls Try.prog 15 #[.int .i64 n, .int .i64 lo, .int .i64 hi] w fun e w' => e = .returned (.bool (win n lo hi)) ∧ w = w' := by
  by_cases h1 : lo ≤ n <;> by_cases h2 : n ≤ hi
  all_goals
    go_enter Try.func15, Try.ntmps15
    go_wp2
    go_ret
    exact ⟨by simp [win, *], rfl⟩

theorem inside_anyR (a b most : Int) (w : World) :
    Calls Try.prog 32 #[.agg #[.int .i64 a, .int .i64 b], .int .i64 most] w fun e w' => e = .returned (.bool (ins a b most)) ∧ Below w.heap.size w w' := by
  by_cases h1 : 0 ≤ a <;> by_cases h2 : a ≤ b <;> by_cases h3 : b ≤ most
  all_goals
    go_enter Try.func32, Try.ntmps32
    go_wp2
    go_ret
    exact ⟨by simp [ins, *], (Below.refl _ _).alloc (Nat.le_refl _) _⟩

theorem Ints.pt {w : World} {B : Nat} {A : Option Addr} {l : List (Int × Int)} (h : Ints w B .i64 A (flat2 l)) (hn : 0 < l.length) : ∃ b off, A = some ⟨b, off, none⟩ ∧ b < B ∧
    ∀ k, k < l.length → w.cell? ⟨b, off + k * 2, none⟩ = some (.int .i64 (l.getD k (0, 0)).1) ∧ w.cell? ⟨b, off + k * 2 + 1, none⟩ = some (.int .i64 (l.getD k (0, 0)).2) := by
  obtain ⟨b, off, e, hb, hc⟩ := h (by rw [flat2_length]; omega)
  refine ⟨b, off, e, hb, fun k hk => ⟨?_, ?_⟩⟩
  · rw [hc _ (by rw [flat2_length]; omega), flat2_0]
  · rw [Nat.add_assoc, hc _ (by rw [flat2_length]; omega), flat2_1]

end Go.Proofs.Ytjkelpelmljanaa
namespace Go.Proofs.Ytjkelpelmljanaa
open Go.RowKit

theorem down_any (a b : Int) (w : World) (ha : 0 ≤ a) (hb : 1 ≤ b) (ha2 : a ≤ 4611686018427387903) (_hb2 : b ≤ 4611686018427387903) :
    Calls Try.prog 30 #[.int .i64 a, .int .i64 b] w fun e w' => e = .returned (.int .i64 (a / b)) ∧ w = w' := by
  have h1 : 0 ≤ a / b := Int.ediv_nonneg ha (by omega)
  have h2 : a / b ≤ a := Int.ediv_le_self b ha
  go_enter Try.func30, Try.ntmps30
  go_wp2
  go_ret
  exact ⟨rfl, rfl⟩

theorem up_anyR (a b : Int) (w : World) (ha : 0 ≤ a) (hb : 1 ≤ b) (ha2 : a ≤ 4611686018427387903) (hb2 : b ≤ 4611686018427387903) :
    Calls Try.prog 31 #[.int .i64 a, .int .i64 b] w fun e w' => e = .returned (.int .i64 (cdiv a b)) ∧ w = w' := by
  have h1 : 0 ≤ (a + b - 1) / b := Int.ediv_nonneg (by omega) (by omega)
  have h2 : (a + b - 1) / b ≤ a + b - 1 := Int.ediv_le_self b (by omega)
  have H := hide (cdiv_eq (a := a) (b := b) (by omega))
  go_enter Try.func31, Try.ntmps31
  go_wp2
  go_ret
  exact ⟨(ret_int H.out).symm, rfl⟩

end Go.Proofs.Ytjkelpelmljanaa
namespace Go.Proofs.Ytjkelpelmljanaa

abbrev P0 : Int × Int := (0, 0)
structure Tab (l : List (Int × Int)) (most : Int) : Prop where
  len : 2 ≤ l.length ∧ l.length ≤ 32
  z0 : (l.getD 0 P0).1 = 0
  rng : ∀ k, k < l.length → 0 ≤ (l.getD k P0).1 ∧ (l.getD k P0).1 ≤ 1073741824 ∧ 0 ≤ (l.getD k P0).2 ∧ (l.getD k P0).2 ≤ most
  mono : ∀ k, k + 1 < l.length → (l.getD k P0).1 < (l.getD (k + 1) P0).1 ∧ (l.getD k P0).2 ≤ (l.getD (k + 1) P0).2

theorem chkGo_ok (most : Int) : ∀ (l : List (Int × Int)) (k : Nat) (bz br : Int), chkGo most k bz br l = 0 →
    (∀ i, i < l.length → 0 ≤ (l.getD i P0).1 ∧ (l.getD i P0).1 ≤ 1073741824 ∧ 0 ≤ (l.getD i P0).2 ∧ (l.getD i P0).2 ≤ most) ∧
    (∀ i, i + 1 < l.length → (l.getD i P0).1 < (l.getD (i + 1) P0).1 ∧ (l.getD i P0).2 ≤ (l.getD (i + 1) P0).2) ∧
    (0 < l.length → bz < (l.getD 0 P0).1 ∧ br ≤ (l.getD 0 P0).2 ∧ (k = 0 → (l.getD 0 P0).1 ≤ 0)) := by
  intro l
  induction l with
  | nil => intro k bz br _; exact ⟨fun i hi => by simp at hi, fun i hi => by simp at hi, fun h => by simp at h⟩
  | cons p t ih =>
    intro k bz br h
    rw [chkGo] at h
    by_cases hw : win p.1 0 1073741824 = true ∧ win p.2 0 most = true
    · rw [if_neg (by simpa using hw)] at h
      by_cases ho : (k = 0 ∧ 0 < p.1) ∨ p.1 ≤ bz ∨ p.2 < br
      · rw [if_pos ho] at h; omega
      · rw [if_neg ho] at h
        obtain ⟨h1, h2, h3⟩ := ih _ _ _ h
        have w1 := win_iff.1 hw.1
        have w2 := win_iff.1 hw.2
        refine ⟨fun i hi => ?_, fun i hi => ?_, fun _ => ?_⟩
        · cases i with
          | zero => simp; omega
          | succ i => simpa using h1 i (by simpa using hi)
        · cases i with
          | zero =>
            have := h3 (by simpa using hi)
            simpa using ⟨this.1, this.2.1⟩
          | succ i => simpa using h2 i (by simpa using hi)
        · simp; omega
    · rw [if_pos hw] at h; omega
theorem tab_of {l : List (Int × Int)} {most : Int} (h : chk l most = 0) : Tab l most := by
  unfold chk at h
  by_cases h1 : l.length < 2
  · rw [if_pos h1] at h; omega
  rw [if_neg h1] at h
  by_cases h2 : 32 < l.length
  · rw [if_pos h2] at h; omega
  rw [if_neg h2] at h
  obtain ⟨a, b, c⟩ := chkGo_ok most l 0 _ _ h
  have := c (by omega)
  exact ⟨by omega, by have := a 0 (by omega); have := this.1; have := (c (by omega)).2.2 rfl; omega, a, b⟩

/-- The value of a table at a power, rounded down and up. -/
def valGo (z : Int) : List (Int × Int) → Int × Int
  | [] => (0, 0)
  | [p] => (p.2, p.2)
  | p :: q :: t => if z < q.1 then (p.2 + (q.2 - p.2) * (z - p.1) / (q.1 - p.1), p.2 + cdiv ((q.2 - p.2) * (z - p.1)) (q.1 - p.1)) else valGo z (q :: t)
theorem val_drop {l : List (Int × Int)} {k : Nat} (z : Int) (h : k + 1 < l.length) : valGo z (l.drop k) = if z < (l.getD (k + 1) P0).1 then
    ((l.getD k P0).2 + ((l.getD (k + 1) P0).2 - (l.getD k P0).2) * (z - (l.getD k P0).1) / ((l.getD (k + 1) P0).1 - (l.getD k P0).1), (l.getD k P0).2 + cdiv (((l.getD (k + 1) P0).2 - (l.getD k P0).2) * (z - (l.getD k P0).1)) ((l.getD (k + 1) P0).1 - (l.getD k P0).1))
    else valGo z (l.drop (k + 1)) := by
  have e1 : l.drop k = l.getD k P0 :: l.getD (k + 1) P0 :: l.drop (k + 2) := by
    rw [List.drop_eq_getElem_cons (by omega), List.drop_eq_getElem_cons (i := k + 1) (by omega)]
    simp [List.getD, h, show k < l.length by omega]
  have e2 : l.drop (k + 1) = l.getD (k + 1) P0 :: l.drop (k + 2) := by
    rw [List.drop_eq_getElem_cons (i := k + 1) (by omega)]
    simp [List.getD, h]
  rw [e1, e2, valGo]
theorem val_last {l : List (Int × Int)} {k : Nat} (z : Int) (h : k + 1 = l.length) : valGo z (l.drop k) = ((l.getD k P0).2, (l.getD k P0).2) := by
  have e1 : l.drop k = [l.getD k P0] := by
    rw [List.drop_eq_getElem_cons (by omega), List.drop_eq_nil_of_le (by omega)]
    simp [List.getD, show k < l.length by omega]
  rw [e1, valGo]

/-- A product of two numbers within bounds. -/
theorem mul_bd {a b A B : Int} (ha : 0 ≤ a) (haA : a ≤ A) (hb : 0 ≤ b) (hbB : b ≤ B) : 0 ≤ a * b ∧ a * b ≤ A * B :=
  ⟨Int.mul_nonneg ha hb, Int.mul_le_mul haA hbB hb (by omega)⟩

theorem tab_le {l : List (Int × Int)} {most : Int} (hT : Tab l most) {i j : Nat} (h : i ≤ j) (hj : j < l.length) : (l.getD i P0).1 ≤ (l.getD j P0).1 := by
  induction j with
  | zero =>
    obtain rfl : i = 0 := by omega
    exact Int.le_refl _
  | succ j ih =>
    rcases Nat.lt_or_ge i (j + 1) with h1 | h1
    · have := ih (by omega) (by omega); have := (hT.mono j hj).1; omega
    · obtain rfl : i = j + 1 := by omega
      exact Int.le_refl _
/-- From a point on whose power is not above the one that is asked for. -/
theorem val_from {l : List (Int × Int)} {most : Int} (hT : Tab l most) {z : Int} : ∀ k, k < l.length → (l.getD k P0).1 ≤ z → valGo z l = valGo z (l.drop k) := by
  intro k
  induction k with
  | zero => intro _ _; rw [List.drop_zero]
  | succ k ih =>
    intro hk hz
    rw [ih (by omega) (by have := (hT.mono k hk).1; omega), val_drop z hk, if_neg (by omega)]
theorem cdiv_zero (b : Int) : cdiv 0 b = 0 := by simp [cdiv]
theorem val_hit {l : List (Int × Int)} {most : Int} (hT : Tab l most) {z : Int} {i : Nat} (hi : i < l.length) (h : (l.getD i P0).1 = z) : valGo z l = ((l.getD i P0).2, (l.getD i P0).2) := by
  rw [val_from hT i hi (by omega)]
  by_cases hl : i + 1 < l.length
  · rw [val_drop z hl, if_pos (by have := (hT.mono i hl).1; omega), h, Int.sub_self, Int.mul_zero, cdiv_zero]
    simp
  · exact val_last z (by omega)
theorem val_end {l : List (Int × Int)} {most : Int} (hT : Tab l most) {z : Int} {i : Nat} (hi : i + 1 = l.length) (h : (l.getD i P0).1 ≤ z) : valGo z l = ((l.getD i P0).2, (l.getD i P0).2) := by
  rw [val_from hT i (by omega) h]
  exact val_last z hi
theorem val_mid {l : List (Int × Int)} {most : Int} (hT : Tab l most) {z : Int} {i : Nat} (hi : i + 1 < l.length) (h : (l.getD i P0).1 ≤ z) (h2 : z < (l.getD (i + 1) P0).1) : valGo z l =
    ((l.getD i P0).2 + ((l.getD (i + 1) P0).2 - (l.getD i P0).2) * (z - (l.getD i P0).1) / ((l.getD (i + 1) P0).1 - (l.getD i P0).1), (l.getD i P0).2 + cdiv (((l.getD (i + 1) P0).2 - (l.getD i P0).2) * (z - (l.getD i P0).1)) ((l.getD (i + 1) P0).1 - (l.getD i P0).1)) := by
  rw [val_from hT i (by omega) h, val_drop z hi, if_pos h2]
end Go.Proofs.Ytjkelpelmljanaa
namespace Go.Proofs.Ytjkelpelmljanaa
open Go.RowKit

theorem cmp_any (z r t : Int) (w : World) (h1 : 0 ≤ z) (h2 : z ≤ 1073741824) (h3 : 0 ≤ t) (h4 : t ≤ 1073741824) :
    Calls Try.prog 41 #[.agg #[.int .i64 z, .int .i64 r], .int .i64 t] w fun e w' => e = .returned (.int .i64 (z - t)) ∧ Below w.heap.size w w' := by
  go_enter Try.func41, Try.ntmps41
  go_wp2
  go_ret
  exact ⟨rfl, (Below.refl _ _).alloc (Nat.le_refl _) _⟩

def SearchPost (l : List (Int × Int)) (n : Nat) (z : Int) (w : World) (e : Ending) (w' : World) : Prop :=
  ∃ i : Nat, i ≤ n ∧ (∀ k, k < i → (l.getD k P0).1 < z) ∧ (∀ k, i ≤ k → k < n → z ≤ (l.getD k P0).1) ∧ e = .returned (.tuple #[.int .i64 i, .bool (decide (i < n ∧ (l.getD i P0).1 = z))]) ∧ Below w.heap.size w w'

set_option maxHeartbeats 800000 in
theorem search_any (A : Option Addr) (n c : Nat) (l : List (Int × Int)) (most z : Int) (w : World) (hn : l.length = n) (hT : Tab l most) (hz0 : 0 ≤ z) (hz : z ≤ 1073741824) (hl : Ints w w.heap.size .i64 A (flat2 l)) :
    Calls Try.prog 40 #[.slice A n c, .int .i64 z, .func (.func 41) #[] #[]] w (SearchPost l n z w) := by
  obtain ⟨hlen1, hlen2⟩ := hT.len
  obtain ⟨b, off, rfl, hb, hc⟩ := hl.pt (by omega)
  have Hc := hide hc
  have HT := hide hT
  clear hc hl hT
  have Hn := hide hn
  rw [hn] at hlen1 hlen2
  clear hn
  go_enter Try.func40, Try.ntmps40
  go_wp2_with fail
  go_loopw [9, 10] (fun i j wr => ∃ p q : Nat, p ≤ q ∧ q ≤ n ∧ i = .int .i64 p ∧ j = .int .i64 q ∧ Below w.heap.size w wr ∧ (∀ k, k < p → (l.getD k P0).1 < z) ∧ (∀ k, q ≤ k → k < n → z ≤ (l.getD k P0).1))
    (fun i j _ => (intOf j).toNat - (intOf i).toNat)
  case atStart => exact ⟨0, n, by omega, by omega, rfl, rfl, Below.refl _ _, fun k hk => by omega, fun k h1 h2 => by omega⟩
  case round =>
    obtain ⟨p, q, hpq, hqn, rfl, rfl, hbw, hlo, hhi⟩ := hrel
    have Hlo := hide hlo
    have Hhi := hide hhi
    have Hbw := hide hbw
    clear hlo hhi
    by_cases hlt : p < q
    · have hm : (p + q) / 2 < n := by omega
      have hc := Hc.out ((p + q) / 2) (by have := Hn.out; omega)
      have hr := HT.out.rng ((p + q) / 2) (by have := Hn.out; omega)
      have up : ∀ k, k ≤ (p + q) / 2 → (l.getD k P0).1 ≤ (l.getD ((p + q) / 2) P0).1 := fun k hk => tab_le HT.out hk (by have := Hn.out; omega)
      have dn : ∀ k, (p + q) / 2 ≤ k → k < n → (l.getD ((p + q) / 2) P0).1 ≤ (l.getD k P0).1 := fun k hk hk2 => tab_le HT.out hk (by have := Hn.out; omega)
      have Up := hide up
      have Dn := hide dn
      clear up dn
      generalize hze : (l.getD ((p + q) / 2) P0).1 = ze at *
      generalize (l.getD ((p + q) / 2) P0).2 = re at *
      have Hze := hide hze
      clear hze
      obtain ⟨hc0, hc1⟩ := hc
      rw [← hbw.cell hb] at hc0 hc1
      clear hbw
      go_wp2_with (first | (go_at_call 41; refine (cmp_any _ _ _ _ (by omega) (by omega) hz0 hz).mono ?_; rintro e w1 ⟨rfl, hb1⟩))
      · go_roundw
        case rel =>
          exact ⟨(p + q) / 2 + 1, q, by omega, hqn, by go_num, rfl, onward Hbw.out hb1, fun k hk => by have := Up.out k (by omega); omega, Hhi.out⟩
        case measure => simp [intOf]; omega
      · go_roundw
        case rel =>
          exact ⟨p, (p + q) / 2, by omega, by omega, rfl, by go_num, onward Hbw.out hb1, Hlo.out, fun k hk hk2 => by have := Dn.out k hk hk2; omega⟩
        case measure => simp [intOf]; omega
    · obtain rfl : p = q := by omega
      by_cases hpn : p < n
      · have hc := Hc.out p (by have := Hn.out; omega)
        have hr := HT.out.rng p (by have := Hn.out; omega)
        have hge := Hhi.out p (by omega) hpn
        have fin : ∀ w1 : World, Later wr w1 → SearchPost l n z w (.returned (.tuple #[.int .i64 p, .bool ((l.getD p P0).1 - z == 0)])) w1 := fun w1 h1 =>
          ⟨p, by omega, Hlo.out, Hhi.out, by
            have e : ((l.getD p P0).1 - z == 0) = decide (p < n ∧ (l.getD p P0).1 = z) := by
              rw [Bool.eq_iff_iff]; simp; omega
            rw [e], onward Hbw.out h1⟩
        have Fin := hide fin
        clear fin
        generalize (l.getD p P0).1 = ze at *
        generalize (l.getD p P0).2 = re at *
        obtain ⟨hc0, hc1⟩ := hc
        rw [← hbw.cell hb] at hc0 hc1
        clear hbw
        go_wp2_with (first | (go_at_call 41; refine (cmp_any _ _ _ _ (by omega) (by omega) hz0 hz).mono ?_; rintro e w1 ⟨rfl, hb1⟩))
        go_ret2
        exact Fin.out w1 hb1
      · have fin : SearchPost l n z w (.returned (.tuple #[.int .i64 p, .bool false])) wr :=
          ⟨p, by omega, Hlo.out, Hhi.out, by
            have e : false = decide (p < n ∧ (l.getD p P0).1 = z) := by simp; omega
            rw [← e], Hbw.out⟩
        have Fin := hide fin
        clear fin hbw
        go_wp2_with fail
        go_ret2
        exact Fin.out
end Go.Proofs.Ytjkelpelmljanaa
namespace Go.Proofs.Ytjkelpelmljanaa
open Go.RowKit

theorem pzero2 : (Try.prog.info? 62).map (·.zero) = some (some (.agg #[.int .i64 0, .int .i64 0])) := by kernel_rfl
theorem psize2 : (Try.prog.info? 62).map (·.size) = some 2 := by kernel_rfl

/-- A function that rounds: which one, and what it gives. -/
structure Rounds (f : FuncId) (rd : Int → Int → Int) : Prop where
  call : ∀ (a b : Int) (w : World), 0 ≤ a → 1 ≤ b → a ≤ 4611686018427387903 → b ≤ 4611686018427387903 → Calls Try.prog f #[.int .i64 a, .int .i64 b] w fun e w' => e = .returned (.int .i64 (rd a b)) ∧ w = w'
  lo : ∀ a b : Int, 0 ≤ a → 1 ≤ b → 0 ≤ rd a b
  hi : ∀ a b : Int, 0 ≤ a → 1 ≤ b → rd a b ≤ a + b
theorem rounds_down : Rounds 30 (· / ·) := ⟨fun a b w h1 h2 h3 h4 => down_any a b w h1 h2 h3 h4, fun a b h1 h2 => Int.ediv_nonneg h1 (by omega), fun a b h1 h2 => by have := Int.ediv_le_self b h1; omega⟩
theorem rounds_up : Rounds 31 cdiv := ⟨fun a b w h1 h2 h3 h4 => up_anyR a b w h1 h2 h3 h4, fun a b h1 h2 => by rw [cdiv_eq (by omega)]; exact Int.ediv_nonneg (by omega) (by omega),
  fun a b h1 h2 => by rw [cdiv_eq (by omega)]; have := Int.ediv_le_self (a := a + b - 1) b (by omega); omega⟩

/-- What the closure gives: one end of the value. -/
def endOf (rd : Int → Int → Int) (l : List (Int × Int)) (z : Int) (v : Int) : Prop :=
  (∀ i, i < l.length → (l.getD i P0).1 = z → v = (l.getD i P0).2) ∧ (∀ i, i + 1 = l.length → (l.getD i P0).1 ≤ z → v = (l.getD i P0).2) ∧
  (∀ i, i + 1 < l.length → (l.getD i P0).1 ≤ z → z < (l.getD (i + 1) P0).1 → (l.getD i P0).1 ≠ z → v = (l.getD i P0).2 + rd (((l.getD (i + 1) P0).2 - (l.getD i P0).2) * (z - (l.getD i P0).1)) ((l.getD (i + 1) P0).1 - (l.getD i P0).1))
theorem end_down {l : List (Int × Int)} {most : Int} (hT : Tab l most) (z : Int) : endOf (· / ·) l z (valGo z l).1 :=
  ⟨fun i hi h => by rw [val_hit hT hi h], fun i hi h => by rw [val_end hT hi h], fun i hi h h2 _ => by rw [val_mid hT hi h h2]⟩
theorem end_up {l : List (Int × Int)} {most : Int} (hT : Tab l most) (z : Int) : endOf cdiv l z (valGo z l).2 :=
  ⟨fun i hi h => by rw [val_hit hT hi h], fun i hi h => by rw [val_end hT hi h], fun i hi h h2 _ => by rw [val_mid hT hi h h2]⟩

set_option maxHeartbeats 1000000 in
theorem worth1_down (A : Option Addr) (n c : Nat) (l : List (Int × Int)) (most z v : Int) (g : Nat) (w : World) (hn : l.length = n) (hT : Tab l most) (hmost : most ≤ 1073741824) (hz0 : 0 ≤ z) (hz : z ≤ 1073741824) (hl : Ints w w.heap.size .i64 A (flat2 l))
    (hg : Blk w g 25 #[.slice A n c]) (hv : endOf (· / ·) l z v) :
    Calls Try.prog 39 #[.int .i64 z, .func (.func 30) #[] #[], .pointer (some ⟨g, 0, none⟩)] w fun e w' => e = .returned (.int .i64 v) ∧ Below w.heap.size w w' := by
  have HT := hide hT
  have hlen := hT.len
  obtain ⟨b, off, hA, hb, hc⟩ := hl.pt (by omega)
  have Hc := hide hc
  have Hv := hide hv
  have HR := hide rounds_down
  have hS := search_any A n c l most z w hn hT hz0 hz hl
  have Hn := hide hn
  rw [hn] at hlen
  have hgc : w.cell? ⟨g, 0, none⟩ = some (.slice A n c) := hg.c 0 rfl
  have hglt := hg.lt
  subst hA
  clear hc hl hT hv hn
  go_enter Try.func39, Try.ntmps39
  go_wp2_with fail
  refine hS.mono ?_
  rintro e w1 ⟨i, hin, hlo, hhi, rfl, hb1⟩
  have hc1 : w1.cell? ⟨g, 0, none⟩ = some (.slice (some ⟨b, off, none⟩) n c) := (hb1.cell hglt).trans hgc
  have Hlo := hide hlo
  have Hhi := hide hhi
  have HB1 := hide hb1
  have hsz := hb1.size
  clear hlo hhi hb1 hgc hg hS
  by_cases h1 : i < n
  · by_cases h2 : (l.getD i P0).1 = z
    · have hd : decide (i < n ∧ (l.getD i P0).1 = z) = true := decide_eq_true ⟨h1, h2⟩
      rw [hd]
      have hc := Hc.out i (by have := Hn.out; omega)
      have hv := Hv.out.1 i (by have := Hn.out; omega) h2
      rw [← hv] at hc
      have hc2 := hc.2
      rw [← HB1.out.cell hb] at hc2
      clear hc hv hd h2
      go_wp2
      go_ret
      exact ⟨rfl, HB1.out⟩
    · have hd : decide (i < n ∧ (l.getD i P0).1 = z) = false := decide_eq_false fun h => h2 h.2
      rw [hd]
      have hge := Hhi.out i (by omega) h1
      have hi0 : i ≠ 0 := by rintro rfl; have := HT.out.z0; omega
      obtain ⟨j, rfl⟩ : ∃ j, i = j + 1 := ⟨i - 1, by omega⟩
      have hlt := Hlo.out j (by omega)
      have hv := Hv.out.2.2 j (by have := Hn.out; omega) (by omega) (by omega) (by omega)
      have hc := Hc.out j (by have := Hn.out; omega)
      have hd := Hc.out (j + 1) (by have := Hn.out; omega)
      have hr1 := HT.out.rng j (by have := Hn.out; omega)
      have hr2 := HT.out.rng (j + 1) (by have := Hn.out; omega)
      have hm := HT.out.mono j (by have := Hn.out; omega)
      clear hi0
      generalize (l.getD j P0).1 = z1 at *
      generalize (l.getD j P0).2 = r1 at *
      generalize (l.getD (j + 1) P0).1 = z2 at *
      generalize (l.getD (j + 1) P0).2 = r2 at *
      have Hv := hide hv
      clear hv h2
      obtain ⟨hc0, hc2⟩ := hc
      obtain ⟨hd0, hd2⟩ := hd
      rw [← HB1.out.cell hb] at hc0 hc2 hd0 hd2
      have q0 : (((j : Int) + 1) == (n : Int)) = false := beq_eq_false_iff_ne.2 (by omega)
      go_wp2_with fail
      refine wp_region_R (fun k => k < w1.heap.size) 13 (by kernel_rfl) ?_
      apply anyR_peel (fuel := 4) 13 [true, true, true, true, true, true, true, true, true, false, false, false, false] #[true, true, true, true, true, true, true, true, true, false, false, false, false] (by kernel_rfl) rfl (fun j hj => decide_eq_true hj) (fun k hk => by first | exact hk | omega | (simp at hk ⊢; omega))
      · intro D hD
        have hne := hD.some
        have g0 := liftB hD hc1 (by omega)
        have c0 := liftB hD hc0 (by omega)
        have c2 := liftB hD hc2 (by omega)
        have d0 := liftB hD hd0 (by omega)
        have d2 := liftB hD hd2 (by omega)
        simp only [takeOps]
        repeat (go_big_quiet_step (fail))
        exact wpQuiet_nil rfl
      refine anyR_pair (f := 0) 9 10 11 12 _ _ 8 9 38 42 _ _ #[.int .i64 z1, .int .i64 r1] #[.int .i64 z2, .int .i64 r2] (by kernel_rfl) rfl pzero2 psize2 rfl pzero2 psize2 rfl (by exact of_decide_eq_true rfl) (by exact of_decide_eq_true rfl) rfl rfl (one2 _ _) (one2 _ _) (fun k hk => hk) ?_
      intro g1 g2 w2 hg1 hg2 hne hb2 hbk1 hbk2
      simp only [Act.put, List.setIfInBounds_toArray, List.set_cons_succ, List.set_cons_zero]
      have HB2 := hide (onward HB1.out hb2)
      obtain ⟨c0, c1⟩ := hbk1.c2
      obtain ⟨d0, d1⟩ := hbk2.c2
      have hg1' := hbk1.lt
      have hg2' := hbk2.lt
      clear hbk1 hbk2 hc0 hc2 hd0 hd2 hb2 hc1
      have hp1 := mul_bd (a := r2 - r1) (b := z - z1) (A := 1073741824) (B := 1073741824) (by omega) (by omega) (by omega) (by omega)
      have q2 : (r2 - r1) * (z - z1) ≤ 4611686018427387903 := by omega
      have q3 : 0 ≤ (r2 - r1) * (z - z1) / (z2 - z1) := HR.out.lo ((r2 - r1) * (z - z1)) (z2 - z1) hp1.1 (by omega)
      have q4 : (r2 - r1) * (z - z1) / (z2 - z1) ≤ (r2 - r1) * (z - z1) + (z2 - z1) := HR.out.hi ((r2 - r1) * (z - z1)) (z2 - z1) hp1.1 (by omega)
      have q5 := hp1.1
      clear hp1
      go_wp2_with fail
      go_quiet ((go_at_call 30; first | exact quiet_left (down_anyR _ _ _ q5 (by omega) q2 (by omega)) | exact quiet_left (down_any _ _ _ q5 (by omega) q2 (by omega))))
      go_wp2
      go_ret
      exact ⟨(ret_int Hv.out).symm, below_drewN HB2.out _⟩
  · obtain rfl : i = n := by omega
    obtain ⟨j, rfl⟩ : ∃ j, i = j + 1 := ⟨i - 1, by omega⟩
    have hd : decide (j + 1 < j + 1 ∧ (l.getD (j + 1) P0).1 = z) = false := decide_eq_false fun h => by omega
    rw [hd]
    have hlt := Hlo.out j (by omega)
    have hv := Hv.out.2.1 j (by have := Hn.out; omega) (by omega)
    have hc := Hc.out j (by have := Hn.out; omega)
    rw [← hv] at hc
    have hc2 := hc.2
    rw [← HB1.out.cell hb] at hc2
    clear hc hv hd
    go_wp2
    go_ret
    exact ⟨rfl, HB1.out⟩

set_option maxHeartbeats 1000000 in
theorem worth1_up (A : Option Addr) (n c : Nat) (l : List (Int × Int)) (most z v : Int) (g : Nat) (w : World) (hn : l.length = n) (hT : Tab l most) (hmost : most ≤ 1073741824) (hz0 : 0 ≤ z) (hz : z ≤ 1073741824) (hl : Ints w w.heap.size .i64 A (flat2 l))
    (hg : Blk w g 25 #[.slice A n c]) (hv : endOf cdiv l z v) :
    Calls Try.prog 39 #[.int .i64 z, .func (.func 31) #[] #[], .pointer (some ⟨g, 0, none⟩)] w fun e w' => e = .returned (.int .i64 v) ∧ Below w.heap.size w w' := by
  have HT := hide hT
  have hlen := hT.len
  obtain ⟨b, off, hA, hb, hc⟩ := hl.pt (by omega)
  have Hc := hide hc
  have Hv := hide hv
  have HR := hide rounds_up
  have hS := search_any A n c l most z w hn hT hz0 hz hl
  have Hn := hide hn
  rw [hn] at hlen
  have hgc : w.cell? ⟨g, 0, none⟩ = some (.slice A n c) := hg.c 0 rfl
  have hglt := hg.lt
  subst hA
  clear hc hl hT hv hn
  go_enter Try.func39, Try.ntmps39
  go_wp2_with fail
  refine hS.mono ?_
  rintro e w1 ⟨i, hin, hlo, hhi, rfl, hb1⟩
  have hc1 : w1.cell? ⟨g, 0, none⟩ = some (.slice (some ⟨b, off, none⟩) n c) := (hb1.cell hglt).trans hgc
  have Hlo := hide hlo
  have Hhi := hide hhi
  have HB1 := hide hb1
  have hsz := hb1.size
  clear hlo hhi hb1 hgc hg hS
  by_cases h1 : i < n
  · by_cases h2 : (l.getD i P0).1 = z
    · have hd : decide (i < n ∧ (l.getD i P0).1 = z) = true := decide_eq_true ⟨h1, h2⟩
      rw [hd]
      have hc := Hc.out i (by have := Hn.out; omega)
      have hv := Hv.out.1 i (by have := Hn.out; omega) h2
      rw [← hv] at hc
      have hc2 := hc.2
      rw [← HB1.out.cell hb] at hc2
      clear hc hv hd h2
      go_wp2
      go_ret
      exact ⟨rfl, HB1.out⟩
    · have hd : decide (i < n ∧ (l.getD i P0).1 = z) = false := decide_eq_false fun h => h2 h.2
      rw [hd]
      have hge := Hhi.out i (by omega) h1
      have hi0 : i ≠ 0 := by rintro rfl; have := HT.out.z0; omega
      obtain ⟨j, rfl⟩ : ∃ j, i = j + 1 := ⟨i - 1, by omega⟩
      have hlt := Hlo.out j (by omega)
      have hv := Hv.out.2.2 j (by have := Hn.out; omega) (by omega) (by omega) (by omega)
      have hc := Hc.out j (by have := Hn.out; omega)
      have hd := Hc.out (j + 1) (by have := Hn.out; omega)
      have hr1 := HT.out.rng j (by have := Hn.out; omega)
      have hr2 := HT.out.rng (j + 1) (by have := Hn.out; omega)
      have hm := HT.out.mono j (by have := Hn.out; omega)
      clear hi0
      generalize (l.getD j P0).1 = z1 at *
      generalize (l.getD j P0).2 = r1 at *
      generalize (l.getD (j + 1) P0).1 = z2 at *
      generalize (l.getD (j + 1) P0).2 = r2 at *
      have Hv := hide hv
      clear hv h2
      obtain ⟨hc0, hc2⟩ := hc
      obtain ⟨hd0, hd2⟩ := hd
      rw [← HB1.out.cell hb] at hc0 hc2 hd0 hd2
      have q0 : (((j : Int) + 1) == (n : Int)) = false := beq_eq_false_iff_ne.2 (by omega)
      go_wp2_with fail
      refine wp_region_R (fun k => k < w1.heap.size) 13 (by kernel_rfl) ?_
      apply anyR_peel (fuel := 4) 13 [true, true, true, true, true, true, true, true, true, false, false, false, false] #[true, true, true, true, true, true, true, true, true, false, false, false, false] (by kernel_rfl) rfl (fun j hj => decide_eq_true hj) (fun k hk => by first | exact hk | omega | (simp at hk ⊢; omega))
      · intro D hD
        have hne := hD.some
        have g0 := liftB hD hc1 (by omega)
        have c0 := liftB hD hc0 (by omega)
        have c2 := liftB hD hc2 (by omega)
        have d0 := liftB hD hd0 (by omega)
        have d2 := liftB hD hd2 (by omega)
        simp only [takeOps]
        repeat (go_big_quiet_step (fail))
        exact wpQuiet_nil rfl
      refine anyR_pair (f := 0) 9 10 11 12 _ _ 8 9 38 42 _ _ #[.int .i64 z1, .int .i64 r1] #[.int .i64 z2, .int .i64 r2] (by kernel_rfl) rfl pzero2 psize2 rfl pzero2 psize2 rfl (by exact of_decide_eq_true rfl) (by exact of_decide_eq_true rfl) rfl rfl (one2 _ _) (one2 _ _) (fun k hk => hk) ?_
      intro g1 g2 w2 hg1 hg2 hne hb2 hbk1 hbk2
      simp only [Act.put, List.setIfInBounds_toArray, List.set_cons_succ, List.set_cons_zero]
      have HB2 := hide (onward HB1.out hb2)
      obtain ⟨c0, c1⟩ := hbk1.c2
      obtain ⟨d0, d1⟩ := hbk2.c2
      have hg1' := hbk1.lt
      have hg2' := hbk2.lt
      clear hbk1 hbk2 hc0 hc2 hd0 hd2 hb2 hc1
      have hp1 := mul_bd (a := r2 - r1) (b := z - z1) (A := 1073741824) (B := 1073741824) (by omega) (by omega) (by omega) (by omega)
      have q2 : (r2 - r1) * (z - z1) ≤ 4611686018427387903 := by omega
      have q3 : 0 ≤ cdiv ((r2 - r1) * (z - z1)) (z2 - z1) := HR.out.lo ((r2 - r1) * (z - z1)) (z2 - z1) hp1.1 (by omega)
      have q4 : cdiv ((r2 - r1) * (z - z1)) (z2 - z1) ≤ (r2 - r1) * (z - z1) + (z2 - z1) := HR.out.hi ((r2 - r1) * (z - z1)) (z2 - z1) hp1.1 (by omega)
      have q5 := hp1.1
      clear hp1
      go_wp2_with fail
      go_quiet ((go_at_call 31; first | exact quiet_left (up_anyR _ _ _ q5 (by omega) q2 (by omega)) | exact quiet_left (up_any _ _ _ q5 (by omega) q2 (by omega))))
      go_wp2
      go_ret
      exact ⟨(ret_int Hv.out).symm, below_drewN HB2.out _⟩
  · obtain rfl : i = n := by omega
    obtain ⟨j, rfl⟩ : ∃ j, i = j + 1 := ⟨i - 1, by omega⟩
    have hd : decide (j + 1 < j + 1 ∧ (l.getD (j + 1) P0).1 = z) = false := decide_eq_false fun h => by omega
    rw [hd]
    have hlt := Hlo.out j (by omega)
    have hv := Hv.out.2.1 j (by have := Hn.out; omega) (by omega)
    have hc := Hc.out j (by have := Hn.out; omega)
    rw [← hv] at hc
    have hc2 := hc.2
    rw [← HB1.out.cell hb] at hc2
    clear hc hv hd
    go_wp2
    go_ret
    exact ⟨rfl, HB1.out⟩

/-- The closure over a table. -/
theorem worth_any (A : Option Addr) (n c : Nat) (w : World) :
    Calls Try.prog 29 #[.slice A n c] w fun e w' => e = .returned (.func (.func 39) #[] #[.pointer (some ⟨w.heap.size, 0, none⟩)]) ∧ w.alloc (.cells #[.slice A n c] 25) = w' := by
  have hmf : ∀ (fn : Fn) (first cap : Array Value) (w : World), (Instr.makeFunc fn first cap).run Try.prog w = .ok (.func fn first cap) w := fun _ _ _ _ => rfl
  go_enter Try.func29, Try.ntmps29
  go_wp2
  go_ret
  exact ⟨rfl, rfl⟩
end Go.Proofs.Ytjkelpelmljanaa
namespace Go.Proofs.Ytjkelpelmljanaa
open Go.RowKit

set_option maxHeartbeats 400000 in
theorem CheckTable_any (A : Option Addr) (n c : Nat) (l : List (Int × Int)) (most : Int) (w : World) (hn : l.length = n) (hmax : n ≤ 9223372036854775807) (hl : Ints w w.heap.size .i64 A (flat2 l)) :
    Calls Try.prog 4 #[.slice A n c, .int .i64 most] w fun e w' => e = .returned (.int .i64 (chk l most)) ∧ Below w.heap.size w w' := by
  by_cases h2 : (n : Int) < 2
  · have hs : chk l most = 18 := by unfold chk; rw [if_pos (by omega)]
    have Hs := hide hs
    clear hs
    clear hn
    go_enter Try.func4, Try.ntmps4
    go_wp2
    go_ret
    exact ⟨(ret_int Hs.out).symm, Below.refl _ _⟩
  by_cases h3 : (32 : Int) < n
  · have hs : chk l most = 9 := by unfold chk; rw [if_neg (by omega), if_pos (by omega)]
    have Hs := hide hs
    clear hs
    clear hn
    go_enter Try.func4, Try.ntmps4
    go_wp2
    go_ret
    exact ⟨(ret_int Hs.out).symm, Below.refl _ _⟩
  have hs : chk l most = chkGo most 0 (-1) 0 l := by unfold chk; rw [if_neg (by omega), if_neg (by omega)]
  have Hs := hide hs
  clear hs
  obtain ⟨b, off, rfl, hb, hc⟩ := hl.pt (by omega)
  have Hc := hide hc
  clear hc hl
  have Hn := hide hn
  clear hn
  go_enter Try.func4, Try.ntmps4
  go_wp2_with fail
  go_loopw [19] (fun i wr => ∃ (k : Nat) (bz br : Int), k ≤ n ∧ i = .int .i64 k ∧ Below w.heap.size w wr ∧ w.heap.size < wr.heap.size ∧ Blk wr w.heap.size 62 #[.int .i64 bz, .int .i64 br] ∧ chkGo most k bz br (l.drop k) = chkGo most 0 (-1) 0 l)
    (fun i _ => n - (intOf i).toNat)
  case atStart => exact ⟨0, -1, 0, by omega, rfl, (Below.refl _ _).alloc (Nat.le_refl _) _, by simp, Blk.new _ _ _, rfl⟩
  case round =>
    obtain ⟨k, bz, br, hk, rfl, hbw, hsz, hbl, hg⟩ := hrel
    have Hg := hide hg
    have Hb := hide hbl
    have b0 := hbl.cell 0
    have b1 := hbl.cell 1
    have f0 := hbl.frozen 0
    have f1 := hbl.frozen 1
    clear hg hbl
    simp only [List.getElem?_toArray, List.getElem?_cons_zero, List.getElem?_cons_succ] at b0 b1
    by_cases hlt : k < n
    · have hc := Hc.out k (by have := Hn.out; omega)
      have hd := chkGo_drop most k bz br l k (by have := Hn.out; omega)
      rw [Hg.out] at hd
      generalize (l.getD k (0, 0)).1 = z at hc hd
      generalize (l.getD k (0, 0)).2 = r at hc hd
      have Hd := hide hd
      clear hd
      obtain ⟨hc0, hc1⟩ := hc
      rw [← hbw.cell hb] at hc0 hc1
      have Hbw := hide hbw
      clear hbw
      by_cases hw1 : win z 0 1073741824 = true
      · by_cases hw2 : win r 0 most = true
        · go_wp2_with (first | (go_at_call 15; refine (within_anyR _ _ _ _).mono ?_; rintro e w' ⟨rfl, rfl⟩))
          all_goals first
            | (go_ret
               have hd := Hd.out
               rw [if_neg (by simp [hw1, hw2]), if_pos (by omega)] at hd
               exact ⟨(ret_int (Hs.out.trans hd)).symm, Hbw.out.alloc (by omega) _⟩)
            | (go_roundw
               case rel =>
                 have hd := Hd.out
                 rw [if_neg (by simp [hw1, hw2]), if_neg (by omega)] at hd
                 exact ⟨k + 1, z, r, by omega, by go_num, ((Hbw.out.setCell (by simp) _).setCell (by simp) _).alloc (by simp; omega) _, by simp; omega, (((Hb.out.set_ 0 _).set_ 1 _).alloc _), hd.symm⟩
               case measure => simp [intOf]; omega)
        · have hw3 : win r 0 most = false := by simpa using hw2
          go_wp2_with (first | (go_at_call 15; refine (within_anyR _ _ _ _).mono ?_; rintro e w' ⟨rfl, rfl⟩))
          go_ret
          have hd := Hd.out
          rw [if_pos (by simp [hw3])] at hd
          exact ⟨(ret_int (Hs.out.trans hd)).symm, Hbw.out.alloc (by omega) _⟩
      · have hw3 : win z 0 1073741824 = false := by simpa using hw1
        go_wp2_with (first | (go_at_call 15; refine (within_anyR _ _ _ _).mono ?_; rintro e w' ⟨rfl, rfl⟩))
        go_ret
        have hd := Hd.out
        rw [if_pos (by simp [hw3])] at hd
        exact ⟨(ret_int (Hs.out.trans hd)).symm, Hbw.out.alloc (by omega) _⟩
    · have hz := Hg.out
      rw [chkGo_end _ _ _ _ _ _ (by have := Hn.out; omega)] at hz
      have Hz := hide hz
      clear hz
      go_wp2
      go_ret
      exact ⟨(ret_int (Hs.out.trans Hz.out.symm)).symm, hbw⟩
end Go.Proofs.Ytjkelpelmljanaa
namespace Go.Proofs.Ytjkelpelmljanaa
open Go.RowKit

end Go.Proofs.Ytjkelpelmljanaa
namespace Go.Proofs.Ytjkelpelmljanaa
open Go.RowKit

/-- What Value returns. -/
def valueR (l : List (Int × Int)) (z : Int) : (Int × Int) × Int := if chk l 1073741824 ≠ 0 then ((0, 0), chk l 1073741824) else if win z 0 1073741824 = false then ((0, 0), 3) else (valGo z l, 0)
def spanV (s : Int × Int) : Value := .agg #[.int .i64 s.1, .int .i64 s.2]
def spanER (s : (Int × Int) × Int) : Value := .tuple #[.agg #[.int .i64 s.1.1, .int .i64 s.1.2], .int .i64 s.2]

set_option maxHeartbeats 800000 in
theorem Value_anyR (A : Option Addr) (n c : Nat) (l : List (Int × Int)) (z : Int) (w : World) (hn : l.length = n) (hmax : n ≤ 9223372036854775807) (hl : Ints w w.heap.size .i64 A (flat2 l)) :
    Calls Try.prog 12 #[.slice A n c, .int .i64 z] w fun e w' => e = .returned (spanER (valueR l z)) ∧ Below w.heap.size w w' := by
  have hb0 : Below w.heap.size w (w.alloc (.cells #[.int .i64 0, .int .i64 0] 35)) := (Below.refl _ _).alloc (Nat.le_refl _) _
  have hchk := CheckTable_any A n c l 1073741824 (w.alloc (.cells #[.int .i64 0, .int .i64 0] 35)) hn hmax ((hl.below hb0).more (by simp))
  by_cases h1 : chk l 1073741824 = 0
  · have hT := tab_of h1
    have HT := hide hT
    by_cases h2 : win z 0 1073741824 = true
    · have hz := win_iff.1 h2
      have hR : valueR l z = (valGo z l, 0) := by simp [valueR, h1, h2]
      have HR := hide hR
      have H1 := hide h1
      have Hl := hide hl
      have Hn := hide hn
      have Hb0 := hide hb0
      rw [h1] at hchk
      clear hR h1 hl hT hn hb0
      go_enter Try.func12, Try.ntmps12
      go_wp2_with fail
      refine hchk.mono ?_
      rintro e w1 ⟨rfl, hb1⟩
      clear hchk
      have hB1 := Hb0.out.trans (hb1.mono (by simp))
      have HB1 := hide hB1
      have hbk : Blk w1 w.heap.size 35 #[.int .i64 0, .int .i64 0] := (Blk.new w _ _).below hb1 (by simp)
      have Hbk := hide hbk
      clear hb1 hB1 hbk
      go_wp2_with (first | (go_at_call 15; refine (within_anyR _ _ _ _).mono ?_; rintro e w' ⟨rfl, rfl⟩) | (go_at_call 29; refine (worth_any _ _ _ _).mono ?_; rintro e w' ⟨rfl, rfl⟩))
      have hs1 := HB1.out.size
      have bw : Below w.heap.size w (w1.alloc (.cells #[.slice A n c] 25)) := HB1.out.alloc hs1 _
      refine (worth1_down A n c l 1073741824 z (valGo z l).1 w1.heap.size _ Hn.out HT.out (Int.le_refl _) hz.1 hz.2 ((Hl.out.below bw).more (by simp; omega)) (Blk.new _ _ _) (end_down HT.out z)).mono ?_
      rintro e w2 ⟨rfl, hb2⟩
      have bw2 := bw.trans (hb2.mono (by simp; omega))
      have bk2 : Blk w2 w1.heap.size 25 #[.slice A n c] := (Blk.new w1 _ _).below hb2 (by simp)
      have hbk2 : Blk w2 w.heap.size 35 #[.int .i64 0, .int .i64 0] := (Hbk.out.alloc _).below hb2 (by have := Hbk.out.lt; simp; omega)
      have Hbk2 := hide hbk2
      clear hb2 bw hbk2
      go_wp2_with fail
      refine (worth1_up A n c l 1073741824 z (valGo z l).2 w1.heap.size _ Hn.out HT.out (Int.le_refl _) hz.1 hz.2 ((Hl.out.below bw2).more bw2.size) bk2 (end_up HT.out z)).mono ?_
      rintro e w3 ⟨rfl, hb3⟩
      have hbk3 := Hbk2.out.below hb3 Hbk2.out.lt
      have HB3 := hide (onward bw2 hb3)
      obtain ⟨e0, e1⟩ := hbk3.c2
      have f0 := hbk3.frozen 0
      have f1 := hbk3.frozen 1
      clear hb3 bw2 bk2 hbk3
      go_wp2
      refine bodyPost_ret (v := spanER (valueR l z)) (by rw [HR.out]; simp [spanER, results, Try.results12, go_sem, e0, e1]) rfl ⟨rfl, ?_⟩
      exact (HB3.out.setCell (by simp) _).setCell (by simp) _
    · have h3 : win z 0 1073741824 = false := by simpa using h2
      have hR : valueR l z = ((0, 0), 3) := by simp [valueR, h1, h3]
      have HR := hide hR
      have Hb0 := hide hb0
      rw [h1] at hchk
      clear hR h1 hl hT HT hn hb0 h2
      go_enter Try.func12, Try.ntmps12
      go_wp2_with fail
      refine hchk.mono ?_
      rintro e w1 ⟨rfl, hb1⟩
      clear hchk
      have HB1 := hide (Hb0.out.trans (hb1.mono (by simp)))
      have hbk : Blk w1 w.heap.size 35 #[.int .i64 0, .int .i64 0] := (Blk.new w _ _).below hb1 (by simp)
      obtain ⟨e0, e1⟩ := hbk.c2
      have f0 := hbk.frozen 0
      have f1 := hbk.frozen 1
      clear hb1 hbk
      go_wp2_with (first | (go_at_call 15; refine (within_anyR _ _ _ _).mono ?_; rintro e w' ⟨rfl, rfl⟩))
      refine bodyPost_ret (v := spanER (valueR l z)) (by rw [HR.out]; simp [spanER, results, Try.results12, go_sem, e0, e1]) rfl ⟨rfl, ?_⟩
      exact (HB1.out.setCell (by simp) _).setCell (by simp) _
  · have hR : valueR l z = ((0, 0), chk l 1073741824) := by simp [valueR, h1]
    have HR := hide hR
    have Hb0 := hide hb0
    have h3 : (chk l 1073741824 != 0) = true := by simpa [bne] using h1
    clear hR h1 hl hn hb0
    generalize chk l 1073741824 = ck at *
    go_enter Try.func12, Try.ntmps12
    go_wp2_with fail
    refine hchk.mono ?_
    rintro e w1 ⟨rfl, hb1⟩
    clear hchk
    have HB1 := hide (Hb0.out.trans (hb1.mono (by simp)))
    have hbk : Blk w1 w.heap.size 35 #[.int .i64 0, .int .i64 0] := (Blk.new w _ _).below hb1 (by simp)
    obtain ⟨e0, e1⟩ := hbk.c2
    have f0 := hbk.frozen 0
    have f1 := hbk.frozen 1
    clear hb1 hbk
    go_wp2
    refine bodyPost_ret (v := spanER (valueR l z)) (by rw [HR.out]; simp [spanER, results, Try.results12, go_sem, e0, e1]) rfl ⟨rfl, ?_⟩
    exact (HB1.out.setCell (by simp) _).setCell (by simp) _

end Go.Proofs.Ytjkelpelmljanaa
