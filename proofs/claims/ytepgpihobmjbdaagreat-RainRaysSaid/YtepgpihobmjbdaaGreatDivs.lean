/-
  Plain functions that say what package rain and its reference compute, on lists and integers; no program in sight.
  Quotients rounded down and up; no program in sight.
  Tables and their values; no program in sight.
  What passes, what is restored and filled: plain functions and their bounds; no program in sight.
  What is restored of what was measured: plain functions and their bounds; no program in sight.
  Gauges: what fell; no program in sight.
  Sums of records: what Sum computes, on the cells of the readings; no program in sight.
  Sums of records, as the reference adds them up: each piece times the slack; no program in sight.
  The scales that suit pairs of a sum and a gauge: what rain and the reference compute; no program in sight.
  Words for memory that every text of this seat uses: a row of integer cells that a slice value reads as, a block that is known whole, and what is kept below a block number. Plain theorems over any program; nothing of the seat's own program is named.
  Contracts of the small functions of package rain and of the reference: bounds, quotients rounded down and up.
  Contracts of the functions that round quotients: rain's and the reference's.
-/
import Derived.WalkKit
import Derived.WalkSpells
import Derived.WalkLawsBesides
import Derived.Deep.Draws
import Derived.Test.YtepgpihobmjbdaaGreatProg
import Derived.Handy
set_option linter.unusedSimpArgs false
set_option linter.unusedVariables false
namespace Go.Proofs.YtepgpihobmjbdaaGreat

def win (n lo hi : Int) : Bool := decide (lo ≤ n ∧ n ≤ hi)
theorem win_iff {n lo hi : Int} : win n lo hi = true ↔ lo ≤ n ∧ n ≤ hi := by simp [win]
theorem win_no {n lo hi : Int} : win n lo hi = false ↔ ¬ (lo ≤ n ∧ n ≤ hi) := by simp [win]
def ins (a b most : Int) : Bool := decide (0 ≤ a ∧ a ≤ b ∧ b ≤ most)

def flat2 : List (Int × Int) → List Int
  | [] => []
  | p :: t => p.1 :: p.2 :: flat2 t
theorem flat2_length (l : List (Int × Int)) : (flat2 l).length = l.length * 2 := by
  induction l with
  | nil => rfl
  | cons p t ih => simp [flat2, ih]; omega
theorem flat2_0 (l : List (Int × Int)) : ∀ k, (flat2 l).getD (k * 2) 0 = (l.getD k (0, 0)).1 := by
  induction l with
  | nil => intro k; simp [flat2]
  | cons p t ih =>
    intro k
    cases k with
    | zero => simp [flat2]
    | succ k => have := ih k; rw [show (k + 1) * 2 = k * 2 + 1 + 1 by omega]; simpa [flat2] using this
theorem flat2_1 (l : List (Int × Int)) : ∀ k, (flat2 l).getD (k * 2 + 1) 0 = (l.getD k (0, 0)).2 := by
  induction l with
  | nil => intro k; simp [flat2]
  | cons p t ih =>
    intro k
    cases k with
    | zero => simp [flat2]
    | succ k => have := ih k; rw [show (k + 1) * 2 + 1 = k * 2 + 1 + 1 + 1 by omega]; simpa [flat2] using this
theorem flat2_append (a b : List (Int × Int)) : flat2 (a ++ b) = flat2 a ++ flat2 b := by
  induction a with
  | nil => rfl
  | cons p t ih => simp [flat2, ih]

def chkGo (most : Int) (k : Nat) (bz br : Int) : List (Int × Int) → Int
  | [] => 0
  | p :: t => if ¬ (win p.1 0 1073741824 = true ∧ win p.2 0 most = true) then 3 else if (k = 0 ∧ 0 < p.1) ∨ p.1 ≤ bz ∨ p.2 < br then 12 else chkGo most (k + 1) p.1 p.2 t
def chk (l : List (Int × Int)) (most : Int) : Int := if l.length < 2 then 18 else if 32 < l.length then 9 else chkGo most 0 (-1) 0 l
theorem chkGo_drop (most : Int) (i : Nat) (bz br : Int) (l : List (Int × Int)) (k : Nat) (hk : k < l.length) : chkGo most i bz br (l.drop k) =
    if ¬ (win (l.getD k (0, 0)).1 0 1073741824 = true ∧ win (l.getD k (0, 0)).2 0 most = true) then 3 else if (i = 0 ∧ 0 < (l.getD k (0, 0)).1) ∨ (l.getD k (0, 0)).1 ≤ bz ∨ (l.getD k (0, 0)).2 < br then 12
    else chkGo most (i + 1) (l.getD k (0, 0)).1 (l.getD k (0, 0)).2 (l.drop (k + 1)) := by
  rw [List.drop_eq_getElem_cons hk, chkGo]
  simp [List.getD, hk]
theorem chkGo_end (most : Int) (i : Nat) (bz br : Int) (l : List (Int × Int)) (k : Nat) (hk : l.length ≤ k) : chkGo most i bz br (l.drop k) = 0 := by
  rw [List.drop_eq_nil_of_le hk, chkGo]
def pz (l : List (Int × Int)) (k : Nat) : Int := if k = 0 then -1 else (l.getD (k - 1) (0, 0)).1
def pr (l : List (Int × Int)) (k : Nat) : Int := if k = 0 then 0 else (l.getD (k - 1) (0, 0)).2
end Go.Proofs.YtepgpihobmjbdaaGreat
namespace Go.Proofs.YtepgpihobmjbdaaGreat

/-- The quotient rounded up. -/
def cdiv (a b : Int) : Int := -((-a) / b)
theorem cdiv_eq {a b : Int} (hb : 0 < b) : cdiv a b = (a + b - 1) / b := by
  unfold cdiv
  have h1 := Int.mul_ediv_add_emod (a + b - 1) b
  have h2 := Int.emod_nonneg (a + b - 1) (Int.ne_of_gt hb)
  have h3 := Int.emod_lt_of_pos (a + b - 1) hb
  generalize (a + b - 1) / b = q at *
  generalize (a + b - 1) % b = r at *
  have : (-a) / b = -q := by
    have e : -a = (b - 1 - r) + b * (-q) := by rw [Int.mul_neg]; omega
    rw [e, Int.add_mul_ediv_left _ _ (Int.ne_of_gt hb), Int.ediv_eq_zero_of_lt (by omega) (by omega)]
    omega
  rw [this, Int.neg_neg]
/-- Go's quotient, turned down where the remainder is below 0. -/
theorem tdiv_floor {a b : Int} (hb : 0 < b) : a / b = if Int.tmod a b < 0 then Int.tdiv a b - 1 else Int.tdiv a b := by
  have h1 := Int.mul_tdiv_add_tmod a b
  have h4 : (a.tmod b).natAbs < b.natAbs := by rw [Int.natAbs_tmod]; exact Nat.mod_lt _ (by omega)
  generalize Int.tdiv a b = q at *
  generalize Int.tmod a b = r at *
  split
  · have e : a = (r + b) + b * (q - 1) := by rw [Int.mul_sub]; omega
    rw [e, Int.add_mul_ediv_left _ _ (Int.ne_of_gt hb), Int.ediv_eq_zero_of_lt (by omega) (by omega)]; omega
  · have e : a = r + b * q := by omega
    rw [e, Int.add_mul_ediv_left _ _ (Int.ne_of_gt hb), Int.ediv_eq_zero_of_lt (by omega) (by omega)]; omega
theorem tdiv_nonneg_eq {a b : Int} (ha : 0 ≤ a) : Int.tdiv a b = a / b := Int.tdiv_eq_ediv_of_nonneg ha
end Go.Proofs.YtepgpihobmjbdaaGreat
namespace Go.Proofs.YtepgpihobmjbdaaGreat

abbrev P0 : Int × Int := (0, 0)
structure Tab (l : List (Int × Int)) (most : Int) : Prop where
  len : 2 ≤ l.length ∧ l.length ≤ 32
  z0 : (l.getD 0 P0).1 = 0
  rng : ∀ k, k < l.length → 0 ≤ (l.getD k P0).1 ∧ (l.getD k P0).1 ≤ 1073741824 ∧ 0 ≤ (l.getD k P0).2 ∧ (l.getD k P0).2 ≤ most
  mono : ∀ k, k + 1 < l.length → (l.getD k P0).1 < (l.getD (k + 1) P0).1 ∧ (l.getD k P0).2 ≤ (l.getD (k + 1) P0).2

theorem chkGo_ok (most : Int) : ∀ (l : List (Int × Int)) (k : Nat) (bz br : Int), chkGo most k bz br l = 0 →
    (∀ i, i < l.length → 0 ≤ (l.getD i P0).1 ∧ (l.getD i P0).1 ≤ 1073741824 ∧ 0 ≤ (l.getD i P0).2 ∧ (l.getD i P0).2 ≤ most) ∧
    (∀ i, i + 1 < l.length → (l.getD i P0).1 < (l.getD (i + 1) P0).1 ∧ (l.getD i P0).2 ≤ (l.getD (i + 1) P0).2) ∧
    (0 < l.length → bz < (l.getD 0 P0).1 ∧ br ≤ (l.getD 0 P0).2 ∧ (k = 0 → (l.getD 0 P0).1 ≤ 0)) := by
  intro l
  induction l with
  | nil => intro k bz br _; exact ⟨fun i hi => by simp at hi, fun i hi => by simp at hi, fun h => by simp at h⟩
  | cons p t ih =>
    intro k bz br h
    rw [chkGo] at h
    by_cases hw : win p.1 0 1073741824 = true ∧ win p.2 0 most = true
    · rw [if_neg (by simpa using hw)] at h
      by_cases ho : (k = 0 ∧ 0 < p.1) ∨ p.1 ≤ bz ∨ p.2 < br
      · rw [if_pos ho] at h; omega
      · rw [if_neg ho] at h
        obtain ⟨h1, h2, h3⟩ := ih _ _ _ h
        have w1 := win_iff.1 hw.1
        have w2 := win_iff.1 hw.2
        refine ⟨fun i hi => ?_, fun i hi => ?_, fun _ => ?_⟩
        · cases i with
          | zero => simp; omega
          | succ i => simpa using h1 i (by simpa using hi)
        · cases i with
          | zero =>
            have := h3 (by simpa using hi)
            simpa using ⟨this.1, this.2.1⟩
          | succ i => simpa using h2 i (by simpa using hi)
        · simp; omega
    · rw [if_pos hw] at h; omega
theorem tab_of {l : List (Int × Int)} {most : Int} (h : chk l most = 0) : Tab l most := by
  unfold chk at h
  by_cases h1 : l.length < 2
  · rw [if_pos h1] at h; omega
  rw [if_neg h1] at h
  by_cases h2 : 32 < l.length
  · rw [if_pos h2] at h; omega
  rw [if_neg h2] at h
  obtain ⟨a, b, c⟩ := chkGo_ok most l 0 _ _ h
  have := c (by omega)
  exact ⟨by omega, by have := a 0 (by omega); have := this.1; have := (c (by omega)).2.2 rfl; omega, a, b⟩

/-- The value of a table at a power, rounded down and up. -/
def valGo (z : Int) : List (Int × Int) → Int × Int
  | [] => (0, 0)
  | [p] => (p.2, p.2)
  | p :: q :: t => if z < q.1 then (p.2 + (q.2 - p.2) * (z - p.1) / (q.1 - p.1), p.2 + cdiv ((q.2 - p.2) * (z - p.1)) (q.1 - p.1)) else valGo z (q :: t)
theorem val_drop {l : List (Int × Int)} {k : Nat} (z : Int) (h : k + 1 < l.length) : valGo z (l.drop k) = if z < (l.getD (k + 1) P0).1 then
    ((l.getD k P0).2 + ((l.getD (k + 1) P0).2 - (l.getD k P0).2) * (z - (l.getD k P0).1) / ((l.getD (k + 1) P0).1 - (l.getD k P0).1), (l.getD k P0).2 + cdiv (((l.getD (k + 1) P0).2 - (l.getD k P0).2) * (z - (l.getD k P0).1)) ((l.getD (k + 1) P0).1 - (l.getD k P0).1))
    else valGo z (l.drop (k + 1)) := by
  have e1 : l.drop k = l.getD k P0 :: l.getD (k + 1) P0 :: l.drop (k + 2) := by
    rw [List.drop_eq_getElem_cons (by omega), List.drop_eq_getElem_cons (i := k + 1) (by omega)]
    simp [List.getD, h, show k < l.length by omega]
  have e2 : l.drop (k + 1) = l.getD (k + 1) P0 :: l.drop (k + 2) := by
    rw [List.drop_eq_getElem_cons (i := k + 1) (by omega)]
    simp [List.getD, h]
  rw [e1, e2, valGo]
theorem val_last {l : List (Int × Int)} {k : Nat} (z : Int) (h : k + 1 = l.length) : valGo z (l.drop k) = ((l.getD k P0).2, (l.getD k P0).2) := by
  have e1 : l.drop k = [l.getD k P0] := by
    rw [List.drop_eq_getElem_cons (by omega), List.drop_eq_nil_of_le (by omega)]
    simp [List.getD, show k < l.length by omega]
  rw [e1, valGo]

/-- A product of two numbers within bounds. -/
theorem mul_bd {a b A B : Int} (ha : 0 ≤ a) (haA : a ≤ A) (hb : 0 ≤ b) (hbB : b ≤ B) : 0 ≤ a * b ∧ a * b ≤ A * B :=
  ⟨Int.mul_nonneg ha hb, Int.mul_le_mul haA hbB hb (by omega)⟩

theorem tab_le {l : List (Int × Int)} {most : Int} (hT : Tab l most) {i j : Nat} (h : i ≤ j) (hj : j < l.length) : (l.getD i P0).1 ≤ (l.getD j P0).1 := by
  induction j with
  | zero =>
    obtain rfl : i = 0 := by omega
    exact Int.le_refl _
  | succ j ih =>
    rcases Nat.lt_or_ge i (j + 1) with h1 | h1
    · have := ih (by omega) (by omega); have := (hT.mono j hj).1; omega
    · obtain rfl : i = j + 1 := by omega
      exact Int.le_refl _
/-- From a point on whose power is not above the one that is asked for. -/
theorem val_from {l : List (Int × Int)} {most : Int} (hT : Tab l most) {z : Int} : ∀ k, k < l.length → (l.getD k P0).1 ≤ z → valGo z l = valGo z (l.drop k) := by
  intro k
  induction k with
  | zero => intro _ _; rw [List.drop_zero]
  | succ k ih =>
    intro hk hz
    rw [ih (by omega) (by have := (hT.mono k hk).1; omega), val_drop z hk, if_neg (by omega)]
theorem cdiv_zero (b : Int) : cdiv 0 b = 0 := by simp [cdiv]
theorem val_hit {l : List (Int × Int)} {most : Int} (hT : Tab l most) {z : Int} {i : Nat} (hi : i < l.length) (h : (l.getD i P0).1 = z) : valGo z l = ((l.getD i P0).2, (l.getD i P0).2) := by
  rw [val_from hT i hi (by omega)]
  by_cases hl : i + 1 < l.length
  · rw [val_drop z hl, if_pos (by have := (hT.mono i hl).1; omega), h, Int.sub_self, Int.mul_zero, cdiv_zero]
    simp
  · exact val_last z (by omega)
theorem val_end {l : List (Int × Int)} {most : Int} (hT : Tab l most) {z : Int} {i : Nat} (hi : i + 1 = l.length) (h : (l.getD i P0).1 ≤ z) : valGo z l = ((l.getD i P0).2, (l.getD i P0).2) := by
  rw [val_from hT i (by omega) h]
  exact val_last z hi
theorem val_mid {l : List (Int × Int)} {most : Int} (hT : Tab l most) {z : Int} {i : Nat} (hi : i + 1 < l.length) (h : (l.getD i P0).1 ≤ z) (h2 : z < (l.getD (i + 1) P0).1) : valGo z l =
    ((l.getD i P0).2 + ((l.getD (i + 1) P0).2 - (l.getD i P0).2) * (z - (l.getD i P0).1) / ((l.getD (i + 1) P0).1 - (l.getD i P0).1), (l.getD i P0).2 + cdiv (((l.getD (i + 1) P0).2 - (l.getD i P0).2) * (z - (l.getD i P0).1)) ((l.getD (i + 1) P0).1 - (l.getD i P0).1)) := by
  rw [val_from hT i (by omega) h, val_drop z hi, if_pos h2]
end Go.Proofs.YtepgpihobmjbdaaGreat
namespace Go.Proofs.YtepgpihobmjbdaaGreat

theorem cdiv_bd {a b C : Int} (ha : 0 ≤ a) (hb : 1 ≤ b) (h : a ≤ C * b) : 0 ≤ cdiv a b ∧ cdiv a b ≤ C := by
  rw [cdiv_eq (by omega)]
  refine ⟨Int.ediv_nonneg (by omega) (by omega), ?_⟩
  have : (a + b - 1) / b < C + 1 := Int.ediv_lt_of_lt_mul (by omega) (by rw [Int.add_mul]; omega)
  omega
theorem div_bd {a b C : Int} (ha : 0 ≤ a) (hb : 1 ≤ b) (h : a ≤ C * b) : 0 ≤ a / b ∧ a / b ≤ C := by
  refine ⟨Int.ediv_nonneg ha (by omega), ?_⟩
  have : a / b < C + 1 := Int.ediv_lt_of_lt_mul (by omega) (by rw [Int.add_mul]; omega)
  omega
theorem div_le_cdiv {a b : Int} (hb : 1 ≤ b) : a / b ≤ cdiv a b := by
  rw [cdiv_eq (by omega)]
  exact Int.ediv_le_ediv (by omega) (by omega)

theorem val_bd {l : List (Int × Int)} {most : Int} (hT : Tab l most) {z : Int} (hz : 0 ≤ z) : 0 ≤ (valGo z l).1 ∧ (valGo z l).1 ≤ (valGo z l).2 ∧ (valGo z l).2 ≤ most := by
  have key : ∀ d k : Nat, k + d + 1 = l.length → (l.getD k P0).1 ≤ z → 0 ≤ (valGo z (l.drop k)).1 ∧ (valGo z (l.drop k)).1 ≤ (valGo z (l.drop k)).2 ∧ (valGo z (l.drop k)).2 ≤ most := by
    intro d
    induction d with
    | zero =>
      intro k hk _
      rw [val_last z (by omega)]
      have := hT.rng k (by omega)
      simp only
      omega
    | succ d ih =>
      intro k hk hz1
      rw [val_drop z (by omega)]
      have r1 := hT.rng k (by omega)
      have r2 := hT.rng (k + 1) (by omega)
      have hm := hT.mono k (by omega)
      by_cases h : z < (l.getD (k + 1) P0).1
      · rw [if_pos h]
        have h1 := mul_bd (a := (l.getD (k + 1) P0).2 - (l.getD k P0).2) (b := z - (l.getD k P0).1) (A := (l.getD (k + 1) P0).2 - (l.getD k P0).2) (B := (l.getD (k + 1) P0).1 - (l.getD k P0).1) (by omega) (by omega) (by omega) (by omega)
        have h2 := div_bd (b := (l.getD (k + 1) P0).1 - (l.getD k P0).1) h1.1 (by omega) h1.2
        have h3 := cdiv_bd (b := (l.getD (k + 1) P0).1 - (l.getD k P0).1) h1.1 (by omega) h1.2
        have h4 := div_le_cdiv (a := ((l.getD (k + 1) P0).2 - (l.getD k P0).2) * (z - (l.getD k P0).1)) (b := (l.getD (k + 1) P0).1 - (l.getD k P0).1) (by omega)
        simp only
        omega
      · rw [if_neg h]
        exact ih (k + 1) (by omega) (by omega)
  have := key (l.length - 1) 0 (by have := hT.len; omega) (by rw [hT.z0]; exact hz)
  rwa [List.drop_zero] at this

/-- The passage behind a gate with a power. -/
def nextT (loss : List (Int × Int)) (t z : Int × Int) : Int × Int := (t.1 * (65536 - (valGo z.2 loss).2) / 65536, cdiv (t.2 * (65536 - (valGo z.1 loss).1)) 65536)
structure Psg (t : Int × Int) : Prop where
  lo : 0 ≤ t.1
  hi : t.1 ≤ 1073741824
  lo' : 0 ≤ t.2
  hi' : t.2 ≤ 1073741824
theorem nextT_psg {loss : List (Int × Int)} (hT : Tab loss 32768) {t z : Int × Int} (ht : Psg t) (h1 : 0 ≤ z.1) (h2 : 0 ≤ z.2) : Psg (nextT loss t z) := by
  have a := val_bd hT h1
  have b := val_bd hT h2
  have c := mul_bd (a := t.1) (b := 65536 - (valGo z.2 loss).2) (A := 1073741824) (B := 65536) ht.lo ht.hi (by omega) (by omega)
  have d := mul_bd (a := t.2) (b := 65536 - (valGo z.1 loss).1) (A := 1073741824) (B := 65536) ht.lo' ht.hi' (by omega) (by omega)
  have e := div_bd c.1 (by omega : (1 : Int) ≤ 65536) (C := 1073741824) (by omega)
  have f := cdiv_bd d.1 (by omega : (1 : Int) ≤ 65536) (C := 1073741824) (by omega)
  exact ⟨e.1, e.2, f.1, f.2⟩
def passOne (t : Int × Int) (z : Int) : Int × Int := (z * t.1 / 1073741824, cdiv (z * t.2) 1073741824)
def passGo (loss : List (Int × Int)) (t : Int × Int) : List Int → List (Int × Int)
  | [] => []
  | z :: r => passOne t z :: passGo loss (nextT loss t (z, z)) r
def whole : Int × Int := (1073741824, 1073741824)
def okP (z : Int) : Bool := win z 0 1073741824
/-- What Pass returns. -/
def passR (loss : List (Int × Int)) (pw : List Int) : List (Int × Int) × Int :=
  if chk loss 32768 ≠ 0 then ([], chk loss 32768) else if 200 < pw.length then ([], 9) else if pw.all okP = true then (passGo loss whole pw, 0) else ([], 3)
theorem passGo_length (loss : List (Int × Int)) : ∀ (l : List Int) (t : Int × Int), (passGo loss t l).length = l.length
  | [], _ => rfl
  | z :: r, t => by simp [passGo, passGo_length loss r]
theorem passGo_drop (loss : List (Int × Int)) (t : Int × Int) (pw : List Int) (k : Nat) (hk : k < pw.length) : passGo loss t (pw.drop k) = passOne t (pw.getD k 0) :: passGo loss (nextT loss t (pw.getD k 0, pw.getD k 0)) (pw.drop (k + 1)) := by
  rw [List.drop_eq_getElem_cons hk, passGo]
  simp [List.getD, hk]
theorem all_ok {pw : List Int} (h : ∀ j, j < pw.length → okP (pw.getD j 0) = true) : pw.all okP = true := by
  rw [List.all_eq_true]
  intro x hx
  obtain ⟨j, hj, rfl⟩ := List.mem_iff_getElem.1 hx
  have := h j hj
  simpa [List.getD, hj] using this
theorem not_all_ok {pw : List Int} {j : Nat} (hj : j < pw.length) (h : okP (pw.getD j 0) = false) : pw.all okP = false := by
  rw [List.all_eq_false]
  refine ⟨pw[j], List.getElem_mem hj, ?_⟩
  have e : pw.getD j 0 = pw[j] := by simp [List.getD, hj]
  rw [← e, h]
  simp
theorem one_bd {t : Int × Int} (ht : Psg t) {z : Int} (h0 : 0 ≤ z) (h1 : z ≤ 1073741824) : 0 ≤ z * t.1 ∧ z * t.1 ≤ 1152921504606846976 ∧ 0 ≤ z * t.2 ∧ z * t.2 ≤ 1152921504606846976 := by
  have a := mul_bd (a := z) (b := t.1) (A := 1073741824) (B := 1073741824) h0 h1 ht.lo ht.hi
  have b := mul_bd (a := z) (b := t.2) (A := 1073741824) (B := 1073741824) h0 h1 ht.lo' ht.hi'
  omega
end Go.Proofs.YtepgpihobmjbdaaGreat
namespace Go.Proofs.YtepgpihobmjbdaaGreat

/-- The power of which a span was measured, behind a passage. -/
def restOne (t m : Int × Int) : Int × Int :=
  (min 1073741824 (m.1 * 1073741824 / t.2), if 1048576 ≤ t.1 then min 1073741824 (cdiv (m.2 * 1073741824) t.1) else 1073741824)
def restGo (loss : List (Int × Int)) (t : Int × Int) : List (Int × Int) → List (Int × Int)
  | [] => []
  | m :: r => restOne t m :: restGo loss (nextT loss t (restOne t m)) r
def okM (m : Int × Int) : Bool := decide (0 ≤ m.1 ∧ m.1 ≤ m.2 ∧ m.2 ≤ 1073741824)
theorem okM_iff {m : Int × Int} (h : okM m = true) : 0 ≤ m.1 ∧ m.1 ≤ m.2 ∧ m.2 ≤ 1073741824 := of_decide_eq_true h
/-- What Restore returns. -/
def restR (loss : List (Int × Int)) (l : List (Int × Int)) : List (Int × Int) × Int :=
  if chk loss 32768 ≠ 0 then ([], chk loss 32768) else if 200 < l.length then ([], 9) else if l.all okM = true then (restGo loss whole l, 0) else ([], 3)
structure Psg1 (t : Int × Int) : Prop extends Psg t where
  pos : 1 ≤ t.2
theorem restOne_bd {t m : Int × Int} (ht : Psg1 t) (hm : okM m = true) : 0 ≤ (restOne t m).1 ∧ (restOne t m).1 ≤ 1073741824 ∧ 0 ≤ (restOne t m).2 ∧ (restOne t m).2 ≤ 1073741824 := by
  obtain ⟨h1, h2, h3⟩ := okM_iff hm
  have a := Int.ediv_nonneg (show 0 ≤ m.1 * 1073741824 by omega) (show 0 ≤ t.2 from ht.lo')
  unfold restOne
  by_cases c : 1048576 ≤ t.1
  · rw [if_pos c]
    have b : 0 ≤ cdiv (m.2 * 1073741824) t.1 := by rw [cdiv_eq (by omega)]; exact Int.ediv_nonneg (by omega) (by omega)
    simp only; omega
  · rw [if_neg c]
    simp only; omega
theorem nextT_psg1 {loss : List (Int × Int)} (hT : Tab loss 32768) {t z : Int × Int} (ht : Psg1 t) (h1 : 0 ≤ z.1) (h2 : 0 ≤ z.2) : Psg1 (nextT loss t z) := by
  have hp := nextT_psg hT ht.toPsg h1 h2
  refine ⟨hp, ?_⟩
  have a := val_bd hT h1
  unfold nextT
  simp only
  generalize (valGo z.1 loss).1 = v at *
  have hv : 32768 ≤ 65536 - v := by omega
  have hpos : 0 < t.2 * (65536 - v) := Int.mul_pos (by have := ht.pos; omega) (by omega)
  rw [cdiv_eq (by omega)]
  have := (Int.le_ediv_iff_mul_le (a := 1) (b := t.2 * (65536 - v) + 65536 - 1) (c := 65536) (by omega)).2 (by omega)
  exact this
theorem whole_psg1 : Psg1 whole := ⟨⟨by decide, by decide, by decide, by decide⟩, by decide⟩
theorem restGo_length (loss : List (Int × Int)) : ∀ (l : List (Int × Int)) (t : Int × Int), (restGo loss t l).length = l.length
  | [], _ => rfl
  | m :: r, t => by simp [restGo, restGo_length loss r]
theorem restGo_drop (loss : List (Int × Int)) (t : Int × Int) (l : List (Int × Int)) (k : Nat) (hk : k < l.length) : restGo loss t (l.drop k) = restOne t (l.getD k (0, 0)) :: restGo loss (nextT loss t (restOne t (l.getD k (0, 0)))) (l.drop (k + 1)) := by
  rw [List.drop_eq_getElem_cons hk, restGo]
  simp [List.getD, hk]
theorem all_okM {l : List (Int × Int)} (h : ∀ j, j < l.length → okM (l.getD j (0, 0)) = true) : l.all okM = true := by
  rw [List.all_eq_true]
  intro x hx
  obtain ⟨j, hj, rfl⟩ := List.mem_iff_getElem.1 hx
  have := h j hj
  simpa [List.getD, hj] using this
theorem not_all_okM {l : List (Int × Int)} {j : Nat} (hj : j < l.length) (h : okM (l.getD j (0, 0)) = false) : l.all okM = false := by
  rw [List.all_eq_false]
  refine ⟨l[j], List.getElem_mem hj, ?_⟩
  have e : l.getD j (0, 0) = l[j] := by simp [List.getD, hj]
  rw [← e, h]
  simp

/-! ### Threads in the way -/
def capI (a : Int) : Int := min a 1073741824
/-- A power without what is in the way. -/
def fillS (p : Int × Int) (n : Int) (b : Int × Int) : Int × Int :=
  (min 1073741824 (p.1 * n / max 1 (n - b.1)), if b.2 < n then min 1073741824 (cdiv (p.2 * n) (n - b.2)) else 1073741824)
def okF (p : Int × Int) (n : Int) (b : Int × Int) : Bool := okM p && win n 1 17 && ins b.1 b.2 n
def fillR (p : Int × Int) (n : Int) (b : Int × Int) : (Int × Int) × Int := if okF p n b = true then (fillS p n b, 0) else ((0, 0), 3)
end Go.Proofs.YtepgpihobmjbdaaGreat
namespace Go.Proofs.YtepgpihobmjbdaaGreat
def okG (t s : Int) : Bool := win t 0 1000000 && win s 1 10000
def fellS (t s : Int) : Int × Int := (max 0 ((t - 1) * s + 1), (t + 1) * s - 1)
/-- What Fell returns. -/
def fellR (t s : Int) : (Int × Int) × Int := if okG t s = true then (fellS t s, 0) else ((0, 0), 3)
theorem gauge_bd {t s : Int} (h : okG t s = true) : 0 ≤ t ∧ t ≤ 1000000 ∧ 1 ≤ s ∧ s ≤ 10000 ∧ -10000 ≤ (t - 1) * s ∧ (t - 1) * s ≤ 10000000000 ∧ 0 ≤ (t + 1) * s ∧ (t + 1) * s ≤ 10000010000 := by
  simp only [okG, Bool.and_eq_true] at h
  obtain ⟨h1, h2⟩ := h
  obtain ⟨a, b⟩ := win_iff.1 h1
  obtain ⟨c, d⟩ := win_iff.1 h2
  have e : (t - 1) * s = t * s - s := by rw [Int.sub_mul]; omega
  have f : (t + 1) * s = t * s + s := by rw [Int.add_mul]; omega
  have g : 0 ≤ t * s := Int.mul_nonneg a (by omega)
  have i : t * s ≤ 1000000 * 10000 := Int.mul_le_mul b d (by omega) (by omega)
  omega
end Go.Proofs.YtepgpihobmjbdaaGreat
namespace Go.Proofs.YtepgpihobmjbdaaGreat

end Go.Proofs.YtepgpihobmjbdaaGreat
namespace Go.Proofs.YtepgpihobmjbdaaGreat

theorem min_if (a b : Int) : min a b = if b < a then b else a := by
  rw [Int.min_def]
  split <;> split <;> omega
theorem max_if (a b : Int) : max a b = if a < b then b else a := by
  rw [Int.max_def]
  split <;> split <;> omega

end Go.Proofs.YtepgpihobmjbdaaGreat
namespace Go.Proofs.YtepgpihobmjbdaaGreat

/-- rain's scales of a pair: none, if the first is above the second. -/
def scS (lo hi t s : Int) : Int × Int :=
  if 0 < hi then (max 1 (cdiv (1000 * (fellS t s).1) hi), if 0 < lo then min 100000 (1000 * (fellS t s).2 / lo) else 100000) else if 0 < (fellS t s).1 then (1, 0) else (1, 100000)
/-- The reference's. -/
def scR (lo hi t s : Int) : Int × Int :=
  (if hi = 0 ∧ 0 < (fellS t s).1 then 100001 else if 0 < hi then max 1 (cdiv (1000 * (fellS t s).1) hi) else 1, if 0 < lo then min 100000 (1000 * (fellS t s).2 / lo) else 100000)
def okP4 (lo hi t s : Int) : Bool := ins lo hi 2147483648 && okG t s
theorem okP4_iff {lo hi t s : Int} (h : okP4 lo hi t s = true) : 0 ≤ lo ∧ lo ≤ hi ∧ hi ≤ 2147483648 ∧ okG t s = true := by
  simp [okP4, ins] at h
  exact ⟨h.1.1, h.1.2.1, h.1.2.2, h.2⟩
theorem fell_bd {t s : Int} (h : okG t s = true) : 0 ≤ (fellS t s).1 ∧ (fellS t s).1 ≤ 10000000001 ∧ 0 ≤ (fellS t s).2 ∧ (fellS t s).2 ≤ 10000010000 := by
  obtain ⟨a1, a2, a3, a4, a5, a6, a7, a8⟩ := gauge_bd h
  have e : (t + 1) * s = t * s + s := by rw [Int.add_mul]; omega
  have g : 0 ≤ t * s := Int.mul_nonneg a1 (by omega)
  simp only [fellS]
  omega
/-- Either a pair has no scale at all, in both; or both have the same. -/
theorem sc_cases {lo hi t s : Int} (h : okP4 lo hi t s = true) : (scS lo hi t s = (1, 0) ∧ scR lo hi t s = (100001, 100000)) ∨ (scS lo hi t s = scR lo hi t s ∧ 1 ≤ (scS lo hi t s).1 ∧ (scS lo hi t s).2 ≤ 100000) := by
  obtain ⟨h1, h2, h3, h4⟩ := okP4_iff h
  by_cases hh : 0 < hi
  · right
    unfold scS scR
    rw [if_pos hh, if_neg (show ¬ (hi = 0 ∧ 0 < (fellS t s).1) from fun h => by omega), if_pos hh]
    refine ⟨rfl, by simp only; omega, ?_⟩
    simp only
    split <;> omega
  · by_cases hg : 0 < (fellS t s).1
    · left
      unfold scS scR
      rw [if_neg hh, if_pos hg, if_pos (show hi = 0 ∧ 0 < (fellS t s).1 from ⟨by omega, hg⟩), if_neg (show ¬ 0 < lo by omega)]
      exact ⟨rfl, rfl⟩
    · right
      unfold scS scR
      rw [if_neg hh, if_neg hg, if_neg (show ¬ (hi = 0 ∧ 0 < (fellS t s).1) from fun h => hg h.2), if_neg hh, if_neg (show ¬ 0 < lo by omega)]
      exact ⟨rfl, by simp, by simp⟩
theorem cdiv_bd' {a b : Int} (ha : 0 ≤ a) (hb : 1 ≤ b) : 0 ≤ cdiv a b ∧ cdiv a b ≤ a := by
  rw [cdiv_eq (by omega)]
  refine ⟨Int.ediv_nonneg (by omega) (by omega), ?_⟩
  have : (a + b - 1) / b < a + 1 := Int.ediv_lt_of_lt_mul (by omega) (by
    have : a * 1 ≤ a * b := Int.mul_le_mul_of_nonneg_left hb ha
    rw [Int.add_mul]; omega)
  omega
def meetS (a b : Int × Int) : Int × Int := (max a.1 b.1, min a.2 b.2)
end Go.Proofs.YtepgpihobmjbdaaGreat
namespace Go.Proofs.YtepgpihobmjbdaaGreat
open Go.RowKit

/-- The slice value `.slice A n c` reads as `m` integer cells `zs`, all below block `B`. -/
def Ints (w : World) (B : Nat) (k : IntKind) (A : Option Addr) (zs : List Int) : Prop :=
  0 < zs.length → ∃ b off, A = some ⟨b, off, none⟩ ∧ b < B ∧ ∀ j, j < zs.length → w.cell? ⟨b, off + j, none⟩ = some (.int k (zs.getD j 0))

section
variable {w w' : World} {B B' : Nat} {k : IntKind} {A : Option Addr} {zs : List Int}
theorem Ints.nil_ (w : World) (B : Nat) (k : IntKind) (A : Option Addr) : Ints w B k A [] := fun h => absurd h (by simp)
theorem Ints.keep (h : Ints w B k A zs) (hk : ∀ b o, b < B → w'.cell? ⟨b, o, none⟩ = w.cell? ⟨b, o, none⟩) : Ints w' B k A zs := fun hn => by
  obtain ⟨b, off, e, hb, hc⟩ := h hn
  exact ⟨b, off, e, hb, fun j hj => (hk _ _ hb).trans (hc j hj)⟩
theorem Ints.more (h : Ints w B k A zs) (hB : B ≤ B') : Ints w B' k A zs := fun hn => by
  obtain ⟨b, off, e, hb, hc⟩ := h hn
  exact ⟨b, off, e, by omega, hc⟩
theorem Ints.below (h : Ints w B k A zs) (hb : Below B w w') : Ints w' B k A zs := h.keep fun _ _ hp => hb.cell hp
theorem Ints.below' {C : Nat} (h : Ints w B k A zs) (hb : Below C w w') (hC : B ≤ C) : Ints w' B k A zs := h.below (hb.mono hC)
theorem Ints.own {base : Nat} {e : TypeId} {size n c : Nat} {xs : List Value} (h : w.ownsRow base e size (.slice A n c) n xs) (hx : xs = zs.map (Value.int k)) (hB : w.heap.size ≤ B) : Ints w B k A zs := fun hn => by
  subst hx
  rcases h.2 with ⟨_, h0⟩ | ⟨g, cap, cur, hv, _, hg, _⟩
  · have := h.1; rw [h0] at this; simp at this; subst this; simp at hn
  have hA : A = some ⟨g, 0, none⟩ := by injection hv
  subst hA
  refine ⟨g, 0, rfl, ?_, fun j hj => ?_⟩
  · rcases Nat.lt_or_ge g w.heap.size with hlt | hge
    · omega
    · rw [Array.getElem?_eq_none hge] at hg; cases hg
  have := h.cells (g := g) rfl j (.int k (zs.getD j 0)) (by simp [List.getD, hj])
  by_cases h0 : j = 0
  · subst h0; simpa [Addr.add] using this
  · simpa [Addr.add, h0] using this
end

/-- What lay below the block `B` reads as it did: two rules that the walk uses by itself. -/
theorem bcell {B : Nat} {W w1 : World} (hb : Below B W w1) : (∀ b o, b < B → w1.cell? ⟨b, o, none⟩ = W.cell? ⟨b, o, none⟩) ∧ (∀ b o, b < B → w1.frozen? ⟨b, o, none⟩ = W.frozen? ⟨b, o, none⟩) :=
  ⟨fun b o h => hb.cell (p := ⟨b, o, none⟩) h, fun b o h => hb.frozen (p := ⟨b, o, none⟩) h⟩

/-- A block that is known whole. -/
def Blk (w : World) (g : Nat) (t : TypeId) (cs : Array Value) : Prop := w.heap[g]? = some (.cells cs t (0, 0))
section
variable {w w' : World} {g : Nat} {t : TypeId} {cs : Array Value}
theorem Blk.lt (h : Blk w g t cs) : g < w.heap.size := by
  rcases Nat.lt_or_ge g w.heap.size with hlt | hge
  · exact hlt
  · unfold Blk at h; rw [Array.getElem?_eq_none hge] at h; cases h
theorem Blk.cell (h : Blk w g t cs) (i : Nat) : w.cell? ⟨g, i, none⟩ = cs[i]? := cell_of_row w g i cs t (0, 0) h
theorem Blk.frozen (h : Blk w g t cs) (i : Nat) : w.frozen? ⟨g, i, none⟩ = false := by
  unfold Blk at h
  simp [World.frozen?, h]
theorem Blk.new (w : World) (t : TypeId) (cs : Array Value) : Blk (w.alloc (.cells cs t)) w.heap.size t cs := heap_alloc_new w _
theorem Blk.alloc (h : Blk w g t cs) (o : Obj) : Blk (w.alloc o) g t cs := (Below.heap_alloc w o g h.lt).trans h
theorem Blk.set_ (h : Blk w g t cs) (i : Nat) (u : Value) : Blk (w.setCell ⟨g, i, none⟩ u) g t (cs.setIfInBounds i u) := by
  unfold Blk at h ⊢
  simp [World.setCell, Array.getElem?_modify, h]
theorem Blk.far (h : Blk w g t cs) {p : Addr} (hp : g ≠ p.block) (u : Value) : Blk (w.setCell p u) g t cs := (Below.heap_setCell w p u g hp).trans h
theorem Blk.below {B : Nat} (h : Blk w g t cs) (hb : Below B w w') (hg : g < B) : Blk w' g t cs := (hb.block g hg).trans h
end

theorem below_drewN {B : Nat} {a w : World} (h : Below B a w) (n : Nat) : Below B a (w.drewN n) := ⟨h.os, h.tape, h.output, h.size, h.block⟩
theorem hide {p : Prop} (h : p) : Hid p := h
theorem unhide {p : Prop} (h : Hid p) : p := h
theorem ret_int {k : IntKind} {a b : Int} (h : a = b) : Ending.returned (.int k a) = .returned (.int k b) := by rw [h]
theorem ret_bool {a b : Bool} (h : a = b) : Ending.returned (.bool a) = .returned (.bool b) := by rw [h]

end Go.Proofs.YtepgpihobmjbdaaGreat
namespace Go.Proofs.YtepgpihobmjbdaaGreat
open Go.RowKit

theorem within_any (n lo hi : Int) (w : World) :
    Calls Tryz.prog 34 #[.int .i64 n, .int .i64 lo, .int .i64 hi] w fun e w' => e = .returned (.bool (win n lo hi)) ∧ w = w' := by
  by_cases h1 : lo ≤ n <;> by_cases h2 : n ≤ hi
  all_goals
    go_enter Tryz.func34, Tryz.ntmps34
    go_wp2
    go_ret
    exact ⟨by simp [win, *], rfl⟩

theorem In_any (n lo hi : Int) (w : World) :
    Calls Tryz.prog 52 #[.int .i64 n, .int .i64 lo, .int .i64 hi] w fun e w' => e = .returned (.bool (win n lo hi)) ∧ w = w' := by
  by_cases h1 : lo ≤ n <;> by_cases h2 : n ≤ hi
  all_goals
    go_enter Tryz.func52, Tryz.ntmps52
    go_wp2
    go_ret
    exact ⟨by simp [win, *], rfl⟩

theorem inside_any (a b most : Int) (w : World) :
    Calls Tryz.prog 64 #[.agg #[.int .i64 a, .int .i64 b], .int .i64 most] w fun e w' => e = .returned (.bool (ins a b most)) ∧ Below w.heap.size w w' := by
  by_cases h1 : 0 ≤ a <;> by_cases h2 : a ≤ b <;> by_cases h3 : b ≤ most
  all_goals
    go_enter Tryz.func64, Tryz.ntmps64
    go_wp2
    go_ret
    exact ⟨by simp [ins, *], (Below.refl _ _).alloc (Nat.le_refl _) _⟩

theorem Ints.pt {w : World} {B : Nat} {A : Option Addr} {l : List (Int × Int)} (h : Ints w B .i64 A (flat2 l)) (hn : 0 < l.length) : ∃ b off, A = some ⟨b, off, none⟩ ∧ b < B ∧
    ∀ k, k < l.length → w.cell? ⟨b, off + k * 2, none⟩ = some (.int .i64 (l.getD k (0, 0)).1) ∧ w.cell? ⟨b, off + k * 2 + 1, none⟩ = some (.int .i64 (l.getD k (0, 0)).2) := by
  obtain ⟨b, off, e, hb, hc⟩ := h (by rw [flat2_length]; omega)
  refine ⟨b, off, e, hb, fun k hk => ⟨?_, ?_⟩⟩
  · rw [hc _ (by rw [flat2_length]; omega), flat2_0]
  · rw [Nat.add_assoc, hc _ (by rw [flat2_length]; omega), flat2_1]

end Go.Proofs.YtepgpihobmjbdaaGreat
namespace Go.Proofs.YtepgpihobmjbdaaGreat
open Go.RowKit

theorem down_any (a b : Int) (w : World) (ha : 0 ≤ a) (hb : 1 ≤ b) (ha2 : a ≤ 4611686018427387903) (_hb2 : b ≤ 4611686018427387903) :
    Calls Tryz.prog 36 #[.int .i64 a, .int .i64 b] w fun e w' => e = .returned (.int .i64 (a / b)) ∧ w = w' := by
  have h1 : 0 ≤ a / b := Int.ediv_nonneg ha (by omega)
  have h2 : a / b ≤ a := Int.ediv_le_self b ha
  go_enter Tryz.func36, Tryz.ntmps36
  go_wp2
  go_ret
  exact ⟨rfl, rfl⟩

theorem up_any (a b : Int) (w : World) (ha : 0 ≤ a) (hb : 1 ≤ b) (ha2 : a ≤ 4611686018427387903) (hb2 : b ≤ 4611686018427387903) :
    Calls Tryz.prog 37 #[.int .i64 a, .int .i64 b] w fun e w' => e = .returned (.int .i64 (cdiv a b)) ∧ w = w' := by
  have h1 : 0 ≤ (a + b - 1) / b := Int.ediv_nonneg (by omega) (by omega)
  have h2 : (a + b - 1) / b ≤ a + b - 1 := Int.ediv_le_self b (by omega)
  have H := hide (cdiv_eq (a := a) (b := b) (by omega))
  go_enter Tryz.func37, Tryz.ntmps37
  go_wp2
  go_ret
  exact ⟨(ret_int H.out).symm, rfl⟩

theorem Down_any (a b : Int) (w : World) (ha1 : -4611686018427387903 ≤ a) (hb : 1 ≤ b) (ha2 : a ≤ 4611686018427387903) (_hb2 : b ≤ 4611686018427387903) :
    Calls Tryz.prog 26 #[.int .i64 a, .int .i64 b] w fun e w' => e = .returned (.int .i64 (a / b)) ∧ w = w' := by
  have hq := tdiv_floor (a := a) (b := b) (by omega)
  by_cases ha : 0 ≤ a
  · have h1 : 0 ≤ a / b := Int.ediv_nonneg ha (by omega)
    have h2 : a / b ≤ a := Int.ediv_le_self b ha
    have h3 : 0 ≤ a % b := Int.emod_nonneg _ (by omega)
    clear hq
    go_enter Tryz.func26, Tryz.ntmps26
    go_wp2
    go_ret
    exact ⟨rfl, rfl⟩
  · have h2 : -a / b ≤ -a := Int.ediv_le_self b (by omega)
    have h3 : 0 ≤ -a / b := Int.ediv_nonneg (by omega) (by omega)
    have e1 : a.tdiv b = -(-a / b) := by rw [← Int.neg_neg a, Int.neg_tdiv, Int.neg_neg, Int.tdiv_eq_ediv_of_nonneg (by omega)]
    have h4 : -4611686018427387903 ≤ a.tdiv b := by omega
    have h5 : a.tdiv b ≤ 0 := by omega
    clear e1 h2 h3
    have Hq := hide hq
    clear hq
    go_enter Tryz.func26, Tryz.ntmps26
    go_wp2
    all_goals
      go_ret
      exact ⟨ret_int (by rw [Hq.out]; first | rw [if_pos (by assumption)] | rw [if_neg (by omega)]), rfl⟩

theorem Up_any (a b : Int) (w : World) (ha1 : -4611686018427387903 ≤ a) (hb : 1 ≤ b) (ha2 : a ≤ 4611686018427387903) (hb2 : b ≤ 4611686018427387903) :
    Calls Tryz.prog 27 #[.int .i64 a, .int .i64 b] w fun e w' => e = .returned (.int .i64 (cdiv a b)) ∧ w = w' := by
  have h1 : -4611686018427387903 ≤ -a / b ∧ -a / b ≤ 4611686018427387903 := by
    constructor
    · have := (Int.le_ediv_iff_mul_le (a := -4611686018427387903) (b := -a) (c := b) (by omega)).2 (by omega)
      exact this
    · by_cases h : 0 ≤ -a
      · have := Int.ediv_le_self b h; omega
      · have : -a / b ≤ 0 := by
          have := Int.ediv_lt_of_lt_mul (a := -a) (b := 1) (c := b) (by omega) (by omega)
          omega
        omega
  obtain ⟨h2, h3⟩ := h1
  go_enter Tryz.func27, Tryz.ntmps27
  go_wp2_with (go_at_call 26; refine (Down_any _ _ _ (by omega) hb (by omega) hb2).mono ?_; rintro e w' ⟨rfl, rfl⟩)
  go_ret
  exact ⟨rfl, rfl⟩
end Go.Proofs.YtepgpihobmjbdaaGreat
