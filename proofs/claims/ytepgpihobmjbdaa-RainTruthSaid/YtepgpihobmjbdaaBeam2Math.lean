/-
  Plain functions that say what package rain and its reference compute, on lists and integers; no program in sight.
  Quotients rounded down and up; no program in sight.
  Tables and their values; no program in sight.
  What passes, what is restored and filled: plain functions and their bounds; no program in sight.
  What is restored of what was measured: plain functions and their bounds; no program in sight.
  What is restored of what passes has the powers that were there; from narrower spans follow narrower ones, from greater ones greater ones: no program in sight.
  Gauges: what fell; no program in sight.
  Sums of records: what Sum computes, on the cells of the readings; no program in sight.
  Sums of records, as the reference adds them up: each piece times the slack; no program in sight.
  The scales that suit pairs of a sum and a gauge: what rain and the reference compute; no program in sight.
  Models; no program in sight.
  Factors in plain Lean: what a band of heights meets, one factor after the other.
  Directions of a rose and slants: plain functions and their bounds; no program in sight.
  Sectors and gates: a vector lies in exactly one sector of a rose, a distance between the borders of at most one gate; no program in sight.
  A vector lies in exactly one sector, a distance between the borders of at most one gate: which ones; no program in sight.
  Quotients rounded down and up, sites, ground ranges: plain functions; no program in sight.
-/

set_option linter.unusedSimpArgs false
set_option linter.unusedVariables false
section
namespace Go.Proofs.Ytepgpihobmjbdaa
def win (n lo hi : Int) : Bool := decide (lo ≤ n ∧ n ≤ hi)
theorem win_iff {n lo hi : Int} : win n lo hi = true ↔ lo ≤ n ∧ n ≤ hi := by simp [win]
def ins (a b most : Int) : Bool := decide (0 ≤ a ∧ a ≤ b ∧ b ≤ most)
def flat2 : List (Int × Int) → List Int
 | [] => []
 | p :: t => p.1 :: p.2 :: flat2 t
theorem flat2_length (l : List (Int × Int)) : (flat2 l).length = l.length * 2 := by
 induction l with
 | nil => rfl
 | cons p t ih => simp [flat2, ih]; omega
theorem flat2_0 (l : List (Int × Int)) : ∀ k, (flat2 l).getD (k * 2) 0 = (l.getD k (0, 0)).1 := by
 induction l with
 | nil => intro k; simp [flat2]
 | cons p t ih =>
  intro k
  cases k with
  | zero => simp [flat2]
  | succ k => have := ih k; rw [show (k + 1) * 2 = k * 2 + 1 + 1 by omega]; simpa [flat2] using this
theorem flat2_1 (l : List (Int × Int)) : ∀ k, (flat2 l).getD (k * 2 + 1) 0 = (l.getD k (0, 0)).2 := by
 induction l with
 | nil => intro k; simp [flat2]
 | cons p t ih =>
  intro k
  cases k with
  | zero => simp [flat2]
  | succ k => have := ih k; rw [show (k + 1) * 2 + 1 = k * 2 + 1 + 1 + 1 by omega]; simpa [flat2] using this
theorem flat2_append (a b : List (Int × Int)) : flat2 (a ++ b) = flat2 a ++ flat2 b := by
 induction a with
 | nil => rfl
 | cons p t ih => simp [flat2, ih]
def chkGo (most : Int) (k : Nat) (bz br : Int) : List (Int × Int) → Int
 | [] => 0
 | p :: t => if ¬ (win p.1 0 1073741824 = true ∧ win p.2 0 most = true) then 3 else if (k = 0 ∧ 0 < p.1) ∨ p.1 ≤ bz ∨ p.2 < br then 12 else chkGo most (k + 1) p.1 p.2 t
def chk (l : List (Int × Int)) (most : Int) : Int := if l.length < 2 then 18 else if 32 < l.length then 9 else chkGo most 0 (-1) 0 l
theorem chkGo_drop (most : Int) (i : Nat) (bz br : Int) (l : List (Int × Int)) (k : Nat) (hk : k < l.length) : chkGo most i bz br (l.drop k) =
  if ¬ (win (l.getD k (0, 0)).1 0 1073741824 = true ∧ win (l.getD k (0, 0)).2 0 most = true) then 3 else if (i = 0 ∧ 0 < (l.getD k (0, 0)).1) ∨ (l.getD k (0, 0)).1 ≤ bz ∨ (l.getD k (0, 0)).2 < br then 12
  else chkGo most (i + 1) (l.getD k (0, 0)).1 (l.getD k (0, 0)).2 (l.drop (k + 1)) := by
 rw [List.drop_eq_getElem_cons hk, chkGo]
 simp [List.getD, hk]
theorem chkGo_end (most : Int) (i : Nat) (bz br : Int) (l : List (Int × Int)) (k : Nat) (hk : l.length ≤ k) : chkGo most i bz br (l.drop k) = 0 := by
 rw [List.drop_eq_nil_of_le hk, chkGo]
def pz (l : List (Int × Int)) (k : Nat) : Int := if k = 0 then -1 else (l.getD (k - 1) (0, 0)).1
end Go.Proofs.Ytepgpihobmjbdaa
end
section
namespace Go.Proofs.Ytepgpihobmjbdaa
def cdiv (a b : Int) : Int := -((-a) / b)
theorem cdiv_eq {a b : Int} (hb : 0 < b) : cdiv a b = (a + b - 1) / b := by
 unfold cdiv
 have h1 := Int.mul_ediv_add_emod (a + b - 1) b
 have h2 := Int.emod_nonneg (a + b - 1) (Int.ne_of_gt hb)
 have h3 := Int.emod_lt_of_pos (a + b - 1) hb
 generalize (a + b - 1) / b = q at *
 generalize (a + b - 1) % b = r at *
 have : (-a) / b = -q := by
  have e : -a = (b - 1 - r) + b * (-q) := by rw [Int.mul_neg]; omega
  rw [e, Int.add_mul_ediv_left _ _ (Int.ne_of_gt hb), Int.ediv_eq_zero_of_lt (by omega) (by omega)]
  omega
 rw [this, Int.neg_neg]
theorem tdiv_floor {a b : Int} (hb : 0 < b) : a / b = if Int.tmod a b < 0 then Int.tdiv a b - 1 else Int.tdiv a b := by
 have h1 := Int.mul_tdiv_add_tmod a b
 have h4 : (a.tmod b).natAbs < b.natAbs := by rw [Int.natAbs_tmod]; exact Nat.mod_lt _ (by omega)
 generalize Int.tdiv a b = q at *
 generalize Int.tmod a b = r at *
 split
 ·
  have e : a = (r + b) + b * (q - 1) := by rw [Int.mul_sub]; omega
  rw [e, Int.add_mul_ediv_left _ _ (Int.ne_of_gt hb), Int.ediv_eq_zero_of_lt (by omega) (by omega)]; omega
 ·
  have e : a = r + b * q := by omega
  rw [e, Int.add_mul_ediv_left _ _ (Int.ne_of_gt hb), Int.ediv_eq_zero_of_lt (by omega) (by omega)]; omega
end Go.Proofs.Ytepgpihobmjbdaa
end
section
namespace Go.Proofs.Ytepgpihobmjbdaa
abbrev P0 : Int × Int := (0, 0)
structure Tab (l : List (Int × Int)) (most : Int) : Prop where
 len : 2 ≤ l.length ∧ l.length ≤ 32
 z0 : (l.getD 0 P0).1 = 0
 rng : ∀ k, k < l.length → 0 ≤ (l.getD k P0).1 ∧ (l.getD k P0).1 ≤ 1073741824 ∧ 0 ≤ (l.getD k P0).2 ∧ (l.getD k P0).2 ≤ most
 mono : ∀ k, k + 1 < l.length → (l.getD k P0).1 < (l.getD (k + 1) P0).1 ∧ (l.getD k P0).2 ≤ (l.getD (k + 1) P0).2
theorem chkGo_ok (most : Int) : ∀ (l : List (Int × Int)) (k : Nat) (bz br : Int), chkGo most k bz br l = 0 →
  (∀ i, i < l.length → 0 ≤ (l.getD i P0).1 ∧ (l.getD i P0).1 ≤ 1073741824 ∧ 0 ≤ (l.getD i P0).2 ∧ (l.getD i P0).2 ≤ most) ∧
  (∀ i, i + 1 < l.length → (l.getD i P0).1 < (l.getD (i + 1) P0).1 ∧ (l.getD i P0).2 ≤ (l.getD (i + 1) P0).2) ∧
  (0 < l.length → bz < (l.getD 0 P0).1 ∧ br ≤ (l.getD 0 P0).2 ∧ (k = 0 → (l.getD 0 P0).1 ≤ 0)) := by
 intro l
 induction l with
 | nil => intro k bz br _; exact ⟨fun i hi => by simp at hi, fun i hi => by simp at hi, fun h => by simp at h⟩
 | cons p t ih =>
  intro k bz br h
  rw [chkGo] at h
  by_cases hw : win p.1 0 1073741824 = true ∧ win p.2 0 most = true
  ·
   rw [if_neg (by simpa using hw)] at h
   by_cases ho : (k = 0 ∧ 0 < p.1) ∨ p.1 ≤ bz ∨ p.2 < br
   · rw [if_pos ho] at h; omega
   ·
    rw [if_neg ho] at h
    obtain ⟨h1, h2, h3⟩ := ih _ _ _ h
    have w1 := win_iff.1 hw.1
    have w2 := win_iff.1 hw.2
    refine ⟨fun i hi => ?_, fun i hi => ?_, fun _ => ?_⟩
    ·
     cases i with
     | zero => simp; omega
     | succ i => simpa using h1 i (by simpa using hi)
    ·
     cases i with
     | zero =>
      have := h3 (by simpa using hi)
      simpa using ⟨this.1, this.2.1⟩
     | succ i => simpa using h2 i (by simpa using hi)
    · simp; omega
  · rw [if_pos hw] at h; omega
theorem tab_of {l : List (Int × Int)} {most : Int} (h : chk l most = 0) : Tab l most := by
 unfold chk at h
 by_cases h1 : l.length < 2
 · rw [if_pos h1] at h; omega
 rw [if_neg h1] at h
 by_cases h2 : 32 < l.length
 · rw [if_pos h2] at h; omega
 rw [if_neg h2] at h
 obtain ⟨a, b, c⟩ := chkGo_ok most l 0 _ _ h
 have := c (by omega)
 exact ⟨by omega, by have := a 0 (by omega); have := this.1; have := (c (by omega)).2.2 rfl; omega, a, b⟩
def valGo (z : Int) : List (Int × Int) → Int × Int
 | [] => (0, 0)
 | [p] => (p.2, p.2)
 | p :: q :: t => if z < q.1 then (p.2 + (q.2 - p.2) * (z - p.1) / (q.1 - p.1), p.2 + cdiv ((q.2 - p.2) * (z - p.1)) (q.1 - p.1)) else valGo z (q :: t)
theorem val_drop {l : List (Int × Int)} {k : Nat} (z : Int) (h : k + 1 < l.length) : valGo z (l.drop k) = if z < (l.getD (k + 1) P0).1 then
  ((l.getD k P0).2 + ((l.getD (k + 1) P0).2 - (l.getD k P0).2) * (z - (l.getD k P0).1) / ((l.getD (k + 1) P0).1 - (l.getD k P0).1), (l.getD k P0).2 + cdiv (((l.getD (k + 1) P0).2 - (l.getD k P0).2) * (z - (l.getD k P0).1)) ((l.getD (k + 1) P0).1 - (l.getD k P0).1))
  else valGo z (l.drop (k + 1)) := by
 have e1 : l.drop k = l.getD k P0 :: l.getD (k + 1) P0 :: l.drop (k + 2) := by
  rw [List.drop_eq_getElem_cons (by omega), List.drop_eq_getElem_cons (i := k + 1) (by omega)]
  simp [List.getD, h, show k < l.length by omega]
 have e2 : l.drop (k + 1) = l.getD (k + 1) P0 :: l.drop (k + 2) := by
  rw [List.drop_eq_getElem_cons (i := k + 1) (by omega)]
  simp [List.getD, h]
 rw [e1, e2, valGo]
theorem val_last {l : List (Int × Int)} {k : Nat} (z : Int) (h : k + 1 = l.length) : valGo z (l.drop k) = ((l.getD k P0).2, (l.getD k P0).2) := by
 have e1 : l.drop k = [l.getD k P0] := by
  rw [List.drop_eq_getElem_cons (by omega), List.drop_eq_nil_of_le (by omega)]
  simp [List.getD, show k < l.length by omega]
 rw [e1, valGo]
theorem mul_bd {a b A B : Int} (ha : 0 ≤ a) (haA : a ≤ A) (hb : 0 ≤ b) (hbB : b ≤ B) : 0 ≤ a * b ∧ a * b ≤ A * B :=
 ⟨Int.mul_nonneg ha hb, Int.mul_le_mul haA hbB hb (by omega)⟩
theorem tab_le {l : List (Int × Int)} {most : Int} (hT : Tab l most) {i j : Nat} (h : i ≤ j) (hj : j < l.length) : (l.getD i P0).1 ≤ (l.getD j P0).1 := by
 induction j with
 | zero =>
  obtain rfl : i = 0 := by omega
  exact Int.le_refl _
 | succ j ih =>
  rcases Nat.lt_or_ge i (j + 1) with h1 | h1
  · have := ih (by omega) (by omega); have := (hT.mono j hj).1; omega
  ·
   obtain rfl : i = j + 1 := by omega
   exact Int.le_refl _
theorem val_from {l : List (Int × Int)} {most : Int} (hT : Tab l most) {z : Int} : ∀ k, k < l.length → (l.getD k P0).1 ≤ z → valGo z l = valGo z (l.drop k) := by
 intro k
 induction k with
 | zero => intro _ _; rw [List.drop_zero]
 | succ k ih =>
  intro hk hz
  rw [ih (by omega) (by have := (hT.mono k hk).1; omega), val_drop z hk, if_neg (by omega)]
theorem cdiv_zero (b : Int) : cdiv 0 b = 0 := by simp [cdiv]
theorem val_hit {l : List (Int × Int)} {most : Int} (hT : Tab l most) {z : Int} {i : Nat} (hi : i < l.length) (h : (l.getD i P0).1 = z) : valGo z l = ((l.getD i P0).2, (l.getD i P0).2) := by
 rw [val_from hT i hi (by omega)]
 by_cases hl : i + 1 < l.length
 ·
  rw [val_drop z hl, if_pos (by have := (hT.mono i hl).1; omega), h, Int.sub_self, Int.mul_zero, cdiv_zero]
  simp
 · exact val_last z (by omega)
theorem val_end {l : List (Int × Int)} {most : Int} (hT : Tab l most) {z : Int} {i : Nat} (hi : i + 1 = l.length) (h : (l.getD i P0).1 ≤ z) : valGo z l = ((l.getD i P0).2, (l.getD i P0).2) := by
 rw [val_from hT i (by omega) h]
 exact val_last z hi
theorem val_mid {l : List (Int × Int)} {most : Int} (hT : Tab l most) {z : Int} {i : Nat} (hi : i + 1 < l.length) (h : (l.getD i P0).1 ≤ z) (h2 : z < (l.getD (i + 1) P0).1) : valGo z l =
  ((l.getD i P0).2 + ((l.getD (i + 1) P0).2 - (l.getD i P0).2) * (z - (l.getD i P0).1) / ((l.getD (i + 1) P0).1 - (l.getD i P0).1), (l.getD i P0).2 + cdiv (((l.getD (i + 1) P0).2 - (l.getD i P0).2) * (z - (l.getD i P0).1)) ((l.getD (i + 1) P0).1 - (l.getD i P0).1)) := by
 rw [val_from hT i (by omega) h, val_drop z hi, if_pos h2]
end Go.Proofs.Ytepgpihobmjbdaa
end
section
namespace Go.Proofs.Ytepgpihobmjbdaa
theorem cdiv_bd {a b C : Int} (ha : 0 ≤ a) (hb : 1 ≤ b) (h : a ≤ C * b) : 0 ≤ cdiv a b ∧ cdiv a b ≤ C := by
 rw [cdiv_eq (by omega)]
 refine ⟨Int.ediv_nonneg (by omega) (by omega), ?_⟩
 have : (a + b - 1) / b < C + 1 := Int.ediv_lt_of_lt_mul (by omega) (by rw [Int.add_mul]; omega)
 omega
theorem div_bd {a b C : Int} (ha : 0 ≤ a) (hb : 1 ≤ b) (h : a ≤ C * b) : 0 ≤ a / b ∧ a / b ≤ C := by
 refine ⟨Int.ediv_nonneg ha (by omega), ?_⟩
 have : a / b < C + 1 := Int.ediv_lt_of_lt_mul (by omega) (by rw [Int.add_mul]; omega)
 omega
theorem div_le_cdiv {a b : Int} (hb : 1 ≤ b) : a / b ≤ cdiv a b := by
 rw [cdiv_eq (by omega)]
 exact Int.ediv_le_ediv (by omega) (by omega)
theorem val_bd {l : List (Int × Int)} {most : Int} (hT : Tab l most) {z : Int} (hz : 0 ≤ z) : 0 ≤ (valGo z l).1 ∧ (valGo z l).1 ≤ (valGo z l).2 ∧ (valGo z l).2 ≤ most := by
 have key : ∀ d k : Nat, k + d + 1 = l.length → (l.getD k P0).1 ≤ z → 0 ≤ (valGo z (l.drop k)).1 ∧ (valGo z (l.drop k)).1 ≤ (valGo z (l.drop k)).2 ∧ (valGo z (l.drop k)).2 ≤ most := by
  intro d
  induction d with
  | zero =>
   intro k hk _
   rw [val_last z (by omega)]
   have := hT.rng k (by omega)
   simp only
   omega
  | succ d ih =>
   intro k hk hz1
   rw [val_drop z (by omega)]
   have r1 := hT.rng k (by omega)
   have r2 := hT.rng (k + 1) (by omega)
   have hm := hT.mono k (by omega)
   by_cases h : z < (l.getD (k + 1) P0).1
   ·
    rw [if_pos h]
    have h1 := mul_bd (a := (l.getD (k + 1) P0).2 - (l.getD k P0).2) (b := z - (l.getD k P0).1) (A := (l.getD (k + 1) P0).2 - (l.getD k P0).2) (B := (l.getD (k + 1) P0).1 - (l.getD k P0).1) (by omega) (by omega) (by omega) (by omega)
    have h2 := div_bd (b := (l.getD (k + 1) P0).1 - (l.getD k P0).1) h1.1 (by omega) h1.2
    have h3 := cdiv_bd (b := (l.getD (k + 1) P0).1 - (l.getD k P0).1) h1.1 (by omega) h1.2
    have h4 := div_le_cdiv (a := ((l.getD (k + 1) P0).2 - (l.getD k P0).2) * (z - (l.getD k P0).1)) (b := (l.getD (k + 1) P0).1 - (l.getD k P0).1) (by omega)
    simp only
    omega
   ·
    rw [if_neg h]
    exact ih (k + 1) (by omega) (by omega)
 have := key (l.length - 1) 0 (by have := hT.len; omega) (by rw [hT.z0]; exact hz)
 rwa [List.drop_zero] at this
def nextT (loss : List (Int × Int)) (t z : Int × Int) : Int × Int := (t.1 * (65536 - (valGo z.2 loss).2) / 65536, cdiv (t.2 * (65536 - (valGo z.1 loss).1)) 65536)
structure Psg (t : Int × Int) : Prop where
 lo : 0 ≤ t.1
 hi : t.1 ≤ 1073741824
 lo' : 0 ≤ t.2
 hi' : t.2 ≤ 1073741824
theorem nextT_psg {loss : List (Int × Int)} (hT : Tab loss 32768) {t z : Int × Int} (ht : Psg t) (h1 : 0 ≤ z.1) (h2 : 0 ≤ z.2) : Psg (nextT loss t z) := by
 have a := val_bd hT h1
 have b := val_bd hT h2
 have c := mul_bd (a := t.1) (b := 65536 - (valGo z.2 loss).2) (A := 1073741824) (B := 65536) ht.lo ht.hi (by omega) (by omega)
 have d := mul_bd (a := t.2) (b := 65536 - (valGo z.1 loss).1) (A := 1073741824) (B := 65536) ht.lo' ht.hi' (by omega) (by omega)
 have e := div_bd c.1 (by omega : (1 : Int) ≤ 65536) (C := 1073741824) (by omega)
 have f := cdiv_bd d.1 (by omega : (1 : Int) ≤ 65536) (C := 1073741824) (by omega)
 exact ⟨e.1, e.2, f.1, f.2⟩
def passOne (t : Int × Int) (z : Int) : Int × Int := (z * t.1 / 1073741824, cdiv (z * t.2) 1073741824)
def passGo (loss : List (Int × Int)) (t : Int × Int) : List Int → List (Int × Int)
 | [] => []
 | z :: r => passOne t z :: passGo loss (nextT loss t (z, z)) r
def whole : Int × Int := (1073741824, 1073741824)
def okP (z : Int) : Bool := win z 0 1073741824
def passR (loss : List (Int × Int)) (pw : List Int) : List (Int × Int) × Int :=
 if chk loss 32768 ≠ 0 then ([], chk loss 32768) else if 200 < pw.length then ([], 9) else if pw.all okP = true then (passGo loss whole pw, 0) else ([], 3)
theorem passGo_length (loss : List (Int × Int)) : ∀ (l : List Int) (t : Int × Int), (passGo loss t l).length = l.length
 | [], _ => rfl
 | z :: r, t => by simp [passGo, passGo_length loss r]
theorem passGo_drop (loss : List (Int × Int)) (t : Int × Int) (pw : List Int) (k : Nat) (hk : k < pw.length) : passGo loss t (pw.drop k) = passOne t (pw.getD k 0) :: passGo loss (nextT loss t (pw.getD k 0, pw.getD k 0)) (pw.drop (k + 1)) := by
 rw [List.drop_eq_getElem_cons hk, passGo]
 simp [List.getD, hk]
theorem all_ok {pw : List Int} (h : ∀ j, j < pw.length → okP (pw.getD j 0) = true) : pw.all okP = true := by
 rw [List.all_eq_true]
 intro x hx
 obtain ⟨j, hj, rfl⟩ := List.mem_iff_getElem.1 hx
 have := h j hj
 simpa [List.getD, hj] using this
theorem not_all_ok {pw : List Int} {j : Nat} (hj : j < pw.length) (h : okP (pw.getD j 0) = false) : pw.all okP = false := by
 rw [List.all_eq_false]
 refine ⟨pw[j], List.getElem_mem hj, ?_⟩
 have e : pw.getD j 0 = pw[j] := by simp [List.getD, hj]
 rw [← e, h]
 simp
theorem one_bd {t : Int × Int} (ht : Psg t) {z : Int} (h0 : 0 ≤ z) (h1 : z ≤ 1073741824) : 0 ≤ z * t.1 ∧ z * t.1 ≤ 1152921504606846976 ∧ 0 ≤ z * t.2 ∧ z * t.2 ≤ 1152921504606846976 := by
 have a := mul_bd (a := z) (b := t.1) (A := 1073741824) (B := 1073741824) h0 h1 ht.lo ht.hi
 have b := mul_bd (a := z) (b := t.2) (A := 1073741824) (B := 1073741824) h0 h1 ht.lo' ht.hi'
 omega
end Go.Proofs.Ytepgpihobmjbdaa
end
section
namespace Go.Proofs.Ytepgpihobmjbdaa
def restOne (t m : Int × Int) : Int × Int :=
 (min 1073741824 (m.1 * 1073741824 / t.2), if 1048576 ≤ t.1 then min 1073741824 (cdiv (m.2 * 1073741824) t.1) else 1073741824)
def restGo (loss : List (Int × Int)) (t : Int × Int) : List (Int × Int) → List (Int × Int)
 | [] => []
 | m :: r => restOne t m :: restGo loss (nextT loss t (restOne t m)) r
def okM (m : Int × Int) : Bool := decide (0 ≤ m.1 ∧ m.1 ≤ m.2 ∧ m.2 ≤ 1073741824)
theorem okM_iff {m : Int × Int} (h : okM m = true) : 0 ≤ m.1 ∧ m.1 ≤ m.2 ∧ m.2 ≤ 1073741824 := of_decide_eq_true h
structure Psg1 (t : Int × Int) : Prop extends Psg t where
 pos : 1 ≤ t.2
theorem restOne_bd {t m : Int × Int} (ht : Psg1 t) (hm : okM m = true) : 0 ≤ (restOne t m).1 ∧ (restOne t m).1 ≤ 1073741824 ∧ 0 ≤ (restOne t m).2 ∧ (restOne t m).2 ≤ 1073741824 := by
 obtain ⟨h1, h2, h3⟩ := okM_iff hm
 have a := Int.ediv_nonneg (show 0 ≤ m.1 * 1073741824 by omega) (show 0 ≤ t.2 from ht.lo')
 unfold restOne
 by_cases c : 1048576 ≤ t.1
 ·
  rw [if_pos c]
  have b : 0 ≤ cdiv (m.2 * 1073741824) t.1 := by rw [cdiv_eq (by omega)]; exact Int.ediv_nonneg (by omega) (by omega)
  simp only; omega
 ·
  rw [if_neg c]
  simp only; omega
theorem nextT_psg1 {loss : List (Int × Int)} (hT : Tab loss 32768) {t z : Int × Int} (ht : Psg1 t) (h1 : 0 ≤ z.1) (h2 : 0 ≤ z.2) : Psg1 (nextT loss t z) := by
 have hp := nextT_psg hT ht.toPsg h1 h2
 refine ⟨hp, ?_⟩
 have a := val_bd hT h1
 unfold nextT
 simp only
 generalize (valGo z.1 loss).1 = v at *
 have hv : 32768 ≤ 65536 - v := by omega
 have hpos : 0 < t.2 * (65536 - v) := Int.mul_pos (by have := ht.pos; omega) (by omega)
 rw [cdiv_eq (by omega)]
 have := (Int.le_ediv_iff_mul_le (a := 1) (b := t.2 * (65536 - v) + 65536 - 1) (c := 65536) (by omega)).2 (by omega)
 exact this
theorem whole_psg1 : Psg1 whole := ⟨⟨by decide, by decide, by decide, by decide⟩, by decide⟩
theorem restGo_drop (loss : List (Int × Int)) (t : Int × Int) (l : List (Int × Int)) (k : Nat) (hk : k < l.length) : restGo loss t (l.drop k) = restOne t (l.getD k (0, 0)) :: restGo loss (nextT loss t (restOne t (l.getD k (0, 0)))) (l.drop (k + 1)) := by
 rw [List.drop_eq_getElem_cons hk, restGo]
 simp [List.getD, hk]
theorem all_okM {l : List (Int × Int)} (h : ∀ j, j < l.length → okM (l.getD j (0, 0)) = true) : l.all okM = true := by
 rw [List.all_eq_true]
 intro x hx
 obtain ⟨j, hj, rfl⟩ := List.mem_iff_getElem.1 hx
 have := h j hj
 simpa [List.getD, hj] using this
/-! ### Threads in the way -/
def capI (a : Int) : Int := min a 1073741824
def fillS (p : Int × Int) (n : Int) (b : Int × Int) : Int × Int :=
 (min 1073741824 (p.1 * n / max 1 (n - b.1)), if b.2 < n then min 1073741824 (cdiv (p.2 * n) (n - b.2)) else 1073741824)
def okF (p : Int × Int) (n : Int) (b : Int × Int) : Bool := okM p && win n 1 17 && ins b.1 b.2 n
end Go.Proofs.Ytepgpihobmjbdaa
end
section
namespace Go.Proofs.Ytepgpihobmjbdaa
theorem div_le_div2 {a b a' b' : Int} (h0 : 0 ≤ a) (h : a ≤ a') (hb : 1 ≤ b') (hbb : b' ≤ b) : a / b ≤ a' / b' := by
 rw [Int.le_ediv_iff_mul_le (by omega)]
 have h1 : 0 ≤ a / b := Int.ediv_nonneg h0 (by omega)
 have h2 : a / b * b' ≤ a / b * b := Int.mul_le_mul_of_nonneg_left hbb h1
 have h3 := Int.ediv_mul_le a (show b ≠ 0 by omega)
 omega
theorem le_cdiv_mul {a b : Int} (hb : 1 ≤ b) : a ≤ cdiv a b * b := by
 rw [cdiv_eq (by omega)]
 have := Int.lt_ediv_add_one_mul_self (a + b - 1) (show 0 < b by omega)
 rw [Int.add_mul] at this
 omega
theorem cdiv_le {a b c : Int} (hb : 1 ≤ b) (h : a ≤ c * b) : cdiv a b ≤ c := by
 rw [cdiv_eq (by omega)]
 have : (a + b - 1) / b < c + 1 := Int.ediv_lt_of_lt_mul (by omega) (by rw [Int.add_mul]; omega)
 omega
theorem cdiv_nonneg {a b : Int} (h : 0 ≤ a) (hb : 1 ≤ b) : 0 ≤ cdiv a b := by
 rw [cdiv_eq (by omega)]; exact Int.ediv_nonneg (by omega) (by omega)
theorem cdiv_le_cdiv2 {a b a' b' : Int} (h0 : 0 ≤ a) (h : a ≤ a') (hb : 1 ≤ b') (hbb : b' ≤ b) : cdiv a b ≤ cdiv a' b' := by
 refine cdiv_le (by omega) ?_
 have h1 : a' ≤ cdiv a' b' * b' := le_cdiv_mul hb
 have h2 : cdiv a' b' * b' ≤ cdiv a' b' * b := Int.mul_le_mul_of_nonneg_left hbb (cdiv_nonneg (by omega) hb)
 omega
theorem val_lo {l : List (Int × Int)} {most : Int} (hT : Tab l most) {z : Int} : ∀ d k : Nat, k + d + 1 = l.length → (l.getD k P0).1 ≤ z → (l.getD k P0).2 ≤ (valGo z (l.drop k)).1 ∧ (valGo z (l.drop k)).1 ≤ (valGo z (l.drop k)).2 := by
 intro d
 induction d with
 | zero =>
  intro k hk _
  rw [val_last z (by omega)]
  exact ⟨Int.le_refl _, Int.le_refl _⟩
 | succ d ih =>
  intro k hk hz1
  rw [val_drop z (by omega)]
  have hm := hT.mono k (by omega)
  by_cases h : z < (l.getD (k + 1) P0).1
  ·
   rw [if_pos h]
   have h1 := Int.mul_nonneg (show 0 ≤ (l.getD (k + 1) P0).2 - (l.getD k P0).2 by omega) (show 0 ≤ z - (l.getD k P0).1 by omega)
   have h2 := Int.ediv_nonneg h1 (show 0 ≤ (l.getD (k + 1) P0).1 - (l.getD k P0).1 by omega)
   have h4 := div_le_cdiv (a := ((l.getD (k + 1) P0).2 - (l.getD k P0).2) * (z - (l.getD k P0).1)) (b := (l.getD (k + 1) P0).1 - (l.getD k P0).1) (by omega)
   simp only
   omega
  ·
   rw [if_neg h]
   have := ih (k + 1) (by omega) (by omega)
   omega
theorem val_mono {l : List (Int × Int)} {most : Int} (hT : Tab l most) {y z : Int} (h0 : 0 ≤ y) (h : y ≤ z) : (valGo y l).1 ≤ (valGo z l).1 ∧ (valGo y l).2 ≤ (valGo z l).2 := by
 have key : ∀ d k : Nat, k + d + 1 = l.length → (l.getD k P0).1 ≤ y → (valGo y (l.drop k)).1 ≤ (valGo z (l.drop k)).1 ∧ (valGo y (l.drop k)).2 ≤ (valGo z (l.drop k)).2 := by
  intro d
  induction d with
  | zero =>
   intro k hk _
   rw [val_last z (by omega), val_last y (by omega)]
   exact ⟨Int.le_refl _, Int.le_refl _⟩
  | succ d ih =>
   intro k hk hy1
   rw [val_drop z (by omega), val_drop y (by omega)]
   have hm := hT.mono k (by omega)
   have b0 := Int.mul_nonneg (show 0 ≤ (l.getD (k + 1) P0).2 - (l.getD k P0).2 by omega) (show 0 ≤ y - (l.getD k P0).1 by omega)
   by_cases hz : z < (l.getD (k + 1) P0).1
   ·
    rw [if_pos hz, if_pos (by omega)]
    have b1 : ((l.getD (k + 1) P0).2 - (l.getD k P0).2) * (y - (l.getD k P0).1) ≤ ((l.getD (k + 1) P0).2 - (l.getD k P0).2) * (z - (l.getD k P0).1) := Int.mul_le_mul_of_nonneg_left (by omega) (by omega)
    have c1 := div_le_div2 b0 b1 (show 1 ≤ (l.getD (k + 1) P0).1 - (l.getD k P0).1 by omega) (Int.le_refl _)
    have c2 := cdiv_le_cdiv2 b0 b1 (show 1 ≤ (l.getD (k + 1) P0).1 - (l.getD k P0).1 by omega) (Int.le_refl _)
    simp only
    omega
   ·
    rw [if_neg hz]
    by_cases hy : y < (l.getD (k + 1) P0).1
    ·
     rw [if_pos hy]
     have b1 : ((l.getD (k + 1) P0).2 - (l.getD k P0).2) * (y - (l.getD k P0).1) ≤ ((l.getD (k + 1) P0).2 - (l.getD k P0).2) * ((l.getD (k + 1) P0).1 - (l.getD k P0).1) := Int.mul_le_mul_of_nonneg_left (by omega) (by omega)
     have c1 := div_bd (b := (l.getD (k + 1) P0).1 - (l.getD k P0).1) b0 (by omega) b1
     have c2 := cdiv_bd (b := (l.getD (k + 1) P0).1 - (l.getD k P0).1) b0 (by omega) b1
     have c3 := val_lo hT (z := z) d (k + 1) (by omega) (by omega)
     simp only
     omega
    ·
     rw [if_neg hy]
     exact ih (k + 1) (by omega) (by omega)
 have := key (l.length - 1) 0 (by have := hT.len; omega) (by rw [hT.z0]; exact h0)
 rwa [List.drop_zero] at this
structure Wid (s t : Int × Int) : Prop where
 lo : s.1 ≤ t.1
 hi : t.2 ≤ s.2
theorem nextT_wid {loss : List (Int × Int)} (hT : Tab loss 32768) {s t b z : Int × Int} (hs : Psg s) (ht : Psg t) (h : Wid s t) (hb : 0 ≤ b.1) (h1 : b.1 ≤ z.1) (h2 : z.2 ≤ b.2) (hz : 0 ≤ z.2) : Wid (nextT loss s b) (nextT loss t z) := by
 have m1 := val_mono hT hb h1
 have m2 := val_mono hT hz h2
 have v1 := val_bd hT hb
 have v2 := val_bd hT (show 0 ≤ b.2 by omega)
 have v3 := val_bd hT hz
 have v4 := val_bd hT (show 0 ≤ z.1 by omega)
 refine ⟨div_le_div2 (Int.mul_nonneg hs.lo (by omega)) (Int.mul_le_mul h.lo (by omega) (by omega) ht.lo) (by omega) (Int.le_refl _), cdiv_le_cdiv2 (Int.mul_nonneg ht.lo' (by omega)) (Int.mul_le_mul h.hi (by omega) (by omega) hs.lo') (by omega) (Int.le_refl _)⟩
theorem restOne_wid {u s w m : Int × Int} (hu : Psg1 u) (hs : Psg1 s) (h : Wid u s) (hm : okM m = true) (hw : okM w = true) (h1 : w.1 ≤ m.1) (h2 : m.2 ≤ w.2) : (restOne u w).1 ≤ (restOne s m).1 ∧ (restOne s m).2 ≤ (restOne u w).2 := by
 obtain ⟨a1, a2, a3⟩ := okM_iff hm
 obtain ⟨b1, b2, b3⟩ := okM_iff hw
 have d := div_le_div2 (a := w.1 * 1073741824) (a' := m.1 * 1073741824) (b := u.2) (b' := s.2) (by omega) (by omega) hs.pos h.hi
 have hlo := h.lo
 unfold restOne
 simp only
 refine ⟨by omega, ?_⟩
 by_cases c : 1048576 ≤ u.1
 ·
  have e := cdiv_le_cdiv2 (a := m.2 * 1073741824) (a' := w.2 * 1073741824) (b := s.1) (b' := u.1) (by omega) (by omega) (by omega) h.lo
  rw [if_pos c, if_pos (by omega)]
  omega
 ·
  rw [if_neg c]
  split <;> omega
theorem passOne_ok {t : Int × Int} (ht : Psg t) (h : t.1 ≤ t.2) {z : Int} (h0 : 0 ≤ z) (h1 : z ≤ 1073741824) : okM (passOne t z) = true := by
 obtain ⟨a, b, c, d⟩ := one_bd ht h0 h1
 have m : z * t.1 ≤ z * t.2 := Int.mul_le_mul_of_nonneg_left h h0
 have m2 : z * t.2 ≤ 1073741824 * 1073741824 := Int.mul_le_mul h1 ht.hi' ht.lo' (by omega)
 have e := div_bd (b := 1073741824) a (by omega) (C := 1073741824) (by omega)
 have f := cdiv_bd (b := 1073741824) c (by omega) (C := 1073741824) m2
 have g := div_le_cdiv (a := z * t.1) (b := 1073741824) (by omega)
 have k := cdiv_le_cdiv2 a m (show (1 : Int) ≤ 1073741824 by omega) (Int.le_refl _)
 exact decide_eq_true ⟨e.1, by unfold passOne; simp only; omega, f.2⟩
theorem restOne_true {s t : Int × Int} (hs : Psg1 s) (ht : Psg t) (htt : t.1 ≤ t.2) (h : Wid s t) {z : Int} (h0 : 0 ≤ z) (h1 : z ≤ 1073741824) : (restOne s (passOne t z)).1 ≤ z ∧ z ≤ (restOne s (passOne t z)).2 := by
 have m1 : z * t.1 ≤ z * s.2 := Int.mul_le_mul_of_nonneg_left (by have := h.hi; omega) h0
 have m2 : z * s.1 ≤ z * t.2 := Int.mul_le_mul_of_nonneg_left (by have := h.lo; omega) h0
 have q1 := Int.ediv_mul_le (z * t.1) (show (1073741824 : Int) ≠ 0 by omega)
 have q2 : z * t.2 ≤ cdiv (z * t.2) 1073741824 * 1073741824 := le_cdiv_mul (by omega)
 have hp := hs.pos
 unfold restOne passOne
 simp only
 constructor
 ·
  have : z * t.1 / 1073741824 * 1073741824 / s.2 < z + 1 := Int.ediv_lt_of_lt_mul (by omega) (by rw [Int.add_mul]; omega)
  omega
 ·
  split
  ·
   rename_i c
   have : z * s.1 ≤ cdiv (cdiv (z * t.2) 1073741824 * 1073741824) s.1 * s.1 := Int.le_trans (by omega) (le_cdiv_mul (by omega))
   have := Int.le_of_mul_le_mul_right this (show 0 < s.1 by omega)
   omega
  · omega
theorem nextT_in {loss : List (Int × Int)} (hT : Tab loss 32768) {t : Int × Int} (ht : Psg t) (h : t.1 ≤ t.2) {z : Int} (h0 : 0 ≤ z) : (nextT loss t (z, z)).1 ≤ (nextT loss t (z, z)).2 := by
 have v := val_bd hT h0
 unfold nextT
 simp only
 have m : t.1 * (65536 - (valGo z loss).2) ≤ t.2 * (65536 - (valGo z loss).1) := Int.mul_le_mul h (by omega) (by omega) ht.lo'
 have a := div_le_cdiv (a := t.1 * (65536 - (valGo z loss).2)) (b := 65536) (by omega)
 have b := cdiv_le_cdiv2 (Int.mul_nonneg ht.lo (show 0 ≤ 65536 - (valGo z loss).2 by omega)) m (show (1 : Int) ≤ 65536 by omega) (Int.le_refl _)
 omega
theorem back_ok {loss : List (Int × Int)} (hT : Tab loss 32768) : ∀ (pw : List Int) (s t : Int × Int), Psg1 s → Psg t → t.1 ≤ t.2 → Wid s t → (∀ z ∈ pw, 0 ≤ z ∧ z ≤ 1073741824) →
  ∀ i, i < pw.length → okM ((passGo loss t pw).getD i (0, 0)) = true ∧ ((restGo loss s (passGo loss t pw)).getD i (0, 0)).1 ≤ pw.getD i 0 ∧ pw.getD i 0 ≤ ((restGo loss s (passGo loss t pw)).getD i (0, 0)).2
 | [], _, _, _, _, _, _, _, i, hi => by simp at hi
 | z :: r, s, t, hs, ht, htt, h, hz, i, hi => by
  obtain ⟨z0, z1⟩ := hz z (by simp)
  have e := restOne_true hs ht htt h z0 z1
  have f := passOne_ok ht htt z0 z1
  have g := restOne_bd hs f
  cases i with
  | zero => exact ⟨f, e⟩
  | succ i =>
   have := back_ok hT r (nextT loss s (restOne s (passOne t z))) (nextT loss t (z, z)) (nextT_psg1 hT hs g.1 g.2.2.1) (nextT_psg hT ht z0 z0) (nextT_in hT ht htt z0) (nextT_wid hT hs.toPsg ht h g.1 e.1 e.2 z0) (fun x hx => hz x (by simp [hx])) i (by simpa using hi)
   simpa [passGo, restGo] using this
theorem wid_ok {loss : List (Int × Int)} (hT : Tab loss 32768) : ∀ (ms ws : List (Int × Int)) (u s : Int × Int), ws.length = ms.length → Psg1 u → Psg1 s → Wid u s →
  (∀ i, i < ms.length → okM (ms.getD i (0, 0)) = true ∧ okM (ws.getD i (0, 0)) = true ∧ (ws.getD i (0, 0)).1 ≤ (ms.getD i (0, 0)).1 ∧ (ms.getD i (0, 0)).2 ≤ (ws.getD i (0, 0)).2) →
  ∀ i, i < ms.length → ((restGo loss u ws).getD i (0, 0)).1 ≤ ((restGo loss s ms).getD i (0, 0)).1 ∧ ((restGo loss s ms).getD i (0, 0)).2 ≤ ((restGo loss u ws).getD i (0, 0)).2
 | [], _, _, _, _, _, _, _, _, i, hi => by simp at hi
 | m :: r, [], _, _, hl, _, _, _, _, i, hi => by simp at hl
 | m :: r, w :: q, u, s, hl, hu, hs, h, hh, i, hi => by
  obtain ⟨a, b, c, d⟩ := hh 0 (by simp)
  simp at a b c d
  have e := restOne_wid hu hs h a b c d
  have f := restOne_bd hu b
  have g := restOne_bd hs a
  cases i with
  | zero => simpa [restGo] using e
  | succ i =>
   have := wid_ok hT r q (nextT loss u (restOne u w)) (nextT loss s (restOne s m)) (by simpa using hl) (nextT_psg1 hT hu f.1 f.2.2.1) (nextT_psg1 hT hs g.1 g.2.2.1) (nextT_wid hT hu.toPsg hs.toPsg h f.1 e.1 e.2 g.2.2.1) (fun j hj => by simpa using hh (j + 1) (by simpa using hj)) i (by simpa using hi)
   simpa [restGo] using this
/-! ### What the law makes of them -/
def nthV (l : List Int) (i : Nat) : Int := if l.length = 0 then 0 else l.getD (i % l.length) 0
theorem nthV_bd {l : List Int} (h : ∀ x ∈ l, 0 ≤ x ∧ x ≤ 4294967295) (i : Nat) : 0 ≤ nthV l i ∧ nthV l i ≤ 4294967295 := by
 unfold nthV
 split
 · omega
 ·
  have : i % l.length < l.length := Nat.mod_lt _ (by omega)
  simp only [List.getD, List.getElem?_eq_getElem this]
  exact h _ (List.getElem_mem this)
end Go.Proofs.Ytepgpihobmjbdaa
end
section
namespace Go.Proofs.Ytepgpihobmjbdaa
def okG (t s : Int) : Bool := win t 0 1000000 && win s 1 10000
def fellS (t s : Int) : Int × Int := (max 0 ((t - 1) * s + 1), (t + 1) * s - 1)
def fellR (t s : Int) : (Int × Int) × Int := if okG t s = true then (fellS t s, 0) else ((0, 0), 3)
theorem gauge_bd {t s : Int} (h : okG t s = true) : 0 ≤ t ∧ t ≤ 1000000 ∧ 1 ≤ s ∧ s ≤ 10000 ∧ -10000 ≤ (t - 1) * s ∧ (t - 1) * s ≤ 10000000000 ∧ 0 ≤ (t + 1) * s ∧ (t + 1) * s ≤ 10000010000 := by
 simp only [okG, Bool.and_eq_true] at h
 obtain ⟨h1, h2⟩ := h
 obtain ⟨a, b⟩ := win_iff.1 h1
 obtain ⟨c, d⟩ := win_iff.1 h2
 have e : (t - 1) * s = t * s - s := by rw [Int.sub_mul]; omega
 have f : (t + 1) * s = t * s + s := by rw [Int.add_mul]; omega
 have g : 0 ≤ t * s := Int.mul_nonneg a (by omega)
 have i : t * s ≤ 1000000 * 10000 := Int.mul_le_mul b d (by omega) (by omega)
 omega
end Go.Proofs.Ytepgpihobmjbdaa
end
section
namespace Go.Proofs.Ytepgpihobmjbdaa
end Go.Proofs.Ytepgpihobmjbdaa
end
section
namespace Go.Proofs.Ytepgpihobmjbdaa
theorem min_if (a b : Int) : min a b = if b < a then b else a := by
 rw [Int.min_def]
 split <;> split <;> omega
end Go.Proofs.Ytepgpihobmjbdaa
end
section
namespace Go.Proofs.Ytepgpihobmjbdaa
end Go.Proofs.Ytepgpihobmjbdaa
end
section
namespace Go.Proofs.Ytepgpihobmjbdaa
def chkModel (l m : List (Int × Int)) (melt inn above : Int × Int) : Int :=
 if chk l 32768 ≠ 0 then chk l 32768 else if chk m 1000000 ≠ 0 then chk m 1000000 else if (ins melt.1 melt.2 20000 && ins inn.1 inn.2 100000 && ins above.1 above.2 100000) = false then 3 else 0
end Go.Proofs.Ytepgpihobmjbdaa
end
section
namespace Go.Proofs.Ytepgpihobmjbdaa
def meetF (is : Bool) (f o : Int × Int) : Int × Int := if is then (min o.1 f.1, max o.2 f.2) else o
def met1 (melt band : Int × Int) : Bool := decide (band.1 < melt.1)
def met2 (melt band : Int × Int) : Bool := decide (max band.1 melt.1 ≤ min band.2 melt.2)
def met3 (melt band : Int × Int) : Bool := decide (melt.2 < band.2)
def facS (melt inn above band : Int × Int) : Int × Int :=
 meetF (met3 melt band) above (meetF (met2 melt band) inn (meetF (met1 melt band) (1000, 1000) (100000, 0)))
def facR (l m : List (Int × Int)) (melt inn above band : Int × Int) : (Int × Int) × Int :=
 if chkModel l m melt inn above ≠ 0 then ((0, 0), chkModel l m melt inn above)
 else if band.2 < band.1 then ((0, 0), 3)
 else (facS melt inn above band, 0)
end Go.Proofs.Ytepgpihobmjbdaa
end
section
namespace Go.Proofs.Ytepgpihobmjbdaa
def winB (n lo hi : Int) : Bool := decide (lo ≤ n ∧ n ≤ hi)
theorem winB_iff {n lo hi : Int} : winB n lo hi = true ↔ lo ≤ n ∧ n ≤ hi := by simp [winB]
structure Vec where
 x : Int
 y : Int
 l : Int
def quarter (q p r l : Int) : Vec := if q = 0 then ⟨p, r, l⟩ else if q = 1 then ⟨r, -p, l⟩ else if q = 2 then ⟨-p, -r, l⟩ else ⟨-r, p, l⟩
def dirV (rose a : Int) : Vec := quarter (a / rose) (2 * rose * (a % rose)) (rose * rose - a % rose * (a % rose)) (rose * rose + a % rose * (a % rose))
def slantV (t : Int) : Vec := ⟨262144 - t * t, 1024 * t, 262144 + t * t⟩
theorem mul_bdB {a b A B : Int} (ha : 0 ≤ a) (haA : a ≤ A) (hb : 0 ≤ b) (hbB : b ≤ B) : 0 ≤ a * b ∧ a * b ≤ A * B :=
 ⟨Int.mul_nonneg ha hb, Int.le_trans (Int.mul_le_mul_of_nonneg_right haA hb) (Int.mul_le_mul_of_nonneg_left hbB (by omega))⟩
theorem dir_bd {rose a : Int} (h1 : 1 ≤ rose) (h2 : rose ≤ 180) (h3 : 0 ≤ a) (h4 : a ≤ 4 * rose - 1) :
  (a / rose = 0 ∨ a / rose = 1 ∨ a / rose = 2 ∨ a / rose = 3) ∧ 0 ≤ a % rose ∧ a % rose < rose ∧ 0 ≤ 2 * rose * (a % rose) ∧ 2 * rose * (a % rose) ≤ 64800 ∧ 0 ≤ rose * rose ∧ rose * rose ≤ 32400 ∧ 0 ≤ a % rose * (a % rose) ∧ a % rose * (a % rose) ≤ 32400 := by
 have a1 := Int.emod_nonneg a (show rose ≠ 0 by omega)
 have a2 := Int.emod_lt_of_pos a (show 0 < rose by omega)
 have b1 : 0 ≤ a / rose := Int.ediv_nonneg h3 (by omega)
 have b2 : a / rose < 4 := Int.ediv_lt_of_lt_mul (by omega) (by omega)
 obtain ⟨c1, c2⟩ := mul_bdB (a := 2 * rose) (b := a % rose) (A := 360) (B := 180) (by omega) (by omega) a1 (by omega)
 obtain ⟨d1, d2⟩ := mul_bdB (a := rose) (b := rose) (A := 180) (B := 180) (by omega) (by omega) (by omega) (by omega)
 obtain ⟨e1, e2⟩ := mul_bdB (a := a % rose) (b := a % rose) (A := 180) (B := 180) a1 (by omega) a1 (by omega)
 exact ⟨by omega, a1, a2, c1, by omega, d1, by omega, e1, by omega⟩
theorem tilt_bd {t : Int} (h1 : -8 ≤ t) (h2 : t ≤ 264) : 0 ≤ t * t ∧ t * t ≤ 69696 := by
 by_cases h : 0 ≤ t
 ·
  obtain ⟨a, b⟩ := mul_bdB h h2 h h2
  exact ⟨a, by omega⟩
 ·
  have e : t * t = -t * -t := by rw [Int.neg_mul_neg]
  obtain ⟨a, b⟩ := mul_bdB (a := -t) (b := -t) (A := 8) (B := 8) (by omega) (by omega) (by omega) (by omega)
  rw [e]; exact ⟨a, by omega⟩
end Go.Proofs.Ytepgpihobmjbdaa
end
section
namespace Go.Proofs.Ytepgpihobmjbdaa
end Go.Proofs.Ytepgpihobmjbdaa
end
section
namespace Go.Proofs.Ytepgpihobmjbdaa
/-! ### Gates -/
end Go.Proofs.Ytepgpihobmjbdaa
end
section
namespace Go.Proofs.Ytepgpihobmjbdaa
theorem down_floor {a b : Int} (hb : 0 < b) : a / b = if a < a.tdiv b * b then a.tdiv b - 1 else a.tdiv b := by
 have h1 := Int.mul_tdiv_add_tmod a b
 rw [Int.mul_comm] at h1
 rw [tdiv_floor hb]
 by_cases h : Int.tmod a b < 0
 · rw [if_pos h, if_pos (by omega)]
 · rw [if_neg h, if_neg (by omega)]
theorem up_ceil {a b : Int} (hb : 0 < b) : cdiv a b = if a.tdiv b * b < a then a.tdiv b + 1 else a.tdiv b := by
 have h1 := Int.mul_tdiv_add_tmod a b
 rw [Int.mul_comm] at h1
 unfold cdiv
 rw [tdiv_floor hb, Int.neg_tdiv]
 have h2 : Int.tmod (-a) b = -Int.tmod a b := Int.neg_tmod a b
 rw [h2]
 by_cases h : 0 < Int.tmod a b
 · rw [if_pos (by omega), if_pos (by omega)]; omega
 · rw [if_neg (by omega), if_neg (by omega)]; omega
theorem tdiv_bds {a b : Int} (hb : 1 ≤ b) (h1 : -4611686018427387903 ≤ a) (h2 : a ≤ 4611686018427387903) :
  -4611686018427387903 ≤ a.tdiv b ∧ a.tdiv b ≤ 4611686018427387903 ∧ -4611686018427387903 ≤ a.tdiv b * b ∧ a.tdiv b * b ≤ 4611686018427387903 := by
 by_cases h : 0 ≤ a
 ·
  rw [Int.tdiv_eq_ediv_of_nonneg h]
  have a1 := Int.ediv_nonneg h (show 0 ≤ b by omega)
  have a2 := Int.ediv_le_self b h
  have a3 := Int.mul_nonneg a1 (show 0 ≤ b by omega)
  have a4 := Int.ediv_mul_le a (show b ≠ 0 by omega)
  omega
 ·
  have e : a.tdiv b = -(-a / b) := by rw [← Int.neg_neg a, Int.neg_tdiv, Int.neg_neg, Int.tdiv_eq_ediv_of_nonneg (by omega)]
  have a1 := Int.ediv_nonneg (show 0 ≤ -a by omega) (show 0 ≤ b by omega)
  have a2 := Int.ediv_le_self b (show 0 ≤ -a by omega)
  have a3 := Int.mul_nonneg a1 (show 0 ≤ b by omega)
  have a4 := Int.ediv_mul_le (-a) (show b ≠ 0 by omega)
  rw [e, Int.neg_mul]
  omega
def siteE (nb : Bool) (x y z r g st wd : Int) : Int :=
 if nb = false then 10 else if (winB x (-1048576) 1048576 && winB y (-1048576) 1048576 && winB z 0 20000 && winB r 1 90 && winB g 1 200 && winB st 50 2000 && winB wd 0 8) = true then 0 else 3
end Go.Proofs.Ytepgpihobmjbdaa
end
