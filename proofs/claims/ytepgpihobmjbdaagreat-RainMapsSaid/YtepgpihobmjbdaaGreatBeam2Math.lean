/-
  Plain functions that say what package rain and its reference compute, on lists and integers; no program in sight.
  Quotients rounded down and up; no program in sight.
  Tables and their values; no program in sight.
  What passes, what is restored and filled: plain functions and their bounds; no program in sight.
  What is restored of what was measured: plain functions and their bounds; no program in sight.
  Gauges: what fell; no program in sight.
  Sums of records: what Sum computes, on the cells of the readings; no program in sight.
  Sums of records, as the reference adds them up: each piece times the slack; no program in sight.
  The scales that suit pairs of a sum and a gauge: what rain and the reference compute; no program in sight.
  Models; no program in sight.
  Factors in plain Lean: what a band of heights meets, one factor after the other.
  Directions of a rose and slants: plain functions and their bounds; no program in sight.
  Sectors and gates: a vector lies in exactly one sector of a rose, a distance between the borders of at most one gate; no program in sight.
  A vector lies in exactly one sector, a distance between the borders of at most one gate: which ones; no program in sight.
  Quotients rounded down and up, sites, ground ranges: plain functions; no program in sight.
-/

set_option linter.unusedSimpArgs false
set_option linter.unusedVariables false
section
namespace Go.Proofs.YtepgpihobmjbdaaGreat
def win (n lo hi : Int) : Bool := decide (lo ≤ n ∧ n ≤ hi)
theorem win_iff {n lo hi : Int} : win n lo hi = true ↔ lo ≤ n ∧ n ≤ hi := by simp [win]
def ins (a b most : Int) : Bool := decide (0 ≤ a ∧ a ≤ b ∧ b ≤ most)
def flat2 : List (Int × Int) → List Int
 | [] => []
 | p :: t => p.1 :: p.2 :: flat2 t
theorem flat2_length (l : List (Int × Int)) : (flat2 l).length = l.length * 2 := by
 induction l with
 | nil => rfl
 | cons p t ih => simp [flat2, ih]; omega
theorem flat2_0 (l : List (Int × Int)) : ∀ k, (flat2 l).getD (k * 2) 0 = (l.getD k (0, 0)).1 := by
 induction l with
 | nil => intro k; simp [flat2]
 | cons p t ih =>
  intro k
  cases k with
  | zero => simp [flat2]
  | succ k => have := ih k; rw [show (k + 1) * 2 = k * 2 + 1 + 1 by omega]; simpa [flat2] using this
theorem flat2_1 (l : List (Int × Int)) : ∀ k, (flat2 l).getD (k * 2 + 1) 0 = (l.getD k (0, 0)).2 := by
 induction l with
 | nil => intro k; simp [flat2]
 | cons p t ih =>
  intro k
  cases k with
  | zero => simp [flat2]
  | succ k => have := ih k; rw [show (k + 1) * 2 + 1 = k * 2 + 1 + 1 + 1 by omega]; simpa [flat2] using this
theorem flat2_append (a b : List (Int × Int)) : flat2 (a ++ b) = flat2 a ++ flat2 b := by
 induction a with
 | nil => rfl
 | cons p t ih => simp [flat2, ih]
def chkGo (most : Int) (k : Nat) (bz br : Int) : List (Int × Int) → Int
 | [] => 0
 | p :: t => if ¬ (win p.1 0 1073741824 = true ∧ win p.2 0 most = true) then 3 else if (k = 0 ∧ 0 < p.1) ∨ p.1 ≤ bz ∨ p.2 < br then 12 else chkGo most (k + 1) p.1 p.2 t
def chk (l : List (Int × Int)) (most : Int) : Int := if l.length < 2 then 18 else if 32 < l.length then 9 else chkGo most 0 (-1) 0 l
theorem chkGo_drop (most : Int) (i : Nat) (bz br : Int) (l : List (Int × Int)) (k : Nat) (hk : k < l.length) : chkGo most i bz br (l.drop k) =
  if ¬ (win (l.getD k (0, 0)).1 0 1073741824 = true ∧ win (l.getD k (0, 0)).2 0 most = true) then 3 else if (i = 0 ∧ 0 < (l.getD k (0, 0)).1) ∨ (l.getD k (0, 0)).1 ≤ bz ∨ (l.getD k (0, 0)).2 < br then 12
  else chkGo most (i + 1) (l.getD k (0, 0)).1 (l.getD k (0, 0)).2 (l.drop (k + 1)) := by
 rw [List.drop_eq_getElem_cons hk, chkGo]
 simp [List.getD, hk]
theorem chkGo_end (most : Int) (i : Nat) (bz br : Int) (l : List (Int × Int)) (k : Nat) (hk : l.length ≤ k) : chkGo most i bz br (l.drop k) = 0 := by
 rw [List.drop_eq_nil_of_le hk, chkGo]
def pz (l : List (Int × Int)) (k : Nat) : Int := if k = 0 then -1 else (l.getD (k - 1) (0, 0)).1
def pr (l : List (Int × Int)) (k : Nat) : Int := if k = 0 then 0 else (l.getD (k - 1) (0, 0)).2
end Go.Proofs.YtepgpihobmjbdaaGreat
end
section
namespace Go.Proofs.YtepgpihobmjbdaaGreat
def cdiv (a b : Int) : Int := -((-a) / b)
theorem cdiv_eq {a b : Int} (hb : 0 < b) : cdiv a b = (a + b - 1) / b := by
 unfold cdiv
 have h1 := Int.mul_ediv_add_emod (a + b - 1) b
 have h2 := Int.emod_nonneg (a + b - 1) (Int.ne_of_gt hb)
 have h3 := Int.emod_lt_of_pos (a + b - 1) hb
 generalize (a + b - 1) / b = q at *
 generalize (a + b - 1) % b = r at *
 have : (-a) / b = -q := by
  have e : -a = (b - 1 - r) + b * (-q) := by rw [Int.mul_neg]; omega
  rw [e, Int.add_mul_ediv_left _ _ (Int.ne_of_gt hb), Int.ediv_eq_zero_of_lt (by omega) (by omega)]
  omega
 rw [this, Int.neg_neg]
theorem tdiv_floor {a b : Int} (hb : 0 < b) : a / b = if Int.tmod a b < 0 then Int.tdiv a b - 1 else Int.tdiv a b := by
 have h1 := Int.mul_tdiv_add_tmod a b
 have h4 : (a.tmod b).natAbs < b.natAbs := by rw [Int.natAbs_tmod]; exact Nat.mod_lt _ (by omega)
 generalize Int.tdiv a b = q at *
 generalize Int.tmod a b = r at *
 split
 ·
  have e : a = (r + b) + b * (q - 1) := by rw [Int.mul_sub]; omega
  rw [e, Int.add_mul_ediv_left _ _ (Int.ne_of_gt hb), Int.ediv_eq_zero_of_lt (by omega) (by omega)]; omega
 ·
  have e : a = r + b * q := by omega
  rw [e, Int.add_mul_ediv_left _ _ (Int.ne_of_gt hb), Int.ediv_eq_zero_of_lt (by omega) (by omega)]; omega
end Go.Proofs.YtepgpihobmjbdaaGreat
end
section
namespace Go.Proofs.YtepgpihobmjbdaaGreat
abbrev P0 : Int × Int := (0, 0)
structure Tab (l : List (Int × Int)) (most : Int) : Prop where
 len : 2 ≤ l.length ∧ l.length ≤ 32
 z0 : (l.getD 0 P0).1 = 0
 rng : ∀ k, k < l.length → 0 ≤ (l.getD k P0).1 ∧ (l.getD k P0).1 ≤ 1073741824 ∧ 0 ≤ (l.getD k P0).2 ∧ (l.getD k P0).2 ≤ most
 mono : ∀ k, k + 1 < l.length → (l.getD k P0).1 < (l.getD (k + 1) P0).1 ∧ (l.getD k P0).2 ≤ (l.getD (k + 1) P0).2
theorem chkGo_ok (most : Int) : ∀ (l : List (Int × Int)) (k : Nat) (bz br : Int), chkGo most k bz br l = 0 →
  (∀ i, i < l.length → 0 ≤ (l.getD i P0).1 ∧ (l.getD i P0).1 ≤ 1073741824 ∧ 0 ≤ (l.getD i P0).2 ∧ (l.getD i P0).2 ≤ most) ∧
  (∀ i, i + 1 < l.length → (l.getD i P0).1 < (l.getD (i + 1) P0).1 ∧ (l.getD i P0).2 ≤ (l.getD (i + 1) P0).2) ∧
  (0 < l.length → bz < (l.getD 0 P0).1 ∧ br ≤ (l.getD 0 P0).2 ∧ (k = 0 → (l.getD 0 P0).1 ≤ 0)) := by
 intro l
 induction l with
 | nil => intro k bz br _; exact ⟨fun i hi => by simp at hi, fun i hi => by simp at hi, fun h => by simp at h⟩
 | cons p t ih =>
  intro k bz br h
  rw [chkGo] at h
  by_cases hw : win p.1 0 1073741824 = true ∧ win p.2 0 most = true
  ·
   rw [if_neg (by simpa using hw)] at h
   by_cases ho : (k = 0 ∧ 0 < p.1) ∨ p.1 ≤ bz ∨ p.2 < br
   · rw [if_pos ho] at h; omega
   ·
    rw [if_neg ho] at h
    obtain ⟨h1, h2, h3⟩ := ih _ _ _ h
    have w1 := win_iff.1 hw.1
    have w2 := win_iff.1 hw.2
    refine ⟨fun i hi => ?_, fun i hi => ?_, fun _ => ?_⟩
    ·
     cases i with
     | zero => simp; omega
     | succ i => simpa using h1 i (by simpa using hi)
    ·
     cases i with
     | zero =>
      have := h3 (by simpa using hi)
      simpa using ⟨this.1, this.2.1⟩
     | succ i => simpa using h2 i (by simpa using hi)
    · simp; omega
  · rw [if_pos hw] at h; omega
theorem tab_of {l : List (Int × Int)} {most : Int} (h : chk l most = 0) : Tab l most := by
 unfold chk at h
 by_cases h1 : l.length < 2
 · rw [if_pos h1] at h; omega
 rw [if_neg h1] at h
 by_cases h2 : 32 < l.length
 · rw [if_pos h2] at h; omega
 rw [if_neg h2] at h
 obtain ⟨a, b, c⟩ := chkGo_ok most l 0 _ _ h
 have := c (by omega)
 exact ⟨by omega, by have := a 0 (by omega); have := this.1; have := (c (by omega)).2.2 rfl; omega, a, b⟩
def valGo (z : Int) : List (Int × Int) → Int × Int
 | [] => (0, 0)
 | [p] => (p.2, p.2)
 | p :: q :: t => if z < q.1 then (p.2 + (q.2 - p.2) * (z - p.1) / (q.1 - p.1), p.2 + cdiv ((q.2 - p.2) * (z - p.1)) (q.1 - p.1)) else valGo z (q :: t)
theorem val_drop {l : List (Int × Int)} {k : Nat} (z : Int) (h : k + 1 < l.length) : valGo z (l.drop k) = if z < (l.getD (k + 1) P0).1 then
  ((l.getD k P0).2 + ((l.getD (k + 1) P0).2 - (l.getD k P0).2) * (z - (l.getD k P0).1) / ((l.getD (k + 1) P0).1 - (l.getD k P0).1), (l.getD k P0).2 + cdiv (((l.getD (k + 1) P0).2 - (l.getD k P0).2) * (z - (l.getD k P0).1)) ((l.getD (k + 1) P0).1 - (l.getD k P0).1))
  else valGo z (l.drop (k + 1)) := by
 have e1 : l.drop k = l.getD k P0 :: l.getD (k + 1) P0 :: l.drop (k + 2) := by
  rw [List.drop_eq_getElem_cons (by omega), List.drop_eq_getElem_cons (i := k + 1) (by omega)]
  simp [List.getD, h, show k < l.length by omega]
 have e2 : l.drop (k + 1) = l.getD (k + 1) P0 :: l.drop (k + 2) := by
  rw [List.drop_eq_getElem_cons (i := k + 1) (by omega)]
  simp [List.getD, h]
 rw [e1, e2, valGo]
theorem val_last {l : List (Int × Int)} {k : Nat} (z : Int) (h : k + 1 = l.length) : valGo z (l.drop k) = ((l.getD k P0).2, (l.getD k P0).2) := by
 have e1 : l.drop k = [l.getD k P0] := by
  rw [List.drop_eq_getElem_cons (by omega), List.drop_eq_nil_of_le (by omega)]
  simp [List.getD, show k < l.length by omega]
 rw [e1, valGo]
theorem mul_bd {a b A B : Int} (ha : 0 ≤ a) (haA : a ≤ A) (hb : 0 ≤ b) (hbB : b ≤ B) : 0 ≤ a * b ∧ a * b ≤ A * B :=
 ⟨Int.mul_nonneg ha hb, Int.mul_le_mul haA hbB hb (by omega)⟩
theorem tab_le {l : List (Int × Int)} {most : Int} (hT : Tab l most) {i j : Nat} (h : i ≤ j) (hj : j < l.length) : (l.getD i P0).1 ≤ (l.getD j P0).1 := by
 induction j with
 | zero =>
  obtain rfl : i = 0 := by omega
  exact Int.le_refl _
 | succ j ih =>
  rcases Nat.lt_or_ge i (j + 1) with h1 | h1
  · have := ih (by omega) (by omega); have := (hT.mono j hj).1; omega
  ·
   obtain rfl : i = j + 1 := by omega
   exact Int.le_refl _
theorem val_from {l : List (Int × Int)} {most : Int} (hT : Tab l most) {z : Int} : ∀ k, k < l.length → (l.getD k P0).1 ≤ z → valGo z l = valGo z (l.drop k) := by
 intro k
 induction k with
 | zero => intro _ _; rw [List.drop_zero]
 | succ k ih =>
  intro hk hz
  rw [ih (by omega) (by have := (hT.mono k hk).1; omega), val_drop z hk, if_neg (by omega)]
theorem cdiv_zero (b : Int) : cdiv 0 b = 0 := by simp [cdiv]
theorem val_hit {l : List (Int × Int)} {most : Int} (hT : Tab l most) {z : Int} {i : Nat} (hi : i < l.length) (h : (l.getD i P0).1 = z) : valGo z l = ((l.getD i P0).2, (l.getD i P0).2) := by
 rw [val_from hT i hi (by omega)]
 by_cases hl : i + 1 < l.length
 ·
  rw [val_drop z hl, if_pos (by have := (hT.mono i hl).1; omega), h, Int.sub_self, Int.mul_zero, cdiv_zero]
  simp
 · exact val_last z (by omega)
theorem val_end {l : List (Int × Int)} {most : Int} (hT : Tab l most) {z : Int} {i : Nat} (hi : i + 1 = l.length) (h : (l.getD i P0).1 ≤ z) : valGo z l = ((l.getD i P0).2, (l.getD i P0).2) := by
 rw [val_from hT i (by omega) h]
 exact val_last z hi
theorem val_mid {l : List (Int × Int)} {most : Int} (hT : Tab l most) {z : Int} {i : Nat} (hi : i + 1 < l.length) (h : (l.getD i P0).1 ≤ z) (h2 : z < (l.getD (i + 1) P0).1) : valGo z l =
  ((l.getD i P0).2 + ((l.getD (i + 1) P0).2 - (l.getD i P0).2) * (z - (l.getD i P0).1) / ((l.getD (i + 1) P0).1 - (l.getD i P0).1), (l.getD i P0).2 + cdiv (((l.getD (i + 1) P0).2 - (l.getD i P0).2) * (z - (l.getD i P0).1)) ((l.getD (i + 1) P0).1 - (l.getD i P0).1)) := by
 rw [val_from hT i (by omega) h, val_drop z hi, if_pos h2]
end Go.Proofs.YtepgpihobmjbdaaGreat
end
section
namespace Go.Proofs.YtepgpihobmjbdaaGreat
theorem cdiv_bd {a b C : Int} (ha : 0 ≤ a) (hb : 1 ≤ b) (h : a ≤ C * b) : 0 ≤ cdiv a b ∧ cdiv a b ≤ C := by
 rw [cdiv_eq (by omega)]
 refine ⟨Int.ediv_nonneg (by omega) (by omega), ?_⟩
 have : (a + b - 1) / b < C + 1 := Int.ediv_lt_of_lt_mul (by omega) (by rw [Int.add_mul]; omega)
 omega
theorem div_bd {a b C : Int} (ha : 0 ≤ a) (hb : 1 ≤ b) (h : a ≤ C * b) : 0 ≤ a / b ∧ a / b ≤ C := by
 refine ⟨Int.ediv_nonneg ha (by omega), ?_⟩
 have : a / b < C + 1 := Int.ediv_lt_of_lt_mul (by omega) (by rw [Int.add_mul]; omega)
 omega
theorem div_le_cdiv {a b : Int} (hb : 1 ≤ b) : a / b ≤ cdiv a b := by
 rw [cdiv_eq (by omega)]
 exact Int.ediv_le_ediv (by omega) (by omega)
theorem val_bd {l : List (Int × Int)} {most : Int} (hT : Tab l most) {z : Int} (hz : 0 ≤ z) : 0 ≤ (valGo z l).1 ∧ (valGo z l).1 ≤ (valGo z l).2 ∧ (valGo z l).2 ≤ most := by
 have key : ∀ d k : Nat, k + d + 1 = l.length → (l.getD k P0).1 ≤ z → 0 ≤ (valGo z (l.drop k)).1 ∧ (valGo z (l.drop k)).1 ≤ (valGo z (l.drop k)).2 ∧ (valGo z (l.drop k)).2 ≤ most := by
  intro d
  induction d with
  | zero =>
   intro k hk _
   rw [val_last z (by omega)]
   have := hT.rng k (by omega)
   simp only
   omega
  | succ d ih =>
   intro k hk hz1
   rw [val_drop z (by omega)]
   have r1 := hT.rng k (by omega)
   have r2 := hT.rng (k + 1) (by omega)
   have hm := hT.mono k (by omega)
   by_cases h : z < (l.getD (k + 1) P0).1
   ·
    rw [if_pos h]
    have h1 := mul_bd (a := (l.getD (k + 1) P0).2 - (l.getD k P0).2) (b := z - (l.getD k P0).1) (A := (l.getD (k + 1) P0).2 - (l.getD k P0).2) (B := (l.getD (k + 1) P0).1 - (l.getD k P0).1) (by omega) (by omega) (by omega) (by omega)
    have h2 := div_bd (b := (l.getD (k + 1) P0).1 - (l.getD k P0).1) h1.1 (by omega) h1.2
    have h3 := cdiv_bd (b := (l.getD (k + 1) P0).1 - (l.getD k P0).1) h1.1 (by omega) h1.2
    have h4 := div_le_cdiv (a := ((l.getD (k + 1) P0).2 - (l.getD k P0).2) * (z - (l.getD k P0).1)) (b := (l.getD (k + 1) P0).1 - (l.getD k P0).1) (by omega)
    simp only
    omega
   ·
    rw [if_neg h]
    exact ih (k + 1) (by omega) (by omega)
 have := key (l.length - 1) 0 (by have := hT.len; omega) (by rw [hT.z0]; exact hz)
 rwa [List.drop_zero] at this
def nextT (loss : List (Int × Int)) (t z : Int × Int) : Int × Int := (t.1 * (65536 - (valGo z.2 loss).2) / 65536, cdiv (t.2 * (65536 - (valGo z.1 loss).1)) 65536)
structure Psg (t : Int × Int) : Prop where
 lo : 0 ≤ t.1
 hi : t.1 ≤ 1073741824
 lo' : 0 ≤ t.2
 hi' : t.2 ≤ 1073741824
theorem nextT_psg {loss : List (Int × Int)} (hT : Tab loss 32768) {t z : Int × Int} (ht : Psg t) (h1 : 0 ≤ z.1) (h2 : 0 ≤ z.2) : Psg (nextT loss t z) := by
 have a := val_bd hT h1
 have b := val_bd hT h2
 have c := mul_bd (a := t.1) (b := 65536 - (valGo z.2 loss).2) (A := 1073741824) (B := 65536) ht.lo ht.hi (by omega) (by omega)
 have d := mul_bd (a := t.2) (b := 65536 - (valGo z.1 loss).1) (A := 1073741824) (B := 65536) ht.lo' ht.hi' (by omega) (by omega)
 have e := div_bd c.1 (by omega : (1 : Int) ≤ 65536) (C := 1073741824) (by omega)
 have f := cdiv_bd d.1 (by omega : (1 : Int) ≤ 65536) (C := 1073741824) (by omega)
 exact ⟨e.1, e.2, f.1, f.2⟩
def passOne (t : Int × Int) (z : Int) : Int × Int := (z * t.1 / 1073741824, cdiv (z * t.2) 1073741824)
def passGo (loss : List (Int × Int)) (t : Int × Int) : List Int → List (Int × Int)
 | [] => []
 | z :: r => passOne t z :: passGo loss (nextT loss t (z, z)) r
def whole : Int × Int := (1073741824, 1073741824)
def okP (z : Int) : Bool := win z 0 1073741824
def passR (loss : List (Int × Int)) (pw : List Int) : List (Int × Int) × Int :=
 if chk loss 32768 ≠ 0 then ([], chk loss 32768) else if 200 < pw.length then ([], 9) else if pw.all okP = true then (passGo loss whole pw, 0) else ([], 3)
theorem passGo_drop (loss : List (Int × Int)) (t : Int × Int) (pw : List Int) (k : Nat) (hk : k < pw.length) : passGo loss t (pw.drop k) = passOne t (pw.getD k 0) :: passGo loss (nextT loss t (pw.getD k 0, pw.getD k 0)) (pw.drop (k + 1)) := by
 rw [List.drop_eq_getElem_cons hk, passGo]
 simp [List.getD, hk]
theorem all_ok {pw : List Int} (h : ∀ j, j < pw.length → okP (pw.getD j 0) = true) : pw.all okP = true := by
 rw [List.all_eq_true]
 intro x hx
 obtain ⟨j, hj, rfl⟩ := List.mem_iff_getElem.1 hx
 have := h j hj
 simpa [List.getD, hj] using this
theorem not_all_ok {pw : List Int} {j : Nat} (hj : j < pw.length) (h : okP (pw.getD j 0) = false) : pw.all okP = false := by
 rw [List.all_eq_false]
 refine ⟨pw[j], List.getElem_mem hj, ?_⟩
 have e : pw.getD j 0 = pw[j] := by simp [List.getD, hj]
 rw [← e, h]
 simp
theorem one_bd {t : Int × Int} (ht : Psg t) {z : Int} (h0 : 0 ≤ z) (h1 : z ≤ 1073741824) : 0 ≤ z * t.1 ∧ z * t.1 ≤ 1152921504606846976 ∧ 0 ≤ z * t.2 ∧ z * t.2 ≤ 1152921504606846976 := by
 have a := mul_bd (a := z) (b := t.1) (A := 1073741824) (B := 1073741824) h0 h1 ht.lo ht.hi
 have b := mul_bd (a := z) (b := t.2) (A := 1073741824) (B := 1073741824) h0 h1 ht.lo' ht.hi'
 omega
end Go.Proofs.YtepgpihobmjbdaaGreat
end
section
namespace Go.Proofs.YtepgpihobmjbdaaGreat
def restOne (t m : Int × Int) : Int × Int :=
 (min 1073741824 (m.1 * 1073741824 / t.2), if 1048576 ≤ t.1 then min 1073741824 (cdiv (m.2 * 1073741824) t.1) else 1073741824)
def restGo (loss : List (Int × Int)) (t : Int × Int) : List (Int × Int) → List (Int × Int)
 | [] => []
 | m :: r => restOne t m :: restGo loss (nextT loss t (restOne t m)) r
def okM (m : Int × Int) : Bool := decide (0 ≤ m.1 ∧ m.1 ≤ m.2 ∧ m.2 ≤ 1073741824)
theorem okM_iff {m : Int × Int} (h : okM m = true) : 0 ≤ m.1 ∧ m.1 ≤ m.2 ∧ m.2 ≤ 1073741824 := of_decide_eq_true h
structure Psg1 (t : Int × Int) : Prop extends Psg t where
 pos : 1 ≤ t.2
theorem restOne_bd {t m : Int × Int} (ht : Psg1 t) (hm : okM m = true) : 0 ≤ (restOne t m).1 ∧ (restOne t m).1 ≤ 1073741824 ∧ 0 ≤ (restOne t m).2 ∧ (restOne t m).2 ≤ 1073741824 := by
 obtain ⟨h1, h2, h3⟩ := okM_iff hm
 have a := Int.ediv_nonneg (show 0 ≤ m.1 * 1073741824 by omega) (show 0 ≤ t.2 from ht.lo')
 unfold restOne
 by_cases c : 1048576 ≤ t.1
 ·
  rw [if_pos c]
  have b : 0 ≤ cdiv (m.2 * 1073741824) t.1 := by rw [cdiv_eq (by omega)]; exact Int.ediv_nonneg (by omega) (by omega)
  simp only; omega
 ·
  rw [if_neg c]
  simp only; omega
theorem nextT_psg1 {loss : List (Int × Int)} (hT : Tab loss 32768) {t z : Int × Int} (ht : Psg1 t) (h1 : 0 ≤ z.1) (h2 : 0 ≤ z.2) : Psg1 (nextT loss t z) := by
 have hp := nextT_psg hT ht.toPsg h1 h2
 refine ⟨hp, ?_⟩
 have a := val_bd hT h1
 unfold nextT
 simp only
 generalize (valGo z.1 loss).1 = v at *
 have hv : 32768 ≤ 65536 - v := by omega
 have hpos : 0 < t.2 * (65536 - v) := Int.mul_pos (by have := ht.pos; omega) (by omega)
 rw [cdiv_eq (by omega)]
 have := (Int.le_ediv_iff_mul_le (a := 1) (b := t.2 * (65536 - v) + 65536 - 1) (c := 65536) (by omega)).2 (by omega)
 exact this
theorem whole_psg1 : Psg1 whole := ⟨⟨by decide, by decide, by decide, by decide⟩, by decide⟩
theorem restGo_length (loss : List (Int × Int)) : ∀ (l : List (Int × Int)) (t : Int × Int), (restGo loss t l).length = l.length
 | [], _ => rfl
 | m :: r, t => by simp [restGo, restGo_length loss r]
theorem restGo_drop (loss : List (Int × Int)) (t : Int × Int) (l : List (Int × Int)) (k : Nat) (hk : k < l.length) : restGo loss t (l.drop k) = restOne t (l.getD k (0, 0)) :: restGo loss (nextT loss t (restOne t (l.getD k (0, 0)))) (l.drop (k + 1)) := by
 rw [List.drop_eq_getElem_cons hk, restGo]
 simp [List.getD, hk]
theorem all_okM {l : List (Int × Int)} (h : ∀ j, j < l.length → okM (l.getD j (0, 0)) = true) : l.all okM = true := by
 rw [List.all_eq_true]
 intro x hx
 obtain ⟨j, hj, rfl⟩ := List.mem_iff_getElem.1 hx
 have := h j hj
 simpa [List.getD, hj] using this
/-! ### Threads in the way -/
def capI (a : Int) : Int := min a 1073741824
def fillS (p : Int × Int) (n : Int) (b : Int × Int) : Int × Int :=
 (min 1073741824 (p.1 * n / max 1 (n - b.1)), if b.2 < n then min 1073741824 (cdiv (p.2 * n) (n - b.2)) else 1073741824)
def okF (p : Int × Int) (n : Int) (b : Int × Int) : Bool := okM p && win n 1 17 && ins b.1 b.2 n
end Go.Proofs.YtepgpihobmjbdaaGreat
end
section
namespace Go.Proofs.YtepgpihobmjbdaaGreat
def okG (t s : Int) : Bool := win t 0 1000000 && win s 1 10000
def fellS (t s : Int) : Int × Int := (max 0 ((t - 1) * s + 1), (t + 1) * s - 1)
def fellR (t s : Int) : (Int × Int) × Int := if okG t s = true then (fellS t s, 0) else ((0, 0), 3)
theorem gauge_bd {t s : Int} (h : okG t s = true) : 0 ≤ t ∧ t ≤ 1000000 ∧ 1 ≤ s ∧ s ≤ 10000 ∧ -10000 ≤ (t - 1) * s ∧ (t - 1) * s ≤ 10000000000 ∧ 0 ≤ (t + 1) * s ∧ (t + 1) * s ≤ 10000010000 := by
 simp only [okG, Bool.and_eq_true] at h
 obtain ⟨h1, h2⟩ := h
 obtain ⟨a, b⟩ := win_iff.1 h1
 obtain ⟨c, d⟩ := win_iff.1 h2
 have e : (t - 1) * s = t * s - s := by rw [Int.sub_mul]; omega
 have f : (t + 1) * s = t * s + s := by rw [Int.add_mul]; omega
 have g : 0 ≤ t * s := Int.mul_nonneg a (by omega)
 have i : t * s ≤ 1000000 * 10000 := Int.mul_le_mul b d (by omega) (by omega)
 omega
end Go.Proofs.YtepgpihobmjbdaaGreat
end
section
namespace Go.Proofs.YtepgpihobmjbdaaGreat
end Go.Proofs.YtepgpihobmjbdaaGreat
end
section
namespace Go.Proofs.YtepgpihobmjbdaaGreat
theorem min_if (a b : Int) : min a b = if b < a then b else a := by
 rw [Int.min_def]
 split <;> split <;> omega
theorem max_if (a b : Int) : max a b = if a < b then b else a := by
 rw [Int.max_def]
 split <;> split <;> omega
end Go.Proofs.YtepgpihobmjbdaaGreat
end
section
namespace Go.Proofs.YtepgpihobmjbdaaGreat
theorem cdiv_bd' {a b : Int} (ha : 0 ≤ a) (hb : 1 ≤ b) : 0 ≤ cdiv a b ∧ cdiv a b ≤ a := by
 rw [cdiv_eq (by omega)]
 refine ⟨Int.ediv_nonneg (by omega) (by omega), ?_⟩
 have : (a + b - 1) / b < a + 1 := Int.ediv_lt_of_lt_mul (by omega) (by
  have : a * 1 ≤ a * b := Int.mul_le_mul_of_nonneg_left hb ha
  rw [Int.add_mul]; omega)
 omega
end Go.Proofs.YtepgpihobmjbdaaGreat
end
section
namespace Go.Proofs.YtepgpihobmjbdaaGreat
def chkModel (l m : List (Int × Int)) (melt inn above : Int × Int) : Int :=
 if chk l 32768 ≠ 0 then chk l 32768 else if chk m 1000000 ≠ 0 then chk m 1000000 else if (ins melt.1 melt.2 20000 && ins inn.1 inn.2 100000 && ins above.1 above.2 100000) = false then 3 else 0
end Go.Proofs.YtepgpihobmjbdaaGreat
end
section
namespace Go.Proofs.YtepgpihobmjbdaaGreat
def meetF (is : Bool) (f o : Int × Int) : Int × Int := if is then (min o.1 f.1, max o.2 f.2) else o
def met1 (melt band : Int × Int) : Bool := decide (band.1 < melt.1)
def met2 (melt band : Int × Int) : Bool := decide (max band.1 melt.1 ≤ min band.2 melt.2)
def met3 (melt band : Int × Int) : Bool := decide (melt.2 < band.2)
def facS (melt inn above band : Int × Int) : Int × Int :=
 meetF (met3 melt band) above (meetF (met2 melt band) inn (meetF (met1 melt band) (1000, 1000) (100000, 0)))
end Go.Proofs.YtepgpihobmjbdaaGreat
end
section
namespace Go.Proofs.YtepgpihobmjbdaaGreat
def winB (n lo hi : Int) : Bool := decide (lo ≤ n ∧ n ≤ hi)
theorem winB_iff {n lo hi : Int} : winB n lo hi = true ↔ lo ≤ n ∧ n ≤ hi := by simp [winB]
structure Vec where
 x : Int
 y : Int
 l : Int
def quarter (q p r l : Int) : Vec := if q = 0 then ⟨p, r, l⟩ else if q = 1 then ⟨r, -p, l⟩ else if q = 2 then ⟨-p, -r, l⟩ else ⟨-r, p, l⟩
def dirV (rose a : Int) : Vec := quarter (a / rose) (2 * rose * (a % rose)) (rose * rose - a % rose * (a % rose)) (rose * rose + a % rose * (a % rose))
def okD (rose a : Int) : Bool := winB rose 1 180 && winB a 0 (4 * rose - 1)
def dirR (rose a : Int) : Vec × Int := if okD rose a = true then (dirV rose a, 0) else (⟨0, 0, 0⟩, 3)
def slantV (t : Int) : Vec := ⟨262144 - t * t, 1024 * t, 262144 + t * t⟩
def slantR (t : Int) : Vec × Int := if winB t (-8) 264 = true then (slantV t, 0) else (⟨0, 0, 0⟩, 3)
theorem mul_bdB {a b A B : Int} (ha : 0 ≤ a) (haA : a ≤ A) (hb : 0 ≤ b) (hbB : b ≤ B) : 0 ≤ a * b ∧ a * b ≤ A * B :=
 ⟨Int.mul_nonneg ha hb, Int.le_trans (Int.mul_le_mul_of_nonneg_right haA hb) (Int.mul_le_mul_of_nonneg_left hbB (by omega))⟩
theorem dir_bd {rose a : Int} (h1 : 1 ≤ rose) (h2 : rose ≤ 180) (h3 : 0 ≤ a) (h4 : a ≤ 4 * rose - 1) :
  (a / rose = 0 ∨ a / rose = 1 ∨ a / rose = 2 ∨ a / rose = 3) ∧ 0 ≤ a % rose ∧ a % rose < rose ∧ 0 ≤ 2 * rose * (a % rose) ∧ 2 * rose * (a % rose) ≤ 64800 ∧ 0 ≤ rose * rose ∧ rose * rose ≤ 32400 ∧ 0 ≤ a % rose * (a % rose) ∧ a % rose * (a % rose) ≤ 32400 := by
 have a1 := Int.emod_nonneg a (show rose ≠ 0 by omega)
 have a2 := Int.emod_lt_of_pos a (show 0 < rose by omega)
 have b1 : 0 ≤ a / rose := Int.ediv_nonneg h3 (by omega)
 have b2 : a / rose < 4 := Int.ediv_lt_of_lt_mul (by omega) (by omega)
 obtain ⟨c1, c2⟩ := mul_bdB (a := 2 * rose) (b := a % rose) (A := 360) (B := 180) (by omega) (by omega) a1 (by omega)
 obtain ⟨d1, d2⟩ := mul_bdB (a := rose) (b := rose) (A := 180) (B := 180) (by omega) (by omega) (by omega) (by omega)
 obtain ⟨e1, e2⟩ := mul_bdB (a := a % rose) (b := a % rose) (A := 180) (B := 180) a1 (by omega) a1 (by omega)
 exact ⟨by omega, a1, a2, c1, by omega, d1, by omega, e1, by omega⟩
theorem tilt_bd {t : Int} (h1 : -8 ≤ t) (h2 : t ≤ 264) : 0 ≤ t * t ∧ t * t ≤ 69696 := by
 by_cases h : 0 ≤ t
 ·
  obtain ⟨a, b⟩ := mul_bdB h h2 h h2
  exact ⟨a, by omega⟩
 ·
  have e : t * t = -t * -t := by rw [Int.neg_mul_neg]
  obtain ⟨a, b⟩ := mul_bdB (a := -t) (b := -t) (A := 8) (B := 8) (by omega) (by omega) (by omega) (by omega)
  rw [e]; exact ⟨a, by omega⟩
end Go.Proofs.YtepgpihobmjbdaaGreat
end
section
namespace Go.Proofs.YtepgpihobmjbdaaGreat
def dP (n k : Int) : Int := 2 * n * k
def dQ (n k : Int) : Int := n * n - k * k
theorem cross_dir (n k j : Int) : dQ n k * dP n j - dP n k * dQ n j = 2 * n * ((j - k) * (n * n + k * j)) := by
 unfold dP dQ; grind
theorem dP_nonneg {n k : Int} (hn : 1 ≤ n) (hk : 0 ≤ k) : 0 ≤ dP n k := Int.mul_nonneg (by omega) hk
theorem dQ_nonneg {n k : Int} (_hn : 1 ≤ n) (hk : 0 ≤ k) (h : k ≤ n) : 0 ≤ dQ n k := by
 have : k * k ≤ n * n := Int.mul_le_mul h h hk (by omega)
 unfold dQ; omega
theorem cross_pos {n k j : Int} (hn : 1 ≤ n) (hk : 0 ≤ k) (hkj : k < j) : 0 < dQ n k * dP n j - dP n k * dQ n j := by
 rw [cross_dir]
 have h1 : 0 < n * n := Int.mul_pos (by omega) (by omega)
 have h2 : 0 ≤ k * j := Int.mul_nonneg hk (by omega)
 exact Int.mul_pos (by omega) (Int.mul_pos (by omega) (by omega))
def aheadB (n k x y : Int) : Bool := decide (dP n k * y ≤ dQ n k * x)
theorem ahead_zero {n x y : Int} (hx : 0 ≤ x) : aheadB n 0 x y = true := by
 unfold aheadB dP dQ
 have : 0 ≤ n * n * x := Int.mul_nonneg (by by_cases h : 0 ≤ n; exact Int.mul_nonneg h h; exact Int.mul_nonneg_of_nonpos_of_nonpos (by omega) (by omega)) hx
 exact decide_eq_true (by simpa using this)
theorem ahead_end {n x y : Int} (hn : 1 ≤ n) (hy : 0 < y) : aheadB n n x y = false := by
 unfold aheadB dP dQ
 have h1 : 0 < 2 * n * n * y := Int.mul_pos (Int.mul_pos (by omega) (by omega)) hy
 exact decide_eq_false (by rw [Int.sub_self, Int.zero_mul]; omega)
theorem ahead_mono {n k j x y : Int} (hn : 1 ≤ n) (hk : 0 ≤ k) (hkj : k ≤ j) (hj : j ≤ n) (hx : 0 ≤ x) (hy : 0 < y) (h : aheadB n k x y = false) : aheadB n j x y = false := by
 by_cases e : k = j
 · subst e; exact h
 have h1 : dQ n k * x < dP n k * y := by have := of_decide_eq_false h; omega
 refine decide_eq_false ?_
 intro h2
 have c := cross_pos hn hk (show k < j by omega)
 have pk := dP_nonneg hn hk
 have qk := dQ_nonneg hn hk (show k ≤ n by omega)
 have pj := dP_nonneg hn (show 0 ≤ j by omega)
 have qx : 0 ≤ dQ n k * x := Int.mul_nonneg qk hx
 -- dP j * y * dP k <= dQ j * x * dP k <= x * dQ k * dP j < dP k * y * dP j
 have a1 : dP n j * y * dP n k ≤ dQ n j * x * dP n k := Int.mul_le_mul_of_nonneg_right h2 pk
 have a2 : x * (dP n k * dQ n j) ≤ x * (dQ n k * dP n j) := Int.mul_le_mul_of_nonneg_left (by omega) hx
 have a3 : dQ n k * x * dP n j ≤ (dP n k * y - 1) * dP n j := Int.mul_le_mul_of_nonneg_right (by omega) pj
 have pj0 : 0 < dP n j := by
  rcases Int.lt_or_eq_of_le pj with h | h
  · exact h
  ·
   rw [← h] at c
   have : dP n k * dQ n j ≥ 0 := Int.mul_nonneg pk (dQ_nonneg hn (by omega) hj)
   omega
 have e1 : dP n j * y * dP n k = dP n k * y * dP n j := by grind
 have e2 : dQ n j * x * dP n k = x * (dP n k * dQ n j) := by grind
 have e3 : x * (dQ n k * dP n j) = dQ n k * x * dP n j := by grind
 have e4 : (dP n k * y - 1) * dP n j = dP n k * y * dP n j - dP n j := by grind
 omega
def rotN (X Y : Int) : Nat → Int × Int
 | 0 => (X, Y)
 | q + 1 => (-(rotN X Y q).2, (rotN X Y q).1)
def quad (X Y : Int) : Nat := if 0 ≤ X ∧ 0 < Y then 0 else if 0 ≤ -Y ∧ 0 < X then 1 else if 0 ≤ -X ∧ 0 < -Y then 2 else 3
theorem quad_le (X Y : Int) : quad X Y ≤ 3 := by
 unfold quad
 repeat' split
 all_goals omega
theorem quad_at {X Y : Int} (h : ¬ (X = 0 ∧ Y = 0)) : 0 ≤ (rotN X Y (quad X Y)).1 ∧ 0 < (rotN X Y (quad X Y)).2 := by
 unfold quad
 repeat' split
 all_goals
  simp only [rotN]
  omega
theorem quad_not {X Y : Int} {q : Nat} (h : q < quad X Y) : (rotN X Y q).1 < 0 ∨ (rotN X Y q).2 ≤ 0 := by
 have h3 := quad_le X Y
 have : q = 0 ∨ q = 1 ∨ q = 2 := by omega
 unfold quad at h
 rcases this with rfl | rfl | rfl <;> simp only [rotN] <;> (repeat' split at h) <;> omega
theorem quad_uniq {X Y : Int} {q : Nat} (hq : q ≤ 3) (h1 : 0 ≤ (rotN X Y q).1) (h2 : 0 < (rotN X Y q).2) : q = quad X Y := by
 unfold quad
 have : q = 0 ∨ q = 1 ∨ q = 2 ∨ q = 3 := by omega
 rcases this with rfl | rfl | rfl | rfl <;> simp only [rotN] at h1 h2 <;> (repeat' split) <;> omega
theorem rot_bd {X Y M : Int} (hx : -M ≤ X ∧ X ≤ M) (hy : -M ≤ Y ∧ Y ≤ M) : ∀ q, (-M ≤ (rotN X Y q).1 ∧ (rotN X Y q).1 ≤ M) ∧ (-M ≤ (rotN X Y q).2 ∧ (rotN X Y q).2 ≤ M)
 | 0 => ⟨hx, hy⟩
 | q + 1 => by
  have := rot_bd hx hy q
  simp only [rotN]
  omega
def sectorB (rose a X Y : Int) : Bool := decide (0 ≤ (dirV rose a).y * X - (dirV rose a).x * Y) && decide (0 < Y * (dirV rose ((a + 1) % (4 * rose))).x - X * (dirV rose ((a + 1) % (4 * rose))).y)
theorem div_add {n : Int} {q : Nat} {k : Int} (hn : 1 ≤ n) (hk : 0 ≤ k) (hkn : k < n) : ((q : Int) * n + k) / n = q ∧ ((q : Int) * n + k) % n = k := by
 constructor
 · rw [Int.add_comm, Int.add_mul_ediv_right _ _ (by omega), Int.ediv_eq_zero_of_lt hk hkn]; omega
 · rw [Int.add_comm, Int.add_mul_emod_self_right, Int.emod_eq_of_lt hk hkn]
theorem dir_turn {n : Int} {q : Nat} {k : Int} (hn : 1 ≤ n) (hk : 0 ≤ k) (hkn : k < n) (hq : q ≤ 3) (X Y : Int) :
  (dirV n ((q : Int) * n + k)).y * X - (dirV n ((q : Int) * n + k)).x * Y = dQ n k * (rotN X Y q).1 - dP n k * (rotN X Y q).2 := by
 unfold dirV
 obtain ⟨e1, e2⟩ := div_add (q := q) hn hk hkn
 rw [e1, e2]
 have : q = 0 ∨ q = 1 ∨ q = 2 ∨ q = 3 := by omega
 rcases this with rfl | rfl | rfl | rfl <;> simp [quarter, rotN, dP, dQ] <;> grind
theorem next_turn {n : Int} {q : Nat} {k : Int} (hn : 1 ≤ n) (hk : 0 ≤ k) (hkn : k < n) (hq : q ≤ 3) (X Y : Int) :
  0 < Y * (dirV n (((q : Int) * n + k + 1) % (4 * n))).x - X * (dirV n (((q : Int) * n + k + 1) % (4 * n))).y ↔ aheadB n (k + 1) (rotN X Y q).1 (rotN X Y q).2 = false := by
 have hA : aheadB n (k + 1) (rotN X Y q).1 (rotN X Y q).2 = false ↔ 0 < dP n (k + 1) * (rotN X Y q).2 - dQ n (k + 1) * (rotN X Y q).1 := by
  unfold aheadB; rw [decide_eq_false_iff_not]; omega
 rw [hA]
 by_cases h : k + 1 < n
 ·
  have e : ((q : Int) * n + k + 1) % (4 * n) = (q : Int) * n + (k + 1) := by
   have : (q : Int) * n ≤ 3 * n := Int.mul_le_mul_of_nonneg_right (by omega) (by omega)
   have : 0 ≤ (q : Int) * n := Int.mul_nonneg (by omega) (by omega)
   rw [Int.emod_eq_of_lt (by omega) (by omega)]; omega
  rw [e]
  have := dir_turn (q := q) (k := k + 1) hn (by omega) h hq X Y
  have c1 : Y * (dirV n ((q : Int) * n + (k + 1))).x = (dirV n ((q : Int) * n + (k + 1))).x * Y := Int.mul_comm _ _
  have c2 : X * (dirV n ((q : Int) * n + (k + 1))).y = (dirV n ((q : Int) * n + (k + 1))).y * X := Int.mul_comm _ _
  omega
 ·
  obtain rfl : k = n - 1 := by omega
  have nn : 0 < n * n := Int.mul_pos (by omega) (by omega)
  have e0 : dP n (n - 1 + 1) = 2 * (n * n) := by unfold dP; rw [Int.sub_add_cancel]; grind
  have e1 : dQ n (n - 1 + 1) = 0 := by unfold dQ; rw [Int.sub_add_cancel]; omega
  rw [e0, e1]
  have hd : ∀ b : Nat, b ≤ 3 → dirV n ((b : Int) * n) = quarter b 0 (n * n) (n * n) := fun b hb => by
   have := div_add (q := b) (k := 0) hn (Int.le_refl _) (by omega)
   rw [Int.add_zero] at this
   unfold dirV
   rw [this.1, this.2]; simp
  have hc : q = 0 ∨ q = 1 ∨ q = 2 ∨ q = 3 := by omega
  have key : ∀ z : Int, (0 < 2 * (n * n) * z - 0 * (rotN X Y q).1 ↔ 0 < z) := fun z => by
   rw [Int.zero_mul, Int.sub_zero]
   constructor
   ·
    intro h; refine Int.not_le.1 fun hz => ?_
    have := Int.mul_nonpos_of_nonneg_of_nonpos (show 0 ≤ 2 * (n * n) by omega) hz; omega
   · intro h; exact Int.mul_pos (by omega) h
  rw [key]
  have key2 : ∀ z : Int, (0 < n * n * z ↔ 0 < z) := fun z => by
   constructor
   ·
    intro h; refine Int.not_le.1 fun hz => ?_
    have := Int.mul_nonpos_of_nonneg_of_nonpos (show 0 ≤ n * n by omega) hz; omega
   · intro h; exact Int.mul_pos nn h
  rcases hc with rfl | rfl | rfl | rfl
  ·
   have e : (((0 : Nat) : Int) * n + (n - 1) + 1) % (4 * n) = ((1 : Nat) : Int) * n := by rw [Int.emod_eq_of_lt (by omega) (by omega)]; omega
   rw [e, hd 1 (by omega)]
   have := key2 Y
   have c : Y * (n * n) = n * n * Y := Int.mul_comm _ _
   simp [quarter, rotN]; omega
  ·
   have e : (((1 : Nat) : Int) * n + (n - 1) + 1) % (4 * n) = ((2 : Nat) : Int) * n := by rw [Int.emod_eq_of_lt (by omega) (by omega)]; omega
   rw [e, hd 2 (by omega)]
   have := key2 X
   have c : X * (n * n) = n * n * X := Int.mul_comm _ _
   have c2 : X * -(n * n) = -(X * (n * n)) := Int.mul_neg _ _
   simp [quarter, rotN]; omega
  ·
   have e : (((2 : Nat) : Int) * n + (n - 1) + 1) % (4 * n) = ((3 : Nat) : Int) * n := by rw [Int.emod_eq_of_lt (by omega) (by omega)]; omega
   rw [e, hd 3 (by omega)]
   have := key2 (-Y)
   have c : Y * (n * n) = n * n * Y := Int.mul_comm _ _
   have c2 : Y * -(n * n) = -(Y * (n * n)) := Int.mul_neg _ _
   have c3 : n * n * -Y = -(n * n * Y) := Int.mul_neg _ _
   simp [quarter, rotN]; omega
  ·
   have e : (((3 : Nat) : Int) * n + (n - 1) + 1) % (4 * n) = ((0 : Nat) : Int) * n := by
    have : ((3 : Nat) : Int) * n + (n - 1) + 1 = 4 * n := by omega
    rw [this, Int.emod_self]; simp
   rw [e, hd 0 (by omega)]
   have := key2 (-X)
   have c : X * (n * n) = n * n * X := Int.mul_comm _ _
   have c3 : n * n * -X = -(n * n * X) := Int.mul_neg _ _
   simp [quarter, rotN]; omega
theorem sector_turn {n : Int} {q : Nat} {k : Int} (hn : 1 ≤ n) (hk : 0 ≤ k) (hkn : k < n) (hq : q ≤ 3) (X Y : Int) :
  sectorB n ((q : Int) * n + k) X Y = (aheadB n k (rotN X Y q).1 (rotN X Y q).2 && !aheadB n (k + 1) (rotN X Y q).1 (rotN X Y q).2) := by
 unfold sectorB
 rw [dir_turn hn hk hkn hq X Y]
 have h2 := next_turn hn hk hkn hq X Y
 rw [Bool.eq_iff_iff]
 simp only [Bool.and_eq_true, Bool.not_eq_true', decide_eq_true_eq]
 have h3 : aheadB n k (rotN X Y q).1 (rotN X Y q).2 = true ↔ 0 ≤ dQ n k * (rotN X Y q).1 - dP n k * (rotN X Y q).2 := by
  unfold aheadB; rw [decide_eq_true_eq]; omega
 rw [h2, h3]
end Go.Proofs.YtepgpihobmjbdaaGreat
end
section
namespace Go.Proofs.YtepgpihobmjbdaaGreat
theorem ahead_first {n k x y : Int} (hn : 1 ≤ n) (hk : 0 ≤ k) (hkn : k < n) (h1 : aheadB n k x y = true) (h2 : aheadB n (k + 1) x y = false) : 0 ≤ x ∧ 0 < y := by
 have a1 : dP n k * y ≤ dQ n k * x := of_decide_eq_true h1
 have a2 : dQ n (k + 1) * x < dP n (k + 1) * y := by have := of_decide_eq_false h2; omega
 have c := cross_pos hn hk (show k < k + 1 by omega)
 have pk := dP_nonneg hn hk
 have qk := dQ_nonneg hn hk (show k ≤ n by omega)
 have pj := dP_nonneg hn (show 0 ≤ k + 1 by omega)
 have qj := dQ_nonneg hn (show 0 ≤ k + 1 by omega) (show k + 1 ≤ n by omega)
 have hy : 0 < y := by
  refine Int.not_le.1 fun hy => ?_
  have b1 : dP n (k + 1) * y ≤ 0 := Int.mul_nonpos_of_nonneg_of_nonpos pj hy
  have hx : x < 0 := by
   refine Int.not_le.1 fun hx => ?_
   have := Int.mul_nonneg qj hx
   omega
  -- with a = -x, b = -y
  have m1 : dP n k * y * dP n (k + 1) ≤ dQ n k * x * dP n (k + 1) := Int.mul_le_mul_of_nonneg_right a1 pj
  have m2 : dQ n (k + 1) * x * dP n k ≤ dP n (k + 1) * y * dP n k := Int.mul_le_mul_of_nonneg_right (by omega) pk
  have e1 : dP n k * y * dP n (k + 1) = dP n (k + 1) * y * dP n k := by grind
  have e2 : dQ n k * x * dP n (k + 1) - dQ n (k + 1) * x * dP n k = (dQ n k * dP n (k + 1) - dP n k * dQ n (k + 1)) * x := by grind
  have e3 : (dQ n k * dP n (k + 1) - dP n k * dQ n (k + 1)) * x < 0 := Int.mul_neg_of_pos_of_neg c hx
  omega
 refine ⟨?_, hy⟩
 refine Int.not_lt.1 fun hx => ?_
 have qk0 : 0 < dQ n k := by
  unfold dQ
  have : k * k < n * n := by
   have e1 : k * k ≤ k * n := Int.mul_le_mul_of_nonneg_left (by omega) hk
   have e2 : k * n < n * n := Int.mul_lt_mul_of_pos_right hkn (by omega)
   omega
  omega
 have m1 := Int.mul_nonneg pk (show 0 ≤ y by omega)
 have m2 : dQ n k * x < 0 := Int.mul_neg_of_pos_of_neg qk0 hx
 omega
theorem split_ray {n a : Int} (hn : 1 ≤ n) (h0 : 0 ≤ a) (h1 : a < 4 * n) : ∃ (q : Nat) (k : Int), q ≤ 3 ∧ 0 ≤ k ∧ k < n ∧ a = (q : Int) * n + k := by
 have b1 : 0 ≤ a / n := Int.ediv_nonneg h0 (by omega)
 have b2 : a / n < 4 := Int.ediv_lt_of_lt_mul (by omega) (by omega)
 refine ⟨(a / n).toNat, a % n, by omega, Int.emod_nonneg _ (by omega), Int.emod_lt_of_pos _ (by omega), ?_⟩
 have := Int.mul_ediv_add_emod a n
 rw [Int.toNat_of_nonneg b1, Int.mul_comm]
 omega
theorem sector_parts {n a X Y : Int} (hn : 1 ≤ n) (h0 : 0 ≤ a) (h1 : a < 4 * n) (h : sectorB n a X Y = true) : ∃ k : Int, 0 ≤ k ∧ k < n ∧ a = (quad X Y : Int) * n + k ∧ aheadB n k (rotN X Y (quad X Y)).1 (rotN X Y (quad X Y)).2 = true ∧ aheadB n (k + 1) (rotN X Y (quad X Y)).1 (rotN X Y (quad X Y)).2 = false := by
 obtain ⟨q, k, hq, hk, hkn, rfl⟩ := split_ray hn h0 h1
 rw [sector_turn hn hk hkn hq, Bool.and_eq_true, Bool.not_eq_true'] at h
 obtain ⟨x0, y0⟩ := ahead_first hn hk hkn h.1 h.2
 obtain rfl := quad_uniq hq x0 y0
 exact ⟨k, hk, hkn, rfl, h.1, h.2⟩
theorem sector_uniq {n a b X Y : Int} (hn : 1 ≤ n) (a0 : 0 ≤ a) (a1 : a < 4 * n) (b0 : 0 ≤ b) (b1 : b < 4 * n) (ha : sectorB n a X Y = true) (hb : sectorB n b X Y = true) : a = b := by
 obtain ⟨k, k0, k1, rfl, h1, h2⟩ := sector_parts hn a0 a1 ha
 obtain ⟨j, j0, j1, rfl, g1, g2⟩ := sector_parts hn b0 b1 hb
 obtain ⟨x0, y0⟩ := ahead_first hn k0 k1 h1 h2
 rcases Int.lt_trichotomy k j with h | h | h
 ·
  have := ahead_mono hn (show 0 ≤ k + 1 by omega) (show k + 1 ≤ j by omega) (by omega) x0 y0 h2
  rw [g1] at this; cases this
 · subst h; rfl
 ·
  have := ahead_mono hn (show 0 ≤ j + 1 by omega) (show j + 1 ≤ k by omega) (by omega) x0 y0 g2
  rw [h1] at this; cases this
theorem sector_of {n k X Y : Int} (hn : 1 ≤ n) (hk : 0 ≤ k) (hkn : k < n) (h1 : aheadB n k (rotN X Y (quad X Y)).1 (rotN X Y (quad X Y)).2 = true) (h2 : aheadB n (k + 1) (rotN X Y (quad X Y)).1 (rotN X Y (quad X Y)).2 = false) :
  sectorB n ((quad X Y : Int) * n + k) X Y = true ∧ 0 ≤ (quad X Y : Int) * n + k ∧ (quad X Y : Int) * n + k < 4 * n := by
 have hq := quad_le X Y
 have m1 : 0 ≤ (quad X Y : Int) * n := Int.mul_nonneg (by omega) (by omega)
 have m2 : (quad X Y : Int) * n ≤ 3 * n := Int.mul_le_mul_of_nonneg_right (by omega) (by omega)
 refine ⟨?_, by omega, by omega⟩
 rw [sector_turn hn hk hkn hq, h1, h2]; rfl
theorem step_down (f : Nat → Bool) : ∀ m : Nat, f 0 = true → f m = false → ∃ k, k < m ∧ f k = true ∧ f (k + 1) = false
 | 0, h0, h1 => by rw [h0] at h1; cases h1
 | m + 1, h0, h1 => by
  cases h : f m with
  | true => exact ⟨m, by omega, h, h1⟩
  | false =>
   obtain ⟨k, a, b, c⟩ := step_down f m h0 h
   exact ⟨k, by omega, b, c⟩
theorem sector_ex {n X Y : Int} (hn : 1 ≤ n) (h : ¬ (X = 0 ∧ Y = 0)) : ∃ a : Int, 0 ≤ a ∧ a < 4 * n ∧ sectorB n a X Y = true := by
 obtain ⟨x0, y0⟩ := quad_at h
 obtain ⟨m, hm⟩ : ∃ m : Nat, n = m := ⟨n.toNat, by omega⟩
 obtain ⟨k, hk, h1, h2⟩ := step_down (fun k => aheadB n k (rotN X Y (quad X Y)).1 (rotN X Y (quad X Y)).2) m (by simpa using ahead_zero x0) (by rw [← hm]; exact ahead_end hn y0)
 have := sector_of (X := X) (Y := Y) hn (show 0 ≤ (k : Int) by omega) (by omega) h1 (by simpa using h2)
 exact ⟨_, this.2.1, this.2.2, this.1⟩
def rayZ (n X Y : Int) : Int := match (List.range (4 * n).toNat).find? (fun a : Nat => sectorB n a X Y) with | some a => a | none => 0
theorem ray_is {n a X Y : Int} (hn : 1 ≤ n) (a0 : 0 ≤ a) (a1 : a < 4 * n) (ha : sectorB n a X Y = true) : rayZ n X Y = a := by
 unfold rayZ
 obtain ⟨m, rfl⟩ : ∃ m : Nat, a = m := ⟨a.toNat, by omega⟩
 cases h : (List.range (4 * n).toNat).find? (fun a : Nat => sectorB n a X Y) with
 | none =>
  have := List.find?_eq_none.1 h m (List.mem_range.2 (by omega))
  exact absurd ha this
 | some b =>
  have h1 := List.find?_some h
  have h2 := List.mem_range.1 (List.mem_of_find?_eq_some h)
  show (b : Int) = m
  exact sector_uniq hn (by omega) (by omega) a0 a1 h1 ha
theorem ray_spec {n X Y : Int} (hn : 1 ≤ n) (h : ¬ (X = 0 ∧ Y = 0)) : 0 ≤ rayZ n X Y ∧ rayZ n X Y < 4 * n ∧ sectorB n (rayZ n X Y) X Y = true := by
 obtain ⟨a, a0, a1, ha⟩ := sector_ex hn h
 rw [ray_is hn a0 a1 ha]
 exact ⟨a0, a1, ha⟩
/-! ### Gates -/
def bord (st t j : Int) : Int := j * st * (262144 - t * t) / (262144 + t * t)
theorem bord_nonneg {st t j : Int} (h1 : 0 ≤ st) (h2 : 0 ≤ t) (h3 : t ≤ 256) (h4 : 0 ≤ j) : 0 ≤ bord st t j := by
 obtain ⟨a, b⟩ := tilt_bd (show -8 ≤ t by omega) (show t ≤ 264 by omega)
 exact Int.ediv_nonneg (Int.mul_nonneg (Int.mul_nonneg h4 h1) (by omega)) (by omega)
theorem bord_mono {st t j k : Int} (h1 : 0 ≤ st) (h2 : 0 ≤ t) (h3 : t ≤ 256) (h : j ≤ k) : bord st t j ≤ bord st t k := by
 obtain ⟨a, b⟩ := tilt_bd (show -8 ≤ t by omega) (show t ≤ 264 by omega)
 exact Int.ediv_le_ediv (by omega) (Int.mul_le_mul_of_nonneg_right (Int.mul_le_mul_of_nonneg_right h h1) (by omega))
theorem bord_bd {st t j : Int} (h1 : 0 ≤ st) (h1' : st ≤ 2000) (h2 : 0 ≤ t) (h3 : t ≤ 256) (h4 : 0 ≤ j) (h5 : j ≤ 200) : 0 ≤ j * st ∧ j * st ≤ 400000 ∧ 0 ≤ j * st * (262144 - t * t) ∧ j * st * (262144 - t * t) ≤ 104857600000 ∧ 0 ≤ bord st t j ∧ bord st t j ≤ 400000 := by
 obtain ⟨a, b⟩ := tilt_bd (show -8 ≤ t by omega) (show t ≤ 264 by omega)
 obtain ⟨c1, c2⟩ := mul_bdB (a := j) (b := st) (A := 200) (B := 2000) h4 h5 h1 h1'
 obtain ⟨d1, d2⟩ := mul_bdB (a := j * st) (b := 262144 - t * t) (A := 400000) (B := 262144) c1 (by omega) (by omega) (by omega)
 refine ⟨c1, by omega, d1, by omega, bord_nonneg h1 h2 h3 h4, ?_⟩
 unfold bord
 have hm : j * st * (262144 - t * t) ≤ 400000 * (262144 + t * t) := Int.mul_le_mul (by omega) (by omega) (by omega) (by omega)
 have : j * st * (262144 - t * t) / (262144 + t * t) < 400000 + 1 := Int.ediv_lt_of_lt_mul (by omega) (by rw [Int.add_mul]; omega)
 omega
def gateB (st t w j : Int) : Bool := decide (bord st t j * bord st t j ≤ w) && decide (w < bord st t (j + 1) * bord st t (j + 1))
theorem bord_sq {st t j k : Int} (h1 : 0 ≤ st) (h2 : 0 ≤ t) (h3 : t ≤ 256) (h4 : 0 ≤ j) (h : j ≤ k) : bord st t j * bord st t j ≤ bord st t k * bord st t k :=
 Int.mul_le_mul (bord_mono h1 h2 h3 h) (bord_mono h1 h2 h3 h) (bord_nonneg h1 h2 h3 h4) (bord_nonneg h1 h2 h3 (by omega))
theorem gate_uniq {st t w j k : Int} (h1 : 0 ≤ st) (h2 : 0 ≤ t) (h3 : t ≤ 256) (hj : 0 ≤ j) (hk : 0 ≤ k) (a : gateB st t w j = true) (b : gateB st t w k = true) : j = k := by
 unfold gateB at a b
 simp only [Bool.and_eq_true, decide_eq_true_eq] at a b
 rcases Int.lt_trichotomy j k with h | h | h
 · have := bord_sq (st := st) (t := t) h1 h2 h3 (show 0 ≤ j + 1 by omega) (show j + 1 ≤ k by omega); omega
 · exact h
 · have := bord_sq (st := st) (t := t) h1 h2 h3 (show 0 ≤ k + 1 by omega) (show k + 1 ≤ j by omega); omega
def gateZ (st t g w : Int) : Int := match (List.range g.toNat).find? (fun j : Nat => gateB st t w j) with | some j => j | none => -1
theorem gate_is {st t g w j : Int} (h1 : 0 ≤ st) (h2 : 0 ≤ t) (h3 : t ≤ 256) (hj : 0 ≤ j) (hg : j < g) (a : gateB st t w j = true) : gateZ st t g w = j := by
 unfold gateZ
 obtain ⟨m, rfl⟩ : ∃ m : Nat, j = m := ⟨j.toNat, by omega⟩
 cases h : (List.range g.toNat).find? (fun j : Nat => gateB st t w j) with
 | none => exact absurd a (List.find?_eq_none.1 h m (List.mem_range.2 (by omega)))
 | some b =>
  have e1 := List.find?_some h
  show (b : Int) = m
  exact gate_uniq h1 h2 h3 (by omega) hj e1 a
theorem gate_no {st t g w : Int} (h1 : 0 ≤ st) (h2 : 0 ≤ t) (h3 : t ≤ 256) (h : bord st t g * bord st t g ≤ w) : gateZ st t g w = -1 := by
 unfold gateZ
 cases e : (List.range g.toNat).find? (fun j : Nat => gateB st t w j) with
 | none => rfl
 | some b =>
  exfalso
  have e1 : gateB st t w b = true := List.find?_some (p := fun j : Nat => gateB st t w j) e
  have e2 := List.mem_range.1 (List.mem_of_find?_eq_some e)
  unfold gateB at e1
  simp only [Bool.and_eq_true, decide_eq_true_eq] at e1
  have := bord_sq (st := st) (t := t) h1 h2 h3 (show 0 ≤ (b : Int) + 1 by omega) (show (b : Int) + 1 ≤ g by omega)
  omega
theorem gate_none {st t g w j : Int} (h : gateZ st t g w = -1) (hj : 0 ≤ j) (hg : j < g) : gateB st t w j = false := by
 unfold gateZ at h
 cases e : (List.range g.toNat).find? (fun j : Nat => gateB st t w j) with
 | some b => rw [e] at h; simp only at h; omega
 | none =>
  have := List.find?_eq_none.1 e j.toNat (List.mem_range.2 (by omega))
  rw [Int.toNat_of_nonneg hj] at this
  simpa using this
theorem gate_cases {st t g w : Int} : gateZ st t g w = -1 ∨ (0 ≤ gateZ st t g w ∧ gateZ st t g w < g ∧ gateB st t w (gateZ st t g w) = true) := by
 unfold gateZ
 cases e : (List.range g.toNat).find? (fun j : Nat => gateB st t w j) with
 | none => exact .inl rfl
 | some b =>
  have e1 : gateB st t w b = true := List.find?_some (p := fun j : Nat => gateB st t w j) e
  have e2 := List.mem_range.1 (List.mem_of_find?_eq_some e)
  exact .inr ⟨by simp only; omega, by simp only; omega, e1⟩
end Go.Proofs.YtepgpihobmjbdaaGreat
end
section
namespace Go.Proofs.YtepgpihobmjbdaaGreat
theorem down_floor {a b : Int} (hb : 0 < b) : a / b = if a < a.tdiv b * b then a.tdiv b - 1 else a.tdiv b := by
 have h1 := Int.mul_tdiv_add_tmod a b
 rw [Int.mul_comm] at h1
 rw [tdiv_floor hb]
 by_cases h : Int.tmod a b < 0
 · rw [if_pos h, if_pos (by omega)]
 · rw [if_neg h, if_neg (by omega)]
theorem up_ceil {a b : Int} (hb : 0 < b) : cdiv a b = if a.tdiv b * b < a then a.tdiv b + 1 else a.tdiv b := by
 have h1 := Int.mul_tdiv_add_tmod a b
 rw [Int.mul_comm] at h1
 unfold cdiv
 rw [tdiv_floor hb, Int.neg_tdiv]
 have h2 : Int.tmod (-a) b = -Int.tmod a b := Int.neg_tmod a b
 rw [h2]
 by_cases h : 0 < Int.tmod a b
 · rw [if_pos (by omega), if_pos (by omega)]; omega
 · rw [if_neg (by omega), if_neg (by omega)]; omega
theorem tdiv_bds {a b : Int} (hb : 1 ≤ b) (h1 : -4611686018427387903 ≤ a) (h2 : a ≤ 4611686018427387903) :
  -4611686018427387903 ≤ a.tdiv b ∧ a.tdiv b ≤ 4611686018427387903 ∧ -4611686018427387903 ≤ a.tdiv b * b ∧ a.tdiv b * b ≤ 4611686018427387903 := by
 by_cases h : 0 ≤ a
 ·
  rw [Int.tdiv_eq_ediv_of_nonneg h]
  have a1 := Int.ediv_nonneg h (show 0 ≤ b by omega)
  have a2 := Int.ediv_le_self b h
  have a3 := Int.mul_nonneg a1 (show 0 ≤ b by omega)
  have a4 := Int.ediv_mul_le a (show b ≠ 0 by omega)
  omega
 ·
  have e : a.tdiv b = -(-a / b) := by rw [← Int.neg_neg a, Int.neg_tdiv, Int.neg_neg, Int.tdiv_eq_ediv_of_nonneg (by omega)]
  have a1 := Int.ediv_nonneg (show 0 ≤ -a by omega) (show 0 ≤ b by omega)
  have a2 := Int.ediv_le_self b (show 0 ≤ -a by omega)
  have a3 := Int.mul_nonneg a1 (show 0 ≤ b by omega)
  have a4 := Int.ediv_mul_le (-a) (show b ≠ 0 by omega)
  rw [e, Int.neg_mul]
  omega
def siteE (nb : Bool) (x y z r g st wd : Int) : Int :=
 if nb = false then 10 else if (winB x (-1048576) 1048576 && winB y (-1048576) 1048576 && winB z 0 20000 && winB r 1 90 && winB g 1 200 && winB st 50 2000 && winB wd 0 8) = true then 0 else 3
end Go.Proofs.YtepgpihobmjbdaaGreat
end
