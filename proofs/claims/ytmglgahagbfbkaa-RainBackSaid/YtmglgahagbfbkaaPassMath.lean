/-
  What passes, what is restored and filled: plain functions and their bounds; no program in sight.
-/
import Derived.Test.YtmglgahagbfbkaaValueMath
namespace Go.Proofs.Ytmglgahagbfbkaa

theorem cdiv_bd {a b C : Int} (ha : 0 ≤ a) (hb : 1 ≤ b) (h : a ≤ C * b) : 0 ≤ cdiv a b ∧ cdiv a b ≤ C := by
  rw [cdiv_eq (by omega)]
  refine ⟨Int.ediv_nonneg (by omega) (by omega), ?_⟩
  have : (a + b - 1) / b < C + 1 := Int.ediv_lt_of_lt_mul (by omega) (by rw [Int.add_mul]; omega)
  omega
theorem div_bd {a b C : Int} (ha : 0 ≤ a) (hb : 1 ≤ b) (h : a ≤ C * b) : 0 ≤ a / b ∧ a / b ≤ C := by
  refine ⟨Int.ediv_nonneg ha (by omega), ?_⟩
  have : a / b < C + 1 := Int.ediv_lt_of_lt_mul (by omega) (by rw [Int.add_mul]; omega)
  omega
theorem div_le_cdiv {a b : Int} (hb : 1 ≤ b) : a / b ≤ cdiv a b := by
  rw [cdiv_eq (by omega)]
  exact Int.ediv_le_ediv (by omega) (by omega)

theorem val_bd {l : List (Int × Int)} {most : Int} (hT : Tab l most) {z : Int} (hz : 0 ≤ z) : 0 ≤ (valGo z l).1 ∧ (valGo z l).1 ≤ (valGo z l).2 ∧ (valGo z l).2 ≤ most := by
  have key : ∀ d k : Nat, k + d + 1 = l.length → (l.getD k P0).1 ≤ z → 0 ≤ (valGo z (l.drop k)).1 ∧ (valGo z (l.drop k)).1 ≤ (valGo z (l.drop k)).2 ∧ (valGo z (l.drop k)).2 ≤ most := by
    intro d
    induction d with
    | zero =>
      intro k hk _
      rw [val_last z (by omega)]
      have := hT.rng k (by omega)
      simp only
      omega
    | succ d ih =>
      intro k hk hz1
      rw [val_drop z (by omega)]
      have r1 := hT.rng k (by omega)
      have r2 := hT.rng (k + 1) (by omega)
      have hm := hT.mono k (by omega)
      by_cases h : z < (l.getD (k + 1) P0).1
      · rw [if_pos h]
        have h1 := mul_bd (a := (l.getD (k + 1) P0).2 - (l.getD k P0).2) (b := z - (l.getD k P0).1) (A := (l.getD (k + 1) P0).2 - (l.getD k P0).2) (B := (l.getD (k + 1) P0).1 - (l.getD k P0).1) (by omega) (by omega) (by omega) (by omega)
        have h2 := div_bd (b := (l.getD (k + 1) P0).1 - (l.getD k P0).1) h1.1 (by omega) h1.2
        have h3 := cdiv_bd (b := (l.getD (k + 1) P0).1 - (l.getD k P0).1) h1.1 (by omega) h1.2
        have h4 := div_le_cdiv (a := ((l.getD (k + 1) P0).2 - (l.getD k P0).2) * (z - (l.getD k P0).1)) (b := (l.getD (k + 1) P0).1 - (l.getD k P0).1) (by omega)
        simp only
        omega
      · rw [if_neg h]
        exact ih (k + 1) (by omega) (by omega)
  have := key (l.length - 1) 0 (by have := hT.len; omega) (by rw [hT.z0]; exact hz)
  rwa [List.drop_zero] at this

/-- The passage behind a gate with a power. -/
def nextT (loss : List (Int × Int)) (t z : Int × Int) : Int × Int := (t.1 * (65536 - (valGo z.2 loss).2) / 65536, cdiv (t.2 * (65536 - (valGo z.1 loss).1)) 65536)
structure Psg (t : Int × Int) : Prop where
  lo : 0 ≤ t.1
  hi : t.1 ≤ 1073741824
  lo' : 0 ≤ t.2
  hi' : t.2 ≤ 1073741824
theorem nextT_psg {loss : List (Int × Int)} (hT : Tab loss 32768) {t z : Int × Int} (ht : Psg t) (h1 : 0 ≤ z.1) (h2 : 0 ≤ z.2) : Psg (nextT loss t z) := by
  have a := val_bd hT h1
  have b := val_bd hT h2
  have c := mul_bd (a := t.1) (b := 65536 - (valGo z.2 loss).2) (A := 1073741824) (B := 65536) ht.lo ht.hi (by omega) (by omega)
  have d := mul_bd (a := t.2) (b := 65536 - (valGo z.1 loss).1) (A := 1073741824) (B := 65536) ht.lo' ht.hi' (by omega) (by omega)
  have e := div_bd c.1 (by omega : (1 : Int) ≤ 65536) (C := 1073741824) (by omega)
  have f := cdiv_bd d.1 (by omega : (1 : Int) ≤ 65536) (C := 1073741824) (by omega)
  exact ⟨e.1, e.2, f.1, f.2⟩
def passOne (t : Int × Int) (z : Int) : Int × Int := (z * t.1 / 1073741824, cdiv (z * t.2) 1073741824)
def passGo (loss : List (Int × Int)) (t : Int × Int) : List Int → List (Int × Int)
  | [] => []
  | z :: r => passOne t z :: passGo loss (nextT loss t (z, z)) r
def whole : Int × Int := (1073741824, 1073741824)
def okP (z : Int) : Bool := win z 0 1073741824
/-- What Pass returns. -/
def passR (loss : List (Int × Int)) (pw : List Int) : List (Int × Int) × Int :=
  if chk loss 32768 ≠ 0 then ([], chk loss 32768) else if 200 < pw.length then ([], 9) else if pw.all okP = true then (passGo loss whole pw, 0) else ([], 3)
theorem passGo_length (loss : List (Int × Int)) : ∀ (l : List Int) (t : Int × Int), (passGo loss t l).length = l.length
  | [], _ => rfl
  | z :: r, t => by simp [passGo, passGo_length loss r]
theorem passGo_drop (loss : List (Int × Int)) (t : Int × Int) (pw : List Int) (k : Nat) (hk : k < pw.length) : passGo loss t (pw.drop k) = passOne t (pw.getD k 0) :: passGo loss (nextT loss t (pw.getD k 0, pw.getD k 0)) (pw.drop (k + 1)) := by
  rw [List.drop_eq_getElem_cons hk, passGo]
  simp [List.getD, hk]
theorem all_ok {pw : List Int} (h : ∀ j, j < pw.length → okP (pw.getD j 0) = true) : pw.all okP = true := by
  rw [List.all_eq_true]
  intro x hx
  obtain ⟨j, hj, rfl⟩ := List.mem_iff_getElem.1 hx
  have := h j hj
  simpa [List.getD, hj] using this
theorem not_all_ok {pw : List Int} {j : Nat} (hj : j < pw.length) (h : okP (pw.getD j 0) = false) : pw.all okP = false := by
  rw [List.all_eq_false]
  refine ⟨pw[j], List.getElem_mem hj, ?_⟩
  have e : pw.getD j 0 = pw[j] := by simp [List.getD, hj]
  rw [← e, h]
  simp
theorem one_bd {t : Int × Int} (ht : Psg t) {z : Int} (h0 : 0 ≤ z) (h1 : z ≤ 1073741824) : 0 ≤ z * t.1 ∧ z * t.1 ≤ 1152921504606846976 ∧ 0 ≤ z * t.2 ∧ z * t.2 ≤ 1152921504606846976 := by
  have a := mul_bd (a := z) (b := t.1) (A := 1073741824) (B := 1073741824) h0 h1 ht.lo ht.hi
  have b := mul_bd (a := z) (b := t.2) (A := 1073741824) (B := 1073741824) h0 h1 ht.lo' ht.hi'
  omega
end Go.Proofs.Ytmglgahagbfbkaa
