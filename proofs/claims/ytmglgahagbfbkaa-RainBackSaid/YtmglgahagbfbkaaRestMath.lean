/-
  What is restored of what was measured: plain functions and their bounds; no program in sight.
-/
import Derived.Test.YtmglgahagbfbkaaPassMath
namespace Go.Proofs.Ytmglgahagbfbkaa

/-- The power of which a span was measured, behind a passage. -/
def restOne (t m : Int × Int) : Int × Int :=
  (min 1073741824 (m.1 * 1073741824 / t.2), if 1048576 ≤ t.1 then min 1073741824 (cdiv (m.2 * 1073741824) t.1) else 1073741824)
def restGo (loss : List (Int × Int)) (t : Int × Int) : List (Int × Int) → List (Int × Int)
  | [] => []
  | m :: r => restOne t m :: restGo loss (nextT loss t (restOne t m)) r
def okM (m : Int × Int) : Bool := decide (0 ≤ m.1 ∧ m.1 ≤ m.2 ∧ m.2 ≤ 1073741824)
theorem okM_iff {m : Int × Int} (h : okM m = true) : 0 ≤ m.1 ∧ m.1 ≤ m.2 ∧ m.2 ≤ 1073741824 := of_decide_eq_true h
/-- What Restore returns. -/
def restR (loss : List (Int × Int)) (l : List (Int × Int)) : List (Int × Int) × Int :=
  if chk loss 32768 ≠ 0 then ([], chk loss 32768) else if 200 < l.length then ([], 9) else if l.all okM = true then (restGo loss whole l, 0) else ([], 3)
structure Psg1 (t : Int × Int) : Prop extends Psg t where
  pos : 1 ≤ t.2
theorem restOne_bd {t m : Int × Int} (ht : Psg1 t) (hm : okM m = true) : 0 ≤ (restOne t m).1 ∧ (restOne t m).1 ≤ 1073741824 ∧ 0 ≤ (restOne t m).2 ∧ (restOne t m).2 ≤ 1073741824 := by
  obtain ⟨h1, h2, h3⟩ := okM_iff hm
  have a := Int.ediv_nonneg (show 0 ≤ m.1 * 1073741824 by omega) (show 0 ≤ t.2 from ht.lo')
  unfold restOne
  by_cases c : 1048576 ≤ t.1
  · rw [if_pos c]
    have b : 0 ≤ cdiv (m.2 * 1073741824) t.1 := by rw [cdiv_eq (by omega)]; exact Int.ediv_nonneg (by omega) (by omega)
    simp only; omega
  · rw [if_neg c]
    simp only; omega
theorem nextT_psg1 {loss : List (Int × Int)} (hT : Tab loss 32768) {t z : Int × Int} (ht : Psg1 t) (h1 : 0 ≤ z.1) (h2 : 0 ≤ z.2) : Psg1 (nextT loss t z) := by
  have hp := nextT_psg hT ht.toPsg h1 h2
  refine ⟨hp, ?_⟩
  have a := val_bd hT h1
  unfold nextT
  simp only
  generalize (valGo z.1 loss).1 = v at *
  have hv : 32768 ≤ 65536 - v := by omega
  have hpos : 0 < t.2 * (65536 - v) := Int.mul_pos (by have := ht.pos; omega) (by omega)
  rw [cdiv_eq (by omega)]
  have := (Int.le_ediv_iff_mul_le (a := 1) (b := t.2 * (65536 - v) + 65536 - 1) (c := 65536) (by omega)).2 (by omega)
  exact this
theorem whole_psg1 : Psg1 whole := ⟨⟨by decide, by decide, by decide, by decide⟩, by decide⟩
theorem restGo_length (loss : List (Int × Int)) : ∀ (l : List (Int × Int)) (t : Int × Int), (restGo loss t l).length = l.length
  | [], _ => rfl
  | m :: r, t => by simp [restGo, restGo_length loss r]
theorem restGo_drop (loss : List (Int × Int)) (t : Int × Int) (l : List (Int × Int)) (k : Nat) (hk : k < l.length) : restGo loss t (l.drop k) = restOne t (l.getD k (0, 0)) :: restGo loss (nextT loss t (restOne t (l.getD k (0, 0)))) (l.drop (k + 1)) := by
  rw [List.drop_eq_getElem_cons hk, restGo]
  simp [List.getD, hk]
theorem all_okM {l : List (Int × Int)} (h : ∀ j, j < l.length → okM (l.getD j (0, 0)) = true) : l.all okM = true := by
  rw [List.all_eq_true]
  intro x hx
  obtain ⟨j, hj, rfl⟩ := List.mem_iff_getElem.1 hx
  have := h j hj
  simpa [List.getD, hj] using this
theorem not_all_okM {l : List (Int × Int)} {j : Nat} (hj : j < l.length) (h : okM (l.getD j (0, 0)) = false) : l.all okM = false := by
  rw [List.all_eq_false]
  refine ⟨l[j], List.getElem_mem hj, ?_⟩
  have e : l.getD j (0, 0) = l[j] := by simp [List.getD, hj]
  rw [← e, h]
  simp

/-! ### Threads in the way -/
def capI (a : Int) : Int := min a 1073741824
/-- A power without what is in the way. -/
def fillS (p : Int × Int) (n : Int) (b : Int × Int) : Int × Int :=
  (min 1073741824 (p.1 * n / max 1 (n - b.1)), if b.2 < n then min 1073741824 (cdiv (p.2 * n) (n - b.2)) else 1073741824)
def okF (p : Int × Int) (n : Int) (b : Int × Int) : Bool := okM p && win n 1 17 && ins b.1 b.2 n
def fillR (p : Int × Int) (n : Int) (b : Int × Int) : (Int × Int) × Int := if okF p n b = true then (fillS p n b, 0) else ((0, 0), 3)
end Go.Proofs.Ytmglgahagbfbkaa
