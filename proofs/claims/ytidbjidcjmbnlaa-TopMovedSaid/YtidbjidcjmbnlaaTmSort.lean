/-
  slices.Sort of a row of numbers.
-/
import Derived.Test.YtidbjidcjmbnlaaProg
import Derived.Test.YtidbjidcjmbnlaaTmCount
import Derived.Test.YtidbjidcjmbnlaaMemR
import Derived.Test.YtidbjidcjmbnlaaShelfT
set_option linter.unusedSimpArgs false
set_option linter.unusedVariables false
namespace Go.Proofs.Ytidbjidcjmbnlaa
open Go Go.RowKit Go.Sort

/-- Numbers, as cells. -/
def numsV (t : List Nat) : List Value := t.map fun i => Value.int .i64 (i : Nat)
theorem numsV_len (t : List Nat) : (numsV t).length = t.length := by unfold numsV; rw [List.length_map]
theorem numsV_get {t : List Nat} {j : Nat} (h : j < t.length) : (numsV t)[j]? = some (.int .i64 (t.getD j 0 : Nat)) := by
  unfold numsV
  rw [List.getElem?_map, List.getElem?_eq_getElem h, List.getD_eq_getElem?_getD, List.getElem?_eq_getElem h]
  rfl
theorem sort_any {base : Nat} {v : Value} {l l' : List Nat} {w : World} (h : w.ownsRow base 3 1 v l.length (numsV l)) (hne : 0 < l.length) (hl : l.length ≤ 1000)
    (hs : ((l.map fun p : Nat => (p : Int)).mergeSort fun x y => decide (x ≤ y)) = l'.map fun p : Nat => (p : Int)) :
    Calls Try.prog 62 #[v] w fun e w' => e = .returned (.tuple #[]) ∧ w.grownBy w' v.ownBlock ∧ w'.ownsRow base 3 1 v l.length (numsV l') := by
  have hlen : l'.length = l.length := by
    have := congrArg List.length hs
    rw [List.length_mergeSort, List.length_map, List.length_map] at this
    exact this.symm
  rcases h.2 with ⟨-, h0⟩ | ⟨g, cap, cur, rfl, hb, hg, h3, h4, h5, h6⟩
  · omega
  have hk : Blk w g 3 cur := hg
  have hlt := hk.lt
  have hcs : cur.size = cap := by simpa using h5
  have hget : ∀ j, j < l.length → cur[j]? = some (.int .i64 (l.getD j 0 : Nat)) := fun j hj => by
    have e := numsV_get hj
    rw [← h6, List.getElem?_take] at e
    split at e
    · simpa using e
    · cases e
  have hz : (l.map fun p : Nat => (p : Int)).length = l.length := List.length_map _
  have hc := Try.slices_Sort_int g 0 cap (l.map fun p : Nat => (p : Int)) w (fun j hj => by
    have hj2 : j < l.length := by simpa using hj
    refine ⟨?_, ?_⟩
    · rw [Nat.zero_add, hk.c j (hget j hj2)]
      congr 2
      rw [List.getElem!_toArray, List.getElem!_eq_getElem?_getD, List.getElem?_map, List.getD_eq_getElem?_getD]
      rw [List.getElem?_eq_getElem hj2]
      rfl
    · rw [Nat.zero_add]
      exact hk.frozen j) hlt (by rw [hz]; omega)
  rw [hz] at hc
  refine hc.mono ?_
  rintro e w' ⟨rfl, n, os, rfl⟩
  rw [hs]
  have hblk : (grow (putRow (Value.int .i64) (Sort.ahead w n) g 0 (l'.map fun p : Nat => (p : Int)).toArray) os).heap[g]? = some (.cells (putCells (Value.int .i64) 0 (l'.map fun p : Nat => (p : Int)).toArray cur) 3 (0, 0)) := by
    rw [heap_grow_old _ _ (by simpa [putRow, mapBlock, Sort.ahead] using hlt)]
    simp only [putRow, mapBlock, Sort.ahead, Array.getElem?_modify, if_true]
    rw [hg]
    rfl
  refine ⟨rfl, ⟨rfl, rfl, rfl, by simp [putRow, mapBlock, Sort.ahead], fun k hk2 hne2 => ?_⟩, ?_⟩
  · rw [heap_grow_old _ _ (by simpa [putRow, mapBlock, Sort.ahead] using hk2)]
    simp only [putRow, mapBlock, Sort.ahead, Array.getElem?_modify]
    rw [if_neg]
    intro e
    subst e
    exact hne2 rfl
  · refine ⟨by rw [numsV_len, hlen, Nat.mul_one], .inr ⟨g, cap, _, rfl, hb, hblk, h3, h4, by simpa [putCells] using h5, ?_⟩⟩
    apply List.ext_getElem?
    intro j
    rw [Nat.mul_one, List.getElem?_take]
    by_cases hj : j < l.length
    · rw [if_pos hj, numsV_get (by omega)]
      have e1 := hget j hj
      obtain ⟨hj3, -⟩ := Array.getElem?_eq_some_iff.1 e1
      simp only [putCells, Array.getElem?_toList, Array.getElem?_mapIdx, e1, Option.map_some, List.size_toArray, List.length_map, hlen]
      rw [if_pos ⟨Nat.zero_le _, by omega⟩]
      congr 2
      rw [Nat.sub_zero, List.getElem!_toArray, List.getElem!_eq_getElem?_getD, List.getElem?_map, List.getD_eq_getElem?_getD]
      rw [List.getElem?_eq_getElem (by omega)]
      rfl
    · rw [if_neg hj, List.getElem?_eq_none (by rw [numsV_len]; omega)]
end Go.Proofs.Ytidbjidcjmbnlaa
