/-
  What a grid sees of a site: plain laws.
-/
import Derived.Test.YthhhecidogcmjaaRefFind
namespace Go.Proofs.Ythhhecidogcmjaa

/-- The middle of a pixel. -/
def midX (gx gs wi i : Int) : Int := gx + i % wi * gs + gs / 2
def midY (gy gs wi i : Int) : Int := gy + i / wi * gs + gs / 2
/-- What a place sees: the number of ray and gate, or -1. -/
def seenZ (ro st t g dx dy : Int) : Int := if (findZ ro st t g dx dy).2 = true then (findZ ro st t g dx dy).1.1 * g + (findZ ro st t g dx dy).1.2 else -1
def viewZ (ro st t g sx sy gx gy gs wi i : Int) : Int := seenZ ro st t g (midX gx gs wi i - sx) (midY gy gs wi i - sy)
def viewL (ro st t g sx sy gx gy gs wi : Int) (n : Nat) : List Int := (List.range n).map fun i : Nat => viewZ ro st t g sx sy gx gy gs wi i
theorem viewL_length {ro st t g sx sy gx gy gs wi : Int} {n : Nat} : (viewL ro st t g sx sy gx gy gs wi n).length = n := by simp [viewL]
theorem viewL_succ {ro st t g sx sy gx gy gs wi : Int} {n : Nat} : viewL ro st t g sx sy gx gy gs wi (n + 1) = viewL ro st t g sx sy gx gy gs wi n ++ [viewZ ro st t g sx sy gx gy gs wi n] := by
  simp [viewL, List.range_succ]
theorem row_col {wi a c : Int} (h0 : 0 ≤ c) (h1 : c < wi) : (a * wi + c) / wi = a ∧ (a * wi + c) % wi = c := by
  constructor
  · rw [Int.add_comm, Int.add_mul_ediv_right _ _ (by omega), Int.ediv_eq_zero_of_lt h0 h1]; omega
  · rw [Int.add_comm, Int.add_mul_emod_self_right, Int.emod_eq_of_lt h0 h1]
theorem view_at {ro st t g sx sy gx gy gs wi a c : Int} (h0 : 0 ≤ c) (h1 : c < wi) : viewZ ro st t g sx sy gx gy gs wi (a * wi + c) = seenZ ro st t g (gx + c * gs + gs / 2 - sx) (gy + a * gs + gs / 2 - sy) := by
  obtain ⟨e1, e2⟩ := row_col (wi := wi) (a := a) h0 h1
  unfold viewZ midX midY
  rw [e1, e2]
/-- The middle of a pixel lies near. -/
theorem mid_bd {gx gs wi c : Int} (a1 : -1048576 ≤ gx) (a2 : gx ≤ 1048576) (c1 : 1 ≤ gs) (c2 : gs ≤ 10000) (h0 : 0 ≤ c) (h1 : c < wi) (h2 : wi ≤ 64) : 0 ≤ c * gs ∧ c * gs ≤ 640000 ∧ 0 ≤ gs / 2 ∧ gs / 2 ≤ 5000 ∧ -1048576 ≤ gx + c * gs + gs / 2 ∧ gx + c * gs + gs / 2 ≤ 1700000 := by
  obtain ⟨m1, m2⟩ := mul_bdB (a := c) (b := gs) (A := 64) (B := 10000) h0 (by omega) (by omega) c2
  omega
theorem findZ_bd {ro st t g dx dy : Int} (h1 : 1 ≤ ro) (h2 : ro ≤ 90) (h3 : 1 ≤ g) (h4 : g ≤ 200) : 0 ≤ (findZ ro st t g dx dy).1.1 ∧ (findZ ro st t g dx dy).1.1 < 360 ∧ 0 ≤ (findZ ro st t g dx dy).1.2 ∧ (findZ ro st t g dx dy).1.2 < g := by
  unfold findZ
  split
  · exact ⟨by simp, by simp, by simp, by simp; omega⟩
  · rename_i hz
    split
    · exact ⟨by simp, by simp, by simp, by simp; omega⟩
    · obtain ⟨r0, r1, -⟩ := ray_spec (n := ro) (X := dx) (Y := dy) h1 hz
      have := gate_cases (st := st) (t := t) (g := g) (w := dx * dx + dy * dy)
      exact ⟨r0, by simp only; omega, by simp only; omega, by simp only; omega⟩
/-- What Find answers, told by what is seen. -/
theorem find_seen {ro st t g sx sy x y : Int} (h1 : 1 ≤ ro) (h2 : ro ≤ 90) (h3 : 1 ≤ g) (h4 : g ≤ 200) (ht : winB t 0 256 = true) (hx : -4194304 ≤ x ∧ x ≤ 4194304) (hy : -4194304 ≤ y ∧ y ≤ 4194304) :
    ∃ a b e, findR 0 t ro st g sx sy x y = ((a, b), e) ∧ ((e = 0 ∧ seenZ ro st t g (x - sx) (y - sy) = a * g + b ∧ 0 ≤ a ∧ a < 360 ∧ 0 ≤ b ∧ b < g) ∨ (e = 29 ∧ seenZ ro st t g (x - sx) (y - sy) = -1)) := by
  have hw : (winB t 0 256 && winB x (-4194304) 4194304 && winB y (-4194304) 4194304) = true := by
    rw [ht, winB_iff.2 hx, winB_iff.2 hy]; rfl
  have hb := findZ_bd (ro := ro) (st := st) (t := t) (g := g) (dx := x - sx) (dy := y - sy) h1 h2 h3 h4
  unfold findR seenZ
  rw [if_neg (by simp), if_pos hw]
  split
  · rename_i hf
    exact ⟨_, _, 0, rfl, .inl ⟨rfl, rfl, hb⟩⟩
  · exact ⟨0, 0, 29, rfl, .inr ⟨rfl, rfl⟩⟩
/-- What find answers, told by what is seen. -/
theorem findZ_seen {ro st t g dx dy : Int} (h1 : 1 ≤ ro) (h2 : ro ≤ 90) (h3 : 1 ≤ g) (h4 : g ≤ 200) :
    ∃ a b i, findZ ro st t g dx dy = ((a, b), i) ∧ ((i = true ∧ seenZ ro st t g dx dy = a * g + b ∧ 0 ≤ a ∧ a < 360 ∧ 0 ≤ b ∧ b < g) ∨ (i = false ∧ seenZ ro st t g dx dy = -1)) := by
  have hb := findZ_bd (ro := ro) (st := st) (t := t) (g := g) (dx := dx) (dy := dy) h1 h2 h3 h4
  unfold seenZ
  generalize findZ ro st t g dx dy = z at *
  obtain ⟨⟨a, b⟩, i⟩ := z
  cases i with
  | true => exact ⟨a, b, true, rfl, .inl ⟨rfl, by simp, hb⟩⟩
  | false => exact ⟨a, b, false, rfl, .inr ⟨rfl, by simp⟩⟩
end Go.Proofs.Ythhhecidogcmjaa
