/-
  The scales that suit all pairs: what rain and the reference compute, and that both answer the same; no program in sight.
-/
import Derived.Test.YtmglgahagbfbkaaScaleMath
namespace Go.Proofs.Ytmglgahagbfbkaa

/-- The scales of pair k, of the cells of the pairs: rain's, the reference's. -/
def scZ (z : Nat → Int) (k : Nat) : Int × Int := scS (z (k * 4)) (z (k * 4 + 1)) (z (k * 4 + 2)) (z (k * 4 + 3))
def scY (z : Nat → Int) (k : Nat) : Int × Int := scR (z (k * 4)) (z (k * 4 + 1)) (z (k * 4 + 2)) (z (k * 4 + 3))
def okZ (z : Nat → Int) (k : Nat) : Bool := okP4 (z (k * 4)) (z (k * 4 + 1)) (z (k * 4 + 2)) (z (k * 4 + 3))
def meetG (sc : Nat → Int × Int) (f : Int × Int) : Nat → Int × Int
  | 0 => f
  | k + 1 => meetS (meetG sc f k) (sc k)
def meetK (z : Nat → Int) (f : Int × Int) : Nat → Int × Int := meetG (scZ z) f
/-- Two scales have nothing in common. -/
def conf (sc : Nat → Int × Int) (i j : Nat) : Bool := decide ((meetS (sc i) (sc j)).2 < (meetS (sc i) (sc j)).1)
def rowF (cf : Nat → Nat → Bool) (i : Nat) : Nat → Nat → Option Nat
  | _, 0 => none
  | j, m + 1 => if cf i j = true then some j else rowF cf i (j + 1) m
def findF (cf : Nat → Nat → Bool) (n : Nat) : Nat → Nat → Option (Nat × Nat)
  | _, 0 => none
  | i, m + 1 => match rowF cf i i (n - i) with
    | some j => some (i, j)
    | none => findF cf n (i + 1) m
def atOf : Option (Nat × Nat) → Int × Int
  | some p => (p.1, p.2)
  | none => (0, 0)
def adjG (ok : Nat → Bool) (sc : Nat → Int × Int) (n : Nat) : ((Int × Int) × (Int × Int)) × Int :=
  if n = 0 then (((0, 0), (0, 0)), 18) else if 100 < n then (((0, 0), (0, 0)), 9) else if ((List.range n).all ok) = false then (((0, 0), (0, 0)), 3)
  else if (meetG sc (1, 100000) n).1 ≤ (meetG sc (1, 100000) n).2 then ((meetG sc (1, 100000) n, (0, 0)), 0) else (((0, 0), atOf (findF (conf sc) n 0 n)), 14)

theorem row_eq {cf cg : Nat → Nat → Bool} {n i : Nat} (hi : i < n) (h : ∀ i j, i < n → j < n → cf i j = cg i j) : ∀ (m j : Nat), j + m ≤ n → rowF cf i j m = rowF cg i j m
  | 0, _, _ => rfl
  | m + 1, j, hj => by
    unfold rowF
    rw [h i j hi (by omega), row_eq hi h m (j + 1) (by omega)]
theorem find_eq {cf cg : Nat → Nat → Bool} {n : Nat} (h : ∀ i j, i < n → j < n → cf i j = cg i j) : ∀ (m i : Nat), i + m ≤ n → findF cf n i m = findF cg n i m
  | 0, _, _ => rfl
  | m + 1, i, hi => by
    unfold findF
    rw [row_eq (n := n) (by omega) h (n - i) i (by omega), find_eq h m (i + 1) (by omega)]

/-- Rain's scales and the reference's, side by side. -/
def Side (a b : Int × Int) : Prop := (1 ≤ a.1 ∧ a.2 ≤ 0 ∧ 100001 ≤ b.1 ∧ b.2 ≤ 100000) ∨ (a = b ∧ 1 ≤ a.1 ∧ a.2 ≤ 100000)
theorem side_sc {z : Nat → Int} {k : Nat} (h : okZ z k = true) : Side (scZ z k) (scY z k) := by
  unfold scZ scY
  rcases sc_cases h with ⟨h1, h2⟩ | ⟨h1, h2, h3⟩
  · left; rw [h1, h2]; simp
  · exact .inr ⟨h1, h2, h3⟩
theorem side_meet {a b c d : Int × Int} (h : Side a b) (k : Side c d) : Side (meetS a c) (meetS b d) := by
  unfold Side meetS at *
  rcases h with ⟨h1, h2, h3, h4⟩ | ⟨h1, h2, h3⟩ <;> rcases k with ⟨k1, k2, k3, k4⟩ | ⟨k1, k2, k3⟩
  · left; simp only; omega
  · subst k1; left; simp only; omega
  · subst h1; left; simp only; omega
  · subst h1; subst k1; right; exact ⟨rfl, by simp only; omega, by simp only; omega⟩
theorem side_le {a b : Int × Int} (h : Side a b) : (a.1 ≤ a.2 ↔ b.1 ≤ b.2) ∧ (a.1 ≤ a.2 → a = b) := by
  rcases h with ⟨h1, h2, h3, h4⟩ | ⟨h1, h2, h3⟩
  · exact ⟨⟨fun h => by omega, fun h => by omega⟩, fun h => by omega⟩
  · subst h1; exact ⟨Iff.rfl, fun _ => rfl⟩
theorem side_all {z : Nat → Int} : ∀ (n : Nat), (∀ k, k < n → okZ z k = true) → Side (meetG (scZ z) (1, 100000) n) (meetG (scY z) (1, 100000) n)
  | 0, _ => .inr ⟨rfl, by simp [meetG], by simp [meetG]⟩
  | n + 1, h => side_meet (side_all n fun k hk => h k (by omega)) (side_sc (h n (by omega)))
/-- Both answer the same. -/
theorem adj_eq (z : Nat → Int) (n : Nat) : adjG (okZ z) (scZ z) n = adjG (okZ z) (scY z) n := by
  unfold adjG
  by_cases h1 : n = 0
  · rw [if_pos h1, if_pos h1]
  rw [if_neg h1, if_neg h1]
  by_cases h2 : 100 < n
  · rw [if_pos h2, if_pos h2]
  rw [if_neg h2, if_neg h2]
  by_cases h3 : ((List.range n).all (okZ z)) = false
  · rw [if_pos h3, if_pos h3]
  rw [if_neg h3, if_neg h3]
  have hok : ∀ k, k < n → okZ z k = true := fun k hk => List.all_eq_true.1 (by simpa using h3) k (List.mem_range.2 hk)
  have hs := side_all n hok
  obtain ⟨e1, e2⟩ := side_le hs
  by_cases h4 : (meetG (scZ z) (1, 100000) n).1 ≤ (meetG (scZ z) (1, 100000) n).2
  · rw [if_pos h4, if_pos (e1.1 h4), e2 h4]
  · rw [if_neg h4, if_neg (fun h => h4 (e1.2 h))]
    have : findF (conf (scZ z)) n 0 n = findF (conf (scY z)) n 0 n := find_eq (fun i j hi hj => by
      have hm := side_le (side_meet (side_sc (hok i hi)) (side_sc (hok j hj)))
      unfold conf
      rw [decide_eq_decide]
      constructor
      · intro h
        rcases Int.lt_or_le (meetS (scY z i) (scY z j)).2 (meetS (scY z i) (scY z j)).1 with h' | h'
        · exact h'
        · have := hm.1.2 h'; omega
      · intro h
        rcases Int.lt_or_le (meetS (scZ z i) (scZ z j)).2 (meetS (scZ z i) (scZ z j)).1 with h' | h'
        · exact h'
        · have := hm.1.1 h'; omega) n 0 (by omega)
    rw [this]

theorem row_hit {cf : Nat → Nat → Bool} {i j n : Nat} (hj : j < n) (h : cf i j = true) : rowF cf i j (n - j) = some j := by
  rw [show n - j = (n - (j + 1)) + 1 by omega, rowF, if_pos h]
theorem row_miss {cf : Nat → Nat → Bool} {i j n : Nat} (hj : j < n) (h : cf i j = false) : rowF cf i j (n - j) = rowF cf i (j + 1) (n - (j + 1)) := by
  rw [show n - j = (n - (j + 1)) + 1 by omega, rowF, if_neg (by rw [h]; simp)]
theorem find_hit {cf : Nat → Nat → Bool} {i j n : Nat} (hi : i < n) (h : rowF cf i i (n - i) = some j) : findF cf n i (n - i) = some (i, j) := by
  generalize hm : n - i = m at *
  cases m with
  | zero => omega
  | succ m => rw [findF, hm, h]
theorem find_miss {cf : Nat → Nat → Bool} {i n : Nat} (hi : i < n) (h : rowF cf i i (n - i) = none) : findF cf n i (n - i) = findF cf n (i + 1) (n - (i + 1)) := by
  have e : n - i = (n - (i + 1)) + 1 := by omega
  rw [e] at h
  rw [e, findF, e, h]
end Go.Proofs.Ytmglgahagbfbkaa
