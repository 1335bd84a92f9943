/-
  Plain functions that say what package rain and its reference compute, on lists and integers; no program in sight.
-/
namespace Go.Proofs.Ytmglgahagbfbkaa

def win (n lo hi : Int) : Bool := decide (lo ≤ n ∧ n ≤ hi)
theorem win_iff {n lo hi : Int} : win n lo hi = true ↔ lo ≤ n ∧ n ≤ hi := by simp [win]
theorem win_no {n lo hi : Int} : win n lo hi = false ↔ ¬ (lo ≤ n ∧ n ≤ hi) := by simp [win]
def ins (a b most : Int) : Bool := decide (0 ≤ a ∧ a ≤ b ∧ b ≤ most)

def flat2 : List (Int × Int) → List Int
  | [] => []
  | p :: t => p.1 :: p.2 :: flat2 t
theorem flat2_length (l : List (Int × Int)) : (flat2 l).length = l.length * 2 := by
  induction l with
  | nil => rfl
  | cons p t ih => simp [flat2, ih]; omega
theorem flat2_0 (l : List (Int × Int)) : ∀ k, (flat2 l).getD (k * 2) 0 = (l.getD k (0, 0)).1 := by
  induction l with
  | nil => intro k; simp [flat2]
  | cons p t ih =>
    intro k
    cases k with
    | zero => simp [flat2]
    | succ k => have := ih k; rw [show (k + 1) * 2 = k * 2 + 1 + 1 by omega]; simpa [flat2] using this
theorem flat2_1 (l : List (Int × Int)) : ∀ k, (flat2 l).getD (k * 2 + 1) 0 = (l.getD k (0, 0)).2 := by
  induction l with
  | nil => intro k; simp [flat2]
  | cons p t ih =>
    intro k
    cases k with
    | zero => simp [flat2]
    | succ k => have := ih k; rw [show (k + 1) * 2 + 1 = k * 2 + 1 + 1 + 1 by omega]; simpa [flat2] using this
theorem flat2_append (a b : List (Int × Int)) : flat2 (a ++ b) = flat2 a ++ flat2 b := by
  induction a with
  | nil => rfl
  | cons p t ih => simp [flat2, ih]

def chkGo (most : Int) (k : Nat) (bz br : Int) : List (Int × Int) → Int
  | [] => 0
  | p :: t => if ¬ (win p.1 0 1073741824 = true ∧ win p.2 0 most = true) then 3 else if (k = 0 ∧ 0 < p.1) ∨ p.1 ≤ bz ∨ p.2 < br then 12 else chkGo most (k + 1) p.1 p.2 t
def chk (l : List (Int × Int)) (most : Int) : Int := if l.length < 2 then 18 else if 32 < l.length then 9 else chkGo most 0 (-1) 0 l
theorem chkGo_drop (most : Int) (i : Nat) (bz br : Int) (l : List (Int × Int)) (k : Nat) (hk : k < l.length) : chkGo most i bz br (l.drop k) =
    if ¬ (win (l.getD k (0, 0)).1 0 1073741824 = true ∧ win (l.getD k (0, 0)).2 0 most = true) then 3 else if (i = 0 ∧ 0 < (l.getD k (0, 0)).1) ∨ (l.getD k (0, 0)).1 ≤ bz ∨ (l.getD k (0, 0)).2 < br then 12
    else chkGo most (i + 1) (l.getD k (0, 0)).1 (l.getD k (0, 0)).2 (l.drop (k + 1)) := by
  rw [List.drop_eq_getElem_cons hk, chkGo]
  simp [List.getD, hk]
theorem chkGo_end (most : Int) (i : Nat) (bz br : Int) (l : List (Int × Int)) (k : Nat) (hk : l.length ≤ k) : chkGo most i bz br (l.drop k) = 0 := by
  rw [List.drop_eq_nil_of_le hk, chkGo]
def pz (l : List (Int × Int)) (k : Nat) : Int := if k = 0 then -1 else (l.getD (k - 1) (0, 0)).1
def pr (l : List (Int × Int)) (k : Nat) : Int := if k = 0 then 0 else (l.getD (k - 1) (0, 0)).2
end Go.Proofs.Ytmglgahagbfbkaa
