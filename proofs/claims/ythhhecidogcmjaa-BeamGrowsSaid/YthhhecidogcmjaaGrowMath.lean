/-
  Blocked threads: narrower and higher ground: plain laws.
-/
import Derived.Test.YthhhecidogcmjaaBlocked
import Derived.Test.YthhhecidogcmjaaInnerB
namespace Go.Proofs.Ythhhecidogcmjaa

theorem oneB_bd (b : Bool) : 0 ≤ oneB b ∧ oneB b ≤ 1 := by unfold oneB; split <;> omega
theorem oneB_le {a b : Bool} (h : a = true → b = true) : oneB a ≤ oneB b := by
  unfold oneB
  by_cases ha : a = true
  · rw [if_pos ha, if_pos (h ha)]; exact Int.le_refl _
  · rw [if_neg ha]; split <;> omega
theorem anyB_le {c c' : Nat → Bool} : ∀ {j : Nat}, (∀ i, i ≤ j → c i = true → c' i = true) → anyB c j = true → anyB c' j = true
  | 0, h, hc => h 0 (Nat.le_refl _) hc
  | j + 1, h, hc => by
    unfold anyB at *
    rw [Bool.or_eq_true] at *
    rcases hc with hc | hc
    · exact .inl (anyB_le (fun i hi => h i (by omega)) hc)
    · exact .inr (h _ (Nat.le_refl _) hc)
/-- Along a ray the numbers never become less. -/
theorem rowsZ_mono {cs cm : Nat → Nat → Bool} {j : Nat} : ∀ n, (rowsZ cs cm n j).1 ≤ (rowsZ cs cm n (j + 1)).1 ∧ (rowsZ cs cm n j).2 ≤ (rowsZ cs cm n (j + 1)).2
  | 0 => by simp [rowsZ]
  | n + 1 => by
    obtain ⟨h1, h2⟩ := rowsZ_mono (cs := cs) (cm := cm) (j := j) n
    have a := oneB_le (anyB_mono (c := cs n) (Nat.le_add_right j 1))
    have b := oneB_le (anyB_mono (c := cm n) (Nat.le_add_right j 1))
    unfold rowsZ addT
    simp only
    exact ⟨by omega, by omega⟩
/-- More flags, greater numbers. -/
theorem rowsZ_le1 {cs cs' cm cm' : Nat → Nat → Bool} {j : Nat} : ∀ n, (∀ k i, k < n → i ≤ j → cs k i = true → cs' k i = true) → (rowsZ cs cm n j).1 ≤ (rowsZ cs' cm' n j).1
  | 0, _ => by simp [rowsZ]
  | n + 1, h => by
    have h1 := rowsZ_le1 (cm := cm) (cm' := cm') (j := j) n (fun k i hk hi => h k i (by omega) hi)
    have a := oneB_le (anyB_le (c := cs n) (c' := cs' n) (j := j) (fun i hi => h n i (by omega) hi))
    unfold rowsZ addT
    simp only
    omega
theorem rowsZ_le2 {cs cs' cm cm' : Nat → Nat → Bool} {j : Nat} : ∀ n, (∀ k i, k < n → i ≤ j → cm k i = true → cm' k i = true) → (rowsZ cs cm n j).2 ≤ (rowsZ cs' cm' n j).2
  | 0, _ => by simp [rowsZ]
  | n + 1, h => by
    have h1 := rowsZ_le2 (cs := cs) (cs' := cs') (j := j) n (fun k i hk hi => h k i (by omega) hi)
    have a := oneB_le (anyB_le (c := cm n) (c' := cm' n) (j := j) (fun i hi => h n i (by omega) hi))
    unfold rowsZ addT
    simp only
    omega
theorem rowsZ_in {cs cm : Nat → Nat → Bool} {j : Nat} : ∀ n, (∀ k i, k < n → i ≤ j → cs k i = true → cm k i = true) → (rowsZ cs cm n j).1 ≤ (rowsZ cs cm n j).2
  | 0, _ => by simp [rowsZ]
  | n + 1, h => by
    have h1 := rowsZ_in (j := j) n (fun k i hk hi => h k i (by omega) hi)
    have a := oneB_le (anyB_le (c := cs n) (c' := cm n) (j := j) (fun i hi => h n i (by omega) hi))
    unfold rowsZ addT
    simp only
    omega
/-- A span within a span, by two numbers. -/
def innV (x y : Int) (v : Int × Int) : Int × Int := (v.1 + x % (v.2 - v.1 + 1), v.1 + x % (v.2 - v.1 + 1) + y % (v.2 - (v.1 + x % (v.2 - v.1 + 1)) + 1))
theorem innV_bd {x y : Int} {v : Int × Int} (h : v.1 ≤ v.2) (hx : 0 ≤ x) (hy : 0 ≤ y) : v.1 ≤ (innV x y v).1 ∧ (innV x y v).1 ≤ (innV x y v).2 ∧ (innV x y v).2 ≤ v.2 := inner_bd h hx hy
/-- Ground that is narrower, ground that is higher. -/
def Within (l l' : List (Int × Int)) : Prop := l'.length = l.length ∧ ∀ k, k < l.length → (l.getD k (0, 0)).1 ≤ (l'.getD k (0, 0)).1 ∧ (l'.getD k (0, 0)).1 ≤ (l'.getD k (0, 0)).2 ∧ (l'.getD k (0, 0)).2 ≤ (l.getD k (0, 0)).2
def Above (l l' : List (Int × Int)) : Prop := l'.length = l.length ∧ ∀ k, k < l.length → (l.getD k (0, 0)).1 ≤ (l'.getD k (0, 0)).1 ∧ (l'.getD k (0, 0)).1 ≤ (l'.getD k (0, 0)).2 ∧ (l.getD k (0, 0)).2 ≤ (l'.getD k (0, 0)).2 ∧ (l'.getD k (0, 0)).2 ≤ 20000
theorem groundZ_within {l l' : List (Int × Int)} {sx sy ro st t ray gx gy gs wi hi : Int} {n j : Nat} (hn : l.length = n) (hsz : (n : Int) = wi * hi) (c1 : 1 ≤ gs) (d1 : 1 ≤ wi) (d2 : wi ≤ 64) (e2 : hi ≤ 64) (h : Within l l') :
    (groundZ l sx sy ro st t ray gx gy gs wi hi j).1 ≤ (groundZ l' sx sy ro st t ray gx gy gs wi hi j).1 ∧ (groundZ l' sx sy ro st t ray gx gy gs wi hi j).2 ≤ (groundZ l sx sy ro st t ray gx gy gs wi hi j).2 := by
  unfold groundZ overZ
  generalize (placeZ sx sy ro st t ray j).1 = x
  generalize (placeZ sx sy ro st t ray j).2 = y
  split
  · simp
  · rename_i hp
    obtain ⟨h1, -⟩ := pixZ_lt (gx := gx) (gy := gy) (x := x) (y := y) c1 hp d1 d2 e2
    obtain ⟨a, b, c⟩ := h.2 (pixZ gx gy gs wi hi x y).toNat (by omega)
    exact ⟨a, c⟩
theorem groundZ_above {l l' : List (Int × Int)} {sx sy ro st t ray gx gy gs wi hi : Int} {n j : Nat} (hn : l.length = n) (hsz : (n : Int) = wi * hi) (c1 : 1 ≤ gs) (d1 : 1 ≤ wi) (d2 : wi ≤ 64) (e2 : hi ≤ 64) (h : Above l l') :
    (groundZ l sx sy ro st t ray gx gy gs wi hi j).1 ≤ (groundZ l' sx sy ro st t ray gx gy gs wi hi j).1 ∧ (groundZ l sx sy ro st t ray gx gy gs wi hi j).2 ≤ (groundZ l' sx sy ro st t ray gx gy gs wi hi j).2 := by
  unfold groundZ overZ
  generalize (placeZ sx sy ro st t ray j).1 = x
  generalize (placeZ sx sy ro st t ray j).2 = y
  split
  · simp
  · rename_i hp
    obtain ⟨h1, -⟩ := pixZ_lt (gx := gx) (gy := gy) (x := x) (y := y) c1 hp d1 d2 e2
    obtain ⟨a, b, c, d⟩ := h.2 (pixZ gx gy gs wi hi x y).toNat (by omega)
    exact ⟨a, c⟩
end Go.Proofs.Ythhhecidogcmjaa
