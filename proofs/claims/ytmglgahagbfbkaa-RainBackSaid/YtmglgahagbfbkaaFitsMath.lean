/-
  Which scales suit: one that suits a pair is one of the pair's; if no two pairs contradict each other, some scale suits all. No program in sight.
-/
import Derived.Test.YtmglgahagbfbkaaAdjustMath
namespace Go.Proofs.Ytmglgahagbfbkaa

/-- A scale suits a pair. -/
def suitB (lo hi t s f : Int) : Bool := decide (lo * f ≤ 1000 * (fellS t s).2) && decide (1000 * (fellS t s).1 ≤ hi * f)
def suitZ (z : Nat → Int) (k : Nat) (f : Int) : Bool := suitB (z (k * 4)) (z (k * 4 + 1)) (z (k * 4 + 2)) (z (k * 4 + 3)) f

theorem cdiv_le_iff {a b f : Int} (hb : 0 < b) : cdiv a b ≤ f ↔ a ≤ b * f := by
  unfold cdiv
  have h := Int.le_ediv_iff_mul_le (a := -f) (b := -a) (c := b) hb
  rw [Int.neg_mul, Int.mul_comm f b] at h
  constructor
  · intro h1; have := h.1 (by omega); omega
  · intro h1; have := h.2 (by omega); omega
theorem suit_iff {lo hi t s f : Int} (h : okP4 lo hi t s = true) (h1 : 1 ≤ f) (h2 : f ≤ 100000) : suitB lo hi t s f = true ↔ (scS lo hi t s).1 ≤ f ∧ f ≤ (scS lo hi t s).2 := by
  obtain ⟨a1, a2, a3, a4⟩ := okP4_iff h
  obtain ⟨b1, b2, b3, b4⟩ := fell_bd a4
  unfold suitB scS
  generalize fellS t s = g at *
  obtain ⟨g1, g2⟩ := g
  simp only at b1 b2 b3 b4 ⊢
  simp only [Bool.and_eq_true, decide_eq_true_eq]
  have lowI : ∀ f, 0 < lo → (f ≤ 1000 * g2 / lo ↔ lo * f ≤ 1000 * g2) := fun f hl => by
    rw [Int.le_ediv_iff_mul_le hl, Int.mul_comm]
  by_cases hh : 0 < hi
  · rw [if_pos hh]
    simp only
    have e1 := cdiv_le_iff (a := 1000 * g1) (b := hi) (f := f) hh
    by_cases hl : 0 < lo
    · rw [if_pos hl]
      have e2 := lowI f hl
      constructor
      · intro ⟨c1, c2⟩
        have := e1.2 c2
        have := e2.2 c1
        omega
      · intro ⟨c1, c2⟩
        exact ⟨e2.1 (by omega), e1.1 (by omega)⟩
    · rw [if_neg hl]
      have e : lo = 0 := by omega
      subst e
      constructor
      · intro ⟨_, c2⟩
        have := e1.2 c2
        omega
      · intro ⟨c1, _⟩
        exact ⟨by omega, e1.1 (by omega)⟩
  · have e : hi = 0 := by omega
    have e' : lo = 0 := by omega
    subst e; subst e'
    rw [if_neg (by omega)]
    by_cases hg : 0 < g1
    · rw [if_pos hg]
      simp only
      constructor
      · intro ⟨_, c2⟩; omega
      · intro ⟨_, c2⟩; omega
    · rw [if_neg hg]
      simp only
      constructor
      · intro _; omega
      · intro _; omega
theorem suitZ_iff {z : Nat → Int} {k : Nat} {f : Int} (h : okZ z k = true) (h1 : 1 ≤ f) (h2 : f ≤ 100000) : suitZ z k f = true ↔ (scZ z k).1 ≤ f ∧ f ≤ (scZ z k).2 := suit_iff h h1 h2

/-- The bounds of a pair's scales. -/
theorem sc_rng {z : Nat → Int} {k : Nat} (h : okZ z k = true) : 1 ≤ (scZ z k).1 ∧ (scZ z k).2 ≤ 100000 := by
  rcases sc_cases h with ⟨h1, _⟩ | ⟨_, h2, h3⟩
  · unfold scZ; rw [h1]; simp
  · exact ⟨h2, h3⟩

section
variable {sc : Nat → Int × Int}
theorem meet_in (f : Int × Int) : ∀ n, f.1 ≤ (meetG sc f n).1 ∧ (meetG sc f n).2 ≤ f.2 ∧ ∀ i, i < n → (sc i).1 ≤ (meetG sc f n).1 ∧ (meetG sc f n).2 ≤ (sc i).2
  | 0 => ⟨Int.le_refl _, Int.le_refl _, fun i hi => by omega⟩
  | n + 1 => by
    obtain ⟨h1, h2, h3⟩ := meet_in f n
    simp only [meetG, meetS]
    refine ⟨by omega, by omega, fun i hi => ?_⟩
    rcases Nat.lt_or_ge i n with h | h
    · have := h3 i h; omega
    · obtain rfl : i = n := by omega
      omega
theorem meet_le (f : Int × Int) (g : Int) : ∀ n, f.1 ≤ g → (∀ i, i < n → (sc i).1 ≤ g) → (meetG sc f n).1 ≤ g
  | 0, h, _ => h
  | n + 1, h, hi => by
    have := meet_le f g n h fun i h' => hi i (by omega)
    have := hi n (by omega)
    simp only [meetG, meetS]; omega
theorem meet_ge (f : Int × Int) (g : Int) : ∀ n, g ≤ f.2 → (∀ i, i < n → g ≤ (sc i).2) → g ≤ (meetG sc f n).2
  | 0, h, _ => h
  | n + 1, h, hi => by
    have := meet_ge f g n h fun i h' => hi i (by omega)
    have := hi n (by omega)
    simp only [meetG, meetS]; omega
/-- If no two contradict each other, all have something in common. -/
theorem helly {n : Nat} (hb : ∀ i, i < n → 1 ≤ (sc i).1 ∧ (sc i).2 ≤ 100000) (hc : ∀ i j, i ≤ j → j < n → conf sc i j = false) : (meetG sc (1, 100000) n).1 ≤ (meetG sc (1, 100000) n).2 := by
  have hc' : ∀ i j, i < n → j < n → (sc i).1 ≤ (sc j).2 := fun i j hi hj => by
    rcases Nat.le_total i j with h | h
    · have := of_decide_eq_false (hc i j h hj)
      simp only [meetS] at this
      omega
    · have := of_decide_eq_false (hc j i h hi)
      simp only [meetS] at this
      omega
  refine meet_ge _ _ _ (meet_le _ _ _ (by decide) fun i hi => ?_) fun j hj => meet_le _ _ _ ?_ fun i hi => hc' i j hi hj
  · have := hb i hi; have := hc' i i hi hi; simp only; omega
  · have := hb j hj; have := hc' j j hj hj; simp only; omega
end
theorem row_spec {cf : Nat → Nat → Bool} {i : Nat} : ∀ (m j : Nat), match rowF cf i j m with
    | some q => j ≤ q ∧ q < j + m ∧ cf i q = true ∧ ∀ k, j ≤ k → k < q → cf i k = false
    | none => ∀ k, j ≤ k → k < j + m → cf i k = false
  | 0, j => by unfold rowF; intro k h1 h2; omega
  | m + 1, j => by
    unfold rowF
    by_cases h : cf i j = true
    · rw [if_pos h]
      exact ⟨Nat.le_refl _, by omega, h, fun k h1 h2 => by omega⟩
    · rw [if_neg h]
      have ih := row_spec (cf := cf) (i := i) m (j + 1)
      have hf : cf i j = false := by simpa using h
      generalize rowF cf i (j + 1) m = r at *
      cases r with
      | none =>
        intro k h1 h2
        by_cases e : k = j
        · rw [e]; exact hf
        · exact ih k (by omega) (by omega)
      | some q =>
        obtain ⟨i1, i2, i3, i4⟩ := ih
        refine ⟨by omega, by omega, i3, fun k h1 h2 => ?_⟩
        by_cases e : k = j
        · rw [e]; exact hf
        · exact i4 k (by omega) h2
theorem find_spec {cf : Nat → Nat → Bool} {n : Nat} : ∀ (m i : Nat), i + m = n → match findF cf n i m with
    | some p => i ≤ p.1 ∧ p.1 ≤ p.2 ∧ p.2 < n ∧ cf p.1 p.2 = true ∧ (p.1 < p.2 → cf p.1 p.1 = false)
    | none => ∀ a b, i ≤ a → a ≤ b → b < n → cf a b = false
  | 0, i, h => by unfold findF; intro a b h1 h2 h3; omega
  | m + 1, i, h => by
    unfold findF
    have hr := row_spec (cf := cf) (i := i) (n - i) i
    generalize rowF cf i i (n - i) = r at *
    cases r with
    | some q =>
      obtain ⟨i1, i2, i3, i4⟩ := hr
      show i ≤ i ∧ i ≤ q ∧ q < n ∧ cf i q = true ∧ (i < q → cf i i = false)
      exact ⟨Nat.le_refl _, i1, by omega, i3, fun hlt => i4 i (Nat.le_refl _) hlt⟩
    | none =>
      have ih := find_spec (cf := cf) (n := n) m (i + 1) (by omega)
      simp only
      generalize findF cf n (i + 1) m = r at *
      cases r with
      | some p =>
        obtain ⟨i1, i2, i3, i4, i5⟩ := ih
        exact ⟨by omega, i2, i3, i4, i5⟩
      | none =>
        intro a b h1 h2 h3
        by_cases e : a = i
        · subst e; exact hr b h2 (by omega)
        · exact ih a b (by omega) h2 h3

/-- What Adjust answers: an error that is none of these two; a conflict of two pairs; or the scales that suit all. -/
theorem adj_cases (z : Nat → Int) (n : Nat) :
    (∃ e, adjG (okZ z) (scZ z) n = (((0, 0), (0, 0)), e) ∧ e ≠ 0 ∧ e ≠ 14) ∨
    (∃ i j : Nat, adjG (okZ z) (scZ z) n = (((0, 0), ((i : Int), (j : Int))), 14) ∧ i ≤ j ∧ j < n ∧ (∀ k, k < n → okZ z k = true) ∧ conf (scZ z) i j = true ∧ (i < j → conf (scZ z) i i = false)) ∨
    (∃ a b : Int, adjG (okZ z) (scZ z) n = (((a, b), (0, 0)), 0) ∧ (a, b) = meetG (scZ z) (1, 100000) n ∧ 1 ≤ a ∧ a ≤ b ∧ b ≤ 100000 ∧ n ≤ 100 ∧ 0 < n ∧ ∀ k, k < n → okZ z k = true) := by
  unfold adjG
  by_cases h1 : n = 0
  · rw [if_pos h1]; exact .inl ⟨18, rfl, by decide, by decide⟩
  rw [if_neg h1]
  by_cases h2 : 100 < n
  · rw [if_pos h2]; exact .inl ⟨9, rfl, by decide, by decide⟩
  rw [if_neg h2]
  by_cases h3 : ((List.range n).all (okZ z)) = false
  · rw [if_pos h3]; exact .inl ⟨3, rfl, by decide, by decide⟩
  rw [if_neg h3]
  have hok : ∀ k, k < n → okZ z k = true := fun k hk => List.all_eq_true.1 (by simpa using h3) k (List.mem_range.2 hk)
  by_cases h4 : (meetG (scZ z) (1, 100000) n).1 ≤ (meetG (scZ z) (1, 100000) n).2
  · rw [if_pos h4]
    obtain ⟨m1, m2, _⟩ := meet_in (sc := scZ z) (1, 100000) n
    exact .inr (.inr ⟨_, _, rfl, rfl, m1, h4, m2, by omega, by omega, hok⟩)
  · rw [if_neg h4]
    have hs := find_spec (cf := conf (scZ z)) (n := n) n 0 (by omega)
    generalize findF (conf (scZ z)) n 0 n = r at *
    cases r with
    | none => exact absurd (helly (fun i hi => sc_rng (hok i hi)) fun i j h5 h6 => hs i j (by omega) h5 h6) h4
    | some p =>
      obtain ⟨_, s2, s3, s4, s5⟩ := hs
      exact .inr (.inl ⟨p.1, p.2, rfl, s2, s3, hok, s4, s5⟩)
/-- Two pairs that contradict each other have no scale in common. -/
theorem conf_suit {z : Nat → Int} {i j : Nat} {f : Int} (hi : okZ z i = true) (hj : okZ z j = true) (hc : conf (scZ z) i j = true) (h1 : 1 ≤ f) (h2 : f ≤ 100000) (hs : suitZ z i f = true) : suitZ z j f = false := by
  cases h : suitZ z j f with
  | false => rfl
  | true =>
    have a := (suitZ_iff hi h1 h2).1 hs
    have b := (suitZ_iff hj h1 h2).1 h
    have c := of_decide_eq_true hc
    simp only [meetS] at c
    omega
/-- Two pairs alone that contradict each other. -/
theorem adj_two {z y : Nat → Int} {i j : Nat} (hi : okZ z i = true) (hj : okZ z j = true) (hc : conf (scZ z) i j = true) (hii : i < j → conf (scZ z) i i = false) (hij : i ≤ j)
    (h0 : ∀ q, q < 4 → y q = z (i * 4 + q)) (h1 : ∀ q, q < 4 → y (4 + q) = z (j * 4 + q)) :
    adjG (okZ y) (scZ y) 2 = (((0, 0), (0, if i < j then 1 else 0)), 14) := by
  have e0 : okZ y 0 = okZ z i := by unfold okZ; rw [show (0 : Nat) * 4 + 1 = 1 from rfl, show (0 : Nat) * 4 + 2 = 2 from rfl, show (0 : Nat) * 4 + 3 = 3 from rfl, show (0 : Nat) * 4 = 0 from rfl, h0 0 (by omega), h0 1 (by omega), h0 2 (by omega), h0 3 (by omega)]; rfl
  have e1 : okZ y 1 = okZ z j := by unfold okZ; rw [show (1 : Nat) * 4 + 1 = 4 + 1 from rfl, show (1 : Nat) * 4 + 2 = 4 + 2 from rfl, show (1 : Nat) * 4 + 3 = 4 + 3 from rfl, show (1 : Nat) * 4 = 4 + 0 from rfl, h1 0 (by omega), h1 1 (by omega), h1 2 (by omega), h1 3 (by omega)]; rfl
  have s0 : scZ y 0 = scZ z i := by unfold scZ; rw [show (0 : Nat) * 4 + 1 = 1 from rfl, show (0 : Nat) * 4 + 2 = 2 from rfl, show (0 : Nat) * 4 + 3 = 3 from rfl, show (0 : Nat) * 4 = 0 from rfl, h0 0 (by omega), h0 1 (by omega), h0 2 (by omega), h0 3 (by omega)]; rfl
  have s1 : scZ y 1 = scZ z j := by unfold scZ; rw [show (1 : Nat) * 4 + 1 = 4 + 1 from rfl, show (1 : Nat) * 4 + 2 = 4 + 2 from rfl, show (1 : Nat) * 4 + 3 = 4 + 3 from rfl, show (1 : Nat) * 4 = 4 + 0 from rfl, h1 0 (by omega), h1 1 (by omega), h1 2 (by omega), h1 3 (by omega)]; rfl
  have hall : ((List.range 2).all (okZ y)) = true := by simp [List.range, List.range.loop, e0, e1, hi, hj]
  have c01 : conf (scZ y) 0 1 = true := by unfold conf; rw [s0, s1]; exact hc
  have c00 : conf (scZ y) 0 0 = if i < j then false else true := by
    unfold conf; rw [s0]
    split
    · rename_i h; exact hii h
    · rename_i h
      obtain rfl : i = j := by omega
      exact hc
  have hm : ¬ (meetG (scZ y) (1, 100000) 2).1 ≤ (meetG (scZ y) (1, 100000) 2).2 := by
    obtain ⟨_, _, m3⟩ := meet_in (sc := scZ y) (1, 100000) 2
    have a := m3 0 (by omega)
    have b := m3 1 (by omega)
    have c := of_decide_eq_true c01
    simp only [meetS] at c
    omega
  unfold adjG
  rw [if_neg (by omega), if_neg (by omega), if_neg (by rw [hall]; simp), if_neg hm]
  congr 2
  rw [show findF (conf (scZ y)) 2 0 2 = match rowF (conf (scZ y)) 0 0 2 with
    | some j => some (0, j)
    | none => findF (conf (scZ y)) 2 1 1 from rfl]
  rw [show rowF (conf (scZ y)) 0 0 2 = if conf (scZ y) 0 0 = true then some 0 else if conf (scZ y) 0 1 = true then some 1 else none from rfl, c00, c01]
  by_cases h : i < j
  · simp [h, atOf]
  · simp [h, atOf]
/-- Without one pair, the scales are not fewer. -/
theorem adj_less {z y : Nat → Int} {n k : Nat} (hn : 1 < n) (hk : k < n) (hok : ∀ j, j < n → okZ z j = true) (hle : (meetG (scZ z) (1, 100000) n).1 ≤ (meetG (scZ z) (1, 100000) n).2) (h100 : n ≤ 100)
    (hy : ∀ j, j < n - 1 → ∃ j', j' < n ∧ ∀ q, q < 4 → y (j * 4 + q) = z (j' * 4 + q)) :
    ∃ a b : Int, adjG (okZ y) (scZ y) (n - 1) = (((a, b), (0, 0)), 0) ∧ a ≤ (meetG (scZ z) (1, 100000) n).1 ∧ (meetG (scZ z) (1, 100000) n).2 ≤ b := by
  have hsc : ∀ j, j < n - 1 → ∃ j', j' < n ∧ okZ y j = okZ z j' ∧ scZ y j = scZ z j' := fun j hj => by
    obtain ⟨j', h1, h2⟩ := hy j hj
    refine ⟨j', h1, ?_, ?_⟩
    · unfold okZ; rw [show j * 4 = j * 4 + 0 from rfl, show j * 4 + 0 + 1 = j * 4 + 1 from rfl, show j * 4 + 0 + 2 = j * 4 + 2 from rfl, show j * 4 + 0 + 3 = j * 4 + 3 from rfl, h2 0 (by omega), h2 1 (by omega), h2 2 (by omega), h2 3 (by omega)]; rfl
    · unfold scZ; rw [show j * 4 = j * 4 + 0 from rfl, show j * 4 + 0 + 1 = j * 4 + 1 from rfl, show j * 4 + 0 + 2 = j * 4 + 2 from rfl, show j * 4 + 0 + 3 = j * 4 + 3 from rfl, h2 0 (by omega), h2 1 (by omega), h2 2 (by omega), h2 3 (by omega)]; rfl
  have hall : ((List.range (n - 1)).all (okZ y)) = true := List.all_eq_true.2 fun j hj => by
    obtain ⟨j', h1, h2, _⟩ := hsc j (List.mem_range.1 hj)
    rw [h2]; exact hok j' h1
  obtain ⟨m1, m2, m3⟩ := meet_in (sc := scZ z) (1, 100000) n
  have ha : (meetG (scZ y) (1, 100000) (n - 1)).1 ≤ (meetG (scZ z) (1, 100000) n).1 := meet_le _ _ _ m1 fun j hj => by
    obtain ⟨j', h1, _, h3⟩ := hsc j hj
    rw [h3]; exact (m3 j' h1).1
  have hb : (meetG (scZ z) (1, 100000) n).2 ≤ (meetG (scZ y) (1, 100000) (n - 1)).2 := meet_ge _ _ _ m2 fun j hj => by
    obtain ⟨j', h1, _, h3⟩ := hsc j hj
    rw [h3]; exact (m3 j' h1).2
  refine ⟨(meetG (scZ y) (1, 100000) (n - 1)).1, (meetG (scZ y) (1, 100000) (n - 1)).2, ?_, ha, hb⟩
  unfold adjG
  rw [if_neg (by omega), if_neg (by omega), if_neg (by rw [hall]; simp), if_pos (by omega)]
/-- A scale from the least to the greatest suits all. -/
theorem suits_all {z : Nat → Int} {n k : Nat} {f : Int} (hk : k < n) (hok : okZ z k = true) (h1 : (meetG (scZ z) (1, 100000) n).1 ≤ f) (h2 : f ≤ (meetG (scZ z) (1, 100000) n).2) : suitZ z k f = true := by
  obtain ⟨m1, m2, m3⟩ := meet_in (sc := scZ z) (1, 100000) n
  have := m3 k hk
  exact (suitZ_iff hok (by simp only at m1; omega) (by simp only at m2; omega)).2 ⟨by omega, by omega⟩
/-- One that suits all lies there. -/
theorem all_suits {z : Nat → Int} {n : Nat} {f : Int} (hok : ∀ k, k < n → okZ z k = true) (h1 : 1 ≤ f) (h2 : f ≤ 100000) (h : ∀ k, k < n → suitZ z k f = true) : (meetG (scZ z) (1, 100000) n).1 ≤ f ∧ f ≤ (meetG (scZ z) (1, 100000) n).2 :=
  ⟨meet_le _ _ _ h1 fun i hi => ((suitZ_iff (hok i hi) h1 h2).1 (h i hi)).1, meet_ge _ _ _ h2 fun i hi => ((suitZ_iff (hok i hi) h1 h2).1 (h i hi)).2⟩
end Go.Proofs.Ytmglgahagbfbkaa
