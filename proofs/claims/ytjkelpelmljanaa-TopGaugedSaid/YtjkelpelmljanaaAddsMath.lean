/-
  What is restored of what passes has the powers that were there; from narrower spans follow narrower ones, from greater ones greater ones: no program in sight.
  Sums of records, cut in two, with more slack, with one reading more: no program in sight.
-/
import Derived.Test.YtjkelpelmljanaaTgRestMath
import Derived.Test.YtjkelpelmljanaaTgValues
set_option linter.unusedSimpArgs false
set_option linter.unusedVariables false
namespace Go.Proofs.Ytjkelpelmljanaa

theorem div_le_div2 {a b a' b' : Int} (h0 : 0 ≤ a) (h : a ≤ a') (hb : 1 ≤ b') (hbb : b' ≤ b) : a / b ≤ a' / b' := by
  rw [Int.le_ediv_iff_mul_le (by omega)]
  have h1 : 0 ≤ a / b := Int.ediv_nonneg h0 (by omega)
  have h2 : a / b * b' ≤ a / b * b := Int.mul_le_mul_of_nonneg_left hbb h1
  have h3 := Int.ediv_mul_le a (show b ≠ 0 by omega)
  omega
theorem le_cdiv_mul {a b : Int} (hb : 1 ≤ b) : a ≤ cdiv a b * b := by
  rw [cdiv_eq (by omega)]
  have := Int.lt_ediv_add_one_mul_self (a + b - 1) (show 0 < b by omega)
  rw [Int.add_mul] at this
  omega
theorem cdiv_le {a b c : Int} (hb : 1 ≤ b) (h : a ≤ c * b) : cdiv a b ≤ c := by
  rw [cdiv_eq (by omega)]
  have : (a + b - 1) / b < c + 1 := Int.ediv_lt_of_lt_mul (by omega) (by rw [Int.add_mul]; omega)
  omega
theorem cdiv_nonneg {a b : Int} (h : 0 ≤ a) (hb : 1 ≤ b) : 0 ≤ cdiv a b := by
  rw [cdiv_eq (by omega)]; exact Int.ediv_nonneg (by omega) (by omega)
theorem cdiv_le_cdiv2 {a b a' b' : Int} (h0 : 0 ≤ a) (h : a ≤ a') (hb : 1 ≤ b') (hbb : b' ≤ b) : cdiv a b ≤ cdiv a' b' := by
  refine cdiv_le (by omega) ?_
  have h1 : a' ≤ cdiv a' b' * b' := le_cdiv_mul hb
  have h2 : cdiv a' b' * b' ≤ cdiv a' b' * b := Int.mul_le_mul_of_nonneg_left hbb (cdiv_nonneg (by omega) hb)
  omega

theorem val_lo {l : List (Int × Int)} {most : Int} (hT : Tab l most) {z : Int} : ∀ d k : Nat, k + d + 1 = l.length → (l.getD k P0).1 ≤ z → (l.getD k P0).2 ≤ (valGo z (l.drop k)).1 ∧ (valGo z (l.drop k)).1 ≤ (valGo z (l.drop k)).2 := by
  intro d
  induction d with
  | zero =>
    intro k hk _
    rw [val_last z (by omega)]
    exact ⟨Int.le_refl _, Int.le_refl _⟩
  | succ d ih =>
    intro k hk hz1
    rw [val_drop z (by omega)]
    have hm := hT.mono k (by omega)
    by_cases h : z < (l.getD (k + 1) P0).1
    · rw [if_pos h]
      have h1 := Int.mul_nonneg (show 0 ≤ (l.getD (k + 1) P0).2 - (l.getD k P0).2 by omega) (show 0 ≤ z - (l.getD k P0).1 by omega)
      have h2 := Int.ediv_nonneg h1 (show 0 ≤ (l.getD (k + 1) P0).1 - (l.getD k P0).1 by omega)
      have h4 := div_le_cdiv (a := ((l.getD (k + 1) P0).2 - (l.getD k P0).2) * (z - (l.getD k P0).1)) (b := (l.getD (k + 1) P0).1 - (l.getD k P0).1) (by omega)
      simp only
      omega
    · rw [if_neg h]
      have := ih (k + 1) (by omega) (by omega)
      omega
theorem val_mono {l : List (Int × Int)} {most : Int} (hT : Tab l most) {y z : Int} (h0 : 0 ≤ y) (h : y ≤ z) : (valGo y l).1 ≤ (valGo z l).1 ∧ (valGo y l).2 ≤ (valGo z l).2 := by
  have key : ∀ d k : Nat, k + d + 1 = l.length → (l.getD k P0).1 ≤ y → (valGo y (l.drop k)).1 ≤ (valGo z (l.drop k)).1 ∧ (valGo y (l.drop k)).2 ≤ (valGo z (l.drop k)).2 := by
    intro d
    induction d with
    | zero =>
      intro k hk _
      rw [val_last z (by omega), val_last y (by omega)]
      exact ⟨Int.le_refl _, Int.le_refl _⟩
    | succ d ih =>
      intro k hk hy1
      rw [val_drop z (by omega), val_drop y (by omega)]
      have hm := hT.mono k (by omega)
      have b0 := Int.mul_nonneg (show 0 ≤ (l.getD (k + 1) P0).2 - (l.getD k P0).2 by omega) (show 0 ≤ y - (l.getD k P0).1 by omega)
      by_cases hz : z < (l.getD (k + 1) P0).1
      · rw [if_pos hz, if_pos (by omega)]
        have b1 : ((l.getD (k + 1) P0).2 - (l.getD k P0).2) * (y - (l.getD k P0).1) ≤ ((l.getD (k + 1) P0).2 - (l.getD k P0).2) * (z - (l.getD k P0).1) := Int.mul_le_mul_of_nonneg_left (by omega) (by omega)
        have c1 := div_le_div2 b0 b1 (show 1 ≤ (l.getD (k + 1) P0).1 - (l.getD k P0).1 by omega) (Int.le_refl _)
        have c2 := cdiv_le_cdiv2 b0 b1 (show 1 ≤ (l.getD (k + 1) P0).1 - (l.getD k P0).1 by omega) (Int.le_refl _)
        simp only
        omega
      · rw [if_neg hz]
        by_cases hy : y < (l.getD (k + 1) P0).1
        · rw [if_pos hy]
          have b1 : ((l.getD (k + 1) P0).2 - (l.getD k P0).2) * (y - (l.getD k P0).1) ≤ ((l.getD (k + 1) P0).2 - (l.getD k P0).2) * ((l.getD (k + 1) P0).1 - (l.getD k P0).1) := Int.mul_le_mul_of_nonneg_left (by omega) (by omega)
          have c1 := div_bdR (b := (l.getD (k + 1) P0).1 - (l.getD k P0).1) b0 (by omega) b1
          have c2 := cdiv_bd (b := (l.getD (k + 1) P0).1 - (l.getD k P0).1) b0 (by omega) b1
          have c3 := val_lo hT (z := z) d (k + 1) (by omega) (by omega)
          simp only
          omega
        · rw [if_neg hy]
          exact ih (k + 1) (by omega) (by omega)
  have := key (l.length - 1) 0 (by have := hT.len; omega) (by rw [hT.z0]; exact h0)
  rwa [List.drop_zero] at this

/-- The passage s is wider than t. -/
structure Wid (s t : Int × Int) : Prop where
  lo : s.1 ≤ t.1
  hi : t.2 ≤ s.2
theorem nextT_wid {loss : List (Int × Int)} (hT : Tab loss 32768) {s t b z : Int × Int} (hs : Psg s) (ht : Psg t) (h : Wid s t) (hb : 0 ≤ b.1) (h1 : b.1 ≤ z.1) (h2 : z.2 ≤ b.2) (hz : 0 ≤ z.2) : Wid (nextT loss s b) (nextT loss t z) := by
  have m1 := val_mono hT hb h1
  have m2 := val_mono hT hz h2
  have v1 := val_bd hT hb
  have v2 := val_bd hT (show 0 ≤ b.2 by omega)
  have v3 := val_bd hT hz
  have v4 := val_bd hT (show 0 ≤ z.1 by omega)
  refine ⟨div_le_div2 (Int.mul_nonneg hs.lo (by omega)) (Int.mul_le_mul h.lo (by omega) (by omega) ht.lo) (by omega) (Int.le_refl _), cdiv_le_cdiv2 (Int.mul_nonneg ht.lo' (by omega)) (Int.mul_le_mul h.hi (by omega) (by omega) hs.lo') (by omega) (Int.le_refl _)⟩
/-- Behind greater powers less passes. -/
structure Les (v u : Int × Int) : Prop where
  lo : v.1 ≤ u.1
  hi : v.2 ≤ u.2
theorem nextT_les {loss : List (Int × Int)} (hT : Tab loss 32768) {u v a b : Int × Int} (hu : Psg u) (hv : Psg v) (h : Les v u) (ha : 0 ≤ a.1) (ha2 : 0 ≤ a.2) (h1 : a.1 ≤ b.1) (h2 : a.2 ≤ b.2) : Les (nextT loss v b) (nextT loss u a) := by
  have m1 := val_mono hT ha h1
  have m2 := val_mono hT ha2 h2
  have v1 := val_bd hT ha
  have v2 := val_bd hT ha2
  have v3 := val_bd hT (show 0 ≤ b.1 by omega)
  have v4 := val_bd hT (show 0 ≤ b.2 by omega)
  refine ⟨div_le_div2 (Int.mul_nonneg hv.lo (by omega)) (Int.mul_le_mul h.lo (by omega) (by omega) hu.lo) (by omega) (Int.le_refl _), cdiv_le_cdiv2 (Int.mul_nonneg hv.lo' (by omega)) (Int.mul_le_mul h.hi (by omega) (by omega) hu.lo') (by omega) (Int.le_refl _)⟩

theorem restOne_wid {u s w m : Int × Int} (hu : Psg1 u) (hs : Psg1 s) (h : Wid u s) (hm : okM m = true) (hw : okM w = true) (h1 : w.1 ≤ m.1) (h2 : m.2 ≤ w.2) : (restOne u w).1 ≤ (restOne s m).1 ∧ (restOne s m).2 ≤ (restOne u w).2 := by
  obtain ⟨a1, a2, a3⟩ := okM_iff hm
  obtain ⟨b1, b2, b3⟩ := okM_iff hw
  have d := div_le_div2 (a := w.1 * 1073741824) (a' := m.1 * 1073741824) (b := u.2) (b' := s.2) (by omega) (by omega) hs.pos h.hi
  have hlo := h.lo
  unfold restOne
  simp only
  refine ⟨by omega, ?_⟩
  by_cases c : 1048576 ≤ u.1
  · have e := cdiv_le_cdiv2 (a := m.2 * 1073741824) (a' := w.2 * 1073741824) (b := s.1) (b' := u.1) (by omega) (by omega) (by omega) h.lo
    rw [if_pos c, if_pos (by omega)]
    omega
  · rw [if_neg c]
    split <;> omega
theorem restOne_les {u v w x : Int × Int} (hu : Psg1 u) (hv : Psg1 v) (h : Les v u) (hw : okM w = true) (hx : okM x = true) (h1 : w.1 ≤ x.1) (h2 : w.2 ≤ x.2) : (restOne u w).1 ≤ (restOne v x).1 ∧ (restOne u w).2 ≤ (restOne v x).2 := by
  obtain ⟨a1, a2, a3⟩ := okM_iff hw
  obtain ⟨b1, b2, b3⟩ := okM_iff hx
  have d := div_le_div2 (a := w.1 * 1073741824) (a' := x.1 * 1073741824) (b := u.2) (b' := v.2) (by omega) (by omega) hv.pos h.hi
  have hlo := h.lo
  have hvl := hv.lo
  unfold restOne
  simp only
  refine ⟨by omega, ?_⟩
  by_cases c : 1048576 ≤ v.1
  · have e := cdiv_le_cdiv2 (a := w.2 * 1073741824) (a' := x.2 * 1073741824) (b := u.1) (b' := v.1) (by omega) (by omega) (by omega) h.lo
    rw [if_pos c, if_pos (by omega)]
    omega
  · rw [if_neg c]
    split <;> omega
theorem passOne_ok {t : Int × Int} (ht : Psg t) (h : t.1 ≤ t.2) {z : Int} (h0 : 0 ≤ z) (h1 : z ≤ 1073741824) : okM (passOne t z) = true := by
  obtain ⟨a, b, c, d⟩ := one_bd ht h0 h1
  have m : z * t.1 ≤ z * t.2 := Int.mul_le_mul_of_nonneg_left h h0
  have m2 : z * t.2 ≤ 1073741824 * 1073741824 := Int.mul_le_mul h1 ht.hi' ht.lo' (by omega)
  have e := div_bdR (b := 1073741824) a (by omega) (C := 1073741824) (by omega)
  have f := cdiv_bd (b := 1073741824) c (by omega) (C := 1073741824) m2
  have g := div_le_cdiv (a := z * t.1) (b := 1073741824) (by omega)
  have k := cdiv_le_cdiv2 a m (show (1 : Int) ≤ 1073741824 by omega) (Int.le_refl _)
  exact decide_eq_true ⟨e.1, by unfold passOne; simp only; omega, f.2⟩
theorem restOne_true {s t : Int × Int} (hs : Psg1 s) (ht : Psg t) (htt : t.1 ≤ t.2) (h : Wid s t) {z : Int} (h0 : 0 ≤ z) (h1 : z ≤ 1073741824) : (restOne s (passOne t z)).1 ≤ z ∧ z ≤ (restOne s (passOne t z)).2 := by
  have m1 : z * t.1 ≤ z * s.2 := Int.mul_le_mul_of_nonneg_left (by have := h.hi; omega) h0
  have m2 : z * s.1 ≤ z * t.2 := Int.mul_le_mul_of_nonneg_left (by have := h.lo; omega) h0
  have q1 := Int.ediv_mul_le (z * t.1) (show (1073741824 : Int) ≠ 0 by omega)
  have q2 : z * t.2 ≤ cdiv (z * t.2) 1073741824 * 1073741824 := le_cdiv_mul (by omega)
  have hp := hs.pos
  unfold restOne passOne
  simp only
  constructor
  · have : z * t.1 / 1073741824 * 1073741824 / s.2 < z + 1 := Int.ediv_lt_of_lt_mul (by omega) (by rw [Int.add_mul]; omega)
    omega
  · split
    · rename_i c
      have : z * s.1 ≤ cdiv (cdiv (z * t.2) 1073741824 * 1073741824) s.1 * s.1 := Int.le_trans (by omega) (le_cdiv_mul (by omega))
      have := Int.le_of_mul_le_mul_right this (show 0 < s.1 by omega)
      omega
    · omega
theorem nextT_in {loss : List (Int × Int)} (hT : Tab loss 32768) {t : Int × Int} (ht : Psg t) (h : t.1 ≤ t.2) {z : Int} (h0 : 0 ≤ z) : (nextT loss t (z, z)).1 ≤ (nextT loss t (z, z)).2 := by
  have v := val_bd hT h0
  unfold nextT
  simp only
  have m : t.1 * (65536 - (valGo z loss).2) ≤ t.2 * (65536 - (valGo z loss).1) := Int.mul_le_mul h (by omega) (by omega) ht.lo'
  have a := div_le_cdiv (a := t.1 * (65536 - (valGo z loss).2)) (b := 65536) (by omega)
  have b := cdiv_le_cdiv2 (Int.mul_nonneg ht.lo (show 0 ≤ 65536 - (valGo z loss).2 by omega)) m (show (1 : Int) ≤ 65536 by omega) (Int.le_refl _)
  omega

/-- What is restored of what passes has the powers. -/
theorem back_ok {loss : List (Int × Int)} (hT : Tab loss 32768) : ∀ (pw : List Int) (s t : Int × Int), Psg1 s → Psg t → t.1 ≤ t.2 → Wid s t → (∀ z ∈ pw, 0 ≤ z ∧ z ≤ 1073741824) →
    ∀ i, i < pw.length → okM ((passGo loss t pw).getD i (0, 0)) = true ∧ ((restGo loss s (passGo loss t pw)).getD i (0, 0)).1 ≤ pw.getD i 0 ∧ pw.getD i 0 ≤ ((restGo loss s (passGo loss t pw)).getD i (0, 0)).2
  | [], _, _, _, _, _, _, _, i, hi => by simp at hi
  | z :: r, s, t, hs, ht, htt, h, hz, i, hi => by
    obtain ⟨z0, z1⟩ := hz z (by simp)
    have e := restOne_true hs ht htt h z0 z1
    have f := passOne_ok ht htt z0 z1
    have g := restOne_bd hs f
    cases i with
    | zero => exact ⟨f, e⟩
    | succ i =>
      have := back_ok hT r (nextT loss s (restOne s (passOne t z))) (nextT loss t (z, z)) (nextT_psg1 hT hs g.1 g.2.2.1) (nextT_psg hT ht z0 z0) (nextT_in hT ht htt z0) (nextT_wid hT hs.toPsg ht h g.1 e.1 e.2 z0) (fun x hx => hz x (by simp [hx])) i (by simpa using hi)
      simpa [passGo, restGo] using this
theorem wid_ok {loss : List (Int × Int)} (hT : Tab loss 32768) : ∀ (ms ws : List (Int × Int)) (u s : Int × Int), ws.length = ms.length → Psg1 u → Psg1 s → Wid u s →
    (∀ i, i < ms.length → okM (ms.getD i (0, 0)) = true ∧ okM (ws.getD i (0, 0)) = true ∧ (ws.getD i (0, 0)).1 ≤ (ms.getD i (0, 0)).1 ∧ (ms.getD i (0, 0)).2 ≤ (ws.getD i (0, 0)).2) →
    ∀ i, i < ms.length → ((restGo loss u ws).getD i (0, 0)).1 ≤ ((restGo loss s ms).getD i (0, 0)).1 ∧ ((restGo loss s ms).getD i (0, 0)).2 ≤ ((restGo loss u ws).getD i (0, 0)).2
  | [], _, _, _, _, _, _, _, _, i, hi => by simp at hi
  | m :: r, [], _, _, hl, _, _, _, _, i, hi => by simp at hl
  | m :: r, w :: q, u, s, hl, hu, hs, h, hh, i, hi => by
    obtain ⟨a, b, c, d⟩ := hh 0 (by simp)
    simp at a b c d
    have e := restOne_wid hu hs h a b c d
    have f := restOne_bd hu b
    have g := restOne_bd hs a
    cases i with
    | zero => simpa [restGo] using e
    | succ i =>
      have := wid_ok hT r q (nextT loss u (restOne u w)) (nextT loss s (restOne s m)) (by simpa using hl) (nextT_psg1 hT hu f.1 f.2.2.1) (nextT_psg1 hT hs g.1 g.2.2.1) (nextT_wid hT hu.toPsg hs.toPsg h f.1 e.1 e.2 g.2.2.1) (fun j hj => by simpa using hh (j + 1) (by simpa using hj)) i (by simpa using hi)
      simpa [restGo] using this
theorem les_ok {loss : List (Int × Int)} (hT : Tab loss 32768) : ∀ (ws xs : List (Int × Int)) (u v : Int × Int), xs.length = ws.length → Psg1 u → Psg1 v → Les v u →
    (∀ i, i < ws.length → okM (ws.getD i (0, 0)) = true ∧ okM (xs.getD i (0, 0)) = true ∧ (ws.getD i (0, 0)).1 ≤ (xs.getD i (0, 0)).1 ∧ (ws.getD i (0, 0)).2 ≤ (xs.getD i (0, 0)).2) →
    ∀ i, i < ws.length → ((restGo loss u ws).getD i (0, 0)).1 ≤ ((restGo loss v xs).getD i (0, 0)).1 ∧ ((restGo loss u ws).getD i (0, 0)).2 ≤ ((restGo loss v xs).getD i (0, 0)).2
  | [], _, _, _, _, _, _, _, _, i, hi => by simp at hi
  | m :: r, [], _, _, hl, _, _, _, _, i, hi => by simp at hl
  | m :: r, w :: q, u, s, hl, hu, hs, h, hh, i, hi => by
    obtain ⟨a, b, c, d⟩ := hh 0 (by simp)
    simp at a b c d
    have e := restOne_les hu hs h a b c d
    have f := restOne_bd hu a
    have g := restOne_bd hs b
    cases i with
    | zero => simpa [restGo] using e
    | succ i =>
      have := les_ok hT r q (nextT loss u (restOne u m)) (nextT loss s (restOne s w)) (by simpa using hl) (nextT_psg1 hT hu f.1 f.2.2.1) (nextT_psg1 hT hs g.1 g.2.2.1) (nextT_les hT hu.toPsg hs.toPsg h f.1 f.2.2.1 e.1 e.2) (fun j hj => by simpa using hh (j + 1) (by simpa using hj)) i (by simpa using hi)
      simpa [restGo] using this

/-! ### What the law makes of them -/
/-- An element of a list, as often as it is needed. -/
def nthV (l : List Int) (i : Nat) : Int := if l.length = 0 then 0 else l.getD (i % l.length) 0
def powN (ps : List Int) : List Int := ps.map fun p => p % 1073741825
def wideV (cuts : List Int) (i : Nat) (m : Int × Int) : Int × Int := (max 0 (m.1 - nthV cuts (2 * i) % 1000), min 1073741824 (m.2 + nthV cuts (2 * i + 1) % 1000))
def moreV (up : List Int) (i : Nat) (w : Int × Int) : Int × Int := if i < up.length then (min 1073741824 (w.1 + up.getD i 0), min 1073741824 (w.2 + up.getD i 0)) else w
theorem nthV_bd {l : List Int} (h : ∀ x ∈ l, 0 ≤ x ∧ x ≤ 4294967295) (i : Nat) : 0 ≤ nthV l i ∧ nthV l i ≤ 4294967295 := by
  unfold nthV
  split
  · omega
  · have : i % l.length < l.length := Nat.mod_lt _ (by omega)
    simp only [List.getD, List.getElem?_eq_getElem this]
    exact h _ (List.getElem_mem this)
theorem wideV_ok {cuts : List Int} (h : ∀ x ∈ cuts, 0 ≤ x ∧ x ≤ 4294967295) (i : Nat) {m : Int × Int} (hm : okM m = true) : okM (wideV cuts i m) = true ∧ (wideV cuts i m).1 ≤ m.1 ∧ m.2 ≤ (wideV cuts i m).2 := by
  obtain ⟨a, b, c⟩ := okM_iff hm
  have h1 := Int.emod_nonneg (nthV cuts (2 * i)) (show (1000 : Int) ≠ 0 by omega)
  have h2 := Int.emod_nonneg (nthV cuts (2 * i + 1)) (show (1000 : Int) ≠ 0 by omega)
  unfold okM wideV
  simp only
  exact ⟨decide_eq_true (by omega), by omega, by omega⟩
theorem moreV_ok {up : List Int} (h : ∀ x ∈ up, 0 ≤ x ∧ x ≤ 65535) (i : Nat) {w : Int × Int} (hw : okM w = true) : okM (moreV up i w) = true ∧ w.1 ≤ (moreV up i w).1 ∧ w.2 ≤ (moreV up i w).2 := by
  obtain ⟨a, b, c⟩ := okM_iff hw
  unfold moreV
  split
  · rename_i hi
    have : 0 ≤ up.getD i 0 := by
      simp only [List.getD, List.getElem?_eq_getElem hi]
      exact (h _ (List.getElem_mem hi)).1
    unfold okM
    simp only
    exact ⟨decide_eq_true (by omega), by omega, by omega⟩
  · exact ⟨hw, Int.le_refl _, Int.le_refl _⟩
def mapI (f : Nat → Int × Int → Int × Int) (l : List (Int × Int)) : List (Int × Int) := (List.range l.length).map fun i => f i (l.getD i (0, 0))
theorem mapI_len (f : Nat → Int × Int → Int × Int) (l : List (Int × Int)) : (mapI f l).length = l.length := by simp [mapI]
theorem mapI_get (f : Nat → Int × Int → Int × Int) (l : List (Int × Int)) {i : Nat} (hi : i < l.length) : (mapI f l).getD i (0, 0) = f i (l.getD i (0, 0)) := by
  simp [mapI, List.getD, hi]
theorem powN_in (ps : List Int) : ∀ z ∈ powN ps, 0 ≤ z ∧ z ≤ 1073741824 := by
  intro z hz
  obtain ⟨x, _, rfl⟩ := List.mem_map.1 hz
  have h1 := Int.emod_nonneg x (show (1073741825 : Int) ≠ 0 by omega)
  have h2 := Int.emod_lt_of_pos x (show (0 : Int) < 1073741825 by omega)
  omega
/-- All that the law asks, of each gate. -/
theorem back_law {loss : List (Int × Int)} (hT : Tab loss 32768) (z cuts up : List Int) (hz : ∀ x ∈ z, 0 ≤ x ∧ x ≤ 1073741824) (hc : ∀ x ∈ cuts, 0 ≤ x ∧ x ≤ 4294967295) (hu : ∀ x ∈ up, 0 ≤ x ∧ x ≤ 65535) :
    ∃ m b w x a d : List (Int × Int), passGo loss whole z = m ∧ restGo loss whole m = b ∧ mapI (wideV cuts) m = w ∧ mapI (moreV up) w = x ∧ restGo loss whole w = a ∧ restGo loss whole x = d ∧
      m.length = z.length ∧ b.length = z.length ∧ w.length = z.length ∧ x.length = z.length ∧ a.length = z.length ∧ d.length = z.length ∧ m.all okM = true ∧ w.all okM = true ∧ x.all okM = true ∧
      ∀ i, i < z.length → okM (m.getD i (0, 0)) = true ∧ (b.getD i (0, 0)).1 ≤ z.getD i 0 ∧ z.getD i 0 ≤ (b.getD i (0, 0)).2 ∧ (a.getD i (0, 0)).1 ≤ (b.getD i (0, 0)).1 ∧ (b.getD i (0, 0)).2 ≤ (a.getD i (0, 0)).2 ∧
        (a.getD i (0, 0)).1 ≤ (d.getD i (0, 0)).1 ∧ (a.getD i (0, 0)).2 ≤ (d.getD i (0, 0)).2 := by
  have wp : Psg1 whole := whole_psg1
  have h1 := back_ok hT z whole whole wp wp.toPsg (Int.le_refl _) ⟨Int.le_refl _, Int.le_refl _⟩ hz
  have l1 : (passGo loss whole z).length = z.length := passGo_length _ _ _
  have w1 : ∀ i, i < z.length → (mapI (wideV cuts) (passGo loss whole z)).getD i (0, 0) = wideV cuts i ((passGo loss whole z).getD i (0, 0)) := fun i hi => mapI_get _ _ (by rw [l1]; exact hi)
  have l2 : (mapI (wideV cuts) (passGo loss whole z)).length = z.length := by rw [mapI_len, l1]
  have w2 : ∀ i, i < z.length → (mapI (moreV up) (mapI (wideV cuts) (passGo loss whole z))).getD i (0, 0) = moreV up i (wideV cuts i ((passGo loss whole z).getD i (0, 0))) := fun i hi => by rw [mapI_get _ _ (by rw [l2]; exact hi), w1 i hi]
  have l3 : (mapI (moreV up) (mapI (wideV cuts) (passGo loss whole z))).length = z.length := by rw [mapI_len, l2]
  have h2 := wid_ok hT (passGo loss whole z) (mapI (wideV cuts) (passGo loss whole z)) whole whole (by rw [l2, l1]) wp wp ⟨Int.le_refl _, Int.le_refl _⟩ (fun i hi => by
    rw [l1] at hi
    have a := (h1 i hi).1
    have b := wideV_ok hc i a
    rw [w1 i hi]
    exact ⟨a, b.1, b.2.1, b.2.2⟩)
  have h3 := les_ok hT (mapI (wideV cuts) (passGo loss whole z)) (mapI (moreV up) (mapI (wideV cuts) (passGo loss whole z))) whole whole (by rw [l3, l2]) wp wp ⟨Int.le_refl _, Int.le_refl _⟩ (fun i hi => by
    rw [l2] at hi
    have b := wideV_ok hc i (h1 i hi).1
    have c := moreV_ok hu i b.1
    rw [w1 i hi, w2 i hi]
    exact ⟨b.1, c.1, c.2.1, c.2.2⟩)
  rw [l1] at h2
  rw [l2] at h3
  refine ⟨_, _, _, _, _, _, rfl, rfl, rfl, rfl, rfl, rfl, l1, by rw [restGo_length, l1], l2, l3, by rw [restGo_length, l2], by rw [restGo_length, l3], all_okM fun j hj => ?_, all_okM fun j hj => ?_, all_okM fun j hj => ?_, fun i hi => ⟨(h1 i hi).1, (h1 i hi).2.1, (h1 i hi).2.2, (h2 i hi).1, (h2 i hi).2, (h3 i hi).1, (h3 i hi).2⟩⟩
  · rw [l1] at hj; exact (h1 j hj).1
  · rw [l2] at hj; rw [w1 j hj]; exact (wideV_ok hc j (h1 j hj).1).1
  · rw [l3] at hj; rw [w2 j hj]; exact (moreV_ok hu j (wideV_ok hc j (h1 j hj).1).1).1
end Go.Proofs.Ytjkelpelmljanaa
namespace Go.Proofs.Ytjkelpelmljanaa

theorem scanE_same {z z' : Nat → Int} : ∀ (m k : Nat), (∀ j, j < (k + m) * 3 → z j = z' j) → scanE z k m = scanE z' k m
  | 0, _, _ => rfl
  | m + 1, k, h => by
    have e0 := h (k * 3) (by omega)
    have e1 := h (k * 3 + 1) (by omega)
    have e2 := h (k * 3 + 2) (by omega)
    have e3 := h ((k - 1) * 3) (by omega)
    rw [scanE, scanE, scanE_same m (k + 1) (fun j hj => h j (by omega))]
    unfold okR
    rw [e0, e1, e2, e3]
theorem ps_same {z z' : Nat → Int} : ∀ (k : Nat), (∀ j, j < (k + 1) * 3 → z j = z' j) → psL z k = psL z' k ∧ psH z k = psH z' k
  | 0, _ => ⟨rfl, rfl⟩
  | k + 1, h => by
    obtain ⟨i1, i2⟩ := ps_same k (fun j hj => h j (by omega))
    have e0 := h (k * 3) (by omega)
    have e1 := h (k * 3 + 1) (by omega)
    have e2 := h (k * 3 + 2) (by omega)
    have f0 := h ((k + 1) * 3) (by omega)
    have f1 := h ((k + 1) * 3 + 1) (by omega)
    have f2 := h ((k + 1) * 3 + 2) (by omega)
    unfold psL psH
    rw [i1, i2, e0, e1, e2, f0, f1, f2]
    exact ⟨rfl, rfl⟩
theorem sumR_same {z z' : Nat → Int} {n : Nat} (e s : Int) (h : ∀ j, j < n * 3 → z j = z' j) : sumR z n e s = sumR z' n e s := by
  by_cases h0 : n = 0
  · subst h0; rfl
  · have e1 := scanE_same n 0 (z := z) (z' := z') (fun j hj => h j (by omega))
    have e2 := ps_same (n - 1) (z := z) (z' := z') (fun j hj => h j (by omega))
    have f0 := h ((n - 1) * 3) (by omega)
    have f1 := h ((n - 1) * 3 + 1) (by omega)
    have f2 := h ((n - 1) * 3 + 2) (by omega)
    unfold sumR totL totH
    rw [e1, e2.1, e2.2, f0, f1, f2]
theorem scan_good {z : Nat → Int} {n : Nat} (g : Good3 z n) : ∀ (m k : Nat), k + m ≤ n → scanE z k m = 0
  | 0, _, _ => rfl
  | m + 1, k, h => by
    rw [scanE, if_neg (by simp [g.ok k (by omega)]), scan_good g m (k + 1) (by omega)]
    split
    · rename_i hh
      have := g.up (k - 1) (by omega)
      rw [show k - 1 + 1 = k by omega] at this
      omega
    · rfl
theorem sumR_good {z : Nat → Int} {n : Nat} {e s : Int} (g : Good3 z n) (hn : 0 < n) (h1 : 0 ≤ e) (h2 : e ≤ 4294967296) (h3 : 0 ≤ s) (h4 : s ≤ 1000) (h5 : z ((n - 1) * 3) ≤ e) :
    sumR z n e s = ((totL z n e * (1000 - s) / 360000, cdiv (totH z n e * (1000 + s)) 360000), 0) := by
  unfold sumR
  rw [if_neg (by omega), if_neg (by rw [scan_good g n 0 (by omega)]; simp), if_neg (by simp [win]; omega), if_neg (by omega)]
theorem sumR_inv {z : Nat → Int} {n : Nat} {e s : Int} (h : (sumR z n e s).2 = 0) : 0 < n ∧ Good3 z n ∧ 0 ≤ e ∧ e ≤ 4294967296 ∧ 0 ≤ s ∧ s ≤ 1000 ∧ z ((n - 1) * 3) ≤ e := by
  unfold sumR at h
  split at h
  · simp at h
  · split at h
    · rename_i h1 h2; exact absurd h h2
    · split at h
      · simp at h
      · split at h
        · simp at h
        · rename_i h1 h2 h3 h4
          simp [win] at h3
          have := good3_of (z := z) (n := n) (by omega)
          exact ⟨by omega, this, by omega, by omega, by omega, by omega, by omega⟩
/-- The readings from k on. -/
theorem ps_tail (z : Nat → Int) (k : Nat) : ∀ (m : Nat), psL (fun j => z (k * 3 + j)) m = psL z (k + m) - psL z k ∧ psH (fun j => z (k * 3 + j)) m = psH z (k + m) - psH z k
  | 0 => by simp [psL, psH]
  | m + 1 => by
    obtain ⟨i1, i2⟩ := ps_tail z k m
    rw [show k + (m + 1) = (k + m) + 1 by omega]
    have fL : psL (fun j => z (k * 3 + j)) (m + 1) = psL (fun j => z (k * 3 + j)) m + (z (k * 3 + (m + 1) * 3) - z (k * 3 + m * 3)) * min (z (k * 3 + (m * 3 + 1))) (z (k * 3 + ((m + 1) * 3 + 1))) := rfl
    have fH : psH (fun j => z (k * 3 + j)) (m + 1) = psH (fun j => z (k * 3 + j)) m + (z (k * 3 + (m + 1) * 3) - z (k * 3 + m * 3)) * max (z (k * 3 + (m * 3 + 2))) (z (k * 3 + ((m + 1) * 3 + 2))) := rfl
    have eL : psL z (k + m + 1) = psL z (k + m) + (z ((k + m + 1) * 3) - z ((k + m) * 3)) * min (z ((k + m) * 3 + 1)) (z ((k + m + 1) * 3 + 1)) := rfl
    have eH : psH z (k + m + 1) = psH z (k + m) + (z ((k + m + 1) * 3) - z ((k + m) * 3)) * max (z ((k + m) * 3 + 2)) (z ((k + m + 1) * 3 + 2)) := rfl
    rw [fL, fH, eL, eH, i1, i2, show k * 3 + (m + 1) * 3 = (k + m + 1) * 3 by omega, show k * 3 + m * 3 = (k + m) * 3 by omega, show k * 3 + (m * 3 + 1) = (k + m) * 3 + 1 by omega, show k * 3 + (m * 3 + 2) = (k + m) * 3 + 2 by omega,
      show k * 3 + ((m + 1) * 3 + 1) = (k + m + 1) * 3 + 1 by omega, show k * 3 + ((m + 1) * 3 + 2) = (k + m + 1) * 3 + 2 by omega]
    constructor <;> omega
theorem good_tail {z : Nat → Int} {n k : Nat} (g : Good3 z n) (_hk : k < n) : Good3 (fun j => z (k * 3 + j)) (n - k) := by
  refine ⟨fun i hi => ?_, fun i hi => ?_⟩
  · have := g.ok (k + i) (by omega)
    unfold okR at this ⊢
    rw [show (k + i) * 3 = k * 3 + i * 3 by omega] at this
    simpa [Nat.add_assoc] using this
  · have := g.up (k + i) (by omega)
    rw [show (k + i + 1) * 3 = k * 3 + (i + 1) * 3 by omega, show (k + i) * 3 = k * 3 + i * 3 by omega] at this
    exact this
theorem good_head {z : Nat → Int} {n k : Nat} (g : Good3 z n) (hk : k < n) : Good3 z (k + 1) := ⟨fun i hi => g.ok i (by omega), fun i hi => g.up i (by omega)⟩
theorem tot_head (z : Nat → Int) (k : Nat) : totL z (k + 1) (z (k * 3)) = psL z k ∧ totH z (k + 1) (z (k * 3)) = psH z k := by
  unfold totL totH
  rw [Nat.add_sub_cancel]
  simp
theorem tot_tail (z : Nat → Int) {n k : Nat} (hk : k < n) (e : Int) : totL (fun j => z (k * 3 + j)) (n - k) e = totL z n e - psL z k ∧ totH (fun j => z (k * 3 + j)) (n - k) e = totH z n e - psH z k := by
  obtain ⟨i1, i2⟩ := ps_tail z k (n - k - 1)
  unfold totL totH
  dsimp only
  rw [i1, i2, show k + (n - k - 1) = n - 1 by omega, show k * 3 + (n - k - 1) * 3 = (n - 1) * 3 by omega, show k * 3 + ((n - k - 1) * 3 + 1) = (n - 1) * 3 + 1 by omega, show k * 3 + ((n - k - 1) * 3 + 2) = (n - 1) * 3 + 2 by omega]
  constructor <;> omega
theorem cut_sum {z : Nat → Int} {n k : Nat} {e s : Int} (g : Good3 z n) (hk : k < n) (h3 : 0 ≤ s) (h4 : s ≤ 1000) (h1 : 0 ≤ e) (h2 : e ≤ 4294967296) (h5 : z ((n - 1) * 3) ≤ e) :
    ∃ al ah bl bh tl th : Int, sumR z n e s = ((tl, th), 0) ∧ sumR z (k + 1) (z (k * 3)) s = ((al, ah), 0) ∧ sumR (fun j => z (k * 3 + j)) (n - k) e s = ((bl, bh), 0) ∧
      0 ≤ al ∧ al ≤ ah ∧ 0 ≤ bl ∧ bl ≤ bh ∧ tl ≤ th ∧ al + bl ≤ tl ∧ th ≤ ah + bh ∧ tl - al - bl ≤ 2 ∧ ah + bh - th ≤ 2 ∧ ah ≤ 100000000000000000 ∧ bh ≤ 100000000000000000 ∧ th ≤ 100000000000000000 := by
  have o := (okR_iff.1 (g.ok k hk)).1
  have hm := mono3 g (n - 1) k (by omega) (by omega)
  have ga := good_head g hk
  have gb := good_tail g hk
  have e1 : k * 3 + (n - k - 1) * 3 = (n - 1) * 3 := by omega
  refine ⟨_, _, _, _, _, _, sumR_good g (by omega) h1 h2 h3 h4 h5, sumR_good ga (by omega) o.1 o.2 h3 h4 (by rw [Nat.add_sub_cancel]; exact Int.le_refl _), sumR_good gb (by omega) h1 h2 h3 h4 (by rw [e1]; exact h5), ?_⟩
  obtain ⟨t1, t2⟩ := tot_head z k
  obtain ⟨t3, t4⟩ := tot_tail z hk e
  rw [t1, t2, t3, t4]
  have b1 := tot_bd ga (by omega) (e := z (k * 3)) (by rw [Nat.add_sub_cancel]; exact Int.le_refl _) o.2
  have b2 := tot_bd gb (by omega) (e := e) (by rw [e1]; exact h5) h2
  rw [t1, t2] at b1
  rw [t3, t4] at b2
  generalize psL z k = P at *
  generalize psH z k = Q at *
  obtain ⟨R, hR⟩ : ∃ R, totL z n e - P = R := ⟨_, rfl⟩
  obtain ⟨S, hS⟩ : ∃ S, totH z n e - Q = S := ⟨_, rfl⟩
  rw [show totL z n e = P + R by omega, show totH z n e = Q + S by omega]
  rw [show P + R - P = R by omega, show Q + S - Q = S by omega]
  rw [hR, hS] at b2
  have m1 := Int.mul_nonneg b1.1 (show 0 ≤ 1000 - s by omega)
  have m2 := Int.mul_nonneg b2.1 (show 0 ≤ 1000 - s by omega)
  have m3 : P * (1000 - s) ≤ Q * (1000 + s) := Int.mul_le_mul b1.2.1 (by omega) (by omega) (by omega)
  have m4 : R * (1000 - s) ≤ S * (1000 + s) := Int.mul_le_mul b2.2.1 (by omega) (by omega) (by omega)
  have m5 : Q * (1000 + s) ≤ 4294967296000000 * 2000 := Int.mul_le_mul b1.2.2 (by omega) (by omega) (by omega)
  have m6 : S * (1000 + s) ≤ 4294967296000000 * 2000 := Int.mul_le_mul b2.2.2 (by omega) (by omega) (by omega)
  rw [Int.add_mul, Int.add_mul]
  simp only [cdiv_eq (show (0 : Int) < 360000 by omega)]
  generalize P * (1000 - s) = X at *
  generalize Q * (1000 + s) = Y at *
  generalize R * (1000 - s) = U at *
  generalize S * (1000 + s) = V at *
  omega
/-- With more slack the sum is wider. -/
theorem more_slack {z : Nat → Int} {n : Nat} {e s s' : Int} (g : Good3 z n) (hn : 0 < n) (h3 : 0 ≤ s) (hs : s ≤ s') (h4 : s' ≤ 1000) (h1 : 0 ≤ e) (h2 : e ≤ 4294967296) (h5 : z ((n - 1) * 3) ≤ e) :
    ∃ tl th cl ch : Int, sumR z n e s = ((tl, th), 0) ∧ sumR z n e s' = ((cl, ch), 0) ∧ tl ≤ th ∧ cl ≤ tl ∧ th ≤ ch := by
  refine ⟨_, _, _, _, sumR_good g hn h1 h2 h3 (by omega) h5, sumR_good g hn h1 h2 (by omega) h4 h5, ?_⟩
  have b1 := tot_bd g hn h5 h2
  generalize totL z n e = P at *
  generalize totH z n e = Q at *
  have m3 : P * (1000 - s) ≤ Q * (1000 + s) := Int.mul_le_mul b1.2.1 (by omega) (by omega) (by omega)
  have m4 : P * (1000 - s') ≤ P * (1000 - s) := Int.mul_le_mul_of_nonneg_left (by omega) b1.1
  have m5 : Q * (1000 + s) ≤ Q * (1000 + s') := Int.mul_le_mul_of_nonneg_left (by omega) (by omega)
  have m6 := Int.mul_nonneg b1.1 (show 0 ≤ 1000 - s' by omega)
  simp only [cdiv_eq (show (0 : Int) < 360000 by omega)]
  generalize P * (1000 - s) = X at *
  generalize Q * (1000 + s) = Y at *
  generalize P * (1000 - s') = U at *
  generalize Q * (1000 + s') = V at *
  omega
/-- z' has one reading more than z, behind reading k. -/
structure Ins (z z' : Nat → Int) (k : Nat) (t lo hi : Int) : Prop where
  head : ∀ j, j < (k + 1) * 3 → z' j = z j
  t : z' ((k + 1) * 3) = t
  lo : z' ((k + 1) * 3 + 1) = lo
  hi : z' ((k + 1) * 3 + 2) = hi
  tail : ∀ j, (k + 1) * 3 ≤ j → z' (j + 3) = z j
theorem ins_at {z z' : Nat → Int} {k : Nat} {t lo hi : Int} (h : Ins z z' k t lo hi) (i r : Nat) (hi2 : k < i) : z' ((i + 1) * 3 + r) = z (i * 3 + r) := by
  have := h.tail (i * 3 + r) (by omega)
  rwa [show i * 3 + r + 3 = (i + 1) * 3 + r by omega] at this
theorem ins_good {z z' : Nat → Int} {n k : Nat} {t lo hi : Int} (g : Good3 z n) (h : Ins z z' k t lo hi) (hk : k + 1 < n) (t1 : z (k * 3) < t) (t2 : t < z ((k + 1) * 3)) (l1 : 0 ≤ lo) (l2 : lo ≤ hi) (l3 : hi ≤ 1000000) : Good3 z' (n + 1) := by
  have oa := okR_iff.1 (g.ok k (by omega))
  have ob := okR_iff.1 (g.ok (k + 1) hk)
  refine ⟨fun i hi' => ?_, fun i hi' => ?_⟩
  · rcases Nat.lt_trichotomy i (k + 1) with c | c | c
    · have := g.ok i (by omega)
      unfold okR at this ⊢
      rw [h.head _ (by omega), h.head _ (by omega), h.head _ (by omega)]
      exact this
    · subst c
      rw [okR_iff, h.t, h.lo, h.hi]
      omega
    · obtain ⟨j, rfl⟩ : ∃ j, i = j + 1 := ⟨i - 1, by omega⟩
      have := g.ok j (by omega)
      have e0 := ins_at h j 0 (by omega)
      simp only [Nat.add_zero] at e0
      unfold okR at this ⊢
      rw [e0, ins_at h j 1 (by omega), ins_at h j 2 (by omega)]
      exact this
  · rcases Nat.lt_trichotomy i k with c | c | c
    · rw [h.head _ (by omega), h.head _ (by omega)]
      exact g.up i (by omega)
    · subst c
      rw [h.head _ (by omega), h.t]
      exact t1
    · have e1 := ins_at h i 0 c
      simp only [Nat.add_zero] at e1
      rw [e1]
      by_cases c2 : i = k + 1
      · subst c2; rw [h.t]; exact t2
      · obtain ⟨j, rfl⟩ : ∃ j, i = j + 1 := ⟨i - 1, by omega⟩
        have e0 := ins_at h j 0 (by omega)
        simp only [Nat.add_zero] at e0
        rw [e0]
        exact g.up j (by omega)
theorem ins_ps {z z' : Nat → Int} {k : Nat} {t lo hi : Int} (h : Ins z z' k t lo hi) (t1 : z (k * 3) < t) (t2 : t < z ((k + 1) * 3)) (l1 : min (z (k * 3 + 1)) (z ((k + 1) * 3 + 1)) ≤ lo) (l3 : hi ≤ max (z (k * 3 + 2)) (z ((k + 1) * 3 + 2))) :
    ∀ m, psL z (k + 1 + m) ≤ psL z' (k + 2 + m) ∧ psH z' (k + 2 + m) ≤ psH z (k + 1 + m)
  | 0 => by
    obtain ⟨i1, i2⟩ := ps_same k (z := z') (z' := z) h.head
    have e1 := ins_at h (k + 1) 0 (by omega)
    simp only [Nat.add_zero] at e1
    have eL : psL z' (k + 1 + 1) = psL z' k + (z' ((k + 1) * 3) - z' (k * 3)) * min (z' (k * 3 + 1)) (z' ((k + 1) * 3 + 1)) + (z' ((k + 1 + 1) * 3) - z' ((k + 1) * 3)) * min (z' ((k + 1) * 3 + 1)) (z' ((k + 1 + 1) * 3 + 1)) := rfl
    have eH : psH z' (k + 1 + 1) = psH z' k + (z' ((k + 1) * 3) - z' (k * 3)) * max (z' (k * 3 + 2)) (z' ((k + 1) * 3 + 2)) + (z' ((k + 1 + 1) * 3) - z' ((k + 1) * 3)) * max (z' ((k + 1) * 3 + 2)) (z' ((k + 1 + 1) * 3 + 2)) := rfl
    have fL : psL z (k + 1) = psL z k + (z ((k + 1) * 3) - z (k * 3)) * min (z (k * 3 + 1)) (z ((k + 1) * 3 + 1)) := rfl
    have fH : psH z (k + 1) = psH z k + (z ((k + 1) * 3) - z (k * 3)) * max (z (k * 3 + 2)) (z ((k + 1) * 3 + 2)) := rfl
    rw [h.t, h.lo, e1, i1, h.head _ (by omega), h.head _ (by omega), ins_at h (k + 1) 1 (by omega)] at eL
    rw [h.t, h.hi, e1, i2, h.head _ (by omega), h.head _ (by omega), ins_at h (k + 1) 2 (by omega)] at eH
    show psL z (k + 1) ≤ psL z' (k + 1 + 1) ∧ psH z' (k + 1 + 1) ≤ psH z (k + 1)
    rw [eL, eH, fL, fH]
    generalize z (k * 3) = a at *
    generalize z ((k + 1) * 3) = b at *
    generalize z (k * 3 + 1) = xl at *
    generalize z ((k + 1) * 3 + 1) = yl at *
    generalize z (k * 3 + 2) = xh at *
    generalize z ((k + 1) * 3 + 2) = yh at *
    obtain ⟨M, hM⟩ : ∃ M, min xl yl = M := ⟨_, rfl⟩
    obtain ⟨N, hN⟩ : ∃ N, max xh yh = N := ⟨_, rfl⟩
    have m1 : (t - a) * M ≤ (t - a) * min xl lo := Int.mul_le_mul_of_nonneg_left (by omega) (by omega)
    have m2 : (b - t) * M ≤ (b - t) * min lo yl := Int.mul_le_mul_of_nonneg_left (by omega) (by omega)
    have m3 : (t - a) * max xh hi ≤ (t - a) * N := Int.mul_le_mul_of_nonneg_left (by omega) (by omega)
    have m4 : (b - t) * max hi yh ≤ (b - t) * N := Int.mul_le_mul_of_nonneg_left (by omega) (by omega)
    have s1 : (b - a) * M = (t - a) * M + (b - t) * M := by rw [← Int.add_mul]; congr 1; omega
    have s2 : (b - a) * N = (t - a) * N + (b - t) * N := by rw [← Int.add_mul]; congr 1; omega
    rw [hM, hN, s1, s2]
    omega
  | m + 1 => by
    obtain ⟨i1, i2⟩ := ins_ps h t1 t2 l1 l3 m
    have e0 := ins_at h (k + 1 + m) 0 (by omega)
    have e3 := ins_at h (k + 1 + m + 1) 0 (by omega)
    simp only [Nat.add_zero] at e0 e3
    have e1 := ins_at h (k + 1 + m) 1 (by omega)
    have e2 := ins_at h (k + 1 + m) 2 (by omega)
    have e4 := ins_at h (k + 1 + m + 1) 1 (by omega)
    have e5 := ins_at h (k + 1 + m + 1) 2 (by omega)
    rw [show k + 2 + (m + 1) = k + 1 + m + 1 + 1 by omega, show k + 1 + (m + 1) = k + 1 + m + 1 by omega]
    rw [show k + 2 + m = k + 1 + m + 1 by omega] at i1 i2
    have eL : psL z' (k + 1 + m + 1 + 1) = psL z' (k + 1 + m + 1) + (z' ((k + 1 + m + 1 + 1) * 3) - z' ((k + 1 + m + 1) * 3)) * min (z' ((k + 1 + m + 1) * 3 + 1)) (z' ((k + 1 + m + 1 + 1) * 3 + 1)) := rfl
    have eH : psH z' (k + 1 + m + 1 + 1) = psH z' (k + 1 + m + 1) + (z' ((k + 1 + m + 1 + 1) * 3) - z' ((k + 1 + m + 1) * 3)) * max (z' ((k + 1 + m + 1) * 3 + 2)) (z' ((k + 1 + m + 1 + 1) * 3 + 2)) := rfl
    have fL : psL z (k + 1 + m + 1) = psL z (k + 1 + m) + (z ((k + 1 + m + 1) * 3) - z ((k + 1 + m) * 3)) * min (z ((k + 1 + m) * 3 + 1)) (z ((k + 1 + m + 1) * 3 + 1)) := rfl
    have fH : psH z (k + 1 + m + 1) = psH z (k + 1 + m) + (z ((k + 1 + m + 1) * 3) - z ((k + 1 + m) * 3)) * max (z ((k + 1 + m) * 3 + 2)) (z ((k + 1 + m + 1) * 3 + 2)) := rfl
    rw [eL, eH, fL, fH, e0, e1, e2, e3, e4, e5]
    constructor <;> omega
/-- With one reading more, within the hull of its neighbours, the sum is narrower. -/
theorem ins_sum {z z' : Nat → Int} {n k : Nat} {t lo hi e s : Int} (g : Good3 z n) (h : Ins z z' k t lo hi) (hk : k + 1 < n) (t1 : z (k * 3) < t) (t2 : t < z ((k + 1) * 3)) (l0 : min (z (k * 3 + 1)) (z ((k + 1) * 3 + 1)) ≤ lo) (l2 : lo ≤ hi) (l3 : hi ≤ max (z (k * 3 + 2)) (z ((k + 1) * 3 + 2)))
    (h3 : 0 ≤ s) (h4 : s ≤ 1000) (h1 : 0 ≤ e) (h2 : e ≤ 4294967296) (h5 : z ((n - 1) * 3) ≤ e) :
    ∃ tl th dl dh : Int, sumR z n e s = ((tl, th), 0) ∧ sumR z' (n + 1) e s = ((dl, dh), 0) ∧ dl ≤ dh ∧ tl ≤ dl ∧ dh ≤ th := by
  have oa := okR_iff.1 (g.ok k (by omega))
  have ob := okR_iff.1 (g.ok (k + 1) hk)
  have g' := ins_good g h hk t1 t2 (by omega) l2 (by omega)
  have f0 := ins_at h (n - 1) 0 (by omega)
  have f1 := ins_at h (n - 1) 1 (by omega)
  have f2 := ins_at h (n - 1) 2 (by omega)
  simp only [Nat.add_zero] at f0
  rw [show n - 1 + 1 = n by omega] at f0 f1 f2
  have h5' : z' ((n + 1 - 1) * 3) ≤ e := by rw [Nat.add_sub_cancel, f0]; exact h5
  refine ⟨_, _, _, _, sumR_good g (by omega) h1 h2 h3 h4 h5, sumR_good g' (by omega) h1 h2 h3 h4 h5', ?_⟩
  have b1 := tot_bd g (by omega) h5 h2
  have b2 := tot_bd g' (by omega) h5' h2
  have p := ins_ps h t1 t2 l0 l3 (n - 1 - (k + 1))
  rw [show k + 1 + (n - 1 - (k + 1)) = n - 1 by omega, show k + 2 + (n - 1 - (k + 1)) = n by omega] at p
  have q1 : totL z n e ≤ totL z' (n + 1) e := by unfold totL; rw [Nat.add_sub_cancel, f0, f1]; omega
  have q2 : totH z' (n + 1) e ≤ totH z n e := by unfold totH; rw [Nat.add_sub_cancel, f0, f2]; omega
  generalize totL z n e = P at *
  generalize totH z n e = Q at *
  generalize totL z' (n + 1) e = R at *
  generalize totH z' (n + 1) e = S at *
  have m1 : P * (1000 - s) ≤ R * (1000 - s) := Int.mul_le_mul_of_nonneg_right q1 (by omega)
  have m2 : S * (1000 + s) ≤ Q * (1000 + s) := Int.mul_le_mul_of_nonneg_right q2 (by omega)
  have m3 : R * (1000 - s) ≤ S * (1000 + s) := Int.mul_le_mul b2.2.1 (by omega) (by omega) (by omega)
  have m4 := Int.mul_nonneg b1.1 (show 0 ≤ 1000 - s by omega)
  simp only [cdiv_eq (show (0 : Int) < 360000 by omega)]
  generalize P * (1000 - s) = X at *
  generalize Q * (1000 + s) = Y at *
  generalize R * (1000 - s) = U at *
  generalize S * (1000 + s) = V at *
  omega
/-- What 'inner' answers lies within. -/
theorem inner_bd {a b x y : Int} (h : a ≤ b) (_hx : 0 ≤ x) (_hy : 0 ≤ y) : a ≤ a + x % (b - a + 1) ∧ a + x % (b - a + 1) ≤ a + x % (b - a + 1) + y % (b - (a + x % (b - a + 1)) + 1) ∧ a + x % (b - a + 1) + y % (b - (a + x % (b - a + 1)) + 1) ≤ b := by
  have h1 := Int.emod_nonneg x (show b - a + 1 ≠ 0 by omega)
  have h2 := Int.emod_lt_of_pos x (show 0 < b - a + 1 by omega)
  generalize x % (b - a + 1) = r at *
  have h3 := Int.emod_nonneg y (show b - (a + r) + 1 ≠ 0 by omega)
  have h4 := Int.emod_lt_of_pos y (show 0 < b - (a + r) + 1 by omega)
  omega
theorem head_list (zs : List Int) (n k : Nat) (e s : Int) (_hz : zs.length = n * 3) (_hk : k ≤ n) : sumR (fun j => (zs.take (k * 3)).getD j 0) k e s = sumR (fun j => zs.getD j 0) k e s :=
  sumR_same e s fun j hj => by simp [List.getD, List.getElem?_take, hj]
theorem tail_list (zs : List Int) (k m : Nat) (e s : Int) : sumR (fun j => (zs.drop (k * 3)).getD j 0) m e s = sumR (fun j => zs.getD (k * 3 + j) 0) m e s :=
  sumR_same e s fun j _ => by simp [List.getD, List.getElem?_drop]
theorem ins_list (zs : List Int) (n k : Nat) (t lo hi : Int) (hz : zs.length = n * 3) (hk : k < n) : Ins (fun j => zs.getD j 0) (fun j => (zs.take ((k + 1) * 3) ++ [t, lo, hi] ++ zs.drop ((k + 1) * 3)).getD j 0) k t lo hi := by
  have e1 : (zs.take ((k + 1) * 3)).length = (k + 1) * 3 := by rw [List.length_take]; omega
  refine ⟨fun j hj => ?_, ?_, ?_, ?_, fun j hj => ?_⟩
  · simp only [List.getD, List.append_assoc]
    rw [List.getElem?_append_left (by omega), List.getElem?_take, if_pos hj]
  · simp only [List.getD, List.append_assoc]
    rw [List.getElem?_append_right (by omega), e1, Nat.sub_self]
    rfl
  · simp only [List.getD, List.append_assoc]
    rw [List.getElem?_append_right (by omega), e1, Nat.add_sub_cancel_left]
    rfl
  · simp only [List.getD, List.append_assoc]
    rw [List.getElem?_append_right (by omega), e1, Nat.add_sub_cancel_left]
    rfl
  · simp only [List.getD, List.append_assoc]
    rw [List.getElem?_append_right (by omega), e1, List.getElem?_append_right (by simp; omega), List.getElem?_drop]
    congr 2
    simp
    omega
end Go.Proofs.Ytjkelpelmljanaa
