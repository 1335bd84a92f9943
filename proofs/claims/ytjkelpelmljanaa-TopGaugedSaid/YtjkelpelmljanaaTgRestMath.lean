/-
  What is true of a chain of standards and of a radar, in plain words; no program in sight.
  Levels: from one to the next; the book of the levels; its answers.
  The book of the levels: what it answers.
  The book of the levels: values, and that each level is entered.
  Quotients of the reference, rounded down and up: its contracts.
  Corrected powers: trace's and the reference's.
  Tests of a radar against the levels: its gain in truth lies within what is said; corrected powers too.
  What passes, what is restored and filled: plain functions and their bounds; no program in sight.
  What is restored of what was measured: plain functions and their bounds; no program in sight.
-/
import Derived.Test.YtjkelpelmljanaaWords
import Derived.Test.YtjkelpelmljanaaRegT
import Derived.Test.YtjkelpelmljanaaTgTraceDefMath
import Derived.Test.YtjkelpelmljanaaProg
import Derived.Test.YtjkelpelmljanaaShelf
import Derived.Test.YtjkelpelmljanaaMapV
import Derived.Test.YtjkelpelmljanaaTgValues
set_option linter.unusedSimpArgs false
set_option linter.unusedVariables false
namespace Go.Proofs.Ytjkelpelmljanaa

/-- Whole days: what a span is widened by is just the drift times the days. -/
theorem upD_days {d k : Int} : upD (d * (k * 86400)) 86400 = d * k := by
  unfold upD
  rw [show d * (k * 86400) + 86400 - 1 = 86399 + 86400 * (d * k) by grind, Int.add_mul_ediv_left _ _ (by omega)]
  omega
theorem widen_days {m : Int × Int} {d a b : Int} (h : a ≤ b) : widenS m d (a * 86400) (b * 86400) = (max 1 (m.1 - d * (b - a)), m.2 + d * (b - a)) := by
  unfold widenS
  rw [show max (b * 86400 - a * 86400) (a * 86400 - b * 86400) = (b - a) * 86400 by omega, upD_days]
theorem turn_le {tr dr dd den : Int} (h1 : -dr ≤ tr) (h2 : tr ≤ dr) (hd : 0 ≤ dd) (hden : 0 ≤ den) : -(dr * dd * den) ≤ tr * dd * den ∧ tr * dd * den ≤ dr * dd * den := by
  have a := Int.mul_nonneg (Int.mul_nonneg (show 0 ≤ dr - tr by omega) hd) hden
  have b := Int.mul_nonneg (Int.mul_nonneg (show 0 ≤ dr + tr by omega) hd) hden
  have e1 : (dr - tr) * dd * den = dr * dd * den - tr * dd * den := by grind
  have e2 : (dr + tr) * dd * den = dr * dd * den + tr * dd * den := by grind
  omega
/-- A number between the ends of a span lies between those of the widened span, having changed within the drift. -/
theorem wid_truth {m1 m2 den num dr tr dd : Int} (hd : 0 ≤ dd) (hden : 0 < den) (h1 : m1 * den ≤ num) (h2 : num ≤ m2 * den) (t1 : -dr ≤ tr) (t2 : tr ≤ dr) (hpos : den ≤ num + tr * dd * den) :
    max 1 (m1 - dr * dd) * den ≤ num + tr * dd * den ∧ num + tr * dd * den ≤ (m2 + dr * dd) * den := by
  obtain ⟨a, b⟩ := turn_le t1 t2 hd (Int.le_of_lt hden)
  have e1 : (m1 - dr * dd) * den = m1 * den - dr * dd * den := by grind
  have e2 : (m2 + dr * dd) * den = m2 * den + dr * dd * den := by grind
  refine ⟨?_, by omega⟩
  rcases Int.le_total 1 (m1 - dr * dd) with h | h
  · rw [Int.max_eq_right h]; omega
  · rw [Int.max_eq_left h]; omega
theorem scl_truth {a1 a2 lo hi r den num : Int} (hden : 0 < den) (h0 : 0 ≤ lo) (hl : lo ≤ r) (hh : r ≤ hi) (ha : 0 ≤ a1) (ha2 : 0 ≤ a2) (h1 : a1 * den ≤ num) (h2 : num ≤ a2 * den) (hpos : den * 1000 ≤ num * r) :
    max 1 (a1 * lo / 1000) * (den * 1000) ≤ num * r ∧ num * r ≤ upD (a2 * hi) 1000 * (den * 1000) := by
  have hr : 0 ≤ r := by omega
  have hnum : 0 ≤ num := Int.le_trans (Int.mul_nonneg ha (Int.le_of_lt hden)) h1
  constructor
  · have b1 : a1 * lo / 1000 * 1000 ≤ a1 * lo := Int.ediv_mul_le _ (by omega)
    have b2 : a1 * lo / 1000 * 1000 * den ≤ a1 * lo * den := Int.mul_le_mul_of_nonneg_right b1 (Int.le_of_lt hden)
    have b3 : a1 * den * lo ≤ num * r := Int.mul_le_mul h1 hl h0 hnum
    have e1 : a1 * lo / 1000 * (den * 1000) = a1 * lo / 1000 * 1000 * den := by grind
    have e2 : a1 * lo * den = a1 * den * lo := by grind
    rcases Int.le_total 1 (a1 * lo / 1000) with h | h
    · rw [Int.max_eq_right h]; omega
    · rw [Int.max_eq_left h]; omega
  · obtain ⟨-, -, c, -⟩ := upD_bd (a := a2 * hi) (b := 1000) (Int.mul_nonneg ha2 (by omega)) (by omega)
    have b2 : a2 * hi * den ≤ 1000 * upD (a2 * hi) 1000 * den := Int.mul_le_mul_of_nonneg_right c (Int.le_of_lt hden)
    have b3 : num * r ≤ a2 * den * hi := Int.mul_le_mul h2 hh hr (Int.mul_nonneg ha2 (Int.le_of_lt hden))
    have e1 : upD (a2 * hi) 1000 * (den * 1000) = 1000 * upD (a2 * hi) 1000 * den := by grind
    have e2 : a2 * hi * den = a2 * den * hi := by grind
    omega

/-! ### Levels -/
structure Lv where
  v : Int
  l : Int
  m : Int
  t : Int
  s : Int
  d : Int
structure LvOk (x : Lv) : Prop where
  v0 : 0 ≤ x.v
  v1 : x.v ≤ 4294967295
  l0 : 0 ≤ x.l
  l1 : x.l ≤ 65535
  m0 : 0 ≤ x.m
  m1 : x.m ≤ 65535
  t0 : 0 ≤ x.t
  t1 : x.t ≤ 255
  s0 : 0 ≤ x.s
  s1 : x.s ≤ 255
  d0 : 0 ≤ x.d
  d1 : x.d ≤ 255
def trn (x : Lv) : Int := x.t % 11 - 5
def dys (x : Lv) : Int := x.d % 50
def drf (x : Lv) : Int := max (trn x) (-(trn x)) + x.s
def rat (x : Lv) : Int := 500 + x.v % 1001
theorem trn_bd (x : Lv) : -5 ≤ trn x ∧ trn x ≤ 5 := by unfold trn; omega
theorem dys_bd (x : Lv) : 0 ≤ dys x ∧ dys x ≤ 49 := by unfold dys; omega
theorem drf_bd {x : Lv} (h : LvOk x) : 0 ≤ drf x ∧ drf x ≤ 260 ∧ -(drf x) ≤ trn x ∧ trn x ≤ drf x := by
  have := trn_bd x
  have := h.s0
  have := h.s1
  unfold drf
  omega
theorem rat_bd (x : Lv) : 500 ≤ rat x ∧ rat x ≤ 1500 := by unfold rat; omega

section
variable (lv : Nat → Lv)
def dayN : Nat → Int
  | 0 => 0
  | k + 1 => dayN k + dys (lv (k + 1))
def denN : Nat → Int
  | 0 => 1
  | k + 1 => denN k * 1000
def numN : Nat → Int
  | 0 => 10000 + (lv 0).v % 900000
  | k + 1 => (numN k + trn (lv k) * dys (lv (k + 1)) * denN k) * rat (lv (k + 1))
def loN : Nat → Int
  | 0 => max 1 (10000 + (lv 0).v % 900000 - (lv 0).l)
  | k + 1 => max 1 (rat (lv (k + 1)) - (lv (k + 1)).l % 500)
def hiN : Nat → Int
  | 0 => min 1000000 (10000 + (lv 0).v % 900000 + (lv 0).m)
  | k + 1 => rat (lv (k + 1)) + (lv (k + 1)).m % 500
/-- The span of a level when it was made. -/
def madeN : Nat → Int × Int
  | 0 => (loN lv 0, hiN lv 0)
  | k + 1 => scaledS (max 1 ((madeN k).1 - drf (lv k) * dys (lv (k + 1))), (madeN k).2 + drf (lv k) * dys (lv (k + 1))) (loN lv (k + 1), hiN lv (k + 1))
structure Held (k : Nat) (L U B : Int) : Prop where
  one : 1 ≤ (madeN lv k).1
  lo : (madeN lv k).1 * denN k ≤ numN lv k
  hi : numN lv k ≤ (madeN lv k).2 * denN k
  low : L * denN k ≤ numN lv k
  up : numN lv k ≤ U * denN k
  le : (madeN lv k).1 ≤ (madeN lv k).2
  most : (madeN lv k).2 ≤ B
theorem den_pos : ∀ k, 0 < denN k
  | 0 => by decide
  | k + 1 => by rw [denN]; have := den_pos k; omega
theorem held0 (h : LvOk (lv 0)) : Held lv 0 10000 909999 1000000 := by
  obtain ⟨h1, h2, h3, h4, h5, h6, -⟩ := h
  constructor <;> simp only [madeN, loN, hiN, denN, numN, Int.mul_one] <;> omega
/-- What is left of a level after some days. -/
theorem Held.after {k : Nat} {L U B dd : Int} (h : Held lv k L U B) (hx : LvOk (lv k)) (d0 : 0 ≤ dd) (d1 : dd ≤ 49) (hL : 246 ≤ L) :
    max 1 ((madeN lv k).1 - drf (lv k) * dd) * denN k ≤ numN lv k + trn (lv k) * dd * denN k ∧ numN lv k + trn (lv k) * dd * denN k ≤ ((madeN lv k).2 + drf (lv k) * dd) * denN k ∧
    (L - 245) * denN k ≤ numN lv k + trn (lv k) * dd * denN k ∧ numN lv k + trn (lv k) * dd * denN k ≤ (U + 245) * denN k := by
  have hden := den_pos k
  obtain ⟨f0, f1, f2, f3⟩ := drf_bd hx
  obtain ⟨t1, t2⟩ := trn_bd (lv k)
  have q : -245 ≤ trn (lv k) * dd ∧ trn (lv k) * dd ≤ 245 := by
    obtain ⟨a, b⟩ := turn_le (den := 1) t1 t2 d0 (by omega)
    rw [Int.mul_one, Int.mul_one] at a b
    omega
  have p1 := Int.mul_le_mul_of_nonneg_right q.1 (Int.le_of_lt hden)
  have p2 := Int.mul_le_mul_of_nonneg_right q.2 (Int.le_of_lt hden)
  have e1 : (L - 245) * denN k = L * denN k - 245 * denN k := by grind
  have e2 : (U + 245) * denN k = U * denN k + 245 * denN k := by grind
  have e3 : -245 * denN k = -(245 * denN k) := by grind
  have h1 := h.low
  have h2 := h.up
  have hl : 246 * denN k ≤ L * denN k := Int.mul_le_mul_of_nonneg_right hL (Int.le_of_lt hden)
  have hpos : denN k ≤ numN lv k + trn (lv k) * dd * denN k := by omega
  obtain ⟨a, b⟩ := wid_truth d0 hden h.lo h.hi f2 f3 hpos
  exact ⟨a, b, by omega, by omega⟩
end
end Go.Proofs.Ytjkelpelmljanaa
namespace Go.Proofs.Ytjkelpelmljanaa

section
variable (lv : Nat → Lv)
theorem lo_bd (k : Nat) : 1 ≤ loN lv (k + 1) ∧ loN lv (k + 1) ≤ rat (lv (k + 1)) ∧ rat (lv (k + 1)) ≤ hiN lv (k + 1) ∧ hiN lv (k + 1) ≤ 1999 := by
  have := rat_bd (lv (k + 1))
  simp only [loN, hiN]
  omega
theorem Held.next {k : Nat} {L U B L' U' B' : Int} (h : Held lv k L U B) (hx : LvOk (lv k)) (hL1 : 1 ≤ L') (hL : 1000 * L' ≤ (L - 245) * 500) (hU0 : 0 ≤ U) (hU : (U + 245) * 1500 ≤ 1000 * U') (hB0 : B ≤ 10000000000) (hB : (B + 12740) * 1999 ≤ 1000 * B') :
    Held lv (k + 1) L' U' B' := by
  obtain ⟨r1, r2⟩ := rat_bd (lv (k + 1))
  obtain ⟨l1, l2, l3, l4⟩ := lo_bd lv k
  obtain ⟨d0, d1⟩ := dys_bd (lv (k + 1))
  obtain ⟨f0, f1, f2, f3⟩ := drf_bd hx
  have hden := den_pos k
  obtain ⟨a, b, c, e⟩ := h.after lv hx d0 d1 (by omega)
  obtain ⟨x0, x1⟩ := mul_bdT (D := 260) (M := 49) f0 f1 d0 d1
  have o1 := h.one
  have o2 := h.le
  have o3 := h.most
  have en : numN lv (k + 1) = (numN lv k + trn (lv k) * dys (lv (k + 1)) * denN k) * rat (lv (k + 1)) := rfl
  have ed : denN (k + 1) = denN k * 1000 := rfl
  have em : madeN lv (k + 1) = scaledS (max 1 ((madeN lv k).1 - drf (lv k) * dys (lv (k + 1))), (madeN lv k).2 + drf (lv k) * dys (lv (k + 1))) (loN lv (k + 1), hiN lv (k + 1)) := rfl
  generalize drf (lv k) * dys (lv (k + 1)) = x at *
  generalize numN lv k + trn (lv k) * dys (lv (k + 1)) * denN k = num at *
  generalize rat (lv (k + 1)) = r at *
  generalize loN lv (k + 1) = lo at *
  generalize hiN lv (k + 1) = hi at *
  obtain ⟨a1, ha1⟩ : ∃ a1, max 1 ((madeN lv k).1 - x) = a1 := ⟨_, rfl⟩
  obtain ⟨a2, ha2⟩ : ∃ a2, (madeN lv k).2 + x = a2 := ⟨_, rfl⟩
  rw [ha1] at a em
  rw [ha2] at b em
  have g1 : 1 ≤ a1 := by omega
  have g2 : a1 ≤ a2 := by omega
  have hnum : 0 ≤ num := Int.le_trans (Int.mul_nonneg (show 0 ≤ a1 by omega) (Int.le_of_lt hden)) a
  have p1 : (L - 245) * denN k * 500 ≤ num * r := Int.mul_le_mul c r1 (by omega) hnum
  have p2 : num * r ≤ (U + 245) * denN k * 1500 := Int.mul_le_mul e r2 (by omega) (Int.mul_nonneg (by omega) (Int.le_of_lt hden))
  have q1 : 1000 * L' * denN k ≤ (L - 245) * 500 * denN k := Int.mul_le_mul_of_nonneg_right hL (Int.le_of_lt hden)
  have q2 : (U + 245) * 1500 * denN k ≤ 1000 * U' * denN k := Int.mul_le_mul_of_nonneg_right hU (Int.le_of_lt hden)
  have q3 : 1 * denN k ≤ L' * denN k := Int.mul_le_mul_of_nonneg_right hL1 (Int.le_of_lt hden)
  have z1 : (L - 245) * denN k * 500 = (L - 245) * 500 * denN k := by grind
  have z2 : (U + 245) * denN k * 1500 = (U + 245) * 1500 * denN k := by grind
  have z3 : 1000 * L' * denN k = L' * (denN k * 1000) := by grind
  have z4 : 1000 * U' * denN k = U' * (denN k * 1000) := by grind
  have z5 : L' * (denN k * 1000) = L' * denN k * 1000 := by grind
  have hpos : denN k * 1000 ≤ num * r := by omega
  obtain ⟨s1, s2⟩ := scl_truth hden (show 0 ≤ lo by omega) l2 l3 (show 0 ≤ a1 by omega) (show 0 ≤ a2 by omega) a b hpos
  obtain ⟨t1, t2, -, t3, t4, t5⟩ := scaledS_bd (s := (a1, a2)) (t := (lo, hi)) (by simp only; omega) (by simp only; omega) (by simp only; omega) (by simp only; omega) (by simp only; omega) (by simp only; omega)
  simp only at t3 t4 t5
  have w1 : a2 * hi ≤ (B + 12740) * 1999 := Int.mul_le_mul (by omega) l4 (by omega) (by omega)
  obtain ⟨-, -, -, w2⟩ := upD_bd (a := a2 * hi) (b := 1000) (by omega) (by omega)
  rw [← em] at t1 t2
  refine ⟨t1, ?_, ?_, ?_, ?_, t2, ?_⟩
  · rw [em, en, ed]; exact s1
  · rw [em, en, ed]; exact s2
  · rw [en, ed]; omega
  · rw [en, ed]; omega
  · rw [em]
    show upD (a2 * hi) 1000 ≤ B'
    omega
/-- The three levels. -/
theorem held_all (h : ∀ k, LvOk (lv k)) : Held lv 0 10000 909999 1000000 ∧ Held lv 1 4877 1365366 2024468 ∧ Held lv 2 2316 2048417 4072379 := by
  have h0 := held0 lv (h 0)
  have h1 := h0.next lv (h 0) (L' := 4877) (U' := 1365366) (B' := 2024468) (by decide) (by decide) (by decide) (by decide) (by decide) (by decide)
  exact ⟨h0, h1, h1.next lv (h 1) (by decide) (by decide) (by decide) (by decide) (by decide) (by decide)⟩
/-- A level, of the three. -/
theorem held_k (h : ∀ k, LvOk (lv k)) {k : Nat} (hk : k < 3) : Held lv k 2316 2048417 4072379 := by
  obtain ⟨h0, h1, h2⟩ := held_all lv h
  have weak : ∀ (j : Nat) (L U B : Int), 2316 ≤ L → U ≤ 2048417 → B ≤ 4072379 → Held lv j L U B → Held lv j 2316 2048417 4072379 := fun j _ _ _ hL hU hB h => by
    obtain ⟨a, b, c, d, e, f, g⟩ := h
    have hden := Int.le_of_lt (den_pos j)
    exact ⟨a, b, c, Int.le_trans (Int.mul_le_mul_of_nonneg_right hL hden) d, Int.le_trans e (Int.mul_le_mul_of_nonneg_right hU hden), f, Int.le_trans g hB⟩
  match k, hk with
  | 0, _ => exact weak _ _ _ _ (by decide) (by decide) (by decide) h0
  | 1, _ => exact weak _ _ _ _ (by decide) (by decide) (by decide) h1
  | 2, _ => exact h2
end
end Go.Proofs.Ytjkelpelmljanaa
namespace Go.Proofs.Ytjkelpelmljanaa

def nmN (k : Nat) : ByteArray := ⟨#[UInt8.ofNat (97 + k)]⟩
def parN : Nat → ByteArray
  | 0 => ⟨#[]⟩
  | k + 1 => nmN k
theorem nm_ne (i j : Nat) (hi : i < 3) (hj : j < 3) (h : i ≠ j) : nmN i ≠ nmN j := by
  have : (i = 0 ∨ i = 1 ∨ i = 2) ∧ (j = 0 ∨ j = 1 ∨ j = 2) := by omega
  rcases this with ⟨rfl | rfl | rfl, rfl | rfl | rfl⟩ <;> first | (exact absurd rfl h) | decide +kernel
theorem nm_par (k : Nat) : nmN k ≠ ByteArray.empty := by
  intro h
  have h2 : (nmN k).size = 0 := by rw [h]; rfl
  have h3 : (nmN k).size = 1 := rfl
  omega
theorem nm_ok (k : Nat) (hk : k < 3) : nameB (nmN k) = true := by
  have : k = 0 ∨ k = 1 ∨ k = 2 := by omega
  rcases this with rfl | rfl | rfl <;> decide +kernel

section
variable (lv : Nat → Lv)
def stdN (k : Nat) : Std := ⟨nmN k, parN k, loN lv k, hiN lv k, dayN lv k * 86400, 4294967296, drf (lv k)⟩
def bookL (dr : Int) : Nat → List Ent
  | 0 => [.radar ⟨#[114]⟩ dr]
  | k + 1 => .define (stdN lv k) :: bookL dr k
theorem bookL_len (dr : Int) : ∀ k, (bookL lv dr k).length = k + 1
  | 0 => rfl
  | k + 1 => by rw [bookL, List.length_cons, bookL_len dr k]
theorem bookL_stds (dr : Int) : ∀ k, (stdsT (bookL lv dr k)).length = k
  | 0 => rfl
  | k + 1 => by rw [bookL, stdsT, List.length_cons, bookL_stds dr k]
theorem bookL_std (dr : Int) : ∀ K, K ≤ 3 → ∀ k, k < K → stdT (bookL lv dr K) (nmN k) = some (stdN lv k)
  | K + 1, hK, k, hk => by
    rw [bookL, stdT]
    by_cases h : k = K
    · subst h
      exact if_pos rfl
    · rw [if_neg (show ¬ (stdN lv K).name = nmN k from fun e => nm_ne K k (by omega) (by omega) (by omega) e)]
      exact bookL_std dr K (by omega) k (by omega)
theorem bookL_fresh (dr : Int) : ∀ K, K ≤ 3 → ∀ k, k < 3 → K ≤ k → stdT (bookL lv dr K) (nmN k) = none
  | 0, _, _, _, _ => rfl
  | K + 1, hK, k, hk3, hk => by
    rw [bookL, stdT, if_neg (show ¬ (stdN lv K).name = nmN k from fun e => nm_ne K k (by omega) (by omega) (by omega) e)]
    exact bookL_fresh dr K (by omega) k hk3 (by omega)
theorem bookL_wd (dr : Int) : ∀ K n, wdT (bookL lv dr K) n = false
  | 0, _ => rfl
  | K + 1, n => by rw [bookL, wdT]; exact bookL_wd dr K n; all_goals (intro _ _ h; cases h)
theorem bookL_void (dr : Int) (K : Nat) (n : ByteArray) : voidT (bookL lv dr K) n = false := by
  unfold voidT
  exact List.any_eq_false.2 fun m _ => by rw [bookL_wd]; simp
theorem bookL_drift (dr : Int) : ∀ K, driftT (bookL lv dr K) ⟨#[114]⟩ = some dr
  | 0 => rfl
  | K + 1 => by rw [bookL, driftT]; exact bookL_drift dr K; all_goals (intro _ _ h; cases h)
theorem day_bd : ∀ k, 0 ≤ dayN lv k ∧ dayN lv k ≤ 49 * k
  | 0 => by simp [dayN]
  | k + 1 => by
    have := day_bd k
    have := dys_bd (lv (k + 1))
    rw [dayN]
    omega
theorem bookL_made (dr : Int) : ∀ K, K ≤ 3 → ∀ k, k < K → madeT (bookL lv dr K) (nmN k) = madeN lv k
  | K + 1, hK, k, hk => by
    rw [bookL, madeT]
    by_cases h : k = K
    · subst h
      rw [if_pos (show (stdN lv k).name = nmN k from rfl)]
      cases k with
      | zero => exact if_pos rfl
      | succ j =>
        have hp : (stdN lv (j + 1)).par = nmN j := rfl
        rw [hp, if_neg (nm_par j), bookL_std lv dr (j + 1) (by omega) j (by omega), bookL_made dr (j + 1) (by omega) j (by omega)]
        show scaledS (widenS (madeN lv j) (drf (lv j)) (dayN lv j * 86400) (dayN lv (j + 1) * 86400)) (loN lv (j + 1), hiN lv (j + 1)) = _
        have hd := dys_bd (lv (j + 1))
        rw [widen_days (by rw [dayN]; omega), madeN, dayN, show dayN lv j + dys (lv (j + 1)) - dayN lv j = dys (lv (j + 1)) by omega]
    · rw [if_neg (show ¬ (stdN lv K).name = nmN k from fun e => nm_ne K k (by omega) (by omega) (by omega) e)]
      exact bookL_made dr K (by omega) k (by omega)
end
end Go.Proofs.Ytjkelpelmljanaa
namespace Go.Proofs.Ytjkelpelmljanaa

section
variable (lv : Nat → Lv)
/-- A level's span, some days behind its making. -/
def spanN (k : Nat) (d : Int) : Int × Int := (max 1 ((madeN lv k).1 - drf (lv k) * d), (madeN lv k).2 + drf (lv k) * d)
theorem valueT_k {l : List Ent} {k : Nat} {d : Int} (hm : madeT l (nmN k) = madeN lv k) (h : 0 ≤ d) : valueT l (stdN lv k) ((dayN lv k + d) * 86400) = spanN lv k d := by
  show widenS (madeT l (nmN k)) (drf (lv k)) (dayN lv k * 86400) ((dayN lv k + d) * 86400) = _
  rw [hm, widen_days (by omega), show dayN lv k + d - dayN lv k = d by omega]
  rfl
theorem in_time {k : Nat} {d : Int} (hk : k < 3) (h : 0 ≤ d) (h2 : d ≤ 49) : inR ((dayN lv k + d) * 86400) (stdN lv k).time (stdN lv k).stop = true := by
  have := day_bd lv k
  exact inR_iff.2 ⟨by show dayN lv k * 86400 ≤ _; omega, by show _ ≤ (4294967296 : Int); omega⟩
theorem bookL_value (dr : Int) {K k : Nat} {d : Int} (hK : K ≤ 3) (hk : k < K) (h : 0 ≤ d) (h2 : d ≤ 49) : valueE (bookL lv dr K) (nmN k) ((dayN lv k + d) * 86400) = (spanN lv k d, 0) := by
  unfold valueE
  rw [bookL_std lv dr K hK k hk]
  simp only
  rw [bookL_void, in_time lv (by omega) h h2, if_neg (by simp), valueT_k lv (bookL_made lv dr K hK k hk) h]
theorem bookL_define (dr : Int) (hlv : ∀ k, LvOk (lv k)) {k : Nat} (hk : k < 3) : defineE (bookL lv dr k) (stdN lv k) = 0 := by
  have hd := day_bd lv k
  obtain ⟨f0, f1, -, -⟩ := drf_bd (hlv k)
  have hin : inR (stdN lv k).time 0 (stdN lv k).stop = true := inR_iff.2 ⟨by show 0 ≤ dayN lv k * 86400; omega, by show dayN lv k * 86400 ≤ 4294967296; omega⟩
  have hdr : inR (stdN lv k).drift 0 1000000 = true := inR_iff.2 ⟨f0, by show drf (lv k) ≤ _; omega⟩
  have hst : decide ((stdN lv k).stop ≤ 4294967296) = true := rfl
  have hS : inS (stdN lv k).lo (stdN lv k).hi 1 (if (stdN lv k).par = ByteArray.empty then 1000000 else 100000) = true := by
    refine inS_iff.2 ?_
    show 1 ≤ loN lv k ∧ loN lv k ≤ hiN lv k ∧ hiN lv k ≤ if parN k = ByteArray.empty then 1000000 else 100000
    cases k with
    | zero =>
      obtain ⟨h1, h2, h3, h4, h5, h6, -⟩ := hlv 0
      rw [if_pos (show parN 0 = ByteArray.empty from rfl)]
      simp only [loN, hiN]
      omega
    | succ j =>
      obtain ⟨a, b, c, d⟩ := lo_bd lv j
      rw [if_neg (show ¬ parN (j + 1) = ByteArray.empty from nm_par j)]
      omega
  unfold defineE
  rw [if_neg (by rw [bookL_len]; omega), if_neg (by rw [show (stdN lv k).name = nmN k from rfl, nm_ok k hk]; simp), if_neg (by rw [show (stdN lv k).name = nmN k from rfl, bookL_fresh lv dr k (by omega) k hk (Nat.le_refl _)]; simp),
    if_neg (by rw [bookL_stds]; omega), if_neg (by rw [hS, hin, hst, hdr]; simp)]
  cases k with
  | zero => exact if_pos rfl
  | succ j =>
    have hp : (stdN lv (j + 1)).par = nmN j := rfl
    have hdd := dys_bd (lv (j + 1))
    have ht : (stdN lv (j + 1)).time = (dayN lv j + dys (lv (j + 1))) * 86400 := rfl
    rw [hp, if_neg (nm_par j), bookL_std lv dr (j + 1) (by omega) j (by omega)]
    simp only
    rw [bookL_void, ht, in_time lv (by omega) hdd.1 hdd.2, if_neg (by simp), valueT_k lv (bookL_made lv dr (j + 1) (by omega) j (by omega)) hdd.1]
    have hh := (held_k lv hlv hk).most
    have e : (scaledS (spanN lv j (dys (lv (j + 1)))) ((stdN lv (j + 1)).lo, (stdN lv (j + 1)).hi)) = madeN lv (j + 1) := rfl
    rw [e, if_neg (by omega)]
/-- What is true of a level lies within its span. -/
theorem span_truth (hlv : ∀ k, LvOk (lv k)) {k : Nat} {d : Int} (hk : k < 3) (h : 0 ≤ d) (h2 : d ≤ 49) :
    1 ≤ (spanN lv k d).1 ∧ (spanN lv k d).1 ≤ (spanN lv k d).2 ∧ (spanN lv k d).2 ≤ 4085119 ∧ (spanN lv k d).1 * denN k ≤ numN lv k + trn (lv k) * d * denN k ∧ numN lv k + trn (lv k) * d * denN k ≤ (spanN lv k d).2 * denN k ∧
    2071 * denN k ≤ numN lv k + trn (lv k) * d * denN k ∧ numN lv k + trn (lv k) * d * denN k ≤ 2048662 * denN k := by
  have hh := held_k lv hlv hk
  obtain ⟨a, b, c, e⟩ := hh.after lv (hlv k) h h2 (by decide)
  obtain ⟨f0, f1, -, -⟩ := drf_bd (hlv k)
  obtain ⟨x0, x1⟩ := mul_bdT (D := 260) (M := 49) f0 f1 h h2
  have o1 := hh.one
  have o2 := hh.le
  have o3 := hh.most
  unfold spanN
  simp only
  exact ⟨by omega, by omega, by omega, a, b, c, e⟩
end
end Go.Proofs.Ytjkelpelmljanaa
namespace Go.Proofs.Ytjkelpelmljanaa
open Go.RowKit

end Go.Proofs.Ytjkelpelmljanaa
namespace Go.Proofs.Ytjkelpelmljanaa
open Go Go.RowKit

def correctR (p g : Int × Int) : (Int × Int) × Int :=
  if (inS p.1 p.2 0 1073741824 && inS g.1 g.2 1 1000000) = true then ((min 1073741824 (1000 * p.1 / g.2), min 1073741824 (upD (1000 * p.2) g.1)), 0) else ((0, 0), 3)
def corrV (r : (Int × Int) × Int) : Value := .tuple #[.agg #[.int .i64 r.1.1, .int .i64 r.1.2], .int .i64 r.2]
theorem upD_cdiv {a b : Int} (h : 0 < b) : upD a b = cdiv a b := (cdiv_eq h).symm

set_option maxHeartbeats 1000000 in
set_option maxRecDepth 100000 in
theorem Correct_any (p1 p2 g1 g2 : Int) (w : World) :
    Calls Try.prog 11 #[.agg #[.int .i64 p1, .int .i64 p2], .agg #[.int .i64 g1, .int .i64 g2]] w fun e w' => e = .returned (corrV (correctR (p1, p2) (g1, g2))) ∧ Below w.heap.size w w' := by
  have hR : correctR (p1, p2) (g1, g2) = if (inS p1 p2 0 1073741824 && inS g1 g2 1 1000000) = true then ((min 1073741824 (1000 * p1 / g2), min 1073741824 (upD (1000 * p2) g1)), 0) else ((0, 0), 3) := rfl
  generalize correctR (p1, p2) (g1, g2) = r at *
  by_cases h1 : inS p1 p2 0 1073741824 = true
  · by_cases h2 : inS g1 g2 1 1000000 = true
    · rw [if_pos (by rw [h1, h2]; rfl)] at hR
      obtain ⟨a1, a2, a3⟩ := inS_iff.1 h1
      obtain ⟨b1, b2, b3⟩ := inS_iff.1 h2
      have k1 : 0 ≤ 1000 * p1 / g2 := Int.ediv_nonneg (by omega) (by omega)
      have k2 : 1000 * p1 / g2 ≤ 1000 * p1 := Int.ediv_le_self _ (by omega)
      have hu := fun W => up_any (1000 * p2) g1 W (by omega) (by omega) (by omega) (by omega)
      obtain ⟨u, hue⟩ : ∃ u, upD (1000 * p2) g1 = u := ⟨_, rfl⟩
      rw [hue] at hu hR
      obtain ⟨n1, hn1⟩ : ∃ n1, min 1073741824 (1000 * p1 / g2) = n1 := ⟨_, rfl⟩
      obtain ⟨n2, hn2⟩ : ∃ n2, min 1073741824 u = n2 := ⟨_, rfl⟩
      rw [hn1, hn2] at hR
      have hn1' : (if 1000 * p1 / g2 < 1073741824 then 1000 * p1 / g2 else 1073741824) = n1 := by rw [← hn1]; split <;> omega
      have hn2' : (if u < 1073741824 then u else 1073741824) = n2 := by rw [← hn2]; split <;> omega
      clear hue
      have Hu := hide hu
      have HR := hide hR
      clear hu hR
      go_enter Try.func11, Try.ntmps11
      have HB := hide (Below.refl w.heap.size w)
      go_wp2_with fail
      refine at_world fun w1 hW => ?_
      have bq0 : Blk w1 w.heap.size 35 #[.int .i64 p1, .int .i64 p2] := by rw [hW]; exact ((Blk.new _ _ _).alloc _).alloc _
      have bq1 : Blk w1 (w.heap.size + 1) 35 #[.int .i64 g1, .int .i64 g2] := by rw [hW]; exact (blk_new_at (by simp)).alloc _
      have bq2 : Blk w1 (w.heap.size + 2) 35 #[.int .i64 0, .int .i64 0] := by rw [hW]; exact blk_new_at (by simp)
      have LW : Later w w1 := by rw [hW]; exact ((((Below.refl _ _).alloc (Nat.le_refl _) _).alloc (by simp; try omega) _).alloc (by simp; try omega) _)
      have szW : w1.heap.size = w.heap.size + 3 := by rw [hW]; simp
      clear hW
      replace HB := hide (onward HB.out LW)
      have Hp := hide bq0
      have Hg := hide bq1
      have Ho := hide bq2
      clear bq0 bq1 bq2 LW szW
      refine (inside_any _ _ _ _ _).mono ?_
      rintro e w2 ⟨rfl, hb⟩
      replace HB := hide (onward HB.out hb)
      replace Hp := hide (blk_later Hp.out hb)
      replace Hg := hide (blk_later Hg.out hb)
      replace Ho := hide (blk_later Ho.out hb)
      clear hb
      rw [h1]
      obtain ⟨y0, y1⟩ := Hg.out.c2
      have lty := Hg.out.lt
      go_wp2_with fail
      refine (inside_any _ _ _ _ _).mono ?_
      rintro e w3 ⟨rfl, hb⟩
      replace HB := hide (onward HB.out hb)
      replace Hp := hide (blk_later Hp.out hb)
      replace Hg := hide (blk_later Hg.out hb)
      replace Ho := hide (blk_later Ho.out hb)
      clear hb y0 y1 lty
      rw [h2]
      obtain ⟨y0, y1⟩ := Hg.out.c2
      have lty := Hg.out.lt
      obtain ⟨x0, x1⟩ := Hp.out.c2
      have ltx := Hp.out.lt
      go_wp2_with fail
      have lto := Ho.out.lt
      apply wp_region_F (w0 := w3) [[], [0], [0, 1], [], [3], [0, 1, 2, 3, 4], [0, 1, 2, 3, 4, 5], [], [7], [7, 8], [], [10], [7, 8, 9, 10, 11], [7, 8, 9, 10, 11, 12], [0, 1, 2, 3, 4, 5, 6, 7, 8, 9, 10, 11, 12, 13], [0, 1, 2, 3, 4, 5, 6, 7, 8, 9, 10, 11, 12, 13, 14], [0, 1, 2, 3, 4, 5, 6, 7, 8, 9, 10, 11, 12, 13, 14, 15]] [true, true, true, true, true, true, true, true, true, true, true, true, true, true, true, false, false] [false, false, false, false, false, false, false, false, false, false, false, false, false, false, false, false, true] [⟨15, none, [], []⟩] [(15, (w.heap.size+2))] [15] (fun ixq y => match ixq with | 15 => undef | _ => undef) (fun ixq x F wq => match ixq with | 15 => F (w.heap.size+2) ∧ Blk wq (w.heap.size+2) 35 #[.int .i64 n1, .int .i64 n2] | _ => True) (fun a x => (a).put (none) (undef)) (by kernel_rfl) (by kernel_rfl) (by kernel_rfl) (fun _ => rfl) [27] (by kernel_rfl) (fills_lt1 (by omega)) fills_ne1
      · intro x D hD
        have hne := hD.some
        have k0 := liftS hD x0 (by exact early_all (by first | assumption | omega) (by rfl))
        have k1 := liftS hD x1 (by exact early_all (by first | assumption | omega) (by rfl))
        have k2 := liftS hD y0 (by exact early_all (by first | assumption | omega) (by rfl))
        have k3 := liftS hD y1 (by exact early_all (by first | assumption | omega) (by rfl))
        simp only [takeOps, Act.put, List.setIfInBounds_toArray, List.set_cons_succ, List.set_cons_zero]
        repeat (go_big_quiet_step ((first | (go_at_call 26; exact calls_same _ (Hu.out _)))))
        exact wpQuiet_nil rfl
      · intro x D hD
        have hne := hD.some
        simp only [takeOps, Act.put, List.setIfInBounds_toArray, List.set_cons_succ, List.set_cons_zero]
        repeat (go_big_quiet_step ((first | (go_at_call 26; exact calls_same _ (Hu.out _)))))
        exact wpQuiet_nil rfl
      · intro d hd x x'
        simp only [List.mem_cons, List.not_mem_nil, or_false] at hd
        rcases hd with rfl
        all_goals rfl
      · refine ⟨?_, trivial⟩
        · exact obl_fill 35 35 4 29 (w.heap.size+2) _ (fun x => #[.int .i64 n1, .int .i64 n2]) (by kernel_rfl) (fun _ => rfl) (fun _ => rfl) Ho.out eb_fill1 (by simp [wrF]) (fun _ => by kernel_rfl) (fun _ => rfl) (fun _ => by simp [Value.oneCell']) (fun _ => rfl) (fun _ _ _ _ h1 h2 => ⟨h1, h2⟩)
      · refine ⟨?_, trivial⟩
        · exact owe_fill (w.heap.size+2) 35 (fun x => #[.int .i64 n1, .int .i64 n2]) (fun _ _ _ => rfl) (fun _ _ _ => rfl)
      intro xr w4 F hK hlv1
      obtain ⟨fct15, -⟩ := hlv1
      replace fct15 : (F 15) (w.heap.size+2) ∧ Blk w4 (w.heap.size+2) 35 #[.int .i64 n1, .int .i64 n2] := fct15 rfl
      have hbr := below_kept HB.out HB.out.size hK (by simp)
      have ho4 := fct15.2
      obtain ⟨e0, e1⟩ := ho4.c2
      have fe0 := ho4.frozen 0
      have fe1 := ho4.frozen 1
      have lte := ho4.lt
      go_wp2
      refine bodyPost_ret (v := corrV r) (by rw [HR.out]; simp [corrV, results, Try.results11, go_sem, e0, e1, fe0, fe1, lte]) rfl ⟨rfl, hbr⟩
    · have h3 : inS g1 g2 1 1000000 = false := by simpa using h2
      rw [if_neg (by rw [h3]; simp)] at hR
      have HR := hide hR
      clear hR
      go_enter Try.func11, Try.ntmps11
      have HB := hide (Below.refl w.heap.size w)
      go_wp2_with fail
      refine at_world fun w1 hW => ?_
      have bq0 : Blk w1 w.heap.size 35 #[.int .i64 p1, .int .i64 p2] := by rw [hW]; exact ((Blk.new _ _ _).alloc _).alloc _
      have bq1 : Blk w1 (w.heap.size + 1) 35 #[.int .i64 g1, .int .i64 g2] := by rw [hW]; exact (blk_new_at (by simp)).alloc _
      have bq2 : Blk w1 (w.heap.size + 2) 35 #[.int .i64 0, .int .i64 0] := by rw [hW]; exact blk_new_at (by simp)
      have LW : Later w w1 := by rw [hW]; exact ((((Below.refl _ _).alloc (Nat.le_refl _) _).alloc (by simp; try omega) _).alloc (by simp; try omega) _)
      have szW : w1.heap.size = w.heap.size + 3 := by rw [hW]; simp
      clear hW
      replace HB := hide (onward HB.out LW)
      have Hp := hide bq0
      have Hg := hide bq1
      have Ho := hide bq2
      clear bq0 bq1 bq2 LW szW
      refine (inside_any _ _ _ _ _).mono ?_
      rintro e w2 ⟨rfl, hb⟩
      replace HB := hide (onward HB.out hb)
      replace Hp := hide (blk_later Hp.out hb)
      replace Hg := hide (blk_later Hg.out hb)
      replace Ho := hide (blk_later Ho.out hb)
      clear hb
      rw [h1]
      obtain ⟨y0, y1⟩ := Hg.out.c2
      have lty := Hg.out.lt
      go_wp2_with fail
      refine (inside_any _ _ _ _ _).mono ?_
      rintro e w3 ⟨rfl, hb⟩
      replace HB := hide (onward HB.out hb)
      replace Hp := hide (blk_later Hp.out hb)
      replace Hg := hide (blk_later Hg.out hb)
      replace Ho := hide (blk_later Ho.out hb)
      clear hb y0 y1 lty
      rw [h3]
      obtain ⟨e0, e1⟩ := Ho.out.c2
      have lte := Ho.out.lt
      have fe0 := Ho.out.frozen 0
      have fe1 := Ho.out.frozen 1
      go_wp2
      refine bodyPost_ret (v := corrV r) (by rw [HR.out]; simp [corrV, results, Try.results11, go_sem, e0, e1, fe0, fe1, lte]) rfl ⟨rfl, ?_⟩
      repeat (first | exact HB.out | (refine Below.setCell ?_ (by first | omega | (simp; done) | (simp; omega)) _) | (refine Below.alloc ?_ (by first | omega | (simp; done) | (simp; omega)) _) | (refine below_drewN ?_ _))
  · have h3 : inS p1 p2 0 1073741824 = false := by simpa using h1
    rw [if_neg (by rw [h3]; simp)] at hR
    have HR := hide hR
    clear hR
    go_enter Try.func11, Try.ntmps11
    have HB := hide (Below.refl w.heap.size w)
    go_wp2_with fail
    refine at_world fun w1 hW => ?_
    have bq0 : Blk w1 w.heap.size 35 #[.int .i64 p1, .int .i64 p2] := by rw [hW]; exact ((Blk.new _ _ _).alloc _).alloc _
    have bq1 : Blk w1 (w.heap.size + 1) 35 #[.int .i64 g1, .int .i64 g2] := by rw [hW]; exact (blk_new_at (by simp)).alloc _
    have bq2 : Blk w1 (w.heap.size + 2) 35 #[.int .i64 0, .int .i64 0] := by rw [hW]; exact blk_new_at (by simp)
    have LW : Later w w1 := by rw [hW]; exact ((((Below.refl _ _).alloc (Nat.le_refl _) _).alloc (by simp; try omega) _).alloc (by simp; try omega) _)
    have szW : w1.heap.size = w.heap.size + 3 := by rw [hW]; simp
    clear hW
    replace HB := hide (onward HB.out LW)
    have Hp := hide bq0
    have Hg := hide bq1
    have Ho := hide bq2
    clear bq0 bq1 bq2 LW szW
    refine (inside_any _ _ _ _ _).mono ?_
    rintro e w2 ⟨rfl, hb⟩
    replace HB := hide (onward HB.out hb)
    replace Hp := hide (blk_later Hp.out hb)
    replace Hg := hide (blk_later Hg.out hb)
    replace Ho := hide (blk_later Ho.out hb)
    clear hb
    rw [h3]
    obtain ⟨e0, e1⟩ := Ho.out.c2
    have lte := Ho.out.lt
    have fe0 := Ho.out.frozen 0
    have fe1 := Ho.out.frozen 1
    go_wp2
    refine bodyPost_ret (v := corrV r) (by rw [HR.out]; simp [corrV, results, Try.results11, go_sem, e0, e1, fe0, fe1, lte]) rfl ⟨rfl, ?_⟩
    repeat (first | exact HB.out | (refine Below.setCell ?_ (by first | omega | (simp; done) | (simp; omega)) _) | (refine Below.alloc ?_ (by first | omega | (simp; done) | (simp; omega)) _) | (refine below_drewN ?_ _))
end Go.Proofs.Ytjkelpelmljanaa
namespace Go.Proofs.Ytjkelpelmljanaa

theorem upD_ge {a b G : Int} (ha : 0 ≤ a) (hb : 1 ≤ b) (h : G * b ≤ a) : G ≤ upD a b := by
  obtain ⟨-, -, c, -⟩ := upD_bd ha hb
  have e : b * upD a b = upD a b * b := Int.mul_comm _ _
  have : G * b ≤ upD a b * b := by omega
  exact Int.le_of_mul_le_mul_right this (by omega)
theorem div_le_of {a b G : Int} (hb : 1 ≤ b) (h : a ≤ G * b) : a / b ≤ G := by
  have := Int.ediv_le_ediv (c := b) (by omega) h
  rwa [Int.mul_ediv_cancel _ (by omega)] at this
/-- A reading holds value times gain, in thousandths: so what follows from it holds the gain. -/
theorem gain_truth {den val G lo hi v1 v2 : Int} (hden : 0 < den) (hG : 0 ≤ G) (h1 : v1 * den ≤ val) (h2 : val ≤ v2 * den) (hv1 : 1 ≤ v1) (hv2 : 1 ≤ v2) (h0 : 0 ≤ hi) (hl : lo * (den * 1000) ≤ val * G) (hh : val * G ≤ hi * (den * 1000)) :
    1000 * lo / v2 ≤ G ∧ G ≤ upD (1000 * hi) v1 := by
  have a1 : v1 * den * G ≤ val * G := Int.mul_le_mul_of_nonneg_right h1 hG
  have a2 : val * G ≤ v2 * den * G := Int.mul_le_mul_of_nonneg_right h2 hG
  have e1 : v1 * den * G = G * v1 * den := by grind
  have e2 : v2 * den * G = G * v2 * den := by grind
  have e3 : lo * (den * 1000) = 1000 * lo * den := by grind
  have e4 : hi * (den * 1000) = 1000 * hi * den := by grind
  refine ⟨div_le_of hv2 (Int.le_of_mul_le_mul_right (a := den) (by omega) hden), upD_ge (by omega) hv1 (Int.le_of_mul_le_mul_right (a := den) (by omega) hden)⟩
/-- A gain that changes within a drift, some days before or behind a test. -/
theorem widen_any_days {m : Int × Int} {d a b : Int} : widenS m d (a * 86400) (b * 86400) = (max 1 (m.1 - d * max (b - a) (a - b)), m.2 + d * max (b - a) (a - b)) := by
  unfold widenS
  rw [show max (b * 86400 - a * 86400) (a * 86400 - b * 86400) = max (b - a) (a - b) * 86400 by omega, upD_days]
theorem turn_abs {by_ dr x : Int} (h1 : -dr ≤ by_) (h2 : by_ ≤ dr) : -(dr * max x (-x)) ≤ by_ * x ∧ by_ * x ≤ dr * max x (-x) := by
  rcases Int.le_total 0 x with h | h
  · obtain ⟨a, b⟩ := turn_le (den := 1) h1 h2 h (by omega)
    rw [show max x (-x) = x by omega]
    omega
  · obtain ⟨a, b⟩ := turn_le (den := 1) (dd := -x) h1 h2 (by omega) (by omega)
    rw [show max x (-x) = -x by omega]
    have e : by_ * -x = -(by_ * x) := Int.mul_neg _ _
    omega
theorem wid_gain {m : Int × Int} {g by_ dr a b : Int} (h1 : -dr ≤ by_) (h2 : by_ ≤ dr) (l : m.1 ≤ g + by_ * a) (h : g + by_ * a ≤ m.2) (one : 1 ≤ g + by_ * b) :
    (widenS m dr (a * 86400) (b * 86400)).1 ≤ g + by_ * b ∧ g + by_ * b ≤ (widenS m dr (a * 86400) (b * 86400)).2 := by
  rw [widen_any_days]
  obtain ⟨x, y⟩ := turn_abs (x := b - a) h1 h2
  rw [show -(b - a) = a - b by omega] at x y
  have e : by_ * (b - a) = by_ * b - by_ * a := Int.mul_sub _ _ _
  simp only
  omega
/-- What spans have in common holds what each one holds. -/
theorem meet_holds {q : List (Nat × (Int × Int))} {G : Int} (h0 : q.length ≠ 0) (h : ∀ i, i < q.length → 1 ≤ (q.getD i (0, (0, 0))).2.1 ∧ (q.getD i (0, (0, 0))).2.1 ≤ G ∧ G ≤ (q.getD i (0, (0, 0))).2.2) :
    ∀ k, k ≤ q.length → 1 ≤ (meetQ q k).1 ∧ (meetQ q k).1 ≤ G ∧ G ≤ (meetQ q k).2
  | 0, _ => h 0 (by omega)
  | k + 1, hk => by
    have h1 := meet_holds h0 h k (by omega)
    have h2 := h k (by omega)
    rw [meetQ]
    simp only
    omega
theorem selN_mem (T : List (Tst × (Int × Int))) (n : ByteArray) (vd : ByteArray → Bool) (d time : Int) : ∀ i, ∀ y ∈ selN T n vd d time i, ∃ x ∈ T, y.2 = widenS x.2 d x.1.time time
  | 0, y, h => by cases h
  | i + 1, y, h => by
    rw [selN] at h
    rcases List.mem_append.1 h with h | h
    · exact selN_mem T n vd d time i y h
    · split at h
      · rename_i x hx
        split at h
        · simp only [List.mem_singleton] at h
          exact ⟨x, List.mem_of_getElem? hx, by rw [h]⟩
        · cases h
      · cases h
theorem selN_some (T : List (Tst × (Int × Int))) (n : ByteArray) (vd : ByteArray → Bool) (d time : Int) {i : Nat} {x : Tst × (Int × Int)} (hx : T[i]? = some x) (hr : x.1.radar = n) (hv : vd x.1.std = false) : (selN T n vd d time (i + 1)).length ≠ 0 := by
  rw [selN, hx]
  simp only [hr, hv, and_self, if_true, List.length_append, List.length_singleton]
  omega
theorem gainQ_holds {q : List (Nat × (Int × Int))} {G : Int} (h0 : q.length ≠ 0) (h : ∀ y ∈ q, 1 ≤ y.2.1 ∧ y.2.1 ≤ G ∧ G ≤ y.2.2) : ∃ s : Int × Int, gainQ q = (s, (0, 0), 0) ∧ 1 ≤ s.1 ∧ s.1 ≤ G ∧ G ≤ s.2 := by
  have hh := meet_holds (q := q) (G := G) h0 (fun i hi => h _ (by simp [List.getD, List.getElem?_eq_getElem hi])) q.length (Nat.le_refl _)
  exact ⟨meetQ q q.length, gainQ_meet h0 (by omega), hh⟩
/-- A power in truth lies where it is corrected to be. -/
theorem correct_holds {p G : Int} {s : Int × Int} (hp : 0 ≤ p) (hp2 : p ≤ 134217727) (hG : 1 ≤ G) (hG2 : G ≤ 8000) (s1 : 1 ≤ s.1) (s2 : s.1 ≤ G) (s3 : G ≤ s.2) (s4 : s.2 ≤ 1000000) :
    ∃ c : Int × Int, correctR (p * G / 1000, (p * G + 999) / 1000) s = (c, 0) ∧ c.1 ≤ p ∧ p ≤ c.2 := by
  obtain ⟨m0, m1⟩ := mul_bdT (D := 134217727) (M := 8000) hp hp2 (show 0 ≤ G by omega) hG2
  have g1 : p * G ≤ p * s.2 := Int.mul_le_mul_of_nonneg_left s3 hp
  have g2 : p * s.1 ≤ p * G := Int.mul_le_mul_of_nonneg_left s2 hp
  have k1 : inS (p * G / 1000) ((p * G + 999) / 1000) 0 1073741824 = true := inS_iff.2 ⟨by omega, by omega, by omega⟩
  have k2 : inS s.1 s.2 1 1000000 = true := inS_iff.2 ⟨s1, by omega, s4⟩
  refine ⟨_, by unfold correctR; rw [if_pos (by simp only [k1, k2]; rfl)], ?_, ?_⟩
  · have := div_le_of (a := 1000 * (p * G / 1000)) (b := s.2) (G := p) (by omega) (by omega)
    simp only
    omega
  · have := upD_ge (a := 1000 * ((p * G + 999) / 1000)) (b := s.1) (G := p) (by omega) s1 (by omega)
    simp only
    omega
end Go.Proofs.Ytjkelpelmljanaa
namespace Go.Proofs.Ytjkelpelmljanaa

theorem cdiv_bd {a b C : Int} (ha : 0 ≤ a) (hb : 1 ≤ b) (h : a ≤ C * b) : 0 ≤ cdiv a b ∧ cdiv a b ≤ C := by
  rw [cdiv_eq (by omega)]
  refine ⟨Int.ediv_nonneg (by omega) (by omega), ?_⟩
  have : (a + b - 1) / b < C + 1 := Int.ediv_lt_of_lt_mul (by omega) (by rw [Int.add_mul]; omega)
  omega
theorem div_bdR {a b C : Int} (ha : 0 ≤ a) (hb : 1 ≤ b) (h : a ≤ C * b) : 0 ≤ a / b ∧ a / b ≤ C := by
  refine ⟨Int.ediv_nonneg ha (by omega), ?_⟩
  have : a / b < C + 1 := Int.ediv_lt_of_lt_mul (by omega) (by rw [Int.add_mul]; omega)
  omega
theorem div_le_cdiv {a b : Int} (hb : 1 ≤ b) : a / b ≤ cdiv a b := by
  rw [cdiv_eq (by omega)]
  exact Int.ediv_le_ediv (by omega) (by omega)

theorem val_bd {l : List (Int × Int)} {most : Int} (hT : Tab l most) {z : Int} (hz : 0 ≤ z) : 0 ≤ (valGo z l).1 ∧ (valGo z l).1 ≤ (valGo z l).2 ∧ (valGo z l).2 ≤ most := by
  have key : ∀ d k : Nat, k + d + 1 = l.length → (l.getD k P0).1 ≤ z → 0 ≤ (valGo z (l.drop k)).1 ∧ (valGo z (l.drop k)).1 ≤ (valGo z (l.drop k)).2 ∧ (valGo z (l.drop k)).2 ≤ most := by
    intro d
    induction d with
    | zero =>
      intro k hk _
      rw [val_last z (by omega)]
      have := hT.rng k (by omega)
      simp only
      omega
    | succ d ih =>
      intro k hk hz1
      rw [val_drop z (by omega)]
      have r1 := hT.rng k (by omega)
      have r2 := hT.rng (k + 1) (by omega)
      have hm := hT.mono k (by omega)
      by_cases h : z < (l.getD (k + 1) P0).1
      · rw [if_pos h]
        have h1 := mul_bd (a := (l.getD (k + 1) P0).2 - (l.getD k P0).2) (b := z - (l.getD k P0).1) (A := (l.getD (k + 1) P0).2 - (l.getD k P0).2) (B := (l.getD (k + 1) P0).1 - (l.getD k P0).1) (by omega) (by omega) (by omega) (by omega)
        have h2 := div_bdR (b := (l.getD (k + 1) P0).1 - (l.getD k P0).1) h1.1 (by omega) h1.2
        have h3 := cdiv_bd (b := (l.getD (k + 1) P0).1 - (l.getD k P0).1) h1.1 (by omega) h1.2
        have h4 := div_le_cdiv (a := ((l.getD (k + 1) P0).2 - (l.getD k P0).2) * (z - (l.getD k P0).1)) (b := (l.getD (k + 1) P0).1 - (l.getD k P0).1) (by omega)
        simp only
        omega
      · rw [if_neg h]
        exact ih (k + 1) (by omega) (by omega)
  have := key (l.length - 1) 0 (by have := hT.len; omega) (by rw [hT.z0]; exact hz)
  rwa [List.drop_zero] at this

/-- The passage behind a gate with a power. -/
def nextT (loss : List (Int × Int)) (t z : Int × Int) : Int × Int := (t.1 * (65536 - (valGo z.2 loss).2) / 65536, cdiv (t.2 * (65536 - (valGo z.1 loss).1)) 65536)
structure Psg (t : Int × Int) : Prop where
  lo : 0 ≤ t.1
  hi : t.1 ≤ 1073741824
  lo' : 0 ≤ t.2
  hi' : t.2 ≤ 1073741824
theorem nextT_psg {loss : List (Int × Int)} (hT : Tab loss 32768) {t z : Int × Int} (ht : Psg t) (h1 : 0 ≤ z.1) (h2 : 0 ≤ z.2) : Psg (nextT loss t z) := by
  have a := val_bd hT h1
  have b := val_bd hT h2
  have c := mul_bd (a := t.1) (b := 65536 - (valGo z.2 loss).2) (A := 1073741824) (B := 65536) ht.lo ht.hi (by omega) (by omega)
  have d := mul_bd (a := t.2) (b := 65536 - (valGo z.1 loss).1) (A := 1073741824) (B := 65536) ht.lo' ht.hi' (by omega) (by omega)
  have e := div_bdR c.1 (by omega : (1 : Int) ≤ 65536) (C := 1073741824) (by omega)
  have f := cdiv_bd d.1 (by omega : (1 : Int) ≤ 65536) (C := 1073741824) (by omega)
  exact ⟨e.1, e.2, f.1, f.2⟩
def passOne (t : Int × Int) (z : Int) : Int × Int := (z * t.1 / 1073741824, cdiv (z * t.2) 1073741824)
def passGo (loss : List (Int × Int)) (t : Int × Int) : List Int → List (Int × Int)
  | [] => []
  | z :: r => passOne t z :: passGo loss (nextT loss t (z, z)) r
def whole : Int × Int := (1073741824, 1073741824)
def okP (z : Int) : Bool := win z 0 1073741824
/-- What Pass returns. -/
def passR (loss : List (Int × Int)) (pw : List Int) : List (Int × Int) × Int :=
  if chk loss 32768 ≠ 0 then ([], chk loss 32768) else if 200 < pw.length then ([], 9) else if pw.all okP = true then (passGo loss whole pw, 0) else ([], 3)
theorem passGo_length (loss : List (Int × Int)) : ∀ (l : List Int) (t : Int × Int), (passGo loss t l).length = l.length
  | [], _ => rfl
  | z :: r, t => by simp [passGo, passGo_length loss r]
theorem passGo_drop (loss : List (Int × Int)) (t : Int × Int) (pw : List Int) (k : Nat) (hk : k < pw.length) : passGo loss t (pw.drop k) = passOne t (pw.getD k 0) :: passGo loss (nextT loss t (pw.getD k 0, pw.getD k 0)) (pw.drop (k + 1)) := by
  rw [List.drop_eq_getElem_cons hk, passGo]
  simp [List.getD, hk]
theorem all_ok {pw : List Int} (h : ∀ j, j < pw.length → okP (pw.getD j 0) = true) : pw.all okP = true := by
  rw [List.all_eq_true]
  intro x hx
  obtain ⟨j, hj, rfl⟩ := List.mem_iff_getElem.1 hx
  have := h j hj
  simpa [List.getD, hj] using this
theorem not_all_ok {pw : List Int} {j : Nat} (hj : j < pw.length) (h : okP (pw.getD j 0) = false) : pw.all okP = false := by
  rw [List.all_eq_false]
  refine ⟨pw[j], List.getElem_mem hj, ?_⟩
  have e : pw.getD j 0 = pw[j] := by simp [List.getD, hj]
  rw [← e, h]
  simp
theorem one_bd {t : Int × Int} (ht : Psg t) {z : Int} (h0 : 0 ≤ z) (h1 : z ≤ 1073741824) : 0 ≤ z * t.1 ∧ z * t.1 ≤ 1152921504606846976 ∧ 0 ≤ z * t.2 ∧ z * t.2 ≤ 1152921504606846976 := by
  have a := mul_bd (a := z) (b := t.1) (A := 1073741824) (B := 1073741824) h0 h1 ht.lo ht.hi
  have b := mul_bd (a := z) (b := t.2) (A := 1073741824) (B := 1073741824) h0 h1 ht.lo' ht.hi'
  omega
end Go.Proofs.Ytjkelpelmljanaa
namespace Go.Proofs.Ytjkelpelmljanaa

/-- The power of which a span was measured, behind a passage. -/
def restOne (t m : Int × Int) : Int × Int :=
  (min 1073741824 (m.1 * 1073741824 / t.2), if 1048576 ≤ t.1 then min 1073741824 (cdiv (m.2 * 1073741824) t.1) else 1073741824)
def restGo (loss : List (Int × Int)) (t : Int × Int) : List (Int × Int) → List (Int × Int)
  | [] => []
  | m :: r => restOne t m :: restGo loss (nextT loss t (restOne t m)) r
def okM (m : Int × Int) : Bool := decide (0 ≤ m.1 ∧ m.1 ≤ m.2 ∧ m.2 ≤ 1073741824)
theorem okM_iff {m : Int × Int} (h : okM m = true) : 0 ≤ m.1 ∧ m.1 ≤ m.2 ∧ m.2 ≤ 1073741824 := of_decide_eq_true h
/-- What Restore returns. -/
def restR (loss : List (Int × Int)) (l : List (Int × Int)) : List (Int × Int) × Int :=
  if chk loss 32768 ≠ 0 then ([], chk loss 32768) else if 200 < l.length then ([], 9) else if l.all okM = true then (restGo loss whole l, 0) else ([], 3)
structure Psg1 (t : Int × Int) : Prop extends Psg t where
  pos : 1 ≤ t.2
theorem restOne_bd {t m : Int × Int} (ht : Psg1 t) (hm : okM m = true) : 0 ≤ (restOne t m).1 ∧ (restOne t m).1 ≤ 1073741824 ∧ 0 ≤ (restOne t m).2 ∧ (restOne t m).2 ≤ 1073741824 := by
  obtain ⟨h1, h2, h3⟩ := okM_iff hm
  have a := Int.ediv_nonneg (show 0 ≤ m.1 * 1073741824 by omega) (show 0 ≤ t.2 from ht.lo')
  unfold restOne
  by_cases c : 1048576 ≤ t.1
  · rw [if_pos c]
    have b : 0 ≤ cdiv (m.2 * 1073741824) t.1 := by rw [cdiv_eq (by omega)]; exact Int.ediv_nonneg (by omega) (by omega)
    simp only; omega
  · rw [if_neg c]
    simp only; omega
theorem nextT_psg1 {loss : List (Int × Int)} (hT : Tab loss 32768) {t z : Int × Int} (ht : Psg1 t) (h1 : 0 ≤ z.1) (h2 : 0 ≤ z.2) : Psg1 (nextT loss t z) := by
  have hp := nextT_psg hT ht.toPsg h1 h2
  refine ⟨hp, ?_⟩
  have a := val_bd hT h1
  unfold nextT
  simp only
  generalize (valGo z.1 loss).1 = v at *
  have hv : 32768 ≤ 65536 - v := by omega
  have hpos : 0 < t.2 * (65536 - v) := Int.mul_pos (by have := ht.pos; omega) (by omega)
  rw [cdiv_eq (by omega)]
  have := (Int.le_ediv_iff_mul_le (a := 1) (b := t.2 * (65536 - v) + 65536 - 1) (c := 65536) (by omega)).2 (by omega)
  exact this
theorem whole_psg1 : Psg1 whole := ⟨⟨by decide, by decide, by decide, by decide⟩, by decide⟩
theorem restGo_length (loss : List (Int × Int)) : ∀ (l : List (Int × Int)) (t : Int × Int), (restGo loss t l).length = l.length
  | [], _ => rfl
  | m :: r, t => by simp [restGo, restGo_length loss r]
theorem restGo_drop (loss : List (Int × Int)) (t : Int × Int) (l : List (Int × Int)) (k : Nat) (hk : k < l.length) : restGo loss t (l.drop k) = restOne t (l.getD k (0, 0)) :: restGo loss (nextT loss t (restOne t (l.getD k (0, 0)))) (l.drop (k + 1)) := by
  rw [List.drop_eq_getElem_cons hk, restGo]
  simp [List.getD, hk]
theorem all_okM {l : List (Int × Int)} (h : ∀ j, j < l.length → okM (l.getD j (0, 0)) = true) : l.all okM = true := by
  rw [List.all_eq_true]
  intro x hx
  obtain ⟨j, hj, rfl⟩ := List.mem_iff_getElem.1 hx
  have := h j hj
  simpa [List.getD, hj] using this
theorem not_all_okM {l : List (Int × Int)} {j : Nat} (hj : j < l.length) (h : okM (l.getD j (0, 0)) = false) : l.all okM = false := by
  rw [List.all_eq_false]
  refine ⟨l[j], List.getElem_mem hj, ?_⟩
  have e : l.getD j (0, 0) = l[j] := by simp [List.getD, hj]
  rw [← e, h]
  simp

/-! ### Threads in the way -/
def capI (a : Int) : Int := min a 1073741824
/-- A power without what is in the way. -/
def fillS (p : Int × Int) (n : Int) (b : Int × Int) : Int × Int :=
  (min 1073741824 (p.1 * n / max 1 (n - b.1)), if b.2 < n then min 1073741824 (cdiv (p.2 * n) (n - b.2)) else 1073741824)
def okF (p : Int × Int) (n : Int) (b : Int × Int) : Bool := okM p && win n 1 17 && ins b.1 b.2 n
def fillR (p : Int × Int) (n : Int) (b : Int × Int) : (Int × Int) × Int := if okF p n b = true then (fillS p n b, 0) else ((0, 0), 3)
end Go.Proofs.Ytjkelpelmljanaa
