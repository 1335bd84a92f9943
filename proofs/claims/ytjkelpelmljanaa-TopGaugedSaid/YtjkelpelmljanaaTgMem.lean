/-
  A gain in truth, a standard in truth, powers in truth: what is said of them; no program in sight.
  A radar is entered.
  Whether two arrays of two integers are equal: the run of the comparison. Over any program.
  The book of the chapter's examples, and its answers.
  Several things side by side in memory: books, rows of one's own, variables. A step on one of them leaves the others as they are.
-/
import Derived.Test.YtjkelpelmljanaaTgRestMath
import Derived.Test.YtjkelpelmljanaaAddsMath
import Derived.Test.YtjkelpelmljanaaTgMeet
import Derived.Test.YtjkelpelmljanaaTgTraceDefMath
import Derived.Test.YtjkelpelmljanaaTgNames2
import Derived.Test.YtjkelpelmljanaaWords
import Derived.ChangeKeysEq
import Derived.Test.YtjkelpelmljanaaTgTraceGain
import Derived.Test.YtjkelpelmljanaaTgTraceDefine
import Derived.Test.YtjkelpelmljanaaTgTraceTest
set_option linter.unusedSimpArgs false
set_option linter.unusedVariables false
namespace Go.Proofs.Ytjkelpelmljanaa

structure Gd where
  g : Int
  v : Int
  less : Int
  more : Int
  slip : Int
  drift : Int
structure GdOk (x : Gd) : Prop where
  g0 : 500 ≤ x.g
  g1 : x.g ≤ 4999
  v0 : 10000 ≤ x.v
  v1 : x.v ≤ 909999
  l0 : 0 ≤ x.less
  l1 : x.less ≤ 65535
  m0 : 0 ≤ x.more
  m1 : x.more ≤ 65535
  s0 : 0 ≤ x.slip
  s1 : x.slip ≤ 65535
  d0 : 0 ≤ x.drift
  d1 : x.drift ≤ 255
def stdG (x : Gd) : Std := ⟨⟨#[97]⟩, ⟨#[]⟩, max 1 (x.v - x.less), min 1000000 (x.v + x.more), 0, 10, x.drift⟩
def tstG (x : Gd) : Tst := ⟨⟨#[114]⟩, ⟨#[97]⟩, 0, max 1 (x.v * x.g / 1000 - x.slip), (x.v * x.g + 999) / 1000 + x.slip⟩
def bkG1 (x : Gd) : List Ent := [.radar ⟨#[114]⟩ x.drift]
def bkG2 (x : Gd) : List Ent := .define (stdG x) :: bkG1 x
def bkG (x : Gd) : List Ent := .test (tstG x) :: bkG2 x

section
variable {x : Gd}
theorem gd_prod (h : GdOk x) : 5000000 ≤ x.v * x.g ∧ x.v * x.g ≤ 4549085001 := by
  have a := h.v0
  have b := h.v1
  have c := h.g0
  have d := h.g1
  have e1 : 10000 * 500 ≤ x.v * x.g := Int.mul_le_mul a c (by omega) (by omega)
  have e2 : x.v * x.g ≤ 909999 * 4999 := Int.mul_le_mul b d (by omega) (by omega)
  omega
theorem radarG (h : GdOk x) : radarE [] ⟨#[114]⟩ x.drift = 0 := by
  have a := h.d0
  have b := h.d1
  have hr : inR x.drift 0 1000000 = true := inR_iff.2 ⟨by omega, by omega⟩
  unfold radarE
  rw [hr]
  decide +kernel
theorem defineG (h : GdOk x) : defineE (bkG1 x) (stdG x) = 0 := by
  have a := h.d0
  have b := h.d1
  have c := h.v0
  have d := h.v1
  have e := h.l0
  have f := h.m0
  unfold defineE
  have hp : (stdG x).par = ByteArray.empty := rfl
  have h1 : inS (stdG x).lo (stdG x).hi 1 1000000 = true := inS_iff.2 (by show 1 ≤ max 1 (x.v - x.less) ∧ max 1 (x.v - x.less) ≤ min 1000000 (x.v + x.more) ∧ min 1000000 (x.v + x.more) ≤ 1000000; omega)
  have h2 : inR (stdG x).time 0 (stdG x).stop = true := rfl
  have h3 : decide ((stdG x).stop ≤ 4294967296) = true := rfl
  have h4 : inR (stdG x).drift 0 1000000 = true := inR_iff.2 ⟨a, by show x.drift ≤ _; omega⟩
  have h5 : nameB (stdG x).name = true := by show nameB ⟨#[97]⟩ = true; decide +kernel
  rw [if_neg (by show ¬ 2000 ≤ 1; omega), if_neg (by rw [h5]; simp), if_neg (by rw [show stdT (bkG1 x) (stdG x).name = none from rfl]; simp), if_neg (by show ¬ 64 ≤ 0; omega), if_pos hp, h1, h2, h3, h4, if_neg (by simp), if_pos hp]
theorem stdT_G (x : Gd) : stdT (bkG2 x) ⟨#[97]⟩ = some (stdG x) := by unfold bkG2; rw [stdT]; exact if_pos rfl
theorem wd_G2 (x : Gd) (n : ByteArray) : wdT (bkG2 x) n = false := by
  unfold bkG2 bkG1
  rw [wdT, wdT, wdT]
  all_goals (intro _ _ h; cases h)
theorem wd_G (x : Gd) (n : ByteArray) : wdT (bkG x) n = false := by
  unfold bkG
  rw [wdT]
  · exact wd_G2 x n
  all_goals (intro _ _ h; cases h)
theorem void_G2 (x : Gd) (n : ByteArray) : voidT (bkG2 x) n = false := List.any_eq_false.2 fun m _ => by rw [wd_G2]; simp
theorem void_G (x : Gd) (n : ByteArray) : voidT (bkG x) n = false := List.any_eq_false.2 fun m _ => by rw [wd_G]; simp
theorem tst_bd (h : GdOk x) : 1 ≤ (tstG x).lo ∧ (tstG x).lo ≤ (tstG x).hi ∧ (tstG x).hi ≤ 10000000 ∧ (tstG x).lo * 1000 ≤ x.v * x.g ∧ x.v * x.g ≤ (tstG x).hi * 1000 := by
  obtain ⟨a, b⟩ := gd_prod h
  have c := h.s0
  have d := h.s1
  show 1 ≤ max 1 (x.v * x.g / 1000 - x.slip) ∧ max 1 (x.v * x.g / 1000 - x.slip) ≤ (x.v * x.g + 999) / 1000 + x.slip ∧ (x.v * x.g + 999) / 1000 + x.slip ≤ 10000000 ∧ max 1 (x.v * x.g / 1000 - x.slip) * 1000 ≤ x.v * x.g ∧ x.v * x.g ≤ ((x.v * x.g + 999) / 1000 + x.slip) * 1000
  generalize x.v * x.g = p at *
  omega
theorem testG (h : GdOk x) : testE (bkG2 x) (tstG x) = 0 := by
  obtain ⟨a, b, c, -, -⟩ := tst_bd h
  have h1 : inS (tstG x).lo (tstG x).hi 1 1000000000 = true := inS_iff.2 ⟨a, b, by omega⟩
  have h2 : inR (tstG x).time 0 4294967296 = true := rfl
  have h3 : inR (tstG x).time (stdG x).time (stdG x).stop = true := rfl
  have hd : driftT (bkG2 x) (tstG x).radar = some x.drift := by
    show driftT (.define (stdG x) :: [.radar ⟨#[114]⟩ x.drift]) ⟨#[114]⟩ = _
    rw [driftT, driftT]
    · exact if_pos rfl
    all_goals (intro _ _ h; cases h)
  unfold testE
  rw [if_neg (by show ¬ 2000 ≤ 2; omega), hd, show stdT (bkG2 x) (tstG x).std = some (stdG x) from stdT_G x]
  simp only
  rw [if_neg (by show ¬ 512 ≤ 0; omega), h1, h2, if_neg (by simp), void_G2, h3, if_neg (by simp)]
theorem gain1 (h : GdOk x) : 1 ≤ (gainT (bkG2 x) (tstG x)).1 ∧ (gainT (bkG2 x) (tstG x)).1 ≤ x.g ∧ x.g ≤ (gainT (bkG2 x) (tstG x)).2 := by
  obtain ⟨a, b, c, d, e⟩ := tst_bd h
  have v0 := h.v0
  have v1 := h.v1
  have l0 := h.l0
  have m0 := h.m0
  have g0 := h.g0
  have hv : valueT (bkG2 x) (stdG x) (tstG x).time = (max 1 (x.v - x.less), min 1000000 (x.v + x.more)) := by
    have hm : madeT (bkG2 x) (stdG x).name = (max 1 (x.v - x.less), min 1000000 (x.v + x.more)) := by
      unfold bkG2
      rw [madeT, if_pos rfl, if_pos (show (stdG x).par = ByteArray.empty from rfl)]
      rfl
    unfold valueT
    rw [hm]
    show widenS _ x.drift 0 0 = _
    unfold widenS upD
    simp
  have he : gainT (bkG2 x) (tstG x) = (max 1 (1000 * (tstG x).lo / min 1000000 (x.v + x.more)), upD (1000 * (tstG x).hi) (max 1 (x.v - x.less))) := by
    unfold gainT
    rw [show stdT (bkG2 x) (tstG x).std = some (stdG x) from stdT_G x]
    simp only
    rw [hv]
  obtain ⟨p, q⟩ := gain_truth (den := 1) (val := x.v) (G := x.g) (lo := (tstG x).lo) (hi := (tstG x).hi) (v1 := max 1 (x.v - x.less)) (v2 := min 1000000 (x.v + x.more)) (by omega) (by omega) (by omega) (by omega) (by omega) (by omega) (by omega) (by omega) (by omega)
  rw [he]
  simp only
  omega
theorem gainG (h : GdOk x) {t : Int} (t0 : 0 ≤ t) (t1 : t ≤ 4000) : ∃ s : Int × Int, gainE (bkG x) ⟨#[114]⟩ t = (s, (0, 0), 0) ∧ 1 ≤ s.1 ∧ s.1 ≤ x.g ∧ x.g ≤ s.2 := by
  obtain ⟨a, b, c⟩ := gain1 h
  have g0 := h.g0
  have hd : driftT (bkG x) ⟨#[114]⟩ = some x.drift := by
    show driftT (.test (tstG x) :: .define (stdG x) :: [.radar ⟨#[114]⟩ x.drift]) ⟨#[114]⟩ = _
    rw [driftT, driftT, driftT]
    · exact if_pos rfl
    all_goals (intro _ _ h; cases h)
  have hT : testInfo (bkG x) = [(tstG x, gainT (bkG2 x) (tstG x))] := rfl
  have hn : (testsT (bkG x)).length = 1 := rfl
  unfold gainE
  rw [hd]
  simp only
  rw [if_neg (by rw [inR_iff.2 ⟨t0, by omega⟩]; simp), hT, hn]
  refine gainQ_holds ?_ ?_
  · exact selN_some _ _ _ _ _ (i := 0) rfl rfl (void_G x _)
  · intro y hy
    obtain ⟨z, hz, e⟩ := selN_mem _ _ _ _ _ _ y hy
    have hz' : z = (tstG x, gainT (bkG2 x) (tstG x)) := by simpa using hz
    subst hz'
    rw [e]
    have hq : 0 ≤ upD (x.drift * max (t - 0) (0 - t)) 86400 := (upD_bd (Int.mul_nonneg h.d0 (by omega)) (by omega)).1
    show 1 ≤ (widenS (gainT (bkG2 x) (tstG x)) x.drift 0 t).1 ∧ (widenS (gainT (bkG2 x) (tstG x)) x.drift 0 t).1 ≤ x.g ∧ x.g ≤ (widenS (gainT (bkG2 x) (tstG x)) x.drift 0 t).2
    unfold widenS
    simp only
    omega
end
/-- A corrected power lies within all powers. -/
theorem correct_bd {p s c : Int × Int} (h : correctR p s = (c, 0)) : 0 ≤ c.1 ∧ c.1 ≤ 1073741824 ∧ 0 ≤ c.2 ∧ c.2 ≤ 1073741824 := by
  unfold correctR at h
  split at h
  · rename_i hk
    rw [Bool.and_eq_true] at hk
    obtain ⟨a1, a2, a3⟩ := inS_iff.1 hk.1
    obtain ⟨b1, b2, b3⟩ := inS_iff.1 hk.2
    have e : c = (min 1073741824 (1000 * p.1 / s.2), min 1073741824 (upD (1000 * p.2) s.1)) := (congrArg Prod.fst h).symm
    have q1 : 0 ≤ 1000 * p.1 / s.2 := Int.ediv_nonneg (by omega) (by omega)
    have q2 := (upD_bd (a := 1000 * p.2) (b := s.1) (by omega) b1).1
    rw [e]
    simp only
    omega
  · have := congrArg Prod.snd h
    simp at this

/-! ### Rates -/
theorem chkGo_more {m M : Int} (h : m ≤ M) : ∀ (l : List (Int × Int)) (k : Nat) (bz br : Int), chkGo m k bz br l = 0 → chkGo M k bz br l = 0
  | [], _, _, _, _ => rfl
  | p :: t, k, bz, br, h0 => by
    rw [chkGo] at h0 ⊢
    split at h0
    · exact absurd h0 (by omega)
    · rename_i hw
      split at h0
      · exact absurd h0 (by omega)
      · rename_i ho
        have hw' : win p.1 0 1073741824 = true ∧ win p.2 0 M = true := by
          have hh : win p.1 0 1073741824 = true ∧ win p.2 0 m = true := by simpa using hw
          have := win_iff.1 hh.2
          exact ⟨hh.1, win_iff.2 ⟨by omega, by omega⟩⟩
        rw [if_neg (fun hc => hc hw'), if_neg ho]
        exact chkGo_more h t _ _ _ h0
theorem chk_more {m M : Int} (h : m ≤ M) {l : List (Int × Int)} (h0 : chk l m = 0) : chk l M = 0 := by
  unfold chk at h0 ⊢
  split at h0
  · exact absurd h0 (by omega)
  · rename_i h1
    rw [if_neg h1]
    split at h0
    · exact absurd h0 (by omega)
    · rename_i h2
      rw [if_neg h2]
      exact chkGo_more h l _ _ _ h0
theorem val_in {l : List (Int × Int)} {most : Int} (hT : Tab l most) {z : Int} (h0 : 0 ≤ z) : 0 ≤ (valGo z l).1 ∧ (valGo z l).1 ≤ (valGo z l).2 ∧ (valGo z l).2 ≤ most := by
  have hl := hT.len
  have h1 := val_lo hT (z := z) (l.length - 1) 0 (by omega) (by rw [hT.z0]; exact h0)
  rw [List.drop_zero] at h1
  have h2 := hT.rng 0 (by omega)
  have h3 := hT.rng (l.length - 1) (by omega)
  have h4 := val_mono hT (y := z) (z := max z (l.getD (l.length - 1) P0).1) h0 (by omega)
  rw [val_end hT (i := l.length - 1) (by omega) (z := max z (l.getD (l.length - 1) P0).1) (by omega)] at h4
  simp only at h4
  omega

/-! ### Readings and their sum -/
section
variable (pace : Int) (f t : Nat → Int × Int)
/-- The cells of the readings. -/
def rdG : Nat → List Int
  | 0 => []
  | n + 1 => rdG n ++ [n * pace, (f n).1, (f n).2]
/-- What fell in truth: at least and at most. -/
def leG : Nat → Int
  | 0 => 0
  | n + 1 => leG n + (t n).1 * pace
def moG : Nat → Int
  | 0 => 0
  | n + 1 => moG n + (t n).2 * pace
theorem rdG_len : ∀ n, (rdG pace f n).length = n * 3
  | 0 => rfl
  | n + 1 => by rw [rdG, List.length_append, rdG_len n]; simp; omega
theorem rdG_get : ∀ (n k : Nat), k < n → (rdG pace f n).getD (k * 3) 0 = k * pace ∧ (rdG pace f n).getD (k * 3 + 1) 0 = (f k).1 ∧ (rdG pace f n).getD (k * 3 + 2) 0 = (f k).2
  | n + 1, k, hk => by
    have hl := rdG_len pace f n
    rw [rdG]
    rcases Nat.lt_or_ge k n with h | h
    · obtain ⟨a, b, c⟩ := rdG_get n k h
      simp only [List.getD_eq_getElem?_getD] at *
      rw [List.getElem?_append_left (by omega), List.getElem?_append_left (by omega), List.getElem?_append_left (by omega)]
      exact ⟨a, b, c⟩
    · obtain rfl : k = n := by omega
      simp only [List.getD_eq_getElem?_getD]
      rw [List.getElem?_append_right (by omega), List.getElem?_append_right (by omega), List.getElem?_append_right (by omega), hl, show k * 3 - k * 3 = 0 by omega, show k * 3 + 1 - k * 3 = 1 by omega, show k * 3 + 2 - k * 3 = 2 by omega]
      exact ⟨rfl, rfl, rfl⟩
structure RdOk (n : Nat) : Prop where
  p0 : 1 ≤ pace
  p1 : pace ≤ 600
  n6 : n ≤ 6
  lo : ∀ k, k < n → 0 ≤ (f k).1 ∧ (f k).1 ≤ (t k).1
  in_ : ∀ k, k < n → 0 ≤ (t k).1 ∧ (t k).1 ≤ (t k).2 ∧ (t k).2 ≤ 1000000
  hi : ∀ k, k < n → (t k).2 ≤ (f k).2 ∧ (f k).2 ≤ 1000000
variable {pace f t}
theorem le_bd {n : Nat} (h : RdOk pace f t n) : ∀ k, k ≤ n → 0 ≤ leG pace t k ∧ leG pace t k ≤ moG pace t k ∧ moG pace t k ≤ k * 600000000
  | 0, _ => by simp [leG, moG]
  | k + 1, hk => by
    obtain ⟨a, b, c⟩ := le_bd h k (by omega)
    obtain ⟨d, e, g⟩ := h.in_ k (by omega)
    have p0 := h.p0
    have p1 := h.p1
    have e1 : 0 ≤ (t k).1 * pace := Int.mul_nonneg d (by omega)
    have e2 : (t k).1 * pace ≤ (t k).2 * pace := Int.mul_le_mul_of_nonneg_right e (by omega)
    have e3 : (t k).2 * pace ≤ 1000000 * 600 := Int.mul_le_mul g p1 (by omega) (by omega)
    rw [leG, moG]
    omega
theorem time_step {k : Nat} : ((k + 1 : Nat) : Int) * pace = k * pace + pace := by rw [Int.natCast_add, Int.add_mul]; simp
theorem rd_good {n : Nat} (h : RdOk pace f t n) : Good3 (fun j => (rdG pace f n).getD j 0) n where
  ok := fun k hk => by
    obtain ⟨a, b, c⟩ := rdG_get pace f n k hk
    obtain ⟨d, e⟩ := h.lo k hk
    obtain ⟨i, j, -⟩ := h.in_ k hk
    obtain ⟨q, r⟩ := h.hi k hk
    have p0 := h.p0
    have p1 := h.p1
    have n6 := h.n6
    have e1 : (0 : Int) ≤ k * pace := Int.mul_nonneg (by omega) (by omega)
    have e2 : (k : Int) * pace ≤ 6 * 600 := Int.mul_le_mul (by omega) p1 (by omega) (by omega)
    refine okR_iff.2 ?_
    rw [a, b, c]
    omega
  up := fun k hk => by
    have a := (rdG_get pace f n k (by omega)).1
    have b := (rdG_get pace f n (k + 1) hk).1
    have p0 := h.p0
    have e := time_step (pace := pace) (k := k)
    show (rdG pace f n).getD (k * 3) 0 < (rdG pace f n).getD ((k + 1) * 3) 0
    rw [a, b, e]
    omega
/-- Sums of pieces against what fell. -/
theorem ps_in {n : Nat} (h : RdOk pace f t n) : ∀ k, k < n → psL (fun j => (rdG pace f n).getD j 0) k ≤ leG pace t k ∧ moG pace t k ≤ psH (fun j => (rdG pace f n).getD j 0) k ∧ 0 ≤ psL (fun j => (rdG pace f n).getD j 0) k ∧ psH (fun j => (rdG pace f n).getD j 0) k ≤ k * 600000000
  | 0, _ => by simp [psL, psH, leG, moG]
  | k + 1, hk => by
    obtain ⟨a, b, c, d⟩ := ps_in h k (by omega)
    obtain ⟨g1, g2, g3⟩ := rdG_get pace f n k (by omega)
    obtain ⟨h1, h2, h3⟩ := rdG_get pace f n (k + 1) hk
    obtain ⟨l1, l2⟩ := h.lo k (by omega)
    obtain ⟨u1, u2⟩ := h.hi k (by omega)
    obtain ⟨m1, m2⟩ := h.lo (k + 1) (by omega)
    obtain ⟨v1, v2⟩ := h.hi (k + 1) (by omega)
    obtain ⟨i1, i2, i3⟩ := h.in_ k (by omega)
    have p0 := h.p0
    have p1 := h.p1
    have e := time_step (pace := pace) (k := k)
    rw [psL, psH, leG, moG]
    rw [g1, g2, g3, h1, h2, h3, e, show (k : Int) * pace + pace - k * pace = pace by omega]
    have x1 : pace * min (f k).1 (f (k + 1)).1 ≤ pace * (t k).1 := Int.mul_le_mul_of_nonneg_left (by omega) (by omega)
    have x2 : pace * (t k).2 ≤ pace * max (f k).2 (f (k + 1)).2 := Int.mul_le_mul_of_nonneg_left (by omega) (by omega)
    have x3 : 0 ≤ pace * min (f k).1 (f (k + 1)).1 := Int.mul_nonneg (by omega) (by omega)
    have x4 : pace * max (f k).2 (f (k + 1)).2 ≤ 600 * 1000000 := Int.mul_le_mul p1 (by omega) (by omega) (by omega)
    have y1 := Int.mul_comm pace (t k).1
    have y2 := Int.mul_comm pace (t k).2
    omega
theorem tot_in {n : Nat} (h : RdOk pace f t n) (hn : 0 < n) : totL (fun j => (rdG pace f n).getD j 0) n (n * pace) ≤ leG pace t n ∧ moG pace t n ≤ totH (fun j => (rdG pace f n).getD j 0) n (n * pace) ∧ 0 ≤ totL (fun j => (rdG pace f n).getD j 0) n (n * pace) ∧ totH (fun j => (rdG pace f n).getD j 0) n (n * pace) ≤ n * 600000000 := by
  obtain ⟨m, rfl⟩ : ∃ m, n = m + 1 := ⟨n - 1, by omega⟩
  obtain ⟨a, b, c, d⟩ := ps_in h m (by omega)
  obtain ⟨g1, g2, g3⟩ := rdG_get pace f (m + 1) m (by omega)
  obtain ⟨l1, l2⟩ := h.lo m (by omega)
  obtain ⟨u1, u2⟩ := h.hi m (by omega)
  obtain ⟨i1, i2, i3⟩ := h.in_ m (by omega)
  have p0 := h.p0
  have p1 := h.p1
  have e := time_step (pace := pace) (k := m)
  unfold totL totH
  rw [Nat.add_sub_cancel]
  simp only
  rw [g1, g2, g3, e, show (m : Int) * pace + pace - m * pace = pace by omega, leG, moG]
  have x1 : pace * (f m).1 ≤ pace * (t m).1 := Int.mul_le_mul_of_nonneg_left (by omega) (by omega)
  have x2 : pace * (t m).2 ≤ pace * (f m).2 := Int.mul_le_mul_of_nonneg_left (by omega) (by omega)
  have x3 : 0 ≤ pace * (f m).1 := Int.mul_nonneg (by omega) (by omega)
  have x4 : pace * (f m).2 ≤ 600 * 1000000 := Int.mul_le_mul p1 (by omega) (by omega) (by omega)
  have y1 := Int.mul_comm pace (t m).1
  have y2 := Int.mul_comm pace (t m).2
  omega
/-- The sum holds what fell. -/
theorem sum_in {n : Nat} {sl : Int} (h : RdOk pace f t n) (hn : 0 < n) (s0 : 0 ≤ sl) (s1 : sl ≤ 1000) : ∃ S : Int × Int, sumR (fun j => (rdG pace f n).getD j 0) n (n * pace) sl = (S, 0) ∧ 0 ≤ S.1 ∧ S.1 * 360 ≤ leG pace t n ∧ moG pace t n ≤ S.2 * 360 ∧ S.2 ≤ 30000000 := by
  have hg := rd_good h
  have n6 := h.n6
  have p0 := h.p0
  have p1 := h.p1
  obtain ⟨a, b, c, d⟩ := tot_in h hn
  have e1 : (0 : Int) ≤ n * pace := Int.mul_nonneg (by omega) (by omega)
  have e2 : (n : Int) * pace ≤ 6 * 600 := Int.mul_le_mul (by omega) p1 (by omega) (by omega)
  have hz : (rdG pace f n).getD ((n - 1) * 3) 0 ≤ n * pace := by
    rw [(rdG_get pace f n (n - 1) (by omega)).1]
    exact Int.mul_le_mul_of_nonneg_right (by omega) (by omega)
  refine ⟨_, sumR_good hg hn e1 (by omega) s0 s1 hz, ?_⟩
  have hle := le_bd h n (Nat.le_refl _)
  simp only
  generalize totL (fun j => (rdG pace f n).getD j 0) n (n * pace) = P at *
  generalize totH (fun j => (rdG pace f n).getD j 0) n (n * pace) = Q at *
  have x1 : P * (1000 - sl) ≤ P * 1000 := Int.mul_le_mul_of_nonneg_left (by omega) c
  have x2 : 0 ≤ P * (1000 - sl) := Int.mul_nonneg c (by omega)
  have x3 : Q * 1000 ≤ Q * (1000 + sl) := Int.mul_le_mul_of_nonneg_left (by omega) (by omega)
  have x4 : Q * (1000 + sl) ≤ 3600000000 * 2000 := Int.mul_le_mul (by omega) (by omega) (by omega) (by omega)
  rw [cdiv_eq (by omega)]
  generalize P * (1000 - sl) = PP at *
  generalize Q * (1000 + sl) = QQ at *
  omega
end

/-! ### Pairs -/
section
variable (S : Int × Int) (le : Int) (sz : Nat → Int)
/-- The cells of the pairs. -/
def paG : Nat → List Int
  | 0 => []
  | n + 1 => paG n ++ [S.1, S.2, le / 360 / sz n, sz n]
theorem paG_len : ∀ n, (paG S le sz n).length = n * 4
  | 0 => rfl
  | n + 1 => by rw [paG, List.length_append, paG_len n]; simp; omega
theorem paG_get : ∀ (n k : Nat), k < n → (paG S le sz n).getD (k * 4) 0 = S.1 ∧ (paG S le sz n).getD (k * 4 + 1) 0 = S.2 ∧ (paG S le sz n).getD (k * 4 + 2) 0 = le / 360 / sz k ∧ (paG S le sz n).getD (k * 4 + 3) 0 = sz k
  | n + 1, k, hk => by
    have hl := paG_len S le sz n
    rw [paG]
    rcases Nat.lt_or_ge k n with h | h
    · obtain ⟨a, b, c, d⟩ := paG_get n k h
      simp only [List.getD_eq_getElem?_getD] at *
      rw [List.getElem?_append_left (by omega), List.getElem?_append_left (by omega), List.getElem?_append_left (by omega), List.getElem?_append_left (by omega)]
      exact ⟨a, b, c, d⟩
    · obtain rfl : k = n := by omega
      simp only [List.getD_eq_getElem?_getD]
      rw [List.getElem?_append_right (by omega), List.getElem?_append_right (by omega), List.getElem?_append_right (by omega), List.getElem?_append_right (by omega), hl, show k * 4 - k * 4 = 0 by omega, show k * 4 + 1 - k * 4 = 1 by omega, show k * 4 + 2 - k * 4 = 2 by omega, show k * 4 + 3 - k * 4 = 3 by omega]
      exact ⟨rfl, rfl, rfl, rfl⟩
variable {S le sz}
theorem size_bd (h0 : 0 ≤ le) (h1 : le ≤ 3600000000) {s : Int} (s0 : 10 ≤ s) (s1 : s ≤ 9999) : 0 ≤ le / 360 / s ∧ le / 360 / s ≤ 1000000 ∧ le / 360 / s * s ≤ le / 360 ∧ le / 360 < (le / 360 / s + 1) * s := by
  obtain ⟨q, hq⟩ : ∃ q, le / 360 = q := ⟨_, rfl⟩
  have hq0 : 0 ≤ q ∧ q ≤ 10000000 := by omega
  rw [hq]
  have a : 0 ≤ q / s := Int.ediv_nonneg (by omega) (by omega)
  have b : q / s * s ≤ q := Int.ediv_mul_le _ (by omega)
  have c : q < (q / s + 1) * s := Int.lt_ediv_add_one_mul_self _ (by omega)
  have d : q / s * 10 ≤ q / s * s := Int.mul_le_mul_of_nonneg_left s0 a
  exact ⟨a, by omega, b, c⟩
/-- The scale 1,000 suits each pair. -/
theorem pair_in {s : Int} (h0 : 0 ≤ le) (h1 : le ≤ 3600000000) (a0 : 0 ≤ S.1) (a1 : S.1 * 360 ≤ le) (a2 : le ≤ S.2 * 360) (a3 : S.2 ≤ 30000000) (s0 : 10 ≤ s) (s1 : s ≤ 9999) :
    okP4 S.1 S.2 (le / 360 / s) s = true ∧ (scS S.1 S.2 (le / 360 / s) s).1 ≤ 1000 ∧ 1000 ≤ (scS S.1 S.2 (le / 360 / s) s).2 := by
  obtain ⟨b0, b1, b2, b3⟩ := size_bd h0 h1 s0 s1
  generalize le / 360 / s = q at *
  have e1 : (q - 1) * s = q * s - s := by rw [Int.sub_mul]; omega
  have e2 : (q + 1) * s = q * s + s := by rw [Int.add_mul]; omega
  have hf1 : (fellS q s).1 ≤ S.2 ∧ 0 ≤ (fellS q s).1 := by unfold fellS; simp only; omega
  have hf2 : S.1 ≤ (fellS q s).2 := by unfold fellS; simp only; omega
  refine ⟨?_, ?_⟩
  · simp only [okP4, ins, okG, win, Bool.and_eq_true, decide_eq_true_eq]
    omega
  · unfold scS
    generalize (fellS q s).1 = f1 at *
    generalize (fellS q s).2 = f2 at *
    by_cases hh : 0 < S.2
    · rw [if_pos hh]
      simp only
      have c1 : cdiv (1000 * f1) S.2 ≤ 1000 := cdiv_le (by omega) (by omega)
      refine ⟨by omega, ?_⟩
      by_cases hl : 0 < S.1
      · rw [if_pos hl]
        have c2 : 1000 ≤ 1000 * f2 / S.1 := Int.le_ediv_of_mul_le hl (by omega)
        omega
      · rw [if_neg hl]; omega
    · rw [if_neg hh, if_neg (by omega)]
      simp
theorem adj_in {n : Nat} (h0 : 0 ≤ le) (h1 : le ≤ 3600000000) (a0 : 0 ≤ S.1) (a1 : S.1 * 360 ≤ le) (a2 : le ≤ S.2 * 360) (a3 : S.2 ≤ 30000000) (hs : ∀ k, 10 ≤ sz k ∧ sz k ≤ 9999) (hn : 0 < n) (hn5 : n ≤ 5) :
    ∃ r : Int × Int, adjG (okZ (fun j => (paG S le sz n).getD j 0)) (scZ (fun j => (paG S le sz n).getD j 0)) n = ((r, (0, 0)), 0) ∧ r.1 ≤ 1000 ∧ 1000 ≤ r.2 := by
  have each : ∀ k, k < n → okZ (fun j => (paG S le sz n).getD j 0) k = true ∧ (scZ (fun j => (paG S le sz n).getD j 0) k).1 ≤ 1000 ∧ 1000 ≤ (scZ (fun j => (paG S le sz n).getD j 0) k).2 := fun k hk => by
    obtain ⟨g1, g2, g3, g4⟩ := paG_get S le sz n k hk
    unfold okZ scZ
    simp only
    rw [g1, g2, g3, g4]
    exact pair_in h0 h1 a0 a1 a2 a3 (hs k).1 (hs k).2
  have hm : ∀ k, k ≤ n → (meetG (scZ (fun j => (paG S le sz n).getD j 0)) (1, 100000) k).1 ≤ 1000 ∧ 1000 ≤ (meetG (scZ (fun j => (paG S le sz n).getD j 0)) (1, 100000) k).2 := by
    intro k
    induction k with
    | zero => intro _; simp [meetG]
    | succ k ih =>
      intro hk
      have i1 := ih (by omega)
      have i2 := each k (by omega)
      rw [meetG]
      unfold meetS
      simp only
      omega
  have hmn := hm n (Nat.le_refl _)
  refine ⟨_, ?_, hmn.1, hmn.2⟩
  unfold adjG
  rw [if_neg (by omega), if_neg (by omega), if_neg (by rw [List.all_eq_true.2 (fun k hk => (each k (List.mem_range.1 hk)).1)]; simp), if_pos (by omega)]
end
end Go.Proofs.Ytjkelpelmljanaa
namespace Go.Proofs.Ytjkelpelmljanaa
open Go Go.RowKit

/-- The book, when the radar's drift is in its map. -/
theorem bookQ_radar {l : List Ent} {p : Nat} {L : Lay} {w w5 : World} {n : ByteArray} {d : Int} (h : BookR l p L w) (hok : okEnt l (.radar n d) = true) (hn : driftT l n = none)
    (hm : MapV w5 Try.prog 9 L.br (putF (fun q => (driftT l q).map (Value.int .i64)) n (.int .i64 d)) (if ((fun q => (driftT l q).map (Value.int .i64)) n).isSome then (radarsT l).length else (radarsT l).length + 1))
    (hk : ∀ k, k < w.heap.size → k ≠ L.br → w5.heap[k]? = w.heap[k]?) : BookQ (.radar n d) l p L w5 := by
  have hlt := h.lt
  have hnd := h.nodup
  have hk' : ∀ k ∈ L.all p, k ≠ L.br → w5.heap[k]? = w.heap[k]? := fun k hm => hk k (hlt k hm)
  have hne : ∀ k ∈ L.bs :: L.bw :: L.bv :: (optL L.vo ++ (optL L.vt ++ (optL L.ve ++ (L.kb ++ L.cb.flatten)))), w5.heap[k]? = w.heap[k]? := fun k hm => by
    unfold Lay.all at hnd
    rw [List.nodup_cons, List.nodup_cons] at hnd
    exact hk' k (by unfold Lay.all; exact List.mem_cons_of_mem _ (List.mem_cons_of_mem _ hm)) fun e => hnd.2.1 (e ▸ hm)
  have hp : w5.heap[p]? = w.heap[p]? := hk' p (by simp [Lay.all]) fun e => by
    unfold Lay.all at hnd
    rw [List.nodup_cons] at hnd
    exact hnd.1 (by rw [e]; simp)
  obtain ⟨c6, h6a, h6⟩ := h.wd
  obtain ⟨c7, h7a, h7⟩ := h.void
  have hm2 : MapV w5 Try.prog 9 L.br (fun m => (driftT (.radar n d :: l) m).map (Value.int .i64)) (radarsT (.radar n d :: l)).length := by
    have e1 : (if ((fun q => (driftT l q).map (Value.int .i64)) n).isSome then (radarsT l).length else (radarsT l).length + 1) = (radarsT (.radar n d :: l)).length := by simp only [hn, Option.map_none]; rfl
    rw [e1] at hm
    refine hm.congr fun m => ?_
    unfold putF
    rw [driftT]
    by_cases e : m = n
    · rw [if_pos e, if_pos e.symm]; rfl
    · rw [if_neg e, if_neg (Ne.symm e)]
  refine ⟨⟨hok, h.good⟩, h.nodup, hp.trans h.book, hm2, h.stds.stab (hne _ (by simp)), ⟨c6, by simp; omega, h6.stab (hne _ (by simp))⟩, ⟨c7, Nat.le_trans h7a (Nat.mul_le_mul (by simp) (by simp)), h7.stab (hne _ (by simp))⟩,
    own_stabT h.order fun g hg => hne g (by simp [optL_mem hg]), own_stabT h.tests fun g hg => hne g (by simp [optL_mem hg]), own_stabT h.entries fun g hg => hne g (by simp [optL_mem hg]), h.knowns.stab fun k h' => hne k (by simp [h']), h.caps.stab fun k h' => hne k ?_⟩
  simp only [List.mem_cons, List.mem_append]
  exact .inr (.inr (.inr (.inr (.inr (.inr (.inr h'))))))

set_option maxHeartbeats 2000000 in
set_option maxRecDepth 100000 in
theorem Radar_any (l : List Ent) (p : Nat) (L : Lay) (n : ByteArray) (d : Int) (w : World) (hb : BookR l p L w) (hn : n.size ≤ maxLen) :
    Calls Try.prog 7 #[ptrB p, .string n, .int .i64 d] w fun e w' => e = .returned (.int .i64 (radarE l n d)) ∧ EntPost l p L w (.radar n d) (radarE l n d) w' := by
  obtain ⟨Ao, co, At, ct, Ae, ce, e1, e2, e3, hk⟩ := hb.cells
  have hE : radarE l n d = if 2000 ≤ l.length then 13 else if nameB n = false then 10 else if (driftT l n).isSome then 5 else if 32 ≤ (radarsT l).length then 9 else if inR d 0 1000000 = false then 3 else 0 := rfl
  have hp := fun (ev : Int) (W : World) (h : Below w.heap.size w W) (he : ev ≠ 0) => EntPost.same (x := .radar n d) (ev := ev) hb h he
  have hl := fun W hw => look_radar (W := W) hb hw hn
  have hlen := fun W (hw : Below w.heap.size w W) ty => (hb.later hw).radars.len (t := 65) (e := 3) Try.underlying65 ty
  have hnm := fun W => Name_any n W (by unfold maxLen at hn; omega)
  have hwi := fun W => within_any d 0 1000000 W
  generalize hr : radarE l n d = r at *
  unfold ptrB
  have hst := fun W (h : Below w.heap.size w W) => state_any p l.length ce _ _ _ _ _ _ Ae W (blk_later hk h)
  have Hk := hide hk
  have Hp := hide hp
  have Hl := hide hl
  have Hlen := hide hlen
  have Hnm := hide hnm
  have Hwi := hide hwi
  have Hst := hide hst
  clear hk hp hl hlen hnm hwi hst
  by_cases c1 : 2000 ≤ l.length
  · rw [if_pos c1] at hE
    have hs13 : stateE l.length = 13 := by unfold stateE; rw [if_pos c1]
    rw [hs13] at Hst
    subst hE
    clear c1 hs13
    go_enter Try.func7, Try.ntmps7
    have HB := hide (Below.refl w.heap.size w)
    go_wp2_with fail
    refine at_world fun W1 hW => ?_
    have bq0 : Blk W1 w.heap.size 9 #[.string n] := by rw [hW]; exact (Blk.new _ _ _).alloc _
    have bq1 : Blk W1 (w.heap.size + 1) 3 #[.int .i64 d] := by rw [hW]; exact blk_new_at (by simp)
    have LW : Later w W1 := by rw [hW]; exact (((Below.refl _ _).alloc (Nat.le_refl _) _).alloc (by simp; try omega) _)
    have szW : W1.heap.size = w.heap.size + 2 := by rw [hW]; simp
    clear hW
    replace HB := hide (onward HB.out LW)
    replace Hk := hide (blk_later Hk.out LW)
    have Hs := hide bq0
    have Hd := hide bq1
    clear bq0 bq1 LW szW
    refine (Hst.out _ HB.out).mono ?_
    rintro e w2 ⟨rfl, hb⟩
    replace HB := hide (onward HB.out hb)
    replace Hk := hide (blk_later Hk.out hb)
    replace Hs := hide (blk_later Hs.out hb)
    replace Hd := hide (blk_later Hd.out hb)
    clear hb
    go_wp2
    go_ret
    exact ⟨rfl, Hp.out 13 _ HB.out (by decide)⟩
  · rw [if_neg c1] at hE
    have hs0 : stateE l.length = 0 := by unfold stateE; rw [if_neg c1]
    rw [hs0] at Hst
    clear hs0
    have hn9 : n.size ≤ maxLen := hn
    go_enter Try.func7, Try.ntmps7
    have HB := hide (Below.refl w.heap.size w)
    go_wp2_with fail
    refine at_world fun W1 hW => ?_
    have bq0 : Blk W1 w.heap.size 9 #[.string n] := by rw [hW]; exact (Blk.new _ _ _).alloc _
    have bq1 : Blk W1 (w.heap.size + 1) 3 #[.int .i64 d] := by rw [hW]; exact blk_new_at (by simp)
    have LW : Later w W1 := by rw [hW]; exact (((Below.refl _ _).alloc (Nat.le_refl _) _).alloc (by simp; try omega) _)
    have szW : W1.heap.size = w.heap.size + 2 := by rw [hW]; simp
    clear hW
    replace HB := hide (onward HB.out LW)
    replace Hk := hide (blk_later Hk.out LW)
    have Hs := hide bq0
    have Hd := hide bq1
    clear bq0 bq1 LW szW
    refine (Hst.out _ HB.out).mono ?_
    rintro e w2 ⟨rfl, hb⟩
    replace HB := hide (onward HB.out hb)
    replace Hk := hide (blk_later Hk.out hb)
    replace Hs := hide (blk_later Hs.out hb)
    replace Hd := hide (blk_later Hd.out hb)
    clear hb
    go_wp2_with fail
    obtain ⟨x0, x1, x2, x3, x4, x5, x6, x7⟩ := Hk.out.c8
    have n0 := Hs.out.c 0 rfl
    have ltk := Hk.out.lt
    have lts := Hs.out.lt
    apply wp_region_L (w0 := w2) [[], [], [], [], [], [], [], [], [], [], []] [true, true, true, true, true, true, true, true, true, true, true] [] (fun ixq y => match ixq with  | _ => undef) (fun ixq x F wq => match ixq with  | _ => True) (fun a x => a) (by kernel_rfl) (by kernel_rfl) (fun _ => rfl) [17, 21] (by kernel_rfl)
    · intro x D hD
      have hne := hD.some
      have k1 := liftB hD x1 (by first | assumption | omega)
      have kn := liftB hD n0 (by first | assumption | omega)
      have hlk := fun (x : Of D) => Hl.out x.val (onward HB.out (kb hD x))
      simp only [takeOps, Act.put, List.setIfInBounds_toArray, List.set_cons_succ, List.set_cons_zero]
      repeat (go_big_quiet_step (fail))
      exact wpQuiet_nil rfl
    · intro d hd x x'
      simp only [List.mem_cons, List.not_mem_nil, or_false] at hd
      rcases hd with rfl | rfl
      all_goals rfl
    · exact trivial
    · exact trivial
    intro xx w3 F hL3 hlv1
    clear hlv1
    clear x0 x1 x2 x3 x4 x5 x6 x7 n0 ltk lts
    replace HB := hide (onward HB.out hL3)
    replace Hk := hide (blk_later Hk.out hL3)
    replace Hs := hide (blk_later Hs.out hL3)
    replace Hd := hide (blk_later Hd.out hL3)
    clear hL3
    have n0 := Hs.out.c 0 rfl
    have lts := Hs.out.lt
    go_wp2_with fail
    clear n0 lts
    refine (Hnm.out _).mono ?_
    rintro e w4 ⟨rfl, hb⟩
    replace HB := hide (onward HB.out hb)
    replace Hk := hide (blk_later Hk.out hb)
    replace Hs := hide (blk_later Hs.out hb)
    replace Hd := hide (blk_later Hd.out hb)
    clear hb
    cases hnb : nameB n with
    | false =>
      rw [if_pos hnb] at hE
      subst hE
      go_wp2
      go_ret
      exact ⟨rfl, Hp.out 10 _ HB.out (by decide)⟩
    | true =>
      rw [if_neg (by rw [hnb]; simp)] at hE
      cases hdr : driftT l n with
      | some d0 =>
        rw [if_pos (by rw [hdr]; rfl)] at hE
        subst hE
        go_wp2
        go_ret
        exact ⟨rfl, Hp.out 5 _ HB.out (by decide)⟩
      | none =>
        rw [if_neg (by rw [hdr]; simp)] at hE
        obtain ⟨x0, x1, x2, x3, x4, x5, x6, x7⟩ := Hk.out.c8
        have ltk := Hk.out.lt
        have hln := Hlen.out w4 HB.out
        by_cases c2 : 32 ≤ (radarsT l).length
        · rw [if_pos c2] at hE
          subst hE
          have c2' : (32 : Int) ≤ (radarsT l).length := by omega
          go_wp2
          go_ret
          exact ⟨rfl, Hp.out 9 _ HB.out (by decide)⟩
        · rw [if_neg c2] at hE
          have c2' : ¬ (32 : Int) ≤ (radarsT l).length := by omega
          have d0 := Hd.out.c 0 rfl
          have ltd := Hd.out.lt
          go_wp2_with fail
          refine (Hwi.out _).mono ?_
          rintro e w' ⟨rfl, rfl⟩
          cases hir : inR d 0 1000000 with
          | false =>
            rw [if_pos hir] at hE
            subst hE
            go_wp2
            go_ret
            exact ⟨rfl, Hp.out 3 _ HB.out (by decide)⟩
          | true =>
            rw [if_neg (by rw [hir]; simp)] at hE
            have Hrm := hide (hb.later HB.out).radars
            have Hen := hide (hb.later HB.out).entries
            have hnd := hb.nodup
            have hbp : p ≠ L.br := fun e => by
              unfold Lay.all at hnd
              rw [List.nodup_cons] at hnd
              exact hnd.1 (by rw [e]; simp)
            have hep : L.ve.ownBlock ≠ some p := fun e => by
              unfold Lay.all at hnd
              rw [List.nodup_cons] at hnd
              exact hnd.1 (by simp [optL_mem e])
            have hok : okEnt l (.radar n d) = true := by show (radarE l n d == 0) = true; rw [hr, hE]; rfl
            have ltb := Hrm.out.lt
            have n0 := Hs.out.c 0 rfl
            have lts := Hs.out.lt
            go_wp2_with fail
            apply wp_region_F (w0 := w4) [[], [0], [0, 1], [0, 1, 2], [], [], [0, 1, 2, 3, 4, 5]] [true, true, true, true, true, true, false] [false, false, false, false, false, false, false] [⟨6, none, [], []⟩] [(6, L.br)] [6] (fun ixq y => match ixq with | 6 => undef | _ => undef) (fun ixq x F wq => match ixq with | 6 => F L.br ∧ MapV wq Try.prog 9 L.br (putF ((fun q => (driftT l q).map (Value.int .i64))) (n) (.int .i64 d)) (if (((fun q => (driftT l q).map (Value.int .i64))) (n)).isSome then (radarsT l).length else (radarsT l).length + 1) | _ => True) (fun a x => (a).put (none) (undef)) (by kernel_rfl) (by kernel_rfl) (by kernel_rfl) (fun _ => rfl) [42] (by kernel_rfl) (fills_lt1 (by omega)) fills_ne1
            · intro x D hD
              have hne := hD.some
              have k1 := liftS hD x1 (by exact early_all (by first | assumption | omega) (by rfl))
              have kn := liftS hD n0 (by exact early_all (by first | assumption | omega) (by rfl))
              have kd := liftS hD d0 (by exact early_all (by first | assumption | omega) (by rfl))
              simp only [takeOps, Act.put, List.setIfInBounds_toArray, List.set_cons_succ, List.set_cons_zero]
              repeat (go_big_quiet_step (fail))
              exact wpQuiet_nil rfl
            · exact fun x D hD => wpQuiet_nil rfl
            · intro d hd x x'
              simp only [List.mem_cons, List.not_mem_nil, or_false] at hd
              rcases hd with rfl
              all_goals rfl
            · refine ⟨?_, trivial⟩
              · exact obl_mapUpd 65 9 3 44 45 46 L.br ((radarsT l).length) ((fun q => (driftT l q).map (Value.int .i64))) (n) (.int .i64 d) (by kernel_rfl) (fun _ => rfl) (fun _ => rfl) (fun _ => rfl) Try.underlying9 Try.underlying65 (by unfold maxLen; omega) hn9 Hrm.out eb_fill1 (by simp [wrF]) (fun _ => rfl) (fun _ _ _ _ h1 h2 => ⟨h1, h2⟩)
            · refine ⟨?_, trivial⟩
              · exact owe_mapV _ _ _ _ _ (fun _ _ _ => rfl)
            intro xx w5 F hK hlv2
            obtain ⟨fct6, -⟩ := hlv2
            replace fct6 : (F 6) L.br ∧ MapV w5 Try.prog 9 L.br (putF ((fun q => (driftT l q).map (Value.int .i64))) (n) (.int .i64 d)) (if (((fun q => (driftT l q).map (Value.int .i64))) (n)).isSome then (radarsT l).length else (radarsT l).length + 1) := fct6 rfl
            have hgr := grown_kept hK
            have hmp := fct6.2
            have hbl5 : ∀ k, k < w4.heap.size → k ≠ L.br → w5.heap[k]? = w4.heap[k]? := fun k h1 h2 => hgr.block k h1 fun e => h2 (Option.some.inj e)
            have Q := bookQ_radar (hb.later HB.out) hok hdr hmp hbl5
            have hk5 := blk_grown Hk.out hgr (fun e => hbp (Option.some.inj e).symm)
            have hen5 := Q.entries
            rw [e3] at hen5 hep
            have hbrl := hb.lt L.br (by simp [Lay.all])
            have hs5 := blk_grown Hs.out hgr (fun e => by have := Option.some.inj e; omega)
            have hd5 := blk_grown Hd.out hgr (fun e => by have := Option.some.inj e; omega)
            have hw5 : w.heap.size ≤ w5.heap.size := Nat.le_trans HB.out.size hK.size
            have HK5 : Hid (Kept (fun k => k < w.heap.size ∧ k ∉ L.all p) w w5) := hide ⟨hgr.os.trans HB.out.os, hgr.tape.trans HB.out.tape, hgr.output.trans HB.out.output, hw5, fun k hk' => (hgr.block k (Nat.lt_of_lt_of_le hk'.1 HB.out.size) (fun e => hk'.2 (by rw [Option.some.inj e]; simp [Lay.all]))).trans (HB.out.block k hk'.1)⟩
            obtain ⟨i0, hii, hz0, hz1, hz2⟩ := info_parts funcInfo
            clear x0 x1 x2 x3 x4 x5 x6 x7 ltk d0 ltd n0 lts hln hmp fct6 hK hbl5 Hk Hs Hd Hrm Hen HB hgr ltb hbp
            have Hi := hide hii
            have Hz0 := hide hz0
            have Hz1 := hide hz1
            have Hz2 := hide hz2
            have Hk := hide hk5
            have Hen := hide hen5
            have Hs := hide hs5
            have Hd := hide hd5
            have HQ := hide Q
            clear hii hz0 hz1 hz2 hk5 hen5 hs5 hd5 Q
            obtain ⟨x0, x1, x2, x3, x4, x5, x6, x7⟩ := Hk.out.c8
            have ltk := Hk.out.lt
            go_wp2_with (at_builtin; refine wpList_append_own_at _ rfl (.tmp 51) (.tmp 53) _ rfl 0 76 i0 _ 1 8 Try.underlying70 Hi.out Hz0.out Hz1.out Hz2.out rfl (by decide) _ l.length _ rfl (Hen.out.alloc _) ⟨w5.heap.size, 0, none⟩ 1 1 [entF (.radar n d) [w.heap.size, w.heap.size + 1]] rfl rfl ?ka1 ?ka2 ?ka3 ?ka4 ?ka5 ?_)
            try case ka1 => exact new_cellsQ w5 _ [entF (.radar n d) [w.heap.size, w.heap.size + 1]]
            case ka2 => intro u hu; simp only [List.mem_singleton] at hu; subst hu; rfl
            case ka3 => unfold maxLen; omega
            case ka4 => omega
            case ka5 => exact Nat.zero_le _
            intro v' w6 hown hgrw _ hat
            obtain ⟨A9, c9, rfl⟩ := own_shape2 hown
            obtain ⟨q1, q2, q3⟩ := HQ.out.push (c := [w.heap.size, w.heap.size + 1]) ⟨_, _, rfl, Hs.out, Hd.out⟩ (by simp) (fun k hk' hm => by
              have := hb.lt k hm
              simp only [List.mem_cons, List.not_mem_nil, or_false] at hk'
              omega) (v := .slice A9 (l.length + 1) c9) (by rw [e3]; exact hgrw) hown (by rw [e3]; rw [World.size_alloc]; exact hat)
            have hk6 := blk_grown (Hk.out.alloc _) hgrw hep
            have hos : w6.os = w5.os ∧ w6.tape = w5.tape ∧ w6.output = w5.output := ⟨hgrw.os, hgrw.tape, hgrw.output⟩
            clear x0 x1 x2 x3 x4 x5 x6 x7 ltk hown hgrw Hk Hen
            have Hk := hide hk6
            have Q1 := hide q1
            have Q2 := hide q2
            have Q3 := hide q3
            have Hat := hide hat
            clear hk6 q1 q2 q3 hat
            have x7 := Hk.out.c 7 rfl
            have ltk := Hk.out.lt
            have fx7 := Hk.out.frozen 7
            go_wp2
            go_ret
            subst hE
            refine ⟨rfl, _, Q1.out, step_push HK5.out (fun k h => .inl h) (fun k hk' => ?_) ?_ Q2.out Q3.out hos⟩
            · simp only [List.mem_cons, List.not_mem_nil, or_false] at hk'; omega
            · rcases Hat.out with h1 | h1
              · exact .inl (by rw [e3]; exact h1)
              · exact .inr ⟨_, h1, by simp⟩
end Go.Proofs.Ytjkelpelmljanaa
namespace Go.Proofs.Ytjkelpelmljanaa
open Go Go.RowKit

theorem run_equalIn_arr2 {P : Program} {t e : TypeId} {k : IntKind} (ht : P.underlying t = some (.array 2 e)) (he : P.underlying e = some (.int k)) (hs : P.cellsOf e = 1) (n : Nat) (a b a' b' : Int) (w : World) :
    (Op.equalIn (n + 2) t (.agg #[.int k a, .int k b]) (.agg #[.int k a', .int k b'])).run P w = .ok (a == a' && b == b') w := by
  obtain ⟨i, hi⟩ := info_of_underlying he
  rw [run_equalIn_array w (n + 1) _ _ ht hi, hs]
  have hp : P.plainKey e = true := by unfold Program.plainKey; rw [he]
  have h0 : ∀ x y : Int, (part e #[Value.int k x, .int k y] 0).run P w = .ok (.int k x) w := fun x y => run_part_plain w hp rfl
  have h1 : ∀ x y : Int, (part e #[Value.int k x, .int k y] 1).run P w = .ok (.int k y) w := fun x y => run_part_plain w hp rfl
  have hq : ∀ x y : Int, (Op.equalIn (n + 1) e (.int k x) (.int k y)).run P w = .ok (x == y) w := fun x y => run_equalIn_int w n e k k x y he
  show (Op.eqItems (n + 1) e 1 _ _ [0, 1]).run P w = _
  simp only [Op.eqItems, Sem.run_bind, Nat.zero_mul, Nat.one_mul, h0, h1, hq, Result.andThen_ok]
  by_cases c0 : a = a' <;> by_cases c1 : b = b' <;> simp [c0, c1, h0, h1, hq, Sem.run_bind]
end Go.Proofs.Ytjkelpelmljanaa
namespace Go.Proofs.Ytjkelpelmljanaa
open Go Go.RowKit

/-- A book that was made behind a world: no elder memory is its own. -/
def BookN (l : List Ent) (p : Nat) (w0 w : World) : Prop := ∃ L, BookR l p L w ∧ Below w0.heap.size w0 w ∧ ∀ k ∈ L.all p, w0.heap.size ≤ k
theorem BookN.below {l : List Ent} {p : Nat} {w0 w : World} (h : BookN l p w0 w) : Below w0.heap.size w0 w := by
  obtain ⟨_, _, h, _⟩ := h
  exact h
theorem BookN.new {w0 w1 : World} {e : Ending} (h : NewPost w0 e w1) : ∃ p, e = .returned (ptrB p) ∧ BookN [] p w0 w1 := by
  obtain ⟨p, L, he, hb, hB, hL⟩ := h
  exact ⟨p, he, L, hb, hB, hL⟩
theorem BookN.later {l : List Ent} {p : Nat} {w0 w w' : World} (h : BookN l p w0 w) (hl : Below w.heap.size w w') : BookN l p w0 w' := by
  obtain ⟨L, hb, hB, hL⟩ := h
  exact ⟨L, hb.later hl, hB.trans (Below.mono hl hB.size), hL⟩
theorem BookN.step {l : List Ent} {p : Nat} {w0 w w' : World} {L : Lay} {x : Ent} {ev : Int} (hB : Below w0.heap.size w0 w) (hL : ∀ k ∈ L.all p, w0.heap.size ≤ k) (h : EntPost l p L w x ev w') : BookN (if ev = 0 then x :: l else l) p w0 w' := by
  obtain ⟨L', hb', hs⟩ := h
  have hsz := hB.size
  exact ⟨L', hb', hB.trans ⟨hs.kept.os, hs.kept.tape, hs.kept.output, hs.kept.size, fun k hk => hs.kept.block k ⟨by omega, fun hm => by have := hL k hm; omega⟩⟩, fun k hk => by
    rcases hs.new k hk with h | h
    · exact hL k h
    · omega⟩

def exR : Ent := .radar ⟨#[114]⟩ 2
def exA : Ent := .define ⟨⟨#[97]⟩, ⟨#[]⟩, 1000, 1010, 0, 864000, 1⟩
def exB : Ent := .define ⟨⟨#[98]⟩, ⟨#[97]⟩, 500, 500, 86400, 864000, 0⟩
def exT : Ent := .test ⟨⟨#[114]⟩, ⟨#[98]⟩, 172800, 998, 1012⟩
theorem ex1 : radarE [] ⟨#[114]⟩ 2 = 0 := by decide +kernel
theorem ex2 : defineE [exR] ⟨⟨#[97]⟩, ⟨#[]⟩, 1000, 1010, 0, 864000, 1⟩ = 0 := by decide +kernel
theorem ex3 : defineE [exA, exR] ⟨⟨#[98]⟩, ⟨#[97]⟩, 500, 500, 86400, 864000, 0⟩ = 0 := by decide +kernel
theorem ex4 : valueE [exB, exA, exR] ⟨#[98]⟩ 86400 = ((499, 506), 0) := by decide +kernel
theorem ex5 : testE [exB, exA, exR] ⟨⟨#[114]⟩, ⟨#[98]⟩, 172800, 998, 1012⟩ = 0 := by decide +kernel
theorem ex6 : gainE [exT, exB, exA, exR] ⟨#[114]⟩ 259200 = ((1970, 2031), (0, 0), 0) := by decide +kernel
theorem ex7 : (testsT [exB, exA, exR]).length = 0 := rfl

theorem eqAt (a b a' b' : Int) (w : World) : (Op.equalIn 10000 45 (.agg #[.int .i64 a, .int .i64 b]) (.agg #[.int .i64 a', .int .i64 b'])).run Try.prog w = .ok (a == a' && b == b') w :=
  run_equalIn_arr2 Try.underlying45 Try.underlying3 (by kernel_rfl) 9998 a b a' b' w
end Go.Proofs.Ytjkelpelmljanaa
namespace Go.Proofs.Ytjkelpelmljanaa
open Go Go.RowKit

inductive Th where
  | book (l : List Ent) (p : Nat) (L : Lay)
  | row (base : Nat) (e : TypeId) (size : Nat) (v : Value) (n : Nat) (xs : List Value)
  | blk (g : Nat) (t : TypeId) (cs : Array Value)
  | raw (k : Nat) (o : Obj)
/-- The blocks of a thing, and that it lies so. -/
def Th.fp : Th → List Nat
  | .book _ p L => L.all p
  | .row _ _ _ v _ _ => optL v
  | .blk g _ _ => [g]
  | .raw k _ => [k]
def Th.ok (W : World) : Th → Prop
  | .book l p L => BookR l p L W
  | .row base e size v n xs => W.ownsRow base e size v n xs
  | .blk g t cs => Blk W g t cs
  | .raw k o => W.heap[k]? = some o
def fps (ts : List Th) : List Nat := ts.flatMap Th.fp
theorem fps_cons (x : Th) (a : List Th) : fps (x :: a) = x.fp ++ fps a := rfl
theorem Th.lt {W : World} {t : Th} (h : t.ok W) : ∀ k ∈ t.fp, k < W.heap.size := by
  cases t with
  | book l p L => exact BookR.lt h
  | row base e size v n xs => exact fun k hk => own_ltT h hk
  | blk g t cs => exact fun k hk => by rw [List.mem_singleton.1 hk]; exact Blk.lt h
  | raw g o => exact fun k hk => by rw [List.mem_singleton.1 hk]; exact (Array.getElem?_eq_some_iff.1 h).1
theorem Th.stab {W W' : World} {t : Th} (h : t.ok W) (hk : ∀ k ∈ t.fp, W'.heap[k]? = W.heap[k]?) : t.ok W' := by
  cases t with
  | book l p L => exact BookR.stab h hk
  | row base e size v n xs => exact own_stabT h fun g hg => hk g (optL_mem hg)
  | blk g t cs => exact (hk g (List.mem_singleton.2 rfl)).trans h
  | raw g o => exact (hk g (List.mem_singleton.2 rfl)).trans h
theorem Th.nodup {W : World} {t : Th} (h : t.ok W) : t.fp.Nodup := by
  cases t with
  | book l p L => exact BookR.nodup h
  | row base e size v n xs => exact optL_nodup v
  | blk g t cs => exact List.nodup_cons.2 ⟨List.not_mem_nil, List.nodup_nil⟩
  | raw g o => exact List.nodup_cons.2 ⟨List.not_mem_nil, List.nodup_nil⟩
/-- What lies in memory that was made behind `w0`. -/
structure Mem (w0 : World) (ts : List Th) (W : World) : Prop where
  all : ∀ t ∈ ts, t.ok W
  nodup : (fps ts).Nodup
  low : ∀ k ∈ fps ts, w0.heap.size ≤ k
  below : Below w0.heap.size w0 W

section
variable {w0 W W' : World} {ts : List Th} {t t' : Th} {i : Nat}
theorem Mem.start (w : World) : Mem w [] w := ⟨fun _ h => absurd h List.not_mem_nil, List.nodup_nil, fun _ h => absurd h List.not_mem_nil, Below.refl _ _⟩
theorem Mem.lt (h : Mem w0 ts W) : ∀ k ∈ fps ts, k < W.heap.size := fun k hk => by
  obtain ⟨b, hb, hk⟩ := List.mem_flatMap.1 hk
  exact Th.lt (h.all b hb) k hk
theorem Mem.size (h : Mem w0 ts W) : w0.heap.size ≤ W.heap.size := h.below.size
theorem Mem.later (h : Mem w0 ts W) (hb : Below W.heap.size W W') : Mem w0 ts W' :=
  ⟨fun t hm => Th.stab (h.all t hm) fun k hk => hb.block k (Th.lt (h.all t hm) k hk), h.nodup, h.low, h.below.trans (Below.mono hb h.size)⟩
theorem Mem.get (h : Mem w0 ts W) (i : Nat) (hi : ts[i]? = some t) : t.ok W := h.all t (List.mem_of_getElem? hi)
theorem fps_mem {k : Nat} (hi : ts[i]? = some t) : k ∈ fps ts ↔ k ∈ t.fp ∨ k ∈ fps (ts.eraseIdx i) := by
  induction ts generalizing i with
  | nil => simp at hi
  | cons x l ih =>
    cases i with
    | zero => simp at hi; subst hi; rw [fps_cons, List.mem_append, List.eraseIdx_zero]; rfl
    | succ i =>
      rw [List.getElem?_cons_succ] at hi
      rw [fps_cons, List.mem_append, ih hi, List.eraseIdx_cons_succ, fps_cons, List.mem_append]
      constructor
      · rintro (h | h | h)
        · exact .inr (.inl h)
        · exact .inl h
        · exact .inr (.inr h)
      · rintro (h | h | h)
        · exact .inr (.inl h)
        · exact .inl h
        · exact .inr (.inr h)
theorem fps_nodup (hi : ts[i]? = some t) : (fps ts).Nodup ↔ (t.fp ++ fps (ts.eraseIdx i)).Nodup := by
  refine List.Perm.nodup_iff ?_
  induction ts generalizing i with
  | nil => simp at hi
  | cons x l ih =>
    cases i with
    | zero => simp at hi; subst hi; exact List.Perm.refl _
    | succ i =>
      rw [List.getElem?_cons_succ] at hi
      rw [List.eraseIdx_cons_succ, fps_cons, fps_cons]
      refine (List.Perm.append_left _ (ih hi)).trans ?_
      rw [← List.append_assoc, ← List.append_assoc]
      exact List.Perm.append_right _ List.perm_append_comm
theorem set_get (hi : ts[i]? = some t) : (ts.set i t')[i]? = some t' := List.getElem?_set_self (List.getElem?_eq_some_iff.1 hi).1
theorem set_erase : (ts.set i t').eraseIdx i = ts.eraseIdx i := by
  induction ts generalizing i with
  | nil => rfl
  | cons x l ih =>
    cases i with
    | zero => rfl
    | succ i => rw [List.set_cons_succ, List.eraseIdx_cons_succ, List.eraseIdx_cons_succ, ih]
theorem mem_erase {x : Th} {k : Nat} (hx : x ∈ ts.eraseIdx i) (hk : k ∈ x.fp) : k ∈ fps (ts.eraseIdx i) := List.mem_flatMap.2 ⟨x, hx, hk⟩
theorem mem_get (hi : ts[i]? = some t) {x : Th} : x ∈ ts → x = t ∨ x ∈ ts.eraseIdx i := by
  induction ts generalizing i with
  | nil => intro h; cases h
  | cons y l ih =>
    intro h
    cases i with
    | zero =>
      simp at hi; subst hi
      rw [List.eraseIdx_zero]
      exact List.mem_cons.1 h
    | succ i =>
      rw [List.getElem?_cons_succ] at hi
      rw [List.eraseIdx_cons_succ]
      rcases List.mem_cons.1 h with rfl | h
      · exact .inr List.mem_cons_self
      · rcases ih hi h with h | h
        · exact .inl h
        · exact .inr (List.mem_cons_of_mem _ h)
/-- One of the things is turned. -/
theorem Mem.step (h : Mem w0 ts W) (i : Nat) (hi : ts[i]? = some t) (hok : t'.ok W') (hk : Kept (fun k => k < W.heap.size ∧ k ∉ t.fp) W W') (hn : ∀ k ∈ t'.fp, k ∈ t.fp ∨ W.heap.size ≤ k) : Mem w0 (ts.set i t') W' := by
  have hnd := (fps_nodup hi).1 h.nodup
  have hlt := h.lt
  have hsz := h.size
  rw [List.nodup_append] at hnd
  obtain ⟨n1, n2, n3⟩ := hnd
  have hi' := set_get (t' := t') hi
  refine ⟨fun x hx => ?_, ?_, fun k hk' => ?_, ?_⟩
  · rcases mem_get hi' hx with rfl | hx
    · exact hok
    · rw [set_erase] at hx
      have hxt := h.all x (List.mem_of_mem_eraseIdx hx)
      exact Th.stab hxt fun k hk' => hk.block k ⟨Th.lt hxt k hk', fun hm => n3 k hm k (mem_erase hx hk') rfl⟩
  · rw [fps_nodup hi', set_erase, List.nodup_append]
    refine ⟨Th.nodup hok, n2, fun a ha b hb e => ?_⟩
    subst e
    rcases hn a ha with h1 | h1
    · exact n3 a h1 a hb rfl
    · have := hlt a ((fps_mem hi).2 (.inr hb)); omega
  · rcases (fps_mem hi').1 hk' with h1 | h1
    · rcases hn k h1 with h2 | h2
      · exact h.low k ((fps_mem hi).2 (.inl h2))
      · omega
    · rw [set_erase] at h1
      exact h.low k ((fps_mem hi).2 (.inr h1))
  · refine h.below.trans ⟨hk.os, hk.tape, hk.output, hk.size, fun k hk' => hk.block k ⟨by omega, fun hm => ?_⟩⟩
    have := h.low k ((fps_mem hi).2 (.inl hm)); omega
/-- A new thing. -/
theorem Mem.add (h : Mem w0 ts W) (hb : Below W.heap.size W W') (hok : t.ok W') (hn : ∀ k ∈ t.fp, W.heap.size ≤ k) : Mem w0 (t :: ts) W' := by
  have hlt := h.lt
  have hsz := h.size
  have h' := h.later hb
  refine ⟨fun x hx => ?_, ?_, fun k hk => ?_, h'.below⟩
  · rcases List.mem_cons.1 hx with rfl | hx
    · exact hok
    · exact h'.all x hx
  · rw [fps_cons, List.nodup_append]
    exact ⟨Th.nodup hok, h.nodup, fun a ha b hb' e => by subst e; have := hn a ha; have := hlt a hb'; omega⟩
  · rw [fps_cons] at hk
    rcases List.mem_append.1 hk with h1 | h1
    · have := hn k h1; omega
    · exact h.low k h1
theorem Mem.alloc (h : Mem w0 ts W) (cs : Array Value) (e : TypeId) : Mem w0 (.blk W.heap.size e cs :: ts) (W.alloc (.cells cs e)) :=
  h.add ((Below.refl _ _).alloc (Nat.le_refl _) _) (show Blk _ _ _ _ from Blk.new _ _ _) (fun k hk => by rw [List.mem_singleton.1 hk]; exact Nat.le_refl _)
theorem Mem.allocAt (h : Mem w0 ts W) (g : Nat) (hg : g = W.heap.size) (cs : Array Value) (e : TypeId) : Mem w0 (.blk g e cs :: ts) (W.alloc (.cells cs e)) := by subst hg; exact h.alloc cs e
theorem Mem.nilRow (h : Mem w0 ts W) (base : Nat) (e : TypeId) (size : Nat) : Mem w0 (.row base e size (.slice none 0 0) 0 [] :: ts) W :=
  h.add (Below.refl _ _) (show World.ownsRow _ _ _ _ _ _ _ from World.ownsRow_nil _ _ _ _) (fun k hk => by simp [Th.fp, optL, Value.ownBlock] at hk)
theorem Mem.drop (h : Mem w0 ts W) (i : Nat) (hi : ts[i]? = some t) : Mem w0 (ts.eraseIdx i) W :=
  ⟨fun x hx => h.all x (List.mem_of_mem_eraseIdx hx), (List.nodup_append.1 ((fps_nodup hi).1 h.nodup)).2.1, fun k hk => h.low k ((fps_mem hi).2 (.inr hk)), h.below⟩
theorem Mem.tail (h : Mem w0 (t :: ts) W) : Mem w0 ts W := h.drop 0 rfl
/-- A cell of a variable is stored. -/
theorem Mem.set_ {g : Nat} {e : TypeId} {cs : Array Value} (h : Mem w0 ts W) (i : Nat) (hi : ts[i]? = some (.blk g e cs)) (o : Nat) (v : Value) {cs' : Array Value} (hc : cs.setIfInBounds o v = cs') : Mem w0 (ts.set i (.blk g e cs')) (W.setCell ⟨g, o, none⟩ v) := by
  subst hc
  have hb : Blk W g e cs := h.get i hi
  refine h.step i hi (show Blk _ _ _ _ from hb.set_ o v) ⟨rfl, rfl, rfl, by simp, fun k hk => Below.heap_setCell W ⟨g, o, none⟩ v k (fun e => hk.2 (List.mem_singleton.2 e))⟩ (fun k hk => .inl hk)
theorem EntPost.size {l : List Ent} {p : Nat} {L : Lay} {W W' : World} {x : Ent} {ev : Int} (h : EntPost l p L W x ev W') : W.heap.size ≤ W'.heap.size := by
  obtain ⟨_, _, h⟩ := h
  exact h.kept.size
/-- A book gets an entry. -/
theorem Mem.enter {l : List Ent} {p : Nat} {L : Lay} {x : Ent} {ev : Int} (h : Mem w0 ts W) (i : Nat) (hi : ts[i]? = some (.book l p L)) (hp : EntPost l p L W x ev W') : ∃ L', Mem w0 (ts.set i (.book (if ev = 0 then x :: l else l) p L')) W' := by
  obtain ⟨L', hb, hs⟩ := hp
  exact ⟨L', h.step i hi (show BookR _ _ _ _ from hb) hs.kept hs.new⟩
/-- A row grows. -/
theorem Mem.grow {base : Nat} {e : TypeId} {size n n' : Nat} {v v' : Value} {xs xs' : List Value} (h : Mem w0 ts W) (i : Nat) (hi : ts[i]? = some (.row base e size v n xs)) (o : Obj) (hg : (W.alloc o).grownBy W' v.ownBlock)
    (hown : W'.ownsRow base e size v' n' xs') (hat : v'.ownBlock = v.ownBlock ∨ v'.ownBlock = some (W.heap.size + 1)) : Mem w0 (ts.set i (.row base e size v' n' xs')) W' := by
  have hsz : W.heap.size + 1 ≤ W'.heap.size := by have := hg.size; simp at this; omega
  refine h.step i hi (show World.ownsRow _ _ _ _ _ _ _ from hown) ⟨hg.os, hg.tape, hg.output, by omega, fun k hk => ?_⟩ (fun k hk => ?_)
  · refine (hg.block k (by simp; omega) fun e => hk.2 (optL_mem ?_)).trans (Below.heap_alloc W o k hk.1)
    first | exact e | exact e.symm
  · have hk' := optL_iff.1 hk
    rcases hat with h1 | h1
    · exact .inl (optL_iff.2 (by rw [← h1]; exact hk'))
    · rw [h1] at hk'
      have := Option.some.inj hk'
      exact .inr (by omega)
theorem Mem.row_ {base : Nat} {e : TypeId} {size n : Nat} {v : Value} {xs : List Value} (h : Mem w0 ts W) (i : Nat) (hi : ts[i]? = some (.row base e size v n xs)) : W.ownsRow base e size v n xs := h.get i hi
theorem Mem.blk_ {g : Nat} {e : TypeId} {cs : Array Value} (h : Mem w0 ts W) (i : Nat) (hi : ts[i]? = some (.blk g e cs)) : Blk W g e cs := h.get i hi
theorem Mem.book_ {l : List Ent} {p : Nat} {L : Lay} (h : Mem w0 ts W) (i : Nat) (hi : ts[i]? = some (.book l p L)) : BookR l p L W := h.get i hi
theorem Mem.apart (h : Mem w0 ts W) (i j : Nat) (hi : ts[i]? = some t) (hj : ts[j]? = some t') (hij : i ≠ j) : ∀ k ∈ t.fp, k ∉ t'.fp := fun k hk hk' => by
  have hnd := (fps_nodup hi).1 h.nodup
  rw [List.nodup_append] at hnd
  have hm : t' ∈ ts.eraseIdx i := by
    rw [List.mem_eraseIdx_iff_getElem?]
    exact ⟨j, Ne.symm hij, hj⟩
  exact hnd.2.2 k hk k (mem_erase hm hk') rfl
/-- Two variables are not one. -/
theorem Mem.ne {g g' : Nat} {e e' : TypeId} {cs cs' : Array Value} (h : Mem w0 ts W) (i j : Nat) (hi : ts[i]? = some (.blk g e cs)) (hj : ts[j]? = some (.blk g' e' cs')) (hij : i ≠ j) : g ≠ g' := fun e => h.apart i j hi hj hij g (List.mem_singleton.2 rfl) (List.mem_singleton.2 e)
/-- A row that will not grow any more is a block. -/
theorem Mem.swapRow {base : Nat} {e : TypeId} {size n c g o : Nat} {xs : List Value} {cur : Array Value} (h : Mem w0 ts W) (i : Nat) (hi : ts[i]? = some (.row base e size (.slice (some ⟨g, o, none⟩) n c) n xs)) (hb : Blk W g e cur) : Mem w0 (ts.set i (.blk g e cur)) W :=
  h.step i hi (show Blk _ _ _ _ from hb) ⟨rfl, rfl, rfl, Nat.le_refl _, fun _ _ => rfl⟩ (fun k hk => .inl (by rw [List.mem_singleton.1 hk]; simp [Th.fp, optL, Value.ownBlock]))
/-- Behind a region that has filled one variable. -/
theorem Mem.filled {g : Nat} {e : TypeId} {cs cs' : Array Value} {fl : List (Nat × Nat)} (h : Mem w0 ts W) (i : Nat) (hi : ts[i]? = some (.blk g e cs)) (hk : Kept (fun k => k < W.heap.size ∧ free fl k) W W') (hfl : ∀ q ∈ fl, q.2 = g) (hb : Blk W' g e cs') : Mem w0 (ts.set i (.blk g e cs')) W' :=
  h.step i hi (show Blk _ _ _ _ from hb) ⟨hk.os, hk.tape, hk.output, hk.size, fun k hk' => hk.block k ⟨hk'.1, fun q hq e => hk'.2 (List.mem_singleton.2 ((hfl q hq ▸ e : g = k).symm))⟩⟩ (fun k hk' => .inl hk')
theorem Mem.to (h : Mem w0 ts W') (e : W = W') : Mem w0 ts W := e ▸ h
end
end Go.Proofs.Ytjkelpelmljanaa
