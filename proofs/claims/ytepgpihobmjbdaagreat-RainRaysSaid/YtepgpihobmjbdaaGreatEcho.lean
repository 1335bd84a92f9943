/-
  Echoes: what pulse and its reference say of them, and the contracts.
-/
import Derived.Test.YtepgpihobmjbdaaGreatRegAll
import Derived.Test.YtepgpihobmjbdaaGreatArr
import Derived.ChangeKeysEq
set_option linter.unusedSimpArgs false
set_option linter.unusedVariables false
namespace Go.Proofs.YtepgpihobmjbdaaGreat
open Go Go.RowKit

set_option maxRecDepth 100000 in
theorem eqSSn (n : Nat) (a b c d a' b' c' d' : Int) (w : World) : (Op.equalIn (n + 3) 66 (.agg #[.int .i64 a, .int .i64 b, .int .i64 c, .int .i64 d]) (.agg #[.int .i64 a', .int .i64 b', .int .i64 c', .int .i64 d'])).run Tryz.prog w = .ok (decide (a = a' ∧ b = b' ∧ c = c' ∧ d = d')) w := by
  obtain ⟨i, hi⟩ := info_of_underlying Tryz.underlying24
  have hs : Tryz.prog.cellsOf 24 = 2 := by kernel_rfl
  rw [run_equalIn_array w (n + 2) _ _ Tryz.underlying66 hi, hs]
  have h0 : ∀ x y z u : Int, (part 24 #[Value.int .i64 x, .int .i64 y, .int .i64 z, .int .i64 u] 0).run Tryz.prog w = .ok (.agg #[.int .i64 x, .int .i64 y]) w := fun x y z u => by unfold part; simp [go_sem]
  have h1 : ∀ x y z u : Int, (part 24 #[Value.int .i64 x, .int .i64 y, .int .i64 z, .int .i64 u] 2).run Tryz.prog w = .ok (.agg #[.int .i64 z, .int .i64 u]) w := fun x y z u => by unfold part; simp [go_sem]
  have hq : ∀ x y z u : Int, (Op.equalIn (n + 2) 24 (.agg #[.int .i64 x, .int .i64 y]) (.agg #[.int .i64 z, .int .i64 u])).run Tryz.prog w = .ok (decide (x = z ∧ y = u)) w := fun x y z u => by
    simp [go_sem]
    by_cases c0 : x = z <;> by_cases c1 : y = u <;> simp [c0, c1]
  show (Op.eqItems (n + 2) 24 2 _ _ [0, 1]).run Tryz.prog w = _
  simp only [Op.eqItems, Sem.run_bind, Nat.zero_mul, Nat.one_mul, h0, h1, hq, Result.andThen_ok]
  by_cases c0 : a = a' ∧ b = b' <;> by_cases c1 : c = c' ∧ d = d'
  · obtain ⟨rfl, rfl⟩ := c0
    obtain ⟨rfl, rfl⟩ := c1
    simp [h0, h1, hq, Sem.run_bind]
  · obtain ⟨rfl, rfl⟩ := c0
    simp only [decide_eq_false c1, and_self, decide_true, if_true, true_and]
    simp [h0, h1, hq, Sem.run_bind, c1]
  · simp [c0]
    intro e1 e2
    exact absurd ⟨e1, e2⟩ c0
  · simp [c0]
    intro e1 e2
    exact absurd ⟨e1, e2⟩ c0
theorem eqSS (a b c d a' b' c' d' : Int) (w : World) : (Op.equalIn 9999 66 (.agg #[.int .i64 a, .int .i64 b, .int .i64 c, .int .i64 d]) (.agg #[.int .i64 a', .int .i64 b', .int .i64 c', .int .i64 d'])).run Tryz.prog w = .ok (decide (a = a' ∧ b = b' ∧ c = c' ∧ d = d')) w := eqSSn 9996 a b c d a' b' c' d' w
theorem eqST (a b c d a' b' c' d' : Int) (w : World) : (Op.equalIn 10000 66 (.agg #[.int .i64 a, .int .i64 b, .int .i64 c, .int .i64 d]) (.agg #[.int .i64 a', .int .i64 b', .int .i64 c', .int .i64 d'])).run Tryz.prog w = .ok (decide (a = a' ∧ b = b' ∧ c = c' ∧ d = d')) w := eqSSn 9997 a b c d a' b' c' d' w
structure Ech where
  k : Int
  p1 : Int
  p2 : Int
  s1 : Int
  s2 : Int
  s3 : Int
  s4 : Int
  sp : Int
  r1 : Int
  r2 : Int
  m1 : Int
  m2 : Int
  t1 : Int
  t2 : Int
def echC (x : Ech) : Array Value := #[.int .i64 x.k, .int .i64 x.p1, .int .i64 x.p2, .int .i64 x.s1, .int .i64 x.s2, .int .i64 x.s3, .int .i64 x.s4, .int .i64 x.sp, .int .i64 x.r1, .int .i64 x.r2, .int .i64 x.m1, .int .i64 x.m2, .int .i64 x.t1, .int .i64 x.t2]
def spi (a b lo hi : Int) : Bool := decide (lo ≤ a ∧ a ≤ b ∧ b ≤ hi)
theorem spi_iff {a b lo hi : Int} : spi a b lo hi = true ↔ lo ≤ a ∧ a ≤ b ∧ b ≤ hi := by simp [spi]
def turnB (a b : Int) : Bool := win a (-32768) 32767 && win b a (a + 65535)
def quietB (x : Ech) : Bool := decide (x.p1 = 0 ∧ (x.s1 = 0 ∧ x.s2 = 0) ∧ (x.s3 = 0 ∧ x.s4 = 0) ∧ x.sp = 0 ∧ (x.r1 = 0 ∧ x.r2 = 0) ∧ (x.m1 = 0 ∧ x.m2 = 0) ∧ x.t1 = 0 ∧ x.t2 = 0)
def mixedB (x : Ech) : Bool := decide ((x.s1 = 0 ∧ x.s2 = 0) ∧ (x.s3 = 0 ∧ x.s4 = 0) ∧ x.t1 = 0 ∧ x.t2 = 0)
def midE (x : Ech) : Bool := decide (1 ≤ x.p1) && spi x.r1 x.r2 0 1000000 && spi x.m1 x.m2 0 1000 && win x.sp 0 65535
/-- What CheckEcho answers. -/
def echE (x : Ech) : Int :=
  if x.k = 1 then (if (spi x.p1 x.p2 0 1073741824 && quietB x) = true then 0 else 3)
  else if x.k = 2 then (if (spi x.p1 x.p2 0 1073741824 && midE x && mixedB x) = true then 0 else 3)
  else if x.k = 3 then (if (spi x.p1 x.p2 0 1073741824 && midE x && (turnB x.s1 x.s2 && turnB x.s3 x.s4 && turnB x.t1 x.t2)) = true then 0 else 3)
  else 2
theorem pwithin_any (n lo hi : Int) (w : World) : Calls Tryz.prog 65 #[.int .i64 n, .int .i64 lo, .int .i64 hi] w fun e w' => e = .returned (.bool (win n lo hi)) ∧ w = w' := by
  by_cases h1 : lo ≤ n <;> by_cases h2 : n ≤ hi
  all_goals
    go_enter Tryz.func65, Tryz.ntmps65
    go_wp2
    go_ret
    exact ⟨by simp [win, *], rfl⟩
theorem pinside_any (a b lo hi : Int) (w : World) : Calls Tryz.prog 88 #[.agg #[.int .i64 a, .int .i64 b], .int .i64 lo, .int .i64 hi] w fun e w' => e = .returned (.bool (spi a b lo hi)) ∧ Below w.heap.size w w' := by
  by_cases h1 : lo ≤ a <;> by_cases h2 : a ≤ b <;> by_cases h3 : b ≤ hi
  all_goals
    go_enter Tryz.func88, Tryz.ntmps88
    go_wp2
    go_ret
    exact ⟨by simp [spi, *], (Below.refl _ _).alloc (Nat.le_refl _) _⟩
theorem Blk.c6e {w : World} {g : Nat} {t : TypeId} {a b c d e f : Value} (h : Blk w g t #[a, b, c, d, e, f]) :
    w.cell? ⟨g, 0, none⟩ = some a ∧ w.cell? ⟨g, 1, none⟩ = some b ∧ w.cell? ⟨g, 2, none⟩ = some c ∧ w.cell? ⟨g, 3, none⟩ = some d ∧ w.cell? ⟨g, 4, none⟩ = some e ∧ w.cell? ⟨g, 5, none⟩ = some f :=
  ⟨h.c 0 rfl, h.c 1 rfl, h.c 2 rfl, h.c 3 rfl, h.c 4 rfl, h.c 5 rfl⟩
set_option maxHeartbeats 2000000 in
set_option maxRecDepth 100000 in
theorem pturning_any (g : Nat) (a b c d e f : Int) (w : World) (hg : Blk w g 24 #[.int .i64 a, .int .i64 b, .int .i64 c, .int .i64 d, .int .i64 e, .int .i64 f]) :
    Calls Tryz.prog 89 #[.slice (some ⟨g, 0, none⟩) 3 3] w fun e' w' => e' = .returned (.bool (turnB a b && turnB c d && turnB e f)) ∧ Below w.heap.size w w' := by
  have hlt := hg.lt
  have hR : (turnB a b && turnB c d && turnB e f) = (turnB a b && turnB c d && turnB e f) := rfl
  obtain ⟨r1, hr1⟩ : ∃ r, turnB a b = r := ⟨_, rfl⟩
  obtain ⟨r2, hr2⟩ : ∃ r, turnB c d = r := ⟨_, rfl⟩
  obtain ⟨r3, hr3⟩ : ∃ r, turnB e f = r := ⟨_, rfl⟩
  rw [hr1, hr2, hr3]
  clear hR
  have Hg := hide hg
  have HR1 := hide hr1
  have HR2 := hide hr2
  have HR3 := hide hr3
  clear hg hr1 hr2 hr3
  go_enter Tryz.func89, Tryz.ntmps89
  have HB := hide (Below.refl w.heap.size w)
  go_wp2_with fail
  go_loopw [7] (fun i wr => ∃ k : Nat, k ≤ 3 ∧ i = .int .i64 k ∧ Below w.heap.size w wr ∧ (0 < k → r1 = true) ∧ (1 < k → r2 = true) ∧ (2 < k → r3 = true)) (fun i _ => 3 - (intOf i).toNat)
  case atStart => exact ⟨0, by omega, rfl, HB.out, fun h => absurd h (by omega), fun h => absurd h (by omega), fun h => absurd h (by omega)⟩
  case round =>
    obtain ⟨k, hk, rfl, hB, p1, p2, p3⟩ := hrel
    clear HB
    have HB := hide hB
    clear hB
    have Hw := hide (Hg.out.below HB.out hlt)
    obtain ⟨y0, y1, y2, y3, y4, y5⟩ := Hw.out.c6e
    have hlw : g < wr.heap.size := Nat.lt_of_lt_of_le hlt HB.out.size
    clear Hw
    have hcase : k = 0 ∨ k = 1 ∨ k = 2 ∨ k = 3 := by omega
    rcases hcase with rfl | rfl | rfl | rfl
    · have hz : True := trivial
      have hun : r1 = (win a (-32768) 32767 && win b a (a + 65535)) := HR1.out.symm
      by_cases h1 : win a (-32768) 32767 = true
      · obtain ⟨u1, u2⟩ := win_iff.1 h1
        have hs : a + 65536 - 1 = a + 65535 := by omega
        rw [h1, Bool.true_and] at hun
        obtain ⟨q, hq⟩ : ∃ q, win b a (a + 65535) = q := ⟨_, rfl⟩
        rw [hq] at hun
        subst hun
        have P1 := hide p1
        have P2 := hide p2
        have P3 := hide p3
        clear p1 p2 p3
        go_wp2_with fail
        refine (pwithin_any _ _ _ _).mono ?_
        rintro e w' ⟨rfl, rfl⟩
        rw [h1]
        go_wp2_with fail
        refine (pwithin_any _ _ _ _).mono ?_
        rintro e w' ⟨rfl, rfl⟩
        rw [hq]
        cases r1 with
        | true =>
          go_wp2
          go_roundw
          case rel => exact ⟨0 + 1, by omega, by go_num, HB.out.alloc HB.out.size _, fun _ => by simp, fun h => absurd h (by omega), fun h => absurd h (by omega)⟩
          case measure => simp [intOf]
        | false =>
          go_wp2
          go_ret
          exact ⟨by simp, HB.out.alloc HB.out.size _⟩
      · have h2 : win a (-32768) 32767 = false := by simpa using h1
        rw [h2, Bool.false_and] at hun
        subst hun
        go_wp2_with fail
        refine (pwithin_any _ _ _ _).mono ?_
        rintro e w' ⟨rfl, rfl⟩
        rw [h2]
        go_wp2
        go_ret
        exact ⟨by simp, HB.out.alloc HB.out.size _⟩
    · have hz : True := trivial
      have hun : r2 = (win c (-32768) 32767 && win d c (c + 65535)) := HR2.out.symm
      by_cases h1 : win c (-32768) 32767 = true
      · obtain ⟨u1, u2⟩ := win_iff.1 h1
        have hs : c + 65536 - 1 = c + 65535 := by omega
        rw [h1, Bool.true_and] at hun
        obtain ⟨q, hq⟩ : ∃ q, win d c (c + 65535) = q := ⟨_, rfl⟩
        rw [hq] at hun
        subst hun
        have P1 := hide p1
        have P2 := hide p2
        have P3 := hide p3
        clear p1 p2 p3
        go_wp2_with fail
        refine (pwithin_any _ _ _ _).mono ?_
        rintro e w' ⟨rfl, rfl⟩
        rw [h1]
        go_wp2_with fail
        refine (pwithin_any _ _ _ _).mono ?_
        rintro e w' ⟨rfl, rfl⟩
        rw [hq]
        cases r2 with
        | true =>
          go_wp2
          go_roundw
          case rel => exact ⟨1 + 1, by omega, by go_num, HB.out.alloc HB.out.size _, fun _ => P1.out (by omega), fun _ => by simp, fun h => absurd h (by omega)⟩
          case measure => simp [intOf]
        | false =>
          go_wp2
          go_ret
          exact ⟨by simp, HB.out.alloc HB.out.size _⟩
      · have h2 : win c (-32768) 32767 = false := by simpa using h1
        rw [h2, Bool.false_and] at hun
        subst hun
        go_wp2_with fail
        refine (pwithin_any _ _ _ _).mono ?_
        rintro e w' ⟨rfl, rfl⟩
        rw [h2]
        go_wp2
        go_ret
        exact ⟨by simp, HB.out.alloc HB.out.size _⟩
    · have hz : True := trivial
      have hun : r3 = (win e (-32768) 32767 && win f e (e + 65535)) := HR3.out.symm
      by_cases h1 : win e (-32768) 32767 = true
      · obtain ⟨u1, u2⟩ := win_iff.1 h1
        have hs : e + 65536 - 1 = e + 65535 := by omega
        rw [h1, Bool.true_and] at hun
        obtain ⟨q, hq⟩ : ∃ q, win f e (e + 65535) = q := ⟨_, rfl⟩
        rw [hq] at hun
        subst hun
        have P1 := hide p1
        have P2 := hide p2
        have P3 := hide p3
        clear p1 p2 p3
        go_wp2_with fail
        refine (pwithin_any _ _ _ _).mono ?_
        rintro e w' ⟨rfl, rfl⟩
        rw [h1]
        go_wp2_with fail
        refine (pwithin_any _ _ _ _).mono ?_
        rintro e w' ⟨rfl, rfl⟩
        rw [hq]
        cases r3 with
        | true =>
          go_wp2
          go_roundw
          case rel => exact ⟨2 + 1, by omega, by go_num, HB.out.alloc HB.out.size _, fun _ => P1.out (by omega), fun _ => P2.out (by omega), fun _ => by simp⟩
          case measure => simp [intOf]
        | false =>
          go_wp2
          go_ret
          exact ⟨by simp, HB.out.alloc HB.out.size _⟩
      · have h2 : win e (-32768) 32767 = false := by simpa using h1
        rw [h2, Bool.false_and] at hun
        subst hun
        go_wp2_with fail
        refine (pwithin_any _ _ _ _).mono ?_
        rintro e w' ⟨rfl, rfl⟩
        rw [h2]
        go_wp2
        go_ret
        exact ⟨by simp, HB.out.alloc HB.out.size _⟩
    · have e1 := p1 (by omega)
      have e2 := p2 (by omega)
      have e3 := p3 (by omega)
      subst e1 e2 e3
      go_wp2
      go_ret
      exact ⟨rfl, HB.out⟩
end Go.Proofs.YtepgpihobmjbdaaGreat
