/-
  Echoes: what pulse and its reference say of them, and the contracts.
  CheckEcho: the contract.
  The reference's CheckEcho: the contract.
-/
import Derived.Test.YtepgpihobmjbdaaRtRrGauge
import Derived.Test.YtepgpihobmjbdaaArr
import Derived.ChangeKeysEq
set_option linter.unusedSimpArgs false
set_option linter.unusedVariables false
section
namespace Go.Proofs.Ytepgpihobmjbdaa
open Go Go.RowKit
set_option maxRecDepth 100000 in
theorem eqSSn (n : Nat) (a b c d a' b' c' d' : Int) (w : World) : (Op.equalIn (n + 3) 86 (.agg #[.int .i64 a, .int .i64 b, .int .i64 c, .int .i64 d]) (.agg #[.int .i64 a', .int .i64 b', .int .i64 c', .int .i64 d'])).run Try.prog w = .ok (decide (a = a' ∧ b = b' ∧ c = c' ∧ d = d')) w := by
 obtain ⟨i, hi⟩ := info_of_underlying Try.underlying24
 have hs : Try.prog.cellsOf 24 = 2 := by kernel_rfl
 rw [run_equalIn_array w (n + 2) _ _ Try.underlying86 hi, hs]
 have h0 : ∀ x y z u : Int, (part 24 #[Value.int .i64 x, .int .i64 y, .int .i64 z, .int .i64 u] 0).run Try.prog w = .ok (.agg #[.int .i64 x, .int .i64 y]) w := fun x y z u => by unfold part; simp [go_sem]
 have h1 : ∀ x y z u : Int, (part 24 #[Value.int .i64 x, .int .i64 y, .int .i64 z, .int .i64 u] 2).run Try.prog w = .ok (.agg #[.int .i64 z, .int .i64 u]) w := fun x y z u => by unfold part; simp [go_sem]
 have hq : ∀ x y z u : Int, (Op.equalIn (n + 2) 24 (.agg #[.int .i64 x, .int .i64 y]) (.agg #[.int .i64 z, .int .i64 u])).run Try.prog w = .ok (decide (x = z ∧ y = u)) w := fun x y z u => by
  simp [go_sem]
  by_cases c0 : x = z <;> by_cases c1 : y = u <;> simp [c0, c1]
 show (Op.eqItems (n + 2) 24 2 _ _ [0, 1]).run Try.prog w = _
 simp only [Op.eqItems, Sem.run_bind, Nat.zero_mul, Nat.one_mul, h0, h1, hq, Result.andThen_ok]
 by_cases c0 : a = a' ∧ b = b' <;> by_cases c1 : c = c' ∧ d = d'
 ·
  obtain ⟨rfl, rfl⟩ := c0
  obtain ⟨rfl, rfl⟩ := c1
  simp [h0, h1, hq, Sem.run_bind]
 ·
  obtain ⟨rfl, rfl⟩ := c0
  simp only [decide_eq_false c1, and_self, decide_true, if_true, true_and]
  simp [h0, h1, hq, Sem.run_bind, c1]
 ·
  simp [c0]
  intro e1 e2
  exact absurd ⟨e1, e2⟩ c0
 ·
  simp [c0]
  intro e1 e2
  exact absurd ⟨e1, e2⟩ c0
theorem eqSS (a b c d a' b' c' d' : Int) (w : World) : (Op.equalIn 9999 86 (.agg #[.int .i64 a, .int .i64 b, .int .i64 c, .int .i64 d]) (.agg #[.int .i64 a', .int .i64 b', .int .i64 c', .int .i64 d'])).run Try.prog w = .ok (decide (a = a' ∧ b = b' ∧ c = c' ∧ d = d')) w := eqSSn 9996 a b c d a' b' c' d' w
theorem eqST (a b c d a' b' c' d' : Int) (w : World) : (Op.equalIn 10000 86 (.agg #[.int .i64 a, .int .i64 b, .int .i64 c, .int .i64 d]) (.agg #[.int .i64 a', .int .i64 b', .int .i64 c', .int .i64 d'])).run Try.prog w = .ok (decide (a = a' ∧ b = b' ∧ c = c' ∧ d = d')) w := eqSSn 9997 a b c d a' b' c' d' w
structure Ech where
 k : Int
 p1 : Int
 p2 : Int
 s1 : Int
 s2 : Int
 s3 : Int
 s4 : Int
 sp : Int
 r1 : Int
 r2 : Int
 m1 : Int
 m2 : Int
 t1 : Int
 t2 : Int
def echC (x : Ech) : Array Value := #[.int .i64 x.k, .int .i64 x.p1, .int .i64 x.p2, .int .i64 x.s1, .int .i64 x.s2, .int .i64 x.s3, .int .i64 x.s4, .int .i64 x.sp, .int .i64 x.r1, .int .i64 x.r2, .int .i64 x.m1, .int .i64 x.m2, .int .i64 x.t1, .int .i64 x.t2]
def spi (a b lo hi : Int) : Bool := decide (lo ≤ a ∧ a ≤ b ∧ b ≤ hi)
theorem spi_iff {a b lo hi : Int} : spi a b lo hi = true ↔ lo ≤ a ∧ a ≤ b ∧ b ≤ hi := by simp [spi]
def turnB (a b : Int) : Bool := win a (-32768) 32767 && win b a (a + 65535)
def quietB (x : Ech) : Bool := decide (x.p1 = 0 ∧ (x.s1 = 0 ∧ x.s2 = 0) ∧ (x.s3 = 0 ∧ x.s4 = 0) ∧ x.sp = 0 ∧ (x.r1 = 0 ∧ x.r2 = 0) ∧ (x.m1 = 0 ∧ x.m2 = 0) ∧ x.t1 = 0 ∧ x.t2 = 0)
def mixedB (x : Ech) : Bool := decide ((x.s1 = 0 ∧ x.s2 = 0) ∧ (x.s3 = 0 ∧ x.s4 = 0) ∧ x.t1 = 0 ∧ x.t2 = 0)
def midE (x : Ech) : Bool := decide (1 ≤ x.p1) && spi x.r1 x.r2 0 1000000 && spi x.m1 x.m2 0 1000 && win x.sp 0 65535
def echE (x : Ech) : Int :=
 if x.k = 1 then (if (spi x.p1 x.p2 0 1073741824 && quietB x) = true then 0 else 3)
 else if x.k = 2 then (if (spi x.p1 x.p2 0 1073741824 && midE x && mixedB x) = true then 0 else 3)
 else if x.k = 3 then (if (spi x.p1 x.p2 0 1073741824 && midE x && (turnB x.s1 x.s2 && turnB x.s3 x.s4 && turnB x.t1 x.t2)) = true then 0 else 3)
 else 2
theorem pwithin_any (n lo hi : Int) (w : World) : Calls Try.prog 60 #[.int .i64 n, .int .i64 lo, .int .i64 hi] w fun e w' => e = .returned (.bool (win n lo hi)) ∧ w = w' := by
 by_cases h1 : lo ≤ n <;> by_cases h2 : n ≤ hi
 all_goals
  go_enter Try.func60, Try.ntmps60
  go_wp2
  go_ret
  exact ⟨by simp [win, *], rfl⟩
theorem pinside_any (a b lo hi : Int) (w : World) : Calls Try.prog 67 #[.agg #[.int .i64 a, .int .i64 b], .int .i64 lo, .int .i64 hi] w fun e w' => e = .returned (.bool (spi a b lo hi)) ∧ Below w.heap.size w w' := by
 by_cases h1 : lo ≤ a <;> by_cases h2 : a ≤ b <;> by_cases h3 : b ≤ hi
 all_goals
  go_enter Try.func67, Try.ntmps67
  go_wp2
  go_ret
  exact ⟨by simp [spi, *], (Below.refl _ _).alloc (Nat.le_refl _) _⟩
theorem Blk.c6e {w : World} {g : Nat} {t : TypeId} {a b c d e f : Value} (h : Blk w g t #[a, b, c, d, e, f]) :
  w.cell? ⟨g, 0, none⟩ = some a ∧ w.cell? ⟨g, 1, none⟩ = some b ∧ w.cell? ⟨g, 2, none⟩ = some c ∧ w.cell? ⟨g, 3, none⟩ = some d ∧ w.cell? ⟨g, 4, none⟩ = some e ∧ w.cell? ⟨g, 5, none⟩ = some f :=
 ⟨h.c 0 rfl, h.c 1 rfl, h.c 2 rfl, h.c 3 rfl, h.c 4 rfl, h.c 5 rfl⟩
set_option maxHeartbeats 2000000 in
set_option maxRecDepth 100000 in
theorem pturning_any (g : Nat) (a b c d e f : Int) (w : World) (hg : Blk w g 24 #[.int .i64 a, .int .i64 b, .int .i64 c, .int .i64 d, .int .i64 e, .int .i64 f]) :
  Calls Try.prog 68 #[.slice (some ⟨g, 0, none⟩) 3 3] w fun e' w' => e' = .returned (.bool (turnB a b && turnB c d && turnB e f)) ∧ Below w.heap.size w w' := by
 have hlt := hg.lt
 have hR : (turnB a b && turnB c d && turnB e f) = (turnB a b && turnB c d && turnB e f) := rfl
 obtain ⟨r1, hr1⟩ : ∃ r, turnB a b = r := ⟨_, rfl⟩
 obtain ⟨r2, hr2⟩ : ∃ r, turnB c d = r := ⟨_, rfl⟩
 obtain ⟨r3, hr3⟩ : ∃ r, turnB e f = r := ⟨_, rfl⟩
 rw [hr1, hr2, hr3]
 clear hR
 have Hg := hide hg
 have HR1 := hide hr1
 have HR2 := hide hr2
 have HR3 := hide hr3
 clear hg hr1 hr2 hr3
 go_enter Try.func68, Try.ntmps68
 have HB := hide (Below.refl w.heap.size w)
 go_wp2_with fail
 go_loopw [7] (fun i wr => ∃ k : Nat, k ≤ 3 ∧ i = .int .i64 k ∧ Below w.heap.size w wr ∧ (0 < k → r1 = true) ∧ (1 < k → r2 = true) ∧ (2 < k → r3 = true)) (fun i _ => 3 - (intOf i).toNat)
 case atStart => exact ⟨0, by omega, rfl, HB.out, fun h => absurd h (by omega), fun h => absurd h (by omega), fun h => absurd h (by omega)⟩
 case round =>
  obtain ⟨k, hk, rfl, hB, p1, p2, p3⟩ := hrel
  clear HB
  have HB := hide hB
  clear hB
  have Hw := hide (Hg.out.below HB.out hlt)
  obtain ⟨y0, y1, y2, y3, y4, y5⟩ := Hw.out.c6e
  have hlw : g < wr.heap.size := Nat.lt_of_lt_of_le hlt HB.out.size
  clear Hw
  have hcase : k = 0 ∨ k = 1 ∨ k = 2 ∨ k = 3 := by omega
  rcases hcase with rfl | rfl | rfl | rfl
  ·
   have hz : True := trivial
   have hun : r1 = (win a (-32768) 32767 && win b a (a + 65535)) := HR1.out.symm
   by_cases h1 : win a (-32768) 32767 = true
   ·
    obtain ⟨u1, u2⟩ := win_iff.1 h1
    have hs : a + 65536 - 1 = a + 65535 := by omega
    rw [h1, Bool.true_and] at hun
    obtain ⟨q, hq⟩ : ∃ q, win b a (a + 65535) = q := ⟨_, rfl⟩
    rw [hq] at hun
    subst hun
    have P1 := hide p1
    have P2 := hide p2
    have P3 := hide p3
    clear p1 p2 p3
    go_wp2_with fail
    refine (pwithin_any _ _ _ _).mono ?_
    rintro e w' ⟨rfl, rfl⟩
    rw [h1]
    go_wp2_with fail
    refine (pwithin_any _ _ _ _).mono ?_
    rintro e w' ⟨rfl, rfl⟩
    rw [hq]
    cases r1 with
    | true =>
     go_wp2
     go_roundw
     case rel => exact ⟨0 + 1, by omega, by go_num, HB.out.alloc HB.out.size _, fun _ => by simp, fun h => absurd h (by omega), fun h => absurd h (by omega)⟩
     case measure => simp [intOf]
    | false =>
     go_wp2
     go_ret
     exact ⟨by simp, HB.out.alloc HB.out.size _⟩
   ·
    have h2 : win a (-32768) 32767 = false := by simpa using h1
    rw [h2, Bool.false_and] at hun
    subst hun
    go_wp2_with fail
    refine (pwithin_any _ _ _ _).mono ?_
    rintro e w' ⟨rfl, rfl⟩
    rw [h2]
    go_wp2
    go_ret
    exact ⟨by simp, HB.out.alloc HB.out.size _⟩
  ·
   have hz : True := trivial
   have hun : r2 = (win c (-32768) 32767 && win d c (c + 65535)) := HR2.out.symm
   by_cases h1 : win c (-32768) 32767 = true
   ·
    obtain ⟨u1, u2⟩ := win_iff.1 h1
    have hs : c + 65536 - 1 = c + 65535 := by omega
    rw [h1, Bool.true_and] at hun
    obtain ⟨q, hq⟩ : ∃ q, win d c (c + 65535) = q := ⟨_, rfl⟩
    rw [hq] at hun
    subst hun
    have P1 := hide p1
    have P2 := hide p2
    have P3 := hide p3
    clear p1 p2 p3
    go_wp2_with fail
    refine (pwithin_any _ _ _ _).mono ?_
    rintro e w' ⟨rfl, rfl⟩
    rw [h1]
    go_wp2_with fail
    refine (pwithin_any _ _ _ _).mono ?_
    rintro e w' ⟨rfl, rfl⟩
    rw [hq]
    cases r2 with
    | true =>
     go_wp2
     go_roundw
     case rel => exact ⟨1 + 1, by omega, by go_num, HB.out.alloc HB.out.size _, fun _ => P1.out (by omega), fun _ => by simp, fun h => absurd h (by omega)⟩
     case measure => simp [intOf]
    | false =>
     go_wp2
     go_ret
     exact ⟨by simp, HB.out.alloc HB.out.size _⟩
   ·
    have h2 : win c (-32768) 32767 = false := by simpa using h1
    rw [h2, Bool.false_and] at hun
    subst hun
    go_wp2_with fail
    refine (pwithin_any _ _ _ _).mono ?_
    rintro e w' ⟨rfl, rfl⟩
    rw [h2]
    go_wp2
    go_ret
    exact ⟨by simp, HB.out.alloc HB.out.size _⟩
  ·
   have hz : True := trivial
   have hun : r3 = (win e (-32768) 32767 && win f e (e + 65535)) := HR3.out.symm
   by_cases h1 : win e (-32768) 32767 = true
   ·
    obtain ⟨u1, u2⟩ := win_iff.1 h1
    have hs : e + 65536 - 1 = e + 65535 := by omega
    rw [h1, Bool.true_and] at hun
    obtain ⟨q, hq⟩ : ∃ q, win f e (e + 65535) = q := ⟨_, rfl⟩
    rw [hq] at hun
    subst hun
    have P1 := hide p1
    have P2 := hide p2
    have P3 := hide p3
    clear p1 p2 p3
    go_wp2_with fail
    refine (pwithin_any _ _ _ _).mono ?_
    rintro e w' ⟨rfl, rfl⟩
    rw [h1]
    go_wp2_with fail
    refine (pwithin_any _ _ _ _).mono ?_
    rintro e w' ⟨rfl, rfl⟩
    rw [hq]
    cases r3 with
    | true =>
     go_wp2
     go_roundw
     case rel => exact ⟨2 + 1, by omega, by go_num, HB.out.alloc HB.out.size _, fun _ => P1.out (by omega), fun _ => P2.out (by omega), fun _ => by simp⟩
     case measure => simp [intOf]
    | false =>
     go_wp2
     go_ret
     exact ⟨by simp, HB.out.alloc HB.out.size _⟩
   ·
    have h2 : win e (-32768) 32767 = false := by simpa using h1
    rw [h2, Bool.false_and] at hun
    subst hun
    go_wp2_with fail
    refine (pwithin_any _ _ _ _).mono ?_
    rintro e w' ⟨rfl, rfl⟩
    rw [h2]
    go_wp2
    go_ret
    exact ⟨by simp, HB.out.alloc HB.out.size _⟩
  ·
   have e1 := p1 (by omega)
   have e2 := p2 (by omega)
   have e3 := p3 (by omega)
   subst e1 e2 e3
   go_wp2
   go_ret
   exact ⟨rfl, HB.out⟩
end Go.Proofs.Ytepgpihobmjbdaa
end
section
namespace Go.Proofs.Ytepgpihobmjbdaa
open Go Go.RowKit
set_option maxHeartbeats 4000000 in
set_option maxRecDepth 100000 in
theorem CheckEcho_any (x : Ech) (w : World) : Calls Try.prog 61 #[.agg (echC x)] w fun e w' => e = .returned (.int .i64 (echE x)) ∧ Below w.heap.size w w' := by
 obtain ⟨k, p1, p2, s1, s2, s3, s4, sp, r1, r2, m1, m2, t1, t2⟩ := x
 unfold echC echE
 simp only
 have heqa := eqSS s1 s2 s3 s4 0 0 0 0
 have heqz := eqSS 0 0 0 0 0 0 0 0
 have heta := eqST s1 s2 s3 s4 0 0 0 0
 have hetz := eqST 0 0 0 0 0 0 0 0
 obtain ⟨g1, hg1⟩ : ∃ g, spi p1 p2 0 1073741824 = g := ⟨_, rfl⟩
 rw [hg1]
 by_cases hk1 : k = 1
 ·
  subst hk1
  rw [if_pos rfl]
  cases g1 with
  | false =>
   go_enter Try.func61, Try.ntmps61
   have HB := hide (Below.refl w.heap.size w)
   go_wp2_with fail
   refine at_world fun W hW => ?_
   have bq0 : Blk W w.heap.size 88 #[.int .i64 1, .int .i64 p1, .int .i64 p2, .int .i64 s1, .int .i64 s2, .int .i64 s3, .int .i64 s4, .int .i64 sp, .int .i64 r1, .int .i64 r2, .int .i64 m1, .int .i64 m2, .int .i64 t1, .int .i64 t2] := by rw [hW]; exact Blk.new _ _ _
   have LW : Later w W := by rw [hW]; exact ((Below.refl _ _).alloc (Nat.le_refl _) _)
   have szW : W.heap.size = w.heap.size + 1 := by rw [hW]; simp
   clear hW
   replace HB := hide (onward HB.out LW)
   have Hx := hide bq0
   clear bq0 LW szW
   refine (pinside_any _ _ _ _ _).mono ?_
   rintro e w1 ⟨rfl, hb⟩
   replace HB := hide (onward HB.out hb)
   replace Hx := hide (blk_later Hx.out hb)
   clear hb
   have x0 := Hx.out.c 0 rfl
   have x1 := Hx.out.c 1 rfl
   have x2 := Hx.out.c 2 rfl
   have x3 := Hx.out.c 3 rfl
   have x4 := Hx.out.c 4 rfl
   have x5 := Hx.out.c 5 rfl
   have x6 := Hx.out.c 6 rfl
   have x7 := Hx.out.c 7 rfl
   have x8 := Hx.out.c 8 rfl
   have x9 := Hx.out.c 9 rfl
   have x10 := Hx.out.c 10 rfl
   have x11 := Hx.out.c 11 rfl
   have x12 := Hx.out.c 12 rfl
   have x13 := Hx.out.c 13 rfl
   have ltx := Hx.out.lt
   rw [hg1]
   go_wp2
   go_ret
   exact ⟨rfl, HB.out⟩
  | true =>
   by_cases hq : quietB ⟨1, p1, p2, s1, s2, s3, s4, sp, r1, r2, m1, m2, t1, t2⟩ = true
   ·
    rw [hq]
    have hq2 := hq
    simp only [quietB, decide_eq_true_eq] at hq2
    obtain ⟨rfl, ⟨rfl, rfl⟩, ⟨rfl, rfl⟩, rfl, ⟨rfl, rfl⟩, ⟨rfl, rfl⟩, rfl, rfl⟩ := hq2
    clear hq
    go_enter Try.func61, Try.ntmps61
    have HB := hide (Below.refl w.heap.size w)
    go_wp2_with fail
    refine at_world fun W hW => ?_
    have bq0 : Blk W w.heap.size 88 #[.int .i64 1, .int .i64 0, .int .i64 p2, .int .i64 0, .int .i64 0, .int .i64 0, .int .i64 0, .int .i64 0, .int .i64 0, .int .i64 0, .int .i64 0, .int .i64 0, .int .i64 0, .int .i64 0] := by rw [hW]; exact Blk.new _ _ _
    have LW : Later w W := by rw [hW]; exact ((Below.refl _ _).alloc (Nat.le_refl _) _)
    have szW : W.heap.size = w.heap.size + 1 := by rw [hW]; simp
    clear hW
    replace HB := hide (onward HB.out LW)
    have Hx := hide bq0
    clear bq0 LW szW
    refine (pinside_any _ _ _ _ _).mono ?_
    rintro e w1 ⟨rfl, hb⟩
    replace HB := hide (onward HB.out hb)
    replace Hx := hide (blk_later Hx.out hb)
    clear hb
    have x0 := Hx.out.c 0 rfl
    have x1 := Hx.out.c 1 rfl
    have x2 := Hx.out.c 2 rfl
    have x3 := Hx.out.c 3 rfl
    have x4 := Hx.out.c 4 rfl
    have x5 := Hx.out.c 5 rfl
    have x6 := Hx.out.c 6 rfl
    have x7 := Hx.out.c 7 rfl
    have x8 := Hx.out.c 8 rfl
    have x9 := Hx.out.c 9 rfl
    have x10 := Hx.out.c 10 rfl
    have x11 := Hx.out.c 11 rfl
    have x12 := Hx.out.c 12 rfl
    have x13 := Hx.out.c 13 rfl
    have ltx := Hx.out.lt
    rw [hg1]
    go_wp2
    go_ret
    exact ⟨rfl, HB.out⟩
   ·
    have hq3 : quietB ⟨1, p1, p2, s1, s2, s3, s4, sp, r1, r2, m1, m2, t1, t2⟩ = false := by simpa using hq
    rw [hq3]
    simp only [quietB, decide_eq_true_eq] at hq
    have Hq := hide hq
    clear hq
    clear hq3
    go_enter Try.func61, Try.ntmps61
    have HB := hide (Below.refl w.heap.size w)
    go_wp2_with fail
    refine at_world fun W hW => ?_
    have bq0 : Blk W w.heap.size 88 #[.int .i64 1, .int .i64 p1, .int .i64 p2, .int .i64 s1, .int .i64 s2, .int .i64 s3, .int .i64 s4, .int .i64 sp, .int .i64 r1, .int .i64 r2, .int .i64 m1, .int .i64 m2, .int .i64 t1, .int .i64 t2] := by rw [hW]; exact Blk.new _ _ _
    have LW : Later w W := by rw [hW]; exact ((Below.refl _ _).alloc (Nat.le_refl _) _)
    have szW : W.heap.size = w.heap.size + 1 := by rw [hW]; simp
    clear hW
    replace HB := hide (onward HB.out LW)
    have Hx := hide bq0
    clear bq0 LW szW
    refine (pinside_any _ _ _ _ _).mono ?_
    rintro e w1 ⟨rfl, hb⟩
    replace HB := hide (onward HB.out hb)
    replace Hx := hide (blk_later Hx.out hb)
    clear hb
    have x0 := Hx.out.c 0 rfl
    have x1 := Hx.out.c 1 rfl
    have x2 := Hx.out.c 2 rfl
    have x3 := Hx.out.c 3 rfl
    have x4 := Hx.out.c 4 rfl
    have x5 := Hx.out.c 5 rfl
    have x6 := Hx.out.c 6 rfl
    have x7 := Hx.out.c 7 rfl
    have x8 := Hx.out.c 8 rfl
    have x9 := Hx.out.c 9 rfl
    have x10 := Hx.out.c 10 rfl
    have x11 := Hx.out.c 11 rfl
    have x12 := Hx.out.c 12 rfl
    have x13 := Hx.out.c 13 rfl
    have ltx := Hx.out.lt
    rw [hg1]
    go_wp2
    all_goals first
     | (go_ret; exact ⟨rfl, HB.out⟩)
     | (exfalso; have hq9 := Hq.out; omega)
 rw [if_neg hk1]
 obtain ⟨g2, hg2⟩ : ∃ g, spi r1 r2 0 1000000 = g := ⟨_, rfl⟩
 obtain ⟨g3, hg3⟩ : ∃ g, spi m1 m2 0 1000 = g := ⟨_, rfl⟩
 obtain ⟨g4, hg4⟩ : ∃ g, win sp 0 65535 = g := ⟨_, rfl⟩
 by_cases hk2 : k = 2
 ·
  subst hk2
  rw [if_pos rfl]
  have hmid : midE ⟨2, p1, p2, s1, s2, s3, s4, sp, r1, r2, m1, m2, t1, t2⟩ = (decide (1 ≤ p1) && g2 && g3 && g4) := by unfold midE; rw [hg2, hg3, hg4]
  rw [hmid]
  clear hmid
  cases g1 with
  | false =>
   rw [if_neg (by simp)]
   go_enter Try.func61, Try.ntmps61
   have HB := hide (Below.refl w.heap.size w)
   go_wp2_with fail
   refine at_world fun W hW => ?_
   have bq0 : Blk W w.heap.size 88 #[.int .i64 2, .int .i64 p1, .int .i64 p2, .int .i64 s1, .int .i64 s2, .int .i64 s3, .int .i64 s4, .int .i64 sp, .int .i64 r1, .int .i64 r2, .int .i64 m1, .int .i64 m2, .int .i64 t1, .int .i64 t2] := by rw [hW]; exact Blk.new _ _ _
   have LW : Later w W := by rw [hW]; exact ((Below.refl _ _).alloc (Nat.le_refl _) _)
   have szW : W.heap.size = w.heap.size + 1 := by rw [hW]; simp
   clear hW
   replace HB := hide (onward HB.out LW)
   have Hx := hide bq0
   clear bq0 LW szW
   refine (pinside_any _ _ _ _ _).mono ?_
   rintro e w1 ⟨rfl, hb⟩
   replace HB := hide (onward HB.out hb)
   replace Hx := hide (blk_later Hx.out hb)
   clear hb
   have x0 := Hx.out.c 0 rfl
   have x1 := Hx.out.c 1 rfl
   have x2 := Hx.out.c 2 rfl
   have x3 := Hx.out.c 3 rfl
   have x4 := Hx.out.c 4 rfl
   have x5 := Hx.out.c 5 rfl
   have x6 := Hx.out.c 6 rfl
   have x7 := Hx.out.c 7 rfl
   have x8 := Hx.out.c 8 rfl
   have x9 := Hx.out.c 9 rfl
   have x10 := Hx.out.c 10 rfl
   have x11 := Hx.out.c 11 rfl
   have x12 := Hx.out.c 12 rfl
   have x13 := Hx.out.c 13 rfl
   have ltx := Hx.out.lt
   rw [hg1]
   go_wp2
   go_ret
   exact ⟨rfl, HB.out⟩
  | true =>
   by_cases hp : 0 < p1
   ·
    have hp1 : decide (1 ≤ p1) = true := decide_eq_true (by omega)
    rw [hp1]
    clear hp1
    have hp2 : decide (0 < p1) = true := decide_eq_true hp
    cases g2 with
    | false =>
     rw [if_neg (by simp)]
     go_enter Try.func61, Try.ntmps61
     have HB := hide (Below.refl w.heap.size w)
     go_wp2_with fail
     refine at_world fun W hW => ?_
     have bq0 : Blk W w.heap.size 88 #[.int .i64 2, .int .i64 p1, .int .i64 p2, .int .i64 s1, .int .i64 s2, .int .i64 s3, .int .i64 s4, .int .i64 sp, .int .i64 r1, .int .i64 r2, .int .i64 m1, .int .i64 m2, .int .i64 t1, .int .i64 t2] := by rw [hW]; exact Blk.new _ _ _
     have LW : Later w W := by rw [hW]; exact ((Below.refl _ _).alloc (Nat.le_refl _) _)
     have szW : W.heap.size = w.heap.size + 1 := by rw [hW]; simp
     clear hW
     replace HB := hide (onward HB.out LW)
     have Hx := hide bq0
     clear bq0 LW szW
     refine (pinside_any _ _ _ _ _).mono ?_
     rintro e w1 ⟨rfl, hb⟩
     replace HB := hide (onward HB.out hb)
     replace Hx := hide (blk_later Hx.out hb)
     clear hb
     have x0 := Hx.out.c 0 rfl
     have x1 := Hx.out.c 1 rfl
     have x2 := Hx.out.c 2 rfl
     have x3 := Hx.out.c 3 rfl
     have x4 := Hx.out.c 4 rfl
     have x5 := Hx.out.c 5 rfl
     have x6 := Hx.out.c 6 rfl
     have x7 := Hx.out.c 7 rfl
     have x8 := Hx.out.c 8 rfl
     have x9 := Hx.out.c 9 rfl
     have x10 := Hx.out.c 10 rfl
     have x11 := Hx.out.c 11 rfl
     have x12 := Hx.out.c 12 rfl
     have x13 := Hx.out.c 13 rfl
     have ltx := Hx.out.lt
     rw [hg1]
     go_wp2_with fail
     refine (pinside_any _ _ _ _ _).mono ?_
     rintro e w2 ⟨rfl, hb⟩
     replace HB := hide (onward HB.out hb)
     replace Hx := hide (blk_later Hx.out hb)
     clear hb x0 x1 x2 x3 x4 x5 x6 x7 x8 x9 x10 x11 x12 x13 ltx
     rw [hg2]
     have x0 := Hx.out.c 0 rfl
     have x1 := Hx.out.c 1 rfl
     have x2 := Hx.out.c 2 rfl
     have x3 := Hx.out.c 3 rfl
     have x4 := Hx.out.c 4 rfl
     have x5 := Hx.out.c 5 rfl
     have x6 := Hx.out.c 6 rfl
     have x7 := Hx.out.c 7 rfl
     have x8 := Hx.out.c 8 rfl
     have x9 := Hx.out.c 9 rfl
     have x10 := Hx.out.c 10 rfl
     have x11 := Hx.out.c 11 rfl
     have x12 := Hx.out.c 12 rfl
     have x13 := Hx.out.c 13 rfl
     have ltx := Hx.out.lt
     go_wp2
     go_ret
     exact ⟨rfl, HB.out⟩
    | true =>
     cases g3 with
     | false =>
      rw [if_neg (by simp)]
      go_enter Try.func61, Try.ntmps61
      have HB := hide (Below.refl w.heap.size w)
      go_wp2_with fail
      refine at_world fun W hW => ?_
      have bq0 : Blk W w.heap.size 88 #[.int .i64 2, .int .i64 p1, .int .i64 p2, .int .i64 s1, .int .i64 s2, .int .i64 s3, .int .i64 s4, .int .i64 sp, .int .i64 r1, .int .i64 r2, .int .i64 m1, .int .i64 m2, .int .i64 t1, .int .i64 t2] := by rw [hW]; exact Blk.new _ _ _
      have LW : Later w W := by rw [hW]; exact ((Below.refl _ _).alloc (Nat.le_refl _) _)
      have szW : W.heap.size = w.heap.size + 1 := by rw [hW]; simp
      clear hW
      replace HB := hide (onward HB.out LW)
      have Hx := hide bq0
      clear bq0 LW szW
      refine (pinside_any _ _ _ _ _).mono ?_
      rintro e w1 ⟨rfl, hb⟩
      replace HB := hide (onward HB.out hb)
      replace Hx := hide (blk_later Hx.out hb)
      clear hb
      have x0 := Hx.out.c 0 rfl
      have x1 := Hx.out.c 1 rfl
      have x2 := Hx.out.c 2 rfl
      have x3 := Hx.out.c 3 rfl
      have x4 := Hx.out.c 4 rfl
      have x5 := Hx.out.c 5 rfl
      have x6 := Hx.out.c 6 rfl
      have x7 := Hx.out.c 7 rfl
      have x8 := Hx.out.c 8 rfl
      have x9 := Hx.out.c 9 rfl
      have x10 := Hx.out.c 10 rfl
      have x11 := Hx.out.c 11 rfl
      have x12 := Hx.out.c 12 rfl
      have x13 := Hx.out.c 13 rfl
      have ltx := Hx.out.lt
      rw [hg1]
      go_wp2_with fail
      refine (pinside_any _ _ _ _ _).mono ?_
      rintro e w2 ⟨rfl, hb⟩
      replace HB := hide (onward HB.out hb)
      replace Hx := hide (blk_later Hx.out hb)
      clear hb x0 x1 x2 x3 x4 x5 x6 x7 x8 x9 x10 x11 x12 x13 ltx
      rw [hg2]
      have x0 := Hx.out.c 0 rfl
      have x1 := Hx.out.c 1 rfl
      have x2 := Hx.out.c 2 rfl
      have x3 := Hx.out.c 3 rfl
      have x4 := Hx.out.c 4 rfl
      have x5 := Hx.out.c 5 rfl
      have x6 := Hx.out.c 6 rfl
      have x7 := Hx.out.c 7 rfl
      have x8 := Hx.out.c 8 rfl
      have x9 := Hx.out.c 9 rfl
      have x10 := Hx.out.c 10 rfl
      have x11 := Hx.out.c 11 rfl
      have x12 := Hx.out.c 12 rfl
      have x13 := Hx.out.c 13 rfl
      have ltx := Hx.out.lt
      go_wp2_with fail
      refine (pinside_any _ _ _ _ _).mono ?_
      rintro e w3 ⟨rfl, hb⟩
      replace HB := hide (onward HB.out hb)
      replace Hx := hide (blk_later Hx.out hb)
      clear hb x0 x1 x2 x3 x4 x5 x6 x7 x8 x9 x10 x11 x12 x13 ltx
      rw [hg3]
      have x0 := Hx.out.c 0 rfl
      have x1 := Hx.out.c 1 rfl
      have x2 := Hx.out.c 2 rfl
      have x3 := Hx.out.c 3 rfl
      have x4 := Hx.out.c 4 rfl
      have x5 := Hx.out.c 5 rfl
      have x6 := Hx.out.c 6 rfl
      have x7 := Hx.out.c 7 rfl
      have x8 := Hx.out.c 8 rfl
      have x9 := Hx.out.c 9 rfl
      have x10 := Hx.out.c 10 rfl
      have x11 := Hx.out.c 11 rfl
      have x12 := Hx.out.c 12 rfl
      have x13 := Hx.out.c 13 rfl
      have ltx := Hx.out.lt
      go_wp2
      go_ret
      exact ⟨rfl, HB.out⟩
     | true =>
      cases g4 with
      | false =>
       rw [if_neg (by simp)]
       go_enter Try.func61, Try.ntmps61
       have HB := hide (Below.refl w.heap.size w)
       go_wp2_with fail
       refine at_world fun W hW => ?_
       have bq0 : Blk W w.heap.size 88 #[.int .i64 2, .int .i64 p1, .int .i64 p2, .int .i64 s1, .int .i64 s2, .int .i64 s3, .int .i64 s4, .int .i64 sp, .int .i64 r1, .int .i64 r2, .int .i64 m1, .int .i64 m2, .int .i64 t1, .int .i64 t2] := by rw [hW]; exact Blk.new _ _ _
       have LW : Later w W := by rw [hW]; exact ((Below.refl _ _).alloc (Nat.le_refl _) _)
       have szW : W.heap.size = w.heap.size + 1 := by rw [hW]; simp
       clear hW
       replace HB := hide (onward HB.out LW)
       have Hx := hide bq0
       clear bq0 LW szW
       refine (pinside_any _ _ _ _ _).mono ?_
       rintro e w1 ⟨rfl, hb⟩
       replace HB := hide (onward HB.out hb)
       replace Hx := hide (blk_later Hx.out hb)
       clear hb
       have x0 := Hx.out.c 0 rfl
       have x1 := Hx.out.c 1 rfl
       have x2 := Hx.out.c 2 rfl
       have x3 := Hx.out.c 3 rfl
       have x4 := Hx.out.c 4 rfl
       have x5 := Hx.out.c 5 rfl
       have x6 := Hx.out.c 6 rfl
       have x7 := Hx.out.c 7 rfl
       have x8 := Hx.out.c 8 rfl
       have x9 := Hx.out.c 9 rfl
       have x10 := Hx.out.c 10 rfl
       have x11 := Hx.out.c 11 rfl
       have x12 := Hx.out.c 12 rfl
       have x13 := Hx.out.c 13 rfl
       have ltx := Hx.out.lt
       rw [hg1]
       go_wp2_with fail
       refine (pinside_any _ _ _ _ _).mono ?_
       rintro e w2 ⟨rfl, hb⟩
       replace HB := hide (onward HB.out hb)
       replace Hx := hide (blk_later Hx.out hb)
       clear hb x0 x1 x2 x3 x4 x5 x6 x7 x8 x9 x10 x11 x12 x13 ltx
       rw [hg2]
       have x0 := Hx.out.c 0 rfl
       have x1 := Hx.out.c 1 rfl
       have x2 := Hx.out.c 2 rfl
       have x3 := Hx.out.c 3 rfl
       have x4 := Hx.out.c 4 rfl
       have x5 := Hx.out.c 5 rfl
       have x6 := Hx.out.c 6 rfl
       have x7 := Hx.out.c 7 rfl
       have x8 := Hx.out.c 8 rfl
       have x9 := Hx.out.c 9 rfl
       have x10 := Hx.out.c 10 rfl
       have x11 := Hx.out.c 11 rfl
       have x12 := Hx.out.c 12 rfl
       have x13 := Hx.out.c 13 rfl
       have ltx := Hx.out.lt
       go_wp2_with fail
       refine (pinside_any _ _ _ _ _).mono ?_
       rintro e w3 ⟨rfl, hb⟩
       replace HB := hide (onward HB.out hb)
       replace Hx := hide (blk_later Hx.out hb)
       clear hb x0 x1 x2 x3 x4 x5 x6 x7 x8 x9 x10 x11 x12 x13 ltx
       rw [hg3]
       have x0 := Hx.out.c 0 rfl
       have x1 := Hx.out.c 1 rfl
       have x2 := Hx.out.c 2 rfl
       have x3 := Hx.out.c 3 rfl
       have x4 := Hx.out.c 4 rfl
       have x5 := Hx.out.c 5 rfl
       have x6 := Hx.out.c 6 rfl
       have x7 := Hx.out.c 7 rfl
       have x8 := Hx.out.c 8 rfl
       have x9 := Hx.out.c 9 rfl
       have x10 := Hx.out.c 10 rfl
       have x11 := Hx.out.c 11 rfl
       have x12 := Hx.out.c 12 rfl
       have x13 := Hx.out.c 13 rfl
       have ltx := Hx.out.lt
       go_wp2_with fail
       refine (pwithin_any _ _ _ _).mono ?_
       rintro e w' ⟨rfl, rfl⟩
       rw [hg4]
       go_wp2
       go_ret
       exact ⟨rfl, HB.out⟩
      | true =>
       by_cases hq : mixedB ⟨2, p1, p2, s1, s2, s3, s4, sp, r1, r2, m1, m2, t1, t2⟩ = true
       ·
        rw [if_pos (by rw [hq]; rfl)]
        have hq2 := hq
        simp only [mixedB, decide_eq_true_eq] at hq2
        obtain ⟨⟨rfl, rfl⟩, ⟨rfl, rfl⟩, rfl, rfl⟩ := hq2
        clear hq
        go_enter Try.func61, Try.ntmps61
        have HB := hide (Below.refl w.heap.size w)
        go_wp2_with fail
        refine at_world fun W hW => ?_
        have bq0 : Blk W w.heap.size 88 #[.int .i64 2, .int .i64 p1, .int .i64 p2, .int .i64 0, .int .i64 0, .int .i64 0, .int .i64 0, .int .i64 sp, .int .i64 r1, .int .i64 r2, .int .i64 m1, .int .i64 m2, .int .i64 0, .int .i64 0] := by rw [hW]; exact Blk.new _ _ _
        have LW : Later w W := by rw [hW]; exact ((Below.refl _ _).alloc (Nat.le_refl _) _)
        have szW : W.heap.size = w.heap.size + 1 := by rw [hW]; simp
        clear hW
        replace HB := hide (onward HB.out LW)
        have Hx := hide bq0
        clear bq0 LW szW
        refine (pinside_any _ _ _ _ _).mono ?_
        rintro e w1 ⟨rfl, hb⟩
        replace HB := hide (onward HB.out hb)
        replace Hx := hide (blk_later Hx.out hb)
        clear hb
        have x0 := Hx.out.c 0 rfl
        have x1 := Hx.out.c 1 rfl
        have x2 := Hx.out.c 2 rfl
        have x3 := Hx.out.c 3 rfl
        have x4 := Hx.out.c 4 rfl
        have x5 := Hx.out.c 5 rfl
        have x6 := Hx.out.c 6 rfl
        have x7 := Hx.out.c 7 rfl
        have x8 := Hx.out.c 8 rfl
        have x9 := Hx.out.c 9 rfl
        have x10 := Hx.out.c 10 rfl
        have x11 := Hx.out.c 11 rfl
        have x12 := Hx.out.c 12 rfl
        have x13 := Hx.out.c 13 rfl
        have ltx := Hx.out.lt
        rw [hg1]
        go_wp2_with fail
        refine (pinside_any _ _ _ _ _).mono ?_
        rintro e w2 ⟨rfl, hb⟩
        replace HB := hide (onward HB.out hb)
        replace Hx := hide (blk_later Hx.out hb)
        clear hb x0 x1 x2 x3 x4 x5 x6 x7 x8 x9 x10 x11 x12 x13 ltx
        rw [hg2]
        have x0 := Hx.out.c 0 rfl
        have x1 := Hx.out.c 1 rfl
        have x2 := Hx.out.c 2 rfl
        have x3 := Hx.out.c 3 rfl
        have x4 := Hx.out.c 4 rfl
        have x5 := Hx.out.c 5 rfl
        have x6 := Hx.out.c 6 rfl
        have x7 := Hx.out.c 7 rfl
        have x8 := Hx.out.c 8 rfl
        have x9 := Hx.out.c 9 rfl
        have x10 := Hx.out.c 10 rfl
        have x11 := Hx.out.c 11 rfl
        have x12 := Hx.out.c 12 rfl
        have x13 := Hx.out.c 13 rfl
        have ltx := Hx.out.lt
        go_wp2_with fail
        refine (pinside_any _ _ _ _ _).mono ?_
        rintro e w3 ⟨rfl, hb⟩
        replace HB := hide (onward HB.out hb)
        replace Hx := hide (blk_later Hx.out hb)
        clear hb x0 x1 x2 x3 x4 x5 x6 x7 x8 x9 x10 x11 x12 x13 ltx
        rw [hg3]
        have x0 := Hx.out.c 0 rfl
        have x1 := Hx.out.c 1 rfl
        have x2 := Hx.out.c 2 rfl
        have x3 := Hx.out.c 3 rfl
        have x4 := Hx.out.c 4 rfl
        have x5 := Hx.out.c 5 rfl
        have x6 := Hx.out.c 6 rfl
        have x7 := Hx.out.c 7 rfl
        have x8 := Hx.out.c 8 rfl
        have x9 := Hx.out.c 9 rfl
        have x10 := Hx.out.c 10 rfl
        have x11 := Hx.out.c 11 rfl
        have x12 := Hx.out.c 12 rfl
        have x13 := Hx.out.c 13 rfl
        have ltx := Hx.out.lt
        go_wp2_with fail
        refine (pwithin_any _ _ _ _).mono ?_
        rintro e w' ⟨rfl, rfl⟩
        rw [hg4]
        go_wp2
        go_ret
        exact ⟨rfl, HB.out⟩
       ·
        rw [if_neg (by simpa using hq)]
        simp only [mixedB, decide_eq_true_eq] at hq
        have Hq := hide hq
        clear hq
        go_enter Try.func61, Try.ntmps61
        have HB := hide (Below.refl w.heap.size w)
        go_wp2_with fail
        refine at_world fun W hW => ?_
        have bq0 : Blk W w.heap.size 88 #[.int .i64 2, .int .i64 p1, .int .i64 p2, .int .i64 s1, .int .i64 s2, .int .i64 s3, .int .i64 s4, .int .i64 sp, .int .i64 r1, .int .i64 r2, .int .i64 m1, .int .i64 m2, .int .i64 t1, .int .i64 t2] := by rw [hW]; exact Blk.new _ _ _
        have LW : Later w W := by rw [hW]; exact ((Below.refl _ _).alloc (Nat.le_refl _) _)
        have szW : W.heap.size = w.heap.size + 1 := by rw [hW]; simp
        clear hW
        replace HB := hide (onward HB.out LW)
        have Hx := hide bq0
        clear bq0 LW szW
        refine (pinside_any _ _ _ _ _).mono ?_
        rintro e w1 ⟨rfl, hb⟩
        replace HB := hide (onward HB.out hb)
        replace Hx := hide (blk_later Hx.out hb)
        clear hb
        have x0 := Hx.out.c 0 rfl
        have x1 := Hx.out.c 1 rfl
        have x2 := Hx.out.c 2 rfl
        have x3 := Hx.out.c 3 rfl
        have x4 := Hx.out.c 4 rfl
        have x5 := Hx.out.c 5 rfl
        have x6 := Hx.out.c 6 rfl
        have x7 := Hx.out.c 7 rfl
        have x8 := Hx.out.c 8 rfl
        have x9 := Hx.out.c 9 rfl
        have x10 := Hx.out.c 10 rfl
        have x11 := Hx.out.c 11 rfl
        have x12 := Hx.out.c 12 rfl
        have x13 := Hx.out.c 13 rfl
        have ltx := Hx.out.lt
        rw [hg1]
        go_wp2_with fail
        refine (pinside_any _ _ _ _ _).mono ?_
        rintro e w2 ⟨rfl, hb⟩
        replace HB := hide (onward HB.out hb)
        replace Hx := hide (blk_later Hx.out hb)
        clear hb x0 x1 x2 x3 x4 x5 x6 x7 x8 x9 x10 x11 x12 x13 ltx
        rw [hg2]
        have x0 := Hx.out.c 0 rfl
        have x1 := Hx.out.c 1 rfl
        have x2 := Hx.out.c 2 rfl
        have x3 := Hx.out.c 3 rfl
        have x4 := Hx.out.c 4 rfl
        have x5 := Hx.out.c 5 rfl
        have x6 := Hx.out.c 6 rfl
        have x7 := Hx.out.c 7 rfl
        have x8 := Hx.out.c 8 rfl
        have x9 := Hx.out.c 9 rfl
        have x10 := Hx.out.c 10 rfl
        have x11 := Hx.out.c 11 rfl
        have x12 := Hx.out.c 12 rfl
        have x13 := Hx.out.c 13 rfl
        have ltx := Hx.out.lt
        go_wp2_with fail
        refine (pinside_any _ _ _ _ _).mono ?_
        rintro e w3 ⟨rfl, hb⟩
        replace HB := hide (onward HB.out hb)
        replace Hx := hide (blk_later Hx.out hb)
        clear hb x0 x1 x2 x3 x4 x5 x6 x7 x8 x9 x10 x11 x12 x13 ltx
        rw [hg3]
        have x0 := Hx.out.c 0 rfl
        have x1 := Hx.out.c 1 rfl
        have x2 := Hx.out.c 2 rfl
        have x3 := Hx.out.c 3 rfl
        have x4 := Hx.out.c 4 rfl
        have x5 := Hx.out.c 5 rfl
        have x6 := Hx.out.c 6 rfl
        have x7 := Hx.out.c 7 rfl
        have x8 := Hx.out.c 8 rfl
        have x9 := Hx.out.c 9 rfl
        have x10 := Hx.out.c 10 rfl
        have x11 := Hx.out.c 11 rfl
        have x12 := Hx.out.c 12 rfl
        have x13 := Hx.out.c 13 rfl
        have ltx := Hx.out.lt
        go_wp2_with fail
        refine (pwithin_any _ _ _ _).mono ?_
        rintro e w' ⟨rfl, rfl⟩
        rw [hg4]
        go_wp2
        all_goals first
         | (go_ret; exact ⟨rfl, HB.out⟩)
         | (exfalso; have hq9 := Hq.out; omega)
   ·
    have hp1 : decide (1 ≤ p1) = false := decide_eq_false (by omega)
    rw [hp1, if_neg (by simp)]
    clear hp1
    have hp2 : decide (0 < p1) = false := decide_eq_false hp
    go_enter Try.func61, Try.ntmps61
    have HB := hide (Below.refl w.heap.size w)
    go_wp2_with fail
    refine at_world fun W hW => ?_
    have bq0 : Blk W w.heap.size 88 #[.int .i64 2, .int .i64 p1, .int .i64 p2, .int .i64 s1, .int .i64 s2, .int .i64 s3, .int .i64 s4, .int .i64 sp, .int .i64 r1, .int .i64 r2, .int .i64 m1, .int .i64 m2, .int .i64 t1, .int .i64 t2] := by rw [hW]; exact Blk.new _ _ _
    have LW : Later w W := by rw [hW]; exact ((Below.refl _ _).alloc (Nat.le_refl _) _)
    have szW : W.heap.size = w.heap.size + 1 := by rw [hW]; simp
    clear hW
    replace HB := hide (onward HB.out LW)
    have Hx := hide bq0
    clear bq0 LW szW
    refine (pinside_any _ _ _ _ _).mono ?_
    rintro e w1 ⟨rfl, hb⟩
    replace HB := hide (onward HB.out hb)
    replace Hx := hide (blk_later Hx.out hb)
    clear hb
    have x0 := Hx.out.c 0 rfl
    have x1 := Hx.out.c 1 rfl
    have x2 := Hx.out.c 2 rfl
    have x3 := Hx.out.c 3 rfl
    have x4 := Hx.out.c 4 rfl
    have x5 := Hx.out.c 5 rfl
    have x6 := Hx.out.c 6 rfl
    have x7 := Hx.out.c 7 rfl
    have x8 := Hx.out.c 8 rfl
    have x9 := Hx.out.c 9 rfl
    have x10 := Hx.out.c 10 rfl
    have x11 := Hx.out.c 11 rfl
    have x12 := Hx.out.c 12 rfl
    have x13 := Hx.out.c 13 rfl
    have ltx := Hx.out.lt
    rw [hg1]
    go_wp2
    go_ret
    exact ⟨rfl, HB.out⟩
 rw [if_neg hk2]
 by_cases hk3 : k = 3
 ·
  subst hk3
  rw [if_pos rfl]
  have hmid : midE ⟨3, p1, p2, s1, s2, s3, s4, sp, r1, r2, m1, m2, t1, t2⟩ = (decide (1 ≤ p1) && g2 && g3 && g4) := by unfold midE; rw [hg2, hg3, hg4]
  rw [hmid]
  clear hmid
  cases g1 with
  | false =>
   rw [if_neg (by simp)]
   go_enter Try.func61, Try.ntmps61
   have HB := hide (Below.refl w.heap.size w)
   go_wp2_with fail
   refine at_world fun W hW => ?_
   have bq0 : Blk W w.heap.size 88 #[.int .i64 3, .int .i64 p1, .int .i64 p2, .int .i64 s1, .int .i64 s2, .int .i64 s3, .int .i64 s4, .int .i64 sp, .int .i64 r1, .int .i64 r2, .int .i64 m1, .int .i64 m2, .int .i64 t1, .int .i64 t2] := by rw [hW]; exact Blk.new _ _ _
   have LW : Later w W := by rw [hW]; exact ((Below.refl _ _).alloc (Nat.le_refl _) _)
   have szW : W.heap.size = w.heap.size + 1 := by rw [hW]; simp
   clear hW
   replace HB := hide (onward HB.out LW)
   have Hx := hide bq0
   clear bq0 LW szW
   refine (pinside_any _ _ _ _ _).mono ?_
   rintro e w1 ⟨rfl, hb⟩
   replace HB := hide (onward HB.out hb)
   replace Hx := hide (blk_later Hx.out hb)
   clear hb
   have x0 := Hx.out.c 0 rfl
   have x1 := Hx.out.c 1 rfl
   have x2 := Hx.out.c 2 rfl
   have x3 := Hx.out.c 3 rfl
   have x4 := Hx.out.c 4 rfl
   have x5 := Hx.out.c 5 rfl
   have x6 := Hx.out.c 6 rfl
   have x7 := Hx.out.c 7 rfl
   have x8 := Hx.out.c 8 rfl
   have x9 := Hx.out.c 9 rfl
   have x10 := Hx.out.c 10 rfl
   have x11 := Hx.out.c 11 rfl
   have x12 := Hx.out.c 12 rfl
   have x13 := Hx.out.c 13 rfl
   have ltx := Hx.out.lt
   rw [hg1]
   go_wp2
   go_ret
   exact ⟨rfl, HB.out⟩
  | true =>
   by_cases hp : 0 < p1
   ·
    have hp1 : decide (1 ≤ p1) = true := decide_eq_true (by omega)
    rw [hp1]
    clear hp1
    have hp2 : decide (0 < p1) = true := decide_eq_true hp
    cases g2 with
    | false =>
     rw [if_neg (by simp)]
     go_enter Try.func61, Try.ntmps61
     have HB := hide (Below.refl w.heap.size w)
     go_wp2_with fail
     refine at_world fun W hW => ?_
     have bq0 : Blk W w.heap.size 88 #[.int .i64 3, .int .i64 p1, .int .i64 p2, .int .i64 s1, .int .i64 s2, .int .i64 s3, .int .i64 s4, .int .i64 sp, .int .i64 r1, .int .i64 r2, .int .i64 m1, .int .i64 m2, .int .i64 t1, .int .i64 t2] := by rw [hW]; exact Blk.new _ _ _
     have LW : Later w W := by rw [hW]; exact ((Below.refl _ _).alloc (Nat.le_refl _) _)
     have szW : W.heap.size = w.heap.size + 1 := by rw [hW]; simp
     clear hW
     replace HB := hide (onward HB.out LW)
     have Hx := hide bq0
     clear bq0 LW szW
     refine (pinside_any _ _ _ _ _).mono ?_
     rintro e w1 ⟨rfl, hb⟩
     replace HB := hide (onward HB.out hb)
     replace Hx := hide (blk_later Hx.out hb)
     clear hb
     have x0 := Hx.out.c 0 rfl
     have x1 := Hx.out.c 1 rfl
     have x2 := Hx.out.c 2 rfl
     have x3 := Hx.out.c 3 rfl
     have x4 := Hx.out.c 4 rfl
     have x5 := Hx.out.c 5 rfl
     have x6 := Hx.out.c 6 rfl
     have x7 := Hx.out.c 7 rfl
     have x8 := Hx.out.c 8 rfl
     have x9 := Hx.out.c 9 rfl
     have x10 := Hx.out.c 10 rfl
     have x11 := Hx.out.c 11 rfl
     have x12 := Hx.out.c 12 rfl
     have x13 := Hx.out.c 13 rfl
     have ltx := Hx.out.lt
     rw [hg1]
     go_wp2_with fail
     refine (pinside_any _ _ _ _ _).mono ?_
     rintro e w2 ⟨rfl, hb⟩
     replace HB := hide (onward HB.out hb)
     replace Hx := hide (blk_later Hx.out hb)
     clear hb x0 x1 x2 x3 x4 x5 x6 x7 x8 x9 x10 x11 x12 x13 ltx
     rw [hg2]
     have x0 := Hx.out.c 0 rfl
     have x1 := Hx.out.c 1 rfl
     have x2 := Hx.out.c 2 rfl
     have x3 := Hx.out.c 3 rfl
     have x4 := Hx.out.c 4 rfl
     have x5 := Hx.out.c 5 rfl
     have x6 := Hx.out.c 6 rfl
     have x7 := Hx.out.c 7 rfl
     have x8 := Hx.out.c 8 rfl
     have x9 := Hx.out.c 9 rfl
     have x10 := Hx.out.c 10 rfl
     have x11 := Hx.out.c 11 rfl
     have x12 := Hx.out.c 12 rfl
     have x13 := Hx.out.c 13 rfl
     have ltx := Hx.out.lt
     go_wp2
     go_ret
     exact ⟨rfl, HB.out⟩
    | true =>
     cases g3 with
     | false =>
      rw [if_neg (by simp)]
      go_enter Try.func61, Try.ntmps61
      have HB := hide (Below.refl w.heap.size w)
      go_wp2_with fail
      refine at_world fun W hW => ?_
      have bq0 : Blk W w.heap.size 88 #[.int .i64 3, .int .i64 p1, .int .i64 p2, .int .i64 s1, .int .i64 s2, .int .i64 s3, .int .i64 s4, .int .i64 sp, .int .i64 r1, .int .i64 r2, .int .i64 m1, .int .i64 m2, .int .i64 t1, .int .i64 t2] := by rw [hW]; exact Blk.new _ _ _
      have LW : Later w W := by rw [hW]; exact ((Below.refl _ _).alloc (Nat.le_refl _) _)
      have szW : W.heap.size = w.heap.size + 1 := by rw [hW]; simp
      clear hW
      replace HB := hide (onward HB.out LW)
      have Hx := hide bq0
      clear bq0 LW szW
      refine (pinside_any _ _ _ _ _).mono ?_
      rintro e w1 ⟨rfl, hb⟩
      replace HB := hide (onward HB.out hb)
      replace Hx := hide (blk_later Hx.out hb)
      clear hb
      have x0 := Hx.out.c 0 rfl
      have x1 := Hx.out.c 1 rfl
      have x2 := Hx.out.c 2 rfl
      have x3 := Hx.out.c 3 rfl
      have x4 := Hx.out.c 4 rfl
      have x5 := Hx.out.c 5 rfl
      have x6 := Hx.out.c 6 rfl
      have x7 := Hx.out.c 7 rfl
      have x8 := Hx.out.c 8 rfl
      have x9 := Hx.out.c 9 rfl
      have x10 := Hx.out.c 10 rfl
      have x11 := Hx.out.c 11 rfl
      have x12 := Hx.out.c 12 rfl
      have x13 := Hx.out.c 13 rfl
      have ltx := Hx.out.lt
      rw [hg1]
      go_wp2_with fail
      refine (pinside_any _ _ _ _ _).mono ?_
      rintro e w2 ⟨rfl, hb⟩
      replace HB := hide (onward HB.out hb)
      replace Hx := hide (blk_later Hx.out hb)
      clear hb x0 x1 x2 x3 x4 x5 x6 x7 x8 x9 x10 x11 x12 x13 ltx
      rw [hg2]
      have x0 := Hx.out.c 0 rfl
      have x1 := Hx.out.c 1 rfl
      have x2 := Hx.out.c 2 rfl
      have x3 := Hx.out.c 3 rfl
      have x4 := Hx.out.c 4 rfl
      have x5 := Hx.out.c 5 rfl
      have x6 := Hx.out.c 6 rfl
      have x7 := Hx.out.c 7 rfl
      have x8 := Hx.out.c 8 rfl
      have x9 := Hx.out.c 9 rfl
      have x10 := Hx.out.c 10 rfl
      have x11 := Hx.out.c 11 rfl
      have x12 := Hx.out.c 12 rfl
      have x13 := Hx.out.c 13 rfl
      have ltx := Hx.out.lt
      go_wp2_with fail
      refine (pinside_any _ _ _ _ _).mono ?_
      rintro e w3 ⟨rfl, hb⟩
      replace HB := hide (onward HB.out hb)
      replace Hx := hide (blk_later Hx.out hb)
      clear hb x0 x1 x2 x3 x4 x5 x6 x7 x8 x9 x10 x11 x12 x13 ltx
      rw [hg3]
      have x0 := Hx.out.c 0 rfl
      have x1 := Hx.out.c 1 rfl
      have x2 := Hx.out.c 2 rfl
      have x3 := Hx.out.c 3 rfl
      have x4 := Hx.out.c 4 rfl
      have x5 := Hx.out.c 5 rfl
      have x6 := Hx.out.c 6 rfl
      have x7 := Hx.out.c 7 rfl
      have x8 := Hx.out.c 8 rfl
      have x9 := Hx.out.c 9 rfl
      have x10 := Hx.out.c 10 rfl
      have x11 := Hx.out.c 11 rfl
      have x12 := Hx.out.c 12 rfl
      have x13 := Hx.out.c 13 rfl
      have ltx := Hx.out.lt
      go_wp2
      go_ret
      exact ⟨rfl, HB.out⟩
     | true =>
      cases g4 with
      | false =>
       rw [if_neg (by simp)]
       go_enter Try.func61, Try.ntmps61
       have HB := hide (Below.refl w.heap.size w)
       go_wp2_with fail
       refine at_world fun W hW => ?_
       have bq0 : Blk W w.heap.size 88 #[.int .i64 3, .int .i64 p1, .int .i64 p2, .int .i64 s1, .int .i64 s2, .int .i64 s3, .int .i64 s4, .int .i64 sp, .int .i64 r1, .int .i64 r2, .int .i64 m1, .int .i64 m2, .int .i64 t1, .int .i64 t2] := by rw [hW]; exact Blk.new _ _ _
       have LW : Later w W := by rw [hW]; exact ((Below.refl _ _).alloc (Nat.le_refl _) _)
       have szW : W.heap.size = w.heap.size + 1 := by rw [hW]; simp
       clear hW
       replace HB := hide (onward HB.out LW)
       have Hx := hide bq0
       clear bq0 LW szW
       refine (pinside_any _ _ _ _ _).mono ?_
       rintro e w1 ⟨rfl, hb⟩
       replace HB := hide (onward HB.out hb)
       replace Hx := hide (blk_later Hx.out hb)
       clear hb
       have x0 := Hx.out.c 0 rfl
       have x1 := Hx.out.c 1 rfl
       have x2 := Hx.out.c 2 rfl
       have x3 := Hx.out.c 3 rfl
       have x4 := Hx.out.c 4 rfl
       have x5 := Hx.out.c 5 rfl
       have x6 := Hx.out.c 6 rfl
       have x7 := Hx.out.c 7 rfl
       have x8 := Hx.out.c 8 rfl
       have x9 := Hx.out.c 9 rfl
       have x10 := Hx.out.c 10 rfl
       have x11 := Hx.out.c 11 rfl
       have x12 := Hx.out.c 12 rfl
       have x13 := Hx.out.c 13 rfl
       have ltx := Hx.out.lt
       rw [hg1]
       go_wp2_with fail
       refine (pinside_any _ _ _ _ _).mono ?_
       rintro e w2 ⟨rfl, hb⟩
       replace HB := hide (onward HB.out hb)
       replace Hx := hide (blk_later Hx.out hb)
       clear hb x0 x1 x2 x3 x4 x5 x6 x7 x8 x9 x10 x11 x12 x13 ltx
       rw [hg2]
       have x0 := Hx.out.c 0 rfl
       have x1 := Hx.out.c 1 rfl
       have x2 := Hx.out.c 2 rfl
       have x3 := Hx.out.c 3 rfl
       have x4 := Hx.out.c 4 rfl
       have x5 := Hx.out.c 5 rfl
       have x6 := Hx.out.c 6 rfl
       have x7 := Hx.out.c 7 rfl
       have x8 := Hx.out.c 8 rfl
       have x9 := Hx.out.c 9 rfl
       have x10 := Hx.out.c 10 rfl
       have x11 := Hx.out.c 11 rfl
       have x12 := Hx.out.c 12 rfl
       have x13 := Hx.out.c 13 rfl
       have ltx := Hx.out.lt
       go_wp2_with fail
       refine (pinside_any _ _ _ _ _).mono ?_
       rintro e w3 ⟨rfl, hb⟩
       replace HB := hide (onward HB.out hb)
       replace Hx := hide (blk_later Hx.out hb)
       clear hb x0 x1 x2 x3 x4 x5 x6 x7 x8 x9 x10 x11 x12 x13 ltx
       rw [hg3]
       have x0 := Hx.out.c 0 rfl
       have x1 := Hx.out.c 1 rfl
       have x2 := Hx.out.c 2 rfl
       have x3 := Hx.out.c 3 rfl
       have x4 := Hx.out.c 4 rfl
       have x5 := Hx.out.c 5 rfl
       have x6 := Hx.out.c 6 rfl
       have x7 := Hx.out.c 7 rfl
       have x8 := Hx.out.c 8 rfl
       have x9 := Hx.out.c 9 rfl
       have x10 := Hx.out.c 10 rfl
       have x11 := Hx.out.c 11 rfl
       have x12 := Hx.out.c 12 rfl
       have x13 := Hx.out.c 13 rfl
       have ltx := Hx.out.lt
       go_wp2_with fail
       refine (pwithin_any _ _ _ _).mono ?_
       rintro e w' ⟨rfl, rfl⟩
       rw [hg4]
       go_wp2
       go_ret
       exact ⟨rfl, HB.out⟩
      | true =>
       obtain ⟨tb, htb⟩ : ∃ b, (turnB s1 s2 && turnB s3 s4 && turnB t1 t2) = b := ⟨_, rfl⟩
       rw [htb]
       have Htb := hide htb
       clear htb
       cases tb with
       | true =>
        rw [show (if (true && (true && true && true && true) && true) = true then (0 : Int) else 3) = 0 from rfl]
        go_enter Try.func61, Try.ntmps61
        have HB := hide (Below.refl w.heap.size w)
        go_wp2_with fail
        refine at_world fun W hW => ?_
        have bq0 : Blk W w.heap.size 88 #[.int .i64 3, .int .i64 p1, .int .i64 p2, .int .i64 s1, .int .i64 s2, .int .i64 s3, .int .i64 s4, .int .i64 sp, .int .i64 r1, .int .i64 r2, .int .i64 m1, .int .i64 m2, .int .i64 t1, .int .i64 t2] := by rw [hW]; exact Blk.new _ _ _
        have LW : Later w W := by rw [hW]; exact ((Below.refl _ _).alloc (Nat.le_refl _) _)
        have szW : W.heap.size = w.heap.size + 1 := by rw [hW]; simp
        clear hW
        replace HB := hide (onward HB.out LW)
        have Hx := hide bq0
        clear bq0 LW szW
        refine (pinside_any _ _ _ _ _).mono ?_
        rintro e w1 ⟨rfl, hb⟩
        replace HB := hide (onward HB.out hb)
        replace Hx := hide (blk_later Hx.out hb)
        clear hb
        have x0 := Hx.out.c 0 rfl
        have x1 := Hx.out.c 1 rfl
        have x2 := Hx.out.c 2 rfl
        have x3 := Hx.out.c 3 rfl
        have x4 := Hx.out.c 4 rfl
        have x5 := Hx.out.c 5 rfl
        have x6 := Hx.out.c 6 rfl
        have x7 := Hx.out.c 7 rfl
        have x8 := Hx.out.c 8 rfl
        have x9 := Hx.out.c 9 rfl
        have x10 := Hx.out.c 10 rfl
        have x11 := Hx.out.c 11 rfl
        have x12 := Hx.out.c 12 rfl
        have x13 := Hx.out.c 13 rfl
        have ltx := Hx.out.lt
        rw [hg1]
        go_wp2_with fail
        refine (pinside_any _ _ _ _ _).mono ?_
        rintro e w2 ⟨rfl, hb⟩
        replace HB := hide (onward HB.out hb)
        replace Hx := hide (blk_later Hx.out hb)
        clear hb x0 x1 x2 x3 x4 x5 x6 x7 x8 x9 x10 x11 x12 x13 ltx
        rw [hg2]
        have x0 := Hx.out.c 0 rfl
        have x1 := Hx.out.c 1 rfl
        have x2 := Hx.out.c 2 rfl
        have x3 := Hx.out.c 3 rfl
        have x4 := Hx.out.c 4 rfl
        have x5 := Hx.out.c 5 rfl
        have x6 := Hx.out.c 6 rfl
        have x7 := Hx.out.c 7 rfl
        have x8 := Hx.out.c 8 rfl
        have x9 := Hx.out.c 9 rfl
        have x10 := Hx.out.c 10 rfl
        have x11 := Hx.out.c 11 rfl
        have x12 := Hx.out.c 12 rfl
        have x13 := Hx.out.c 13 rfl
        have ltx := Hx.out.lt
        go_wp2_with fail
        refine (pinside_any _ _ _ _ _).mono ?_
        rintro e w3 ⟨rfl, hb⟩
        replace HB := hide (onward HB.out hb)
        replace Hx := hide (blk_later Hx.out hb)
        clear hb x0 x1 x2 x3 x4 x5 x6 x7 x8 x9 x10 x11 x12 x13 ltx
        rw [hg3]
        have x0 := Hx.out.c 0 rfl
        have x1 := Hx.out.c 1 rfl
        have x2 := Hx.out.c 2 rfl
        have x3 := Hx.out.c 3 rfl
        have x4 := Hx.out.c 4 rfl
        have x5 := Hx.out.c 5 rfl
        have x6 := Hx.out.c 6 rfl
        have x7 := Hx.out.c 7 rfl
        have x8 := Hx.out.c 8 rfl
        have x9 := Hx.out.c 9 rfl
        have x10 := Hx.out.c 10 rfl
        have x11 := Hx.out.c 11 rfl
        have x12 := Hx.out.c 12 rfl
        have x13 := Hx.out.c 13 rfl
        have ltx := Hx.out.lt
        go_wp2_with fail
        refine (pwithin_any _ _ _ _).mono ?_
        rintro e w' ⟨rfl, rfl⟩
        rw [hg4]
        go_wp2_with fail
        refine at_world fun w5 hW => ?_
        have bq0 : Blk w5 w3.heap.size 24 #[.int .i64 s1, .int .i64 s2, .int .i64 s3, .int .i64 s4, .int .i64 t1, .int .i64 t2] := by rw [hW]; exact Blk.new _ _ _
        have LW : Later w3 w5 := by rw [hW]; exact ((Below.refl _ _).alloc (Nat.le_refl _) _)
        have szW : w5.heap.size = w3.heap.size + 1 := by rw [hW]; simp
        clear hW x0 x1 x2 x3 x4 x5 x6 x7 x8 x9 x10 x11 x12 x13 ltx
        replace HB := hide (onward HB.out LW)
        replace Hx := hide (blk_later Hx.out LW)
        have Hs := hide bq0
        clear bq0 LW szW
        refine (pturning_any _ _ _ _ _ _ _ _ Hs.out).mono ?_
        rintro e w6 ⟨rfl, hb⟩
        replace HB := hide (onward HB.out hb)
        replace Hx := hide (blk_later Hx.out hb)
        replace Hs := hide (blk_later Hs.out hb)
        clear hb
        rw [Htb.out]
        go_wp2
        go_ret
        exact ⟨rfl, HB.out⟩
       | false =>
        rw [if_neg (by simp)]
        go_enter Try.func61, Try.ntmps61
        have HB := hide (Below.refl w.heap.size w)
        go_wp2_with fail
        refine at_world fun W hW => ?_
        have bq0 : Blk W w.heap.size 88 #[.int .i64 3, .int .i64 p1, .int .i64 p2, .int .i64 s1, .int .i64 s2, .int .i64 s3, .int .i64 s4, .int .i64 sp, .int .i64 r1, .int .i64 r2, .int .i64 m1, .int .i64 m2, .int .i64 t1, .int .i64 t2] := by rw [hW]; exact Blk.new _ _ _
        have LW : Later w W := by rw [hW]; exact ((Below.refl _ _).alloc (Nat.le_refl _) _)
        have szW : W.heap.size = w.heap.size + 1 := by rw [hW]; simp
        clear hW
        replace HB := hide (onward HB.out LW)
        have Hx := hide bq0
        clear bq0 LW szW
        refine (pinside_any _ _ _ _ _).mono ?_
        rintro e w1 ⟨rfl, hb⟩
        replace HB := hide (onward HB.out hb)
        replace Hx := hide (blk_later Hx.out hb)
        clear hb
        have x0 := Hx.out.c 0 rfl
        have x1 := Hx.out.c 1 rfl
        have x2 := Hx.out.c 2 rfl
        have x3 := Hx.out.c 3 rfl
        have x4 := Hx.out.c 4 rfl
        have x5 := Hx.out.c 5 rfl
        have x6 := Hx.out.c 6 rfl
        have x7 := Hx.out.c 7 rfl
        have x8 := Hx.out.c 8 rfl
        have x9 := Hx.out.c 9 rfl
        have x10 := Hx.out.c 10 rfl
        have x11 := Hx.out.c 11 rfl
        have x12 := Hx.out.c 12 rfl
        have x13 := Hx.out.c 13 rfl
        have ltx := Hx.out.lt
        rw [hg1]
        go_wp2_with fail
        refine (pinside_any _ _ _ _ _).mono ?_
        rintro e w2 ⟨rfl, hb⟩
        replace HB := hide (onward HB.out hb)
        replace Hx := hide (blk_later Hx.out hb)
        clear hb x0 x1 x2 x3 x4 x5 x6 x7 x8 x9 x10 x11 x12 x13 ltx
        rw [hg2]
        have x0 := Hx.out.c 0 rfl
        have x1 := Hx.out.c 1 rfl
        have x2 := Hx.out.c 2 rfl
        have x3 := Hx.out.c 3 rfl
        have x4 := Hx.out.c 4 rfl
        have x5 := Hx.out.c 5 rfl
        have x6 := Hx.out.c 6 rfl
        have x7 := Hx.out.c 7 rfl
        have x8 := Hx.out.c 8 rfl
        have x9 := Hx.out.c 9 rfl
        have x10 := Hx.out.c 10 rfl
        have x11 := Hx.out.c 11 rfl
        have x12 := Hx.out.c 12 rfl
        have x13 := Hx.out.c 13 rfl
        have ltx := Hx.out.lt
        go_wp2_with fail
        refine (pinside_any _ _ _ _ _).mono ?_
        rintro e w3 ⟨rfl, hb⟩
        replace HB := hide (onward HB.out hb)
        replace Hx := hide (blk_later Hx.out hb)
        clear hb x0 x1 x2 x3 x4 x5 x6 x7 x8 x9 x10 x11 x12 x13 ltx
        rw [hg3]
        have x0 := Hx.out.c 0 rfl
        have x1 := Hx.out.c 1 rfl
        have x2 := Hx.out.c 2 rfl
        have x3 := Hx.out.c 3 rfl
        have x4 := Hx.out.c 4 rfl
        have x5 := Hx.out.c 5 rfl
        have x6 := Hx.out.c 6 rfl
        have x7 := Hx.out.c 7 rfl
        have x8 := Hx.out.c 8 rfl
        have x9 := Hx.out.c 9 rfl
        have x10 := Hx.out.c 10 rfl
        have x11 := Hx.out.c 11 rfl
        have x12 := Hx.out.c 12 rfl
        have x13 := Hx.out.c 13 rfl
        have ltx := Hx.out.lt
        go_wp2_with fail
        refine (pwithin_any _ _ _ _).mono ?_
        rintro e w' ⟨rfl, rfl⟩
        rw [hg4]
        go_wp2_with fail
        refine at_world fun w5 hW => ?_
        have bq0 : Blk w5 w3.heap.size 24 #[.int .i64 s1, .int .i64 s2, .int .i64 s3, .int .i64 s4, .int .i64 t1, .int .i64 t2] := by rw [hW]; exact Blk.new _ _ _
        have LW : Later w3 w5 := by rw [hW]; exact ((Below.refl _ _).alloc (Nat.le_refl _) _)
        have szW : w5.heap.size = w3.heap.size + 1 := by rw [hW]; simp
        clear hW x0 x1 x2 x3 x4 x5 x6 x7 x8 x9 x10 x11 x12 x13 ltx
        replace HB := hide (onward HB.out LW)
        replace Hx := hide (blk_later Hx.out LW)
        have Hs := hide bq0
        clear bq0 LW szW
        refine (pturning_any _ _ _ _ _ _ _ _ Hs.out).mono ?_
        rintro e w6 ⟨rfl, hb⟩
        replace HB := hide (onward HB.out hb)
        replace Hx := hide (blk_later Hx.out hb)
        replace Hs := hide (blk_later Hs.out hb)
        clear hb
        rw [Htb.out]
        go_wp2
        go_ret
        exact ⟨rfl, HB.out⟩
   ·
    have hp1 : decide (1 ≤ p1) = false := decide_eq_false (by omega)
    rw [hp1, if_neg (by simp)]
    clear hp1
    have hp2 : decide (0 < p1) = false := decide_eq_false hp
    go_enter Try.func61, Try.ntmps61
    have HB := hide (Below.refl w.heap.size w)
    go_wp2_with fail
    refine at_world fun W hW => ?_
    have bq0 : Blk W w.heap.size 88 #[.int .i64 3, .int .i64 p1, .int .i64 p2, .int .i64 s1, .int .i64 s2, .int .i64 s3, .int .i64 s4, .int .i64 sp, .int .i64 r1, .int .i64 r2, .int .i64 m1, .int .i64 m2, .int .i64 t1, .int .i64 t2] := by rw [hW]; exact Blk.new _ _ _
    have LW : Later w W := by rw [hW]; exact ((Below.refl _ _).alloc (Nat.le_refl _) _)
    have szW : W.heap.size = w.heap.size + 1 := by rw [hW]; simp
    clear hW
    replace HB := hide (onward HB.out LW)
    have Hx := hide bq0
    clear bq0 LW szW
    refine (pinside_any _ _ _ _ _).mono ?_
    rintro e w1 ⟨rfl, hb⟩
    replace HB := hide (onward HB.out hb)
    replace Hx := hide (blk_later Hx.out hb)
    clear hb
    have x0 := Hx.out.c 0 rfl
    have x1 := Hx.out.c 1 rfl
    have x2 := Hx.out.c 2 rfl
    have x3 := Hx.out.c 3 rfl
    have x4 := Hx.out.c 4 rfl
    have x5 := Hx.out.c 5 rfl
    have x6 := Hx.out.c 6 rfl
    have x7 := Hx.out.c 7 rfl
    have x8 := Hx.out.c 8 rfl
    have x9 := Hx.out.c 9 rfl
    have x10 := Hx.out.c 10 rfl
    have x11 := Hx.out.c 11 rfl
    have x12 := Hx.out.c 12 rfl
    have x13 := Hx.out.c 13 rfl
    have ltx := Hx.out.lt
    rw [hg1]
    go_wp2
    go_ret
    exact ⟨rfl, HB.out⟩
 ·
  rw [if_neg hk3]
  have hk1' : (k == 1) = false := beq_eq_false_iff_ne.2 hk1
  have hk2' : (k == 2) = false := beq_eq_false_iff_ne.2 hk2
  have hk3' : (k == 3) = false := beq_eq_false_iff_ne.2 hk3
  go_enter Try.func61, Try.ntmps61
  have HB := hide (Below.refl w.heap.size w)
  go_wp2_with fail
  refine at_world fun W hW => ?_
  have bq0 : Blk W w.heap.size 88 #[.int .i64 k, .int .i64 p1, .int .i64 p2, .int .i64 s1, .int .i64 s2, .int .i64 s3, .int .i64 s4, .int .i64 sp, .int .i64 r1, .int .i64 r2, .int .i64 m1, .int .i64 m2, .int .i64 t1, .int .i64 t2] := by rw [hW]; exact Blk.new _ _ _
  have LW : Later w W := by rw [hW]; exact ((Below.refl _ _).alloc (Nat.le_refl _) _)
  have szW : W.heap.size = w.heap.size + 1 := by rw [hW]; simp
  clear hW
  replace HB := hide (onward HB.out LW)
  have Hx := hide bq0
  clear bq0 LW szW
  refine (pinside_any _ _ _ _ _).mono ?_
  rintro e w1 ⟨rfl, hb⟩
  replace HB := hide (onward HB.out hb)
  replace Hx := hide (blk_later Hx.out hb)
  clear hb
  have x0 := Hx.out.c 0 rfl
  have x1 := Hx.out.c 1 rfl
  have x2 := Hx.out.c 2 rfl
  have x3 := Hx.out.c 3 rfl
  have x4 := Hx.out.c 4 rfl
  have x5 := Hx.out.c 5 rfl
  have x6 := Hx.out.c 6 rfl
  have x7 := Hx.out.c 7 rfl
  have x8 := Hx.out.c 8 rfl
  have x9 := Hx.out.c 9 rfl
  have x10 := Hx.out.c 10 rfl
  have x11 := Hx.out.c 11 rfl
  have x12 := Hx.out.c 12 rfl
  have x13 := Hx.out.c 13 rfl
  have ltx := Hx.out.lt
  rw [hg1]
  go_wp2
  go_ret
  exact ⟨rfl, HB.out⟩
end Go.Proofs.Ytepgpihobmjbdaa
end
section
namespace Go.Proofs.Ytepgpihobmjbdaa
open Go Go.RowKit
end Go.Proofs.Ytepgpihobmjbdaa
end
