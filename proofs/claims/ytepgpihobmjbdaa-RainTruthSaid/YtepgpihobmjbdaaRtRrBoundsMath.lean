/-
  Ground ranges of gates: the program's contracts; and the law's works().
  The ray in whose sector a vector is: the program's contract.
  Heights of gates: plain functions and their bounds; no program in sight.
  The law's works(), and the law BeamDirections.
  With a narrower earth heights are narrower; heights between both edges of a beam meet its band: no program in sight.
-/
import Derived.Test.YtepgpihobmjbdaaRegQ
import Derived.Test.YtepgpihobmjbdaaRtRrBeamWorks
import Derived.Test.YtepgpihobmjbdaaRtRrGauge
import Derived.Test.YtepgpihobmjbdaaBeam2Math
set_option linter.unusedSimpArgs false
set_option linter.unusedVariables false
section
namespace Go.Proofs.Ytepgpihobmjbdaa
open Go.RowKit
def reachN (st gate t : Int) : Int := (2 * gate + 1) * st * (262144 - t * t)
def reachD (t : Int) : Int := 2 * (262144 + t * t)
theorem reach_bd {st gate t : Int} (h1 : -8 ≤ t) (h2 : t ≤ 264) (h3 : 0 ≤ gate) (h4 : gate ≤ 199) (h5 : 0 ≤ st) (h6 : st ≤ 2000) :
  0 ≤ t * t ∧ t * t ≤ 69696 ∧ 0 ≤ (2 * gate + 1) * st ∧ (2 * gate + 1) * st ≤ 798000 ∧ 0 ≤ (2 * gate + 1) * st * (262144 - t * t) ∧ (2 * gate + 1) * st * (262144 - t * t) ≤ 209190912000 := by
 obtain ⟨a, b⟩ := tilt_bd h1 h2
 obtain ⟨c, d⟩ := mul_bdB (a := 2 * gate + 1) (b := st) (A := 399) (B := 2000) (by omega) (by omega) h5 h6
 obtain ⟨e, f⟩ := mul_bdB (a := (2 * gate + 1) * st) (b := 262144 - t * t) (A := 798000) (B := 262144) c (by omega) (by omega) (by omega)
 exact ⟨a, b, c, by omega, e, by omega⟩
def RoundF (fid : FuncId) (f : Int → Int → Int) : Prop := ∀ (a b : Int) (W : World), 1 ≤ b → b ≤ 4611686018427387903 → -4611686018427387903 ≤ a → a ≤ 4611686018427387903 → Calls Try.prog fid #[.int .i64 a, .int .i64 b] W fun e w' => e = .returned (.int .i64 (f a b)) ∧ W = w'
theorem round_down : RoundF 37 (· / ·) := fun a b W h1 h2 h3 h4 => downB_any a b W h1 h2 h3 h4
theorem round_up : RoundF 38 cdiv := fun a b W h1 h2 h3 h4 => upB_any a b W h1 h2 h3 h4
def siteV (s : ByteArray) (x y z r g st wd : Int) : Value := .agg #[.string s, .int .i64 x, .int .i64 y, .int .i64 z, .int .i64 r, .int .i64 g, .int .i64 st, .int .i64 wd]
set_option maxHeartbeats 1000000 in
set_option maxRecDepth 100000 in
theorem reachDown_any (s : ByteArray) (x y z r g st wd t gate : Int) (w : World) (h1 : -8 ≤ t) (h2 : t ≤ 264) (h3 : 0 ≤ gate) (h4 : gate ≤ 199) (h5 : 0 ≤ st) (h6 : st ≤ 2000) :
  Calls Try.prog 53 #[siteV s x y z r g st wd, .int .i64 t, .int .i64 gate, .func (.func 37) #[] #[]] w fun e w' => e = .returned (.int .i64 (reachN st gate t / reachD t)) ∧ Below w.heap.size w w' := by
 obtain ⟨a1, a2, a3, a4, a5, a6⟩ := reach_bd h1 h2 h3 h4 h5 h6
 have hs := fun W => slantOf_any t W h1 h2
 have hr := fun W => round_down ((2 * gate + 1) * st * (262144 - t * t)) (2 * (262144 + t * t)) W (by omega) (by omega) (by omega) (by omega)
 unfold vecV slantV at hs
 simp only at hs hr
 unfold siteV reachN reachD
 have Hs := hide hs
 have Hr := hide hr
 clear hs hr
 go_enter Try.func53, Try.ntmps53
 have HB := hide (Below.refl w.heap.size w)
 go_wp2_with fail
 refine at_world fun W hW => ?_
 have bq0 : Blk W w.heap.size 28 #[.string s, .int .i64 x, .int .i64 y, .int .i64 z, .int .i64 r, .int .i64 g, .int .i64 st, .int .i64 wd] := by rw [hW]; exact Blk.new _ _ _
 have LW : Later w W := by rw [hW]; exact ((Below.refl _ _).alloc (Nat.le_refl _) _)
 have szW : W.heap.size = w.heap.size + 1 := by rw [hW]; simp
 clear hW
 replace HB := hide (onward HB.out LW)
 have Hq := hide bq0
 clear bq0 LW szW
 refine (Hs.out _).mono ?_
 rintro e w1 ⟨rfl, hb⟩
 replace HB := hide (onward HB.out hb)
 replace Hq := hide (blk_later Hq.out hb)
 clear hb
 obtain ⟨q0, q1, q2, q3, q4, q5, q6, q7⟩ := Hq.out.site8
 have lts := Hq.out.lt
 go_wp2_with fail
 refine (Hr.out _).mono ?_
 rintro e w' ⟨rfl, rfl⟩
 go_wp2
 go_ret
 refine ⟨rfl, ?_⟩
 repeat (first | exact HB.out | (refine Below.setCell ?_ (by first | omega | (simp <;> omega)) _) | (refine Below.alloc ?_ (by first | omega | (simp <;> omega)) _) | (refine below_drewN ?_ _))
set_option maxHeartbeats 1000000 in
set_option maxRecDepth 100000 in
theorem reachUp_any (s : ByteArray) (x y z r g st wd t gate : Int) (w : World) (h1 : -8 ≤ t) (h2 : t ≤ 264) (h3 : 0 ≤ gate) (h4 : gate ≤ 199) (h5 : 0 ≤ st) (h6 : st ≤ 2000) :
  Calls Try.prog 53 #[siteV s x y z r g st wd, .int .i64 t, .int .i64 gate, .func (.func 38) #[] #[]] w fun e w' => e = .returned (.int .i64 (cdiv (reachN st gate t) (reachD t))) ∧ Below w.heap.size w w' := by
 obtain ⟨a1, a2, a3, a4, a5, a6⟩ := reach_bd h1 h2 h3 h4 h5 h6
 have hs := fun W => slantOf_any t W h1 h2
 have hr := fun W => round_up ((2 * gate + 1) * st * (262144 - t * t)) (2 * (262144 + t * t)) W (by omega) (by omega) (by omega) (by omega)
 unfold vecV slantV at hs
 simp only at hs hr
 unfold siteV reachN reachD
 have Hs := hide hs
 have Hr := hide hr
 clear hs hr
 go_enter Try.func53, Try.ntmps53
 have HB := hide (Below.refl w.heap.size w)
 go_wp2_with fail
 refine at_world fun W hW => ?_
 have bq0 : Blk W w.heap.size 28 #[.string s, .int .i64 x, .int .i64 y, .int .i64 z, .int .i64 r, .int .i64 g, .int .i64 st, .int .i64 wd] := by rw [hW]; exact Blk.new _ _ _
 have LW : Later w W := by rw [hW]; exact ((Below.refl _ _).alloc (Nat.le_refl _) _)
 have szW : W.heap.size = w.heap.size + 1 := by rw [hW]; simp
 clear hW
 replace HB := hide (onward HB.out LW)
 have Hq := hide bq0
 clear bq0 LW szW
 refine (Hs.out _).mono ?_
 rintro e w1 ⟨rfl, hb⟩
 replace HB := hide (onward HB.out hb)
 replace Hq := hide (blk_later Hq.out hb)
 clear hb
 obtain ⟨q0, q1, q2, q3, q4, q5, q6, q7⟩ := Hq.out.site8
 have lts := Hq.out.lt
 go_wp2_with fail
 refine (Hr.out _).mono ?_
 rintro e w' ⟨rfl, rfl⟩
 go_wp2
 go_ret
 refine ⟨rfl, ?_⟩
 repeat (first | exact HB.out | (refine Below.setCell ?_ (by first | omega | (simp <;> omega)) _) | (refine Below.alloc ?_ (by first | omega | (simp <;> omega)) _) | (refine below_drewN ?_ _))
theorem siteE_ok {nb : Bool} {x y z r g st wd : Int} (h : siteE nb x y z r g st wd = 0) : nb = true ∧ -1048576 ≤ x ∧ x ≤ 1048576 ∧ -1048576 ≤ y ∧ y ≤ 1048576 ∧ 0 ≤ z ∧ z ≤ 20000 ∧ 1 ≤ r ∧ r ≤ 90 ∧ 1 ≤ g ∧ g ≤ 200 ∧ 50 ≤ st ∧ st ≤ 2000 ∧ 0 ≤ wd ∧ wd ≤ 8 := by
 unfold siteE at h
 split at h
 · omega
 ·
  split at h
  ·
   rename_i h1 h2
   simp only [Bool.and_eq_true, winB_iff] at h2
   cases nb
   · exact absurd rfl h1
   · exact ⟨rfl, by omega⟩
  · omega
end Go.Proofs.Ytepgpihobmjbdaa
end
section
namespace Go.Proofs.Ytepgpihobmjbdaa
open Go Go.RowKit
theorem prod_bdQ {a b A B : Int} (hA : 0 ≤ A) (_hB : 0 ≤ B) (ha : -A ≤ a ∧ a ≤ A) (hb : -B ≤ b ∧ b ≤ B) : -(A * B) ≤ a * b ∧ a * b ≤ A * B := by
 have key : ∀ u v : Int, 0 ≤ u → u ≤ A → 0 ≤ v → v ≤ B → 0 ≤ u * v ∧ u * v ≤ A * B := fun u v a0 a1 b0 b1 => ⟨Int.mul_nonneg a0 b0, Int.mul_le_mul a1 b1 b0 hA⟩
 by_cases h1 : 0 ≤ a <;> by_cases h2 : 0 ≤ b
 · have := key a b h1 ha.2 h2 hb.2; omega
 · have := key a (-b) h1 ha.2 (by omega) (by omega); rw [Int.mul_neg] at this; omega
 · have := key (-a) b (by omega) (by omega) h2 hb.2; rw [Int.neg_mul] at this; omega
 · have := key (-a) (-b) (by omega) (by omega) (by omega) (by omega); rw [Int.neg_mul_neg] at this; omega
end Go.Proofs.Ytepgpihobmjbdaa
end
section
namespace Go.Proofs.Ytepgpihobmjbdaa
theorem q_bd {a b C : Int} (hb : 1 ≤ b) (h1 : -C ≤ a) (h2 : a ≤ C) (hC : 0 ≤ C) : -C ≤ a / b ∧ a / b ≤ C ∧ -C ≤ cdiv a b ∧ cdiv a b ≤ C := by
 have e := fun x : Int => Int.le_ediv_iff_mul_le (a := x) (b := a) (c := b) (by omega)
 have m : C ≤ C * b := by have := Int.mul_le_mul_of_nonneg_left hb hC; omega
 have l1 : -C ≤ a / b := (e (-C)).2 (by rw [Int.neg_mul]; omega)
 have l2 : a / b ≤ C := by
  have : a / b < C + 1 := Int.ediv_lt_of_lt_mul (by omega) (by rw [Int.add_mul]; omega)
  omega
 have l3 : -C ≤ -a / b := (Int.le_ediv_iff_mul_le (by omega)).2 (by rw [Int.neg_mul]; omega)
 have l4 : -a / b ≤ C := by
  have : -a / b < C + 1 := Int.ediv_lt_of_lt_mul (by omega) (by rw [Int.add_mul]; omega)
  omega
 unfold cdiv
 omega
def sineN (st gate t : Int) : Int := (2 * gate + 1) * st * (1024 * t)
theorem sine_bd {st gate t : Int} (h1 : -8 ≤ t) (h2 : t ≤ 264) (h3 : 0 ≤ (2 * gate + 1) * st) (h4 : (2 * gate + 1) * st ≤ 798000) : -215728128000 ≤ (2 * gate + 1) * st * (1024 * t) ∧ (2 * gate + 1) * st * (1024 * t) ≤ 215728128000 := by
 generalize (2 * gate + 1) * st = a at *
 have a1 : a * (1024 * t) ≤ a * 270336 := Int.mul_le_mul_of_nonneg_left (by omega) h3
 have a2 : a * (-8192) ≤ a * (1024 * t) := Int.mul_le_mul_of_nonneg_left (by omega) h3
 omega
def rD (st gate t : Int) : Int := reachN st gate t / reachD t
def rU (st gate t : Int) : Int := cdiv (reachN st gate t) (reachD t)
theorem r_bd {st gate t : Int} (h1 : -8 ≤ t) (h2 : t ≤ 264) (h3 : 0 ≤ gate) (h4 : gate ≤ 199) (h5 : 0 ≤ st) (h6 : st ≤ 2000) : 0 ≤ rD st gate t ∧ rD st gate t ≤ 400000 ∧ 0 ≤ rU st gate t ∧ rU st gate t ≤ 400000 ∧ rD st gate t ≤ rU st gate t := by
 obtain ⟨a1, a2, a3, a4, a5, a6⟩ := reach_bd h1 h2 h3 h4 h5 h6
 unfold rD rU reachN reachD
 have hd : 524288 ≤ 2 * (262144 + t * t) := by omega
 rw [cdiv_eq (by omega)]
 generalize 2 * (262144 + t * t) = d at *
 generalize (2 * gate + 1) * st * (262144 - t * t) = n at *
 have hm : 400000 * 524288 ≤ 400000 * d := Int.mul_le_mul_of_nonneg_left hd (by omega)
 refine ⟨Int.ediv_nonneg a5 (by omega), ?_, Int.ediv_nonneg (by omega) (by omega), ?_, Int.ediv_le_ediv (by omega) (by omega)⟩
 ·
  have : n / d < 400000 + 1 := Int.ediv_lt_of_lt_mul (by omega) (by rw [Int.add_mul]; omega)
  omega
 ·
  have : (n + d - 1) / d < 400000 + 1 := Int.ediv_lt_of_lt_mul (by omega) (by rw [Int.add_mul]; omega)
  omega
theorem sq_bd {r : Int} (h : 0 ≤ r) (h2 : r ≤ 400000) : 0 ≤ r * r ∧ r * r ≤ 160000000000 := by
 obtain ⟨a, b⟩ := mul_bdB h h2 h h2
 exact ⟨a, by omega⟩
def riseD (z st gate t e : Int) : Int := z + sineN st gate t / reachD t + rD st gate t * rD st gate t / (2 * e)
def riseU (z st gate t e : Int) : Int := z + cdiv (sineN st gate t) (reachD t) + cdiv (rU st gate t * rU st gate t) (2 * e)
def okE (lo hi : Int) : Bool := decide (1000000 ≤ lo ∧ lo ≤ hi ∧ hi ≤ 100000000)
theorem okE_iff {lo hi : Int} (h : okE lo hi = true) : 1000000 ≤ lo ∧ lo ≤ hi ∧ hi ≤ 100000000 := of_decide_eq_true h
def bandR (e t gate z g st wd elo ehi : Int) : (Int × Int) × Int :=
 if e ≠ 0 then ((0, 0), e) else if (winB t 0 256 && okE elo ehi && winB gate 0 (g - 1)) = true then ((riseD z st gate (t - wd) ehi, riseU z st gate (t + wd) elo), 0) else ((0, 0), 3)
end Go.Proofs.Ytepgpihobmjbdaa
end
section
namespace Go.Proofs.Ytepgpihobmjbdaa
open Go.RowKit
end Go.Proofs.Ytepgpihobmjbdaa
end
section
namespace Go.Proofs.Ytepgpihobmjbdaa
theorem meet_core {A a b E p1 p2 u1 u2 v1 v2 D1 D2 : Int} (hA0 : 0 ≤ A) (hA : A ≤ 798000) (ha : -8 ≤ a) (hab : a ≤ b) (hb : b ≤ 264) (hE : 2000000 ≤ E)
  (eD1 : D1 = 2 * (262144 + a * a)) (eD2 : D2 = 2 * (262144 + b * b)) (q1 : p1 * D1 ≤ A * (1024 * a)) (q2 : A * (1024 * b) ≤ p2 * D2) (r1 : u1 * D1 ≤ A * (262144 - a * a)) (r2 : A * (262144 - b * b) ≤ u2 * D2) (hu1 : 0 ≤ u1) (hu2 : 0 ≤ u2)
  (s1 : v1 * E ≤ u1 * u1) (s2 : u2 * u2 ≤ v2 * E) : p1 + v1 ≤ p2 + v2 := by
 obtain ⟨aa0, aa1⟩ := tilt_bd ha (by omega)
 obtain ⟨bb0, bb1⟩ := tilt_bd (show -8 ≤ b by omega) hb
 have hD1 : 524288 ≤ D1 := by omega
 have hD2 : 524288 ≤ D2 := by omega
 -- a * b and the two differences
 have hab2 : a * b ≤ 69696 := by
  by_cases c : 0 ≤ a
  · have := Int.mul_le_mul (show a ≤ 264 by omega) hb (by omega) (show (0 : Int) ≤ 264 by omega); omega
  ·
   by_cases c2 : 0 ≤ b
   ·
    have : a * b ≤ 0 := Int.mul_nonpos_of_nonpos_of_nonneg (by omega) c2
    omega
   ·
    have : a * b = -a * -b := by rw [Int.neg_mul_neg]
    have := Int.mul_le_mul (show -a ≤ 8 by omega) (show -b ≤ 8 by omega) (by omega) (show (0 : Int) ≤ 8 by omega); omega
 have d0 : 0 ≤ b - a := by omega
 -- the sines
 have P : 2048 * (A * ((b - a) * (262144 - a * b))) ≤ (p2 - p1) * (D1 * D2) := by
  have x1 := Int.mul_le_mul_of_nonneg_right q1 (show 0 ≤ D2 by omega)
  have x2 := Int.mul_le_mul_of_nonneg_right q2 (show 0 ≤ D1 by omega)
  have e1 : A * (1024 * b) * D1 - A * (1024 * a) * D2 = 2048 * (A * ((b - a) * (262144 - a * b))) := by rw [eD1, eD2]; grind
  have e2 : p2 * D2 * D1 - p1 * D1 * D2 = (p2 - p1) * (D1 * D2) := by grind
  omega
 have hDD : 0 < D1 * D2 := Int.mul_pos (by omega) (by omega)
 have hP0 : 0 ≤ 2048 * (A * ((b - a) * (262144 - a * b))) := by
  have := Int.mul_nonneg hA0 (Int.mul_nonneg d0 (show 0 ≤ 262144 - a * b by omega)); omega
 have hp : p1 ≤ p2 := by
  refine Int.not_lt.1 fun hlt => ?_
  have := Int.mul_pos_of_neg_of_neg (a := -(p1 - p2)) (b := -(D1 * D2)) (by omega) (by omega)
  have e : -(p1 - p2) * -(D1 * D2) = -((p2 - p1) * (D1 * D2)) := by grind
  have h3 : (p2 - p1) * (D1 * D2) < 0 := by omega
  omega
 by_cases hu : u1 ≤ u2
 ·
  have h1 : u1 * u1 ≤ u2 * u2 := Int.mul_le_mul hu hu hu1 hu2
  have : v1 ≤ v2 := Int.le_of_mul_le_mul_right (show v1 * E ≤ v2 * E by omega) (by omega)
  omega
 refine Int.not_lt.1 fun hlt => ?_
 have R : (u1 - u2) * (D1 * D2) ≤ 4 * (A * (262144 * ((b - a) * (b + a)))) := by
  have x1 := Int.mul_le_mul_of_nonneg_right r1 (show 0 ≤ D2 by omega)
  have x2 := Int.mul_le_mul_of_nonneg_right r2 (show 0 ≤ D1 by omega)
  have e1 : A * (262144 - a * a) * D2 - A * (262144 - b * b) * D1 = 4 * (A * (262144 * ((b - a) * (b + a)))) := by rw [eD1, eD2]; grind
  have e2 : u1 * D1 * D2 - u2 * D2 * D1 = (u1 - u2) * (D1 * D2) := by grind
  omega
 have U : 2 * u1 ≤ A := by
  have x1 : u1 * 524288 ≤ u1 * D1 := Int.mul_le_mul_of_nonneg_left hD1 hu1
  have x2 : A * (262144 - a * a) ≤ A * 262144 := Int.mul_le_mul_of_nonneg_left (by omega) hA0
  omega
 -- squares
 have S : E * (p2 - p1 + 1) ≤ (u1 - u2) * A := by
  have y1 : (v1 - v2) * E = v1 * E - v2 * E := Int.sub_mul _ _ _
  have y2 : (p2 - p1 + 1) * E ≤ (v1 - v2) * E := Int.mul_le_mul_of_nonneg_right (by omega) (by omega)
  have y3 : u1 * u1 - u2 * u2 = (u1 - u2) * (u1 + u2) := by grind
  have y4 : (u1 - u2) * (u1 + u2) ≤ (u1 - u2) * A := Int.mul_le_mul_of_nonneg_left (by omega) (by omega)
  have y5 : E * (p2 - p1 + 1) = (p2 - p1 + 1) * E := Int.mul_comm _ _
  omega
 have T : E * (p2 - p1 + 1) * (D1 * D2) ≤ 4 * (A * (262144 * ((b - a) * (b + a)))) * A := by
  have z1 := Int.mul_le_mul_of_nonneg_right S (show 0 ≤ D1 * D2 by omega)
  have z2 : (u1 - u2) * A * (D1 * D2) = (u1 - u2) * (D1 * D2) * A := by grind
  have z3 := Int.mul_le_mul_of_nonneg_right R hA0
  omega
 have V : E * (2048 * (A * ((b - a) * (262144 - a * b)))) ≤ E * (p2 - p1) * (D1 * D2) := by
  have z1 := Int.mul_le_mul_of_nonneg_left P (show 0 ≤ E by omega)
  have z2 : E * ((p2 - p1) * (D1 * D2)) = E * (p2 - p1) * (D1 * D2) := by grind
  omega
 have X : 4 * (A * (262144 * ((b - a) * (b + a)))) * A ≤ E * (2048 * (A * ((b - a) * (262144 - a * b)))) := by
  have k0 := Int.mul_nonneg hA0 d0
  have k1 : A * (b + a) ≤ 798000 * 528 := by
   by_cases c : 0 ≤ b + a
   · exact Int.mul_le_mul hA (by omega) c (by omega)
   ·
    have : A * (b + a) ≤ 0 := Int.mul_nonpos_of_nonneg_of_nonpos hA0 (by omega)
    omega
  have k2 : 2000000 * 192448 ≤ E * (262144 - a * b) := Int.mul_le_mul hE (by omega) (by omega) (by omega)
  have k3 : A * (b - a) * (4 * 262144 * (A * (b + a))) ≤ A * (b - a) * (2048 * (E * (262144 - a * b))) := Int.mul_le_mul_of_nonneg_left (by omega) k0
  have e1 : A * (b - a) * (4 * 262144 * (A * (b + a))) = 4 * (A * (262144 * ((b - a) * (b + a)))) * A := by grind
  have e2 : A * (b - a) * (2048 * (E * (262144 - a * b))) = E * (2048 * (A * ((b - a) * (262144 - a * b)))) := by grind
  omega
 have Y : E * (p2 - p1 + 1) * (D1 * D2) = E * (p2 - p1) * (D1 * D2) + E * (D1 * D2) := by grind
 have Z : 0 < E * (D1 * D2) := Int.mul_pos (by omega) hDD
 omega
theorem rise_meet {z st gate a b e e' : Int} (ha : -8 ≤ a) (hab : a ≤ b) (hb : b ≤ 264) (h3 : 0 ≤ gate) (h4 : gate ≤ 199) (h5 : 0 ≤ st) (h6 : st ≤ 2000) (he : 1000000 ≤ e) (hee : e ≤ e') : riseD z st gate a e' ≤ riseU z st gate b e := by
 obtain ⟨a1, a2, a3, a4, a5, a6⟩ := reach_bd ha (show a ≤ 264 by omega) h3 h4 h5 h6
 obtain ⟨c1, c2, c3, c4, c5, c6⟩ := reach_bd (show -8 ≤ b by omega) hb h3 h4 h5 h6
 obtain ⟨b1, b2, b3, b4, b5⟩ := r_bd ha (show a ≤ 264 by omega) h3 h4 h5 h6
 obtain ⟨f1, f2, f3, f4, f5⟩ := r_bd (show -8 ≤ b by omega) hb h3 h4 h5 h6
 have k1 := Int.ediv_mul_le (sineN st gate a) (show reachD a ≠ 0 by unfold reachD; omega)
 have k2 := le_cdiv_mul (a := sineN st gate b) (b := reachD b) (by unfold reachD; omega)
 have k3 := Int.ediv_mul_le (reachN st gate a) (show reachD a ≠ 0 by unfold reachD; omega)
 have k4 := le_cdiv_mul (a := reachN st gate b) (b := reachD b) (by unfold reachD; omega)
 have k5 := Int.ediv_mul_le (rD st gate a * rD st gate a) (show 2 * e' ≠ 0 by omega)
 have k6 := le_cdiv_mul (a := rU st gate b * rU st gate b) (b := 2 * e) (by omega)
 have k7 : 0 ≤ cdiv (rU st gate b * rU st gate b) (2 * e) := cdiv_nonneg (Int.mul_nonneg f3 f3) (by omega)
 have k8 : cdiv (rU st gate b * rU st gate b) (2 * e) * (2 * e) ≤ cdiv (rU st gate b * rU st gate b) (2 * e) * (2 * e') := Int.mul_le_mul_of_nonneg_left (by omega) k7
 have := meet_core (A := (2 * gate + 1) * st) (a := a) (b := b) (E := 2 * e') (p1 := sineN st gate a / reachD a) (p2 := cdiv (sineN st gate b) (reachD b)) (u1 := rD st gate a) (u2 := rU st gate b) (v1 := rD st gate a * rD st gate a / (2 * e')) (v2 := cdiv (rU st gate b * rU st gate b) (2 * e)) a3 a4 ha hab hb (by omega) rfl rfl k1 k2 k3 k4 b1 f3 k5 (Int.le_trans k6 k8)
 unfold riseD riseU
 omega
end Go.Proofs.Ytepgpihobmjbdaa
end
