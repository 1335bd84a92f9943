/-
  The quotient of a sum of products, rounded down; on which side of a border a corner lies.
  Areas as they lie in memory: their borders and corners.
  Lists of truth values: as they lie in memory, whether one is true.
  What is left of an area within one more border: the loops of the cut.
  What is left of an area within one more border: the walk.
  Winds: the borders of sights are numbers that fit; sights as they lie in memory.
  The area of all winds; what is left of an area within a sight.
  What is left of an area within sights.
  Checks of spans, directions and sights.
-/
import Derived.Test.YtllpffkifleigaaWdQuo
import Derived.Test.YtllpffkifleigaaWindMath6
import Derived.Shelf.Spec.BitsCarry
import Derived.Test.YtllpffkifleigaaFewMath
set_option linter.unusedSimpArgs false
set_option linter.unusedVariables false
section
namespace Go.Proofs.Ytllpffkifleigaa
open Go Go.RowKit

theorem sub64_run (y b : Int) (y0 : 0 ≤ y) (y1 : y < 18446744073709551616) (b0 : 0 ≤ b) (b1 : b ≤ 1) (w : World) :
    (callFunc 117 #[.int .u64 0, .int .u64 y, .int .u64 b]).run Try.prog w = .ok (.value (.tuple #[.int .u64 ((18446744073709551616 - y - b) % 18446744073709551616), .int .u64 (if 0 < y + b then 1 else 0)])) w := by
  obtain ⟨n, rfl⟩ : ∃ n : Nat, y = (n : Int) := ⟨y.toNat, by omega⟩
  obtain ⟨m, rfl⟩ : ∃ n : Nat, b = (n : Int) := ⟨b.toNat, by omega⟩
  have h := run_sub64 (P := Try.prog) 0 n m (by omega) w
  rw [run_callFunc_extern Try.func117 (by kernel_rfl) (by kernel_rfl) (by kernel_rfl) (e := sub64Entry) (by kernel_rfl)]
  have e : (#[.int .u64 0, .int .u64 (n : Int), .int .u64 (m : Int)] : Array Value) = #[.int .u64 ((0 : Nat) : Int), .int .u64 (n : Int), .int .u64 (m : Int)] := rfl
  rw [e, h]
  simp only [Result.andThen]
  have e1 : (((0 + 18446744073709551616 - n - m) % 18446744073709551616 : Nat) : Int) = (18446744073709551616 - (n : Int) - (m : Int)) % 18446744073709551616 := by omega
  have e2 : (((if 0 < n + m then 1 else 0 : Nat)) : Int) = if 0 < (n : Int) + (m : Int) then 1 else 0 := by split <;> split <;> omega
  rw [e1, e2]
theorem ceil_neg {n d : Int} (hd : 0 < d) : (if 0 < (-n) % d then (-n) / d + 1 else (-n) / d) = -(n / d) := by
  have h1 := Int.mul_ediv_add_emod (-n) d
  have h2 := Int.emod_nonneg (-n) (show d ≠ 0 by omega)
  have h3 := Int.emod_lt_of_pos (-n) hd
  have h4 := Int.mul_ediv_add_emod n d
  have h5 := Int.emod_nonneg n (show d ≠ 0 by omega)
  have h6 := Int.emod_lt_of_pos n hd
  generalize (-n) / d = q at *
  generalize (-n) % d = r at *
  generalize n / d = p at *
  generalize n % d = s at *
  have e : d * (q + p) = -(r + s) := by rw [Int.mul_add]; omega
  have key : q + p = 0 ∨ q + p = -1 := by
    rcases Int.lt_or_le 0 (q + p) with h | h
    · have := Int.mul_pos hd h; omega
    · rcases Int.lt_or_le (q + p) (-1) with h' | h'
      · have : d * (q + p) ≤ d * (-2) := Int.mul_le_mul_of_nonneg_left (by omega) (by omega)
        omega
      · omega
  rcases key with h | h
  · rw [h] at e
    rw [if_neg (by omega)]
    omega
  · rw [h] at e
    rw [if_pos (by omega)]
    omega
set_option maxHeartbeats 1000000 in
set_option maxRecDepth 100000 in
theorem over_any (n d : Int) (w : World) (h0 : -170141183460469231731687303715884105728 < n) (h1 : n < 170141183460469231731687303715884105728) (hd : 0 < d) (hd2 : d ≤ 9223372036854775807) (q0 : -9223372036854775807 ≤ n / d) (q1 : n / d ≤ 9223372036854775806) :
    Calls Try.prog 99 #[bigC n, .int .i64 d] w fun e w' => e = .returned (.int .i64 (n / d)) ∧ Below w.heap.size w w' := by
  obtain ⟨b1, b2, b3, b4⟩ := word_bd n
  have hmi := fun W => minus_any n W (by omega) h1
  obtain ⟨dn, hdn⟩ : ∃ m : Nat, d = (m : Int) := ⟨d.toNat, by omega⟩
  have wd : IntKind.u64.wrap d = d := by rw [IntKind.wrap_u64]; omega
  have hb : bigC n = .agg #[.int .u64 (hiW n), .int .u64 (loW n)] := rfl
  by_cases hn : n < 0
  · obtain ⟨o1, o2⟩ := neg_word (n := n)
    have hc := ceil_neg (n := n) hd
    obtain ⟨p, hp⟩ : ∃ p : Int, -n = p := ⟨_, rfl⟩
    rw [hp] at o1 o2 hc
    have hps := pos_word (n := p) (by omega) (by omega)
    obtain ⟨c1, c2, c3, c4⟩ := word_bd p
    have hs1 := fun W => sub64_run (loW n) 0 b3 b4 (Int.le_refl _) (by omega) W
    obtain ⟨bo, hbo⟩ : ∃ z : Int, (if 0 < loW n then (1 : Int) else 0) = z := ⟨_, rfl⟩
    have hbb : 0 ≤ bo ∧ bo ≤ 1 := by rw [← hbo]; split <;> omega
    have hs2 := fun W => sub64_run (hiW n) bo b1 b2 hbb.1 hbb.2 W
    rw [Int.add_zero, hbo, Int.sub_zero, ← o1] at hs1
    rw [hbo] at o2
    obtain ⟨bo2, hbo2⟩ : ∃ z : Int, (if 0 < hiW n + bo then (1 : Int) else 0) = z := ⟨_, rfl⟩
    rw [← o2, hbo2] at hs2
    have hq : p / d ≤ 9223372036854775807 := by
      have : p / d ≤ -(n / d) := by rw [← hc]; split <;> omega
      omega
    have hq0 : 0 ≤ p / d := Int.ediv_nonneg (by omega) (by omega)
    have hlt : hiW p < d := by
      have h5 := Int.mul_ediv_add_emod p d
      have h6 := Int.emod_lt_of_pos p hd
      have h7 : d * (p / d) ≤ d * 9223372036854775807 := Int.mul_le_mul_of_nonneg_left hq (by omega)
      omega
    obtain ⟨hn', hhn⟩ : ∃ m : Nat, hiW p = (m : Int) := ⟨(hiW p).toNat, by omega⟩
    obtain ⟨ln', hln⟩ : ∃ m : Nat, loW p = (m : Int) := ⟨(loW p).toNat, by omega⟩
    have hdv := fun W => Div64_any hn' ln' dn W (by omega) (by omega) (by omega)
    have e1 : (((hn' * 18446744073709551616 + ln') / dn : Nat) : Int) = p / d := by rw [Int.natCast_ediv, Int.natCast_add, Int.natCast_mul, ← hhn, ← hln, ← hdn]; rw [show ((18446744073709551616 : Nat) : Int) = 18446744073709551616 from rfl, hps]
    have e2 : (((hn' * 18446744073709551616 + ln') % dn : Nat) : Int) = p % d := by rw [Int.natCast_emod, Int.natCast_add, Int.natCast_mul, ← hhn, ← hln, ← hdn]; rw [show ((18446744073709551616 : Nat) : Int) = 18446744073709551616 from rfl, hps]
    rw [e1, e2, ← hhn, ← hln, ← hdn] at hdv
    have hr0 := Int.emod_nonneg p (show d ≠ 0 by omega)
    have hr1 := Int.emod_lt_of_pos p hd
    rw [decide_eq_true hn] at hmi
    unfold bigC at hmi ⊢
    generalize hiW n = hi at *
    generalize loW n = lo at *
    generalize hiW p = ph at *
    generalize loW p = pl at *
    obtain ⟨q, hqq⟩ : ∃ q : Int, p / d = q := ⟨_, rfl⟩
    obtain ⟨r, hrr⟩ : ∃ q : Int, p % d = q := ⟨_, rfl⟩
    rw [hqq, hrr] at hdv hc
    rw [hrr] at hr0 hr1
    rw [hqq] at hq hq0
    obtain ⟨z, hz⟩ : ∃ z : Int, n / d = z := ⟨_, rfl⟩
    rw [hz] at hc q0 q1 ⊢
    clear hb e1 e2 hhn hln hdn hz hqq hrr hps o1 o2 hp hbo hbo2 h0 h1 hn b1 b2 b3 b4 c1 c2 c3 c4 hlt
    have ww : IntKind.i64.wrap q = q := by rw [IntKind.wrap_i64]; omega
    have Hmi := hide hmi
    have Hs1 := hide hs1
    have Hs2 := hide hs2
    have Hdv := hide hdv
    clear hmi hs1 hs2 hdv
    by_cases hrp : 0 < r
    · rw [if_pos hrp] at hc
      have hz : -(q + 1) = z := by omega
      have hq2 : q + 1 ≤ 9223372036854775807 := by omega
      go_enter Try.func99, Try.ntmps99
      have HB := hide (Below.refl w.heap.size w)
      go_wp2_with fail
      refine at_world fun W hW => ?_
      have bq0 : Blk W w.heap.size 168 #[.int .u64 hi, .int .u64 lo] := by rw [hW]; exact Blk.new _ _ _
      have LW : Later w W := by rw [hW]; exact ((Below.refl _ _).alloc (Nat.le_refl _) _)
      have szW : W.heap.size = w.heap.size + 1 := by rw [hW]; simp
      clear hW
      replace HB := hide (onward HB.out LW)
      have Hn := hide bq0
      clear bq0 LW szW
      refine (Hmi.out _).mono ?_
      rintro e w1 ⟨rfl, hb⟩
      replace HB := hide (onward HB.out hb)
      replace Hn := hide (blk_later Hn.out hb)
      clear hb
      obtain ⟨z0, z1⟩ := Hn.out.c2
      have ltz := Hn.out.lt
      go_wp2_with (first | simp only [Hs1.out] | simp only [Hs2.out])
      refine (Hdv.out _).mono ?_
      rintro e w2 ⟨rfl, hb⟩
      replace HB := hide (onward HB.out hb)
      replace Hn := hide (blk_later Hn.out hb)
      clear hb z0 z1 ltz
      go_wp2
      exact bodyPost_ret (v := .int .i64 z) (by simp [results, Try.results99, go_sem]) rfl ⟨rfl, HB.out⟩
    · rw [if_neg hrp] at hc
      have hz : -q = z := by omega
      go_enter Try.func99, Try.ntmps99
      have HB := hide (Below.refl w.heap.size w)
      go_wp2_with fail
      refine at_world fun W hW => ?_
      have bq0 : Blk W w.heap.size 168 #[.int .u64 hi, .int .u64 lo] := by rw [hW]; exact Blk.new _ _ _
      have LW : Later w W := by rw [hW]; exact ((Below.refl _ _).alloc (Nat.le_refl _) _)
      have szW : W.heap.size = w.heap.size + 1 := by rw [hW]; simp
      clear hW
      replace HB := hide (onward HB.out LW)
      have Hn := hide bq0
      clear bq0 LW szW
      refine (Hmi.out _).mono ?_
      rintro e w1 ⟨rfl, hb⟩
      replace HB := hide (onward HB.out hb)
      replace Hn := hide (blk_later Hn.out hb)
      clear hb
      obtain ⟨z0, z1⟩ := Hn.out.c2
      have ltz := Hn.out.lt
      go_wp2_with (first | simp only [Hs1.out] | simp only [Hs2.out])
      refine (Hdv.out _).mono ?_
      rintro e w2 ⟨rfl, hb⟩
      replace HB := hide (onward HB.out hb)
      replace Hn := hide (blk_later Hn.out hb)
      clear hb z0 z1 ltz
      go_wp2
      exact bodyPost_ret (v := .int .i64 z) (by simp [results, Try.results99, go_sem]) rfl ⟨rfl, HB.out⟩
  · have hps := pos_word (n := n) (by omega) (by omega)
    have hq0 : 0 ≤ n / d := Int.ediv_nonneg (by omega) (by omega)
    have hlt : hiW n < d := by
      have h5 := Int.mul_ediv_add_emod n d
      have h6 := Int.emod_lt_of_pos n hd
      have h7 : d * (n / d) ≤ d * 9223372036854775806 := Int.mul_le_mul_of_nonneg_left q1 (by omega)
      omega
    obtain ⟨hn', hhn⟩ : ∃ m : Nat, hiW n = (m : Int) := ⟨(hiW n).toNat, by omega⟩
    obtain ⟨ln', hln⟩ : ∃ m : Nat, loW n = (m : Int) := ⟨(loW n).toNat, by omega⟩
    have hdv := fun W => Div64_any hn' ln' dn W (by omega) (by omega) (by omega)
    have e1 : (((hn' * 18446744073709551616 + ln') / dn : Nat) : Int) = n / d := by rw [Int.natCast_ediv, Int.natCast_add, Int.natCast_mul, ← hhn, ← hln, ← hdn]; rw [show ((18446744073709551616 : Nat) : Int) = 18446744073709551616 from rfl, hps]
    obtain ⟨r, hrr⟩ : ∃ r : Int, (((hn' * 18446744073709551616 + ln') % dn : Nat) : Int) = r := ⟨_, rfl⟩
    rw [e1, hrr, ← hhn, ← hln, ← hdn] at hdv
    rw [decide_eq_false hn] at hmi
    unfold bigC at hmi ⊢
    generalize hiW n = hi at *
    generalize loW n = lo at *
    obtain ⟨z, hz⟩ : ∃ z : Int, n / d = z := ⟨_, rfl⟩
    rw [hz] at hdv q0 q1 hq0 ⊢
    clear hb e1 hhn hln hdn hz hrr hps h0 h1 hn b1 b2 b3 b4 hlt
    have ww : IntKind.i64.wrap z = z := by rw [IntKind.wrap_i64]; omega
    have Hmi := hide hmi
    have Hdv := hide hdv
    clear hmi hdv
    go_enter Try.func99, Try.ntmps99
    have HB := hide (Below.refl w.heap.size w)
    go_wp2_with fail
    refine at_world fun W hW => ?_
    have bq0 : Blk W w.heap.size 168 #[.int .u64 hi, .int .u64 lo] := by rw [hW]; exact Blk.new _ _ _
    have LW : Later w W := by rw [hW]; exact ((Below.refl _ _).alloc (Nat.le_refl _) _)
    have szW : W.heap.size = w.heap.size + 1 := by rw [hW]; simp
    clear hW
    replace HB := hide (onward HB.out LW)
    have Hn := hide bq0
    clear bq0 LW szW
    refine (Hmi.out _).mono ?_
    rintro e w1 ⟨rfl, hb⟩
    replace HB := hide (onward HB.out hb)
    replace Hn := hide (blk_later Hn.out hb)
    clear hb
    obtain ⟨z0, z1⟩ := Hn.out.c2
    have ltz := Hn.out.lt
    go_wp2_with fail
    refine (Hdv.out _).mono ?_
    rintro e w2 ⟨rfl, hb⟩
    replace HB := hide (onward HB.out hb)
    replace Hn := hide (blk_later Hn.out hb)
    clear hb z0 z1 ltz
    go_wp2
    exact bodyPost_ret (v := .int .i64 z) (by simp [results, Try.results99, go_sem]) rfl ⟨rfl, HB.out⟩

/-- Borders and corners as they lie in memory. -/
def bdL (b : Bd) : List Value := [.int .i64 b.a, .int .i64 b.b, .int .i64 b.c]
def bdC (b : Bd) : Value := .agg #[.int .i64 b.a, .int .i64 b.b, .int .i64 b.c]
def ptC (p : Pt) : Value := .agg #[.int .i64 p.u, .int .i64 p.v, .int .i64 p.d]
/-- Numbers that fit. -/
structure BdOk (b : Bd) : Prop where
  a0 : -64800 ≤ b.a
  a1 : b.a ≤ 64800
  b0 : -64800 ≤ b.b
  b1 : b.b ≤ 64800
  c0 : -51840000000 ≤ b.c
  c1 : b.c ≤ 51840000000
theorem abs_mul {x y X Y : Int} (hx : -X ≤ x) (hx1 : x ≤ X) (hy : -Y ≤ y) (hy1 : y ≤ Y) : -(X * Y) ≤ x * y ∧ x * y ≤ X * Y := by
  have a1 : 0 ≤ (X - x) * (Y - y) := Int.mul_nonneg (by omega) (by omega)
  have a2 : 0 ≤ (X + x) * (Y + y) := Int.mul_nonneg (by omega) (by omega)
  have a3 : 0 ≤ (X - x) * (Y + y) := Int.mul_nonneg (by omega) (by omega)
  have a4 : 0 ≤ (X + x) * (Y - y) := Int.mul_nonneg (by omega) (by omega)
  grind
structure PtOk (p : Pt) : Prop where
  u0 : -6718464000000000 ≤ p.u
  u1 : p.u ≤ 6718464000000000
  v0 : -6718464000000000 ≤ p.v
  v1 : p.v ≤ 6718464000000000
  d0 : -8398080000 ≤ p.d
  d1 : p.d ≤ 8398080000
theorem cor_ok {x y : Bd} (hx : BdOk x) (hy : BdOk y) : PtOk (cor x y) := by
  have m1 := abs_mul hx.c0 hx.c1 hy.b0 hy.b1
  have m2 := abs_mul hx.b0 hx.b1 hy.c0 hy.c1
  have m3 := abs_mul hx.a0 hx.a1 hy.c0 hy.c1
  have m4 := abs_mul hx.c0 hx.c1 hy.a0 hy.a1
  have m5 := abs_mul hx.a0 hx.a1 hy.b0 hy.b1
  have m6 := abs_mul hx.b0 hx.b1 hy.a0 hy.a1
  have e1 : y.b * x.c = x.c * y.b := Int.mul_comm _ _
  have e2 : y.c * x.b = x.b * y.c := Int.mul_comm _ _
  have e3 : y.a * x.c = x.c * y.a := Int.mul_comm _ _
  have e4 : y.a * x.b = x.b * y.a := Int.mul_comm _ _
  unfold cor
  constructor <;> simp only <;> omega
set_option maxHeartbeats 1000000 in
set_option maxRecDepth 100000 in
theorem outside_any (h : Bd) (p : Pt) (w : World) (hh : BdOk h) (hp : PtOk p) :
    Calls Try.prog 121 #[bdC h, ptC p] w fun e w' => e = .returned (.bool (decide (gap h p < 0))) ∧ Below w.heap.size w w' := by
  obtain ⟨u0, u1, v0, v1, d0, d1⟩ := hp
  obtain ⟨a0, a1, b0, b1, c0, c1⟩ := hh
  have m1 := abs_mul c0 c1 d0 d1
  have m2 := abs_mul a0 a1 u0 u1
  have m3 := abs_mul b0 b1 v0 v1
  have k1 := fun W => add_any 0 h.c p.d W (by omega) (by omega) (by omega) (by omega)
  have k2 := fun W => add_any (0 + h.c * p.d) (-h.a) p.u W (by omega) (by omega) (by omega) (by omega)
  have k3 := fun W => add_any (0 + h.c * p.d + -h.a * p.u) (-h.b) p.v W (by omega) (by omega) (by omega) (by omega)
  have hg : 0 + h.c * p.d + -h.a * p.u + -h.b * p.v = gap h p := by unfold gap; rw [Int.neg_mul, Int.neg_mul]; omega
  rw [hg] at k3
  have k4 := fun W => minus_any (gap h p) W (by unfold gap; omega) (by unfold gap; omega)
  have z0 : bigC 0 = .agg #[.int .u64 0, .int .u64 0] := rfl
  rw [z0] at k1
  unfold bdC ptC
  generalize decide (gap h p < 0) = o at *
  generalize gap h p = g at *
  generalize 0 + h.c * p.d + -h.a * p.u = g2 at *
  generalize 0 + h.c * p.d = g1 at *
  unfold bigC at k1 k2 k3 k4
  generalize hiW g = gh at *
  generalize loW g = gl at *
  generalize hiW g2 = gh2 at *
  generalize loW g2 = gl2 at *
  generalize hiW g1 = gh1 at *
  generalize loW g1 = gl1 at *
  obtain ⟨ha, hb, hc⟩ := h
  obtain ⟨pu, pv, pd⟩ := p
  simp only at *
  clear m1 m2 m3 hg z0
  have K1 := hide k1
  have K2 := hide k2
  have K3 := hide k3
  have K4 := hide k4
  clear k1 k2 k3 k4
  go_enter Try.func121, Try.ntmps121
  have HB := hide (Below.refl w.heap.size w)
  go_wp2_with fail
  refine code_world fun W hW => ?_
  have bq0 : Blk W w.heap.size 162 #[.int .i64 ha, .int .i64 hb, .int .i64 hc] := by rw [hW]; exact (Blk.new _ _ _).alloc _
  have bq1 : Blk W (w.heap.size + 1) 164 #[.int .i64 pu, .int .i64 pv, .int .i64 pd] := by rw [hW]; exact blk_new_at (by simp)
  have LW : Later w W := by rw [hW]; exact (((Below.refl _ _).alloc (Nat.le_refl _) _).alloc (by simp; try omega) _)
  have szW : W.heap.size = w.heap.size + 2 := by rw [hW]; simp
  clear hW
  replace HB := hide (onward HB.out LW)
  have Hh := hide bq0
  have Hp := hide bq1
  clear bq0 bq1 LW szW
  obtain ⟨x0, x1, x2⟩ := Hh.out.c3
  have ltx := Hh.out.lt
  obtain ⟨y0, y1, y2⟩ := Hp.out.c3
  have lty := Hp.out.lt
  apply wp_region_L (w0 := W) [[], [], [], [], [], [], [], [], [], [], [], [], [], [], [], [], [], [], [], []] [true, true, true, true, true, true, true, true, true, true, true, true, true, true, true, true, true, true, true, true] [] (fun ixq y => match ixq with  | _ => undef) (fun ixq x F wq => match ixq with  | _ => True) (fun a x => a) (by kernel_rfl) (by kernel_rfl) (fun _ => rfl) [10, 16, 22, 23] (by kernel_rfl)
  · intro x D hD
    have hne := hD.some
    have k0 := liftB hD x0 (by first | assumption | omega)
    have k1 := liftB hD x1 (by first | assumption | omega)
    have k2 := liftB hD x2 (by first | assumption | omega)
    have j0 := liftB hD y0 (by first | assumption | omega)
    have j1 := liftB hD y1 (by first | assumption | omega)
    have j2 := liftB hD y2 (by first | assumption | omega)
    simp only [takeOps, Act.put, List.setIfInBounds_toArray, List.set_cons_succ, List.set_cons_zero]
    repeat (go_big_quiet_step ((first | (go_at_call 115; exact calls_later hD _ (K4.out _)) | (go_at_call 98; first | (with_reducible exact calls_later hD _ (K1.out _)) | (with_reducible exact calls_later hD _ (K2.out _)) | (with_reducible exact calls_later hD _ (K3.out _))))))
    exact wpQuiet_nil rfl
  · intro d hd x x'
    simp only [List.mem_cons, List.not_mem_nil, or_false] at hd
    rcases hd with rfl | rfl | rfl | rfl
    all_goals rfl
  · exact trivial
  · exact trivial
  intro xx w2 F hL hlv1
  clear hlv1
  replace HB := hide (onward HB.out hL)
  replace Hh := hide (blk_later Hh.out hL)
  replace Hp := hide (blk_later Hp.out hL)
  clear hL x0 x1 x2 ltx y0 y1 y2 lty
  go_wp2
  exact bodyPost_ret (v := .bool o) (by simp [results, Try.results121, go_sem]) rfl ⟨rfl, HB.out⟩
end Go.Proofs.Ytllpffkifleigaa
end
section
namespace Go.Proofs.Ytllpffkifleigaa
open Go Go.RowKit

/-- A slice that reads as borders, below a block. -/
def AreaAt (w : World) (B : Nat) (A : Option Addr) (L : List Bd) : Prop := 0 < L.length → ∃ b off, A = some ⟨b, off, none⟩ ∧ b < B ∧ ∀ i, i < L.length → w.cell? ⟨b, off + i * 3, none⟩ = some (.int .i64 (L.getD i bd0).a) ∧ w.cell? ⟨b, off + i * 3 + 1, none⟩ = some (.int .i64 (L.getD i bd0).b) ∧ w.cell? ⟨b, off + i * 3 + 2, none⟩ = some (.int .i64 (L.getD i bd0).c)
theorem AreaAt.later {w w' : World} {B B' : Nat} {A : Option Addr} {L : List Bd} (h : AreaAt w B A L) (hb : Below B w w') (hB : B ≤ B') : AreaAt w' B' A L := fun hn => by
  obtain ⟨b, off, e, hl, hc⟩ := h hn
  refine ⟨b, off, e, by omega, fun i hi => ?_⟩
  obtain ⟨c1, c2, c3⟩ := hc i hi
  exact ⟨(hb.cell hl).trans c1, (hb.cell hl).trans c2, (hb.cell hl).trans c3⟩
theorem AreaAt.below {w w' : World} {A : Option Addr} {L : List Bd} (h : AreaAt w w.heap.size A L) (hb : Below w.heap.size w w') : AreaAt w' w'.heap.size A L := h.later hb hb.size
def AllOk (L : List Bd) : Prop := ∀ x ∈ L, BdOk x
set_option maxHeartbeats 1000000 in
set_option maxRecDepth 100000 in
theorem at_any (A : Option Addr) (L : List Bd) (c k : Nat) (i : Int) (w : World) (hL : 0 < L.length) (hmax : L.length ≤ 1000000) (hi : i + (L.length : Int) = (k : Int)) (hk : k ≤ 3000000) (ha : AreaAt w w.heap.size A L) :
    Calls Try.prog 112 #[.slice A L.length c, .int .i64 i] w fun e w' => e = .returned (bdC (atB L k)) ∧ Below w.heap.size w w' := by
  obtain ⟨b, off, rfl, hb, hc⟩ := ha hL
  have hm := Nat.mod_lt k hL
  obtain ⟨c1, c2, c3⟩ := hc (k % L.length) hm
  have he : L.getD (k % L.length) bd0 = atB L k := rfl
  rw [he] at c1 c2 c3
  unfold bdC
  generalize atB L k = x at *
  obtain ⟨n, hn⟩ : ∃ n, L.length = n := ⟨_, rfl⟩
  rw [hn] at hm hi hmax c1 c2 c3 hL ⊢
  have hn0 : ¬ ((n : Int) = 0) := by omega
  obtain ⟨m, hmm⟩ : ∃ m, k % n = m := ⟨_, rfl⟩
  have ht : ((k : Int)).tmod (n : Int) = (m : Int) := by rw [Int.tmod_eq_emod_of_nonneg (by omega), ← hmm]; rfl
  rw [hmm] at hm c1 c2 c3
  have hm2 : (m : Int) < n := by omega
  clear hc he hmm hn
  go_enter Try.func112, Try.ntmps112
  go_wp2
  refine bodyPost_ret (v := .agg #[.int .i64 x.a, .int .i64 x.b, .int .i64 x.c]) (by simp [results, Try.results112, go_sem]) rfl ⟨rfl, ?_⟩
  repeat (first | exact Below.refl _ _ | (refine Below.setCell ?_ (by first | omega | (simp; done) | (simp; omega)) _) | (refine Below.alloc ?_ (by first | omega | (simp; done) | (simp; omega)) _) | (refine below_drewN ?_ _))
set_option maxHeartbeats 1000000 in
set_option maxRecDepth 100000 in
theorem corner_any (A : Option Addr) (L : List Bd) (c i : Nat) (w : World) (hL : 0 < L.length) (hmax : L.length ≤ 1000000) (hk : i ≤ 1000000) (ha : AreaAt w w.heap.size A L) (hok : AllOk L) :
    Calls Try.prog 97 #[.agg #[.slice A L.length c], .int .i64 (i : Int)] w fun e w' => e = .returned (ptC (corn L i)) ∧ Below w.heap.size w w' := by
  have k1 := fun W (hW : Below w.heap.size w W) => at_any A L c (i + L.length) (i : Int) W hL hmax (by omega) (by omega) (ha.below hW)
  have k2 := fun W (hW : Below w.heap.size w W) => at_any A L c (i + 1 + L.length) ((i : Int) + 1) W hL hmax (by omega) (by omega) (ha.below hW)
  have hx := hok _ (atB_mem hL i)
  have hy := hok _ (atB_mem hL (i + 1))
  have ho := cor_ok hx hy
  simp only [atB_mod] at k1 k2
  have hcn : corn L i = cor (atB L i) (atB L (i + 1)) := rfl
  rw [hcn]
  unfold bdC at k1 k2
  unfold ptC
  generalize atB L i = x at *
  generalize atB L (i + 1) = y at *
  obtain ⟨xa, xb, xc⟩ := x
  obtain ⟨ya, yb, yc⟩ := y
  obtain ⟨x1, x2, x3, x4, x5, x6⟩ := hx
  obtain ⟨y1, y2, y3, y4, y5, y6⟩ := hy
  obtain ⟨t1, t2, t3, t4, t5, t6⟩ := ho
  unfold cor at t1 t2 t3 t4 t5 t6 ⊢
  simp only at *
  have m1 := abs_mul x5 x6 y3 y4
  have m2 := abs_mul x3 x4 y5 y6
  have m3 := abs_mul x1 x2 y5 y6
  have m4 := abs_mul x5 x6 y1 y2
  have m5 := abs_mul x1 x2 y3 y4
  have m6 := abs_mul x3 x4 y1 y2
  obtain ⟨p1, hp1⟩ : ∃ p, xc * yb = p := ⟨_, rfl⟩
  obtain ⟨p2, hp2⟩ : ∃ p, xb * yc = p := ⟨_, rfl⟩
  obtain ⟨p3, hp3⟩ : ∃ p, xa * yc = p := ⟨_, rfl⟩
  obtain ⟨p4, hp4⟩ : ∃ p, xc * ya = p := ⟨_, rfl⟩
  obtain ⟨p5, hp5⟩ : ∃ p, xa * yb = p := ⟨_, rfl⟩
  obtain ⟨p6, hp6⟩ : ∃ p, xb * ya = p := ⟨_, rfl⟩
  rw [hp1] at m1 t1 t2 ⊢
  rw [hp2] at m2 t1 t2 ⊢
  rw [hp3] at m3 t3 t4 ⊢
  rw [hp4] at m4 t3 t4 ⊢
  rw [hp5] at m5 t5 t6 ⊢
  rw [hp6] at m6 t5 t6 ⊢
  obtain ⟨m11, m12⟩ := m1
  obtain ⟨m21, m22⟩ := m2
  obtain ⟨m31, m32⟩ := m3
  obtain ⟨m41, m42⟩ := m4
  obtain ⟨m51, m52⟩ := m5
  obtain ⟨m61, m62⟩ := m6
  have hi2 : (i : Int) ≤ 1000000 := by omega
  clear ha hok hcn
  have K1 := hide k1
  have K2 := hide k2
  clear k1 k2
  go_enter Try.func97, Try.ntmps97
  have HB := hide (Below.refl w.heap.size w)
  go_wp2_with fail
  refine code_world fun W hW => ?_
  have bq0 : Blk W w.heap.size 128 #[.slice A L.length c] := by rw [hW]; exact (Blk.new _ _ _).alloc _
  have bq1 : Blk W (w.heap.size + 1) 164 #[.int .i64 0, .int .i64 0, .int .i64 0] := by rw [hW]; exact blk_new_at (by simp)
  have LW : Later w W := by rw [hW]; exact (((Below.refl _ _).alloc (Nat.le_refl _) _).alloc (by simp; try omega) _)
  have szW : W.heap.size = w.heap.size + 2 := by rw [hW]; simp
  clear hW
  replace HB := hide (onward HB.out LW)
  have Ha := hide bq0
  have Ho := hide bq1
  clear bq0 bq1 LW szW
  have z0 := Ha.out.c 0 rfl
  have ltz := Ha.out.lt
  apply wp_region_L (w0 := W) [[], [], [], [], [], [], [], [], [], [], [], [9, 10], [9, 10, 11]] [true, true, true, true, true, true, true, true, true, false, false, false, false] [⟨9, none, [], []⟩, ⟨10, none, [], []⟩, ⟨11, some 9, [9], [9]⟩, ⟨12, some 10, [10], [10]⟩] (fun ixq y => match ixq with | 9 => .pointer (y 0).1 | 10 => .pointer (y 0).1 | 11 => undef | 12 => undef | _ => undef) (fun ixq x F wq => match ixq with | 9 => PtrF wq F W.heap.size (x 9 0).1 162 #[.int .i64 0, .int .i64 0, .int .i64 0] | 10 => PtrF wq F W.heap.size (x 10 0).1 162 #[.int .i64 0, .int .i64 0, .int .i64 0] | 11 => PtrF wq F W.heap.size (x 9 0).1 162 #[.int .i64 xa, .int .i64 xb, .int .i64 xc] | 12 => PtrF wq F W.heap.size (x 10 0).1 162 #[.int .i64 ya, .int .i64 yb, .int .i64 yc] | _ => True) (fun a x => ((((a).put (some 5) (.pointer ((x 9) 0).1)).put (some 6) (.pointer ((x 10) 0).1)).put (none) (undef)).put (none) (undef)) (by kernel_rfl) (by kernel_rfl) (fun _ => rfl) [10, 15] (by kernel_rfl)
  · intro x D hD
    have hne := hD.some
    have k0 := liftB hD z0 (by first | assumption | omega)
    simp only [takeOps, Act.put, List.setIfInBounds_toArray, List.set_cons_succ, List.set_cons_zero]
    repeat (go_big_quiet_step ((go_at_call 112; first | (with_reducible exact calls_later hD _ (K1.out _ (onward HB.out (kb hD _)))) | (with_reducible exact calls_later hD _ (K2.out _ (onward HB.out (kb hD _)))))))
    exact wpQuiet_nil rfl
  · intro d hd x x'
    simp only [List.mem_cons, List.not_mem_nil, or_false] at hd
    rcases hd with rfl | rfl
    all_goals rfl
  · refine ⟨?_, ?_, ?_, ?_, trivial⟩
    · exact obl_alloc 162 5 (.agg #[.int .i64 0, .int .i64 0, .int .i64 0]) (by kernel_rfl) (by kernel_rfl) (fun _ => rfl) (fun _ _ _ h => h)
    · exact obl_alloc 162 6 (.agg #[.int .i64 0, .int .i64 0, .int .i64 0]) (by kernel_rfl) (by kernel_rfl) (fun _ => rfl) (fun _ _ _ h => h)
    · refine obl_store 162 5 10 9 #[.int .i64 0, .int .i64 0, .int .i64 0] (fun x => #[.int .i64 xa, .int .i64 xb, .int .i64 xc]) (by kernel_rfl) rfl (by simp) (fun _ _ _ h => h) (fun _ => rfl) (fun _ => rfl) (fun _ => by kernel_rfl) (fun _ => rfl) (fun _ => by simp [Value.oneCell']) (fun _ => rfl) (by decide) (fun _ _ _ _ h => h)
    · refine obl_store 162 6 15 10 #[.int .i64 0, .int .i64 0, .int .i64 0] (fun x => #[.int .i64 ya, .int .i64 yb, .int .i64 yc]) (by kernel_rfl) rfl (by simp) (fun _ _ _ h => h) (fun _ => rfl) (fun _ => rfl) (fun _ => by kernel_rfl) (fun _ => rfl) (fun _ => by simp [Value.oneCell']) (fun _ => rfl) (by decide) (fun _ _ _ _ h => h)
  · refine ⟨?_, ?_, ?_, ?_, trivial⟩
    · exact owe_ptr 9 _ _ (fun x => #[.int .i64 0, .int .i64 0, .int .i64 0]) (fun _ _ _ => rfl) (by simp) (fun _ _ _ => rfl)
    · exact owe_ptr 10 _ _ (fun x => #[.int .i64 0, .int .i64 0, .int .i64 0]) (fun _ _ _ => rfl) (by simp) (fun _ _ _ => rfl)
    · exact owe_ptr 9 _ _ (fun x => #[.int .i64 xa, .int .i64 xb, .int .i64 xc]) (fun _ _ _ => rfl) (by simp) (fun _ _ _ => rfl)
    · exact owe_ptr 10 _ _ (fun x => #[.int .i64 ya, .int .i64 yb, .int .i64 yc]) (fun _ _ _ => rfl) (by simp) (fun _ _ _ => rfl)
  intro xx w2 F hL2 hlv1
  obtain ⟨-, -, fct11, fct12, -⟩ := hlv1
  replace fct11 : PtrF w2 (F 11) W.heap.size (xx 9 0).1 162 #[.int .i64 xa, .int .i64 xb, .int .i64 xc] := fct11 rfl
  replace fct12 : PtrF w2 (F 12) W.heap.size (xx 10 0).1 162 #[.int .i64 ya, .int .i64 yb, .int .i64 yc] := fct12 rfl
  obtain ⟨gx, hgx, hge, -, hbg⟩ := fct11
  obtain ⟨gy, hgy, hgf, -, hbh⟩ := fct12
  rw [hgx, hgy]
  clear hgx hgy
  replace HB := hide (onward HB.out hL2)
  replace Ha := hide (blk_later Ha.out hL2)
  replace Ho := hide (blk_later Ho.out hL2)
  clear hL2 z0 ltz
  have Hbg := hide hbg
  have Hbh := hide hbh
  clear hbg hbh
  obtain ⟨x0, x1, x2⟩ := Hbg.out.c3
  have ltx := Hbg.out.lt
  obtain ⟨y0, y1, y2⟩ := Hbh.out.c3
  have lty := Hbh.out.lt
  obtain ⟨o0, o1, o2⟩ := Ho.out.c3
  have lto := Ho.out.lt
  have fo0 := Ho.out.frozen 0
  have fo1 := Ho.out.frozen 1
  have fo2 := Ho.out.frozen 2
  go_wp2
  refine bodyPost_ret (v := .agg #[.int .i64 (p1 - p2), .int .i64 (p3 - p4), .int .i64 (p5 - p6)]) (by simp [results, Try.results97, go_sem, o0, o1, o2, fo0, fo1, fo2, lto]) rfl ⟨rfl, ?_⟩
  have hsz := HB.out.size
  repeat (first | exact HB.out | (refine Below.setCell ?_ (by first | omega | (simp; done) | (simp; omega)) _) | (refine Below.alloc ?_ (by first | omega | (simp; done) | (simp; omega)) _) | (refine below_drewN ?_ _))
end Go.Proofs.Ytllpffkifleigaa
end
section
namespace Go.Proofs.Ytllpffkifleigaa
open Go Go.RowKit

/-- The first values are known, the others are false. -/
def boolsC (o : Nat → Bool) (k n : Nat) : Array Value := ⟨(List.range n).map fun i => .bool (decide (i < k) && o i)⟩
theorem bools_size (o : Nat → Bool) (k n : Nat) : (boolsC o k n).size = n := by unfold boolsC; simp
theorem bools_get {o : Nat → Bool} {k n i : Nat} (hi : i < n) : (boolsC o k n)[i]? = some (.bool (decide (i < k) && o i)) := by
  unfold boolsC
  simp [hi]
theorem bools_zero (o : Nat → Bool) (n : Nat) : boolsC o 0 n = madeCells #[.bool false] n := by
  apply Array.ext'
  rw [toList_madeCells_one]
  unfold boolsC
  simp [List.map_const']
theorem bools_set (o : Nat → Bool) {k n : Nat} (hk : k < n) : (boolsC o k n).setIfInBounds k (.bool (o k)) = boolsC o (k + 1) n := by
  apply Array.ext
  · rw [Array.size_setIfInBounds, bools_size, bools_size]
  · intro i h1 h2
    rw [Array.size_setIfInBounds, bools_size] at h1
    have e1 : (boolsC o (k + 1) n)[i]? = some (.bool (decide (i < k + 1) && o i)) := bools_get h1
    have e2 : ((boolsC o k n).setIfInBounds k (.bool (o k)))[i]? = some (.bool (decide (i < k + 1) && o i)) := by
      rw [Array.getElem?_setIfInBounds]
      by_cases e : k = i
      · subst e
        rw [if_pos rfl, if_pos (by rw [bools_size]; exact hk)]
        simp
      · rw [if_neg e, bools_get h1]
        have : decide (i < k) = decide (i < k + 1) := decide_eq_decide.2 (by omega)
        rw [this]
    rw [Array.getElem?_eq_getElem h2] at e1
    rw [Array.getElem?_eq_getElem (by rw [Array.size_setIfInBounds, bools_size]; exact h1)] at e2
    exact Option.some.inj (e2.trans e1.symm)
theorem own_full_blk {w : World} {base g n : Nat} {e : TypeId} {xs : List Value} (h : w.ownsRow base e 1 (.slice (some ⟨g, 0, none⟩) n n) n xs) (hn : 0 < n) : Blk w g e xs.toArray := by
  rcases h.2 with ⟨hv, -⟩ | ⟨g', cap, cur, hv, -, hg, -, -, h5, h6⟩
  · cases hv
  · injection hv with e1 e2 e3
    have e4 : g = g' := by injection e1 with e1; injection e1
    subst e4
    subst e3
    have : cur = xs.toArray := by
      apply Array.ext'
      rw [← h6, List.take_of_length_le (by rw [Array.length_toList, h5]; omega)]
    rw [← this]
    exact hg
set_option maxHeartbeats 1000000 in
set_option maxRecDepth 100000 in
theorem bat_any (o : Nat → Bool) (g n k : Nat) (i : Int) (w : World) (hn : 0 < n) (hmax : n ≤ 1000000) (hi : i + (n : Int) = (k : Int)) (hk : k ≤ 3000000) (hg : Blk w g 4 (boolsC o n n)) :
    Calls Try.prog 123 #[.slice (some ⟨g, 0, none⟩) n n, .int .i64 i] w fun e w' => e = .returned (.bool (o (k % n))) ∧ Below w.heap.size w w' := by
  have hm := Nat.mod_lt k hn
  have c1 := hg.c (k % n) (bools_get hm)
  rw [decide_eq_true hm, Bool.true_and] at c1
  have ltg := hg.lt
  have hn0 : ¬ ((n : Int) = 0) := by omega
  obtain ⟨m, hmm⟩ : ∃ m, k % n = m := ⟨_, rfl⟩
  have ht : ((k : Int)).tmod (n : Int) = (m : Int) := by rw [Int.tmod_eq_emod_of_nonneg (by omega), ← hmm]; rfl
  rw [hmm] at hm c1 ⊢
  have hm2 : (m : Int) < n := by omega
  generalize o m = b at *
  clear hg hmm
  go_enter Try.func123, Try.ntmps123
  go_wp2
  go_ret
  exact ⟨rfl, Below.refl _ _⟩
set_option maxHeartbeats 1000000 in
set_option maxRecDepth 100000 in
theorem bIndex_any (o : Nat → Bool) (g n : Nat) (w : World) (hmax : n ≤ 1000000) (hg : Blk w g 4 (boolsC o n n)) :
    Calls Try.prog 131 #[.slice (some ⟨g, 0, none⟩) n n, .bool true] w fun e w' => ∃ z : Int, e = .returned (.int .i64 z) ∧ decide (0 ≤ z) = (List.range n).any o ∧ w' = w := by
  have HG := hide hg
  have ltg := hg.lt
  clear hg
  go_enter Try.func131, Try.ntmps131
  go_wp2_with fail
  go_loopw [8] (fun i wr => ∃ k : Nat, k ≤ n ∧ i = .int .i64 k ∧ (∀ j, j < k → o j = false) ∧ wr = w) (fun i _ => n - (intOf i).toNat)
  case atStart => exact ⟨0, Nat.zero_le _, rfl, fun j h => absurd h (Nat.not_lt_zero _), rfl⟩
  case round =>
    obtain ⟨k, hk, rfl, hno, rfl⟩ := hrel
    have Hno := hide hno
    clear hno
    by_cases hlt : k < n
    · have hlt2 : (k : Int) < n := by omega
      have c1 := HG.out.c k (bools_get hlt)
      rw [decide_eq_true hlt, Bool.true_and] at c1
      obtain ⟨b, hb⟩ : ∃ b, o k = b := ⟨_, rfl⟩
      rw [hb] at c1
      have Hb := hide hb
      clear hb
      cases b with
      | true =>
        go_wp2
        go_ret
        exact ⟨_, rfl, by rw [decide_eq_true (by omega)]; exact (List.any_eq_true.2 ⟨k, List.mem_range.2 hlt, Hb.out⟩).symm, rfl⟩
      | false =>
        go_wp2_with fail
        go_roundw
        case rel => exact ⟨k + 1, hlt, by go_num, fun j hj => by
          by_cases e : j = k
          · rw [e]; exact Hb.out
          · exact Hno.out j (by omega), trivial⟩
        case measure => simp [intOf] <;> omega
    · obtain rfl : k = n := by omega
      have hkk : ¬ ((k : Int) < k) := by omega
      go_wp2
      go_ret
      refine ⟨_, rfl, ?_, rfl⟩
      rw [decide_eq_false (by omega)]
      exact (List.any_eq_false.2 fun j hj => by rw [Hno.out j (List.mem_range.1 hj)]; simp).symm
set_option maxHeartbeats 1000000 in
set_option maxRecDepth 100000 in
theorem bContains_any (o : Nat → Bool) (g n : Nat) (w : World) (hmax : n ≤ 1000000) (hg : Blk w g 4 (boolsC o n n)) :
    Calls Try.prog 122 #[.slice (some ⟨g, 0, none⟩) n n, .bool true] w fun e w' => e = .returned (.bool ((List.range n).any o)) ∧ w' = w := by
  have hi := bIndex_any o g n w hmax hg
  clear hg
  generalize (List.range n).any o = an at *
  go_enter Try.func122, Try.ntmps122
  go_wp2_with fail
  refine hi.mono ?_
  rintro e w' ⟨z, rfl, hz, rfl⟩
  subst hz
  clear hi
  go_wp2
  go_ret
  exact ⟨rfl, rfl⟩
theorem outs_mod2 (L : List Bd) (h : Bd) (i : Nat) : outs L h (i % L.length) = outs L h i := by
  unfold outs corn
  have e1 : atB L (i % L.length) = atB L i := by unfold atB; rw [Nat.mod_mod]
  have e2 : atB L (i % L.length + 1) = atB L (i + 1) := by unfold atB; rw [Nat.mod_add_mod]
  rw [e1, e2]
end Go.Proofs.Ytllpffkifleigaa
end
section
namespace Go.Proofs.Ytllpffkifleigaa
open Go Go.RowKit

def bdsV (L : List Bd) : List Value := L.flatMap bdL
theorem bdsV_snoc (L : List Bd) (x : Bd) : bdsV (L ++ [x]) = bdsV L ++ [.int .i64 x.a, .int .i64 x.b, .int .i64 x.c] := by unfold bdsV; rw [List.flatMap_append]; rfl
theorem bdInfo : (Try.prog.info? 162).map (fun i => (i.zero, i.size, i.bytes)) = some (some (.agg #[.int .i64 0, .int .i64 0, .int .i64 0]), 3, 24) := by kernel_rfl
theorem boolInfo : (Try.prog.info? 4).map (fun i => (i.zero, i.size, i.bytes)) = some (some (.bool false), 1, 1) := by kernel_rfl
theorem left_len2 (L : List Bd) (h : Bd) : ∀ i, (leftN L h i).length ≤ 2 * i
  | 0 => Nat.le_refl _
  | i + 1 => by
    have := left_len2 L h i
    rw [leftN, List.length_append]
    have hs : (stepL (bgn L h i) (outs L h i) (atB L i) h).length ≤ 2 := by
      unfold stepL
      cases bgn L h i <;> cases outs L h i <;> simp
    omega
set_option maxRecDepth 1000000 in
noncomputable def ctl2C : Code := ((loopsOf ((Try.f104.body).getD .skip))[1]?).getD .skip
set_option maxHeartbeats 8000000 in
set_option maxRecDepth 1000000 in
theorem ctl2 {kc0 kc1 kc4 kc5 kc6 ku8 kc9 kc10 kc11 kc12 kc13 kc14 kc15 kc16 kc17 kc18 kc19 kc20 kc21 kc22 kc23 kc24 kc25 kc26 kc27 kc28 kc29 kc30 ku33 ku34 ku35 ku36 ku37 ku38 ku39 ku40 ku41 ku42 ku43 kc44 kc45 kc46 kc47 kc48 kc49 kc50 kc51 kc52 kc53 kc54 kc55 kc56 kc57 kc58 kc59 kc60 kc61 kc62 kc63 kc64 kc65 kc66 kc67 kc68 kc69 kc70 kc71 kc72 kc73 kc74 kc75 kc76 kc77 kc78 kc79 kc80 kc81 kc82 kc83 kc84 kc85 kc86 kc87 : Value} (A : Option Addr) (L : List Bd) (c n ga gh go : Nat) (h : Bd) (ts : List Th) (w' : World) (hn : L.length = n) (hn0 : 0 < n) (hmax : n ≤ 1000) (ha : AreaAt w' w'.heap.size A L) (hok : AllOk L) (hh : BdOk h) {Q : Exit → Act → World → Prop} {wr : World} (hM : Mem w' (.blk go 4 (boolsC (outs L h) 0 n) :: .blk gh 162 #[.int .i64 h.a, .int .i64 h.b, .int .i64 h.c] :: .blk ga 128 #[.slice A n c] :: ts) wr)
    (hexit : ∀ ⦃kv8 kv32 kv33 kv34 kv35 kv36 kv37 kv38 kv39 kv40 kv41 kv42 kv43 : Value⦄  ⦃w2 : World⦄, Mem w' (.blk go 4 (boolsC (outs L h) n n) :: .blk gh 162 #[.int .i64 h.a, .int .i64 h.b, .int .i64 h.c] :: .blk ga 128 #[.slice A n c] :: ts) w2 → Q (.exit 2) ⟨List.toArray (kc0 :: kc1 :: .pointer (some ⟨ga, 0, none⟩) :: .pointer (some ⟨gh, 0, none⟩) :: kc4 :: kc5 :: kc6 :: .slice (some ⟨go, 0, none⟩) n n :: kv8 :: kc9 :: kc10 :: kc11 :: kc12 :: kc13 :: kc14 :: kc15 :: kc16 :: kc17 :: kc18 :: kc19 :: kc20 :: kc21 :: kc22 :: kc23 :: kc24 :: kc25 :: kc26 :: kc27 :: kc28 :: kc29 :: kc30 :: .int .i64 (n : Int) :: kv32 :: kv33 :: kv34 :: kv35 :: kv36 :: kv37 :: kv38 :: kv39 :: kv40 :: kv41 :: kv42 :: kv43 :: kc44 :: kc45 :: kc46 :: kc47 :: kc48 :: kc49 :: kc50 :: kc51 :: kc52 :: kc53 :: kc54 :: kc55 :: kc56 :: kc57 :: kc58 :: kc59 :: kc60 :: kc61 :: kc62 :: kc63 :: kc64 :: kc65 :: kc66 :: kc67 :: kc68 :: kc69 :: kc70 :: kc71 :: kc72 :: kc73 :: kc74 :: kc75 :: kc76 :: kc77 :: kc78 :: kc79 :: kc80 :: kc81 :: kc82 :: kc83 :: kc84 :: kc85 :: kc86 :: kc87 :: []), []⟩ w2) :
    Code.wp Try.prog ctl2C Q ⟨List.toArray (kc0 :: kc1 :: .pointer (some ⟨ga, 0, none⟩) :: .pointer (some ⟨gh, 0, none⟩) :: kc4 :: kc5 :: kc6 :: .slice (some ⟨go, 0, none⟩) n n :: ku8 :: kc9 :: kc10 :: kc11 :: kc12 :: kc13 :: kc14 :: kc15 :: kc16 :: kc17 :: kc18 :: kc19 :: kc20 :: kc21 :: kc22 :: kc23 :: kc24 :: kc25 :: kc26 :: kc27 :: kc28 :: kc29 :: kc30 :: .int .i64 (n : Int) :: .int .i64 0 :: ku33 :: ku34 :: ku35 :: ku36 :: ku37 :: ku38 :: ku39 :: ku40 :: ku41 :: ku42 :: ku43 :: kc44 :: kc45 :: kc46 :: kc47 :: kc48 :: kc49 :: kc50 :: kc51 :: kc52 :: kc53 :: kc54 :: kc55 :: kc56 :: kc57 :: kc58 :: kc59 :: kc60 :: kc61 :: kc62 :: kc63 :: kc64 :: kc65 :: kc66 :: kc67 :: kc68 :: kc69 :: kc70 :: kc71 :: kc72 :: kc73 :: kc74 :: kc75 :: kc76 :: kc77 :: kc78 :: kc79 :: kc80 :: kc81 :: kc82 :: kc83 :: kc84 :: kc85 :: kc86 :: kc87 :: []), []⟩ wr := by
  have HX := hide hexit
  clear hexit
  unfold ctl2C
  conv => arg 2; whnf
  have HM := hide hM
  clear hM
  subst hn
  have k1 := fun (k : Nat) (hk : k ≤ 1000000) W (hW : Below w'.heap.size w' W) => corner_any A L c k W hn0 (by omega) hk (ha.below hW) hok
  have k2 := fun (k : Nat) W => outside_any h (corn L k) W hh (cor_ok (hok _ (atB_mem hn0 k)) (hok _ (atB_mem hn0 (k + 1))))
  have hou := fun k => show decide (gap h (corn L k) < 0) = outs L h k from rfl
  simp only [hou] at k2
  unfold bdC ptC at k2
  unfold ptC at k1
  generalize outs L h = o at *
  obtain ⟨n, hn⟩ : ∃ n, L.length = n := ⟨_, rfl⟩
  rw [hn] at HM HX k1 hn0 hmax ⊢
  have hmax2 : (n : Int) ≤ 1000 := by omega
  obtain ⟨x, y, z⟩ := h
  simp only at HM HX k2
  have K1 := hide k1
  have K2 := hide k2
  clear k1 k2
  clear ha hok hh hou hn
  go_loopw [32] (fun i wr => ∃ k : Nat, k ≤ n ∧ i = .int .i64 k ∧ Mem w' (.blk go 4 (boolsC o k n) :: .blk gh 162 #[.int .i64 x, .int .i64 y, .int .i64 z] :: .blk ga 128 #[.slice A n c] :: ts) wr) (fun i _ => n - (intOf i).toNat)
  case atStart => exact ⟨0, Nat.zero_le _, rfl, HM.out⟩
  case round =>
    obtain ⟨k, hk, rfl, hM⟩ := hrel
    clear HM
    have HM := hide hM
    clear hM
    by_cases hlt : k < n
    · have hlt2 : (k : Int) < n := by omega
      have c1 := K1.out k (by omega)
      have c2 := K2.out k
      have hset := bools_set o hlt
      obtain ⟨b, hb⟩ : ∃ b, o k = b := ⟨_, rfl⟩
      rw [hb] at c2 hset
      obtain ⟨⟨pu, pv, pd⟩, hp⟩ : ∃ p, corn L k = p := ⟨_, rfl⟩
      rw [hp] at c1 c2
      simp only at c1 c2
      have hsz := bools_size o k n
      obtain ⟨arr, harr⟩ : ∃ arr, boolsC o k n = arr := ⟨_, rfl⟩
      rw [harr] at HM hset hsz
      have hka : k < arr.size := by omega
      have n1 := Mem.ne HM.out 1 0 rfl rfl (by decide)
      have n2 := Mem.ne HM.out 2 0 rfl rfl (by decide)
      have bx : Blk wr gh 162 #[.int .i64 x, .int .i64 y, .int .i64 z] := HM.out.get 1 rfl
      have ltx := bx.lt
      have x0 := bx.c 0 rfl
      have x1 := bx.c 1 rfl
      have x2 := bx.c 2 rfl
      have bz : Blk wr ga 128 #[.slice A n c] := HM.out.get 2 rfl
      have ltz := bz.lt
      have z0 := bz.c 0 rfl
      have Hob := hide (Mem.blk_ HM.out 0 rfl)
      have lto := Hob.out.lt
      have hab : w'.heap.size ≤ go := Mem.low HM.out go (by simp [fps, Th.fp])
      have C1 := hide c1
      have C2 := hide c2
      have Hset := hide hset
      clear c1 c2 hset
      clear hb hp harr hsz
      go_wp2_with fail
      apply wp_region_F (w0 := wr) [[], [], [], [], [], [3, 4], [2, 3, 4, 5], [0, 1, 2, 3, 4, 5, 6], [0, 1, 2, 3, 4, 5, 6, 7]] [true, true, true, true, true, true, true, true, false] [false, false, false, false, false, false, false, false, false] [⟨8, none, [], []⟩] [(8, go)] [8] (fun ixq y => match ixq with | 8 => undef | _ => undef) (fun ixq x F wq => match ixq with | 8 => F go ∧ Blk wq go 4 (arr.setIfInBounds k (.bool b)) | _ => True) (fun a x => (a).put (none) (undef)) (by kernel_rfl) (by kernel_rfl) (by kernel_rfl) (fun _ => rfl) [40, 41] (by kernel_rfl) (fills_lt1 (by omega)) fills_ne1
      · intro x D hD
        have hne := hD.some
        have k0 := liftS hD x0 (by exact early_all (by first | assumption | omega) (by rfl))
        have k1 := liftS hD x1 (by exact early_all (by first | assumption | omega) (by rfl))
        have k2 := liftS hD x2 (by exact early_all (by first | assumption | omega) (by rfl))
        have k3 := liftS hD z0 (by exact early_all (by first | assumption | omega) (by rfl))
        simp only [takeOps, Act.put, List.setIfInBounds_toArray, List.set_cons_succ, List.set_cons_zero]
        repeat (go_big_quiet_step ((first | (go_at_call 97; exact calls_later hD _ (C1.out _ (onward HM.out.below (kbS hD (fun k hk => early_all hk (by rfl)) _)))) | (go_at_call 121; exact calls_later hD _ (C2.out _)))))
        exact wpQuiet_nil rfl
      · exact fun x D hD => wpQuiet_nil rfl
      · intro d hd x x'
        simp only [List.mem_cons, List.not_mem_nil, or_false] at hd
        rcases hd with rfl | rfl
        all_goals rfl
      · refine ⟨?_, trivial⟩
        · exact obl_setv 4 4 42 41 go k _ (fun x => .bool b) (fun x => (arr.setIfInBounds k (.bool b))) (by kernel_rfl) (fun _ => rfl) (fun _ => rfl) (fun _ => rfl) Hob.out eb_fill1 (by simp [wrF]) (by kernel_rfl) (by first | assumption | (simp; done)) (fun _ => rfl) (fun _ => rfl) (fun _ _ _ _ h1 h2 => ⟨h1, h2⟩)
      · refine ⟨?_, trivial⟩
        · exact owe_fill go 4 (fun x => (arr.setIfInBounds k (.bool b))) (fun _ _ _ => rfl) (fun _ _ _ => rfl)
      intro xx w5 F hK hlv1
      obtain ⟨fct8, -⟩ := hlv1
      replace fct8 : (F 8) go ∧ Blk w5 go 4 (arr.setIfInBounds k (.bool b)) := fct8 rfl
      clear bx ltx x0 x1 x2 bz ltz z0
      have hf := fct8.2
      rw [Hset.out] at hf
      have HM1 := hide (HM.out.filled 0 rfl hK (by simp) hf)
      clear HM hK fct8 hf Hob n1 n2 hab lto
      have HM := HM1
      clear HM1
      go_wp2_with fail
      go_roundw
      case rel => exact ⟨k + 1, hlt, by go_num, HM.out⟩
      case measure => simp [intOf] <;> omega
    · obtain rfl : k = n := by omega
      have hkk : ¬ ((k : Int) < k) := by omega
      go_wp2_with fail
      exact HX.out HM.out

set_option maxRecDepth 1000000 in
noncomputable def ctl3C : Code := ((loopsOf ((Try.f104.body).getD .skip))[2]?).getD .skip
set_option maxHeartbeats 8000000 in
set_option maxRecDepth 1000000 in
theorem ctl3 {kc0 kc1 kc2 kc4 kc5 kc6 kc8 ku10 ku11 ku12 ku13 kc14 kc15 kc16 kc17 kc18 kc19 kc20 kc21 kc22 kc23 kc24 kc25 kc26 kc27 kc28 kc29 kc30 kc31 kc32 kc33 kc34 kc35 kc36 kc37 kc38 kc39 kc40 kc41 kc42 kc43 kc44 kc45 kc46 kc47 kc48 ku52 ku53 ku54 ku55 ku56 ku57 ku58 ku59 ku60 ku61 ku62 ku63 ku64 ku65 ku66 ku67 ku68 ku69 ku70 ku71 ku72 ku73 ku74 ku75 ku76 ku77 ku78 ku79 ku80 ku81 ku82 ku83 ku84 ku85 ku86 kc87 : Value} (A : Option Addr) (L : List Bd) (c n ga gh go gl : Nat) (h : Bd) (ts : List Th) (w' : World) (hn : L.length = n) (hn0 : 0 < n) (hmax : n ≤ 1000) (ha : AreaAt w' w'.heap.size A L) {Q : Exit → Act → World → Prop} {wr : World} (hM : Mem w' (.blk gl 128 #[.slice none 0 0] :: .row w'.heap.size 162 3 (.slice none 0 0) 0 [] :: .blk go 4 (boolsC (outs L h) n n) :: .blk gh 162 #[.int .i64 h.a, .int .i64 h.b, .int .i64 h.c] :: ts) wr)
    (hexit : ∀ ⦃kv10 kv11 kv12 kv13 kv51 kv52 kv53 kv54 kv55 kv56 kv57 kv58 kv59 kv60 kv61 kv62 kv63 kv64 kv65 kv66 kv67 kv68 kv69 kv70 kv71 kv72 kv73 kv74 kv75 kv76 kv77 kv78 kv79 kv80 kv81 kv82 kv83 kv84 kv85 kv86 : Value⦄ ⦃v : Value⦄ ⦃w2 : World⦄, Mem w' (.blk gl 128 #[v] :: .row w'.heap.size 162 3 v (leftN L h n).length (bdsV (leftN L h n)) :: .blk go 4 (boolsC (outs L h) n n) :: .blk gh 162 #[.int .i64 h.a, .int .i64 h.b, .int .i64 h.c] :: ts) w2 → Q (.exit 4) ⟨List.toArray (kc0 :: kc1 :: kc2 :: .pointer (some ⟨gh, 0, none⟩) :: kc4 :: kc5 :: kc6 :: .slice (some ⟨go, 0, none⟩) n n :: kc8 :: .pointer (some ⟨gl, 0, none⟩) :: kv10 :: kv11 :: kv12 :: kv13 :: kc14 :: kc15 :: kc16 :: kc17 :: kc18 :: kc19 :: kc20 :: kc21 :: kc22 :: kc23 :: kc24 :: kc25 :: kc26 :: kc27 :: kc28 :: kc29 :: kc30 :: kc31 :: kc32 :: kc33 :: kc34 :: kc35 :: kc36 :: kc37 :: kc38 :: kc39 :: kc40 :: kc41 :: kc42 :: kc43 :: kc44 :: kc45 :: kc46 :: kc47 :: kc48 :: .slice A n c :: .int .i64 (n : Int) :: kv51 :: kv52 :: kv53 :: kv54 :: kv55 :: kv56 :: kv57 :: kv58 :: kv59 :: kv60 :: kv61 :: kv62 :: kv63 :: kv64 :: kv65 :: kv66 :: kv67 :: kv68 :: kv69 :: kv70 :: kv71 :: kv72 :: kv73 :: kv74 :: kv75 :: kv76 :: kv77 :: kv78 :: kv79 :: kv80 :: kv81 :: kv82 :: kv83 :: kv84 :: kv85 :: kv86 :: kc87 :: []), []⟩ w2) :
    Code.wp Try.prog ctl3C Q ⟨List.toArray (kc0 :: kc1 :: kc2 :: .pointer (some ⟨gh, 0, none⟩) :: kc4 :: kc5 :: kc6 :: .slice (some ⟨go, 0, none⟩) n n :: kc8 :: .pointer (some ⟨gl, 0, none⟩) :: ku10 :: ku11 :: ku12 :: ku13 :: kc14 :: kc15 :: kc16 :: kc17 :: kc18 :: kc19 :: kc20 :: kc21 :: kc22 :: kc23 :: kc24 :: kc25 :: kc26 :: kc27 :: kc28 :: kc29 :: kc30 :: kc31 :: kc32 :: kc33 :: kc34 :: kc35 :: kc36 :: kc37 :: kc38 :: kc39 :: kc40 :: kc41 :: kc42 :: kc43 :: kc44 :: kc45 :: kc46 :: kc47 :: kc48 :: .slice A n c :: .int .i64 (n : Int) :: .int .i64 0 :: ku52 :: ku53 :: ku54 :: ku55 :: ku56 :: ku57 :: ku58 :: ku59 :: ku60 :: ku61 :: ku62 :: ku63 :: ku64 :: ku65 :: ku66 :: ku67 :: ku68 :: ku69 :: ku70 :: ku71 :: ku72 :: ku73 :: ku74 :: ku75 :: ku76 :: ku77 :: ku78 :: ku79 :: ku80 :: ku81 :: ku82 :: ku83 :: ku84 :: ku85 :: ku86 :: kc87 :: []), []⟩ wr := by
  have HX := hide hexit
  clear hexit
  unfold ctl3C
  conv => arg 2; whnf
  have HM := hide hM
  clear hM
  have hbt := fun (k m : Nat) (i : Int) (hi : i + (n : Int) = (m : Int)) (hm : m ≤ 3000) W (hg : Blk W go 4 (boolsC (outs L h) n n)) => bat_any (outs L h) go n m i W hn0 (by omega) hi (by omega) hg
  have hmax2 : (n : Int) ≤ 1000 := by omega
  have hln := fun k => left_len2 L h k
  obtain ⟨b0, off, rfl, hb0, hc0⟩ := ha (by omega)
  obtain ⟨i0, hii, hz0, hz1, hz2⟩ := info_parts bdInfo
  have Hbt := hide hbt
  have Hln := hide hln
  have Hc0 := hide hc0
  have Hi := hide hii
  have Hz0 := hide hz0
  have Hz1 := hide hz1
  have Hz2 := hide hz2
  have Hn := hide hn
  clear hbt hln hc0 hii hz0 hz1 hz2 hn
  clear ha
  go_loopw [51] (fun i wr => ∃ (k : Nat) (v : Value), k ≤ n ∧ i = .int .i64 k ∧ Mem w' (.blk gl 128 #[v] :: .row w'.heap.size 162 3 v (leftN L h k).length (bdsV (leftN L h k)) :: .blk go 4 (boolsC (outs L h) n n) :: .blk gh 162 #[.int .i64 h.a, .int .i64 h.b, .int .i64 h.c] :: ts) wr) (fun i _ => n - (intOf i).toNat)
  case atStart => exact ⟨0, _, Nat.zero_le _, rfl, HM.out⟩
  case round =>
    obtain ⟨k, v, hk, rfl, hM⟩ := hrel
    clear HM
    have HM := hide hM
    clear hM
    by_cases hlt : k < n
    · have hlt2 : (k : Int) < n := by omega
      obtain ⟨q0, q1, q2⟩ := Hc0.out k (by rw [Hn.out]; exact hlt)
      rw [← HM.out.below.cell hb0] at q0 q1 q2
      have lt0 : b0 < wr.heap.size := Nat.lt_of_lt_of_le hb0 HM.out.size
      have hat : L.getD k bd0 = atB L k := by unfold atB; rw [Nat.mod_eq_of_lt (by rw [Hn.out]; exact hlt)]
      rw [hat] at q0 q1 q2
      have hS : leftN L h (k + 1) = leftN L h k ++ stepL (bgn L h k) (outs L h k) (atB L k) h := rfl
      have hl1 := Hln.out k
      have e1 : outs L h ((k + n) % n) = outs L h k := by have := outs_mod2 L h (k + n); have h2 := outs_mod L h k; rw [Hn.out] at this h2; rw [this, h2]
      have e2 : outs L h ((k + (n - 1)) % n) = bgn L h k := by have := outs_mod2 L h (k + (n - 1)); rw [Hn.out] at this; rw [this]; unfold bgn; rw [Hn.out]
      have hb1 := Hbt.out k (k + (n - 1)) ((k : Int) - 1) (by omega) (by omega)
      have hb2 := Hbt.out k (k + n) (k : Int) (by omega) (by omega)
      rw [e1] at hb2
      rw [e2] at hb1
      obtain ⟨x, hx⟩ : ∃ x, atB L k = x := ⟨_, rfl⟩
      rw [hx] at hS q0 q1 q2
      obtain ⟨b, hb⟩ : ∃ b, bgn L h k = b := ⟨_, rfl⟩
      rw [hb] at hS hb1
      obtain ⟨o, ho⟩ : ∃ b, outs L h k = b := ⟨_, rfl⟩
      rw [ho] at hS hb2
      obtain ⟨Q, hQ⟩ : ∃ Q, leftN L h k = Q := ⟨_, rfl⟩
      rw [hQ] at hS hl1 HM
      obtain ⟨xa, xb, xc⟩ := x
      simp only at q0 q1 q2
      have HB1 := hide hb1
      have HB2 := hide hb2
      have HS := hide hS
      clear hb1 hb2 hS
      clear e1 e2 hx hb ho hQ hat
      go_wp2_with fail
      refine at_world fun w1 hW => ?_
      have HMn := Mem.to (Mem.allocAt HM.out wr.heap.size rfl #[.int .i64 xa, .int .i64 xb, .int .i64 xc] 162) hW
      have LW : Later wr w1 := by rw [hW]; exact ((Below.refl _ _).alloc (Nat.le_refl _) _)
      have szW : w1.heap.size = wr.heap.size + 1 := by rw [hW]; simp
      clear hW
      replace HM := hide HMn
      clear HMn LW
      clear szW q0 q1 q2 lt0
      generalize hgx : wr.heap.size = gx at HM ⊢
      refine (HB1.out _ (Mem.blk_ HM.out 3 rfl)).mono ?_
      rintro e w2 ⟨rfl, hb⟩
      replace HM := hide (HM.out.later hb)
      clear hb
      go_wp2_with fail
      refine (HB2.out _ (Mem.blk_ HM.out 3 rfl)).mono ?_
      rintro e w3 ⟨rfl, hb⟩
      replace HM := hide (HM.out.later hb)
      clear hb
      cases b with
      | true =>
        cases o with
        | true =>
          have hS2 : leftN L h (k + 1) = Q := HS.out.trans (List.append_nil _)
          have bl : Blk w3 gl 128 #[v] := HM.out.get 1 rfl
          have ltl := bl.lt
          have l0 := bl.c 0 rfl
          have fl0 := bl.frozen 0
          have bx : Blk w3 gx 162 #[.int .i64 xa, .int .i64 xb, .int .i64 xc] := HM.out.get 0 rfl
          have ltx := bx.lt
          have x0 := bx.c 0 rfl
          have x1 := bx.c 1 rfl
          have x2 := bx.c 2 rfl
          have bt : Blk w3 gh 162 #[.int .i64 h.a, .int .i64 h.b, .int .i64 h.c] := HM.out.get 4 rfl
          have ltt := bt.lt
          have t0 := bt.c 0 rfl
          have t1 := bt.c 1 rfl
          have t2 := bt.c 2 rfl
          go_wp2_with fail
          go_roundw
          case rel => exact ⟨k + 1, v, hlt, by go_num, by rw [hS2]; first | exact HM.out.tail | (rw [List.length_append, bdsV_snoc]; exact HM.out.tail)⟩
          case measure => simp [intOf] <;> omega
        | false =>
          have hS2 : leftN L h (k + 1) = Q ++ [⟨xa, xb, xc⟩] := HS.out
          obtain ⟨M, hMM⟩ : ∃ M, (Q).length = M := ⟨_, rfl⟩
          obtain ⟨X, hXX⟩ : ∃ X, bdsV (Q) = X := ⟨_, rfl⟩
          rw [hMM, hXX] at HM
          have hMb : M ≤ 2002 := by rw [← hMM]; first | omega | (simp only [List.length_append, List.length_cons, List.length_nil]; omega)
          have bl : Blk w3 gl 128 #[v] := HM.out.get 1 rfl
          have ltl := bl.lt
          have l0 := bl.c 0 rfl
          have fl0 := bl.frozen 0
          have bx : Blk w3 gx 162 #[.int .i64 xa, .int .i64 xb, .int .i64 xc] := HM.out.get 0 rfl
          have ltx := bx.lt
          have x0 := bx.c 0 rfl
          have x1 := bx.c 1 rfl
          have x2 := bx.c 2 rfl
          have bt : Blk w3 gh 162 #[.int .i64 h.a, .int .i64 h.b, .int .i64 h.c] := HM.out.get 4 rfl
          have ltt := bt.lt
          have t0 := bt.c 0 rfl
          have t1 := bt.c 1 rfl
          have t2 := bt.c 2 rfl
          have hownM := Mem.row_ HM.out 2 rfl
          have hbaseM : w'.heap.size ≤ w3.heap.size := HM.out.size
          go_wp2_with (at_builtin; refine wpList_append_own_at _ rfl (.tmp 70) (.tmp 72) _ rfl w'.heap.size 162 i0 _ 3 24 Try.underlying126 Hi.out Hz0.out Hz1.out Hz2.out rfl (by decide) _ M X rfl (hownM.alloc _) ⟨w3.heap.size, 0, none⟩ 1 1 [.int .i64 xa, .int .i64 xb, .int .i64 xc] rfl rfl ?q1c1 (by intro u hu; simp only [List.mem_cons, List.not_mem_nil, or_false] at hu; rcases hu with rfl | rfl | rfl <;> rfl) ?q1c3 ?q1c4 ?q1c5 ?_)
          try case q1c1 => exact new_cellsQ w3 _ [.int .i64 xa, .int .i64 xb, .int .i64 xc]
          case q1c3 => unfold maxLen; omega
          case q1c4 => omega
          case q1c5 => simp; omega
          intro vvv2 w4 hown2 hgr2 _ hat2
          have HMn := HM.out.grow 2 rfl _ hgr2 hown2 hat2
          replace HM := hide HMn
          clear HMn hown2 hgr2 hat2 hownM hbaseM
          clear bl ltl l0 fl0 bx ltx x0 x1 x2 bt ltt t0 t1 t2
          obtain ⟨Av2, cv2, rfl⟩ := own_shape2 (Mem.row_ HM.out 2 rfl)
          have bl : Blk w4 gl 128 #[v] := HM.out.get 1 rfl
          have ltl := bl.lt
          have l0 := bl.c 0 rfl
          have fl0 := bl.frozen 0
          have bx : Blk w4 gx 162 #[.int .i64 xa, .int .i64 xb, .int .i64 xc] := HM.out.get 0 rfl
          have ltx := bx.lt
          have x0 := bx.c 0 rfl
          have x1 := bx.c 1 rfl
          have x2 := bx.c 2 rfl
          have bt : Blk w4 gh 162 #[.int .i64 h.a, .int .i64 h.b, .int .i64 h.c] := HM.out.get 4 rfl
          have ltt := bt.lt
          have t0 := bt.c 0 rfl
          have t1 := bt.c 1 rfl
          have t2 := bt.c 2 rfl
          go_upto_region 22 with fail
          refine code_world fun w5 hW => ?_
          have HMs := hide (Mem.to (HM.out.set_ 1 rfl 0 (.slice Av2 (M + 1) cv2) rfl) hW)
          clear HM hW
          clear bl ltl l0 fl0 bx ltx x0 x1 x2 bt ltt t0 t1 t2
          have HM := HMs
          clear HMs
          obtain ⟨v2, hv2⟩ : ∃ v, Value.slice Av2 (M + 1) cv2 = v := ⟨_, rfl⟩
          rw [hv2] at HM
          rw [← hMM, ← hXX] at HM
          clear hMM hXX hMb
          go_wp2_with fail
          go_roundw
          case rel => exact ⟨k + 1, v2, hlt, by go_num, by rw [hS2]; first | exact HM.out.tail | (rw [List.length_append, bdsV_snoc]; exact HM.out.tail)⟩
          case measure => simp [intOf] <;> omega
      | false =>
        cases o with
        | true =>
          have hS2 : leftN L h (k + 1) = Q ++ [⟨xa, xb, xc⟩] ++ [h] := HS.out.trans (List.append_assoc _ _ _).symm
          obtain ⟨M, hMM⟩ : ∃ M, (Q).length = M := ⟨_, rfl⟩
          obtain ⟨X, hXX⟩ : ∃ X, bdsV (Q) = X := ⟨_, rfl⟩
          rw [hMM, hXX] at HM
          have hMb : M ≤ 2002 := by rw [← hMM]; first | omega | (simp only [List.length_append, List.length_cons, List.length_nil]; omega)
          have bl : Blk w3 gl 128 #[v] := HM.out.get 1 rfl
          have ltl := bl.lt
          have l0 := bl.c 0 rfl
          have fl0 := bl.frozen 0
          have bx : Blk w3 gx 162 #[.int .i64 xa, .int .i64 xb, .int .i64 xc] := HM.out.get 0 rfl
          have ltx := bx.lt
          have x0 := bx.c 0 rfl
          have x1 := bx.c 1 rfl
          have x2 := bx.c 2 rfl
          have bt : Blk w3 gh 162 #[.int .i64 h.a, .int .i64 h.b, .int .i64 h.c] := HM.out.get 4 rfl
          have ltt := bt.lt
          have t0 := bt.c 0 rfl
          have t1 := bt.c 1 rfl
          have t2 := bt.c 2 rfl
          have hownM := Mem.row_ HM.out 2 rfl
          have hbaseM : w'.heap.size ≤ w3.heap.size := HM.out.size
          go_wp2_with (at_builtin; refine wpList_append_own_at _ rfl (.tmp 70) (.tmp 72) _ rfl w'.heap.size 162 i0 _ 3 24 Try.underlying126 Hi.out Hz0.out Hz1.out Hz2.out rfl (by decide) _ M X rfl (hownM.alloc _) ⟨w3.heap.size, 0, none⟩ 1 1 [.int .i64 xa, .int .i64 xb, .int .i64 xc] rfl rfl ?q2c1 (by intro u hu; simp only [List.mem_cons, List.not_mem_nil, or_false] at hu; rcases hu with rfl | rfl | rfl <;> rfl) ?q2c3 ?q2c4 ?q2c5 ?_)
          try case q2c1 => exact new_cellsQ w3 _ [.int .i64 xa, .int .i64 xb, .int .i64 xc]
          case q2c3 => unfold maxLen; omega
          case q2c4 => omega
          case q2c5 => simp; omega
          intro vvv2 w4 hown2 hgr2 _ hat2
          have HMn := HM.out.grow 2 rfl _ hgr2 hown2 hat2
          replace HM := hide HMn
          clear HMn hown2 hgr2 hat2 hownM hbaseM
          clear bl ltl l0 fl0 bx ltx x0 x1 x2 bt ltt t0 t1 t2
          obtain ⟨Av2, cv2, rfl⟩ := own_shape2 (Mem.row_ HM.out 2 rfl)
          have bl : Blk w4 gl 128 #[v] := HM.out.get 1 rfl
          have ltl := bl.lt
          have l0 := bl.c 0 rfl
          have fl0 := bl.frozen 0
          have bx : Blk w4 gx 162 #[.int .i64 xa, .int .i64 xb, .int .i64 xc] := HM.out.get 0 rfl
          have ltx := bx.lt
          have x0 := bx.c 0 rfl
          have x1 := bx.c 1 rfl
          have x2 := bx.c 2 rfl
          have bt : Blk w4 gh 162 #[.int .i64 h.a, .int .i64 h.b, .int .i64 h.c] := HM.out.get 4 rfl
          have ltt := bt.lt
          have t0 := bt.c 0 rfl
          have t1 := bt.c 1 rfl
          have t2 := bt.c 2 rfl
          go_upto_region 22 with fail
          refine code_world fun w5 hW => ?_
          have HMs := hide (Mem.to (HM.out.set_ 1 rfl 0 (.slice Av2 (M + 1) cv2) rfl) hW)
          clear HM hW
          clear bl ltl l0 fl0 bx ltx x0 x1 x2 bt ltt t0 t1 t2
          have HM := HMs
          clear HMs
          obtain ⟨v2, hv2⟩ : ∃ v, Value.slice Av2 (M + 1) cv2 = v := ⟨_, rfl⟩
          rw [hv2] at HM
          rw [← hMM, ← hXX] at HM
          clear hMM hXX hMb
          have hM2 := HM.out
          rw [show Q.length + 1 = (Q ++ [(⟨xa, xb, xc⟩ : Bd)]).length by rw [List.length_append]; rfl, ← bdsV_snoc Q ⟨xa, xb, xc⟩] at hM2
          clear HM
          have HM := hide hM2
          clear hM2
          obtain ⟨M, hMM⟩ : ∃ M, (Q ++ [(⟨xa, xb, xc⟩ : Bd)]).length = M := ⟨_, rfl⟩
          obtain ⟨X, hXX⟩ : ∃ X, bdsV (Q ++ [(⟨xa, xb, xc⟩ : Bd)]) = X := ⟨_, rfl⟩
          rw [hMM, hXX] at HM
          have hMb : M ≤ 2002 := by rw [← hMM]; first | omega | (simp only [List.length_append, List.length_cons, List.length_nil]; omega)
          have bl : Blk w5 gl 128 #[v2] := HM.out.get 1 rfl
          have ltl := bl.lt
          have l0 := bl.c 0 rfl
          have fl0 := bl.frozen 0
          have bx : Blk w5 gx 162 #[.int .i64 xa, .int .i64 xb, .int .i64 xc] := HM.out.get 0 rfl
          have ltx := bx.lt
          have x0 := bx.c 0 rfl
          have x1 := bx.c 1 rfl
          have x2 := bx.c 2 rfl
          have bt : Blk w5 gh 162 #[.int .i64 h.a, .int .i64 h.b, .int .i64 h.c] := HM.out.get 4 rfl
          have ltt := bt.lt
          have t0 := bt.c 0 rfl
          have t1 := bt.c 1 rfl
          have t2 := bt.c 2 rfl
          have hownM := Mem.row_ HM.out 2 rfl
          have hbaseM : w'.heap.size ≤ w5.heap.size := HM.out.size
          go_wp2_with (at_builtin; refine wpList_append_own_at _ rfl (.tmp 81) (.tmp 83) _ rfl w'.heap.size 162 i0 _ 3 24 Try.underlying126 Hi.out Hz0.out Hz1.out Hz2.out rfl (by decide) _ M X rfl (hownM.alloc _) ⟨w5.heap.size, 0, none⟩ 1 1 [.int .i64 h.a, .int .i64 h.b, .int .i64 h.c] rfl rfl ?q3c1 (by intro u hu; simp only [List.mem_cons, List.not_mem_nil, or_false] at hu; rcases hu with rfl | rfl | rfl <;> rfl) ?q3c3 ?q3c4 ?q3c5 ?_)
          try case q3c1 => exact new_cellsQ w5 _ [.int .i64 h.a, .int .i64 h.b, .int .i64 h.c]
          case q3c3 => unfold maxLen; omega
          case q3c4 => omega
          case q3c5 => simp; omega
          intro vvv3 w6 hown2 hgr2 _ hat2
          have HMn := HM.out.grow 2 rfl _ hgr2 hown2 hat2
          replace HM := hide HMn
          clear HMn hown2 hgr2 hat2 hownM hbaseM
          clear bl ltl l0 fl0 bx ltx x0 x1 x2 bt ltt t0 t1 t2
          obtain ⟨Av3, cv3, rfl⟩ := own_shape2 (Mem.row_ HM.out 2 rfl)
          have bl : Blk w6 gl 128 #[v2] := HM.out.get 1 rfl
          have ltl := bl.lt
          have l0 := bl.c 0 rfl
          have fl0 := bl.frozen 0
          have bx : Blk w6 gx 162 #[.int .i64 xa, .int .i64 xb, .int .i64 xc] := HM.out.get 0 rfl
          have ltx := bx.lt
          have x0 := bx.c 0 rfl
          have x1 := bx.c 1 rfl
          have x2 := bx.c 2 rfl
          have bt : Blk w6 gh 162 #[.int .i64 h.a, .int .i64 h.b, .int .i64 h.c] := HM.out.get 4 rfl
          have ltt := bt.lt
          have t0 := bt.c 0 rfl
          have t1 := bt.c 1 rfl
          have t2 := bt.c 2 rfl
          go_upto_region 24 with fail
          refine code_world fun w7 hW => ?_
          have HMs := hide (Mem.to (HM.out.set_ 1 rfl 0 (.slice Av3 (M + 1) cv3) rfl) hW)
          clear HM hW
          clear bl ltl l0 fl0 bx ltx x0 x1 x2 bt ltt t0 t1 t2
          have HM := HMs
          clear HMs
          obtain ⟨v3, hv3⟩ : ∃ v, Value.slice Av3 (M + 1) cv3 = v := ⟨_, rfl⟩
          rw [hv3] at HM
          rw [← hMM, ← hXX] at HM
          clear hMM hXX hMb
          go_wp2_with fail
          go_roundw
          case rel => exact ⟨k + 1, v3, hlt, by go_num, by rw [hS2]; first | exact HM.out.tail | (rw [List.length_append, bdsV_snoc]; exact HM.out.tail)⟩
          case measure => simp [intOf] <;> omega
        | false =>
          have hS2 : leftN L h (k + 1) = Q ++ [⟨xa, xb, xc⟩] := HS.out
          obtain ⟨M, hMM⟩ : ∃ M, (Q).length = M := ⟨_, rfl⟩
          obtain ⟨X, hXX⟩ : ∃ X, bdsV (Q) = X := ⟨_, rfl⟩
          rw [hMM, hXX] at HM
          have hMb : M ≤ 2002 := by rw [← hMM]; first | omega | (simp only [List.length_append, List.length_cons, List.length_nil]; omega)
          have bl : Blk w3 gl 128 #[v] := HM.out.get 1 rfl
          have ltl := bl.lt
          have l0 := bl.c 0 rfl
          have fl0 := bl.frozen 0
          have bx : Blk w3 gx 162 #[.int .i64 xa, .int .i64 xb, .int .i64 xc] := HM.out.get 0 rfl
          have ltx := bx.lt
          have x0 := bx.c 0 rfl
          have x1 := bx.c 1 rfl
          have x2 := bx.c 2 rfl
          have bt : Blk w3 gh 162 #[.int .i64 h.a, .int .i64 h.b, .int .i64 h.c] := HM.out.get 4 rfl
          have ltt := bt.lt
          have t0 := bt.c 0 rfl
          have t1 := bt.c 1 rfl
          have t2 := bt.c 2 rfl
          have hownM := Mem.row_ HM.out 2 rfl
          have hbaseM : w'.heap.size ≤ w3.heap.size := HM.out.size
          go_wp2_with (at_builtin; refine wpList_append_own_at _ rfl (.tmp 70) (.tmp 72) _ rfl w'.heap.size 162 i0 _ 3 24 Try.underlying126 Hi.out Hz0.out Hz1.out Hz2.out rfl (by decide) _ M X rfl (hownM.alloc _) ⟨w3.heap.size, 0, none⟩ 1 1 [.int .i64 xa, .int .i64 xb, .int .i64 xc] rfl rfl ?q4c1 (by intro u hu; simp only [List.mem_cons, List.not_mem_nil, or_false] at hu; rcases hu with rfl | rfl | rfl <;> rfl) ?q4c3 ?q4c4 ?q4c5 ?_)
          try case q4c1 => exact new_cellsQ w3 _ [.int .i64 xa, .int .i64 xb, .int .i64 xc]
          case q4c3 => unfold maxLen; omega
          case q4c4 => omega
          case q4c5 => simp; omega
          intro vvv2 w4 hown2 hgr2 _ hat2
          have HMn := HM.out.grow 2 rfl _ hgr2 hown2 hat2
          replace HM := hide HMn
          clear HMn hown2 hgr2 hat2 hownM hbaseM
          clear bl ltl l0 fl0 bx ltx x0 x1 x2 bt ltt t0 t1 t2
          obtain ⟨Av2, cv2, rfl⟩ := own_shape2 (Mem.row_ HM.out 2 rfl)
          have bl : Blk w4 gl 128 #[v] := HM.out.get 1 rfl
          have ltl := bl.lt
          have l0 := bl.c 0 rfl
          have fl0 := bl.frozen 0
          have bx : Blk w4 gx 162 #[.int .i64 xa, .int .i64 xb, .int .i64 xc] := HM.out.get 0 rfl
          have ltx := bx.lt
          have x0 := bx.c 0 rfl
          have x1 := bx.c 1 rfl
          have x2 := bx.c 2 rfl
          have bt : Blk w4 gh 162 #[.int .i64 h.a, .int .i64 h.b, .int .i64 h.c] := HM.out.get 4 rfl
          have ltt := bt.lt
          have t0 := bt.c 0 rfl
          have t1 := bt.c 1 rfl
          have t2 := bt.c 2 rfl
          go_upto_region 22 with fail
          refine code_world fun w5 hW => ?_
          have HMs := hide (Mem.to (HM.out.set_ 1 rfl 0 (.slice Av2 (M + 1) cv2) rfl) hW)
          clear HM hW
          clear bl ltl l0 fl0 bx ltx x0 x1 x2 bt ltt t0 t1 t2
          have HM := HMs
          clear HMs
          obtain ⟨v2, hv2⟩ : ∃ v, Value.slice Av2 (M + 1) cv2 = v := ⟨_, rfl⟩
          rw [hv2] at HM
          rw [← hMM, ← hXX] at HM
          clear hMM hXX hMb
          go_wp2_with fail
          go_roundw
          case rel => exact ⟨k + 1, v2, hlt, by go_num, by rw [hS2]; first | exact HM.out.tail | (rw [List.length_append, bdsV_snoc]; exact HM.out.tail)⟩
          case measure => simp [intOf] <;> omega
    · obtain rfl : k = n := by omega
      have hkk : ¬ ((k : Int) < k) := by omega
      go_wp2_with fail
      exact HX.out HM.out
end Go.Proofs.Ytllpffkifleigaa
end
section
namespace Go.Proofs.Ytllpffkifleigaa
open Go Go.RowKit

theorem bdsV_get : ∀ (L : List Bd) (i : Nat), i < L.length → (bdsV L)[i * 3]? = some (.int .i64 (L.getD i bd0).a) ∧ (bdsV L)[i * 3 + 1]? = some (.int .i64 (L.getD i bd0).b) ∧ (bdsV L)[i * 3 + 2]? = some (.int .i64 (L.getD i bd0).c)
  | [], i, h => absurd h (by simp)
  | x :: L, 0, _ => ⟨rfl, rfl, rfl⟩
  | x :: L, i + 1, h => by
    have := bdsV_get L i (by simpa using h)
    have e : bdsV (x :: L) = [.int .i64 x.a, .int .i64 x.b, .int .i64 x.c] ++ bdsV L := rfl
    rw [e, show (i + 1) * 3 = i * 3 + 3 by omega]
    exact this
theorem area_own {w : World} {base c : Nat} {A : Option Addr} {L : List Bd} (h : w.ownsRow base 162 3 (.slice A L.length c) L.length (bdsV L)) : AreaAt w w.heap.size A L := fun hn => by
  obtain ⟨b, cur, rfl, -, hb, -, -, hc⟩ := row_blk h hn
  refine ⟨b, 0, rfl, hb.lt, fun i hi => ?_⟩
  obtain ⟨c1, c2, c3⟩ := bdsV_get L i hi
  rw [Nat.zero_add]
  exact ⟨hb.c _ (hc _ _ c1), hb.c _ (hc _ _ c2), hb.c _ (hc _ _ c3)⟩
theorem grown_below {w w' : World} (h : w.grownBy w' none) : Below w.heap.size w w' := ⟨h.os, h.tape, h.output, h.size, fun k hk => h.block k hk (by simp)⟩
/-- What a call on areas answers. -/
def AreaPost (w : World) (L : List Bd) (e : Ending) (w' : World) : Prop := ∃ A c, e = .returned (.agg #[.slice A L.length c]) ∧ AreaAt w' w'.heap.size A L ∧ Below w.heap.size w w'
set_option maxHeartbeats 4000000 in
set_option maxRecDepth 100000 in
theorem cut_any (A : Option Addr) (L : List Bd) (c : Nat) (h : Bd) (w : World) (hL : 0 < L.length) (hmax : L.length ≤ 1000) (ha : AreaAt w w.heap.size A L) (hok : AllOk L) (hh : BdOk h) :
    Calls Try.prog 104 #[.agg #[.slice A L.length c], bdC h] w (AreaPost w (cutA L h)) := by
  obtain ⟨R, hR⟩ : ∃ R, cutA L h = R := ⟨_, rfl⟩
  rw [hR]
  have hR0 : h ∈ L → R = L := fun h1 => by rw [← hR]; unfold cutA; rw [if_pos h1]
  have hR1 : h ∉ L → (List.range L.length).any (outs L h) = false → R = L := fun h1 h2 => by rw [← hR]; unfold cutA; rw [if_neg h1, if_neg (by rw [h2]; decide)]
  have hR2 : h ∉ L → (List.range L.length).any (outs L h) = true → R = leftN L h L.length := fun h1 h2 => by rw [← hR]; unfold cutA; rw [if_neg h1, if_pos h2]
  obtain ⟨n, hn⟩ : ∃ n, L.length = n := ⟨_, rfl⟩
  have hLp := fun (W : World) (hW : Below w.heap.size w W) (hRL : R = L) => (⟨A, c, by rw [hRL, hn], by rw [hRL]; exact ha.below hW, hW⟩ : AreaPost w R (.returned (.agg #[.slice A n c])) W)
  rw [hn] at hL hmax hR1 hR2 ⊢
  obtain ⟨b0, off, rfl, hb0, hc0⟩ := ha (by omega)
  rw [hn] at hc0
  have hmax2 : (n : Int) ≤ 1000 := by omega
  obtain ⟨i0, hii, hz0, hz1, hz2⟩ := info_parts boolInfo
  unfold bdC
  have HR0 := hide hR0
  have HR1 := hide hR1
  have HR2 := hide hR2
  have HLp := hide hLp
  have Hc0 := hide hc0
  have Hi := hide hii
  have Hz0 := hide hz0
  have Hz1 := hide hz1
  have Hz2 := hide hz2
  clear hR0 hR1 hR2 hLp hc0 hii hz0 hz1 hz2
  clear hR
  go_enter Try.func104, Try.ntmps104
  have HM := hide (Mem.start w)
  go_wp2_with fail
  refine code_world fun W hW => ?_
  have HMn := Mem.to (Mem.allocAt (Mem.allocAt (Mem.allocAt HM.out w.heap.size rfl #[.slice (some ⟨b0, off, none⟩) n c] 128) (w.heap.size + 1) (by simp) #[.int .i64 h.a, .int .i64 h.b, .int .i64 h.c] 162) (w.heap.size + 2) (by simp) #[.slice none 0 0] 128) hW
  have LW : Later w W := by rw [hW]; exact ((((Below.refl _ _).alloc (Nat.le_refl _) _).alloc (by simp; try omega) _).alloc (by simp; try omega) _)
  have szW : W.heap.size = w.heap.size + 3 := by rw [hW]; simp
  clear hW
  replace HM := hide HMn
  clear HMn LW
  clear szW
  generalize hg2 : w.heap.size + 1 + 1 = gl at HM ⊢
  generalize hg1 : w.heap.size + 1 = gh at HM ⊢
  generalize hg0 : w.heap.size = ga at HM ⊢
  clear hg2 hg1 hg0
  have bz : Blk W ga 128 #[.slice (some ⟨b0, off, none⟩) n c] := HM.out.get 2 rfl
  have ltz := bz.lt
  have z0 := bz.c 0 rfl
  go_wp2_with fail
  clear bz ltz z0
  go_loopw [17] (fun i wr => ∃ k : Nat, k ≤ n ∧ i = .int .i64 k ∧ (∀ j, j < k → L.getD j bd0 ≠ h) ∧ Mem w [.blk gl 128 #[.slice none 0 0], .blk gh 162 #[.int .i64 h.a, .int .i64 h.b, .int .i64 h.c], .blk ga 128 #[.slice (some ⟨b0, off, none⟩) n c]] wr) (fun i _ => n - (intOf i).toNat)
  case atStart => exact ⟨0, Nat.zero_le _, rfl, (fun j hj => absurd hj (Nat.not_lt_zero _)), HM.out⟩
  case round =>
    obtain ⟨k, hk, rfl, hno, hM⟩ := hrel
    clear HM
    have HM := hide hM
    have Hno := hide hno
    clear hM hno
    have bt : Blk wr gh 162 #[.int .i64 h.a, .int .i64 h.b, .int .i64 h.c] := HM.out.get 1 rfl
    have ltt := bt.lt
    have t0 := bt.c 0 rfl
    have t1 := bt.c 1 rfl
    have t2 := bt.c 2 rfl
    have bz : Blk wr ga 128 #[.slice (some ⟨b0, off, none⟩) n c] := HM.out.get 2 rfl
    have ltz := bz.lt
    have z0 := bz.c 0 rfl
    have br : Blk wr gl 128 #[.slice none 0 0] := HM.out.get 0 rfl
    have ltr := br.lt
    have r0 := br.c 0 rfl
    have fr0 := br.frozen 0
    by_cases hlt : k < n
    · have hlt2 : (k : Int) < n := by omega
      obtain ⟨q0, q1, q2⟩ := Hc0.out k (by omega)
      rw [← HM.out.below.cell hb0] at q0 q1 q2
      have lt0 : b0 < wr.heap.size := Nat.lt_of_lt_of_le hb0 HM.out.size
      obtain ⟨x, hx⟩ : ∃ x, L.getD k bd0 = x := ⟨_, rfl⟩
      rw [hx] at q0 q1 q2
      have hxm : x ∈ L := by rw [← hx, List.getD_eq_getElem?_getD, List.getElem?_eq_getElem (by omega)]; exact List.getElem_mem _
      obtain ⟨xa, xb, xc⟩ := x
      simp only at q0 q1 q2
      by_cases heq : (⟨xa, xb, xc⟩ : Bd) = h
      · subst heq
        have HP := hide (HR0.out hxm)
        simp only at t0 t1 t2
        clear hx hxm
        go_wp2
        have HM1 := hide ((HM.out.set_ 0 rfl 0 (.slice (some ⟨b0, off, none⟩) n c) rfl).alloc #[.int .i64 xa, .int .i64 xb, .int .i64 xc] 162)
        clear HM
        have r1 := (HM1.out.blk_ 1 rfl).c 0 rfl
        refine ret_world fun W1 hW1 => ?_
        rw [← hW1] at HM1 r1
        refine bodyPost_ret (v := .agg #[.slice (some ⟨b0, off, none⟩) n c]) (by simp [results, Try.results104, go_sem, r1]) rfl ?_
        exact HLp.out _ HM1.out.below HP.out
      · have hne : xa = h.a → xb = h.b → xc = h.c → False := fun h1 h2 h3 => heq (by obtain ⟨ha, hb, hc⟩ := h; simp only at h1 h2 h3; rw [h1, h2, h3])
        have HN := hide (fun j (hj : j < k + 1) => show L.getD j bd0 ≠ h by
          by_cases e : j = k
          · rw [e, hx]; exact heq
          · exact Hno.out j (by omega))
        clear hx hxm
        have HNE := hide hne
        clear hne
        go_wp2_with fail
        all_goals first | exact absurd (HNE.out ‹_› ‹_› ‹_›) id | exact ⟨⟨k + 1, hlt, by go_num, HN.out, (HM.out.alloc _ 162).tail⟩, by simp [intOf] <;> omega⟩
    · obtain rfl : k = n := by omega
      have hkk : ¬ ((k : Int) < k) := by omega
      have hnm : h ∉ L := fun hm => by
        obtain ⟨j, hj, e⟩ := List.getElem_of_mem hm
        exact Hno.out j (by omega) (by rw [List.getD_eq_getElem?_getD, List.getElem?_eq_getElem hj]; exact e)
      have HB1 := hide (HR1.out hnm)
      have HB2 := hide (HR2.out hnm)
      clear hnm
      clear HR0 HR1 HR2
      have hk0 : 0 < (k : Int) := by omega
      go_wp2_with (at_make; refine wpList_make_full _ rfl _ _ 193 rfl w.heap.size 4 i0 (.bool false) 1 Try.underlying193 Hi.out Hz0.out Hz1.out .i64 .i64 _ _ k rfl rfl rfl rfl (by rw [Hz2.out]; omega) (by unfold maxLen; omega) HM.out.size ?_)
      intro w4 hown hgr4
      have hbg := own_full_blk hown hL
      rw [show (_ : Array Value) = boolsC (outs L h) 0 k from (bools_zero (outs L h) k).symm] at hbg
      have HM1 := hide ((HM.out.add (t := .blk wr.heap.size 4 (boolsC (outs L h) 0 k)) (grown_below hgr4) hbg (fun x hx => by rw [List.mem_singleton.1 hx]; exact Nat.le_refl _)).perm (List.Perm.cons _ (List.perm_append_comm (l₁ := [_]) (l₂ := [_, _]))))
      clear HM hown hgr4 hbg bt ltt t0 t1 t2 bz ltz z0 br ltr r0 fr0 Hno Hi Hz0 Hz1 Hz2 Hc0
      generalize wr.heap.size = go at HM1 ⊢
      have HM := HM1
      clear HM1
      have bz : Blk w4 ga 128 #[.slice (some ⟨b0, off, none⟩) k c] := HM.out.get 2 rfl
      have ltz := bz.lt
      have z0 := bz.c 0 rfl
      go_wp2_with fail
      clear bz ltz z0
      refine ctl2 (some ⟨b0, off, none⟩) L c k ga gh go h _ w hn hL hmax ha hok hh HM.out ?_
      clear HM
      intro kv8 kv32 kv33 kv34 kv35 kv36 kv37 kv38 kv39 kv40 kv41 kv42 kv43
      intro w5 hM
      have HM := hide hM
      clear hM
      go_wp2_with fail
      refine (bContains_any (outs L h) go k w5 (by omega) (HM.out.blk_ 0 rfl)).mono ?_
      rintro e w6 ⟨rfl, rfl⟩
      obtain ⟨any, hany⟩ : ∃ b, (List.range k).any (outs L h) = b := ⟨_, rfl⟩
      rw [hany] at HB1 HB2 ⊢
      clear hany
      have bz : Blk w6 ga 128 #[.slice (some ⟨b0, off, none⟩) k c] := HM.out.get 2 rfl
      have ltz := bz.lt
      have z0 := bz.c 0 rfl
      have br : Blk w6 gl 128 #[.slice none 0 0] := HM.out.get 3 rfl
      have ltr := br.lt
      have r0 := br.c 0 rfl
      have fr0 := br.frozen 0
      cases any with
      | false =>
        have HP := hide (HB1.out rfl)
        clear HB1 HB2
        go_wp2
        have HM1 := hide (HM.out.set_ 3 rfl 0 (.slice (some ⟨b0, off, none⟩) k c) rfl)
        clear HM
        have r1 := (HM1.out.blk_ 3 rfl).c 0 rfl
        refine ret_world fun W1 hW1 => ?_
        rw [← hW1] at HM1 r1
        refine bodyPost_ret (v := .agg #[.slice (some ⟨b0, off, none⟩) k c]) (by simp [results, Try.results104, go_sem, r1]) rfl ?_
        exact HLp.out _ HM1.out.below HP.out
      | true =>
        have HP := hide (HB2.out rfl)
        clear HB1 HB2
        go_wp2_with fail
        refine code_world fun w7 hW => ?_
        have HMn := Mem.to (Mem.allocAt HM.out w6.heap.size rfl #[.slice none 0 0] 128) hW
        have LW : Later w6 w7 := by rw [hW]; exact ((Below.refl _ _).alloc (Nat.le_refl _) _)
        have szW : w7.heap.size = w6.heap.size + 1 := by rw [hW]; simp
        clear hW bz ltz z0 br ltr r0 fr0
        replace HM := hide HMn
        clear HMn LW
        have HM1 := hide ((HM.out.nilRow w.heap.size 162 3).perm ((List.Perm.swap _ _ _).trans (List.Perm.cons _ (List.Perm.refl _))))
        clear HM szW
        generalize w6.heap.size = gf at HM1 ⊢
        have HM := HM1
        clear HM1
        have bz : Blk w7 ga 128 #[.slice (some ⟨b0, off, none⟩) k c] := HM.out.get 4 rfl
        have ltz := bz.lt
        have z0 := bz.c 0 rfl
        go_wp2_with fail
        clear bz ltz z0
        refine ctl3 (some ⟨b0, off, none⟩) L c k ga gh go gf h _ w hn hL hmax ha HM.out ?_
        clear HM
        intro kv10 kv11 kv12 kv13 kv51 kv52 kv53 kv54 kv55 kv56 kv57 kv58 kv59 kv60 kv61 kv62 kv63 kv64 kv65 kv66 kv67 kv68 kv69 kv70 kv71 kv72 kv73 kv74 kv75 kv76 kv77 kv78 kv79 kv80 kv81 kv82 kv83 kv84 kv85 kv86
        intro vv w8 hM
        have HM := hide hM
        clear hM
        rw [← HP.out] at HM
        have hown := Mem.row_ HM.out 1 rfl
        obtain ⟨A2, c2, rfl⟩ := own_shape2 hown
        clear hown
        have bz : Blk w8 gf 128 #[.slice A2 R.length c2] := HM.out.get 0 rfl
        have ltz := bz.lt
        have z0 := bz.c 0 rfl
        have br : Blk w8 gl 128 #[.slice none 0 0] := HM.out.get 5 rfl
        have ltr := br.lt
        have r0 := br.c 0 rfl
        have fr0 := br.frozen 0
        go_wp2
        have HM1 := hide (HM.out.set_ 5 rfl 0 (.slice A2 R.length c2) rfl)
        clear HM
        have r1 := (HM1.out.blk_ 5 rfl).c 0 rfl
        refine ret_world fun W1 hW1 => ?_
        rw [← hW1] at HM1 r1
        refine bodyPost_ret (v := .agg #[.slice A2 R.length c2]) (by simp [results, Try.results104, go_sem, r1]) rfl ?_
        exact ⟨A2, c2, rfl, area_own (HM1.out.row_ 1 rfl), HM1.out.below⟩
end Go.Proofs.Ytllpffkifleigaa
end
section
namespace Go.Proofs.Ytllpffkifleigaa
open Go Go.RowKit

theorem hi_ok {s : Sgt} {w : Int} (h : SgtOk s) (h0 : 0 ≤ w) (h1 : w ≤ 400000) : BdOk (hiB s w) := by
  obtain ⟨l1, l2, x1, x2, y1, y2, -, a1, a2, a3⟩ := h
  have m := abs_mul (X := 800000) (Y := 64800) (show -800000 ≤ s.hi + w by omega) (by omega) (show -64800 ≤ s.l by omega) l2
  unfold hiB
  constructor <;> simp only <;> omega
theorem lo_ok {s : Sgt} {w : Int} (h : SgtOk s) (h0 : 0 ≤ w) (h1 : w ≤ 400000) : BdOk (loB s w) := by
  obtain ⟨l1, l2, x1, x2, y1, y2, -, a1, a2, a3⟩ := h
  have m := abs_mul (X := 800000) (Y := 64800) (show -800000 ≤ w - s.lo by omega) (by omega) (show -64800 ≤ s.l by omega) l2
  unfold loB
  constructor <;> simp only <;> omega
theorem hvs_ok {l : List Sgt} {w : Int} (h : ∀ s ∈ l, SgtOk s) (h0 : 0 ≤ w) (h1 : w ≤ 400000) : AllOk (hvs l w) := by
  intro b hb
  rcases mem_hvs.1 hb with hb | ⟨s, hs, rfl | rfl⟩
  · simp only [hvs, List.flatMap_nil, List.append_nil, List.mem_cons, List.not_mem_nil, or_false] at hb
    rcases hb with rfl | rfl | rfl | rfl <;> (constructor <;> simp)
  · exact hi_ok (h s hs) h0 h1
  · exact lo_ok (h s hs) h0 h1
theorem nar_allok {l : List Sgt} {w : Int} (h : ∀ s ∈ l, SgtOk s) (h0 : 0 ≤ w) (h1 : w ≤ 400000) : AllOk (narL skyL l w) := by
  rcases nar_ok l w with ⟨e, -⟩ | A
  · rw [e]; intro b hb; cases hb
  · exact fun b hb => hvs_ok h h0 h1 b (A.mem b hb)
theorem cut_allok {L : List Bd} {h : Bd} (hL : AllOk L) (hh : BdOk h) : AllOk (cutA L h) := by
  unfold cutA
  split
  · exact hL
  · split
    · intro b hb
      rcases left_mem _ _ hb with ⟨j, hj, rfl, -⟩ | ⟨rfl, -⟩
      · exact hL _ (atB_mem (by omega) j)
      · exact hh
    · exact hL
/-- Sights as they lie in memory. -/
def sgC (s : Sgt) : Value := .agg #[.int .i64 s.x, .int .i64 s.y, .int .i64 s.l, .int .i64 s.lo, .int .i64 s.hi]
def SgtsAt (w : World) (B : Nat) (A : Option Addr) (l : List Sgt) : Prop := 0 < l.length → ∃ b off, A = some ⟨b, off, none⟩ ∧ b < B ∧ ∀ i, i < l.length →
  w.cell? ⟨b, off + i * 5, none⟩ = some (.int .i64 (l.getD i sg0).x) ∧ w.cell? ⟨b, off + i * 5 + 1, none⟩ = some (.int .i64 (l.getD i sg0).y) ∧ w.cell? ⟨b, off + i * 5 + 2, none⟩ = some (.int .i64 (l.getD i sg0).l) ∧
  w.cell? ⟨b, off + i * 5 + 3, none⟩ = some (.int .i64 (l.getD i sg0).lo) ∧ w.cell? ⟨b, off + i * 5 + 4, none⟩ = some (.int .i64 (l.getD i sg0).hi)
theorem SgtsAt.later {w w' : World} {B B' : Nat} {A : Option Addr} {l : List Sgt} (h : SgtsAt w B A l) (hb : Below B w w') (hB : B ≤ B') : SgtsAt w' B' A l := fun hn => by
  obtain ⟨b, off, e, hl, hc⟩ := h hn
  refine ⟨b, off, e, by omega, fun i hi => ?_⟩
  obtain ⟨c1, c2, c3, c4, c5⟩ := hc i hi
  exact ⟨(hb.cell hl).trans c1, (hb.cell hl).trans c2, (hb.cell hl).trans c3, (hb.cell hl).trans c4, (hb.cell hl).trans c5⟩
theorem SgtsAt.below {w w' : World} {A : Option Addr} {l : List Sgt} (h : SgtsAt w w.heap.size A l) (hb : Below w.heap.size w w') : SgtsAt w' w'.heap.size A l := h.later hb hb.size
end Go.Proofs.Ytllpffkifleigaa
end
section
namespace Go.Proofs.Ytllpffkifleigaa
open Go Go.RowKit

set_option maxHeartbeats 1000000 in
set_option maxRecDepth 100000 in
theorem empty_any (A : Option Addr) (n c : Nat) (w : World) :
    Calls Try.prog 63 #[.agg #[.slice A n c]] w fun e w' => e = .returned (.bool (decide (n = 0))) ∧ Below w.heap.size w w' := by
  have hd : decide (n = 0) = decide ((n : Int) = 0) := by by_cases h : n = 0 <;> simp [h]
  rw [hd]
  go_enter Try.func63, Try.ntmps63
  go_wp2
  refine bodyPost_ret (v := .bool ((n : Int) == 0)) (by simp [results, Try.results63, go_sem]) rfl ⟨rfl, ?_⟩
  repeat (first | exact Below.refl _ _ | (refine Below.setCell ?_ (by first | omega | (simp; done) | (simp; omega)) _) | (refine Below.alloc ?_ (by first | omega | (simp; done) | (simp; omega)) _) | (refine below_drewN ?_ _))
theorem area_blk {w : World} {g : Nat} {t : TypeId} {cs : Array Value} {L : List Bd} (h : Blk w g t cs) (hq : cs.toList = bdsV L) : AreaAt w w.heap.size (some ⟨g, 0, none⟩) L := fun _ => by
  refine ⟨g, 0, rfl, h.lt, fun i hi => ?_⟩
  obtain ⟨c1, c2, c3⟩ := bdsV_get L i hi
  rw [← hq, Array.getElem?_toList] at c1 c2 c3
  rw [Nat.zero_add]
  exact ⟨h.c _ c1, h.c _ c2, h.c _ c3⟩
set_option maxHeartbeats 1000000 in
set_option maxRecDepth 100000 in
theorem sky_any (w : World) : Calls Try.prog 61 #[] w (AreaPost w skyL) := by
  go_enter Try.func61, Try.ntmps61
  go_wp2
  refine bodyPost_ret (v := .agg #[.slice (some ⟨w.heap.size + 1, 0, none⟩) 4 4]) (by simp [results, Try.results61, go_sem]) rfl ?_
  refine ⟨_, 4, rfl, area_blk (blk_new_at (by simp)) rfl, ?_⟩
  repeat (first | exact Below.refl _ _ | (refine Below.setCell ?_ (by first | omega | (simp; done) | (simp; omega)) _) | (refine Below.alloc ?_ (by first | omega | (simp; done) | (simp; omega)) _) | (refine below_drewN ?_ _))
/-- An area in a world. -/
def AreaH (w : World) (A : Option Addr) (L : List Bd) : Prop := AreaAt w w.heap.size A L
theorem AreaH.later {w w' : World} {A : Option Addr} {L : List Bd} (h : AreaH w A L) (hb : Below w.heap.size w w') : AreaH w' A L := AreaAt.below h hb
theorem blk_cell {W : World} {g : Nat} {t : TypeId} {cs : Array Value} (hb : Blk W g t cs) (k : Nat) (v : Value) (h : W.cell? ⟨g, k, none⟩ = some v) : cs[k]? = some v := by
  have h1 : W.heap[g]? = some (.cells cs t (0, 0)) := hb
  unfold World.cell? at h
  simp only [h1] at h
  simpa using h
theorem cell_same {X Y : World} {k o : Nat} (h : Y.heap[k]? = X.heap[k]?) : Y.cell? ⟨k, o, none⟩ = X.cell? ⟨k, o, none⟩ := by
  unfold World.cell?
  simp only [h]
theorem AreaH.set {W : World} {g n c : Nat} {t : TypeId} {B A : Option Addr} {L : List Bd} (h : AreaH W A L) (hb : Blk W g t #[.slice B n c]) (o : Nat) (v : Value) : AreaH (W.setCell ⟨g, o, none⟩ v) A L := fun hn => by
  obtain ⟨b, off, e, hl, hc⟩ := h hn
  have hne : b ≠ g := by
    rintro rfl
    have h1 := blk_cell hb _ _ (hc 0 hn).1
    have h2 := (Array.getElem?_eq_some_iff.1 h1)
    obtain ⟨h3, h4⟩ := h2
    have h5 : off + 0 * 3 = 0 := by simp at h3; omega
    simp only [h5] at h4
    cases h4
  have hk : ∀ k, (W.setCell ⟨g, o, none⟩ v).cell? ⟨b, k, none⟩ = W.cell? ⟨b, k, none⟩ := fun k => cell_same (Below.heap_setCell _ _ _ b (fun e => hne (by have e' : b = g := e; exact e')))
  refine ⟨b, off, e, by simpa using hl, fun i hi => ?_⟩
  rw [hk, hk, hk]
  exact hc i hi
def narK (L : List Bd) (s : Sgt) (w : Int) : Nat → List Bd
  | 0 => L
  | 1 => cutA L (hiB s w)
  | _ => narA L s w
def sgB (s : Sgt) (w : Int) : Nat → Bd
  | 0 => hiB s w
  | _ => loB s w
theorem narK_succ {L : List Bd} {s : Sgt} {w : Int} {k : Nat} (h : k < 2) : narK L s w (k + 1) = cutA (narK L s w k) (sgB s w k) := by
  rcases (by omega : k = 0 ∨ k = 1) with rfl | rfl <;> rfl
theorem narK_len {S : Bd → Prop} {L : List Bd} {s : Sgt} {w : Int} {k : Nat} (hi : InvA S L) (h : k ≤ 2) : (narK L s w k).length ≤ L.length + k := by
  have c1 := hi.len (hiB s w)
  have c2 := (hi.cut (hiB s w)).len (loB s w)
  rcases (by omega : k = 0 ∨ k = 1 ∨ k = 2) with rfl | rfl | rfl
  · exact Nat.le_refl _
  · exact c1
  · show (cutA (cutA L (hiB s w)) (loB s w)).length ≤ _
    omega
theorem narK_nil {L : List Bd} {s : Sgt} {w : Int} {k : Nat} (h : narK L s w k = []) (hk : k ≤ 2) : narA L s w = [] := by
  unfold narA
  rcases (by omega : k = 0 ∨ k = 1 ∨ k = 2) with rfl | rfl | rfl
  · rw [show L = [] from h, cut_nil, cut_nil]
  · rw [show cutA L (hiB s w) = [] from h, cut_nil]
  · exact h
theorem narK_ok {L : List Bd} {s : Sgt} {w : Int} {k : Nat} (hL : AllOk L) (hs : SgtOk s) (h0 : 0 ≤ w) (h1 : w ≤ 400000) (hk : k ≤ 2) : AllOk (narK L s w k) := by
  rcases (by omega : k = 0 ∨ k = 1 ∨ k = 2) with rfl | rfl | rfl
  · exact hL
  · exact cut_allok hL (hi_ok hs h0 h1)
  · exact cut_allok (cut_allok hL (hi_ok hs h0 h1)) (lo_ok hs h0 h1)
theorem sgB_ok {s : Sgt} {w : Int} {k : Nat} (hs : SgtOk s) (h0 : 0 ≤ w) (h1 : w ≤ 400000) : BdOk (sgB s w k) := by
  cases k with
  | zero => exact hi_ok hs h0 h1
  | succ k => exact lo_ok hs h0 h1
set_option maxHeartbeats 1000000 in
set_option maxRecDepth 100000 in
theorem narrow_any (A : Option Addr) (L : List Bd) (c : Nat) (s : Sgt) (wd : Int) (w : World) (hmax : L.length ≤ 900) {S : Bd → Prop} (hI : InvA S L) (ha : AreaAt w w.heap.size A L) (hok : AllOk L) (hs : SgtOk s) (h0 : 0 ≤ wd) (h1 : wd ≤ 400000) :
    Calls Try.prog 74 #[.agg #[.slice A L.length c], sgC s, .int .i64 wd] w (AreaPost w (narA L s wd)) := by
  have hE := fun k (hk : k ≤ 2) (W : World) (A' : Option Addr) (c' : Nat) => empty_any A' (narK L s wd k).length c' W
  have hC := fun k (hk : k ≤ 2) (W : World) (A' : Option Addr) (c' : Nat) (hl : 0 < (narK L s wd k).length) (hA : AreaAt W W.heap.size A' (narK L s wd k)) => cut_any A' (narK L s wd k) c' (sgB s wd k) W hl (by have := narK_len (s := s) (w := wd) hI hk; omega) hA (narK_ok hok hs h0 h1 hk) (sgB_ok hs h0 h1)
  have hS := fun k (hk : k < 2) => narK_succ (L := L) (s := s) (w := wd) hk
  have hN := fun k (hk : k ≤ 2) => narK_nil (L := L) (s := s) (w := wd) (k := k) (hk := hk)
  have b0 := hi_ok hs h0 h1
  have b1 := lo_ok hs h0 h1
  obtain ⟨sx, sy, sl, slo, shi⟩ := s
  obtain ⟨l1, l2, x1, x2, y1, y2, -, a1, a2, a3⟩ := hs
  simp only at l1 l2 x1 x2 y1 y2 a1 a2 a3
  have m1 : -51840000000 ≤ (shi + wd) * sl ∧ (shi + wd) * sl ≤ 51840000000 := ⟨b0.c0, b0.c1⟩
  have m2 : -51840000000 ≤ (wd - slo) * sl ∧ (wd - slo) * sl ≤ 51840000000 := ⟨b1.c0, b1.c1⟩
  have hB0 : sgB ⟨sx, sy, sl, slo, shi⟩ wd 0 = ⟨sx, sy, (shi + wd) * sl⟩ := rfl
  have hB1 : sgB ⟨sx, sy, sl, slo, shi⟩ wd 1 = ⟨-sx, -sy, (wd - slo) * sl⟩ := rfl
  have hK0 : narK L ⟨sx, sy, sl, slo, shi⟩ wd 0 = L := rfl
  have hK2 : narK L ⟨sx, sy, sl, slo, shi⟩ wd 2 = narA L ⟨sx, sy, sl, slo, shi⟩ wd := rfl
  unfold sgC
  simp only
  generalize narA L ⟨sx, sy, sl, slo, shi⟩ wd = R at *
  generalize narK L ⟨sx, sy, sl, slo, shi⟩ wd = K at *
  generalize sgB ⟨sx, sy, sl, slo, shi⟩ wd = G at *
  obtain ⟨p1, hp1⟩ : ∃ p, (shi + wd) * sl = p := ⟨_, rfl⟩
  obtain ⟨p2, hp2⟩ : ∃ p, (wd - slo) * sl = p := ⟨_, rfl⟩
  rw [hp1] at m1 hB0
  rw [hp2] at m2 hB1
  obtain ⟨m11, m12⟩ := m1
  obtain ⟨m21, m22⟩ := m2
  have ha2 : AreaAt w w.heap.size A (K 0) := by rw [hK0]; exact ha
  rw [← hK0]
  have hn0 : ((K 0).length : Int) ≤ 900 := by rw [hK0]; omega
  obtain ⟨n0, hn⟩ : ∃ n, (K 0).length = n := ⟨_, rfl⟩
  rw [hn] at hn0 ⊢
  have HE := hide hE
  have HC := hide hC
  have HS := hide hS
  have HN := hide hN
  have HB0 := hide hB0
  have HB1 := hide hB1
  have HK2 := hide hK2
  have HA := hide ha2
  have Hn0 := hide hn
  clear hE hC hS hN hB0 hB1 hK2 ha2 hn
  clear b0 b1 ha hok hK0
  go_enter Try.func74, Try.ntmps74
  have HM := hide (Mem.start w)
  go_wp2_with fail
  refine code_world fun W hW => ?_
  have HMn := Mem.to (Mem.allocAt (Mem.allocAt (Mem.allocAt (Mem.allocAt HM.out w.heap.size rfl #[.slice A n0 c] 128) (w.heap.size + 1) (by simp) #[.int .i64 sx, .int .i64 sy, .int .i64 sl, .int .i64 slo, .int .i64 shi] 71) (w.heap.size + 2) (by simp) #[.slice none 0 0] 128) (w.heap.size + 3) (by simp) #[.int .i64 sx, .int .i64 sy, .int .i64 p1, .int .i64 (-sx), .int .i64 (-sy), .int .i64 p2] 162) hW
  have LW : Later w W := by rw [hW]; exact (((((Below.refl _ _).alloc (Nat.le_refl _) _).alloc (by simp; try omega) _).alloc (by simp; try omega) _).alloc (by simp; try omega) _)
  have szW : W.heap.size = w.heap.size + 4 := by rw [hW]; simp
  clear hW
  replace HM := hide HMn
  clear HMn LW
  clear szW
  generalize hg3 : w.heap.size + 1 + 1 + 1 = gl at HM ⊢
  generalize hg2 : w.heap.size + 1 + 1 = gr at HM ⊢
  generalize hg1 : w.heap.size + 1 = gs at HM ⊢
  generalize hg0 : w.heap.size = ga at HM ⊢
  clear hg3 hg2 hg1 hg0
  clear m11 m12 m21 m22 hp1 hp2
  have HR := hide HK2.out
  go_loopw [39] (fun i wr => ∃ (k : Nat) (A' : Option Addr) (c' : Nat), k ≤ 2 ∧ i = .int .i64 k ∧ AreaH wr A' (K k) ∧ Mem w [.blk gl 162 #[.int .i64 sx, .int .i64 sy, .int .i64 p1, .int .i64 (-sx), .int .i64 (-sy), .int .i64 p2], .blk gr 128 #[.slice none 0 0], .blk gs 71 #[.int .i64 sx, .int .i64 sy, .int .i64 sl, .int .i64 slo, .int .i64 shi], .blk ga 128 #[.slice A' (K k).length c']] wr) (fun i _ => 2 - (intOf i).toNat)
  case atStart => exact ⟨0, A, c, by omega, rfl, HA.out.below HM.out.below, by rw [Hn0.out]; exact HM.out⟩
  case round =>
    obtain ⟨k, A', c', hk, rfl, hA, hM⟩ := hrel
    clear HM HA
    have HM := hide hM
    have HA := hide hA
    clear hM hA
    by_cases hlt : k < 2
    · have hlt2 : (k : Int) < 2 := by omega
      have hq : wr.cell? ⟨gl, k * 3, none⟩ = some (.int .i64 (G k).a) ∧ wr.cell? ⟨gl, k * 3 + 1, none⟩ = some (.int .i64 (G k).b) ∧ wr.cell? ⟨gl, k * 3 + 2, none⟩ = some (.int .i64 (G k).c) := by
        have hb := HM.out.blk_ 0 rfl
        rcases (by omega : k = 0 ∨ k = 1) with rfl | rfl
        · rw [HB0.out]; exact ⟨hb.c 0 rfl, hb.c 1 rfl, hb.c 2 rfl⟩
        · rw [HB1.out]; exact ⟨hb.c 3 rfl, hb.c 4 rfl, hb.c 5 rfl⟩
      have ltl := (HM.out.blk_ 0 rfl).lt
      have c1 := HE.out k hk
      have c2 := HC.out k hk
      have hs1 := HS.out k hlt
      have hn1 := HN.out k hk
      obtain ⟨X, hX⟩ : ∃ X, G k = X := ⟨_, rfl⟩
      rw [hX] at hq c2 hs1
      obtain ⟨Y, hY⟩ : ∃ Y, K k = Y := ⟨_, rfl⟩
      rw [hY] at HA HM c1 c2 hs1 hn1
      obtain ⟨xa, xb, xc⟩ := X
      obtain ⟨q0, q1, q2⟩ := hq
      simp only at q0 q1 q2
      obtain ⟨nk, hnk⟩ : ∃ n, Y.length = n := ⟨_, rfl⟩
      rw [hnk] at HM c1 c2
      have C1 := hide c1
      have C2 := hide c2
      have HS1 := hide hs1
      have HN1 := hide hn1
      clear c1 c2 hs1 hn1
      have bz : Blk wr ga 128 #[.slice A' nk c'] := HM.out.get 3 rfl
      have ltz := bz.lt
      have z0 := bz.c 0 rfl
      go_wp2_with fail
      refine at_world fun w1 hW => ?_
      have HMn := Mem.to (Mem.allocAt HM.out wr.heap.size rfl #[.int .i64 xa, .int .i64 xb, .int .i64 xc] 162) hW
      have LW : Later wr w1 := by rw [hW]; exact ((Below.refl _ _).alloc (Nat.le_refl _) _)
      have szW : w1.heap.size = wr.heap.size + 1 := by rw [hW]; simp
      clear hW bz ltz z0
      replace HA := hide (HA.out.later LW)
      replace HM := hide HMn
      clear HMn LW
      clear szW q0 q1 q2 ltl
      generalize hgx : wr.heap.size = gx at HM ⊢
      refine (C1.out _ A' c').mono ?_
      rintro e w2 ⟨rfl, hb⟩
      replace HM := hide (HM.out.later hb)
      replace HA := hide (HA.out.later hb)
      clear hb
      by_cases hz : nk = 0
      · rw [decide_eq_true hz]
        have hY0 : Y = [] := List.eq_nil_of_length_eq_zero (by omega)
        have hR := HN1.out hY0
        subst hR
        subst hz
        have bz : Blk w2 ga 128 #[.slice A' 0 c'] := HM.out.get 4 rfl
        have ltz := bz.lt
        have z0 := bz.c 0 rfl
        have br : Blk w2 gr 128 #[.slice none 0 0] := HM.out.get 2 rfl
        have ltr := br.lt
        have r0 := br.c 0 rfl
        have fr0 := br.frozen 0
        go_wp2
        have HM1 := hide (HM.out.set_ 2 rfl 0 (.slice A' 0 c') rfl)
        have r1 := (HM1.out.blk_ 2 rfl).c 0 rfl
        refine ret_world fun W1 hW1 => ?_
        rw [← hW1] at HM1 r1
        refine bodyPost_ret (v := .agg #[.slice A' 0 c']) (by simp [results, Try.results74, go_sem, r1]) rfl ?_
        exact ⟨A', c', rfl, fun h => absurd h (by simp), HM1.out.below⟩
      · rw [decide_eq_false hz]
        have bz : Blk w2 ga 128 #[.slice A' nk c'] := HM.out.get 4 rfl
        have ltz := bz.lt
        have z0 := bz.c 0 rfl
        have bt : Blk w2 gx 162 #[.int .i64 xa, .int .i64 xb, .int .i64 xc] := HM.out.get 0 rfl
        have ltt := bt.lt
        have t0 := bt.c 0 rfl
        have t1 := bt.c 1 rfl
        have t2 := bt.c 2 rfl
        go_wp2_with fail
        refine (C2.out _ A' c' (by omega) HA.out).mono ?_
        rintro e w3 ⟨A2, c2, rfl, hA2, hb⟩
        replace HM := hide (HM.out.later hb)
        replace HA := hide (HA.out.later hb)
        clear hb bz ltz z0 bt ltt t0 t1 t2
        clear HA
        rw [← HS1.out] at hA2
        rw [← HS1.out]
        have HA2 := hide (show AreaH w3 A2 (K (k + 1)) from hA2)
        clear hA2
        have bz : Blk w3 ga 128 #[.slice A' nk c'] := HM.out.get 4 rfl
        have ltz := bz.lt
        have z0 := bz.c 0 rfl
        have fz0 := bz.frozen 0
        go_wp2_with fail
        go_roundw
        case rel => exact ⟨k + 1, A2, c2, by omega, by go_num, HA2.out.set (HM.out.get 4 rfl) 0 _, (HM.out.set_ 4 rfl 0 (.slice A2 (K (k + 1)).length c2) rfl).tail⟩
        case measure => simp [intOf] <;> omega
    · obtain rfl : k = 2 := by omega
      have hR := HK2.out
      rw [hR] at HA HM
      obtain ⟨nk, hnk⟩ : ∃ n, R.length = n := ⟨_, rfl⟩
      rw [hnk] at HM
      have Hnk := hide hnk
      clear hnk hR HE HC HS HN HB0 HB1 HK2 Hn0 HR
      have bz : Blk wr ga 128 #[.slice A' nk c'] := HM.out.get 3 rfl
      have ltz := bz.lt
      have z0 := bz.c 0 rfl
      have br : Blk wr gr 128 #[.slice none 0 0] := HM.out.get 1 rfl
      have ltr := br.lt
      have r0 := br.c 0 rfl
      have fr0 := br.frozen 0
      go_wp2
      have HM1 := hide (HM.out.set_ 1 rfl 0 (.slice A' nk c') rfl)
      have r1 := (HM1.out.blk_ 1 rfl).c 0 rfl
      have HA1 := hide (HA.out.set (HM.out.get 1 rfl) 0 (.slice A' nk c'))
      refine ret_world fun W1 hW1 => ?_
      rw [← hW1] at HM1 r1 HA1
      refine bodyPost_ret (v := .agg #[.slice A' nk c']) (by simp [results, Try.results74, go_sem, r1]) rfl ?_
      exact ⟨A', c', by rw [Hnk.out], HA1.out, HM1.out.below⟩
end Go.Proofs.Ytllpffkifleigaa
end
section
namespace Go.Proofs.Ytllpffkifleigaa
open Go Go.RowKit

theorem narL_step {pre l : List Sgt} {w : Int} {k : Nat} (h : k < l.length) : narL skyL (pre ++ l.take (k + 1)) w = narA (narL skyL (pre ++ l.take k) w) (l.getD k sg0) w := by
  rw [List.take_add_one, List.getElem?_eq_getElem h, ← List.append_assoc, narL_app, List.getD_eq_getElem?_getD, List.getElem?_eq_getElem h]
  rfl
theorem narL_len {l : List Sgt} {w : Int} : (narL skyL l w).length ≤ 4 + 2 * l.length := nar_len l [] skyL w (.inr (sky_area w))
set_option maxHeartbeats 1000000 in
set_option maxRecDepth 100000 in
theorem narrowed_any (A : Option Addr) (c : Nat) (pre : List Sgt) (B : Option Addr) (l : List Sgt) (cl : Nat) (wd : Int) (w : World) (hlen : pre.length + l.length ≤ 400) (hp : ∀ s ∈ pre, SgtOk s) (hl : ∀ s ∈ l, SgtOk s) (h0 : 0 ≤ wd) (h1 : wd ≤ 400000)
    (ha : AreaAt w w.heap.size A (narL skyL pre wd)) (hs : SgtsAt w w.heap.size B l) :
    Calls Try.prog 62 #[.agg #[.slice A (narL skyL pre wd).length c], .slice B l.length cl, .int .i64 wd] w (AreaPost w (narL skyL (pre ++ l) wd)) := by
  have hok : ∀ k, ∀ s ∈ pre ++ l.take k, SgtOk s := fun k s hm => (List.mem_append.1 hm).elim (hp s) (fun h => hl s (List.mem_of_mem_take h))
  have hN := fun k (hk : k < l.length) (W : World) (A' : Option Addr) (c' : Nat) (hA : AreaH W A' (narL skyL (pre ++ l.take k) wd)) =>
    narrow_any A' (narL skyL (pre ++ l.take k) wd) c' (l.getD k sg0) wd W (by have := narL_len (l := pre ++ l.take k) (w := wd); rw [List.length_append, List.length_take] at this; omega) (nar_ok _ wd) hA (nar_allok (hok k) h0 h1) (hl _ (getD_mem hk)) h0 h1
  have hS := fun k (hk : k < l.length) => narL_step (pre := pre) (w := wd) hk
  have hE : narL skyL (pre ++ l.take l.length) wd = narL skyL (pre ++ l) wd := by rw [List.take_length]
  have h00 : narL skyL (pre ++ l.take 0) wd = narL skyL pre wd := by rw [List.take_zero, List.append_nil]
  rw [← h00] at ha
  rw [← h00, ← hE]
  unfold sgC at hN
  obtain ⟨n, hn⟩ : ∃ n, l.length = n := ⟨_, rfl⟩
  obtain ⟨K, hK⟩ : ∃ K : Nat → List Bd, K = fun k => narL skyL (pre ++ l.take k) wd := ⟨_, rfl⟩
  have hKe : ∀ k, narL skyL (pre ++ l.take k) wd = K k := fun k => by rw [hK]
  simp only [hKe] at *
  have hsc : SgtsAt w w.heap.size B l := hs
  unfold SgtsAt at hsc
  rw [hn] at hsc
  rw [hn] at hN hS ⊢
  have hmax : (n : Int) ≤ 400 := by omega
  have hwd2 : -400000 ≤ wd := by omega
  have HA0 := hide (show AreaH w A (K 0) from ha)
  obtain ⟨n0, hn0⟩ : ∃ m, (K 0).length = m := ⟨_, rfl⟩
  rw [hn0]
  have HN := hide hN
  have HS := hide hS
  have HSC := hide hsc
  have Hn0 := hide hn0
  clear hN hS hsc hn0
  clear hs ha hok hK hKe hE h00 hlen
  go_enter Try.func62, Try.ntmps62
  have HM := hide (Mem.start w)
  go_wp2_with fail
  refine code_world fun W hW => ?_
  have HMn := Mem.to (Mem.allocAt (Mem.allocAt HM.out w.heap.size rfl #[.slice A n0 c] 128) (w.heap.size + 1) (by simp) #[.slice none 0 0] 128) hW
  have LW : Later w W := by rw [hW]; exact (((Below.refl _ _).alloc (Nat.le_refl _) _).alloc (by simp; try omega) _)
  have szW : W.heap.size = w.heap.size + 2 := by rw [hW]; simp
  clear hW
  replace HA0 := hide (HA0.out.later LW)
  replace HM := hide HMn
  clear HMn LW
  clear szW
  generalize hg1 : w.heap.size + 1 = gr at HM ⊢
  generalize hg0 : w.heap.size = ga at HM ⊢
  clear hg1 hg0
  go_loopw [11] (fun i wr => ∃ (k : Nat) (A' : Option Addr) (c' : Nat), k ≤ n ∧ i = .int .i64 k ∧ AreaH wr A' (K k) ∧ Mem w [.blk gr 128 #[.slice none 0 0], .blk ga 128 #[.slice A' (K k).length c']] wr) (fun i _ => n - (intOf i).toNat)
  case atStart => exact ⟨0, A, c, by omega, rfl, HA0.out, by rw [Hn0.out]; exact HM.out⟩
  case round =>
    obtain ⟨k, A', c', hk, rfl, hA, hM⟩ := hrel
    clear HM HA0
    have HM := hide hM
    have HA := hide hA
    clear hM hA
    by_cases hlt : k < n
    · have hlt2 : (k : Int) < n := by omega
      obtain ⟨b, off, rfl, hb0, hc⟩ := HSC.out (by omega)
      have hc1 := hc k hlt
      have c1 := HN.out k hlt
      have hs1 := HS.out k hlt
      obtain ⟨X, hX⟩ : ∃ X, l.getD k sg0 = X := ⟨_, rfl⟩
      rw [hX] at hc1 c1 hs1
      rw [← HM.out.below.cell hb0, ← HM.out.below.cell hb0, ← HM.out.below.cell hb0, ← HM.out.below.cell hb0, ← HM.out.below.cell hb0] at hc1
      have ltb : b < wr.heap.size := Nat.lt_of_lt_of_le hb0 HM.out.size
      obtain ⟨sx, sy, sl, slo, shi⟩ := X
      obtain ⟨q0, q1, q2, q3, q4⟩ := hc1
      simp only at q0 q1 q2 q3 q4 c1
      obtain ⟨Y, hY⟩ : ∃ Y, K k = Y := ⟨_, rfl⟩
      rw [hY] at HA HM c1 hs1
      obtain ⟨nk, hnk⟩ : ∃ n, Y.length = n := ⟨_, rfl⟩
      rw [hnk] at HM c1
      have C1 := hide c1
      have HS1 := hide hs1
      clear c1 hs1
      clear hc hX
      have bz : Blk wr ga 128 #[.slice A' nk c'] := HM.out.get 1 rfl
      have ltz := bz.lt
      have z0 := bz.c 0 rfl
      have fz0 := bz.frozen 0
      go_wp2_with fail
      refine at_world fun w1 hW => ?_
      have HMn := Mem.to (Mem.allocAt HM.out wr.heap.size rfl #[.int .i64 sx, .int .i64 sy, .int .i64 sl, .int .i64 slo, .int .i64 shi] 71) hW
      have LW : Later wr w1 := by rw [hW]; exact ((Below.refl _ _).alloc (Nat.le_refl _) _)
      have szW : w1.heap.size = wr.heap.size + 1 := by rw [hW]; simp
      clear hW bz ltz z0 fz0
      replace HA := hide (HA.out.later LW)
      replace HM := hide HMn
      clear HMn LW
      clear szW q0 q1 q2 q3 q4 ltb
      generalize hgx : wr.heap.size = gx at HM ⊢
      refine (C1.out _ A' c' HA.out).mono ?_
      rintro e w3 ⟨A2, c2, rfl, hA2, hb⟩
      replace HM := hide (HM.out.later hb)
      replace HA := hide (HA.out.later hb)
      clear hb
      clear HA
      rw [← HS1.out] at hA2
      rw [← HS1.out]
      have HA2 := hide (show AreaH w3 A2 (K (k + 1)) from hA2)
      clear hA2
      have bz : Blk w3 ga 128 #[.slice A' nk c'] := HM.out.get 2 rfl
      have ltz := bz.lt
      have z0 := bz.c 0 rfl
      have fz0 := bz.frozen 0
      go_wp2_with fail
      go_roundw
      case rel => exact ⟨k + 1, A2, c2, by omega, by go_num, HA2.out.set (HM.out.get 2 rfl) 0 _, (HM.out.set_ 2 rfl 0 (.slice A2 (K (k + 1)).length c2) rfl).tail⟩
      case measure => simp [intOf] <;> omega
    · obtain rfl : k = n := by omega
      have hkk : ¬ ((k : Int) < k) := by omega
      obtain ⟨R, hR⟩ : ∃ R, K k = R := ⟨_, rfl⟩
      rw [hR] at HA HM
      have HR := hide hR
      obtain ⟨nk, hnk⟩ : ∃ n, R.length = n := ⟨_, rfl⟩
      rw [hnk] at HM
      have Hnk := hide hnk
      clear hnk hR HN HS HSC Hn0
      have bz : Blk wr ga 128 #[.slice A' nk c'] := HM.out.get 1 rfl
      have ltz := bz.lt
      have z0 := bz.c 0 rfl
      have br : Blk wr gr 128 #[.slice none 0 0] := HM.out.get 0 rfl
      have ltr := br.lt
      have r0 := br.c 0 rfl
      have fr0 := br.frozen 0
      go_wp2
      have HM1 := hide (HM.out.set_ 0 rfl 0 (.slice A' nk c') rfl)
      have r1 := (HM1.out.blk_ 0 rfl).c 0 rfl
      have HA1 := hide (HA.out.set (HM.out.get 0 rfl) 0 (.slice A' nk c'))
      refine ret_world fun W1 hW1 => ?_
      rw [← hW1] at HM1 r1 HA1
      refine bodyPost_ret (v := .agg #[.slice A' nk c']) (by simp [results, Try.results62, go_sem, r1]) rfl ?_
      exact ⟨A', c', by rw [HR.out, Hnk.out], by rw [HR.out]; exact HA1.out, HM1.out.below⟩
end Go.Proofs.Ytllpffkifleigaa
end
section
namespace Go.Proofs.Ytllpffkifleigaa
open Go Go.RowKit

set_option maxHeartbeats 1000000 in
set_option maxRecDepth 100000 in
theorem within_any (a b m : Int) (w : World) (h0 : 0 ≤ m) (h1 : m ≤ 9223372036854775807) :
    Calls Try.prog 84 #[.agg #[.int .i64 a, .int .i64 b], .int .i64 m] w fun e w' => e = .returned (.bool (spnB a b m)) ∧ Below w.heap.size w w' := by
  obtain ⟨r, hr⟩ : ∃ r, spnB a b m = r := ⟨_, rfl⟩
  rw [hr]
  unfold spnB at hr
  by_cases c1 : -m ≤ a
  · by_cases c2 : a ≤ b
    · by_cases c3 : b ≤ m
      · rw [decide_eq_true ⟨c1, c2, c3⟩] at hr
        subst hr
        go_enter Try.func84, Try.ntmps84
        go_wp2
        go_ret
        refine ⟨rfl, ?_⟩
        repeat (first | exact Below.refl _ _ | (refine Below.setCell ?_ (by first | omega | (simp; done) | (simp; omega)) _) | (refine Below.alloc ?_ (by first | omega | (simp; done) | (simp; omega)) _) | (refine below_drewN ?_ _))
      · rw [decide_eq_false (by omega)] at hr
        subst hr
        go_enter Try.func84, Try.ntmps84
        go_wp2
        go_ret
        refine ⟨rfl, ?_⟩
        repeat (first | exact Below.refl _ _ | (refine Below.setCell ?_ (by first | omega | (simp; done) | (simp; omega)) _) | (refine Below.alloc ?_ (by first | omega | (simp; done) | (simp; omega)) _) | (refine below_drewN ?_ _))
    · rw [decide_eq_false (by omega)] at hr
      subst hr
      go_enter Try.func84, Try.ntmps84
      go_wp2
      go_ret
      refine ⟨rfl, ?_⟩
      repeat (first | exact Below.refl _ _ | (refine Below.setCell ?_ (by first | omega | (simp; done) | (simp; omega)) _) | (refine Below.alloc ?_ (by first | omega | (simp; done) | (simp; omega)) _) | (refine below_drewN ?_ _))
  · rw [decide_eq_false (by omega)] at hr
    subst hr
    go_enter Try.func84, Try.ntmps84
    go_wp2
    go_ret
    refine ⟨rfl, ?_⟩
    repeat (first | exact Below.refl _ _ | (refine Below.setCell ?_ (by first | omega | (simp; done) | (simp; omega)) _) | (refine Below.alloc ?_ (by first | omega | (simp; done) | (simp; omega)) _) | (refine below_drewN ?_ _))
def mx4 (x y z u : Int) : Int := if u > (if z > (if y > x then y else x) then z else (if y > x then y else x)) then u else (if z > (if y > x then y else x) then z else (if y > x then y else x))
def mn4 (x y z u : Int) : Int := if u < (if z < (if y < x then y else x) then z else (if y < x then y else x)) then u else (if z < (if y < x then y else x) then z else (if y < x then y else x))
theorem mx4_le {x y z u l : Int} : mx4 x y z u ≤ l ↔ x ≤ l ∧ y ≤ l ∧ z ≤ l ∧ u ≤ l := by unfold mx4; split <;> split <;> split <;> omega
theorem le_mn4 {x y z u l : Int} : l ≤ mn4 x y z u ↔ l ≤ x ∧ l ≤ y ∧ l ≤ z ∧ l ≤ u := by unfold mn4; split <;> split <;> split <;> omega
theorem run_mx4 (P : Program) (ts : Array TypeId) (t : TypeId) (k : IntKind) (x y z u : Int) (w : World) : (Builtin.max_ ts t #[.int k x, .int k y, .int k z, .int k u]).run P w = .ok (.int k (mx4 x y z u)) w := by
  simp [Builtin.max_, Builtin.max2, mx4]
theorem run_mn4 (P : Program) (ts : Array TypeId) (t : TypeId) (k : IntKind) (x y z u : Int) (w : World) : (Builtin.min_ ts t #[.int k x, .int k y, .int k z, .int k u]).run P w = .ok (.int k (mn4 x y z u)) w := by
  simp [Builtin.min_, Builtin.min2, mn4]
attribute [local go_sem] run_mx4 run_mn4
set_option maxHeartbeats 1000000 in
set_option maxRecDepth 100000 in
theorem wdir_any (x y l : Int) (w : World) (hx0 : -9223372036854775808 ≤ x) (hx1 : x ≤ 9223372036854775807) (hy0 : -9223372036854775808 ≤ y) (hy1 : y ≤ 9223372036854775807) :
    Calls Try.prog 69 #[.int .i64 x, .int .i64 y, .int .i64 l] w fun e w' => e = .returned (.bool (dirB x y l)) ∧ Below w.heap.size w w' := by
  obtain ⟨r, hr⟩ : ∃ r, dirB x y l = r := ⟨_, rfl⟩
  rw [hr]
  unfold dirB at hr
  by_cases c1 : 1 ≤ l
  · by_cases c2 : l ≤ 64800
    · by_cases cx : -l ≤ x ∧ x ≤ l ∧ -l ≤ y ∧ y ≤ l
      · obtain ⟨cx1, cx2, cy1, cy2⟩ := cx
        have hm1 : mx4 x y (-x) (-y) ≤ l := mx4_le.2 (by omega)
        have hm2 : -l ≤ mn4 x y (-x) (-y) := le_mn4.2 (by omega)
        have ml := abs_mul (X := 64800) (Y := 64800) (show -64800 ≤ l by omega) c2 (show -64800 ≤ l by omega) c2
        have mx := abs_mul (X := 64800) (Y := 64800) (show -64800 ≤ x by omega) (by omega) (show -64800 ≤ x by omega) (by omega)
        have my := abs_mul (X := 64800) (Y := 64800) (show -64800 ≤ y by omega) (by omega) (show -64800 ≤ y by omega) (by omega)
        obtain ⟨ll, hll⟩ : ∃ q, l * l = q := ⟨_, rfl⟩
        obtain ⟨xx, hxx⟩ : ∃ q, x * x = q := ⟨_, rfl⟩
        obtain ⟨yy, hyy⟩ : ∃ q, y * y = q := ⟨_, rfl⟩
        rw [hll] at ml hr
        rw [hxx] at mx hr
        rw [hyy] at my hr
        obtain ⟨ml1, ml2⟩ := ml
        obtain ⟨mx1, mx2⟩ := mx
        obtain ⟨my1, my2⟩ := my
        by_cases c3 : xx + yy = ll
        · rw [decide_eq_true ⟨c1, c2, cx1, cx2, cy1, cy2, c3⟩] at hr
          subst hr
          go_enter Try.func69, Try.ntmps69
          go_wp2
          go_ret
          exact ⟨rfl, Below.refl _ _⟩
        · rw [decide_eq_false (fun h => c3 h.2.2.2.2.2.2)] at hr
          subst hr
          have hd : (xx + yy == ll) = false := by simp [c3]
          go_enter Try.func69, Try.ntmps69
          go_wp2
          go_ret
          exact ⟨rfl, Below.refl _ _⟩
      · rw [decide_eq_false (fun h => cx ⟨h.2.2.1, h.2.2.2.1, h.2.2.2.2.1, h.2.2.2.2.2.1⟩)] at hr
        subst hr
        by_cases ex : x = -9223372036854775808
        · subst ex
          have hm2 : ∀ a b, ¬ -l ≤ mn4 (-9223372036854775808) y a b := fun a b h => by have := (le_mn4.1 h).1; omega
          go_enter Try.func69, Try.ntmps69
          go_wp2
          all_goals (go_ret; exact ⟨rfl, Below.refl _ _⟩)
        · by_cases ey : y = -9223372036854775808
          · subst ey
            have hm2 : ∀ a b, ¬ -l ≤ mn4 x (-9223372036854775808) a b := fun a b h => by have := (le_mn4.1 h).2.1; omega
            go_enter Try.func69, Try.ntmps69
            go_wp2
            all_goals (go_ret; exact ⟨rfl, Below.refl _ _⟩)
          · have hx2 : -9223372036854775807 ≤ x := by omega
            have hy2 : -9223372036854775807 ≤ y := by omega
            have hm1 : ¬ mx4 x y (-x) (-y) ≤ l := fun h => by have := mx4_le.1 h; omega
            go_enter Try.func69, Try.ntmps69
            go_wp2
            go_ret
            exact ⟨rfl, Below.refl _ _⟩
    · rw [decide_eq_false (by omega)] at hr
      subst hr
      go_enter Try.func69, Try.ntmps69
      go_wp2
      go_ret
      exact ⟨rfl, Below.refl _ _⟩
  · rw [decide_eq_false (by omega)] at hr
    subst hr
    go_enter Try.func69, Try.ntmps69
    go_wp2
    go_ret
    exact ⟨rfl, Below.refl _ _⟩
def I64 (x : Int) : Prop := -9223372036854775808 ≤ x ∧ x ≤ 9223372036854775807
set_option maxHeartbeats 1000000 in
set_option maxRecDepth 100000 in
theorem Check_any (s : Sgt) (w : World) (hx : I64 s.x) (hy : I64 s.y) :
    Calls Try.prog 43 #[sgC s] w fun e w' => e = .returned (.int .i64 (chkE s)) ∧ Below w.heap.size w w' := by
  have hd := fun W => wdir_any s.x s.y s.l W hx.1 hx.2 hy.1 hy.2
  have hw := fun W => within_any s.lo s.hi 400000 W (by omega) (by omega)
  obtain ⟨e, he⟩ : ∃ e, chkE s = e := ⟨_, rfl⟩
  rw [he]
  unfold chkE sgtB at he
  unfold sgC
  obtain ⟨b1, hb1⟩ : ∃ b, dirB s.x s.y s.l = b := ⟨_, rfl⟩
  obtain ⟨b2, hb2⟩ : ∃ b, spnB s.lo s.hi 400000 = b := ⟨_, rfl⟩
  rw [hb1, hb2] at he
  simp only [hb1] at hd
  simp only [hb2] at hw
  obtain ⟨sx, sy, sl, slo, shi⟩ := s
  simp only at hd hw ⊢
  clear hb1 hb2 hx hy
  have HD := hide hd
  have HW := hide hw
  clear hd hw
  cases b1 with
  | false =>
    subst he
    go_enter Try.func43, Try.ntmps43
    have HB := hide (Below.refl w.heap.size w)
    go_wp2_with fail
    refine at_world fun W hW => ?_
    have bq0 : Blk W w.heap.size 71 #[.int .i64 sx, .int .i64 sy, .int .i64 sl, .int .i64 slo, .int .i64 shi] := by rw [hW]; exact Blk.new _ _ _
    have LW : Later w W := by rw [hW]; exact ((Below.refl _ _).alloc (Nat.le_refl _) _)
    have szW : W.heap.size = w.heap.size + 1 := by rw [hW]; simp
    clear hW
    replace HB := hide (onward HB.out LW)
    have Hs := hide bq0
    clear bq0 LW szW
    refine (HD.out _).mono ?_
    rintro e w1 ⟨rfl, hb⟩
    replace HB := hide (onward HB.out hb)
    replace Hs := hide (blk_later Hs.out hb)
    clear hb
    have x3 := Hs.out.c 3 rfl
    have x4 := Hs.out.c 4 rfl
    have ltx := Hs.out.lt
    go_wp2
    go_ret
    exact ⟨rfl, HB.out⟩
  | true =>
    cases b2 with
    | false =>
      subst he
      go_enter Try.func43, Try.ntmps43
      have HB := hide (Below.refl w.heap.size w)
      go_wp2_with fail
      refine at_world fun W hW => ?_
      have bq0 : Blk W w.heap.size 71 #[.int .i64 sx, .int .i64 sy, .int .i64 sl, .int .i64 slo, .int .i64 shi] := by rw [hW]; exact Blk.new _ _ _
      have LW : Later w W := by rw [hW]; exact ((Below.refl _ _).alloc (Nat.le_refl _) _)
      have szW : W.heap.size = w.heap.size + 1 := by rw [hW]; simp
      clear hW
      replace HB := hide (onward HB.out LW)
      have Hs := hide bq0
      clear bq0 LW szW
      refine (HD.out _).mono ?_
      rintro e w1 ⟨rfl, hb⟩
      replace HB := hide (onward HB.out hb)
      replace Hs := hide (blk_later Hs.out hb)
      clear hb
      have x3 := Hs.out.c 3 rfl
      have x4 := Hs.out.c 4 rfl
      have ltx := Hs.out.lt
      go_wp2_with fail
      refine (HW.out _).mono ?_
      rintro e w2 ⟨rfl, hb⟩
      replace HB := hide (onward HB.out hb)
      replace Hs := hide (blk_later Hs.out hb)
      clear hb
      go_wp2
      go_ret
      exact ⟨rfl, HB.out⟩
    | true =>
      subst he
      go_enter Try.func43, Try.ntmps43
      have HB := hide (Below.refl w.heap.size w)
      go_wp2_with fail
      refine at_world fun W hW => ?_
      have bq0 : Blk W w.heap.size 71 #[.int .i64 sx, .int .i64 sy, .int .i64 sl, .int .i64 slo, .int .i64 shi] := by rw [hW]; exact Blk.new _ _ _
      have LW : Later w W := by rw [hW]; exact ((Below.refl _ _).alloc (Nat.le_refl _) _)
      have szW : W.heap.size = w.heap.size + 1 := by rw [hW]; simp
      clear hW
      replace HB := hide (onward HB.out LW)
      have Hs := hide bq0
      clear bq0 LW szW
      refine (HD.out _).mono ?_
      rintro e w1 ⟨rfl, hb⟩
      replace HB := hide (onward HB.out hb)
      replace Hs := hide (blk_later Hs.out hb)
      clear hb
      have x3 := Hs.out.c 3 rfl
      have x4 := Hs.out.c 4 rfl
      have ltx := Hs.out.lt
      go_wp2_with fail
      refine (HW.out _).mono ?_
      rintro e w2 ⟨rfl, hb⟩
      replace HB := hide (onward HB.out hb)
      replace Hs := hide (blk_later Hs.out hb)
      clear hb
      go_wp2
      go_ret
      exact ⟨rfl, HB.out⟩
end Go.Proofs.Ytllpffkifleigaa
end
