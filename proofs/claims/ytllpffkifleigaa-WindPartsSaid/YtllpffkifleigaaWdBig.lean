/-
  Sums of products in two words.
-/
import Derived.Test.YtllpffkifleigaaShelfW
import Derived.Test.YtllpffkifleigaaWindMath6
import Derived.Test.YtllpffkifleigaaMemG
import Derived.Laws.Externs
set_option linter.unusedSimpArgs false
set_option linter.unusedVariables false
namespace Go.Proofs.Ytllpffkifleigaa
open Go Go.RowKit

def bigC (n : Int) : Value := .agg #[.int .u64 (hiW n), .int .u64 (loW n)]
theorem add64_run (x y c : Int) (x0 : 0 ≤ x) (x1 : x < 18446744073709551616) (y0 : 0 ≤ y) (y1 : y < 18446744073709551616) (c0 : 0 ≤ c) (c1 : c ≤ 1) (w : World) :
    (callFunc 114 #[.int .u64 x, .int .u64 y, .int .u64 c]).run Try.prog w = .ok (.value (.tuple #[.int .u64 ((x + y + c) % 18446744073709551616), .int .u64 ((x + y + c) / 18446744073709551616)])) w := by
  rw [run_callFunc_extern Try.func114 (by kernel_rfl) (by kernel_rfl) (by kernel_rfl) (e := add64Entry) (by kernel_rfl), run_add64 x y c (by omega) (by omega) (by omega) (by omega)]
  simp only [Result.andThen]
set_option maxHeartbeats 1000000 in
set_option maxRecDepth 100000 in
theorem add_any (n x y : Int) (w : World) (x0 : -9223372036854775808 ≤ x) (x1 : x ≤ 9223372036854775807) (y0 : -9223372036854775808 ≤ y) (y1 : y ≤ 9223372036854775807) :
    Calls Try.prog 98 #[bigC n, .int .i64 x, .int .i64 y] w fun e w' => e = .returned (bigC (n + x * y)) ∧ Below w.heap.size w w' := by
  obtain ⟨ux, hx⟩ : ∃ u : Nat, (u : Int) = x % 18446744073709551616 := ⟨(x % 18446744073709551616).toNat, by omega⟩
  obtain ⟨uy, hy⟩ : ∃ u : Nat, (u : Int) = y % 18446744073709551616 := ⟨(y % 18446744073709551616).toNat, by omega⟩
  have hm := fun W => Try.bits_Mul64 ux uy (by omega) (by omega) W
  rw [hx, hy] at hm
  obtain ⟨b1, b2, b3, b4⟩ := word_bd n
  obtain ⟨ph, hph⟩ : ∃ p : Int, ((ux * uy / 18446744073709551616 : Nat) : Int) = p := ⟨_, rfl⟩
  obtain ⟨pl, hpl⟩ : ∃ p : Int, ((ux * uy % 18446744073709551616 : Nat) : Int) = p := ⟨_, rfl⟩
  have hpb : 0 ≤ ph ∧ ph < 18446744073709551616 ∧ 0 ≤ pl ∧ pl < 18446744073709551616 := by
    have h1 : ux * uy ≤ 18446744073709551615 * 18446744073709551615 := Nat.mul_le_mul (by omega) (by omega)
    omega
  obtain ⟨hq, hhq⟩ : ∃ h : Int, (ph - (if x < 0 then (uy : Int) else 0) - (if y < 0 then (ux : Int) else 0)) % 18446744073709551616 = h := ⟨_, rfl⟩
  obtain ⟨p1, p2⟩ := prod_word hx hy x0 x1 y0 y1 hq (by rw [← hhq, hph])
  rw [hpl] at p2
  obtain ⟨cc, hcc⟩ : ∃ c : Int, (loW n + loW (x * y)) / 18446744073709551616 = c := ⟨_, rfl⟩
  obtain ⟨s1, s2⟩ := sum_word (n := n) (m := x * y) hcc.symm
  rw [← p1] at s1
  rw [← p2] at s2 hcc
  rw [hph, hpl] at hm
  unfold bigC
  rw [s1, s2]
  obtain ⟨q1, q2, -, -⟩ := word_bd (x * y)
  rw [← p1] at q1 q2
  generalize hhn : hiW n = hn at *
  generalize hln : loW n = ln at *
  have hc01 : 0 ≤ cc ∧ cc ≤ 1 := by omega
  have ha1 := fun W => add64_run ln pl 0 b3 b4 hpb.2.2.1 hpb.2.2.2 (Int.le_refl _) (by omega) W
  have ha2 := fun W => add64_run hn hq cc b1 b2 q1 q2 hc01.1 hc01.2 W
  rw [show ln + pl + 0 = ln + pl by omega, hcc] at ha1
  clear hph hpl p1 p2 s1 s2 hhn hln
  have sx : ¬ x < 0 → (x % 18446744073709551616) = x := fun h => by omega
  have sy : ¬ y < 0 → (y % 18446744073709551616) = y := fun h => by omega
  have tx : x % 18446744073709551616 = IntKind.u64.wrap x := (IntKind.wrap_u64 x).symm
  have ty : y % 18446744073709551616 = IntKind.u64.wrap y := (IntKind.wrap_u64 y).symm
  rw [hx, hy] at hhq
  clear hx hy
  obtain ⟨hpb1, hpb2, hpb3, hpb4⟩ := hpb
  have Ha1 := hide ha1
  have Ha2 := hide ha2
  clear ha1 ha2
  by_cases c1 : x < 0
  · by_cases c2 : y < 0
    · obtain ⟨h1, hh1⟩ : ∃ h1 : Int, IntKind.u64.wrap (ph - IntKind.u64.wrap y) = h1 := ⟨_, rfl⟩
      have hh2 : IntKind.u64.wrap (h1 - IntKind.u64.wrap x) = hq := by
        rw [if_pos c1, if_pos c2, tx, ty] at hhq
        rw [← hhq, ← hh1, IntKind.wrap_u64, IntKind.wrap_u64 (ph - IntKind.u64.wrap y)]
        generalize IntKind.u64.wrap x = p
        generalize IntKind.u64.wrap y = q
        omega
      rw [tx, ty] at hm
      clear hhq
      have Hm := hide hm
      clear hm tx ty sx sy
      go_enter Try.func98, Try.ntmps98
      have HB := hide (Below.refl w.heap.size w)
      go_wp2_with fail
      refine at_world fun W hW => ?_
      have bq0 : Blk W w.heap.size 168 #[.int .u64 hn, .int .u64 ln] := by rw [hW]; exact (Blk.new _ _ _).alloc _
      have bq1 : Blk W (w.heap.size + 1) 168 #[.int .u64 0, .int .u64 0] := by rw [hW]; exact blk_new_at (by simp)
      have LW : Later w W := by rw [hW]; exact (((Below.refl _ _).alloc (Nat.le_refl _) _).alloc (by simp; try omega) _)
      have szW : W.heap.size = w.heap.size + 2 := by rw [hW]; simp
      clear hW
      replace HB := hide (onward HB.out LW)
      have Hn := hide bq0
      have Ho := hide bq1
      clear bq0 bq1 LW szW
      refine (Hm.out _).mono ?_
      rintro e w' ⟨rfl, rfl⟩
      obtain ⟨z0, z1⟩ := Hn.out.c2
      have ltz := Hn.out.lt
      obtain ⟨o0, o1⟩ := Ho.out.c2
      have lto := Ho.out.lt
      have fo0 := Ho.out.frozen 0
      have fo1 := Ho.out.frozen 1
      go_wp2_with (first | simp only [Ha1.out] | simp only [Ha2.out])
      refine bodyPost_ret (v := .agg #[.int .u64 ((hn + hq + cc) % 18446744073709551616), .int .u64 ((ln + pl) % 18446744073709551616)]) (by simp [results, Try.results98, go_sem, o0, o1, fo0, fo1, lto]) rfl ⟨rfl, ?_⟩
      have hsz := HB.out.size
      repeat (first | exact HB.out | (refine Below.setCell ?_ (by first | omega | (simp; done) | (simp; omega)) _) | (refine Below.alloc ?_ (by first | omega | (simp; done) | (simp; omega)) _) | (refine below_drewN ?_ _))
    · rw [if_pos c1, if_neg c2, Int.sub_zero, sy c2, ← IntKind.wrap_u64] at hhq
      rw [tx, sy c2] at hm
      have Hm := hide hm
      clear hm tx ty sx sy
      go_enter Try.func98, Try.ntmps98
      have HB := hide (Below.refl w.heap.size w)
      go_wp2_with fail
      refine at_world fun W hW => ?_
      have bq0 : Blk W w.heap.size 168 #[.int .u64 hn, .int .u64 ln] := by rw [hW]; exact (Blk.new _ _ _).alloc _
      have bq1 : Blk W (w.heap.size + 1) 168 #[.int .u64 0, .int .u64 0] := by rw [hW]; exact blk_new_at (by simp)
      have LW : Later w W := by rw [hW]; exact (((Below.refl _ _).alloc (Nat.le_refl _) _).alloc (by simp; try omega) _)
      have szW : W.heap.size = w.heap.size + 2 := by rw [hW]; simp
      clear hW
      replace HB := hide (onward HB.out LW)
      have Hn := hide bq0
      have Ho := hide bq1
      clear bq0 bq1 LW szW
      refine (Hm.out _).mono ?_
      rintro e w' ⟨rfl, rfl⟩
      obtain ⟨z0, z1⟩ := Hn.out.c2
      have ltz := Hn.out.lt
      obtain ⟨o0, o1⟩ := Ho.out.c2
      have lto := Ho.out.lt
      have fo0 := Ho.out.frozen 0
      have fo1 := Ho.out.frozen 1
      go_wp2_with (first | simp only [Ha1.out] | simp only [Ha2.out])
      refine bodyPost_ret (v := .agg #[.int .u64 ((hn + hq + cc) % 18446744073709551616), .int .u64 ((ln + pl) % 18446744073709551616)]) (by simp [results, Try.results98, go_sem, o0, o1, fo0, fo1, lto]) rfl ⟨rfl, ?_⟩
      have hsz := HB.out.size
      repeat (first | exact HB.out | (refine Below.setCell ?_ (by first | omega | (simp; done) | (simp; omega)) _) | (refine Below.alloc ?_ (by first | omega | (simp; done) | (simp; omega)) _) | (refine below_drewN ?_ _))
  · by_cases c2 : y < 0
    · rw [if_neg c1, if_pos c2, Int.sub_zero, sx c1, ← IntKind.wrap_u64] at hhq
      rw [sx c1, ty] at hm
      have Hm := hide hm
      clear hm tx ty sx sy
      go_enter Try.func98, Try.ntmps98
      have HB := hide (Below.refl w.heap.size w)
      go_wp2_with fail
      refine at_world fun W hW => ?_
      have bq0 : Blk W w.heap.size 168 #[.int .u64 hn, .int .u64 ln] := by rw [hW]; exact (Blk.new _ _ _).alloc _
      have bq1 : Blk W (w.heap.size + 1) 168 #[.int .u64 0, .int .u64 0] := by rw [hW]; exact blk_new_at (by simp)
      have LW : Later w W := by rw [hW]; exact (((Below.refl _ _).alloc (Nat.le_refl _) _).alloc (by simp; try omega) _)
      have szW : W.heap.size = w.heap.size + 2 := by rw [hW]; simp
      clear hW
      replace HB := hide (onward HB.out LW)
      have Hn := hide bq0
      have Ho := hide bq1
      clear bq0 bq1 LW szW
      refine (Hm.out _).mono ?_
      rintro e w' ⟨rfl, rfl⟩
      obtain ⟨z0, z1⟩ := Hn.out.c2
      have ltz := Hn.out.lt
      obtain ⟨o0, o1⟩ := Ho.out.c2
      have lto := Ho.out.lt
      have fo0 := Ho.out.frozen 0
      have fo1 := Ho.out.frozen 1
      go_wp2_with (first | simp only [Ha1.out] | simp only [Ha2.out])
      refine bodyPost_ret (v := .agg #[.int .u64 ((hn + hq + cc) % 18446744073709551616), .int .u64 ((ln + pl) % 18446744073709551616)]) (by simp [results, Try.results98, go_sem, o0, o1, fo0, fo1, lto]) rfl ⟨rfl, ?_⟩
      have hsz := HB.out.size
      repeat (first | exact HB.out | (refine Below.setCell ?_ (by first | omega | (simp; done) | (simp; omega)) _) | (refine Below.alloc ?_ (by first | omega | (simp; done) | (simp; omega)) _) | (refine below_drewN ?_ _))
    · rw [if_neg c1, if_neg c2, Int.sub_zero, Int.sub_zero, Int.emod_eq_of_lt hpb1 hpb2] at hhq
      obtain rfl : hq = ph := hhq.symm
      rw [sx c1, sy c2] at hm
      have Hm := hide hm
      clear hm tx ty sx sy
      go_enter Try.func98, Try.ntmps98
      have HB := hide (Below.refl w.heap.size w)
      go_wp2_with fail
      refine at_world fun W hW => ?_
      have bq0 : Blk W w.heap.size 168 #[.int .u64 hn, .int .u64 ln] := by rw [hW]; exact (Blk.new _ _ _).alloc _
      have bq1 : Blk W (w.heap.size + 1) 168 #[.int .u64 0, .int .u64 0] := by rw [hW]; exact blk_new_at (by simp)
      have LW : Later w W := by rw [hW]; exact (((Below.refl _ _).alloc (Nat.le_refl _) _).alloc (by simp; try omega) _)
      have szW : W.heap.size = w.heap.size + 2 := by rw [hW]; simp
      clear hW
      replace HB := hide (onward HB.out LW)
      have Hn := hide bq0
      have Ho := hide bq1
      clear bq0 bq1 LW szW
      refine (Hm.out _).mono ?_
      rintro e w' ⟨rfl, rfl⟩
      obtain ⟨z0, z1⟩ := Hn.out.c2
      have ltz := Hn.out.lt
      obtain ⟨o0, o1⟩ := Ho.out.c2
      have lto := Ho.out.lt
      have fo0 := Ho.out.frozen 0
      have fo1 := Ho.out.frozen 1
      go_wp2_with (first | simp only [Ha1.out] | simp only [Ha2.out])
      refine bodyPost_ret (v := .agg #[.int .u64 ((hn + hq + cc) % 18446744073709551616), .int .u64 ((ln + pl) % 18446744073709551616)]) (by simp [results, Try.results98, go_sem, o0, o1, fo0, fo1, lto]) rfl ⟨rfl, ?_⟩
      have hsz := HB.out.size
      repeat (first | exact HB.out | (refine Below.setCell ?_ (by first | omega | (simp; done) | (simp; omega)) _) | (refine Below.alloc ?_ (by first | omega | (simp; done) | (simp; omega)) _) | (refine below_drewN ?_ _))
set_option maxHeartbeats 1000000 in
set_option maxRecDepth 100000 in
theorem minus_any (n : Int) (w : World) (h0 : -170141183460469231731687303715884105728 ≤ n) (h1 : n < 170141183460469231731687303715884105728) :
    Calls Try.prog 115 #[bigC n] w fun e w' => e = .returned (.bool (decide (n < 0))) ∧ Below w.heap.size w w' := by
  have hs := sign_word h0 h1
  obtain ⟨b1, b2, b3, b4⟩ := word_bd n
  unfold bigC
  generalize hiW n = hn at *
  generalize loW n = ln at *
  have hd : ((hn / 9223372036854775808 : Int) == 1) = decide (n < 0) := by
    rw [Bool.eq_iff_iff, beq_iff_eq, decide_eq_true_eq]
    exact hs
  clear hs
  go_enter Try.func115, Try.ntmps115
  go_wp2
  go_ret
  refine ⟨by first | rfl | (rw [hd]), ?_⟩
  repeat (first | exact Below.refl _ _ | (refine Below.setCell ?_ (by first | omega | (simp; done) | (simp; omega)) _) | (refine Below.alloc ?_ (by first | omega | (simp; done) | (simp; omega)) _) | (refine below_drewN ?_ _))
end Go.Proofs.Ytllpffkifleigaa
