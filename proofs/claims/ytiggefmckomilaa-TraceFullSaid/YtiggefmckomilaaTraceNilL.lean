/-
  The law TraceNil returns true.
-/
import Derived.Test.YtiggefmckomilaaTraceWorks
set_option linter.unusedSimpArgs false
set_option linter.unusedVariables false
namespace Go.Proofs.Ytiggefmckomilaa
open Go Go.RowKit

def actV (k : Int) (nm pr : ByteArray) (lo hi tm un n : Int) : Array Value := #[.int .i64 k, .string nm, .string pr, .int .i64 lo, .int .i64 hi, .int .i64 tm, .int .i64 un, .int .i64 n]
set_option maxRecDepth 100000 in
theorem actTest_any (k : Int) (nm pr : ByteArray) (lo hi tm un n : Int) (w : World) :
    Calls Try.prog 46 #[.agg (actV k nm pr lo hi tm un n)] w fun e w' => e = .returned (.agg #[.string nm, .string pr, .int .i64 tm, .int .i64 lo, .int .i64 hi]) ∧ Below w.heap.size w w' := by
  unfold actV
  go_enter Try.func46, Try.ntmps46
  go_wp2
  refine bodyPost_ret (v := .agg #[.string nm, .string pr, .int .i64 tm, .int .i64 lo, .int .i64 hi]) (by simp [results, Try.results46, go_sem]) rfl ⟨rfl, ?_⟩
  repeat (first | exact Below.refl _ _ | (refine Below.setCell ?_ (by first | omega | (simp; done) | (simp; omega)) _) | (refine Below.alloc ?_ (by first | omega | (simp; done) | (simp; omega)) _) | (refine below_drewN ?_ _))
set_option maxRecDepth 100000 in
theorem actStd_any (k : Int) (nm pr : ByteArray) (lo hi tm un n : Int) (w : World) :
    Calls Try.prog 45 #[.agg (actV k nm pr lo hi tm un n)] w fun e w' => e = .returned (.agg #[.string nm, .string pr, .int .i64 lo, .int .i64 hi, .int .i64 tm, .int .i64 un, .int .i64 n]) ∧ Below w.heap.size w w' := by
  unfold actV
  go_enter Try.func45, Try.ntmps45
  go_wp2
  refine bodyPost_ret (v := .agg #[.string nm, .string pr, .int .i64 lo, .int .i64 hi, .int .i64 tm, .int .i64 un, .int .i64 n]) (by simp [results, Try.results45, go_sem]) rfl ⟨rfl, ?_⟩
  repeat (first | exact Below.refl _ _ | (refine Below.setCell ?_ (by first | omega | (simp; done) | (simp; omega)) _) | (refine Below.alloc ?_ (by first | omega | (simp; done) | (simp; omega)) _) | (refine below_drewN ?_ _))

set_option maxHeartbeats 4000000 in
set_option maxRecDepth 100000 in
theorem TraceNil_any (z : Bool) (k : Int) (nm pr : ByteArray) (lo hi tm un n : Int) (w : World) :
    Calls Try.prog 12 #[.bool z, .agg (actV k nm pr lo hi tm un n)] w fun e w' => e = .returned (.bool true) ∧ Below w.heap.size w w' := by
  have heq := eqAt 0 0 0 0
  have k1 := fun W => actTest_any k nm pr lo hi tm un n W
  have k2 := fun W => actStd_any k nm pr lo hi tm un n W
  unfold actV at k1 k2 ⊢
  have K1 := hide k1
  have K2 := hide k2
  have Heq := hide heq
  clear k1 k2 heq
  cases z with
  | false =>
    go_enter Try.func12, Try.ntmps12
    have HB := hide (Below.refl w.heap.size w)
    go_wp2_with fail
    refine at_world fun w1 hW => ?_
    have bq0 : Blk w1 w.heap.size 59 #[.int .i64 k, .string nm, .string pr, .int .i64 lo, .int .i64 hi, .int .i64 tm, .int .i64 un, .int .i64 n] := by rw [hW]; exact Blk.new _ _ _
    have LW : Later w w1 := by rw [hW]; exact ((Below.refl _ _).alloc (Nat.le_refl _) _)
    have szW : w1.heap.size = w.heap.size + 1 := by rw [hW]; simp
    clear hW
    replace HB := hide (onward HB.out LW)
    have Ha := hide bq0
    clear bq0 LW szW
    have HN := hide (show NilB w1 (.pointer none) from .inl rfl)
    have HL := hide (Below.refl w1.heap.size w1)
    refine (K1.out _).mono ?_
    rintro e w2 ⟨rfl, hb⟩
    replace HB := hide (onward HB.out hb)
    replace Ha := hide (blk_later Ha.out hb)
    replace HL := hide (onward HL.out hb)
    clear hb
    go_wp2_with fail
    refine (nil_Test _ _ _ (HN.out.later HL.out)).mono ?_
    rintro e w3 ⟨rfl, hb⟩
    replace HB := hide (onward HB.out hb)
    replace Ha := hide (blk_later Ha.out hb)
    replace HL := hide (onward HL.out hb)
    clear hb
    obtain ⟨x0, x1, x2, x3, x4, x5, x6, x7⟩ := Ha.out.c8
    have ltx := Ha.out.lt
    go_wp2_with fail
    refine (nil_Value _ _ _ _ (HN.out.later HL.out)).mono ?_
    rintro e w4 ⟨rfl, hb⟩
    replace HB := hide (onward HB.out hb)
    replace Ha := hide (blk_later Ha.out hb)
    replace HL := hide (onward HL.out hb)
    clear hb x0 x1 x2 x3 x4 x5 x6 x7 ltx
    obtain ⟨x0, x1, x2, x3, x4, x5, x6, x7⟩ := Ha.out.c8
    have ltx := Ha.out.lt
    go_wp2_with fail
    refine at_world fun w5 hW => ?_
    have bq0 : Blk w5 w4.heap.size 23 #[.int .i64 0, .int .i64 0] := by rw [hW]; exact Blk.new _ _ _
    have LW : Later w4 w5 := by rw [hW]; exact ((Below.refl _ _).alloc (Nat.le_refl _) _)
    have szW : w5.heap.size = w4.heap.size + 1 := by rw [hW]; simp
    clear hW x0 x1 x2 x3 x4 x5 x6 x7 ltx
    replace HB := hide (onward HB.out LW)
    replace Ha := hide (blk_later Ha.out LW)
    replace HL := hide (onward HL.out LW)
    have Hv := hide bq0
    clear bq0 LW szW
    refine (nil_Gain _ _ _ _ (HN.out.later HL.out)).mono ?_
    rintro e w6 ⟨rfl, hb⟩
    replace HB := hide (onward HB.out hb)
    replace Ha := hide (blk_later Ha.out hb)
    replace HL := hide (onward HL.out hb)
    replace Hv := hide (blk_later Hv.out hb)
    clear hb
    obtain ⟨x0, x1, x2, x3, x4, x5, x6, x7⟩ := Ha.out.c8
    have ltx := Ha.out.lt
    go_wp2_with fail
    refine at_world fun w7 hW => ?_
    have bq0 : Blk w7 w6.heap.size 23 #[.int .i64 0, .int .i64 0] := by rw [hW]; exact (Blk.new _ _ _).alloc _
    have bq1 : Blk w7 (w6.heap.size + 1) 52 #[.int .i64 0, .int .i64 0] := by rw [hW]; exact blk_new_at (by simp)
    have LW : Later w6 w7 := by rw [hW]; exact (((Below.refl _ _).alloc (Nat.le_refl _) _).alloc (by simp; try omega) _)
    have szW : w7.heap.size = w6.heap.size + 2 := by rw [hW]; simp
    clear hW x0 x1 x2 x3 x4 x5 x6 x7 ltx
    replace HB := hide (onward HB.out LW)
    replace Ha := hide (blk_later Ha.out LW)
    replace HL := hide (onward HL.out LW)
    replace Hv := hide (blk_later Hv.out LW)
    have Hg := hide bq0
    have Ht := hide bq1
    clear bq0 bq1 LW szW
    refine (nil_Chain _ _ _ (HN.out.later HL.out)).mono ?_
    rintro e w8 ⟨rfl, hb⟩
    replace HB := hide (onward HB.out hb)
    replace Ha := hide (blk_later Ha.out hb)
    replace HL := hide (onward HL.out hb)
    replace Hv := hide (blk_later Hv.out hb)
    replace Hg := hide (blk_later Hg.out hb)
    replace Ht := hide (blk_later Ht.out hb)
    clear hb
    obtain ⟨x0, x1, x2, x3, x4, x5, x6, x7⟩ := Ha.out.c8
    have ltx := Ha.out.lt
    go_wp2_with fail
    refine (nil_Depends _ _ _ (HN.out.later HL.out)).mono ?_
    rintro e w9 ⟨rfl, hb⟩
    replace HB := hide (onward HB.out hb)
    replace Ha := hide (blk_later Ha.out hb)
    replace HL := hide (onward HL.out hb)
    replace Hv := hide (blk_later Hv.out hb)
    replace Hg := hide (blk_later Hg.out hb)
    replace Ht := hide (blk_later Ht.out hb)
    clear hb x0 x1 x2 x3 x4 x5 x6 x7 ltx
    obtain ⟨x0, x1, x2, x3, x4, x5, x6, x7⟩ := Ha.out.c8
    have ltx := Ha.out.lt
    go_wp2_with fail
    refine (nil_Back _ _ _ (HN.out.later HL.out)).mono ?_
    rintro e w10 ⟨rfl, hb⟩
    replace HB := hide (onward HB.out hb)
    replace Ha := hide (blk_later Ha.out hb)
    replace HL := hide (onward HL.out hb)
    replace Hv := hide (blk_later Hv.out hb)
    replace Hg := hide (blk_later Hg.out hb)
    replace Ht := hide (blk_later Ht.out hb)
    clear hb x0 x1 x2 x3 x4 x5 x6 x7 ltx
    obtain ⟨x0, x1, x2, x3, x4, x5, x6, x7⟩ := Ha.out.c8
    have ltx := Ha.out.lt
    obtain ⟨v0, v1⟩ := Hv.out.c2
    have ltv := Hv.out.lt
    obtain ⟨g0, g1⟩ := Hg.out.c2
    have ltg := Hg.out.lt
    obtain ⟨t0, t1⟩ := Ht.out.c2
    have ltt := Ht.out.lt
    have heq := Heq.out
    go_wp2_with fail
    clear heq
    refine (nil_Radar _ _ _ _ (HN.out.later HL.out)).mono ?_
    rintro e w11 ⟨rfl, hb⟩
    replace HB := hide (onward HB.out hb)
    replace Ha := hide (blk_later Ha.out hb)
    replace HL := hide (onward HL.out hb)
    replace Hv := hide (blk_later Hv.out hb)
    replace Hg := hide (blk_later Hg.out hb)
    replace Ht := hide (blk_later Ht.out hb)
    clear hb x0 x1 x2 x3 x4 x5 x6 x7 ltx v0 v1 ltv g0 g1 ltg t0 t1 ltt
    obtain ⟨x0, x1, x2, x3, x4, x5, x6, x7⟩ := Ha.out.c8
    have ltx := Ha.out.lt
    go_wp2_with fail
    refine (K2.out _).mono ?_
    rintro e w12 ⟨rfl, hb⟩
    replace HB := hide (onward HB.out hb)
    replace Ha := hide (blk_later Ha.out hb)
    replace HL := hide (onward HL.out hb)
    replace Hv := hide (blk_later Hv.out hb)
    replace Hg := hide (blk_later Hg.out hb)
    replace Ht := hide (blk_later Ht.out hb)
    clear hb x0 x1 x2 x3 x4 x5 x6 x7 ltx
    go_wp2_with fail
    refine (nil_Define _ _ _ (HN.out.later HL.out)).mono ?_
    rintro e w13 ⟨rfl, hb⟩
    replace HB := hide (onward HB.out hb)
    replace Ha := hide (blk_later Ha.out hb)
    replace HL := hide (onward HL.out hb)
    replace Hv := hide (blk_later Hv.out hb)
    replace Hg := hide (blk_later Hg.out hb)
    replace Ht := hide (blk_later Ht.out hb)
    clear hb
    obtain ⟨x0, x1, x2, x3, x4, x5, x6, x7⟩ := Ha.out.c8
    have ltx := Ha.out.lt
    go_wp2_with fail
    refine (nil_Withdraw _ _ _ (HN.out.later HL.out)).mono ?_
    rintro e w14 ⟨rfl, hb⟩
    replace HB := hide (onward HB.out hb)
    replace Ha := hide (blk_later Ha.out hb)
    replace HL := hide (onward HL.out hb)
    replace Hv := hide (blk_later Hv.out hb)
    replace Hg := hide (blk_later Hg.out hb)
    replace Ht := hide (blk_later Ht.out hb)
    clear hb x0 x1 x2 x3 x4 x5 x6 x7 ltx
    obtain ⟨x0, x1, x2, x3, x4, x5, x6, x7⟩ := Ha.out.c8
    have ltx := Ha.out.lt
    go_wp2_with fail
    refine (nil_Reinstate _ _ _ (HN.out.later HL.out)).mono ?_
    rintro e w15 ⟨rfl, hb⟩
    replace HB := hide (onward HB.out hb)
    replace Ha := hide (blk_later Ha.out hb)
    replace HL := hide (onward HL.out hb)
    replace Hv := hide (blk_later Hv.out hb)
    replace Hg := hide (blk_later Hg.out hb)
    replace Ht := hide (blk_later Ht.out hb)
    clear hb x0 x1 x2 x3 x4 x5 x6 x7 ltx
    go_wp2_with fail
    refine (nil_Entries _ _ (HN.out.later HL.out)).mono ?_
    rintro e w16 ⟨rfl, hb⟩
    replace HB := hide (onward HB.out hb)
    replace Ha := hide (blk_later Ha.out hb)
    replace HL := hide (onward HL.out hb)
    replace Hv := hide (blk_later Hv.out hb)
    replace Hg := hide (blk_later Hg.out hb)
    replace Ht := hide (blk_later Ht.out hb)
    clear hb
    go_wp2_with fail
    refine (nil_Copy _ _ (HN.out.later HL.out)).mono ?_
    rintro e w17 ⟨rfl, hb⟩
    replace HB := hide (onward HB.out hb)
    replace Ha := hide (blk_later Ha.out hb)
    replace HL := hide (onward HL.out hb)
    replace Hv := hide (blk_later Hv.out hb)
    replace Hg := hide (blk_later Hg.out hb)
    replace Ht := hide (blk_later Ht.out hb)
    clear hb
    go_wp2_with fail
    refine (works_any _).mono ?_
    rintro e w18 ⟨rfl, hb⟩
    replace HB := hide (onward HB.out hb)
    replace Ha := hide (blk_later Ha.out hb)
    replace HL := hide (onward HL.out hb)
    replace Hv := hide (blk_later Hv.out hb)
    replace Hg := hide (blk_later Hg.out hb)
    replace Ht := hide (blk_later Ht.out hb)
    clear hb
    go_wp2
    go_ret
    exact ⟨rfl, HB.out⟩
  | true =>
    go_enter Try.func12, Try.ntmps12
    have HB := hide (Below.refl w.heap.size w)
    go_wp2_with fail
    refine at_world fun w1 hW => ?_
    have bq0 : Blk w1 w.heap.size 59 #[.int .i64 k, .string nm, .string pr, .int .i64 lo, .int .i64 hi, .int .i64 tm, .int .i64 un, .int .i64 n] := by rw [hW]; exact (Blk.new _ _ _).alloc _
    have bq1 : Blk w1 (w.heap.size + 1) 98 #[.bool false, .map none, .map none, .slice none 0 0, .slice none 0 0, .map none, .map none, .slice none 0 0] := by rw [hW]; exact blk_new_at (by simp)
    have LW : Later w w1 := by rw [hW]; exact (((Below.refl _ _).alloc (Nat.le_refl _) _).alloc (by simp; try omega) _)
    have szW : w1.heap.size = w.heap.size + 2 := by rw [hW]; simp
    clear hW
    replace HB := hide (onward HB.out LW)
    have Ha := hide bq0
    have Hz := hide bq1
    clear bq0 bq1 LW szW
    have HN := hide (show NilB w1 (.pointer (some ⟨w.heap.size + 1, 0, none⟩)) from .inr ⟨_, rfl, Hz.out⟩)
    clear Hz
    have HL := hide (Below.refl w1.heap.size w1)
    refine (K1.out _).mono ?_
    rintro e w2 ⟨rfl, hb⟩
    replace HB := hide (onward HB.out hb)
    replace Ha := hide (blk_later Ha.out hb)
    replace HL := hide (onward HL.out hb)
    clear hb
    go_wp2_with fail
    refine (nil_Test _ _ _ (HN.out.later HL.out)).mono ?_
    rintro e w3 ⟨rfl, hb⟩
    replace HB := hide (onward HB.out hb)
    replace Ha := hide (blk_later Ha.out hb)
    replace HL := hide (onward HL.out hb)
    clear hb
    obtain ⟨x0, x1, x2, x3, x4, x5, x6, x7⟩ := Ha.out.c8
    have ltx := Ha.out.lt
    go_wp2_with fail
    refine (nil_Value _ _ _ _ (HN.out.later HL.out)).mono ?_
    rintro e w4 ⟨rfl, hb⟩
    replace HB := hide (onward HB.out hb)
    replace Ha := hide (blk_later Ha.out hb)
    replace HL := hide (onward HL.out hb)
    clear hb x0 x1 x2 x3 x4 x5 x6 x7 ltx
    obtain ⟨x0, x1, x2, x3, x4, x5, x6, x7⟩ := Ha.out.c8
    have ltx := Ha.out.lt
    go_wp2_with fail
    refine at_world fun w5 hW => ?_
    have bq0 : Blk w5 w4.heap.size 23 #[.int .i64 0, .int .i64 0] := by rw [hW]; exact Blk.new _ _ _
    have LW : Later w4 w5 := by rw [hW]; exact ((Below.refl _ _).alloc (Nat.le_refl _) _)
    have szW : w5.heap.size = w4.heap.size + 1 := by rw [hW]; simp
    clear hW x0 x1 x2 x3 x4 x5 x6 x7 ltx
    replace HB := hide (onward HB.out LW)
    replace Ha := hide (blk_later Ha.out LW)
    replace HL := hide (onward HL.out LW)
    have Hv := hide bq0
    clear bq0 LW szW
    refine (nil_Gain _ _ _ _ (HN.out.later HL.out)).mono ?_
    rintro e w6 ⟨rfl, hb⟩
    replace HB := hide (onward HB.out hb)
    replace Ha := hide (blk_later Ha.out hb)
    replace HL := hide (onward HL.out hb)
    replace Hv := hide (blk_later Hv.out hb)
    clear hb
    obtain ⟨x0, x1, x2, x3, x4, x5, x6, x7⟩ := Ha.out.c8
    have ltx := Ha.out.lt
    go_wp2_with fail
    refine at_world fun w7 hW => ?_
    have bq0 : Blk w7 w6.heap.size 23 #[.int .i64 0, .int .i64 0] := by rw [hW]; exact (Blk.new _ _ _).alloc _
    have bq1 : Blk w7 (w6.heap.size + 1) 52 #[.int .i64 0, .int .i64 0] := by rw [hW]; exact blk_new_at (by simp)
    have LW : Later w6 w7 := by rw [hW]; exact (((Below.refl _ _).alloc (Nat.le_refl _) _).alloc (by simp; try omega) _)
    have szW : w7.heap.size = w6.heap.size + 2 := by rw [hW]; simp
    clear hW x0 x1 x2 x3 x4 x5 x6 x7 ltx
    replace HB := hide (onward HB.out LW)
    replace Ha := hide (blk_later Ha.out LW)
    replace HL := hide (onward HL.out LW)
    replace Hv := hide (blk_later Hv.out LW)
    have Hg := hide bq0
    have Ht := hide bq1
    clear bq0 bq1 LW szW
    refine (nil_Chain _ _ _ (HN.out.later HL.out)).mono ?_
    rintro e w8 ⟨rfl, hb⟩
    replace HB := hide (onward HB.out hb)
    replace Ha := hide (blk_later Ha.out hb)
    replace HL := hide (onward HL.out hb)
    replace Hv := hide (blk_later Hv.out hb)
    replace Hg := hide (blk_later Hg.out hb)
    replace Ht := hide (blk_later Ht.out hb)
    clear hb
    obtain ⟨x0, x1, x2, x3, x4, x5, x6, x7⟩ := Ha.out.c8
    have ltx := Ha.out.lt
    go_wp2_with fail
    refine (nil_Depends _ _ _ (HN.out.later HL.out)).mono ?_
    rintro e w9 ⟨rfl, hb⟩
    replace HB := hide (onward HB.out hb)
    replace Ha := hide (blk_later Ha.out hb)
    replace HL := hide (onward HL.out hb)
    replace Hv := hide (blk_later Hv.out hb)
    replace Hg := hide (blk_later Hg.out hb)
    replace Ht := hide (blk_later Ht.out hb)
    clear hb x0 x1 x2 x3 x4 x5 x6 x7 ltx
    obtain ⟨x0, x1, x2, x3, x4, x5, x6, x7⟩ := Ha.out.c8
    have ltx := Ha.out.lt
    go_wp2_with fail
    refine (nil_Back _ _ _ (HN.out.later HL.out)).mono ?_
    rintro e w10 ⟨rfl, hb⟩
    replace HB := hide (onward HB.out hb)
    replace Ha := hide (blk_later Ha.out hb)
    replace HL := hide (onward HL.out hb)
    replace Hv := hide (blk_later Hv.out hb)
    replace Hg := hide (blk_later Hg.out hb)
    replace Ht := hide (blk_later Ht.out hb)
    clear hb x0 x1 x2 x3 x4 x5 x6 x7 ltx
    obtain ⟨x0, x1, x2, x3, x4, x5, x6, x7⟩ := Ha.out.c8
    have ltx := Ha.out.lt
    obtain ⟨v0, v1⟩ := Hv.out.c2
    have ltv := Hv.out.lt
    obtain ⟨g0, g1⟩ := Hg.out.c2
    have ltg := Hg.out.lt
    obtain ⟨t0, t1⟩ := Ht.out.c2
    have ltt := Ht.out.lt
    have heq := Heq.out
    go_wp2_with fail
    clear heq
    refine (nil_Radar _ _ _ _ (HN.out.later HL.out)).mono ?_
    rintro e w11 ⟨rfl, hb⟩
    replace HB := hide (onward HB.out hb)
    replace Ha := hide (blk_later Ha.out hb)
    replace HL := hide (onward HL.out hb)
    replace Hv := hide (blk_later Hv.out hb)
    replace Hg := hide (blk_later Hg.out hb)
    replace Ht := hide (blk_later Ht.out hb)
    clear hb x0 x1 x2 x3 x4 x5 x6 x7 ltx v0 v1 ltv g0 g1 ltg t0 t1 ltt
    obtain ⟨x0, x1, x2, x3, x4, x5, x6, x7⟩ := Ha.out.c8
    have ltx := Ha.out.lt
    go_wp2_with fail
    refine (K2.out _).mono ?_
    rintro e w12 ⟨rfl, hb⟩
    replace HB := hide (onward HB.out hb)
    replace Ha := hide (blk_later Ha.out hb)
    replace HL := hide (onward HL.out hb)
    replace Hv := hide (blk_later Hv.out hb)
    replace Hg := hide (blk_later Hg.out hb)
    replace Ht := hide (blk_later Ht.out hb)
    clear hb x0 x1 x2 x3 x4 x5 x6 x7 ltx
    go_wp2_with fail
    refine (nil_Define _ _ _ (HN.out.later HL.out)).mono ?_
    rintro e w13 ⟨rfl, hb⟩
    replace HB := hide (onward HB.out hb)
    replace Ha := hide (blk_later Ha.out hb)
    replace HL := hide (onward HL.out hb)
    replace Hv := hide (blk_later Hv.out hb)
    replace Hg := hide (blk_later Hg.out hb)
    replace Ht := hide (blk_later Ht.out hb)
    clear hb
    obtain ⟨x0, x1, x2, x3, x4, x5, x6, x7⟩ := Ha.out.c8
    have ltx := Ha.out.lt
    go_wp2_with fail
    refine (nil_Withdraw _ _ _ (HN.out.later HL.out)).mono ?_
    rintro e w14 ⟨rfl, hb⟩
    replace HB := hide (onward HB.out hb)
    replace Ha := hide (blk_later Ha.out hb)
    replace HL := hide (onward HL.out hb)
    replace Hv := hide (blk_later Hv.out hb)
    replace Hg := hide (blk_later Hg.out hb)
    replace Ht := hide (blk_later Ht.out hb)
    clear hb x0 x1 x2 x3 x4 x5 x6 x7 ltx
    obtain ⟨x0, x1, x2, x3, x4, x5, x6, x7⟩ := Ha.out.c8
    have ltx := Ha.out.lt
    go_wp2_with fail
    refine (nil_Reinstate _ _ _ (HN.out.later HL.out)).mono ?_
    rintro e w15 ⟨rfl, hb⟩
    replace HB := hide (onward HB.out hb)
    replace Ha := hide (blk_later Ha.out hb)
    replace HL := hide (onward HL.out hb)
    replace Hv := hide (blk_later Hv.out hb)
    replace Hg := hide (blk_later Hg.out hb)
    replace Ht := hide (blk_later Ht.out hb)
    clear hb x0 x1 x2 x3 x4 x5 x6 x7 ltx
    go_wp2_with fail
    refine (nil_Entries _ _ (HN.out.later HL.out)).mono ?_
    rintro e w16 ⟨rfl, hb⟩
    replace HB := hide (onward HB.out hb)
    replace Ha := hide (blk_later Ha.out hb)
    replace HL := hide (onward HL.out hb)
    replace Hv := hide (blk_later Hv.out hb)
    replace Hg := hide (blk_later Hg.out hb)
    replace Ht := hide (blk_later Ht.out hb)
    clear hb
    go_wp2_with fail
    refine (nil_Copy _ _ (HN.out.later HL.out)).mono ?_
    rintro e w17 ⟨rfl, hb⟩
    replace HB := hide (onward HB.out hb)
    replace Ha := hide (blk_later Ha.out hb)
    replace HL := hide (onward HL.out hb)
    replace Hv := hide (blk_later Hv.out hb)
    replace Hg := hide (blk_later Hg.out hb)
    replace Ht := hide (blk_later Ht.out hb)
    clear hb
    go_wp2_with fail
    refine (works_any _).mono ?_
    rintro e w18 ⟨rfl, hb⟩
    replace HB := hide (onward HB.out hb)
    replace Ha := hide (blk_later Ha.out hb)
    replace HL := hide (onward HL.out hb)
    replace Hv := hide (blk_later Hv.out hb)
    replace Hg := hide (blk_later Hg.out hb)
    replace Ht := hide (blk_later Ht.out hb)
    clear hb
    go_wp2
    go_ret
    exact ⟨rfl, HB.out⟩
end Go.Proofs.Ytiggefmckomilaa
