/-
  Corrected powers: trace's and the reference's.
-/
import Derived.Test.YtiggefmckomilaaRefDivs
import Derived.Test.YtiggefmckomilaaTraceFns
namespace Go.Proofs.Ytiggefmckomilaa
open Go Go.RowKit

theorem RefValid_any (a b lo hi : Int) (w : World) :
    Calls Try.prog 55 #[.agg #[.int .i64 a, .int .i64 b], .int .i64 lo, .int .i64 hi] w fun e w' => e = .returned (.bool (inS a b lo hi)) ∧ Below w.heap.size w w' := by
  by_cases h1 : a ≤ b <;> by_cases h2 : lo ≤ a <;> by_cases h3 : b ≤ hi
  all_goals
    go_enter Try.func55, Try.ntmps55
    go_wp2
    go_ret
    exact ⟨by simp [inS, *], (Below.refl _ _).alloc (Nat.le_refl _) _⟩
def correctR (p g : Int × Int) : (Int × Int) × Int :=
  if (inS p.1 p.2 0 1073741824 && inS g.1 g.2 1 1000000) = true then ((min 1073741824 (1000 * p.1 / g.2), min 1073741824 (upD (1000 * p.2) g.1)), 0) else ((0, 0), 3)
def corrV (r : (Int × Int) × Int) : Value := .tuple #[.agg #[.int .i64 r.1.1, .int .i64 r.1.2], .int .i64 r.2]
theorem upD_cdiv {a b : Int} (h : 0 < b) : upD a b = cdiv a b := (cdiv_eq h).symm

set_option maxHeartbeats 1000000 in
set_option maxRecDepth 100000 in
theorem Correct_any (p1 p2 g1 g2 : Int) (w : World) :
    Calls Try.prog 13 #[.agg #[.int .i64 p1, .int .i64 p2], .agg #[.int .i64 g1, .int .i64 g2]] w fun e w' => e = .returned (corrV (correctR (p1, p2) (g1, g2))) ∧ Below w.heap.size w w' := by
  have hR : correctR (p1, p2) (g1, g2) = if (inS p1 p2 0 1073741824 && inS g1 g2 1 1000000) = true then ((min 1073741824 (1000 * p1 / g2), min 1073741824 (upD (1000 * p2) g1)), 0) else ((0, 0), 3) := rfl
  generalize correctR (p1, p2) (g1, g2) = r at *
  by_cases h1 : inS p1 p2 0 1073741824 = true
  · by_cases h2 : inS g1 g2 1 1000000 = true
    · rw [if_pos (by rw [h1, h2]; rfl)] at hR
      obtain ⟨a1, a2, a3⟩ := inS_iff.1 h1
      obtain ⟨b1, b2, b3⟩ := inS_iff.1 h2
      have k1 : 0 ≤ 1000 * p1 / g2 := Int.ediv_nonneg (by omega) (by omega)
      have k2 : 1000 * p1 / g2 ≤ 1000 * p1 := Int.ediv_le_self _ (by omega)
      have hu := fun W => up_any (1000 * p2) g1 W (by omega) (by omega) (by omega) (by omega)
      have hu2 := fun W => Up_any (1000 * p2) g1 W (by omega) (by omega) (by omega) (by omega)
      have hd := fun W => Down_any (1000 * p1) g2 W (by omega) (by omega) (by omega) (by omega)
      rw [← upD_cdiv (by omega)] at hu2
      obtain ⟨u, hue⟩ : ∃ u, upD (1000 * p2) g1 = u := ⟨_, rfl⟩
      rw [hue] at hu hu2 hR
      obtain ⟨n1, hn1⟩ : ∃ n1, min 1073741824 (1000 * p1 / g2) = n1 := ⟨_, rfl⟩
      obtain ⟨n2, hn2⟩ : ∃ n2, min 1073741824 u = n2 := ⟨_, rfl⟩
      rw [hn1, hn2] at hR
      have hn1' : (if 1000 * p1 / g2 < 1073741824 then 1000 * p1 / g2 else 1073741824) = n1 := by rw [← hn1]; split <;> omega
      have hn2' : (if u < 1073741824 then u else 1073741824) = n2 := by rw [← hn2]; split <;> omega
      clear hue
      have Hu := hide hu
      have Hu2 := hide hu2
      have Hd := hide hd
      have HR := hide hR
      clear hu hu2 hd hR
      go_enter Try.func13, Try.ntmps13
      have HB := hide (Below.refl w.heap.size w)
      go_wp2_with fail
      refine at_world fun w1 hW => ?_
      have bq0 : Blk w1 w.heap.size 23 #[.int .i64 p1, .int .i64 p2] := by rw [hW]; exact ((Blk.new _ _ _).alloc _).alloc _
      have bq1 : Blk w1 (w.heap.size + 1) 23 #[.int .i64 g1, .int .i64 g2] := by rw [hW]; exact (blk_new_at (by simp)).alloc _
      have bq2 : Blk w1 (w.heap.size + 2) 23 #[.int .i64 0, .int .i64 0] := by rw [hW]; exact blk_new_at (by simp)
      have LW : Later w w1 := by rw [hW]; exact ((((Below.refl _ _).alloc (Nat.le_refl _) _).alloc (by simp; try omega) _).alloc (by simp; try omega) _)
      have szW : w1.heap.size = w.heap.size + 3 := by rw [hW]; simp
      clear hW
      replace HB := hide (onward HB.out LW)
      have Hp := hide bq0
      have Hg := hide bq1
      have Ho := hide bq2
      clear bq0 bq1 bq2 LW szW
      refine (inside_any _ _ _ _ _).mono ?_
      rintro e w2 ⟨rfl, hb⟩
      replace HB := hide (onward HB.out hb)
      replace Hp := hide (blk_later Hp.out hb)
      replace Hg := hide (blk_later Hg.out hb)
      replace Ho := hide (blk_later Ho.out hb)
      clear hb
      rw [h1]
      obtain ⟨y0, y1⟩ := Hg.out.c2
      have lty := Hg.out.lt
      go_wp2_with fail
      refine (inside_any _ _ _ _ _).mono ?_
      rintro e w3 ⟨rfl, hb⟩
      replace HB := hide (onward HB.out hb)
      replace Hp := hide (blk_later Hp.out hb)
      replace Hg := hide (blk_later Hg.out hb)
      replace Ho := hide (blk_later Ho.out hb)
      clear hb y0 y1 lty
      rw [h2]
      obtain ⟨y0, y1⟩ := Hg.out.c2
      have lty := Hg.out.lt
      obtain ⟨x0, x1⟩ := Hp.out.c2
      have ltx := Hp.out.lt
      go_wp2_with fail
      have lto := Ho.out.lt
      apply wp_region_F (w0 := w3) [[], [0], [0, 1], [], [3], [0, 1, 2, 3, 4], [0, 1, 2, 3, 4, 5], [], [7], [7, 8], [], [10], [7, 8, 9, 10, 11], [7, 8, 9, 10, 11, 12], [0, 1, 2, 3, 4, 5, 6, 7, 8, 9, 10, 11, 12, 13], [0, 1, 2, 3, 4, 5, 6, 7, 8, 9, 10, 11, 12, 13, 14], [0, 1, 2, 3, 4, 5, 6, 7, 8, 9, 10, 11, 12, 13, 14, 15]] [true, true, true, true, true, true, true, true, true, true, true, true, true, true, true, false, false] [false, false, false, false, false, false, false, false, false, false, false, false, false, false, false, false, true] [⟨15, none, [], []⟩] [(15, (w.heap.size+2))] [15] (fun ixq y => match ixq with | 15 => undef | _ => undef) (fun ixq x F wq => match ixq with | 15 => F (w.heap.size+2) ∧ Blk wq (w.heap.size+2) 23 #[.int .i64 n1, .int .i64 n2] | _ => True) (fun a x => (a).put (none) (undef)) (by kernel_rfl) (by kernel_rfl) (by kernel_rfl) (fun _ => rfl) [27] (by kernel_rfl) (fills_lt1 (by omega)) fills_ne1
      · intro x D hD
        have hne := hD.some
        have k0 := liftS hD x0 (by exact early_all (by first | assumption | omega) (by rfl))
        have k1 := liftS hD x1 (by exact early_all (by first | assumption | omega) (by rfl))
        have k2 := liftS hD y0 (by exact early_all (by first | assumption | omega) (by rfl))
        have k3 := liftS hD y1 (by exact early_all (by first | assumption | omega) (by rfl))
        simp only [takeOps, Act.put, List.setIfInBounds_toArray, List.set_cons_succ, List.set_cons_zero]
        repeat (go_big_quiet_step ((first | (go_at_call 54; exact calls_same _ (Hu.out _)) | (go_at_call 56; exact calls_same _ (Hd.out _)) | (go_at_call 57; exact calls_same _ (Hu2.out _)))))
        exact wpQuiet_nil rfl
      · intro x D hD
        have hne := hD.some
        simp only [takeOps, Act.put, List.setIfInBounds_toArray, List.set_cons_succ, List.set_cons_zero]
        repeat (go_big_quiet_step ((first | (go_at_call 54; exact calls_same _ (Hu.out _)) | (go_at_call 56; exact calls_same _ (Hd.out _)) | (go_at_call 57; exact calls_same _ (Hu2.out _)))))
        exact wpQuiet_nil rfl
      · intro d hd x x'
        simp only [List.mem_cons, List.not_mem_nil, or_false] at hd
        rcases hd with rfl
        all_goals rfl
      · refine ⟨?_, trivial⟩
        · exact obl_fill 23 23 4 29 (w.heap.size+2) _ (fun x => #[.int .i64 n1, .int .i64 n2]) (by kernel_rfl) (fun _ => rfl) (fun _ => rfl) Ho.out eb_fill1 (by simp [wrF]) (fun _ => by kernel_rfl) (fun _ => rfl) (fun _ => by simp [Value.oneCell']) (fun _ => rfl) (fun _ _ _ _ h1 h2 => ⟨h1, h2⟩)
      · refine ⟨?_, trivial⟩
        · exact owe_fill (w.heap.size+2) 23 (fun x => #[.int .i64 n1, .int .i64 n2]) (fun _ _ _ => rfl) (fun _ _ _ => rfl)
      intro xr w4 F hK hlv1
      obtain ⟨fct15, -⟩ := hlv1
      replace fct15 : (F 15) (w.heap.size+2) ∧ Blk w4 (w.heap.size+2) 23 #[.int .i64 n1, .int .i64 n2] := fct15 rfl
      have hbr := below_kept HB.out HB.out.size hK (by simp)
      have ho4 := fct15.2
      obtain ⟨e0, e1⟩ := ho4.c2
      have fe0 := ho4.frozen 0
      have fe1 := ho4.frozen 1
      have lte := ho4.lt
      go_wp2
      refine bodyPost_ret (v := corrV r) (by rw [HR.out]; simp [corrV, results, Try.results13, go_sem, e0, e1, fe0, fe1, lte]) rfl ⟨rfl, hbr⟩
    · have h3 : inS g1 g2 1 1000000 = false := by simpa using h2
      rw [if_neg (by rw [h3]; simp)] at hR
      have HR := hide hR
      clear hR
      go_enter Try.func13, Try.ntmps13
      have HB := hide (Below.refl w.heap.size w)
      go_wp2_with fail
      refine at_world fun w1 hW => ?_
      have bq0 : Blk w1 w.heap.size 23 #[.int .i64 p1, .int .i64 p2] := by rw [hW]; exact ((Blk.new _ _ _).alloc _).alloc _
      have bq1 : Blk w1 (w.heap.size + 1) 23 #[.int .i64 g1, .int .i64 g2] := by rw [hW]; exact (blk_new_at (by simp)).alloc _
      have bq2 : Blk w1 (w.heap.size + 2) 23 #[.int .i64 0, .int .i64 0] := by rw [hW]; exact blk_new_at (by simp)
      have LW : Later w w1 := by rw [hW]; exact ((((Below.refl _ _).alloc (Nat.le_refl _) _).alloc (by simp; try omega) _).alloc (by simp; try omega) _)
      have szW : w1.heap.size = w.heap.size + 3 := by rw [hW]; simp
      clear hW
      replace HB := hide (onward HB.out LW)
      have Hp := hide bq0
      have Hg := hide bq1
      have Ho := hide bq2
      clear bq0 bq1 bq2 LW szW
      refine (inside_any _ _ _ _ _).mono ?_
      rintro e w2 ⟨rfl, hb⟩
      replace HB := hide (onward HB.out hb)
      replace Hp := hide (blk_later Hp.out hb)
      replace Hg := hide (blk_later Hg.out hb)
      replace Ho := hide (blk_later Ho.out hb)
      clear hb
      rw [h1]
      obtain ⟨y0, y1⟩ := Hg.out.c2
      have lty := Hg.out.lt
      go_wp2_with fail
      refine (inside_any _ _ _ _ _).mono ?_
      rintro e w3 ⟨rfl, hb⟩
      replace HB := hide (onward HB.out hb)
      replace Hp := hide (blk_later Hp.out hb)
      replace Hg := hide (blk_later Hg.out hb)
      replace Ho := hide (blk_later Ho.out hb)
      clear hb y0 y1 lty
      rw [h3]
      obtain ⟨e0, e1⟩ := Ho.out.c2
      have lte := Ho.out.lt
      have fe0 := Ho.out.frozen 0
      have fe1 := Ho.out.frozen 1
      go_wp2
      refine bodyPost_ret (v := corrV r) (by rw [HR.out]; simp [corrV, results, Try.results13, go_sem, e0, e1, fe0, fe1, lte]) rfl ⟨rfl, ?_⟩
      repeat (first | exact HB.out | (refine Below.setCell ?_ (by first | omega | (simp; done) | (simp; omega)) _) | (refine Below.alloc ?_ (by first | omega | (simp; done) | (simp; omega)) _) | (refine below_drewN ?_ _))
  · have h3 : inS p1 p2 0 1073741824 = false := by simpa using h1
    rw [if_neg (by rw [h3]; simp)] at hR
    have HR := hide hR
    clear hR
    go_enter Try.func13, Try.ntmps13
    have HB := hide (Below.refl w.heap.size w)
    go_wp2_with fail
    refine at_world fun w1 hW => ?_
    have bq0 : Blk w1 w.heap.size 23 #[.int .i64 p1, .int .i64 p2] := by rw [hW]; exact ((Blk.new _ _ _).alloc _).alloc _
    have bq1 : Blk w1 (w.heap.size + 1) 23 #[.int .i64 g1, .int .i64 g2] := by rw [hW]; exact (blk_new_at (by simp)).alloc _
    have bq2 : Blk w1 (w.heap.size + 2) 23 #[.int .i64 0, .int .i64 0] := by rw [hW]; exact blk_new_at (by simp)
    have LW : Later w w1 := by rw [hW]; exact ((((Below.refl _ _).alloc (Nat.le_refl _) _).alloc (by simp; try omega) _).alloc (by simp; try omega) _)
    have szW : w1.heap.size = w.heap.size + 3 := by rw [hW]; simp
    clear hW
    replace HB := hide (onward HB.out LW)
    have Hp := hide bq0
    have Hg := hide bq1
    have Ho := hide bq2
    clear bq0 bq1 bq2 LW szW
    refine (inside_any _ _ _ _ _).mono ?_
    rintro e w2 ⟨rfl, hb⟩
    replace HB := hide (onward HB.out hb)
    replace Hp := hide (blk_later Hp.out hb)
    replace Hg := hide (blk_later Hg.out hb)
    replace Ho := hide (blk_later Ho.out hb)
    clear hb
    rw [h3]
    obtain ⟨e0, e1⟩ := Ho.out.c2
    have lte := Ho.out.lt
    have fe0 := Ho.out.frozen 0
    have fe1 := Ho.out.frozen 1
    go_wp2
    refine bodyPost_ret (v := corrV r) (by rw [HR.out]; simp [corrV, results, Try.results13, go_sem, e0, e1, fe0, fe1, lte]) rfl ⟨rfl, ?_⟩
    repeat (first | exact HB.out | (refine Below.setCell ?_ (by first | omega | (simp; done) | (simp; omega)) _) | (refine Below.alloc ?_ (by first | omega | (simp; done) | (simp; omega)) _) | (refine below_drewN ?_ _))
set_option maxHeartbeats 1000000 in
set_option maxRecDepth 100000 in
theorem RefCorrect_any (p1 p2 g1 g2 : Int) (w : World) :
    Calls Try.prog 14 #[.agg #[.int .i64 p1, .int .i64 p2], .agg #[.int .i64 g1, .int .i64 g2]] w fun e w' => e = .returned (corrV (correctR (p1, p2) (g1, g2))) ∧ Below w.heap.size w w' := by
  have hR : correctR (p1, p2) (g1, g2) = if (inS p1 p2 0 1073741824 && inS g1 g2 1 1000000) = true then ((min 1073741824 (1000 * p1 / g2), min 1073741824 (upD (1000 * p2) g1)), 0) else ((0, 0), 3) := rfl
  generalize correctR (p1, p2) (g1, g2) = r at *
  by_cases h1 : inS p1 p2 0 1073741824 = true
  · by_cases h2 : inS g1 g2 1 1000000 = true
    · rw [if_pos (by rw [h1, h2]; rfl)] at hR
      obtain ⟨a1, a2, a3⟩ := inS_iff.1 h1
      obtain ⟨b1, b2, b3⟩ := inS_iff.1 h2
      have k1 : 0 ≤ 1000 * p1 / g2 := Int.ediv_nonneg (by omega) (by omega)
      have k2 : 1000 * p1 / g2 ≤ 1000 * p1 := Int.ediv_le_self _ (by omega)
      have hu := fun W => up_any (1000 * p2) g1 W (by omega) (by omega) (by omega) (by omega)
      have hu2 := fun W => Up_any (1000 * p2) g1 W (by omega) (by omega) (by omega) (by omega)
      have hd := fun W => Down_any (1000 * p1) g2 W (by omega) (by omega) (by omega) (by omega)
      rw [← upD_cdiv (by omega)] at hu2
      obtain ⟨u, hue⟩ : ∃ u, upD (1000 * p2) g1 = u := ⟨_, rfl⟩
      rw [hue] at hu hu2 hR
      obtain ⟨n1, hn1⟩ : ∃ n1, min 1073741824 (1000 * p1 / g2) = n1 := ⟨_, rfl⟩
      obtain ⟨n2, hn2⟩ : ∃ n2, min 1073741824 u = n2 := ⟨_, rfl⟩
      rw [hn1, hn2] at hR
      have hn1' : (if 1000 * p1 / g2 < 1073741824 then 1000 * p1 / g2 else 1073741824) = n1 := by rw [← hn1]; split <;> omega
      have hn2' : (if u < 1073741824 then u else 1073741824) = n2 := by rw [← hn2]; split <;> omega
      clear hue
      have Hu := hide hu
      have Hu2 := hide hu2
      have Hd := hide hd
      have HR := hide hR
      clear hu hu2 hd hR
      go_enter Try.func14, Try.ntmps14
      have HB := hide (Below.refl w.heap.size w)
      go_wp2_with fail
      refine at_world fun w1 hW => ?_
      have bq0 : Blk w1 w.heap.size 23 #[.int .i64 p1, .int .i64 p2] := by rw [hW]; exact ((Blk.new _ _ _).alloc _).alloc _
      have bq1 : Blk w1 (w.heap.size + 1) 23 #[.int .i64 g1, .int .i64 g2] := by rw [hW]; exact (blk_new_at (by simp)).alloc _
      have bq2 : Blk w1 (w.heap.size + 2) 23 #[.int .i64 0, .int .i64 0] := by rw [hW]; exact blk_new_at (by simp)
      have LW : Later w w1 := by rw [hW]; exact ((((Below.refl _ _).alloc (Nat.le_refl _) _).alloc (by simp; try omega) _).alloc (by simp; try omega) _)
      have szW : w1.heap.size = w.heap.size + 3 := by rw [hW]; simp
      clear hW
      replace HB := hide (onward HB.out LW)
      have Hp := hide bq0
      have Hg := hide bq1
      have Ho := hide bq2
      clear bq0 bq1 bq2 LW szW
      refine (RefValid_any _ _ _ _ _).mono ?_
      rintro e w2 ⟨rfl, hb⟩
      replace HB := hide (onward HB.out hb)
      replace Hp := hide (blk_later Hp.out hb)
      replace Hg := hide (blk_later Hg.out hb)
      replace Ho := hide (blk_later Ho.out hb)
      clear hb
      rw [h1]
      obtain ⟨y0, y1⟩ := Hg.out.c2
      have lty := Hg.out.lt
      go_wp2_with fail
      refine (RefValid_any _ _ _ _ _).mono ?_
      rintro e w3 ⟨rfl, hb⟩
      replace HB := hide (onward HB.out hb)
      replace Hp := hide (blk_later Hp.out hb)
      replace Hg := hide (blk_later Hg.out hb)
      replace Ho := hide (blk_later Ho.out hb)
      clear hb y0 y1 lty
      rw [h2]
      obtain ⟨y0, y1⟩ := Hg.out.c2
      have lty := Hg.out.lt
      obtain ⟨x0, x1⟩ := Hp.out.c2
      have ltx := Hp.out.lt
      go_wp2_with fail
      have lto := Ho.out.lt
      apply wp_region_F (w0 := w3) [[], [0], [0, 1], [], [3], [0, 1, 2, 3, 4], [0, 1, 2, 3, 4, 5], [], [7], [7, 8], [], [10], [0, 1, 2, 3, 4, 5, 7, 8, 9, 10, 11], [0, 1, 2, 3, 4, 5, 7, 8, 9, 10, 11, 12], [0, 1, 2, 3, 4, 5, 6, 7, 8, 9, 10, 11, 12, 13], [0, 1, 2, 3, 4, 5, 6, 7, 8, 9, 10, 11, 12, 13, 14], [0, 1, 2, 3, 4, 5, 6, 7, 8, 9, 10, 11, 12, 13, 14, 15]] [true, true, true, true, true, true, true, true, true, true, true, true, true, true, true, false, false] [false, false, false, false, false, false, false, false, false, false, false, false, false, false, false, false, true] [⟨15, none, [], []⟩] [(15, (w.heap.size+2))] [15] (fun ixq y => match ixq with | 15 => undef | _ => undef) (fun ixq x F wq => match ixq with | 15 => F (w.heap.size+2) ∧ Blk wq (w.heap.size+2) 23 #[.int .i64 n1, .int .i64 n2] | _ => True) (fun a x => (a).put (none) (undef)) (by kernel_rfl) (by kernel_rfl) (by kernel_rfl) (fun _ => rfl) [20, 27] (by kernel_rfl) (fills_lt1 (by omega)) fills_ne1
      · intro x D hD
        have hne := hD.some
        have k0 := liftS hD x0 (by exact early_all (by first | assumption | omega) (by rfl))
        have k1 := liftS hD x1 (by exact early_all (by first | assumption | omega) (by rfl))
        have k2 := liftS hD y0 (by exact early_all (by first | assumption | omega) (by rfl))
        have k3 := liftS hD y1 (by exact early_all (by first | assumption | omega) (by rfl))
        simp only [takeOps, Act.put, List.setIfInBounds_toArray, List.set_cons_succ, List.set_cons_zero]
        repeat (go_big_quiet_step ((first | (go_at_call 54; exact calls_same _ (Hu.out _)) | (go_at_call 56; exact calls_same _ (Hd.out _)) | (go_at_call 57; exact calls_same _ (Hu2.out _)))))
        exact wpQuiet_nil rfl
      · intro x D hD
        have hne := hD.some
        simp only [takeOps, Act.put, List.setIfInBounds_toArray, List.set_cons_succ, List.set_cons_zero]
        repeat (go_big_quiet_step ((first | (go_at_call 54; exact calls_same _ (Hu.out _)) | (go_at_call 56; exact calls_same _ (Hd.out _)) | (go_at_call 57; exact calls_same _ (Hu2.out _)))))
        exact wpQuiet_nil rfl
      · intro d hd x x'
        simp only [List.mem_cons, List.not_mem_nil, or_false] at hd
        rcases hd with rfl | rfl
        all_goals rfl
      · refine ⟨?_, trivial⟩
        · exact obl_fill 23 23 4 29 (w.heap.size+2) _ (fun x => #[.int .i64 n1, .int .i64 n2]) (by kernel_rfl) (fun _ => rfl) (fun _ => rfl) Ho.out eb_fill1 (by simp [wrF]) (fun _ => by kernel_rfl) (fun _ => rfl) (fun _ => by simp [Value.oneCell']) (fun _ => rfl) (fun _ _ _ _ h1 h2 => ⟨h1, h2⟩)
      · refine ⟨?_, trivial⟩
        · exact owe_fill (w.heap.size+2) 23 (fun x => #[.int .i64 n1, .int .i64 n2]) (fun _ _ _ => rfl) (fun _ _ _ => rfl)
      intro xr w4 F hK hlv2
      obtain ⟨fct15, -⟩ := hlv2
      replace fct15 : (F 15) (w.heap.size+2) ∧ Blk w4 (w.heap.size+2) 23 #[.int .i64 n1, .int .i64 n2] := fct15 rfl
      have hbr := below_kept HB.out HB.out.size hK (by simp)
      have ho4 := fct15.2
      obtain ⟨e0, e1⟩ := ho4.c2
      have fe0 := ho4.frozen 0
      have fe1 := ho4.frozen 1
      have lte := ho4.lt
      go_wp2
      refine bodyPost_ret (v := corrV r) (by rw [HR.out]; simp [corrV, results, Try.results14, go_sem, e0, e1, fe0, fe1, lte]) rfl ⟨rfl, hbr⟩
    · have h3 : inS g1 g2 1 1000000 = false := by simpa using h2
      rw [if_neg (by rw [h3]; simp)] at hR
      have HR := hide hR
      clear hR
      go_enter Try.func14, Try.ntmps14
      have HB := hide (Below.refl w.heap.size w)
      go_wp2_with fail
      refine at_world fun w1 hW => ?_
      have bq0 : Blk w1 w.heap.size 23 #[.int .i64 p1, .int .i64 p2] := by rw [hW]; exact ((Blk.new _ _ _).alloc _).alloc _
      have bq1 : Blk w1 (w.heap.size + 1) 23 #[.int .i64 g1, .int .i64 g2] := by rw [hW]; exact (blk_new_at (by simp)).alloc _
      have bq2 : Blk w1 (w.heap.size + 2) 23 #[.int .i64 0, .int .i64 0] := by rw [hW]; exact blk_new_at (by simp)
      have LW : Later w w1 := by rw [hW]; exact ((((Below.refl _ _).alloc (Nat.le_refl _) _).alloc (by simp; try omega) _).alloc (by simp; try omega) _)
      have szW : w1.heap.size = w.heap.size + 3 := by rw [hW]; simp
      clear hW
      replace HB := hide (onward HB.out LW)
      have Hp := hide bq0
      have Hg := hide bq1
      have Ho := hide bq2
      clear bq0 bq1 bq2 LW szW
      refine (RefValid_any _ _ _ _ _).mono ?_
      rintro e w2 ⟨rfl, hb⟩
      replace HB := hide (onward HB.out hb)
      replace Hp := hide (blk_later Hp.out hb)
      replace Hg := hide (blk_later Hg.out hb)
      replace Ho := hide (blk_later Ho.out hb)
      clear hb
      rw [h1]
      obtain ⟨y0, y1⟩ := Hg.out.c2
      have lty := Hg.out.lt
      go_wp2_with fail
      refine (RefValid_any _ _ _ _ _).mono ?_
      rintro e w3 ⟨rfl, hb⟩
      replace HB := hide (onward HB.out hb)
      replace Hp := hide (blk_later Hp.out hb)
      replace Hg := hide (blk_later Hg.out hb)
      replace Ho := hide (blk_later Ho.out hb)
      clear hb y0 y1 lty
      rw [h3]
      obtain ⟨e0, e1⟩ := Ho.out.c2
      have lte := Ho.out.lt
      have fe0 := Ho.out.frozen 0
      have fe1 := Ho.out.frozen 1
      go_wp2
      refine bodyPost_ret (v := corrV r) (by rw [HR.out]; simp [corrV, results, Try.results14, go_sem, e0, e1, fe0, fe1, lte]) rfl ⟨rfl, ?_⟩
      repeat (first | exact HB.out | (refine Below.setCell ?_ (by first | omega | (simp; done) | (simp; omega)) _) | (refine Below.alloc ?_ (by first | omega | (simp; done) | (simp; omega)) _) | (refine below_drewN ?_ _))
  · have h3 : inS p1 p2 0 1073741824 = false := by simpa using h1
    rw [if_neg (by rw [h3]; simp)] at hR
    have HR := hide hR
    clear hR
    go_enter Try.func14, Try.ntmps14
    have HB := hide (Below.refl w.heap.size w)
    go_wp2_with fail
    refine at_world fun w1 hW => ?_
    have bq0 : Blk w1 w.heap.size 23 #[.int .i64 p1, .int .i64 p2] := by rw [hW]; exact ((Blk.new _ _ _).alloc _).alloc _
    have bq1 : Blk w1 (w.heap.size + 1) 23 #[.int .i64 g1, .int .i64 g2] := by rw [hW]; exact (blk_new_at (by simp)).alloc _
    have bq2 : Blk w1 (w.heap.size + 2) 23 #[.int .i64 0, .int .i64 0] := by rw [hW]; exact blk_new_at (by simp)
    have LW : Later w w1 := by rw [hW]; exact ((((Below.refl _ _).alloc (Nat.le_refl _) _).alloc (by simp; try omega) _).alloc (by simp; try omega) _)
    have szW : w1.heap.size = w.heap.size + 3 := by rw [hW]; simp
    clear hW
    replace HB := hide (onward HB.out LW)
    have Hp := hide bq0
    have Hg := hide bq1
    have Ho := hide bq2
    clear bq0 bq1 bq2 LW szW
    refine (RefValid_any _ _ _ _ _).mono ?_
    rintro e w2 ⟨rfl, hb⟩
    replace HB := hide (onward HB.out hb)
    replace Hp := hide (blk_later Hp.out hb)
    replace Hg := hide (blk_later Hg.out hb)
    replace Ho := hide (blk_later Ho.out hb)
    clear hb
    rw [h3]
    obtain ⟨e0, e1⟩ := Ho.out.c2
    have lte := Ho.out.lt
    have fe0 := Ho.out.frozen 0
    have fe1 := Ho.out.frozen 1
    go_wp2
    refine bodyPost_ret (v := corrV r) (by rw [HR.out]; simp [corrV, results, Try.results14, go_sem, e0, e1, fe0, fe1, lte]) rfl ⟨rfl, ?_⟩
    repeat (first | exact HB.out | (refine Below.setCell ?_ (by first | omega | (simp; done) | (simp; omega)) _) | (refine Below.alloc ?_ (by first | omega | (simp; done) | (simp; omega)) _) | (refine below_drewN ?_ _))
end Go.Proofs.Ytiggefmckomilaa
