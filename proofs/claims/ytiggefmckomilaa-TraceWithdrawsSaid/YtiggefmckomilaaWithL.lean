/-
  Corrected powers: trace's and the reference's.
  The chapter's examples of books: what they answer.
  The law TraceWithdraws returns true.
-/
import Derived.Test.YtiggefmckomilaaRefDivs
import Derived.Test.YtiggefmckomilaaMapV
import Derived.Test.YtiggefmckomilaaActF
set_option linter.unusedSimpArgs false
set_option linter.unusedVariables false
namespace Go.Proofs.Ytiggefmckomilaa
open Go Go.RowKit

theorem RefValid_any (a b lo hi : Int) (w : World) :
    Calls Try.prog 55 #[.agg #[.int .i64 a, .int .i64 b], .int .i64 lo, .int .i64 hi] w fun e w' => e = .returned (.bool (inS a b lo hi)) ∧ Below w.heap.size w w' := by
  by_cases h1 : a ≤ b <;> by_cases h2 : lo ≤ a <;> by_cases h3 : b ≤ hi
  all_goals
    go_enter Try.func55, Try.ntmps55
    go_wp2
    go_ret
    exact ⟨by simp [inS, *], (Below.refl _ _).alloc (Nat.le_refl _) _⟩
def correctR (p g : Int × Int) : (Int × Int) × Int :=
  if (inS p.1 p.2 0 1073741824 && inS g.1 g.2 1 1000000) = true then ((min 1073741824 (1000 * p.1 / g.2), min 1073741824 (upD (1000 * p.2) g.1)), 0) else ((0, 0), 3)
def corrV (r : (Int × Int) × Int) : Value := .tuple #[.agg #[.int .i64 r.1.1, .int .i64 r.1.2], .int .i64 r.2]
theorem upD_cdiv {a b : Int} (h : 0 < b) : upD a b = cdiv a b := (cdiv_eq h).symm

set_option maxHeartbeats 1000000 in
set_option maxRecDepth 100000 in
theorem Correct_any (p1 p2 g1 g2 : Int) (w : World) :
    Calls Try.prog 13 #[.agg #[.int .i64 p1, .int .i64 p2], .agg #[.int .i64 g1, .int .i64 g2]] w fun e w' => e = .returned (corrV (correctR (p1, p2) (g1, g2))) ∧ Below w.heap.size w w' := by
  have hR : correctR (p1, p2) (g1, g2) = if (inS p1 p2 0 1073741824 && inS g1 g2 1 1000000) = true then ((min 1073741824 (1000 * p1 / g2), min 1073741824 (upD (1000 * p2) g1)), 0) else ((0, 0), 3) := rfl
  generalize correctR (p1, p2) (g1, g2) = r at *
  by_cases h1 : inS p1 p2 0 1073741824 = true
  · by_cases h2 : inS g1 g2 1 1000000 = true
    · rw [if_pos (by rw [h1, h2]; rfl)] at hR
      obtain ⟨a1, a2, a3⟩ := inS_iff.1 h1
      obtain ⟨b1, b2, b3⟩ := inS_iff.1 h2
      have k1 : 0 ≤ 1000 * p1 / g2 := Int.ediv_nonneg (by omega) (by omega)
      have k2 : 1000 * p1 / g2 ≤ 1000 * p1 := Int.ediv_le_self _ (by omega)
      have hu := fun W => up_any (1000 * p2) g1 W (by omega) (by omega) (by omega) (by omega)
      have hu2 := fun W => Up_any (1000 * p2) g1 W (by omega) (by omega) (by omega) (by omega)
      have hd := fun W => Down_any (1000 * p1) g2 W (by omega) (by omega) (by omega) (by omega)
      rw [← upD_cdiv (by omega)] at hu2
      obtain ⟨u, hue⟩ : ∃ u, upD (1000 * p2) g1 = u := ⟨_, rfl⟩
      rw [hue] at hu hu2 hR
      obtain ⟨n1, hn1⟩ : ∃ n1, min 1073741824 (1000 * p1 / g2) = n1 := ⟨_, rfl⟩
      obtain ⟨n2, hn2⟩ : ∃ n2, min 1073741824 u = n2 := ⟨_, rfl⟩
      rw [hn1, hn2] at hR
      have hn1' : (if 1000 * p1 / g2 < 1073741824 then 1000 * p1 / g2 else 1073741824) = n1 := by rw [← hn1]; split <;> omega
      have hn2' : (if u < 1073741824 then u else 1073741824) = n2 := by rw [← hn2]; split <;> omega
      clear hue
      have Hu := hide hu
      have Hu2 := hide hu2
      have Hd := hide hd
      have HR := hide hR
      clear hu hu2 hd hR
      go_enter Try.func13, Try.ntmps13
      have HB := hide (Below.refl w.heap.size w)
      go_wp2_with fail
      refine at_world fun w1 hW => ?_
      have bq0 : Blk w1 w.heap.size 23 #[.int .i64 p1, .int .i64 p2] := by rw [hW]; exact ((Blk.new _ _ _).alloc _).alloc _
      have bq1 : Blk w1 (w.heap.size + 1) 23 #[.int .i64 g1, .int .i64 g2] := by rw [hW]; exact (blk_new_at (by simp)).alloc _
      have bq2 : Blk w1 (w.heap.size + 2) 23 #[.int .i64 0, .int .i64 0] := by rw [hW]; exact blk_new_at (by simp)
      have LW : Later w w1 := by rw [hW]; exact ((((Below.refl _ _).alloc (Nat.le_refl _) _).alloc (by simp; try omega) _).alloc (by simp; try omega) _)
      have szW : w1.heap.size = w.heap.size + 3 := by rw [hW]; simp
      clear hW
      replace HB := hide (onward HB.out LW)
      have Hp := hide bq0
      have Hg := hide bq1
      have Ho := hide bq2
      clear bq0 bq1 bq2 LW szW
      refine (inside_any _ _ _ _ _).mono ?_
      rintro e w2 ⟨rfl, hb⟩
      replace HB := hide (onward HB.out hb)
      replace Hp := hide (blk_later Hp.out hb)
      replace Hg := hide (blk_later Hg.out hb)
      replace Ho := hide (blk_later Ho.out hb)
      clear hb
      rw [h1]
      obtain ⟨y0, y1⟩ := Hg.out.c2
      have lty := Hg.out.lt
      go_wp2_with fail
      refine (inside_any _ _ _ _ _).mono ?_
      rintro e w3 ⟨rfl, hb⟩
      replace HB := hide (onward HB.out hb)
      replace Hp := hide (blk_later Hp.out hb)
      replace Hg := hide (blk_later Hg.out hb)
      replace Ho := hide (blk_later Ho.out hb)
      clear hb y0 y1 lty
      rw [h2]
      obtain ⟨y0, y1⟩ := Hg.out.c2
      have lty := Hg.out.lt
      obtain ⟨x0, x1⟩ := Hp.out.c2
      have ltx := Hp.out.lt
      go_wp2_with fail
      have lto := Ho.out.lt
      apply wp_region_F (w0 := w3) [[], [0], [0, 1], [], [3], [0, 1, 2, 3, 4], [0, 1, 2, 3, 4, 5], [], [7], [7, 8], [], [10], [7, 8, 9, 10, 11], [7, 8, 9, 10, 11, 12], [0, 1, 2, 3, 4, 5, 6, 7, 8, 9, 10, 11, 12, 13], [0, 1, 2, 3, 4, 5, 6, 7, 8, 9, 10, 11, 12, 13, 14], [0, 1, 2, 3, 4, 5, 6, 7, 8, 9, 10, 11, 12, 13, 14, 15]] [true, true, true, true, true, true, true, true, true, true, true, true, true, true, true, false, false] [false, false, false, false, false, false, false, false, false, false, false, false, false, false, false, false, true] [⟨15, none, [], []⟩] [(15, (w.heap.size+2))] [15] (fun ixq y => match ixq with | 15 => undef | _ => undef) (fun ixq x F wq => match ixq with | 15 => F (w.heap.size+2) ∧ Blk wq (w.heap.size+2) 23 #[.int .i64 n1, .int .i64 n2] | _ => True) (fun a x => (a).put (none) (undef)) (by kernel_rfl) (by kernel_rfl) (by kernel_rfl) (fun _ => rfl) [27] (by kernel_rfl) (fills_lt1 (by omega)) fills_ne1
      · intro x D hD
        have hne := hD.some
        have k0 := liftS hD x0 (by exact early_all (by first | assumption | omega) (by rfl))
        have k1 := liftS hD x1 (by exact early_all (by first | assumption | omega) (by rfl))
        have k2 := liftS hD y0 (by exact early_all (by first | assumption | omega) (by rfl))
        have k3 := liftS hD y1 (by exact early_all (by first | assumption | omega) (by rfl))
        simp only [takeOps, Act.put, List.setIfInBounds_toArray, List.set_cons_succ, List.set_cons_zero]
        repeat (go_big_quiet_step ((first | (go_at_call 54; exact calls_same _ (Hu.out _)) | (go_at_call 56; exact calls_same _ (Hd.out _)) | (go_at_call 57; exact calls_same _ (Hu2.out _)))))
        exact wpQuiet_nil rfl
      · intro x D hD
        have hne := hD.some
        simp only [takeOps, Act.put, List.setIfInBounds_toArray, List.set_cons_succ, List.set_cons_zero]
        repeat (go_big_quiet_step ((first | (go_at_call 54; exact calls_same _ (Hu.out _)) | (go_at_call 56; exact calls_same _ (Hd.out _)) | (go_at_call 57; exact calls_same _ (Hu2.out _)))))
        exact wpQuiet_nil rfl
      · intro d hd x x'
        simp only [List.mem_cons, List.not_mem_nil, or_false] at hd
        rcases hd with rfl
        all_goals rfl
      · refine ⟨?_, trivial⟩
        · exact obl_fill 23 23 4 29 (w.heap.size+2) _ (fun x => #[.int .i64 n1, .int .i64 n2]) (by kernel_rfl) (fun _ => rfl) (fun _ => rfl) Ho.out eb_fill1 (by simp [wrF]) (fun _ => by kernel_rfl) (fun _ => rfl) (fun _ => by simp [Value.oneCell']) (fun _ => rfl) (fun _ _ _ _ h1 h2 => ⟨h1, h2⟩)
      · refine ⟨?_, trivial⟩
        · exact owe_fill (w.heap.size+2) 23 (fun x => #[.int .i64 n1, .int .i64 n2]) (fun _ _ _ => rfl) (fun _ _ _ => rfl)
      intro xr w4 F hK hlv1
      obtain ⟨fct15, -⟩ := hlv1
      replace fct15 : (F 15) (w.heap.size+2) ∧ Blk w4 (w.heap.size+2) 23 #[.int .i64 n1, .int .i64 n2] := fct15 rfl
      have hbr := below_kept HB.out HB.out.size hK (by simp)
      have ho4 := fct15.2
      obtain ⟨e0, e1⟩ := ho4.c2
      have fe0 := ho4.frozen 0
      have fe1 := ho4.frozen 1
      have lte := ho4.lt
      go_wp2
      refine bodyPost_ret (v := corrV r) (by rw [HR.out]; simp [corrV, results, Try.results13, go_sem, e0, e1, fe0, fe1, lte]) rfl ⟨rfl, hbr⟩
    · have h3 : inS g1 g2 1 1000000 = false := by simpa using h2
      rw [if_neg (by rw [h3]; simp)] at hR
      have HR := hide hR
      clear hR
      go_enter Try.func13, Try.ntmps13
      have HB := hide (Below.refl w.heap.size w)
      go_wp2_with fail
      refine at_world fun w1 hW => ?_
      have bq0 : Blk w1 w.heap.size 23 #[.int .i64 p1, .int .i64 p2] := by rw [hW]; exact ((Blk.new _ _ _).alloc _).alloc _
      have bq1 : Blk w1 (w.heap.size + 1) 23 #[.int .i64 g1, .int .i64 g2] := by rw [hW]; exact (blk_new_at (by simp)).alloc _
      have bq2 : Blk w1 (w.heap.size + 2) 23 #[.int .i64 0, .int .i64 0] := by rw [hW]; exact blk_new_at (by simp)
      have LW : Later w w1 := by rw [hW]; exact ((((Below.refl _ _).alloc (Nat.le_refl _) _).alloc (by simp; try omega) _).alloc (by simp; try omega) _)
      have szW : w1.heap.size = w.heap.size + 3 := by rw [hW]; simp
      clear hW
      replace HB := hide (onward HB.out LW)
      have Hp := hide bq0
      have Hg := hide bq1
      have Ho := hide bq2
      clear bq0 bq1 bq2 LW szW
      refine (inside_any _ _ _ _ _).mono ?_
      rintro e w2 ⟨rfl, hb⟩
      replace HB := hide (onward HB.out hb)
      replace Hp := hide (blk_later Hp.out hb)
      replace Hg := hide (blk_later Hg.out hb)
      replace Ho := hide (blk_later Ho.out hb)
      clear hb
      rw [h1]
      obtain ⟨y0, y1⟩ := Hg.out.c2
      have lty := Hg.out.lt
      go_wp2_with fail
      refine (inside_any _ _ _ _ _).mono ?_
      rintro e w3 ⟨rfl, hb⟩
      replace HB := hide (onward HB.out hb)
      replace Hp := hide (blk_later Hp.out hb)
      replace Hg := hide (blk_later Hg.out hb)
      replace Ho := hide (blk_later Ho.out hb)
      clear hb y0 y1 lty
      rw [h3]
      obtain ⟨e0, e1⟩ := Ho.out.c2
      have lte := Ho.out.lt
      have fe0 := Ho.out.frozen 0
      have fe1 := Ho.out.frozen 1
      go_wp2
      refine bodyPost_ret (v := corrV r) (by rw [HR.out]; simp [corrV, results, Try.results13, go_sem, e0, e1, fe0, fe1, lte]) rfl ⟨rfl, ?_⟩
      repeat (first | exact HB.out | (refine Below.setCell ?_ (by first | omega | (simp; done) | (simp; omega)) _) | (refine Below.alloc ?_ (by first | omega | (simp; done) | (simp; omega)) _) | (refine below_drewN ?_ _))
  · have h3 : inS p1 p2 0 1073741824 = false := by simpa using h1
    rw [if_neg (by rw [h3]; simp)] at hR
    have HR := hide hR
    clear hR
    go_enter Try.func13, Try.ntmps13
    have HB := hide (Below.refl w.heap.size w)
    go_wp2_with fail
    refine at_world fun w1 hW => ?_
    have bq0 : Blk w1 w.heap.size 23 #[.int .i64 p1, .int .i64 p2] := by rw [hW]; exact ((Blk.new _ _ _).alloc _).alloc _
    have bq1 : Blk w1 (w.heap.size + 1) 23 #[.int .i64 g1, .int .i64 g2] := by rw [hW]; exact (blk_new_at (by simp)).alloc _
    have bq2 : Blk w1 (w.heap.size + 2) 23 #[.int .i64 0, .int .i64 0] := by rw [hW]; exact blk_new_at (by simp)
    have LW : Later w w1 := by rw [hW]; exact ((((Below.refl _ _).alloc (Nat.le_refl _) _).alloc (by simp; try omega) _).alloc (by simp; try omega) _)
    have szW : w1.heap.size = w.heap.size + 3 := by rw [hW]; simp
    clear hW
    replace HB := hide (onward HB.out LW)
    have Hp := hide bq0
    have Hg := hide bq1
    have Ho := hide bq2
    clear bq0 bq1 bq2 LW szW
    refine (inside_any _ _ _ _ _).mono ?_
    rintro e w2 ⟨rfl, hb⟩
    replace HB := hide (onward HB.out hb)
    replace Hp := hide (blk_later Hp.out hb)
    replace Hg := hide (blk_later Hg.out hb)
    replace Ho := hide (blk_later Ho.out hb)
    clear hb
    rw [h3]
    obtain ⟨e0, e1⟩ := Ho.out.c2
    have lte := Ho.out.lt
    have fe0 := Ho.out.frozen 0
    have fe1 := Ho.out.frozen 1
    go_wp2
    refine bodyPost_ret (v := corrV r) (by rw [HR.out]; simp [corrV, results, Try.results13, go_sem, e0, e1, fe0, fe1, lte]) rfl ⟨rfl, ?_⟩
    repeat (first | exact HB.out | (refine Below.setCell ?_ (by first | omega | (simp; done) | (simp; omega)) _) | (refine Below.alloc ?_ (by first | omega | (simp; done) | (simp; omega)) _) | (refine below_drewN ?_ _))
set_option maxHeartbeats 1000000 in
set_option maxRecDepth 100000 in
theorem RefCorrect_any (p1 p2 g1 g2 : Int) (w : World) :
    Calls Try.prog 14 #[.agg #[.int .i64 p1, .int .i64 p2], .agg #[.int .i64 g1, .int .i64 g2]] w fun e w' => e = .returned (corrV (correctR (p1, p2) (g1, g2))) ∧ Below w.heap.size w w' := by
  have hR : correctR (p1, p2) (g1, g2) = if (inS p1 p2 0 1073741824 && inS g1 g2 1 1000000) = true then ((min 1073741824 (1000 * p1 / g2), min 1073741824 (upD (1000 * p2) g1)), 0) else ((0, 0), 3) := rfl
  generalize correctR (p1, p2) (g1, g2) = r at *
  by_cases h1 : inS p1 p2 0 1073741824 = true
  · by_cases h2 : inS g1 g2 1 1000000 = true
    · rw [if_pos (by rw [h1, h2]; rfl)] at hR
      obtain ⟨a1, a2, a3⟩ := inS_iff.1 h1
      obtain ⟨b1, b2, b3⟩ := inS_iff.1 h2
      have k1 : 0 ≤ 1000 * p1 / g2 := Int.ediv_nonneg (by omega) (by omega)
      have k2 : 1000 * p1 / g2 ≤ 1000 * p1 := Int.ediv_le_self _ (by omega)
      have hu := fun W => up_any (1000 * p2) g1 W (by omega) (by omega) (by omega) (by omega)
      have hu2 := fun W => Up_any (1000 * p2) g1 W (by omega) (by omega) (by omega) (by omega)
      have hd := fun W => Down_any (1000 * p1) g2 W (by omega) (by omega) (by omega) (by omega)
      rw [← upD_cdiv (by omega)] at hu2
      obtain ⟨u, hue⟩ : ∃ u, upD (1000 * p2) g1 = u := ⟨_, rfl⟩
      rw [hue] at hu hu2 hR
      obtain ⟨n1, hn1⟩ : ∃ n1, min 1073741824 (1000 * p1 / g2) = n1 := ⟨_, rfl⟩
      obtain ⟨n2, hn2⟩ : ∃ n2, min 1073741824 u = n2 := ⟨_, rfl⟩
      rw [hn1, hn2] at hR
      have hn1' : (if 1000 * p1 / g2 < 1073741824 then 1000 * p1 / g2 else 1073741824) = n1 := by rw [← hn1]; split <;> omega
      have hn2' : (if u < 1073741824 then u else 1073741824) = n2 := by rw [← hn2]; split <;> omega
      clear hue
      have Hu := hide hu
      have Hu2 := hide hu2
      have Hd := hide hd
      have HR := hide hR
      clear hu hu2 hd hR
      go_enter Try.func14, Try.ntmps14
      have HB := hide (Below.refl w.heap.size w)
      go_wp2_with fail
      refine at_world fun w1 hW => ?_
      have bq0 : Blk w1 w.heap.size 23 #[.int .i64 p1, .int .i64 p2] := by rw [hW]; exact ((Blk.new _ _ _).alloc _).alloc _
      have bq1 : Blk w1 (w.heap.size + 1) 23 #[.int .i64 g1, .int .i64 g2] := by rw [hW]; exact (blk_new_at (by simp)).alloc _
      have bq2 : Blk w1 (w.heap.size + 2) 23 #[.int .i64 0, .int .i64 0] := by rw [hW]; exact blk_new_at (by simp)
      have LW : Later w w1 := by rw [hW]; exact ((((Below.refl _ _).alloc (Nat.le_refl _) _).alloc (by simp; try omega) _).alloc (by simp; try omega) _)
      have szW : w1.heap.size = w.heap.size + 3 := by rw [hW]; simp
      clear hW
      replace HB := hide (onward HB.out LW)
      have Hp := hide bq0
      have Hg := hide bq1
      have Ho := hide bq2
      clear bq0 bq1 bq2 LW szW
      refine (RefValid_any _ _ _ _ _).mono ?_
      rintro e w2 ⟨rfl, hb⟩
      replace HB := hide (onward HB.out hb)
      replace Hp := hide (blk_later Hp.out hb)
      replace Hg := hide (blk_later Hg.out hb)
      replace Ho := hide (blk_later Ho.out hb)
      clear hb
      rw [h1]
      obtain ⟨y0, y1⟩ := Hg.out.c2
      have lty := Hg.out.lt
      go_wp2_with fail
      refine (RefValid_any _ _ _ _ _).mono ?_
      rintro e w3 ⟨rfl, hb⟩
      replace HB := hide (onward HB.out hb)
      replace Hp := hide (blk_later Hp.out hb)
      replace Hg := hide (blk_later Hg.out hb)
      replace Ho := hide (blk_later Ho.out hb)
      clear hb y0 y1 lty
      rw [h2]
      obtain ⟨y0, y1⟩ := Hg.out.c2
      have lty := Hg.out.lt
      obtain ⟨x0, x1⟩ := Hp.out.c2
      have ltx := Hp.out.lt
      go_wp2_with fail
      have lto := Ho.out.lt
      apply wp_region_F (w0 := w3) [[], [0], [0, 1], [], [3], [0, 1, 2, 3, 4], [0, 1, 2, 3, 4, 5], [], [7], [7, 8], [], [10], [0, 1, 2, 3, 4, 5, 7, 8, 9, 10, 11], [0, 1, 2, 3, 4, 5, 7, 8, 9, 10, 11, 12], [0, 1, 2, 3, 4, 5, 6, 7, 8, 9, 10, 11, 12, 13], [0, 1, 2, 3, 4, 5, 6, 7, 8, 9, 10, 11, 12, 13, 14], [0, 1, 2, 3, 4, 5, 6, 7, 8, 9, 10, 11, 12, 13, 14, 15]] [true, true, true, true, true, true, true, true, true, true, true, true, true, true, true, false, false] [false, false, false, false, false, false, false, false, false, false, false, false, false, false, false, false, true] [⟨15, none, [], []⟩] [(15, (w.heap.size+2))] [15] (fun ixq y => match ixq with | 15 => undef | _ => undef) (fun ixq x F wq => match ixq with | 15 => F (w.heap.size+2) ∧ Blk wq (w.heap.size+2) 23 #[.int .i64 n1, .int .i64 n2] | _ => True) (fun a x => (a).put (none) (undef)) (by kernel_rfl) (by kernel_rfl) (by kernel_rfl) (fun _ => rfl) [20, 27] (by kernel_rfl) (fills_lt1 (by omega)) fills_ne1
      · intro x D hD
        have hne := hD.some
        have k0 := liftS hD x0 (by exact early_all (by first | assumption | omega) (by rfl))
        have k1 := liftS hD x1 (by exact early_all (by first | assumption | omega) (by rfl))
        have k2 := liftS hD y0 (by exact early_all (by first | assumption | omega) (by rfl))
        have k3 := liftS hD y1 (by exact early_all (by first | assumption | omega) (by rfl))
        simp only [takeOps, Act.put, List.setIfInBounds_toArray, List.set_cons_succ, List.set_cons_zero]
        repeat (go_big_quiet_step ((first | (go_at_call 54; exact calls_same _ (Hu.out _)) | (go_at_call 56; exact calls_same _ (Hd.out _)) | (go_at_call 57; exact calls_same _ (Hu2.out _)))))
        exact wpQuiet_nil rfl
      · intro x D hD
        have hne := hD.some
        simp only [takeOps, Act.put, List.setIfInBounds_toArray, List.set_cons_succ, List.set_cons_zero]
        repeat (go_big_quiet_step ((first | (go_at_call 54; exact calls_same _ (Hu.out _)) | (go_at_call 56; exact calls_same _ (Hd.out _)) | (go_at_call 57; exact calls_same _ (Hu2.out _)))))
        exact wpQuiet_nil rfl
      · intro d hd x x'
        simp only [List.mem_cons, List.not_mem_nil, or_false] at hd
        rcases hd with rfl | rfl
        all_goals rfl
      · refine ⟨?_, trivial⟩
        · exact obl_fill 23 23 4 29 (w.heap.size+2) _ (fun x => #[.int .i64 n1, .int .i64 n2]) (by kernel_rfl) (fun _ => rfl) (fun _ => rfl) Ho.out eb_fill1 (by simp [wrF]) (fun _ => by kernel_rfl) (fun _ => rfl) (fun _ => by simp [Value.oneCell']) (fun _ => rfl) (fun _ _ _ _ h1 h2 => ⟨h1, h2⟩)
      · refine ⟨?_, trivial⟩
        · exact owe_fill (w.heap.size+2) 23 (fun x => #[.int .i64 n1, .int .i64 n2]) (fun _ _ _ => rfl) (fun _ _ _ => rfl)
      intro xr w4 F hK hlv2
      obtain ⟨fct15, -⟩ := hlv2
      replace fct15 : (F 15) (w.heap.size+2) ∧ Blk w4 (w.heap.size+2) 23 #[.int .i64 n1, .int .i64 n2] := fct15 rfl
      have hbr := below_kept HB.out HB.out.size hK (by simp)
      have ho4 := fct15.2
      obtain ⟨e0, e1⟩ := ho4.c2
      have fe0 := ho4.frozen 0
      have fe1 := ho4.frozen 1
      have lte := ho4.lt
      go_wp2
      refine bodyPost_ret (v := corrV r) (by rw [HR.out]; simp [corrV, results, Try.results14, go_sem, e0, e1, fe0, fe1, lte]) rfl ⟨rfl, hbr⟩
    · have h3 : inS g1 g2 1 1000000 = false := by simpa using h2
      rw [if_neg (by rw [h3]; simp)] at hR
      have HR := hide hR
      clear hR
      go_enter Try.func14, Try.ntmps14
      have HB := hide (Below.refl w.heap.size w)
      go_wp2_with fail
      refine at_world fun w1 hW => ?_
      have bq0 : Blk w1 w.heap.size 23 #[.int .i64 p1, .int .i64 p2] := by rw [hW]; exact ((Blk.new _ _ _).alloc _).alloc _
      have bq1 : Blk w1 (w.heap.size + 1) 23 #[.int .i64 g1, .int .i64 g2] := by rw [hW]; exact (blk_new_at (by simp)).alloc _
      have bq2 : Blk w1 (w.heap.size + 2) 23 #[.int .i64 0, .int .i64 0] := by rw [hW]; exact blk_new_at (by simp)
      have LW : Later w w1 := by rw [hW]; exact ((((Below.refl _ _).alloc (Nat.le_refl _) _).alloc (by simp; try omega) _).alloc (by simp; try omega) _)
      have szW : w1.heap.size = w.heap.size + 3 := by rw [hW]; simp
      clear hW
      replace HB := hide (onward HB.out LW)
      have Hp := hide bq0
      have Hg := hide bq1
      have Ho := hide bq2
      clear bq0 bq1 bq2 LW szW
      refine (RefValid_any _ _ _ _ _).mono ?_
      rintro e w2 ⟨rfl, hb⟩
      replace HB := hide (onward HB.out hb)
      replace Hp := hide (blk_later Hp.out hb)
      replace Hg := hide (blk_later Hg.out hb)
      replace Ho := hide (blk_later Ho.out hb)
      clear hb
      rw [h1]
      obtain ⟨y0, y1⟩ := Hg.out.c2
      have lty := Hg.out.lt
      go_wp2_with fail
      refine (RefValid_any _ _ _ _ _).mono ?_
      rintro e w3 ⟨rfl, hb⟩
      replace HB := hide (onward HB.out hb)
      replace Hp := hide (blk_later Hp.out hb)
      replace Hg := hide (blk_later Hg.out hb)
      replace Ho := hide (blk_later Ho.out hb)
      clear hb y0 y1 lty
      rw [h3]
      obtain ⟨e0, e1⟩ := Ho.out.c2
      have lte := Ho.out.lt
      have fe0 := Ho.out.frozen 0
      have fe1 := Ho.out.frozen 1
      go_wp2
      refine bodyPost_ret (v := corrV r) (by rw [HR.out]; simp [corrV, results, Try.results14, go_sem, e0, e1, fe0, fe1, lte]) rfl ⟨rfl, ?_⟩
      repeat (first | exact HB.out | (refine Below.setCell ?_ (by first | omega | (simp; done) | (simp; omega)) _) | (refine Below.alloc ?_ (by first | omega | (simp; done) | (simp; omega)) _) | (refine below_drewN ?_ _))
  · have h3 : inS p1 p2 0 1073741824 = false := by simpa using h1
    rw [if_neg (by rw [h3]; simp)] at hR
    have HR := hide hR
    clear hR
    go_enter Try.func14, Try.ntmps14
    have HB := hide (Below.refl w.heap.size w)
    go_wp2_with fail
    refine at_world fun w1 hW => ?_
    have bq0 : Blk w1 w.heap.size 23 #[.int .i64 p1, .int .i64 p2] := by rw [hW]; exact ((Blk.new _ _ _).alloc _).alloc _
    have bq1 : Blk w1 (w.heap.size + 1) 23 #[.int .i64 g1, .int .i64 g2] := by rw [hW]; exact (blk_new_at (by simp)).alloc _
    have bq2 : Blk w1 (w.heap.size + 2) 23 #[.int .i64 0, .int .i64 0] := by rw [hW]; exact blk_new_at (by simp)
    have LW : Later w w1 := by rw [hW]; exact ((((Below.refl _ _).alloc (Nat.le_refl _) _).alloc (by simp; try omega) _).alloc (by simp; try omega) _)
    have szW : w1.heap.size = w.heap.size + 3 := by rw [hW]; simp
    clear hW
    replace HB := hide (onward HB.out LW)
    have Hp := hide bq0
    have Hg := hide bq1
    have Ho := hide bq2
    clear bq0 bq1 bq2 LW szW
    refine (RefValid_any _ _ _ _ _).mono ?_
    rintro e w2 ⟨rfl, hb⟩
    replace HB := hide (onward HB.out hb)
    replace Hp := hide (blk_later Hp.out hb)
    replace Hg := hide (blk_later Hg.out hb)
    replace Ho := hide (blk_later Ho.out hb)
    clear hb
    rw [h3]
    obtain ⟨e0, e1⟩ := Ho.out.c2
    have lte := Ho.out.lt
    have fe0 := Ho.out.frozen 0
    have fe1 := Ho.out.frozen 1
    go_wp2
    refine bodyPost_ret (v := corrV r) (by rw [HR.out]; simp [corrV, results, Try.results14, go_sem, e0, e1, fe0, fe1, lte]) rfl ⟨rfl, ?_⟩
    repeat (first | exact HB.out | (refine Below.setCell ?_ (by first | omega | (simp; done) | (simp; omega)) _) | (refine Below.alloc ?_ (by first | omega | (simp; done) | (simp; omega)) _) | (refine below_drewN ?_ _))
end Go.Proofs.Ytiggefmckomilaa
namespace Go.Proofs.Ytiggefmckomilaa
open Go Go.RowKit

/-- Things that a call has made lie beside those that were there. -/
theorem Mem.join {w0 W W' : World} {ts ts' : List Th} (h : Mem w0 ts W) (h' : Mem W ts' W') : Mem w0 (ts' ++ ts) W' := by
  have hl := h.later h'.below
  have hlt := h.lt
  have hsz := h.size
  refine ⟨fun t ht => ?_, ?_, fun k hk => ?_, hl.below⟩
  · rcases List.mem_append.1 ht with ht | ht
    · exact h'.all t ht
    · exact hl.all t ht
  · unfold fps
    rw [List.flatMap_append, List.nodup_append]
    exact ⟨h'.nodup, h.nodup, fun a ha b hb e => by
      subst e
      have := h'.low a ha
      have := hlt a hb
      omega⟩
  · unfold fps at hk
    rw [List.flatMap_append] at hk
    rcases List.mem_append.1 hk with hk | hk
    · have := h'.low k hk; omega
    · exact h.low k hk
def kb0 : List Ent := [exB, exA, exR]
def kb1 : List Ent := exT :: kb0
def kb2 : List Ent := .test ⟨⟨#[114]⟩, ⟨#[97]⟩, 172800, 2500, 2500⟩ :: kb1
def kb3 : List Ent := .turn ⟨#[98]⟩ true :: kb2
def kb4 : List Ent := .turn ⟨#[98]⟩ false :: kb3
def kb5 : List Ent := .turn ⟨#[97]⟩ true :: kb4
def tmA (k : Nat) : Int := if k = 0 then 0 else if k = 1 then 86400 else 86401
def loA (k : Nat) : Int := if k = 0 then 1000 else if k = 1 then 999 else 998
def hiA (k : Nat) : Int := if k = 0 then 1010 else if k = 1 then 1011 else 1012
def tmB (k : Nat) : Int := if k = 0 then 172800 else if k = 1 then 259200 else 0
def loB (k : Nat) : Int := if k = 0 then 1972 else if k = 1 then 1970 else 1968
def hiB (k : Nat) : Int := if k = 0 then 2029 else if k = 1 then 2031 else 2033
theorem k3 {k : Nat} (h : k < 3) : k = 0 ∨ k = 1 ∨ k = 2 := by omega
theorem timA {k : Nat} (h : k < 3) : (#[.int .i64 0, .int .i64 86400, .int .i64 86401] : Array Value)[k]? = some (.int .i64 (tmA k)) := by rcases k3 h with rfl | rfl | rfl <;> rfl
theorem timB {k : Nat} (h : k < 3) : (#[.int .i64 172800, .int .i64 259200, .int .i64 0] : Array Value)[k]? = some (.int .i64 (tmB k)) := by rcases k3 h with rfl | rfl | rfl <;> rfl
theorem spnA {k : Nat} (h : k < 3) : (#[.int .i64 1000, .int .i64 1010, .int .i64 999, .int .i64 1011, .int .i64 998, .int .i64 1012] : Array Value)[k * 2]? = some (.int .i64 (loA k)) ∧ (#[.int .i64 1000, .int .i64 1010, .int .i64 999, .int .i64 1011, .int .i64 998, .int .i64 1012] : Array Value)[k * 2 + 1]? = some (.int .i64 (hiA k)) := by rcases k3 h with rfl | rfl | rfl <;> exact ⟨rfl, rfl⟩
theorem spnB {k : Nat} (h : k < 3) : (#[.int .i64 1972, .int .i64 2029, .int .i64 1970, .int .i64 2031, .int .i64 1968, .int .i64 2033] : Array Value)[k * 2]? = some (.int .i64 (loB k)) ∧ (#[.int .i64 1972, .int .i64 2029, .int .i64 1970, .int .i64 2031, .int .i64 1968, .int .i64 2033] : Array Value)[k * 2 + 1]? = some (.int .i64 (hiB k)) := by rcases k3 h with rfl | rfl | rfl <;> exact ⟨rfl, rfl⟩
theorem kn_val {k : Nat} (h : k < 3) : valueE kb0 ⟨#[97]⟩ (tmA k) = ((loA k, hiA k), 0) := by rcases k3 h with rfl | rfl | rfl <;> decide +kernel
theorem kn_stale : valueE kb0 ⟨#[97]⟩ 864001 = ((0, 0), 22) := by decide +kernel
theorem kn_t1 : testE kb0 ⟨⟨#[114]⟩, ⟨#[98]⟩, 172800, 998, 1012⟩ = 0 := by decide +kernel
theorem kn_gain {k : Nat} (h : k < 3) : gainE kb1 ⟨#[114]⟩ (tmB k) = ((loB k, hiB k), (0, 0), 0) := by rcases k3 h with rfl | rfl | rfl <;> decide +kernel
theorem kn_t2 : testE kb1 ⟨⟨#[114]⟩, ⟨#[97]⟩, 172800, 2500, 2500⟩ = 0 := by decide +kernel
theorem kn_l2 : ((testsT kb1).length : Int) = 1 := by decide +kernel
theorem kn_g2 : gainE kb2 ⟨#[114]⟩ 172800 = ((0, 0), (0, 1), 14) := by decide +kernel
theorem kn_dep : dependA kb2 ⟨#[97]⟩ = ([⟨#[97]⟩, ⟨#[98]⟩], [0, 1], 0) := by decide +kernel
theorem kn_w3 : turnE kb2 ⟨#[98]⟩ true = 0 := by decide +kernel
theorem kn_g3 : gainE kb3 ⟨#[114]⟩ 172800 = ((2470, 2506), (0, 0), 0) := by decide +kernel
theorem kn_ch : chainA kb3 0 = ([⟨#[98]⟩, ⟨#[97]⟩], 0) := by decide +kernel
theorem kn_w4 : turnE kb3 ⟨#[98]⟩ false = 0 := by decide +kernel
theorem kn_w5 : turnE kb4 ⟨#[97]⟩ true = 0 := by decide +kernel
theorem kn_g5 : gainE kb5 ⟨#[114]⟩ 0 = ((0, 0), (0, 0), 18) := by decide +kernel
theorem kn_v5 : valueE kb5 ⟨#[98]⟩ 86400 = ((0, 0), 22) := by decide +kernel
theorem kn_d5 : defineE kb5 ⟨⟨#[99]⟩, ⟨#[98]⟩, 1000, 1000, 86400, 864000, 0⟩ = 22 := by decide +kernel
theorem kn_len : (kb5.length : Int) = 8 := rfl
theorem kn_drop : kb5.drop (kb5.length - (4 : Int).toNat) = kb1 := rfl
theorem kn_g1 : gainE kb1 ⟨#[114]⟩ 172800 = ((1972, 2029), (0, 0), 0) := by decide +kernel
theorem kn_cor : correctR (100, 200) (1000, 1000) = ((100, 200), 0) := by decide +kernel
end Go.Proofs.Ytiggefmckomilaa
namespace Go.Proofs.Ytiggefmckomilaa
open Go Go.RowKit

set_option maxHeartbeats 8000000 in
set_option maxRecDepth 100000 in
theorem TraceWithdraws_any (ac : Nat → ActR) (A : Option Addr) (n c : Nat) (wh : Int) (w : World) (hrow : Rows_ w w.heap.size A n 8 (fun i => actL (ac i))) (hok : ∀ i, ActOk (ac i)) (hn : n ≤ maxLen) (h0 : 0 ≤ wh) (h255 : wh ≤ 255) :
    Calls Try.prog 8 #[.slice A n c, .int .u8 wh] w fun e w' => e = .returned (.bool true) ∧ Below w.heap.size w w' := by
  have hn63 : (n : Int) ≤ 9223372036854775807 := by unfold maxLen at hn; omega
  have hsm := small_any ac A n c 40 w hrow hok hn (by decide)
  obtain ⟨sb, hsb⟩ : ∃ b, smallB ac n 40 = b := ⟨_, rfl⟩
  rw [hsb] at hsm
  rw [show (((40 : Nat) : Int)) = 40 from rfl] at hsm
  cases sb with
  | false =>
    go_enter Try.func8, Try.ntmps8
    have HB := hide (Below.refl w.heap.size w)
    go_wp2_with fail
    refine hsm.mono ?_
    rintro e w' ⟨rfl, rfl⟩
    go_wp2_with fail
    refine (works_any _).mono ?_
    rintro e w2 ⟨rfl, hb⟩
    replace HB := hide (onward HB.out hb)
    clear hb
    go_wp2
    go_ret
    exact ⟨rfl, HB.out⟩
  | true =>
    have hn40 := (smallB_iff.1 hsb).1
    obtain ⟨i0, hii, hz0, hz1, hz2⟩ := info_parts strInfo
    have Hi := hide hii
    have Hz0 := hide hz0
    have Hz1 := hide hz1
    have Hz2 := hide hz2
    have Hrow := hide hrow
    have Hok := hide hok
    clear hii hz0 hz1 hz2 hrow hok
    clear hsb
    go_enter Try.func8, Try.ntmps8
    have HM := hide (Mem.start w)
    go_wp2_with fail
    refine hsm.mono ?_
    rintro e w' ⟨rfl, rfl⟩
    clear hsm
    go_wp2_with fail
    refine (New_any _).mono ?_
    rintro e w1 ⟨p, L, rfl, hb, hB, hL⟩
    have HM1 := hide ((HM.out.add (t := .book [] p L) hB hb hL).nilRow w'.heap.size 9 1)
    clear HM hb hB hL
    have HM := HM1
    clear HM1
    unfold ptrB
    go_wp2_with fail
    go_loopw [6, 7] (fun nv i wr => ∃ (k : Nat) (L : Lay), k ≤ n ∧ i = .int .i64 k ∧ Mem w' [.row w'.heap.size 9 1 nv (ordN (actsL ac k)).length (strV (ordN (actsL ac k))), .book (actsL ac k) p L] wr) (fun _ i _ => n - (intOf i).toNat)
    case atStart => exact ⟨0, L, Nat.zero_le _, rfl, HM.out⟩
    case round =>
      obtain ⟨k, L1, hkn, rfl, hM⟩ := hrel
      clear HM
      have HM := hide hM
      clear hM
      by_cases hk : k < n
      · have hk' : (k : Int) < n := by omega
        obtain ⟨Av, cv, rfl⟩ := own_shape2 (Mem.row_ HM.out 0 rfl)
        have hal := actsL_len ac k
        have hol := ord_len (actsL ac k)
        have hs : actsL ac (k + 1) = enterL (actsL ac k) (ac k) := rfl
        have hor := ord_enter (l := actsL ac k) (a := ac k)
        rw [← hs] at hor
        unfold isDef at hor
        obtain ⟨l, hl⟩ : ∃ l, actsL ac k = l := ⟨_, rfl⟩
        obtain ⟨l2, hl2⟩ : ∃ l2, actsL ac (k + 1) = l2 := ⟨_, rfl⟩
        rw [hl] at hal hol hor hs HM ⊢
        rw [hl2] at hs hor
        have Hl := hide hl
        have Hs := hide hs
        have Hl2 := hide hl2
        have Hor := hide hor
        clear hl hs hl2 hor
        obtain ⟨b, off, hA, hltb, hc⟩ := Hrow.out (by omega)
        have q0 := hc k hk 0 (.int .i64 (ac k).k) rfl
        have q1 := hc k hk 1 (.string (ac k).nm) rfl
        have q2 := hc k hk 2 (.string (ac k).pr) rfl
        have q3 := hc k hk 3 (.int .i64 (ac k).lo) rfl
        have q4 := hc k hk 4 (.int .i64 (ac k).hi) rfl
        have q5 := hc k hk 5 (.int .i64 (ac k).tm) rfl
        have q6 := hc k hk 6 (.int .i64 (ac k).un) rfl
        have q7 := hc k hk 7 (.int .i64 (ac k).n) rfl
        rw [Nat.add_zero] at q0
        have p0 := hide q0
        have p1 := hide q1
        rw [← HM.out.below.cell hltb] at q0 q1 q2 q3 q4 q5 q6 q7
        have ltq : b < wr.heap.size := Nat.lt_of_lt_of_le hltb HM.out.size
        have hen := enter_any l p L1 (ac k) wr (Mem.book_ HM.out 1 rfl) (Hok.out k)
        have hkk := (Hok.out k).k0
        have hkk2 := (Hok.out k).k1
        clear hc
        subst hA
        unfold actA actV ptrB at hen
        have Hen := hide hen
        clear hen
        obtain ⟨eb, heb⟩ : ∃ eb, enterB l (ac k) = eb := ⟨_, rfl⟩
        rw [heb] at Hen Hor
        go_wp2_with fail
        refine Hen.out.mono ?_
        rintro e w3 ⟨rfl, hp⟩
        obtain ⟨L2, hM2⟩ := HM.out.enterA 1 rfl hp
        clear q0 q1 q2 q3 q4 q5 q6 q7 ltq hp HM Hen
        rw [← Hs.out] at hM2
        have HM := hide (hM2 : Mem w' [.row w'.heap.size 9 1 (.slice Av (ordN l).length cv) (ordN l).length (strV (ordN l)), .book l2 p L2] w3)
        clear hM2
        obtain ⟨q, hq, hq1, hq2, hr⟩ := kind_mod (k := (ac k).k)
        obtain ⟨r, hr2⟩ : ∃ r, (ac k).k % 8 = r := ⟨_, rfl⟩
        rw [hr2] at hr Hor
        have hrb : 0 ≤ r ∧ r ≤ 7 := by omega
        have q0 := p0.out
        have q1 := p1.out
        rw [← HM.out.below.cell hltb] at q0 q1
        have ltq : b < w3.heap.size := Nat.lt_of_lt_of_le hltb HM.out.size
        clear hr2
        cases eb with
        | true =>
          by_cases h1 : r = 1
          · subst h1
            rw [show (if (true && decide ((1 : Int) = 1)) = true then [(ac k).nm] else []) = [(ac k).nm] from rfl] at Hor
            have hownM := Mem.row_ HM.out 0 rfl
            have hbaseM : w'.heap.size ≤ w3.heap.size := HM.out.size
            go_wp2_with (at_builtin; refine wpList_append_own_at _ rfl (.tmp 46) (.tmp 52) _ rfl w'.heap.size 9 i0 _ 1 16 Try.underlying36 Hi.out Hz0.out Hz1.out Hz2.out rfl (by decide) _ (ordN l).length (strV (ordN l)) rfl (hownM.alloc _) ⟨w3.heap.size, 0, none⟩ 1 1 [.string (ac k).nm] rfl rfl ?q1c1 (by intro u hu; simp only [List.mem_cons, List.not_mem_nil, or_false] at hu; rcases hu with rfl <;> rfl) ?q1c3 ?q1c4 ?q1c5 ?_)
            try case q1c1 => exact new_cellsQ w3 _ [.string (ac k).nm]
            case q1c3 => unfold maxLen; omega
            case q1c4 => omega
            case q1c5 => simp; omega
            intro nv2 w4 hown2 hgr2 _ hat2
            have HMn := HM.out.grow 0 rfl _ hgr2 hown2 hat2
            replace HM := hide HMn
            clear HMn hown2 hgr2 hat2 hownM hbaseM
            clear q0 q1 ltq
            go_wp2_with fail
            go_roundw
            case rel =>
              refine ⟨k + 1, L2, hk, by go_num, ?_⟩
              rw [Hl2.out, Hor.out, List.length_append, strV_snoc]
              exact HM.out
            case measure => simp [intOf] <;> omega
          · have h1' : decide (r = 1) = false := decide_eq_false h1
            rw [h1'] at Hor
            rw [show (if (true && false) = true then [(ac k).nm] else []) = [] from rfl, List.append_nil] at Hor
            go_wp2_with fail
            clear q0 q1 ltq
            go_roundw
            case rel =>
              refine ⟨k + 1, L2, hk, by go_num, ?_⟩
              rw [Hl2.out, Hor.out]
              exact HM.out
            case measure => simp [intOf] <;> omega
        | false =>
          rw [show (if (false && decide (r = 1)) = true then [(ac k).nm] else []) = [] from rfl, List.append_nil] at Hor
          go_wp2_with fail
          clear q0 q1 ltq
          go_roundw
          case rel =>
            refine ⟨k + 1, L2, hk, by go_num, ?_⟩
            rw [Hl2.out, Hor.out]
            exact HM.out
          case measure => simp [intOf] <;> omega
      · obtain rfl : k = n := by omega
        have hkk : ¬ ((k : Int) < k) := by omega
        obtain ⟨Av, cv, rfl⟩ := own_shape2 (Mem.row_ HM.out 0 rfl)
        have hal := actsL_len ac k
        have hgl := acts_good ac k
        have hol := ord_len (actsL ac k)
        obtain ⟨l, hl⟩ : ∃ l, actsL ac k = l := ⟨_, rfl⟩
        rw [hl] at hal hgl hol HM ⊢
        have Hl := hide hl
        clear hl
        have hos := fun z (h : z ∈ ordN l) => ord_std h
        obtain ⟨Q, hQ⟩ : ∃ Q, ordN l = Q := ⟨_, rfl⟩
        rw [hQ] at hos hol HM ⊢
        clear hQ
        obtain ⟨m, hm⟩ : ∃ m, Q.length = m := ⟨_, rfl⟩
        rw [hm] at HM hol ⊢
        have Hgl := hide hgl
        have Hos := hide hos
        clear hgl hos
        by_cases hm0 : m = 0
        · subst hm0
          go_wp2_with fail
          refine (works_any _).mono ?_
          rintro e w2 ⟨rfl, hb⟩
          replace HM := hide (HM.out.later hb)
          clear hb
          go_wp2
          go_ret
          exact ⟨rfl, HM.out.below⟩
        · have hmi : ¬ (m : Int) = 0 := by omega
          have hmi2 : decide ((m : Int) = 0) = false := decide_eq_false hmi
          obtain ⟨bT, curT, rfl, -, hbT, -, -, hcT⟩ := row_blk (Mem.row_ HM.out 0 rfl) (by omega)
          obtain ⟨y, hy⟩ : ∃ y : Int, wh.tmod (m : Int) = y := ⟨_, rfl⟩
          have hyb : 0 ≤ y ∧ y < m := by
            rw [← hy, Int.tmod_eq_emod_of_nonneg h0]
            exact ⟨Int.emod_nonneg _ hmi, Int.emod_lt_of_pos _ (by omega)⟩
          obtain ⟨j, rfl⟩ : ∃ j : Nat, y = (j : Int) := ⟨y.toNat, by omega⟩
          have hjm : j < m := by omega
          obtain ⟨x, hx⟩ : ∃ x, Q[j]? = some x := ⟨_, List.getElem?_eq_getElem (by omega)⟩
          have hxs : (strV Q)[j]? = some (.string x) := by unfold strV; rw [List.getElem?_map, hx]; rfl
          obtain ⟨sx, hsx⟩ := Hos.out x (List.mem_of_getElem? hx)
          have hxm := std_max Hgl.out hsx
          have y0 := hbT.c j (hcT j _ hxs)
          have lty := hbT.lt
          have Hsx := hide hsx
          clear hx hxs hsx hcT hbT
          go_wp2_with fail
          have hcp := Copy_any l p L1 wr (Mem.book_ HM.out 1 rfl)
          unfold ptrB at hcp
          refine hcp.mono ?_
          clear hcp
          rintro e w2 ⟨q, rfl, Lq, hbq, hBq, hLq⟩
          have HM1 := hide (HM.out.tail.add (t := .book l q Lq) hBq hbq hLq)
          clear HM hbq hBq hLq y0 lty
          have HM := HM1
          clear HM1
          go_wp2_with fail
          have hv := Depends_any l p L1 x w2 (Mem.book_ HM.out 1 rfl) hxm
          have hdA : dependA l x = (depN l x (stdsT l).length, depT l (depN l x (stdsT l).length) (testsT l).length, 0) := by unfold dependA; rw [Hsx.out]
          have hdl := depN_len2 l x
          have hdm := fun z => depN_mem (l := l) (x := x) (m := z)
          rw [hdA] at hv
          clear hdA
          generalize depT l (depN l x (stdsT l).length) (testsT l).length = T at hv
          obtain ⟨R, hR⟩ : ∃ R, depN l x (stdsT l).length = R := ⟨_, rfl⟩
          rw [hR] at hv hdl hdm
          clear hR
          have hself := depG_self Hgl.out Hsx.out
          rw [← hdm, memB_iff] at hself
          have hR0 : 0 < R.length := List.length_pos_of_mem hself
          unfold ptrB at hv
          refine hv.mono ?_
          clear hv hself
          rintro e w3 ⟨v1, v2, rfl, hM⟩
          have HM1 := hide (HM.out.join hM).tail
          clear HM hM
          have HM := HM1
          clear HM1
          obtain ⟨A2, c2, rfl⟩ := own_shape2 (Mem.row_ HM.out 0 rfl)
          simp only [List.nil_append] at HM ⊢
          obtain ⟨g, hg⟩ : ∃ g, R.length = g := ⟨_, rfl⟩
          rw [hg] at HM hdl hR0 ⊢
          have hg' : ¬ (g : Int) = 0 := by omega
          have hg2 : decide ((g : Int) = 0) = false := decide_eq_false hg'
          obtain ⟨bG, curG, rfl, -, hbG, -, -, hcG⟩ := row_blk (Mem.row_ HM.out 0 rfl) hR0
          have HM1 := hide (HM.out.swapRow 0 rfl hbG : Mem w' [.blk bG 9 curG, .book l q Lq, .book l p L1] w3)
          clear HM hbG
          have HM := HM1
          clear HM1
          have HcG := hide hcG
          have Hdm := hide hdm
          clear hcG hdm
          go_wp2_with fail
          have c2 := Withdraw_any l q Lq x w3 (Mem.book_ HM.out 1 rfl) hxm
          have htb := fun h => turn_back (l := l) (x := x) h (by omega)
          obtain ⟨te, hte⟩ : ∃ te, turnE l x true = te := ⟨_, rfl⟩
          rw [hte] at c2 htb
          clear hte
          unfold ptrB at c2
          refine c2.mono ?_
          clear c2
          rintro e w4 ⟨rfl, hp⟩
          obtain ⟨Lc, HMn⟩ := HM.out.enter 1 rfl hp
          replace HM := hide HMn
          clear HMn hp
          by_cases ht0 : te = 0
          · subst ht0
            rw [if_pos rfl] at HM
            obtain ⟨hb1, hb2⟩ := htb rfl
            clear htb
            have Hb1 := hide hb1
            have Hb2 := hide hb2
            clear hb1 hb2
            obtain ⟨cl, hcl⟩ : ∃ cl, .turn x true :: l = cl := ⟨_, rfl⟩
            rw [hcl] at HM
            have Hcl := hide hcl
            clear hcl
            go_wp2_with fail
            refine (New_any _).mono ?_
            rintro e w5 ⟨pd, Ld, rfl, hb, hB, hL⟩
            have HM1 := hide (HM.out.add (t := .book [] pd Ld) hB hb hL : Mem w' [.book [] pd Ld, .blk bG 9 curG, .book cl q Lc, .book l p L1] w5)
            clear HM hb hB hL
            have HM := HM1
            clear HM1
            unfold ptrB
            go_wp2_with fail
            go_loopw [14] (fun i wr => ∃ (y : Nat) (L : Lay), y ≤ k ∧ i = .int .i64 y ∧ Mem w' [.book (actsS (depG l x) ac y) pd L, .blk bG 9 curG, .book cl q Lc, .book l p L1] wr) (fun i _ => k - (intOf i).toNat)
            case atStart => exact ⟨0, Ld, Nat.zero_le _, rfl, HM.out⟩
            case round =>
              obtain ⟨y, L2, hyn, rfl, hM⟩ := hrel
              clear HM
              have HM := hide hM
              clear hM
              by_cases hy : y < k
              · have hy' : (y : Int) < k := by omega
                obtain ⟨b, off, hA, hltb, hc⟩ := Hrow.out (by omega)
                have q0 := hc y hy 0 (.int .i64 (ac y).k) rfl
                have q1 := hc y hy 1 (.string (ac y).nm) rfl
                have q2 := hc y hy 2 (.string (ac y).pr) rfl
                have q3 := hc y hy 3 (.int .i64 (ac y).lo) rfl
                have q4 := hc y hy 4 (.int .i64 (ac y).hi) rfl
                have q5 := hc y hy 5 (.int .i64 (ac y).tm) rfl
                have q6 := hc y hy 6 (.int .i64 (ac y).un) rfl
                have q7 := hc y hy 7 (.int .i64 (ac y).n) rfl
                rw [Nat.add_zero] at q0
                have P0 := hide q0
                have P1 := hide q1
                have P2 := hide q2
                have P3 := hide (And.intro q3 (And.intro q4 (And.intro q5 (And.intro q6 q7))))
                clear hc q0 q1 q2 q3 q4 q5 q6 q7
                subst hA
                have hkk := (Hok.out y).k0
                have hkk2 := (Hok.out y).k1
                obtain ⟨qq, hq, hq1, hq2, hr⟩ := kind_mod (k := (ac y).k)
                have hsk := skipR_skip (a := ac y) (fun z => (btL_out R z).trans (Hdm.out z))
                rw [hg] at hsk
                have hss := fun j => skipR_succ (btL R) j (ac y)
                have hsn : actsS (depG l x) ac (y + 1) = if skipA (depG l x) (ac y) = true then actsS (depG l x) ac y else enterL (actsS (depG l x) ac y) (ac y) := rfl
                obtain ⟨r, hr2⟩ : ∃ r, (ac y).k % 8 = r := ⟨_, rfl⟩
                have hrb : 0 ≤ r ∧ r ≤ 7 := by omega
                simp only [hr2] at hr hss
                clear hr2
                have Hsk := hide hsk
                have Hss := hide hss
                have Hsn := hide hsn
                clear hsk hss hsn
                go_wp2_with fail
                go_loopw [15, 16, 17] (fun o i kd wr2 => ∃ j : Nat, j ≤ g ∧ i = .int .i64 j ∧ o = .bool (skipR (btL R) j (ac y)) ∧ Mem w' [.book (actsS (depG l x) ac y) pd L2, .blk bG 9 curG, .book cl q Lc, .book l p L1] wr2) (fun _ i _ _ => g - (intOf i).toNat)
                case atStart => exact ⟨0, Nat.zero_le _, rfl, rfl, HM.out⟩
                case round =>
                  obtain ⟨j, hjm, rfl, rfl, hM⟩ := hrel
                  clear HM
                  have HM := hide hM
                  clear hM
                  by_cases hj : j < g
                  · have hj' : (j : Int) < g := by omega
                    have q0 := P0.out
                    have q1 := P1.out
                    have q2 := P2.out
                    rw [← HM.out.below.cell hltb] at q0 q1 q2
                    have ltq : b < wr.heap.size := Nat.lt_of_lt_of_le hltb HM.out.size
                    have hbG := Mem.blk_ HM.out 1 rfl
                    have y0 := hbG.c j (HcG.out j _ (strV_at (by omega)))
                    have lty := hbG.lt
                    clear hbG
                    have hs1 := Hss.out j
                    obtain ⟨o1, ho1⟩ : ∃ o1, skipR (btL R) j (ac y) = o1 := ⟨_, rfl⟩
                    rw [ho1] at hs1 ⊢
                    clear ho1
                    obtain ⟨e2, he2⟩ : ∃ e2, ((btL R j).toList == (ac y).pr.toList) = e2 := ⟨_, rfl⟩
                    obtain ⟨e1, he1⟩ : ∃ e1, ((btL R j).toList == (ac y).nm.toList) = e1 := ⟨_, rfl⟩
                    rw [he1, he2] at hs1
                    have Hs1 := hide hs1
                    clear hs1
                    generalize btL R j = bn at *
                    generalize hpr : (ac y).pr = apr at q2 he2
                    generalize hnm : (ac y).nm = anm at q1 he1
                    generalize hkd : (ac y).k = ak at q0 hq hkk hkk2
                    clear hpr hnm hkd
                    cases o1 with
                    | true =>
                      go_wp2_with fail
                      go_quiet (fail)
                      have hL : Below wr.heap.size wr (wr.drewN nq) := below_drewN (Below.refl _ _) _
                      generalize (wr.drewN nq : World) = w2 at hL ⊢
                      clear q0 q1 q2 ltq y0 lty
                      replace HM := hide (HM.out.later hL)
                      clear hL
                      go_wp2_with fail
                      go_roundw
                      case rel => exact ⟨j + 1, hj, by go_num, by rw [Hs1.out]; rfl, HM.out⟩
                      case measure => simp [intOf] <;> omega
                    | false =>
                      rcases (show r = 0 ∨ r = 1 ∨ r = 2 ∨ r = 3 ∨ r = 4 ∨ r = 5 ∨ r = 6 ∨ r = 7 by omega) with e0 | e0 | e0 | e0 | e0 | e0 | e0 | e0
                      · subst e0
                        go_wp2_with fail
                        go_quiet (fail)
                        have hL : Below wr.heap.size wr (wr.drewN nq) := below_drewN (Below.refl _ _) _
                        generalize (wr.drewN nq : World) = w2 at hL ⊢
                        clear q0 q1 q2 ltq y0 lty
                        replace HM := hide (HM.out.later hL)
                        clear hL
                        go_wp2_with fail
                        go_roundw
                        case rel => exact ⟨j + 1, hj, by go_num, by rw [Hs1.out]; rfl, HM.out⟩
                        case measure => simp [intOf] <;> omega
                      · subst e0
                        cases e1 with
                        | true =>
                          go_wp2_with fail
                          go_quiet (fail)
                          have hL : Below wr.heap.size wr (wr.drewN nq) := below_drewN (Below.refl _ _) _
                          generalize (wr.drewN nq : World) = w2 at hL ⊢
                          clear q0 q1 q2 ltq y0 lty
                          replace HM := hide (HM.out.later hL)
                          clear hL
                          go_wp2_with fail
                          go_roundw
                          case rel => exact ⟨j + 1, hj, by go_num, by rw [Hs1.out]; rfl, HM.out⟩
                          case measure => simp [intOf] <;> omega
                        | false =>
                          go_wp2_with fail
                          go_quiet (fail)
                          have hL : Below wr.heap.size wr (wr.drewN nq) := below_drewN (Below.refl _ _) _
                          generalize (wr.drewN nq : World) = w2 at hL ⊢
                          clear q0 q1 q2 ltq y0 lty
                          replace HM := hide (HM.out.later hL)
                          clear hL
                          go_wp2_with fail
                          go_roundw
                          case rel => exact ⟨j + 1, hj, by go_num, by rw [Hs1.out]; rfl, HM.out⟩
                          case measure => simp [intOf] <;> omega
                      · subst e0
                        cases e2 with
                        | true =>
                          go_wp2_with fail
                          go_quiet (fail)
                          have hL : Below wr.heap.size wr (wr.drewN nq) := below_drewN (Below.refl _ _) _
                          generalize (wr.drewN nq : World) = w2 at hL ⊢
                          clear q0 q1 q2 ltq y0 lty
                          replace HM := hide (HM.out.later hL)
                          clear hL
                          go_wp2_with fail
                          go_roundw
                          case rel => exact ⟨j + 1, hj, by go_num, by rw [Hs1.out]; rfl, HM.out⟩
                          case measure => simp [intOf] <;> omega
                        | false =>
                          go_wp2_with fail
                          go_quiet (fail)
                          have hL : Below wr.heap.size wr (wr.drewN nq) := below_drewN (Below.refl _ _) _
                          generalize (wr.drewN nq : World) = w2 at hL ⊢
                          clear q0 q1 q2 ltq y0 lty
                          replace HM := hide (HM.out.later hL)
                          clear hL
                          go_wp2_with fail
                          go_roundw
                          case rel => exact ⟨j + 1, hj, by go_num, by rw [Hs1.out]; rfl, HM.out⟩
                          case measure => simp [intOf] <;> omega
                      · subst e0
                        cases e1 with
                        | true =>
                          go_wp2_with fail
                          go_quiet (fail)
                          have hL : Below wr.heap.size wr (wr.drewN nq) := below_drewN (Below.refl _ _) _
                          generalize (wr.drewN nq : World) = w2 at hL ⊢
                          clear q0 q1 q2 ltq y0 lty
                          replace HM := hide (HM.out.later hL)
                          clear hL
                          go_wp2_with fail
                          go_roundw
                          case rel => exact ⟨j + 1, hj, by go_num, by rw [Hs1.out]; rfl, HM.out⟩
                          case measure => simp [intOf] <;> omega
                        | false =>
                          go_wp2_with fail
                          go_quiet (fail)
                          have hL : Below wr.heap.size wr (wr.drewN nq) := below_drewN (Below.refl _ _) _
                          generalize (wr.drewN nq : World) = w2 at hL ⊢
                          clear q0 q1 q2 ltq y0 lty
                          replace HM := hide (HM.out.later hL)
                          clear hL
                          go_wp2_with fail
                          go_roundw
                          case rel => exact ⟨j + 1, hj, by go_num, by rw [Hs1.out]; rfl, HM.out⟩
                          case measure => simp [intOf] <;> omega
                      · subst e0
                        cases e1 with
                        | true =>
                          go_wp2_with fail
                          go_quiet (fail)
                          have hL : Below wr.heap.size wr (wr.drewN nq) := below_drewN (Below.refl _ _) _
                          generalize (wr.drewN nq : World) = w2 at hL ⊢
                          clear q0 q1 q2 ltq y0 lty
                          replace HM := hide (HM.out.later hL)
                          clear hL
                          go_wp2_with fail
                          go_roundw
                          case rel => exact ⟨j + 1, hj, by go_num, by rw [Hs1.out]; rfl, HM.out⟩
                          case measure => simp [intOf] <;> omega
                        | false =>
                          go_wp2_with fail
                          go_quiet (fail)
                          have hL : Below wr.heap.size wr (wr.drewN nq) := below_drewN (Below.refl _ _) _
                          generalize (wr.drewN nq : World) = w2 at hL ⊢
                          clear q0 q1 q2 ltq y0 lty
                          replace HM := hide (HM.out.later hL)
                          clear hL
                          go_wp2_with fail
                          go_roundw
                          case rel => exact ⟨j + 1, hj, by go_num, by rw [Hs1.out]; rfl, HM.out⟩
                          case measure => simp [intOf] <;> omega
                      · subst e0
                        go_wp2_with fail
                        go_quiet (fail)
                        have hL : Below wr.heap.size wr (wr.drewN nq) := below_drewN (Below.refl _ _) _
                        generalize (wr.drewN nq : World) = w2 at hL ⊢
                        clear q0 q1 q2 ltq y0 lty
                        replace HM := hide (HM.out.later hL)
                        clear hL
                        go_wp2_with fail
                        go_roundw
                        case rel => exact ⟨j + 1, hj, by go_num, by rw [Hs1.out]; rfl, HM.out⟩
                        case measure => simp [intOf] <;> omega
                      · subst e0
                        go_wp2_with fail
                        go_quiet (fail)
                        have hL : Below wr.heap.size wr (wr.drewN nq) := below_drewN (Below.refl _ _) _
                        generalize (wr.drewN nq : World) = w2 at hL ⊢
                        clear q0 q1 q2 ltq y0 lty
                        replace HM := hide (HM.out.later hL)
                        clear hL
                        go_wp2_with fail
                        go_roundw
                        case rel => exact ⟨j + 1, hj, by go_num, by rw [Hs1.out]; rfl, HM.out⟩
                        case measure => simp [intOf] <;> omega
                      · subst e0
                        go_wp2_with fail
                        go_quiet (fail)
                        have hL : Below wr.heap.size wr (wr.drewN nq) := below_drewN (Below.refl _ _) _
                        generalize (wr.drewN nq : World) = w2 at hL ⊢
                        clear q0 q1 q2 ltq y0 lty
                        replace HM := hide (HM.out.later hL)
                        clear hL
                        go_wp2_with fail
                        go_roundw
                        case rel => exact ⟨j + 1, hj, by go_num, by rw [Hs1.out]; rfl, HM.out⟩
                        case measure => simp [intOf] <;> omega
                  · obtain rfl : j = g := by omega
                    have hjj : ¬ ((j : Int) < j) := by omega
                    rw [Hsk.out]
                    have hsn := Hsn.out
                    obtain ⟨sk, hsk⟩ : ∃ sk, skipA (depG l x) (ac y) = sk := ⟨_, rfl⟩
                    rw [hsk] at hsn ⊢
                    cases sk with
                    | true =>
                      rw [if_pos rfl] at hsn
                      go_wp2_with fail
                      go_roundw
                      case rel => exact ⟨y + 1, L2, hy, by go_num, by rw [hsn]; exact HM.out⟩
                      case measure => simp [intOf] <;> omega
                    | false =>
                      rw [if_neg (by decide)] at hsn
                      have q0 := P0.out
                      have q1 := P1.out
                      have q2 := P2.out
                      obtain ⟨q3, q4, q5, q6, q7⟩ := P3.out
                      rw [← HM.out.below.cell hltb] at q0 q1 q2 q3 q4 q5 q6 q7
                      have ltq : b < wr.heap.size := Nat.lt_of_lt_of_le hltb HM.out.size
                      have hen := enter_any (actsS (depG l x) ac y) pd L2 (ac y) wr (Mem.book_ HM.out 0 rfl) (Hok.out y)
                      unfold actA actV ptrB at hen
                      have Hsn2 := hide hsn
                      clear hsn
                      go_wp2_with fail
                      refine hen.mono ?_
                      rintro e w6 ⟨rfl, hp⟩
                      obtain ⟨L8, hM2⟩ := HM.out.enterA 0 rfl hp
                      clear q0 q1 q2 q3 q4 q5 q6 q7 ltq hp HM hen
                      have HM := hide hM2
                      clear hM2
                      go_wp2_with fail
                      go_roundw
                      case rel => exact ⟨y + 1, L8, hy, by go_num, by rw [Hsn2.out]; exact HM.out⟩
                      case measure => simp [intOf] <;> omega
              · obtain rfl : y = k := by omega
                have hyy : ¬ ((y : Int) < y) := by omega
                have hbG := Mem.blk_ HM.out 1 rfl
                have hwS := withdrawn_same (x := x) ac y (by omega) (btL R) g Hl.out (fun z => (hg ▸ btL_out R z).trans (Hdm.out z))
                rw [Hcl.out] at hwS
                have hsa := fun W (hW : Below wr.heap.size wr W) => same_any cl (actsS (depG l x) ac y) q pd Lc L2 ac A y c (btL R) (some ⟨bG, 0, none⟩) g c2 W ((Mem.book_ HM.out 2 rfl).later hW) ((Mem.book_ HM.out 0 rfl).later hW) ((Hrow.out.below (onward HM.out.below hW)).more (onward HM.out.below hW).size) (hg ▸ rows_ofBlk (blk_later hbG hW) HcG.out) Hok.out hn (by unfold maxLen; omega) hwS
                unfold ptrB at hsa
                have Hsa := hide hsa
                clear hsa hwS hbG
                have HR := hide (Below.refl wr.heap.size wr)
                go_wp2_with fail
                refine (Hsa.out _ HR.out).mono ?_
                rintro e w6 ⟨rfl, hb⟩
                replace HM := hide (HM.out.later hb)
                replace HR := hide (onward HR.out hb)
                clear hb
                clear Hsa
                clear HR
                go_wp2_with fail
                have c2 := Reinstate_any cl q Lc x w6 (Mem.book_ HM.out 2 rfl) hxm
                rw [← Hcl.out, Hb1.out, Hcl.out] at c2
                unfold ptrB at c2
                refine c2.mono ?_
                clear c2
                rintro e w7 ⟨rfl, hp⟩
                obtain ⟨Lf, HMn⟩ := HM.out.enter 2 rfl hp
                replace HM := hide HMn
                clear HMn hp
                rw [if_pos rfl] at HM
                have hwB := withdrawn_back (l := l) (x := x) ac y (fun _ => ⟨#[]⟩) Hb2.out
                rw [Hcl.out] at hwB
                have hsa := fun W (hW : Below w7.heap.size w7 W) => same_any l (.turn x false :: cl) p q L1 Lf ac A y c (fun _ => ⟨#[]⟩) none 0 0 W ((Mem.book_ HM.out 3 rfl).later hW) ((Mem.book_ HM.out 2 rfl).later hW) ((Hrow.out.below (onward HM.out.below hW)).more (onward HM.out.below hW).size) (Rows_.none _ _ _ _) Hok.out hn (by decide) hwB
                unfold ptrB at hsa
                have Hsa := hide hsa
                clear hsa hwB
                go_wp2_with fail
                refine (Hsa.out _ (Below.refl _ _)).mono ?_
                rintro e w8 ⟨rfl, hb⟩
                replace HM := hide (HM.out.later hb)
                clear hb
                go_wp2_with fail
                refine (works_any _).mono ?_
                rintro e w9 ⟨rfl, hb⟩
                replace HM := hide (HM.out.later hb)
                clear hb
                go_wp2
                go_ret
                exact ⟨rfl, HM.out.below⟩
          · rw [if_neg ht0] at HM
            have ht0' : decide (te = 0) = false := decide_eq_false ht0
            go_wp2_with fail
            refine (works_any _).mono ?_
            rintro e w5 ⟨rfl, hb⟩
            replace HM := hide (HM.out.later hb)
            clear hb
            go_wp2
            go_ret
            exact ⟨rfl, HM.out.below⟩
end Go.Proofs.Ytiggefmckomilaa
