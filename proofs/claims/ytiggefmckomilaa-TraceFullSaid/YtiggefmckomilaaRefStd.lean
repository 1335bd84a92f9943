/-
  Corrected powers: trace's and the reference's.
  The chapter's examples of books: what they answer.
  Rows of acts in memory.
  The reference's book: how its list of entries lies in memory; plain words.
  The reference's book: its small functions that only read.
  The reference's book: a standard by its name; spans that widen.
-/
import Derived.Test.YtiggefmckomilaaRefDivs
import Derived.Test.YtiggefmckomilaaMapV
import Derived.Test.YtiggefmckomilaaActF
set_option linter.unusedSimpArgs false
set_option linter.unusedVariables false
namespace Go.Proofs.Ytiggefmckomilaa
open Go Go.RowKit

theorem RefValid_any (a b lo hi : Int) (w : World) :
    Calls Try.prog 55 #[.agg #[.int .i64 a, .int .i64 b], .int .i64 lo, .int .i64 hi] w fun e w' => e = .returned (.bool (inS a b lo hi)) ∧ Below w.heap.size w w' := by
  by_cases h1 : a ≤ b <;> by_cases h2 : lo ≤ a <;> by_cases h3 : b ≤ hi
  all_goals
    go_enter Try.func55, Try.ntmps55
    go_wp2
    go_ret
    exact ⟨by simp [inS, *], (Below.refl _ _).alloc (Nat.le_refl _) _⟩
def correctR (p g : Int × Int) : (Int × Int) × Int :=
  if (inS p.1 p.2 0 1073741824 && inS g.1 g.2 1 1000000) = true then ((min 1073741824 (1000 * p.1 / g.2), min 1073741824 (upD (1000 * p.2) g.1)), 0) else ((0, 0), 3)
def corrV (r : (Int × Int) × Int) : Value := .tuple #[.agg #[.int .i64 r.1.1, .int .i64 r.1.2], .int .i64 r.2]
theorem upD_cdiv {a b : Int} (h : 0 < b) : upD a b = cdiv a b := (cdiv_eq h).symm

set_option maxHeartbeats 1000000 in
set_option maxRecDepth 100000 in
theorem Correct_any (p1 p2 g1 g2 : Int) (w : World) :
    Calls Try.prog 13 #[.agg #[.int .i64 p1, .int .i64 p2], .agg #[.int .i64 g1, .int .i64 g2]] w fun e w' => e = .returned (corrV (correctR (p1, p2) (g1, g2))) ∧ Below w.heap.size w w' := by
  have hR : correctR (p1, p2) (g1, g2) = if (inS p1 p2 0 1073741824 && inS g1 g2 1 1000000) = true then ((min 1073741824 (1000 * p1 / g2), min 1073741824 (upD (1000 * p2) g1)), 0) else ((0, 0), 3) := rfl
  generalize correctR (p1, p2) (g1, g2) = r at *
  by_cases h1 : inS p1 p2 0 1073741824 = true
  · by_cases h2 : inS g1 g2 1 1000000 = true
    · rw [if_pos (by rw [h1, h2]; rfl)] at hR
      obtain ⟨a1, a2, a3⟩ := inS_iff.1 h1
      obtain ⟨b1, b2, b3⟩ := inS_iff.1 h2
      have k1 : 0 ≤ 1000 * p1 / g2 := Int.ediv_nonneg (by omega) (by omega)
      have k2 : 1000 * p1 / g2 ≤ 1000 * p1 := Int.ediv_le_self _ (by omega)
      have hu := fun W => up_any (1000 * p2) g1 W (by omega) (by omega) (by omega) (by omega)
      have hu2 := fun W => Up_any (1000 * p2) g1 W (by omega) (by omega) (by omega) (by omega)
      have hd := fun W => Down_any (1000 * p1) g2 W (by omega) (by omega) (by omega) (by omega)
      rw [← upD_cdiv (by omega)] at hu2
      obtain ⟨u, hue⟩ : ∃ u, upD (1000 * p2) g1 = u := ⟨_, rfl⟩
      rw [hue] at hu hu2 hR
      obtain ⟨n1, hn1⟩ : ∃ n1, min 1073741824 (1000 * p1 / g2) = n1 := ⟨_, rfl⟩
      obtain ⟨n2, hn2⟩ : ∃ n2, min 1073741824 u = n2 := ⟨_, rfl⟩
      rw [hn1, hn2] at hR
      have hn1' : (if 1000 * p1 / g2 < 1073741824 then 1000 * p1 / g2 else 1073741824) = n1 := by rw [← hn1]; split <;> omega
      have hn2' : (if u < 1073741824 then u else 1073741824) = n2 := by rw [← hn2]; split <;> omega
      clear hue
      have Hu := hide hu
      have Hu2 := hide hu2
      have Hd := hide hd
      have HR := hide hR
      clear hu hu2 hd hR
      go_enter Try.func13, Try.ntmps13
      have HB := hide (Below.refl w.heap.size w)
      go_wp2_with fail
      refine at_world fun w1 hW => ?_
      have bq0 : Blk w1 w.heap.size 23 #[.int .i64 p1, .int .i64 p2] := by rw [hW]; exact ((Blk.new _ _ _).alloc _).alloc _
      have bq1 : Blk w1 (w.heap.size + 1) 23 #[.int .i64 g1, .int .i64 g2] := by rw [hW]; exact (blk_new_at (by simp)).alloc _
      have bq2 : Blk w1 (w.heap.size + 2) 23 #[.int .i64 0, .int .i64 0] := by rw [hW]; exact blk_new_at (by simp)
      have LW : Later w w1 := by rw [hW]; exact ((((Below.refl _ _).alloc (Nat.le_refl _) _).alloc (by simp; try omega) _).alloc (by simp; try omega) _)
      have szW : w1.heap.size = w.heap.size + 3 := by rw [hW]; simp
      clear hW
      replace HB := hide (onward HB.out LW)
      have Hp := hide bq0
      have Hg := hide bq1
      have Ho := hide bq2
      clear bq0 bq1 bq2 LW szW
      refine (inside_any _ _ _ _ _).mono ?_
      rintro e w2 ⟨rfl, hb⟩
      replace HB := hide (onward HB.out hb)
      replace Hp := hide (blk_later Hp.out hb)
      replace Hg := hide (blk_later Hg.out hb)
      replace Ho := hide (blk_later Ho.out hb)
      clear hb
      rw [h1]
      obtain ⟨y0, y1⟩ := Hg.out.c2
      have lty := Hg.out.lt
      go_wp2_with fail
      refine (inside_any _ _ _ _ _).mono ?_
      rintro e w3 ⟨rfl, hb⟩
      replace HB := hide (onward HB.out hb)
      replace Hp := hide (blk_later Hp.out hb)
      replace Hg := hide (blk_later Hg.out hb)
      replace Ho := hide (blk_later Ho.out hb)
      clear hb y0 y1 lty
      rw [h2]
      obtain ⟨y0, y1⟩ := Hg.out.c2
      have lty := Hg.out.lt
      obtain ⟨x0, x1⟩ := Hp.out.c2
      have ltx := Hp.out.lt
      go_wp2_with fail
      have lto := Ho.out.lt
      apply wp_region_F (w0 := w3) [[], [0], [0, 1], [], [3], [0, 1, 2, 3, 4], [0, 1, 2, 3, 4, 5], [], [7], [7, 8], [], [10], [7, 8, 9, 10, 11], [7, 8, 9, 10, 11, 12], [0, 1, 2, 3, 4, 5, 6, 7, 8, 9, 10, 11, 12, 13], [0, 1, 2, 3, 4, 5, 6, 7, 8, 9, 10, 11, 12, 13, 14], [0, 1, 2, 3, 4, 5, 6, 7, 8, 9, 10, 11, 12, 13, 14, 15]] [true, true, true, true, true, true, true, true, true, true, true, true, true, true, true, false, false] [false, false, false, false, false, false, false, false, false, false, false, false, false, false, false, false, true] [⟨15, none, [], []⟩] [(15, (w.heap.size+2))] [15] (fun ixq y => match ixq with | 15 => undef | _ => undef) (fun ixq x F wq => match ixq with | 15 => F (w.heap.size+2) ∧ Blk wq (w.heap.size+2) 23 #[.int .i64 n1, .int .i64 n2] | _ => True) (fun a x => (a).put (none) (undef)) (by kernel_rfl) (by kernel_rfl) (by kernel_rfl) (fun _ => rfl) [27] (by kernel_rfl) (fills_lt1 (by omega)) fills_ne1
      · intro x D hD
        have hne := hD.some
        have k0 := liftS hD x0 (by exact early_all (by first | assumption | omega) (by rfl))
        have k1 := liftS hD x1 (by exact early_all (by first | assumption | omega) (by rfl))
        have k2 := liftS hD y0 (by exact early_all (by first | assumption | omega) (by rfl))
        have k3 := liftS hD y1 (by exact early_all (by first | assumption | omega) (by rfl))
        simp only [takeOps, Act.put, List.setIfInBounds_toArray, List.set_cons_succ, List.set_cons_zero]
        repeat (go_big_quiet_step ((first | (go_at_call 54; exact calls_same _ (Hu.out _)) | (go_at_call 56; exact calls_same _ (Hd.out _)) | (go_at_call 57; exact calls_same _ (Hu2.out _)))))
        exact wpQuiet_nil rfl
      · intro x D hD
        have hne := hD.some
        simp only [takeOps, Act.put, List.setIfInBounds_toArray, List.set_cons_succ, List.set_cons_zero]
        repeat (go_big_quiet_step ((first | (go_at_call 54; exact calls_same _ (Hu.out _)) | (go_at_call 56; exact calls_same _ (Hd.out _)) | (go_at_call 57; exact calls_same _ (Hu2.out _)))))
        exact wpQuiet_nil rfl
      · intro d hd x x'
        simp only [List.mem_cons, List.not_mem_nil, or_false] at hd
        rcases hd with rfl
        all_goals rfl
      · refine ⟨?_, trivial⟩
        · exact obl_fill 23 23 4 29 (w.heap.size+2) _ (fun x => #[.int .i64 n1, .int .i64 n2]) (by kernel_rfl) (fun _ => rfl) (fun _ => rfl) Ho.out eb_fill1 (by simp [wrF]) (fun _ => by kernel_rfl) (fun _ => rfl) (fun _ => by simp [Value.oneCell']) (fun _ => rfl) (fun _ _ _ _ h1 h2 => ⟨h1, h2⟩)
      · refine ⟨?_, trivial⟩
        · exact owe_fill (w.heap.size+2) 23 (fun x => #[.int .i64 n1, .int .i64 n2]) (fun _ _ _ => rfl) (fun _ _ _ => rfl)
      intro xr w4 F hK hlv1
      obtain ⟨fct15, -⟩ := hlv1
      replace fct15 : (F 15) (w.heap.size+2) ∧ Blk w4 (w.heap.size+2) 23 #[.int .i64 n1, .int .i64 n2] := fct15 rfl
      have hbr := below_kept HB.out HB.out.size hK (by simp)
      have ho4 := fct15.2
      obtain ⟨e0, e1⟩ := ho4.c2
      have fe0 := ho4.frozen 0
      have fe1 := ho4.frozen 1
      have lte := ho4.lt
      go_wp2
      refine bodyPost_ret (v := corrV r) (by rw [HR.out]; simp [corrV, results, Try.results13, go_sem, e0, e1, fe0, fe1, lte]) rfl ⟨rfl, hbr⟩
    · have h3 : inS g1 g2 1 1000000 = false := by simpa using h2
      rw [if_neg (by rw [h3]; simp)] at hR
      have HR := hide hR
      clear hR
      go_enter Try.func13, Try.ntmps13
      have HB := hide (Below.refl w.heap.size w)
      go_wp2_with fail
      refine at_world fun w1 hW => ?_
      have bq0 : Blk w1 w.heap.size 23 #[.int .i64 p1, .int .i64 p2] := by rw [hW]; exact ((Blk.new _ _ _).alloc _).alloc _
      have bq1 : Blk w1 (w.heap.size + 1) 23 #[.int .i64 g1, .int .i64 g2] := by rw [hW]; exact (blk_new_at (by simp)).alloc _
      have bq2 : Blk w1 (w.heap.size + 2) 23 #[.int .i64 0, .int .i64 0] := by rw [hW]; exact blk_new_at (by simp)
      have LW : Later w w1 := by rw [hW]; exact ((((Below.refl _ _).alloc (Nat.le_refl _) _).alloc (by simp; try omega) _).alloc (by simp; try omega) _)
      have szW : w1.heap.size = w.heap.size + 3 := by rw [hW]; simp
      clear hW
      replace HB := hide (onward HB.out LW)
      have Hp := hide bq0
      have Hg := hide bq1
      have Ho := hide bq2
      clear bq0 bq1 bq2 LW szW
      refine (inside_any _ _ _ _ _).mono ?_
      rintro e w2 ⟨rfl, hb⟩
      replace HB := hide (onward HB.out hb)
      replace Hp := hide (blk_later Hp.out hb)
      replace Hg := hide (blk_later Hg.out hb)
      replace Ho := hide (blk_later Ho.out hb)
      clear hb
      rw [h1]
      obtain ⟨y0, y1⟩ := Hg.out.c2
      have lty := Hg.out.lt
      go_wp2_with fail
      refine (inside_any _ _ _ _ _).mono ?_
      rintro e w3 ⟨rfl, hb⟩
      replace HB := hide (onward HB.out hb)
      replace Hp := hide (blk_later Hp.out hb)
      replace Hg := hide (blk_later Hg.out hb)
      replace Ho := hide (blk_later Ho.out hb)
      clear hb y0 y1 lty
      rw [h3]
      obtain ⟨e0, e1⟩ := Ho.out.c2
      have lte := Ho.out.lt
      have fe0 := Ho.out.frozen 0
      have fe1 := Ho.out.frozen 1
      go_wp2
      refine bodyPost_ret (v := corrV r) (by rw [HR.out]; simp [corrV, results, Try.results13, go_sem, e0, e1, fe0, fe1, lte]) rfl ⟨rfl, ?_⟩
      repeat (first | exact HB.out | (refine Below.setCell ?_ (by first | omega | (simp; done) | (simp; omega)) _) | (refine Below.alloc ?_ (by first | omega | (simp; done) | (simp; omega)) _) | (refine below_drewN ?_ _))
  · have h3 : inS p1 p2 0 1073741824 = false := by simpa using h1
    rw [if_neg (by rw [h3]; simp)] at hR
    have HR := hide hR
    clear hR
    go_enter Try.func13, Try.ntmps13
    have HB := hide (Below.refl w.heap.size w)
    go_wp2_with fail
    refine at_world fun w1 hW => ?_
    have bq0 : Blk w1 w.heap.size 23 #[.int .i64 p1, .int .i64 p2] := by rw [hW]; exact ((Blk.new _ _ _).alloc _).alloc _
    have bq1 : Blk w1 (w.heap.size + 1) 23 #[.int .i64 g1, .int .i64 g2] := by rw [hW]; exact (blk_new_at (by simp)).alloc _
    have bq2 : Blk w1 (w.heap.size + 2) 23 #[.int .i64 0, .int .i64 0] := by rw [hW]; exact blk_new_at (by simp)
    have LW : Later w w1 := by rw [hW]; exact ((((Below.refl _ _).alloc (Nat.le_refl _) _).alloc (by simp; try omega) _).alloc (by simp; try omega) _)
    have szW : w1.heap.size = w.heap.size + 3 := by rw [hW]; simp
    clear hW
    replace HB := hide (onward HB.out LW)
    have Hp := hide bq0
    have Hg := hide bq1
    have Ho := hide bq2
    clear bq0 bq1 bq2 LW szW
    refine (inside_any _ _ _ _ _).mono ?_
    rintro e w2 ⟨rfl, hb⟩
    replace HB := hide (onward HB.out hb)
    replace Hp := hide (blk_later Hp.out hb)
    replace Hg := hide (blk_later Hg.out hb)
    replace Ho := hide (blk_later Ho.out hb)
    clear hb
    rw [h3]
    obtain ⟨e0, e1⟩ := Ho.out.c2
    have lte := Ho.out.lt
    have fe0 := Ho.out.frozen 0
    have fe1 := Ho.out.frozen 1
    go_wp2
    refine bodyPost_ret (v := corrV r) (by rw [HR.out]; simp [corrV, results, Try.results13, go_sem, e0, e1, fe0, fe1, lte]) rfl ⟨rfl, ?_⟩
    repeat (first | exact HB.out | (refine Below.setCell ?_ (by first | omega | (simp; done) | (simp; omega)) _) | (refine Below.alloc ?_ (by first | omega | (simp; done) | (simp; omega)) _) | (refine below_drewN ?_ _))
set_option maxHeartbeats 1000000 in
set_option maxRecDepth 100000 in
theorem RefCorrect_any (p1 p2 g1 g2 : Int) (w : World) :
    Calls Try.prog 14 #[.agg #[.int .i64 p1, .int .i64 p2], .agg #[.int .i64 g1, .int .i64 g2]] w fun e w' => e = .returned (corrV (correctR (p1, p2) (g1, g2))) ∧ Below w.heap.size w w' := by
  have hR : correctR (p1, p2) (g1, g2) = if (inS p1 p2 0 1073741824 && inS g1 g2 1 1000000) = true then ((min 1073741824 (1000 * p1 / g2), min 1073741824 (upD (1000 * p2) g1)), 0) else ((0, 0), 3) := rfl
  generalize correctR (p1, p2) (g1, g2) = r at *
  by_cases h1 : inS p1 p2 0 1073741824 = true
  · by_cases h2 : inS g1 g2 1 1000000 = true
    · rw [if_pos (by rw [h1, h2]; rfl)] at hR
      obtain ⟨a1, a2, a3⟩ := inS_iff.1 h1
      obtain ⟨b1, b2, b3⟩ := inS_iff.1 h2
      have k1 : 0 ≤ 1000 * p1 / g2 := Int.ediv_nonneg (by omega) (by omega)
      have k2 : 1000 * p1 / g2 ≤ 1000 * p1 := Int.ediv_le_self _ (by omega)
      have hu := fun W => up_any (1000 * p2) g1 W (by omega) (by omega) (by omega) (by omega)
      have hu2 := fun W => Up_any (1000 * p2) g1 W (by omega) (by omega) (by omega) (by omega)
      have hd := fun W => Down_any (1000 * p1) g2 W (by omega) (by omega) (by omega) (by omega)
      rw [← upD_cdiv (by omega)] at hu2
      obtain ⟨u, hue⟩ : ∃ u, upD (1000 * p2) g1 = u := ⟨_, rfl⟩
      rw [hue] at hu hu2 hR
      obtain ⟨n1, hn1⟩ : ∃ n1, min 1073741824 (1000 * p1 / g2) = n1 := ⟨_, rfl⟩
      obtain ⟨n2, hn2⟩ : ∃ n2, min 1073741824 u = n2 := ⟨_, rfl⟩
      rw [hn1, hn2] at hR
      have hn1' : (if 1000 * p1 / g2 < 1073741824 then 1000 * p1 / g2 else 1073741824) = n1 := by rw [← hn1]; split <;> omega
      have hn2' : (if u < 1073741824 then u else 1073741824) = n2 := by rw [← hn2]; split <;> omega
      clear hue
      have Hu := hide hu
      have Hu2 := hide hu2
      have Hd := hide hd
      have HR := hide hR
      clear hu hu2 hd hR
      go_enter Try.func14, Try.ntmps14
      have HB := hide (Below.refl w.heap.size w)
      go_wp2_with fail
      refine at_world fun w1 hW => ?_
      have bq0 : Blk w1 w.heap.size 23 #[.int .i64 p1, .int .i64 p2] := by rw [hW]; exact ((Blk.new _ _ _).alloc _).alloc _
      have bq1 : Blk w1 (w.heap.size + 1) 23 #[.int .i64 g1, .int .i64 g2] := by rw [hW]; exact (blk_new_at (by simp)).alloc _
      have bq2 : Blk w1 (w.heap.size + 2) 23 #[.int .i64 0, .int .i64 0] := by rw [hW]; exact blk_new_at (by simp)
      have LW : Later w w1 := by rw [hW]; exact ((((Below.refl _ _).alloc (Nat.le_refl _) _).alloc (by simp; try omega) _).alloc (by simp; try omega) _)
      have szW : w1.heap.size = w.heap.size + 3 := by rw [hW]; simp
      clear hW
      replace HB := hide (onward HB.out LW)
      have Hp := hide bq0
      have Hg := hide bq1
      have Ho := hide bq2
      clear bq0 bq1 bq2 LW szW
      refine (RefValid_any _ _ _ _ _).mono ?_
      rintro e w2 ⟨rfl, hb⟩
      replace HB := hide (onward HB.out hb)
      replace Hp := hide (blk_later Hp.out hb)
      replace Hg := hide (blk_later Hg.out hb)
      replace Ho := hide (blk_later Ho.out hb)
      clear hb
      rw [h1]
      obtain ⟨y0, y1⟩ := Hg.out.c2
      have lty := Hg.out.lt
      go_wp2_with fail
      refine (RefValid_any _ _ _ _ _).mono ?_
      rintro e w3 ⟨rfl, hb⟩
      replace HB := hide (onward HB.out hb)
      replace Hp := hide (blk_later Hp.out hb)
      replace Hg := hide (blk_later Hg.out hb)
      replace Ho := hide (blk_later Ho.out hb)
      clear hb y0 y1 lty
      rw [h2]
      obtain ⟨y0, y1⟩ := Hg.out.c2
      have lty := Hg.out.lt
      obtain ⟨x0, x1⟩ := Hp.out.c2
      have ltx := Hp.out.lt
      go_wp2_with fail
      have lto := Ho.out.lt
      apply wp_region_F (w0 := w3) [[], [0], [0, 1], [], [3], [0, 1, 2, 3, 4], [0, 1, 2, 3, 4, 5], [], [7], [7, 8], [], [10], [0, 1, 2, 3, 4, 5, 7, 8, 9, 10, 11], [0, 1, 2, 3, 4, 5, 7, 8, 9, 10, 11, 12], [0, 1, 2, 3, 4, 5, 6, 7, 8, 9, 10, 11, 12, 13], [0, 1, 2, 3, 4, 5, 6, 7, 8, 9, 10, 11, 12, 13, 14], [0, 1, 2, 3, 4, 5, 6, 7, 8, 9, 10, 11, 12, 13, 14, 15]] [true, true, true, true, true, true, true, true, true, true, true, true, true, true, true, false, false] [false, false, false, false, false, false, false, false, false, false, false, false, false, false, false, false, true] [⟨15, none, [], []⟩] [(15, (w.heap.size+2))] [15] (fun ixq y => match ixq with | 15 => undef | _ => undef) (fun ixq x F wq => match ixq with | 15 => F (w.heap.size+2) ∧ Blk wq (w.heap.size+2) 23 #[.int .i64 n1, .int .i64 n2] | _ => True) (fun a x => (a).put (none) (undef)) (by kernel_rfl) (by kernel_rfl) (by kernel_rfl) (fun _ => rfl) [20, 27] (by kernel_rfl) (fills_lt1 (by omega)) fills_ne1
      · intro x D hD
        have hne := hD.some
        have k0 := liftS hD x0 (by exact early_all (by first | assumption | omega) (by rfl))
        have k1 := liftS hD x1 (by exact early_all (by first | assumption | omega) (by rfl))
        have k2 := liftS hD y0 (by exact early_all (by first | assumption | omega) (by rfl))
        have k3 := liftS hD y1 (by exact early_all (by first | assumption | omega) (by rfl))
        simp only [takeOps, Act.put, List.setIfInBounds_toArray, List.set_cons_succ, List.set_cons_zero]
        repeat (go_big_quiet_step ((first | (go_at_call 54; exact calls_same _ (Hu.out _)) | (go_at_call 56; exact calls_same _ (Hd.out _)) | (go_at_call 57; exact calls_same _ (Hu2.out _)))))
        exact wpQuiet_nil rfl
      · intro x D hD
        have hne := hD.some
        simp only [takeOps, Act.put, List.setIfInBounds_toArray, List.set_cons_succ, List.set_cons_zero]
        repeat (go_big_quiet_step ((first | (go_at_call 54; exact calls_same _ (Hu.out _)) | (go_at_call 56; exact calls_same _ (Hd.out _)) | (go_at_call 57; exact calls_same _ (Hu2.out _)))))
        exact wpQuiet_nil rfl
      · intro d hd x x'
        simp only [List.mem_cons, List.not_mem_nil, or_false] at hd
        rcases hd with rfl | rfl
        all_goals rfl
      · refine ⟨?_, trivial⟩
        · exact obl_fill 23 23 4 29 (w.heap.size+2) _ (fun x => #[.int .i64 n1, .int .i64 n2]) (by kernel_rfl) (fun _ => rfl) (fun _ => rfl) Ho.out eb_fill1 (by simp [wrF]) (fun _ => by kernel_rfl) (fun _ => rfl) (fun _ => by simp [Value.oneCell']) (fun _ => rfl) (fun _ _ _ _ h1 h2 => ⟨h1, h2⟩)
      · refine ⟨?_, trivial⟩
        · exact owe_fill (w.heap.size+2) 23 (fun x => #[.int .i64 n1, .int .i64 n2]) (fun _ _ _ => rfl) (fun _ _ _ => rfl)
      intro xr w4 F hK hlv2
      obtain ⟨fct15, -⟩ := hlv2
      replace fct15 : (F 15) (w.heap.size+2) ∧ Blk w4 (w.heap.size+2) 23 #[.int .i64 n1, .int .i64 n2] := fct15 rfl
      have hbr := below_kept HB.out HB.out.size hK (by simp)
      have ho4 := fct15.2
      obtain ⟨e0, e1⟩ := ho4.c2
      have fe0 := ho4.frozen 0
      have fe1 := ho4.frozen 1
      have lte := ho4.lt
      go_wp2
      refine bodyPost_ret (v := corrV r) (by rw [HR.out]; simp [corrV, results, Try.results14, go_sem, e0, e1, fe0, fe1, lte]) rfl ⟨rfl, hbr⟩
    · have h3 : inS g1 g2 1 1000000 = false := by simpa using h2
      rw [if_neg (by rw [h3]; simp)] at hR
      have HR := hide hR
      clear hR
      go_enter Try.func14, Try.ntmps14
      have HB := hide (Below.refl w.heap.size w)
      go_wp2_with fail
      refine at_world fun w1 hW => ?_
      have bq0 : Blk w1 w.heap.size 23 #[.int .i64 p1, .int .i64 p2] := by rw [hW]; exact ((Blk.new _ _ _).alloc _).alloc _
      have bq1 : Blk w1 (w.heap.size + 1) 23 #[.int .i64 g1, .int .i64 g2] := by rw [hW]; exact (blk_new_at (by simp)).alloc _
      have bq2 : Blk w1 (w.heap.size + 2) 23 #[.int .i64 0, .int .i64 0] := by rw [hW]; exact blk_new_at (by simp)
      have LW : Later w w1 := by rw [hW]; exact ((((Below.refl _ _).alloc (Nat.le_refl _) _).alloc (by simp; try omega) _).alloc (by simp; try omega) _)
      have szW : w1.heap.size = w.heap.size + 3 := by rw [hW]; simp
      clear hW
      replace HB := hide (onward HB.out LW)
      have Hp := hide bq0
      have Hg := hide bq1
      have Ho := hide bq2
      clear bq0 bq1 bq2 LW szW
      refine (RefValid_any _ _ _ _ _).mono ?_
      rintro e w2 ⟨rfl, hb⟩
      replace HB := hide (onward HB.out hb)
      replace Hp := hide (blk_later Hp.out hb)
      replace Hg := hide (blk_later Hg.out hb)
      replace Ho := hide (blk_later Ho.out hb)
      clear hb
      rw [h1]
      obtain ⟨y0, y1⟩ := Hg.out.c2
      have lty := Hg.out.lt
      go_wp2_with fail
      refine (RefValid_any _ _ _ _ _).mono ?_
      rintro e w3 ⟨rfl, hb⟩
      replace HB := hide (onward HB.out hb)
      replace Hp := hide (blk_later Hp.out hb)
      replace Hg := hide (blk_later Hg.out hb)
      replace Ho := hide (blk_later Ho.out hb)
      clear hb y0 y1 lty
      rw [h3]
      obtain ⟨e0, e1⟩ := Ho.out.c2
      have lte := Ho.out.lt
      have fe0 := Ho.out.frozen 0
      have fe1 := Ho.out.frozen 1
      go_wp2
      refine bodyPost_ret (v := corrV r) (by rw [HR.out]; simp [corrV, results, Try.results14, go_sem, e0, e1, fe0, fe1, lte]) rfl ⟨rfl, ?_⟩
      repeat (first | exact HB.out | (refine Below.setCell ?_ (by first | omega | (simp; done) | (simp; omega)) _) | (refine Below.alloc ?_ (by first | omega | (simp; done) | (simp; omega)) _) | (refine below_drewN ?_ _))
  · have h3 : inS p1 p2 0 1073741824 = false := by simpa using h1
    rw [if_neg (by rw [h3]; simp)] at hR
    have HR := hide hR
    clear hR
    go_enter Try.func14, Try.ntmps14
    have HB := hide (Below.refl w.heap.size w)
    go_wp2_with fail
    refine at_world fun w1 hW => ?_
    have bq0 : Blk w1 w.heap.size 23 #[.int .i64 p1, .int .i64 p2] := by rw [hW]; exact ((Blk.new _ _ _).alloc _).alloc _
    have bq1 : Blk w1 (w.heap.size + 1) 23 #[.int .i64 g1, .int .i64 g2] := by rw [hW]; exact (blk_new_at (by simp)).alloc _
    have bq2 : Blk w1 (w.heap.size + 2) 23 #[.int .i64 0, .int .i64 0] := by rw [hW]; exact blk_new_at (by simp)
    have LW : Later w w1 := by rw [hW]; exact ((((Below.refl _ _).alloc (Nat.le_refl _) _).alloc (by simp; try omega) _).alloc (by simp; try omega) _)
    have szW : w1.heap.size = w.heap.size + 3 := by rw [hW]; simp
    clear hW
    replace HB := hide (onward HB.out LW)
    have Hp := hide bq0
    have Hg := hide bq1
    have Ho := hide bq2
    clear bq0 bq1 bq2 LW szW
    refine (RefValid_any _ _ _ _ _).mono ?_
    rintro e w2 ⟨rfl, hb⟩
    replace HB := hide (onward HB.out hb)
    replace Hp := hide (blk_later Hp.out hb)
    replace Hg := hide (blk_later Hg.out hb)
    replace Ho := hide (blk_later Ho.out hb)
    clear hb
    rw [h3]
    obtain ⟨e0, e1⟩ := Ho.out.c2
    have lte := Ho.out.lt
    have fe0 := Ho.out.frozen 0
    have fe1 := Ho.out.frozen 1
    go_wp2
    refine bodyPost_ret (v := corrV r) (by rw [HR.out]; simp [corrV, results, Try.results14, go_sem, e0, e1, fe0, fe1, lte]) rfl ⟨rfl, ?_⟩
    repeat (first | exact HB.out | (refine Below.setCell ?_ (by first | omega | (simp; done) | (simp; omega)) _) | (refine Below.alloc ?_ (by first | omega | (simp; done) | (simp; omega)) _) | (refine below_drewN ?_ _))
end Go.Proofs.Ytiggefmckomilaa
namespace Go.Proofs.Ytiggefmckomilaa
open Go Go.RowKit

/-- Things that a call has made lie beside those that were there. -/
theorem Mem.join {w0 W W' : World} {ts ts' : List Th} (h : Mem w0 ts W) (h' : Mem W ts' W') : Mem w0 (ts' ++ ts) W' := by
  have hl := h.later h'.below
  have hlt := h.lt
  have hsz := h.size
  refine ⟨fun t ht => ?_, ?_, fun k hk => ?_, hl.below⟩
  · rcases List.mem_append.1 ht with ht | ht
    · exact h'.all t ht
    · exact hl.all t ht
  · unfold fps
    rw [List.flatMap_append, List.nodup_append]
    exact ⟨h'.nodup, h.nodup, fun a ha b hb e => by
      subst e
      have := h'.low a ha
      have := hlt a hb
      omega⟩
  · unfold fps at hk
    rw [List.flatMap_append] at hk
    rcases List.mem_append.1 hk with hk | hk
    · have := h'.low k hk; omega
    · exact h.low k hk
def kb0 : List Ent := [exB, exA, exR]
def kb1 : List Ent := exT :: kb0
def kb2 : List Ent := .test ⟨⟨#[114]⟩, ⟨#[97]⟩, 172800, 2500, 2500⟩ :: kb1
def kb3 : List Ent := .turn ⟨#[98]⟩ true :: kb2
def kb4 : List Ent := .turn ⟨#[98]⟩ false :: kb3
def kb5 : List Ent := .turn ⟨#[97]⟩ true :: kb4
def tmA (k : Nat) : Int := if k = 0 then 0 else if k = 1 then 86400 else 86401
def loA (k : Nat) : Int := if k = 0 then 1000 else if k = 1 then 999 else 998
def hiA (k : Nat) : Int := if k = 0 then 1010 else if k = 1 then 1011 else 1012
def tmB (k : Nat) : Int := if k = 0 then 172800 else if k = 1 then 259200 else 0
def loB (k : Nat) : Int := if k = 0 then 1972 else if k = 1 then 1970 else 1968
def hiB (k : Nat) : Int := if k = 0 then 2029 else if k = 1 then 2031 else 2033
theorem k3 {k : Nat} (h : k < 3) : k = 0 ∨ k = 1 ∨ k = 2 := by omega
theorem timA {k : Nat} (h : k < 3) : (#[.int .i64 0, .int .i64 86400, .int .i64 86401] : Array Value)[k]? = some (.int .i64 (tmA k)) := by rcases k3 h with rfl | rfl | rfl <;> rfl
theorem timB {k : Nat} (h : k < 3) : (#[.int .i64 172800, .int .i64 259200, .int .i64 0] : Array Value)[k]? = some (.int .i64 (tmB k)) := by rcases k3 h with rfl | rfl | rfl <;> rfl
theorem spnA {k : Nat} (h : k < 3) : (#[.int .i64 1000, .int .i64 1010, .int .i64 999, .int .i64 1011, .int .i64 998, .int .i64 1012] : Array Value)[k * 2]? = some (.int .i64 (loA k)) ∧ (#[.int .i64 1000, .int .i64 1010, .int .i64 999, .int .i64 1011, .int .i64 998, .int .i64 1012] : Array Value)[k * 2 + 1]? = some (.int .i64 (hiA k)) := by rcases k3 h with rfl | rfl | rfl <;> exact ⟨rfl, rfl⟩
theorem spnB {k : Nat} (h : k < 3) : (#[.int .i64 1972, .int .i64 2029, .int .i64 1970, .int .i64 2031, .int .i64 1968, .int .i64 2033] : Array Value)[k * 2]? = some (.int .i64 (loB k)) ∧ (#[.int .i64 1972, .int .i64 2029, .int .i64 1970, .int .i64 2031, .int .i64 1968, .int .i64 2033] : Array Value)[k * 2 + 1]? = some (.int .i64 (hiB k)) := by rcases k3 h with rfl | rfl | rfl <;> exact ⟨rfl, rfl⟩
theorem kn_val {k : Nat} (h : k < 3) : valueE kb0 ⟨#[97]⟩ (tmA k) = ((loA k, hiA k), 0) := by rcases k3 h with rfl | rfl | rfl <;> decide +kernel
theorem kn_stale : valueE kb0 ⟨#[97]⟩ 864001 = ((0, 0), 22) := by decide +kernel
theorem kn_t1 : testE kb0 ⟨⟨#[114]⟩, ⟨#[98]⟩, 172800, 998, 1012⟩ = 0 := by decide +kernel
theorem kn_gain {k : Nat} (h : k < 3) : gainE kb1 ⟨#[114]⟩ (tmB k) = ((loB k, hiB k), (0, 0), 0) := by rcases k3 h with rfl | rfl | rfl <;> decide +kernel
theorem kn_t2 : testE kb1 ⟨⟨#[114]⟩, ⟨#[97]⟩, 172800, 2500, 2500⟩ = 0 := by decide +kernel
theorem kn_l2 : ((testsT kb1).length : Int) = 1 := by decide +kernel
theorem kn_g2 : gainE kb2 ⟨#[114]⟩ 172800 = ((0, 0), (0, 1), 14) := by decide +kernel
theorem kn_dep : dependA kb2 ⟨#[97]⟩ = ([⟨#[97]⟩, ⟨#[98]⟩], [0, 1], 0) := by decide +kernel
theorem kn_w3 : turnE kb2 ⟨#[98]⟩ true = 0 := by decide +kernel
theorem kn_g3 : gainE kb3 ⟨#[114]⟩ 172800 = ((2470, 2506), (0, 0), 0) := by decide +kernel
theorem kn_ch : chainA kb3 0 = ([⟨#[98]⟩, ⟨#[97]⟩], 0) := by decide +kernel
theorem kn_w4 : turnE kb3 ⟨#[98]⟩ false = 0 := by decide +kernel
theorem kn_w5 : turnE kb4 ⟨#[97]⟩ true = 0 := by decide +kernel
theorem kn_g5 : gainE kb5 ⟨#[114]⟩ 0 = ((0, 0), (0, 0), 18) := by decide +kernel
theorem kn_v5 : valueE kb5 ⟨#[98]⟩ 86400 = ((0, 0), 22) := by decide +kernel
theorem kn_d5 : defineE kb5 ⟨⟨#[99]⟩, ⟨#[98]⟩, 1000, 1000, 86400, 864000, 0⟩ = 22 := by decide +kernel
theorem kn_len : (kb5.length : Int) = 8 := rfl
theorem kn_drop : kb5.drop (kb5.length - (4 : Int).toNat) = kb1 := rfl
theorem kn_g1 : gainE kb1 ⟨#[114]⟩ 172800 = ((1972, 2029), (0, 0), 0) := by decide +kernel
theorem kn_cor : correctR (100, 200) (1000, 1000) = ((100, 200), 0) := by decide +kernel
end Go.Proofs.Ytiggefmckomilaa
namespace Go.Proofs.Ytiggefmckomilaa
open Go Go.RowKit

theorem actInfo : (Try.prog.info? 59).map (fun i => (i.zero, i.size, i.bytes)) = some (some (.agg #[.int .i64 0, .string ⟨#[]⟩, .string ⟨#[]⟩, .int .i64 0, .int .i64 0, .int .i64 0, .int .i64 0, .int .i64 0]), 8, 80) := by kernel_rfl
/-- Acts in a row. -/
def actsV (ts : List ActR) : List Value := ts.flatMap actL
theorem actsV_snoc (ts : List ActR) (a : ActR) : actsV (ts ++ [a]) = actsV ts ++ [.int .i64 a.k, .string a.nm, .string a.pr, .int .i64 a.lo, .int .i64 a.hi, .int .i64 a.tm, .int .i64 a.un, .int .i64 a.n] := by unfold actsV; simp [actL]
theorem actsV_at {ts : List ActR} {i : Nat} {a : ActR} (h : ts[i]? = some a) {j : Nat} (hj : j < 8) : (actsV ts)[i * 8 + j]? = (actL a)[j]? := flatMap8_get actL (fun _ => rfl) ts i j a h hj
/-- An act of a row, in memory. -/
theorem acts_cells {w : World} {g : Nat} {t : TypeId} {cur : Array Value} {ts : List ActR} (hb : Blk w g t cur) (hc : ∀ (i : Nat) (v : Value), (actsV ts)[i]? = some v → cur[i]? = some v) {i : Nat} {a : ActR} (h : ts[i]? = some a) :
    w.cell? ⟨g, i * 8, none⟩ = some (.int .i64 a.k) ∧ w.cell? ⟨g, i * 8 + 1, none⟩ = some (.string a.nm) ∧ w.cell? ⟨g, i * 8 + 2, none⟩ = some (.string a.pr) ∧ w.cell? ⟨g, i * 8 + 3, none⟩ = some (.int .i64 a.lo) ∧ w.cell? ⟨g, i * 8 + 4, none⟩ = some (.int .i64 a.hi) ∧ w.cell? ⟨g, i * 8 + 5, none⟩ = some (.int .i64 a.tm) ∧ w.cell? ⟨g, i * 8 + 6, none⟩ = some (.int .i64 a.un) ∧ w.cell? ⟨g, i * 8 + 7, none⟩ = some (.int .i64 a.n) :=
  ⟨hb.c _ (hc _ _ (actsV_at h (j := 0) (by omega))), hb.c _ (hc _ _ (actsV_at h (j := 1) (by omega))), hb.c _ (hc _ _ (actsV_at h (j := 2) (by omega))), hb.c _ (hc _ _ (actsV_at h (j := 3) (by omega))), hb.c _ (hc _ _ (actsV_at h (j := 4) (by omega))), hb.c _ (hc _ _ (actsV_at h (j := 5) (by omega))), hb.c _ (hc _ _ (actsV_at h (j := 6) (by omega))), hb.c _ (hc _ _ (actsV_at h (j := 7) (by omega)))⟩
theorem row_acts {w : World} {base n c : Nat} {e : TypeId} {A : Option Addr} {ts : List ActR} {i : Nat} {a : ActR} (h : w.ownsRow base e 8 (.slice A n c) n (actsV ts)) (hn : ts.length = n) (hi : ts[i]? = some a) :
    ∃ g, A = some ⟨g, 0, none⟩ ∧ g < w.heap.size ∧ w.cell? ⟨g, i * 8, none⟩ = some (.int .i64 a.k) ∧ w.cell? ⟨g, i * 8 + 1, none⟩ = some (.string a.nm) ∧ w.cell? ⟨g, i * 8 + 2, none⟩ = some (.string a.pr) ∧ w.cell? ⟨g, i * 8 + 3, none⟩ = some (.int .i64 a.lo) ∧ w.cell? ⟨g, i * 8 + 4, none⟩ = some (.int .i64 a.hi) ∧ w.cell? ⟨g, i * 8 + 5, none⟩ = some (.int .i64 a.tm) ∧ w.cell? ⟨g, i * 8 + 6, none⟩ = some (.int .i64 a.un) ∧ w.cell? ⟨g, i * 8 + 7, none⟩ = some (.int .i64 a.n) := by
  have hl := (List.getElem?_eq_some_iff.1 hi).1
  obtain ⟨g, cur, hA, -, hb, -, -, hc⟩ := row_blk h (by omega)
  exact ⟨g, hA, hb.lt, acts_cells hb hc hi⟩
/-- The chain of a test, in memory of its own. -/
theorem chain_call {B : List Ent} {p : Nat} {L : Lay} {C : List ByteArray} {y : Nat} {w : World} (hb : BookR B p L w) (h : chainA B (y : Int) = (C, 0)) (hC : 0 < C.length) :
    Calls Try.prog 40 #[ptrB p, .int .i64 y] w fun e w' => ∃ g c cur, e = .returned (.tuple #[.slice (some ⟨g, 0, none⟩) C.length c, .int .i64 0]) ∧ Below w.heap.size w w' ∧ Blk w' g 9 cur ∧ w.heap.size ≤ g ∧ ∀ (i : Nat) (m : ByteArray), C[i]? = some m → cur[i]? = some (.string m) := by
  have hct := Chain_any B p L y w hb
  rw [h] at hct
  refine hct.mono ?_
  rintro e w4 ⟨v1, rfl, hb1, ho1⟩
  obtain ⟨A1, c1, rfl⟩ := own_shape2 ho1
  obtain ⟨g, cur, hA, -, hg, -, -, hc⟩ := row_blk ho1 hC
  cases hA
  exact ⟨g, c1, cur, rfl, hb1, hg, (ho1.lt g rfl).1, fun i m h => hc i _ (by unfold strV; rw [List.getElem?_map, h]; rfl)⟩
end Go.Proofs.Ytiggefmckomilaa
namespace Go.Proofs.Ytiggefmckomilaa
open Go Go.RowKit

/-- The fields of an entry as the reference keeps it. -/
def kdE : Ent → Int
  | .radar _ _ => 1
  | .define _ => 2
  | .test _ => 3
  | .turn _ o => if o = true then 4 else 5
def nmE : Ent → ByteArray
  | .radar n _ => n
  | .turn n _ => n
  | _ => ⟨#[]⟩
def drE : Ent → Int
  | .radar _ d => d
  | _ => 0
def std0 : Std := ⟨⟨#[]⟩, ⟨#[]⟩, 0, 0, 0, 0, 0⟩
def tst0 : Tst := ⟨⟨#[]⟩, ⟨#[]⟩, 0, 0, 0⟩
def sdE : Ent → Std
  | .define s => s
  | _ => std0
def tsE : Ent → Tst
  | .test t => t
  | _ => tst0
def stdL (s : Std) : List Value := [.string s.name, .string s.par, .int .i64 s.lo, .int .i64 s.hi, .int .i64 s.time, .int .i64 s.stop, .int .i64 s.drift]
def tstL (t : Tst) : List Value := [.string t.radar, .string t.std, .int .i64 t.time, .int .i64 t.lo, .int .i64 t.hi]
def rowE (x : Ent) : List Value := [.int .i64 (kdE x), .string (nmE x), .int .i64 (drE x), .string (sdE x).name, .string (sdE x).par, .int .i64 (sdE x).lo, .int .i64 (sdE x).hi, .int .i64 (sdE x).time, .int .i64 (sdE x).stop, .int .i64 (sdE x).drift, .string (tsE x).radar, .string (tsE x).std, .int .i64 (tsE x).time, .int .i64 (tsE x).lo, .int .i64 (tsE x).hi]
/-- The entries, the oldest first. -/
def entN (l : List Ent) (i : Nat) : Ent := l.reverse.getD i (.test tst0)
/-- The book when it had so many entries. -/
def sufL (l : List Ent) (i : Nat) : List Ent := l.drop (l.length - i)
theorem suf_zero (l : List Ent) : sufL l 0 = [] := by unfold sufL; rw [Nat.sub_zero, List.drop_length]
theorem suf_all (l : List Ent) : sufL l l.length = l := by unfold sufL; rw [Nat.sub_self, List.drop_zero]
theorem suf_succ {l : List Ent} {i : Nat} (h : i < l.length) : sufL l (i + 1) = entN l i :: sufL l i := by
  unfold sufL entN
  have h1 : l.length - (i + 1) < l.length := by omega
  rw [List.drop_eq_getElem_cons h1, List.getD_eq_getElem?_getD, List.getElem?_reverse h, List.getElem?_eq_getElem (by omega), show l.length - (i + 1) + 1 = l.length - i by omega]
  congr 1
  simp only [show l.length - 1 - i = l.length - (i + 1) by omega]
  rfl
theorem suf_mem {l : List Ent} {i : Nat} (h : i < l.length) : entN l i ∈ l := by
  have : entN l i ∈ sufL l (i + 1) := by rw [suf_succ h]; exact List.mem_cons_self
  exact List.mem_of_mem_drop this
theorem radar_mem : ∀ {l : List Ent} {n : ByteArray} {d : Int}, GoodB l → Ent.radar n d ∈ l → driftT l n = some d
  | [], _, _, _, h => by cases h
  | e :: l, n, d, hg, h => by
    rcases List.mem_cons.1 h with rfl | h
    · rw [driftT, if_pos rfl]
    · have ih := radar_mem hg.2 h
      cases e with
      | radar m x =>
        rw [driftT]
        by_cases hm : m = n
        · subst hm
          exfalso
          have h0 : radarE l m x = 0 := by have := hg.1; unfold okEnt at this; simpa using this
          unfold radarE at h0
          rw [ih] at h0
          split at h0
          · omega
          split at h0
          · omega
          · simp at h0
        · rw [if_neg hm]; exact ih
      | _ => exact ih
theorem define_mem : ∀ {l : List Ent} {s : Std}, GoodB l → Ent.define s ∈ l → stdT l s.name = some s
  | [], _, _, h => by cases h
  | e :: l, s, hg, h => by
    rcases List.mem_cons.1 h with rfl | h
    · rw [stdT, if_pos rfl]
    · have ih := define_mem hg.2 h
      rw [stdT_cons (fresh_of hg ih)]
      exact ih
def isR (x : Ent) (n : ByteArray) : Bool := decide (kdE x = 1) && decide (nmE x = n)
def isD (x : Ent) (n : ByteArray) : Bool := decide (kdE x = 2) && decide ((sdE x).name = n)
theorem kd_turn (o : Bool) : (if o = true then (4 : Int) else 5) ≠ 1 ∧ (if o = true then (4 : Int) else 5) ≠ 2 ∧ (if o = true then (4 : Int) else 5) ≠ 3 := by cases o <;> decide
theorem drift_next {x : Ent} {l : List Ent} {n : ByteArray} (h : driftT l n = none) (hx : isR x n = false) : driftT (x :: l) n = none := by
  cases x with
  | radar m d =>
    rw [driftT]
    unfold isR kdE nmE at hx
    have : ¬ m = n := by simpa using hx
    rw [if_neg this]
    exact h
  | _ => exact h
theorem drift_hit {l : List Ent} {i : Nat} {n : ByteArray} (hg : GoodB l) (hi : i < l.length) (hx : isR (entN l i) n = true) : driftT l n = some (drE (entN l i)) := by
  have hm := suf_mem hi
  generalize entN l i = x at *
  unfold isR at hx
  simp only [Bool.and_eq_true, decide_eq_true_eq] at hx
  cases x with
  | radar m d => rw [← hx.2]; exact radar_mem hg hm
  | define s => exact absurd hx.1 (by decide : ¬ (2 : Int) = 1)
  | test t => exact absurd hx.1 (by decide : ¬ (3 : Int) = 1)
  | turn m o => exact absurd hx.1 (kd_turn o).1
theorem std_next {x : Ent} {l : List Ent} {n : ByteArray} (h : stdT l n = none) (hx : isD x n = false) : stdT (x :: l) n = none := by
  cases x with
  | define s =>
    rw [stdT]
    unfold isD kdE sdE at hx
    have : ¬ s.name = n := by simpa using hx
    rw [if_neg this]
    exact h
  | _ => exact h
theorem std_hit {l : List Ent} {i : Nat} {n : ByteArray} (hg : GoodB l) (hi : i < l.length) (hx : isD (entN l i) n = true) : stdT l n = some (sdE (entN l i)) := by
  have hm := suf_mem hi
  generalize entN l i = x at *
  unfold isD at hx
  simp only [Bool.and_eq_true, decide_eq_true_eq] at hx
  cases x with
  | define s => rw [← hx.2]; exact define_mem hg hm
  | radar m d => exact absurd hx.1 (by decide : ¬ (1 : Int) = 2)
  | test t => exact absurd hx.1 (by decide : ¬ (3 : Int) = 2)
  | turn m o => exact absurd hx.1 (kd_turn o).2.1
/-- How many entries of a kind. -/
def cntE (k : Int) : List Ent → Nat
  | [] => 0
  | x :: l => cntE k l + if kdE x = k then 1 else 0
theorem cnt_radar : ∀ l : List Ent, cntE 1 l = (radarsT l).length
  | [] => rfl
  | .radar n d :: l => by rw [cntE, if_pos (show kdE (.radar n d) = 1 from rfl), cnt_radar l]; rfl
  | .define s :: l => by rw [cntE, if_neg (show ¬ kdE (.define s) = 1 from (by decide : ¬ (2 : Int) = 1)), cnt_radar l]; rfl
  | .test t :: l => by rw [cntE, if_neg (show ¬ kdE (.test t) = 1 from (by decide : ¬ (3 : Int) = 1)), cnt_radar l]; rfl
  | .turn n o :: l => by rw [cntE, if_neg (show ¬ kdE (.turn n o) = 1 from (kd_turn o).1), cnt_radar l]; rfl
theorem cnt_define : ∀ l : List Ent, cntE 2 l = (stdsT l).length
  | [] => rfl
  | .radar n d :: l => by rw [cntE, if_neg (show ¬ kdE (.radar n d) = 2 from (by decide : ¬ (1 : Int) = 2)), cnt_define l]; rfl
  | .define s :: l => by rw [cntE, if_pos (show kdE (.define s) = 2 from rfl), cnt_define l]; rfl
  | .test t :: l => by rw [cntE, if_neg (show ¬ kdE (.test t) = 2 from (by decide : ¬ (3 : Int) = 2)), cnt_define l]; rfl
  | .turn n o :: l => by rw [cntE, if_neg (show ¬ kdE (.turn n o) = 2 from (kd_turn o).2.1), cnt_define l]; rfl
theorem cnt_test : ∀ l : List Ent, cntE 3 l = (testsT l).length
  | [] => rfl
  | .radar n d :: l => by rw [cntE, if_neg (show ¬ kdE (.radar n d) = 3 from (by decide : ¬ (1 : Int) = 3)), cnt_test l]; rfl
  | .define s :: l => by rw [cntE, if_neg (show ¬ kdE (.define s) = 3 from (by decide : ¬ (2 : Int) = 3)), cnt_test l]; rfl
  | .test t :: l => by rw [cntE, if_pos (show kdE (.test t) = 3 from rfl), cnt_test l]; rfl
  | .turn n o :: l => by rw [cntE, if_neg (show ¬ kdE (.turn n o) = 3 from (kd_turn o).2.2), cnt_test l]; rfl
theorem cnt_le (k : Int) : ∀ l : List Ent, cntE k l ≤ l.length
  | [] => Nat.le_refl _
  | x :: l => by have := cnt_le k l; rw [cntE, List.length_cons]; split <;> omega
def isT (x : Ent) (n : ByteArray) : Bool := decide (nmE x = n) && (decide (kdE x = 4) || decide (kdE x = 5))
theorem wd_next (x : Ent) (l : List Ent) (n : ByteArray) : wdT (x :: l) n = if isT x n = true then decide (kdE x = 4) else wdT l n := by
  cases x with
  | turn m o =>
    rw [wdT]
    unfold isT nmE kdE
    by_cases h : m = n
    · rw [if_pos h]; cases o <;> simp [h]
    · rw [if_neg h]; simp [h]
  | radar m d => rw [if_neg (by unfold isT kdE; simp)]; rfl
  | define s => rw [if_neg (by unfold isT kdE; simp)]; rfl
  | test t => rw [if_neg (by unfold isT kdE; simp)]; rfl
/-- The reference's book in memory. -/
structure RefR (l : List Ent) (p : Nat) (A : Option Addr) (c : Nat) (w : World) : Prop where
  good : GoodB l
  b : Blk w p 117 #[.slice A l.length c]
  row : Rows_ w w.heap.size A l.length 15 (fun i => rowE (entN l i))
theorem RefR.later {l : List Ent} {p c : Nat} {A : Option Addr} {w w' : World} (h : RefR l p A c w) (hb : Below w.heap.size w w') : RefR l p A c w' := ⟨h.good, blk_later h.b hb, (h.row.below hb).more hb.size⟩
theorem good_len : ∀ {l : List Ent}, GoodB l → l.length ≤ 2000
  | [], _ => Nat.zero_le _
  | e :: l, hg => by
    have h : l.length < 2000 := by
      have h0 := hg.1
      cases e with
      | radar n d => have : radarE l n d = 0 := by unfold okEnt at h0; simpa using h0
                     unfold radarE at this; split at this <;> omega
      | define s => have : defineE l s = 0 := by unfold okEnt at h0; simpa using h0
                    exact (defineE_zero this).1
      | test t => have : testE l t = 0 := by unfold okEnt at h0; simpa using h0
                  unfold testE at this; split at this <;> omega
      | turn n o => have : turnE l n o = 0 := by unfold okEnt at h0; simpa using h0
                    exact (turn_zero this).1
    rw [List.length_cons]
    omega
end Go.Proofs.Ytiggefmckomilaa
namespace Go.Proofs.Ytiggefmckomilaa
open Go Go.RowKit

/-- The cells of an entry, and of the book, in any later world. -/
theorem RefR.cells {l : List Ent} {p c i : Nat} {A : Option Addr} {w : World} (h : RefR l p A c w) (hi : i < l.length) : ∃ b off, A = some ⟨b, off, none⟩ ∧ b < w.heap.size ∧ ∀ j v, (rowE (entN l i))[j]? = some v → w.cell? ⟨b, off + i * 15 + j, none⟩ = some v := by
  obtain ⟨b, off, hA, hb, hc⟩ := h.row (by omega)
  exact ⟨b, off, hA, hb, fun j v hv => hc i hi j v hv⟩
def driftV (l : List Ent) (n : ByteArray) : Value := match driftT l n with
  | some d => .tuple #[.int .i64 d, .bool true]
  | none => .tuple #[.int .i64 0, .bool false]
set_option maxHeartbeats 2000000 in
set_option maxRecDepth 100000 in
theorem rdrift_any (l : List Ent) (p c : Nat) (A : Option Addr) (n : ByteArray) (w : World) (hb : RefR l p A c w) :
    Calls Try.prog 69 #[ptrB p, .string n] w fun e w' => e = .returned (driftV l n) ∧ Below w.heap.size w w' := by
  have hl := good_len hb.good
  have hl2 : (l.length : Int) ≤ 2000 := by omega
  have Hb := hide hb
  clear hb
  unfold ptrB
  go_enter Try.func69, Try.ntmps69
  have HB := hide (Below.refl w.heap.size w)
  go_wp2_with fail
  go_loopw [6] (fun i wr => ∃ k : Nat, k ≤ l.length ∧ i = .int .i64 k ∧ driftT (sufL l k) n = none ∧ Below w.heap.size w wr) (fun i _ => l.length - (intOf i).toNat)
  case atStart => exact ⟨0, Nat.zero_le _, rfl, by rw [suf_zero]; rfl, HB.out⟩
  case round =>
    obtain ⟨k, hk, rfl, hd, hB⟩ := hrel
    clear HB
    have HB := hide hB
    have Hd := hide hd
    clear hB hd
    have hb1 := Hb.out.later HB.out
    have x0 := hb1.b.c 0 rfl
    have ltx := hb1.b.lt
    by_cases hlt : k < l.length
    · have hlt2 : (k : Int) < l.length := by omega
      obtain ⟨b, off, hA, hbb, hc⟩ := hb1.cells hlt
      have q0 := hc 0 (.int .i64 (kdE (entN l k))) rfl
      have q1 := hc 1 (.string (nmE (entN l k))) rfl
      have q2 := hc 2 (.int .i64 (drE (entN l k))) rfl
      rw [Nat.add_zero] at q0
      have hhit := fun h => drift_hit (n := n) Hb.out.good hlt h
      have hnx := fun h => drift_next (x := entN l k) (n := n) Hd.out h
      rw [← suf_succ hlt] at hnx
      unfold isR at hhit hnx
      clear hc hb1
      subst hA
      generalize hkd : kdE (entN l k) = kd at *
      generalize hnm : nmE (entN l k) = nm at *
      generalize drE (entN l k) = dr at *
      clear hkd hnm
      by_cases h1 : kd = 1
      · subst h1
        by_cases h2 : nm = n
        · subst h2
          have heq : (nm.toList == nm.toList) = true := beq_self_eq_true _
          have hr := hhit (by simp)
          have hv : driftV l nm = .tuple #[.int .i64 dr, .bool true] := by unfold driftV; rw [hr]
          have Hv := hide hv
          clear hhit hnx hr hv
          go_wp2
          refine bodyPost_ret (v := .tuple #[.int .i64 dr, .bool true]) (by simp [results, Try.results69, go_sem]) rfl ⟨by rw [Hv.out], HB.out⟩
        · have heq : (nm.toList == n.toList) = false := toList_bne h2
          have hr := hnx (by simp [h2])
          have Hr := hide hr
          clear hhit hnx hr
          go_wp2_with fail
          go_roundw
          case rel => exact ⟨k + 1, hlt, by go_num, Hr.out, HB.out⟩
          case measure => simp [intOf] <;> omega
      · have hr := hnx (by simp [h1])
        have Hr := hide hr
        clear hhit hnx hr
        go_wp2_with fail
        go_roundw
        case rel => exact ⟨k + 1, hlt, by go_num, Hr.out, HB.out⟩
        case measure => simp [intOf] <;> omega
    · obtain rfl : k = l.length := by omega
      have hkk : ¬ ((l.length : Int) < l.length) := by omega
      have hv : driftV l n = .tuple #[.int .i64 0, .bool false] := by have := Hd.out; rw [suf_all] at this; unfold driftV; rw [this]
      have Hv := hide hv
      clear hv hb1
      go_wp2
      refine bodyPost_ret (v := .tuple #[.int .i64 0, .bool false]) (by simp [results, Try.results69, go_sem]) rfl ⟨by rw [Hv.out], HB.out⟩
set_option maxHeartbeats 2000000 in
set_option maxRecDepth 100000 in
theorem rcount_any (l : List Ent) (p c : Nat) (A : Option Addr) (kind : Int) (w : World) (hb : RefR l p A c w) :
    Calls Try.prog 70 #[ptrB p, .int .i64 kind] w fun e w' => e = .returned (.int .i64 (cntE kind l : Int)) ∧ Below w.heap.size w w' := by
  have hl := good_len hb.good
  have hl2 : (l.length : Int) ≤ 2000 := by omega
  have Hb := hide hb
  clear hb
  unfold ptrB
  go_enter Try.func70, Try.ntmps70
  have HB := hide (Below.refl w.heap.size w)
  go_wp2_with fail
  go_loopw [5, 6] (fun o i wr => ∃ k : Nat, k ≤ l.length ∧ i = .int .i64 k ∧ o = .int .i64 (cntE kind (sufL l k) : Int) ∧ Below w.heap.size w wr) (fun _ i _ => l.length - (intOf i).toNat)
  case atStart => exact ⟨0, Nat.zero_le _, rfl, by rw [suf_zero]; rfl, HB.out⟩
  case round =>
    obtain ⟨k, hk, rfl, rfl, hB⟩ := hrel
    clear HB
    have HB := hide hB
    clear hB
    have hb1 := Hb.out.later HB.out
    have x0 := hb1.b.c 0 rfl
    have ltx := hb1.b.lt
    by_cases hlt : k < l.length
    · have hlt2 : (k : Int) < l.length := by omega
      obtain ⟨b, off, hA, hbb, hc⟩ := hb1.cells hlt
      have q0 := hc 0 (.int .i64 (kdE (entN l k))) rfl
      rw [Nat.add_zero] at q0
      have hs : cntE kind (sufL l (k + 1)) = cntE kind (sufL l k) + if kdE (entN l k) = kind then 1 else 0 := by rw [suf_succ hlt, cntE]
      have hcl := cnt_le kind (sufL l k)
      have hsl : (sufL l k).length ≤ 2000 := by unfold sufL; rw [List.length_drop]; omega
      generalize cntE kind (sufL l k) = m at *
      generalize kdE (entN l k) = kd at *
      have Hs := hide hs
      clear hc hb1 hs
      subst hA
      by_cases h1 : kd = kind
      · subst h1
        go_wp2_with fail
        go_roundw
        case rel => exact ⟨k + 1, hlt, by go_num, by rw [Hs.out, if_pos rfl]; go_num, HB.out⟩
        case measure => simp [intOf] <;> omega
      · go_wp2_with fail
        go_roundw
        case rel => exact ⟨k + 1, hlt, by go_num, by rw [Hs.out, if_neg h1]; rfl, HB.out⟩
        case measure => simp [intOf] <;> omega
    · obtain rfl : k = l.length := by omega
      have hkk : ¬ ((l.length : Int) < l.length) := by omega
      rw [suf_all]
      clear hb1
      go_wp2
      go_ret
      exact ⟨rfl, HB.out⟩
set_option maxHeartbeats 2000000 in
set_option maxRecDepth 100000 in
theorem rwd_any (l : List Ent) (p c : Nat) (A : Option Addr) (n : ByteArray) (w : World) (hb : RefR l p A c w) :
    Calls Try.prog 89 #[ptrB p, .string n] w fun e w' => e = .returned (.bool (wdT l n)) ∧ Below w.heap.size w w' := by
  have hl := good_len hb.good
  have hl2 : (l.length : Int) ≤ 2000 := by omega
  have Hb := hide hb
  clear hb
  unfold ptrB
  go_enter Try.func89, Try.ntmps89
  have HB := hide (Below.refl w.heap.size w)
  go_wp2_with fail
  go_loopw [5, 6] (fun o i wr => ∃ k : Nat, k ≤ l.length ∧ i = .int .i64 k ∧ o = .bool (wdT (sufL l k) n) ∧ Below w.heap.size w wr) (fun _ i _ => l.length - (intOf i).toNat)
  case atStart => exact ⟨0, Nat.zero_le _, rfl, by rw [suf_zero]; rfl, HB.out⟩
  case round =>
    obtain ⟨k, hk, rfl, rfl, hB⟩ := hrel
    clear HB
    have HB := hide hB
    clear hB
    have hb1 := Hb.out.later HB.out
    have x0 := hb1.b.c 0 rfl
    have ltx := hb1.b.lt
    by_cases hlt : k < l.length
    · have hlt2 : (k : Int) < l.length := by omega
      obtain ⟨b, off, hA, hbb, hc⟩ := hb1.cells hlt
      have q0 := hc 0 (.int .i64 (kdE (entN l k))) rfl
      have q1 := hc 1 (.string (nmE (entN l k))) rfl
      rw [Nat.add_zero] at q0
      have hs := wd_next (entN l k) (sufL l k) n
      rw [← suf_succ hlt] at hs
      unfold isT at hs
      generalize wdT (sufL l k) n = o at *
      generalize kdE (entN l k) = kd at *
      generalize nmE (entN l k) = nm at *
      have Hs := hide hs
      clear hc hb1 hs
      subst hA
      by_cases h2 : nm = n
      · subst h2
        have heq : (nm.toList == nm.toList) = true := beq_self_eq_true _
        by_cases h4 : kd = 4
        · subst h4
          go_wp2_with fail
          go_roundw
          case rel => exact ⟨k + 1, hlt, by go_num, by rw [Hs.out]; simp, HB.out⟩
          case measure => simp [intOf] <;> omega
        · have e4 : (kd == 4) = false := by simp [h4]
          by_cases h5 : kd = 5
          · subst h5
            go_wp2_with fail
            go_roundw
            case rel => exact ⟨k + 1, hlt, by go_num, by rw [Hs.out]; simp, HB.out⟩
            case measure => simp [intOf] <;> omega
          · have e5 : (kd == 5) = false := by simp [h5]
            go_wp2_with fail
            go_roundw
            case rel => exact ⟨k + 1, hlt, by go_num, by rw [Hs.out]; simp [h4, h5], HB.out⟩
            case measure => simp [intOf] <;> omega
      · have heq : (nm.toList == n.toList) = false := toList_bne h2
        go_wp2_with fail
        go_roundw
        case rel => exact ⟨k + 1, hlt, by go_num, by rw [Hs.out]; simp [h2], HB.out⟩
        case measure => simp [intOf] <;> omega
    · obtain rfl : k = l.length := by omega
      have hkk : ¬ ((l.length : Int) < l.length) := by omega
      rw [suf_all]
      clear hb1
      go_wp2
      go_ret
      exact ⟨rfl, HB.out⟩
theorem rIn_any (n lo hi : Int) (w : World) : Calls Try.prog 71 #[.int .i64 n, .int .i64 lo, .int .i64 hi] w fun e w' => e = .returned (.bool (inR n lo hi)) ∧ w = w' := by
  obtain ⟨r, hr⟩ : ∃ r, inR n lo hi = r := ⟨_, rfl⟩
  rw [hr]
  by_cases h1 : lo ≤ n
  · by_cases h2 : n ≤ hi
    · obtain rfl : r = true := by rw [← hr]; exact inR_iff.2 ⟨h1, h2⟩
      go_enter Try.func71, Try.ntmps71
      go_wp2
      go_ret
      exact ⟨rfl, rfl⟩
    · obtain rfl : r = false := by rw [← hr]; unfold inR; simp [h2]
      go_enter Try.func71, Try.ntmps71
      go_wp2
      go_ret
      exact ⟨rfl, rfl⟩
  · obtain rfl : r = false := by rw [← hr]; unfold inR; simp [h1]
    go_enter Try.func71, Try.ntmps71
    go_wp2
    go_ret
    exact ⟨rfl, rfl⟩
end Go.Proofs.Ytiggefmckomilaa
namespace Go.Proofs.Ytiggefmckomilaa
open Go Go.RowKit

theorem ret_world {P : Program} {f : Func} {Post : Ending → World → Prop} {e : Exit} {a : Act} {w : World} (h : ∀ W, W = w → bodyPost P f Post e a W) : bodyPost P f Post e a w := h w rfl
def stdV (s : Std) : Value := .agg #[.string s.name, .string s.par, .int .i64 s.lo, .int .i64 s.hi, .int .i64 s.time, .int .i64 s.stop, .int .i64 s.drift]
def standardV (l : List Ent) (n : ByteArray) : Value := match stdT l n with
  | some s => .tuple #[stdV s, .bool true]
  | none => .tuple #[stdV std0, .bool false]
set_option maxHeartbeats 2000000 in
set_option maxRecDepth 100000 in
theorem rstandard_any (l : List Ent) (p c : Nat) (A : Option Addr) (n : ByteArray) (w : World) (hb : RefR l p A c w) :
    Calls Try.prog 72 #[ptrB p, .string n] w fun e w' => e = .returned (standardV l n) ∧ Below w.heap.size w w' := by
  have hl := good_len hb.good
  have hl2 : (l.length : Int) ≤ 2000 := by omega
  have Hb := hide hb
  clear hb
  unfold ptrB
  go_enter Try.func72, Try.ntmps72
  have HB := hide (Below.refl w.heap.size w)
  go_wp2_with fail
  refine code_world fun W hW => ?_
  have bq0 : Blk W w.heap.size 67 #[.string ⟨#[]⟩, .string ⟨#[]⟩, .int .i64 0, .int .i64 0, .int .i64 0, .int .i64 0, .int .i64 0] := by rw [hW]; exact Blk.new _ _ _
  have LW : Later w W := by rw [hW]; exact ((Below.refl _ _).alloc (Nat.le_refl _) _)
  have szW : W.heap.size = w.heap.size + 1 := by rw [hW]; simp
  clear hW
  replace HB := hide (onward HB.out LW)
  have Hr := hide bq0
  clear bq0 LW szW
  generalize hg : w.heap.size = g at *
  go_wp2_with fail
  go_loopw [6] (fun i wr => ∃ k : Nat, k ≤ l.length ∧ i = .int .i64 k ∧ stdT (sufL l k) n = none ∧ Below g w wr ∧ Blk wr g 67 #[.string ⟨#[]⟩, .string ⟨#[]⟩, .int .i64 0, .int .i64 0, .int .i64 0, .int .i64 0, .int .i64 0]) (fun i _ => l.length - (intOf i).toNat)
  case atStart => exact ⟨0, Nat.zero_le _, rfl, by rw [suf_zero]; rfl, HB.out, Hr.out⟩
  case round =>
    obtain ⟨k, hk, rfl, hd, hB, hR⟩ := hrel
    clear HB Hr
    have HB := hide hB
    have Hd := hide hd
    have Hr := hide hR
    clear hB hd hR
    have hb1 := Hb.out.later (hg ▸ HB.out)
    have x0 := hb1.b.c 0 rfl
    have ltx := hb1.b.lt
    by_cases hlt : k < l.length
    · have hlt2 : (k : Int) < l.length := by omega
      obtain ⟨b, off, hA, hbb, hc⟩ := hb1.cells hlt
      have q0 := hc 0 (.int .i64 (kdE (entN l k))) rfl
      have s3 := hc 3 (.string (sdE (entN l k)).name) rfl
      have s4 := hc 4 (.string (sdE (entN l k)).par) rfl
      have s5 := hc 5 (.int .i64 (sdE (entN l k)).lo) rfl
      have s6 := hc 6 (.int .i64 (sdE (entN l k)).hi) rfl
      have s7 := hc 7 (.int .i64 (sdE (entN l k)).time) rfl
      have s8 := hc 8 (.int .i64 (sdE (entN l k)).stop) rfl
      have s9 := hc 9 (.int .i64 (sdE (entN l k)).drift) rfl
      rw [Nat.add_zero] at q0
      have hhit := fun h => std_hit (n := n) Hb.out.good hlt h
      have hnx := fun h => std_next (x := entN l k) (n := n) Hd.out h
      rw [← suf_succ hlt] at hnx
      unfold isD at hhit hnx
      clear hc hb1
      subst hA
      generalize hkd : kdE (entN l k) = kd at *
      generalize sdE (entN l k) = s at *
      clear hkd
      by_cases h1 : kd = 2
      · subst h1
        obtain ⟨sn, sp, slo, shi, stm, sst, sdr⟩ := s
        simp only at s3 s4 s5 s6 s7 s8 s9 hhit hnx
        by_cases h2 : sn = n
        · subst h2
          have heq : (sn.toList == sn.toList) = true := beq_self_eq_true _
          have hr := hhit (by simp)
          have hv : standardV l sn = .tuple #[.agg #[.string sn, .string sp, .int .i64 slo, .int .i64 shi, .int .i64 stm, .int .i64 sst, .int .i64 sdr], .bool true] := by unfold standardV; rw [hr]; rfl
          have Hv := hide hv
          clear hhit hnx hr hv
          have r0 := Hr.out.c 0 rfl
          have r1 := Hr.out.c 1 rfl
          have r2 := Hr.out.c 2 rfl
          have r3 := Hr.out.c 3 rfl
          have r4 := Hr.out.c 4 rfl
          have r5 := Hr.out.c 5 rfl
          have r6 := Hr.out.c 6 rfl
          have ltr := Hr.out.lt
          have f0 := Hr.out.frozen 0
          have f1 := Hr.out.frozen 1
          have f2 := Hr.out.frozen 2
          have f3 := Hr.out.frozen 3
          have f4 := Hr.out.frozen 4
          have f5 := Hr.out.frozen 5
          have f6 := Hr.out.frozen 6
          go_wp2
          refine ret_world fun W2 hW => ?_
          have hb2 : Blk W2 g 67 #[.string sn, .string sp, .int .i64 slo, .int .i64 shi, .int .i64 stm, .int .i64 sst, .int .i64 sdr] := by
            rw [hW]
            exact ((((((Hr.out.set_ 0 (.string sn)).set_ 1 (.string sp)).set_ 2 (.int .i64 slo)).set_ 3 (.int .i64 shi)).set_ 4 (.int .i64 stm)).set_ 5 (.int .i64 sst)).set_ 6 (.int .i64 sdr)
          have hB2 : Below g w W2 := by
            rw [hW]
            exact ((((((HB.out.setCell (Nat.le_refl _) _).setCell (Nat.le_refl _) _).setCell (Nat.le_refl _) _).setCell (Nat.le_refl _) _).setCell (Nat.le_refl _) _).setCell (Nat.le_refl _) _).setCell (Nat.le_refl _) _
          clear hW r0 r1 r2 r3 r4 r5 r6 ltr f0 f1 f2 f3 f4 f5 f6
          have r0 := hb2.c 0 rfl
          have r1 := hb2.c 1 rfl
          have r2 := hb2.c 2 rfl
          have r3 := hb2.c 3 rfl
          have r4 := hb2.c 4 rfl
          have r5 := hb2.c 5 rfl
          have r6 := hb2.c 6 rfl
          have ltr := hb2.lt
          refine bodyPost_ret (v := .tuple #[.agg #[.string sn, .string sp, .int .i64 slo, .int .i64 shi, .int .i64 stm, .int .i64 sst, .int .i64 sdr], .bool true]) (by simp [results, Try.results72, go_sem, r0, r1, r2, r3, r4, r5, r6, ltr]) rfl ⟨by rw [Hv.out], by first | exact hB2 | (rw [hg]; exact hB2)⟩
        · have heq : (sn.toList == n.toList) = false := toList_bne h2
          have hr := hnx (by simp [h2])
          have Hn := hide hr
          clear hhit hnx hr
          go_wp2_with fail
          go_roundw
          case rel => exact ⟨k + 1, hlt, by go_num, Hn.out, HB.out, Hr.out⟩
          case measure => simp [intOf] <;> omega
      · have hr := hnx (by simp [h1])
        have Hn := hide hr
        clear hhit hnx hr
        go_wp2_with fail
        go_roundw
        case rel => exact ⟨k + 1, hlt, by go_num, Hn.out, HB.out, Hr.out⟩
        case measure => simp [intOf] <;> omega
    · obtain rfl : k = l.length := by omega
      have hkk : ¬ ((l.length : Int) < l.length) := by omega
      have hv : standardV l n = .tuple #[stdV std0, .bool false] := by have := Hd.out; rw [suf_all] at this; unfold standardV; rw [this]
      have Hv := hide hv
      clear hv hb1
      have r0 := Hr.out.c 0 rfl
      have r1 := Hr.out.c 1 rfl
      have r2 := Hr.out.c 2 rfl
      have r3 := Hr.out.c 3 rfl
      have r4 := Hr.out.c 4 rfl
      have r5 := Hr.out.c 5 rfl
      have r6 := Hr.out.c 6 rfl
      have ltr := Hr.out.lt
      have f0 := Hr.out.frozen 0
      have f1 := Hr.out.frozen 1
      have f2 := Hr.out.frozen 2
      have f3 := Hr.out.frozen 3
      have f4 := Hr.out.frozen 4
      have f5 := Hr.out.frozen 5
      have f6 := Hr.out.frozen 6
      go_wp2
      refine ret_world fun W2 hW => ?_
      have hb2 : Blk W2 g 67 #[.string ⟨#[]⟩, .string ⟨#[]⟩, .int .i64 0, .int .i64 0, .int .i64 0, .int .i64 0, .int .i64 0] := by
        rw [hW]
        exact ((((((Hr.out.set_ 0 (.string ⟨#[]⟩)).set_ 1 (.string ⟨#[]⟩)).set_ 2 (.int .i64 0)).set_ 3 (.int .i64 0)).set_ 4 (.int .i64 0)).set_ 5 (.int .i64 0)).set_ 6 (.int .i64 0)
      have hB2 : Below g w W2 := by
        rw [hW]
        exact ((((((HB.out.setCell (Nat.le_refl _) _).setCell (Nat.le_refl _) _).setCell (Nat.le_refl _) _).setCell (Nat.le_refl _) _).setCell (Nat.le_refl _) _).setCell (Nat.le_refl _) _).setCell (Nat.le_refl _) _
      clear hW r0 r1 r2 r3 r4 r5 r6 ltr f0 f1 f2 f3 f4 f5 f6
      have r0 := hb2.c 0 rfl
      have r1 := hb2.c 1 rfl
      have r2 := hb2.c 2 rfl
      have r3 := hb2.c 3 rfl
      have r4 := hb2.c 4 rfl
      have r5 := hb2.c 5 rfl
      have r6 := hb2.c 6 rfl
      have ltr := hb2.lt
      refine bodyPost_ret (v := .tuple #[stdV std0, .bool false]) (by simp [stdV, std0, results, Try.results72, go_sem, r0, r1, r2, r3, r4, r5, r6, ltr]) rfl ⟨by rw [Hv.out], by first | exact hB2 | (rw [hg]; exact hB2)⟩
end Go.Proofs.Ytiggefmckomilaa
