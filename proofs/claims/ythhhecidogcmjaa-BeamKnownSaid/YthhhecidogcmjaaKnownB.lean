/-
  The law BeamKnown returns true: the examples of the chapter.
-/
import Derived.Test.YthhhecidogcmjaaView
import Derived.Test.YthhhecidogcmjaaBlocked
import Derived.Test.YthhhecidogcmjaaPlaces2
import Derived.Test.YthhhecidogcmjaaFinds
import Derived.Test.YthhhecidogcmjaaRanges
import Derived.Test.YthhhecidogcmjaaHill
import Derived.Test.YthhhecidogcmjaaFields
namespace Go.Proofs.Ythhhecidogcmjaa
open Go Go.RowKit

set_option maxHeartbeats 1000000 in
set_option maxRecDepth 100000 in
theorem spans_any (A B : Option Addr) (n ca cb BB : Nat) (l : List (Int × Int)) (w : World) (hn : l.length = n) (hmax : n ≤ 9223372036854775807) (hBB : BB ≤ w.heap.size) (ha : Ints w BB .i64 A (flat2 l)) (hb : Ints w BB .i64 B (flat2 l)) :
    Calls Try.prog 44 #[.slice A n ca, .slice B n cb] w fun e w' => e = .returned (.bool true) ∧ Below w.heap.size w w' := by
  have Hn := hide hn
  have Ha := hide ha
  have Hb := hide hb
  clear hn ha hb
  go_enter Try.func44, Try.ntmps44
  go_wp2_with fail
  go_loopw [5] (fun i wr => ∃ k : Nat, k ≤ n ∧ i = .int .i64 k ∧ Below w.heap.size w wr) (fun i _ => n - (intOf i).toNat)
  case atStart => exact ⟨0, by omega, rfl, Below.refl _ _⟩
  case round =>
    obtain ⟨k, hk, rfl, hbw⟩ := hrel
    have HB := hide hbw
    clear hbw
    have hsw := HB.out.size
    by_cases hlt : k < n
    · obtain ⟨b, off, rfl, hb1, hc⟩ := Ha.out.pt (by have := Hn.out; omega)
      obtain ⟨b', off', rfl, hb2, hc'⟩ := Hb.out.pt (by have := Hn.out; omega)
      obtain ⟨p0, p1⟩ := hc k (by have := Hn.out; omega)
      obtain ⟨q0, q1⟩ := hc' k (by have := Hn.out; omega)
      rw [← HB.out.cell (show b < w.heap.size by omega)] at p0 p1
      rw [← HB.out.cell (show b' < w.heap.size by omega)] at q0 q1
      generalize l.getD k (0, 0) = v at p0 p1 q0 q1
      obtain ⟨v0, v1⟩ := v
      simp only at p0 p1 q0 q1
      clear hc hc'
      go_wp2_with fail
      go_quiet (fail)
      go_wp2
      go_roundw
      case rel => exact ⟨k + 1, by omega, by go_num, below_drewN HB.out _⟩
      case measure => simp [intOf]; omega
    · obtain rfl : k = n := by omega
      go_wp2
      go_ret
      exact ⟨rfl, HB.out⟩

theorem ints_blk {w : World} {g : Nat} {t : TypeId} {zs : List Int} (h : Blk w g t ⟨zs.map (Value.int .i64)⟩) : Ints w w.heap.size .i64 (some ⟨g, 0, none⟩) zs := fun _ => by
  refine ⟨g, 0, rfl, h.lt, fun k hk => ?_⟩
  rw [Nat.zero_add, h.cell k]
  simp [List.getD, hk]

theorem kn_dir : dirR 2 3 = (⟨3, -4, 5⟩, 0) := rfl
theorem kn_slant : slantR 256 = (⟨196608, 262144, 327680⟩, 0) := rfl
theorem kn_h0 : heightR (siteE (nameB ⟨#[115]⟩) 0 0 100 2 4 1000 1) 0 1 100 4 1000 1000000 1000000 = ((101, 102), 0) := by decide +kernel
theorem kn_h1 : heightR (siteE (nameB ⟨#[115]⟩) 0 0 100 2 4 1000 1) 256 1 100 4 1000 1000000 1000000 = ((1300, 1301), 0) := by decide +kernel
theorem kn_f0 : findR (siteE (nameB ⟨#[115]⟩) 0 0 100 2 4 1000 1) 0 2 1000 4 0 0 1000 0 = ((2, 1), 0) := by decide +kernel
theorem kn_f1 : findR (siteE (nameB ⟨#[115]⟩) 0 0 100 2 4 1000 1) 0 2 1000 4 0 0 0 4000 = ((0, 0), 29) := by decide +kernel
theorem kn_p0 : pixR (gridE (-5000) (-5000) 5000 2 2) (-5000) (-5000) 5000 2 2 0 0 = (3, 0) := by decide +kernel
theorem kn_p1 : pixR (gridE (-5000) (-5000) 5000 2 2) (-5000) (-5000) 5000 2 2 (-1) 0 = (2, 0) := by decide +kernel
theorem kn_p2 : pixR (gridE (-5000) (-5000) 5000 2 2) (-5000) (-5000) 5000 2 2 5000 0 = (0, 29) := by decide +kernel
theorem kn_v0 : viewE (siteE (nameB ⟨#[115]⟩) 0 0 100 2 4 1000 1) (gridE (-5000) (-5000) 5000 2 2) 0 = 0 := by decide +kernel
theorem kn_v1 : viewL 2 1000 0 4 0 0 (-5000) (-5000) 5000 2 ((2 : Int) * 2).toNat = [19, 11, 27, 3] := by decide +kernel
theorem kn_b0 : blockE (siteE (nameB ⟨#[115]⟩) 0 0 100 2 4 1000 1) (fieldE (gridE (-5000) (-5000) 5000 2 2) 4 2 2 hillL 20000) 0 10000000 10000000 4 2 = 0 := by decide +kernel
theorem kn_b1 : rowL (rowsZ (csB (groundZ hillL 0 0 2 1000 0 4 (-5000) (-5000) 5000 2 2) 100 1000 10000000 (0 - 1)) (cmB (groundZ hillL 0 0 2 1000 0 4 (-5000) (-5000) 5000 2 2) 100 1000 10000000 (0 - 1)) (2 * (1 : Int) + 1).toNat) (4 : Int).toNat = [(0, 0), (0, 0), (0, 0), (0, 0)] := by decide +kernel
theorem view_zero {w w' : World} {l : List Int} {n : Nat} {e : Ending} (h : ViewPost w 0 l n e w') : ∃ A c, e = .returned (.tuple #[.slice A n c, .int .i64 0]) ∧ Below w.heap.size w w' ∧ Ints w' w'.heap.size .i64 A l := by
  obtain ⟨A, c, he, hb, hi⟩ := h
  exact ⟨A, c, by rw [he, if_pos rfl], hb, hi rfl⟩
theorem blk_zeroK {w w' : World} {r : Nat → Int × Int} {G : Nat} {e : Ending} (h : BlockPost w 0 r G e w') : ∃ A c, e = .returned (.tuple #[.slice A G c, .int .i64 0]) ∧ Below w.heap.size w w' ∧ Ints w' w'.heap.size .i64 A (flat2 (rowL r G)) := by
  obtain ⟨A, c, he, hb, hi⟩ := h
  exact ⟨A, c, by rw [he, if_pos rfl], hb, hi rfl⟩

theorem make4 (W : World) : (Instr.makeSlice 36 (.int .i64 4) (.int .i64 4)).run Try.prog W = .ok (.slice (some ⟨W.heap.size, 0, none⟩) 4 4) (W.alloc (.cells #[.int .i64 0, .int .i64 0, .int .i64 0, .int .i64 0, .int .i64 0, .int .i64 0, .int .i64 0, .int .i64 0] 47)) := by kernel_rfl

set_option maxHeartbeats 4000000 in
set_option maxRecDepth 100000 in
theorem BeamKnown_any (w : World) : Calls Try.prog 13 #[] w fun e w' => e = .returned (.bool true) ∧ Below w.heap.size w w' := by
  have hd := fun W => Direction_any 2 3 W
  have hs := fun W => Slant_any 256 W
  rw [kn_dir] at hd
  rw [kn_slant] at hs
  unfold vecE at hd hs
  have hS := fun W => S_any W
  have hG := fun W => G_any W
  have h0 := fun W => Height_any ⟨#[115]⟩ 0 0 100 2 4 1000 1 0 1000000 1000000 1 W (by decide)
  have h1 := fun W => Height_any ⟨#[115]⟩ 0 0 100 2 4 1000 1 256 1000000 1000000 1 W (by decide)
  rw [kn_h0] at h0
  rw [kn_h1] at h1
  unfold spanE at h0 h1
  have f0 := fun W => Find_any ⟨#[115]⟩ 0 0 100 2 4 1000 1 0 1000 0 W (by decide)
  have f1 := fun W => Find_any ⟨#[115]⟩ 0 0 100 2 4 1000 1 0 0 4000 W (by decide)
  rw [kn_f0] at f0
  rw [kn_f1] at f1
  unfold twoE at f0 f1
  have p0 := fun W => Pixel_any (-5000) (-5000) 5000 2 2 0 0 W
  have p1 := fun W => Pixel_any (-5000) (-5000) 5000 2 2 (-1) 0 W
  have p2 := fun W => Pixel_any (-5000) (-5000) 5000 2 2 5000 0 W
  rw [kn_p0] at p0
  rw [kn_p1] at p1
  rw [kn_p2] at p2
  have hv := fun W => View_any ⟨#[115]⟩ 0 0 100 2 4 1000 1 0 (-5000) (-5000) 5000 2 2 W (by decide)
  rw [kn_v0, kn_v1] at hv
  rw [show ((2 : Int) * 2).toNat = 4 from rfl] at hv
  replace hv := fun W => (hv W).mono fun _ _ h => view_zero h
  have hb := fun A c W hl => Blocked_any ⟨#[115]⟩ 0 0 100 2 4 1000 1 0 10000000 10000000 (-5000) (-5000) 5000 2 2 A 4 c hillL 4 W (by decide) rfl (by omega) hl
  rw [kn_b0] at hb
  replace hb := fun A c W hl => (hb A c W hl).mono fun _ _ h => blk_zeroK h
  rw [kn_b1] at hb
  rw [show (4 : Int).toNat = 4 from rfl] at hb
  simp only at hd hs h0 h1 f0 f1 p0 p1 p2
  unfold siteV gridV fieldV at *
  have Hd := hide hd
  have Hs := hide hs
  have HS := hide hS
  have HG := hide hG
  have H0 := hide h0
  have H1 := hide h1
  have F0 := hide f0
  have F1 := hide f1
  have P0 := hide p0
  have P1 := hide p1
  have P2 := hide p2
  have Hv := hide hv
  have Hb := hide hb
  clear hd hs hS hG h0 h1 f0 f1 p0 p1 p2 hv hb
  go_enter Try.func13, Try.ntmps13
  have HB := hide (Below.refl w.heap.size w)
  go_wp2_with fail
  refine (Hd.out _).mono ?_
  rintro e w1 ⟨rfl, hb⟩
  replace HB := hide (onward HB.out hb)
  clear hb
  go_wp2_with fail
  refine (Hs.out _).mono ?_
  rintro e w2 ⟨rfl, hb⟩
  replace HB := hide (onward HB.out hb)
  clear hb
  go_wp2_with fail
  refine (HS.out _).mono ?_
  rintro e w3 ⟨rfl, hb⟩
  replace HB := hide (onward HB.out hb)
  clear hb
  go_wp2_with fail
  refine (point_any _ _).mono ?_
  rintro e w4 ⟨rfl, hb⟩
  replace HB := hide (onward HB.out hb)
  clear hb
  go_wp2_with fail
  refine (H0.out _).mono ?_
  rintro e w5 ⟨rfl, hb⟩
  replace HB := hide (onward HB.out hb)
  clear hb
  go_wp2_with fail
  refine at_world fun w6 hW => ?_
  have bq0 : Blk w6 w5.heap.size 47 #[.int .i64 101, .int .i64 102] := by rw [hW]; exact Blk.new _ _ _
  have LW : Later w5 w6 := by rw [hW]; exact ((Below.refl _ _).alloc (Nat.le_refl _) _)
  have szW : w6.heap.size = w5.heap.size + 1 := by rw [hW]; simp
  clear hW
  replace HB := hide (onward HB.out LW)
  have Hx := hide bq0
  clear bq0 LW szW
  refine (HS.out _).mono ?_
  rintro e w7 ⟨rfl, hb⟩
  replace HB := hide (onward HB.out hb)
  replace Hx := hide (blk_later Hx.out hb)
  clear hb
  go_wp2_with fail
  refine (point_any _ _).mono ?_
  rintro e w8 ⟨rfl, hb⟩
  replace HB := hide (onward HB.out hb)
  replace Hx := hide (blk_later Hx.out hb)
  clear hb
  go_wp2_with fail
  refine (H1.out _).mono ?_
  rintro e w9 ⟨rfl, hb⟩
  replace HB := hide (onward HB.out hb)
  replace Hx := hide (blk_later Hx.out hb)
  clear hb
  obtain ⟨x0, x1⟩ := Hx.out.c2
  have ltx := Hx.out.lt
  go_wp2_with fail
  refine at_world fun w10 hW => ?_
  have LW : Later w9 w10 := by rw [hW]; exact ((Below.refl _ _).alloc (Nat.le_refl _) _)
  have szW : w10.heap.size = w9.heap.size + 1 := by rw [hW]; simp
  clear hW x0 x1 ltx
  replace HB := hide (onward HB.out LW)
  replace Hx := hide (blk_later Hx.out LW)
  clear LW szW
  refine (HS.out _).mono ?_
  rintro e w11 ⟨rfl, hb⟩
  replace HB := hide (onward HB.out hb)
  replace Hx := hide (blk_later Hx.out hb)
  clear hb
  go_wp2_with fail
  refine (F0.out _).mono ?_
  rintro e w12 ⟨rfl, hb⟩
  replace HB := hide (onward HB.out hb)
  replace Hx := hide (blk_later Hx.out hb)
  clear hb
  go_wp2_with fail
  refine (HS.out _).mono ?_
  rintro e w13 ⟨rfl, hb⟩
  replace HB := hide (onward HB.out hb)
  replace Hx := hide (blk_later Hx.out hb)
  clear hb
  go_wp2_with fail
  refine (F1.out _).mono ?_
  rintro e w14 ⟨rfl, hb⟩
  replace HB := hide (onward HB.out hb)
  replace Hx := hide (blk_later Hx.out hb)
  clear hb
  go_wp2_with fail
  refine (HG.out _).mono ?_
  rintro e w15 ⟨rfl, hb⟩
  replace HB := hide (onward HB.out hb)
  replace Hx := hide (blk_later Hx.out hb)
  clear hb
  go_wp2_with fail
  refine (P0.out _).mono ?_
  rintro e w16 ⟨rfl, hb⟩
  replace HB := hide (onward HB.out hb)
  replace Hx := hide (blk_later Hx.out hb)
  clear hb
  go_wp2_with fail
  refine (HG.out _).mono ?_
  rintro e w17 ⟨rfl, hb⟩
  replace HB := hide (onward HB.out hb)
  replace Hx := hide (blk_later Hx.out hb)
  clear hb
  go_wp2_with fail
  refine (P1.out _).mono ?_
  rintro e w18 ⟨rfl, hb⟩
  replace HB := hide (onward HB.out hb)
  replace Hx := hide (blk_later Hx.out hb)
  clear hb
  go_wp2_with fail
  refine (HG.out _).mono ?_
  rintro e w19 ⟨rfl, hb⟩
  replace HB := hide (onward HB.out hb)
  replace Hx := hide (blk_later Hx.out hb)
  clear hb
  go_wp2_with fail
  refine (P2.out _).mono ?_
  rintro e w20 ⟨rfl, hb⟩
  replace HB := hide (onward HB.out hb)
  replace Hx := hide (blk_later Hx.out hb)
  clear hb
  go_wp2_with fail
  refine (HS.out _).mono ?_
  rintro e w21 ⟨rfl, hb⟩
  replace HB := hide (onward HB.out hb)
  replace Hx := hide (blk_later Hx.out hb)
  clear hb
  go_wp2_with fail
  refine (HG.out _).mono ?_
  rintro e w22 ⟨rfl, hb⟩
  replace HB := hide (onward HB.out hb)
  replace Hx := hide (blk_later Hx.out hb)
  clear hb
  go_wp2_with fail
  refine (Hv.out _).mono ?_
  rintro e w23 ⟨Av, cv, rfl, hb, hiv⟩
  replace HB := hide (onward HB.out hb)
  replace Hx := hide (blk_later Hx.out hb)
  clear hb
  have Hiv := hide hiv
  clear hiv
  go_wp2_with fail
  refine (HS.out _).mono ?_
  rintro e w24 ⟨rfl, hb⟩
  replace Hiv := hide ((Ints.below Hiv.out hb).more (Below.size hb))
  replace HB := hide (onward HB.out hb)
  replace Hx := hide (blk_later Hx.out hb)
  clear hb
  go_wp2_with fail
  refine (point_any _ _).mono ?_
  rintro e w25 ⟨rfl, hb⟩
  replace Hiv := hide ((Ints.below Hiv.out hb).more (Below.size hb))
  replace HB := hide (onward HB.out hb)
  replace Hx := hide (blk_later Hx.out hb)
  clear hb
  go_wp2_with fail
  refine (Hill_any _).mono ?_
  rintro e w26 ⟨A1, e1, rfl, hb, ho⟩
  replace Hiv := hide ((Ints.below Hiv.out hb).more (Below.size hb))
  replace HB := hide (onward HB.out hb)
  replace Hx := hide (blk_later Hx.out hb)
  clear hb
  have hhi := Ints.own ho rfl (Nat.le_refl _)
  clear ho
  have Hhi := hide hhi
  clear hhi
  unfold hillV fieldV
  go_wp2_with fail
  refine (Hb.out _ _ _ Hhi.out).mono ?_
  rintro e w27 ⟨Ab, cb, rfl, hb, hib⟩
  replace Hiv := hide ((Ints.below Hiv.out hb).more (Below.size hb))
  replace Hhi := hide ((Ints.below Hhi.out hb).more (Below.size hb))
  replace HB := hide (onward HB.out hb)
  replace Hx := hide (blk_later Hx.out hb)
  clear hb
  have Hib := hide hib
  clear hib
  go_wp2_with fail
  refine at_world fun w28 hW => ?_
  have bq0 : Blk w28 w27.heap.size 3 #[.int .i64 19, .int .i64 11, .int .i64 27, .int .i64 3] := by rw [hW]; exact Blk.new _ _ _
  have LW : Later w27 w28 := by rw [hW]; exact ((Below.refl _ _).alloc (Nat.le_refl _) _)
  have szW : w28.heap.size = w27.heap.size + 1 := by rw [hW]; simp
  clear hW
  replace Hiv := hide ((Ints.below Hiv.out LW).more (Below.size LW))
  replace Hhi := hide ((Ints.below Hhi.out LW).more (Below.size LW))
  replace Hib := hide ((Ints.below Hib.out LW).more (Below.size LW))
  replace HB := hide (onward HB.out LW)
  replace Hx := hide (blk_later Hx.out LW)
  have Hl1 := hide bq0
  clear bq0 LW szW
  have Hl2 := hide (ints_blk (zs := [19, 11, 27, 3]) Hl1.out)
  refine (numbers_any _ _ _ _ _ _ [19, 11, 27, 3] _ rfl (by simp) (Nat.le_refl _) Hiv.out Hl2.out).mono ?_
  rintro e w29 ⟨rfl, hb⟩
  replace Hiv := hide ((Ints.below Hiv.out hb).more (Below.size hb))
  replace Hhi := hide ((Ints.below Hhi.out hb).more (Below.size hb))
  replace Hib := hide ((Ints.below Hib.out hb).more (Below.size hb))
  replace HB := hide (onward HB.out hb)
  replace Hx := hide (blk_later Hx.out hb)
  replace Hl1 := hide (blk_later Hl1.out hb)
  clear hb
  have hmk := make4 w29
  go_wp2_with fail
  clear hmk
  refine at_world fun w30 hW => ?_
  have bq0 : Blk w30 w29.heap.size 47 #[.int .i64 0, .int .i64 0, .int .i64 0, .int .i64 0, .int .i64 0, .int .i64 0, .int .i64 0, .int .i64 0] := by rw [hW]; exact Blk.new _ _ _
  have LW : Later w29 w30 := by rw [hW]; exact ((Below.refl _ _).alloc (Nat.le_refl _) _)
  have szW : w30.heap.size = w29.heap.size + 1 := by rw [hW]; simp
  clear hW
  replace Hiv := hide ((Ints.below Hiv.out LW).more (Below.size LW))
  replace Hhi := hide ((Ints.below Hhi.out LW).more (Below.size LW))
  replace Hib := hide ((Ints.below Hib.out LW).more (Below.size LW))
  replace HB := hide (onward HB.out LW)
  replace Hx := hide (blk_later Hx.out LW)
  replace Hl1 := hide (blk_later Hl1.out LW)
  have Hm1 := hide bq0
  clear bq0 LW szW
  have Hm2 := hide (ints_blk (zs := flat2 [(0, 0), (0, 0), (0, 0), (0, 0)]) Hm1.out)
  refine (spans_any _ _ _ _ _ _ [(0, 0), (0, 0), (0, 0), (0, 0)] _ rfl (by simp) (Nat.le_refl _) Hib.out Hm2.out).mono ?_
  rintro e w31 ⟨rfl, hb⟩
  replace Hiv := hide ((Ints.below Hiv.out hb).more (Below.size hb))
  replace Hhi := hide ((Ints.below Hhi.out hb).more (Below.size hb))
  replace Hib := hide ((Ints.below Hib.out hb).more (Below.size hb))
  replace HB := hide (onward HB.out hb)
  replace Hx := hide (blk_later Hx.out hb)
  replace Hl1 := hide (blk_later Hl1.out hb)
  replace Hm1 := hide (blk_later Hm1.out hb)
  clear hb
  go_wp2_with fail
  refine (works_any _).mono ?_
  rintro e w32 ⟨rfl, hb⟩
  replace Hiv := hide ((Ints.below Hiv.out hb).more (Below.size hb))
  replace Hhi := hide ((Ints.below Hhi.out hb).more (Below.size hb))
  replace Hib := hide ((Ints.below Hib.out hb).more (Below.size hb))
  replace HB := hide (onward HB.out hb)
  replace Hx := hide (blk_later Hx.out hb)
  replace Hl1 := hide (blk_later Hl1.out hb)
  replace Hm1 := hide (blk_later Hm1.out hb)
  clear hb
  go_wp2
  go_ret
  exact ⟨rfl, HB.out⟩
end Go.Proofs.Ythhhecidogcmjaa
