/-
  The law RainSums returns true: for every record and every pair of numbers.
-/
import Derived.Test.YtmglgahagbfbkaaSumRef
import Derived.Test.YtmglgahagbfbkaaPoints
import Derived.Test.YtmglgahagbfbkaaWorks
namespace Go.Proofs.Ytmglgahagbfbkaa
open Go.RowKit

theorem readInfo : (Try.prog.info? 46).map (fun i => (i.zero, i.size, i.bytes)) = some (some (.agg #[.int .i64 0, .int .i64 0, .int .i64 0]), 3, 24) := by kernel_rfl
theorem take_snoc3 (zs : List Int) (k n : Nat) (hz : zs.length = n * 3) (hk : k < n) : (zs.map (Value.int .i64)).take (k * 3) ++ [.int .i64 (zs.getD (k * 3) 0), .int .i64 (zs.getD (k * 3 + 1) 0), .int .i64 (zs.getD (k * 3 + 2) 0)] = (zs.map (Value.int .i64)).take ((k + 1) * 3) := by
  have hl : (zs.map (Value.int .i64)).length = n * 3 := by simp [hz]
  rw [show (k + 1) * 3 = k * 3 + 1 + 1 + 1 by omega, List.take_succ_eq_append_getElem (by omega : k * 3 + 1 + 1 < (zs.map (Value.int .i64)).length), List.take_succ_eq_append_getElem (by omega : k * 3 + 1 < (zs.map (Value.int .i64)).length), List.take_succ_eq_append_getElem (by omega : k * 3 < (zs.map (Value.int .i64)).length)]
  simp [List.getD, show k * 3 < zs.length by omega, show k * 3 + 1 < zs.length by omega, show k * 3 + 1 + 1 < zs.length by omega]
theorem sumR_form (z : Nat → Int) (n : Nat) (e s : Int) : ∃ r1 r2 r3, sumR z n e s = ((r1, r2), r3) := ⟨_, _, _, rfl⟩
theorem sumEx : sumR (fun j => [0, 360, 360, 100, 720, 720].getD j 0) 2 200 100 = ((270, 440), 0) := by decide +kernel

set_option maxHeartbeats 4000000 in
set_option maxRecDepth 100000 in
theorem RainSums_any (A : Option Addr) (n c : Nat) (zs : List Int) (ed sl : Int) (w : World) (hz : zs.length = n * 3) (hmax : n ≤ 9223372036854775807) (hcap : n ≤ c) (hcm : c ≤ 9223372036854775807) (hl : Ints w w.heap.size .i64 A zs) :
    Calls Try.prog 4 #[.slice A n c, .int .i64 ed, .int .i64 sl] w fun e w' => e = .returned (.bool true) ∧ Below w.heap.size w w' := by
  have Hl := hide hl
  have Hz := hide hz
  have Hcap := hide hcap
  have Hcm := hide hcm
  clear hl hz hcap hcm
  by_cases h1 : (300 : Int) < n
  · go_enter Try.func4, Try.ntmps4
    go_wp2_with fail
    refine (works_any _).mono ?_
    rintro e w1 ⟨rfl, hb⟩
    go_wp2
    go_ret
    exact ⟨rfl, hb⟩
  obtain ⟨i0, hi, hz0, hz1, hz2⟩ := info_parts readInfo
  have Hi := hide hi
  have Hz0 := hide hz0
  have Hz1 := hide hz1
  have Hz2 := hide hz2
  clear hi hz0 hz1 hz2
  go_enter Try.func4, Try.ntmps4
  go_wp2_with fail
  go_loopw [7, 8] (fun o i wr => ∃ k : Nat, k ≤ n ∧ i = .int .i64 k ∧ wr.ownsRow w.heap.size 46 3 o k ((zs.map (Value.int .i64)).take (k * 3)) ∧ Below w.heap.size w wr) (fun _ i _ => n - (intOf i).toNat)
  case atStart => exact ⟨0, by omega, rfl, by simpa using World.ownsRow_nil _ _ _ _, Below.refl _ _⟩
  case round =>
    obtain ⟨k, hk, rfl, hown, hbw⟩ := hrel
    have Hown := hide hown
    have Hbw := hide hbw
    have hsw := hbw.size
    clear hown hbw
    by_cases hlt : k < n
    · obtain ⟨b, off, rfl, hb, hc⟩ := Hl.out.pt3 Hz.out (by omega)
      obtain ⟨p0, p1, p2⟩ := hc k hlt
      have hts := take_snoc3 zs k n Hz.out hlt
      rw [← Hbw.out.cell hb] at p0 p1 p2
      have Hts := hide hts
      clear hts hc
      generalize zs.getD (k * 3) 0 = x0 at *
      generalize zs.getD (k * 3 + 1) 0 = x1 at *
      generalize zs.getD (k * 3 + 2) 0 = x2 at *
      go_wp2_with (at_builtin; refine wpList_append_own _ rfl (.tmp 25) (.tmp 30) _ rfl w.heap.size 46 i0 _ 3 24 Try.underlying44 Hi.out Hz0.out Hz1.out Hz2.out rfl (by decide) _ k _ rfl (Hown.out.alloc _) ⟨wr.heap.size, 0, none⟩ 1 1 [.int .i64 x0, .int .i64 x1, .int .i64 x2] rfl rfl ?c1 ?c2 ?c3 ?c4 ?c5 ?_)
      case c1 => exact new_cells wr _ [.int .i64 x0, .int .i64 x1, .int .i64 x2]
      case c2 => intro u hu; simp at hu; rcases hu with rfl | rfl | rfl <;> rfl
      case c3 => unfold maxLen; omega
      case c4 => omega
      case c5 => simp; omega
      intro v' w' hown' hgrow _
      have O2 := hide hown'
      have B2 := hide (below_grown (Hbw.out.alloc hsw (.cells #[.int .i64 x0, .int .i64 x1, .int .i64 x2] 46)) hgrow (by simp; omega) (fun k hk => (Hown.out.lt k hk).1))
      clear hown' hgrow
      go_wp2
      go_roundw
      case rel =>
        refine ⟨k + 1, by omega, by go_num, ?_, B2.out⟩
        have := O2.out
        rw [Hts.out] at this; exact this
      case measure => simp [intOf] <;> omega
    · obtain rfl : k = n := by omega
      have hown := Hown.out
      rw [List.take_of_length_le (by have := Hz.out; simp; omega)] at hown
      obtain ⟨A1, e1, rfl⟩ := own_slice hown
      have HO := hide hown
      clear hown
      go_wp2_with fail
      refine at_world fun W hW => ?_
      have HB := hide (show Below w.heap.size w W by rw [hW]; exact Hbw.out)
      have HOW := hide (show W.ownsRow w.heap.size 46 3 (.slice A1 k e1) k (zs.map (Value.int .i64)) by rw [hW]; exact HO.out)
      clear hW HO Hbw Hown
      refine (Sum_any A k c zs ed sl W Hz.out (by omega) Hcap.out Hcm.out ((Hl.out.below HB.out).more HB.out.size)).mono ?_
      rintro e w1 ⟨rfl, hb⟩
      replace HOW := hide (own_later HOW.out hb)
      replace HB := hide (onward HB.out hb)
      clear hb
      obtain ⟨r1, r2, r3, hfr⟩ := sumR_form (fun j => zs.getD j 0) k ed sl
      have HF := hide hfr
      rw [hfr]
      clear hfr
      unfold spanE
      go_wp2_with fail
      refine at_world fun W2 hW => ?_
      have ba : Blk W2 w1.heap.size 24 #[.int .i64 r1, .int .i64 r2] := by rw [hW]; exact Blk.new _ _ _
      have LW : Later w1 W2 := by rw [hW]; exact (Below.refl _ _).alloc (Nat.le_refl _) _
      clear hW
      replace HOW := hide (own_later HOW.out LW)
      replace HB := hide (onward HB.out LW)
      have Hba := hide ba
      clear ba LW
      refine (RefSum_any A1 k e1 zs ed sl W2 Hz.out (by omega) (Ints.own HOW.out rfl (Nat.le_refl _))).mono ?_
      rintro e w2 ⟨rfl, hb⟩
      replace HB := hide (onward HB.out hb)
      replace Hba := hide (blk_later Hba.out hb)
      rw [HF.out]
      simp only [spanE]
      clear hb HOW
      have ltA := Hba.out.lt
      go_wp2_with fail
      refine at_world fun W3 hW => ?_
      have bb : Blk W3 w2.heap.size 24 #[.int .i64 r1, .int .i64 r2] := by rw [hW]; exact Blk.new _ _ _
      have LW : Later w2 W3 := by rw [hW]; exact (Below.refl _ _).alloc (Nat.le_refl _) _
      clear hW ltA
      replace Hba := hide (blk_later Hba.out LW)
      replace HB := hide (onward HB.out LW)
      have Hbb := hide bb
      clear bb LW
      refine (point_any 360 W3).mono ?_
      rintro e w3 ⟨rfl, hb⟩
      replace HB := hide (onward HB.out hb)
      replace Hba := hide (blk_later Hba.out hb)
      replace Hbb := hide (blk_later Hbb.out hb)
      clear hb
      go_wp2_with fail
      refine (point_any 720 w3).mono ?_
      rintro e w4 ⟨rfl, hb⟩
      replace HB := hide (onward HB.out hb)
      replace Hba := hide (blk_later Hba.out hb)
      replace Hbb := hide (blk_later Hbb.out hb)
      clear hb
      go_wp2_with fail
      refine at_world fun W5 hW => ?_
      have bl : Blk W5 w4.heap.size 47 #[.int .i64 0, .int .i64 360, .int .i64 360, .int .i64 100, .int .i64 720, .int .i64 720] := by rw [hW]; exact Blk.new _ _ _
      have LW : Later w4 W5 := by rw [hW]; exact (Below.refl _ _).alloc (Nat.le_refl _) _
      clear hW
      replace Hba := hide (blk_later Hba.out LW)
      replace Hbb := hide (blk_later Hbb.out LW)
      replace HB := hide (onward HB.out LW)
      refine (Sum_any _ 2 2 [0, 360, 360, 100, 720, 720] 200 100 W5 rfl (by decide) (by decide) (by decide) ((ints_new (zs := [0, 360, 360, 100, 720, 720]) bl rfl).more bl.lt)).mono ?_
      rintro e w6 ⟨rfl, hb⟩
      rw [sumEx]
      simp only [spanE]
      replace HB := hide (onward HB.out hb)
      replace Hba := hide (blk_later Hba.out hb)
      replace Hbb := hide (blk_later Hbb.out hb)
      clear hb bl LW
      obtain ⟨x0, x1⟩ := Hba.out.c2
      obtain ⟨y0, y1⟩ := Hbb.out.c2
      have ltA := Hba.out.lt
      have ltB := Hbb.out.lt
      go_wp2_with fail
      refine at_world fun W7 hW => ?_
      have HB7 := hide (show Below w.heap.size w W7 by rw [hW]; exact HB.out.alloc HB.out.size _)
      clear hW
      refine (works_any W7).mono ?_
      rintro e w8 ⟨rfl, hb⟩
      have HB8 := hide (onward HB7.out hb)
      clear hb x0 x1 y0 y1 ltA ltB
      go_wp2
      go_ret
      exact ⟨rfl, HB8.out⟩
end Go.Proofs.Ytmglgahagbfbkaa
