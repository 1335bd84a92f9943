/-
  Value: rain's and the reference's: one contract for both.
-/
import Derived.Test.YtmglgahagbfbkaaWorth
import Derived.Test.YtmglgahagbfbkaaTable
import Derived.Test.YtmglgahagbfbkaaTableRef
import Derived.Test.YtmglgahagbfbkaaValueRef
namespace Go.Proofs.Ytmglgahagbfbkaa
open Go.RowKit

/-- What Value returns. -/
def valueR (l : List (Int × Int)) (z : Int) : (Int × Int) × Int := if chk l 1073741824 ≠ 0 then ((0, 0), chk l 1073741824) else if win z 0 1073741824 = false then ((0, 0), 3) else (valGo z l, 0)
def spanV (s : Int × Int) : Value := .agg #[.int .i64 s.1, .int .i64 s.2]
def spanE (s : (Int × Int) × Int) : Value := .tuple #[.agg #[.int .i64 s.1.1, .int .i64 s.1.2], .int .i64 s.2]

set_option maxHeartbeats 800000 in
theorem Value_any (A : Option Addr) (n c : Nat) (l : List (Int × Int)) (z : Int) (w : World) (hn : l.length = n) (hmax : n ≤ 9223372036854775807) (hl : Ints w w.heap.size .i64 A (flat2 l)) :
    Calls Try.prog 19 #[.slice A n c, .int .i64 z] w fun e w' => e = .returned (spanE (valueR l z)) ∧ Below w.heap.size w w' := by
  have hb0 : Below w.heap.size w (w.alloc (.cells #[.int .i64 0, .int .i64 0] 24)) := (Below.refl _ _).alloc (Nat.le_refl _) _
  have hchk := CheckTable_any A n c l 1073741824 (w.alloc (.cells #[.int .i64 0, .int .i64 0] 24)) hn hmax ((hl.below hb0).more (by simp))
  by_cases h1 : chk l 1073741824 = 0
  · have hT := tab_of h1
    have HT := hide hT
    by_cases h2 : win z 0 1073741824 = true
    · have hz := win_iff.1 h2
      have hR : valueR l z = (valGo z l, 0) := by simp [valueR, h1, h2]
      have HR := hide hR
      have H1 := hide h1
      have Hl := hide hl
      have Hn := hide hn
      have Hb0 := hide hb0
      rw [h1] at hchk
      clear hR h1 hl hT hn hb0
      go_enter Try.func19, Try.ntmps19
      go_wp2_with fail
      refine hchk.mono ?_
      rintro e w1 ⟨rfl, hb1⟩
      clear hchk
      have hB1 := Hb0.out.trans (hb1.mono (by simp))
      have HB1 := hide hB1
      have hbk : Blk w1 w.heap.size 24 #[.int .i64 0, .int .i64 0] := (Blk.new w _ _).below hb1 (by simp)
      have Hbk := hide hbk
      clear hb1 hB1 hbk
      go_wp2_with (first | (go_at_call 43; refine (within_any _ _ _ _).mono ?_; rintro e w' ⟨rfl, rfl⟩) | (go_at_call 47; refine (worth_any _ _ _ _).mono ?_; rintro e w' ⟨rfl, rfl⟩))
      have hs1 := HB1.out.size
      have bw : Below w.heap.size w (w1.alloc (.cells #[.slice A n c] 22)) := HB1.out.alloc hs1 _
      refine (worth1_down A n c l 1073741824 z (valGo z l).1 w1.heap.size _ Hn.out HT.out (Int.le_refl _) hz.1 hz.2 ((Hl.out.below bw).more (by simp; omega)) (Blk.new _ _ _) (end_down HT.out z)).mono ?_
      rintro e w2 ⟨rfl, hb2⟩
      have bw2 := bw.trans (hb2.mono (by simp; omega))
      have bk2 : Blk w2 w1.heap.size 22 #[.slice A n c] := (Blk.new w1 _ _).below hb2 (by simp)
      have hbk2 : Blk w2 w.heap.size 24 #[.int .i64 0, .int .i64 0] := (Hbk.out.alloc _).below hb2 (by have := Hbk.out.lt; simp; omega)
      have Hbk2 := hide hbk2
      clear hb2 bw hbk2
      go_wp2_with fail
      refine (worth1_up A n c l 1073741824 z (valGo z l).2 w1.heap.size _ Hn.out HT.out (Int.le_refl _) hz.1 hz.2 ((Hl.out.below bw2).more bw2.size) bk2 (end_up HT.out z)).mono ?_
      rintro e w3 ⟨rfl, hb3⟩
      have hbk3 := Hbk2.out.below hb3 Hbk2.out.lt
      have HB3 := hide (onward bw2 hb3)
      obtain ⟨e0, e1⟩ := hbk3.c2
      have f0 := hbk3.frozen 0
      have f1 := hbk3.frozen 1
      clear hb3 bw2 bk2 hbk3
      go_wp2
      refine bodyPost_ret (v := spanE (valueR l z)) (by rw [HR.out]; simp [spanE, results, Try.results19, go_sem, e0, e1]) rfl ⟨rfl, ?_⟩
      exact (HB3.out.setCell (by simp) _).setCell (by simp) _
    · have h3 : win z 0 1073741824 = false := by simpa using h2
      have hR : valueR l z = ((0, 0), 3) := by simp [valueR, h1, h3]
      have HR := hide hR
      have Hb0 := hide hb0
      rw [h1] at hchk
      clear hR h1 hl hT HT hn hb0 h2
      go_enter Try.func19, Try.ntmps19
      go_wp2_with fail
      refine hchk.mono ?_
      rintro e w1 ⟨rfl, hb1⟩
      clear hchk
      have HB1 := hide (Hb0.out.trans (hb1.mono (by simp)))
      have hbk : Blk w1 w.heap.size 24 #[.int .i64 0, .int .i64 0] := (Blk.new w _ _).below hb1 (by simp)
      obtain ⟨e0, e1⟩ := hbk.c2
      have f0 := hbk.frozen 0
      have f1 := hbk.frozen 1
      clear hb1 hbk
      go_wp2_with (first | (go_at_call 43; refine (within_any _ _ _ _).mono ?_; rintro e w' ⟨rfl, rfl⟩))
      refine bodyPost_ret (v := spanE (valueR l z)) (by rw [HR.out]; simp [spanE, results, Try.results19, go_sem, e0, e1]) rfl ⟨rfl, ?_⟩
      exact (HB1.out.setCell (by simp) _).setCell (by simp) _
  · have hR : valueR l z = ((0, 0), chk l 1073741824) := by simp [valueR, h1]
    have HR := hide hR
    have Hb0 := hide hb0
    have h3 : (chk l 1073741824 != 0) = true := by simpa [bne] using h1
    clear hR h1 hl hn hb0
    generalize chk l 1073741824 = ck at *
    go_enter Try.func19, Try.ntmps19
    go_wp2_with fail
    refine hchk.mono ?_
    rintro e w1 ⟨rfl, hb1⟩
    clear hchk
    have HB1 := hide (Hb0.out.trans (hb1.mono (by simp)))
    have hbk : Blk w1 w.heap.size 24 #[.int .i64 0, .int .i64 0] := (Blk.new w _ _).below hb1 (by simp)
    obtain ⟨e0, e1⟩ := hbk.c2
    have f0 := hbk.frozen 0
    have f1 := hbk.frozen 1
    clear hb1 hbk
    go_wp2
    refine bodyPost_ret (v := spanE (valueR l z)) (by rw [HR.out]; simp [spanE, results, Try.results19, go_sem, e0, e1]) rfl ⟨rfl, ?_⟩
    exact (HB1.out.setCell (by simp) _).setCell (by simp) _

set_option maxHeartbeats 800000 in
theorem RefValue_any (A : Option Addr) (n c : Nat) (l : List (Int × Int)) (z : Int) (w : World) (hn : l.length = n) (hmax : n ≤ 9223372036854775807) (hl : Ints w w.heap.size .i64 A (flat2 l)) :
    Calls Try.prog 20 #[.slice A n c, .int .i64 z] w fun e w' => e = .returned (spanE (valueR l z)) ∧ Below w.heap.size w w' := by
  have hb0 : Below w.heap.size w (w.alloc (.cells #[.int .i64 0, .int .i64 0] 24)) := (Below.refl _ _).alloc (Nat.le_refl _) _
  have hchk := RefCheckTable_any A n c l 1073741824 (w.alloc (.cells #[.int .i64 0, .int .i64 0] 24)) hn hmax ((hl.below hb0).more (by simp))
  by_cases h1 : chk l 1073741824 = 0
  · have hT := tab_of h1
    have HT := hide hT
    by_cases h2 : win z 0 1073741824 = true
    · have hz := win_iff.1 h2
      have hR : valueR l z = (valGo z l, 0) := by simp [valueR, h1, h2]
      have HR := hide hR
      have H1 := hide h1
      have Hl := hide hl
      have Hn := hide hn
      have Hb0 := hide hb0
      rw [h1] at hchk
      clear hR h1 hl hT hn hb0
      go_enter Try.func20, Try.ntmps20
      go_wp2_with fail
      refine hchk.mono ?_
      rintro e w1 ⟨rfl, hb1⟩
      clear hchk
      have HB1 := hide (Hb0.out.trans (hb1.mono (by simp)))
      have hbk : Blk w1 w.heap.size 24 #[.int .i64 0, .int .i64 0] := (Blk.new w _ _).below hb1 (by simp)
      have Hbk := hide hbk
      clear hb1 hbk
      go_wp2_with (first | (go_at_call 44; refine (In_any _ _ _ _).mono ?_; rintro e w' ⟨rfl, rfl⟩))
      refine (value_any A n c l 1073741824 z _ Hn.out HT.out (Int.le_refl _) hz.1 hz.2 ((Hl.out.below HB1.out).more HB1.out.size)).mono ?_
      rintro e w3 ⟨rfl, hb3⟩
      have hbk3 := Hbk.out.below hb3 Hbk.out.lt
      have HB3 := hide (onward HB1.out hb3)
      obtain ⟨e0, e1⟩ := hbk3.c2
      have f0 := hbk3.frozen 0
      have f1 := hbk3.frozen 1
      clear hb3 hbk3
      go_wp2
      refine bodyPost_ret (v := spanE (valueR l z)) (by rw [HR.out]; simp [spanE, results, Try.results20, go_sem, e0, e1]) rfl ⟨rfl, ?_⟩
      exact (HB3.out.setCell (by simp) _).setCell (by simp) _
    · have h3 : win z 0 1073741824 = false := by simpa using h2
      have hR : valueR l z = ((0, 0), 3) := by simp [valueR, h1, h3]
      have HR := hide hR
      have Hb0 := hide hb0
      rw [h1] at hchk
      clear hR h1 hl hT HT hn hb0 h2
      go_enter Try.func20, Try.ntmps20
      go_wp2_with fail
      refine hchk.mono ?_
      rintro e w1 ⟨rfl, hb1⟩
      clear hchk
      have HB1 := hide (Hb0.out.trans (hb1.mono (by simp)))
      have hbk : Blk w1 w.heap.size 24 #[.int .i64 0, .int .i64 0] := (Blk.new w _ _).below hb1 (by simp)
      obtain ⟨e0, e1⟩ := hbk.c2
      have f0 := hbk.frozen 0
      have f1 := hbk.frozen 1
      clear hb1 hbk
      go_wp2_with (first | (go_at_call 44; refine (In_any _ _ _ _).mono ?_; rintro e w' ⟨rfl, rfl⟩))
      refine bodyPost_ret (v := spanE (valueR l z)) (by rw [HR.out]; simp [spanE, results, Try.results20, go_sem, e0, e1]) rfl ⟨rfl, ?_⟩
      exact (HB1.out.setCell (by simp) _).setCell (by simp) _
  · have hR : valueR l z = ((0, 0), chk l 1073741824) := by simp [valueR, h1]
    have HR := hide hR
    have Hb0 := hide hb0
    have h3 : (chk l 1073741824 != 0) = true := by simpa [bne] using h1
    clear hR h1 hl hn hb0
    generalize chk l 1073741824 = ck at *
    go_enter Try.func20, Try.ntmps20
    go_wp2_with fail
    refine hchk.mono ?_
    rintro e w1 ⟨rfl, hb1⟩
    clear hchk
    have HB1 := hide (Hb0.out.trans (hb1.mono (by simp)))
    have hbk : Blk w1 w.heap.size 24 #[.int .i64 0, .int .i64 0] := (Blk.new w _ _).below hb1 (by simp)
    obtain ⟨e0, e1⟩ := hbk.c2
    have f0 := hbk.frozen 0
    have f1 := hbk.frozen 1
    clear hb1 hbk
    go_wp2
    refine bodyPost_ret (v := spanE (valueR l z)) (by rw [HR.out]; simp [spanE, results, Try.results20, go_sem, e0, e1]) rfl ⟨rfl, ?_⟩
    exact (HB1.out.setCell (by simp) _).setCell (by simp) _
end Go.Proofs.Ytmglgahagbfbkaa
