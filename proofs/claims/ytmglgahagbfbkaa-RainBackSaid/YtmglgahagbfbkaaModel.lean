/-
  Models: rain's check and the reference's; what the law hands the reference.
-/
import Derived.Test.YtmglgahagbfbkaaTable
import Derived.Test.YtmglgahagbfbkaaTableRef
import Derived.Test.YtmglgahagbfbkaaModelMath
import Derived.Test.YtmglgahagbfbkaaRegionStep
namespace Go.Proofs.Ytmglgahagbfbkaa
open Go.RowKit

theorem Valid_any (a b most : Int) (w : World) :
    Calls Try.prog 46 #[.agg #[.int .i64 a, .int .i64 b], .int .i64 0, .int .i64 most] w fun e w' => e = .returned (.bool (ins a b most)) ∧ Below w.heap.size w w' := by
  by_cases h1 : 0 ≤ a <;> by_cases h2 : a ≤ b <;> by_cases h3 : b ≤ most
  all_goals
    go_enter Try.func46, Try.ntmps46
    go_wp2
    go_ret
    exact ⟨by simp [ins, *], (Below.refl _ _).alloc (Nat.le_refl _) _⟩

theorem Blk.c8 {w : World} {g : Nat} {t : TypeId} {u0 u1 u2 u3 u4 u5 u6 u7 : Value} (h : Blk w g t #[u0, u1, u2, u3, u4, u5, u6, u7]) : w.cell? ⟨g, 0, none⟩ = some u0 ∧ w.cell? ⟨g, 1, none⟩ = some u1 ∧ w.cell? ⟨g, 2, none⟩ = some u2 ∧ w.cell? ⟨g, 3, none⟩ = some u3 ∧
    w.cell? ⟨g, 4, none⟩ = some u4 ∧ w.cell? ⟨g, 5, none⟩ = some u5 ∧ w.cell? ⟨g, 6, none⟩ = some u6 ∧ w.cell? ⟨g, 7, none⟩ = some u7 :=
  ⟨h.c 0 rfl, h.c 1 rfl, h.c 2 rfl, h.c 3 rfl, h.c 4 rfl, h.c 5 rfl, h.c 6 rfl, h.c 7 rfl⟩
/-- A model as a value. -/
def mdlV (A : Option Addr) (n c : Nat) (A' : Option Addr) (n' c' : Nat) (melt inn above : Int × Int) : Value :=
  .agg #[.slice A n c, .slice A' n' c', .int .i64 melt.1, .int .i64 melt.2, .int .i64 inn.1, .int .i64 inn.2, .int .i64 above.1, .int .i64 above.2]

set_option maxHeartbeats 1000000 in
theorem CheckModel_any (A : Option Addr) (n c : Nat) (l : List (Int × Int)) (A' : Option Addr) (n' c' : Nat) (m : List (Int × Int)) (melt inn above : Int × Int) (w : World) (hn : l.length = n) (hmax : n ≤ 9223372036854775807) (hn' : m.length = n') (hmax' : n' ≤ 9223372036854775807)
    (hl : Ints w w.heap.size .i64 A (flat2 l)) (hm : Ints w w.heap.size .i64 A' (flat2 m)) :
    Calls Try.prog 16 #[mdlV A n c A' n' c' melt inn above] w fun e w' => e = .returned (.int .i64 (chkModel l m melt inn above)) ∧ Below w.heap.size w w' := by
  obtain ⟨a0, a1⟩ := melt
  obtain ⟨b0, b1⟩ := inn
  obtain ⟨c0, c1⟩ := above
  have hbx := fun X : Array Value => ((Below.refl w.heap.size w).alloc (Nat.le_refl _) (.cells X 26))
  have h1 := fun X : Array Value => CheckTable_any A n c l 32768 (w.alloc (.cells X 26)) hn hmax ((hl.below (hbx X)).more (by simp))
  have h2 := fun (X : Array Value) (w1 : World) (hb : Below (w.alloc (.cells X 26)).heap.size (w.alloc (.cells X 26)) w1) => CheckTable_any A' n' c' m 1000000 w1 hn' hmax' ((hm.below ((hbx X).trans (hb.mono (by simp)))).more (by have := hb.size; simp at this; omega))
  have Hbx := hide hbx
  have H1 := hide h1
  have H2 := hide h2
  clear h1 h2 hbx hl hm hn hn'
  have hR : chkModel l m (a0, a1) (b0, b1) (c0, c1) = if chk l 32768 ≠ 0 then chk l 32768 else if chk m 1000000 ≠ 0 then chk m 1000000 else if (ins a0 a1 20000 && ins b0 b1 100000 && ins c0 c1 100000) = false then 3 else 0 := rfl
  generalize chk l 32768 = k1 at *
  generalize chk m 1000000 = k2 at *
  unfold mdlV
  simp only
  by_cases g1 : k1 = 0
  · subst g1
    go_enter Try.func16, Try.ntmps16
    go_wp2_with fail
    refine (H1.out _).mono ?_
    rintro e w1 ⟨rfl, hb1⟩
    have b1 := (Blk.new w 26 #[.slice A n c, .slice A' n' c', .int .i64 a0, .int .i64 a1, .int .i64 b0, .int .i64 b1, .int .i64 c0, .int .i64 c1]).below hb1 (by simp)
    have HB1 := hide ((Hbx.out _).trans (hb1.mono (by simp)))
    have hc1 := H2.out _ w1 hb1
    have HC := hide b1
    obtain ⟨x0, x1, x2, x3, x4, x5, x6, x7⟩ := b1.c8
    clear hb1 b1
    go_wp2_with fail
    refine hc1.mono ?_
    rintro e w2 ⟨rfl, hb2⟩
    have b2 := HC.out.below hb2 HC.out.lt
    have HB2 := hide (onward HB1.out hb2)
    have HC2 := hide b2
    clear hb2 hc1 x0 x1 x2 x3 x4 x5 x6 x7
    obtain ⟨x0, x1, x2, x3, x4, x5, x6, x7⟩ := b2.c8
    clear b2
    by_cases g2 : k2 = 0
    · subst g2
      rw [if_neg (by simp), if_neg (by simp)] at hR
      have HR := hide hR
      clear hR
      go_wp2_with fail
      refine (inside_any _ _ _ _).mono ?_
      rintro e w3 ⟨rfl, hb3⟩
      have b3 := HC2.out.below hb3 HC2.out.lt
      have HB3 := hide (onward HB2.out hb3)
      have HC3 := hide b3
      clear hb3 x0 x1 x2 x3 x4 x5 x6 x7
      obtain ⟨x0, x1, x2, x3, x4, x5, x6, x7⟩ := b3.c8
      clear b3
      by_cases i1 : ins a0 a1 20000 = true
      · go_wp2_with fail
        refine (inside_any _ _ _ _).mono ?_
        rintro e w4 ⟨rfl, hb4⟩
        have b4 := HC3.out.below hb4 HC3.out.lt
        have HB4 := hide (onward HB3.out hb4)
        have HC4 := hide b4
        clear hb4 x0 x1 x2 x3 x4 x5 x6 x7
        obtain ⟨x0, x1, x2, x3, x4, x5, x6, x7⟩ := b4.c8
        clear b4
        by_cases i2 : ins b0 b1 100000 = true
        · go_wp2_with fail
          refine (inside_any _ _ _ _).mono ?_
          rintro e w5 ⟨rfl, hb5⟩
          have HB5 := hide (onward HB4.out hb5)
          clear hb5 x0 x1 x2 x3 x4 x5 x6 x7
          by_cases i3 : ins c0 c1 100000 = true
          · have hr := HR.out
            rw [i1, i2, i3, if_neg (by simp)] at hr
            have HR2 := hide hr
            clear hr
            go_wp2
            go_ret
            exact ⟨(ret_int HR2.out).symm, HB5.out⟩
          · have j3 : ins c0 c1 100000 = false := by simpa using i3
            clear i3
            have hr := HR.out
            rw [j3, if_pos (by simp)] at hr
            have HR2 := hide hr
            clear hr
            go_wp2
            go_ret
            exact ⟨(ret_int HR2.out).symm, HB5.out⟩
        · have j2 : ins b0 b1 100000 = false := by simpa using i2
          clear i2
          have hr := HR.out
          rw [j2, if_pos (by simp)] at hr
          have HR2 := hide hr
          clear hr
          go_wp2
          go_ret
          exact ⟨(ret_int HR2.out).symm, HB4.out⟩
      · have j1 : ins a0 a1 20000 = false := by simpa using i1
        clear i1
        have hr := HR.out
        rw [j1, if_pos (by simp)] at hr
        have HR2 := hide hr
        clear hr
        go_wp2
        go_ret
        exact ⟨(ret_int HR2.out).symm, HB3.out⟩
    · have g2' : (k2 != 0) = true := by simpa [bne] using g2
      rw [if_neg (by simp), if_pos g2] at hR
      have HR := hide hR
      clear hR g2
      go_wp2
      go_ret
      exact ⟨(ret_int HR.out).symm, HB2.out⟩
  · have g1' : (k1 != 0) = true := by simpa [bne] using g1
    have g1'' : (k1 == 0) = false := by simpa using g1
    rw [if_pos g1] at hR
    have HR := hide hR
    clear hR g1
    go_enter Try.func16, Try.ntmps16
    go_wp2_with fail
    refine (H1.out _).mono ?_
    rintro e w1 ⟨rfl, hb1⟩
    have HB := hide ((Hbx.out _).trans (hb1.mono (by simp)))
    clear hb1
    go_wp2
    go_ret
    exact ⟨(ret_int HR.out).symm, HB.out⟩
set_option maxHeartbeats 1000000 in
theorem RefCheckModel_any (A : Option Addr) (n c : Nat) (l : List (Int × Int)) (A' : Option Addr) (n' c' : Nat) (m : List (Int × Int)) (melt inn above : Int × Int) (w : World) (hn : l.length = n) (hmax : n ≤ 9223372036854775807) (hn' : m.length = n') (hmax' : n' ≤ 9223372036854775807)
    (hl : Ints w w.heap.size .i64 A (flat2 l)) (hm : Ints w w.heap.size .i64 A' (flat2 m)) :
    Calls Try.prog 17 #[mdlV A n c A' n' c' melt inn above] w fun e w' => e = .returned (.int .i64 (chkModel l m melt inn above)) ∧ Below w.heap.size w w' := by
  obtain ⟨a0, a1⟩ := melt
  obtain ⟨b0, b1⟩ := inn
  obtain ⟨c0, c1⟩ := above
  have hbx := fun X : Array Value => ((Below.refl w.heap.size w).alloc (Nat.le_refl _) (.cells X 36))
  have h1 := fun X : Array Value => RefCheckTable_any A n c l 32768 (w.alloc (.cells X 36)) hn hmax ((hl.below (hbx X)).more (by simp))
  have h2 := fun (X : Array Value) (w1 : World) (hb : Below (w.alloc (.cells X 36)).heap.size (w.alloc (.cells X 36)) w1) => RefCheckTable_any A' n' c' m 1000000 w1 hn' hmax' ((hm.below ((hbx X).trans (hb.mono (by simp)))).more (by have := hb.size; simp at this; omega))
  have Hbx := hide hbx
  have H1 := hide h1
  have H2 := hide h2
  clear h1 h2 hbx hl hm hn hn'
  have hR : chkModel l m (a0, a1) (b0, b1) (c0, c1) = if chk l 32768 ≠ 0 then chk l 32768 else if chk m 1000000 ≠ 0 then chk m 1000000 else if (ins a0 a1 20000 && ins b0 b1 100000 && ins c0 c1 100000) = false then 3 else 0 := rfl
  generalize chk l 32768 = k1 at *
  generalize chk m 1000000 = k2 at *
  unfold mdlV
  simp only
  by_cases g1 : k1 = 0
  · subst g1
    go_enter Try.func17, Try.ntmps17
    go_wp2_with fail
    refine (H1.out _).mono ?_
    rintro e w1 ⟨rfl, hb1⟩
    have b1 := (Blk.new w 36 #[.slice A n c, .slice A' n' c', .int .i64 a0, .int .i64 a1, .int .i64 b0, .int .i64 b1, .int .i64 c0, .int .i64 c1]).below hb1 (by simp)
    have HB1 := hide ((Hbx.out _).trans (hb1.mono (by simp)))
    have hc1 := H2.out _ w1 hb1
    have HC := hide b1
    obtain ⟨x0, x1, x2, x3, x4, x5, x6, x7⟩ := b1.c8
    clear hb1 b1
    go_wp2_with fail
    refine hc1.mono ?_
    rintro e w2 ⟨rfl, hb2⟩
    have b2 := HC.out.below hb2 HC.out.lt
    have HB2 := hide (onward HB1.out hb2)
    have HC2 := hide b2
    clear hb2 hc1 x0 x1 x2 x3 x4 x5 x6 x7
    obtain ⟨x0, x1, x2, x3, x4, x5, x6, x7⟩ := b2.c8
    clear b2
    by_cases g2 : k2 = 0
    · subst g2
      rw [if_neg (by simp), if_neg (by simp)] at hR
      have HR := hide hR
      clear hR
      go_wp2_with fail
      refine (Valid_any _ _ _ _).mono ?_
      rintro e w3 ⟨rfl, hb3⟩
      have b3 := HC2.out.below hb3 HC2.out.lt
      have HB3 := hide (onward HB2.out hb3)
      have HC3 := hide b3
      clear hb3 x0 x1 x2 x3 x4 x5 x6 x7
      obtain ⟨x0, x1, x2, x3, x4, x5, x6, x7⟩ := b3.c8
      clear b3
      by_cases i1 : ins a0 a1 20000 = true
      · go_wp2_with fail
        refine (Valid_any _ _ _ _).mono ?_
        rintro e w4 ⟨rfl, hb4⟩
        have b4 := HC3.out.below hb4 HC3.out.lt
        have HB4 := hide (onward HB3.out hb4)
        have HC4 := hide b4
        clear hb4 x0 x1 x2 x3 x4 x5 x6 x7
        obtain ⟨x0, x1, x2, x3, x4, x5, x6, x7⟩ := b4.c8
        clear b4
        by_cases i2 : ins b0 b1 100000 = true
        · go_wp2_with fail
          refine (Valid_any _ _ _ _).mono ?_
          rintro e w5 ⟨rfl, hb5⟩
          have HB5 := hide (onward HB4.out hb5)
          clear hb5 x0 x1 x2 x3 x4 x5 x6 x7
          by_cases i3 : ins c0 c1 100000 = true
          · have hr := HR.out
            rw [i1, i2, i3, if_neg (by simp)] at hr
            have HR2 := hide hr
            clear hr
            go_wp2
            go_ret
            exact ⟨(ret_int HR2.out).symm, HB5.out⟩
          · have j3 : ins c0 c1 100000 = false := by simpa using i3
            clear i3
            have hr := HR.out
            rw [j3, if_pos (by simp)] at hr
            have HR2 := hide hr
            clear hr
            go_wp2
            go_ret
            exact ⟨(ret_int HR2.out).symm, HB5.out⟩
        · have j2 : ins b0 b1 100000 = false := by simpa using i2
          clear i2
          have hr := HR.out
          rw [j2, if_pos (by simp)] at hr
          have HR2 := hide hr
          clear hr
          go_wp2
          go_ret
          exact ⟨(ret_int HR2.out).symm, HB4.out⟩
      · have j1 : ins a0 a1 20000 = false := by simpa using i1
        clear i1
        have hr := HR.out
        rw [j1, if_pos (by simp)] at hr
        have HR2 := hide hr
        clear hr
        go_wp2
        go_ret
        exact ⟨(ret_int HR2.out).symm, HB3.out⟩
    · have g2' : (k2 != 0) = true := by simpa [bne] using g2
      rw [if_neg (by simp), if_pos g2] at hR
      have HR := hide hR
      clear hR g2
      go_wp2
      go_ret
      exact ⟨(ret_int HR.out).symm, HB2.out⟩
  · have g1' : (k1 != 0) = true := by simpa [bne] using g1
    have g1'' : (k1 == 0) = false := by simpa using g1
    rw [if_pos g1] at hR
    have HR := hide hR
    clear hR g1
    go_enter Try.func17, Try.ntmps17
    go_wp2_with fail
    refine (H1.out _).mono ?_
    rintro e w1 ⟨rfl, hb1⟩
    have HB := hide ((Hbx.out _).trans (hb1.mono (by simp)))
    clear hb1
    go_wp2
    go_ret
    exact ⟨(ret_int HR.out).symm, HB.out⟩
end Go.Proofs.Ytmglgahagbfbkaa
