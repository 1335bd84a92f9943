/-
  The passage of a ray: how it begins, and how it goes through a gate.
-/
import Derived.Test.YtmglgahagbfbkaaWorth
import Derived.Test.YtmglgahagbfbkaaPassMath
import Derived.Test.YtmglgahagbfbkaaRegionApp
import Derived.Deep.RegionWith
namespace Go.Proofs.Ytmglgahagbfbkaa
open Go.RowKit

theorem sizeSpan' : (Try.prog.info? 24).map (·.size) = some 2 := by kernel_rfl
/-- The closure over the losses. -/
def lossF (gl : Nat) : Value := .func (.func 67) #[] #[.pointer (some ⟨gl, 0, none⟩)]

theorem passing_any (A : Option Addr) (n c : Nat) (w : World) :
    Calls Try.prog 60 #[.slice A n c] w fun e w' => e = .returned (.pointer (some ⟨w.heap.size + 1, 0, none⟩)) ∧
      (w.alloc (.cells #[.slice A n c] 22)).alloc (.cells #[.int .i64 1073741824, .int .i64 1073741824, lossF w.heap.size] 112) = w' := by
  go_enter Try.func60, Try.ntmps60
  go_wp2_with (first | (go_at_call 47; refine (worth_any _ _ _ _).mono ?_; rintro e w' ⟨rfl, rfl⟩))
  go_ret
  exact ⟨rfl, rfl⟩

set_option maxHeartbeats 1000000 in
theorem through_any (A : Option Addr) (n c : Nat) (l : List (Int × Int)) (t z : Int × Int) (g gl : Nat) (w : World) (hn : l.length = n) (hT : Tab l 32768) (ht : Psg t) (hz1 : 0 ≤ z.1 ∧ z.1 ≤ 1073741824) (hz2 : 0 ≤ z.2 ∧ z.2 ≤ 1073741824) (hl : Ints w w.heap.size .i64 A (flat2 l))
    (hg : Blk w g 112 #[.int .i64 t.1, .int .i64 t.2, lossF gl]) (hgl : Blk w gl 22 #[.slice A n c]) :
    Calls Try.prog 61 #[.pointer (some ⟨g, 0, none⟩), .agg #[.int .i64 z.1, .int .i64 z.2]] w fun e w' =>
      e = .returned (.tuple #[]) ∧ w.grownBy w' (some g) ∧ Blk w' g 112 #[.int .i64 (nextT l t z).1, .int .i64 (nextT l t z).2, lossF gl] := by
  obtain ⟨z1, z2⟩ := z
  obtain ⟨t1, t2⟩ := t
  have HN := hide (nextT_psg hT ht hz1.1 hz2.1)
  obtain ⟨hz1a, hz1b⟩ := hz1
  obtain ⟨hz2a, hz2b⟩ := hz2
  have hv1 := val_bd hT hz1a
  have hv2 := val_bd hT hz2a
  have c := mul_bd (a := t1) (b := 65536 - (valGo z2 l).2) (A := 1073741824) (B := 65536) ht.lo ht.hi (by simp only at *; omega) (by simp only at *; omega)
  have d := mul_bd (a := t2) (b := 65536 - (valGo z1 l).1) (A := 1073741824) (B := 65536) ht.lo' ht.hi' (by simp only at *; omega) (by simp only at *; omega)
  have HT := hide hT
  have Hn := hide hn
  have Hl := hide hl
  have Hgl := hide hgl
  have e1 : nextT l (t1, t2) (z1, z2) = (t1 * (65536 - (valGo z2 l).2) / 65536, cdiv (t2 * (65536 - (valGo z1 l).1)) 65536) := rfl
  have E1 := hide e1
  clear e1
  have Hv2 := hide (end_up hT z2)
  have Hv1 := hide (end_down hT z1)
  simp only at hz1a hz1b hz2a hz2b hv1 hv2 hg
  clear ht hT hn hl hgl
  generalize (valGo z2 l).2 = v2 at *
  generalize (valGo z1 l).1 = v1 at *
  have hlt := hg.lt
  have hg' := hg.alloc (.cells #[.int .i64 z1, .int .i64 z2] 24)
  have hgl' := Hgl.out.alloc (.cells #[.int .i64 z1, .int .i64 z2] 24)
  have hbW : Below w.heap.size w (w.alloc (.cells #[.int .i64 z1, .int .i64 z2] 24)) := (Below.refl _ _).alloc (Nat.le_refl _) _
  have hl' := (Hl.out.below hbW).more hbW.size
  have hsW : w.heap.size < (w.alloc (.cells #[.int .i64 z1, .int .i64 z2] 24)).heap.size := by simp
  obtain ⟨g0, g1, g2⟩ := hg'.c3
  clear Hl Hgl hg
  have q1 := div_bd c.1 (by omega : (1 : Int) ≤ 65536) (C := 1073741824) (by omega)
  have q2 := cdiv_bd d.1 (by omega : (1 : Int) ≤ 65536) (C := 1073741824) (by omega)
  obtain ⟨c1, c2⟩ := c
  obtain ⟨d1, d2⟩ := d
  obtain ⟨hv1a, hv1b, hv1c⟩ := hv1
  obtain ⟨hv2a, hv2b, hv2c⟩ := hv2
  obtain ⟨q1a, q1b⟩ := q1
  obtain ⟨q2a, q2b⟩ := q2
  have hv1d : v1 ≤ 32768 := by omega
  have hv2d : 0 ≤ v2 := by omega
  clear hv1b hv1c hv2a hv2b
  have b0 := (Blk.new w 24 #[.int .i64 z1, .int .i64 z2]).c2
  obtain ⟨b1, b2⟩ := b0
  unfold lossF at *
  go_enter Try.func61, Try.ntmps61
  go_wp2_with fail
  generalize w.alloc (.cells #[.int .i64 z1, .int .i64 z2] 24) = W at *
  have Hg := hide hg'
  have Hgl := hide hgl'
  have Hl := hide hl'
  have HbW := hide hbW
  have hglt := hgl'.lt
  clear hg' hgl' hl' hbW
  refine wp_region_R (fun k => k < W.heap.size) 34 (by kernel_rfl) ?_
  apply anyR_peel (fuel := 1) 34 [true, true, true, true, true, true, true, true, true, true, true, true, true, true, true, true, true, true, true, true, true, true, true, true, true, true, true, true, true, true, true, true, true, true, false] #[true, true, true, true, true, true, true, true, true, true, true, true, true, true, true, true, true, true, true, true, true, true, true, true, true, true, true, true, true, true, true, true, true, true, false] (by kernel_rfl) rfl (fun j hj => decide_eq_true hj) (fun k hk => by first | exact hk | omega | (simp at hk ⊢; omega))
  · intro D hD
    have hne := hD.some
    have k0 := liftB hD g0 (by omega)
    have k1 := liftB hD g1 (by omega)
    have k2 := liftB hD g2 (by omega)
    have k3 := liftB hD b1 (by omega)
    have k4 := liftB hD b2 (by omega)
    simp only [takeOps]
    repeat (go_big_quiet_step ((first | (go_at_call 48; exact calls_same _ (down_any _ _ _ (by omega) (by omega) (by omega) (by omega))) | (go_at_call 49; exact calls_same _ (up_any _ _ _ (by omega) (by omega) (by omega) (by omega))) | (go_at_call_of 67 (Value.int .i64 z2); exact calls_later hD _ (worth1_up A n c l 32768 z2 v2 gl _ Hn.out HT.out (by omega) hz2a hz2b ((Hl.out.below (kb hD _)).more (kb hD _).size) (Hgl.out.below (kb hD _) hglt) Hv2.out)) | (go_at_call_of 67 (Value.int .i64 z1); exact calls_later hD _ (worth1_down A n c l 32768 z1 v1 gl _ Hn.out HT.out (by omega) hz1a hz1b ((Hl.out.below (kb hD _)).more (kb hD _).size) (Hgl.out.below (kb hD _) hglt) Hv1.out)))))
    exact wpQuiet_nil rfl
  refine anyR_fill_at (f := 0) 34 _ 112 37 35 g 0 #[.int .i64 t1, .int .i64 t2, .func (.func 67) #[] #[.pointer (some ⟨gl, 0, none⟩)]] #[.int .i64 (t1 * (65536 - v2) / 65536), .int .i64 (cdiv (t2 * (65536 - v1)) 65536)]
    #[.int .i64 (t1 * (65536 - v2) / 65536), .int .i64 (cdiv (t2 * (65536 - v1)) 65536), .func (.func 67) #[] #[.pointer (some ⟨gl, 0, none⟩)]] (by kernel_rfl) rfl rfl rfl Hg.out sizeSpan' (by simp) (one2 _ _) (by simp) (by simp) ?_
  intro w2 hgr hbk
  have hgr2 := grown_later HbW.out hgr
  go_wp2
  go_end0
  exact ⟨rfl, hgr2, by rw [E1.out]; exact hbk⟩
end Go.Proofs.Ytmglgahagbfbkaa
