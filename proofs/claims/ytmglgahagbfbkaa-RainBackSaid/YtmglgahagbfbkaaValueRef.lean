/-
  The reference's value of a table at a power: the contract, for every valid table.
-/
import Derived.Test.YtmglgahagbfbkaaDivs
import Derived.Test.YtmglgahagbfbkaaValueMath
import Derived.Test.YtmglgahagbfbkaaRegionMem
import Derived.Handy
namespace Go.Proofs.Ytmglgahagbfbkaa
open Go.RowKit

theorem zero2 : (Try.prog.info? 96).map (·.zero) = some (some (.agg #[.int .i64 0, .int .i64 0])) := by kernel_rfl
theorem size2 : (Try.prog.info? 96).map (·.size) = some 2 := by kernel_rfl
theorem sizeSpan : (Try.prog.info? 24).map (·.size) = some 2 := by kernel_rfl

set_option maxHeartbeats 800000 in
theorem value_any (A : Option Addr) (n c : Nat) (l : List (Int × Int)) (most z : Int) (w : World) (hn : l.length = n) (hT : Tab l most) (hmost : most ≤ 1073741824) (hz0 : 0 ≤ z) (hz : z ≤ 1073741824) (hl : Ints w w.heap.size .i64 A (flat2 l)) :
    Calls Try.prog 50 #[.slice A n c, .int .i64 z] w fun e w' => e = .returned (.agg #[.int .i64 (valGo z l).1, .int .i64 (valGo z l).2]) ∧ Below w.heap.size w w' := by
  obtain ⟨hlen1, hlen2⟩ := hT.len
  obtain ⟨b, off, rfl, hb, hc⟩ := hl.pt (by omega)
  have Hc := hide hc
  have HT := hide hT
  clear hc hl hT
  have Hn := hide hn
  rw [hn] at hlen1 hlen2
  clear hn
  go_enter Try.func50, Try.ntmps50
  go_wp2_with fail
  go_loopw [5] (fun i wr => ∃ k : Nat, k + 1 ≤ n ∧ i = .int .i64 k ∧ Below w.heap.size w wr ∧ Blk wr w.heap.size 24 #[.int .i64 0, .int .i64 0] ∧ (k = 0 ∨ (l.getD k P0).1 ≤ z) ∧ valGo z (l.drop k) = valGo z l)
    (fun i _ => n - (intOf i).toNat)
  case atStart => exact ⟨0, by omega, rfl, (Below.refl _ _).alloc (Nat.le_refl _) _, Blk.new _ _ _, .inl rfl, rfl⟩
  case round =>
    obtain ⟨k, hk, rfl, hbw, hbl, hkz, hg⟩ := hrel
    have hsz := hbl.lt
    have Hbl := hide hbl
    have Hg := hide hg
    have Hbw := hide hbw
    by_cases hlt : k + 1 < n
    · have hc := Hc.out k (by have := Hn.out; omega)
      have hd := Hc.out (k + 1) (by have := Hn.out; omega)
      have hr1 := HT.out.rng k (by have := Hn.out; omega)
      have hr2 := HT.out.rng (k + 1) (by have := Hn.out; omega)
      have hm := HT.out.mono k (by have := Hn.out; omega)
      have hv := val_drop z (l := l) (k := k) (by have := Hn.out; omega)
      have hk0 : (l.getD k P0).1 ≤ z := by
        rcases hkz with h | h
        · subst h; rw [HT.out.z0]; exact hz0
        · exact h
      rw [hg] at hv
      generalize hK : valGo z (l.drop (k + 1)) = K at hv
      have HK := hide hK
      clear hg hbl hK hkz
      generalize (l.getD k P0).1 = z1 at *
      generalize (l.getD k P0).2 = r1 at *
      generalize hz2 : (l.getD (k + 1) P0).1 = z2 at *
      generalize (l.getD (k + 1) P0).2 = r2 at *
      have Hz2 := hide hz2
      have Hv := hide hv
      clear hz2 hv
      obtain ⟨hc0, hc1⟩ := hc
      obtain ⟨hd0, hd1⟩ := hd
      rw [← hbw.cell hb] at hc0 hc1 hd0 hd1
      clear hbw
      go_wp2_with fail
      refine wp_region_R (fun k => k < wr.heap.size) 13 (by kernel_rfl) ?_
      apply anyR_peel (fuel := 4) 13 [true, true, true, true, true, true, true, true, true, false, false, false, false] #[true, true, true, true, true, true, true, true, true, false, false, false, false] (by kernel_rfl) rfl (fun j hj => decide_eq_true hj) (fun k hk => by first | exact hk | omega | (simp at hk ⊢; omega))
      · intro D hD
        have hne := hD.some
        have c0 := liftB hD hc0 (by omega)
        have c1 := liftB hD hc1 (by omega)
        have d0 := liftB hD hd0 (by omega)
        have d1 := liftB hD hd1 (by omega)
        simp only [takeOps]
        repeat (go_big_quiet_step (fail))
        exact wpQuiet_nil rfl
      refine anyR_pair (f := 0) 9 10 11 12 _ _ 6 7 21 26 _ _ #[.int .i64 z1, .int .i64 r1] #[.int .i64 z2, .int .i64 r2] (by kernel_rfl) rfl zero2 size2 rfl zero2 size2 rfl (by exact of_decide_eq_true rfl) (by exact of_decide_eq_true rfl) rfl rfl (one2 _ _) (one2 _ _) (fun k hk => hk) ?_
      intro g1 g2 w1 hg1 hg2 hne hb1 hbk1 hbk2
      simp only [Act.put, List.setIfInBounds_toArray, List.set_cons_succ, List.set_cons_zero]
      have hs1 := hb1.size
      have B1 := below_later' (Hbw.out) hb1 (by omega)
      have Bl1 := hide (blk_later Hbl.out hb1)
      have HB1 := hide B1
      clear B1 hb1 hc0 hc1 hd0 hd1
      obtain ⟨c0, c1⟩ := hbk1.c2
      obtain ⟨d0, d1⟩ := hbk2.c2
      have hg1' := hbk1.lt
      have hg2' := hbk2.lt
      clear hbk1 hbk2
      have hp1 := mul_bd (a := r2 - r1) (b := z - z1) (A := 1073741824) (B := 1073741824) (by omega) (by omega) (by omega) (by omega)
      by_cases hzz : z < z2
      · go_wp2_with fail
        go_quiet (fail)
        go_wp2_with fail
        have q1 : (r2 - r1) * (z - z1) ≤ 4611686018427387903 := by omega
        have q2 : -4611686018427387903 ≤ (r2 - r1) * (z - z1) := by omega
        have q3 : 0 ≤ (r2 - r1) * (z - z1) / (z2 - z1) := Int.ediv_nonneg (by omega) (by omega)
        have q4 : (r2 - r1) * (z - z1) / (z2 - z1) ≤ (r2 - r1) * (z - z1) := Int.ediv_le_self _ (by omega)
        have q5 : 0 ≤ cdiv ((r2 - r1) * (z - z1)) (z2 - z1) := by rw [cdiv_eq (by omega)]; exact Int.ediv_nonneg (by omega) (by omega)
        have q6 : cdiv ((r2 - r1) * (z - z1)) (z2 - z1) ≤ (r2 - r1) * (z - z1) + (z2 - z1) - 1 := by rw [cdiv_eq (by omega)]; exact Int.ediv_le_self _ (by omega)
        refine wp_region_R (fun k => k < w1.heap.size) 13 (by kernel_rfl) ?_
        apply anyR_peel (fuel := 1) 13 [true, true, true, true, true, true, true, true, true, true, true, true, true, false] #[true, true, true, true, true, true, true, true, true, true, true, true, true, false] (by kernel_rfl) rfl (fun j hj => decide_eq_true hj) (fun k hk => by first | exact hk | omega | (simp at hk ⊢; omega))
        · intro D hD
          have hne := hD.some
          have c0 := liftB hD c0 (by omega)
          have c1 := liftB hD c1 (by omega)
          have d0 := liftB hD d0 (by omega)
          have d1 := liftB hD d1 (by omega)
          simp only [takeOps]
          repeat (go_big_quiet_step ((first | (go_at_call 51; exact calls_same _ (Down_any _ _ _ (by omega) (by omega) (by omega) (by omega))) | (go_at_call 52; exact calls_same _ (Up_any _ _ _ (by omega) (by omega) (by omega) (by omega))))))
          exact wpQuiet_nil rfl
        refine anyR_fill (f := 0) 13 _ 24 4 58 w.heap.size #[.int .i64 0, .int .i64 0] #[_, _] (by kernel_rfl) rfl rfl rfl Bl1.out sizeSpan rfl (one2 _ _) (by simp) ?_
        intro w2 hgr hbk
        obtain ⟨e0, e1⟩ := hbk.c2
        have hv := Hv.out
        rw [if_pos hzz] at hv
        have Hv2 := hide hv
        clear hv
        go_wp2
        refine bodyPost_ret (v := .agg #[.int .i64 (r1 + (r2 - r1) * (z - z1) / (z2 - z1)), .int .i64 (r1 + cdiv ((r2 - r1) * (z - z1)) (z2 - z1))]) (by simp [results, Try.results50, go_sem, e0, e1]) rfl ⟨?_, ?_⟩
        · rw [Hv2.out]
        · exact (below_drewN HB1.out nq).grown hgr (by have := HB1.out.size; simpa using this) (fun k hk => by simp at hk; omega)
      · have hv := Hv.out
        rw [if_neg hzz] at hv
        have Hv2 := hide hv
        clear hv
        go_wp2
        go_roundw
        case rel => exact ⟨k + 1, by omega, by go_num, HB1.out, Bl1.out, .inr (by rw [Hz2.out]; omega), HK.out.trans Hv2.out.symm⟩
        case measure => simp [intOf]; omega
    · obtain rfl : n = k + 1 := by omega
      have hc := Hc.out k (by have := Hn.out; omega)
      have hv := val_last z (l := l) (k := k) (by have := Hn.out; omega)
      rw [hg] at hv
      have Hv := hide hv
      clear hg hbl hv hkz
      generalize (l.getD k P0).1 = z1 at *
      generalize (l.getD k P0).2 = r1 at *
      obtain ⟨hc0, hc1⟩ := hc
      rw [← hbw.cell hb] at hc1
      clear hc0 hbw
      obtain ⟨e0, e1⟩ := Hbl.out.c2
      have f0 := Hbl.out.frozen 0
      have f1 := Hbl.out.frozen 1
      go_wp2
      refine bodyPost_ret (v := .agg #[.int .i64 r1, .int .i64 r1]) (by simp [results, Try.results50, go_sem, e0, e1]) rfl ⟨?_, ?_⟩
      · rw [Hv.out]
      · exact (Hbw.out.setCell (by simp) _).setCell (by simp) _
end Go.Proofs.Ytmglgahagbfbkaa
