/-
  radomeref05.Pass: the contract, for every table and every list of powers.
-/
import Derived.Test.YtmglgahagbfbkaaNext
namespace Go.Proofs.Ytmglgahagbfbkaa
open Go.RowKit

set_option maxHeartbeats 2000000 in
set_option maxRecDepth 100000 in
theorem RefPass_any (A : Option Addr) (n c : Nat) (l : List (Int × Int)) (A' : Option Addr) (n' c' : Nat) (pw : List Int) (w : World) (hn : l.length = n) (hmax : n ≤ 9223372036854775807) (hn' : pw.length = n') (hmax' : n' ≤ 9223372036854775807)
    (hl : Ints w w.heap.size .i64 A (flat2 l)) (hl' : Ints w w.heap.size .i64 A' pw) :
    Calls Try.prog 37 #[.slice A n c, .slice A' n' c'] w (SpansPost (passR l pw) w) := by
  have hchk := RefCheckTable_any A n c l 32768 w hn hmax hl
  by_cases h1 : chk l 32768 = 0
  · rw [h1] at hchk
    by_cases h2 : (200 : Int) < n'
    · have hR : passR l pw = ([], 9) := by simp [passR, h1, hn', show 200 < n' by omega]
      have HR := hide hR
      clear hR h1 hl hl' hn hn'
      go_enter Try.func37, Try.ntmps37
      go_wp2_with fail
      refine hchk.mono ?_
      rintro e w1 ⟨rfl, hb1⟩
      clear hchk
      go_wp2
      go_ret2
      rw [HR.out]
      exact spans_nil _ hb1
    · have hT := tab_of h1
      have hR : passR l pw = if pw.all okP = true then (passGo l whole pw, 0) else ([], 3) := by simp [passR, h1, hn', show ¬ 200 < n' by omega]
      obtain ⟨i0, hi, hz0, hz1, hz2⟩ := info_parts spanInfo
      have HR := hide hR
      have HT := hide hT
      have Hl := hide hl
      have Hl' := hide hl'
      have Hn := hide hn
      have Hn' := hide hn'
      have Hi := hide hi
      have Hz0 := hide hz0
      have Hz1 := hide hz1
      have Hz2 := hide hz2
      clear hR hT hl hl' hn hn' hi hz0 hz1 hz2
      clear h1
      go_enter Try.func37, Try.ntmps37
      go_wp2_with fail
      refine hchk.mono ?_
      rintro e w1 ⟨rfl, hb1⟩
      clear hchk
      have hs1 := hb1.size
      go_wp2_with fail
      go_loopw [8, 9] (fun o i wr => ∃ (k : Nat) (t : Int × Int) (dn : List (Int × Int)), k ≤ n' ∧ i = .int .i64 k ∧ wr.ownsRow (w1.heap.size + 1) 24 2 o k (spanCells dn) ∧ Below w.heap.size w wr ∧
          Blk wr w1.heap.size 24 #[.int .i64 t.1, .int .i64 t.2] ∧ Psg t ∧ dn.length = k ∧ passGo l whole pw = dn ++ passGo l t (pw.drop k) ∧ (∀ j, j < k → okP (pw.getD j 0) = true))
        (fun _ i _ => n' - (intOf i).toNat)
      case atStart => exact ⟨0, whole, [], by omega, rfl, World.ownsRow_nil _ _ _ _, hb1.alloc hs1 _, Blk.new _ _ _, ⟨by decide, by decide, by decide, by decide⟩, rfl, rfl, fun j hj => by omega⟩
      case round =>
        obtain ⟨k, t, dn, hk, rfl, hown, hbw, hg, ht, hdn, hgo, hall⟩ := hrel
        have hsw := hg.lt
        generalize w1.heap.size = g7 at *
        have Hown := hide hown
        have HB := hide hbw
        have Hg := hide hg
        have Hgo := hide hgo
        have Hall := hide hall
        have Ht := hide ht
        have Hdn := hide hdn
        clear hown hbw hg hgo hall ht hdn
        by_cases hlt : k < n'
        · obtain ⟨b', off', rfl, hb', hc'⟩ := Hl'.out (by have := Hn'.out; omega)
          have hp := hc' k (by have := Hn'.out; omega)
          rw [← HB.out.cell hb'] at hp
          have hgd := passGo_drop l t pw k (by have := Hn'.out; omega)
          have hnn := fun h => not_all_ok (pw := pw) (j := k) (by have := Hn'.out; omega) h
          have hok1 : okP (pw.getD k 0) = true → ∀ j, j < k + 1 → okP (pw.getD j 0) = true := fun h j hj => by
            rcases Nat.lt_or_ge j k with h1 | h1
            · exact Hall.out j h1
            · obtain rfl : j = k := by omega
              exact h
          have Hgd := hide hgd
          have Hnn := hide hnn
          have Hok1 := hide hok1
          clear hc' hgd hnn hok1
          generalize pw.getD k 0 = z at *
          by_cases hw : win z 0 1073741824 = true
          · obtain ⟨hz0, hz1⟩ := win_iff.1 hw
            obtain ⟨o1, o2, o3, o4⟩ := one_bd Ht.out hz0 hz1
            obtain ⟨t1, t2⟩ := t
            simp only at o1 o2 o3 o4 Hg
            go_wp2_with (go_at_call 44; refine (In_any _ _ _ _).mono ?_; rintro e w' ⟨rfl, rfl⟩)
            obtain ⟨g0, g1⟩ := Hg.out.c2
            have ltg := Hg.out.lt
            refine wp_region_R (fun k => k < wr.heap.size) 13 (by kernel_rfl) ?_
            apply anyR_peel (fuel := 3) 13 [true, true, true, true, true, true, true, true, true, true, true, true, false, false, false] #[true, true, true, true, true, true, true, true, true, true, true, true, false, false, false] (by kernel_rfl) rfl (fun j hj => decide_eq_true hj) (fun k hk => by first | exact hk | omega | (simp at hk ⊢; omega))
            · intro D hD
              have hne := hD.some
              have k0 := liftB hD g0 (by omega)
              have k1 := liftB hD g1 (by omega)
              simp only [takeOps]
              repeat (go_big_quiet_step ((first | (go_at_call 51; exact calls_same _ (Down_any _ _ _ (by omega) (by omega) (by omega) (by omega))) | (go_at_call 52; exact calls_same _ (Up_any _ _ _ (by omega) (by omega) (by omega) (by omega))))))
              exact wpQuiet_nil rfl
            refine anyR_push (f := 0) 12 13 14 82 24 33 45 46 8 44 (by kernel_rfl) (by decide) rfl rfl rfl rfl rfl rfl rfl rfl rfl rfl rfl rfl rfl (g7 + 1) i0 _ 2 16 Try.underlying82 Hi.out Hz0.out Hz1.out Hz2.out rfl (by omega) #[.int .i64 (z * t1 / 1073741824), .int .i64 (cdiv (z * t2) 1073741824)] (fun _ => by kernel_rfl) rfl (by simp [Value.oneCell']) _ k (spanCells dn) rfl (by exact of_decide_eq_true rfl) (by exact of_decide_eq_true rfl) Hown.out (by unfold maxLen; omega) (by omega) hsw (fun h => by simp at h) (fun k hk => hk) ?_
            intro g v' w2 hown2 hgr2
            simp only [Act.put, List.setIfInBounds_toArray, List.set_cons_succ, List.set_cons_zero]
            replace HB := hide (below_grown HB.out hgr2 HB.out.size fun k hk => Nat.le_trans (by first | exact Nat.le_refl _ | omega) (Hown.out.lt k hk).1)
            replace Hg := hide (blk_grown Hg.out hgr2 (own_low_ne Hown.out (by omega)))
            replace Hown := hide hown2
            clear hown2 hgr2 g0 g1 ltg
            clear hp
            obtain ⟨g0, g1⟩ := Hg.out.c2
            have ltg := Hg.out.lt
            go_wp2_with fail
            refine (next_any A n c l (t1, t2) (z, z) _ Hn.out HT.out Ht.out ⟨hz0, hz1⟩ ⟨hz0, hz1⟩ ((Hl.out.below HB.out).more HB.out.size)).mono ?_
            rintro e w3 ⟨rfl, hb⟩
            replace Hg := hide (blk_later Hg.out hb)
            replace Hown := hide (own_later Hown.out hb)
            replace HB := hide (onward HB.out hb)
            clear hb g0 g1 ltg
            have f0 := Hg.out.frozen 0
            have f1 := Hg.out.frozen 1
            obtain ⟨g0, g1⟩ := Hg.out.c2
            have ltg := Hg.out.lt
            have hgb : w.heap.size ≤ g7 := by omega
            go_wp2
            go_roundw
            case rel =>
              refine ⟨k + 1, nextT l (t1, t2) (z, z), dn ++ [passOne (t1, t2) z], by omega, by go_num, ?_, ?_, blk_eq2 ((Hg.out.set_ 0 _).set_ 1 _) (by simp), nextT_psg HT.out Ht.out hz0 hz0, by simp [Hdn.out], ?_, Hok1.out hw⟩
              · have := Hown.out
                rw [spanCells_snoc] at this
                have h2 := own_grown this (grown_setCell _ g7 0 (.int .i64 (nextT l (t1, t2) (z, z)).1)) (own_low_ne this (by omega))
                exact own_grown h2 (grown_setCell _ g7 1 _) (own_low_ne h2 (by omega))
              · repeat (first | exact HB.out | (refine Below.setCell ?_ (by first | omega | (simp; done) | (simp; omega)) _) | (refine Below.alloc ?_ (by first | omega | (simp; done) | (simp; omega)) _) | (refine below_drewN ?_ _))
              · rw [Hgo.out, Hgd.out]; simp
            case measure => simp [intOf] <;> omega
          · have hw3 : win z 0 1073741824 = false := by simpa using hw
            have hno := Hnn.out hw3
            have HR2 := hide (HR.out.trans (if_neg (by rw [hno]; simp)))
            clear hw hno
            go_wp2_with (go_at_call 44; refine (In_any _ _ _ _).mono ?_; rintro e w' ⟨rfl, rfl⟩)
            go_ret2
            rw [HR2.out]
            exact spans_nil _ HB.out
        · obtain rfl : k = n' := by omega
          have hal := all_ok (pw := pw) (fun j hj => Hall.out j (by have := Hn'.out; omega))
          have HR2 := hide (HR.out.trans (if_pos hal))
          have hgo := Hgo.out
          rw [List.drop_eq_nil_of_le (by have := Hn'.out; omega), passGo, List.append_nil] at hgo
          have Hgo2 := hide hgo
          clear hal hgo
          go_wp2
          go_ret2
          rw [HR2.out]
          exact ⟨_, rfl, by rw [Hgo2.out, Hdn.out]; exact own_mono Hown.out (by omega), HB.out⟩
  · have hR : passR l pw = ([], chk l 32768) := by simp [passR, h1]
    have HR := hide hR
    have h3 : (chk l 32768 != 0) = true := by simpa [bne] using h1
    clear hR h1 hl hl' hn hn'
    generalize chk l 32768 = ck at *
    go_enter Try.func37, Try.ntmps37
    go_wp2_with fail
    refine hchk.mono ?_
    rintro e w1 ⟨rfl, hb1⟩
    clear hchk
    go_wp2
    go_ret2
    rw [HR.out]
    exact spans_nil _ hb1
end Go.Proofs.Ytmglgahagbfbkaa
