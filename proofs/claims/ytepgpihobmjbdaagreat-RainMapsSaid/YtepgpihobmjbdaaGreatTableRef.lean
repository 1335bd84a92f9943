/-
  The reference's CheckTable: the contract, for every slice of points.
-/
import Derived.Test.YtepgpihobmjbdaaGreatLoopsOf
import Derived.Handy
import Derived.BigQuiet
set_option linter.unusedSimpArgs false
set_option linter.unusedVariables false
namespace Go.Proofs.YtepgpihobmjbdaaGreat
open Go.RowKit
set_option maxHeartbeats 800000 in
theorem RefCheckTable_any (A : Option Addr) (n c : Nat) (l : List (Int × Int)) (most : Int) (w : World) (hn : l.length = n) (hmax : n ≤ 9223372036854775807) (hl : Ints w w.heap.size .i64 A (flat2 l)) :
  Calls Tryz.prog 74 #[.slice A n c, .int .i64 most] w fun e w' => e = .returned (.int .i64 (chk l most)) ∧ Below w.heap.size w w' := by
 by_cases h2 : (n : Int) < 2
 ·
  have hs : chk l most = 18 := by unfold chk; rw [if_pos (by omega)]
  have Hs := hide hs
  clear hs
  clear hn
  go_enter Tryz.func74, Tryz.ntmps74
  go_wp2
  go_ret
  exact ⟨(ret_int Hs.out).symm, Below.refl _ _⟩
 by_cases h3 : (32 : Int) < n
 ·
  have hs : chk l most = 9 := by unfold chk; rw [if_neg (by omega), if_pos (by omega)]
  have Hs := hide hs
  clear hs
  clear hn
  go_enter Tryz.func74, Tryz.ntmps74
  go_wp2
  go_ret
  exact ⟨(ret_int Hs.out).symm, Below.refl _ _⟩
 have hs : chk l most = chkGo most 0 (-1) 0 l := by unfold chk; rw [if_neg (by omega), if_neg (by omega)]
 have Hs := hide hs
 clear hs
 obtain ⟨b, off, rfl, hb, hc⟩ := hl.pt (by omega)
 have Hc := hide hc
 clear hc hl
 have Hn := hide hn
 clear hn
 go_enter Tryz.func74, Tryz.ntmps74
 go_wp2_with fail
 go_loopw [5] (fun i wr => ∃ (k m : Nat), k ≤ n ∧ i = .int .i64 k ∧ wr = w.drewN m ∧ chkGo most k (pz l k) (pr l k) (l.drop k) = chkGo most 0 (-1) 0 l)
  (fun i _ => n - (intOf i).toNat)
 case atStart => exact ⟨0, 0, by omega, rfl, rfl, rfl⟩
 case round =>
  obtain ⟨k, m, hk, rfl, rfl, hg⟩ := hrel
  have Hg := hide hg
  clear hg
  by_cases hlt : k < n
  ·
   have hc := Hc.out k (by have := Hn.out; omega)
   have hd := chkGo_drop most k (pz l k) (pr l k) l k (by have := Hn.out; omega)
   rw [Hg.out] at hd
   have hz1 : pz l (k + 1) = (l.getD k (0, 0)).1 := by simp [pz]
   have hr1 : pr l (k + 1) = (l.getD k (0, 0)).2 := by simp [pr]
   generalize (l.getD k (0, 0)).1 = z at hc hd hz1
   generalize (l.getD k (0, 0)).2 = r at hc hd hr1
   have Hz1 := hide hz1
   have Hr1 := hide hr1
   clear hz1 hr1
   obtain ⟨hc0, hc1⟩ := hc
   by_cases hw1 : win z 0 1073741824 = true
   ·
    by_cases hw2 : win r 0 most = true
    ·
     have hb1 := win_iff.1 hw1
     have hb2 := win_iff.1 hw2
     rw [if_neg (by simp [hw1, hw2])] at hd
     by_cases h0 : k = 0
     ·
      subst h0
      simp only [Nat.zero_mul, Nat.add_zero] at hc0 hc1
      have hd' : chkGo most 0 (-1) 0 l = if z ≠ 0 then 12 else chkGo most (0 + 1) z r (l.drop (0 + 1)) := by
       have e1 : pz l 0 = -1 := rfl
       have e2 : pr l 0 = 0 := rfl
       rw [hd, e1, e2]
       by_cases hz : z = 0
       · rw [if_neg (by omega), if_neg (by omega)]
       · rw [if_pos (by omega), if_pos hz]
      have Hd := hide hd'
      clear hd hd'
      by_cases hz : z = 0
      ·
       subst hz
       go_wp2_with (first | (go_at_call 52; refine (In_any _ _ _ _).mono ?_; rintro e w' ⟨rfl, rfl⟩))
       go_quiet (fail)
       go_wp2
       go_roundw
       case rel => exact ⟨1, _, by omega, rfl, rfl, by rw [Hz1.out, Hr1.out, Hd.out, if_neg (by omega)]⟩
       case measure => simp [intOf]; omega
      ·
       have hz1 : (z != 0) = true := by simp [bne, hz]
       clear hz
       go_wp2_with (first | (go_at_call 52; refine (In_any _ _ _ _).mono ?_; rintro e w' ⟨rfl, rfl⟩))
       go_quiet (fail)
       go_wp2
       go_ret
       exact ⟨(ret_int (by rw [Hs.out, Hd.out, if_pos (by simpa using hz1)])).symm, below_drewN (below_drewN (Below.refl _ _) _) _⟩
     ·
      obtain ⟨j, rfl⟩ : ∃ j, k = j + 1 := ⟨k - 1, by omega⟩
      have hp := Hc.out j (by have := Hn.out; omega)
      have e1 : pz l (j + 1) = (l.getD j (0, 0)).1 := by simp [pz]
      have e2 : pr l (j + 1) = (l.getD j (0, 0)).2 := by simp [pr]
      rw [e1, e2] at hd
      clear e1 e2 h0
      generalize (l.getD j (0, 0)).1 = z0 at hp hd
      generalize (l.getD j (0, 0)).2 = r0 at hp hd
      obtain ⟨hp0, hp1⟩ := hp
      have Hd := hide hd
      clear hd
      have q0 : (((j : Int) + 1) == 0) = false := beq_eq_false_iff_ne.2 (by omega)
      have q1 : decide (0 < (j : Int) + 1) = true := decide_eq_true (by omega)
      by_cases hz : z ≤ z0
      ·
       have q2 : decide (z ≤ z0) = true := by simpa using hz
       go_wp2_with (first | (go_at_call 52; refine (In_any _ _ _ _).mono ?_; rintro e w' ⟨rfl, rfl⟩))
       go_quiet (fail)
       go_wp2
       go_ret
       exact ⟨(ret_int (by rw [Hs.out, Hd.out, if_pos (by omega)])).symm, below_drewN (below_drewN (Below.refl _ _) _) _⟩
      ·
       have q2 : decide (z ≤ z0) = false := by simpa using hz
       by_cases hr : r < r0
       ·
        go_wp2_with (first | (go_at_call 52; refine (In_any _ _ _ _).mono ?_; rintro e w' ⟨rfl, rfl⟩))
        go_quiet (fail)
        go_wp2
        go_ret
        exact ⟨(ret_int (by rw [Hs.out, Hd.out, if_pos (by omega)])).symm, below_drewN (below_drewN (Below.refl _ _) _) _⟩
       ·
        go_wp2_with (first | (go_at_call 52; refine (In_any _ _ _ _).mono ?_; rintro e w' ⟨rfl, rfl⟩))
        go_quiet (fail)
        go_wp2
        go_roundw
        case rel => exact ⟨j + 1 + 1, _, by omega, by go_num, rfl, by rw [Hz1.out, Hr1.out, Hd.out, if_neg (by omega)]⟩
        case measure => simp [intOf]; omega
    ·
     have hw3 : win r 0 most = false := by simpa using hw2
     rw [if_pos (by simp [hw3])] at hd
     have Hd := hide hd
     clear hd
     go_wp2_with (first | (go_at_call 52; refine (In_any _ _ _ _).mono ?_; rintro e w' ⟨rfl, rfl⟩))
     go_ret
     exact ⟨(ret_int (by rw [Hs.out, Hd.out])).symm, below_drewN (Below.refl _ _) _⟩
   ·
    have hw3 : win z 0 1073741824 = false := by simpa using hw1
    rw [if_pos (by simp [hw3])] at hd
    have Hd := hide hd
    clear hd
    go_wp2_with (first | (go_at_call 52; refine (In_any _ _ _ _).mono ?_; rintro e w' ⟨rfl, rfl⟩))
    go_ret
    exact ⟨(ret_int (by rw [Hs.out, Hd.out])).symm, below_drewN (Below.refl _ _) _⟩
  ·
   have hz := Hg.out
   rw [chkGo_end _ _ _ _ _ _ (by have := Hn.out; omega)] at hz
   have Hz := hide hz
   clear hz
   go_wp2
   go_ret
   exact ⟨(ret_int (Hs.out.trans Hz.out.symm)).symm, below_drewN (Below.refl _ _) _⟩
end Go.Proofs.YtepgpihobmjbdaaGreat
