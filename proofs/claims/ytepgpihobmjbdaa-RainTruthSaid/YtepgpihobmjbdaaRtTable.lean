/-
  Contracts of the functions that round quotients: rain's and the reference's.
  CheckTable: the contract, for every slice of points.
-/
import Derived.Test.YtepgpihobmjbdaaLoopsOf
import Derived.Test.YtepgpihobmjbdaaBeam2Math
import Derived.Handy
set_option linter.unusedSimpArgs false
set_option linter.unusedVariables false
section
namespace Go.Proofs.Ytepgpihobmjbdaa
open Go.RowKit
theorem down_any (a b : Int) (w : World) (ha : 0 ≤ a) (hb : 1 ≤ b) (ha2 : a ≤ 4611686018427387903) (_hb2 : b ≤ 4611686018427387903) :
  Calls Try.prog 30 #[.int .i64 a, .int .i64 b] w fun e w' => e = .returned (.int .i64 (a / b)) ∧ w = w' := by
 have h1 : 0 ≤ a / b := Int.ediv_nonneg ha (by omega)
 have h2 : a / b ≤ a := Int.ediv_le_self b ha
 go_enter Try.func30, Try.ntmps30
 go_wp2
 go_ret
 exact ⟨rfl, rfl⟩
theorem up_any (a b : Int) (w : World) (ha : 0 ≤ a) (hb : 1 ≤ b) (ha2 : a ≤ 4611686018427387903) (hb2 : b ≤ 4611686018427387903) :
  Calls Try.prog 31 #[.int .i64 a, .int .i64 b] w fun e w' => e = .returned (.int .i64 (cdiv a b)) ∧ w = w' := by
 have h1 : 0 ≤ (a + b - 1) / b := Int.ediv_nonneg (by omega) (by omega)
 have h2 : (a + b - 1) / b ≤ a + b - 1 := Int.ediv_le_self b (by omega)
 have H := hide (cdiv_eq (a := a) (b := b) (by omega))
 go_enter Try.func31, Try.ntmps31
 go_wp2
 go_ret
 exact ⟨(ret_int H.out).symm, rfl⟩
end Go.Proofs.Ytepgpihobmjbdaa
end
section
namespace Go.Proofs.Ytepgpihobmjbdaa
open Go.RowKit
set_option maxHeartbeats 400000 in
theorem CheckTable_any (A : Option Addr) (n c : Nat) (l : List (Int × Int)) (most : Int) (w : World) (hn : l.length = n) (hmax : n ≤ 9223372036854775807) (hl : Ints w w.heap.size .i64 A (flat2 l)) :
    Calls Try.prog 15 #[.slice A n c, .int .i64 most] w fun e w' => e = .returned (.int .i64 (chk l most)) ∧ Below w.heap.size w w' := by
  by_cases h2 : (n : Int) < 2
  · have hs : chk l most = 18 := by unfold chk; rw [if_pos (by omega)]
    have Hs := hide hs
    clear hs
    clear hn
    go_enter Try.func15, Try.ntmps15
    go_wp2
    go_ret
    exact ⟨(ret_int Hs.out).symm, Below.refl _ _⟩
  by_cases h3 : (32 : Int) < n
  · have hs : chk l most = 9 := by unfold chk; rw [if_neg (by omega), if_pos (by omega)]
    have Hs := hide hs
    clear hs
    clear hn
    go_enter Try.func15, Try.ntmps15
    go_wp2
    go_ret
    exact ⟨(ret_int Hs.out).symm, Below.refl _ _⟩
  have hs : chk l most = chkGo most 0 (-1) 0 l := by unfold chk; rw [if_neg (by omega), if_neg (by omega)]
  have Hs := hide hs
  clear hs
  obtain ⟨b, off, rfl, hb, hc⟩ := hl.pt (by omega)
  have Hc := hide hc
  clear hc hl
  have Hn := hide hn
  clear hn
  go_enter Try.func15, Try.ntmps15
  go_wp2_with fail
  go_loopw [19] (fun i wr => ∃ (k : Nat) (bz br : Int), k ≤ n ∧ i = .int .i64 k ∧ Below w.heap.size w wr ∧ w.heap.size < wr.heap.size ∧ Blk wr w.heap.size 94 #[.int .i64 bz, .int .i64 br] ∧ chkGo most k bz br (l.drop k) = chkGo most 0 (-1) 0 l)
    (fun i _ => n - (intOf i).toNat)
  case atStart => exact ⟨0, -1, 0, by omega, rfl, (Below.refl _ _).alloc (Nat.le_refl _) _, by simp, Blk.new _ _ _, rfl⟩
  case round =>
    obtain ⟨k, bz, br, hk, rfl, hbw, hsz, hbl, hg⟩ := hrel
    have Hg := hide hg
    have Hb := hide hbl
    have b0 := hbl.cell 0
    have b1 := hbl.cell 1
    have f0 := hbl.frozen 0
    have f1 := hbl.frozen 1
    clear hg hbl
    simp only [List.getElem?_toArray, List.getElem?_cons_zero, List.getElem?_cons_succ] at b0 b1
    by_cases hlt : k < n
    · have hc := Hc.out k (by have := Hn.out; omega)
      have hd := chkGo_drop most k bz br l k (by have := Hn.out; omega)
      rw [Hg.out] at hd
      generalize (l.getD k (0, 0)).1 = z at hc hd
      generalize (l.getD k (0, 0)).2 = r at hc hd
      have Hd := hide hd
      clear hd
      obtain ⟨hc0, hc1⟩ := hc
      rw [← hbw.cell hb] at hc0 hc1
      have Hbw := hide hbw
      clear hbw
      by_cases hw1 : win z 0 1073741824 = true
      · by_cases hw2 : win r 0 most = true
        · go_wp2_with (first | (go_at_call 29; refine (within_any _ _ _ _).mono ?_; rintro e w' ⟨rfl, rfl⟩))
          all_goals first
            | (go_ret
               have hd := Hd.out
               rw [if_neg (by simp [hw1, hw2]), if_pos (by omega)] at hd
               exact ⟨(ret_int (Hs.out.trans hd)).symm, Hbw.out.alloc (by omega) _⟩)
            | (go_roundw
               case rel =>
                 have hd := Hd.out
                 rw [if_neg (by simp [hw1, hw2]), if_neg (by omega)] at hd
                 exact ⟨k + 1, z, r, by omega, by go_num, ((Hbw.out.setCell (by simp) _).setCell (by simp) _).alloc (by simp; omega) _, by simp; omega, (((Hb.out.set_ 0 _).set_ 1 _).alloc _), hd.symm⟩
               case measure => simp [intOf]; omega)
        · have hw3 : win r 0 most = false := by simpa using hw2
          go_wp2_with (first | (go_at_call 29; refine (within_any _ _ _ _).mono ?_; rintro e w' ⟨rfl, rfl⟩))
          go_ret
          have hd := Hd.out
          rw [if_pos (by simp [hw3])] at hd
          exact ⟨(ret_int (Hs.out.trans hd)).symm, Hbw.out.alloc (by omega) _⟩
      · have hw3 : win z 0 1073741824 = false := by simpa using hw1
        go_wp2_with (first | (go_at_call 29; refine (within_any _ _ _ _).mono ?_; rintro e w' ⟨rfl, rfl⟩))
        go_ret
        have hd := Hd.out
        rw [if_pos (by simp [hw3])] at hd
        exact ⟨(ret_int (Hs.out.trans hd)).symm, Hbw.out.alloc (by omega) _⟩
    · have hz := Hg.out
      rw [chkGo_end _ _ _ _ _ _ (by have := Hn.out; omega)] at hz
      have Hz := hide hz
      clear hz
      go_wp2
      go_ret
      exact ⟨(ret_int (Hs.out.trans Hz.out.symm)).symm, hbw⟩
end Go.Proofs.Ytepgpihobmjbdaa
end
