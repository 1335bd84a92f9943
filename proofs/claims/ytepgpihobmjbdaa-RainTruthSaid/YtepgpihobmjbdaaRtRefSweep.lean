/-
  Sweeps: what pulse says of them, and the contract.
  The reference's CheckSweep: the contract.
-/
import Derived.Test.YtepgpihobmjbdaaRtEcho3
import Derived.Test.YtepgpihobmjbdaaRtRrPlaces2
import Derived.Test.YtepgpihobmjbdaaOpenV
set_option linter.unusedSimpArgs false
set_option linter.unusedVariables false
section
namespace Go.Proofs.Ytepgpihobmjbdaa
open Go Go.RowKit
def firstN (f : Nat → Int) (k : Nat) : Nat → Int
 | 0 => 0
 | m + 1 => if f k ≠ 0 then f k else firstN f (k + 1) m
theorem firstN_step (f : Nat → Int) {n k : Nat} (h : k < n) : firstN f k (n - k) = if f k ≠ 0 then f k else firstN f (k + 1) (n - (k + 1)) := by
 rw [show n - k = (n - (k + 1)) + 1 by omega, firstN]
def shapeB (n : Nat) (len : Nat → Nat) (g : Int) : Bool := (List.range n).all fun i => decide ((len i : Int) = g)
theorem shapeB_no {n : Nat} {len : Nat → Nat} {g : Int} {i : Nat} (hi : i < n) (h : (len i : Int) ≠ g) : shapeB n len g = false := by
 rw [Bool.eq_false_iff]
 intro hc
 have := List.all_eq_true.1 hc i (List.mem_range.2 hi)
 simp at this
 exact h this
theorem shapeB_yes {n : Nat} {len : Nat → Nat} {g : Int} (h : ∀ i, i < n → (len i : Int) = g) : shapeB n len g = true := List.all_eq_true.2 fun i hi => by
 simpa using h i (List.mem_range.1 hi)
structure Ray1 where
 A : Option Addr
 n : Nat
 c : Nat
 e : Nat → Ech
def RaysAt (w : World) (B : Nat) (A : Option Addr) (n : Nat) (rr : Nat → Ray1) : Prop :=
 0 < n → ∃ b off, A = some ⟨b, off, none⟩ ∧ b < B ∧ ∀ i, i < n → w.cell? ⟨b, off + i, none⟩ = some (.slice (rr i).A (rr i).n (rr i).c) ∧ (rr i).n ≤ maxLen ∧ Rows_ w B (rr i).A (rr i).n 14 (fun j => (echC ((rr i).e j)).toList)
theorem RaysAt.below {w w' : World} {B n : Nat} {A : Option Addr} {rr : Nat → Ray1} (h : RaysAt w B A n rr) (hb : Below B w w') : RaysAt w' B A n rr := fun hn => by
 obtain ⟨b, off, e, hl, hc⟩ := h hn
 exact ⟨b, off, e, hl, fun i hi => ⟨(hb.cell hl).trans (hc i hi).1, (hc i hi).2.1, (hc i hi).2.2.below hb⟩⟩
theorem RaysAt.more {w : World} {B B' n : Nat} {A : Option Addr} {rr : Nat → Ray1} (h : RaysAt w B A n rr) (hB : B ≤ B') : RaysAt w B' A n rr := fun hn => by
 obtain ⟨b, off, e, hl, hc⟩ := h hn
 exact ⟨b, off, e, by omega, fun i hi => ⟨(hc i hi).1, (hc i hi).2.1, (hc i hi).2.2.more hB⟩⟩
def rowsE (n : Nat) (rr : Nat → Ray1) : Int := firstN (fun i => firstN (fun j => echE ((rr i).e j)) 0 (rr i).n) 0 n
def sweepE (se tilt time : Int) (r g : Int) (n : Nat) (rr : Nat → Ray1) : Int :=
 if se ≠ 0 then se else if (win tilt 0 256 && win time 0 4294967296) = false then 3 else if (n : Int) ≠ 4 * r then 11 else if shapeB n (fun i => (rr i).n) g = false then 11 else rowsE n rr
def sweepC (s : ByteArray) (x y z r g st wd tilt time : Int) (A : Option Addr) (n c : Nat) : Array Value := #[.string s, .int .i64 x, .int .i64 y, .int .i64 z, .int .i64 r, .int .i64 g, .int .i64 st, .int .i64 wd, .int .i64 tilt, .int .i64 time, .slice A n c]
theorem site_rg {nb : Bool} {x y z r g st wd : Int} (h : siteE nb x y z r g st wd = 0) : 1 ≤ r ∧ r ≤ 90 ∧ 1 ≤ g ∧ g ≤ 200 := by
 unfold siteE at h
 split at h
 · omega
 ·
  split at h
  ·
   rename_i hh
   simp only [Bool.and_eq_true, winB, decide_eq_true_eq] at hh
   omega
  · omega
set_option maxHeartbeats 4000000 in
set_option maxRecDepth 100000 in
theorem CheckSweep_any (s : ByteArray) (x y z r g st wd tilt time : Int) (A : Option Addr) (n c : Nat) (rr : Nat → Ray1) (w : World) (hs : s.size ≤ 9223372036854775807) (hn : n ≤ maxLen) (h : RaysAt w w.heap.size A n rr) :
  Calls Try.prog 50 #[.agg (sweepC s x y z r g st wd tilt time A n c)] w fun e w' => e = .returned (.int .i64 (sweepE (siteE (nameB s) x y z r g st wd) tilt time r g n rr)) ∧ Below w.heap.size w w' := by
 have hsite := fun W => CheckSite_any s (nameB s) x y z r g st wd W (fun W => Name_any s W hs)
 have hrg := @site_rg (nameB s) x y z r g st wd
 obtain ⟨se, hse⟩ : ∃ se, siteE (nameB s) x y z r g st wd = se := ⟨_, rfl⟩
 simp only [hse] at hsite hrg
 rw [hse]
 have hn2 : (n : Int) ≤ 9223372036854775807 := by unfold maxLen at hn; omega
 unfold sweepC
 have HS := hide hsite
 have HR := hide h
 clear hsite h
 clear hse
 by_cases h0 : se = 0
 ·
  obtain ⟨r0, r1, g0, g1⟩ := hrg h0
  subst h0
  have hsw : sweepE 0 tilt time r g n rr = if (win tilt 0 256 && win time 0 4294967296) = false then 3 else if (n : Int) ≠ 4 * r then 11 else if shapeB n (fun i => (rr i).n) g = false then 11 else rowsE n rr := rfl
  rw [hsw]
  clear hsw hrg
  obtain ⟨b1, hb1⟩ : ∃ b, win tilt 0 256 = b := ⟨_, rfl⟩
  obtain ⟨b2, hb2⟩ : ∃ b, win time 0 4294967296 = b := ⟨_, rfl⟩
  rw [hb1, hb2]
  cases b1 with
  | false =>
   rw [if_pos (by simp)]
   go_enter Try.func50, Try.ntmps50
   have HB := hide (Below.refl w.heap.size w)
   go_wp2_with fail
   refine at_world fun W hW => ?_
   have bq0 : Blk W w.heap.size 53 #[.string s, .int .i64 x, .int .i64 y, .int .i64 z, .int .i64 r, .int .i64 g, .int .i64 st, .int .i64 wd, .int .i64 tilt, .int .i64 time, .slice A n c] := by rw [hW]; exact Blk.new _ _ _
   have LW : Later w W := by rw [hW]; exact ((Below.refl _ _).alloc (Nat.le_refl _) _)
   have szW : W.heap.size = w.heap.size + 1 := by rw [hW]; simp
   clear hW
   replace HB := hide (onward HB.out LW)
   have Hx := hide bq0
   clear bq0 LW szW
   refine (HS.out _).mono ?_
   rintro e w1 ⟨rfl, hb⟩
   replace HB := hide (onward HB.out hb)
   replace Hx := hide (blk_later Hx.out hb)
   clear hb
   have x0 := Hx.out.c 0 rfl
   have x1 := Hx.out.c 1 rfl
   have x2 := Hx.out.c 2 rfl
   have x3 := Hx.out.c 3 rfl
   have x4 := Hx.out.c 4 rfl
   have x5 := Hx.out.c 5 rfl
   have x6 := Hx.out.c 6 rfl
   have x7 := Hx.out.c 7 rfl
   have x8 := Hx.out.c 8 rfl
   have x9 := Hx.out.c 9 rfl
   have x10 := Hx.out.c 10 rfl
   have ltx := Hx.out.lt
   go_wp2_with fail
   refine (pwithin_any _ _ _ _).mono ?_
   rintro e w' ⟨rfl, rfl⟩
   rw [hb1]
   go_wp2
   go_ret
   exact ⟨rfl, HB.out⟩
  | true =>
   cases b2 with
   | false =>
    rw [if_pos (by simp)]
    go_enter Try.func50, Try.ntmps50
    have HB := hide (Below.refl w.heap.size w)
    go_wp2_with fail
    refine at_world fun W hW => ?_
    have bq0 : Blk W w.heap.size 53 #[.string s, .int .i64 x, .int .i64 y, .int .i64 z, .int .i64 r, .int .i64 g, .int .i64 st, .int .i64 wd, .int .i64 tilt, .int .i64 time, .slice A n c] := by rw [hW]; exact Blk.new _ _ _
    have LW : Later w W := by rw [hW]; exact ((Below.refl _ _).alloc (Nat.le_refl _) _)
    have szW : W.heap.size = w.heap.size + 1 := by rw [hW]; simp
    clear hW
    replace HB := hide (onward HB.out LW)
    have Hx := hide bq0
    clear bq0 LW szW
    refine (HS.out _).mono ?_
    rintro e w1 ⟨rfl, hb⟩
    replace HB := hide (onward HB.out hb)
    replace Hx := hide (blk_later Hx.out hb)
    clear hb
    have x0 := Hx.out.c 0 rfl
    have x1 := Hx.out.c 1 rfl
    have x2 := Hx.out.c 2 rfl
    have x3 := Hx.out.c 3 rfl
    have x4 := Hx.out.c 4 rfl
    have x5 := Hx.out.c 5 rfl
    have x6 := Hx.out.c 6 rfl
    have x7 := Hx.out.c 7 rfl
    have x8 := Hx.out.c 8 rfl
    have x9 := Hx.out.c 9 rfl
    have x10 := Hx.out.c 10 rfl
    have ltx := Hx.out.lt
    go_wp2_with fail
    refine (pwithin_any _ _ _ _).mono ?_
    rintro e w' ⟨rfl, rfl⟩
    rw [hb1]
    go_wp2_with fail
    refine (pwithin_any _ _ _ _).mono ?_
    rintro e w' ⟨rfl, rfl⟩
    rw [hb2]
    go_wp2
    go_ret
    exact ⟨rfl, HB.out⟩
   | true =>
    rw [if_neg (by simp)]
    by_cases h4 : (n : Int) = 4 * r
    ·
     rw [if_neg (by omega)]
     have hd4 : ((n : Int) != 4 * r) = false := by simp [h4]
     obtain ⟨res, hres⟩ : ∃ q, (if shapeB n (fun i => (rr i).n) g = false then 11 else rowsE n rr) = q := ⟨_, rfl⟩
     rw [hres]
     have Hres := hide hres
     clear hres
     go_enter Try.func50, Try.ntmps50
     have HB := hide (Below.refl w.heap.size w)
     go_wp2_with fail
     refine at_world fun W hW => ?_
     have bq0 : Blk W w.heap.size 53 #[.string s, .int .i64 x, .int .i64 y, .int .i64 z, .int .i64 r, .int .i64 g, .int .i64 st, .int .i64 wd, .int .i64 tilt, .int .i64 time, .slice A n c] := by rw [hW]; exact Blk.new _ _ _
     have LW : Later w W := by rw [hW]; exact ((Below.refl _ _).alloc (Nat.le_refl _) _)
     have szW : W.heap.size = w.heap.size + 1 := by rw [hW]; simp
     clear hW
     replace HB := hide (onward HB.out LW)
     have Hx := hide bq0
     clear bq0 LW szW
     refine (HS.out _).mono ?_
     rintro e w1 ⟨rfl, hb⟩
     replace HB := hide (onward HB.out hb)
     replace Hx := hide (blk_later Hx.out hb)
     clear hb
     have x0 := Hx.out.c 0 rfl
     have x1 := Hx.out.c 1 rfl
     have x2 := Hx.out.c 2 rfl
     have x3 := Hx.out.c 3 rfl
     have x4 := Hx.out.c 4 rfl
     have x5 := Hx.out.c 5 rfl
     have x6 := Hx.out.c 6 rfl
     have x7 := Hx.out.c 7 rfl
     have x8 := Hx.out.c 8 rfl
     have x9 := Hx.out.c 9 rfl
     have x10 := Hx.out.c 10 rfl
     have ltx := Hx.out.lt
     go_wp2_with fail
     refine (pwithin_any _ _ _ _).mono ?_
     rintro e w' ⟨rfl, rfl⟩
     rw [hb1]
     go_wp2_with fail
     refine (pwithin_any _ _ _ _).mono ?_
     rintro e w' ⟨rfl, rfl⟩
     rw [hb2]
     go_wp2_with fail
     go_loopw [38] (fun i wr => ∃ k : Nat, k ≤ n ∧ i = .int .i64 k ∧ Below w.heap.size w wr ∧ Blk wr w.heap.size 53 #[.string s, .int .i64 x, .int .i64 y, .int .i64 z, .int .i64 r, .int .i64 g, .int .i64 st, .int .i64 wd, .int .i64 tilt, .int .i64 time, .slice A n c] ∧ ∀ j, j < k → ((rr j).n : Int) = g) (fun i _ => n - (intOf i).toNat)
     case atStart => exact ⟨0, by omega, rfl, HB.out, Hx.out, fun j hj => absurd hj (by omega)⟩
     case round =>
      obtain ⟨k, hk, rfl, hB, hx, hl⟩ := hrel
      clear HB Hx
      have HB := hide hB
      have Hx := hide hx
      clear hB hx
      by_cases hk2 : k < n
      ·
       have hk3 : (k : Int) < n := by omega
       obtain ⟨b, off, hA, hb, hc⟩ := HR.out (by omega)
       have q := (hc k hk2).1
       rw [← HB.out.cell hb] at q
       have ltb : b < wr.heap.size := Nat.lt_of_lt_of_le hb HB.out.size
       subst hA
       obtain ⟨ln, hln⟩ : ∃ q, (rr k).n = q := ⟨_, rfl⟩
       rw [hln] at q
       clear hc
       by_cases he : (ln : Int) = g
       ·
        have hd : ((ln : Int) != g) = false := by simp [he]
        have x0 := Hx.out.c 0 rfl
        have x1 := Hx.out.c 1 rfl
        have x2 := Hx.out.c 2 rfl
        have x3 := Hx.out.c 3 rfl
        have x4 := Hx.out.c 4 rfl
        have x5 := Hx.out.c 5 rfl
        have x6 := Hx.out.c 6 rfl
        have x7 := Hx.out.c 7 rfl
        have x8 := Hx.out.c 8 rfl
        have x9 := Hx.out.c 9 rfl
        have x10 := Hx.out.c 10 rfl
        have ltx := Hx.out.lt
        go_wp2
        go_roundw
        case rel => exact ⟨k + 1, by omega, by go_num, HB.out, Hx.out, fun j hj => by
         rcases Nat.lt_or_ge j k with hh | hh
         · exact hl j hh
         ·
          obtain rfl : j = k := by omega
          rw [hln]; exact he⟩
        case measure => simp [intOf] <;> omega
       ·
        have hd : ((ln : Int) != g) = true := by simp [he]
        have hr2 := Hres.out
        rw [if_pos (shapeB_no hk2 (by rw [hln]; exact he))] at hr2
        subst hr2
        clear Hres
        have x0 := Hx.out.c 0 rfl
        have x1 := Hx.out.c 1 rfl
        have x2 := Hx.out.c 2 rfl
        have x3 := Hx.out.c 3 rfl
        have x4 := Hx.out.c 4 rfl
        have x5 := Hx.out.c 5 rfl
        have x6 := Hx.out.c 6 rfl
        have x7 := Hx.out.c 7 rfl
        have x8 := Hx.out.c 8 rfl
        have x9 := Hx.out.c 9 rfl
        have x10 := Hx.out.c 10 rfl
        have ltx := Hx.out.lt
        go_wp2
        go_ret
        exact ⟨rfl, HB.out⟩
      ·
       obtain rfl : k = n := by omega
       have hk3 : ¬ ((k : Int) < k) := by omega
       have hsh := shapeB_yes (len := fun i => (rr i).n) hl
       have hres2 := Hres.out
       rw [if_neg (by rw [hsh]; simp)] at hres2
       unfold rowsE at hres2
       have Hres2 := hide hres2
       clear hres2
       clear Hres hsh
       have x0 := Hx.out.c 0 rfl
       have x1 := Hx.out.c 1 rfl
       have x2 := Hx.out.c 2 rfl
       have x3 := Hx.out.c 3 rfl
       have x4 := Hx.out.c 4 rfl
       have x5 := Hx.out.c 5 rfl
       have x6 := Hx.out.c 6 rfl
       have x7 := Hx.out.c 7 rfl
       have x8 := Hx.out.c 8 rfl
       have x9 := Hx.out.c 9 rfl
       have x10 := Hx.out.c 10 rfl
       have ltx := Hx.out.lt
       go_wp2_with fail
       go_loopw [52] (fun i wr2 => ∃ m : Nat, m ≤ k ∧ i = .int .i64 m ∧ Below w.heap.size w wr2 ∧ firstN (fun i => firstN (fun j => echE ((rr i).e j)) 0 (rr i).n) m (k - m) = res) (fun i _ => k - (intOf i).toNat)
       case atStart => exact ⟨0, by omega, rfl, HB.out, by rw [Nat.sub_zero]; exact Hres2.out⟩
       case round =>
        obtain ⟨m, hm, rfl, hB, hfm⟩ := hrel
        clear HB Hx
        have HB := hide hB
        clear hB
        by_cases hm2 : m < k
        ·
         have hm3 : (m : Int) < k := by omega
         have hm3d : decide ((m : Int) < 4 * r) = true := decide_eq_true (by omega)
         have hm3e : decide ((m : Int) < k) = true := decide_eq_true hm3
         obtain ⟨b, off, hA, hb, hc⟩ := HR.out (by omega)
         obtain ⟨q, hml, hrow⟩ := hc m hm2
         rw [← HB.out.cell hb] at q
         have ltb : b < wr.heap.size := Nat.lt_of_lt_of_le hb HB.out.size
         subst hA
         rw [firstN_step _ hm2] at hfm
         obtain ⟨A1, hA1⟩ : ∃ q, (rr m).A = q := ⟨_, rfl⟩
         obtain ⟨ln, hln⟩ : ∃ q, (rr m).n = q := ⟨_, rfl⟩
         obtain ⟨c1, hc1⟩ : ∃ q, (rr m).c = q := ⟨_, rfl⟩
         rw [hA1, hln, hc1] at q
         rw [hA1, hln] at hrow
         rw [hln] at hml hfm
         have hln2 : (ln : Int) ≤ 9223372036854775807 := by unfold maxLen at hml; omega
         have Hrow := hide hrow
         have Hfm := hide hfm
         clear hrow hfm
         clear hc
         go_wp2_with fail
         go_loopw [58] (fun i wr2 => ∃ j : Nat, j ≤ ln ∧ i = .int .i64 j ∧ Below w.heap.size w wr2 ∧ firstN (fun j => echE ((rr m).e j)) j (ln - j) = firstN (fun j => echE ((rr m).e j)) 0 ln) (fun i _ => ln - (intOf i).toNat)
         case atStart => exact ⟨0, by omega, rfl, HB.out, by rw [Nat.sub_zero]⟩
         case round =>
          obtain ⟨j, hj, rfl, hB, hfj⟩ := hrel
          clear HB q ltb
          have HB := hide hB
          clear hB
          by_cases hj2 : j < ln
          ·
           have hj3 : (j : Int) < ln := by omega
           obtain ⟨b1, off1, hB1, hb1, hc1⟩ := Hrow.out (by omega)
           rw [firstN_step _ hj2] at hfj
           obtain ⟨ee, hee⟩ : ∃ q, (rr m).e j = q := ⟨_, rfl⟩
           have hc2 := fun i v hv => hc1 j hj2 i v hv
           simp only [hee] at hc2
           rw [hee] at hfj
           have hce := fun W => CheckEcho_any ee W
           obtain ⟨ev, hev⟩ : ∃ q, echE ee = q := ⟨_, rfl⟩
           simp only [hev] at hce
           rw [hev] at hfj
           obtain ⟨k0, p1, p2, s1, s2, s3, s4, sp, r1', r2, m1, m2, t1, t2⟩ := ee
           unfold echC at hc2 hce
           have q0 := hc2 0 (.int .i64 k0) rfl
           have q1 := hc2 1 (.int .i64 p1) rfl
           have q2 := hc2 2 (.int .i64 p2) rfl
           have q3 := hc2 3 (.int .i64 s1) rfl
           have q4 := hc2 4 (.int .i64 s2) rfl
           have q5 := hc2 5 (.int .i64 s3) rfl
           have q6 := hc2 6 (.int .i64 s4) rfl
           have q7 := hc2 7 (.int .i64 sp) rfl
           have q8 := hc2 8 (.int .i64 r1') rfl
           have q9 := hc2 9 (.int .i64 r2) rfl
           have q10 := hc2 10 (.int .i64 m1) rfl
           have q11 := hc2 11 (.int .i64 m2) rfl
           have q12 := hc2 12 (.int .i64 t1) rfl
           have q13 := hc2 13 (.int .i64 t2) rfl
           rw [Nat.add_zero] at q0
           rw [← HB.out.cell hb1] at q0 q1 q2 q3 q4 q5 q6 q7 q8 q9 q10 q11 q12 q13
           have ltb1 : b1 < wr.heap.size := Nat.lt_of_lt_of_le hb1 HB.out.size
           subst hB1
           have Hce := hide hce
           clear hce
           clear hc1 hc2
           go_wp2_with fail
           clear q0 q1 q2 q3 q4 q5 q6 q7 q8 q9 q10 q11 q12 q13
           refine at_world fun W7 hW => ?_
           have LW : Later wr W7 := by rw [hW]; exact ((Below.refl _ _).alloc (Nat.le_refl _) _)
           have szW : W7.heap.size = wr.heap.size + 1 := by rw [hW]; simp
           clear hW
           replace HB := hide (onward HB.out LW)
           clear LW szW
           refine (Hce.out _).mono ?_
           rintro e w8 ⟨rfl, hb⟩
           replace HB := hide (onward HB.out hb)
           clear hb
           by_cases hv0 : ev = 0
           ·
            subst hv0
            rw [if_neg (by simp)] at hfj
            go_wp2
            go_roundw
            case rel => exact ⟨j + 1, by omega, by go_num, HB.out, hfj⟩
            case measure => simp [intOf] <;> omega
           ·
            have hvd : (ev != 0) = true := by simp [hv0]
            have hvd2 : (ev == 0) = false := by simp [hv0]
            rw [if_pos hv0] at hfj
            have hf := Hfm.out
            rw [← hfj, if_pos hv0] at hf
            subst hf
            clear hfj Hfm
            go_wp2
            go_ret
            exact ⟨rfl, HB.out⟩
          ·
           obtain rfl : j = ln := by omega
           have hj3 : ¬ ((j : Int) < j) := by omega
           rw [Nat.sub_self] at hfj
           have hf := Hfm.out
           rw [← hfj, if_neg (by simp [firstN])] at hf
           go_wp2
           go_roundw
           case rel => exact ⟨m + 1, by omega, by go_num, HB.out, hf⟩
           case measure => simp [intOf] <;> omega
        ·
         obtain rfl : m = k := by omega
         have hm3 : ¬ ((m : Int) < m) := by omega
         rw [Nat.sub_self] at hfm
         go_wp2
         go_ret
         exact ⟨by rw [← hfm]; rfl, HB.out⟩
    ·
     rw [if_pos h4]
     have hd4 : ((n : Int) != 4 * r) = true := by simp [h4]
     go_enter Try.func50, Try.ntmps50
     have HB := hide (Below.refl w.heap.size w)
     go_wp2_with fail
     refine at_world fun W hW => ?_
     have bq0 : Blk W w.heap.size 53 #[.string s, .int .i64 x, .int .i64 y, .int .i64 z, .int .i64 r, .int .i64 g, .int .i64 st, .int .i64 wd, .int .i64 tilt, .int .i64 time, .slice A n c] := by rw [hW]; exact Blk.new _ _ _
     have LW : Later w W := by rw [hW]; exact ((Below.refl _ _).alloc (Nat.le_refl _) _)
     have szW : W.heap.size = w.heap.size + 1 := by rw [hW]; simp
     clear hW
     replace HB := hide (onward HB.out LW)
     have Hx := hide bq0
     clear bq0 LW szW
     refine (HS.out _).mono ?_
     rintro e w1 ⟨rfl, hb⟩
     replace HB := hide (onward HB.out hb)
     replace Hx := hide (blk_later Hx.out hb)
     clear hb
     have x0 := Hx.out.c 0 rfl
     have x1 := Hx.out.c 1 rfl
     have x2 := Hx.out.c 2 rfl
     have x3 := Hx.out.c 3 rfl
     have x4 := Hx.out.c 4 rfl
     have x5 := Hx.out.c 5 rfl
     have x6 := Hx.out.c 6 rfl
     have x7 := Hx.out.c 7 rfl
     have x8 := Hx.out.c 8 rfl
     have x9 := Hx.out.c 9 rfl
     have x10 := Hx.out.c 10 rfl
     have ltx := Hx.out.lt
     go_wp2_with fail
     refine (pwithin_any _ _ _ _).mono ?_
     rintro e w' ⟨rfl, rfl⟩
     rw [hb1]
     go_wp2_with fail
     refine (pwithin_any _ _ _ _).mono ?_
     rintro e w' ⟨rfl, rfl⟩
     rw [hb2]
     go_wp2
     go_ret
     exact ⟨rfl, HB.out⟩
 ·
  have hd : (se == 0) = false := beq_eq_false_iff_ne.2 h0
  have hsw : sweepE se tilt time r g n rr = se := by unfold sweepE; rw [if_pos h0]
  rw [hsw]
  go_enter Try.func50, Try.ntmps50
  have HB := hide (Below.refl w.heap.size w)
  go_wp2_with fail
  refine at_world fun W hW => ?_
  have bq0 : Blk W w.heap.size 53 #[.string s, .int .i64 x, .int .i64 y, .int .i64 z, .int .i64 r, .int .i64 g, .int .i64 st, .int .i64 wd, .int .i64 tilt, .int .i64 time, .slice A n c] := by rw [hW]; exact Blk.new _ _ _
  have LW : Later w W := by rw [hW]; exact ((Below.refl _ _).alloc (Nat.le_refl _) _)
  have szW : W.heap.size = w.heap.size + 1 := by rw [hW]; simp
  clear hW
  replace HB := hide (onward HB.out LW)
  have Hx := hide bq0
  clear bq0 LW szW
  refine (HS.out _).mono ?_
  rintro e w1 ⟨rfl, hb⟩
  replace HB := hide (onward HB.out hb)
  replace Hx := hide (blk_later Hx.out hb)
  clear hb
  have x0 := Hx.out.c 0 rfl
  have x1 := Hx.out.c 1 rfl
  have x2 := Hx.out.c 2 rfl
  have x3 := Hx.out.c 3 rfl
  have x4 := Hx.out.c 4 rfl
  have x5 := Hx.out.c 5 rfl
  have x6 := Hx.out.c 6 rfl
  have x7 := Hx.out.c 7 rfl
  have x8 := Hx.out.c 8 rfl
  have x9 := Hx.out.c 9 rfl
  have x10 := Hx.out.c 10 rfl
  have ltx := Hx.out.lt
  go_wp2
  go_ret
  exact ⟨rfl, HB.out⟩
end Go.Proofs.Ytepgpihobmjbdaa
end
section
namespace Go.Proofs.Ytepgpihobmjbdaa
open Go Go.RowKit
end Go.Proofs.Ytepgpihobmjbdaa
end
