/-
  Gates, and places found: the program's contracts.
-/
import Derived.Test.YthhhecidogcmjaaSect
import Derived.Test.YthhhecidogcmjaaRanges
namespace Go.Proofs.Ythhhecidogcmjaa
open Go Go.RowKit

set_option maxHeartbeats 1000000 in
theorem border_any (s : ByteArray) (x y z r g st wd t c2 j : Int) (gs gx : Nat) (w : World) (hq : Blk w gs 33 #[.string s, .int .i64 x, .int .i64 y, .int .i64 z, .int .i64 r, .int .i64 g, .int .i64 st, .int .i64 wd]) (hx : Blk w gx 82 #[.int .i64 (262144 - t * t), .int .i64 c2, .int .i64 (262144 + t * t)])
    (h1 : 0 ≤ st) (h1' : st ≤ 2000) (h2 : 0 ≤ t) (h3 : t ≤ 256) (h4 : 0 ≤ j) (h5 : j ≤ 200) :
    Calls Try.prog 96 #[.int .i64 j, .pointer (some ⟨gs, 0, none⟩), .pointer (some ⟨gx, 0, none⟩)] w fun e w' => e = .returned (.int .i64 (bord st t j)) ∧ w = w' := by
  obtain ⟨b1, b2, b3, b4, b5, b6⟩ := bord_bd h1 h1' h2 h3 h4 h5
  obtain ⟨t1, t2⟩ := tilt_bd (show -8 ≤ t by omega) (show t ≤ 264 by omega)
  have hB : bord st t j = j * st * (262144 - t * t) / (262144 + t * t) := rfl
  have lts := hq.lt
  have ltx := hx.lt
  obtain ⟨q0, q1, q2, q3, q4, q5, q6, q7⟩ := hq.site8
  obtain ⟨x0, x1, x2⟩ := hx.c3
  have hd : (262144 + t * t) ≠ 0 := by omega
  have hd2 : 0 < 262144 + t * t := by omega
  rw [hB]
  clear hB hq hx b5 b6
  go_enter Try.func96, Try.ntmps96
  go_wp2
  go_ret
  exact ⟨rfl, rfl⟩
set_option maxHeartbeats 2000000 in
set_option maxRecDepth 100000 in
theorem gate_any (s : ByteArray) (x y z r g st wd t v : Int) (w : World) (h1 : 0 ≤ st) (h1' : st ≤ 2000) (h2 : 0 ≤ t) (h3 : t ≤ 256) (h4 : 1 ≤ g) (h5 : g ≤ 200) (v0 : 0 ≤ v) (v1 : v ≤ 1000000000000000) :
    Calls Try.prog 87 #[siteV s x y z r g st wd, .int .i64 t, .int .i64 v] w fun e w' => e = .returned (.int .i64 (gateZ st t g v)) ∧ Below w.heap.size w w' := by
  have hs := fun W => slantOf_any t W (by omega) (by omega)
  unfold vecV slantV at hs
  simp only at hs
  unfold siteV
  have hbo := fun (j : Int) (h4 : 0 ≤ j) (h5 : j ≤ 200) => bord_bd (j := j) h1 h1' h2 h3 h4 h5
  have hno := gate_no (st := st) (t := t) (g := g) (w := v) h1 h2 h3
  have hyes : ∀ j, 0 ≤ j → j < g → bord st t j * bord st t j ≤ v → v < bord st t (j + 1) * bord st t (j + 1) → gateZ st t g v = j := fun j a b c d => gate_is h1 h2 h3 a b (by unfold gateB; rw [decide_eq_true c, decide_eq_true d]; rfl)
  have hz : bord st t 0 = 0 := by unfold bord; simp
  have hcl := fun (j : Int) (gs gx : Nat) (W : World) hq hx h4 h5 => border_any s x y z r g st wd t (1024 * t) j gs gx W hq hx h1 h1' h2 h3 h4 h5
  generalize hG : gateZ st t g v = res at *
  clear hG
  have Hs := hide hs
  have Hbo := hide hbo
  have Hno := hide hno
  have Hyes := hide hyes
  have Hz := hide hz
  have Hcl := hide hcl
  clear hs hbo hno hyes hz hcl
  go_enter Try.func87, Try.ntmps87
  have HB := hide (Below.refl w.heap.size w)
  go_wp2_with fail
  refine at_world fun W hW => ?_
  have bq0 : Blk W w.heap.size 33 #[.string s, .int .i64 x, .int .i64 y, .int .i64 z, .int .i64 r, .int .i64 g, .int .i64 st, .int .i64 wd] := by rw [hW]; exact Blk.new _ _ _
  have LW : Later w W := by rw [hW]; exact ((Below.refl _ _).alloc (Nat.le_refl _) _)
  have szW : W.heap.size = w.heap.size + 1 := by rw [hW]; simp
  clear hW
  replace HB := hide (onward HB.out LW)
  have Hq := hide bq0
  clear bq0 LW szW
  refine (Hs.out _).mono ?_
  rintro e w1 ⟨rfl, hb⟩
  replace HB := hide (onward HB.out hb)
  replace Hq := hide (blk_later Hq.out hb)
  clear hb
  obtain ⟨q0, q1, q2, q3, q4, q5, q6, q7⟩ := Hq.out.site8
  have lts := Hq.out.lt
  go_wp2_with fail
  clear q0 q1 q2 q3 q4 q5 q6 q7 lts
  refine at_world fun W1 hW => ?_
  have bq0 : Blk W1 w1.heap.size 82 #[.int .i64 (262144 - t * t), .int .i64 (1024 * t), .int .i64 (262144 + t * t)] := by rw [hW]; exact Blk.new _ _ _
  have LW : Later w1 W1 := by rw [hW]; exact ((Below.refl _ _).alloc (Nat.le_refl _) _)
  have szW : W1.heap.size = w1.heap.size + 1 := by rw [hW]; simp
  clear hW
  replace HB := hide (onward HB.out LW)
  replace Hq := hide (blk_later Hq.out LW)
  have Hx := hide bq0
  clear bq0 LW szW
  refine (Hcl.out g _ _ _ Hq.out Hx.out (by omega) (by omega)).mono ?_
  rintro e w' ⟨rfl, rfl⟩
  obtain ⟨-, -, -, -, bg0, bg1⟩ := Hbo.out g (by omega) (by omega)
  have sqg : 0 ≤ bord st t g * bord st t g ∧ bord st t g * bord st t g ≤ 160000000000 := by
    have := mul_bdB bg0 bg1 bg0 bg1; omega
  have hno := Hno.out
  generalize hbg : bord st t g = bg at *
  have Hbg := hide hbg
  clear hbg
  by_cases hw : bg * bg ≤ v
  · have hr := hno hw
    have Hr := hide hr
    clear hr
    clear hno
    go_wp2
    go_ret
    exact ⟨by rw [Hr.out]; rfl, HB.out⟩
  · clear hno
    go_wp2_with fail
    obtain ⟨q0, q1, q2, q3, q4, q5, q6, q7⟩ := Hq.out.site8
    have lts := Hq.out.lt
    apply wp_region_L (w0 := W1) [[], [], [], []] [true, true, true, true] [] (fun ixq y => match ixq with  | _ => undef) (fun ixq x F wq => match ixq with  | _ => True) (fun a x => a) (by kernel_rfl) (by kernel_rfl) (fun _ => rfl) [] (by kernel_rfl)
    · intro x D hD
      have hne := hD.some
      have k5 := liftB hD q5 (by first | assumption | omega)
      simp only [takeOps, Act.put, List.setIfInBounds_toArray, List.set_cons_succ, List.set_cons_zero]
      repeat (go_big_quiet_step (fail))
      exact wpQuiet_nil rfl
    · exact fun _ h => absurd h (by simp)
    · exact trivial
    · exact trivial
    intro xx w3 F hL hlv1
    clear hlv1
    clear q0 q1 q2 q3 q4 q5 q6 q7 lts
    replace HB := hide (onward HB.out hL)
    replace Hq := hide (blk_later Hq.out hL)
    replace Hx := hide (blk_later Hx.out hL)
    clear hL
    go_wp2_with fail
    go_loop [10, 11] (fun lo hi => ∃ a b : Int, 0 ≤ a ∧ a < b ∧ b ≤ g ∧ lo = .int .i64 a ∧ hi = .int .i64 b ∧ bord st t a * bord st t a ≤ v ∧ v < bord st t b * bord st t b) (fun lo hi => (intOf hi - intOf lo).toNat)
    case atStart => exact ⟨0, g, by omega, by omega, by omega, rfl, rfl, by rw [Hz.out]; simpa using v0, by rw [Hbg.out]; omega⟩
    case round =>
      obtain ⟨a, b, a0, ab, bn, rfl, rfl, ha, hb⟩ := hrel
      have Ha := hide ha
      have Hb := hide hb
      clear ha hb
      by_cases hlt : 1 < b - a
      · obtain ⟨m, hm⟩ : ∃ m : Int, (a + b) / 2 = m := ⟨_, rfl⟩
        have m0 : a < m := by omega
        have m1 : m < b := by omega
        obtain ⟨-, -, -, -, bm0, bm1⟩ := Hbo.out m (by omega) (by omega)
        have sqm : 0 ≤ bord st t m * bord st t m ∧ bord st t m * bord st t m ≤ 160000000000 := by
          have := mul_bdB bm0 bm1 bm0 bm1; omega
        have hc := fun W hq hx => Hcl.out m w.heap.size w1.heap.size W hq hx (by omega) (by omega)
        generalize hbm : bord st t m = bm at *
        have Hbm := hide hbm
        clear hbm
        have cc := hc w3 Hq.out Hx.out
        have CC := hide cc
        clear cc
        clear hc
        by_cases hle : bm * bm ≤ v
        · go_wp2_with (go_at_call 96; refine CC.out.mono ?_; rintro e w' ⟨rfl, rfl⟩)
          go_round
          case rel => exact ⟨m, b, by omega, by omega, by omega, rfl, rfl, by rw [Hbm.out]; exact hle, Hb.out⟩
          case measure => simp [intOf]; omega
        · go_wp2_with (go_at_call 96; refine CC.out.mono ?_; rintro e w' ⟨rfl, rfl⟩)
          go_round
          case rel => exact ⟨a, m, by omega, by omega, by omega, rfl, rfl, Ha.out, by rw [Hbm.out]; omega⟩
          case measure => simp [intOf]; omega
      · obtain rfl : b = a + 1 := by omega
        have hr := Hyes.out a a0 (by omega) Ha.out Hb.out
        have Hr := hide hr
        clear hr
        go_wp2
        go_ret
        exact ⟨by rw [Hr.out]; rfl, HB.out⟩
end Go.Proofs.Ythhhecidogcmjaa
