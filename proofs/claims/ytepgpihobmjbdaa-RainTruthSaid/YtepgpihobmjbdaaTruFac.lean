/-
  Factors: rain's contract.
  Factors: what rain's Factor answers (in a seat without the reference).
-/
import Derived.Test.YtepgpihobmjbdaaBeam2Math
import Derived.Test.YtepgpihobmjbdaaRtRrGauge
import Derived.Deep.CutRange
set_option linter.unusedSimpArgs false
set_option linter.unusedVariables false
section
namespace Go.Proofs.Ytepgpihobmjbdaa
open Go.RowKit
theorem blk_of {w : World} {g : Nat} {t : TypeId} {cs cs' : Array Value} (h : Blk w g t cs) (e : cs = cs') : Blk w g t cs' := e ▸ h
theorem arr9 {f1 f2 f3 g1 g2 g3 : Bool} {p0 p1 q0 q1 r0 r1 : Int} (h1 : f1 = g1) (h2 : f2 = g2) (h3 : f3 = g3) : (#[.bool f1, .int .i64 p0, .int .i64 p1, .bool f2, .int .i64 q0, .int .i64 q1, .bool f3, .int .i64 r0, .int .i64 r1] : Array Value) = #[.bool g1, .int .i64 p0, .int .i64 p1, .bool g2, .int .i64 q0, .int .i64 q1, .bool g3, .int .i64 r0, .int .i64 r1] := by subst h1 h2 h3; rfl
def facK (f1 f2 f3 : Bool) (inn above : Int × Int) : Nat → Int × Int
 | 0 => (100000, 0)
 | 1 => meetF f1 (1000, 1000) (100000, 0)
 | 2 => meetF f2 inn (meetF f1 (1000, 1000) (100000, 0))
 | _ => meetF f3 above (meetF f2 inn (meetF f1 (1000, 1000) (100000, 0)))
set_option maxHeartbeats 2000000 in
set_option maxRecDepth 100000 in
theorem factor_any (A : Option Addr) (n c : Nat) (A' : Option Addr) (n' c' : Nat) (a0 a1 b0 b1 c0 c1 x y : Int) (w : World) :
  Calls Try.prog 39 #[.agg #[.slice A n c, .slice A' n' c', .int .i64 a0, .int .i64 a1, .int .i64 b0, .int .i64 b1, .int .i64 c0, .int .i64 c1], .agg #[.int .i64 x, .int .i64 y]] w fun e w' => e = .returned (spanV (facS (a0, a1) (b0, b1) (c0, c1) (x, y))) ∧ Below w.heap.size w w' := by
 have hF : facS (a0, a1) (b0, b1) (c0, c1) (x, y) = facK (met1 (a0, a1) (x, y)) (met2 (a0, a1) (x, y)) (met3 (a0, a1) (x, y)) (b0, b1) (c0, c1) 3 := rfl
 rw [hF]
 clear hF
 generalize e1 : met1 (a0, a1) (x, y) = f1
 generalize e2 : met2 (a0, a1) (x, y) = f2
 generalize e3 : met3 (a0, a1) (x, y) = f3
 have E1 := hide e1
 have E2 := hide e2
 have E3 := hide e3
 clear e1 e2 e3
 go_enter Try.func39, Try.ntmps39
 go_upto_region 2 with fail
 go_cut [42, 43, 44] from 9 to 44 (fun s t u wx => s = .slice (some ⟨w.heap.size + 4, 0, none⟩) 3 3 ∧ t = .int .i64 3 ∧ u = .int .i64 0 ∧ Below w.heap.size w wx ∧ Blk wx (w.heap.size + 2) 24 #[.int .i64 0, .int .i64 0] ∧ Blk wx (w.heap.size + 3) 24 #[.int .i64 100000, .int .i64 0] ∧ Blk wx (w.heap.size + 4) 118 #[.bool f1, .int .i64 1000, .int .i64 1000, .bool f2, .int .i64 b0, .int .i64 b1, .bool f3, .int .i64 c0, .int .i64 c1])
 case first =>
  go_wp2
  all_goals go_meet
  all_goals
   refine ⟨rfl, rfl, rfl, (((((Below.refl _ _).alloc (Nat.le_refl _) _).alloc (by simp) _).alloc (by simp <;> omega) _).alloc (by simp <;> omega) _).alloc (by simp <;> omega) _, ((blk_new_at (by simp)).alloc _).alloc _, (blk_new_at (by simp)).alloc _, ?_⟩
   refine blk_of (blk_new_at (by simp)) (arr9 ?_ ?_ ?_)
   all_goals first | rw [← E1.out] | rw [← E2.out] | rw [← E3.out]
   all_goals simp only [met1, met2, met3]
   all_goals first | rfl | exact (decide_eq_true (by omega)).symm | exact (decide_eq_false (by omega)).symm | exact decide_eq_decide.2 (by omega)
 case rest =>
  obtain ⟨rfl, rfl, rfl, hbw, hb2, hb3, hb4⟩ := hcut
  have Hbw := hide hbw
  have Hb2 := hide hb2
  have Hb3 := hide hb3
  have Hb4 := hide hb4
  clear hbw hb2 hb3 hb4
  go_wp2_with fail
  go_loopw [44] (fun i wr => ∃ k : Nat, k ≤ 3 ∧ i = .int .i64 k ∧ Below w.heap.size w wr ∧ Blk wr (w.heap.size + 2) 24 #[.int .i64 0, .int .i64 0] ∧ Blk wr (w.heap.size + 3) 24 #[.int .i64 (facK f1 f2 f3 (b0, b1) (c0, c1) k).1, .int .i64 (facK f1 f2 f3 (b0, b1) (c0, c1) k).2] ∧ Blk wr (w.heap.size + 4) 118 #[.bool f1, .int .i64 1000, .int .i64 1000, .bool f2, .int .i64 b0, .int .i64 b1, .bool f3, .int .i64 c0, .int .i64 c1]) (fun i _ => 3 - (intOf i).toNat)
  case atStart => exact ⟨0, by omega, rfl, Hbw.out, Hb2.out, Hb3.out, Hb4.out⟩
  case round =>
   obtain ⟨k, hk, rfl, hb, c2, c3, c4⟩ := hrel
   have hk' : k = 0 ∨ k = 1 ∨ k = 2 ∨ k = 3 := by omega
   clear Hbw Hb2 Hb3 Hb4
   rcases hk' with rfl | rfl | rfl | rfl
   ·
    have hs : facK f1 f2 f3 (b0, b1) (c0, c1) 1 = meetF f1 (1000, 1000) (facK f1 f2 f3 (b0, b1) (c0, c1) 0) := rfl
    generalize facK f1 f2 f3 (b0, b1) (c0, c1) 0 = o at *
    obtain ⟨o1, o2⟩ := o
    obtain ⟨p0, p1⟩ := c3.c2
    have g0 := c3.frozen 0
    have g1 := c3.frozen 1
    have q0 := c4.c 0 rfl
    have q1 := c4.c 1 rfl
    have q2 := c4.c 2 rfl
    simp only at p0 p1
    have lt2 := c2.lt
    have lt3 := c3.lt
    have lt4 := c4.lt
    have HB := hide hb
    have C2 := hide c2
    have C3 := hide c3
    have C4 := hide c4
    have HS := hide hs
    clear hb c2 c3 c4 hs
    cases f1
    ·
     go_wp2
     go_roundw
     case rel =>
      exact ⟨1, by omega, by go_num, HB.out.alloc HB.out.size _, C2.out.alloc _, blk_of (C3.out.alloc _) (by rw [HS.out]; rfl), C4.out.alloc _⟩
     case measure => simp [intOf]
    ·
     go_wp2
     go_roundw
     case rel =>
      refine ⟨1, by omega, by go_num, ((HB.out.setCell (by simp; omega) _).setCell (by simp; omega) _).alloc (by have := HB.out.size; simp; omega) _, ((C2.out.far (by show w.heap.size + 2 ≠ w.heap.size + 1 + 1 + 1; omega) _).far (by show w.heap.size + 2 ≠ w.heap.size + 1 + 1 + 1; omega) _).alloc _, ?_, ((C4.out.far (by show w.heap.size + 4 ≠ w.heap.size + 1 + 1 + 1; omega) _).far (by show w.heap.size + 4 ≠ w.heap.size + 1 + 1 + 1; omega) _).alloc _⟩
      exact blk_of (((C3.out.set_ 0 _).set_ 1 _).alloc _) (by rw [HS.out]; simp [meetF]; omega)
     case measure => simp [intOf]
   ·
    have hs : facK f1 f2 f3 (b0, b1) (c0, c1) 2 = meetF f2 (b0, b1) (facK f1 f2 f3 (b0, b1) (c0, c1) 1) := rfl
    generalize facK f1 f2 f3 (b0, b1) (c0, c1) 1 = o at *
    obtain ⟨o1, o2⟩ := o
    obtain ⟨p0, p1⟩ := c3.c2
    have g0 := c3.frozen 0
    have g1 := c3.frozen 1
    have q0 := c4.c 3 rfl
    have q1 := c4.c 4 rfl
    have q2 := c4.c 5 rfl
    simp only at p0 p1
    have lt2 := c2.lt
    have lt3 := c3.lt
    have lt4 := c4.lt
    have HB := hide hb
    have C2 := hide c2
    have C3 := hide c3
    have C4 := hide c4
    have HS := hide hs
    clear hb c2 c3 c4 hs
    cases f2
    ·
     go_wp2
     go_roundw
     case rel =>
      exact ⟨2, by omega, by go_num, HB.out.alloc HB.out.size _, C2.out.alloc _, blk_of (C3.out.alloc _) (by rw [HS.out]; rfl), C4.out.alloc _⟩
     case measure => simp [intOf]
    ·
     go_wp2
     go_roundw
     case rel =>
      refine ⟨2, by omega, by go_num, ((HB.out.setCell (by simp; omega) _).setCell (by simp; omega) _).alloc (by have := HB.out.size; simp; omega) _, ((C2.out.far (by show w.heap.size + 2 ≠ w.heap.size + 1 + 1 + 1; omega) _).far (by show w.heap.size + 2 ≠ w.heap.size + 1 + 1 + 1; omega) _).alloc _, ?_, ((C4.out.far (by show w.heap.size + 4 ≠ w.heap.size + 1 + 1 + 1; omega) _).far (by show w.heap.size + 4 ≠ w.heap.size + 1 + 1 + 1; omega) _).alloc _⟩
      exact blk_of (((C3.out.set_ 0 _).set_ 1 _).alloc _) (by rw [HS.out]; simp [meetF]; omega)
     case measure => simp [intOf]
   ·
    have hs : facK f1 f2 f3 (b0, b1) (c0, c1) 3 = meetF f3 (c0, c1) (facK f1 f2 f3 (b0, b1) (c0, c1) 2) := rfl
    generalize facK f1 f2 f3 (b0, b1) (c0, c1) 2 = o at *
    obtain ⟨o1, o2⟩ := o
    obtain ⟨p0, p1⟩ := c3.c2
    have g0 := c3.frozen 0
    have g1 := c3.frozen 1
    have q0 := c4.c 6 rfl
    have q1 := c4.c 7 rfl
    have q2 := c4.c 8 rfl
    simp only at p0 p1
    have lt2 := c2.lt
    have lt3 := c3.lt
    have lt4 := c4.lt
    have HB := hide hb
    have C2 := hide c2
    have C3 := hide c3
    have C4 := hide c4
    have HS := hide hs
    clear hb c2 c3 c4 hs
    cases f3
    ·
     go_wp2
     go_roundw
     case rel =>
      exact ⟨3, by omega, by go_num, HB.out.alloc HB.out.size _, C2.out.alloc _, blk_of (C3.out.alloc _) (by rw [HS.out]; rfl), C4.out.alloc _⟩
     case measure => simp [intOf]
    ·
     go_wp2
     go_roundw
     case rel =>
      refine ⟨3, by omega, by go_num, ((HB.out.setCell (by simp; omega) _).setCell (by simp; omega) _).alloc (by have := HB.out.size; simp; omega) _, ((C2.out.far (by show w.heap.size + 2 ≠ w.heap.size + 1 + 1 + 1; omega) _).far (by show w.heap.size + 2 ≠ w.heap.size + 1 + 1 + 1; omega) _).alloc _, ?_, ((C4.out.far (by show w.heap.size + 4 ≠ w.heap.size + 1 + 1 + 1; omega) _).far (by show w.heap.size + 4 ≠ w.heap.size + 1 + 1 + 1; omega) _).alloc _⟩
      exact blk_of (((C3.out.set_ 0 _).set_ 1 _).alloc _) (by rw [HS.out]; simp [meetF]; omega)
     case measure => simp [intOf]
   ·
    generalize ho : facK f1 f2 f3 (b0, b1) (c0, c1) 3 = o at *
    obtain ⟨o1, o2⟩ := o
    have HO := hide ho
    clear ho
    obtain ⟨p0, p1⟩ := c3.c2
    obtain ⟨r0, r1⟩ := c2.c2
    have g0 := c2.frozen 0
    have g1 := c2.frozen 1
    simp only at p0 p1
    have lt2 := c2.lt
    have lt3 := c3.lt
    have HB := hide hb
    clear hb c2 c3 c4
    go_wp2
    refine bodyPost_ret (v := spanV (o1, o2)) (by simp [spanV, results, Try.results39, go_sem, r0, r1]) rfl ⟨by rw [HO.out], ?_⟩
    exact (HB.out.setCell (by simp; omega) _).setCell (by simp; omega) _
end Go.Proofs.Ytepgpihobmjbdaa
end
section
namespace Go.Proofs.Ytepgpihobmjbdaa
open Go.RowKit
theorem chkModel_ok {l m : List (Int × Int)} {a0 a1 b0 b1 c0 c1 : Int} (h : chkModel l m (a0, a1) (b0, b1) (c0, c1) = 0) : a0 ≤ a1 ∧ b0 ≤ 100000 ∧ 0 ≤ b1 ∧ c0 ≤ 100000 ∧ 0 ≤ c1 := by
 unfold chkModel at h
 split at h
 · contradiction
 ·
  split at h
  · contradiction
  ·
   split at h
   · cases h
   ·
    rename_i hh
    simp [ins] at hh
    omega
set_option maxHeartbeats 2000000 in
set_option maxRecDepth 100000 in
theorem Factor_any (A : Option Addr) (n c : Nat) (l : List (Int × Int)) (A' : Option Addr) (n' c' : Nat) (m : List (Int × Int)) (a0 a1 b0 b1 c0 c1 x y : Int) (w : World) (hn : l.length = n) (hmax : n ≤ 9223372036854775807) (hn' : m.length = n') (hmax' : n' ≤ 9223372036854775807)
  (hl : Ints w w.heap.size .i64 A (flat2 l)) (hm : Ints w w.heap.size .i64 A' (flat2 m)) :
  Calls Try.prog 13 #[mdlV A n c A' n' c' (a0, a1) (b0, b1) (c0, c1), .agg #[.int .i64 x, .int .i64 y]] w fun e w' => e = .returned (spanE (facR l m (a0, a1) (b0, b1) (c0, c1) (x, y))) ∧ Below w.heap.size w w' := by
 have hk0 := @chkModel_ok l m a0 a1 b0 b1 c0 c1
 have hc := fun W (h : Below w.heap.size w W) => CheckModel_any A n c l A' n' c' m (a0, a1) (b0, b1) (c0, c1) W hn hmax hn' hmax' ((hl.below h).more h.size) ((hm.below h).more h.size)
 have hR : facR l m (a0, a1) (b0, b1) (c0, c1) (x, y) = if chkModel l m (a0, a1) (b0, b1) (c0, c1) ≠ 0 then ((0, 0), chkModel l m (a0, a1) (b0, b1) (c0, c1)) else if y < x then ((0, 0), 3) else (facS (a0, a1) (b0, b1) (c0, c1) (x, y), 0) := rfl
 generalize facR l m (a0, a1) (b0, b1) (c0, c1) (x, y) = r at *
 generalize chkModel l m (a0, a1) (b0, b1) (c0, c1) = k at *
 have HC := hide hc
 clear hc hl hm hn hn' hmax hmax'
 unfold mdlV at *
 simp only at *
 have HK0 := hide hk0
 have HR := hide hR
 clear hk0 hR
 go_enter Try.func13, Try.ntmps13
 go_wp2_with fail
 refine at_world fun W hW => ?_
 have BW : Below w.heap.size w W := by rw [hW]; exact ((Below.refl _ _).alloc (Nat.le_refl _) _ |>.alloc (by simp) _).alloc (by simp; omega) _
 have m1 : Blk W w.heap.size 26 #[.slice A n c, .slice A' n' c', .int .i64 a0, .int .i64 a1, .int .i64 b0, .int .i64 b1, .int .i64 c0, .int .i64 c1] := by rw [hW]; exact ((Blk.new _ _ _).alloc _).alloc _
 have d1 : Blk W (w.heap.size + 1) 24 #[.int .i64 x, .int .i64 y] := by rw [hW]; exact (blk_new_at (by simp)).alloc _
 have r1 : Blk W (w.heap.size + 2) 24 #[.int .i64 0, .int .i64 0] := by rw [hW]; exact blk_new_at (by simp)
 clear hW
 refine (HC.out W BW).mono ?_
 rintro e w1 ⟨rfl, hb1⟩
 have M2 := hide (m1.below hb1 m1.lt)
 have D2 := hide (d1.below hb1 d1.lt)
 have R2 := hide (r1.below hb1 r1.lt)
 have HB := hide (onward BW hb1)
 clear BW m1 d1 r1 hb1 HC
 obtain ⟨x0, x1, x2, x3, x4, x5, x6, x7⟩ := M2.out.c8
 obtain ⟨y0, y1⟩ := D2.out.c2
 obtain ⟨e0, e1⟩ := R2.out.c2
 have f0 := R2.out.frozen 0
 have f1 := R2.out.frozen 1
 have ltR := R2.out.lt
 by_cases g : k = 0
 ·
  subst g
  by_cases h : y < x
  ·
   have hr := HR.out
   rw [if_neg (by simp), if_pos h] at hr
   have HR2 := hide hr
   clear hr
   go_wp2
   refine bodyPost_ret (v := spanE r) (by rw [HR2.out]; simp [spanE, results, Try.results13, go_sem, e0, e1]) rfl ⟨rfl, ?_⟩
   exact (HB.out.setCell (by simp; omega) _).setCell (by simp; omega) _
  ·
   have hr := HR.out
   rw [if_neg (by simp), if_neg h] at hr
   have HR2 := hide hr
   have HX := hide (show x ≤ y by omega)
   have HK := hide (HK0.out rfl)
   clear hr
   go_wp2_with fail
   refine ((factor_any A n c A' n' c' a0 a1 b0 b1 c0 c1 x y _)).mono ?_
   rintro e w2 ⟨rfl, hb2⟩
   have r3 := R2.out.below hb2 R2.out.lt
   have HB2 := hide (onward HB.out hb2)
   clear hb2 x0 x1 x2 x3 x4 x5 x6 x7 y0 y1 e0 e1 f0 f1 ltR
   obtain ⟨e0, e1⟩ := r3.c2
   have f0 := r3.frozen 0
   have f1 := r3.frozen 1
   have ltR := r3.lt
   clear r3
   generalize facS (a0, a1) (b0, b1) (c0, c1) (x, y) = s at *
   obtain ⟨s1, s2⟩ := s
   unfold spanV
   go_wp2
   refine bodyPost_ret (v := spanE r) (by rw [HR2.out]; simp [spanE, results, Try.results13, go_sem, e0, e1]) rfl ⟨rfl, ?_⟩
   exact (HB2.out.setCell (by simp; omega) _).setCell (by simp; omega) _
 ·
  have g1 : (k != 0) = true := by simpa [bne] using g
  have hr := HR.out
  rw [if_pos g] at hr
  have HR2 := hide hr
  clear hr g
  go_wp2
  refine bodyPost_ret (v := spanE r) (by rw [HR2.out]; simp [spanE, results, Try.results13, go_sem, e0, e1]) rfl ⟨rfl, ?_⟩
  exact (HB.out.setCell (by simp; omega) _).setCell (by simp; omega) _
end Go.Proofs.Ytepgpihobmjbdaa
end
