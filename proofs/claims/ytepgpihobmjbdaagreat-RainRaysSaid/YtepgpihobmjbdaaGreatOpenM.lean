/-
  What is examined of rays and maps: the law's few.
  The law's small functions: whether two lists of spans are equal, a span with one number, the tables of the examples.
  Gauges: rain's contracts and the reference's.
  works: a table, losses and a gauge are there: it returns true.
  The law RainRays returns true: for every model, sweep, earth, ground and ray.
  The arguments of the laws about rain, opened: spans, points, models (of a seat without readings).
-/
import Derived.Test.YtepgpihobmjbdaaGreatRegM
import Derived.Test.YtepgpihobmjbdaaGreatDivs
import Derived.Test.YtepgpihobmjbdaaGreatSearch
import Derived.Test.YtepgpihobmjbdaaGreatRegionStep
import Derived.BigQuiet
import Derived.Test.YtepgpihobmjbdaaGreatRrNext
import Derived.Test.YtepgpihobmjbdaaGreatRayRef
import Derived.Test.YtepgpihobmjbdaaGreatSectorMath
import Derived.Test.YtepgpihobmjbdaaGreatRegJ
import Derived.Test.YtepgpihobmjbdaaGreatProg
import Derived.Test.YtepgpihobmjbdaaGreatSweep
set_option linter.unusedSimpArgs false
set_option linter.unusedVariables false
namespace Go.Proofs.YtepgpihobmjbdaaGreat
open Go.RowKit

def fewH (nl nr n ss ng : Nat) (r g wi hi : Int) : Bool := decide (nl ≤ 40 ∧ nr ≤ 40 ∧ n ≤ 20 ∧ r ≤ 4 ∧ g ≤ 20 ∧ ss ≤ 20 ∧ ng ≤ 101 ∧ wi ≤ 10 ∧ hi ≤ 10)
def fewB (nl nr n ss ng : Nat) (r g wi hi : Int) (rr : Nat → Ray1) : Bool := fewH nl nr n ss ng r g wi hi && (List.range n).all fun i => decide ((rr i).n ≤ 21)
theorem few_ok {nl nr n ss ng : Nat} {r g wi hi : Int} {rr : Nat → Ray1} (h : fewB nl nr n ss ng r g wi hi rr = true) : nl ≤ 40 ∧ nr ≤ 40 ∧ n ≤ 20 ∧ r ≤ 4 ∧ g ≤ 20 ∧ ss ≤ 20 ∧ ng ≤ 101 ∧ wi ≤ 10 ∧ hi ≤ 10 := by
  unfold fewB fewH at h
  rw [Bool.and_eq_true] at h
  exact of_decide_eq_true h.1

set_option maxHeartbeats 4000000 in
set_option maxRecDepth 100000 in
theorem few_any (s : ByteArray) (sx sy z r g st wd tilt time gx gy gs wi hi : Int) (a0 a1 b0 b1 c0 c1 : Int) (n ng : Nat) (rr : Nat → Ray1) (A : Option Addr) (nl cl : Nat) (Ar : Option Addr) (nr cr : Nat) (As : Option Addr) (cs : Nat) (Ag : Option Addr) (cg : Nat) (w : World) (hrs : RaysAt w w.heap.size As n rr) :
    Calls Tryz.prog 5 #[.agg (mdlC A nl cl Ar nr cr a0 a1 b0 b1 c0 c1), .agg (sweepC s sx sy z r g st wd tilt time As n cs), .agg (fldC gx gy gs wi hi Ag ng cg)] w fun e w' => e = .returned (.bool (fewB nl nr n s.size ng r g wi hi rr)) ∧ Below w.heap.size w w' := by
  unfold mdlC sweepC fldC
  have Hrs := hide hrs
  clear hrs
  by_cases g1 : (40 : Int) < nl
  · rw [show fewB nl nr n s.size ng r g wi hi rr = false by unfold fewB; rw [show fewH nl nr n s.size ng r g wi hi = false from decide_eq_false (by omega)]; rfl]
    go_enter Tryz.func5, Tryz.ntmps5
    have HB := hide (Below.refl w.heap.size w)
    go_wp2
    go_ret
    refine ⟨rfl, ?_⟩
    repeat (first | exact (Below.refl _ _) | (refine Below.setCell ?_ (by first | omega | (simp; done) | (simp; omega)) _) | (refine Below.alloc ?_ (by first | omega | (simp; done) | (simp; omega)) _) | (refine below_drewN ?_ _))
  by_cases g2 : (40 : Int) < nr
  · rw [show fewB nl nr n s.size ng r g wi hi rr = false by unfold fewB; rw [show fewH nl nr n s.size ng r g wi hi = false from decide_eq_false (by omega)]; rfl]
    go_enter Tryz.func5, Tryz.ntmps5
    have HB := hide (Below.refl w.heap.size w)
    go_wp2
    go_ret
    refine ⟨rfl, ?_⟩
    repeat (first | exact (Below.refl _ _) | (refine Below.setCell ?_ (by first | omega | (simp; done) | (simp; omega)) _) | (refine Below.alloc ?_ (by first | omega | (simp; done) | (simp; omega)) _) | (refine below_drewN ?_ _))
  by_cases g3 : (20 : Int) < n
  · rw [show fewB nl nr n s.size ng r g wi hi rr = false by unfold fewB; rw [show fewH nl nr n s.size ng r g wi hi = false from decide_eq_false (by omega)]; rfl]
    go_enter Tryz.func5, Tryz.ntmps5
    have HB := hide (Below.refl w.heap.size w)
    go_wp2
    go_ret
    refine ⟨rfl, ?_⟩
    repeat (first | exact (Below.refl _ _) | (refine Below.setCell ?_ (by first | omega | (simp; done) | (simp; omega)) _) | (refine Below.alloc ?_ (by first | omega | (simp; done) | (simp; omega)) _) | (refine below_drewN ?_ _))
  by_cases g4 : (4 : Int) < r
  · rw [show fewB nl nr n s.size ng r g wi hi rr = false by unfold fewB; rw [show fewH nl nr n s.size ng r g wi hi = false from decide_eq_false (by omega)]; rfl]
    go_enter Tryz.func5, Tryz.ntmps5
    have HB := hide (Below.refl w.heap.size w)
    go_wp2
    go_ret
    refine ⟨rfl, ?_⟩
    repeat (first | exact (Below.refl _ _) | (refine Below.setCell ?_ (by first | omega | (simp; done) | (simp; omega)) _) | (refine Below.alloc ?_ (by first | omega | (simp; done) | (simp; omega)) _) | (refine below_drewN ?_ _))
  by_cases g5 : (20 : Int) < g
  · rw [show fewB nl nr n s.size ng r g wi hi rr = false by unfold fewB; rw [show fewH nl nr n s.size ng r g wi hi = false from decide_eq_false (by omega)]; rfl]
    go_enter Tryz.func5, Tryz.ntmps5
    have HB := hide (Below.refl w.heap.size w)
    go_wp2
    go_ret
    refine ⟨rfl, ?_⟩
    repeat (first | exact (Below.refl _ _) | (refine Below.setCell ?_ (by first | omega | (simp; done) | (simp; omega)) _) | (refine Below.alloc ?_ (by first | omega | (simp; done) | (simp; omega)) _) | (refine below_drewN ?_ _))
  by_cases g6 : (20 : Int) < s.size
  · rw [show fewB nl nr n s.size ng r g wi hi rr = false by unfold fewB; rw [show fewH nl nr n s.size ng r g wi hi = false from decide_eq_false (by omega)]; rfl]
    go_enter Tryz.func5, Tryz.ntmps5
    have HB := hide (Below.refl w.heap.size w)
    go_wp2
    go_ret
    refine ⟨rfl, ?_⟩
    repeat (first | exact (Below.refl _ _) | (refine Below.setCell ?_ (by first | omega | (simp; done) | (simp; omega)) _) | (refine Below.alloc ?_ (by first | omega | (simp; done) | (simp; omega)) _) | (refine below_drewN ?_ _))
  by_cases g7 : (101 : Int) < ng
  · rw [show fewB nl nr n s.size ng r g wi hi rr = false by unfold fewB; rw [show fewH nl nr n s.size ng r g wi hi = false from decide_eq_false (by omega)]; rfl]
    go_enter Tryz.func5, Tryz.ntmps5
    have HB := hide (Below.refl w.heap.size w)
    go_wp2
    go_ret
    refine ⟨rfl, ?_⟩
    repeat (first | exact (Below.refl _ _) | (refine Below.setCell ?_ (by first | omega | (simp; done) | (simp; omega)) _) | (refine Below.alloc ?_ (by first | omega | (simp; done) | (simp; omega)) _) | (refine below_drewN ?_ _))
  by_cases g8 : (10 : Int) < wi
  · rw [show fewB nl nr n s.size ng r g wi hi rr = false by unfold fewB; rw [show fewH nl nr n s.size ng r g wi hi = false from decide_eq_false (by omega)]; rfl]
    go_enter Tryz.func5, Tryz.ntmps5
    have HB := hide (Below.refl w.heap.size w)
    go_wp2
    go_ret
    refine ⟨rfl, ?_⟩
    repeat (first | exact (Below.refl _ _) | (refine Below.setCell ?_ (by first | omega | (simp; done) | (simp; omega)) _) | (refine Below.alloc ?_ (by first | omega | (simp; done) | (simp; omega)) _) | (refine below_drewN ?_ _))
  by_cases g9 : (10 : Int) < hi
  · rw [show fewB nl nr n s.size ng r g wi hi rr = false by unfold fewB; rw [show fewH nl nr n s.size ng r g wi hi = false from decide_eq_false (by omega)]; rfl]
    go_enter Tryz.func5, Tryz.ntmps5
    have HB := hide (Below.refl w.heap.size w)
    go_wp2
    go_ret
    refine ⟨rfl, ?_⟩
    repeat (first | exact (Below.refl _ _) | (refine Below.setCell ?_ (by first | omega | (simp; done) | (simp; omega)) _) | (refine Below.alloc ?_ (by first | omega | (simp; done) | (simp; omega)) _) | (refine below_drewN ?_ _))
  have hH : fewB nl nr n s.size ng r g wi hi rr = (List.range n).all fun i => decide ((rr i).n ≤ 21) := by
    unfold fewB
    rw [show fewH nl nr n s.size ng r g wi hi = true from decide_eq_true (by omega)]
    rfl
  rw [hH]
  clear hH
  obtain ⟨fb, hfb⟩ : ∃ q, ((List.range n).all fun i => decide ((rr i).n ≤ 21)) = q := ⟨_, rfl⟩
  rw [hfb]
  have Hfb := hide hfb
  clear hfb
  go_enter Tryz.func5, Tryz.ntmps5
  have HB := hide (Below.refl w.heap.size w)
  go_wp2_with fail
  refine code_world fun W hW => ?_
  have bq0 : Blk W w.heap.size 26 #[.slice A nl cl, .slice Ar nr cr, .int .i64 a0, .int .i64 a1, .int .i64 b0, .int .i64 b1, .int .i64 c0, .int .i64 c1] := by rw [hW]; exact ((Blk.new _ _ _).alloc _).alloc _
  have bq1 : Blk W (w.heap.size + 1) 31 #[.string s, .int .i64 sx, .int .i64 sy, .int .i64 z, .int .i64 r, .int .i64 g, .int .i64 st, .int .i64 wd, .int .i64 tilt, .int .i64 time, .slice As n cs] := by rw [hW]; exact (blk_new_at (by simp)).alloc _
  have bq2 : Blk W (w.heap.size + 2) 36 #[.int .i64 gx, .int .i64 gy, .int .i64 gs, .int .i64 wi, .int .i64 hi, .slice Ag ng cg] := by rw [hW]; exact blk_new_at (by simp)
  have LW : Later w W := by rw [hW]; exact ((((Below.refl _ _).alloc (Nat.le_refl _) _).alloc (by simp; try omega) _).alloc (by simp; try omega) _)
  have szW : W.heap.size = w.heap.size + 3 := by rw [hW]; simp
  clear hW
  replace HB := hide (onward HB.out LW)
  have Hm := hide bq0
  have Hsw := hide bq1
  have Hf := hide bq2
  clear bq0 bq1 bq2 LW szW
  go_loopw [7] (fun i wr => ∃ k : Nat, k ≤ n ∧ i = .int .i64 k ∧ wr = W ∧ ∀ j, j < k → (rr j).n ≤ 21) (fun i _ => n - (intOf i).toNat)
  case atStart => exact ⟨0, by omega, rfl, rfl, fun j hj => absurd hj (by omega)⟩
  case round =>
    obtain ⟨k, hk, rfl, rfl, hall⟩ := hrel
    have HA := hide hall
    clear hall
    by_cases hlt : k < n
    · have hlt3 : (k : Int) < n := by omega
      obtain ⟨b, off, rfl, hb, hc⟩ := Hrs.out (by omega)
      have q := (hc k hlt).1
      rw [← HB.out.cell hb] at q
      have hb2 : b < wr.heap.size := Nat.lt_of_lt_of_le hb HB.out.size
      clear hc
      obtain ⟨nk, hnk⟩ : ∃ q, (rr k).n = q := ⟨_, rfl⟩
      rw [hnk] at q
      by_cases h21 : (21 : Int) < nk
      · obtain rfl : fb = false := by
          rw [← Hfb.out, Bool.eq_false_iff]
          intro hc
          have := List.all_eq_true.1 hc k (List.mem_range.2 hlt)
          simp at this
          omega
        have x0 := Hsw.out.c 0 rfl
        have x1 := Hsw.out.c 1 rfl
        have x2 := Hsw.out.c 2 rfl
        have x3 := Hsw.out.c 3 rfl
        have x4 := Hsw.out.c 4 rfl
        have x5 := Hsw.out.c 5 rfl
        have x6 := Hsw.out.c 6 rfl
        have x7 := Hsw.out.c 7 rfl
        have x8 := Hsw.out.c 8 rfl
        have x9 := Hsw.out.c 9 rfl
        have x10 := Hsw.out.c 10 rfl
        have ltx := Hsw.out.lt
        go_wp2
        go_ret
        exact ⟨rfl, HB.out⟩
      · have x0 := Hsw.out.c 0 rfl
        have x1 := Hsw.out.c 1 rfl
        have x2 := Hsw.out.c 2 rfl
        have x3 := Hsw.out.c 3 rfl
        have x4 := Hsw.out.c 4 rfl
        have x5 := Hsw.out.c 5 rfl
        have x6 := Hsw.out.c 6 rfl
        have x7 := Hsw.out.c 7 rfl
        have x8 := Hsw.out.c 8 rfl
        have x9 := Hsw.out.c 9 rfl
        have x10 := Hsw.out.c 10 rfl
        have ltx := Hsw.out.lt
        go_wp2_with fail
        go_roundw
        case rel => exact ⟨k + 1, by omega, by go_num, by first | rfl | trivial, fun j hj => by
          rcases Nat.lt_or_ge j k with h | h
          · exact HA.out j h
          · obtain rfl : j = k := by omega
            omega⟩
        case measure => simp [intOf] <;> omega
    · obtain rfl : k = n := by omega
      have hlt3 : ¬ ((k : Int) < k) := by omega
      obtain rfl : fb = true := by
        rw [← Hfb.out]
        exact List.all_eq_true.2 fun i hi => by simpa using HA.out i (List.mem_range.1 hi)
      have x0 := Hsw.out.c 0 rfl
      have x1 := Hsw.out.c 1 rfl
      have x2 := Hsw.out.c 2 rfl
      have x3 := Hsw.out.c 3 rfl
      have x4 := Hsw.out.c 4 rfl
      have x5 := Hsw.out.c 5 rfl
      have x6 := Hsw.out.c 6 rfl
      have x7 := Hsw.out.c 7 rfl
      have x8 := Hsw.out.c 8 rfl
      have x9 := Hsw.out.c 9 rfl
      have x10 := Hsw.out.c 10 rfl
      have ltx := Hsw.out.lt
      go_wp2
      go_ret
      exact ⟨rfl, HB.out⟩
end Go.Proofs.YtepgpihobmjbdaaGreat
namespace Go.Proofs.YtepgpihobmjbdaaGreat
open Go.RowKit

theorem point_any (n : Int) (w : World) :
    Calls Tryz.prog 18 #[.int .i64 n] w fun e w' => e = .returned (.agg #[.int .i64 n, .int .i64 n]) ∧ Below w.heap.size w w' := by
  go_enter Tryz.func18, Tryz.ntmps18
  go_wp2
  refine bodyPost_ret (v := .agg #[.int .i64 n, .int .i64 n]) (by simp [results, Tryz.results18, go_sem]) rfl ⟨rfl, ?_⟩
  exact (Below.refl _ _).alloc (Nat.le_refl _) _

theorem T_any (w : World) :
    Calls Tryz.prog 14 #[] w fun e w' => e = .returned (.slice (some ⟨w.heap.size, 0, none⟩) 3 3) ∧ w.alloc (.cells #[.int .i64 0, .int .i64 0, .int .i64 100, .int .i64 10, .int .i64 200, .int .i64 110] 85) = w' := by
  go_enter Tryz.func14, Tryz.ntmps14
  go_wp2
  go_ret
  exact ⟨rfl, rfl⟩
theorem L_any (w : World) :
    Calls Tryz.prog 16 #[] w fun e w' => e = .returned (.slice (some ⟨w.heap.size, 0, none⟩) 2 2) ∧ w.alloc (.cells #[.int .i64 0, .int .i64 0, .int .i64 1000, .int .i64 32768] 85) = w' := by
  go_enter Tryz.func16, Tryz.ntmps16
  go_wp2
  go_ret
  exact ⟨rfl, rfl⟩

theorem ext_getD {l m : List (Int × Int)} (h : l.length = m.length) (hh : ∀ j, j < l.length → l.getD j (0, 0) = m.getD j (0, 0)) : l = m := by
  apply List.ext_getElem h
  intro j h1 h2
  have := hh j h1
  simpa [List.getD, h1, h2] using this

set_option maxHeartbeats 800000 in
theorem same_any (A : Option Addr) (n c : Nat) (l : List (Int × Int)) (A' : Option Addr) (n' c' : Nat) (m : List (Int × Int)) (w : World) (hn : l.length = n) (hmax : n ≤ 9223372036854775807) (hn' : m.length = n') (hmax' : n' ≤ 9223372036854775807)
    (hl : Ints w w.heap.size .i64 A (flat2 l)) (hm : Ints w w.heap.size .i64 A' (flat2 m)) :
    Calls Tryz.prog 10 #[.slice A n c, .slice A' n' c'] w fun e w' => e = .returned (.bool (decide (l = m))) ∧ Below w.heap.size w w' := by
  by_cases hnn : n = n'
  · subst hnn
    have Hl := hide hl
    have Hm := hide hm
    have Hn := hide hn
    have Hn' := hide hn'
    have hq : ((n : Int) != n) = false := by simp
    clear hl hm hn hn'
    go_enter Tryz.func10, Tryz.ntmps10
    go_wp2_with fail
    go_loopw [5] (fun i wr => ∃ k q : Nat, k ≤ n ∧ i = .int .i64 k ∧ wr = w.drewN q ∧ (∀ j, j < k → l.getD j (0, 0) = m.getD j (0, 0))) (fun i _ => n - (intOf i).toNat)
    case atStart => exact ⟨0, 0, by omega, rfl, rfl, fun j hj => by omega⟩
    case round =>
      obtain ⟨k, q, hk, rfl, rfl, hall⟩ := hrel
      have Hall := hide hall
      clear hall hq
      by_cases hlt : k < n
      · obtain ⟨b, off, rfl, hb, hc⟩ := Hl.out.pt (by have := Hn.out; omega)
        obtain ⟨b', off', rfl, hb', hc'⟩ := Hm.out.pt (by have := Hn'.out; omega)
        obtain ⟨p0, p1⟩ := hc k (by have := Hn.out; omega)
        obtain ⟨q0, q1⟩ := hc' k (by have := Hn'.out; omega)
        have hne : l.getD k (0, 0) ≠ m.getD k (0, 0) → ¬ l = m := fun h e => h (by rw [e])
        have hst : l.getD k (0, 0) = m.getD k (0, 0) → ∀ j, j < k + 1 → l.getD j (0, 0) = m.getD j (0, 0) := fun h j hj => by
          rcases Nat.lt_or_ge j k with h1 | h1
          · exact Hall.out j h1
          · obtain rfl : j = k := by omega
            exact h
        clear hc hc'
        generalize l.getD k (0, 0) = x at *
        generalize m.getD k (0, 0) = y at *
        obtain ⟨x0, x1⟩ := x
        obtain ⟨y0, y1⟩ := y
        simp only at p0 p1 q0 q1
        have Hne := hide hne
        have Hst := hide hst
        clear hne hst
        by_cases he : x0 = y0 ∧ x1 = y1
        · obtain ⟨rfl, rfl⟩ := he
          go_wp2_with fail
          go_quiet (fail)
          go_wp2
          go_roundw
          case rel => exact ⟨k + 1, _, by omega, by go_num, rfl, Hst.out trivial⟩
          case measure => simp [intOf]; omega
        · have hn2 := Hne.out (by simp; omega)
          have Hn2 := hide hn2
          clear hn2
          by_cases h0 : x0 = y0
          · subst h0
            have h1 : (x1 == y1) = false := beq_eq_false_iff_ne.2 (fun e => he ⟨rfl, e⟩)
            clear he
            go_wp2_with fail
            go_quiet (fail)
            go_wp2
            go_ret
            exact ⟨ret_bool (decide_eq_false Hn2.out).symm, below_drewN (below_drewN (Below.refl _ _) _) _⟩
          · have h1 : (x0 == y0) = false := beq_eq_false_iff_ne.2 h0
            clear he h0
            go_wp2_with fail
            go_quiet (fail)
            go_wp2
            go_ret
            exact ⟨ret_bool (decide_eq_false Hn2.out).symm, below_drewN (below_drewN (Below.refl _ _) _) _⟩
      · have hlm : l = m := ext_getD (by rw [Hn.out, Hn'.out]) (fun j hj => Hall.out j (by have := Hn.out; omega))
        have Hlm := hide hlm
        clear hlm
        go_wp2
        go_ret
        exact ⟨ret_bool (decide_eq_true Hlm.out).symm, below_drewN (Below.refl _ _) _⟩
  · have hlm : ¬ l = m := fun e => hnn (by rw [← hn, ← hn', e])
    have Hlm := hide hlm
    have hq : ((n : Int) != n') = true := by simp; omega
    clear hlm hl hm hn hn' hnn
    go_enter Tryz.func10, Tryz.ntmps10
    go_wp2
    go_ret
    exact ⟨ret_bool (decide_eq_false Hlm.out).symm, Below.refl _ _⟩
end Go.Proofs.YtepgpihobmjbdaaGreat
namespace Go.Proofs.YtepgpihobmjbdaaGreat
open Go.RowKit

theorem valid_any (t s : Int) (w : World) :
    Calls Tryz.prog 40 #[.agg #[.int .i64 t, .int .i64 s]] w fun e w' => e = .returned (.bool (okG t s)) ∧ Below w.heap.size w w' := by
  by_cases h1 : win t 0 1000000 = true
  · have hE : okG t s = win s 1 10000 := by simp [okG, h1]
    have HE := hide hE
    clear hE
    go_enter Tryz.func40, Tryz.ntmps40
    go_wp2_with (go_at_call 34; refine (within_any _ _ _ _).mono ?_; rintro e w' ⟨rfl, rfl⟩)
    go_ret
    exact ⟨(ret_bool HE.out).symm, (Below.refl _ _).alloc (Nat.le_refl _) _⟩
  · have h2 : win t 0 1000000 = false := by simpa using h1
    have hE : okG t s = false := by simp [okG, h2]
    have HE := hide hE
    clear hE h1
    go_enter Tryz.func40, Tryz.ntmps40
    go_wp2_with (go_at_call 34; refine (within_any _ _ _ _).mono ?_; rintro e w' ⟨rfl, rfl⟩)
    go_ret
    exact ⟨(ret_bool HE.out).symm, (Below.refl _ _).alloc (Nat.le_refl _) _⟩

theorem fell_any (t s : Int) (w : World) (h : okG t s = true) :
    Calls Tryz.prog 41 #[.agg #[.int .i64 t, .int .i64 s]] w fun e w' => e = .returned (spanV (fellS t s)) ∧ Below w.heap.size w w' := by
  obtain ⟨a1, a2, a3, a4, a5, a6, a7, a8⟩ := gauge_bd h
  clear h
  go_enter Tryz.func41, Tryz.ntmps41
  go_wp2
  all_goals
    refine bodyPost_ret (v := spanV (fellS t s)) (by simp [spanV, fellS, results, Tryz.results41, go_sem] <;> omega) rfl ⟨rfl, ?_⟩
    exact ((Below.refl _ _).alloc (Nat.le_refl _) _).alloc (by simp) _

set_option maxHeartbeats 400000 in
theorem Fell_any (t s : Int) (w : World) :
    Calls Tryz.prog 17 #[.agg #[.int .i64 t, .int .i64 s]] w fun e w' => e = .returned (spanE (fellR t s)) ∧ Below w.heap.size w w' := by
  by_cases h1 : okG t s = true
  · have hR : fellR t s = (fellS t s, 0) := by simp [fellR, h1]
    have HR := hide hR
    have hf := fun W => fell_any t s W h1
    clear hR
    go_enter Tryz.func17, Tryz.ntmps17
    go_wp2_with fail
    refine (valid_any _ _ _).mono ?_
    rintro e w1 ⟨rfl, hb1⟩
    have b1 : Blk w1 w.heap.size 61 #[.int .i64 t, .int .i64 s] := (((Blk.new w _ _).alloc _).below hb1 (by simp; omega))
    have r1 : Blk w1 (w.heap.size + 1) 24 #[.int .i64 0, .int .i64 0] := (blk_new_at (by simp)).below hb1 (by simp)
    have B1 : Below w.heap.size w w1 := (((Below.refl _ _).alloc (Nat.le_refl _) _).alloc (by simp) _).trans (hb1.mono (by simp; omega))
    obtain ⟨c0, c1⟩ := b1.c2
    have HB1 := hide B1
    have R1 := hide r1
    clear b1 r1 B1 hb1
    go_wp2_with fail
    refine (hf _).mono ?_
    rintro e w2 ⟨rfl, hb2⟩
    have r2 := R1.out.below hb2 R1.out.lt
    have HB2 := hide (onward HB1.out hb2)
    obtain ⟨e0, e1⟩ := r2.c2
    have f0 := r2.frozen 0
    have f1 := r2.frozen 1
    clear hb2 r2 hf c0 c1
    unfold spanV
    go_wp2
    refine bodyPost_ret (v := spanE (fellR t s)) (by rw [HR.out]; simp [spanE, results, Tryz.results17, go_sem, e0, e1]) rfl ⟨rfl, ?_⟩
    exact (HB2.out.setCell (by simp) _).setCell (by simp) _
  · have h2 : okG t s = false := by simpa using h1
    have hR : fellR t s = ((0, 0), 3) := by simp [fellR, h2]
    have HR := hide hR
    clear hR h1
    go_enter Tryz.func17, Tryz.ntmps17
    go_wp2_with fail
    refine (valid_any _ _ _).mono ?_
    rintro e w1 ⟨rfl, hb1⟩
    have r1 : Blk w1 (w.heap.size + 1) 24 #[.int .i64 0, .int .i64 0] := (blk_new_at (by simp)).below hb1 (by simp)
    have B1 : Below w.heap.size w w1 := (((Below.refl _ _).alloc (Nat.le_refl _) _).alloc (by simp) _).trans (hb1.mono (by simp; omega))
    obtain ⟨e0, e1⟩ := r1.c2
    have f0 := r1.frozen 0
    have f1 := r1.frozen 1
    have HB1 := hide B1
    clear r1 B1 hb1
    go_wp2
    refine bodyPost_ret (v := spanE (fellR t s)) (by rw [HR.out]; simp [spanE, results, Tryz.results17, go_sem, e0, e1]) rfl ⟨rfl, ?_⟩
    exact (HB1.out.setCell (by simp) _).setCell (by simp) _
end Go.Proofs.YtepgpihobmjbdaaGreat
namespace Go.Proofs.YtepgpihobmjbdaaGreat
open Go.RowKit

def tabT : List (Int × Int) := [(0, 0), (100, 10), (200, 110)]
def tabL : List (Int × Int) := [(0, 0), (1000, 32768)]
theorem valueT : valueR tabT 50 = ((5, 5), 0) := by decide +kernel
theorem passL : passR tabL [1000, 1000, 500] = ([(1000, 1000), (500, 500), (125, 125)], 0) := by decide +kernel
theorem fell3 : fellR 3 200 = ((401, 799), 0) := by decide +kernel
theorem ints_new {w : World} {g : Nat} {t : TypeId} {cs : Array Value} {zs : List Int} (hb : Blk w g t cs) (h : cs.toList = zs.map (Value.int .i64)) : Ints w (g + 1) .i64 (some ⟨g, 0, none⟩) zs := fun _ => by
  refine ⟨g, 0, rfl, by omega, fun j hj => ?_⟩
  rw [Nat.zero_add, hb.cell j, ← Array.getElem?_toList, h]
  simp [List.getD, hj]

set_option maxHeartbeats 2000000 in
set_option maxRecDepth 100000 in
theorem works_any (w : World) : Calls Tryz.prog 6 #[] w fun e w' => e = .returned (.bool true) ∧ Below w.heap.size w w' := by
  go_enter Tryz.func6, Tryz.ntmps6
  go_wp2_with fail
  refine (T_any _).mono ?_
  rintro e w1 ⟨rfl, rfl⟩
  go_wp2_with fail
  refine (Value_any _ 3 3 tabT 50 _ rfl (by decide) ((ints_new (zs := flat2 tabT) (Blk.new w 85 _) rfl).more (by simp))).mono ?_
  rintro e w2 ⟨rfl, hb2⟩
  rw [valueT]
  have B2 : Below w.heap.size w w2 := ((Below.refl _ _).alloc (Nat.le_refl _) _).trans (hb2.mono (by simp))
  unfold spanE
  clear hb2
  go_wp2_with fail
  refine (L_any _).mono ?_
  rintro e w3 ⟨rfl, rfl⟩
  go_wp2_with fail
  refine at_world fun W hW => ?_
  have bS : Blk W w2.heap.size 24 #[.int .i64 5, .int .i64 5] := by rw [hW]; exact ((Blk.new _ _ _).alloc _).alloc _
  have bL : Blk W (w2.heap.size + 1) 85 #[.int .i64 0, .int .i64 0, .int .i64 1000, .int .i64 32768] := by rw [hW]; exact (blk_new_at (by simp)).alloc _
  have bP : Blk W (w2.heap.size + 1 + 1) 3 #[.int .i64 1000, .int .i64 1000, .int .i64 500] := by rw [hW]; exact blk_new_at (by simp)
  have hsz : W.heap.size = w2.heap.size + 3 := by rw [hW]; simp
  have BW : Below w.heap.size w W := by
    have := B2.size
    rw [hW]; exact ((B2.alloc this _).alloc (by simp; omega) _).alloc (by simp; omega) _
  clear hW B2
  refine (Pass_any _ 2 2 tabL _ 3 3 [1000, 1000, 500] W rfl (by decide) rfl (by decide) ((ints_new (zs := flat2 tabL) bL rfl).more (by omega)) ((ints_new (zs := [1000, 1000, 500]) bP rfl).more (by omega))).mono ?_
  rintro e w4 ⟨v, rfl, hown, hb4⟩
  rw [passL] at hown
  rw [passL]
  simp only at hown
  obtain ⟨gv, cv, rfl⟩ := own_form hown (by decide)
  have BS4 := bS.below hb4 bS.lt
  have B4 := onward BW hb4
  have HO := hide hown
  have HBS := hide BS4
  have HB := hide B4
  clear bS bL bP BW hown BS4 hb4 hsz B4
  go_wp2_with fail
  refine (Fell_any 3 200 _).mono ?_
  rintro e w5 ⟨rfl, hb5⟩
  rw [fell3]
  have HO5 := hide (own_later HO.out hb5)
  have HBS5 := hide (HBS.out.below hb5 HBS.out.lt)
  have HB5 := hide (onward HB.out hb5)
  unfold spanE
  clear HO HBS HB hb5
  go_wp2_with fail
  refine code_world fun W5 hW5 => ?_
  have b1 : Blk W5 w2.heap.size 24 #[.int .i64 5, .int .i64 5] := by rw [hW5]; exact HBS5.out.alloc _
  have b2 : Blk W5 w5.heap.size 24 #[.int .i64 401, .int .i64 799] := by rw [hW5]; exact Blk.new _ _ _
  have o5 := HO5.out.alloc (.cells #[.int .i64 401, .int .i64 799] 24)
  rw [← hW5] at o5
  have hB5 : Below w.heap.size w W5 := by rw [hW5]; exact HB5.out.alloc HB5.out.size _
  have hi5 : Ints W5 W5.heap.size .i64 (some ⟨gv, 0, none⟩) (flat2 [(1000, 1000), (500, 500), (125, 125)]) := Ints.own o5 rfl (Nat.le_refl _)
  have HB := hide hB5
  have HI := hide hi5
  have HB2 := hide b2
  have l1 := b1.lt
  have l2 := b2.lt
  obtain ⟨c0, c1⟩ := b1.c2
  obtain ⟨d0, d1⟩ := b2.c2
  clear b1 b2 o5 hB5 hi5 hW5 HO5 HBS5 HB5
  refine wp_region_R (fun k => k < W5.heap.size) 29 (by kernel_rfl) ?_
  apply anyR_peel (fuel := 17) 29 [true, true, true, true, true, true, true, true, true, true, true, true, false, false, false, false, false, false, false, false, false, false, false, false, false, false, false, false, false] #[true, true, true, true, true, true, true, true, true, true, true, true, false, false, false, false, false, false, false, false, false, false, false, false, false, false, false, false, false] (by kernel_rfl) rfl (fun j hj => decide_eq_true hj) (fun k hk => by first | exact hk | omega | (simp at hk ⊢; omega))
  · intro D hD
    have hne := hD.some
    have k0 := liftB hD c0 (by omega)
    have k1 := liftB hD c1 (by omega)
    simp only [takeOps]
    repeat (go_big_quiet_step ((go_at_call 18; exact calls_later hD _ (point_any _ _))))
    exact wpQuiet_nil rfl
  refine anyR_new (f := 16) 12 #[true, true, true, true, true, true, true, true, true, true, true, true, true, false, false, false, false, false, false, false, false, false, false, false, false, false, false, false, false] (by kernel_rfl) (by kernel_rfl) rfl rfl rfl rfl 24 #[.int .i64 1000, .int .i64 1000, .int .i64 500, .int .i64 500, .int .i64 125, .int .i64 125] (fun b => .slice (some ⟨b, 0, none⟩) 3 3) (fun _ => by kernel_rfl) (fun k hk => hk) ?_
  intro w6 hl6
  simp only [Act.put, List.setIfInBounds_toArray, List.set_cons_succ, List.set_cons_zero]
  have hi6 : Ints w6 w6.heap.size .i64 (some ⟨gv, 0, none⟩) (flat2 [(1000, 1000), (500, 500), (125, 125)]) := (HI.out.below hl6).more hl6.size
  refine anyR_call (f := 15) 13 #[true, true, true, true, true, true, true, true, true, true, true, true, true, true, false, false, false, false, false, false, false, false, false, false, false, false, false, false, false] (by kernel_rfl) (by kernel_rfl) rfl rfl rfl rfl 10 #[.slice (some ⟨gv, 0, none⟩) 3 cv, .slice (some ⟨w6.heap.size, 0, none⟩) 3 3] (fun _ => by kernel_rfl) (fun k hk => Nat.lt_of_lt_of_le hk (by have := hl6.size; simp; omega)) (fun v _ _ => v = .bool true)
    (fun w7 hl7 => (same_any _ 3 cv [(1000, 1000), (500, 500), (125, 125)] _ 3 3 [(1000, 1000), (500, 500), (125, 125)] w7 rfl (by decide) rfl (by decide) ?_ ?_).mono fun e w8 ⟨he, hb⟩ => ⟨_, he, hb, by simp⟩) ?_
  · exact (hi6.below (((Below.refl _ _).alloc (Nat.le_refl _) _).trans (Below.mono hl7 (by simp)))).more (by have := hl7.size; simp at this; omega)
  · exact (ints_new (zs := flat2 [(1000, 1000), (500, 500), (125, 125)]) ((Blk.new w6 _ _).below hl7 (by simp)) rfl).more (by have := hl7.size; simp at this; omega)
  rintro v w7 w8 hl7 hl8 rfl
  simp only [Act.put, List.setIfInBounds_toArray, List.set_cons_succ, List.set_cons_zero]
  have b8 := (((HB2.out.below hl6 HB2.out.lt).alloc (.cells #[.int .i64 1000, .int .i64 1000, .int .i64 500, .int .i64 500, .int .i64 125, .int .i64 125] 24))).below hl8 (by have := hl6.size; simp; omega)
  obtain ⟨x0, x1⟩ := b8.c2
  have B8 : Below w.heap.size w w8 := (((onward HB.out hl6).alloc (by have := HB.out.size; have := hl6.size; omega) _)).trans (Below.mono hl8 (by have := HB.out.size; have := hl6.size; simp; omega))
  have HB8 := hide B8
  have hs8 := hl8.size
  simp only [World.size_alloc] at hs8
  have hs6 := hl6.size
  clear b8 B8 c0 c1 d0 d1 hi6 hl7
  refine anyR_sub (S' := fun k => k < W5.heap.size) (fun k hk => by first | exact hk | omega | (simp at hk ⊢; omega)) ?_
  apply anyR_peel (fuel := 0) 29 [false, false, false, false, false, false, false, false, false, false, false, false, false, false, true, true, true, true, true, true, true, true, true, true, true, true, true, true, true] #[true, true, true, true, true, true, true, true, true, true, true, true, true, true, true, true, true, true, true, true, true, true, true, true, true, true, true, true, true] (by kernel_rfl) rfl (fun j hj => decide_eq_true hj) (fun k hk => by first | exact hk | omega | (simp at hk ⊢; omega))
  · intro D hD
    have hne := hD.some
    have k0 := liftB hD x0 (by omega)
    have k1 := liftB hD x1 (by omega)
    simp only [takeOps]
    repeat (go_big_quiet_step (fail))
    exact wpQuiet_nil rfl
  refine anyR_done (by kernel_rfl) fun w9 hl9 => ?_
  have HB9 := hide (onward HB8.out hl9)
  go_wp2
  go_ret
  exact ⟨rfl, HB9.out⟩
end Go.Proofs.YtepgpihobmjbdaaGreat
namespace Go.Proofs.YtepgpihobmjbdaaGreat
open Go.RowKit

theorem rateR_len (e : Int) (l : List (Int × Int)) : (rateR e l).1.length ≤ l.length := by
  unfold rateR
  split
  · exact Nat.zero_le _
  · exact Nat.le_refl _
theorem rateL_len (z r g st wd tilt elo ehi gx gy gs wi hi sx sy ray : Int) (l rt gl : List (Int × Int)) (a0 a1 b0 b1 c0 c1 : Int) (rr : Nat → Ray1) : (rateL z r g st wd tilt elo ehi gx gy gs wi hi sx sy ray l rt gl a0 a1 b0 b1 c0 c1 rr).length = g.toNat := by
  unfold rateL; exact rayL_length _ _ _ _ _ _ _ _

set_option maxHeartbeats 8000000 in
set_option maxRecDepth 100000 in
theorem RainRays_any (s : ByteArray) (sx sy z r g st wd tilt time elo ehi gx gy gs wi hi ray : Int) (l rt gl : List (Int × Int)) (a0 a1 b0 b1 c0 c1 : Int) (n ng : Nat) (rr : Nat → Ray1) (A : Option Addr) (nl cl : Nat) (Ar : Option Addr) (nr cr : Nat) (As : Option Addr) (cs : Nat) (Ag : Option Addr) (cg : Nat) (w : World) 
    (hs : s.size ≤ 9223372036854775807) (hn : l.length = nl) (hmax : nl ≤ 9223372036854775807) (hnr : rt.length = nr) (hmaxr : nr ≤ 9223372036854775807) (hng : gl.length = ng) (hmaxg : ng ≤ 9223372036854775807) (hns : n ≤ maxLen)
    (hl : Ints w w.heap.size .i64 A (flat2 l)) (hlr : Ints w w.heap.size .i64 Ar (flat2 rt)) (hlg : Ints w w.heap.size .i64 Ag (flat2 gl)) (hrs : RaysAt w w.heap.size As n rr) :
    Calls Tryz.prog 3 #[.agg (mdlC A nl cl Ar nr cr a0 a1 b0 b1 c0 c1), .agg (sweepC s sx sy z r g st wd tilt time As n cs), .agg #[.int .i64 elo, .int .i64 ehi], .agg (fldC gx gy gs wi hi Ag ng cg), .int .i64 ray] w fun e w' => e = .returned (.bool true) ∧ Below w.heap.size w w' := by
  rw [← flat2Q_eq] at hlg
  have cF := fun (W : World) (h4 : RaysAt W W.heap.size As n rr) => few_any s sx sy z r g st wd tilt time gx gy gs wi hi a0 a1 b0 b1 c0 c1 n ng rr A nl cl Ar nr cr As cs Ag cg W h4
  have cA := fun (W : World) (h1 : Ints W W.heap.size .i64 A (flat2 l)) (h2 : Ints W W.heap.size .i64 Ar (flat2 rt)) (h3 : Ints W W.heap.size .i64 Ag (flat2Q gl)) (h4 : RaysAt W W.heap.size As n rr) => Rates_any s sx sy z r g st wd tilt time elo ehi gx gy gs wi hi ray l rt gl a0 a1 b0 b1 c0 c1 n ng rr A nl cl Ar nr cr As cs Ag cg W hs hn hmax hnr hmaxr hng hmaxg hns h1 h2 h3 h4
  have cR := fun (A : Option Addr) (cl : Nat) (Ar : Option Addr) (cr : Nat) (W : World) (h1 : Ints W W.heap.size .i64 A (flat2 l)) (h2 : Ints W W.heap.size .i64 Ar (flat2 rt)) (h3 : Ints W W.heap.size .i64 Ag (flat2Q gl)) (h4 : RaysAt W W.heap.size As n rr) => RefRates_any s sx sy z r g st wd tilt time elo ehi gx gy gs wi hi ray l rt gl a0 a1 b0 b1 c0 c1 n ng rr A nl cl Ar nr cr As cs Ag cg W hs hn hmax hnr hmaxr hng hmaxg hns h1 h2 h3 h4
  have hlen := rateR_len (allE s sx sy z r g st wd tilt time elo ehi gx gy gs wi hi ray l rt gl a0 a1 b0 b1 c0 c1 n ng rr) (rateL z r g st wd tilt elo ehi gx gy gs wi hi sx sy ray l rt gl a0 a1 b0 b1 c0 c1 rr)
  rw [rateL_len] at hlen
  generalize rateR (allE s sx sy z r g st wd tilt time elo ehi gx gy gs wi hi ray l rt gl a0 a1 b0 b1 c0 c1 n ng rr) (rateL z r g st wd tilt elo ehi gx gy gs wi hi sx sy ray l rt gl a0 a1 b0 b1 c0 c1 rr) = RR at *
  obtain ⟨RL, E⟩ := RR
  simp only at hlen
  obtain ⟨fb, hfb⟩ : ∃ q, fewB nl nr n s.size ng r g wi hi rr = q := ⟨_, rfl⟩
  simp only [hfb] at cF
  unfold mdlC sweepC fldC at *
  unfold SpansPost at cA cR
  simp only at cA cR
  have CF := hide cF
  have CA := hide cA
  have CR := hide cR
  have Hl := hide hl
  have Hlr := hide hlr
  have Hlg := hide hlg
  have Hrs := hide hrs
  have Hn := hide hn
  have Hnr := hide hnr
  clear cF cA cR hl hlr hlg hrs hn hnr
  clear hs hmax hmaxr hng hmaxg hns
  cases fb with
  | false =>
    clear CA CR hfb
    go_enter Tryz.func3, Tryz.ntmps3
    have HB := hide (Below.refl w.heap.size w)
    go_wp2_with fail
    refine at_world fun W hW => ?_
    have bq0 : Blk W w.heap.size 26 #[.slice A nl cl, .slice Ar nr cr, .int .i64 a0, .int .i64 a1, .int .i64 b0, .int .i64 b1, .int .i64 c0, .int .i64 c1] := by rw [hW]; exact (((Blk.new _ _ _).alloc _).alloc _).alloc _
    have bq1 : Blk W (w.heap.size + 1) 31 #[.string s, .int .i64 sx, .int .i64 sy, .int .i64 z, .int .i64 r, .int .i64 g, .int .i64 st, .int .i64 wd, .int .i64 tilt, .int .i64 time, .slice As n cs] := by rw [hW]; exact ((blk_new_at (by simp)).alloc _).alloc _
    have bq2 : Blk W (w.heap.size + 2) 24 #[.int .i64 elo, .int .i64 ehi] := by rw [hW]; exact (blk_new_at (by simp)).alloc _
    have bq3 : Blk W (w.heap.size + 3) 36 #[.int .i64 gx, .int .i64 gy, .int .i64 gs, .int .i64 wi, .int .i64 hi, .slice Ag ng cg] := by rw [hW]; exact blk_new_at (by simp)
    have LW : Later w W := by rw [hW]; exact (((((Below.refl _ _).alloc (Nat.le_refl _) _).alloc (by simp; try omega) _).alloc (by simp; try omega) _).alloc (by simp; try omega) _)
    have szW : W.heap.size = w.heap.size + 4 := by rw [hW]; simp
    clear hW
    replace HB := hide (onward HB.out LW)
    have Hm := hide bq0
    have Hsw := hide bq1
    have He := hide bq2
    have Hf := hide bq3
    clear bq0 bq1 bq2 bq3 LW szW
    refine (CF.out _ ((Hrs.out.below HB.out).more HB.out.size)).mono ?_
    rintro e w1 ⟨rfl, hb⟩
    replace HB := hide (onward HB.out hb)
    replace Hm := hide (blk_later Hm.out hb)
    replace Hsw := hide (blk_later Hsw.out hb)
    replace He := hide (blk_later He.out hb)
    replace Hf := hide (blk_later Hf.out hb)
    clear hb
    go_wp2_with fail
    refine (works_any _).mono ?_
    rintro e w2 ⟨rfl, hb⟩
    replace HB := hide (onward HB.out hb)
    replace Hm := hide (blk_later Hm.out hb)
    replace Hsw := hide (blk_later Hsw.out hb)
    replace He := hide (blk_later He.out hb)
    replace Hf := hide (blk_later Hf.out hb)
    clear hb
    go_wp2
    go_ret
    exact ⟨rfl, HB.out⟩
  | true =>
    obtain ⟨f1, f2, f3, f4, f5, f6, f7, f8, f9⟩ := few_ok hfb
    have hRL : RL.length ≤ 20 := by omega
    clear hfb hlen
    go_enter Tryz.func3, Tryz.ntmps3
    have HB := hide (Below.refl w.heap.size w)
    go_wp2_with fail
    refine at_world fun W hW => ?_
    have bq0 : Blk W w.heap.size 26 #[.slice A nl cl, .slice Ar nr cr, .int .i64 a0, .int .i64 a1, .int .i64 b0, .int .i64 b1, .int .i64 c0, .int .i64 c1] := by rw [hW]; exact (((Blk.new _ _ _).alloc _).alloc _).alloc _
    have bq1 : Blk W (w.heap.size + 1) 31 #[.string s, .int .i64 sx, .int .i64 sy, .int .i64 z, .int .i64 r, .int .i64 g, .int .i64 st, .int .i64 wd, .int .i64 tilt, .int .i64 time, .slice As n cs] := by rw [hW]; exact ((blk_new_at (by simp)).alloc _).alloc _
    have bq2 : Blk W (w.heap.size + 2) 24 #[.int .i64 elo, .int .i64 ehi] := by rw [hW]; exact (blk_new_at (by simp)).alloc _
    have bq3 : Blk W (w.heap.size + 3) 36 #[.int .i64 gx, .int .i64 gy, .int .i64 gs, .int .i64 wi, .int .i64 hi, .slice Ag ng cg] := by rw [hW]; exact blk_new_at (by simp)
    have LW : Later w W := by rw [hW]; exact (((((Below.refl _ _).alloc (Nat.le_refl _) _).alloc (by simp; try omega) _).alloc (by simp; try omega) _).alloc (by simp; try omega) _)
    have szW : W.heap.size = w.heap.size + 4 := by rw [hW]; simp
    clear hW
    replace HB := hide (onward HB.out LW)
    have Hm := hide bq0
    have Hsw := hide bq1
    have He := hide bq2
    have Hf := hide bq3
    clear bq0 bq1 bq2 bq3 LW szW
    refine (CF.out _ ((Hrs.out.below HB.out).more HB.out.size)).mono ?_
    rintro e w1 ⟨rfl, hb⟩
    replace HB := hide (onward HB.out hb)
    replace Hm := hide (blk_later Hm.out hb)
    replace Hsw := hide (blk_later Hsw.out hb)
    replace He := hide (blk_later He.out hb)
    replace Hf := hide (blk_later Hf.out hb)
    clear hb
    obtain ⟨m0, m1, m2, m3, m4, m5, m6, m7⟩ := Hm.out.c8
    have ltm := Hm.out.lt
    have x0 := Hsw.out.c 0 rfl
    have x1 := Hsw.out.c 1 rfl
    have x2 := Hsw.out.c 2 rfl
    have x3 := Hsw.out.c 3 rfl
    have x4 := Hsw.out.c 4 rfl
    have x5 := Hsw.out.c 5 rfl
    have x6 := Hsw.out.c 6 rfl
    have x7 := Hsw.out.c 7 rfl
    have x8 := Hsw.out.c 8 rfl
    have x9 := Hsw.out.c 9 rfl
    have x10 := Hsw.out.c 10 rfl
    have ltx := Hsw.out.lt
    obtain ⟨y0, y1⟩ := He.out.c2
    have lty := He.out.lt
    obtain ⟨f0, f1, f2, f3, f4, f5⟩ := Hf.out.c6
    have ltf := Hf.out.lt
    go_wp2_with fail
    refine (CA.out _ ((Hl.out.below HB.out).more HB.out.size) ((Hlr.out.below HB.out).more HB.out.size) ((Hlg.out.below HB.out).more HB.out.size) ((Hrs.out.below HB.out).more HB.out.size)).mono ?_
    rintro e w2 ⟨v, rfl, ho, hb⟩
    replace HB := hide (onward HB.out hb)
    replace Hm := hide (blk_later Hm.out hb)
    replace Hsw := hide (blk_later Hsw.out hb)
    replace He := hide (blk_later He.out hb)
    replace Hf := hide (blk_later Hf.out hb)
    clear hb m0 m1 m2 m3 m4 m5 m6 m7 ltm x0 x1 x2 x3 x4 x5 x6 x7 x8 x9 x10 ltx y0 y1 lty f0 f1 f2 f3 f4 f5 ltf
    obtain ⟨A1, k1, rfl⟩ := own_slice ho
    have Ho1 := hide ho
    clear ho
    go_wp2_with fail
    obtain ⟨m0, m1, m2, m3, m4, m5, m6, m7⟩ := Hm.out.c8
    have ltm := Hm.out.lt
    have x0 := Hsw.out.c 0 rfl
    have x1 := Hsw.out.c 1 rfl
    have x2 := Hsw.out.c 2 rfl
    have x3 := Hsw.out.c 3 rfl
    have x4 := Hsw.out.c 4 rfl
    have x5 := Hsw.out.c 5 rfl
    have x6 := Hsw.out.c 6 rfl
    have x7 := Hsw.out.c 7 rfl
    have x8 := Hsw.out.c 8 rfl
    have x9 := Hsw.out.c 9 rfl
    have x10 := Hsw.out.c 10 rfl
    have ltx := Hsw.out.lt
    obtain ⟨y0, y1⟩ := He.out.c2
    have lty := He.out.lt
    obtain ⟨f0, f1, f2, f3, f4, f5⟩ := Hf.out.c6
    have ltf := Hf.out.lt
    apply wp_region_L (w0 := w2) [[], [], [], [], [], [], [1], [1, 6], [1, 6, 7], [1, 6, 7], [1, 6, 7, 8], [1, 6, 7, 8, 9, 10]] [true, false, true, true, true, true, false, false, false, false, false, false] [⟨1, none, [], []⟩, ⟨6, none, [1], []⟩, ⟨7, none, [], [6]⟩, ⟨8, none, [], [7]⟩, ⟨9, none, [], [7]⟩, ⟨10, none, [], [8]⟩, ⟨11, none, [], [9]⟩] (fun ixq y => match ixq with | 1 => .agg #[.slice (y 0).1 nl (y 0).2, .slice (y 1).1 nr (y 1).2, .int .i64 a0, .int .i64 a1, .int .i64 b0, .int .i64 b1, .int .i64 c0, .int .i64 c1] | 6 => .tuple #[.slice (y 0).1 RL.length (y 0).2, .int .i64 E] | 7 => .tuple #[.slice (y 0).1 RL.length (y 0).2, .int .i64 E] | 8 => .slice (y 0).1 RL.length (y 0).2 | 9 => .int .i64 E | 10 => .slice (y 0).1 RL.length (y 0).2 | 11 => .int .i64 E | _ => undef) (fun ixq x F wq => match ixq with | 1 => OwnF wq F w2.heap.size 109 2 (.slice (x 1 0).1 nl (x 1 0).2) nl ((flat2 l).map (Value.int .i64)) ∧ OwnF wq F w2.heap.size 109 2 (.slice (x 1 1).1 nr (x 1 1).2) nr ((flat2 rt).map (Value.int .i64)) | 6 => OwnF wq F w2.heap.size 24 2 (.slice (x 6 0).1 RL.length (x 6 0).2) RL.length (spanCells RL) | 7 => x 7 = x 6 | 8 => x 8 = x 7 | 9 => x 9 = x 7 | 10 => x 10 = x 8 | 11 => x 11 = x 9 | _ => True) (fun a x => (((((((a).put (some 32) (.agg #[.slice ((x 1) 0).1 nl ((x 1) 0).2, .slice ((x 1) 1).1 nr ((x 1) 1).2, .int .i64 a0, .int .i64 a1, .int .i64 b0, .int .i64 b1, .int .i64 c0, .int .i64 c1])).put (some 37) (.tuple #[.slice ((x 6) 0).1 RL.length ((x 6) 0).2, .int .i64 E])).put (some 30) (.tuple #[.slice ((x 7) 0).1 RL.length ((x 7) 0).2, .int .i64 E])).put (some 38) (.slice ((x 8) 0).1 RL.length ((x 8) 0).2)).put (some 39) (.int .i64 E)).put (some 13) (.slice ((x 10) 0).1 RL.length ((x 10) 0).2)).put (some 14) (.int .i64 E)) (by kernel_rfl) (by kernel_rfl) (fun x => putH_step (some 32) (.agg #[.slice ((x 1) 0).1 nl ((x 1) 0).2, .slice ((x 1) 1).1 nr ((x 1) 1).2, .int .i64 a0, .int .i64 a1, .int .i64 b0, .int .i64 b1, .int .i64 c0, .int .i64 c1]) rfl rfl <| putH_step (some 37) (.tuple #[.slice ((x 6) 0).1 RL.length ((x 6) 0).2, .int .i64 E]) rfl rfl <| putH_step (some 30) (.tuple #[.slice ((x 7) 0).1 RL.length ((x 7) 0).2, .int .i64 E]) rfl rfl <| putH_step (some 38) (.slice ((x 8) 0).1 RL.length ((x 8) 0).2) rfl rfl <| putH_step (some 39) (.int .i64 E) rfl rfl <| putH_step (some 13) (.slice ((x 10) 0).1 RL.length ((x 10) 0).2) rfl rfl <| putH_step (some 14) (.int .i64 E) rfl rfl <| putH_end) [] (by kernel_rfl)
    · intro x D hD
      have hne := hD.some
      have k0 := liftB hD m0 (by first | assumption | omega)
      have k1 := liftB hD m1 (by first | assumption | omega)
      have k2 := liftB hD m2 (by first | assumption | omega)
      have k3 := liftB hD m3 (by first | assumption | omega)
      have k4 := liftB hD m4 (by first | assumption | omega)
      have k5 := liftB hD m5 (by first | assumption | omega)
      have k6 := liftB hD m6 (by first | assumption | omega)
      have k7 := liftB hD m7 (by first | assumption | omega)
      have j0 := liftB hD x0 (by first | assumption | omega)
      have j1 := liftB hD x1 (by first | assumption | omega)
      have j2 := liftB hD x2 (by first | assumption | omega)
      have j3 := liftB hD x3 (by first | assumption | omega)
      have j4 := liftB hD x4 (by first | assumption | omega)
      have j5 := liftB hD x5 (by first | assumption | omega)
      have j6 := liftB hD x6 (by first | assumption | omega)
      have j7 := liftB hD x7 (by first | assumption | omega)
      have j8 := liftB hD x8 (by first | assumption | omega)
      have j9 := liftB hD x9 (by first | assumption | omega)
      have j10 := liftB hD x10 (by first | assumption | omega)
      have e0 := liftB hD y0 (by first | assumption | omega)
      have e1 := liftB hD y1 (by first | assumption | omega)
      have g0 := liftB hD f0 (by first | assumption | omega)
      have g1 := liftB hD f1 (by first | assumption | omega)
      have g2 := liftB hD f2 (by first | assumption | omega)
      have g3 := liftB hD f3 (by first | assumption | omega)
      have g4 := liftB hD f4 (by first | assumption | omega)
      have g5 := liftB hD f5 (by first | assumption | omega)
      simp only [takeOps, Act.put, List.setIfInBounds_toArray, List.set_cons_succ, List.set_cons_zero]
      repeat (go_big_quiet_step (fail))
      exact wpQuiet_nil rfl
    · exact fun _ h => absurd h (by simp)
    · refine ⟨?_, ?_, ?_, ?_, ?_, ?_, ?_, trivial⟩
      · refine obl_callL rfl (fun _ => by kernel_rfl) 9 (fun x => #[.agg #[.slice A nl cl, .slice Ar nr cr, .int .i64 a0, .int .i64 a1, .int .i64 b0, .int .i64 b1, .int .i64 c0, .int .i64 c1]]) (fun x w => by kernel_rfl) ?_
        intro x w F hL hN
        have hB := onward HB.out hL
        refine (model_own A nl cl l Ar nr cr rt (a0, a1) (b0, b1) (c0, c1) w Hn.out (by omega) Hnr.out (by omega) ((Hl.out.below hB).more hB.size) ((Hlr.out.below hB).more hB.size)).mono ?_
        rintro e w' ⟨v, rfl, hb, A1, e1, A2, e2, rfl, o1, o2⟩
        exact ⟨fun k => if k = 0 then (A1, e1) else (A2, e2), rfl, hb, (OwnF.of o1 (Nat.le_refl _)).base hL.size, (OwnF.of o2 (Nat.le_refl _)).base hL.size⟩
      · refine obl_callL rfl (fun _ => by kernel_rfl) 8 (fun x => #[.agg #[.slice (x 1 0).1 nl (x 1 0).2, .slice (x 1 1).1 nr (x 1 1).2, .int .i64 a0, .int .i64 a1, .int .i64 b0, .int .i64 b1, .int .i64 c0, .int .i64 c1], .agg #[.string s, .int .i64 sx, .int .i64 sy, .int .i64 z, .int .i64 r, .int .i64 g, .int .i64 st, .int .i64 wd, .int .i64 tilt, .int .i64 time, .slice As n cs], .agg #[.int .i64 elo, .int .i64 ehi], .agg #[.int .i64 gx, .int .i64 gy, .int .i64 gs, .int .i64 wi, .int .i64 hi, .slice Ag ng cg], .int .i64 ray]) (fun x w => by kernel_rfl) ?_
        intro x w F hL hN
        have n1 := hN 1 (by simp)
        have hB := onward HB.out hL
        refine (CR.out _ _ _ _ w (Ints.own n1.1.1 rfl (Nat.le_refl _)) (Ints.own n1.2.1 rfl (Nat.le_refl _)) ((Hlg.out.below hB).more hB.size) ((Hrs.out.below hB).more hB.size)).mono ?_
        rintro e w' ⟨v, rfl, ho, hb⟩
        obtain ⟨A2, k2, rfl⟩ := own_slice ho
        exact ⟨fun _ => (A2, k2), rfl, hb, (OwnF.of ho (Nat.le_refl _)).base hL.size⟩
      · exact obl_pure rfl (fun _ => by kernel_rfl) (fun x => x 6) (fun x w => by kernel_rfl) (fun x w => rfl)
      · exact obl_pure rfl (fun _ => by kernel_rfl) (fun x => x 7) (fun x w => by kernel_rfl) (fun x w => rfl)
      · exact obl_pure rfl (fun _ => by kernel_rfl) (fun x => x 7) (fun x w => by kernel_rfl) (fun x w => rfl)
      · exact obl_pure rfl (fun _ => by kernel_rfl) (fun x => x 8) (fun x w => by kernel_rfl) (fun x w => rfl)
      · exact obl_pure rfl (fun _ => by kernel_rfl) (fun x => x 9) (fun x w => by kernel_rfl) (fun x w => rfl)
    · refine ⟨?_, ?_, ?_, ?_, ?_, ?_, ?_, trivial⟩
      · refine ⟨fun x F wq wq' h hs hk => ?_, fun x x' F wq hx h => ?_⟩
        · have h2 : OwnF wq F w2.heap.size 109 2 (.slice (x 1 0).1 nl (x 1 0).2) nl ((flat2 l).map (Value.int .i64)) ∧ OwnF wq F w2.heap.size 109 2 (.slice (x 1 1).1 nr (x 1 1).2) nr ((flat2 rt).map (Value.int .i64)) := h
          exact ⟨h2.1.stab hk, h2.2.stab hk⟩
        · have h2 : OwnF wq F w2.heap.size 109 2 (.slice (x 1 0).1 nl (x 1 0).2) nl ((flat2 l).map (Value.int .i64)) ∧ OwnF wq F w2.heap.size 109 2 (.slice (x 1 1).1 nr (x 1 1).2) nr ((flat2 rt).map (Value.int .i64)) := h
          rw [hx 1 (by simp)] at h2
          exact h2
      · refine ⟨fun x F wq wq' h hs hk => ?_, fun x x' F wq hx h => ?_⟩
        · have h2 : OwnF wq F w2.heap.size 24 2 (.slice (x 6 0).1 RL.length (x 6 0).2) RL.length (spanCells RL) := h
          exact h2.stab hk
        · have h2 : OwnF wq F w2.heap.size 24 2 (.slice (x 6 0).1 RL.length (x 6 0).2) RL.length (spanCells RL) := h
          rw [hx 6 (by simp)] at h2
          exact h2
      · exact owe_pure 6 (fun _ _ _ => rfl) (by simp)
      · exact owe_pure 7 (fun _ _ _ => rfl) (by simp)
      · exact owe_pure 7 (fun _ _ _ => rfl) (by simp)
      · exact owe_pure 8 (fun _ _ _ => rfl) (by simp)
      · exact owe_pure 9 (fun _ _ _ => rfl) (by simp)
    intro xx w3 F hK hlv1
    obtain ⟨fct1, fct6, fct7, fct8, fct9, fct10, fct11, -⟩ := hlv1
    replace fct1 : OwnF w3 (F 1) w2.heap.size 109 2 (.slice (xx 1 0).1 nl (xx 1 0).2) nl ((flat2 l).map (Value.int .i64)) ∧ OwnF w3 (F 1) w2.heap.size 109 2 (.slice (xx 1 1).1 nr (xx 1 1).2) nr ((flat2 rt).map (Value.int .i64)) := fct1 rfl
    replace fct6 : OwnF w3 (F 6) w2.heap.size 24 2 (.slice (xx 6 0).1 RL.length (xx 6 0).2) RL.length (spanCells RL) := fct6 rfl
    replace fct7 : xx 7 = xx 6 := fct7 rfl
    replace fct8 : xx 8 = xx 7 := fct8 rfl
    replace fct9 : xx 9 = xx 7 := fct9 rfl
    replace fct10 : xx 10 = xx 8 := fct10 rfl
    replace fct11 : xx 11 = xx 9 := fct11 rfl
    have ho3 := fct6.1
    have e10 : xx 10 = xx 6 := fct10.trans (fct8.trans fct7)
    rw [e10]
    clear e10 fct7 fct8 fct9 fct10 fct11
    replace HB := hide (onward HB.out hK)
    replace Hm := hide (blk_later Hm.out hK)
    replace Hsw := hide (blk_later Hsw.out hK)
    replace He := hide (blk_later He.out hK)
    replace Hf := hide (blk_later Hf.out hK)
    replace Ho1 := hide (own_later Ho1.out hK)
    clear hK m0 m1 m2 m3 m4 m5 m6 m7 ltm x0 x1 x2 x3 x4 x5 x6 x7 x8 x9 x10 ltx y0 y1 lty f0 f1 f2 f3 f4 f5 ltf
    have Ho2 := hide ho3
    clear ho3
    clear fct1 fct6
    go_wp2_with fail
    have c5 := same_any A1 RL.length k1 RL (xx 6 0).1 RL.length (xx 6 0).2 RL w3 rfl (by omega) rfl (by omega) (ints_spans Ho1.out) (ints_spans Ho2.out)
    rw [show decide (RL = RL) = true from decide_eq_true rfl] at c5
    refine (c5).mono ?_
    rintro e w4 ⟨rfl, hb⟩
    replace HB := hide (onward HB.out hb)
    replace Hm := hide (blk_later Hm.out hb)
    replace Hsw := hide (blk_later Hsw.out hb)
    replace He := hide (blk_later He.out hb)
    replace Hf := hide (blk_later Hf.out hb)
    replace Ho1 := hide (own_later Ho1.out hb)
    replace Ho2 := hide (own_later Ho2.out hb)
    clear hb
    clear Ho1 Ho2
    clear c5
    go_wp2_with fail
    refine (works_any _).mono ?_
    rintro e w5 ⟨rfl, hb⟩
    replace HB := hide (onward HB.out hb)
    replace Hm := hide (blk_later Hm.out hb)
    replace Hsw := hide (blk_later Hsw.out hb)
    replace He := hide (blk_later He.out hb)
    replace Hf := hide (blk_later Hf.out hb)
    clear hb
    go_wp2
    go_ret
    exact ⟨rfl, HB.out⟩
end Go.Proofs.YtepgpihobmjbdaaGreat
namespace Go.Proofs.YtepgpihobmjbdaaGreat
open Go Go.RowKit Go.ChangeShapes Go.WideShapes Go.Deep

theorem aiInt : AllInts Tryz.prog 3 .i64 1 := allInts_int Tryz.underlying3 (by kernel_rfl)
theorem aiSpan : AllInts Tryz.prog 24 .i64 2 := allInts_struct Tryz.underlying24 (by kernel_rfl) (fun c hc => by
  match c, hc with
  | 0, _ => exact ⟨0, _, 1, rfl, aiInt, by simp, by simp⟩
  | 1, _ => exact ⟨1, _, 1, rfl, aiInt, by simp, by simp⟩)
theorem aiPoint : AllInts Tryz.prog 85 .i64 2 := allInts_struct Tryz.underlying85 (by kernel_rfl) (fun c hc => by
  match c, hc with
  | 0, _ => exact ⟨0, _, 1, rfl, aiInt, by simp, by simp⟩
  | 1, _ => exact ⟨1, _, 1, rfl, aiInt, by simp, by simp⟩)

theorem unflat2 : ∀ (n : Nat) (zs : List Int), zs.length = n * 2 → ∃ l : List (Int × Int), flat2 l = zs ∧ l.length = n
  | 0, zs, h => ⟨[], by simp at h; rw [h]; rfl, rfl⟩
  | n + 1, zs, h => by
    match zs, h with
    | a :: b :: r, h =>
      obtain ⟨l, h1, h2⟩ := unflat2 n r (by simp at h; omega)
      exact ⟨(a, b) :: l, by simp [flat2, h1], by simp [h2]⟩
    | [_], h => simp at h; omega
    | [], h => simp at h

section
variable {H : Type} {enc : TypeId × Value → H} {w : World} {base : Nat} {spare : Nat → Bool} {held : Bool}
theorem read_points {n : Nat} {cs : List Value} {y : DataW H × List MemPlace} (h : DataW.trod enc Tryz.prog w base spare held n 22 cs = some y) :
    ∃ (A : Option Addr) (len cap : Nat) (l : List (Int × Int)), cs = [.slice A len cap] ∧ l.length = len ∧ len ≤ maxLen ∧ Ints w w.heap.size .i64 A (flat2 l) := by
  obtain ⟨A, len, cap, zs, h1, h2, h3, h4, _⟩ := read_slice Tryz.underlying22 aiPoint (by decide) h
  obtain ⟨l, h5, h6⟩ := unflat2 len zs h2
  exact ⟨A, len, cap, l, h1, h6, h3, by rw [h5]; exact h4⟩
theorem read_span {n : Nat} {cs : List Value} {y : DataW H × List MemPlace} (h : DataW.trod enc Tryz.prog w base spare held n 24 cs = some y) : ∃ a b : Int, cs = [.int .i64 a, .int .i64 b] := by
  obtain ⟨zs, h1, h2, _⟩ := aiSpan.2 _ _ _ _ _ _ _ _ _ h
  match zs, h2 with
  | [a, b], _ => exact ⟨a, b, h1⟩

theorem list1 {α : Type} {l : List α} {n : Nat} (h : l.length = n + 1) : ∃ x r, l = x :: r ∧ r.length = n := by
  cases l with
  | nil => simp at h
  | cons x r => exact ⟨x, r, rfl, by simpa using h⟩
theorem list8 {α : Type} {l : List α} (h : l.length = 8) : ∃ x0 x1 x2 x3 x4 x5 x6 x7, l = [x0, x1, x2, x3, x4, x5, x6, x7] := by
  obtain ⟨x0, l0, rfl, h0⟩ := list1 h
  obtain ⟨x1, l1, rfl, h1⟩ := list1 h0
  obtain ⟨x2, l2, rfl, h2⟩ := list1 h1
  obtain ⟨x3, l3, rfl, h3⟩ := list1 h2
  obtain ⟨x4, l4, rfl, h4⟩ := list1 h3
  obtain ⟨x5, l5, rfl, h5⟩ := list1 h4
  obtain ⟨x6, l6, rfl, h6⟩ := list1 h5
  obtain ⟨x7, l7, rfl, h7⟩ := list1 h6
  obtain rfl := List.eq_nil_of_length_eq_zero h7
  exact ⟨x0, x1, x2, x3, x4, x5, x6, x7, rfl⟩
set_option maxRecDepth 100000 in
theorem open_model {r : Reach} {b0 : Nat} {v : Value} {d : DataW H} {ps : List MemPlace} (hv : Value.okWide Tryz.prog w r b0 26 v) (h : DataW.Trod enc Tryz.prog w base spare held 26 v d ps) :
    ∃ (A : Option Addr) (n c : Nat) (l : List (Int × Int)) (A' : Option Addr) (n' c' : Nat) (m : List (Int × Int)) (a0 a1 b0 b1 c0 c1 : Int),
      v = .agg #[.slice A n c, .slice A' n' c', .int .i64 a0, .int .i64 a1, .int .i64 b0, .int .i64 b1, .int .i64 c0, .int .i64 c1] ∧
      l.length = n ∧ n ≤ maxLen ∧ m.length = n' ∧ n' ≤ maxLen ∧ Ints w w.heap.size .i64 A (flat2 l) ∧ Ints w w.heap.size .i64 A' (flat2 m) := by
  obtain ⟨cs, rfl, hsz⟩ := okWide_struct Tryz.underlying26 hv
  have e8 : Tryz.prog.cellsOf 26 = 8 := by kernel_rfl
  have e1 : Tryz.prog.cellsOf 22 = 1 := by kernel_rfl
  have e2 : Tryz.prog.cellsOf 24 = 2 := by kernel_rfl
  obtain ⟨fuel, hf⟩ := h
  obtain ⟨xs, n, _, _, hl, hxl, hg⟩ := DataW.trod_struct Tryz.underlying26 hf
  obtain ⟨q0, q1, q2, q3, q4, q5, q6, q7, hq⟩ := list8 (l := cs.toList) (by simpa using hsz.trans e8)
  have hcs : cs = #[q0, q1, q2, q3, q4, q5, q6, q7] := by rw [← Array.toArray_toList (xs := cs), hq]
  subst hcs
  have g0 := hg 0 _ rfl
  have g1 := hg 1 _ rfl
  have g2 := hg 2 _ rfl
  have g3 := hg 3 _ rfl
  have g4 := hg 4 _ rfl
  simp only [Value.cells] at g0 g1 g2 g3 g4
  have ex : ∀ i, i < 5 → ∃ y, xs[i]? = some y := fun i hi => ⟨xs[i]'(by rw [hxl]; exact hi), List.getElem?_eq_getElem _⟩
  obtain ⟨y0, h0⟩ := ex 0 (by omega)
  obtain ⟨y1, h1⟩ := ex 1 (by omega)
  obtain ⟨y2, h2⟩ := ex 2 (by omega)
  obtain ⟨y3, h3⟩ := ex 3 (by omega)
  obtain ⟨y4, h4⟩ := ex 4 (by omega)
  rw [h0] at g0
  rw [h1] at g1
  rw [h2] at g2
  rw [h3] at g3
  rw [h4] at g4
  obtain ⟨A, len, cap, l, k0, k1, k2, k3⟩ := read_points g0
  obtain ⟨A', len', cap', m, j0, j1, j2, j3⟩ := read_points g1
  obtain ⟨a0, a1, s0⟩ := read_span g2
  obtain ⟨b0, b1, s1⟩ := read_span g3
  obtain ⟨c0, c1, s2⟩ := read_span g4
  simp [e1] at k0 j0
  simp [e2] at s0 s1 s2
  obtain rfl := k0
  obtain rfl := j0
  obtain ⟨rfl, rfl⟩ := s0
  obtain ⟨rfl, rfl⟩ := s1
  obtain ⟨rfl, rfl⟩ := s2
  exact ⟨A, len, cap, l, A', len', cap', m, a0, a1, b0, b1, c0, c1, rfl, k1, k2, j1, j2, k3, j3⟩
set_option maxRecDepth 100000 in
theorem open_span {r : Reach} {b0 : Nat} {v : Value} {d : DataW H} {ps : List MemPlace} (hv : Value.okWide Tryz.prog w r b0 24 v) (h : DataW.Trod enc Tryz.prog w base spare held 24 v d ps) :
    ∃ a b : Int, v = .agg #[.int .i64 a, .int .i64 b] := by
  obtain ⟨zs, h1, h2, _⟩ := open_struct Tryz.underlying24 aiSpan hv h
  match zs, h2 with
  | [a, b], _ => exact ⟨a, b, h1⟩
end
end Go.Proofs.YtepgpihobmjbdaaGreat
