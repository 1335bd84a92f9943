/-
  Gauges: rain's contracts and the reference's.
  The scales of a pair: rain's contract.
  The scales that suit all pairs: what rain and the reference compute, and that both answer the same; no program in sight.
  What the scales of some pairs have in common: rain's meet, at its one instance.
-/
import Derived.Test.YtjkelpelmljanaaTgValues
import Derived.Test.YtjkelpelmljanaaRegionStep
import Derived.Test.YtjkelpelmljanaaRegH
set_option linter.unusedSimpArgs false
set_option linter.unusedVariables false
namespace Go.Proofs.Ytjkelpelmljanaa
open Go.RowKit

theorem valid_any (t s : Int) (w : World) :
    Calls Try.prog 33 #[.agg #[.int .i64 t, .int .i64 s]] w fun e w' => e = .returned (.bool (okG t s)) ∧ Below w.heap.size w w' := by
  by_cases h1 : win t 0 1000000 = true
  · have hE : okG t s = win s 1 10000 := by simp [okG, h1]
    have HE := hide hE
    clear hE
    go_enter Try.func33, Try.ntmps33
    go_wp2_with (go_at_call 15; refine (within_anyR _ _ _ _).mono ?_; rintro e w' ⟨rfl, rfl⟩)
    go_ret
    exact ⟨(ret_bool HE.out).symm, (Below.refl _ _).alloc (Nat.le_refl _) _⟩
  · have h2 : win t 0 1000000 = false := by simpa using h1
    have hE : okG t s = false := by simp [okG, h2]
    have HE := hide hE
    clear hE h1
    go_enter Try.func33, Try.ntmps33
    go_wp2_with (go_at_call 15; refine (within_anyR _ _ _ _).mono ?_; rintro e w' ⟨rfl, rfl⟩)
    go_ret
    exact ⟨(ret_bool HE.out).symm, (Below.refl _ _).alloc (Nat.le_refl _) _⟩

theorem fell_any (t s : Int) (w : World) (h : okG t s = true) :
    Calls Try.prog 42 #[.agg #[.int .i64 t, .int .i64 s]] w fun e w' => e = .returned (spanV (fellS t s)) ∧ Below w.heap.size w w' := by
  obtain ⟨a1, a2, a3, a4, a5, a6, a7, a8⟩ := gauge_bd h
  clear h
  go_enter Try.func42, Try.ntmps42
  go_wp2
  all_goals
    refine bodyPost_ret (v := spanV (fellS t s)) (by simp [spanV, fellS, results, Try.results42, go_sem]; omega) rfl ⟨rfl, ?_⟩
    exact ((Below.refl _ _).alloc (Nat.le_refl _) _).alloc (by simp) _

end Go.Proofs.Ytjkelpelmljanaa
namespace Go.Proofs.Ytjkelpelmljanaa
open Go.RowKit

set_option maxHeartbeats 2000000 in
set_option maxRecDepth 100000 in
theorem scales_any (lo hi t s : Int) (w : World) (h : okP4 lo hi t s = true) :
    Calls Try.prog 35 #[.agg #[.int .i64 lo, .int .i64 hi, .int .i64 t, .int .i64 s]] w fun e w' => e = .returned (spanV (scS lo hi t s)) ∧ Below w.heap.size w w' := by
  obtain ⟨h1, h2, h3, h4⟩ := okP4_iff h
  have hf := fun W => fell_any t s W h4
  obtain ⟨b1, b2, b3, b4⟩ := fell_bd h4
  have hS : scS lo hi t s = if 0 < hi then (max 1 (cdiv (1000 * (fellS t s).1) hi), if 0 < lo then min 100000 (1000 * (fellS t s).2 / lo) else 100000) else if 0 < (fellS t s).1 then (1, 0) else (1, 100000) := rfl
  generalize scS lo hi t s = r at *
  generalize fellS t s = gg at *
  obtain ⟨g1, g2⟩ := gg
  simp only at hf hS b1 b2 b3 b4
  have HF := hide hf
  have HS := hide hS
  clear hf hS h h4
  go_enter Try.func35, Try.ntmps35
  go_wp2_with fail
  refine at_world fun W hW => ?_
  have bp : Blk W w.heap.size 58 #[.int .i64 lo, .int .i64 hi, .int .i64 t, .int .i64 s] := by rw [hW]; exact (Blk.new _ _ _).alloc _
  have bo : Blk W (w.heap.size + 1) 35 #[.int .i64 0, .int .i64 0] := by rw [hW]; exact blk_new_at (by simp)
  have BW : Below w.heap.size w W := by rw [hW]; exact ((Below.refl _ _).alloc (Nat.le_refl _) _).alloc (by simp) _
  clear hW
  refine (HF.out W).mono ?_
  rintro e w1 ⟨rfl, hb⟩
  have Hbp := hide (blk_later bp hb)
  have Hbo := hide (blk_later bo hb)
  have HB := hide (onward BW hb)
  clear bp bo BW hb HF
  unfold spanV
  simp only
  obtain ⟨p0, p1, p2, p3⟩ := Hbp.out.c4
  have ltp := Hbp.out.lt
  have lto := Hbo.out.lt
  have hw01 : w.heap.size + 1 < w1.heap.size := lto
  by_cases c1 : 0 < hi
  · have hS := HS.out
    rw [if_pos c1] at hS
    go_wp2_with fail
    refine code_world fun W2 hW => ?_
    have b3' : Blk W2 w1.heap.size 35 #[.int .i64 1, .int .i64 100000] := by rw [hW]; exact (Blk.new _ _ _).alloc _
    have b4' : Blk W2 (w1.heap.size + 1) 35 #[.int .i64 g1, .int .i64 g2] := by rw [hW]; exact blk_new_at (by simp)
    have LW : Later w1 W2 := by rw [hW]; exact ((Below.refl _ _).alloc (Nat.le_refl _) _).alloc (by simp) _
    clear hW p0 p1 p2 p3 ltp lto
    replace Hbp := hide (blk_later Hbp.out LW)
    replace Hbo := hide (blk_later Hbo.out LW)
    replace HB := hide (onward HB.out LW)
    have Hb3 := hide b3'
    have Hb4 := hide b4'
    obtain ⟨p0, p1, p2, p3⟩ := Hbp.out.c4
    obtain ⟨q0, q1⟩ := Hb3.out.c2
    obtain ⟨s0, s1⟩ := Hb4.out.c2
    have ltp := Hbp.out.lt
    have lto := Hbo.out.lt
    have lt3 := Hb3.out.lt
    have lt4 := Hb4.out.lt
    have hup : ∃ u, cdiv (1000 * g1) hi = u ∧ ∀ W, Calls Try.prog 31 #[.int .i64 (1000 * g1), .int .i64 hi] W fun e w' => e = .returned (.int .i64 u) ∧ W = w' := ⟨_, rfl, fun W => up_anyR _ _ _ (by omega) (by omega) (by omega) (by omega)⟩
    obtain ⟨u, hu, hup⟩ := hup
    have hu0 : 0 ≤ u ∧ u ≤ 10000000001000 := by
      have := cdiv_bd' (a := 1000 * g1) (b := hi) (by omega) (by omega)
      omega
    obtain ⟨hu1, hu2⟩ := hu0
    obtain ⟨mx, emx⟩ : ∃ mx, (if 1 < u then u else 1) = mx := ⟨_, rfl⟩
    have HM := hide ((max_if 1 u).trans emx)
    rw [hu] at hS
    have HS2 := hide hS
    clear hu hS HS b3' b4' LW
    apply wp_region_F (w0 := W2) [[], [0], [], [2], [2, 3], [], [5], [5, 6], [2, 3, 4, 5, 6, 7], [0, 1, 2, 3, 4, 5, 6, 7, 8], [0, 1, 2, 3, 4, 5, 6, 7, 8, 9], [0, 1, 2, 3, 4, 5, 6, 7, 8, 9, 10]] [true, true, true, true, true, true, true, true, true, true, true, false] [false, false, false, false, false, false, false, false, false, false, false, false] [⟨11, none, [], []⟩] [(11, w1.heap.size)] [11] (fun ixq y => match ixq with | 11 => undef | _ => undef) (fun ixq x F wq => match ixq with | 11 => F w1.heap.size ∧ Blk wq w1.heap.size 35 #[.int .i64 mx, .int .i64 100000] | _ => True) (fun a x => (a).put (none) (undef)) (by kernel_rfl) (by kernel_rfl) (by kernel_rfl) (fun _ => rfl) [22] (by kernel_rfl) (fills_lt1 (by omega)) fills_ne1
    · intro x D hD
      have hne := hD.some
      have k0 := liftS hD p0 (by exact early_all (by first | assumption | omega) (by rfl))
      have k1 := liftS hD p1 (by exact early_all (by first | assumption | omega) (by rfl))
      have k2 := liftS hD q0 (by exact early_all (by first | assumption | omega) (by rfl))
      have k3 := liftS hD q1 (by exact early_all (by first | assumption | omega) (by rfl))
      have k4 := liftS hD s0 (by exact early_all (by first | assumption | omega) (by rfl))
      have k5 := liftS hD s1 (by exact early_all (by first | assumption | omega) (by rfl))
      simp only [takeOps, Act.put, List.setIfInBounds_toArray, List.set_cons_succ, List.set_cons_zero]
      repeat (go_big_quiet_step ((go_at_call 31; exact calls_same _ (hup _))))
      exact wpQuiet_nil rfl
    · exact fun x D hD => wpQuiet_nil rfl
    · intro d hd x x'
      simp only [List.mem_cons, List.not_mem_nil, or_false] at hd
      rcases hd with rfl
      all_goals rfl
    · refine ⟨?_, trivial⟩
      · exact obl_set 3 35 24 23 w1.heap.size 0 _ (mx) #[.int .i64 mx, .int .i64 100000] (by kernel_rfl) (fun _ => rfl) (fun _ => rfl) Hb3.out eb_fill1 (by simp [wrF]) (by kernel_rfl) (by simp) (by simp) (fun _ => rfl) (fun _ _ _ _ h1 h2 => ⟨h1, h2⟩)
    · refine ⟨?_, trivial⟩
      · exact owe_fill w1.heap.size 35 (fun x => #[.int .i64 mx, .int .i64 100000]) (fun _ _ _ => rfl) (fun _ _ _ => rfl)
    intro xx w3 F hK hlv1
    obtain ⟨fct11, -⟩ := hlv1
    replace fct11 : (F 11) w1.heap.size ∧ Blk w3 w1.heap.size 35 #[.int .i64 mx, .int .i64 100000] := fct11 rfl
    have hgr := grown_kept hK
    have hb3 := fct11.2
    have HB3 := hide (below_grown HB.out hgr HB.out.size (fun q hq => by simp at hq; omega))
    have Hbp3 := hide (blk_grown Hbp.out hgr (by simp; omega))
    have Hbo3 := hide (blk_grown Hbo.out hgr (by simp; omega))
    have Hb43 := hide (blk_grown Hb4.out hgr (by simp))
    have Hb33 := hide hb3
    clear hgr hK fct11 hb3 p0 p1 p2 p3 q0 q1 s0 s1 ltp lto lt3 lt4 Hbp Hbo Hb3 Hb4 HB emx hup
    obtain ⟨p0, p1, p2, p3⟩ := Hbp3.out.c4
    obtain ⟨q0, q1⟩ := Hb33.out.c2
    obtain ⟨s0, s1⟩ := Hb43.out.c2
    obtain ⟨e0, e1⟩ := Hbo3.out.c2
    have f0 := Hbo3.out.frozen 0
    have f1 := Hbo3.out.frozen 1
    have ltp := Hbp3.out.lt
    have lto := Hbo3.out.lt
    have lt3 := Hb33.out.lt
    have lt4 := Hb43.out.lt
    by_cases c2 : 0 < lo
    · have hS := HS2.out
      rw [if_pos c2] at hS
      have hdn : ∃ u, 1000 * g2 / lo = u ∧ ∀ W, Calls Try.prog 30 #[.int .i64 (1000 * g2), .int .i64 lo] W fun e w' => e = .returned (.int .i64 u) ∧ W = w' := ⟨_, rfl, fun W => down_any _ _ _ (by omega) (by omega) (by omega) (by omega)⟩
      obtain ⟨v, hv, hdn⟩ := hdn
      obtain ⟨mn, emn⟩ : ∃ mn, (if v < 100000 then v else 100000) = mn := ⟨_, rfl⟩
      rw [hv, HM.out, (min_if 100000 v).trans emn] at hS
      have HS3 := hide hS
      clear hv hS HS2 HM e0 e1 f0 f1
      go_wp2_with fail
      apply wp_region_F (w0 := w3) [[], [0], [], [2], [2, 3], [], [5], [5, 6], [2, 3, 4, 5, 6, 7], [0, 1, 2, 3, 4, 5, 6, 7, 8], [0, 1, 2, 3, 4, 5, 6, 7, 8, 9], [0, 1, 2, 3, 4, 5, 6, 7, 8, 9, 10]] [true, true, true, true, true, true, true, true, true, true, true, false] [false, false, false, false, false, false, false, false, false, false, false, false] [⟨11, none, [], []⟩] [(11, w1.heap.size)] [11] (fun ixq y => match ixq with | 11 => undef | _ => undef) (fun ixq x F wq => match ixq with | 11 => F w1.heap.size ∧ Blk wq w1.heap.size 35 #[.int .i64 mx, .int .i64 mn] | _ => True) (fun a x => (a).put (none) (undef)) (by kernel_rfl) (by kernel_rfl) (by kernel_rfl) (fun _ => rfl) [42] (by kernel_rfl) (fills_lt1 (by omega)) fills_ne1
      · intro x D hD
        have hne := hD.some
        have k0 := liftS hD p0 (by exact early_all (by first | assumption | omega) (by rfl))
        have k1 := liftS hD p1 (by exact early_all (by first | assumption | omega) (by rfl))
        have k2 := liftS hD q0 (by exact early_all (by first | assumption | omega) (by rfl))
        have k3 := liftS hD q1 (by exact early_all (by first | assumption | omega) (by rfl))
        have k4 := liftS hD s0 (by exact early_all (by first | assumption | omega) (by rfl))
        have k5 := liftS hD s1 (by exact early_all (by first | assumption | omega) (by rfl))
        simp only [takeOps, Act.put, List.setIfInBounds_toArray, List.set_cons_succ, List.set_cons_zero]
        repeat (go_big_quiet_step ((go_at_call 30; exact calls_same _ (hdn _))))
        exact wpQuiet_nil rfl
      · exact fun x D hD => wpQuiet_nil rfl
      · intro d hd x x'
        simp only [List.mem_cons, List.not_mem_nil, or_false] at hd
        rcases hd with rfl
        all_goals rfl
      · refine ⟨?_, trivial⟩
        · exact obl_set 3 35 44 43 w1.heap.size 1 _ (mn) #[.int .i64 mx, .int .i64 mn] (by kernel_rfl) (fun _ => rfl) (fun _ => rfl) Hb33.out eb_fill1 (by simp [wrF]) (by kernel_rfl) (by simp) (by simp) (fun _ => rfl) (fun _ _ _ _ h1 h2 => ⟨h1, h2⟩)
      · refine ⟨?_, trivial⟩
        · exact owe_fill w1.heap.size 35 (fun x => #[.int .i64 mx, .int .i64 mn]) (fun _ _ _ => rfl) (fun _ _ _ => rfl)
      intro xx2 w4 F hK hlv2
      obtain ⟨fct11, -⟩ := hlv2
      replace fct11 : (F 11) w1.heap.size ∧ Blk w4 w1.heap.size 35 #[.int .i64 mx, .int .i64 mn] := fct11 rfl
      have hgr := grown_kept hK
      have hb3 := fct11.2
      have HB4 := hide (below_grown HB3.out hgr HB3.out.size (fun q hq => by simp at hq; omega))
      have Hbo4 := hide (blk_grown Hbo3.out hgr (by simp; omega))
      obtain ⟨q0, q1⟩ := hb3.c2
      obtain ⟨e0, e1⟩ := Hbo4.out.c2
      have f0 := Hbo4.out.frozen 0
      have f1 := Hbo4.out.frozen 1
      have lto4 := Hbo4.out.lt
      have lt34 := hb3.lt
      clear hgr hK fct11 hb3 p0 p1 p2 p3 s0 s1 hdn emn
      go_wp2
      refine bodyPost_ret (v := spanV r) (by rw [HS3.out]; simp [spanV, results, Try.results35, go_sem, q0, q1, e0, e1, f0, f1, lto4, lt34]) rfl ⟨rfl, ?_⟩
      repeat (first | exact HB4.out | (refine Below.setCell ?_ (by first | omega | (simp; done) | (simp; omega)) _) | (refine Below.alloc ?_ (by first | omega | (simp; done) | (simp; omega)) _) | (refine below_drewN ?_ _))
    · have hS := HS2.out
      rw [if_neg c2, HM.out] at hS
      have HS3 := hide hS
      clear hS HS2 HM
      go_wp2
      refine bodyPost_ret (v := spanV r) (by rw [HS3.out]; simp [spanV, results, Try.results35, go_sem, q0, q1, e0, e1, f0, f1, lto, lt3]) rfl ⟨rfl, ?_⟩
      repeat (first | exact HB3.out | (refine Below.setCell ?_ (by first | omega | (simp; done) | (simp; omega)) _) | (refine Below.alloc ?_ (by first | omega | (simp; done) | (simp; omega)) _) | (refine below_drewN ?_ _))
  · have hS := HS.out
    rw [if_neg c1] at hS
    obtain ⟨e0, e1⟩ := Hbo.out.c2
    have f0 := Hbo.out.frozen 0
    have f1 := Hbo.out.frozen 1
    have c2 : ¬ 0 < lo := by omega
    by_cases c3 : 0 < g1
    · rw [if_pos c3] at hS
      have HS2 := hide hS
      clear hS HS
      go_wp2
      refine bodyPost_ret (v := spanV r) (by rw [HS2.out]; simp [spanV, results, Try.results35, go_sem, e0, e1, f0, f1, lto, (by omega : w.heap.size < w1.heap.size)]) rfl ⟨rfl, ?_⟩
      repeat (first | exact HB.out | (refine Below.setCell ?_ (by first | omega | (simp; done) | (simp; omega)) _) | (refine Below.alloc ?_ (by first | omega | (simp; done) | (simp; omega)) _) | (refine below_drewN ?_ _))
    · rw [if_neg c3] at hS
      have HS2 := hide hS
      clear hS HS
      go_wp2
      refine bodyPost_ret (v := spanV r) (by rw [HS2.out]; simp [spanV, results, Try.results35, go_sem, e0, e1, f0, f1, lto, (by omega : w.heap.size < w1.heap.size)]) rfl ⟨rfl, ?_⟩
      repeat (first | exact HB.out | (refine Below.setCell ?_ (by first | omega | (simp; done) | (simp; omega)) _) | (refine Below.alloc ?_ (by first | omega | (simp; done) | (simp; omega)) _) | (refine below_drewN ?_ _))
end Go.Proofs.Ytjkelpelmljanaa
namespace Go.Proofs.Ytjkelpelmljanaa

/-- The scales of pair k, of the cells of the pairs: rain's, the reference's. -/
def scZ (z : Nat → Int) (k : Nat) : Int × Int := scS (z (k * 4)) (z (k * 4 + 1)) (z (k * 4 + 2)) (z (k * 4 + 3))
def scY (z : Nat → Int) (k : Nat) : Int × Int := scR (z (k * 4)) (z (k * 4 + 1)) (z (k * 4 + 2)) (z (k * 4 + 3))
def okZ (z : Nat → Int) (k : Nat) : Bool := okP4 (z (k * 4)) (z (k * 4 + 1)) (z (k * 4 + 2)) (z (k * 4 + 3))
def meetG (sc : Nat → Int × Int) (f : Int × Int) : Nat → Int × Int
  | 0 => f
  | k + 1 => meetS (meetG sc f k) (sc k)
def meetK (z : Nat → Int) (f : Int × Int) : Nat → Int × Int := meetG (scZ z) f
/-- Two scales have nothing in common. -/
def conf (sc : Nat → Int × Int) (i j : Nat) : Bool := decide ((meetS (sc i) (sc j)).2 < (meetS (sc i) (sc j)).1)
def rowFR (cf : Nat → Nat → Bool) (i : Nat) : Nat → Nat → Option Nat
  | _, 0 => none
  | j, m + 1 => if cf i j = true then some j else rowFR cf i (j + 1) m
def findFR (cf : Nat → Nat → Bool) (n : Nat) : Nat → Nat → Option (Nat × Nat)
  | _, 0 => none
  | i, m + 1 => match rowFR cf i i (n - i) with
    | some j => some (i, j)
    | none => findFR cf n (i + 1) m
def atOfR : Option (Nat × Nat) → Int × Int
  | some p => (p.1, p.2)
  | none => (0, 0)
def adjG (ok : Nat → Bool) (sc : Nat → Int × Int) (n : Nat) : ((Int × Int) × (Int × Int)) × Int :=
  if n = 0 then (((0, 0), (0, 0)), 18) else if 100 < n then (((0, 0), (0, 0)), 9) else if ((List.range n).all ok) = false then (((0, 0), (0, 0)), 3)
  else if (meetG sc (1, 100000) n).1 ≤ (meetG sc (1, 100000) n).2 then ((meetG sc (1, 100000) n, (0, 0)), 0) else (((0, 0), atOfR (findFR (conf sc) n 0 n)), 14)

theorem row_eq {cf cg : Nat → Nat → Bool} {n i : Nat} (hi : i < n) (h : ∀ i j, i < n → j < n → cf i j = cg i j) : ∀ (m j : Nat), j + m ≤ n → rowFR cf i j m = rowFR cg i j m
  | 0, _, _ => rfl
  | m + 1, j, hj => by
    unfold rowFR
    rw [h i j hi (by omega), row_eq hi h m (j + 1) (by omega)]
theorem find_eq {cf cg : Nat → Nat → Bool} {n : Nat} (h : ∀ i j, i < n → j < n → cf i j = cg i j) : ∀ (m i : Nat), i + m ≤ n → findFR cf n i m = findFR cg n i m
  | 0, _, _ => rfl
  | m + 1, i, hi => by
    unfold findFR
    rw [row_eq (n := n) (by omega) h (n - i) i (by omega), find_eq h m (i + 1) (by omega)]

/-- Rain's scales and the reference's, side by side. -/
def Side (a b : Int × Int) : Prop := (1 ≤ a.1 ∧ a.2 ≤ 0 ∧ 100001 ≤ b.1 ∧ b.2 ≤ 100000) ∨ (a = b ∧ 1 ≤ a.1 ∧ a.2 ≤ 100000)
theorem side_sc {z : Nat → Int} {k : Nat} (h : okZ z k = true) : Side (scZ z k) (scY z k) := by
  unfold scZ scY
  rcases sc_cases h with ⟨h1, h2⟩ | ⟨h1, h2, h3⟩
  · left; rw [h1, h2]; simp
  · exact .inr ⟨h1, h2, h3⟩
theorem side_meet {a b c d : Int × Int} (h : Side a b) (k : Side c d) : Side (meetS a c) (meetS b d) := by
  unfold Side meetS at *
  rcases h with ⟨h1, h2, h3, h4⟩ | ⟨h1, h2, h3⟩ <;> rcases k with ⟨k1, k2, k3, k4⟩ | ⟨k1, k2, k3⟩
  · left; simp only; omega
  · subst k1; left; simp only; omega
  · subst h1; left; simp only; omega
  · subst h1; subst k1; right; exact ⟨rfl, by simp only; omega, by simp only; omega⟩
theorem side_le {a b : Int × Int} (h : Side a b) : (a.1 ≤ a.2 ↔ b.1 ≤ b.2) ∧ (a.1 ≤ a.2 → a = b) := by
  rcases h with ⟨h1, h2, h3, h4⟩ | ⟨h1, h2, h3⟩
  · exact ⟨⟨fun h => by omega, fun h => by omega⟩, fun h => by omega⟩
  · subst h1; exact ⟨Iff.rfl, fun _ => rfl⟩
theorem side_all {z : Nat → Int} : ∀ (n : Nat), (∀ k, k < n → okZ z k = true) → Side (meetG (scZ z) (1, 100000) n) (meetG (scY z) (1, 100000) n)
  | 0, _ => .inr ⟨rfl, by simp [meetG], by simp [meetG]⟩
  | n + 1, h => side_meet (side_all n fun k hk => h k (by omega)) (side_sc (h n (by omega)))
/-- Both answer the same. -/
theorem adj_eq (z : Nat → Int) (n : Nat) : adjG (okZ z) (scZ z) n = adjG (okZ z) (scY z) n := by
  unfold adjG
  by_cases h1 : n = 0
  · rw [if_pos h1, if_pos h1]
  rw [if_neg h1, if_neg h1]
  by_cases h2 : 100 < n
  · rw [if_pos h2, if_pos h2]
  rw [if_neg h2, if_neg h2]
  by_cases h3 : ((List.range n).all (okZ z)) = false
  · rw [if_pos h3, if_pos h3]
  rw [if_neg h3, if_neg h3]
  have hok : ∀ k, k < n → okZ z k = true := fun k hk => List.all_eq_true.1 (by simpa using h3) k (List.mem_range.2 hk)
  have hs := side_all n hok
  obtain ⟨e1, e2⟩ := side_le hs
  by_cases h4 : (meetG (scZ z) (1, 100000) n).1 ≤ (meetG (scZ z) (1, 100000) n).2
  · rw [if_pos h4, if_pos (e1.1 h4), e2 h4]
  · rw [if_neg h4, if_neg (fun h => h4 (e1.2 h))]
    have : findFR (conf (scZ z)) n 0 n = findFR (conf (scY z)) n 0 n := find_eq (fun i j hi hj => by
      have hm := side_le (side_meet (side_sc (hok i hi)) (side_sc (hok j hj)))
      unfold conf
      rw [decide_eq_decide]
      constructor
      · intro h
        rcases Int.lt_or_le (meetS (scY z i) (scY z j)).2 (meetS (scY z i) (scY z j)).1 with h' | h'
        · exact h'
        · have := hm.1.2 h'; omega
      · intro h
        rcases Int.lt_or_le (meetS (scZ z i) (scZ z j)).2 (meetS (scZ z i) (scZ z j)).1 with h' | h'
        · exact h'
        · have := hm.1.1 h'; omega) n 0 (by omega)
    rw [this]

theorem row_hitR {cf : Nat → Nat → Bool} {i j n : Nat} (hj : j < n) (h : cf i j = true) : rowFR cf i j (n - j) = some j := by
  rw [show n - j = (n - (j + 1)) + 1 by omega, rowFR, if_pos h]
theorem row_missR {cf : Nat → Nat → Bool} {i j n : Nat} (hj : j < n) (h : cf i j = false) : rowFR cf i j (n - j) = rowFR cf i (j + 1) (n - (j + 1)) := by
  rw [show n - j = (n - (j + 1)) + 1 by omega, rowFR, if_neg (by rw [h]; simp)]
theorem find_hitR {cf : Nat → Nat → Bool} {i j n : Nat} (hi : i < n) (h : rowFR cf i i (n - i) = some j) : findFR cf n i (n - i) = some (i, j) := by
  generalize hm : n - i = m at *
  cases m with
  | zero => omega
  | succ m => rw [findFR, hm, h]
theorem find_missR {cf : Nat → Nat → Bool} {i n : Nat} (hi : i < n) (h : rowFR cf i i (n - i) = none) : findFR cf n i (n - i) = findFR cf n (i + 1) (n - (i + 1)) := by
  have e : n - i = (n - (i + 1)) + 1 := by omega
  rw [e] at h
  rw [e, findFR, e, h]
end Go.Proofs.Ytjkelpelmljanaa
namespace Go.Proofs.Ytjkelpelmljanaa
open Go.RowKit

/-- What Adjust returns. -/
def adjV (r : ((Int × Int) × (Int × Int)) × Int) : Value := .tuple #[.agg #[.int .i64 r.1.1.1, .int .i64 r.1.1.2], .agg #[.int .i64 r.1.2.1, .int .i64 r.1.2.2], .int .i64 r.2]

/-- The four cells of pair k. -/
theorem Ints.pt4 {w : World} {B : Nat} {A : Option Addr} {zs : List Int} {n : Nat} (h : Ints w B .i64 A zs) (hz : zs.length = n * 4) (hn : 0 < n) : ∃ b off, A = some ⟨b, off, none⟩ ∧ b < B ∧
    ∀ k, k < n → w.cell? ⟨b, off + k * 4, none⟩ = some (.int .i64 (zs.getD (k * 4) 0)) ∧ w.cell? ⟨b, off + k * 4 + 1, none⟩ = some (.int .i64 (zs.getD (k * 4 + 1) 0)) ∧ w.cell? ⟨b, off + k * 4 + 2, none⟩ = some (.int .i64 (zs.getD (k * 4 + 2) 0)) ∧ w.cell? ⟨b, off + k * 4 + 3, none⟩ = some (.int .i64 (zs.getD (k * 4 + 3) 0)) := by
  obtain ⟨b, off, e, hb, hc⟩ := h (by omega)
  exact ⟨b, off, e, hb, fun k hk => ⟨hc (k * 4) (by omega), hc (k * 4 + 1) (by omega), hc (k * 4 + 2) (by omega), hc (k * 4 + 3) (by omega)⟩⟩
theorem blk_eq {w : World} {g : Nat} {t : TypeId} {cs cs' : Array Value} (h : Blk w g t cs) (e : cs = cs') : Blk w g t cs' := e ▸ h

set_option maxHeartbeats 2000000 in
set_option maxRecDepth 100000 in
theorem meet_any (a b : Int) (A : Option Addr) (n c : Nat) (zs : List Int) (w : World) (hz : zs.length = n * 4) (hmax : n ≤ 9223372036854775807) (hok : ∀ k, k < n → okZ (fun j => zs.getD j 0) k = true) (hl : Ints w w.heap.size .i64 A zs) :
    Calls Try.prog 34 #[.agg #[.int .i64 a, .int .i64 b], .slice A n c, .func (.func 35) #[] #[]] w fun e w' => e = .returned (spanV (meetK (fun j => zs.getD j 0) (a, b) n)) ∧ Below w.heap.size w w' := by
  generalize hzf : (fun j => zs.getD j 0) = z at *
  have Hz := hide hz
  have Hok := hide hok
  have hcs : 0 < n → ∃ b off, A = some ⟨b, off, none⟩ ∧ b < w.heap.size ∧ ∀ k, k < n → w.cell? ⟨b, off + k * 4, none⟩ = some (.int .i64 (z (k * 4))) ∧ w.cell? ⟨b, off + k * 4 + 1, none⟩ = some (.int .i64 (z (k * 4 + 1))) ∧ w.cell? ⟨b, off + k * 4 + 2, none⟩ = some (.int .i64 (z (k * 4 + 2))) ∧ w.cell? ⟨b, off + k * 4 + 3, none⟩ = some (.int .i64 (z (k * 4 + 3))) := fun h0 => by
    rw [← hzf]; exact hl.pt4 hz h0
  have Hcs := hide hcs
  clear hz hok hcs hl hzf
  go_enter Try.func34, Try.ntmps34
  go_wp2_with fail
  go_loopw [12] (fun i wr => ∃ k : Nat, k ≤ n ∧ i = .int .i64 k ∧ Below w.heap.size w wr ∧ Blk wr w.heap.size 35 #[.int .i64 (meetK z (a, b) k).1, .int .i64 (meetK z (a, b) k).2] ∧ Blk wr (w.heap.size + 1) 35 #[.int .i64 0, .int .i64 0])
    (fun i _ => n - (intOf i).toNat)
  case atStart => exact ⟨0, by omega, rfl, ((Below.refl _ _).alloc (Nat.le_refl _) _).alloc (by simp) _, (Blk.new _ _ _).alloc _, blk_new_at (by simp)⟩
  case round =>
    obtain ⟨k, hk, rfl, hbw, hbm, hbo⟩ := hrel
    have Hbw := hide hbw
    have Hbm := hide hbm
    have Hbo := hide hbo
    have hsz := hbw.size
    clear hbw hbm hbo
    by_cases hlt : k < n
    · obtain ⟨bb, off, rfl, hb, hc⟩ := Hcs.out (by omega)
      obtain ⟨c0, c1, c2, c3⟩ := hc k hlt
      have hk1 := Hok.out k hlt
      have hmk : meetK z (a, b) (k + 1) = meetS (meetK z (a, b) k) (scZ z k) := rfl
      unfold okZ at hk1
      unfold scZ at hmk
      have hsc := fun W => scales_any (z (k * 4)) (z (k * 4 + 1)) (z (k * 4 + 2)) (z (k * 4 + 3)) W hk1
      rw [← Hbw.out.cell hb] at c0 c1 c2 c3
      have Hmk := hide hmk
      have Hsc := hide hsc
      clear hc hk1 hmk hsc Hok Hcs Hz
      generalize scS (z (k * 4)) (z (k * 4 + 1)) (z (k * 4 + 2)) (z (k * 4 + 3)) = sc at *
      generalize z (k * 4) = z0 at *
      generalize z (k * 4 + 1) = z1 at *
      generalize z (k * 4 + 2) = z2 at *
      generalize z (k * 4 + 3) = z3 at *
      obtain ⟨s1, s2⟩ := sc
      generalize meetK z (a, b) k = m at *
      obtain ⟨m1, m2⟩ := m
      simp only at Hbm
      go_wp2_with fail
      refine at_world fun W hW => ?_
      have LW : Later wr W := by rw [hW]; exact (Below.refl _ _).alloc (Nat.le_refl _) _
      clear hW c0 c1 c2 c3
      refine (Hsc.out W).mono ?_
      rintro e w1 ⟨rfl, hb1⟩
      have L1 := LW.trans hb1
      replace Hbm := hide (blk_later Hbm.out L1)
      replace Hbo := hide (blk_later Hbo.out L1)
      replace Hbw := hide (onward Hbw.out L1)
      clear LW hb1 L1 Hsc
      unfold spanV
      simp only
      obtain ⟨p0, p1⟩ := Hbm.out.c2
      have f0 := Hbm.out.frozen 0
      have f1 := Hbm.out.frozen 1
      have ltm := Hbm.out.lt
      obtain ⟨mx, emx⟩ : ∃ mx, (if m1 < s1 then s1 else m1) = mx := ⟨_, rfl⟩
      obtain ⟨mn, emn⟩ : ∃ mn, (if s2 < m2 then s2 else m2) = mn := ⟨_, rfl⟩
      have hmk := Hmk.out
      unfold meetS at hmk
      rw [(max_if m1 s1).trans emx, (min_if m2 s2).trans emn] at hmk
      have Hmk2 := hide hmk
      clear hmk Hmk
      go_wp2
      go_roundw
      case rel =>
        refine ⟨k + 1, by omega, by go_num, ?_, ?_, ?_⟩
        · have := Hbw.out.size
          repeat (first | exact Hbw.out | (refine Below.setCell ?_ (by first | omega | (simp; done) | (simp; omega)) _) | (refine Below.alloc ?_ (by first | omega | (simp; done) | (simp; omega)) _) | (refine below_drewN ?_ _))
        · rw [Hmk2.out]
          exact blk_eq (((Hbm.out.set_ 0 (.int .i64 mx)).set_ 1 (.int .i64 mn)).alloc _) (by simp)
        · exact (((Hbo.out.far (by simp) _).far (by simp) _).alloc _)
      case measure => simp [intOf] <;> omega
    · obtain rfl : k = n := by omega
      obtain ⟨p0, p1⟩ := Hbm.out.c2
      obtain ⟨e0, e1⟩ := Hbo.out.c2
      have f0 := Hbo.out.frozen 0
      have f1 := Hbo.out.frozen 1
      have lto := Hbo.out.lt
      clear Hcs Hok Hz
      generalize hM : meetK z (a, b) k = m at *
      obtain ⟨m1, m2⟩ := m
      have HM := hide hM
      clear hM
      simp only at p0 p1
      go_wp2
      refine bodyPost_ret (v := spanV (m1, m2)) (by simp [spanV, results, Try.results34, go_sem, p0, p1, e0, e1, f0, f1, lto]) rfl ⟨by rw [HM.out], ?_⟩
      repeat (first | exact Hbw.out | (refine Below.setCell ?_ (by first | omega | (simp; done) | (simp; omega)) _) | (refine Below.alloc ?_ (by first | omega | (simp; done) | (simp; omega)) _) | (refine below_drewN ?_ _))
end Go.Proofs.Ytjkelpelmljanaa
