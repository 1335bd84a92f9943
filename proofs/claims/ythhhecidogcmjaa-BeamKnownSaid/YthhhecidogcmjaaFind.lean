/-
  Places found, pixels: the program's contracts.
-/
import Derived.Test.YthhhecidogcmjaaGates
namespace Go.Proofs.Ythhhecidogcmjaa
open Go Go.RowKit

/-- The gate to which a place (relative to the site) belongs. -/
def findZ (ro st t g dx dy : Int) : (Int × Int) × Bool :=
  if dx = 0 ∧ dy = 0 then ((0, 0), true) else if gateZ st t g (dx * dx + dy * dy) < 0 then ((0, 0), false) else ((rayZ ro dx dy, gateZ st t g (dx * dx + dy * dy)), true)
def findR (e t ro st g sx sy x y : Int) : (Int × Int) × Int :=
  if e ≠ 0 then ((0, 0), e) else if (winB t 0 256 && winB x (-4194304) 4194304 && winB y (-4194304) 4194304) = true then
    (if (findZ ro st t g (x - sx) (y - sy)).2 = true then ((findZ ro st t g (x - sx) (y - sy)).1, 0) else ((0, 0), 29)) else ((0, 0), 3)
def twoE (p : (Int × Int) × Int) : Value := .tuple #[.int .i64 p.1.1, .int .i64 p.1.2, .int .i64 p.2]
theorem sq_pos {d : Int} (h : -5300000 ≤ d ∧ d ≤ 5300000) : 0 ≤ d * d ∧ d * d ≤ 28090000000000 := by
  have := mul_bdB (a := d) (b := d) (A := 5300000) (B := 5300000)
  by_cases c : 0 ≤ d
  · have := this c h.2 c h.2; omega
  · have := mul_bdB (a := -d) (b := -d) (A := 5300000) (B := 5300000) (by omega) (by omega) (by omega) (by omega)
    rw [Int.neg_mul_neg] at this; omega

set_option maxHeartbeats 2000000 in
set_option maxRecDepth 100000 in
theorem find_any (s : ByteArray) (sx sy z ro g st wd t x y : Int) (w : World) (h1 : 0 ≤ st) (h1' : st ≤ 2000) (h2 : 0 ≤ t) (h3 : t ≤ 256) (h4 : 1 ≤ g) (h5 : g ≤ 200) (r1 : 1 ≤ ro) (r2 : ro ≤ 90)
    (X1 : -5300000 ≤ x - sx ∧ x - sx ≤ 5300000) (Y1 : -5300000 ≤ y - sy ∧ y - sy ≤ 5300000) :
    Calls Try.prog 74 #[siteV s sx sy z ro g st wd, .int .i64 t, .int .i64 x, .int .i64 y] w fun e w' => e = .returned (.tuple #[.int .i64 (findZ ro st t g (x - sx) (y - sy)).1.1, .int .i64 (findZ ro st t g (x - sx) (y - sy)).1.2, .bool (findZ ro st t g (x - sx) (y - sy)).2]) ∧ Below w.heap.size w w' := by
  obtain ⟨dx, hdx⟩ : ∃ d, x - sx = d := ⟨_, rfl⟩
  obtain ⟨dy, hdy⟩ := (⟨_, rfl⟩ : ∃ d, y - sy = d)
  have hx3 := X1.1
  have hx4 := X1.2
  have hy3 := Y1.1
  have hy4 := Y1.2
  rw [hdx, hdy]
  rw [hdx] at X1
  rw [hdy] at Y1
  obtain ⟨u1, u2⟩ := sq_pos X1
  obtain ⟨v1, v2⟩ := sq_pos Y1
  have hg := fun W => gate_any s sx sy z ro g st wd t (dx * dx + dy * dy) W h1 h1' h2 h3 h4 h5 (by omega) (by omega)
  have hr := fun W h0 => ray_any ro dx dy W r1 (by omega) (by omega) (by omega) h0
  unfold siteV at *
  have hF : findZ ro st t g dx dy = if dx = 0 ∧ dy = 0 then ((0, 0), true) else if gateZ st t g (dx * dx + dy * dy) < 0 then ((0, 0), false) else ((rayZ ro dx dy, gateZ st t g (dx * dx + dy * dy)), true) := rfl
  have gb := gate_cases (st := st) (t := t) (g := g) (w := dx * dx + dy * dy)
  have gb1 : -1 ≤ gateZ st t g (dx * dx + dy * dy) := by omega
  clear gb
  generalize findZ ro st t g dx dy = res at *
  generalize gateZ st t g (dx * dx + dy * dy) = gt at *
  generalize rayZ ro dx dy = ry at *
  obtain ⟨hx1, hx2⟩ := X1
  obtain ⟨hy1, hy2⟩ := Y1
  have Hg := hide hg
  have Hr := hide hr
  clear hg hr
  have Hdx := hide hdx
  have Hdy := hide hdy
  clear hdx hdy
  by_cases h0 : dx = 0 ∧ dy = 0
  · rw [if_pos h0] at hF
    have z1 : (dx == 0) = true := by simpa using h0.1
    have z2 : (dy == 0) = true := by simpa using h0.2
    clear h0
    have HF := hide hF
    have Z1 := hide z1
    have Z2 := hide z2
    clear hF z1 z2
    go_enter Try.func74, Try.ntmps74
    have HB := hide (Below.refl w.heap.size w)
    go_wp2_with fail
    refine code_world fun W hW => ?_
    have bq0 : Blk W w.heap.size 33 #[.string s, .int .i64 sx, .int .i64 sy, .int .i64 z, .int .i64 ro, .int .i64 g, .int .i64 st, .int .i64 wd] := by rw [hW]; exact Blk.new _ _ _
    have LW : Later w W := by rw [hW]; exact ((Below.refl _ _).alloc (Nat.le_refl _) _)
    have szW : W.heap.size = w.heap.size + 1 := by rw [hW]; simp
    clear hW
    replace HB := hide (onward HB.out LW)
    have Hq := hide bq0
    clear bq0 LW szW
    obtain ⟨q0, q1, q2, q3, q4, q5, q6, q7⟩ := Hq.out.site8
    have lts := Hq.out.lt
    go_quiet (fail)
    have hL : Below W.heap.size W (W.drewN nq) := below_drewN (Below.refl _ _) _
    generalize (W.drewN nq : World) = w1 at hL ⊢
    clear q0 q1 q2 q3 q4 q5 q6 q7 lts
    replace HB := hide (onward HB.out hL)
    replace Hq := hide (blk_later Hq.out hL)
    clear hL
    simp only [Hdx.out, Hdy.out]
    obtain ⟨q0, q1, q2, q3, q4, q5, q6, q7⟩ := Hq.out.site8
    have lts := Hq.out.lt
    have kk1 := Z1.out
    have kk2 := Z2.out
    go_wp2
    refine bodyPost_ret (v := .tuple #[.int .i64 res.1.1, .int .i64 res.1.2, .bool res.2]) (by rw [HF.out]; simp [results, Try.results74, go_sem]) rfl ⟨rfl, HB.out⟩
  · rw [if_neg h0] at hF
    have hr := fun W => Hr.out W h0
    clear Hr
    have h0' : dx ≠ 0 ∨ (dx = 0 ∧ dy ≠ 0) := by omega
    have hw1 : wrap64 0 = 0 := IntWalk.wrap64_in 0 (by omega)
    have Hr2 := hide hr
    clear hr
    clear h0
    by_cases hneg : gt < 0
    · rw [if_pos hneg] at hF
      have HF := hide hF
      clear hF
      rcases h0' with k1 | ⟨rfl, k2⟩
      · have k1' : (dx == 0) = false := by simpa using k1
        have HK := hide k1'
        clear k1'
        clear k1
        go_enter Try.func74, Try.ntmps74
        have HB := hide (Below.refl w.heap.size w)
        go_wp2_with fail
        refine code_world fun W hW => ?_
        have bq0 : Blk W w.heap.size 33 #[.string s, .int .i64 sx, .int .i64 sy, .int .i64 z, .int .i64 ro, .int .i64 g, .int .i64 st, .int .i64 wd] := by rw [hW]; exact Blk.new _ _ _
        have LW : Later w W := by rw [hW]; exact ((Below.refl _ _).alloc (Nat.le_refl _) _)
        have szW : W.heap.size = w.heap.size + 1 := by rw [hW]; simp
        clear hW
        replace HB := hide (onward HB.out LW)
        have Hq := hide bq0
        clear bq0 LW szW
        obtain ⟨q0, q1, q2, q3, q4, q5, q6, q7⟩ := Hq.out.site8
        have lts := Hq.out.lt
        go_quiet (fail)
        have hL : Below W.heap.size W (W.drewN nq) := below_drewN (Below.refl _ _) _
        generalize (W.drewN nq : World) = w1 at hL ⊢
        clear q0 q1 q2 q3 q4 q5 q6 q7 lts
        replace HB := hide (onward HB.out hL)
        replace Hq := hide (blk_later Hq.out hL)
        clear hL
        simp only [Hdx.out, Hdy.out]
        obtain ⟨q0, q1, q2, q3, q4, q5, q6, q7⟩ := Hq.out.site8
        have lts := Hq.out.lt
        have kk := HK.out
        go_wp2_with fail
        refine (Hg.out _).mono ?_
        rintro e w2 ⟨rfl, hb⟩
        replace HB := hide (onward HB.out hb)
        replace Hq := hide (blk_later Hq.out hb)
        clear hb
        go_wp2
        refine bodyPost_ret (v := .tuple #[.int .i64 res.1.1, .int .i64 res.1.2, .bool res.2]) (by rw [HF.out]; simp [results, Try.results74, go_sem]) rfl ⟨rfl, HB.out⟩
      · have k2' : (dy == 0) = false := by simpa using k2
        have HK := hide k2'
        clear k2'
        clear k2
        have hg := Hg.out
        simp only [Int.mul_zero, Int.zero_add] at hg
        clear Hg
        have Hg := hide hg
        clear hg
        go_enter Try.func74, Try.ntmps74
        have HB := hide (Below.refl w.heap.size w)
        go_wp2_with fail
        refine code_world fun W hW => ?_
        have bq0 : Blk W w.heap.size 33 #[.string s, .int .i64 sx, .int .i64 sy, .int .i64 z, .int .i64 ro, .int .i64 g, .int .i64 st, .int .i64 wd] := by rw [hW]; exact Blk.new _ _ _
        have LW : Later w W := by rw [hW]; exact ((Below.refl _ _).alloc (Nat.le_refl _) _)
        have szW : W.heap.size = w.heap.size + 1 := by rw [hW]; simp
        clear hW
        replace HB := hide (onward HB.out LW)
        have Hq := hide bq0
        clear bq0 LW szW
        obtain ⟨q0, q1, q2, q3, q4, q5, q6, q7⟩ := Hq.out.site8
        have lts := Hq.out.lt
        go_quiet (fail)
        have hL : Below W.heap.size W (W.drewN nq) := below_drewN (Below.refl _ _) _
        generalize (W.drewN nq : World) = w1 at hL ⊢
        clear q0 q1 q2 q3 q4 q5 q6 q7 lts
        replace HB := hide (onward HB.out hL)
        replace Hq := hide (blk_later Hq.out hL)
        clear hL
        simp only [Hdx.out, Hdy.out]
        obtain ⟨q0, q1, q2, q3, q4, q5, q6, q7⟩ := Hq.out.site8
        have lts := Hq.out.lt
        have kk := HK.out
        go_wp2_with fail
        refine (Hg.out _).mono ?_
        rintro e w2 ⟨rfl, hb⟩
        replace HB := hide (onward HB.out hb)
        replace Hq := hide (blk_later Hq.out hb)
        clear hb
        go_wp2
        refine bodyPost_ret (v := .tuple #[.int .i64 res.1.1, .int .i64 res.1.2, .bool res.2]) (by rw [HF.out]; simp [results, Try.results74, go_sem]) rfl ⟨rfl, HB.out⟩
    · rw [if_neg hneg] at hF
      have HF := hide hF
      clear hF
      rcases h0' with k1 | ⟨rfl, k2⟩
      · have k1' : (dx == 0) = false := by simpa using k1
        have HK := hide k1'
        clear k1'
        clear k1
        go_enter Try.func74, Try.ntmps74
        have HB := hide (Below.refl w.heap.size w)
        go_wp2_with fail
        refine code_world fun W hW => ?_
        have bq0 : Blk W w.heap.size 33 #[.string s, .int .i64 sx, .int .i64 sy, .int .i64 z, .int .i64 ro, .int .i64 g, .int .i64 st, .int .i64 wd] := by rw [hW]; exact Blk.new _ _ _
        have LW : Later w W := by rw [hW]; exact ((Below.refl _ _).alloc (Nat.le_refl _) _)
        have szW : W.heap.size = w.heap.size + 1 := by rw [hW]; simp
        clear hW
        replace HB := hide (onward HB.out LW)
        have Hq := hide bq0
        clear bq0 LW szW
        obtain ⟨q0, q1, q2, q3, q4, q5, q6, q7⟩ := Hq.out.site8
        have lts := Hq.out.lt
        go_quiet (fail)
        have hL : Below W.heap.size W (W.drewN nq) := below_drewN (Below.refl _ _) _
        generalize (W.drewN nq : World) = w1 at hL ⊢
        clear q0 q1 q2 q3 q4 q5 q6 q7 lts
        replace HB := hide (onward HB.out hL)
        replace Hq := hide (blk_later Hq.out hL)
        clear hL
        simp only [Hdx.out, Hdy.out]
        obtain ⟨q0, q1, q2, q3, q4, q5, q6, q7⟩ := Hq.out.site8
        have lts := Hq.out.lt
        have kk := HK.out
        go_wp2_with fail
        refine (Hg.out _).mono ?_
        rintro e w2 ⟨rfl, hb⟩
        replace HB := hide (onward HB.out hb)
        replace Hq := hide (blk_later Hq.out hb)
        clear hb
        clear q0 q1 q2 q3 q4 q5 q6 q7 lts
        obtain ⟨q0, q1, q2, q3, q4, q5, q6, q7⟩ := Hq.out.site8
        have lts := Hq.out.lt
        go_wp2_with fail
        refine (Hr2.out _).mono ?_
        rintro e w3 ⟨rfl, hb⟩
        replace HB := hide (onward HB.out hb)
        replace Hq := hide (blk_later Hq.out hb)
        clear hb
        go_wp2
        refine bodyPost_ret (v := .tuple #[.int .i64 res.1.1, .int .i64 res.1.2, .bool res.2]) (by rw [HF.out]; simp [results, Try.results74, go_sem]) rfl ⟨rfl, HB.out⟩
      · have k2' : (dy == 0) = false := by simpa using k2
        have HK := hide k2'
        clear k2'
        clear k2
        have hg := Hg.out
        simp only [Int.mul_zero, Int.zero_add] at hg
        clear Hg
        have Hg := hide hg
        clear hg
        go_enter Try.func74, Try.ntmps74
        have HB := hide (Below.refl w.heap.size w)
        go_wp2_with fail
        refine code_world fun W hW => ?_
        have bq0 : Blk W w.heap.size 33 #[.string s, .int .i64 sx, .int .i64 sy, .int .i64 z, .int .i64 ro, .int .i64 g, .int .i64 st, .int .i64 wd] := by rw [hW]; exact Blk.new _ _ _
        have LW : Later w W := by rw [hW]; exact ((Below.refl _ _).alloc (Nat.le_refl _) _)
        have szW : W.heap.size = w.heap.size + 1 := by rw [hW]; simp
        clear hW
        replace HB := hide (onward HB.out LW)
        have Hq := hide bq0
        clear bq0 LW szW
        obtain ⟨q0, q1, q2, q3, q4, q5, q6, q7⟩ := Hq.out.site8
        have lts := Hq.out.lt
        go_quiet (fail)
        have hL : Below W.heap.size W (W.drewN nq) := below_drewN (Below.refl _ _) _
        generalize (W.drewN nq : World) = w1 at hL ⊢
        clear q0 q1 q2 q3 q4 q5 q6 q7 lts
        replace HB := hide (onward HB.out hL)
        replace Hq := hide (blk_later Hq.out hL)
        clear hL
        simp only [Hdx.out, Hdy.out]
        obtain ⟨q0, q1, q2, q3, q4, q5, q6, q7⟩ := Hq.out.site8
        have lts := Hq.out.lt
        have kk := HK.out
        go_wp2_with fail
        refine (Hg.out _).mono ?_
        rintro e w2 ⟨rfl, hb⟩
        replace HB := hide (onward HB.out hb)
        replace Hq := hide (blk_later Hq.out hb)
        clear hb
        clear q0 q1 q2 q3 q4 q5 q6 q7 lts
        obtain ⟨q0, q1, q2, q3, q4, q5, q6, q7⟩ := Hq.out.site8
        have lts := Hq.out.lt
        go_wp2_with fail
        refine (Hr2.out _).mono ?_
        rintro e w3 ⟨rfl, hb⟩
        replace HB := hide (onward HB.out hb)
        replace Hq := hide (blk_later Hq.out hb)
        clear hb
        go_wp2
        refine bodyPost_ret (v := .tuple #[.int .i64 res.1.1, .int .i64 res.1.2, .bool res.2]) (by rw [HF.out]; simp [results, Try.results74, go_sem]) rfl ⟨rfl, HB.out⟩
end Go.Proofs.Ythhhecidogcmjaa
