/-
  Pixels and places: the program's contracts.
-/
import Derived.Test.YthhhecidogcmjaaLook
namespace Go.Proofs.Ythhhecidogcmjaa
open Go Go.RowKit

/-- The pixel of a place; -1 outside. -/
def pixZ (gx gy gs wi hi x y : Int) : Int :=
  if x < gx ∨ y < gy ∨ gx + wi * gs ≤ x ∨ gy + hi * gs ≤ y then -1 else (y - gy) / gs * wi + (x - gx) / gs
def pixR (e gx gy gs wi hi x y : Int) : Int × Int :=
  if e ≠ 0 then (0, e) else if pixZ gx gy gs wi hi x y < 0 then (0, 29) else (pixZ gx gy gs wi hi x y, 0)
theorem pix_bd {gx gs wi x : Int} (h1 : 1 ≤ gs) (h2 : gx ≤ x) (h3 : x < gx + wi * gs) : 0 ≤ (x - gx) / gs ∧ (x - gx) / gs < wi :=
  ⟨Int.ediv_nonneg (by omega) (by omega), Int.ediv_lt_of_lt_mul (by omega) (by omega)⟩

set_option maxHeartbeats 2000000 in
set_option maxRecDepth 100000 in
theorem pixel_any (gx gy gs wi hi x y : Int) (w : World) (a1 : -1048576 ≤ gx) (a2 : gx ≤ 1048576) (b1 : -1048576 ≤ gy) (b2 : gy ≤ 1048576) (c1 : 1 ≤ gs) (c2 : gs ≤ 10000) (d1 : 1 ≤ wi) (d2 : wi ≤ 64) (e1 : 1 ≤ hi) (e2 : hi ≤ 64) :
    Calls Try.prog 81 #[gridV gx gy gs wi hi, .int .i64 x, .int .i64 y] w fun e w' => e = .returned (.int .i64 (pixZ gx gy gs wi hi x y)) ∧ Below w.heap.size w w' := by
  obtain ⟨m1, m2⟩ := mul_bdB (a := wi) (b := gs) (A := 64) (B := 10000) (by omega) d2 (by omega) c2
  obtain ⟨n1, n2⟩ := mul_bdB (a := hi) (b := gs) (A := 64) (B := 10000) (by omega) e2 (by omega) c2
  obtain ⟨res, hres⟩ : ∃ p, pixZ gx gy gs wi hi x y = p := ⟨_, rfl⟩
  rw [hres]
  unfold pixZ at hres
  unfold gridV
  by_cases g1 : x < gx
  · have hres2 := hide (hres.symm.trans (if_pos (by omega)))
    clear hres
    go_enter Try.func81, Try.ntmps81
    go_wp2
    go_ret
    exact ⟨ret_int hres2.out.symm, (Below.refl _ _).alloc (Nat.le_refl _) _⟩
  by_cases g2 : y < gy
  · have hres2 := hide (hres.symm.trans (if_pos (by omega)))
    clear hres
    go_enter Try.func81, Try.ntmps81
    go_wp2
    go_ret
    exact ⟨ret_int hres2.out.symm, (Below.refl _ _).alloc (Nat.le_refl _) _⟩
  by_cases g3 : gx + wi * gs ≤ x
  · have hres2 := hide (hres.symm.trans (if_pos (by omega)))
    clear hres
    go_enter Try.func81, Try.ntmps81
    go_wp2
    go_ret
    exact ⟨ret_int hres2.out.symm, (Below.refl _ _).alloc (Nat.le_refl _) _⟩
  by_cases g4 : gy + hi * gs ≤ y
  · have hres2 := hide (hres.symm.trans (if_pos (by omega)))
    clear hres
    go_enter Try.func81, Try.ntmps81
    go_wp2
    go_ret
    exact ⟨ret_int hres2.out.symm, (Below.refl _ _).alloc (Nat.le_refl _) _⟩
  obtain ⟨p1, p2⟩ := pix_bd (gx := gx) (x := x) (wi := wi) c1 (by omega) (by omega)
  obtain ⟨q1, q2⟩ := pix_bd (gx := gy) (x := y) (wi := hi) c1 (by omega) (by omega)
  obtain ⟨r1, r2⟩ := mul_bdB (a := (y - gy) / gs) (b := wi) (A := 64) (B := 64) q1 (by omega) (by omega) d2
  have c3 : gs ≠ 0 := by omega
  have c4 : 0 < gs := by omega
  have hres2 := hide (hres.symm.trans (if_neg (by omega)))
  clear hres
  go_enter Try.func81, Try.ntmps81
  have HB := hide (Below.refl w.heap.size w)
  go_wp2_with fail
  refine code_world fun W hW => ?_
  have bq0 : Blk W w.heap.size 35 #[.int .i64 gx, .int .i64 gy, .int .i64 gs, .int .i64 wi, .int .i64 hi] := by rw [hW]; exact Blk.new _ _ _
  have LW : Later w W := by rw [hW]; exact ((Below.refl _ _).alloc (Nat.le_refl _) _)
  have szW : W.heap.size = w.heap.size + 1 := by rw [hW]; simp
  clear hW
  replace HB := hide (onward HB.out LW)
  have Hg := hide bq0
  clear bq0 LW szW
  obtain ⟨k0, k1, k2, k3, k4⟩ := Hg.out.c5
  have ltk := Hg.out.lt
  apply wp_region_L (w0 := W) [[], [], [], [], [], [], [], [], [], [], [], [], [], [], [], [], [], [], []] [true, true, true, true, true, true, true, true, true, true, true, true, true, true, true, true, true, true, true] [] (fun ixq y => match ixq with  | _ => undef) (fun ixq x F wq => match ixq with  | _ => True) (fun a x => a) (by kernel_rfl) (by kernel_rfl) (fun _ => rfl) [] (by kernel_rfl)
  · intro x D hD
    have hne := hD.some
    have k0 := liftB hD k0 (by first | assumption | omega)
    have k1 := liftB hD k1 (by first | assumption | omega)
    have k2 := liftB hD k2 (by first | assumption | omega)
    have k3 := liftB hD k3 (by first | assumption | omega)
    simp only [takeOps, Act.put, List.setIfInBounds_toArray, List.set_cons_succ, List.set_cons_zero]
    repeat (go_big_quiet_step (fail))
    exact wpQuiet_nil rfl
  · exact fun _ h => absurd h (by simp)
  · exact trivial
  · exact trivial
  intro xx w2 F hL hlv1
  clear hlv1
  replace HB := hide (onward HB.out hL)
  replace Hg := hide (blk_later Hg.out hL)
  clear hL k0 k1 k2 k3 k4 ltk
  go_wp2
  go_ret
  exact ⟨ret_int hres2.out.symm, HB.out⟩

def placeZ (sx sy ro st t ray gate : Int) : Int × Int := (sx + rD st gate t * (dirV (2 * ro) (2 * ray + 1)).x / (dirV (2 * ro) (2 * ray + 1)).l, sy + rD st gate t * (dirV (2 * ro) (2 * ray + 1)).y / (dirV (2 * ro) (2 * ray + 1)).l)
theorem rD_bd {st gate t : Int} (h1 : -8 ≤ t) (h2 : t ≤ 264) (h3 : 0 ≤ gate) (h4 : gate ≤ 199) (h5 : 0 ≤ st) (h6 : st ≤ 2000) : 0 ≤ rD st gate t ∧ rD st gate t ≤ 600000 := by
  obtain ⟨a1, a2, a3, a4, a5, a6⟩ := reach_bd h1 h2 h3 h4 h5 h6
  unfold rD reachN reachD
  generalize (2 * gate + 1) * st * (262144 - t * t) = n at *
  generalize t * t = m at *
  exact ⟨Int.ediv_nonneg a5 (by omega), Int.le_of_lt_add_one (Int.ediv_lt_of_lt_mul (by omega) (by omega))⟩
theorem quot_bd {a b M : Int} (hb : 1 ≤ b) (hM : 0 ≤ M) (h1 : -M ≤ a) (h2 : a ≤ M) : -M ≤ a / b ∧ a / b ≤ M := by
  constructor
  · rw [Int.le_ediv_iff_mul_le (by omega)]
    have : M ≤ M * b := by have := Int.mul_le_mul_of_nonneg_left hb hM; omega
    have e : -M * b = -(M * b) := Int.neg_mul _ _
    omega
  · have : M ≤ M * b := by have := Int.mul_le_mul_of_nonneg_left hb hM; omega
    exact Int.ediv_le_of_le_mul (by omega) (by omega)

set_option maxHeartbeats 2000000 in
set_option maxRecDepth 100000 in
theorem place_any (s : ByteArray) (sx sy z ro g st wd t ray gate : Int) (w : World) (h1 : 0 ≤ t) (h2 : t ≤ 256) (h3 : 0 ≤ gate) (h4 : gate ≤ 199) (h5 : 0 ≤ st) (h6 : st ≤ 2000) (r1 : 1 ≤ ro) (r2 : ro ≤ 90) (a1 : 0 ≤ ray) (a2 : ray < 4 * ro)
    (X1 : -1048576 ≤ sx) (X2 : sx ≤ 1048576) (Y1 : -1048576 ≤ sy) (Y2 : sy ≤ 1048576) :
    Calls Try.prog 77 #[siteV s sx sy z ro g st wd, .int .i64 t, .int .i64 ray, .int .i64 gate] w fun e w' => e = .returned (.tuple #[.int .i64 (placeZ sx sy ro st t ray gate).1, .int .i64 (placeZ sx sy ro st t ray gate).2]) ∧ Below w.heap.size w w' := by
  have hd := fun W => direction_any (2 * ro) (2 * ray + 1) W (by omega) (by omega) (by omega) (by omega)
  have hr := fun W => reachDown_any s sx sy z ro g st wd t gate W (by omega) (by omega) h3 h4 h5 h6
  have hrd : reachN st gate t / reachD t = rD st gate t := rfl
  rw [hrd] at hr
  obtain ⟨b1, b2⟩ := rD_bd (st := st) (gate := gate) (t := t) (by omega) (by omega) h3 h4 h5 h6
  obtain ⟨⟨v1, v2⟩, ⟨v3, v4⟩, v5, v6⟩ := dirV_bd (n := 2 * ro) (a := 2 * ray + 1) (by omega) (by omega) (by omega) (by omega)
  have hP : placeZ sx sy ro st t ray gate = (sx + rD st gate t * (dirV (2 * ro) (2 * ray + 1)).x / (dirV (2 * ro) (2 * ray + 1)).l, sy + rD st gate t * (dirV (2 * ro) (2 * ray + 1)).y / (dirV (2 * ro) (2 * ray + 1)).l) := rfl
  rw [hP]
  unfold vecV at hd
  unfold siteV at *
  clear hP hrd
  generalize dirV (2 * ro) (2 * ray + 1) = v at *
  obtain ⟨vx, vy, vl⟩ := v
  simp only at *
  generalize rD st gate t = q at *
  obtain ⟨m1, m2⟩ := prod_bd (A := 600000) (B := 64800) (by omega) (by omega) ⟨by omega, b2⟩ ⟨v1, v2⟩
  obtain ⟨n1, n2⟩ := prod_bd (A := 600000) (B := 64800) (by omega) (by omega) ⟨by omega, b2⟩ ⟨v3, v4⟩
  obtain ⟨o1, o2⟩ := quot_bd (b := vl) (M := 38880000000) v5 (by omega) (show -38880000000 ≤ q * vx by omega) (by omega)
  obtain ⟨p1, p2⟩ := quot_bd (b := vl) (M := 38880000000) v5 (by omega) (show -38880000000 ≤ q * vy by omega) (by omega)
  have hc1 := fun W => downB_any (q * vx) vl W (by omega) (by omega) (by omega) (by omega)
  have hc2 := fun W => downB_any (q * vy) vl W (by omega) (by omega) (by omega) (by omega)
  have Hd := hide hd
  have Hr := hide hr
  have C1 := hide hc1
  have C2 := hide hc2
  clear hd hr hc1 hc2
  go_enter Try.func77, Try.ntmps77
  have HB := hide (Below.refl w.heap.size w)
  go_wp2_with fail
  refine at_world fun W hW => ?_
  have bq0 : Blk W w.heap.size 33 #[.string s, .int .i64 sx, .int .i64 sy, .int .i64 z, .int .i64 ro, .int .i64 g, .int .i64 st, .int .i64 wd] := by rw [hW]; exact Blk.new _ _ _
  have LW : Later w W := by rw [hW]; exact ((Below.refl _ _).alloc (Nat.le_refl _) _)
  have szW : W.heap.size = w.heap.size + 1 := by rw [hW]; simp
  clear hW
  replace HB := hide (onward HB.out LW)
  have Hq := hide bq0
  clear bq0 LW szW
  obtain ⟨q0, q1, q2, q3, q4, q5, q6, q7⟩ := Hq.out.site8
  have lts := Hq.out.lt
  go_wp2_with fail
  refine (Hd.out _).mono ?_
  rintro e w1 ⟨rfl, hb⟩
  replace HB := hide (onward HB.out hb)
  replace Hq := hide (blk_later Hq.out hb)
  clear hb
  clear q0 q1 q2 q3 q4 q5 q6 q7 lts
  obtain ⟨q0, q1, q2, q3, q4, q5, q6, q7⟩ := Hq.out.site8
  have lts := Hq.out.lt
  go_wp2_with fail
  clear q0 q1 q2 q3 q4 q5 q6 q7 lts
  refine at_world fun W1 hW => ?_
  have bq0 : Blk W1 w1.heap.size 79 #[.int .i64 vx, .int .i64 vy, .int .i64 vl] := by rw [hW]; exact Blk.new _ _ _
  have LW : Later w1 W1 := by rw [hW]; exact ((Below.refl _ _).alloc (Nat.le_refl _) _)
  have szW : W1.heap.size = w1.heap.size + 1 := by rw [hW]; simp
  clear hW
  replace HB := hide (onward HB.out LW)
  replace Hq := hide (blk_later Hq.out LW)
  have Hx := hide bq0
  clear bq0 LW szW
  refine (Hr.out _).mono ?_
  rintro e w2 ⟨rfl, hb⟩
  replace HB := hide (onward HB.out hb)
  replace Hq := hide (blk_later Hq.out hb)
  replace Hx := hide (blk_later Hx.out hb)
  clear hb
  obtain ⟨q0, q1, q2, q3, q4, q5, q6, q7⟩ := Hq.out.site8
  have lts := Hq.out.lt
  obtain ⟨x0, x1, x2⟩ := Hx.out.c3
  have ltx := Hx.out.lt
  go_wp2_with fail
  apply wp_region_L (w0 := w2) [[], [], [], [], [], [], [], [], [], [], [], [], [], [], [], [], [], [], [], [], [], []] [true, true, true, true, true, true, true, true, true, true, true, true, true, true, true, true, true, true, true, true, true, true] [] (fun ixq y => match ixq with  | _ => undef) (fun ixq x F wq => match ixq with  | _ => True) (fun a x => a) (by kernel_rfl) (by kernel_rfl) (fun _ => rfl) [31, 41] (by kernel_rfl)
  · intro x D hD
    have hne := hD.some
    have k1 := liftB hD q1 (by first | assumption | omega)
    have k2 := liftB hD q2 (by first | assumption | omega)
    have kx0 := liftB hD x0 (by first | assumption | omega)
    have kx1 := liftB hD x1 (by first | assumption | omega)
    have kx2 := liftB hD x2 (by first | assumption | omega)
    simp only [takeOps, Act.put, List.setIfInBounds_toArray, List.set_cons_succ, List.set_cons_zero]
    repeat (go_big_quiet_step ((go_at_call 66; first | (with_reducible exact calls_same _ (C1.out _)) | (with_reducible exact calls_same _ (C2.out _)))))
    exact wpQuiet_nil rfl
  · intro d hd x x'
    simp only [List.mem_cons, List.not_mem_nil, or_false] at hd
    rcases hd with rfl | rfl
    all_goals rfl
  · exact trivial
  · exact trivial
  intro xx w3 F hL hlv2
  clear hlv2
  clear q0 q1 q2 q3 q4 q5 q6 q7 lts
  replace HB := hide (onward HB.out hL)
  replace Hq := hide (blk_later Hq.out hL)
  replace Hx := hide (blk_later Hx.out hL)
  clear hL x0 x1 x2 ltx
  go_wp2
  refine bodyPost_ret (v := .tuple #[.int .i64 (sx + q * vx / vl), .int .i64 (sy + q * vy / vl)]) (by simp [results, Try.results77, go_sem]) rfl ⟨rfl, HB.out⟩
end Go.Proofs.Ythhhecidogcmjaa
