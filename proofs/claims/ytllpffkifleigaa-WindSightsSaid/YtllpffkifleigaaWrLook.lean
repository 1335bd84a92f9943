/-
  Look: the sight of a gate.
  The document: directions, sights, gates.
  The document: the sight of a gate.
-/
import Derived.Test.YtllpffkifleigaaWbRefFind
import Derived.Test.YtllpffkifleigaaWdCheck
import Derived.Test.YtllpffkifleigaaRegJ
set_option linter.unusedSimpArgs false
set_option linter.unusedVariables false
section
namespace Go.Proofs.Ytllpffkifleigaa
open Go Go.RowKit

def gateE (se tilt rlo rhi : Int) : Int := if se ≠ 0 then se else if winBQ tilt 0 256 = true ∧ spnB rlo rhi 50000 = true then 0 else 3
def lookE (se r tilt ray slo shi rlo rhi : Int) : Int := if gateE se tilt rlo rhi ≠ 0 then gateE se tilt rlo rhi else if winBQ ray 0 (4 * r - 1) = true ∧ spnB slo shi 200000 = true then 0 else 3
def lookS (r tilt ray slo shi rlo rhi : Int) : Sgt :=
  ⟨(dirV (2 * r) (2 * ray + 1)).x, (dirV (2 * r) (2 * ray + 1)).y, (dirV (2 * r) (2 * ray + 1)).l, (slo * (slantV tilt).l - rhi * (slantV tilt).y) / (slantV tilt).x, -((rlo * (slantV tilt).y - shi * (slantV tilt).l) / (slantV tilt).x)⟩
def lookA (se r tilt ray slo shi rlo rhi : Int) : Sgt := if lookE se r tilt ray slo shi rlo rhi = 0 then lookS r tilt ray slo shi rlo rhi else sg0
theorem floor_math {a b : Int} (hb : 0 < b) : (a.tdiv b * b ≤ a ∧ a / b = a.tdiv b) ∨ (a < a.tdiv b * b ∧ a / b = a.tdiv b - 1) := by
  have h := tdiv_floor (a := a) hb
  have h1 := Int.mul_tdiv_add_tmod a b
  rw [Int.mul_comm] at h1
  split at h
  · exact .inr ⟨by omega, h⟩
  · exact .inl ⟨by omega, h⟩
theorem floor_bd {a b X : Int} (hb : 0 < b) (h1 : -X ≤ a) (h2 : a ≤ X) : -X ≤ a.tdiv b ∧ a.tdiv b ≤ X ∧ -X ≤ a.tdiv b * b ∧ a.tdiv b * b ≤ X := by
  have e : (a.tdiv b * b).natAbs ≤ a.natAbs := by
    rw [Int.natAbs_mul, Int.natAbs_tdiv]
    exact Nat.div_mul_le_self _ _
  have e2 : (a.tdiv b).natAbs ≤ a.natAbs := by
    rw [Int.natAbs_tdiv]
    exact Nat.div_le_self _ _
  omega
set_option maxHeartbeats 1000000 in
set_option maxRecDepth 100000 in
theorem floor_any (a b : Int) (w : World) (hb : 0 < b) (h1 : -1000000000000000000 ≤ a) (h2 : a ≤ 1000000000000000000) (hb2 : b ≤ 1000000000000000000) :
    Calls Try.prog 85 #[.int .i64 a, .int .i64 b] w fun e w' => e = .returned (.int .i64 (a / b)) ∧ Below w.heap.size w w' := by
  obtain ⟨b1, b2, b3, b4⟩ := floor_bd hb h1 h2
  have hm := floor_math (a := a) hb
  have hb0 : b ≠ 0 := by omega
  obtain ⟨q, hq⟩ : ∃ q, a.tdiv b = q := ⟨_, rfl⟩
  rw [hq] at b1 b2 b3 b4 hm
  rcases hm with ⟨h3, h4⟩ | ⟨h3, h4⟩
  all_goals
    rw [h4]
    clear h4
    go_enter Try.func85, Try.ntmps85
    go_wp2
    go_ret
    exact ⟨rfl, Below.refl _ _⟩
set_option maxHeartbeats 1000000 in
set_option maxRecDepth 100000 in
theorem looked_any (s : ByteArray) (x y z r g st wd tilt rlo rhi : Int) (w : World) (hs : s.size ≤ 9223372036854775807) :
    Calls Try.prog 83 #[siteV s x y z r g st wd, .int .i64 tilt, .agg #[.int .i64 rlo, .int .i64 rhi]] w fun e w' => e = .returned (.int .i64 (gateE (siteE (nameB s) x y z r g st wd) tilt rlo rhi)) ∧ Below w.heap.size w w' := by
  have hcs := fun W => CheckSite_any s (nameB s) x y z r g st wd W (fun W => Name_any s W hs)
  have hw := fun W => within_any rlo rhi 50000 W (by omega) (by omega)
  have hE : gateE (siteE (nameB s) x y z r g st wd) tilt rlo rhi = if siteE (nameB s) x y z r g st wd ≠ 0 then siteE (nameB s) x y z r g st wd else if winBQ tilt 0 256 = true ∧ spnB rlo rhi 50000 = true then 0 else 3 := rfl
  generalize gateE (siteE (nameB s) x y z r g st wd) tilt rlo rhi = ge at *
  generalize siteE (nameB s) x y z r g st wd = se at *
  generalize spnB rlo rhi 50000 = sb at *
  unfold siteV
  have HC := hide hcs
  have HW := hide hw
  clear hcs hw
  by_cases h0 : se = 0
  · subst h0
    rw [if_neg (by simp)] at hE
    by_cases h1 : winBQ tilt 0 256 = true
    · obtain ⟨t1, t2⟩ := winB_iff.1 h1
      have hd1 : decide (tilt < 0) = false := decide_eq_false (by omega)
      have hd2 : decide ((256 : Int) < tilt) = false := decide_eq_false (by omega)
      cases sb with
      | true =>
        rw [if_pos ⟨h1, rfl⟩] at hE
        have HE := hide hE
        clear hE
        go_enter Try.func83, Try.ntmps83
        have HB := hide (Below.refl w.heap.size w)
        go_wp2_with fail
        refine at_world fun W hW => ?_
        have bq0 : Blk W w.heap.size 83 #[.string s, .int .i64 x, .int .i64 y, .int .i64 z, .int .i64 r, .int .i64 g, .int .i64 st, .int .i64 wd] := by rw [hW]; exact (Blk.new _ _ _).alloc _
        have bq1 : Blk W (w.heap.size + 1) 32 #[.int .i64 rlo, .int .i64 rhi] := by rw [hW]; exact blk_new_at (by simp)
        have LW : Later w W := by rw [hW]; exact (((Below.refl _ _).alloc (Nat.le_refl _) _).alloc (by simp; try omega) _)
        have szW : W.heap.size = w.heap.size + 2 := by rw [hW]; simp
        clear hW
        replace HB := hide (onward HB.out LW)
        have Hs := hide bq0
        have He := hide bq1
        clear bq0 bq1 LW szW
        refine (HC.out _).mono ?_
        rintro e w1 ⟨rfl, hb⟩
        replace HB := hide (onward HB.out hb)
        replace Hs := hide (blk_later Hs.out hb)
        replace He := hide (blk_later He.out hb)
        clear hb
        obtain ⟨v0, v1⟩ := He.out.c2
        have ltv := He.out.lt
        go_wp2_with fail
        refine (HW.out _).mono ?_
        rintro e w2 ⟨rfl, hb⟩
        replace HB := hide (onward HB.out hb)
        replace Hs := hide (blk_later Hs.out hb)
        replace He := hide (blk_later He.out hb)
        clear hb v0 v1 ltv
        go_wp2
        go_ret
        exact ⟨by rw [HE.out]; rfl, HB.out⟩
      | false =>
        rw [if_neg (by simp)] at hE
        have HE := hide hE
        clear hE
        go_enter Try.func83, Try.ntmps83
        have HB := hide (Below.refl w.heap.size w)
        go_wp2_with fail
        refine at_world fun W hW => ?_
        have bq0 : Blk W w.heap.size 83 #[.string s, .int .i64 x, .int .i64 y, .int .i64 z, .int .i64 r, .int .i64 g, .int .i64 st, .int .i64 wd] := by rw [hW]; exact (Blk.new _ _ _).alloc _
        have bq1 : Blk W (w.heap.size + 1) 32 #[.int .i64 rlo, .int .i64 rhi] := by rw [hW]; exact blk_new_at (by simp)
        have LW : Later w W := by rw [hW]; exact (((Below.refl _ _).alloc (Nat.le_refl _) _).alloc (by simp; try omega) _)
        have szW : W.heap.size = w.heap.size + 2 := by rw [hW]; simp
        clear hW
        replace HB := hide (onward HB.out LW)
        have Hs := hide bq0
        have He := hide bq1
        clear bq0 bq1 LW szW
        refine (HC.out _).mono ?_
        rintro e w1 ⟨rfl, hb⟩
        replace HB := hide (onward HB.out hb)
        replace Hs := hide (blk_later Hs.out hb)
        replace He := hide (blk_later He.out hb)
        clear hb
        obtain ⟨v0, v1⟩ := He.out.c2
        have ltv := He.out.lt
        go_wp2_with fail
        refine (HW.out _).mono ?_
        rintro e w2 ⟨rfl, hb⟩
        replace HB := hide (onward HB.out hb)
        replace Hs := hide (blk_later Hs.out hb)
        replace He := hide (blk_later He.out hb)
        clear hb v0 v1 ltv
        go_wp2
        go_ret
        exact ⟨by rw [HE.out]; rfl, HB.out⟩
    · rw [if_neg (fun h => h1 h.1)] at hE
      have HE := hide hE
      clear hE
      by_cases h2 : tilt < 0
      · have hd1 : decide (tilt < 0) = true := decide_eq_true h2
        go_enter Try.func83, Try.ntmps83
        have HB := hide (Below.refl w.heap.size w)
        go_wp2_with fail
        refine at_world fun W hW => ?_
        have bq0 : Blk W w.heap.size 83 #[.string s, .int .i64 x, .int .i64 y, .int .i64 z, .int .i64 r, .int .i64 g, .int .i64 st, .int .i64 wd] := by rw [hW]; exact (Blk.new _ _ _).alloc _
        have bq1 : Blk W (w.heap.size + 1) 32 #[.int .i64 rlo, .int .i64 rhi] := by rw [hW]; exact blk_new_at (by simp)
        have LW : Later w W := by rw [hW]; exact (((Below.refl _ _).alloc (Nat.le_refl _) _).alloc (by simp; try omega) _)
        have szW : W.heap.size = w.heap.size + 2 := by rw [hW]; simp
        clear hW
        replace HB := hide (onward HB.out LW)
        have Hs := hide bq0
        have He := hide bq1
        clear bq0 bq1 LW szW
        refine (HC.out _).mono ?_
        rintro e w1 ⟨rfl, hb⟩
        replace HB := hide (onward HB.out hb)
        replace Hs := hide (blk_later Hs.out hb)
        replace He := hide (blk_later He.out hb)
        clear hb
        go_wp2
        go_ret
        exact ⟨by rw [HE.out]; rfl, HB.out⟩
      · have hd1 : decide (tilt < 0) = false := decide_eq_false h2
        have hd2 : decide ((256 : Int) < tilt) = true := decide_eq_true (by
          apply Classical.byContradiction
          intro hc
          exact h1 (winB_iff.2 ⟨by omega, by omega⟩))
        go_enter Try.func83, Try.ntmps83
        have HB := hide (Below.refl w.heap.size w)
        go_wp2_with fail
        refine at_world fun W hW => ?_
        have bq0 : Blk W w.heap.size 83 #[.string s, .int .i64 x, .int .i64 y, .int .i64 z, .int .i64 r, .int .i64 g, .int .i64 st, .int .i64 wd] := by rw [hW]; exact (Blk.new _ _ _).alloc _
        have bq1 : Blk W (w.heap.size + 1) 32 #[.int .i64 rlo, .int .i64 rhi] := by rw [hW]; exact blk_new_at (by simp)
        have LW : Later w W := by rw [hW]; exact (((Below.refl _ _).alloc (Nat.le_refl _) _).alloc (by simp; try omega) _)
        have szW : W.heap.size = w.heap.size + 2 := by rw [hW]; simp
        clear hW
        replace HB := hide (onward HB.out LW)
        have Hs := hide bq0
        have He := hide bq1
        clear bq0 bq1 LW szW
        refine (HC.out _).mono ?_
        rintro e w1 ⟨rfl, hb⟩
        replace HB := hide (onward HB.out hb)
        replace Hs := hide (blk_later Hs.out hb)
        replace He := hide (blk_later He.out hb)
        clear hb
        go_wp2
        go_ret
        exact ⟨by rw [HE.out]; rfl, HB.out⟩
  · rw [if_pos h0] at hE
    have hd : (se != 0) = true := by simp [h0]
    have HE := hide hE
    clear hE
    go_enter Try.func83, Try.ntmps83
    have HB := hide (Below.refl w.heap.size w)
    go_wp2_with fail
    refine at_world fun W hW => ?_
    have bq0 : Blk W w.heap.size 83 #[.string s, .int .i64 x, .int .i64 y, .int .i64 z, .int .i64 r, .int .i64 g, .int .i64 st, .int .i64 wd] := by rw [hW]; exact (Blk.new _ _ _).alloc _
    have bq1 : Blk W (w.heap.size + 1) 32 #[.int .i64 rlo, .int .i64 rhi] := by rw [hW]; exact blk_new_at (by simp)
    have LW : Later w W := by rw [hW]; exact (((Below.refl _ _).alloc (Nat.le_refl _) _).alloc (by simp; try omega) _)
    have szW : W.heap.size = w.heap.size + 2 := by rw [hW]; simp
    clear hW
    replace HB := hide (onward HB.out LW)
    have Hs := hide bq0
    have He := hide bq1
    clear bq0 bq1 LW szW
    refine (HC.out _).mono ?_
    rintro e w1 ⟨rfl, hb⟩
    replace HB := hide (onward HB.out hb)
    replace Hs := hide (blk_later Hs.out hb)
    replace He := hide (blk_later He.out hb)
    clear hb
    go_wp2
    go_ret
    exact ⟨by rw [HE.out]; rfl, HB.out⟩
theorem gateE_ok {se tilt rlo rhi : Int} (h : gateE se tilt rlo rhi = 0) : se = 0 ∧ 0 ≤ tilt ∧ tilt ≤ 256 ∧ -50000 ≤ rlo ∧ rlo ≤ rhi ∧ rhi ≤ 50000 := by
  unfold gateE at h
  split at h
  · rename_i h1; exact absurd h h1
  · rename_i h1
    split at h
    · rename_i h2
      obtain ⟨h2, h3⟩ := h2
      obtain ⟨t1, t2⟩ := winB_iff.1 h2
      unfold spnB at h3
      obtain ⟨a, b, c⟩ := of_decide_eq_true h3
      exact ⟨Classical.not_not.1 h1, t1, t2, a, b, c⟩
    · cases h
theorem slant_bd {t : Int} (h1 : 0 ≤ t) (h2 : t ≤ 256) : 196608 ≤ (slantV t).x ∧ (slantV t).x ≤ 262144 ∧ 0 ≤ (slantV t).y ∧ (slantV t).y ≤ 262144 ∧ 262144 ≤ (slantV t).l ∧ (slantV t).l ≤ 327680 := by
  obtain ⟨a, b⟩ := mul_bdB h1 h2 h1 h2
  unfold slantV
  simp only
  omega
set_option maxHeartbeats 1000000 in
set_option maxRecDepth 100000 in
theorem Look_any (s : ByteArray) (x y z r g st wd tilt ray slo shi rlo rhi : Int) (w : World) (hs : s.size ≤ 9223372036854775807) :
    Calls Try.prog 41 #[siteV s x y z r g st wd, .int .i64 tilt, .int .i64 ray, .agg #[.int .i64 slo, .int .i64 shi], .agg #[.int .i64 rlo, .int .i64 rhi]] w fun e w' =>
      e = .returned (.tuple #[sgC (lookA (siteE (nameB s) x y z r g st wd) r tilt ray slo shi rlo rhi), .int .i64 (lookE (siteE (nameB s) x y z r g st wd) r tilt ray slo shi rlo rhi)]) ∧ Below w.heap.size w w' := by
  have hc := fun W => looked_any s x y z r g st wd tilt rlo rhi W hs
  have hw := fun W => within_any slo shi 200000 W (by omega) (by omega)
  have hsk := fun h => siteE_ok (nb := nameB s) (x := x) (y := y) (z := z) (r := r) (g := g) (st := st) (wd := wd) h
  generalize siteE (nameB s) x y z r g st wd = se at *
  have hE : lookE se r tilt ray slo shi rlo rhi = if gateE se tilt rlo rhi ≠ 0 then gateE se tilt rlo rhi else if winBQ ray 0 (4 * r - 1) = true ∧ spnB slo shi 200000 = true then 0 else 3 := rfl
  have hA : lookA se r tilt ray slo shi rlo rhi = if lookE se r tilt ray slo shi rlo rhi = 0 then lookS r tilt ray slo shi rlo rhi else sg0 := rfl
  have hok := fun h => gateE_ok (se := se) (tilt := tilt) (rlo := rlo) (rhi := rhi) h
  have hspn : spnB slo shi 200000 = true → -200000 ≤ slo ∧ slo ≤ shi ∧ shi ≤ 200000 := fun h => by unfold spnB at h; exact of_decide_eq_true h
  generalize lookE se r tilt ray slo shi rlo rhi = le at *
  generalize gateE se tilt rlo rhi = ge at *
  rw [hA]
  clear hA
  unfold siteV at *
  unfold sgC
  have HC := hide hc
  clear hc
  have HA := hide (rfl : (0 : Int) = 0)
  by_cases h0 : ge = 0
  · subst h0
    obtain ⟨hse, t1, t2, r1, r2, r3⟩ := hok rfl
    obtain ⟨-, -, -, -, -, -, -, ro1, ro2, -⟩ := hsk hse
    rw [if_neg (by simp)] at hE
    obtain ⟨sb, hsb⟩ : ∃ b, spnB slo shi 200000 = b := ⟨_, rfl⟩
    rw [hsb] at hE hspn
    simp only [hsb] at hw
    clear hsk hok hsb
    have HW := hide hw
    clear hw
    by_cases h1 : winBQ ray 0 (4 * r - 1) = true
    · obtain ⟨y1, y2⟩ := winB_iff.1 h1
      have hd1 : decide (ray < 0) = false := decide_eq_false (by omega)
      have hd2 : decide (4 * r ≤ ray) = false := decide_eq_false (by omega)
      cases sb with
      | true =>
        rw [if_pos ⟨h1, rfl⟩] at hE
        subst hE
        obtain ⟨q1, q2, q3⟩ := hspn rfl
        rw [if_pos rfl]
        unfold lookS
        have hD := fun W => Direction_any (2 * r) (2 * ray + 1) W
        have hS := fun W => Slant_any tilt W
        have hdr : dirR (2 * r) (2 * ray + 1) = (dirV (2 * r) (2 * ray + 1), 0) := by
          unfold dirR
          rw [if_pos]
          unfold okD
          rw [Bool.and_eq_true]
          exact ⟨winB_iff.2 ⟨by omega, by omega⟩, winB_iff.2 ⟨by omega, by omega⟩⟩
        have hsr : slantR tilt = (slantV tilt, 0) := by
          unfold slantR
          rw [if_pos (winB_iff.2 ⟨by omega, by omega⟩)]
        rw [hdr] at hD
        rw [hsr] at hS
        obtain ⟨a1, a2, a3, a4, a5, a6⟩ := slant_bd t1 t2
        unfold vecE at hD hS
        clear hdr hsr
        generalize dirV (2 * r) (2 * ray + 1) = dv at *
        generalize slantV tilt = sv at *
        obtain ⟨dx, dy, dl⟩ := dv
        obtain ⟨cx, sy, al⟩ := sv
        simp only at *
        have m1 := abs_mul (X := 200000) (Y := 327680) q1 (show slo ≤ 200000 by omega) (show -327680 ≤ al by omega) a6
        have m2 := abs_mul (X := 50000) (Y := 262144) (show -50000 ≤ rhi by omega) r3 (show -262144 ≤ sy by omega) a4
        have m3 := abs_mul (X := 50000) (Y := 262144) r1 (show rlo ≤ 50000 by omega) (show -262144 ≤ sy by omega) a4
        have m4 := abs_mul (X := 200000) (Y := 327680) (show -200000 ≤ shi by omega) q3 (show -327680 ≤ al by omega) a6
        obtain ⟨n1, hn1⟩ : ∃ n, slo * al - rhi * sy = n := ⟨_, rfl⟩
        obtain ⟨n2, hn2⟩ : ∃ n, rlo * sy - shi * al = n := ⟨_, rfl⟩
        have hf := fun n (h1 : -1000000000000 ≤ n) (h2 : n ≤ 1000000000000) W => floor_any n cx W (by omega) (by omega) (by omega) (by omega)
        have f1 : -1000000000000 ≤ n1 ∧ n1 ≤ 1000000000000 := by omega
        have f2 : -1000000000000 ≤ n2 ∧ n2 ≤ 1000000000000 := by omega
        have k1 := fun W => hf n1 f1.1 f1.2 W
        have k2 := fun W => hf n2 f2.1 f2.2 W
        have fq : -1000000000000 ≤ n2 / cx ∧ n2 / cx ≤ 1000000000000 := by
          have e1 := Int.ediv_mul_le n2 (show cx ≠ 0 by omega)
          have e2 := Int.lt_ediv_add_one_mul_self n2 (show 0 < cx by omega)
          constructor
          · apply Classical.byContradiction
            intro hc
            have := Int.mul_le_mul_of_nonneg_right (show n2 / cx + 1 ≤ -1000000000000 by omega) (show 0 ≤ cx by omega)
            omega
          · apply Classical.byContradiction
            intro hc
            have := Int.mul_le_mul_of_nonneg_right (show 1000000000001 ≤ n2 / cx by omega) (show 0 ≤ cx by omega)
            omega
        obtain ⟨fq1, fq2⟩ := fq
        rw [hn1, hn2]
        generalize n1 / cx = u1 at *
        generalize n2 / cx = u2 at *
        have HD := hide hD
        have HS := hide hS
        have K1 := hide k1
        have K2 := hide k2
        clear hD hS k1 k2
        clear hf f1 f2
        go_enter Try.func41, Try.ntmps41
        have HM := hide (Mem.start w)
        go_wp2_with fail
        refine at_world fun W hW => ?_
        have HMn := Mem.to (Mem.allocAt (Mem.allocAt (Mem.allocAt (Mem.allocAt HM.out w.heap.size rfl #[.string s, .int .i64 x, .int .i64 y, .int .i64 z, .int .i64 r, .int .i64 g, .int .i64 st, .int .i64 wd] 83) (w.heap.size + 1) (by simp) #[.int .i64 slo, .int .i64 shi] 32) (w.heap.size + 2) (by simp) #[.int .i64 rlo, .int .i64 rhi] 32) (w.heap.size + 3) (by simp) #[.int .i64 0, .int .i64 0, .int .i64 0, .int .i64 0, .int .i64 0] 71) hW
        have LW : Later w W := by rw [hW]; exact (((((Below.refl _ _).alloc (Nat.le_refl _) _).alloc (by simp; try omega) _).alloc (by simp; try omega) _).alloc (by simp; try omega) _)
        have szW : W.heap.size = w.heap.size + 4 := by rw [hW]; simp
        clear hW
        replace HM := hide HMn
        clear HMn LW
        clear szW
        generalize hg3 : w.heap.size + 3 = gr at HM ⊢
        generalize hg2 : w.heap.size + 2 = gt at HM ⊢
        generalize hg1 : w.heap.size + 1 = gp at HM ⊢
        generalize hg0 : w.heap.size = gs at HM ⊢
        refine (HC.out _).mono ?_
        rintro e w1 ⟨rfl, hb⟩
        replace HM := hide (HM.out.later hb)
        clear hb
        have ba : Blk w1 gs 83 #[.string s, .int .i64 x, .int .i64 y, .int .i64 z, .int .i64 r, .int .i64 g, .int .i64 st, .int .i64 wd] := HM.out.get 3 rfl
        have lta := ba.lt
        have a0 := ba.c 0 rfl
        have a1 := ba.c 1 rfl
        have a2 := ba.c 2 rfl
        have a3 := ba.c 3 rfl
        have a4 := ba.c 4 rfl
        have a5 := ba.c 5 rfl
        have a6 := ba.c 6 rfl
        have a7 := ba.c 7 rfl
        have bc : Blk w1 gp 32 #[.int .i64 slo, .int .i64 shi] := HM.out.get 2 rfl
        have ltc := bc.lt
        have c0 := bc.c 0 rfl
        have c1 := bc.c 1 rfl
        go_wp2_with fail
        refine (HW.out _).mono ?_
        rintro e w2 ⟨rfl, hb⟩
        replace HM := hide (HM.out.later hb)
        clear hb ba lta a0 a1 a2 a3 a4 a5 a6 a7 bc ltc c0 c1
        have ba : Blk w2 gs 83 #[.string s, .int .i64 x, .int .i64 y, .int .i64 z, .int .i64 r, .int .i64 g, .int .i64 st, .int .i64 wd] := HM.out.get 3 rfl
        have lta := ba.lt
        have a0 := ba.c 0 rfl
        have a1 := ba.c 1 rfl
        have a2 := ba.c 2 rfl
        have a3 := ba.c 3 rfl
        have a4 := ba.c 4 rfl
        have a5 := ba.c 5 rfl
        have a6 := ba.c 6 rfl
        have a7 := ba.c 7 rfl
        go_wp2_with fail
        refine (HD.out _).mono ?_
        rintro e w3 ⟨rfl, hb⟩
        replace HM := hide (HM.out.later hb)
        clear hb ba lta a0 a1 a2 a3 a4 a5 a6 a7
        go_wp2_with fail
        refine (HS.out _).mono ?_
        rintro e w4 ⟨rfl, hb⟩
        replace HM := hide (HM.out.later hb)
        clear hb
        have bc : Blk w4 gp 32 #[.int .i64 slo, .int .i64 shi] := HM.out.get 2 rfl
        have ltc := bc.lt
        have c0 := bc.c 0 rfl
        have c1 := bc.c 1 rfl
        have bd : Blk w4 gt 32 #[.int .i64 rlo, .int .i64 rhi] := HM.out.get 1 rfl
        have ltd := bd.lt
        have d0 := bd.c 0 rfl
        have d1 := bd.c 1 rfl
        go_wp2_with fail
        refine wp_region_cut 28 (by kernel_rfl) (by simp only [List.take_succ_cons, List.take_zero]; exact rfl) (by simp only [List.drop_succ_cons, List.drop_zero]; exact rfl) (by kernel_rfl) ?_
        apply any_region_J (w0 := w4) [[], [], [], [], [], [], [], [], [], [], [], [], [], [], [], [], [], [], [], [], [], [], [], [], [], [], [], []] [true, true, true, true, true, true, true, true, true, true, true, true, true, true, true, true, true, true, true, true, true, true, true, true, true, true, true, true] [] (fun ixq y => match ixq with  | _ => undef) (fun ixq x F wq => match ixq with  | _ => True) (fun a x => a) (by kernel_rfl) (fun _ => rfl) [76, 87] (by kernel_rfl)
        · intro x D hD
          have hne := hD.some
          have k0 := liftB hD c0 (by first | assumption | omega)
          have k1 := liftB hD c1 (by first | assumption | omega)
          have k2 := liftB hD d0 (by first | assumption | omega)
          have k3 := liftB hD d1 (by first | assumption | omega)
          simp only [takeOps, Act.put, List.setIfInBounds_toArray, List.set_cons_succ, List.set_cons_zero]
          repeat (go_big_quiet_step ((go_at_call 85; first | (with_reducible exact calls_later hD _ (K1.out _)) | (with_reducible exact calls_later hD _ (K2.out _)))))
          exact wpQuiet_nil rfl
        · intro d hd x x'
          simp only [List.mem_cons, List.not_mem_nil, or_false] at hd
          rcases hd with rfl | rfl
          all_goals rfl
        · exact trivial
        · exact trivial
        intro xx w5 F hL hlv1 hap1
        clear hap1
        clear hlv1
        refine ⟨rfl, ?_⟩
        replace HM := hide (HM.out.later hL)
        clear hL bc ltc c0 c1 bd ltd d0 d1
        have bk : Blk w5 gr 71 #[.int .i64 0, .int .i64 0, .int .i64 0, .int .i64 0, .int .i64 0] := HM.out.get 0 rfl
        have ltk := bk.lt
        have k0 := bk.c 0 rfl
        have fk0 := bk.frozen 0
        have k1 := bk.c 1 rfl
        have fk1 := bk.frozen 1
        have k2 := bk.c 2 rfl
        have fk2 := bk.frozen 2
        have k3 := bk.c 3 rfl
        have fk3 := bk.frozen 3
        have k4 := bk.c 4 rfl
        have fk4 := bk.frozen 4
        go_wp2
        have HM1 := hide (((((HM.out.set_ 0 rfl 0 (.int .i64 dx) rfl).set_ 0 rfl 1 (.int .i64 dy) rfl).set_ 0 rfl 2 (.int .i64 dl) rfl).set_ 0 rfl 3 (.int .i64 u1) rfl).set_ 0 rfl 4 (.int .i64 (-u2)) rfl)
        have s0 := (HM1.out.blk_ 0 rfl).c 0 rfl
        have s1 := (HM1.out.blk_ 0 rfl).c 1 rfl
        have s2 := (HM1.out.blk_ 0 rfl).c 2 rfl
        have s3 := (HM1.out.blk_ 0 rfl).c 3 rfl
        have s4 := (HM1.out.blk_ 0 rfl).c 4 rfl
        have lts := (HM1.out.blk_ 0 rfl).lt
        refine ret_world fun W1 hW1 => ?_
        rw [← hW1] at HM1 s0 s1 s2 s3 s4 lts
        exact bodyPost_ret (v := .tuple #[.agg #[.int .i64 dx, .int .i64 dy, .int .i64 dl, .int .i64 u1, .int .i64 (-u2)], .int .i64 0]) (by simp [results, Try.results41, go_sem, s0, s1, s2, s3, s4, lts]) rfl ⟨by first | rfl | (rw [HA.out]; rfl), by first | exact HM1.out.below | (rw [← hg0]; exact HM1.out.below)⟩
      | false =>
        rw [if_neg (by simp)] at hE
        subst hE
        rw [if_neg (by omega)]
        unfold sg0
        go_enter Try.func41, Try.ntmps41
        have HM := hide (Mem.start w)
        go_wp2_with fail
        refine at_world fun W hW => ?_
        have HMn := Mem.to (Mem.allocAt (Mem.allocAt (Mem.allocAt (Mem.allocAt HM.out w.heap.size rfl #[.string s, .int .i64 x, .int .i64 y, .int .i64 z, .int .i64 r, .int .i64 g, .int .i64 st, .int .i64 wd] 83) (w.heap.size + 1) (by simp) #[.int .i64 slo, .int .i64 shi] 32) (w.heap.size + 2) (by simp) #[.int .i64 rlo, .int .i64 rhi] 32) (w.heap.size + 3) (by simp) #[.int .i64 0, .int .i64 0, .int .i64 0, .int .i64 0, .int .i64 0] 71) hW
        have LW : Later w W := by rw [hW]; exact (((((Below.refl _ _).alloc (Nat.le_refl _) _).alloc (by simp; try omega) _).alloc (by simp; try omega) _).alloc (by simp; try omega) _)
        have szW : W.heap.size = w.heap.size + 4 := by rw [hW]; simp
        clear hW
        replace HM := hide HMn
        clear HMn LW
        clear szW
        generalize hg3 : w.heap.size + 3 = gr at HM ⊢
        generalize hg2 : w.heap.size + 2 = gt at HM ⊢
        generalize hg1 : w.heap.size + 1 = gp at HM ⊢
        generalize hg0 : w.heap.size = gs at HM ⊢
        refine (HC.out _).mono ?_
        rintro e w1 ⟨rfl, hb⟩
        replace HM := hide (HM.out.later hb)
        clear hb
        have ba : Blk w1 gs 83 #[.string s, .int .i64 x, .int .i64 y, .int .i64 z, .int .i64 r, .int .i64 g, .int .i64 st, .int .i64 wd] := HM.out.get 3 rfl
        have lta := ba.lt
        have a0 := ba.c 0 rfl
        have a1 := ba.c 1 rfl
        have a2 := ba.c 2 rfl
        have a3 := ba.c 3 rfl
        have a4 := ba.c 4 rfl
        have a5 := ba.c 5 rfl
        have a6 := ba.c 6 rfl
        have a7 := ba.c 7 rfl
        have bc : Blk w1 gp 32 #[.int .i64 slo, .int .i64 shi] := HM.out.get 2 rfl
        have ltc := bc.lt
        have c0 := bc.c 0 rfl
        have c1 := bc.c 1 rfl
        go_wp2_with fail
        refine (HW.out _).mono ?_
        rintro e w2 ⟨rfl, hb⟩
        replace HM := hide (HM.out.later hb)
        clear hb ba lta a0 a1 a2 a3 a4 a5 a6 a7 bc ltc c0 c1
        have bk : Blk w2 gr 71 #[.int .i64 0, .int .i64 0, .int .i64 0, .int .i64 0, .int .i64 0] := HM.out.get 0 rfl
        have ltk := bk.lt
        have k0 := bk.c 0 rfl
        have fk0 := bk.frozen 0
        have k1 := bk.c 1 rfl
        have fk1 := bk.frozen 1
        have k2 := bk.c 2 rfl
        have fk2 := bk.frozen 2
        have k3 := bk.c 3 rfl
        have fk3 := bk.frozen 3
        have k4 := bk.c 4 rfl
        have fk4 := bk.frozen 4
        go_wp2
        have HM1 := hide (((((HM.out.set_ 0 rfl 0 (.int .i64 0) rfl).set_ 0 rfl 1 (.int .i64 0) rfl).set_ 0 rfl 2 (.int .i64 0) rfl).set_ 0 rfl 3 (.int .i64 0) rfl).set_ 0 rfl 4 (.int .i64 0) rfl)
        have s0 := (HM1.out.blk_ 0 rfl).c 0 rfl
        have s1 := (HM1.out.blk_ 0 rfl).c 1 rfl
        have s2 := (HM1.out.blk_ 0 rfl).c 2 rfl
        have s3 := (HM1.out.blk_ 0 rfl).c 3 rfl
        have s4 := (HM1.out.blk_ 0 rfl).c 4 rfl
        have lts := (HM1.out.blk_ 0 rfl).lt
        refine ret_world fun W1 hW1 => ?_
        rw [← hW1] at HM1 s0 s1 s2 s3 s4 lts
        exact bodyPost_ret (v := .tuple #[.agg #[.int .i64 0, .int .i64 0, .int .i64 0, .int .i64 0, .int .i64 0], .int .i64 3]) (by simp [results, Try.results41, go_sem, s0, s1, s2, s3, s4, lts]) rfl ⟨by first | rfl | (rw [HA.out]; rfl), by first | exact HM1.out.below | (rw [← hg0]; exact HM1.out.below)⟩
    · rw [if_neg (fun h => h1 h.1)] at hE
      subst hE
      rw [if_neg (by omega)]
      unfold sg0
      by_cases h2 : ray < 0
      · have hd1 : decide (ray < 0) = true := decide_eq_true h2
        go_enter Try.func41, Try.ntmps41
        have HM := hide (Mem.start w)
        go_wp2_with fail
        refine at_world fun W hW => ?_
        have HMn := Mem.to (Mem.allocAt (Mem.allocAt (Mem.allocAt (Mem.allocAt HM.out w.heap.size rfl #[.string s, .int .i64 x, .int .i64 y, .int .i64 z, .int .i64 r, .int .i64 g, .int .i64 st, .int .i64 wd] 83) (w.heap.size + 1) (by simp) #[.int .i64 slo, .int .i64 shi] 32) (w.heap.size + 2) (by simp) #[.int .i64 rlo, .int .i64 rhi] 32) (w.heap.size + 3) (by simp) #[.int .i64 0, .int .i64 0, .int .i64 0, .int .i64 0, .int .i64 0] 71) hW
        have LW : Later w W := by rw [hW]; exact (((((Below.refl _ _).alloc (Nat.le_refl _) _).alloc (by simp; try omega) _).alloc (by simp; try omega) _).alloc (by simp; try omega) _)
        have szW : W.heap.size = w.heap.size + 4 := by rw [hW]; simp
        clear hW
        replace HM := hide HMn
        clear HMn LW
        clear szW
        generalize hg3 : w.heap.size + 3 = gr at HM ⊢
        generalize hg2 : w.heap.size + 2 = gt at HM ⊢
        generalize hg1 : w.heap.size + 1 = gp at HM ⊢
        generalize hg0 : w.heap.size = gs at HM ⊢
        refine (HC.out _).mono ?_
        rintro e w1 ⟨rfl, hb⟩
        replace HM := hide (HM.out.later hb)
        clear hb
        have bk : Blk w1 gr 71 #[.int .i64 0, .int .i64 0, .int .i64 0, .int .i64 0, .int .i64 0] := HM.out.get 0 rfl
        have ltk := bk.lt
        have k0 := bk.c 0 rfl
        have fk0 := bk.frozen 0
        have k1 := bk.c 1 rfl
        have fk1 := bk.frozen 1
        have k2 := bk.c 2 rfl
        have fk2 := bk.frozen 2
        have k3 := bk.c 3 rfl
        have fk3 := bk.frozen 3
        have k4 := bk.c 4 rfl
        have fk4 := bk.frozen 4
        go_wp2
        have HM1 := hide (((((HM.out.set_ 0 rfl 0 (.int .i64 0) rfl).set_ 0 rfl 1 (.int .i64 0) rfl).set_ 0 rfl 2 (.int .i64 0) rfl).set_ 0 rfl 3 (.int .i64 0) rfl).set_ 0 rfl 4 (.int .i64 0) rfl)
        have s0 := (HM1.out.blk_ 0 rfl).c 0 rfl
        have s1 := (HM1.out.blk_ 0 rfl).c 1 rfl
        have s2 := (HM1.out.blk_ 0 rfl).c 2 rfl
        have s3 := (HM1.out.blk_ 0 rfl).c 3 rfl
        have s4 := (HM1.out.blk_ 0 rfl).c 4 rfl
        have lts := (HM1.out.blk_ 0 rfl).lt
        refine ret_world fun W1 hW1 => ?_
        rw [← hW1] at HM1 s0 s1 s2 s3 s4 lts
        exact bodyPost_ret (v := .tuple #[.agg #[.int .i64 0, .int .i64 0, .int .i64 0, .int .i64 0, .int .i64 0], .int .i64 3]) (by simp [results, Try.results41, go_sem, s0, s1, s2, s3, s4, lts]) rfl ⟨by first | rfl | (rw [HA.out]; rfl), by first | exact HM1.out.below | (rw [← hg0]; exact HM1.out.below)⟩
      · have hd1 : decide (ray < 0) = false := decide_eq_false h2
        have hd2 : decide (4 * r ≤ ray) = true := decide_eq_true (by
          apply Classical.byContradiction
          intro hc
          exact h1 (winB_iff.2 ⟨by omega, by omega⟩))
        go_enter Try.func41, Try.ntmps41
        have HM := hide (Mem.start w)
        go_wp2_with fail
        refine at_world fun W hW => ?_
        have HMn := Mem.to (Mem.allocAt (Mem.allocAt (Mem.allocAt (Mem.allocAt HM.out w.heap.size rfl #[.string s, .int .i64 x, .int .i64 y, .int .i64 z, .int .i64 r, .int .i64 g, .int .i64 st, .int .i64 wd] 83) (w.heap.size + 1) (by simp) #[.int .i64 slo, .int .i64 shi] 32) (w.heap.size + 2) (by simp) #[.int .i64 rlo, .int .i64 rhi] 32) (w.heap.size + 3) (by simp) #[.int .i64 0, .int .i64 0, .int .i64 0, .int .i64 0, .int .i64 0] 71) hW
        have LW : Later w W := by rw [hW]; exact (((((Below.refl _ _).alloc (Nat.le_refl _) _).alloc (by simp; try omega) _).alloc (by simp; try omega) _).alloc (by simp; try omega) _)
        have szW : W.heap.size = w.heap.size + 4 := by rw [hW]; simp
        clear hW
        replace HM := hide HMn
        clear HMn LW
        clear szW
        generalize hg3 : w.heap.size + 3 = gr at HM ⊢
        generalize hg2 : w.heap.size + 2 = gt at HM ⊢
        generalize hg1 : w.heap.size + 1 = gp at HM ⊢
        generalize hg0 : w.heap.size = gs at HM ⊢
        refine (HC.out _).mono ?_
        rintro e w1 ⟨rfl, hb⟩
        replace HM := hide (HM.out.later hb)
        clear hb
        have ba : Blk w1 gs 83 #[.string s, .int .i64 x, .int .i64 y, .int .i64 z, .int .i64 r, .int .i64 g, .int .i64 st, .int .i64 wd] := HM.out.get 3 rfl
        have lta := ba.lt
        have a0 := ba.c 0 rfl
        have a1 := ba.c 1 rfl
        have a2 := ba.c 2 rfl
        have a3 := ba.c 3 rfl
        have a4 := ba.c 4 rfl
        have a5 := ba.c 5 rfl
        have a6 := ba.c 6 rfl
        have a7 := ba.c 7 rfl
        have bk : Blk w1 gr 71 #[.int .i64 0, .int .i64 0, .int .i64 0, .int .i64 0, .int .i64 0] := HM.out.get 0 rfl
        have ltk := bk.lt
        have k0 := bk.c 0 rfl
        have fk0 := bk.frozen 0
        have k1 := bk.c 1 rfl
        have fk1 := bk.frozen 1
        have k2 := bk.c 2 rfl
        have fk2 := bk.frozen 2
        have k3 := bk.c 3 rfl
        have fk3 := bk.frozen 3
        have k4 := bk.c 4 rfl
        have fk4 := bk.frozen 4
        go_wp2
        have HM1 := hide (((((HM.out.set_ 0 rfl 0 (.int .i64 0) rfl).set_ 0 rfl 1 (.int .i64 0) rfl).set_ 0 rfl 2 (.int .i64 0) rfl).set_ 0 rfl 3 (.int .i64 0) rfl).set_ 0 rfl 4 (.int .i64 0) rfl)
        have s0 := (HM1.out.blk_ 0 rfl).c 0 rfl
        have s1 := (HM1.out.blk_ 0 rfl).c 1 rfl
        have s2 := (HM1.out.blk_ 0 rfl).c 2 rfl
        have s3 := (HM1.out.blk_ 0 rfl).c 3 rfl
        have s4 := (HM1.out.blk_ 0 rfl).c 4 rfl
        have lts := (HM1.out.blk_ 0 rfl).lt
        refine ret_world fun W1 hW1 => ?_
        rw [← hW1] at HM1 s0 s1 s2 s3 s4 lts
        exact bodyPost_ret (v := .tuple #[.agg #[.int .i64 0, .int .i64 0, .int .i64 0, .int .i64 0, .int .i64 0], .int .i64 3]) (by simp [results, Try.results41, go_sem, s0, s1, s2, s3, s4, lts]) rfl ⟨by first | rfl | (rw [HA.out]; rfl), by first | exact HM1.out.below | (rw [← hg0]; exact HM1.out.below)⟩
  · rw [if_pos h0] at hE
    subst hE
    rw [if_neg h0]
    unfold sg0
    have hd : (le != 0) = true := by simp [h0]
    go_enter Try.func41, Try.ntmps41
    have HM := hide (Mem.start w)
    go_wp2_with fail
    refine at_world fun W hW => ?_
    have HMn := Mem.to (Mem.allocAt (Mem.allocAt (Mem.allocAt (Mem.allocAt HM.out w.heap.size rfl #[.string s, .int .i64 x, .int .i64 y, .int .i64 z, .int .i64 r, .int .i64 g, .int .i64 st, .int .i64 wd] 83) (w.heap.size + 1) (by simp) #[.int .i64 slo, .int .i64 shi] 32) (w.heap.size + 2) (by simp) #[.int .i64 rlo, .int .i64 rhi] 32) (w.heap.size + 3) (by simp) #[.int .i64 0, .int .i64 0, .int .i64 0, .int .i64 0, .int .i64 0] 71) hW
    have LW : Later w W := by rw [hW]; exact (((((Below.refl _ _).alloc (Nat.le_refl _) _).alloc (by simp; try omega) _).alloc (by simp; try omega) _).alloc (by simp; try omega) _)
    have szW : W.heap.size = w.heap.size + 4 := by rw [hW]; simp
    clear hW
    replace HM := hide HMn
    clear HMn LW
    clear szW
    generalize hg3 : w.heap.size + 3 = gr at HM ⊢
    generalize hg2 : w.heap.size + 2 = gt at HM ⊢
    generalize hg1 : w.heap.size + 1 = gp at HM ⊢
    generalize hg0 : w.heap.size = gs at HM ⊢
    refine (HC.out _).mono ?_
    rintro e w1 ⟨rfl, hb⟩
    replace HM := hide (HM.out.later hb)
    clear hb
    have bk : Blk w1 gr 71 #[.int .i64 0, .int .i64 0, .int .i64 0, .int .i64 0, .int .i64 0] := HM.out.get 0 rfl
    have ltk := bk.lt
    have k0 := bk.c 0 rfl
    have fk0 := bk.frozen 0
    have k1 := bk.c 1 rfl
    have fk1 := bk.frozen 1
    have k2 := bk.c 2 rfl
    have fk2 := bk.frozen 2
    have k3 := bk.c 3 rfl
    have fk3 := bk.frozen 3
    have k4 := bk.c 4 rfl
    have fk4 := bk.frozen 4
    go_wp2
    have HM1 := hide (((((HM.out.set_ 0 rfl 0 (.int .i64 0) rfl).set_ 0 rfl 1 (.int .i64 0) rfl).set_ 0 rfl 2 (.int .i64 0) rfl).set_ 0 rfl 3 (.int .i64 0) rfl).set_ 0 rfl 4 (.int .i64 0) rfl)
    have s0 := (HM1.out.blk_ 0 rfl).c 0 rfl
    have s1 := (HM1.out.blk_ 0 rfl).c 1 rfl
    have s2 := (HM1.out.blk_ 0 rfl).c 2 rfl
    have s3 := (HM1.out.blk_ 0 rfl).c 3 rfl
    have s4 := (HM1.out.blk_ 0 rfl).c 4 rfl
    have lts := (HM1.out.blk_ 0 rfl).lt
    refine ret_world fun W1 hW1 => ?_
    rw [← hW1] at HM1 s0 s1 s2 s3 s4 lts
    exact bodyPost_ret (v := .tuple #[.agg #[.int .i64 0, .int .i64 0, .int .i64 0, .int .i64 0, .int .i64 0], .int .i64 le]) (by simp [results, Try.results41, go_sem, s0, s1, s2, s3, s4, lts]) rfl ⟨by first | rfl | (rw [HA.out]; rfl), by first | exact HM1.out.below | (rw [← hg0]; exact HM1.out.below)⟩
end Go.Proofs.Ytllpffkifleigaa
end
section
namespace Go.Proofs.Ytllpffkifleigaa
open Go Go.RowKit

set_option maxHeartbeats 1000000 in
set_option maxRecDepth 100000 in
theorem rdir_any (x y l : Int) (w : World) (hx : I64 x) (hy : I64 y) :
    Calls Try.prog 70 #[.int .i64 x, .int .i64 y, .int .i64 l] w fun e w' => e = .returned (.bool (dirB x y l)) ∧ Below w.heap.size w w' := by
  obtain ⟨hx0, hx1⟩ := hx
  obtain ⟨hy0, hy1⟩ := hy
  have hI := fun n W => In_any n (-l) l W
  obtain ⟨r, hr⟩ : ∃ r, dirB x y l = r := ⟨_, rfl⟩
  rw [hr]
  unfold dirB at hr
  by_cases c1 : 1 ≤ l
  · by_cases c2 : l ≤ 64800
    · have hX := fun W => hI x W
      have hY := fun W => hI y W
      by_cases cx : -l ≤ x ∧ x ≤ l
      · rw [show winBQ x (-l) l = true from winB_iff.2 cx] at hX
        obtain ⟨cx1, cx2⟩ := cx
        by_cases cy : -l ≤ y ∧ y ≤ l
        · rw [show winBQ y (-l) l = true from winB_iff.2 cy] at hY
          obtain ⟨cy1, cy2⟩ := cy
          have ml := abs_mul (X := 64800) (Y := 64800) (show -64800 ≤ l by omega) c2 (show -64800 ≤ l by omega) c2
          have mx := abs_mul (X := 64800) (Y := 64800) (show -64800 ≤ x by omega) (by omega) (show -64800 ≤ x by omega) (by omega)
          have my := abs_mul (X := 64800) (Y := 64800) (show -64800 ≤ y by omega) (by omega) (show -64800 ≤ y by omega) (by omega)
          obtain ⟨ll, hll⟩ : ∃ q, l * l = q := ⟨_, rfl⟩
          obtain ⟨xx, hxx⟩ : ∃ q, x * x = q := ⟨_, rfl⟩
          obtain ⟨yy, hyy⟩ : ∃ q, y * y = q := ⟨_, rfl⟩
          rw [hll] at ml hr
          rw [hxx] at mx hr
          rw [hyy] at my hr
          obtain ⟨ml1, ml2⟩ := ml
          obtain ⟨mx1, mx2⟩ := mx
          obtain ⟨my1, my2⟩ := my
          by_cases c3 : xx + yy = ll
          · rw [decide_eq_true ⟨c1, c2, cx1, cx2, cy1, cy2, c3⟩] at hr
            subst hr
            have HX := hide hX
            have HY := hide hY
            clear hX hY
            clear hI
            go_enter Try.func70, Try.ntmps70
            go_wp2_with fail
            refine (HX.out _).mono ?_
            rintro e w1 ⟨rfl, rfl⟩
            go_wp2_with fail
            refine (HY.out _).mono ?_
            rintro e w1 ⟨rfl, rfl⟩
            go_wp2
            exact bodyPost_ret (v := .bool true) (by simp [results, Try.results70, go_sem]) rfl ⟨rfl, Below.refl _ _⟩
          · rw [decide_eq_false (fun h => c3 h.2.2.2.2.2.2)] at hr
            subst hr
            have hd : (xx + yy == ll) = false := by simp [c3]
            have HX := hide hX
            have HY := hide hY
            clear hX hY
            clear hI
            go_enter Try.func70, Try.ntmps70
            go_wp2_with fail
            refine (HX.out _).mono ?_
            rintro e w1 ⟨rfl, rfl⟩
            go_wp2_with fail
            refine (HY.out _).mono ?_
            rintro e w1 ⟨rfl, rfl⟩
            go_wp2
            exact bodyPost_ret (v := .bool false) (by simp [results, Try.results70, go_sem]) rfl ⟨rfl, Below.refl _ _⟩
        · rw [show winBQ y (-l) l = false from by rw [Bool.eq_false_iff]; exact fun h => cy (winB_iff.1 h)] at hY
          rw [decide_eq_false (fun h => cy ⟨h.2.2.2.2.1, h.2.2.2.2.2.1⟩)] at hr
          subst hr
          have HX := hide hX
          have HY := hide hY
          clear hX hY
          clear hI
          go_enter Try.func70, Try.ntmps70
          go_wp2_with fail
          refine (HX.out _).mono ?_
          rintro e w1 ⟨rfl, rfl⟩
          go_wp2_with fail
          refine (HY.out _).mono ?_
          rintro e w1 ⟨rfl, rfl⟩
          go_wp2
          exact bodyPost_ret (v := .bool false) (by simp [results, Try.results70, go_sem]) rfl ⟨rfl, Below.refl _ _⟩
      · rw [show winBQ x (-l) l = false from by rw [Bool.eq_false_iff]; exact fun h => cx (winB_iff.1 h)] at hX
        rw [decide_eq_false (fun h => cx ⟨h.2.2.1, h.2.2.2.1⟩)] at hr
        subst hr
        have HX := hide hX
        clear hX
        clear hI hY
        go_enter Try.func70, Try.ntmps70
        go_wp2_with fail
        refine (HX.out _).mono ?_
        rintro e w1 ⟨rfl, rfl⟩
        go_wp2
        exact bodyPost_ret (v := .bool false) (by simp [results, Try.results70, go_sem]) rfl ⟨rfl, Below.refl _ _⟩
    · rw [decide_eq_false (fun h => c2 h.2.1)] at hr
      subst hr
      clear hI
      go_enter Try.func70, Try.ntmps70
      go_wp2
      exact bodyPost_ret (v := .bool false) (by simp [results, Try.results70, go_sem]) rfl ⟨rfl, Below.refl _ _⟩
  · rw [decide_eq_false (fun h => c1 h.1)] at hr
    subst hr
    clear hI
    go_enter Try.func70, Try.ntmps70
    go_wp2
    exact bodyPost_ret (v := .bool false) (by simp [results, Try.results70, go_sem]) rfl ⟨rfl, Below.refl _ _⟩
set_option maxHeartbeats 1000000 in
set_option maxRecDepth 100000 in
theorem rcheck_any (s : Sgt) (w : World) (hx : I64 s.x) (hy : I64 s.y) :
    Calls Try.prog 44 #[sgC s] w fun e w' => e = .returned (.int .i64 (chkE s)) ∧ Below w.heap.size w w' := by
  have hd := fun W => rdir_any s.x s.y s.l W hx hy
  have hw := fun W => Valid_any s.lo s.hi (-400000) 400000 W
  have hsp : spnB s.lo s.hi 400000 = decide (-400000 ≤ s.lo ∧ s.lo ≤ s.hi ∧ s.hi ≤ 400000) := rfl
  obtain ⟨e, he⟩ : ∃ e, chkE s = e := ⟨_, rfl⟩
  rw [he]
  unfold chkE sgtB at he
  unfold sgC
  rw [← hsp] at hw
  obtain ⟨b1, hb1⟩ : ∃ b, dirB s.x s.y s.l = b := ⟨_, rfl⟩
  obtain ⟨b2, hb2⟩ : ∃ b, spnB s.lo s.hi 400000 = b := ⟨_, rfl⟩
  rw [hb1, hb2] at he
  simp only [hb1] at hd
  simp only [hb2] at hw
  obtain ⟨sx, sy, sl, slo, shi⟩ := s
  simp only at hd hw ⊢
  clear hb1 hb2 hx hy hsp
  have HD := hide hd
  have HW := hide hw
  clear hd hw
  cases b1 with
  | false =>
    subst he
    go_enter Try.func44, Try.ntmps44
    have HB := hide (Below.refl w.heap.size w)
    go_wp2_with fail
    refine at_world fun W hW => ?_
    have bq0 : Blk W w.heap.size 88 #[.int .i64 sx, .int .i64 sy, .int .i64 sl, .int .i64 slo, .int .i64 shi] := by rw [hW]; exact Blk.new _ _ _
    have LW : Later w W := by rw [hW]; exact ((Below.refl _ _).alloc (Nat.le_refl _) _)
    have szW : W.heap.size = w.heap.size + 1 := by rw [hW]; simp
    clear hW
    replace HB := hide (onward HB.out LW)
    have Hs := hide bq0
    clear bq0 LW szW
    refine (HD.out _).mono ?_
    rintro e w1 ⟨rfl, hb⟩
    replace HB := hide (onward HB.out hb)
    replace Hs := hide (blk_later Hs.out hb)
    clear hb
    have x3 := Hs.out.c 3 rfl
    have x4 := Hs.out.c 4 rfl
    have ltx := Hs.out.lt
    go_wp2
    go_ret
    exact ⟨rfl, HB.out⟩
  | true =>
    cases b2 with
    | false =>
      subst he
      go_enter Try.func44, Try.ntmps44
      have HB := hide (Below.refl w.heap.size w)
      go_wp2_with fail
      refine at_world fun W hW => ?_
      have bq0 : Blk W w.heap.size 88 #[.int .i64 sx, .int .i64 sy, .int .i64 sl, .int .i64 slo, .int .i64 shi] := by rw [hW]; exact Blk.new _ _ _
      have LW : Later w W := by rw [hW]; exact ((Below.refl _ _).alloc (Nat.le_refl _) _)
      have szW : W.heap.size = w.heap.size + 1 := by rw [hW]; simp
      clear hW
      replace HB := hide (onward HB.out LW)
      have Hs := hide bq0
      clear bq0 LW szW
      refine (HD.out _).mono ?_
      rintro e w1 ⟨rfl, hb⟩
      replace HB := hide (onward HB.out hb)
      replace Hs := hide (blk_later Hs.out hb)
      clear hb
      have x3 := Hs.out.c 3 rfl
      have x4 := Hs.out.c 4 rfl
      have ltx := Hs.out.lt
      go_wp2_with fail
      refine (HW.out _).mono ?_
      rintro e w2 ⟨rfl, hb⟩
      replace HB := hide (onward HB.out hb)
      replace Hs := hide (blk_later Hs.out hb)
      clear hb
      go_wp2
      go_ret
      exact ⟨rfl, HB.out⟩
    | true =>
      subst he
      go_enter Try.func44, Try.ntmps44
      have HB := hide (Below.refl w.heap.size w)
      go_wp2_with fail
      refine at_world fun W hW => ?_
      have bq0 : Blk W w.heap.size 88 #[.int .i64 sx, .int .i64 sy, .int .i64 sl, .int .i64 slo, .int .i64 shi] := by rw [hW]; exact Blk.new _ _ _
      have LW : Later w W := by rw [hW]; exact ((Below.refl _ _).alloc (Nat.le_refl _) _)
      have szW : W.heap.size = w.heap.size + 1 := by rw [hW]; simp
      clear hW
      replace HB := hide (onward HB.out LW)
      have Hs := hide bq0
      clear bq0 LW szW
      refine (HD.out _).mono ?_
      rintro e w1 ⟨rfl, hb⟩
      replace HB := hide (onward HB.out hb)
      replace Hs := hide (blk_later Hs.out hb)
      clear hb
      have x3 := Hs.out.c 3 rfl
      have x4 := Hs.out.c 4 rfl
      have ltx := Hs.out.lt
      go_wp2_with fail
      refine (HW.out _).mono ?_
      rintro e w2 ⟨rfl, hb⟩
      replace HB := hide (onward HB.out hb)
      replace Hs := hide (blk_later Hs.out hb)
      clear hb
      go_wp2
      go_ret
      exact ⟨rfl, HB.out⟩
set_option maxHeartbeats 1000000 in
set_option maxRecDepth 100000 in
theorem rgate_any (s : ByteArray) (x y z r g st wd tilt rlo rhi : Int) (w : World) (hs : s.size ≤ 9223372036854775807) :
    Calls Try.prog 86 #[siteV s x y z r g st wd, .int .i64 tilt, .agg #[.int .i64 rlo, .int .i64 rhi]] w fun e w' => e = .returned (.int .i64 (gateE (siteE (nameB s) x y z r g st wd) tilt rlo rhi)) ∧ Below w.heap.size w w' := by
  have hcs := fun W => RefCheckSite_any s x y z r g st wd W hs
  have hw := fun W => Valid_any rlo rhi (-50000) 50000 W
  have hi := fun W => In_any tilt 0 256 W
  have hsp : spnB rlo rhi 50000 = decide (-50000 ≤ rlo ∧ rlo ≤ rhi ∧ rhi ≤ 50000) := rfl
  rw [← hsp] at hw
  have hE : gateE (siteE (nameB s) x y z r g st wd) tilt rlo rhi = if siteE (nameB s) x y z r g st wd ≠ 0 then siteE (nameB s) x y z r g st wd else if winBQ tilt 0 256 = true ∧ spnB rlo rhi 50000 = true then 0 else 3 := rfl
  clear hsp
  generalize gateE (siteE (nameB s) x y z r g st wd) tilt rlo rhi = ge at *
  generalize siteE (nameB s) x y z r g st wd = se at *
  generalize spnB rlo rhi 50000 = sb at *
  generalize winBQ tilt 0 256 = wb at *
  unfold siteV
  have HC := hide hcs
  have HW := hide hw
  have HI := hide hi
  clear hcs hw hi
  by_cases h0 : se = 0
  · subst h0
    rw [if_neg (by simp)] at hE
    cases wb with
    | true =>
      cases sb with
      | true =>
        rw [if_pos ⟨rfl, rfl⟩] at hE
        have HE := hide hE
        clear hE
        go_enter Try.func86, Try.ntmps86
        have HB := hide (Below.refl w.heap.size w)
        go_wp2_with fail
        refine at_world fun W hW => ?_
        have bq0 : Blk W w.heap.size 83 #[.string s, .int .i64 x, .int .i64 y, .int .i64 z, .int .i64 r, .int .i64 g, .int .i64 st, .int .i64 wd] := by rw [hW]; exact (Blk.new _ _ _).alloc _
        have bq1 : Blk W (w.heap.size + 1) 32 #[.int .i64 rlo, .int .i64 rhi] := by rw [hW]; exact blk_new_at (by simp)
        have LW : Later w W := by rw [hW]; exact (((Below.refl _ _).alloc (Nat.le_refl _) _).alloc (by simp; try omega) _)
        have szW : W.heap.size = w.heap.size + 2 := by rw [hW]; simp
        clear hW
        replace HB := hide (onward HB.out LW)
        have Hs := hide bq0
        have He := hide bq1
        clear bq0 bq1 LW szW
        refine (HC.out _).mono ?_
        rintro e w1 ⟨rfl, hb⟩
        replace HB := hide (onward HB.out hb)
        replace Hs := hide (blk_later Hs.out hb)
        replace He := hide (blk_later He.out hb)
        clear hb
        go_wp2_with fail
        refine (HI.out _).mono ?_
        rintro e w2 ⟨rfl, rfl⟩
        obtain ⟨v0, v1⟩ := He.out.c2
        have ltv := He.out.lt
        go_wp2_with fail
        refine (HW.out _).mono ?_
        rintro e w2 ⟨rfl, hb⟩
        replace HB := hide (onward HB.out hb)
        replace Hs := hide (blk_later Hs.out hb)
        replace He := hide (blk_later He.out hb)
        clear hb v0 v1 ltv
        go_wp2
        go_ret
        exact ⟨by rw [HE.out]; rfl, HB.out⟩
      | false =>
        rw [if_neg (by simp)] at hE
        have HE := hide hE
        clear hE
        go_enter Try.func86, Try.ntmps86
        have HB := hide (Below.refl w.heap.size w)
        go_wp2_with fail
        refine at_world fun W hW => ?_
        have bq0 : Blk W w.heap.size 83 #[.string s, .int .i64 x, .int .i64 y, .int .i64 z, .int .i64 r, .int .i64 g, .int .i64 st, .int .i64 wd] := by rw [hW]; exact (Blk.new _ _ _).alloc _
        have bq1 : Blk W (w.heap.size + 1) 32 #[.int .i64 rlo, .int .i64 rhi] := by rw [hW]; exact blk_new_at (by simp)
        have LW : Later w W := by rw [hW]; exact (((Below.refl _ _).alloc (Nat.le_refl _) _).alloc (by simp; try omega) _)
        have szW : W.heap.size = w.heap.size + 2 := by rw [hW]; simp
        clear hW
        replace HB := hide (onward HB.out LW)
        have Hs := hide bq0
        have He := hide bq1
        clear bq0 bq1 LW szW
        refine (HC.out _).mono ?_
        rintro e w1 ⟨rfl, hb⟩
        replace HB := hide (onward HB.out hb)
        replace Hs := hide (blk_later Hs.out hb)
        replace He := hide (blk_later He.out hb)
        clear hb
        go_wp2_with fail
        refine (HI.out _).mono ?_
        rintro e w2 ⟨rfl, rfl⟩
        obtain ⟨v0, v1⟩ := He.out.c2
        have ltv := He.out.lt
        go_wp2_with fail
        refine (HW.out _).mono ?_
        rintro e w2 ⟨rfl, hb⟩
        replace HB := hide (onward HB.out hb)
        replace Hs := hide (blk_later Hs.out hb)
        replace He := hide (blk_later He.out hb)
        clear hb v0 v1 ltv
        go_wp2
        go_ret
        exact ⟨by rw [HE.out]; rfl, HB.out⟩
    | false =>
      rw [if_neg (by simp)] at hE
      have HE := hide hE
      clear hE
      go_enter Try.func86, Try.ntmps86
      have HB := hide (Below.refl w.heap.size w)
      go_wp2_with fail
      refine at_world fun W hW => ?_
      have bq0 : Blk W w.heap.size 83 #[.string s, .int .i64 x, .int .i64 y, .int .i64 z, .int .i64 r, .int .i64 g, .int .i64 st, .int .i64 wd] := by rw [hW]; exact (Blk.new _ _ _).alloc _
      have bq1 : Blk W (w.heap.size + 1) 32 #[.int .i64 rlo, .int .i64 rhi] := by rw [hW]; exact blk_new_at (by simp)
      have LW : Later w W := by rw [hW]; exact (((Below.refl _ _).alloc (Nat.le_refl _) _).alloc (by simp; try omega) _)
      have szW : W.heap.size = w.heap.size + 2 := by rw [hW]; simp
      clear hW
      replace HB := hide (onward HB.out LW)
      have Hs := hide bq0
      have He := hide bq1
      clear bq0 bq1 LW szW
      refine (HC.out _).mono ?_
      rintro e w1 ⟨rfl, hb⟩
      replace HB := hide (onward HB.out hb)
      replace Hs := hide (blk_later Hs.out hb)
      replace He := hide (blk_later He.out hb)
      clear hb
      go_wp2_with fail
      refine (HI.out _).mono ?_
      rintro e w2 ⟨rfl, rfl⟩
      go_wp2
      go_ret
      exact ⟨by rw [HE.out]; rfl, HB.out⟩
  · rw [if_pos h0] at hE
    have hd : (se != 0) = true := by simp [h0]
    have HE := hide hE
    clear hE
    go_enter Try.func86, Try.ntmps86
    have HB := hide (Below.refl w.heap.size w)
    go_wp2_with fail
    refine at_world fun W hW => ?_
    have bq0 : Blk W w.heap.size 83 #[.string s, .int .i64 x, .int .i64 y, .int .i64 z, .int .i64 r, .int .i64 g, .int .i64 st, .int .i64 wd] := by rw [hW]; exact (Blk.new _ _ _).alloc _
    have bq1 : Blk W (w.heap.size + 1) 32 #[.int .i64 rlo, .int .i64 rhi] := by rw [hW]; exact blk_new_at (by simp)
    have LW : Later w W := by rw [hW]; exact (((Below.refl _ _).alloc (Nat.le_refl _) _).alloc (by simp; try omega) _)
    have szW : W.heap.size = w.heap.size + 2 := by rw [hW]; simp
    clear hW
    replace HB := hide (onward HB.out LW)
    have Hs := hide bq0
    have He := hide bq1
    clear bq0 bq1 LW szW
    refine (HC.out _).mono ?_
    rintro e w1 ⟨rfl, hb⟩
    replace HB := hide (onward HB.out hb)
    replace Hs := hide (blk_later Hs.out hb)
    replace He := hide (blk_later He.out hb)
    clear hb
    go_wp2
    go_ret
    exact ⟨by rw [HE.out]; rfl, HB.out⟩
end Go.Proofs.Ytllpffkifleigaa
end
section
namespace Go.Proofs.Ytllpffkifleigaa
open Go Go.RowKit

set_option maxHeartbeats 1000000 in
set_option maxRecDepth 100000 in
theorem rlook_any (s : ByteArray) (x y z r g st wd tilt ray slo shi rlo rhi : Int) (w : World) (hs : s.size ≤ 9223372036854775807) :
    Calls Try.prog 42 #[siteV s x y z r g st wd, .int .i64 tilt, .int .i64 ray, .agg #[.int .i64 slo, .int .i64 shi], .agg #[.int .i64 rlo, .int .i64 rhi]] w fun e w' =>
      e = .returned (.tuple #[sgC (lookA (siteE (nameB s) x y z r g st wd) r tilt ray slo shi rlo rhi), .int .i64 (lookE (siteE (nameB s) x y z r g st wd) r tilt ray slo shi rlo rhi)]) ∧ Below w.heap.size w w' := by
  have hc := fun W => rgate_any s x y z r g st wd tilt rlo rhi W hs
  have hw := fun W => Valid_any slo shi (-200000) 200000 W
  have hsp : spnB slo shi 200000 = decide (-200000 ≤ slo ∧ slo ≤ shi ∧ shi ≤ 200000) := rfl
  rw [← hsp] at hw
  clear hsp
  have hin := fun W => In_any ray 0 (4 * r - 1) W
  have hsk := fun h => siteE_ok (nb := nameB s) (x := x) (y := y) (z := z) (r := r) (g := g) (st := st) (wd := wd) h
  generalize siteE (nameB s) x y z r g st wd = se at *
  have hE : lookE se r tilt ray slo shi rlo rhi = if gateE se tilt rlo rhi ≠ 0 then gateE se tilt rlo rhi else if winBQ ray 0 (4 * r - 1) = true ∧ spnB slo shi 200000 = true then 0 else 3 := rfl
  have hA : lookA se r tilt ray slo shi rlo rhi = if lookE se r tilt ray slo shi rlo rhi = 0 then lookS r tilt ray slo shi rlo rhi else sg0 := rfl
  have hok := fun h => gateE_ok (se := se) (tilt := tilt) (rlo := rlo) (rhi := rhi) h
  have hspn : spnB slo shi 200000 = true → -200000 ≤ slo ∧ slo ≤ shi ∧ shi ≤ 200000 := fun h => by unfold spnB at h; exact of_decide_eq_true h
  generalize lookE se r tilt ray slo shi rlo rhi = le at *
  generalize gateE se tilt rlo rhi = ge at *
  rw [hA]
  clear hA
  unfold siteV at *
  unfold sgC
  have HC := hide hc
  have HIN := hide hin
  clear hc hin
  have HA := hide (rfl : (0 : Int) = 0)
  by_cases h0 : ge = 0
  · subst h0
    obtain ⟨hse, t1, t2, r1, r2, r3⟩ := hok rfl
    obtain ⟨-, -, -, -, -, -, -, ro1, ro2, -⟩ := hsk hse
    rw [if_neg (by simp)] at hE
    obtain ⟨sb, hsb⟩ : ∃ b, spnB slo shi 200000 = b := ⟨_, rfl⟩
    rw [hsb] at hE hspn
    simp only [hsb] at hw
    clear hsk hok hsb
    have HW := hide hw
    clear hw
    by_cases h1 : winBQ ray 0 (4 * r - 1) = true
    · obtain ⟨y1, y2⟩ := winB_iff.1 h1
      have hin1 := HIN.out
      simp only [h1] at hin1
      have HIN2 := hide hin1
      clear hin1
      cases sb with
      | true =>
        rw [if_pos ⟨h1, rfl⟩] at hE
        subst hE
        obtain ⟨q1, q2, q3⟩ := hspn rfl
        rw [if_pos rfl]
        unfold lookS
        have hD := fun W => RefDirection_any (2 * r) (2 * ray + 1) W
        have hS := fun W => RefSlant_any tilt W
        have hdr : dirR (2 * r) (2 * ray + 1) = (dirV (2 * r) (2 * ray + 1), 0) := by
          unfold dirR
          rw [if_pos]
          unfold okD
          rw [Bool.and_eq_true]
          exact ⟨winB_iff.2 ⟨by omega, by omega⟩, winB_iff.2 ⟨by omega, by omega⟩⟩
        have hsr : slantR tilt = (slantV tilt, 0) := by
          unfold slantR
          rw [if_pos (winB_iff.2 ⟨by omega, by omega⟩)]
        rw [hdr] at hD
        rw [hsr] at hS
        obtain ⟨a1, a2, a3, a4, a5, a6⟩ := slant_bd t1 t2
        unfold vecE at hD hS
        clear hdr hsr
        generalize dirV (2 * r) (2 * ray + 1) = dv at *
        generalize slantV tilt = sv at *
        obtain ⟨dx, dy, dl⟩ := dv
        obtain ⟨cx, sy, al⟩ := sv
        simp only at *
        have m1 := abs_mul (X := 200000) (Y := 327680) q1 (show slo ≤ 200000 by omega) (show -327680 ≤ al by omega) a6
        have m2 := abs_mul (X := 50000) (Y := 262144) (show -50000 ≤ rhi by omega) r3 (show -262144 ≤ sy by omega) a4
        have m3 := abs_mul (X := 50000) (Y := 262144) r1 (show rlo ≤ 50000 by omega) (show -262144 ≤ sy by omega) a4
        have m4 := abs_mul (X := 200000) (Y := 327680) (show -200000 ≤ shi by omega) q3 (show -327680 ≤ al by omega) a6
        obtain ⟨n1, hn1⟩ : ∃ n, slo * al - rhi * sy = n := ⟨_, rfl⟩
        obtain ⟨n2, hn2⟩ : ∃ n, rlo * sy - shi * al = n := ⟨_, rfl⟩
        have hn3 : shi * al - rlo * sy = -n2 := by omega
        have f1 : -1000000000000 ≤ n1 ∧ n1 ≤ 1000000000000 := by omega
        have f2 : -1000000000000 ≤ n2 ∧ n2 ≤ 1000000000000 := by omega
        have k1 : ∀ W, Calls Try.prog 67 #[.int .i64 n1, .int .i64 cx] W fun e w' => e = .returned (.int .i64 (n1 / cx)) ∧ Below W.heap.size W w' := fun W => (Down_any n1 cx W (by omega) (by omega) (by omega) (by omega)).mono fun e w' ⟨h1, h2⟩ => ⟨h1, h2 ▸ Below.refl _ _⟩
        have k2 : ∀ W, Calls Try.prog 68 #[.int .i64 (-n2), .int .i64 cx] W fun e w' => e = .returned (.int .i64 (-(n2 / cx))) ∧ Below W.heap.size W w' := fun W => (Up_any (-n2) cx W (by omega) (by omega) (by omega) (by omega)).mono fun e w' ⟨h1, h2⟩ => ⟨by rw [h1]; unfold cdiv; rw [Int.neg_neg], h2 ▸ Below.refl _ _⟩
        have fq : -1000000000000 ≤ n2 / cx ∧ n2 / cx ≤ 1000000000000 := by
          have e1 := Int.ediv_mul_le n2 (show cx ≠ 0 by omega)
          have e2 := Int.lt_ediv_add_one_mul_self n2 (show 0 < cx by omega)
          constructor
          · apply Classical.byContradiction
            intro hc
            have := Int.mul_le_mul_of_nonneg_right (show n2 / cx + 1 ≤ -1000000000000 by omega) (show 0 ≤ cx by omega)
            omega
          · apply Classical.byContradiction
            intro hc
            have := Int.mul_le_mul_of_nonneg_right (show 1000000000001 ≤ n2 / cx by omega) (show 0 ≤ cx by omega)
            omega
        obtain ⟨fq1, fq2⟩ := fq
        rw [hn1, hn2]
        generalize n1 / cx = u1 at *
        generalize n2 / cx = u2 at *
        have HD := hide hD
        have HS := hide hS
        have K1 := hide k1
        have K2 := hide k2
        clear hD hS k1 k2
        clear f1 f2
        go_enter Try.func42, Try.ntmps42
        have HM := hide (Mem.start w)
        go_wp2_with fail
        refine at_world fun W hW => ?_
        have HMn := Mem.to (Mem.allocAt (Mem.allocAt (Mem.allocAt (Mem.allocAt HM.out w.heap.size rfl #[.string s, .int .i64 x, .int .i64 y, .int .i64 z, .int .i64 r, .int .i64 g, .int .i64 st, .int .i64 wd] 83) (w.heap.size + 1) (by simp) #[.int .i64 slo, .int .i64 shi] 32) (w.heap.size + 2) (by simp) #[.int .i64 rlo, .int .i64 rhi] 32) (w.heap.size + 3) (by simp) #[.int .i64 0, .int .i64 0, .int .i64 0, .int .i64 0, .int .i64 0] 88) hW
        have LW : Later w W := by rw [hW]; exact (((((Below.refl _ _).alloc (Nat.le_refl _) _).alloc (by simp; try omega) _).alloc (by simp; try omega) _).alloc (by simp; try omega) _)
        have szW : W.heap.size = w.heap.size + 4 := by rw [hW]; simp
        clear hW
        replace HM := hide HMn
        clear HMn LW
        clear szW
        generalize hg3 : w.heap.size + 3 = gr at HM ⊢
        generalize hg2 : w.heap.size + 2 = gt at HM ⊢
        generalize hg1 : w.heap.size + 1 = gp at HM ⊢
        generalize hg0 : w.heap.size = gs at HM ⊢
        refine (HC.out _).mono ?_
        rintro e w1 ⟨rfl, hb⟩
        replace HM := hide (HM.out.later hb)
        clear hb
        have ba : Blk w1 gs 83 #[.string s, .int .i64 x, .int .i64 y, .int .i64 z, .int .i64 r, .int .i64 g, .int .i64 st, .int .i64 wd] := HM.out.get 3 rfl
        have lta := ba.lt
        have a0 := ba.c 0 rfl
        have a1 := ba.c 1 rfl
        have a2 := ba.c 2 rfl
        have a3 := ba.c 3 rfl
        have a4 := ba.c 4 rfl
        have a5 := ba.c 5 rfl
        have a6 := ba.c 6 rfl
        have a7 := ba.c 7 rfl
        have bc : Blk w1 gp 32 #[.int .i64 slo, .int .i64 shi] := HM.out.get 2 rfl
        have ltc := bc.lt
        have c0 := bc.c 0 rfl
        have c1 := bc.c 1 rfl
        go_wp2_with fail
        refine (HIN2.out _).mono ?_
        rintro e wi1 ⟨rfl, rfl⟩
        go_wp2_with fail
        refine (HW.out _).mono ?_
        rintro e w2 ⟨rfl, hb⟩
        replace HM := hide (HM.out.later hb)
        clear hb ba lta a0 a1 a2 a3 a4 a5 a6 a7 bc ltc c0 c1
        have ba : Blk w2 gs 83 #[.string s, .int .i64 x, .int .i64 y, .int .i64 z, .int .i64 r, .int .i64 g, .int .i64 st, .int .i64 wd] := HM.out.get 3 rfl
        have lta := ba.lt
        have a0 := ba.c 0 rfl
        have a1 := ba.c 1 rfl
        have a2 := ba.c 2 rfl
        have a3 := ba.c 3 rfl
        have a4 := ba.c 4 rfl
        have a5 := ba.c 5 rfl
        have a6 := ba.c 6 rfl
        have a7 := ba.c 7 rfl
        go_wp2_with fail
        refine (HD.out _).mono ?_
        rintro e wd1 ⟨rfl, rfl⟩
        go_wp2_with fail
        refine (HS.out _).mono ?_
        rintro e wd2 ⟨rfl, rfl⟩
        have bc : Blk w2 gp 32 #[.int .i64 slo, .int .i64 shi] := HM.out.get 2 rfl
        have ltc := bc.lt
        have c0 := bc.c 0 rfl
        have c1 := bc.c 1 rfl
        have bd : Blk w2 gt 32 #[.int .i64 rlo, .int .i64 rhi] := HM.out.get 1 rfl
        have ltd := bd.lt
        have d0 := bd.c 0 rfl
        have d1 := bd.c 1 rfl
        go_wp2_with fail
        refine wp_region_cut 27 (by kernel_rfl) (by simp only [List.take_succ_cons, List.take_zero]; exact rfl) (by simp only [List.drop_succ_cons, List.drop_zero]; exact rfl) (by kernel_rfl) ?_
        apply any_region_J (w0 := w2) [[], [], [], [], [], [], [], [], [], [], [], [], [], [], [], [], [], [], [], [], [], [], [], [], [], [], []] [true, true, true, true, true, true, true, true, true, true, true, true, true, true, true, true, true, true, true, true, true, true, true, true, true, true, true] [] (fun ixq y => match ixq with  | _ => undef) (fun ixq x F wq => match ixq with  | _ => True) (fun a x => a) (by kernel_rfl) (fun _ => rfl) [74, 85] (by kernel_rfl)
        · intro x D hD
          have hne := hD.some
          have k0 := liftB hD c0 (by first | assumption | omega)
          have k1 := liftB hD c1 (by first | assumption | omega)
          have k2 := liftB hD d0 (by first | assumption | omega)
          have k3 := liftB hD d1 (by first | assumption | omega)
          simp only [takeOps, Act.put, List.setIfInBounds_toArray, List.set_cons_succ, List.set_cons_zero]
          repeat (go_big_quiet_step ((first | (go_at_call 67; with_reducible exact calls_later hD _ (K1.out _)) | (go_at_call 68; with_reducible exact calls_later hD _ (K2.out _)))))
          exact wpQuiet_nil rfl
        · intro d hd x x'
          simp only [List.mem_cons, List.not_mem_nil, or_false] at hd
          rcases hd with rfl | rfl
          all_goals rfl
        · exact trivial
        · exact trivial
        intro xx w5 F hL hlv1 hap1
        clear hap1
        clear hlv1
        refine ⟨rfl, ?_⟩
        replace HM := hide (HM.out.later hL)
        clear hL ba lta a0 a1 a2 a3 a4 a5 a6 a7 bc ltc c0 c1 bd ltd d0 d1
        have bk : Blk w5 gr 88 #[.int .i64 0, .int .i64 0, .int .i64 0, .int .i64 0, .int .i64 0] := HM.out.get 0 rfl
        have ltk := bk.lt
        have k0 := bk.c 0 rfl
        have fk0 := bk.frozen 0
        have k1 := bk.c 1 rfl
        have fk1 := bk.frozen 1
        have k2 := bk.c 2 rfl
        have fk2 := bk.frozen 2
        have k3 := bk.c 3 rfl
        have fk3 := bk.frozen 3
        have k4 := bk.c 4 rfl
        have fk4 := bk.frozen 4
        go_wp2
        have HM1 := hide (((((HM.out.set_ 0 rfl 0 (.int .i64 dx) rfl).set_ 0 rfl 1 (.int .i64 dy) rfl).set_ 0 rfl 2 (.int .i64 dl) rfl).set_ 0 rfl 3 (.int .i64 u1) rfl).set_ 0 rfl 4 (.int .i64 (-u2)) rfl)
        have s0 := (HM1.out.blk_ 0 rfl).c 0 rfl
        have s1 := (HM1.out.blk_ 0 rfl).c 1 rfl
        have s2 := (HM1.out.blk_ 0 rfl).c 2 rfl
        have s3 := (HM1.out.blk_ 0 rfl).c 3 rfl
        have s4 := (HM1.out.blk_ 0 rfl).c 4 rfl
        have lts := (HM1.out.blk_ 0 rfl).lt
        refine ret_world fun W1 hW1 => ?_
        rw [← hW1] at HM1 s0 s1 s2 s3 s4 lts
        exact bodyPost_ret (v := .tuple #[.agg #[.int .i64 dx, .int .i64 dy, .int .i64 dl, .int .i64 u1, .int .i64 (-u2)], .int .i64 0]) (by simp [results, Try.results42, go_sem, s0, s1, s2, s3, s4, lts]) rfl ⟨by first | rfl | (rw [HA.out]; rfl), by first | exact HM1.out.below | (rw [← hg0]; exact HM1.out.below)⟩
      | false =>
        rw [if_neg (by simp)] at hE
        subst hE
        rw [if_neg (by omega)]
        unfold sg0
        go_enter Try.func42, Try.ntmps42
        have HM := hide (Mem.start w)
        go_wp2_with fail
        refine at_world fun W hW => ?_
        have HMn := Mem.to (Mem.allocAt (Mem.allocAt (Mem.allocAt (Mem.allocAt HM.out w.heap.size rfl #[.string s, .int .i64 x, .int .i64 y, .int .i64 z, .int .i64 r, .int .i64 g, .int .i64 st, .int .i64 wd] 83) (w.heap.size + 1) (by simp) #[.int .i64 slo, .int .i64 shi] 32) (w.heap.size + 2) (by simp) #[.int .i64 rlo, .int .i64 rhi] 32) (w.heap.size + 3) (by simp) #[.int .i64 0, .int .i64 0, .int .i64 0, .int .i64 0, .int .i64 0] 88) hW
        have LW : Later w W := by rw [hW]; exact (((((Below.refl _ _).alloc (Nat.le_refl _) _).alloc (by simp; try omega) _).alloc (by simp; try omega) _).alloc (by simp; try omega) _)
        have szW : W.heap.size = w.heap.size + 4 := by rw [hW]; simp
        clear hW
        replace HM := hide HMn
        clear HMn LW
        clear szW
        generalize hg3 : w.heap.size + 3 = gr at HM ⊢
        generalize hg2 : w.heap.size + 2 = gt at HM ⊢
        generalize hg1 : w.heap.size + 1 = gp at HM ⊢
        generalize hg0 : w.heap.size = gs at HM ⊢
        refine (HC.out _).mono ?_
        rintro e w1 ⟨rfl, hb⟩
        replace HM := hide (HM.out.later hb)
        clear hb
        have ba : Blk w1 gs 83 #[.string s, .int .i64 x, .int .i64 y, .int .i64 z, .int .i64 r, .int .i64 g, .int .i64 st, .int .i64 wd] := HM.out.get 3 rfl
        have lta := ba.lt
        have a0 := ba.c 0 rfl
        have a1 := ba.c 1 rfl
        have a2 := ba.c 2 rfl
        have a3 := ba.c 3 rfl
        have a4 := ba.c 4 rfl
        have a5 := ba.c 5 rfl
        have a6 := ba.c 6 rfl
        have a7 := ba.c 7 rfl
        have bc : Blk w1 gp 32 #[.int .i64 slo, .int .i64 shi] := HM.out.get 2 rfl
        have ltc := bc.lt
        have c0 := bc.c 0 rfl
        have c1 := bc.c 1 rfl
        go_wp2_with fail
        refine (HIN2.out _).mono ?_
        rintro e wi1 ⟨rfl, rfl⟩
        go_wp2_with fail
        refine (HW.out _).mono ?_
        rintro e w2 ⟨rfl, hb⟩
        replace HM := hide (HM.out.later hb)
        clear hb ba lta a0 a1 a2 a3 a4 a5 a6 a7 bc ltc c0 c1
        have bk : Blk w2 gr 88 #[.int .i64 0, .int .i64 0, .int .i64 0, .int .i64 0, .int .i64 0] := HM.out.get 0 rfl
        have ltk := bk.lt
        have k0 := bk.c 0 rfl
        have fk0 := bk.frozen 0
        have k1 := bk.c 1 rfl
        have fk1 := bk.frozen 1
        have k2 := bk.c 2 rfl
        have fk2 := bk.frozen 2
        have k3 := bk.c 3 rfl
        have fk3 := bk.frozen 3
        have k4 := bk.c 4 rfl
        have fk4 := bk.frozen 4
        go_wp2
        have HM1 := hide (((((HM.out.set_ 0 rfl 0 (.int .i64 0) rfl).set_ 0 rfl 1 (.int .i64 0) rfl).set_ 0 rfl 2 (.int .i64 0) rfl).set_ 0 rfl 3 (.int .i64 0) rfl).set_ 0 rfl 4 (.int .i64 0) rfl)
        have s0 := (HM1.out.blk_ 0 rfl).c 0 rfl
        have s1 := (HM1.out.blk_ 0 rfl).c 1 rfl
        have s2 := (HM1.out.blk_ 0 rfl).c 2 rfl
        have s3 := (HM1.out.blk_ 0 rfl).c 3 rfl
        have s4 := (HM1.out.blk_ 0 rfl).c 4 rfl
        have lts := (HM1.out.blk_ 0 rfl).lt
        refine ret_world fun W1 hW1 => ?_
        rw [← hW1] at HM1 s0 s1 s2 s3 s4 lts
        exact bodyPost_ret (v := .tuple #[.agg #[.int .i64 0, .int .i64 0, .int .i64 0, .int .i64 0, .int .i64 0], .int .i64 3]) (by simp [results, Try.results42, go_sem, s0, s1, s2, s3, s4, lts]) rfl ⟨by first | rfl | (rw [HA.out]; rfl), by first | exact HM1.out.below | (rw [← hg0]; exact HM1.out.below)⟩
    · rw [if_neg (fun h => h1 h.1)] at hE
      subst hE
      rw [if_neg (by omega)]
      unfold sg0
      have h1f : winBQ ray 0 (4 * r - 1) = false := by rw [Bool.eq_false_iff]; exact h1
      have hin1 := HIN.out
      simp only [h1f] at hin1
      have HIN2 := hide hin1
      clear hin1 h1f h1
      go_enter Try.func42, Try.ntmps42
      have HM := hide (Mem.start w)
      go_wp2_with fail
      refine at_world fun W hW => ?_
      have HMn := Mem.to (Mem.allocAt (Mem.allocAt (Mem.allocAt (Mem.allocAt HM.out w.heap.size rfl #[.string s, .int .i64 x, .int .i64 y, .int .i64 z, .int .i64 r, .int .i64 g, .int .i64 st, .int .i64 wd] 83) (w.heap.size + 1) (by simp) #[.int .i64 slo, .int .i64 shi] 32) (w.heap.size + 2) (by simp) #[.int .i64 rlo, .int .i64 rhi] 32) (w.heap.size + 3) (by simp) #[.int .i64 0, .int .i64 0, .int .i64 0, .int .i64 0, .int .i64 0] 88) hW
      have LW : Later w W := by rw [hW]; exact (((((Below.refl _ _).alloc (Nat.le_refl _) _).alloc (by simp; try omega) _).alloc (by simp; try omega) _).alloc (by simp; try omega) _)
      have szW : W.heap.size = w.heap.size + 4 := by rw [hW]; simp
      clear hW
      replace HM := hide HMn
      clear HMn LW
      clear szW
      generalize hg3 : w.heap.size + 3 = gr at HM ⊢
      generalize hg2 : w.heap.size + 2 = gt at HM ⊢
      generalize hg1 : w.heap.size + 1 = gp at HM ⊢
      generalize hg0 : w.heap.size = gs at HM ⊢
      refine (HC.out _).mono ?_
      rintro e w1 ⟨rfl, hb⟩
      replace HM := hide (HM.out.later hb)
      clear hb
      have ba : Blk w1 gs 83 #[.string s, .int .i64 x, .int .i64 y, .int .i64 z, .int .i64 r, .int .i64 g, .int .i64 st, .int .i64 wd] := HM.out.get 3 rfl
      have lta := ba.lt
      have a0 := ba.c 0 rfl
      have a1 := ba.c 1 rfl
      have a2 := ba.c 2 rfl
      have a3 := ba.c 3 rfl
      have a4 := ba.c 4 rfl
      have a5 := ba.c 5 rfl
      have a6 := ba.c 6 rfl
      have a7 := ba.c 7 rfl
      go_wp2_with fail
      refine (HIN2.out _).mono ?_
      rintro e wi1 ⟨rfl, rfl⟩
      have bk : Blk w1 gr 88 #[.int .i64 0, .int .i64 0, .int .i64 0, .int .i64 0, .int .i64 0] := HM.out.get 0 rfl
      have ltk := bk.lt
      have k0 := bk.c 0 rfl
      have fk0 := bk.frozen 0
      have k1 := bk.c 1 rfl
      have fk1 := bk.frozen 1
      have k2 := bk.c 2 rfl
      have fk2 := bk.frozen 2
      have k3 := bk.c 3 rfl
      have fk3 := bk.frozen 3
      have k4 := bk.c 4 rfl
      have fk4 := bk.frozen 4
      go_wp2
      have HM1 := hide (((((HM.out.set_ 0 rfl 0 (.int .i64 0) rfl).set_ 0 rfl 1 (.int .i64 0) rfl).set_ 0 rfl 2 (.int .i64 0) rfl).set_ 0 rfl 3 (.int .i64 0) rfl).set_ 0 rfl 4 (.int .i64 0) rfl)
      have s0 := (HM1.out.blk_ 0 rfl).c 0 rfl
      have s1 := (HM1.out.blk_ 0 rfl).c 1 rfl
      have s2 := (HM1.out.blk_ 0 rfl).c 2 rfl
      have s3 := (HM1.out.blk_ 0 rfl).c 3 rfl
      have s4 := (HM1.out.blk_ 0 rfl).c 4 rfl
      have lts := (HM1.out.blk_ 0 rfl).lt
      refine ret_world fun W1 hW1 => ?_
      rw [← hW1] at HM1 s0 s1 s2 s3 s4 lts
      exact bodyPost_ret (v := .tuple #[.agg #[.int .i64 0, .int .i64 0, .int .i64 0, .int .i64 0, .int .i64 0], .int .i64 3]) (by simp [results, Try.results42, go_sem, s0, s1, s2, s3, s4, lts]) rfl ⟨by first | rfl | (rw [HA.out]; rfl), by first | exact HM1.out.below | (rw [← hg0]; exact HM1.out.below)⟩
  · rw [if_pos h0] at hE
    subst hE
    rw [if_neg h0]
    unfold sg0
    have hd : (le != 0) = true := by simp [h0]
    go_enter Try.func42, Try.ntmps42
    have HM := hide (Mem.start w)
    go_wp2_with fail
    refine at_world fun W hW => ?_
    have HMn := Mem.to (Mem.allocAt (Mem.allocAt (Mem.allocAt (Mem.allocAt HM.out w.heap.size rfl #[.string s, .int .i64 x, .int .i64 y, .int .i64 z, .int .i64 r, .int .i64 g, .int .i64 st, .int .i64 wd] 83) (w.heap.size + 1) (by simp) #[.int .i64 slo, .int .i64 shi] 32) (w.heap.size + 2) (by simp) #[.int .i64 rlo, .int .i64 rhi] 32) (w.heap.size + 3) (by simp) #[.int .i64 0, .int .i64 0, .int .i64 0, .int .i64 0, .int .i64 0] 88) hW
    have LW : Later w W := by rw [hW]; exact (((((Below.refl _ _).alloc (Nat.le_refl _) _).alloc (by simp; try omega) _).alloc (by simp; try omega) _).alloc (by simp; try omega) _)
    have szW : W.heap.size = w.heap.size + 4 := by rw [hW]; simp
    clear hW
    replace HM := hide HMn
    clear HMn LW
    clear szW
    generalize hg3 : w.heap.size + 3 = gr at HM ⊢
    generalize hg2 : w.heap.size + 2 = gt at HM ⊢
    generalize hg1 : w.heap.size + 1 = gp at HM ⊢
    generalize hg0 : w.heap.size = gs at HM ⊢
    refine (HC.out _).mono ?_
    rintro e w1 ⟨rfl, hb⟩
    replace HM := hide (HM.out.later hb)
    clear hb
    have bk : Blk w1 gr 88 #[.int .i64 0, .int .i64 0, .int .i64 0, .int .i64 0, .int .i64 0] := HM.out.get 0 rfl
    have ltk := bk.lt
    have k0 := bk.c 0 rfl
    have fk0 := bk.frozen 0
    have k1 := bk.c 1 rfl
    have fk1 := bk.frozen 1
    have k2 := bk.c 2 rfl
    have fk2 := bk.frozen 2
    have k3 := bk.c 3 rfl
    have fk3 := bk.frozen 3
    have k4 := bk.c 4 rfl
    have fk4 := bk.frozen 4
    go_wp2
    have HM1 := hide (((((HM.out.set_ 0 rfl 0 (.int .i64 0) rfl).set_ 0 rfl 1 (.int .i64 0) rfl).set_ 0 rfl 2 (.int .i64 0) rfl).set_ 0 rfl 3 (.int .i64 0) rfl).set_ 0 rfl 4 (.int .i64 0) rfl)
    have s0 := (HM1.out.blk_ 0 rfl).c 0 rfl
    have s1 := (HM1.out.blk_ 0 rfl).c 1 rfl
    have s2 := (HM1.out.blk_ 0 rfl).c 2 rfl
    have s3 := (HM1.out.blk_ 0 rfl).c 3 rfl
    have s4 := (HM1.out.blk_ 0 rfl).c 4 rfl
    have lts := (HM1.out.blk_ 0 rfl).lt
    refine ret_world fun W1 hW1 => ?_
    rw [← hW1] at HM1 s0 s1 s2 s3 s4 lts
    exact bodyPost_ret (v := .tuple #[.agg #[.int .i64 0, .int .i64 0, .int .i64 0, .int .i64 0, .int .i64 0], .int .i64 le]) (by simp [results, Try.results42, go_sem, s0, s1, s2, s3, s4, lts]) rfl ⟨by first | rfl | (rw [HA.out]; rfl), by first | exact HM1.out.below | (rw [← hg0]; exact HM1.out.below)⟩
end Go.Proofs.Ytllpffkifleigaa
end
