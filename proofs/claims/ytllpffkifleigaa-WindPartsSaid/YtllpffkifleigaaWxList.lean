/-
  Look: the sight of a gate.
  The document: directions, sights, gates.
  The document's half-planes of sights.
  The document's corners: where two borders meet; on which side of a border a corner lies.
  The document's Side: whether a corner lies beyond a border.
  The document's corners of half-planes.
  The document's list of sights is checked; whether sights agree.
-/
import Derived.Test.YtllpffkifleigaaWbRefFind
import Derived.Test.YtllpffkifleigaaWdCheck
import Derived.Test.YtllpffkifleigaaRegJ
import Derived.Test.YtllpffkifleigaaWdBounds
import Derived.Test.YtllpffkifleigaaWbRefDivs
set_option linter.unusedSimpArgs false
set_option linter.unusedVariables false
section
namespace Go.Proofs.Ytllpffkifleigaa
open Go Go.RowKit

def gateE (se tilt rlo rhi : Int) : Int := if se ≠ 0 then se else if winBQ tilt 0 256 = true ∧ spnB rlo rhi 50000 = true then 0 else 3
def lookE (se r tilt ray slo shi rlo rhi : Int) : Int := if gateE se tilt rlo rhi ≠ 0 then gateE se tilt rlo rhi else if winBQ ray 0 (4 * r - 1) = true ∧ spnB slo shi 200000 = true then 0 else 3
def lookS (r tilt ray slo shi rlo rhi : Int) : Sgt :=
  ⟨(dirV (2 * r) (2 * ray + 1)).x, (dirV (2 * r) (2 * ray + 1)).y, (dirV (2 * r) (2 * ray + 1)).l, (slo * (slantV tilt).l - rhi * (slantV tilt).y) / (slantV tilt).x, -((rlo * (slantV tilt).y - shi * (slantV tilt).l) / (slantV tilt).x)⟩
def lookA (se r tilt ray slo shi rlo rhi : Int) : Sgt := if lookE se r tilt ray slo shi rlo rhi = 0 then lookS r tilt ray slo shi rlo rhi else sg0
theorem floor_math {a b : Int} (hb : 0 < b) : (a.tdiv b * b ≤ a ∧ a / b = a.tdiv b) ∨ (a < a.tdiv b * b ∧ a / b = a.tdiv b - 1) := by
  have h := tdiv_floor (a := a) hb
  have h1 := Int.mul_tdiv_add_tmod a b
  rw [Int.mul_comm] at h1
  split at h
  · exact .inr ⟨by omega, h⟩
  · exact .inl ⟨by omega, h⟩
theorem floor_bd {a b X : Int} (hb : 0 < b) (h1 : -X ≤ a) (h2 : a ≤ X) : -X ≤ a.tdiv b ∧ a.tdiv b ≤ X ∧ -X ≤ a.tdiv b * b ∧ a.tdiv b * b ≤ X := by
  have e : (a.tdiv b * b).natAbs ≤ a.natAbs := by
    rw [Int.natAbs_mul, Int.natAbs_tdiv]
    exact Nat.div_mul_le_self _ _
  have e2 : (a.tdiv b).natAbs ≤ a.natAbs := by
    rw [Int.natAbs_tdiv]
    exact Nat.div_le_self _ _
  omega
set_option maxHeartbeats 1000000 in
set_option maxRecDepth 100000 in
theorem floor_any (a b : Int) (w : World) (hb : 0 < b) (h1 : -1000000000000000000 ≤ a) (h2 : a ≤ 1000000000000000000) (hb2 : b ≤ 1000000000000000000) :
    Calls Try.prog 85 #[.int .i64 a, .int .i64 b] w fun e w' => e = .returned (.int .i64 (a / b)) ∧ Below w.heap.size w w' := by
  obtain ⟨b1, b2, b3, b4⟩ := floor_bd hb h1 h2
  have hm := floor_math (a := a) hb
  have hb0 : b ≠ 0 := by omega
  obtain ⟨q, hq⟩ : ∃ q, a.tdiv b = q := ⟨_, rfl⟩
  rw [hq] at b1 b2 b3 b4 hm
  rcases hm with ⟨h3, h4⟩ | ⟨h3, h4⟩
  all_goals
    rw [h4]
    clear h4
    go_enter Try.func85, Try.ntmps85
    go_wp2
    go_ret
    exact ⟨rfl, Below.refl _ _⟩
set_option maxHeartbeats 1000000 in
set_option maxRecDepth 100000 in
theorem looked_any (s : ByteArray) (x y z r g st wd tilt rlo rhi : Int) (w : World) (hs : s.size ≤ 9223372036854775807) :
    Calls Try.prog 83 #[siteV s x y z r g st wd, .int .i64 tilt, .agg #[.int .i64 rlo, .int .i64 rhi]] w fun e w' => e = .returned (.int .i64 (gateE (siteE (nameB s) x y z r g st wd) tilt rlo rhi)) ∧ Below w.heap.size w w' := by
  have hcs := fun W => CheckSite_any s (nameB s) x y z r g st wd W (fun W => Name_any s W hs)
  have hw := fun W => within_any rlo rhi 50000 W (by omega) (by omega)
  have hE : gateE (siteE (nameB s) x y z r g st wd) tilt rlo rhi = if siteE (nameB s) x y z r g st wd ≠ 0 then siteE (nameB s) x y z r g st wd else if winBQ tilt 0 256 = true ∧ spnB rlo rhi 50000 = true then 0 else 3 := rfl
  generalize gateE (siteE (nameB s) x y z r g st wd) tilt rlo rhi = ge at *
  generalize siteE (nameB s) x y z r g st wd = se at *
  generalize spnB rlo rhi 50000 = sb at *
  unfold siteV
  have HC := hide hcs
  have HW := hide hw
  clear hcs hw
  by_cases h0 : se = 0
  · subst h0
    rw [if_neg (by simp)] at hE
    by_cases h1 : winBQ tilt 0 256 = true
    · obtain ⟨t1, t2⟩ := winB_iff.1 h1
      have hd1 : decide (tilt < 0) = false := decide_eq_false (by omega)
      have hd2 : decide ((256 : Int) < tilt) = false := decide_eq_false (by omega)
      cases sb with
      | true =>
        rw [if_pos ⟨h1, rfl⟩] at hE
        have HE := hide hE
        clear hE
        go_enter Try.func83, Try.ntmps83
        have HB := hide (Below.refl w.heap.size w)
        go_wp2_with fail
        refine at_world fun W hW => ?_
        have bq0 : Blk W w.heap.size 83 #[.string s, .int .i64 x, .int .i64 y, .int .i64 z, .int .i64 r, .int .i64 g, .int .i64 st, .int .i64 wd] := by rw [hW]; exact (Blk.new _ _ _).alloc _
        have bq1 : Blk W (w.heap.size + 1) 32 #[.int .i64 rlo, .int .i64 rhi] := by rw [hW]; exact blk_new_at (by simp)
        have LW : Later w W := by rw [hW]; exact (((Below.refl _ _).alloc (Nat.le_refl _) _).alloc (by simp; try omega) _)
        have szW : W.heap.size = w.heap.size + 2 := by rw [hW]; simp
        clear hW
        replace HB := hide (onward HB.out LW)
        have Hs := hide bq0
        have He := hide bq1
        clear bq0 bq1 LW szW
        refine (HC.out _).mono ?_
        rintro e w1 ⟨rfl, hb⟩
        replace HB := hide (onward HB.out hb)
        replace Hs := hide (blk_later Hs.out hb)
        replace He := hide (blk_later He.out hb)
        clear hb
        obtain ⟨v0, v1⟩ := He.out.c2
        have ltv := He.out.lt
        go_wp2_with fail
        refine (HW.out _).mono ?_
        rintro e w2 ⟨rfl, hb⟩
        replace HB := hide (onward HB.out hb)
        replace Hs := hide (blk_later Hs.out hb)
        replace He := hide (blk_later He.out hb)
        clear hb v0 v1 ltv
        go_wp2
        go_ret
        exact ⟨by rw [HE.out]; rfl, HB.out⟩
      | false =>
        rw [if_neg (by simp)] at hE
        have HE := hide hE
        clear hE
        go_enter Try.func83, Try.ntmps83
        have HB := hide (Below.refl w.heap.size w)
        go_wp2_with fail
        refine at_world fun W hW => ?_
        have bq0 : Blk W w.heap.size 83 #[.string s, .int .i64 x, .int .i64 y, .int .i64 z, .int .i64 r, .int .i64 g, .int .i64 st, .int .i64 wd] := by rw [hW]; exact (Blk.new _ _ _).alloc _
        have bq1 : Blk W (w.heap.size + 1) 32 #[.int .i64 rlo, .int .i64 rhi] := by rw [hW]; exact blk_new_at (by simp)
        have LW : Later w W := by rw [hW]; exact (((Below.refl _ _).alloc (Nat.le_refl _) _).alloc (by simp; try omega) _)
        have szW : W.heap.size = w.heap.size + 2 := by rw [hW]; simp
        clear hW
        replace HB := hide (onward HB.out LW)
        have Hs := hide bq0
        have He := hide bq1
        clear bq0 bq1 LW szW
        refine (HC.out _).mono ?_
        rintro e w1 ⟨rfl, hb⟩
        replace HB := hide (onward HB.out hb)
        replace Hs := hide (blk_later Hs.out hb)
        replace He := hide (blk_later He.out hb)
        clear hb
        obtain ⟨v0, v1⟩ := He.out.c2
        have ltv := He.out.lt
        go_wp2_with fail
        refine (HW.out _).mono ?_
        rintro e w2 ⟨rfl, hb⟩
        replace HB := hide (onward HB.out hb)
        replace Hs := hide (blk_later Hs.out hb)
        replace He := hide (blk_later He.out hb)
        clear hb v0 v1 ltv
        go_wp2
        go_ret
        exact ⟨by rw [HE.out]; rfl, HB.out⟩
    · rw [if_neg (fun h => h1 h.1)] at hE
      have HE := hide hE
      clear hE
      by_cases h2 : tilt < 0
      · have hd1 : decide (tilt < 0) = true := decide_eq_true h2
        go_enter Try.func83, Try.ntmps83
        have HB := hide (Below.refl w.heap.size w)
        go_wp2_with fail
        refine at_world fun W hW => ?_
        have bq0 : Blk W w.heap.size 83 #[.string s, .int .i64 x, .int .i64 y, .int .i64 z, .int .i64 r, .int .i64 g, .int .i64 st, .int .i64 wd] := by rw [hW]; exact (Blk.new _ _ _).alloc _
        have bq1 : Blk W (w.heap.size + 1) 32 #[.int .i64 rlo, .int .i64 rhi] := by rw [hW]; exact blk_new_at (by simp)
        have LW : Later w W := by rw [hW]; exact (((Below.refl _ _).alloc (Nat.le_refl _) _).alloc (by simp; try omega) _)
        have szW : W.heap.size = w.heap.size + 2 := by rw [hW]; simp
        clear hW
        replace HB := hide (onward HB.out LW)
        have Hs := hide bq0
        have He := hide bq1
        clear bq0 bq1 LW szW
        refine (HC.out _).mono ?_
        rintro e w1 ⟨rfl, hb⟩
        replace HB := hide (onward HB.out hb)
        replace Hs := hide (blk_later Hs.out hb)
        replace He := hide (blk_later He.out hb)
        clear hb
        go_wp2
        go_ret
        exact ⟨by rw [HE.out]; rfl, HB.out⟩
      · have hd1 : decide (tilt < 0) = false := decide_eq_false h2
        have hd2 : decide ((256 : Int) < tilt) = true := decide_eq_true (by
          apply Classical.byContradiction
          intro hc
          exact h1 (winB_iff.2 ⟨by omega, by omega⟩))
        go_enter Try.func83, Try.ntmps83
        have HB := hide (Below.refl w.heap.size w)
        go_wp2_with fail
        refine at_world fun W hW => ?_
        have bq0 : Blk W w.heap.size 83 #[.string s, .int .i64 x, .int .i64 y, .int .i64 z, .int .i64 r, .int .i64 g, .int .i64 st, .int .i64 wd] := by rw [hW]; exact (Blk.new _ _ _).alloc _
        have bq1 : Blk W (w.heap.size + 1) 32 #[.int .i64 rlo, .int .i64 rhi] := by rw [hW]; exact blk_new_at (by simp)
        have LW : Later w W := by rw [hW]; exact (((Below.refl _ _).alloc (Nat.le_refl _) _).alloc (by simp; try omega) _)
        have szW : W.heap.size = w.heap.size + 2 := by rw [hW]; simp
        clear hW
        replace HB := hide (onward HB.out LW)
        have Hs := hide bq0
        have He := hide bq1
        clear bq0 bq1 LW szW
        refine (HC.out _).mono ?_
        rintro e w1 ⟨rfl, hb⟩
        replace HB := hide (onward HB.out hb)
        replace Hs := hide (blk_later Hs.out hb)
        replace He := hide (blk_later He.out hb)
        clear hb
        go_wp2
        go_ret
        exact ⟨by rw [HE.out]; rfl, HB.out⟩
  · rw [if_pos h0] at hE
    have hd : (se != 0) = true := by simp [h0]
    have HE := hide hE
    clear hE
    go_enter Try.func83, Try.ntmps83
    have HB := hide (Below.refl w.heap.size w)
    go_wp2_with fail
    refine at_world fun W hW => ?_
    have bq0 : Blk W w.heap.size 83 #[.string s, .int .i64 x, .int .i64 y, .int .i64 z, .int .i64 r, .int .i64 g, .int .i64 st, .int .i64 wd] := by rw [hW]; exact (Blk.new _ _ _).alloc _
    have bq1 : Blk W (w.heap.size + 1) 32 #[.int .i64 rlo, .int .i64 rhi] := by rw [hW]; exact blk_new_at (by simp)
    have LW : Later w W := by rw [hW]; exact (((Below.refl _ _).alloc (Nat.le_refl _) _).alloc (by simp; try omega) _)
    have szW : W.heap.size = w.heap.size + 2 := by rw [hW]; simp
    clear hW
    replace HB := hide (onward HB.out LW)
    have Hs := hide bq0
    have He := hide bq1
    clear bq0 bq1 LW szW
    refine (HC.out _).mono ?_
    rintro e w1 ⟨rfl, hb⟩
    replace HB := hide (onward HB.out hb)
    replace Hs := hide (blk_later Hs.out hb)
    replace He := hide (blk_later He.out hb)
    clear hb
    go_wp2
    go_ret
    exact ⟨by rw [HE.out]; rfl, HB.out⟩
theorem gateE_ok {se tilt rlo rhi : Int} (h : gateE se tilt rlo rhi = 0) : se = 0 ∧ 0 ≤ tilt ∧ tilt ≤ 256 ∧ -50000 ≤ rlo ∧ rlo ≤ rhi ∧ rhi ≤ 50000 := by
  unfold gateE at h
  split at h
  · rename_i h1; exact absurd h h1
  · rename_i h1
    split at h
    · rename_i h2
      obtain ⟨h2, h3⟩ := h2
      obtain ⟨t1, t2⟩ := winB_iff.1 h2
      unfold spnB at h3
      obtain ⟨a, b, c⟩ := of_decide_eq_true h3
      exact ⟨Classical.not_not.1 h1, t1, t2, a, b, c⟩
    · cases h
theorem slant_bd {t : Int} (h1 : 0 ≤ t) (h2 : t ≤ 256) : 196608 ≤ (slantV t).x ∧ (slantV t).x ≤ 262144 ∧ 0 ≤ (slantV t).y ∧ (slantV t).y ≤ 262144 ∧ 262144 ≤ (slantV t).l ∧ (slantV t).l ≤ 327680 := by
  obtain ⟨a, b⟩ := mul_bdB h1 h2 h1 h2
  unfold slantV
  simp only
  omega
set_option maxHeartbeats 1000000 in
set_option maxRecDepth 100000 in
theorem Look_any (s : ByteArray) (x y z r g st wd tilt ray slo shi rlo rhi : Int) (w : World) (hs : s.size ≤ 9223372036854775807) :
    Calls Try.prog 41 #[siteV s x y z r g st wd, .int .i64 tilt, .int .i64 ray, .agg #[.int .i64 slo, .int .i64 shi], .agg #[.int .i64 rlo, .int .i64 rhi]] w fun e w' =>
      e = .returned (.tuple #[sgC (lookA (siteE (nameB s) x y z r g st wd) r tilt ray slo shi rlo rhi), .int .i64 (lookE (siteE (nameB s) x y z r g st wd) r tilt ray slo shi rlo rhi)]) ∧ Below w.heap.size w w' := by
  have hc := fun W => looked_any s x y z r g st wd tilt rlo rhi W hs
  have hw := fun W => within_any slo shi 200000 W (by omega) (by omega)
  have hsk := fun h => siteE_ok (nb := nameB s) (x := x) (y := y) (z := z) (r := r) (g := g) (st := st) (wd := wd) h
  generalize siteE (nameB s) x y z r g st wd = se at *
  have hE : lookE se r tilt ray slo shi rlo rhi = if gateE se tilt rlo rhi ≠ 0 then gateE se tilt rlo rhi else if winBQ ray 0 (4 * r - 1) = true ∧ spnB slo shi 200000 = true then 0 else 3 := rfl
  have hA : lookA se r tilt ray slo shi rlo rhi = if lookE se r tilt ray slo shi rlo rhi = 0 then lookS r tilt ray slo shi rlo rhi else sg0 := rfl
  have hok := fun h => gateE_ok (se := se) (tilt := tilt) (rlo := rlo) (rhi := rhi) h
  have hspn : spnB slo shi 200000 = true → -200000 ≤ slo ∧ slo ≤ shi ∧ shi ≤ 200000 := fun h => by unfold spnB at h; exact of_decide_eq_true h
  generalize lookE se r tilt ray slo shi rlo rhi = le at *
  generalize gateE se tilt rlo rhi = ge at *
  rw [hA]
  clear hA
  unfold siteV at *
  unfold sgC
  have HC := hide hc
  clear hc
  have HA := hide (rfl : (0 : Int) = 0)
  by_cases h0 : ge = 0
  · subst h0
    obtain ⟨hse, t1, t2, r1, r2, r3⟩ := hok rfl
    obtain ⟨-, -, -, -, -, -, -, ro1, ro2, -⟩ := hsk hse
    rw [if_neg (by simp)] at hE
    obtain ⟨sb, hsb⟩ : ∃ b, spnB slo shi 200000 = b := ⟨_, rfl⟩
    rw [hsb] at hE hspn
    simp only [hsb] at hw
    clear hsk hok hsb
    have HW := hide hw
    clear hw
    by_cases h1 : winBQ ray 0 (4 * r - 1) = true
    · obtain ⟨y1, y2⟩ := winB_iff.1 h1
      have hd1 : decide (ray < 0) = false := decide_eq_false (by omega)
      have hd2 : decide (4 * r ≤ ray) = false := decide_eq_false (by omega)
      cases sb with
      | true =>
        rw [if_pos ⟨h1, rfl⟩] at hE
        subst hE
        obtain ⟨q1, q2, q3⟩ := hspn rfl
        rw [if_pos rfl]
        unfold lookS
        have hD := fun W => Direction_any (2 * r) (2 * ray + 1) W
        have hS := fun W => Slant_any tilt W
        have hdr : dirR (2 * r) (2 * ray + 1) = (dirV (2 * r) (2 * ray + 1), 0) := by
          unfold dirR
          rw [if_pos]
          unfold okD
          rw [Bool.and_eq_true]
          exact ⟨winB_iff.2 ⟨by omega, by omega⟩, winB_iff.2 ⟨by omega, by omega⟩⟩
        have hsr : slantR tilt = (slantV tilt, 0) := by
          unfold slantR
          rw [if_pos (winB_iff.2 ⟨by omega, by omega⟩)]
        rw [hdr] at hD
        rw [hsr] at hS
        obtain ⟨a1, a2, a3, a4, a5, a6⟩ := slant_bd t1 t2
        unfold vecE at hD hS
        clear hdr hsr
        generalize dirV (2 * r) (2 * ray + 1) = dv at *
        generalize slantV tilt = sv at *
        obtain ⟨dx, dy, dl⟩ := dv
        obtain ⟨cx, sy, al⟩ := sv
        simp only at *
        have m1 := abs_mul (X := 200000) (Y := 327680) q1 (show slo ≤ 200000 by omega) (show -327680 ≤ al by omega) a6
        have m2 := abs_mul (X := 50000) (Y := 262144) (show -50000 ≤ rhi by omega) r3 (show -262144 ≤ sy by omega) a4
        have m3 := abs_mul (X := 50000) (Y := 262144) r1 (show rlo ≤ 50000 by omega) (show -262144 ≤ sy by omega) a4
        have m4 := abs_mul (X := 200000) (Y := 327680) (show -200000 ≤ shi by omega) q3 (show -327680 ≤ al by omega) a6
        obtain ⟨n1, hn1⟩ : ∃ n, slo * al - rhi * sy = n := ⟨_, rfl⟩
        obtain ⟨n2, hn2⟩ : ∃ n, rlo * sy - shi * al = n := ⟨_, rfl⟩
        have hf := fun n (h1 : -1000000000000 ≤ n) (h2 : n ≤ 1000000000000) W => floor_any n cx W (by omega) (by omega) (by omega) (by omega)
        have f1 : -1000000000000 ≤ n1 ∧ n1 ≤ 1000000000000 := by omega
        have f2 : -1000000000000 ≤ n2 ∧ n2 ≤ 1000000000000 := by omega
        have k1 := fun W => hf n1 f1.1 f1.2 W
        have k2 := fun W => hf n2 f2.1 f2.2 W
        have fq : -1000000000000 ≤ n2 / cx ∧ n2 / cx ≤ 1000000000000 := by
          have e1 := Int.ediv_mul_le n2 (show cx ≠ 0 by omega)
          have e2 := Int.lt_ediv_add_one_mul_self n2 (show 0 < cx by omega)
          constructor
          · apply Classical.byContradiction
            intro hc
            have := Int.mul_le_mul_of_nonneg_right (show n2 / cx + 1 ≤ -1000000000000 by omega) (show 0 ≤ cx by omega)
            omega
          · apply Classical.byContradiction
            intro hc
            have := Int.mul_le_mul_of_nonneg_right (show 1000000000001 ≤ n2 / cx by omega) (show 0 ≤ cx by omega)
            omega
        obtain ⟨fq1, fq2⟩ := fq
        rw [hn1, hn2]
        generalize n1 / cx = u1 at *
        generalize n2 / cx = u2 at *
        have HD := hide hD
        have HS := hide hS
        have K1 := hide k1
        have K2 := hide k2
        clear hD hS k1 k2
        clear hf f1 f2
        go_enter Try.func41, Try.ntmps41
        have HM := hide (Mem.start w)
        go_wp2_with fail
        refine at_world fun W hW => ?_
        have HMn := Mem.to (Mem.allocAt (Mem.allocAt (Mem.allocAt (Mem.allocAt HM.out w.heap.size rfl #[.string s, .int .i64 x, .int .i64 y, .int .i64 z, .int .i64 r, .int .i64 g, .int .i64 st, .int .i64 wd] 83) (w.heap.size + 1) (by simp) #[.int .i64 slo, .int .i64 shi] 32) (w.heap.size + 2) (by simp) #[.int .i64 rlo, .int .i64 rhi] 32) (w.heap.size + 3) (by simp) #[.int .i64 0, .int .i64 0, .int .i64 0, .int .i64 0, .int .i64 0] 71) hW
        have LW : Later w W := by rw [hW]; exact (((((Below.refl _ _).alloc (Nat.le_refl _) _).alloc (by simp; try omega) _).alloc (by simp; try omega) _).alloc (by simp; try omega) _)
        have szW : W.heap.size = w.heap.size + 4 := by rw [hW]; simp
        clear hW
        replace HM := hide HMn
        clear HMn LW
        clear szW
        generalize hg3 : w.heap.size + 3 = gr at HM ⊢
        generalize hg2 : w.heap.size + 2 = gt at HM ⊢
        generalize hg1 : w.heap.size + 1 = gp at HM ⊢
        generalize hg0 : w.heap.size = gs at HM ⊢
        refine (HC.out _).mono ?_
        rintro e w1 ⟨rfl, hb⟩
        replace HM := hide (HM.out.later hb)
        clear hb
        have ba : Blk w1 gs 83 #[.string s, .int .i64 x, .int .i64 y, .int .i64 z, .int .i64 r, .int .i64 g, .int .i64 st, .int .i64 wd] := HM.out.get 3 rfl
        have lta := ba.lt
        have a0 := ba.c 0 rfl
        have a1 := ba.c 1 rfl
        have a2 := ba.c 2 rfl
        have a3 := ba.c 3 rfl
        have a4 := ba.c 4 rfl
        have a5 := ba.c 5 rfl
        have a6 := ba.c 6 rfl
        have a7 := ba.c 7 rfl
        have bc : Blk w1 gp 32 #[.int .i64 slo, .int .i64 shi] := HM.out.get 2 rfl
        have ltc := bc.lt
        have c0 := bc.c 0 rfl
        have c1 := bc.c 1 rfl
        go_wp2_with fail
        refine (HW.out _).mono ?_
        rintro e w2 ⟨rfl, hb⟩
        replace HM := hide (HM.out.later hb)
        clear hb ba lta a0 a1 a2 a3 a4 a5 a6 a7 bc ltc c0 c1
        have ba : Blk w2 gs 83 #[.string s, .int .i64 x, .int .i64 y, .int .i64 z, .int .i64 r, .int .i64 g, .int .i64 st, .int .i64 wd] := HM.out.get 3 rfl
        have lta := ba.lt
        have a0 := ba.c 0 rfl
        have a1 := ba.c 1 rfl
        have a2 := ba.c 2 rfl
        have a3 := ba.c 3 rfl
        have a4 := ba.c 4 rfl
        have a5 := ba.c 5 rfl
        have a6 := ba.c 6 rfl
        have a7 := ba.c 7 rfl
        go_wp2_with fail
        refine (HD.out _).mono ?_
        rintro e w3 ⟨rfl, hb⟩
        replace HM := hide (HM.out.later hb)
        clear hb ba lta a0 a1 a2 a3 a4 a5 a6 a7
        go_wp2_with fail
        refine (HS.out _).mono ?_
        rintro e w4 ⟨rfl, hb⟩
        replace HM := hide (HM.out.later hb)
        clear hb
        have bc : Blk w4 gp 32 #[.int .i64 slo, .int .i64 shi] := HM.out.get 2 rfl
        have ltc := bc.lt
        have c0 := bc.c 0 rfl
        have c1 := bc.c 1 rfl
        have bd : Blk w4 gt 32 #[.int .i64 rlo, .int .i64 rhi] := HM.out.get 1 rfl
        have ltd := bd.lt
        have d0 := bd.c 0 rfl
        have d1 := bd.c 1 rfl
        go_wp2_with fail
        refine wp_region_cut 28 (by kernel_rfl) (by simp only [List.take_succ_cons, List.take_zero]; exact rfl) (by simp only [List.drop_succ_cons, List.drop_zero]; exact rfl) (by kernel_rfl) ?_
        apply any_region_J (w0 := w4) [[], [], [], [], [], [], [], [], [], [], [], [], [], [], [], [], [], [], [], [], [], [], [], [], [], [], [], []] [true, true, true, true, true, true, true, true, true, true, true, true, true, true, true, true, true, true, true, true, true, true, true, true, true, true, true, true] [] (fun ixq y => match ixq with  | _ => undef) (fun ixq x F wq => match ixq with  | _ => True) (fun a x => a) (by kernel_rfl) (fun _ => rfl) [76, 87] (by kernel_rfl)
        · intro x D hD
          have hne := hD.some
          have k0 := liftB hD c0 (by first | assumption | omega)
          have k1 := liftB hD c1 (by first | assumption | omega)
          have k2 := liftB hD d0 (by first | assumption | omega)
          have k3 := liftB hD d1 (by first | assumption | omega)
          simp only [takeOps, Act.put, List.setIfInBounds_toArray, List.set_cons_succ, List.set_cons_zero]
          repeat (go_big_quiet_step ((go_at_call 85; first | (with_reducible exact calls_later hD _ (K1.out _)) | (with_reducible exact calls_later hD _ (K2.out _)))))
          exact wpQuiet_nil rfl
        · intro d hd x x'
          simp only [List.mem_cons, List.not_mem_nil, or_false] at hd
          rcases hd with rfl | rfl
          all_goals rfl
        · exact trivial
        · exact trivial
        intro xx w5 F hL hlv1 hap1
        clear hap1
        clear hlv1
        refine ⟨rfl, ?_⟩
        replace HM := hide (HM.out.later hL)
        clear hL bc ltc c0 c1 bd ltd d0 d1
        have bk : Blk w5 gr 71 #[.int .i64 0, .int .i64 0, .int .i64 0, .int .i64 0, .int .i64 0] := HM.out.get 0 rfl
        have ltk := bk.lt
        have k0 := bk.c 0 rfl
        have fk0 := bk.frozen 0
        have k1 := bk.c 1 rfl
        have fk1 := bk.frozen 1
        have k2 := bk.c 2 rfl
        have fk2 := bk.frozen 2
        have k3 := bk.c 3 rfl
        have fk3 := bk.frozen 3
        have k4 := bk.c 4 rfl
        have fk4 := bk.frozen 4
        go_wp2
        have HM1 := hide (((((HM.out.set_ 0 rfl 0 (.int .i64 dx) rfl).set_ 0 rfl 1 (.int .i64 dy) rfl).set_ 0 rfl 2 (.int .i64 dl) rfl).set_ 0 rfl 3 (.int .i64 u1) rfl).set_ 0 rfl 4 (.int .i64 (-u2)) rfl)
        have s0 := (HM1.out.blk_ 0 rfl).c 0 rfl
        have s1 := (HM1.out.blk_ 0 rfl).c 1 rfl
        have s2 := (HM1.out.blk_ 0 rfl).c 2 rfl
        have s3 := (HM1.out.blk_ 0 rfl).c 3 rfl
        have s4 := (HM1.out.blk_ 0 rfl).c 4 rfl
        have lts := (HM1.out.blk_ 0 rfl).lt
        refine ret_world fun W1 hW1 => ?_
        rw [← hW1] at HM1 s0 s1 s2 s3 s4 lts
        exact bodyPost_ret (v := .tuple #[.agg #[.int .i64 dx, .int .i64 dy, .int .i64 dl, .int .i64 u1, .int .i64 (-u2)], .int .i64 0]) (by simp [results, Try.results41, go_sem, s0, s1, s2, s3, s4, lts]) rfl ⟨by first | rfl | (rw [HA.out]; rfl), by first | exact HM1.out.below | (rw [← hg0]; exact HM1.out.below)⟩
      | false =>
        rw [if_neg (by simp)] at hE
        subst hE
        rw [if_neg (by omega)]
        unfold sg0
        go_enter Try.func41, Try.ntmps41
        have HM := hide (Mem.start w)
        go_wp2_with fail
        refine at_world fun W hW => ?_
        have HMn := Mem.to (Mem.allocAt (Mem.allocAt (Mem.allocAt (Mem.allocAt HM.out w.heap.size rfl #[.string s, .int .i64 x, .int .i64 y, .int .i64 z, .int .i64 r, .int .i64 g, .int .i64 st, .int .i64 wd] 83) (w.heap.size + 1) (by simp) #[.int .i64 slo, .int .i64 shi] 32) (w.heap.size + 2) (by simp) #[.int .i64 rlo, .int .i64 rhi] 32) (w.heap.size + 3) (by simp) #[.int .i64 0, .int .i64 0, .int .i64 0, .int .i64 0, .int .i64 0] 71) hW
        have LW : Later w W := by rw [hW]; exact (((((Below.refl _ _).alloc (Nat.le_refl _) _).alloc (by simp; try omega) _).alloc (by simp; try omega) _).alloc (by simp; try omega) _)
        have szW : W.heap.size = w.heap.size + 4 := by rw [hW]; simp
        clear hW
        replace HM := hide HMn
        clear HMn LW
        clear szW
        generalize hg3 : w.heap.size + 3 = gr at HM ⊢
        generalize hg2 : w.heap.size + 2 = gt at HM ⊢
        generalize hg1 : w.heap.size + 1 = gp at HM ⊢
        generalize hg0 : w.heap.size = gs at HM ⊢
        refine (HC.out _).mono ?_
        rintro e w1 ⟨rfl, hb⟩
        replace HM := hide (HM.out.later hb)
        clear hb
        have ba : Blk w1 gs 83 #[.string s, .int .i64 x, .int .i64 y, .int .i64 z, .int .i64 r, .int .i64 g, .int .i64 st, .int .i64 wd] := HM.out.get 3 rfl
        have lta := ba.lt
        have a0 := ba.c 0 rfl
        have a1 := ba.c 1 rfl
        have a2 := ba.c 2 rfl
        have a3 := ba.c 3 rfl
        have a4 := ba.c 4 rfl
        have a5 := ba.c 5 rfl
        have a6 := ba.c 6 rfl
        have a7 := ba.c 7 rfl
        have bc : Blk w1 gp 32 #[.int .i64 slo, .int .i64 shi] := HM.out.get 2 rfl
        have ltc := bc.lt
        have c0 := bc.c 0 rfl
        have c1 := bc.c 1 rfl
        go_wp2_with fail
        refine (HW.out _).mono ?_
        rintro e w2 ⟨rfl, hb⟩
        replace HM := hide (HM.out.later hb)
        clear hb ba lta a0 a1 a2 a3 a4 a5 a6 a7 bc ltc c0 c1
        have bk : Blk w2 gr 71 #[.int .i64 0, .int .i64 0, .int .i64 0, .int .i64 0, .int .i64 0] := HM.out.get 0 rfl
        have ltk := bk.lt
        have k0 := bk.c 0 rfl
        have fk0 := bk.frozen 0
        have k1 := bk.c 1 rfl
        have fk1 := bk.frozen 1
        have k2 := bk.c 2 rfl
        have fk2 := bk.frozen 2
        have k3 := bk.c 3 rfl
        have fk3 := bk.frozen 3
        have k4 := bk.c 4 rfl
        have fk4 := bk.frozen 4
        go_wp2
        have HM1 := hide (((((HM.out.set_ 0 rfl 0 (.int .i64 0) rfl).set_ 0 rfl 1 (.int .i64 0) rfl).set_ 0 rfl 2 (.int .i64 0) rfl).set_ 0 rfl 3 (.int .i64 0) rfl).set_ 0 rfl 4 (.int .i64 0) rfl)
        have s0 := (HM1.out.blk_ 0 rfl).c 0 rfl
        have s1 := (HM1.out.blk_ 0 rfl).c 1 rfl
        have s2 := (HM1.out.blk_ 0 rfl).c 2 rfl
        have s3 := (HM1.out.blk_ 0 rfl).c 3 rfl
        have s4 := (HM1.out.blk_ 0 rfl).c 4 rfl
        have lts := (HM1.out.blk_ 0 rfl).lt
        refine ret_world fun W1 hW1 => ?_
        rw [← hW1] at HM1 s0 s1 s2 s3 s4 lts
        exact bodyPost_ret (v := .tuple #[.agg #[.int .i64 0, .int .i64 0, .int .i64 0, .int .i64 0, .int .i64 0], .int .i64 3]) (by simp [results, Try.results41, go_sem, s0, s1, s2, s3, s4, lts]) rfl ⟨by first | rfl | (rw [HA.out]; rfl), by first | exact HM1.out.below | (rw [← hg0]; exact HM1.out.below)⟩
    · rw [if_neg (fun h => h1 h.1)] at hE
      subst hE
      rw [if_neg (by omega)]
      unfold sg0
      by_cases h2 : ray < 0
      · have hd1 : decide (ray < 0) = true := decide_eq_true h2
        go_enter Try.func41, Try.ntmps41
        have HM := hide (Mem.start w)
        go_wp2_with fail
        refine at_world fun W hW => ?_
        have HMn := Mem.to (Mem.allocAt (Mem.allocAt (Mem.allocAt (Mem.allocAt HM.out w.heap.size rfl #[.string s, .int .i64 x, .int .i64 y, .int .i64 z, .int .i64 r, .int .i64 g, .int .i64 st, .int .i64 wd] 83) (w.heap.size + 1) (by simp) #[.int .i64 slo, .int .i64 shi] 32) (w.heap.size + 2) (by simp) #[.int .i64 rlo, .int .i64 rhi] 32) (w.heap.size + 3) (by simp) #[.int .i64 0, .int .i64 0, .int .i64 0, .int .i64 0, .int .i64 0] 71) hW
        have LW : Later w W := by rw [hW]; exact (((((Below.refl _ _).alloc (Nat.le_refl _) _).alloc (by simp; try omega) _).alloc (by simp; try omega) _).alloc (by simp; try omega) _)
        have szW : W.heap.size = w.heap.size + 4 := by rw [hW]; simp
        clear hW
        replace HM := hide HMn
        clear HMn LW
        clear szW
        generalize hg3 : w.heap.size + 3 = gr at HM ⊢
        generalize hg2 : w.heap.size + 2 = gt at HM ⊢
        generalize hg1 : w.heap.size + 1 = gp at HM ⊢
        generalize hg0 : w.heap.size = gs at HM ⊢
        refine (HC.out _).mono ?_
        rintro e w1 ⟨rfl, hb⟩
        replace HM := hide (HM.out.later hb)
        clear hb
        have bk : Blk w1 gr 71 #[.int .i64 0, .int .i64 0, .int .i64 0, .int .i64 0, .int .i64 0] := HM.out.get 0 rfl
        have ltk := bk.lt
        have k0 := bk.c 0 rfl
        have fk0 := bk.frozen 0
        have k1 := bk.c 1 rfl
        have fk1 := bk.frozen 1
        have k2 := bk.c 2 rfl
        have fk2 := bk.frozen 2
        have k3 := bk.c 3 rfl
        have fk3 := bk.frozen 3
        have k4 := bk.c 4 rfl
        have fk4 := bk.frozen 4
        go_wp2
        have HM1 := hide (((((HM.out.set_ 0 rfl 0 (.int .i64 0) rfl).set_ 0 rfl 1 (.int .i64 0) rfl).set_ 0 rfl 2 (.int .i64 0) rfl).set_ 0 rfl 3 (.int .i64 0) rfl).set_ 0 rfl 4 (.int .i64 0) rfl)
        have s0 := (HM1.out.blk_ 0 rfl).c 0 rfl
        have s1 := (HM1.out.blk_ 0 rfl).c 1 rfl
        have s2 := (HM1.out.blk_ 0 rfl).c 2 rfl
        have s3 := (HM1.out.blk_ 0 rfl).c 3 rfl
        have s4 := (HM1.out.blk_ 0 rfl).c 4 rfl
        have lts := (HM1.out.blk_ 0 rfl).lt
        refine ret_world fun W1 hW1 => ?_
        rw [← hW1] at HM1 s0 s1 s2 s3 s4 lts
        exact bodyPost_ret (v := .tuple #[.agg #[.int .i64 0, .int .i64 0, .int .i64 0, .int .i64 0, .int .i64 0], .int .i64 3]) (by simp [results, Try.results41, go_sem, s0, s1, s2, s3, s4, lts]) rfl ⟨by first | rfl | (rw [HA.out]; rfl), by first | exact HM1.out.below | (rw [← hg0]; exact HM1.out.below)⟩
      · have hd1 : decide (ray < 0) = false := decide_eq_false h2
        have hd2 : decide (4 * r ≤ ray) = true := decide_eq_true (by
          apply Classical.byContradiction
          intro hc
          exact h1 (winB_iff.2 ⟨by omega, by omega⟩))
        go_enter Try.func41, Try.ntmps41
        have HM := hide (Mem.start w)
        go_wp2_with fail
        refine at_world fun W hW => ?_
        have HMn := Mem.to (Mem.allocAt (Mem.allocAt (Mem.allocAt (Mem.allocAt HM.out w.heap.size rfl #[.string s, .int .i64 x, .int .i64 y, .int .i64 z, .int .i64 r, .int .i64 g, .int .i64 st, .int .i64 wd] 83) (w.heap.size + 1) (by simp) #[.int .i64 slo, .int .i64 shi] 32) (w.heap.size + 2) (by simp) #[.int .i64 rlo, .int .i64 rhi] 32) (w.heap.size + 3) (by simp) #[.int .i64 0, .int .i64 0, .int .i64 0, .int .i64 0, .int .i64 0] 71) hW
        have LW : Later w W := by rw [hW]; exact (((((Below.refl _ _).alloc (Nat.le_refl _) _).alloc (by simp; try omega) _).alloc (by simp; try omega) _).alloc (by simp; try omega) _)
        have szW : W.heap.size = w.heap.size + 4 := by rw [hW]; simp
        clear hW
        replace HM := hide HMn
        clear HMn LW
        clear szW
        generalize hg3 : w.heap.size + 3 = gr at HM ⊢
        generalize hg2 : w.heap.size + 2 = gt at HM ⊢
        generalize hg1 : w.heap.size + 1 = gp at HM ⊢
        generalize hg0 : w.heap.size = gs at HM ⊢
        refine (HC.out _).mono ?_
        rintro e w1 ⟨rfl, hb⟩
        replace HM := hide (HM.out.later hb)
        clear hb
        have ba : Blk w1 gs 83 #[.string s, .int .i64 x, .int .i64 y, .int .i64 z, .int .i64 r, .int .i64 g, .int .i64 st, .int .i64 wd] := HM.out.get 3 rfl
        have lta := ba.lt
        have a0 := ba.c 0 rfl
        have a1 := ba.c 1 rfl
        have a2 := ba.c 2 rfl
        have a3 := ba.c 3 rfl
        have a4 := ba.c 4 rfl
        have a5 := ba.c 5 rfl
        have a6 := ba.c 6 rfl
        have a7 := ba.c 7 rfl
        have bk : Blk w1 gr 71 #[.int .i64 0, .int .i64 0, .int .i64 0, .int .i64 0, .int .i64 0] := HM.out.get 0 rfl
        have ltk := bk.lt
        have k0 := bk.c 0 rfl
        have fk0 := bk.frozen 0
        have k1 := bk.c 1 rfl
        have fk1 := bk.frozen 1
        have k2 := bk.c 2 rfl
        have fk2 := bk.frozen 2
        have k3 := bk.c 3 rfl
        have fk3 := bk.frozen 3
        have k4 := bk.c 4 rfl
        have fk4 := bk.frozen 4
        go_wp2
        have HM1 := hide (((((HM.out.set_ 0 rfl 0 (.int .i64 0) rfl).set_ 0 rfl 1 (.int .i64 0) rfl).set_ 0 rfl 2 (.int .i64 0) rfl).set_ 0 rfl 3 (.int .i64 0) rfl).set_ 0 rfl 4 (.int .i64 0) rfl)
        have s0 := (HM1.out.blk_ 0 rfl).c 0 rfl
        have s1 := (HM1.out.blk_ 0 rfl).c 1 rfl
        have s2 := (HM1.out.blk_ 0 rfl).c 2 rfl
        have s3 := (HM1.out.blk_ 0 rfl).c 3 rfl
        have s4 := (HM1.out.blk_ 0 rfl).c 4 rfl
        have lts := (HM1.out.blk_ 0 rfl).lt
        refine ret_world fun W1 hW1 => ?_
        rw [← hW1] at HM1 s0 s1 s2 s3 s4 lts
        exact bodyPost_ret (v := .tuple #[.agg #[.int .i64 0, .int .i64 0, .int .i64 0, .int .i64 0, .int .i64 0], .int .i64 3]) (by simp [results, Try.results41, go_sem, s0, s1, s2, s3, s4, lts]) rfl ⟨by first | rfl | (rw [HA.out]; rfl), by first | exact HM1.out.below | (rw [← hg0]; exact HM1.out.below)⟩
  · rw [if_pos h0] at hE
    subst hE
    rw [if_neg h0]
    unfold sg0
    have hd : (le != 0) = true := by simp [h0]
    go_enter Try.func41, Try.ntmps41
    have HM := hide (Mem.start w)
    go_wp2_with fail
    refine at_world fun W hW => ?_
    have HMn := Mem.to (Mem.allocAt (Mem.allocAt (Mem.allocAt (Mem.allocAt HM.out w.heap.size rfl #[.string s, .int .i64 x, .int .i64 y, .int .i64 z, .int .i64 r, .int .i64 g, .int .i64 st, .int .i64 wd] 83) (w.heap.size + 1) (by simp) #[.int .i64 slo, .int .i64 shi] 32) (w.heap.size + 2) (by simp) #[.int .i64 rlo, .int .i64 rhi] 32) (w.heap.size + 3) (by simp) #[.int .i64 0, .int .i64 0, .int .i64 0, .int .i64 0, .int .i64 0] 71) hW
    have LW : Later w W := by rw [hW]; exact (((((Below.refl _ _).alloc (Nat.le_refl _) _).alloc (by simp; try omega) _).alloc (by simp; try omega) _).alloc (by simp; try omega) _)
    have szW : W.heap.size = w.heap.size + 4 := by rw [hW]; simp
    clear hW
    replace HM := hide HMn
    clear HMn LW
    clear szW
    generalize hg3 : w.heap.size + 3 = gr at HM ⊢
    generalize hg2 : w.heap.size + 2 = gt at HM ⊢
    generalize hg1 : w.heap.size + 1 = gp at HM ⊢
    generalize hg0 : w.heap.size = gs at HM ⊢
    refine (HC.out _).mono ?_
    rintro e w1 ⟨rfl, hb⟩
    replace HM := hide (HM.out.later hb)
    clear hb
    have bk : Blk w1 gr 71 #[.int .i64 0, .int .i64 0, .int .i64 0, .int .i64 0, .int .i64 0] := HM.out.get 0 rfl
    have ltk := bk.lt
    have k0 := bk.c 0 rfl
    have fk0 := bk.frozen 0
    have k1 := bk.c 1 rfl
    have fk1 := bk.frozen 1
    have k2 := bk.c 2 rfl
    have fk2 := bk.frozen 2
    have k3 := bk.c 3 rfl
    have fk3 := bk.frozen 3
    have k4 := bk.c 4 rfl
    have fk4 := bk.frozen 4
    go_wp2
    have HM1 := hide (((((HM.out.set_ 0 rfl 0 (.int .i64 0) rfl).set_ 0 rfl 1 (.int .i64 0) rfl).set_ 0 rfl 2 (.int .i64 0) rfl).set_ 0 rfl 3 (.int .i64 0) rfl).set_ 0 rfl 4 (.int .i64 0) rfl)
    have s0 := (HM1.out.blk_ 0 rfl).c 0 rfl
    have s1 := (HM1.out.blk_ 0 rfl).c 1 rfl
    have s2 := (HM1.out.blk_ 0 rfl).c 2 rfl
    have s3 := (HM1.out.blk_ 0 rfl).c 3 rfl
    have s4 := (HM1.out.blk_ 0 rfl).c 4 rfl
    have lts := (HM1.out.blk_ 0 rfl).lt
    refine ret_world fun W1 hW1 => ?_
    rw [← hW1] at HM1 s0 s1 s2 s3 s4 lts
    exact bodyPost_ret (v := .tuple #[.agg #[.int .i64 0, .int .i64 0, .int .i64 0, .int .i64 0, .int .i64 0], .int .i64 le]) (by simp [results, Try.results41, go_sem, s0, s1, s2, s3, s4, lts]) rfl ⟨by first | rfl | (rw [HA.out]; rfl), by first | exact HM1.out.below | (rw [← hg0]; exact HM1.out.below)⟩
end Go.Proofs.Ytllpffkifleigaa
end
section
namespace Go.Proofs.Ytllpffkifleigaa
open Go Go.RowKit

set_option maxHeartbeats 1000000 in
set_option maxRecDepth 100000 in
theorem rdir_any (x y l : Int) (w : World) (hx : I64 x) (hy : I64 y) :
    Calls Try.prog 70 #[.int .i64 x, .int .i64 y, .int .i64 l] w fun e w' => e = .returned (.bool (dirB x y l)) ∧ Below w.heap.size w w' := by
  obtain ⟨hx0, hx1⟩ := hx
  obtain ⟨hy0, hy1⟩ := hy
  have hI := fun n W => In_any n (-l) l W
  obtain ⟨r, hr⟩ : ∃ r, dirB x y l = r := ⟨_, rfl⟩
  rw [hr]
  unfold dirB at hr
  by_cases c1 : 1 ≤ l
  · by_cases c2 : l ≤ 64800
    · have hX := fun W => hI x W
      have hY := fun W => hI y W
      by_cases cx : -l ≤ x ∧ x ≤ l
      · rw [show winBQ x (-l) l = true from winB_iff.2 cx] at hX
        obtain ⟨cx1, cx2⟩ := cx
        by_cases cy : -l ≤ y ∧ y ≤ l
        · rw [show winBQ y (-l) l = true from winB_iff.2 cy] at hY
          obtain ⟨cy1, cy2⟩ := cy
          have ml := abs_mul (X := 64800) (Y := 64800) (show -64800 ≤ l by omega) c2 (show -64800 ≤ l by omega) c2
          have mx := abs_mul (X := 64800) (Y := 64800) (show -64800 ≤ x by omega) (by omega) (show -64800 ≤ x by omega) (by omega)
          have my := abs_mul (X := 64800) (Y := 64800) (show -64800 ≤ y by omega) (by omega) (show -64800 ≤ y by omega) (by omega)
          obtain ⟨ll, hll⟩ : ∃ q, l * l = q := ⟨_, rfl⟩
          obtain ⟨xx, hxx⟩ : ∃ q, x * x = q := ⟨_, rfl⟩
          obtain ⟨yy, hyy⟩ : ∃ q, y * y = q := ⟨_, rfl⟩
          rw [hll] at ml hr
          rw [hxx] at mx hr
          rw [hyy] at my hr
          obtain ⟨ml1, ml2⟩ := ml
          obtain ⟨mx1, mx2⟩ := mx
          obtain ⟨my1, my2⟩ := my
          by_cases c3 : xx + yy = ll
          · rw [decide_eq_true ⟨c1, c2, cx1, cx2, cy1, cy2, c3⟩] at hr
            subst hr
            have HX := hide hX
            have HY := hide hY
            clear hX hY
            clear hI
            go_enter Try.func70, Try.ntmps70
            go_wp2_with fail
            refine (HX.out _).mono ?_
            rintro e w1 ⟨rfl, rfl⟩
            go_wp2_with fail
            refine (HY.out _).mono ?_
            rintro e w1 ⟨rfl, rfl⟩
            go_wp2
            exact bodyPost_ret (v := .bool true) (by simp [results, Try.results70, go_sem]) rfl ⟨rfl, Below.refl _ _⟩
          · rw [decide_eq_false (fun h => c3 h.2.2.2.2.2.2)] at hr
            subst hr
            have hd : (xx + yy == ll) = false := by simp [c3]
            have HX := hide hX
            have HY := hide hY
            clear hX hY
            clear hI
            go_enter Try.func70, Try.ntmps70
            go_wp2_with fail
            refine (HX.out _).mono ?_
            rintro e w1 ⟨rfl, rfl⟩
            go_wp2_with fail
            refine (HY.out _).mono ?_
            rintro e w1 ⟨rfl, rfl⟩
            go_wp2
            exact bodyPost_ret (v := .bool false) (by simp [results, Try.results70, go_sem]) rfl ⟨rfl, Below.refl _ _⟩
        · rw [show winBQ y (-l) l = false from by rw [Bool.eq_false_iff]; exact fun h => cy (winB_iff.1 h)] at hY
          rw [decide_eq_false (fun h => cy ⟨h.2.2.2.2.1, h.2.2.2.2.2.1⟩)] at hr
          subst hr
          have HX := hide hX
          have HY := hide hY
          clear hX hY
          clear hI
          go_enter Try.func70, Try.ntmps70
          go_wp2_with fail
          refine (HX.out _).mono ?_
          rintro e w1 ⟨rfl, rfl⟩
          go_wp2_with fail
          refine (HY.out _).mono ?_
          rintro e w1 ⟨rfl, rfl⟩
          go_wp2
          exact bodyPost_ret (v := .bool false) (by simp [results, Try.results70, go_sem]) rfl ⟨rfl, Below.refl _ _⟩
      · rw [show winBQ x (-l) l = false from by rw [Bool.eq_false_iff]; exact fun h => cx (winB_iff.1 h)] at hX
        rw [decide_eq_false (fun h => cx ⟨h.2.2.1, h.2.2.2.1⟩)] at hr
        subst hr
        have HX := hide hX
        clear hX
        clear hI hY
        go_enter Try.func70, Try.ntmps70
        go_wp2_with fail
        refine (HX.out _).mono ?_
        rintro e w1 ⟨rfl, rfl⟩
        go_wp2
        exact bodyPost_ret (v := .bool false) (by simp [results, Try.results70, go_sem]) rfl ⟨rfl, Below.refl _ _⟩
    · rw [decide_eq_false (fun h => c2 h.2.1)] at hr
      subst hr
      clear hI
      go_enter Try.func70, Try.ntmps70
      go_wp2
      exact bodyPost_ret (v := .bool false) (by simp [results, Try.results70, go_sem]) rfl ⟨rfl, Below.refl _ _⟩
  · rw [decide_eq_false (fun h => c1 h.1)] at hr
    subst hr
    clear hI
    go_enter Try.func70, Try.ntmps70
    go_wp2
    exact bodyPost_ret (v := .bool false) (by simp [results, Try.results70, go_sem]) rfl ⟨rfl, Below.refl _ _⟩
set_option maxHeartbeats 1000000 in
set_option maxRecDepth 100000 in
theorem rcheck_any (s : Sgt) (w : World) (hx : I64 s.x) (hy : I64 s.y) :
    Calls Try.prog 44 #[sgC s] w fun e w' => e = .returned (.int .i64 (chkE s)) ∧ Below w.heap.size w w' := by
  have hd := fun W => rdir_any s.x s.y s.l W hx hy
  have hw := fun W => Valid_any s.lo s.hi (-400000) 400000 W
  have hsp : spnB s.lo s.hi 400000 = decide (-400000 ≤ s.lo ∧ s.lo ≤ s.hi ∧ s.hi ≤ 400000) := rfl
  obtain ⟨e, he⟩ : ∃ e, chkE s = e := ⟨_, rfl⟩
  rw [he]
  unfold chkE sgtB at he
  unfold sgC
  rw [← hsp] at hw
  obtain ⟨b1, hb1⟩ : ∃ b, dirB s.x s.y s.l = b := ⟨_, rfl⟩
  obtain ⟨b2, hb2⟩ : ∃ b, spnB s.lo s.hi 400000 = b := ⟨_, rfl⟩
  rw [hb1, hb2] at he
  simp only [hb1] at hd
  simp only [hb2] at hw
  obtain ⟨sx, sy, sl, slo, shi⟩ := s
  simp only at hd hw ⊢
  clear hb1 hb2 hx hy hsp
  have HD := hide hd
  have HW := hide hw
  clear hd hw
  cases b1 with
  | false =>
    subst he
    go_enter Try.func44, Try.ntmps44
    have HB := hide (Below.refl w.heap.size w)
    go_wp2_with fail
    refine at_world fun W hW => ?_
    have bq0 : Blk W w.heap.size 88 #[.int .i64 sx, .int .i64 sy, .int .i64 sl, .int .i64 slo, .int .i64 shi] := by rw [hW]; exact Blk.new _ _ _
    have LW : Later w W := by rw [hW]; exact ((Below.refl _ _).alloc (Nat.le_refl _) _)
    have szW : W.heap.size = w.heap.size + 1 := by rw [hW]; simp
    clear hW
    replace HB := hide (onward HB.out LW)
    have Hs := hide bq0
    clear bq0 LW szW
    refine (HD.out _).mono ?_
    rintro e w1 ⟨rfl, hb⟩
    replace HB := hide (onward HB.out hb)
    replace Hs := hide (blk_later Hs.out hb)
    clear hb
    have x3 := Hs.out.c 3 rfl
    have x4 := Hs.out.c 4 rfl
    have ltx := Hs.out.lt
    go_wp2
    go_ret
    exact ⟨rfl, HB.out⟩
  | true =>
    cases b2 with
    | false =>
      subst he
      go_enter Try.func44, Try.ntmps44
      have HB := hide (Below.refl w.heap.size w)
      go_wp2_with fail
      refine at_world fun W hW => ?_
      have bq0 : Blk W w.heap.size 88 #[.int .i64 sx, .int .i64 sy, .int .i64 sl, .int .i64 slo, .int .i64 shi] := by rw [hW]; exact Blk.new _ _ _
      have LW : Later w W := by rw [hW]; exact ((Below.refl _ _).alloc (Nat.le_refl _) _)
      have szW : W.heap.size = w.heap.size + 1 := by rw [hW]; simp
      clear hW
      replace HB := hide (onward HB.out LW)
      have Hs := hide bq0
      clear bq0 LW szW
      refine (HD.out _).mono ?_
      rintro e w1 ⟨rfl, hb⟩
      replace HB := hide (onward HB.out hb)
      replace Hs := hide (blk_later Hs.out hb)
      clear hb
      have x3 := Hs.out.c 3 rfl
      have x4 := Hs.out.c 4 rfl
      have ltx := Hs.out.lt
      go_wp2_with fail
      refine (HW.out _).mono ?_
      rintro e w2 ⟨rfl, hb⟩
      replace HB := hide (onward HB.out hb)
      replace Hs := hide (blk_later Hs.out hb)
      clear hb
      go_wp2
      go_ret
      exact ⟨rfl, HB.out⟩
    | true =>
      subst he
      go_enter Try.func44, Try.ntmps44
      have HB := hide (Below.refl w.heap.size w)
      go_wp2_with fail
      refine at_world fun W hW => ?_
      have bq0 : Blk W w.heap.size 88 #[.int .i64 sx, .int .i64 sy, .int .i64 sl, .int .i64 slo, .int .i64 shi] := by rw [hW]; exact Blk.new _ _ _
      have LW : Later w W := by rw [hW]; exact ((Below.refl _ _).alloc (Nat.le_refl _) _)
      have szW : W.heap.size = w.heap.size + 1 := by rw [hW]; simp
      clear hW
      replace HB := hide (onward HB.out LW)
      have Hs := hide bq0
      clear bq0 LW szW
      refine (HD.out _).mono ?_
      rintro e w1 ⟨rfl, hb⟩
      replace HB := hide (onward HB.out hb)
      replace Hs := hide (blk_later Hs.out hb)
      clear hb
      have x3 := Hs.out.c 3 rfl
      have x4 := Hs.out.c 4 rfl
      have ltx := Hs.out.lt
      go_wp2_with fail
      refine (HW.out _).mono ?_
      rintro e w2 ⟨rfl, hb⟩
      replace HB := hide (onward HB.out hb)
      replace Hs := hide (blk_later Hs.out hb)
      clear hb
      go_wp2
      go_ret
      exact ⟨rfl, HB.out⟩
set_option maxHeartbeats 1000000 in
set_option maxRecDepth 100000 in
theorem rgate_any (s : ByteArray) (x y z r g st wd tilt rlo rhi : Int) (w : World) (hs : s.size ≤ 9223372036854775807) :
    Calls Try.prog 86 #[siteV s x y z r g st wd, .int .i64 tilt, .agg #[.int .i64 rlo, .int .i64 rhi]] w fun e w' => e = .returned (.int .i64 (gateE (siteE (nameB s) x y z r g st wd) tilt rlo rhi)) ∧ Below w.heap.size w w' := by
  have hcs := fun W => RefCheckSite_any s x y z r g st wd W hs
  have hw := fun W => Valid_any rlo rhi (-50000) 50000 W
  have hi := fun W => In_any tilt 0 256 W
  have hsp : spnB rlo rhi 50000 = decide (-50000 ≤ rlo ∧ rlo ≤ rhi ∧ rhi ≤ 50000) := rfl
  rw [← hsp] at hw
  have hE : gateE (siteE (nameB s) x y z r g st wd) tilt rlo rhi = if siteE (nameB s) x y z r g st wd ≠ 0 then siteE (nameB s) x y z r g st wd else if winBQ tilt 0 256 = true ∧ spnB rlo rhi 50000 = true then 0 else 3 := rfl
  clear hsp
  generalize gateE (siteE (nameB s) x y z r g st wd) tilt rlo rhi = ge at *
  generalize siteE (nameB s) x y z r g st wd = se at *
  generalize spnB rlo rhi 50000 = sb at *
  generalize winBQ tilt 0 256 = wb at *
  unfold siteV
  have HC := hide hcs
  have HW := hide hw
  have HI := hide hi
  clear hcs hw hi
  by_cases h0 : se = 0
  · subst h0
    rw [if_neg (by simp)] at hE
    cases wb with
    | true =>
      cases sb with
      | true =>
        rw [if_pos ⟨rfl, rfl⟩] at hE
        have HE := hide hE
        clear hE
        go_enter Try.func86, Try.ntmps86
        have HB := hide (Below.refl w.heap.size w)
        go_wp2_with fail
        refine at_world fun W hW => ?_
        have bq0 : Blk W w.heap.size 83 #[.string s, .int .i64 x, .int .i64 y, .int .i64 z, .int .i64 r, .int .i64 g, .int .i64 st, .int .i64 wd] := by rw [hW]; exact (Blk.new _ _ _).alloc _
        have bq1 : Blk W (w.heap.size + 1) 32 #[.int .i64 rlo, .int .i64 rhi] := by rw [hW]; exact blk_new_at (by simp)
        have LW : Later w W := by rw [hW]; exact (((Below.refl _ _).alloc (Nat.le_refl _) _).alloc (by simp; try omega) _)
        have szW : W.heap.size = w.heap.size + 2 := by rw [hW]; simp
        clear hW
        replace HB := hide (onward HB.out LW)
        have Hs := hide bq0
        have He := hide bq1
        clear bq0 bq1 LW szW
        refine (HC.out _).mono ?_
        rintro e w1 ⟨rfl, hb⟩
        replace HB := hide (onward HB.out hb)
        replace Hs := hide (blk_later Hs.out hb)
        replace He := hide (blk_later He.out hb)
        clear hb
        go_wp2_with fail
        refine (HI.out _).mono ?_
        rintro e w2 ⟨rfl, rfl⟩
        obtain ⟨v0, v1⟩ := He.out.c2
        have ltv := He.out.lt
        go_wp2_with fail
        refine (HW.out _).mono ?_
        rintro e w2 ⟨rfl, hb⟩
        replace HB := hide (onward HB.out hb)
        replace Hs := hide (blk_later Hs.out hb)
        replace He := hide (blk_later He.out hb)
        clear hb v0 v1 ltv
        go_wp2
        go_ret
        exact ⟨by rw [HE.out]; rfl, HB.out⟩
      | false =>
        rw [if_neg (by simp)] at hE
        have HE := hide hE
        clear hE
        go_enter Try.func86, Try.ntmps86
        have HB := hide (Below.refl w.heap.size w)
        go_wp2_with fail
        refine at_world fun W hW => ?_
        have bq0 : Blk W w.heap.size 83 #[.string s, .int .i64 x, .int .i64 y, .int .i64 z, .int .i64 r, .int .i64 g, .int .i64 st, .int .i64 wd] := by rw [hW]; exact (Blk.new _ _ _).alloc _
        have bq1 : Blk W (w.heap.size + 1) 32 #[.int .i64 rlo, .int .i64 rhi] := by rw [hW]; exact blk_new_at (by simp)
        have LW : Later w W := by rw [hW]; exact (((Below.refl _ _).alloc (Nat.le_refl _) _).alloc (by simp; try omega) _)
        have szW : W.heap.size = w.heap.size + 2 := by rw [hW]; simp
        clear hW
        replace HB := hide (onward HB.out LW)
        have Hs := hide bq0
        have He := hide bq1
        clear bq0 bq1 LW szW
        refine (HC.out _).mono ?_
        rintro e w1 ⟨rfl, hb⟩
        replace HB := hide (onward HB.out hb)
        replace Hs := hide (blk_later Hs.out hb)
        replace He := hide (blk_later He.out hb)
        clear hb
        go_wp2_with fail
        refine (HI.out _).mono ?_
        rintro e w2 ⟨rfl, rfl⟩
        obtain ⟨v0, v1⟩ := He.out.c2
        have ltv := He.out.lt
        go_wp2_with fail
        refine (HW.out _).mono ?_
        rintro e w2 ⟨rfl, hb⟩
        replace HB := hide (onward HB.out hb)
        replace Hs := hide (blk_later Hs.out hb)
        replace He := hide (blk_later He.out hb)
        clear hb v0 v1 ltv
        go_wp2
        go_ret
        exact ⟨by rw [HE.out]; rfl, HB.out⟩
    | false =>
      rw [if_neg (by simp)] at hE
      have HE := hide hE
      clear hE
      go_enter Try.func86, Try.ntmps86
      have HB := hide (Below.refl w.heap.size w)
      go_wp2_with fail
      refine at_world fun W hW => ?_
      have bq0 : Blk W w.heap.size 83 #[.string s, .int .i64 x, .int .i64 y, .int .i64 z, .int .i64 r, .int .i64 g, .int .i64 st, .int .i64 wd] := by rw [hW]; exact (Blk.new _ _ _).alloc _
      have bq1 : Blk W (w.heap.size + 1) 32 #[.int .i64 rlo, .int .i64 rhi] := by rw [hW]; exact blk_new_at (by simp)
      have LW : Later w W := by rw [hW]; exact (((Below.refl _ _).alloc (Nat.le_refl _) _).alloc (by simp; try omega) _)
      have szW : W.heap.size = w.heap.size + 2 := by rw [hW]; simp
      clear hW
      replace HB := hide (onward HB.out LW)
      have Hs := hide bq0
      have He := hide bq1
      clear bq0 bq1 LW szW
      refine (HC.out _).mono ?_
      rintro e w1 ⟨rfl, hb⟩
      replace HB := hide (onward HB.out hb)
      replace Hs := hide (blk_later Hs.out hb)
      replace He := hide (blk_later He.out hb)
      clear hb
      go_wp2_with fail
      refine (HI.out _).mono ?_
      rintro e w2 ⟨rfl, rfl⟩
      go_wp2
      go_ret
      exact ⟨by rw [HE.out]; rfl, HB.out⟩
  · rw [if_pos h0] at hE
    have hd : (se != 0) = true := by simp [h0]
    have HE := hide hE
    clear hE
    go_enter Try.func86, Try.ntmps86
    have HB := hide (Below.refl w.heap.size w)
    go_wp2_with fail
    refine at_world fun W hW => ?_
    have bq0 : Blk W w.heap.size 83 #[.string s, .int .i64 x, .int .i64 y, .int .i64 z, .int .i64 r, .int .i64 g, .int .i64 st, .int .i64 wd] := by rw [hW]; exact (Blk.new _ _ _).alloc _
    have bq1 : Blk W (w.heap.size + 1) 32 #[.int .i64 rlo, .int .i64 rhi] := by rw [hW]; exact blk_new_at (by simp)
    have LW : Later w W := by rw [hW]; exact (((Below.refl _ _).alloc (Nat.le_refl _) _).alloc (by simp; try omega) _)
    have szW : W.heap.size = w.heap.size + 2 := by rw [hW]; simp
    clear hW
    replace HB := hide (onward HB.out LW)
    have Hs := hide bq0
    have He := hide bq1
    clear bq0 bq1 LW szW
    refine (HC.out _).mono ?_
    rintro e w1 ⟨rfl, hb⟩
    replace HB := hide (onward HB.out hb)
    replace Hs := hide (blk_later Hs.out hb)
    replace He := hide (blk_later He.out hb)
    clear hb
    go_wp2
    go_ret
    exact ⟨by rw [HE.out]; rfl, HB.out⟩
end Go.Proofs.Ytllpffkifleigaa
end
section
namespace Go.Proofs.Ytllpffkifleigaa
open Go Go.RowKit

theorem Mem.asRow {w0 W : World} {ts : List Th} {g n size base : Nat} {e : TypeId} {cs : Array Value} (h : Mem w0 ts W) (i : Nat) (hi : ts[i]? = some (.blk g e cs)) (hs : cs.size = n * size) (hn : n ≤ maxLen) (hb : base ≤ g) : Mem w0 (ts.set i (.row base e size (.slice (some ⟨g, 0, none⟩) n n) n cs.toList)) W :=
  h.step i hi (show World.ownsRow _ _ _ _ _ _ _ from ⟨by rw [← hs]; exact Array.length_toList, .inr ⟨g, n, cs, rfl, hb, h.blk_ i hi, Nat.le_refl _, hn, hs, by rw [← hs]; exact List.take_of_length_le (by simp)⟩⟩) ⟨rfl, rfl, rfl, Nat.le_refl _, fun _ _ => rfl⟩ (fun k hk => .inl hk)
theorem bdsV_app (a b : List Bd) : bdsV (a ++ b) = bdsV a ++ bdsV b := List.flatMap_append
theorem bdsV_len (L : List Bd) : (bdsV L).length = L.length * 3 := by
  induction L with
  | nil => rfl
  | cons x l ih =>
    have : bdsV (x :: l) = bdL x ++ bdsV l := rfl
    rw [this, List.length_append, ih, List.length_cons, Nat.add_mul]
    show 3 + _ = _
    omega
/-- A row of borders of one's own, as an area in memory. -/
theorem bds_own {w : World} {base c n : Nat} {A : Option Addr} {L : List Bd} {e : TypeId} (hn : L.length = n) (h : w.ownsRow base e 3 (.slice A n c) n (bdsV L)) : AreaH w A L := fun hl => by
  obtain ⟨b, cur, rfl, -, hb, -, -, hc⟩ := row_blk h (by omega)
  refine ⟨b, 0, rfl, hb.lt, fun i hi => ?_⟩
  obtain ⟨c1, c2, c3⟩ := bdsV_get L i hi
  rw [Nat.zero_add]
  exact ⟨hb.c _ (hc _ _ c1), hb.c _ (hc _ _ c2), hb.c _ (hc _ _ c3)⟩
theorem halfInfo : (Try.prog.info? 174).map (fun i => (i.zero, i.size, i.bytes)) = some (some (.agg #[.int .i64 0, .int .i64 0, .int .i64 0]), 3, 24) := by kernel_rfl
set_option maxHeartbeats 1000000 in
set_option maxRecDepth 100000 in
theorem rhalves_any (A : Option Addr) (l : List Sgt) (c : Nat) (wd : Int) (w : World) (hmax : l.length ≤ 400) (hA : SgtsAt w w.heap.size A l) (hok : ∀ s ∈ l, SgtOk s) (h0 : 0 ≤ wd) (h1 : wd ≤ 400000) :
    Calls Try.prog 66 #[.slice A l.length c, .int .i64 wd] w fun e w' => ∃ A' c', e = .returned (.slice A' (4 + 2 * l.length) c') ∧ Below w.heap.size w w' ∧ AreaH w' A' (hvs l wd) := by
  have hsc : SgtsAt w w.heap.size A l := hA
  unfold SgtsAt at hsc
  have hb := fun k (hk : k < l.length) => (⟨hok _ (getD_mem hk), hi_ok (hok _ (getD_mem hk)) h0 h1, lo_ok (hok _ (getD_mem hk)) h0 h1⟩ : SgtOk (l.getD k sg0) ∧ BdOk (hiB (l.getD k sg0) wd) ∧ BdOk (loB (l.getD k sg0) wd))
  have hsn : ∀ k, k < l.length → bdsV (hvs (l.take (k + 1)) wd) = bdsV (hvs (l.take k) wd) ++ (bdL (hiB (l.getD k sg0) wd) ++ bdL (loB (l.getD k sg0) wd)) := fun k hk => by
    rw [List.take_add_one, List.getElem?_eq_getElem hk, List.getD_eq_getElem?_getD, List.getElem?_eq_getElem hk]
    show bdsV (hvs (l.take k ++ [l[k]]) wd) = _
    rw [hvs_snoc, bdsV_app]
    rfl
  have h00 : bdsV (hvs (l.take 0) wd) = [.int .i64 1, .int .i64 0, .int .i64 120000, .int .i64 (-1), .int .i64 0, .int .i64 120000, .int .i64 0, .int .i64 1, .int .i64 120000, .int .i64 0, .int .i64 (-1), .int .i64 120000] := rfl
  have hend : bdsV (hvs (l.take l.length) wd) = bdsV (hvs l wd) := by rw [List.take_length]
  have hvl := hvs_len wd l
  obtain ⟨K, hK⟩ : ∃ K : Nat → List Value, K = fun k => bdsV (hvs (l.take k) wd) := ⟨_, rfl⟩
  have hKe : ∀ k, bdsV (hvs (l.take k) wd) = K k := fun k => by rw [hK]
  simp only [hKe] at hsn h00 hend
  obtain ⟨n, hn⟩ : ∃ n, l.length = n := ⟨_, rfl⟩
  rw [hn] at hsc hb hsn hend hvl hmax ⊢
  have hmax2 : (n : Int) ≤ 400 := by omega
  obtain ⟨hv, hhv⟩ : ∃ q, hvs l wd = q := ⟨_, rfl⟩
  rw [hhv] at hend hvl ⊢
  have HSC := hide hsc
  have HB := hide hb
  have HSN := hide hsn
  have H00 := hide h00
  have HEND := hide hend
  have HVL := hide hvl
  clear hsc hb hsn h00 hend hvl
  clear hA hok hK hKe hn hhv
  go_enter Try.func66, Try.ntmps66
  have HM := hide (Mem.start w)
  go_upto_region 2 with fail
  refine code_world fun w1 hW => ?_
  have HMn := Mem.to (Mem.allocAt HM.out w.heap.size rfl #[.int .i64 1, .int .i64 0, .int .i64 120000, .int .i64 (-1), .int .i64 0, .int .i64 120000, .int .i64 0, .int .i64 1, .int .i64 120000, .int .i64 0, .int .i64 (-1), .int .i64 120000] 174) hW
  have LW : Later w w1 := by rw [hW]; exact ((Below.refl _ _).alloc (Nat.le_refl _) _)
  have szW : w1.heap.size = w.heap.size + 1 := by rw [hW]; simp
  clear hW
  replace HM := hide HMn
  clear HMn LW
  clear szW
  have HM2 := hide (HM.out.asRow (n := 4) (size := 3) (base := w.heap.size) 0 rfl rfl (by decide) (Nat.le_refl _))
  clear HM
  have HM := HM2
  clear HM2
  generalize hg0 : w.heap.size = gs at HM ⊢
  go_wp2_with fail
  go_loopw [5, 6] (fun o i wr => ∃ (k : Nat) (A' : Option Addr) (c' : Nat), k ≤ n ∧ i = .int .i64 k ∧ o = .slice A' (4 + 2 * k) c' ∧ Mem w [.row gs 174 3 (.slice A' (4 + 2 * k) c') (4 + 2 * k) (K k)] wr) (fun _ i _ => n - (intOf i).toNat)
  case atStart => exact ⟨0, some ⟨gs, 0, none⟩, 4, by omega, rfl, rfl, by rw [H00.out]; exact HM.out⟩
  case round =>
    obtain ⟨k, A', c', hk, rfl, rfl, hM⟩ := hrel
    clear HM
    have HM := hide hM
    clear hM
    by_cases hlt : k < n
    · have hlt2 : (k : Int) < n := by omega
      obtain ⟨b, off, rfl, hb0, hc⟩ := HSC.out (by omega)
      have hc1 := hc _ hlt
      have hs1 := HSN.out k hlt
      have hb1 := HB.out k hlt
      obtain ⟨X, hX⟩ : ∃ X, l.getD k sg0 = X := ⟨_, rfl⟩
      rw [hX] at hc1 hs1 hb1
      rw [← HM.out.below.cell hb0, ← HM.out.below.cell hb0, ← HM.out.below.cell hb0, ← HM.out.below.cell hb0, ← HM.out.below.cell hb0] at hc1
      have ltb : b < wr.heap.size := Nat.lt_of_lt_of_le hb0 HM.out.size
      obtain ⟨q0, q1, q2, q3, q4⟩ := hc1
      obtain ⟨sx, sy, sl, slo, shi⟩ := X
      obtain ⟨⟨l1, l2, x1, x2, y1, y2, -, a1, a2, a3⟩, b1, b2⟩ := hb1
      have m1 : -51840000000 ≤ (shi + wd) * sl ∧ (shi + wd) * sl ≤ 51840000000 := ⟨b1.c0, b1.c1⟩
      have m2 : -51840000000 ≤ (wd - slo) * sl ∧ (wd - slo) * sl ≤ 51840000000 := ⟨b2.c0, b2.c1⟩
      have hs2 : K (k + 1) = K k ++ [.int .i64 sx, .int .i64 sy, .int .i64 ((shi + wd) * sl), .int .i64 (-sx), .int .i64 (-sy), .int .i64 ((wd - slo) * sl)] := hs1
      obtain ⟨m11, m12⟩ := m1
      obtain ⟨m21, m22⟩ := m2
      simp only at q0 q1 q2 q3 q4 l1 l2 x1 x2 y1 y2 a1 a2 a3
      generalize K k = xs at *
      obtain ⟨i0, hii, hz0, hz1, hz2⟩ := info_parts halfInfo
      have Hi := hide hii
      have Hz0 := hide hz0
      have Hz1 := hide hz1
      have Hz2 := hide hz2
      have HS1 := hide hs2
      clear hii hz0 hz1 hz2 hs2
      clear hc hX hs1 b1 b2
      go_upto_region 6 with fail
      refine code_world fun w2 hW => ?_
      have HMn := Mem.to (Mem.allocAt HM.out wr.heap.size rfl #[.int .i64 sx, .int .i64 sy, .int .i64 sl, .int .i64 slo, .int .i64 shi] 88) hW
      have LW : Later wr w2 := by rw [hW]; exact ((Below.refl _ _).alloc (Nat.le_refl _) _)
      have szW : w2.heap.size = wr.heap.size + 1 := by rw [hW]; simp
      clear hW
      replace HM := hide HMn
      clear HMn LW
      clear szW q0 q1 q2 q3 q4 ltb
      generalize hgx : wr.heap.size = gx at HM ⊢
      have bd : Blk w2 gx 88 #[.int .i64 sx, .int .i64 sy, .int .i64 sl, .int .i64 slo, .int .i64 shi] := HM.out.get 0 rfl
      have ltd := bd.lt
      have d0 := bd.c 0 rfl
      have d1 := bd.c 1 rfl
      have d2 := bd.c 2 rfl
      have d3 := bd.c 3 rfl
      have d4 := bd.c 4 rfl
      have hbaseM : gs ≤ w2.heap.size := by rw [← hg0]; exact HM.out.size
      have hownM := Mem.row_ HM.out 1 rfl
      
      go_wp2_with (at_builtin; refine wpList_append_own_at _ rfl (.tmp 23) (.tmp 52) _ rfl _ 174 i0 _ 3 24 Try.underlying134 Hi.out Hz0.out Hz1.out Hz2.out rfl (by decide) _ (4 + 2 * k) xs rfl (hownM.alloc _) ⟨w2.heap.size, 0, none⟩ 2 2 [.int .i64 sx, .int .i64 sy, .int .i64 ((shi + wd) * sl), .int .i64 (-sx), .int .i64 (-sy), .int .i64 ((wd - slo) * sl)] rfl rfl ?q1c1 (by intro u hu; simp only [List.mem_cons, List.not_mem_nil, or_false] at hu; rcases hu with rfl | rfl | rfl | rfl | rfl | rfl <;> rfl) ?q1c3 ?q1c4 ?q1c5 ?_)
      try case q1c1 => exact new_cellsQ w2 _ [.int .i64 sx, .int .i64 sy, .int .i64 ((shi + wd) * sl), .int .i64 (-sx), .int .i64 (-sy), .int .i64 ((wd - slo) * sl)]
      case q1c3 => unfold maxLen; omega
      case q1c4 => omega
      case q1c5 => first | omega | (simp; omega)
      intro vA w9 hown2 hgr2 _ hat2
      have HMn := HM.out.grow 1 rfl _ hgr2 hown2 hat2
      replace HM := hide HMn
      clear HMn hown2 hgr2 hat2 hownM hbaseM
      clear bd ltd d0 d1 d2 d3 d4
      obtain ⟨A9, c9, rfl⟩ := own_shape2 (Mem.row_ HM.out 1 rfl)
      go_wp2_with fail
      go_roundw
      case rel => exact ⟨k + 1, A9, c9, by omega, by go_num, rfl, by rw [HS1.out]; exact HM.out.tail⟩
      case measure => simp [intOf] <;> omega
    · obtain rfl : k = n := by omega
      have hkk : ¬ ((k : Int) < k) := by omega
      go_wp2
      exact bodyPost_ret (v := .slice A' (4 + 2 * k) c') (by simp [results, Try.results66, go_sem]) rfl ⟨A', ⟨c', rfl⟩, by first | exact HM.out.below | (rw [← hg0]; exact HM.out.below), bds_own HVL.out (by rw [← HEND.out]; exact HM.out.row_ 0 rfl)⟩
end Go.Proofs.Ytllpffkifleigaa
end
section
namespace Go.Proofs.Ytllpffkifleigaa
open Go Go.RowKit

def pcV (p q : Bd) : Pt := if crs p q < 0 then ⟨-(cor p q).u, -(cor p q).v, -(cor p q).d⟩ else cor p q
def pcB (p q : Bd) : Bool := crs p q != 0
theorem pcV_ok {p q : Bd} (hp : BdOk p) (hq : BdOk q) : PtOk (pcV p q) := by
  obtain ⟨a1, a2, a3, a4, a5, a6⟩ := cor_ok hp hq
  unfold pcV
  split
  · constructor <;> simp only <;> omega
  · exact ⟨a1, a2, a3, a4, a5, a6⟩
theorem refOne_eq (hs : List Bd) (p q : Bd) : refOne hs p q = if (pcB p q && hs.all fun s => decide (0 ≤ gap s (pcV p q))) = true then [pcV p q] else [] := by
  unfold refOne pcor
  by_cases h : crs p q = 0
  · rw [if_pos h]
    have : pcB p q = false := by unfold pcB; simp [h]
    rw [this]
    simp
  · rw [if_neg h]
    have : pcB p q = true := by unfold pcB; simp [h]
    rw [this, Bool.true_and]
    unfold pcV
    by_cases h2 : crs p q < 0
    · simp only [if_pos h2]
    · simp only [if_neg h2]
theorem refOne_mem {hs : List Bd} {p q : Bd} {c : Pt} (h : c ∈ refOne hs p q) : c = pcV p q := by
  rw [refOne_eq] at h
  split at h
  · exact List.mem_singleton.1 h
  · cases h
theorem rcorI_ok {hs : List Bd} (h : AllOk hs) {i : Nat} (hi : i < hs.length) : ∀ k, k ≤ hs.length → ∀ p ∈ rcorI hs i k, PtOk p
  | 0, _, p, hp => by cases hp
  | k + 1, hk, p, hp => by
    rw [rcorI_succ] at hp
    rcases List.mem_append.1 hp with h1 | h1
    · exact rcorI_ok h hi k (by omega) p h1
    · rw [refOne_mem h1]
      refine pcV_ok (h _ ?_) (h _ ?_) <;> (rw [List.getD_eq_getElem?_getD, List.getElem?_eq_getElem (by omega)]; exact List.getElem_mem _)
theorem rcorN_ok {hs : List Bd} (h : AllOk hs) : ∀ i, i ≤ hs.length → ∀ p ∈ rcorN hs i, PtOk p
  | 0, _, p, hp => by cases hp
  | i + 1, hi, p, hp => by
    rw [rcorN_succ] at hp
    rcases List.mem_append.1 hp with h1 | h1
    · exact rcorN_ok h i (by omega) p h1
    · exact rcorI_ok h (by omega) i (by omega) p h1
/-- What is known of a list of corners: they fit, and their divisors are above 0. -/
def CorsOk (l : List Pt) : Prop := ∀ p ∈ l, PtOk p ∧ 0 < p.d
theorem rcor_ok {hs : List Bd} (h : AllOk hs) : CorsOk (rcor hs) := fun p hp => ⟨rcorN_ok h _ (Nat.le_refl _) p hp, (rcorN_in _ hp).1⟩

theorem downB_any (a b : Int) (w : World) (ha1 : -4611686018427387903 ≤ a) (hb : 1 ≤ b) (ha2 : a ≤ 4611686018427387903) (hb2 : b ≤ 4611686018427387903) :
    Calls Try.prog 67 #[.int .i64 a, .int .i64 b] w fun e w' => e = .returned (.int .i64 (a / b)) ∧ Below w.heap.size w w' := by
  refine (Down_any a b w ha1 hb ha2 hb2).mono ?_
  rintro e w' ⟨h1, rfl⟩
  exact ⟨h1, Below.refl _ _⟩
theorem upB_any (a b : Int) (w : World) (ha1 : -4611686018427387903 ≤ a) (hb : 1 ≤ b) (ha2 : a ≤ 4611686018427387903) (hb2 : b ≤ 4611686018427387903) :
    Calls Try.prog 68 #[.int .i64 a, .int .i64 b] w fun e w' => e = .returned (.int .i64 (cdiv a b)) ∧ Below w.heap.size w w' := by
  refine (Up_any a b w ha1 hb ha2 hb2).mono ?_
  rintro e w' ⟨h1, rfl⟩
  exact ⟨h1, Below.refl _ _⟩
set_option maxHeartbeats 1000000 in
theorem rrest_any (a : Int) (w : World) (h1 : -1000000000000000000 ≤ a) (h2 : a ≤ 1000000000000000000) :
    Calls Try.prog 118 #[.int .i64 a, .int .i64 1048576] w fun e w' => e = .returned (.int .i64 (a - 1048576 * (a / 1048576))) ∧ Below w.heap.size w w' := by
  have hd := fun W => downB_any a 1048576 W (by omega) (by omega) (by omega) (by omega)
  have b1 : 0 ≤ a - 1048576 * (a / 1048576) := by omega
  have b2 : a - 1048576 * (a / 1048576) ≤ 1048575 := by omega
  have b3 : -1000000000000000000 ≤ a / 1048576 := by omega
  have b4 : a / 1048576 ≤ 1000000000000 := by omega
  have b5 : -1000000000000000000 - 1048576 ≤ 1048576 * (a / 1048576) := by omega
  have b6 : 1048576 * (a / 1048576) ≤ 1000000000000000000 := by omega
  obtain ⟨q, hq⟩ : ∃ q, a / 1048576 = q := ⟨_, rfl⟩
  simp only [hq] at hd
  rw [hq] at b1 b2 b3 b4 b5 b6 ⊢
  clear hq
  have HD := hide hd
  clear hd
  go_enter Try.func118, Try.ntmps118
  have HB := hide (Below.refl w.heap.size w)
  go_wp2_with fail
  refine (HD.out _).mono ?_
  rintro e w1 ⟨rfl, hb⟩
  replace HB := hide (onward HB.out hb)
  clear hb
  go_wp2
  go_ret
  exact ⟨rfl, HB.out⟩
set_option maxHeartbeats 1000000 in
set_option maxRecDepth 100000 in
theorem rcorner_any (p q : Bd) (w : World) (hx : BdOk p) (hy : BdOk q) :
    Calls Try.prog 100 #[bdC p, bdC q] w fun e w' => e = .returned (.tuple #[ptC (pcV p q), .bool (pcB p q)]) ∧ Below w.heap.size w w' := by
  have hV : pcV p q = if (cor p q).d < 0 then ⟨-(cor p q).u, -(cor p q).v, -(cor p q).d⟩ else cor p q := rfl
  have hB : pcB p q = ((cor p q).d != 0) := rfl
  have ho := cor_ok hx hy
  rw [hV, hB]
  clear hV hB
  obtain ⟨xa, xb, xc⟩ := p
  obtain ⟨ya, yb, yc⟩ := q
  obtain ⟨x1, x2, x3, x4, x5, x6⟩ := hx
  obtain ⟨y1, y2, y3, y4, y5, y6⟩ := hy
  obtain ⟨t1, t2, t3, t4, t5, t6⟩ := ho
  unfold bdC ptC
  unfold cor at t1 t2 t3 t4 t5 t6 ⊢
  simp only at *
  have m1 := abs_mul x5 x6 y3 y4
  have m2 := abs_mul x3 x4 y5 y6
  have m3 := abs_mul x1 x2 y5 y6
  have m4 := abs_mul x5 x6 y1 y2
  have m5 := abs_mul x1 x2 y3 y4
  have m6 := abs_mul x3 x4 y1 y2
  obtain ⟨p1, hp1⟩ : ∃ p, xc * yb = p := ⟨_, rfl⟩
  obtain ⟨p2, hp2⟩ : ∃ p, xb * yc = p := ⟨_, rfl⟩
  obtain ⟨p3, hp3⟩ : ∃ p, xa * yc = p := ⟨_, rfl⟩
  obtain ⟨p4, hp4⟩ : ∃ p, xc * ya = p := ⟨_, rfl⟩
  obtain ⟨p5, hp5⟩ : ∃ p, xa * yb = p := ⟨_, rfl⟩
  obtain ⟨p6, hp6⟩ : ∃ p, xb * ya = p := ⟨_, rfl⟩
  simp only [hp1] at m1 t1 t2 ⊢
  simp only [hp2] at m2 t1 t2 ⊢
  simp only [hp3] at m3 t3 t4 ⊢
  simp only [hp4] at m4 t3 t4 ⊢
  simp only [hp5] at m5 t5 t6 ⊢
  simp only [hp6] at m6 t5 t6 ⊢
  obtain ⟨m11, m12⟩ := m1
  obtain ⟨m21, m22⟩ := m2
  obtain ⟨m31, m32⟩ := m3
  obtain ⟨m41, m42⟩ := m4
  obtain ⟨m51, m52⟩ := m5
  obtain ⟨m61, m62⟩ := m6
  by_cases hneg : p5 - p6 < 0
  · simp only [if_pos hneg]
    go_enter Try.func100, Try.ntmps100
    have HM := hide (Mem.start w)
    go_upto_region 1 with fail
    refine code_world fun w1 hW => ?_
    have HMn := Mem.to (Mem.allocAt (Mem.allocAt (Mem.allocAt HM.out w.heap.size rfl #[.int .i64 xa, .int .i64 xb, .int .i64 xc] 174) (w.heap.size + 1) (by simp) #[.int .i64 ya, .int .i64 yb, .int .i64 yc] 174) (w.heap.size + 2) (by simp) #[.int .i64 0, .int .i64 0, .int .i64 0] 137) hW
    have LW : Later w w1 := by rw [hW]; exact ((((Below.refl _ _).alloc (Nat.le_refl _) _).alloc (by simp; try omega) _).alloc (by simp; try omega) _)
    have szW : w1.heap.size = w.heap.size + 3 := by rw [hW]; simp
    clear hW
    replace HM := hide HMn
    clear HMn LW
    clear szW
    generalize hg2 : w.heap.size + 2 = gr at HM ⊢
    generalize hg1 : w.heap.size + 1 = gq at HM ⊢
    generalize hg0 : w.heap.size = gp at HM ⊢
    clear hg1 hg2
    have bi : Blk w1 gp 174 #[.int .i64 xa, .int .i64 xb, .int .i64 xc] := HM.out.get 2 rfl
    have lti := bi.lt
    have i0 := bi.c 0 rfl
    have i1 := bi.c 1 rfl
    have i2 := bi.c 2 rfl
    have bj : Blk w1 gq 174 #[.int .i64 ya, .int .i64 yb, .int .i64 yc] := HM.out.get 1 rfl
    have ltj := bj.lt
    have j0 := bj.c 0 rfl
    have j1 := bj.c 1 rfl
    have j2 := bj.c 2 rfl
    go_upto_region 3 with fail
    refine code_world fun w2 hW => ?_
    have HMn := Mem.to (Mem.allocAt HM.out w1.heap.size rfl #[.int .i64 (p1 - p2), .int .i64 (p3 - p4), .int .i64 (p5 - p6)] 137) hW
    have LW : Later w1 w2 := by rw [hW]; exact ((Below.refl _ _).alloc (Nat.le_refl _) _)
    have szW : w2.heap.size = w1.heap.size + 1 := by rw [hW]; simp
    clear hW bi lti i0 i1 i2 bj ltj j0 j1 j2
    replace HM := hide HMn
    clear HMn LW
    clear szW
    generalize hgc : w1.heap.size = gc at HM ⊢
    clear hgc
    have hne := Mem.ne HM.out 0 1 rfl rfl (by decide)
    clear m11 m12 m21 m22 m31 m32 m41 m42 m51 m52 m61 m62 hp1 hp2 hp3 hp4 hp5 hp6
    obtain ⟨u, hu⟩ : ∃ u, p1 - p2 = u := ⟨_, rfl⟩
    obtain ⟨v, hv⟩ : ∃ v, p3 - p4 = v := ⟨_, rfl⟩
    obtain ⟨d, hd⟩ : ∃ d, p5 - p6 = d := ⟨_, rfl⟩
    simp only [hu, hv, hd] at HM hneg t1 t2 t3 t4 t5 t6 ⊢
    have HU := hide hu
    have HV := hide hv
    have HD := hide hd
    clear hu hv hd
    have bc : Blk w2 gc 137 #[.int .i64 u, .int .i64 v, .int .i64 d] := HM.out.get 0 rfl
    have ltc := bc.lt
    have c0 := bc.c 0 rfl
    have fc0 := bc.frozen 0
    have c1 := bc.c 1 rfl
    have fc1 := bc.frozen 1
    have c2 := bc.c 2 rfl
    have fc2 := bc.frozen 2
    have bo : Blk w2 gr 137 #[.int .i64 0, .int .i64 0, .int .i64 0] := HM.out.get 1 rfl
    have lto := bo.lt
    have o0 := bo.c 0 rfl
    have fo0 := bo.frozen 0
    have o1 := bo.c 1 rfl
    have fo1 := bo.frozen 1
    have o2 := bo.c 2 rfl
    have fo2 := bo.frozen 2
    go_wp2
    have HM1 := hide (((((((HM.out.set_ 0 rfl 0 (.int .i64 (-u)) rfl).set_ 0 rfl 1 (.int .i64 (-v)) rfl).set_ 0 rfl 2 (.int .i64 (-d)) rfl).set_ 1 rfl 0 (.int .i64 (-u)) rfl).set_ 1 rfl 1 (.int .i64 (-v)) rfl).set_ 1 rfl 2 (.int .i64 (-d)) rfl))
    have s0 := (HM1.out.blk_ 1 rfl).c 0 rfl
    have s1 := (HM1.out.blk_ 1 rfl).c 1 rfl
    have s2 := (HM1.out.blk_ 1 rfl).c 2 rfl
    have lts := (HM1.out.blk_ 1 rfl).lt
    refine ret_world fun W1 hW1 => ?_
    rw [← hW1] at HM1 s0 s1 s2 lts
    exact bodyPost_ret (v := .tuple #[.agg #[.int .i64 (-u), .int .i64 (-v), .int .i64 (-d)], .bool (d != 0)]) (by simp [results, Try.results100, go_sem, s0, s1, s2, lts]) rfl ⟨by rw [← HU.out, ← HV.out, ← HD.out], by first | exact HM1.out.below | (rw [← hg0]; exact HM1.out.below)⟩
  · simp only [if_neg hneg]
    go_enter Try.func100, Try.ntmps100
    have HM := hide (Mem.start w)
    go_upto_region 1 with fail
    refine code_world fun w1 hW => ?_
    have HMn := Mem.to (Mem.allocAt (Mem.allocAt (Mem.allocAt HM.out w.heap.size rfl #[.int .i64 xa, .int .i64 xb, .int .i64 xc] 174) (w.heap.size + 1) (by simp) #[.int .i64 ya, .int .i64 yb, .int .i64 yc] 174) (w.heap.size + 2) (by simp) #[.int .i64 0, .int .i64 0, .int .i64 0] 137) hW
    have LW : Later w w1 := by rw [hW]; exact ((((Below.refl _ _).alloc (Nat.le_refl _) _).alloc (by simp; try omega) _).alloc (by simp; try omega) _)
    have szW : w1.heap.size = w.heap.size + 3 := by rw [hW]; simp
    clear hW
    replace HM := hide HMn
    clear HMn LW
    clear szW
    generalize hg2 : w.heap.size + 2 = gr at HM ⊢
    generalize hg1 : w.heap.size + 1 = gq at HM ⊢
    generalize hg0 : w.heap.size = gp at HM ⊢
    clear hg1 hg2
    have bi : Blk w1 gp 174 #[.int .i64 xa, .int .i64 xb, .int .i64 xc] := HM.out.get 2 rfl
    have lti := bi.lt
    have i0 := bi.c 0 rfl
    have i1 := bi.c 1 rfl
    have i2 := bi.c 2 rfl
    have bj : Blk w1 gq 174 #[.int .i64 ya, .int .i64 yb, .int .i64 yc] := HM.out.get 1 rfl
    have ltj := bj.lt
    have j0 := bj.c 0 rfl
    have j1 := bj.c 1 rfl
    have j2 := bj.c 2 rfl
    go_upto_region 3 with fail
    refine code_world fun w2 hW => ?_
    have HMn := Mem.to (Mem.allocAt HM.out w1.heap.size rfl #[.int .i64 (p1 - p2), .int .i64 (p3 - p4), .int .i64 (p5 - p6)] 137) hW
    have LW : Later w1 w2 := by rw [hW]; exact ((Below.refl _ _).alloc (Nat.le_refl _) _)
    have szW : w2.heap.size = w1.heap.size + 1 := by rw [hW]; simp
    clear hW bi lti i0 i1 i2 bj ltj j0 j1 j2
    replace HM := hide HMn
    clear HMn LW
    clear szW
    generalize hgc : w1.heap.size = gc at HM ⊢
    clear hgc
    have hne := Mem.ne HM.out 0 1 rfl rfl (by decide)
    clear m11 m12 m21 m22 m31 m32 m41 m42 m51 m52 m61 m62 hp1 hp2 hp3 hp4 hp5 hp6
    obtain ⟨u, hu⟩ : ∃ u, p1 - p2 = u := ⟨_, rfl⟩
    obtain ⟨v, hv⟩ : ∃ v, p3 - p4 = v := ⟨_, rfl⟩
    obtain ⟨d, hd⟩ : ∃ d, p5 - p6 = d := ⟨_, rfl⟩
    simp only [hu, hv, hd] at HM hneg t1 t2 t3 t4 t5 t6 ⊢
    have HU := hide hu
    have HV := hide hv
    have HD := hide hd
    clear hu hv hd
    have bc : Blk w2 gc 137 #[.int .i64 u, .int .i64 v, .int .i64 d] := HM.out.get 0 rfl
    have ltc := bc.lt
    have c0 := bc.c 0 rfl
    have fc0 := bc.frozen 0
    have c1 := bc.c 1 rfl
    have fc1 := bc.frozen 1
    have c2 := bc.c 2 rfl
    have fc2 := bc.frozen 2
    have bo : Blk w2 gr 137 #[.int .i64 0, .int .i64 0, .int .i64 0] := HM.out.get 1 rfl
    have lto := bo.lt
    have o0 := bo.c 0 rfl
    have fo0 := bo.frozen 0
    have o1 := bo.c 1 rfl
    have fo1 := bo.frozen 1
    have o2 := bo.c 2 rfl
    have fo2 := bo.frozen 2
    go_wp2
    have HM1 := hide (((HM.out.set_ 1 rfl 0 (.int .i64 u) rfl).set_ 1 rfl 1 (.int .i64 v) rfl).set_ 1 rfl 2 (.int .i64 d) rfl)
    have s0 := (HM1.out.blk_ 1 rfl).c 0 rfl
    have s1 := (HM1.out.blk_ 1 rfl).c 1 rfl
    have s2 := (HM1.out.blk_ 1 rfl).c 2 rfl
    have lts := (HM1.out.blk_ 1 rfl).lt
    refine ret_world fun W1 hW1 => ?_
    rw [← hW1] at HM1 s0 s1 s2 lts
    exact bodyPost_ret (v := .tuple #[.agg #[.int .i64 u, .int .i64 v, .int .i64 d], .bool (d != 0)]) (by simp [results, Try.results100, go_sem, s0, s1, s2, lts]) rfl ⟨by rw [← HU.out, ← HV.out, ← HD.out], by first | exact HM1.out.below | (rw [← hg0]; exact HM1.out.below)⟩
end Go.Proofs.Ytllpffkifleigaa
end
section
namespace Go.Proofs.Ytllpffkifleigaa
open Go Go.RowKit

set_option maxHeartbeats 1000000 in
set_option maxRecDepth 100000 in
theorem rside_any (h : Bd) (c : Pt) (w : World) (hh : BdOk h) (hc : PtOk c) :
    Calls Try.prog 101 #[bdC h, ptC c] w fun e w' => e = .returned (.int .i64 (sideI (gap h c))) ∧ Below w.heap.size w w' := by
  obtain ⟨ha, hb, hq⟩ := h
  obtain ⟨cu, cv, cd⟩ := c
  obtain ⟨x1, x2, x3, x4, x5, x6⟩ := hh
  obtain ⟨y1, y2, y3, y4, y5, y6⟩ := hc
  simp only at x1 x2 x3 x4 x5 x6 y1 y2 y3 y4 y5 y6
  have k1 := fun W => downB_any cu 1048576 W (by omega) (by omega) (by omega) (by omega)
  have k2 := fun W => downB_any cv 1048576 W (by omega) (by omega) (by omega) (by omega)
  have k3 := fun W => downB_any cd 1048576 W (by omega) (by omega) (by omega) (by omega)
  have r1 := fun W => rrest_any cu W (by omega) (by omega)
  have r2 := fun W => rrest_any cv W (by omega) (by omega)
  have r3 := fun W => rrest_any cd W (by omega) (by omega)
  have u1 : -6407227000 ≤ cu / 1048576 ∧ cu / 1048576 ≤ 6407227000 := by omega
  have v1 : -6407227000 ≤ cv / 1048576 ∧ cv / 1048576 ≤ 6407227000 := by omega
  have d1 : -8010 ≤ cd / 1048576 ∧ cd / 1048576 ≤ 8010 := by omega
  have u2 : -1048575 ≤ cu - 1048576 * (cu / 1048576) ∧ cu - 1048576 * (cu / 1048576) ≤ 1048575 := by omega
  have v2 : -1048575 ≤ cv - 1048576 * (cv / 1048576) ∧ cv - 1048576 * (cv / 1048576) ≤ 1048575 := by omega
  have d2 : -1048575 ≤ cd - 1048576 * (cd / 1048576) ∧ cd - 1048576 * (cd / 1048576) ≤ 1048575 := by omega
  have hS := side_parts (a := ha) (b := hb) (c := hq) (u := cu) (v := cv) (d := cd) (U := cu / 1048576) (V := cv / 1048576) (D := cd / 1048576) _ _ rfl rfl rfl
  have hg : gap ⟨ha, hb, hq⟩ ⟨cu, cv, cd⟩ = hq * cd - ha * cu - hb * cv := rfl
  rw [← hg] at hS
  generalize gap ⟨ha, hb, hq⟩ ⟨cu, cv, cd⟩ = gg at *
  unfold bdC ptC
  simp only
  clear hg
  obtain ⟨U, hU⟩ : ∃ U, cu / 1048576 = U := ⟨_, rfl⟩
  obtain ⟨V, hV⟩ : ∃ U, cv / 1048576 = U := ⟨_, rfl⟩
  obtain ⟨D, hD⟩ : ∃ U, cd / 1048576 = U := ⟨_, rfl⟩
  simp only [hU] at k1 r1 u1 u2 hS
  simp only [hV] at k2 r2 v1 v2 hS
  simp only [hD] at k3 r3 d1 d2 hS
  obtain ⟨ru, hru⟩ : ∃ z, cu - 1048576 * U = z := ⟨_, rfl⟩
  obtain ⟨rv, hrv⟩ : ∃ z, cv - 1048576 * V = z := ⟨_, rfl⟩
  obtain ⟨rd, hrd⟩ : ∃ z, cd - 1048576 * D = z := ⟨_, rfl⟩
  simp only [hru] at r1 u2 hS
  simp only [hrv] at r2 v2 hS
  simp only [hrd] at r3 d2 hS
  clear hU hV hD hru hrv hrd
  have m1 := abs_mul x1 x2 u1.1 u1.2
  have m2 := abs_mul x3 x4 v1.1 v1.2
  have m3 := abs_mul x5 x6 d1.1 d1.2
  have m4 := abs_mul x1 x2 u2.1 u2.2
  have m5 := abs_mul x3 x4 v2.1 v2.2
  have m6 := abs_mul x5 x6 d2.1 d2.2
  obtain ⟨p1, hp1⟩ : ∃ p, ha * U = p := ⟨_, rfl⟩
  obtain ⟨p2, hp2⟩ : ∃ p, hb * V = p := ⟨_, rfl⟩
  obtain ⟨p3, hp3⟩ : ∃ p, hq * D = p := ⟨_, rfl⟩
  obtain ⟨p4, hp4⟩ : ∃ p, ha * ru = p := ⟨_, rfl⟩
  obtain ⟨p5, hp5⟩ : ∃ p, hb * rv = p := ⟨_, rfl⟩
  obtain ⟨p6, hp6⟩ : ∃ p, hq * rd = p := ⟨_, rfl⟩
  rw [hp1] at m1 hS
  rw [hp2] at m2 hS
  rw [hp3] at m3 hS
  rw [hp4] at m4 hS
  rw [hp5] at m5 hS
  rw [hp6] at m6 hS
  obtain ⟨m11, m12⟩ := m1
  obtain ⟨m21, m22⟩ := m2
  obtain ⟨m31, m32⟩ := m3
  obtain ⟨m41, m42⟩ := m4
  obtain ⟨m51, m52⟩ := m5
  obtain ⟨m61, m62⟩ := m6
  have lb : -100000000000000000 ≤ p4 + p5 - p6 ∧ p4 + p5 - p6 ≤ 100000000000000000 := by omega
  have hb2 : -100000000000000000 ≤ p1 + p2 - p3 ∧ p1 + p2 - p3 ≤ 100000000000000000 := by omega
  have k4 := fun W => downB_any (p4 + p5 - p6) 1048576 W (by omega) (by omega) (by omega) (by omega)
  have r4 := fun W => rrest_any (p4 + p5 - p6) W (by omega) (by omega)
  have q1 : -100000000000 ≤ (p4 + p5 - p6) / 1048576 ∧ (p4 + p5 - p6) / 1048576 ≤ 100000000000 := by omega
  have q2 : 0 ≤ p4 + p5 - p6 - 1048576 * ((p4 + p5 - p6) / 1048576) := by omega
  clear x1 x2 x3 x4 x5 x6 y1 y2 y3 y4 y5 y6 u1 v1 d1 u2 v2 d2
  have K1 := hide k1
  have K2 := hide k2
  have K3 := hide k3
  have R1 := hide r1
  have R2 := hide r2
  have R3 := hide r3
  have K4 := hide k4
  have R4 := hide r4
  have HS := hide hS
  have LB := hide lb
  have HB2 := hide hb2
  have Q1 := hide q1
  have Q2 := hide q2
  clear k1 k2 k3 r1 r2 r3 k4 r4 hS lb hb2 q1 q2
  go_enter Try.func101, Try.ntmps101
  have HM := hide (Mem.start w)
  go_upto_region 1 with fail
  refine code_world fun w1 hW => ?_
  have HMn := Mem.to (Mem.allocAt (Mem.allocAt HM.out w.heap.size rfl #[.int .i64 ha, .int .i64 hb, .int .i64 hq] 174) (w.heap.size + 1) (by simp) #[.int .i64 cu, .int .i64 cv, .int .i64 cd] 137) hW
  have LW : Later w w1 := by rw [hW]; exact (((Below.refl _ _).alloc (Nat.le_refl _) _).alloc (by simp; try omega) _)
  have szW : w1.heap.size = w.heap.size + 2 := by rw [hW]; simp
  clear hW
  replace HM := hide HMn
  clear HMn LW
  clear szW
  generalize hg1 : w.heap.size + 1 = gc at HM ⊢
  generalize hg0 : w.heap.size = gh at HM ⊢
  clear hg1
  have bi : Blk w1 gh 174 #[.int .i64 ha, .int .i64 hb, .int .i64 hq] := HM.out.get 1 rfl
  have lti := bi.lt
  have i0 := bi.c 0 rfl
  have i1 := bi.c 1 rfl
  have i2 := bi.c 2 rfl
  have bj : Blk w1 gc 137 #[.int .i64 cu, .int .i64 cv, .int .i64 cd] := HM.out.get 0 rfl
  have ltj := bj.lt
  have j0 := bj.c 0 rfl
  have j1 := bj.c 1 rfl
  have j2 := bj.c 2 rfl
  apply wp_region_L (w0 := w1) [[], [], [], [], [], [], [], [], [], [], [], [], [], [], [], [], [], [], [], [], []] [true, true, true, true, true, true, true, true, true, true, true, true, true, true, true, true, true, true, true, true, true] [] (fun ixq y => match ixq with  | _ => undef) (fun ixq x F wq => match ixq with  | _ => True) (fun a x => a) (by kernel_rfl) (by kernel_rfl) (fun _ => rfl) [11, 17, 24] (by kernel_rfl)
  · intro x D hD
    have hne := hD.some
    have k0 := liftB hD i0 (by first | assumption | omega)
    have k1 := liftB hD i1 (by first | assumption | omega)
    have k2 := liftB hD i2 (by first | assumption | omega)
    have k3 := liftB hD j0 (by first | assumption | omega)
    have k4 := liftB hD j1 (by first | assumption | omega)
    have k5 := liftB hD j2 (by first | assumption | omega)
    simp only [takeOps, Act.put, List.setIfInBounds_toArray, List.set_cons_succ, List.set_cons_zero]
    repeat (go_big_quiet_step ((go_at_call 67; first | (with_reducible exact calls_later hD _ (K1.out _)) | (with_reducible exact calls_later hD _ (K2.out _)) | (with_reducible exact calls_later hD _ (K3.out _)))))
    exact wpQuiet_nil rfl
  · intro d hd x x'
    simp only [List.mem_cons, List.not_mem_nil, or_false] at hd
    rcases hd with rfl | rfl | rfl
    all_goals rfl
  · exact trivial
  · exact trivial
  intro xx w2 F hL hlv1
  clear hlv1
  replace HM := hide (HM.out.later hL)
  clear hL bi lti i0 i1 i2 bj ltj j0 j1 j2
  have bi : Blk w2 gh 174 #[.int .i64 ha, .int .i64 hb, .int .i64 hq] := HM.out.get 1 rfl
  have lti := bi.lt
  have i0 := bi.c 0 rfl
  have i1 := bi.c 1 rfl
  have i2 := bi.c 2 rfl
  have bj : Blk w2 gc 137 #[.int .i64 cu, .int .i64 cv, .int .i64 cd] := HM.out.get 0 rfl
  have ltj := bj.lt
  have j0 := bj.c 0 rfl
  have j1 := bj.c 1 rfl
  have j2 := bj.c 2 rfl
  go_upto_region 2 with fail
  apply wp_region_L (w0 := w2) [[], [], [], [], [], [], [], [], [], [], [], [], [], [], [], [], [], [], [], [], []] [true, true, true, true, true, true, true, true, true, true, true, true, true, true, true, true, true, true, true, true, true] [] (fun ixq y => match ixq with  | _ => undef) (fun ixq x F wq => match ixq with  | _ => True) (fun a x => a) (by kernel_rfl) (by kernel_rfl) (fun _ => rfl) [31, 37, 44] (by kernel_rfl)
  · intro x D hD
    have hne := hD.some
    have k0 := liftB hD i0 (by first | assumption | omega)
    have k1 := liftB hD i1 (by first | assumption | omega)
    have k2 := liftB hD i2 (by first | assumption | omega)
    have k3 := liftB hD j0 (by first | assumption | omega)
    have k4 := liftB hD j1 (by first | assumption | omega)
    have k5 := liftB hD j2 (by first | assumption | omega)
    simp only [takeOps, Act.put, List.setIfInBounds_toArray, List.set_cons_succ, List.set_cons_zero]
    repeat (go_big_quiet_step ((go_at_call 118; first | (with_reducible exact calls_later hD _ (R1.out _)) | (with_reducible exact calls_later hD _ (R2.out _)) | (with_reducible exact calls_later hD _ (R3.out _)))))
    exact wpQuiet_nil rfl
  · intro d hd x x'
    simp only [List.mem_cons, List.not_mem_nil, or_false] at hd
    rcases hd with rfl | rfl | rfl
    all_goals rfl
  · exact trivial
  · exact trivial
  intro xx w3 F hL hlv2
  clear hlv2
  replace HM := hide (HM.out.later hL)
  clear hL bi lti i0 i1 i2 bj ltj j0 j1 j2
  clear hp1 hp2 hp3 hp4 hp5 hp6 m11 m12 m21 m22 m31 m32 m41 m42 m51 m52 m61 m62
  generalize p4 + p5 - p6 = lo at *
  generalize p1 + p2 - p3 = hi at *
  have q1 := Q1.out
  have hb2 := HB2.out
  have lb := LB.out
  obtain ⟨q, hq2⟩ : ∃ q, lo / 1048576 = q := ⟨_, rfl⟩
  obtain ⟨r, hr2⟩ : ∃ r, lo - 1048576 * q = r := ⟨_, rfl⟩
  have k4 := K4.out
  have r4 := R4.out
  have hS := HS.out
  have q2 := Q2.out
  rw [hq2] at q1 q2 hS
  rw [hr2] at q2 hS
  simp only [hq2] at k4 r4
  simp only [hr2] at r4
  obtain ⟨q11, q12⟩ := q1
  obtain ⟨hi1, hi2⟩ := hb2
  obtain ⟨lo1, lo2⟩ := lb
  clear hq2 hr2 K1 K2 K3 R1 R2 R3 K4 R4 HS LB HB2 Q1 Q2
  obtain ⟨t, ht⟩ : ∃ t, hi + q = t := ⟨_, rfl⟩
  rw [ht] at hS
  have t1 : -200100000000000000 ≤ t := by omega
  have t2 : t ≤ 200100000000000000 := by omega
  have K4 := hide k4
  have R4 := hide r4
  clear k4 r4
  by_cases c1 : 0 < t
  · rw [if_pos (.inl c1)] at hS
    have HS := hide hS
    clear hS
    go_wp2_with fail
    refine (K4.out _).mono ?_
    rintro e w4 ⟨rfl, hb⟩
    replace HM := hide (HM.out.later hb)
    clear hb
    go_wp2_with fail
    refine (R4.out _).mono ?_
    rintro e w5 ⟨rfl, hb⟩
    replace HM := hide (HM.out.later hb)
    clear hb
    go_wp2
    exact bodyPost_ret (v := .int .i64 (1)) (by simp [results, Try.results101, go_sem]) rfl ⟨by rw [HS.out], by first | exact HM.out.below | (rw [← hg0]; exact HM.out.below)⟩
  · by_cases c2 : t = 0
    · by_cases c3 : 0 < r
      · rw [if_pos (.inr ⟨c2, c3⟩)] at hS
        subst c2
        have HS := hide hS
        clear hS
        go_wp2_with fail
        refine (K4.out _).mono ?_
        rintro e w4 ⟨rfl, hb⟩
        replace HM := hide (HM.out.later hb)
        clear hb
        go_wp2_with fail
        refine (R4.out _).mono ?_
        rintro e w5 ⟨rfl, hb⟩
        replace HM := hide (HM.out.later hb)
        clear hb
        go_wp2
        exact bodyPost_ret (v := .int .i64 (1)) (by simp [results, Try.results101, go_sem]) rfl ⟨by rw [HS.out], by first | exact HM.out.below | (rw [← hg0]; exact HM.out.below)⟩
      · obtain rfl : r = 0 := by omega
        rw [if_neg (by omega), if_pos ⟨c2, rfl⟩] at hS
        subst c2
        have HS := hide hS
        clear hS
        go_wp2_with fail
        refine (K4.out _).mono ?_
        rintro e w4 ⟨rfl, hb⟩
        replace HM := hide (HM.out.later hb)
        clear hb
        go_wp2_with fail
        refine (R4.out _).mono ?_
        rintro e w5 ⟨rfl, hb⟩
        replace HM := hide (HM.out.later hb)
        clear hb
        go_wp2
        exact bodyPost_ret (v := .int .i64 (0)) (by simp [results, Try.results101, go_sem]) rfl ⟨by rw [HS.out], by first | exact HM.out.below | (rw [← hg0]; exact HM.out.below)⟩
    · rw [if_neg (by omega), if_neg (by omega)] at hS
      have HS := hide hS
      clear hS
      go_wp2_with fail
      refine (K4.out _).mono ?_
      rintro e w4 ⟨rfl, hb⟩
      replace HM := hide (HM.out.later hb)
      clear hb
      go_wp2_with fail
      refine (R4.out _).mono ?_
      rintro e w5 ⟨rfl, hb⟩
      replace HM := hide (HM.out.later hb)
      clear hb
      go_wp2
      exact bodyPost_ret (v := .int .i64 (-1)) (by simp [results, Try.results101, go_sem]) rfl ⟨by rw [HS.out], by first | exact HM.out.below | (rw [← hg0]; exact HM.out.below)⟩
end Go.Proofs.Ytllpffkifleigaa
end
section
namespace Go.Proofs.Ytllpffkifleigaa
open Go Go.RowKit

def ptL (p : Pt) : List Value := [.int .i64 p.u, .int .i64 p.v, .int .i64 p.d]
def ptsV (l : List Pt) : List Value := l.flatMap ptL
theorem ptsV_app (a b : List Pt) : ptsV (a ++ b) = ptsV a ++ ptsV b := List.flatMap_append
def pt0 : Pt := ⟨0, 0, 0⟩
/-- Corners as they lie in memory. -/
def CorsAt (w : World) (B : Nat) (A : Option Addr) (l : List Pt) : Prop := 0 < l.length → ∃ b off, A = some ⟨b, off, none⟩ ∧ b < B ∧ ∀ i, i < l.length →
  w.cell? ⟨b, off + i * 3, none⟩ = some (.int .i64 (l.getD i pt0).u) ∧ w.cell? ⟨b, off + i * 3 + 1, none⟩ = some (.int .i64 (l.getD i pt0).v) ∧ w.cell? ⟨b, off + i * 3 + 2, none⟩ = some (.int .i64 (l.getD i pt0).d)
def CorsH (w : World) (A : Option Addr) (l : List Pt) : Prop := CorsAt w w.heap.size A l
theorem CorsH.later {w w' : World} {A : Option Addr} {l : List Pt} (h : CorsH w A l) (hb : Below w.heap.size w w') : CorsH w' A l := fun hn => by
  obtain ⟨b, off, e, hl, hc⟩ := h hn
  refine ⟨b, off, e, Nat.lt_of_lt_of_le hl hb.size, fun i hi => ?_⟩
  obtain ⟨c1, c2, c3⟩ := hc i hi
  exact ⟨(hb.cell hl).trans c1, (hb.cell hl).trans c2, (hb.cell hl).trans c3⟩
theorem ptsV_get : ∀ (L : List Pt) (i : Nat), i < L.length → (ptsV L)[i * 3]? = some (.int .i64 (L.getD i pt0).u) ∧ (ptsV L)[i * 3 + 1]? = some (.int .i64 (L.getD i pt0).v) ∧ (ptsV L)[i * 3 + 2]? = some (.int .i64 (L.getD i pt0).d)
  | [], i, h => absurd h (by simp)
  | x :: l, 0, _ => ⟨rfl, rfl, rfl⟩
  | x :: l, i + 1, h => by
    have := ptsV_get l i (by simpa using h)
    have e : ptsV (x :: l) = ptL x ++ ptsV l := rfl
    have e1 : ∀ m, (ptL x ++ ptsV l)[m + 3]? = (ptsV l)[m]? := fun m => by rw [List.getElem?_append_right (by show 3 ≤ m + 3; omega)]; rfl
    rw [e, show (i + 1) * 3 = i * 3 + 3 by omega, show i * 3 + 3 + 1 = (i * 3 + 1) + 3 by omega, show i * 3 + 3 + 2 = (i * 3 + 2) + 3 by omega, e1, e1, e1]
    simpa using this
theorem cors_own {w : World} {base c n : Nat} {A : Option Addr} {L : List Pt} {e : TypeId} (hn : L.length = n) (h : w.ownsRow base e 3 (.slice A n c) n (ptsV L)) : CorsH w A L := fun hl => by
  obtain ⟨b, cur, rfl, -, hb, -, -, hc⟩ := row_blk h (by omega)
  refine ⟨b, 0, rfl, hb.lt, fun i hi => ?_⟩
  obtain ⟨c1, c2, c3⟩ := ptsV_get L i hi
  rw [Nat.zero_add]
  exact ⟨hb.c _ (hc _ _ c1), hb.c _ (hc _ _ c2), hb.c _ (hc _ _ c3)⟩
theorem cornerInfo : (Try.prog.info? 137).map (fun i => (i.zero, i.size, i.bytes)) = some (some (.agg #[.int .i64 0, .int .i64 0, .int .i64 0]), 3, 24) := by kernel_rfl

/-- What is left of a corner's test behind so many half-planes. -/
def tstB (hs : List Bd) (p q : Bd) (j : Nat) : Bool := pcB p q && (hs.take j).all fun s => decide (0 ≤ gap s (pcV p q))
theorem tstB_zero (hs : List Bd) (p q : Bd) : tstB hs p q 0 = pcB p q := by unfold tstB; simp
theorem tstB_end (hs : List Bd) (p q : Bd) : refOne hs p q = if tstB hs p q hs.length = true then [pcV p q] else [] := by
  rw [refOne_eq]
  unfold tstB
  rw [List.take_length]
theorem tstB_succ {hs : List Bd} {p q : Bd} {j : Nat} (hj : j < hs.length) (h : tstB hs p q j = true) : tstB hs p q (j + 1) = decide (sideI (gap (hs.getD j bd0) (pcV p q)) ≤ 0) := by
  unfold tstB at h ⊢
  rw [Bool.and_eq_true] at h
  rw [List.take_add_one, List.getElem?_eq_getElem hj, List.all_append, h.1, h.2, List.getD_eq_getElem?_getD, List.getElem?_eq_getElem hj]
  simp [sideI_le]
theorem tstB_no {hs : List Bd} {p q : Bd} {j : Nat} (hj : j ≤ hs.length) (h : tstB hs p q j = false) : tstB hs p q hs.length = false := by
  unfold tstB at h ⊢
  rw [List.take_length]
  cases hp : pcB p q with
  | false => rfl
  | true =>
    rw [hp, Bool.true_and] at h
    rw [Bool.true_and]
    refine Bool.eq_false_iff.2 fun ha => ?_
    have : (hs.take j).all (fun s => decide (0 ≤ gap s (pcV p q))) = true := List.all_eq_true.2 fun s hs' => List.all_eq_true.1 ha s (List.mem_of_mem_take hs')
    rw [h] at this
    cases this
def corG (hs : List Bd) (i k : Nat) : List Pt := rcorN hs i ++ rcorI hs i k
theorem corG_len (hs : List Bd) (i k : Nat) : (corG hs i k).length ≤ i * i + k := by
  have := rcorN_len hs i
  have := rcorI_len hs i k
  unfold corG
  rw [List.length_append]
  omega
set_option maxHeartbeats 2000000 in
set_option maxRecDepth 100000 in
theorem rcorners_any (A : Option Addr) (hs : List Bd) (c : Nat) (w : World) (hmax : hs.length ≤ 800) (hA : AreaAt w w.heap.size A hs) (hok : AllOk hs) :
    Calls Try.prog 65 #[.slice A hs.length c] w fun e w' => ∃ A' c', e = .returned (.slice A' (rcor hs).length c') ∧ Below w.heap.size w w' ∧ CorsH w' A' (rcor hs) := by
  have hsc : AreaAt w w.heap.size A hs := hA
  unfold AreaAt at hsc
  have hbd := fun k (hk : k < hs.length) => (hok (hs.getD k bd0) (by rw [List.getD_eq_getElem?_getD, List.getElem?_eq_getElem hk]; exact List.getElem_mem _))
  have hC := fun i k (hi : i < hs.length) (hk : k < hs.length) W => rcorner_any (hs.getD i bd0) (hs.getD k bd0) W (hbd i hi) (hbd k hk)
  have hS := fun i k j (hi : i < hs.length) (hk : k < hs.length) (hj : j < hs.length) W => rside_any (hs.getD j bd0) (pcV (hs.getD i bd0) (hs.getD k bd0)) W (hbd j hj) (pcV_ok (hbd i hi) (hbd k hk))
  have hB0 := fun i k => tstB_zero hs (hs.getD i bd0) (hs.getD k bd0)
  have hBs := fun i k j (hj : j < hs.length) => tstB_succ (hs := hs) (p := hs.getD i bd0) (q := hs.getD k bd0) hj
  have hBn := fun i k j (hj : j ≤ hs.length) => tstB_no (hs := hs) (p := hs.getD i bd0) (q := hs.getD k bd0) hj
  have hG0 : ptsV (corG hs 0 0) = [] := rfl
  have hG1 : ∀ i, corG hs (i + 1) 0 = corG hs i i := fun i => by unfold corG; rw [rcorN_succ]; exact List.append_nil _
  have hGs : ∀ i k, corG hs i (k + 1) = corG hs i k ++ (if tstB hs (hs.getD i bd0) (hs.getD k bd0) hs.length = true then [pcV (hs.getD i bd0) (hs.getD k bd0)] else []) := fun i k => by
    unfold corG
    rw [rcorI_succ, ← tstB_end, List.append_assoc]
  have hGe : corG hs hs.length 0 = rcor hs := List.append_nil _
  have hGl := fun i k => corG_len hs i k
  obtain ⟨G, hG⟩ : ∃ G : Nat → Nat → List Pt, G = corG hs := ⟨_, rfl⟩
  rw [← hG] at hG0 hG1 hGs hGe hGl
  obtain ⟨T, hT⟩ : ∃ T : Nat → Nat → Nat → Bool, T = fun i k j => tstB hs (hs.getD i bd0) (hs.getD k bd0) j := ⟨_, rfl⟩
  have hTe : ∀ i k j, tstB hs (hs.getD i bd0) (hs.getD k bd0) j = T i k j := fun i k j => by rw [hT]
  simp only [hTe] at hB0 hBs hBn hGs
  obtain ⟨Cv, hCv⟩ : ∃ T : Nat → Nat → Pt, T = fun i k => pcV (hs.getD i bd0) (hs.getD k bd0) := ⟨_, rfl⟩
  have hCe : ∀ i k, pcV (hs.getD i bd0) (hs.getD k bd0) = Cv i k := fun i k => by rw [hCv]
  simp only [hCe] at hC hS hBs hGs
  obtain ⟨rc, hrc⟩ : ∃ r, rcor hs = r := ⟨_, rfl⟩
  rw [hrc] at hGe ⊢
  obtain ⟨n, hn⟩ : ∃ n, hs.length = n := ⟨_, rfl⟩
  rw [hn] at hsc hbd hmax ⊢
  simp only [hn] at hC hS hBs hBn hGs hGe
  have hmax2 : (n : Int) ≤ 800 := by omega
  unfold bdC ptC at hC hS
  have HSC := hide hsc
  have HC := hide hC
  have HS := hide hS
  have HB0 := hide hB0
  have HBS := hide hBs
  have HBN := hide hBn
  have HG0 := hide hG0
  have HG1 := hide hG1
  have HGS := hide hGs
  have HGE := hide hGe
  have HGL := hide hGl
  clear hsc hC hS hB0 hBs hBn hG0 hG1 hGs hGe hGl
  clear hA hok hbd hG hT hTe hCv hCe hrc hn
  go_enter Try.func65, Try.ntmps65
  have HM := hide (Mem.start w)
  go_wp2_with fail
  have HM2 := hide (HM.out.nilRow w.heap.size 137 3)
  clear HM
  have HM := HM2
  clear HM2
  generalize hg0 : w.heap.size = gs at HM ⊢
  go_loopw [3, 4] (fun o i wr => ∃ (i0 : Nat) (A' : Option Addr) (c' : Nat), i0 ≤ n ∧ i = .int .i64 i0 ∧ o = .slice A' (G i0 0).length c' ∧ Mem w [.row gs 137 3 (.slice A' (G i0 0).length c') (G i0 0).length (ptsV (G i0 0))] wr) (fun _ i _ => n - (intOf i).toNat)
  case atStart =>
    have h0 : (G 0 0).length = 0 := by
      have := HGL.out 0 0
      omega
    exact ⟨0, none, 0, by omega, rfl, by rw [h0], by rw [HG0.out, h0]; exact HM.out⟩
  case round =>
    obtain ⟨i, A', c', hi, rfl, rfl, hM⟩ := hrel
    clear HM
    have HM := hide hM
    clear hM
    by_cases hlt : i < n
    · have hlt2 : (i : Int) < n := by omega
      obtain ⟨b, off, rfl, hb0, hcc⟩ := HSC.out (by omega)
      have Hcc := hide hcc
      clear hcc
      go_wp2_with fail
      go_loopw [3, 5] (fun o kk wr => ∃ (k : Nat) (A' : Option Addr) (c' : Nat), k ≤ i ∧ kk = .int .i64 k ∧ o = .slice A' (G i k).length c' ∧ Mem w [.row gs 137 3 (.slice A' (G i k).length c') (G i k).length (ptsV (G i k))] wr) (fun _ kk _ => i - (intOf kk).toNat)
      case atStart => exact ⟨0, A', c', by omega, rfl, rfl, HM.out⟩
      case round =>
        obtain ⟨k, A2, c2, hk, rfl, rfl, hM⟩ := hrel
        clear HM
        have HM := hide hM
        clear hM
        by_cases hlk : k < i
        · have hlk2 : (k : Int) < i := by omega
          have hkn : k < n := by omega
          have hkn2 : (k : Int) < n := by omega
          have p1 := Hcc.out i hlt
          have p2 := Hcc.out k hkn
          rw [← HM.out.below.cell hb0, ← HM.out.below.cell hb0, ← HM.out.below.cell hb0] at p1 p2
          have ltb : b < wr.heap.size := Nat.lt_of_lt_of_le hb0 HM.out.size
          have c1 := HC.out i k hlt hkn
          have s1 := fun j hj => HS.out i k j hlt hkn hj
          have t0 := HB0.out i k
          have t1 := fun j hj => HBS.out i k j hj
          have t2 := fun j hj => HBN.out i k j hj
          have g1 := HGS.out i k
          have g2 := HGL.out i k
          have hii : i * i ≤ 640000 := Nat.le_trans (Nat.mul_le_mul (show i ≤ 800 by omega) (show i ≤ 800 by omega)) (by omega)
          obtain ⟨P1, hP1⟩ : ∃ P, hs.getD i bd0 = P := ⟨_, rfl⟩
          obtain ⟨P2, hP2⟩ : ∃ P, hs.getD k bd0 = P := ⟨_, rfl⟩
          obtain ⟨C, hC0⟩ : ∃ P, Cv i k = P := ⟨_, rfl⟩
          rw [hP1] at p1 t0
          rw [hP2] at p2 t0
          simp only [hP1, hP2, hC0] at c1
          simp only [hC0] at s1 t1 g1
          obtain ⟨B0, hB0⟩ : ∃ B, pcB P1 P2 = B := ⟨_, rfl⟩
          rw [hB0] at t0
          simp only [hB0] at c1
          obtain ⟨Tf, hTf⟩ : ∃ f : Nat → Bool, f = T i k := ⟨_, rfl⟩
          rw [← hTf] at t0 t1 t2 g1
          obtain ⟨pa, pb, pc⟩ := P1
          obtain ⟨ra, rb, rc'⟩ := P2
          obtain ⟨cu, cv, cd⟩ := C
          obtain ⟨p10, p11, p12⟩ := p1
          obtain ⟨p20, p21, p22⟩ := p2
          simp only at p10 p11 p12 p20 p21 p22 c1 s1 t1
          obtain ⟨L, hL0⟩ : ∃ L, G i k = L := ⟨_, rfl⟩
          rw [hL0] at g1 g2 HM ⊢
          have hll : L.length ≤ 650000 := by omega
          have hll2 : (L.length : Int) ≤ 650000 := by omega
          have C1 := hide c1
          have S1 := hide s1
          have T0 := hide t0
          have T1 := hide t1
          have T2 := hide t2
          have G1 := hide g1
          clear c1 s1 t0 t1 t2 g1
          clear hP1 hP2 hC0 hB0 hTf hL0 g2 hii
          go_upto_region 8 with fail
          apply wp_region_L (w0 := wr) [[], [], [], [], [], [], [], [], [], [], [], [], [], [12], [12, 13]] [true, true, true, true, true, true, true, true, true, true, true, true, false, false, true] [⟨12, none, [], []⟩, ⟨13, some 12, [12], [12]⟩] (fun ixq y => match ixq with | 12 => .pointer (y 0).1 | 13 => undef | _ => undef) (fun ixq x F wq => match ixq with | 12 => PtrF wq F wr.heap.size (x 12 0).1 137 #[.int .i64 0, .int .i64 0, .int .i64 0] | 13 => PtrF wq F wr.heap.size (x 12 0).1 137 #[.int .i64 cu, .int .i64 cv, .int .i64 cd] | _ => True) (fun a x => ((a).put (some 6) (.pointer ((x 12) 0).1)).put (none) (undef)) (by kernel_rfl) (by kernel_rfl) (fun x => putH_step (some 6) (.pointer ((x 12) 0).1) rfl rfl <| putH_step (none) (undef) rfl rfl <| putH_end) [29] (by kernel_rfl)
          · intro x D hD
            have hne := hD.some
            have k0 := liftB hD p10 (by first | assumption | omega)
            have k1 := liftB hD p11 (by first | assumption | omega)
            have k2 := liftB hD p12 (by first | assumption | omega)
            have k3 := liftB hD p20 (by first | assumption | omega)
            have k4 := liftB hD p21 (by first | assumption | omega)
            have k5 := liftB hD p22 (by first | assumption | omega)
            simp only [takeOps, Act.put, List.setIfInBounds_toArray, List.set_cons_succ, List.set_cons_zero]
            repeat (go_big_quiet_step ((go_at_call 100; with_reducible exact calls_later hD _ (C1.out _))))
            exact wpQuiet_nil rfl
          · intro d hd x x'
            simp only [List.mem_cons, List.not_mem_nil, or_false] at hd
            rcases hd with rfl
            all_goals rfl
          · refine ⟨?_, ?_, trivial⟩
            · exact obl_alloc 137 6 (.agg #[.int .i64 0, .int .i64 0, .int .i64 0]) (by kernel_rfl) (by kernel_rfl) (fun _ => rfl) (fun _ _ _ h => h)
            · refine obl_store 137 6 30 12 #[.int .i64 0, .int .i64 0, .int .i64 0] (fun x => #[.int .i64 cu, .int .i64 cv, .int .i64 cd]) (by kernel_rfl) rfl (by simp) (fun _ _ _ h => h) (fun _ => rfl) (fun _ => rfl) (fun _ => by kernel_rfl) (fun _ => rfl) (fun _ => by simp [Value.oneCell']) (fun _ => rfl) (by decide) (fun _ _ _ _ h => h)
          · refine ⟨?_, ?_, trivial⟩
            · exact owe_ptr 12 _ _ (fun x => #[.int .i64 0, .int .i64 0, .int .i64 0]) (fun _ _ _ => rfl) (by simp) (fun _ _ _ => rfl)
            · exact owe_ptr 12 _ _ (fun x => #[.int .i64 cu, .int .i64 cv, .int .i64 cd]) (fun _ _ _ => rfl) (by simp) (fun _ _ _ => rfl)
          intro xx w6 F hL hlv1
          obtain ⟨-, fct13, -⟩ := hlv1
          replace fct13 : PtrF w6 (F 13) wr.heap.size (xx 12 0).1 137 #[.int .i64 cu, .int .i64 cv, .int .i64 cd] := fct13 rfl
          obtain ⟨gz, hgz, hzl, -, hbz⟩ := fct13
          rw [hgz]
          have HM2 := hide (HM.out.add (t := .blk gz 137 #[.int .i64 cu, .int .i64 cv, .int .i64 cd]) hL hbz (fun q hq => by rw [List.mem_singleton.1 hq]; exact hzl))
          clear HM hgz hzl hbz hL p10 p11 p12 p20 p21 p22 ltb C1
          have HM := HM2
          clear HM2
          generalize wr.heap.size = gold at *
          rw [← T0.out]
          clear T0
          go_wp2_with fail
          go_loopw [7, 8] (fun is jj wr => ∃ j : Nat, j ≤ n ∧ jj = .int .i64 j ∧ is = .bool (Tf j) ∧ Mem w [.blk gz 137 #[.int .i64 cu, .int .i64 cv, .int .i64 cd], .row gs 137 3 (.slice A2 L.length c2) L.length (ptsV L)] wr) (fun _ jj _ => n - (intOf jj).toNat)
          case atStart => exact ⟨0, by omega, rfl, rfl, HM.out⟩
          case round =>
            obtain ⟨j, hj, rfl, rfl, hM⟩ := hrel
            clear HM
            have HM := hide hM
            clear hM
            by_cases hlj : j < n
            · have hlj2 : (j : Int) < n := by omega
              obtain ⟨tj, htj⟩ : ∃ b, Tf j = b := ⟨_, rfl⟩
              rw [htj]
              cases tj with
              | false =>
                have hf := T2.out j (by omega) htj
                have g1 : G i (k + 1) = L := by rw [G1.out, if_neg (by rw [hf]; simp), List.append_nil]
                go_wp2_with fail
                go_roundw
                case rel => exact ⟨k + 1, A2, c2, by omega, by go_num, by rw [g1], by rw [g1]; exact HM.out.tail⟩
                case measure => simp [intOf] <;> omega
              | true =>
                have p1 := Hcc.out j hlj
                rw [← HM.out.below.cell hb0, ← HM.out.below.cell hb0, ← HM.out.below.cell hb0] at p1
                have ltb : b < wr.heap.size := Nat.lt_of_lt_of_le hb0 HM.out.size
                have s1 := S1.out j hlj
                have t1 := T1.out j hlj htj
                obtain ⟨P1, hP1⟩ : ∃ P, hs.getD j bd0 = P := ⟨_, rfl⟩
                rw [hP1] at p1 t1
                simp only [hP1] at s1
                obtain ⟨pa, pb, pc⟩ := P1
                obtain ⟨p10, p11, p12⟩ := p1
                simp only at p10 p11 p12 s1
                generalize sideI (gap ⟨pa, pb, pc⟩ ⟨cu, cv, cd⟩) = sv at *
                have SS := hide s1
                have TT := hide t1
                clear s1 t1
                clear hP1 htj
                go_upto_region 12 with fail
                have bd : Blk wr gz 137 #[.int .i64 cu, .int .i64 cv, .int .i64 cd] := HM.out.get 0 rfl
                have ltd := bd.lt
                have d0 := bd.c 0 rfl
                have d1 := bd.c 1 rfl
                have d2 := bd.c 2 rfl
                apply wp_region_L (w0 := wr) [[], [], [], [], [], [], [], []] [true, true, true, true, true, true, true, true] [] (fun ixq y => match ixq with  | _ => undef) (fun ixq x F wq => match ixq with  | _ => True) (fun a x => a) (by kernel_rfl) (by kernel_rfl) (fun _ => rfl) [46] (by kernel_rfl)
                · intro x D hD
                  have hne := hD.some
                  have k0 := liftB hD p10 (by first | assumption | omega)
                  have k1 := liftB hD p11 (by first | assumption | omega)
                  have k2 := liftB hD p12 (by first | assumption | omega)
                  have k3 := liftB hD d0 (by first | assumption | omega)
                  have k4 := liftB hD d1 (by first | assumption | omega)
                  have k5 := liftB hD d2 (by first | assumption | omega)
                  simp only [takeOps, Act.put, List.setIfInBounds_toArray, List.set_cons_succ, List.set_cons_zero]
                  repeat (go_big_quiet_step ((go_at_call 101; with_reducible exact calls_later hD _ (SS.out _))))
                  exact wpQuiet_nil rfl
                · intro d hd x x'
                  simp only [List.mem_cons, List.not_mem_nil, or_false] at hd
                  rcases hd with rfl
                  all_goals rfl
                · exact trivial
                · exact trivial
                intro xx w7 F hL hlv2
                clear hlv2
                replace HM := hide (HM.out.later hL)
                clear hL bd ltd d0 d1 d2
                go_wp2_with fail
                go_roundw
                case rel => exact ⟨j + 1, by omega, by go_num, by rw [TT.out], HM.out⟩
                case measure => simp [intOf] <;> omega
            · obtain rfl : j = n := by omega
              have hkk : ¬ ((j : Int) < j) := by omega
              obtain ⟨tj, htj⟩ : ∃ b, Tf j = b := ⟨_, rfl⟩
              rw [htj]
              cases tj with
              | false =>
                have g1 : G i (k + 1) = L := by rw [G1.out, if_neg (by rw [htj]; simp), List.append_nil]
                go_wp2_with fail
                go_roundw
                case rel => exact ⟨k + 1, A2, c2, by omega, by go_num, by rw [g1], by rw [g1]; exact HM.out.tail⟩
                case measure => simp [intOf] <;> omega
              | true =>
                have g1 : G i (k + 1) = L ++ [⟨cu, cv, cd⟩] := by rw [G1.out, if_pos htj]
                obtain ⟨i0, hii, hz0, hz1, hz2⟩ := info_parts cornerInfo
                have Hi := hide hii
                have Hz0 := hide hz0
                have Hz1 := hide hz1
                have Hz2 := hide hz2
                have G2 := hide g1
                clear hii hz0 hz1 hz2 g1
                clear htj
                go_upto_region 14 with fail
                have bd : Blk wr gz 137 #[.int .i64 cu, .int .i64 cv, .int .i64 cd] := HM.out.get 0 rfl
                have ltd := bd.lt
                have d0 := bd.c 0 rfl
                have d1 := bd.c 1 rfl
                have d2 := bd.c 2 rfl
                have hbaseM : gs ≤ wr.heap.size := by rw [← hg0]; exact HM.out.size
                generalize hxs : ptsV L = xs at *
                generalize hnl : L.length = nl at *
                have hownM := Mem.row_ HM.out 1 rfl
                
                go_wp2_with (at_builtin; refine wpList_append_own_at _ rfl (.tmp 49) (.tmp 51) _ rfl _ 137 i0 _ 3 24 Try.underlying132 Hi.out Hz0.out Hz1.out Hz2.out rfl (by decide) _ nl xs rfl (hownM.alloc _) ⟨wr.heap.size, 0, none⟩ 1 1 [.int .i64 cu, .int .i64 cv, .int .i64 cd] rfl rfl ?q1c1 (by intro u hu; simp only [List.mem_cons, List.not_mem_nil, or_false] at hu; rcases hu with rfl | rfl | rfl <;> rfl) ?q1c3 ?q1c4 ?q1c5 ?_)
                try case q1c1 => exact new_cellsQ wr _ [.int .i64 cu, .int .i64 cv, .int .i64 cd]
                case q1c3 => unfold maxLen; omega
                case q1c4 => omega
                case q1c5 => first | omega | (simp; omega)
                intro vA w9 hown2 hgr2 _ hat2
                have HMn := HM.out.grow 1 rfl _ hgr2 hown2 hat2
                replace HM := hide HMn
                clear HMn hown2 hgr2 hat2 hownM hbaseM
                clear bd ltd d0 d1 d2
                obtain ⟨A9, c9, rfl⟩ := own_shape2 (Mem.row_ HM.out 1 rfl)
                go_wp2_with fail
                go_roundw
                case rel => exact ⟨k + 1, A9, c9, by omega, by go_num, by rw [G2.out, List.length_append, hnl]; rfl, by rw [G2.out, List.length_append, ptsV_app, hnl, hxs]; exact HM.out.tail⟩
                case measure => simp [intOf] <;> omega
        · obtain rfl : k = i := by omega
          have hkk : ¬ ((k : Int) < k) := by omega
          have e1 := HG1.out k
          rw [← e1] at HM ⊢
          go_wp2_with fail
          go_roundw
          case rel => exact ⟨k + 1, A2, c2, by omega, by go_num, rfl, HM.out⟩
          case measure => simp [intOf] <;> omega
    · obtain rfl : i = n := by omega
      have hkk : ¬ ((i : Int) < i) := by omega
      obtain rfl := HGE.out
      go_wp2
      exact bodyPost_ret (v := .slice A' (G i 0).length c') (by simp [results, Try.results65, go_sem]) rfl ⟨A', ⟨c', rfl⟩, by first | exact HM.out.below | (rw [← hg0]; exact HM.out.below), cors_own rfl (HM.out.row_ 0 rfl)⟩
end Go.Proofs.Ytllpffkifleigaa
end
section
namespace Go.Proofs.Ytllpffkifleigaa
open Go Go.RowKit

set_option maxHeartbeats 1000000 in
set_option maxRecDepth 100000 in
theorem rlist_any (A : Option Addr) (l : List Sgt) (c : Nat) (w : World) (hmax : l.length ≤ maxLen) (hA : SgtsAt w w.heap.size A l) (hI : AllI l) :
    Calls Try.prog 59 #[.slice A l.length c] w fun e w' => e = .returned (.int .i64 (listE l)) ∧ Below w.heap.size w w' := by
  obtain ⟨r, hr⟩ : ∃ r, listE l = r := ⟨_, rfl⟩
  rw [hr]
  unfold listE at hr
  have hm : (l.length : Int) ≤ 9223372036854775807 := by unfold maxLen at hmax; omega
  by_cases h1 : 360 < l.length
  · rw [if_pos h1] at hr
    subst hr
    have h2 : (360 : Int) < (l.length : Int) := by omega
    generalize l.length = n at *
    go_enter Try.func59, Try.ntmps59
    go_wp2
    go_ret
    exact ⟨rfl, Below.refl _ _⟩
  · rw [if_neg h1] at hr
    have h2 : ¬ (360 : Int) < (l.length : Int) := by omega
    have hc := fun k (hk : k < l.length) W => rcheck_any (l.getD k sg0) W (hI _ (getD_mem hk)).1 (hI _ (getD_mem hk)).2
    have hbad1 : ∀ k, k < l.length → sgtB (l.getD k sg0) = false → badB l = true := fun k hk h => List.any_eq_true.2 ⟨_, getD_mem hk, by rw [h]; rfl⟩
    have hbad0 : (∀ k, k < l.length → sgtB (l.getD k sg0) = true) → badB l = false := fun h => List.any_eq_false.2 fun s hs => by
      obtain ⟨i, hi, rfl⟩ := idx hs
      rw [h i hi]
      simp
    have hsc : SgtsAt w w.heap.size A l := hA
    unfold SgtsAt at hsc
    unfold sgC chkE at hc
    obtain ⟨n, hn⟩ : ∃ n, l.length = n := ⟨_, rfl⟩
    rw [hn] at hc hsc hbad1 hbad0 h1 h2 hm ⊢
    have hmax2 : (n : Int) ≤ 360 := by omega
    generalize badB l = bad at *
    have HC := hide hc
    have HSC := hide hsc
    have HB1 := hide hbad1
    have HB0 := hide hbad0
    have HR := hide hr
    clear hc hsc hbad1 hbad0 hr
    clear hA hI hn hmax
    go_enter Try.func59, Try.ntmps59
    have HB := hide (Below.refl w.heap.size w)
    go_wp2_with fail
    go_loopw [3] (fun i wr => ∃ k : Nat, k ≤ n ∧ i = .int .i64 k ∧ (∀ j, j < k → sgtB (l.getD j sg0) = true) ∧ Below w.heap.size w wr) (fun i _ => n - (intOf i).toNat)
    case atStart => exact ⟨0, Nat.zero_le _, rfl, fun j h => absurd h (Nat.not_lt_zero _), HB.out⟩
    case round =>
      obtain ⟨k, hk, rfl, hno, hB⟩ := hrel
      clear HB
      have HB := hide hB
      have Hno := hide hno
      clear hB hno
      by_cases hlt : k < n
      · have hlt2 : (k : Int) < n := by omega
        obtain ⟨b, off, rfl, hb0, hcc⟩ := HSC.out (by omega)
        have hc1 := hcc k hlt
        rw [← HB.out.cell hb0, ← HB.out.cell hb0, ← HB.out.cell hb0, ← HB.out.cell hb0, ← HB.out.cell hb0] at hc1
        have ltb : b < wr.heap.size := Nat.lt_of_lt_of_le hb0 HB.out.size
        have c1 := HC.out k hlt
        have g1 := HB1.out k hlt
        obtain ⟨q, hq⟩ : ∃ r, sgtB (l.getD k sg0) = r := ⟨_, rfl⟩
        rw [hq] at g1
        simp only [hq] at c1
        have Hr := hide hq
        clear hq hcc
        obtain ⟨X, hX⟩ : ∃ X, l.getD k sg0 = X := ⟨_, rfl⟩
        rw [hX] at hc1
        simp only [hX] at c1
        obtain ⟨sx, sy, sl, slo, shi⟩ := X
        obtain ⟨q0, q1, q2, q3, q4⟩ := hc1
        simp only at q0 q1 q2 q3 q4 c1
        clear hX
        cases q with
        | false =>
          have hbt := g1 rfl
          subst hbt
          have hr2 := HR.out
          rw [if_pos rfl] at hr2
          subst hr2
          rw [if_neg (by simp)] at c1
          have C1 := hide c1
          clear c1
          clear g1
          go_wp2_with fail
          refine (C1.out _).mono ?_
          rintro e w1 ⟨rfl, hb⟩
          replace HB := hide (onward HB.out hb)
          clear hb
          go_wp2
          go_ret
          exact ⟨rfl, HB.out⟩
        | true =>
          rw [if_pos rfl] at c1
          have C1 := hide c1
          clear c1
          clear g1
          go_wp2_with fail
          refine (C1.out _).mono ?_
          rintro e w1 ⟨rfl, hb⟩
          replace HB := hide (onward HB.out hb)
          clear hb
          go_wp2_with fail
          go_roundw
          case rel => exact ⟨k + 1, hlt, by go_num, fun j hj => by
            by_cases e : j = k
            · rw [e]; exact Hr.out
            · exact Hno.out j (by omega), HB.out⟩
          case measure => simp [intOf] <;> omega
      · obtain rfl : k = n := by omega
        have hkk : ¬ ((k : Int) < k) := by omega
        have hbt := HB0.out Hno.out
        subst hbt
        have hr2 := HR.out
        rw [if_neg (by simp)] at hr2
        subst hr2
        go_wp2
        go_ret
        exact ⟨rfl, HB.out⟩
set_option maxHeartbeats 1000000 in
set_option maxRecDepth 100000 in
/-- The corners of sights that are wider by a number, by two calls. -/
theorem rcors_any (A : Option Addr) (l : List Sgt) (c : Nat) (wd : Int) (w : World) (hmax : l.length ≤ 390) (hok : ∀ s ∈ l, SgtOk s) (h0 : 0 ≤ wd) (h1 : wd ≤ 400000) (hA : AreaH w A (hvs l wd)) :
    Calls Try.prog 65 #[.slice A (4 + 2 * l.length) c] w fun e w' => ∃ A' c', e = .returned (.slice A' (rcor (hvs l wd)).length c') ∧ Below w.heap.size w w' ∧ CorsH w' A' (rcor (hvs l wd)) := by
  have h := rcorners_any A (hvs l wd) c w (by rw [hvs_len]; omega) hA (hvs_ok hok h0 h1)
  rw [hvs_len] at h
  exact h
set_option maxHeartbeats 1000000 in
set_option maxRecDepth 100000 in
theorem ragrees_any (A : Option Addr) (l : List Sgt) (c : Nat) (wd : Int) (w : World) (hmax : l.length ≤ 390) (hA : SgtsAt w w.heap.size A l) (hok : ∀ s ∈ l, SgtOk s) (h0 : 0 ≤ wd) (h1 : wd ≤ 400000) :
    Calls Try.prog 75 #[.slice A l.length c, .int .i64 wd] w fun e w' => e = .returned (.bool (agrB l wd)) ∧ Below w.heap.size w w' := by
  have hH := rhalves_any A l c wd w (by omega) hA hok h0 h1
  have hC := fun A' c' W h => rcors_any A' l c' wd W hmax hok h0 h1 h
  have hb : agrB l wd = decide (0 < (rcor (hvs l wd)).length) := by
    unfold agrB
    cases rcor (hvs l wd) <;> simp
  rw [hb]
  generalize rcor (hvs l wd) = R at *
  generalize hvs l wd = hv at *
  clear hA hok hb
  generalize l.length = n at *
  have HH := hide hH
  have HC := hide hC
  clear hH hC
  go_enter Try.func75, Try.ntmps75
  have HB := hide (Below.refl w.heap.size w)
  go_wp2_with fail
  refine HH.out.mono ?_
  rintro e w1 ⟨A1, c1, rfl, hb, ha⟩
  have HA := hide ha
  have HB2 := hide hb
  clear HB ha hb
  have HB := HB2
  clear HB2
  go_wp2_with fail
  refine (HC.out _ _ _ HA.out).mono ?_
  rintro e w2 ⟨A2, c2, rfl, hb, -⟩
  replace HB := hide (onward HB.out hb)
  clear hb HA
  by_cases h : 0 < R.length
  · have h' : (0 : Int) < R.length := by omega
    go_wp2
    go_ret
    exact ⟨by rw [decide_eq_true h]; rfl, HB.out⟩
  · have h' : ¬ (0 : Int) < R.length := by omega
    go_wp2
    go_ret
    exact ⟨by rw [decide_eq_false h]; rfl, HB.out⟩
end Go.Proofs.Ytllpffkifleigaa
end
