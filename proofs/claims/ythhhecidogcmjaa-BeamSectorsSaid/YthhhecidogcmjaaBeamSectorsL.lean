/-
  The law BeamSectors returns true: the walk.
-/
import Derived.Test.YthhhecidogcmjaaLook
namespace Go.Proofs.Ythhhecidogcmjaa
open Go Go.RowKit

theorem tmod_bd (X : Int) : -999999 ≤ Int.tmod X 1000000 ∧ Int.tmod X 1000000 ≤ 999999 := by
  rcases Int.le_total 0 X with h | h
  · rw [Int.tmod_eq_emod_of_nonneg h]; omega
  · have e : Int.tmod X 1000000 = -(-X).tmod 1000000 := by rw [Int.neg_tmod]; omega
    rw [e, Int.tmod_eq_emod_of_nonneg (show 0 ≤ -X by omega)]; omega
/-- What Find answers near the site. -/
theorem Find_near (s : ByteArray) (sx sy z r g st wd t dx dy : Int) (hs : s.size ≤ 9223372036854775807) (h0 : siteE (nameB s) sx sy z r g st wd = 0) (t1 : 0 ≤ t) (t2 : t ≤ 256) (X1 : -1000000 ≤ dx ∧ dx ≤ 1000000) (Y1 : -1000000 ≤ dy ∧ dy ≤ 1000000) (W : World) (p : Int × Int) (b : Bool) (hp : findZ r st t g dx dy = (p, b)) (hpz : b = false → p = (0, 0)) :
    Calls Try.prog 39 #[siteV s sx sy z r g st wd, .int .i64 t, .int .i64 (sx + dx), .int .i64 (sy + dy)] W fun e w' => e = .returned (.tuple #[.int .i64 p.1, .int .i64 p.2, .int .i64 (if b = true then 0 else 29)]) ∧ Below W.heap.size W w' := by
  obtain ⟨-, s1, s2, s3, s4, s5, s6, s7, s8, s9, s10, s11, s12, s13, s14⟩ := siteE_ok h0
  have h := Find_any s sx sy z r g st wd t (sx + dx) (sy + dy) W hs
  rw [h0] at h
  have e : findR 0 t r st g sx sy (sx + dx) (sy + dy) = (p, if b = true then 0 else 29) := by
    unfold findR
    rw [if_neg (by simp), if_pos (by rw [winB_iff.2 ⟨t1, t2⟩, winB_iff.2 ⟨show -4194304 ≤ sx + dx by omega, by omega⟩, winB_iff.2 ⟨show -4194304 ≤ sy + dy by omega, by omega⟩]; rfl), show sx + dx - sx = dx by omega, show sy + dy - sy = dy by omega, hp]
    cases b with
    | true => rfl
    | false => rw [hpz rfl]; rfl
  rw [e] at h
  exact h

theorem gate_step {gt k m g0 : Int} (h : g0 = if gt < k then 1 else 0) (hm : k ≠ gt) (e : m = g0) : m = if gt < k + 1 then 1 else 0 := by
  subst e; rw [h]; by_cases c : gt < k
  · rw [if_pos c, if_pos (by omega)]
  · rw [if_neg c, if_neg (by omega)]
theorem gate_hit {k m g0 : Int} (h : g0 = if k < k then 1 else 0) (e : m = g0 + 1) : m = if k < k + 1 then 1 else 0 := by
  subst e; rw [h, if_neg (by omega), if_pos (by omega)]; rfl

set_option maxHeartbeats 4000000 in
set_option maxRecDepth 100000 in
theorem BeamSectors_any (s : ByteArray) (x y z r g st wd t X Y : Int) (w : World) (hs : s.size ≤ 9223372036854775807) (X0 : -2147483648 ≤ X) (X1 : X ≤ 2147483647) (Y0 : -2147483648 ≤ Y) (Y1 : Y ≤ 2147483647) :
    Calls Try.prog 8 #[siteV s x y z r g st wd, .int .i64 t, .int .i32 X, .int .i32 Y] w fun e w' => e = .returned (.bool true) ∧ Below w.heap.size w w' := by
  have hfew := fun W => few_any s x y z r g st wd 0 0 0 0 0 W hs
  have hcs := fun W => CheckSite_any s (nameB s) x y z r g st wd W (fun W => Name_any s W hs)
  have hnear := fun h0 t1 t2 dx dy p b W X1 Y1 => Find_near s x y z r g st wd t dx dy hs h0 t1 t2 X1 Y1 W p b
  have hok := fun h0 : siteE (nameB s) x y z r g st wd = 0 => siteE_ok h0
  generalize siteE (nameB s) x y z r g st wd = er at *
  have hsl := fun W => Slant_any t W
  unfold vecE at hsl
  unfold siteV at *
  have hfd : ∀ b, decide (r ≤ 20 ∧ g ≤ 60 ∧ (0 : Int) ≤ 16 ∧ (0 : Int) ≤ 16 ∧ (s.size : Int) ≤ 20) = b → (b = true → r ≤ 20 ∧ g ≤ 60) := fun b h hb => by
    subst hb
    have := of_decide_eq_true h
    exact ⟨this.1, this.2.1⟩
  generalize decide (r ≤ 20 ∧ g ≤ 60 ∧ (0 : Int) ≤ 16 ∧ (0 : Int) ≤ 16 ∧ (s.size : Int) ≤ 20) = fb at *
  replace hfd := hfd fb rfl
  have Hfew := hide hfew
  have Hcs := hide hcs
  have Hnear := hide hnear
  have Hok := hide hok
  have Hsl := hide hsl
  clear hfew hcs hnear hok hsl
  cases fb with
  | false =>
    go_enter Try.func8, Try.ntmps8
    have HB := hide (Below.refl w.heap.size w)
    go_wp2_with fail
    refine at_world fun W hW => ?_
    have bq0 : Blk W w.heap.size 33 #[.string s, .int .i64 x, .int .i64 y, .int .i64 z, .int .i64 r, .int .i64 g, .int .i64 st, .int .i64 wd] := by rw [hW]; exact Blk.new _ _ _
    have LW : Later w W := by rw [hW]; exact ((Below.refl _ _).alloc (Nat.le_refl _) _)
    have szW : W.heap.size = w.heap.size + 1 := by rw [hW]; simp
    clear hW
    replace HB := hide (onward HB.out LW)
    have Hq := hide bq0
    clear bq0 LW szW
    refine (Hfew.out _).mono ?_
    rintro e w1 ⟨rfl, hb⟩
    replace HB := hide (onward HB.out hb)
    replace Hq := hide (blk_later Hq.out hb)
    clear hb
    go_wp2_with fail
    refine (works_any _).mono ?_
    rintro e w9 ⟨rfl, hb⟩
    replace HB := hide (onward HB.out hb)
    replace Hq := hide (blk_later Hq.out hb)
    clear hb
    go_wp2
    go_ret
    exact ⟨rfl, HB.out⟩
  | true =>
    obtain ⟨f1, f2⟩ := hfd rfl
    by_cases h0 : er = 0
    · subst h0
      obtain ⟨-, s1, s2, s3, s4, s5, s6, s7, s8, s9, s10, s11, s12, s13, s14⟩ := Hok.out rfl
      by_cases t1 : t < 0
      · go_enter Try.func8, Try.ntmps8
        have HB := hide (Below.refl w.heap.size w)
        go_wp2_with fail
        refine at_world fun W hW => ?_
        have bq0 : Blk W w.heap.size 33 #[.string s, .int .i64 x, .int .i64 y, .int .i64 z, .int .i64 r, .int .i64 g, .int .i64 st, .int .i64 wd] := by rw [hW]; exact Blk.new _ _ _
        have LW : Later w W := by rw [hW]; exact ((Below.refl _ _).alloc (Nat.le_refl _) _)
        have szW : W.heap.size = w.heap.size + 1 := by rw [hW]; simp
        clear hW
        replace HB := hide (onward HB.out LW)
        have Hq := hide bq0
        clear bq0 LW szW
        refine (Hfew.out _).mono ?_
        rintro e w1 ⟨rfl, hb⟩
        replace HB := hide (onward HB.out hb)
        replace Hq := hide (blk_later Hq.out hb)
        clear hb
        obtain ⟨q0, q1, q2, q3, q4, q5, q6, q7⟩ := Hq.out.site8
        have lts := Hq.out.lt
        go_wp2_with fail
        refine (Hcs.out _).mono ?_
        rintro e w2 ⟨rfl, hb⟩
        replace HB := hide (onward HB.out hb)
        replace Hq := hide (blk_later Hq.out hb)
        clear hb
        clear q0 q1 q2 q3 q4 q5 q6 q7 lts
        obtain ⟨q0, q1, q2, q3, q4, q5, q6, q7⟩ := Hq.out.site8
        have lts := Hq.out.lt
        go_wp2_with fail
        refine (works_any _).mono ?_
        rintro e w9 ⟨rfl, hb⟩
        replace HB := hide (onward HB.out hb)
        replace Hq := hide (blk_later Hq.out hb)
        clear hb
        go_wp2
        go_ret
        exact ⟨rfl, HB.out⟩
      by_cases t2 : 256 < t
      · go_enter Try.func8, Try.ntmps8
        have HB := hide (Below.refl w.heap.size w)
        go_wp2_with fail
        refine at_world fun W hW => ?_
        have bq0 : Blk W w.heap.size 33 #[.string s, .int .i64 x, .int .i64 y, .int .i64 z, .int .i64 r, .int .i64 g, .int .i64 st, .int .i64 wd] := by rw [hW]; exact Blk.new _ _ _
        have LW : Later w W := by rw [hW]; exact ((Below.refl _ _).alloc (Nat.le_refl _) _)
        have szW : W.heap.size = w.heap.size + 1 := by rw [hW]; simp
        clear hW
        replace HB := hide (onward HB.out LW)
        have Hq := hide bq0
        clear bq0 LW szW
        refine (Hfew.out _).mono ?_
        rintro e w1 ⟨rfl, hb⟩
        replace HB := hide (onward HB.out hb)
        replace Hq := hide (blk_later Hq.out hb)
        clear hb
        obtain ⟨q0, q1, q2, q3, q4, q5, q6, q7⟩ := Hq.out.site8
        have lts := Hq.out.lt
        go_wp2_with fail
        refine (Hcs.out _).mono ?_
        rintro e w2 ⟨rfl, hb⟩
        replace HB := hide (onward HB.out hb)
        replace Hq := hide (blk_later Hq.out hb)
        clear hb
        clear q0 q1 q2 q3 q4 q5 q6 q7 lts
        obtain ⟨q0, q1, q2, q3, q4, q5, q6, q7⟩ := Hq.out.site8
        have lts := Hq.out.lt
        go_wp2_with fail
        refine (works_any _).mono ?_
        rintro e w9 ⟨rfl, hb⟩
        replace HB := hide (onward HB.out hb)
        replace Hq := hide (blk_later Hq.out hb)
        clear hb
        go_wp2
        go_ret
        exact ⟨rfl, HB.out⟩
      have t3 : 0 ≤ t := by omega
      have t4 : t ≤ 256 := by omega
      obtain ⟨dx, hdx⟩ : ∃ d, Int.tmod X 1000000 = d := ⟨_, rfl⟩
      obtain ⟨dy, hdy⟩ : ∃ d, Int.tmod Y 1000000 = d := ⟨_, rfl⟩
      have hx := tmod_bd X
      have hy := tmod_bd Y
      rw [hdx] at hx
      rw [hdy] at hy
      obtain ⟨x1, x2⟩ := hx
      obtain ⟨y1, y2⟩ := hy
      have hsl := Hsl.out
      unfold slantR at hsl
      simp only [if_pos (winB_iff.2 ⟨show -8 ≤ t by omega, show t ≤ 264 by omega⟩)] at hsl
      unfold slantV at hsl
      simp only at hsl
      clear Hsl
      obtain ⟨k1, k2⟩ := tilt_bd (show -8 ≤ t by omega) (show t ≤ 264 by omega)
      have hbo := fun j (a : 0 ≤ j) (b : j ≤ 60) => bord_bd (st := st) (t := t) (j := j) (by omega) s12 t3 t4 a (by omega)
      have hB : ∀ j, j * st * (262144 - t * t) / (262144 + t * t) = bord st t j := fun j => rfl
      have hgate : ∀ w j, gateB st t w j = (decide (bord st t j * bord st t j ≤ w) && decide (w < bord st t (j + 1) * bord st t (j + 1))) := fun w j => rfl
      have c1 : 190000 ≤ 262144 - t * t := by omega
      have c2 : 262144 - t * t ≤ 262144 := by omega
      have d1 : 262144 ≤ 262144 + t * t := by omega
      have d2 : 262144 + t * t ≤ 400000 := by omega
      have hbo' : ∀ j, 0 ≤ j → j ≤ 60 → 0 ≤ j * st ∧ j * st ≤ 400000 ∧ 0 ≤ j * st * (262144 - t * t) ∧ j * st * (262144 - t * t) ≤ 104857600000 ∧ 0 ≤ bord st t j ∧ bord st t j ≤ 400000 := hbo
      clear hbo k1 k2
      generalize 262144 - t * t = C at *
      generalize 262144 + t * t = D at *
      generalize 1024 * t = E at *
      have wr1 : IntKind.i64.wrap (x + dx) = x + dx := IntWalk.i64_in _ (by omega)
      have wr2 : IntKind.i64.wrap (y + dy) = y + dy := IntWalk.i64_in _ (by omega)
      have Hsl := hide hsl
      have HBo := hide hB
      have Hbo := hide hbo'
      have Hgate := hide hgate
      have Hdx := hide hdx
      have Hdy := hide hdy
      clear hsl hB hbo' hgate hdx hdy
      by_cases hz : dx = 0 ∧ dy = 0
      · have hp : findZ r st t g dx dy = ((0, 0), true) := by unfold findZ; rw [if_pos hz]
        have hn := fun W => Hnear.out rfl t3 t4 dx dy (0, 0) true W ⟨by omega, by omega⟩ ⟨by omega, by omega⟩ hp (by simp)
        simp only [if_pos] at hn
        have z1 : (dx == 0) = true := by simpa using hz.1
        have z2 : (dy == 0) = true := by simpa using hz.2
        clear hz Hnear hp
        have Hn := hide hn
        have Z1 := hide z1
        have Z2 := hide z2
        clear hn z1 z2
        have hdx := Hdx.out
        have hdy := Hdy.out
        go_enter Try.func8, Try.ntmps8
        have HB := hide (Below.refl w.heap.size w)
        go_wp2_with fail
        refine at_world fun W hW => ?_
        have bq0 : Blk W w.heap.size 33 #[.string s, .int .i64 x, .int .i64 y, .int .i64 z, .int .i64 r, .int .i64 g, .int .i64 st, .int .i64 wd] := by rw [hW]; exact Blk.new _ _ _
        have LW : Later w W := by rw [hW]; exact ((Below.refl _ _).alloc (Nat.le_refl _) _)
        have szW : W.heap.size = w.heap.size + 1 := by rw [hW]; simp
        clear hW
        replace HB := hide (onward HB.out LW)
        have Hq := hide bq0
        clear bq0 LW szW
        refine (Hfew.out _).mono ?_
        rintro e w1 ⟨rfl, hb⟩
        replace HB := hide (onward HB.out hb)
        replace Hq := hide (blk_later Hq.out hb)
        clear hb
        obtain ⟨q0, q1, q2, q3, q4, q5, q6, q7⟩ := Hq.out.site8
        have lts := Hq.out.lt
        go_wp2_with fail
        refine (Hcs.out _).mono ?_
        rintro e w2 ⟨rfl, hb⟩
        replace HB := hide (onward HB.out hb)
        replace Hq := hide (blk_later Hq.out hb)
        clear hb
        clear q0 q1 q2 q3 q4 q5 q6 q7 lts
        obtain ⟨q0, q1, q2, q3, q4, q5, q6, q7⟩ := Hq.out.site8
        have lts := Hq.out.lt
        go_wp2_with fail
        refine (Hn.out _).mono ?_
        rintro e w3 ⟨rfl, hb⟩
        replace HB := hide (onward HB.out hb)
        replace Hq := hide (blk_later Hq.out hb)
        clear hb
        go_wp2_with fail
        refine (Hsl.out _).mono ?_
        rintro e w4 ⟨rfl, hb⟩
        replace HB := hide (onward HB.out hb)
        replace Hq := hide (blk_later Hq.out hb)
        clear hb
        have kk1 := Z1.out
        have kk2 := Z2.out
        go_wp2_with fail
        refine (works_any _).mono ?_
        rintro e w9 ⟨rfl, hb⟩
        replace HB := hide (onward HB.out hb)
        replace Hq := hide (blk_later Hq.out hb)
        clear hb
        go_wp2
        go_ret
        exact ⟨rfl, HB.out⟩
      · have hnz := hz
        obtain ⟨ry0, ry1, ry2⟩ := ray_spec s7 hz
        have hun : ∀ a, 0 ≤ a → a < 4 * r → a ≠ rayZ r dx dy → sectorB r a dx dy = false := fun a a0 a1 hne => by
          cases hb : sectorB r a dx dy with
          | false => rfl
          | true => exact absurd (sector_uniq s7 a0 a1 ry0 ry1 hb ry2) hne
        have hsec := fun W a (a0 : 0 ≤ a) (a1 : a < 4 * r) => sector_any r a dx dy W s7 (by omega) a0 a1 ⟨by omega, by omega⟩ ⟨by omega, by omega⟩
        have hfq := find_quarter (st := st) (t := t) (g := g) s7 hz
        have hF : findZ r st t g dx dy = if gateZ st t g (dx * dx + dy * dy) < 0 then ((0, 0), false) else ((rayZ r dx dy, gateZ st t g (dx * dx + dy * dy)), true) := by unfold findZ; rw [if_neg hz]
        have hgc := gate_cases (st := st) (t := t) (g := g) (w := dx * dx + dy * dy)
        have hgn := fun j => gate_none (st := st) (t := t) (g := g) (w := dx * dx + dy * dy) (j := j)
        have hgu := fun j k => gate_uniq (st := st) (t := t) (w := dx * dx + dy * dy) (j := j) (k := k) (by omega) t3 t4
        have hn1 := fun p b W => Hnear.out rfl t3 t4 dx dy p b W ⟨by omega, by omega⟩ ⟨by omega, by omega⟩
        have hn2 := fun p b W => Hnear.out rfl t3 t4 dy (-dx) p b W ⟨by omega, by omega⟩ ⟨by omega, by omega⟩
        rw [show y + -dx = y - dx by omega] at hn2
        have sqx := sq_pos (d := dx) ⟨by omega, by omega⟩
        have sqy := sq_pos (d := dy) ⟨by omega, by omega⟩
        obtain ⟨sx1, sx2⟩ := sqx
        obtain ⟨sy1, sy2⟩ := sqy
        have r0 : 4 * r ≠ 0 := by omega
        have r1 : 0 < 4 * r := by omega
        have rt1 := Int.emod_nonneg (rayZ r dx dy + r) r0
        have rt2 := Int.emod_lt_of_pos (rayZ r dx dy + r) r1
        simp only [Hgate.out] at hgn hgu hgc
        clear Hnear
        generalize gateZ st t g (dx * dx + dy * dy) = gt at *
        generalize rayZ r dx dy = ray at *
        generalize hv : dx * dx + dy * dy = v at *
        obtain ⟨gx, hgx, hgx0, hgx1, hgf⟩ : ∃ gx : Int, (∀ j, 0 ≤ j → j < g → (bord st t j * bord st t j ≤ v ∧ v < bord st t (j + 1) * bord st t (j + 1) ↔ j = gx)) ∧ 0 ≤ gx ∧ gx ≤ g ∧ ((gt < 0 ∧ gx = g) ∨ (¬ gt < 0 ∧ gx = gt ∧ gt < g)) := by
          rcases hgc with hg1 | ⟨hg1, hg2, hg3⟩
          · refine ⟨g, fun j j0 j1 => ⟨fun hh => ?_, fun hh => by omega⟩, by omega, by omega, .inl ⟨by omega, rfl⟩⟩
            have := hgn j hg1 j0 j1
            rw [decide_eq_true hh.1, decide_eq_true hh.2] at this
            cases this
          · refine ⟨gt, fun j j0 j1 => ⟨fun hh => hgu j gt j0 hg1 (by rw [decide_eq_true hh.1, decide_eq_true hh.2]; rfl) hg3, fun hh => ?_⟩, hg1, by omega, .inr ⟨by omega, rfl, hg2⟩⟩
            subst hh
            simpa using hg3
        clear hgn hgu hgc
        have hv' := hide hv
        rw [← hv] at hgx
        clear hv
        have Hgx := hide hgx
        have Hun := hide hun
        have Hsec := hide hsec
        have Hry := hide ry2
        clear hgx hun hsec ry2
        have hz' : dx ≠ 0 ∨ (dx = 0 ∧ dy ≠ 0) := by omega
        clear hnz hz
        by_cases hgt : gt < 0
        · rw [if_pos hgt] at hF
          have hn1 := fun W => hn1 (0, 0) false W hF (by simp)
          have hn2 := fun W => hn2 (0, 0) false W (by rw [hfq, hF]; rfl) (by simp)
          have hgx2 : gx = g := by omega
          simp only [Bool.false_eq_true, if_false] at hn1 hn2
          clear hF hfq
          have Hn := hide hn1
          have Hn2 := hide hn2
          clear hn1 hn2
          have hdx := Hdx.out
          have hdy := Hdy.out
          rcases hz' with z1 | ⟨z1, z2⟩
          · have zz : (dx == 0) = false := by simpa using z1
            have ZZ := hide zz
            clear zz
            clear z1
            go_enter Try.func8, Try.ntmps8
            have HB := hide (Below.refl w.heap.size w)
            go_wp2_with fail
            refine at_world fun W hW => ?_
            have bq0 : Blk W w.heap.size 33 #[.string s, .int .i64 x, .int .i64 y, .int .i64 z, .int .i64 r, .int .i64 g, .int .i64 st, .int .i64 wd] := by rw [hW]; exact Blk.new _ _ _
            have LW : Later w W := by rw [hW]; exact ((Below.refl _ _).alloc (Nat.le_refl _) _)
            have szW : W.heap.size = w.heap.size + 1 := by rw [hW]; simp
            clear hW
            replace HB := hide (onward HB.out LW)
            have Hq := hide bq0
            clear bq0 LW szW
            refine (Hfew.out _).mono ?_
            rintro e w1 ⟨rfl, hb⟩
            replace HB := hide (onward HB.out hb)
            replace Hq := hide (blk_later Hq.out hb)
            clear hb
            obtain ⟨q0, q1, q2, q3, q4, q5, q6, q7⟩ := Hq.out.site8
            have lts := Hq.out.lt
            go_wp2_with fail
            refine (Hcs.out _).mono ?_
            rintro e w2 ⟨rfl, hb⟩
            replace HB := hide (onward HB.out hb)
            replace Hq := hide (blk_later Hq.out hb)
            clear hb
            clear q0 q1 q2 q3 q4 q5 q6 q7 lts
            obtain ⟨q0, q1, q2, q3, q4, q5, q6, q7⟩ := Hq.out.site8
            have lts := Hq.out.lt
            go_wp2_with fail
            refine (Hn.out _).mono ?_
            rintro e w3 ⟨rfl, hb⟩
            replace HB := hide (onward HB.out hb)
            replace Hq := hide (blk_later Hq.out hb)
            clear hb
            go_wp2_with fail
            refine (Hsl.out _).mono ?_
            rintro e w4 ⟨rfl, hb⟩
            replace HB := hide (onward HB.out hb)
            replace Hq := hide (blk_later Hq.out hb)
            clear hb
            clear q0 q1 q2 q3 q4 q5 q6 q7 lts
            clear hdx hdy
            have kk := ZZ.out
            go_wp2_with fail
            go_loopw [18, 20] (fun m a wr => ∃ k m' : Int, 0 ≤ k ∧ k ≤ 4 * r ∧ a = .int .i64 k ∧ m = .int .i64 m' ∧ m' = (if ray < k then 1 else 0) ∧ Below w.heap.size w wr ∧ Blk wr w.heap.size 33 #[.string s, .int .i64 x, .int .i64 y, .int .i64 z, .int .i64 r, .int .i64 g, .int .i64 st, .int .i64 wd]) (fun _ a _ => (4 * r - intOf a).toNat)
            case atStart => exact ⟨0, 0, by omega, by omega, rfl, rfl, (if_neg (by omega)).symm, HB.out, Hq.out⟩
            case round =>
              clear HB Hq
              obtain ⟨k, m, k0, k1, rfl, rfl, hm, hbw, hbq⟩ := hrel
              have m01 : 0 ≤ m ∧ m ≤ 1 := by rw [hm]; split <;> omega
              obtain ⟨m0, m1⟩ := m01
              have HB := hide hbw
              have Hq := hide hbq
              have Hm := hide hm
              clear hbw hbq hm
              obtain ⟨q0, q1, q2, q3, q4, q5, q6, q7⟩ := Hq.out.site8
              have lts := Hq.out.lt
              by_cases hlt : k < 4 * r
              · have hsc := fun W => Hsec.out W k k0 hlt
                by_cases hk : k = ray
                · subst hk
                  rw [Hry.out] at hsc
                  have Hsc := hide hsc
                  clear hsc
                  go_wp2_with fail
                  refine (Hsc.out _).mono ?_
                  rintro e w5 ⟨rfl, hb⟩
                  replace HB := hide (onward HB.out hb)
                  replace Hq := hide (blk_later Hq.out hb)
                  clear hb
                  go_wp2
                  go_roundw
                  case rel => exact ⟨k + 1, m + 1, by omega, by omega, by go_num, by go_num, gate_hit Hm.out rfl, HB.out, Hq.out⟩
                  case measure => simp [intOf]; omega
                · rw [Hun.out k k0 hlt hk] at hsc
                  have Hsc := hide hsc
                  clear hsc
                  go_wp2_with fail
                  refine (Hsc.out _).mono ?_
                  rintro e w5 ⟨rfl, hb⟩
                  replace HB := hide (onward HB.out hb)
                  replace Hq := hide (blk_later Hq.out hb)
                  clear hb
                  go_wp2
                  go_roundw
                  case rel => exact ⟨k + 1, m, by omega, by omega, by go_num, rfl, gate_step Hm.out hk rfl, HB.out, Hq.out⟩
                  case measure => simp [intOf]; omega
              · obtain rfl : k = 4 * r := by omega
                have hm1 : m = 1 := by rw [Hm.out, if_pos (by omega)]
                subst hm1
                clear Hm
                go_wp2_with fail
                clear q0 q1 q2 q3 q4 q5 q6 q7 lts
                go_loopw [21, 22] (fun m a wr => ∃ k m' : Int, 0 ≤ k ∧ k ≤ g ∧ a = .int .i64 k ∧ m = .int .i64 m' ∧ m' = (if gx < k then 1 else 0) ∧ Below w.heap.size w wr ∧ Blk wr w.heap.size 33 #[.string s, .int .i64 x, .int .i64 y, .int .i64 z, .int .i64 r, .int .i64 g, .int .i64 st, .int .i64 wd]) (fun _ a _ => (g - intOf a).toNat)
                case atStart => exact ⟨0, 0, by omega, by omega, rfl, rfl, (if_neg (by omega)).symm, HB.out, Hq.out⟩
                case round =>
                  clear HB Hq
                  obtain ⟨k, m, k0, k1, rfl, rfl, hm, hbw, hbq⟩ := hrel
                  have m01 : 0 ≤ m ∧ m ≤ 1 := by rw [hm]; split <;> omega
                  obtain ⟨m0, m1⟩ := m01
                  have HB := hide hbw
                  have Hq := hide hbq
                  have Hm := hide hm
                  clear hbw hbq hm
                  by_cases hlt : k < g
                  · obtain ⟨b1, b2, b3, b4, b5, b6⟩ := Hbo.out k k0 (by omega)
                    obtain ⟨e1, e2, e3, e4, e5, e6⟩ := Hbo.out (k + 1) (by omega) (by omega)
                    have hlo := HBo.out k
                    have hhi := HBo.out (k + 1)
                    have hgk := Hgx.out k k0 hlt
                    generalize bord st t k = lo at *
                    generalize bord st t (k + 1) = hi at *
                    obtain ⟨sl1, sl2⟩ := mul_bdB b5 b6 b5 b6
                    obtain ⟨sh1, sh2⟩ := mul_bdB e5 e6 e5 e6
                    have D0 : D ≠ 0 := by omega
                    have D1 : 0 < D := by omega
                    have Hgk := hide hgk
                    clear hgk
                    have hk : k ≠ gx := by omega
                    by_cases g1 : lo * lo ≤ dx * dx + dy * dy
                    · have g2 : ¬ dx * dx + dy * dy < hi * hi := fun g2 => hk (Hgk.out.1 ⟨g1, g2⟩)
                      obtain ⟨q0, q1, q2, q3, q4, q5, q6, q7⟩ := Hq.out.site8
                      have lts := Hq.out.lt
                      go_wp2_with fail
                      apply wp_region_L (w0 := wr) [[], [], [], [], [], [], [], [], [], [], [], [], [], [], [], [], [], [], []] [true, true, true, true, true, true, true, true, true, true, true, true, true, true, true, true, true, true, true] [] (fun ixq y => match ixq with  | _ => undef) (fun ixq x F wq => match ixq with  | _ => True) (fun a x => a) (by kernel_rfl) (by kernel_rfl) (fun _ => rfl) [] (by kernel_rfl)
                      · intro x D hD
                        have hne := hD.some
                        have k6 := liftB hD q6 (by first | assumption | omega)
                        simp only [takeOps, Act.put, List.setIfInBounds_toArray, List.set_cons_succ, List.set_cons_zero]
                        repeat (go_big_quiet_step (fail))
                        exact wpQuiet_nil rfl
                      · exact fun _ h => absurd h (by simp)
                      · exact trivial
                      · exact trivial
                      intro xx w5 F hL hlv1
                      clear hlv1
                      clear q0 q1 q2 q3 q4 q5 q6 q7 lts
                      replace HB := hide (onward HB.out hL)
                      replace Hq := hide (blk_later Hq.out hL)
                      clear hL
                      simp only [hlo, hhi]
                      clear hlo hhi
                      go_wp2
                      go_roundw
                      case rel => exact ⟨k + 1, m, by omega, by omega, by go_num, rfl, gate_step Hm.out hk rfl, HB.out, Hq.out⟩
                      case measure => simp [intOf]; omega
                    · obtain ⟨q0, q1, q2, q3, q4, q5, q6, q7⟩ := Hq.out.site8
                      have lts := Hq.out.lt
                      go_wp2_with fail
                      apply wp_region_L (w0 := wr) [[], [], [], [], [], [], [], [], [], [], [], [], [], [], [], [], [], [], []] [true, true, true, true, true, true, true, true, true, true, true, true, true, true, true, true, true, true, true] [] (fun ixq y => match ixq with  | _ => undef) (fun ixq x F wq => match ixq with  | _ => True) (fun a x => a) (by kernel_rfl) (by kernel_rfl) (fun _ => rfl) [] (by kernel_rfl)
                      · intro x D hD
                        have hne := hD.some
                        have k6 := liftB hD q6 (by first | assumption | omega)
                        simp only [takeOps, Act.put, List.setIfInBounds_toArray, List.set_cons_succ, List.set_cons_zero]
                        repeat (go_big_quiet_step (fail))
                        exact wpQuiet_nil rfl
                      · exact fun _ h => absurd h (by simp)
                      · exact trivial
                      · exact trivial
                      intro xx w5 F hL hlv2
                      clear hlv2
                      clear q0 q1 q2 q3 q4 q5 q6 q7 lts
                      replace HB := hide (onward HB.out hL)
                      replace Hq := hide (blk_later Hq.out hL)
                      clear hL
                      simp only [hlo, hhi]
                      clear hlo hhi
                      go_wp2
                      go_roundw
                      case rel => exact ⟨k + 1, m, by omega, by omega, by go_num, rfl, gate_step Hm.out hk rfl, HB.out, Hq.out⟩
                      case measure => simp [intOf]; omega
                  · obtain rfl : k = g := by omega
                    have hm1 : m = 0 := by rw [Hm.out, if_neg (by omega)]
                    subst hm1
                    clear Hm
                    obtain ⟨q0, q1, q2, q3, q4, q5, q6, q7⟩ := Hq.out.site8
                    have lts := Hq.out.lt
                    go_wp2_with fail
                    refine (Hn2.out _).mono ?_
                    rintro e w6 ⟨rfl, hb⟩
                    replace HB := hide (onward HB.out hb)
                    replace Hq := hide (blk_later Hq.out hb)
                    clear hb
                    clear q0 q1 q2 q3 q4 q5 q6 q7 lts
                    obtain ⟨q0, q1, q2, q3, q4, q5, q6, q7⟩ := Hq.out.site8
                    have lts := Hq.out.lt
                    go_wp2_with fail
                    refine (works_any _).mono ?_
                    rintro e w9 ⟨rfl, hb⟩
                    replace HB := hide (onward HB.out hb)
                    replace Hq := hide (blk_later Hq.out hb)
                    clear hb
                    go_wp2
                    go_ret
                    exact ⟨rfl, HB.out⟩
          · have zz : (dx == 0) = true := by simpa using z1
            have zz2 : (dy == 0) = false := by simpa using z2
            have ZZ := hide zz
            have ZZ2 := hide zz2
            clear zz zz2
            clear z1 z2
            go_enter Try.func8, Try.ntmps8
            have HB := hide (Below.refl w.heap.size w)
            go_wp2_with fail
            refine at_world fun W hW => ?_
            have bq0 : Blk W w.heap.size 33 #[.string s, .int .i64 x, .int .i64 y, .int .i64 z, .int .i64 r, .int .i64 g, .int .i64 st, .int .i64 wd] := by rw [hW]; exact Blk.new _ _ _
            have LW : Later w W := by rw [hW]; exact ((Below.refl _ _).alloc (Nat.le_refl _) _)
            have szW : W.heap.size = w.heap.size + 1 := by rw [hW]; simp
            clear hW
            replace HB := hide (onward HB.out LW)
            have Hq := hide bq0
            clear bq0 LW szW
            refine (Hfew.out _).mono ?_
            rintro e w1 ⟨rfl, hb⟩
            replace HB := hide (onward HB.out hb)
            replace Hq := hide (blk_later Hq.out hb)
            clear hb
            obtain ⟨q0, q1, q2, q3, q4, q5, q6, q7⟩ := Hq.out.site8
            have lts := Hq.out.lt
            go_wp2_with fail
            refine (Hcs.out _).mono ?_
            rintro e w2 ⟨rfl, hb⟩
            replace HB := hide (onward HB.out hb)
            replace Hq := hide (blk_later Hq.out hb)
            clear hb
            clear q0 q1 q2 q3 q4 q5 q6 q7 lts
            obtain ⟨q0, q1, q2, q3, q4, q5, q6, q7⟩ := Hq.out.site8
            have lts := Hq.out.lt
            go_wp2_with fail
            refine (Hn.out _).mono ?_
            rintro e w3 ⟨rfl, hb⟩
            replace HB := hide (onward HB.out hb)
            replace Hq := hide (blk_later Hq.out hb)
            clear hb
            go_wp2_with fail
            refine (Hsl.out _).mono ?_
            rintro e w4 ⟨rfl, hb⟩
            replace HB := hide (onward HB.out hb)
            replace Hq := hide (blk_later Hq.out hb)
            clear hb
            clear q0 q1 q2 q3 q4 q5 q6 q7 lts
            clear hdx hdy
            have kk := ZZ.out
            have kk2 := ZZ2.out
            go_wp2_with fail
            go_loopw [18, 20] (fun m a wr => ∃ k m' : Int, 0 ≤ k ∧ k ≤ 4 * r ∧ a = .int .i64 k ∧ m = .int .i64 m' ∧ m' = (if ray < k then 1 else 0) ∧ Below w.heap.size w wr ∧ Blk wr w.heap.size 33 #[.string s, .int .i64 x, .int .i64 y, .int .i64 z, .int .i64 r, .int .i64 g, .int .i64 st, .int .i64 wd]) (fun _ a _ => (4 * r - intOf a).toNat)
            case atStart => exact ⟨0, 0, by omega, by omega, rfl, rfl, (if_neg (by omega)).symm, HB.out, Hq.out⟩
            case round =>
              clear HB Hq
              obtain ⟨k, m, k0, k1, rfl, rfl, hm, hbw, hbq⟩ := hrel
              have m01 : 0 ≤ m ∧ m ≤ 1 := by rw [hm]; split <;> omega
              obtain ⟨m0, m1⟩ := m01
              have HB := hide hbw
              have Hq := hide hbq
              have Hm := hide hm
              clear hbw hbq hm
              obtain ⟨q0, q1, q2, q3, q4, q5, q6, q7⟩ := Hq.out.site8
              have lts := Hq.out.lt
              by_cases hlt : k < 4 * r
              · have hsc := fun W => Hsec.out W k k0 hlt
                by_cases hk : k = ray
                · subst hk
                  rw [Hry.out] at hsc
                  have Hsc := hide hsc
                  clear hsc
                  go_wp2_with fail
                  refine (Hsc.out _).mono ?_
                  rintro e w5 ⟨rfl, hb⟩
                  replace HB := hide (onward HB.out hb)
                  replace Hq := hide (blk_later Hq.out hb)
                  clear hb
                  go_wp2
                  go_roundw
                  case rel => exact ⟨k + 1, m + 1, by omega, by omega, by go_num, by go_num, gate_hit Hm.out rfl, HB.out, Hq.out⟩
                  case measure => simp [intOf]; omega
                · rw [Hun.out k k0 hlt hk] at hsc
                  have Hsc := hide hsc
                  clear hsc
                  go_wp2_with fail
                  refine (Hsc.out _).mono ?_
                  rintro e w5 ⟨rfl, hb⟩
                  replace HB := hide (onward HB.out hb)
                  replace Hq := hide (blk_later Hq.out hb)
                  clear hb
                  go_wp2
                  go_roundw
                  case rel => exact ⟨k + 1, m, by omega, by omega, by go_num, rfl, gate_step Hm.out hk rfl, HB.out, Hq.out⟩
                  case measure => simp [intOf]; omega
              · obtain rfl : k = 4 * r := by omega
                have hm1 : m = 1 := by rw [Hm.out, if_pos (by omega)]
                subst hm1
                clear Hm
                go_wp2_with fail
                clear q0 q1 q2 q3 q4 q5 q6 q7 lts
                go_loopw [21, 22] (fun m a wr => ∃ k m' : Int, 0 ≤ k ∧ k ≤ g ∧ a = .int .i64 k ∧ m = .int .i64 m' ∧ m' = (if gx < k then 1 else 0) ∧ Below w.heap.size w wr ∧ Blk wr w.heap.size 33 #[.string s, .int .i64 x, .int .i64 y, .int .i64 z, .int .i64 r, .int .i64 g, .int .i64 st, .int .i64 wd]) (fun _ a _ => (g - intOf a).toNat)
                case atStart => exact ⟨0, 0, by omega, by omega, rfl, rfl, (if_neg (by omega)).symm, HB.out, Hq.out⟩
                case round =>
                  clear HB Hq
                  obtain ⟨k, m, k0, k1, rfl, rfl, hm, hbw, hbq⟩ := hrel
                  have m01 : 0 ≤ m ∧ m ≤ 1 := by rw [hm]; split <;> omega
                  obtain ⟨m0, m1⟩ := m01
                  have HB := hide hbw
                  have Hq := hide hbq
                  have Hm := hide hm
                  clear hbw hbq hm
                  by_cases hlt : k < g
                  · obtain ⟨b1, b2, b3, b4, b5, b6⟩ := Hbo.out k k0 (by omega)
                    obtain ⟨e1, e2, e3, e4, e5, e6⟩ := Hbo.out (k + 1) (by omega) (by omega)
                    have hlo := HBo.out k
                    have hhi := HBo.out (k + 1)
                    have hgk := Hgx.out k k0 hlt
                    generalize bord st t k = lo at *
                    generalize bord st t (k + 1) = hi at *
                    obtain ⟨sl1, sl2⟩ := mul_bdB b5 b6 b5 b6
                    obtain ⟨sh1, sh2⟩ := mul_bdB e5 e6 e5 e6
                    have D0 : D ≠ 0 := by omega
                    have D1 : 0 < D := by omega
                    have Hgk := hide hgk
                    clear hgk
                    have hk : k ≠ gx := by omega
                    by_cases g1 : lo * lo ≤ dx * dx + dy * dy
                    · have g2 : ¬ dx * dx + dy * dy < hi * hi := fun g2 => hk (Hgk.out.1 ⟨g1, g2⟩)
                      obtain ⟨q0, q1, q2, q3, q4, q5, q6, q7⟩ := Hq.out.site8
                      have lts := Hq.out.lt
                      go_wp2_with fail
                      apply wp_region_L (w0 := wr) [[], [], [], [], [], [], [], [], [], [], [], [], [], [], [], [], [], [], []] [true, true, true, true, true, true, true, true, true, true, true, true, true, true, true, true, true, true, true] [] (fun ixq y => match ixq with  | _ => undef) (fun ixq x F wq => match ixq with  | _ => True) (fun a x => a) (by kernel_rfl) (by kernel_rfl) (fun _ => rfl) [] (by kernel_rfl)
                      · intro x D hD
                        have hne := hD.some
                        have k6 := liftB hD q6 (by first | assumption | omega)
                        simp only [takeOps, Act.put, List.setIfInBounds_toArray, List.set_cons_succ, List.set_cons_zero]
                        repeat (go_big_quiet_step (fail))
                        exact wpQuiet_nil rfl
                      · exact fun _ h => absurd h (by simp)
                      · exact trivial
                      · exact trivial
                      intro xx w5 F hL hlv3
                      clear hlv3
                      clear q0 q1 q2 q3 q4 q5 q6 q7 lts
                      replace HB := hide (onward HB.out hL)
                      replace Hq := hide (blk_later Hq.out hL)
                      clear hL
                      simp only [hlo, hhi]
                      clear hlo hhi
                      go_wp2
                      go_roundw
                      case rel => exact ⟨k + 1, m, by omega, by omega, by go_num, rfl, gate_step Hm.out hk rfl, HB.out, Hq.out⟩
                      case measure => simp [intOf]; omega
                    · obtain ⟨q0, q1, q2, q3, q4, q5, q6, q7⟩ := Hq.out.site8
                      have lts := Hq.out.lt
                      go_wp2_with fail
                      apply wp_region_L (w0 := wr) [[], [], [], [], [], [], [], [], [], [], [], [], [], [], [], [], [], [], []] [true, true, true, true, true, true, true, true, true, true, true, true, true, true, true, true, true, true, true] [] (fun ixq y => match ixq with  | _ => undef) (fun ixq x F wq => match ixq with  | _ => True) (fun a x => a) (by kernel_rfl) (by kernel_rfl) (fun _ => rfl) [] (by kernel_rfl)
                      · intro x D hD
                        have hne := hD.some
                        have k6 := liftB hD q6 (by first | assumption | omega)
                        simp only [takeOps, Act.put, List.setIfInBounds_toArray, List.set_cons_succ, List.set_cons_zero]
                        repeat (go_big_quiet_step (fail))
                        exact wpQuiet_nil rfl
                      · exact fun _ h => absurd h (by simp)
                      · exact trivial
                      · exact trivial
                      intro xx w5 F hL hlv4
                      clear hlv4
                      clear q0 q1 q2 q3 q4 q5 q6 q7 lts
                      replace HB := hide (onward HB.out hL)
                      replace Hq := hide (blk_later Hq.out hL)
                      clear hL
                      simp only [hlo, hhi]
                      clear hlo hhi
                      go_wp2
                      go_roundw
                      case rel => exact ⟨k + 1, m, by omega, by omega, by go_num, rfl, gate_step Hm.out hk rfl, HB.out, Hq.out⟩
                      case measure => simp [intOf]; omega
                  · obtain rfl : k = g := by omega
                    have hm1 : m = 0 := by rw [Hm.out, if_neg (by omega)]
                    subst hm1
                    clear Hm
                    obtain ⟨q0, q1, q2, q3, q4, q5, q6, q7⟩ := Hq.out.site8
                    have lts := Hq.out.lt
                    go_wp2_with fail
                    refine (Hn2.out _).mono ?_
                    rintro e w6 ⟨rfl, hb⟩
                    replace HB := hide (onward HB.out hb)
                    replace Hq := hide (blk_later Hq.out hb)
                    clear hb
                    clear q0 q1 q2 q3 q4 q5 q6 q7 lts
                    obtain ⟨q0, q1, q2, q3, q4, q5, q6, q7⟩ := Hq.out.site8
                    have lts := Hq.out.lt
                    go_wp2_with fail
                    refine (works_any _).mono ?_
                    rintro e w9 ⟨rfl, hb⟩
                    replace HB := hide (onward HB.out hb)
                    replace Hq := hide (blk_later Hq.out hb)
                    clear hb
                    go_wp2
                    go_ret
                    exact ⟨rfl, HB.out⟩
        · rw [if_neg hgt] at hF
          have hn1 := fun W => hn1 (ray, gt) true W hF (by simp)
          have hn2 := fun W => hn2 ((ray + r) % (4 * r), gt) true W (by rw [hfq, hF]; rfl) (by simp)
          have hgx2 : gx = gt := by omega
          have hgx3 : gt < g := by omega
          simp only [if_true] at hn1 hn2
          clear hF hfq
          have Hn := hide hn1
          have Hn2 := hide hn2
          clear hn1 hn2
          have hdx := Hdx.out
          have hdy := Hdy.out
          rcases hz' with z1 | ⟨z1, z2⟩
          · have zz : (dx == 0) = false := by simpa using z1
            have ZZ := hide zz
            clear zz
            clear z1
            go_enter Try.func8, Try.ntmps8
            have HB := hide (Below.refl w.heap.size w)
            go_wp2_with fail
            refine at_world fun W hW => ?_
            have bq0 : Blk W w.heap.size 33 #[.string s, .int .i64 x, .int .i64 y, .int .i64 z, .int .i64 r, .int .i64 g, .int .i64 st, .int .i64 wd] := by rw [hW]; exact Blk.new _ _ _
            have LW : Later w W := by rw [hW]; exact ((Below.refl _ _).alloc (Nat.le_refl _) _)
            have szW : W.heap.size = w.heap.size + 1 := by rw [hW]; simp
            clear hW
            replace HB := hide (onward HB.out LW)
            have Hq := hide bq0
            clear bq0 LW szW
            refine (Hfew.out _).mono ?_
            rintro e w1 ⟨rfl, hb⟩
            replace HB := hide (onward HB.out hb)
            replace Hq := hide (blk_later Hq.out hb)
            clear hb
            obtain ⟨q0, q1, q2, q3, q4, q5, q6, q7⟩ := Hq.out.site8
            have lts := Hq.out.lt
            go_wp2_with fail
            refine (Hcs.out _).mono ?_
            rintro e w2 ⟨rfl, hb⟩
            replace HB := hide (onward HB.out hb)
            replace Hq := hide (blk_later Hq.out hb)
            clear hb
            clear q0 q1 q2 q3 q4 q5 q6 q7 lts
            obtain ⟨q0, q1, q2, q3, q4, q5, q6, q7⟩ := Hq.out.site8
            have lts := Hq.out.lt
            go_wp2_with fail
            refine (Hn.out _).mono ?_
            rintro e w3 ⟨rfl, hb⟩
            replace HB := hide (onward HB.out hb)
            replace Hq := hide (blk_later Hq.out hb)
            clear hb
            go_wp2_with fail
            refine (Hsl.out _).mono ?_
            rintro e w4 ⟨rfl, hb⟩
            replace HB := hide (onward HB.out hb)
            replace Hq := hide (blk_later Hq.out hb)
            clear hb
            clear q0 q1 q2 q3 q4 q5 q6 q7 lts
            clear hdx hdy
            have kk := ZZ.out
            go_wp2_with fail
            go_loopw [18, 20] (fun m a wr => ∃ k m' : Int, 0 ≤ k ∧ k ≤ 4 * r ∧ a = .int .i64 k ∧ m = .int .i64 m' ∧ m' = (if ray < k then 1 else 0) ∧ Below w.heap.size w wr ∧ Blk wr w.heap.size 33 #[.string s, .int .i64 x, .int .i64 y, .int .i64 z, .int .i64 r, .int .i64 g, .int .i64 st, .int .i64 wd]) (fun _ a _ => (4 * r - intOf a).toNat)
            case atStart => exact ⟨0, 0, by omega, by omega, rfl, rfl, (if_neg (by omega)).symm, HB.out, Hq.out⟩
            case round =>
              clear HB Hq
              obtain ⟨k, m, k0, k1, rfl, rfl, hm, hbw, hbq⟩ := hrel
              have m01 : 0 ≤ m ∧ m ≤ 1 := by rw [hm]; split <;> omega
              obtain ⟨m0, m1⟩ := m01
              have HB := hide hbw
              have Hq := hide hbq
              have Hm := hide hm
              clear hbw hbq hm
              obtain ⟨q0, q1, q2, q3, q4, q5, q6, q7⟩ := Hq.out.site8
              have lts := Hq.out.lt
              by_cases hlt : k < 4 * r
              · have hsc := fun W => Hsec.out W k k0 hlt
                by_cases hk : k = ray
                · subst hk
                  rw [Hry.out] at hsc
                  have Hsc := hide hsc
                  clear hsc
                  go_wp2_with fail
                  refine (Hsc.out _).mono ?_
                  rintro e w5 ⟨rfl, hb⟩
                  replace HB := hide (onward HB.out hb)
                  replace Hq := hide (blk_later Hq.out hb)
                  clear hb
                  go_wp2
                  go_roundw
                  case rel => exact ⟨k + 1, m + 1, by omega, by omega, by go_num, by go_num, gate_hit Hm.out rfl, HB.out, Hq.out⟩
                  case measure => simp [intOf]; omega
                · rw [Hun.out k k0 hlt hk] at hsc
                  have Hsc := hide hsc
                  clear hsc
                  go_wp2_with fail
                  refine (Hsc.out _).mono ?_
                  rintro e w5 ⟨rfl, hb⟩
                  replace HB := hide (onward HB.out hb)
                  replace Hq := hide (blk_later Hq.out hb)
                  clear hb
                  go_wp2
                  go_roundw
                  case rel => exact ⟨k + 1, m, by omega, by omega, by go_num, rfl, gate_step Hm.out hk rfl, HB.out, Hq.out⟩
                  case measure => simp [intOf]; omega
              · obtain rfl : k = 4 * r := by omega
                have hm1 : m = 1 := by rw [Hm.out, if_pos (by omega)]
                subst hm1
                clear Hm
                go_wp2_with fail
                clear q0 q1 q2 q3 q4 q5 q6 q7 lts
                go_loopw [21, 22] (fun m a wr => ∃ k m' : Int, 0 ≤ k ∧ k ≤ g ∧ a = .int .i64 k ∧ m = .int .i64 m' ∧ m' = (if gx < k then 1 else 0) ∧ Below w.heap.size w wr ∧ Blk wr w.heap.size 33 #[.string s, .int .i64 x, .int .i64 y, .int .i64 z, .int .i64 r, .int .i64 g, .int .i64 st, .int .i64 wd]) (fun _ a _ => (g - intOf a).toNat)
                case atStart => exact ⟨0, 0, by omega, by omega, rfl, rfl, (if_neg (by omega)).symm, HB.out, Hq.out⟩
                case round =>
                  clear HB Hq
                  obtain ⟨k, m, k0, k1, rfl, rfl, hm, hbw, hbq⟩ := hrel
                  have m01 : 0 ≤ m ∧ m ≤ 1 := by rw [hm]; split <;> omega
                  obtain ⟨m0, m1⟩ := m01
                  have HB := hide hbw
                  have Hq := hide hbq
                  have Hm := hide hm
                  clear hbw hbq hm
                  by_cases hlt : k < g
                  · obtain ⟨b1, b2, b3, b4, b5, b6⟩ := Hbo.out k k0 (by omega)
                    obtain ⟨e1, e2, e3, e4, e5, e6⟩ := Hbo.out (k + 1) (by omega) (by omega)
                    have hlo := HBo.out k
                    have hhi := HBo.out (k + 1)
                    have hgk := Hgx.out k k0 hlt
                    generalize bord st t k = lo at *
                    generalize bord st t (k + 1) = hi at *
                    obtain ⟨sl1, sl2⟩ := mul_bdB b5 b6 b5 b6
                    obtain ⟨sh1, sh2⟩ := mul_bdB e5 e6 e5 e6
                    have D0 : D ≠ 0 := by omega
                    have D1 : 0 < D := by omega
                    have Hgk := hide hgk
                    clear hgk
                    by_cases hk : k = gx
                    · obtain ⟨g1, g2⟩ := Hgk.out.2 hk
                      have hk3 : (k != gt) = false := by rw [show k = gt by omega]; simp
                      have HKX := hide hk
                      clear hk
                      obtain ⟨q0, q1, q2, q3, q4, q5, q6, q7⟩ := Hq.out.site8
                      have lts := Hq.out.lt
                      go_wp2_with fail
                      apply wp_region_L (w0 := wr) [[], [], [], [], [], [], [], [], [], [], [], [], [], [], [], [], [], [], []] [true, true, true, true, true, true, true, true, true, true, true, true, true, true, true, true, true, true, true] [] (fun ixq y => match ixq with  | _ => undef) (fun ixq x F wq => match ixq with  | _ => True) (fun a x => a) (by kernel_rfl) (by kernel_rfl) (fun _ => rfl) [] (by kernel_rfl)
                      · intro x D hD
                        have hne := hD.some
                        have k6 := liftB hD q6 (by first | assumption | omega)
                        simp only [takeOps, Act.put, List.setIfInBounds_toArray, List.set_cons_succ, List.set_cons_zero]
                        repeat (go_big_quiet_step (fail))
                        exact wpQuiet_nil rfl
                      · exact fun _ h => absurd h (by simp)
                      · exact trivial
                      · exact trivial
                      intro xx w5 F hL hlv5
                      clear hlv5
                      clear q0 q1 q2 q3 q4 q5 q6 q7 lts
                      replace HB := hide (onward HB.out hL)
                      replace Hq := hide (blk_later Hq.out hL)
                      clear hL
                      simp only [hlo, hhi]
                      clear hlo hhi
                      go_wp2
                      have hk := HKX.out
                      go_roundw
                      case rel => exact ⟨k + 1, m + 1, by omega, by omega, by go_num, by go_num, by rw [if_pos (by omega)]; have h := Hm.out; rw [if_neg (by omega)] at h; omega, HB.out, Hq.out⟩
                      case measure => simp [intOf]; omega
                    by_cases g1 : lo * lo ≤ dx * dx + dy * dy
                    · have g2 : ¬ dx * dx + dy * dy < hi * hi := fun g2 => hk (Hgk.out.1 ⟨g1, g2⟩)
                      obtain ⟨q0, q1, q2, q3, q4, q5, q6, q7⟩ := Hq.out.site8
                      have lts := Hq.out.lt
                      go_wp2_with fail
                      apply wp_region_L (w0 := wr) [[], [], [], [], [], [], [], [], [], [], [], [], [], [], [], [], [], [], []] [true, true, true, true, true, true, true, true, true, true, true, true, true, true, true, true, true, true, true] [] (fun ixq y => match ixq with  | _ => undef) (fun ixq x F wq => match ixq with  | _ => True) (fun a x => a) (by kernel_rfl) (by kernel_rfl) (fun _ => rfl) [] (by kernel_rfl)
                      · intro x D hD
                        have hne := hD.some
                        have k6 := liftB hD q6 (by first | assumption | omega)
                        simp only [takeOps, Act.put, List.setIfInBounds_toArray, List.set_cons_succ, List.set_cons_zero]
                        repeat (go_big_quiet_step (fail))
                        exact wpQuiet_nil rfl
                      · exact fun _ h => absurd h (by simp)
                      · exact trivial
                      · exact trivial
                      intro xx w5 F hL hlv6
                      clear hlv6
                      clear q0 q1 q2 q3 q4 q5 q6 q7 lts
                      replace HB := hide (onward HB.out hL)
                      replace Hq := hide (blk_later Hq.out hL)
                      clear hL
                      simp only [hlo, hhi]
                      clear hlo hhi
                      go_wp2
                      go_roundw
                      case rel => exact ⟨k + 1, m, by omega, by omega, by go_num, rfl, gate_step Hm.out hk rfl, HB.out, Hq.out⟩
                      case measure => simp [intOf]; omega
                    · obtain ⟨q0, q1, q2, q3, q4, q5, q6, q7⟩ := Hq.out.site8
                      have lts := Hq.out.lt
                      go_wp2_with fail
                      apply wp_region_L (w0 := wr) [[], [], [], [], [], [], [], [], [], [], [], [], [], [], [], [], [], [], []] [true, true, true, true, true, true, true, true, true, true, true, true, true, true, true, true, true, true, true] [] (fun ixq y => match ixq with  | _ => undef) (fun ixq x F wq => match ixq with  | _ => True) (fun a x => a) (by kernel_rfl) (by kernel_rfl) (fun _ => rfl) [] (by kernel_rfl)
                      · intro x D hD
                        have hne := hD.some
                        have k6 := liftB hD q6 (by first | assumption | omega)
                        simp only [takeOps, Act.put, List.setIfInBounds_toArray, List.set_cons_succ, List.set_cons_zero]
                        repeat (go_big_quiet_step (fail))
                        exact wpQuiet_nil rfl
                      · exact fun _ h => absurd h (by simp)
                      · exact trivial
                      · exact trivial
                      intro xx w5 F hL hlv7
                      clear hlv7
                      clear q0 q1 q2 q3 q4 q5 q6 q7 lts
                      replace HB := hide (onward HB.out hL)
                      replace Hq := hide (blk_later Hq.out hL)
                      clear hL
                      simp only [hlo, hhi]
                      clear hlo hhi
                      go_wp2
                      go_roundw
                      case rel => exact ⟨k + 1, m, by omega, by omega, by go_num, rfl, gate_step Hm.out hk rfl, HB.out, Hq.out⟩
                      case measure => simp [intOf]; omega
                  · obtain rfl : k = g := by omega
                    have hm1 : m = 1 := by rw [Hm.out, if_pos (by omega)]
                    subst hm1
                    clear Hm
                    obtain ⟨q0, q1, q2, q3, q4, q5, q6, q7⟩ := Hq.out.site8
                    have lts := Hq.out.lt
                    go_wp2_with fail
                    refine (Hn2.out _).mono ?_
                    rintro e w6 ⟨rfl, hb⟩
                    replace HB := hide (onward HB.out hb)
                    replace Hq := hide (blk_later Hq.out hb)
                    clear hb
                    clear q0 q1 q2 q3 q4 q5 q6 q7 lts
                    obtain ⟨q0, q1, q2, q3, q4, q5, q6, q7⟩ := Hq.out.site8
                    have lts := Hq.out.lt
                    go_wp2_with fail
                    refine (works_any _).mono ?_
                    rintro e w9 ⟨rfl, hb⟩
                    replace HB := hide (onward HB.out hb)
                    replace Hq := hide (blk_later Hq.out hb)
                    clear hb
                    go_wp2
                    go_ret
                    exact ⟨rfl, HB.out⟩
          · have zz : (dx == 0) = true := by simpa using z1
            have zz2 : (dy == 0) = false := by simpa using z2
            have ZZ := hide zz
            have ZZ2 := hide zz2
            clear zz zz2
            clear z1 z2
            go_enter Try.func8, Try.ntmps8
            have HB := hide (Below.refl w.heap.size w)
            go_wp2_with fail
            refine at_world fun W hW => ?_
            have bq0 : Blk W w.heap.size 33 #[.string s, .int .i64 x, .int .i64 y, .int .i64 z, .int .i64 r, .int .i64 g, .int .i64 st, .int .i64 wd] := by rw [hW]; exact Blk.new _ _ _
            have LW : Later w W := by rw [hW]; exact ((Below.refl _ _).alloc (Nat.le_refl _) _)
            have szW : W.heap.size = w.heap.size + 1 := by rw [hW]; simp
            clear hW
            replace HB := hide (onward HB.out LW)
            have Hq := hide bq0
            clear bq0 LW szW
            refine (Hfew.out _).mono ?_
            rintro e w1 ⟨rfl, hb⟩
            replace HB := hide (onward HB.out hb)
            replace Hq := hide (blk_later Hq.out hb)
            clear hb
            obtain ⟨q0, q1, q2, q3, q4, q5, q6, q7⟩ := Hq.out.site8
            have lts := Hq.out.lt
            go_wp2_with fail
            refine (Hcs.out _).mono ?_
            rintro e w2 ⟨rfl, hb⟩
            replace HB := hide (onward HB.out hb)
            replace Hq := hide (blk_later Hq.out hb)
            clear hb
            clear q0 q1 q2 q3 q4 q5 q6 q7 lts
            obtain ⟨q0, q1, q2, q3, q4, q5, q6, q7⟩ := Hq.out.site8
            have lts := Hq.out.lt
            go_wp2_with fail
            refine (Hn.out _).mono ?_
            rintro e w3 ⟨rfl, hb⟩
            replace HB := hide (onward HB.out hb)
            replace Hq := hide (blk_later Hq.out hb)
            clear hb
            go_wp2_with fail
            refine (Hsl.out _).mono ?_
            rintro e w4 ⟨rfl, hb⟩
            replace HB := hide (onward HB.out hb)
            replace Hq := hide (blk_later Hq.out hb)
            clear hb
            clear q0 q1 q2 q3 q4 q5 q6 q7 lts
            clear hdx hdy
            have kk := ZZ.out
            have kk2 := ZZ2.out
            go_wp2_with fail
            go_loopw [18, 20] (fun m a wr => ∃ k m' : Int, 0 ≤ k ∧ k ≤ 4 * r ∧ a = .int .i64 k ∧ m = .int .i64 m' ∧ m' = (if ray < k then 1 else 0) ∧ Below w.heap.size w wr ∧ Blk wr w.heap.size 33 #[.string s, .int .i64 x, .int .i64 y, .int .i64 z, .int .i64 r, .int .i64 g, .int .i64 st, .int .i64 wd]) (fun _ a _ => (4 * r - intOf a).toNat)
            case atStart => exact ⟨0, 0, by omega, by omega, rfl, rfl, (if_neg (by omega)).symm, HB.out, Hq.out⟩
            case round =>
              clear HB Hq
              obtain ⟨k, m, k0, k1, rfl, rfl, hm, hbw, hbq⟩ := hrel
              have m01 : 0 ≤ m ∧ m ≤ 1 := by rw [hm]; split <;> omega
              obtain ⟨m0, m1⟩ := m01
              have HB := hide hbw
              have Hq := hide hbq
              have Hm := hide hm
              clear hbw hbq hm
              obtain ⟨q0, q1, q2, q3, q4, q5, q6, q7⟩ := Hq.out.site8
              have lts := Hq.out.lt
              by_cases hlt : k < 4 * r
              · have hsc := fun W => Hsec.out W k k0 hlt
                by_cases hk : k = ray
                · subst hk
                  rw [Hry.out] at hsc
                  have Hsc := hide hsc
                  clear hsc
                  go_wp2_with fail
                  refine (Hsc.out _).mono ?_
                  rintro e w5 ⟨rfl, hb⟩
                  replace HB := hide (onward HB.out hb)
                  replace Hq := hide (blk_later Hq.out hb)
                  clear hb
                  go_wp2
                  go_roundw
                  case rel => exact ⟨k + 1, m + 1, by omega, by omega, by go_num, by go_num, gate_hit Hm.out rfl, HB.out, Hq.out⟩
                  case measure => simp [intOf]; omega
                · rw [Hun.out k k0 hlt hk] at hsc
                  have Hsc := hide hsc
                  clear hsc
                  go_wp2_with fail
                  refine (Hsc.out _).mono ?_
                  rintro e w5 ⟨rfl, hb⟩
                  replace HB := hide (onward HB.out hb)
                  replace Hq := hide (blk_later Hq.out hb)
                  clear hb
                  go_wp2
                  go_roundw
                  case rel => exact ⟨k + 1, m, by omega, by omega, by go_num, rfl, gate_step Hm.out hk rfl, HB.out, Hq.out⟩
                  case measure => simp [intOf]; omega
              · obtain rfl : k = 4 * r := by omega
                have hm1 : m = 1 := by rw [Hm.out, if_pos (by omega)]
                subst hm1
                clear Hm
                go_wp2_with fail
                clear q0 q1 q2 q3 q4 q5 q6 q7 lts
                go_loopw [21, 22] (fun m a wr => ∃ k m' : Int, 0 ≤ k ∧ k ≤ g ∧ a = .int .i64 k ∧ m = .int .i64 m' ∧ m' = (if gx < k then 1 else 0) ∧ Below w.heap.size w wr ∧ Blk wr w.heap.size 33 #[.string s, .int .i64 x, .int .i64 y, .int .i64 z, .int .i64 r, .int .i64 g, .int .i64 st, .int .i64 wd]) (fun _ a _ => (g - intOf a).toNat)
                case atStart => exact ⟨0, 0, by omega, by omega, rfl, rfl, (if_neg (by omega)).symm, HB.out, Hq.out⟩
                case round =>
                  clear HB Hq
                  obtain ⟨k, m, k0, k1, rfl, rfl, hm, hbw, hbq⟩ := hrel
                  have m01 : 0 ≤ m ∧ m ≤ 1 := by rw [hm]; split <;> omega
                  obtain ⟨m0, m1⟩ := m01
                  have HB := hide hbw
                  have Hq := hide hbq
                  have Hm := hide hm
                  clear hbw hbq hm
                  by_cases hlt : k < g
                  · obtain ⟨b1, b2, b3, b4, b5, b6⟩ := Hbo.out k k0 (by omega)
                    obtain ⟨e1, e2, e3, e4, e5, e6⟩ := Hbo.out (k + 1) (by omega) (by omega)
                    have hlo := HBo.out k
                    have hhi := HBo.out (k + 1)
                    have hgk := Hgx.out k k0 hlt
                    generalize bord st t k = lo at *
                    generalize bord st t (k + 1) = hi at *
                    obtain ⟨sl1, sl2⟩ := mul_bdB b5 b6 b5 b6
                    obtain ⟨sh1, sh2⟩ := mul_bdB e5 e6 e5 e6
                    have D0 : D ≠ 0 := by omega
                    have D1 : 0 < D := by omega
                    have Hgk := hide hgk
                    clear hgk
                    by_cases hk : k = gx
                    · obtain ⟨g1, g2⟩ := Hgk.out.2 hk
                      have hk3 : (k != gt) = false := by rw [show k = gt by omega]; simp
                      have HKX := hide hk
                      clear hk
                      obtain ⟨q0, q1, q2, q3, q4, q5, q6, q7⟩ := Hq.out.site8
                      have lts := Hq.out.lt
                      go_wp2_with fail
                      apply wp_region_L (w0 := wr) [[], [], [], [], [], [], [], [], [], [], [], [], [], [], [], [], [], [], []] [true, true, true, true, true, true, true, true, true, true, true, true, true, true, true, true, true, true, true] [] (fun ixq y => match ixq with  | _ => undef) (fun ixq x F wq => match ixq with  | _ => True) (fun a x => a) (by kernel_rfl) (by kernel_rfl) (fun _ => rfl) [] (by kernel_rfl)
                      · intro x D hD
                        have hne := hD.some
                        have k6 := liftB hD q6 (by first | assumption | omega)
                        simp only [takeOps, Act.put, List.setIfInBounds_toArray, List.set_cons_succ, List.set_cons_zero]
                        repeat (go_big_quiet_step (fail))
                        exact wpQuiet_nil rfl
                      · exact fun _ h => absurd h (by simp)
                      · exact trivial
                      · exact trivial
                      intro xx w5 F hL hlv8
                      clear hlv8
                      clear q0 q1 q2 q3 q4 q5 q6 q7 lts
                      replace HB := hide (onward HB.out hL)
                      replace Hq := hide (blk_later Hq.out hL)
                      clear hL
                      simp only [hlo, hhi]
                      clear hlo hhi
                      go_wp2
                      have hk := HKX.out
                      go_roundw
                      case rel => exact ⟨k + 1, m + 1, by omega, by omega, by go_num, by go_num, by rw [if_pos (by omega)]; have h := Hm.out; rw [if_neg (by omega)] at h; omega, HB.out, Hq.out⟩
                      case measure => simp [intOf]; omega
                    by_cases g1 : lo * lo ≤ dx * dx + dy * dy
                    · have g2 : ¬ dx * dx + dy * dy < hi * hi := fun g2 => hk (Hgk.out.1 ⟨g1, g2⟩)
                      obtain ⟨q0, q1, q2, q3, q4, q5, q6, q7⟩ := Hq.out.site8
                      have lts := Hq.out.lt
                      go_wp2_with fail
                      apply wp_region_L (w0 := wr) [[], [], [], [], [], [], [], [], [], [], [], [], [], [], [], [], [], [], []] [true, true, true, true, true, true, true, true, true, true, true, true, true, true, true, true, true, true, true] [] (fun ixq y => match ixq with  | _ => undef) (fun ixq x F wq => match ixq with  | _ => True) (fun a x => a) (by kernel_rfl) (by kernel_rfl) (fun _ => rfl) [] (by kernel_rfl)
                      · intro x D hD
                        have hne := hD.some
                        have k6 := liftB hD q6 (by first | assumption | omega)
                        simp only [takeOps, Act.put, List.setIfInBounds_toArray, List.set_cons_succ, List.set_cons_zero]
                        repeat (go_big_quiet_step (fail))
                        exact wpQuiet_nil rfl
                      · exact fun _ h => absurd h (by simp)
                      · exact trivial
                      · exact trivial
                      intro xx w5 F hL hlv9
                      clear hlv9
                      clear q0 q1 q2 q3 q4 q5 q6 q7 lts
                      replace HB := hide (onward HB.out hL)
                      replace Hq := hide (blk_later Hq.out hL)
                      clear hL
                      simp only [hlo, hhi]
                      clear hlo hhi
                      go_wp2
                      go_roundw
                      case rel => exact ⟨k + 1, m, by omega, by omega, by go_num, rfl, gate_step Hm.out hk rfl, HB.out, Hq.out⟩
                      case measure => simp [intOf]; omega
                    · obtain ⟨q0, q1, q2, q3, q4, q5, q6, q7⟩ := Hq.out.site8
                      have lts := Hq.out.lt
                      go_wp2_with fail
                      apply wp_region_L (w0 := wr) [[], [], [], [], [], [], [], [], [], [], [], [], [], [], [], [], [], [], []] [true, true, true, true, true, true, true, true, true, true, true, true, true, true, true, true, true, true, true] [] (fun ixq y => match ixq with  | _ => undef) (fun ixq x F wq => match ixq with  | _ => True) (fun a x => a) (by kernel_rfl) (by kernel_rfl) (fun _ => rfl) [] (by kernel_rfl)
                      · intro x D hD
                        have hne := hD.some
                        have k6 := liftB hD q6 (by first | assumption | omega)
                        simp only [takeOps, Act.put, List.setIfInBounds_toArray, List.set_cons_succ, List.set_cons_zero]
                        repeat (go_big_quiet_step (fail))
                        exact wpQuiet_nil rfl
                      · exact fun _ h => absurd h (by simp)
                      · exact trivial
                      · exact trivial
                      intro xx w5 F hL hlv10
                      clear hlv10
                      clear q0 q1 q2 q3 q4 q5 q6 q7 lts
                      replace HB := hide (onward HB.out hL)
                      replace Hq := hide (blk_later Hq.out hL)
                      clear hL
                      simp only [hlo, hhi]
                      clear hlo hhi
                      go_wp2
                      go_roundw
                      case rel => exact ⟨k + 1, m, by omega, by omega, by go_num, rfl, gate_step Hm.out hk rfl, HB.out, Hq.out⟩
                      case measure => simp [intOf]; omega
                  · obtain rfl : k = g := by omega
                    have hm1 : m = 1 := by rw [Hm.out, if_pos (by omega)]
                    subst hm1
                    clear Hm
                    obtain ⟨q0, q1, q2, q3, q4, q5, q6, q7⟩ := Hq.out.site8
                    have lts := Hq.out.lt
                    go_wp2_with fail
                    refine (Hn2.out _).mono ?_
                    rintro e w6 ⟨rfl, hb⟩
                    replace HB := hide (onward HB.out hb)
                    replace Hq := hide (blk_later Hq.out hb)
                    clear hb
                    clear q0 q1 q2 q3 q4 q5 q6 q7 lts
                    obtain ⟨q0, q1, q2, q3, q4, q5, q6, q7⟩ := Hq.out.site8
                    have lts := Hq.out.lt
                    go_wp2_with fail
                    refine (works_any _).mono ?_
                    rintro e w9 ⟨rfl, hb⟩
                    replace HB := hide (onward HB.out hb)
                    replace Hq := hide (blk_later Hq.out hb)
                    clear hb
                    go_wp2
                    go_ret
                    exact ⟨rfl, HB.out⟩
    · have h00 : (er != 0) = true := by simpa [bne] using h0
      go_enter Try.func8, Try.ntmps8
      have HB := hide (Below.refl w.heap.size w)
      go_wp2_with fail
      refine at_world fun W hW => ?_
      have bq0 : Blk W w.heap.size 33 #[.string s, .int .i64 x, .int .i64 y, .int .i64 z, .int .i64 r, .int .i64 g, .int .i64 st, .int .i64 wd] := by rw [hW]; exact Blk.new _ _ _
      have LW : Later w W := by rw [hW]; exact ((Below.refl _ _).alloc (Nat.le_refl _) _)
      have szW : W.heap.size = w.heap.size + 1 := by rw [hW]; simp
      clear hW
      replace HB := hide (onward HB.out LW)
      have Hq := hide bq0
      clear bq0 LW szW
      refine (Hfew.out _).mono ?_
      rintro e w1 ⟨rfl, hb⟩
      replace HB := hide (onward HB.out hb)
      replace Hq := hide (blk_later Hq.out hb)
      clear hb
      obtain ⟨q0, q1, q2, q3, q4, q5, q6, q7⟩ := Hq.out.site8
      have lts := Hq.out.lt
      go_wp2_with fail
      refine (Hcs.out _).mono ?_
      rintro e w2 ⟨rfl, hb⟩
      replace HB := hide (onward HB.out hb)
      replace Hq := hide (blk_later Hq.out hb)
      clear hb
      go_wp2_with fail
      refine (works_any _).mono ?_
      rintro e w9 ⟨rfl, hb⟩
      replace HB := hide (onward HB.out hb)
      replace Hq := hide (blk_later Hq.out hb)
      clear hb
      go_wp2
      go_ret
      exact ⟨rfl, HB.out⟩
end Go.Proofs.Ythhhecidogcmjaa
