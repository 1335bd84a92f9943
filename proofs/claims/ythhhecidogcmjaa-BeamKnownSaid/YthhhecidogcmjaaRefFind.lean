/-
  The reference's Find.
-/
import Derived.Test.YthhhecidogcmjaaRefPlaces2
namespace Go.Proofs.Ythhhecidogcmjaa
open Go Go.RowKit

set_option maxHeartbeats 2000000 in
set_option maxRecDepth 100000 in
theorem RefFind_any (s : ByteArray) (sx sy z r g st wd t x y : Int) (w : World) (hs : s.size ≤ 9223372036854775807) :
    Calls Try.prog 48 #[siteV s sx sy z r g st wd, .int .i64 t, .int .i64 x, .int .i64 y] w fun e w' => e = .returned (twoE (findR (siteE (nameB s) sx sy z r g st wd) t r st g sx sy x y)) ∧ Below w.heap.size w w' := by
  have hcs := fun W => RefCheckSite_any s sx sy z r g st wd W hs
  have hR : ∀ e, siteE (nameB s) sx sy z r g st wd = e → findR (siteE (nameB s) sx sy z r g st wd) t r st g sx sy x y = if e ≠ 0 then ((0, 0), e) else if (winB t 0 256 && winB x (-4194304) 4194304 && winB y (-4194304) 4194304) = true then (if (findZ r st t g (x - sx) (y - sy)).2 = true then ((findZ r st t g (x - sx) (y - sy)).1, 0) else ((0, 0), 29)) else ((0, 0), 3) := fun e he => by rw [he]; rfl
  obtain ⟨er, her⟩ : ∃ e, siteE (nameB s) sx sy z r g st wd = e := ⟨_, rfl⟩
  replace hR := hR er her
  have hok := fun h : er = 0 => siteE_ok (her.trans h)
  generalize findR (siteE (nameB s) sx sy z r g st wd) t r st g sx sy x y = res at *
  rw [her] at hcs
  clear her
  unfold siteV at *
  have Hcs := hide hcs
  have Hok := hide hok
  clear hcs hok
  by_cases h0 : er = 0
  · subst h0
    obtain ⟨-, s1, s2, s3, s4, s5, s6, s7, s8, s9, s10, s11, s12, s13, s14⟩ := Hok.out rfl
    rw [if_neg (by simp)] at hR
    by_cases g1 : winB t 0 256 = true
    · obtain ⟨t1, t2⟩ := winB_iff.1 g1
      by_cases g2 : winB x (-4194304) 4194304 = true
      · obtain ⟨t3, t4⟩ := winB_iff.1 g2
        by_cases g3 : winB y (-4194304) 4194304 = true
        · obtain ⟨t5, t6⟩ := winB_iff.1 g3
          rw [if_pos (by rw [g1, g2, g3]; rfl)] at hR
          have x1 : -5300000 ≤ x - sx := by omega
          have x2 : x - sx ≤ 5300000 := by omega
          have y1 : -5300000 ≤ y - sy := by omega
          have y2 : y - sy ≤ 5300000 := by omega
          have hbord := fun W j (a : 0 ≤ j) (b : j ≤ 200) => Border_any s sx sy z r g st wd t j W (by omega) (by omega) t1 t2 a b
          have hbo := fun j (a : 0 ≤ j) (b : j ≤ 200) => bord_bd (st := st) (t := t) (j := j) (by omega) s12 t1 t2 a b
          have hbo' : ∀ j, 0 ≤ j → j ≤ 200 → 0 ≤ bord st t j ∧ bord st t j ≤ 400000 := fun j a b => (hbo j a b).2.2.2.2
          clear hbo
          unfold siteV at hbord
          have X1 : -5300000 ≤ x - sx ∧ x - sx ≤ 5300000 := ⟨x1, x2⟩
          have Y1 : -5300000 ≤ y - sy ∧ y - sy ≤ 5300000 := ⟨y1, y2⟩
          obtain ⟨dx, hdx⟩ : ∃ d, x - sx = d := ⟨_, rfl⟩
          obtain ⟨dy, hdy⟩ := (⟨_, rfl⟩ : ∃ d, y - sy = d)
          rw [hdx, hdy] at hR
          rw [hdx] at X1
          rw [hdy] at Y1
          obtain ⟨u1, u2⟩ := sq_pos X1
          obtain ⟨v1, v2⟩ := sq_pos Y1
          have Hbd := hide hbord
          have Hbo := hide hbo'
          have Hdx := hide hdx
          have Hdy := hide hdy
          clear hbord hbo' hdx hdy
          by_cases hz : dx = 0 ∧ dy = 0
          · have hF : findZ r st t g dx dy = ((0, 0), true) := by unfold findZ; rw [if_pos hz]
            rw [hF, if_pos rfl] at hR
            have z1 : (dx == 0) = true := by simpa using hz.1
            have z2 : (dy == 0) = true := by simpa using hz.2
            clear hz hF
            have HR := hide hR
            have Z1 := hide z1
            have Z2 := hide z2
            clear hR z1 z2
            go_enter Try.func48, Try.ntmps48
            have HB := hide (Below.refl w.heap.size w)
            go_wp2_with fail
            refine at_world fun W hW => ?_
            have bq0 : Blk W w.heap.size 33 #[.string s, .int .i64 sx, .int .i64 sy, .int .i64 z, .int .i64 r, .int .i64 g, .int .i64 st, .int .i64 wd] := by rw [hW]; exact Blk.new _ _ _
            have LW : Later w W := by rw [hW]; exact ((Below.refl _ _).alloc (Nat.le_refl _) _)
            have szW : W.heap.size = w.heap.size + 1 := by rw [hW]; simp
            clear hW
            replace HB := hide (onward HB.out LW)
            have Hq := hide bq0
            clear bq0 LW szW
            refine (Hcs.out _).mono ?_
            rintro e w1 ⟨rfl, hb⟩
            replace HB := hide (onward HB.out hb)
            replace Hq := hide (blk_later Hq.out hb)
            clear hb
            obtain ⟨q0, q1, q2, q3, q4, q5, q6, q7⟩ := Hq.out.site8
            have lts := Hq.out.lt
            go_wp2_with fail
            refine (In_any _ _ _ _).mono ?_
            rintro e w' ⟨rfl, rfl⟩
            rw [g1]
            go_wp2_with fail
            refine (In_any _ _ _ _).mono ?_
            rintro e w' ⟨rfl, rfl⟩
            rw [g2]
            go_wp2_with fail
            refine (In_any _ _ _ _).mono ?_
            rintro e w' ⟨rfl, rfl⟩
            rw [g3]
            clear g1 g2 g3
            go_wp2_with fail
            apply wp_region_L (w0 := w1) [[], [], [], [], [], [], [], [], [], []] [true, true, true, true, true, true, true, true, true, true] [] (fun ixq y => match ixq with  | _ => undef) (fun ixq x F wq => match ixq with  | _ => True) (fun a x => a) (by kernel_rfl) (by kernel_rfl) (fun _ => rfl) [] (by kernel_rfl)
            · intro x D hD
              have hne := hD.some
              have k1 := liftB hD q1 (by first | assumption | omega)
              have k2 := liftB hD q2 (by first | assumption | omega)
              simp only [takeOps, Act.put, List.setIfInBounds_toArray, List.set_cons_succ, List.set_cons_zero]
              repeat (go_big_quiet_step (fail))
              exact wpQuiet_nil rfl
            · exact fun _ h => absurd h (by simp)
            · exact trivial
            · exact trivial
            intro xx w2 F hL hlv1
            clear hlv1
            clear q0 q1 q2 q3 q4 q5 q6 q7 lts
            replace HB := hide (onward HB.out hL)
            replace Hq := hide (blk_later Hq.out hL)
            clear hL
            simp only [Hdx.out, Hdy.out]
            have kk1 := Z1.out
            have kk2 := Z2.out
            go_wp2
            refine bodyPost_ret (v := twoE res) (by rw [HR.out]; simp [twoE, results, Try.results48, go_sem]) rfl ⟨rfl, HB.out⟩
          · obtain ⟨ry0, ry1, ry2⟩ := ray_spec s7 hz
            have hun : ∀ a, 0 ≤ a → a < 4 * r → a ≠ rayZ r dx dy → sectorB r a dx dy = false := fun a a0 a1 hne => by
              cases hb : sectorB r a dx dy with
              | false => rfl
              | true => exact absurd (sector_uniq s7 a0 a1 ry0 ry1 hb ry2) hne
            have hsec := fun W a (a0 : 0 ≤ a) (a1 : a < 4 * r) => RefSector_any r a dx dy W s7 (by omega) a0 a1 ⟨by omega, by omega⟩ ⟨by omega, by omega⟩
            have hF : findZ r st t g dx dy = if gateZ st t g (dx * dx + dy * dy) < 0 then ((0, 0), false) else ((rayZ r dx dy, gateZ st t g (dx * dx + dy * dy)), true) := by unfold findZ; rw [if_neg hz]
            have hgc := gate_cases (st := st) (t := t) (g := g) (w := dx * dx + dy * dy)
            have hgn := fun j => gate_none (st := st) (t := t) (g := g) (w := dx * dx + dy * dy) (j := j)
            have hgu := fun j k => gate_uniq (st := st) (t := t) (w := dx * dx + dy * dy) (j := j) (k := k) (by omega) t1 t2
            have hgate : ∀ w j, gateB st t w j = (decide (bord st t j * bord st t j ≤ w) && decide (w < bord st t (j + 1) * bord st t (j + 1))) := fun w j => rfl
            simp only [hgate] at hgn hgu hgc
            rw [hF] at hR
            clear hF hgate
            generalize gateZ st t g (dx * dx + dy * dy) = gt at *
            generalize rayZ r dx dy = ray at *
            generalize hv : dx * dx + dy * dy = v at *
            obtain ⟨gx, hgx, hgx0, hgx1, hgf⟩ : ∃ gx : Int, (∀ j, 0 ≤ j → j < g → (bord st t j * bord st t j ≤ v ∧ v < bord st t (j + 1) * bord st t (j + 1) ↔ j = gx)) ∧ 0 ≤ gx ∧ gx ≤ g ∧ ((gt < 0 ∧ gx = g) ∨ (¬ gt < 0 ∧ gx = gt ∧ gt < g)) := by
              rcases hgc with hg1 | ⟨hg1, hg2, hg3⟩
              · refine ⟨g, fun j j0 j1 => ⟨fun hh => ?_, fun hh => by omega⟩, by omega, by omega, .inl ⟨by omega, rfl⟩⟩
                have := hgn j hg1 j0 j1
                rw [decide_eq_true hh.1, decide_eq_true hh.2] at this
                cases this
              · refine ⟨gt, fun j j0 j1 => ⟨fun hh => hgu j gt j0 hg1 (by rw [decide_eq_true hh.1, decide_eq_true hh.2]; rfl) hg3, fun hh => ?_⟩, hg1, by omega, .inr ⟨by omega, rfl, hg2⟩⟩
                subst hh
                simpa using hg3
            clear hgn hgu hgc
            rw [← hv] at hgx
            clear hv
            have hz' : dx ≠ 0 ∨ (dx = 0 ∧ dy ≠ 0) := by omega
            have hR1 : gx = g → res = ((0, 0), 29) := fun h => by rw [hR, if_pos (show gt < 0 by omega)]; rfl
            have hR2 : gx < g → res = ((ray, gx), 0) := fun h => by rw [hR, if_neg (show ¬ gt < 0 by omega), show gx = gt by omega]; rfl
            clear hR hgf hz
            have Hgx := hide hgx
            have Hun := hide hun
            have Hsec := hide hsec
            have Hry := hide ry2
            have HR1 := hide hR1
            have HR2 := hide hR2
            clear hgx hun hsec ry2 hR1 hR2
            rcases hz' with z1 | ⟨z1, z2⟩
            · have zz : (dx == 0) = false := by simpa using z1
              have ZZ := hide zz
              clear zz
              clear z1
              go_enter Try.func48, Try.ntmps48
              have HB := hide (Below.refl w.heap.size w)
              go_wp2_with fail
              refine at_world fun W hW => ?_
              have bq0 : Blk W w.heap.size 33 #[.string s, .int .i64 sx, .int .i64 sy, .int .i64 z, .int .i64 r, .int .i64 g, .int .i64 st, .int .i64 wd] := by rw [hW]; exact Blk.new _ _ _
              have LW : Later w W := by rw [hW]; exact ((Below.refl _ _).alloc (Nat.le_refl _) _)
              have szW : W.heap.size = w.heap.size + 1 := by rw [hW]; simp
              clear hW
              replace HB := hide (onward HB.out LW)
              have Hq := hide bq0
              clear bq0 LW szW
              refine (Hcs.out _).mono ?_
              rintro e w1 ⟨rfl, hb⟩
              replace HB := hide (onward HB.out hb)
              replace Hq := hide (blk_later Hq.out hb)
              clear hb
              obtain ⟨q0, q1, q2, q3, q4, q5, q6, q7⟩ := Hq.out.site8
              have lts := Hq.out.lt
              go_wp2_with fail
              refine (In_any _ _ _ _).mono ?_
              rintro e w' ⟨rfl, rfl⟩
              rw [g1]
              go_wp2_with fail
              refine (In_any _ _ _ _).mono ?_
              rintro e w' ⟨rfl, rfl⟩
              rw [g2]
              go_wp2_with fail
              refine (In_any _ _ _ _).mono ?_
              rintro e w' ⟨rfl, rfl⟩
              rw [g3]
              clear g1 g2 g3
              go_wp2_with fail
              apply wp_region_L (w0 := w1) [[], [], [], [], [], [], [], [], [], []] [true, true, true, true, true, true, true, true, true, true] [] (fun ixq y => match ixq with  | _ => undef) (fun ixq x F wq => match ixq with  | _ => True) (fun a x => a) (by kernel_rfl) (by kernel_rfl) (fun _ => rfl) [] (by kernel_rfl)
              · intro x D hD
                have hne := hD.some
                have k1 := liftB hD q1 (by first | assumption | omega)
                have k2 := liftB hD q2 (by first | assumption | omega)
                simp only [takeOps, Act.put, List.setIfInBounds_toArray, List.set_cons_succ, List.set_cons_zero]
                repeat (go_big_quiet_step (fail))
                exact wpQuiet_nil rfl
              · exact fun _ h => absurd h (by simp)
              · exact trivial
              · exact trivial
              intro xx w2 F hL hlv2
              clear hlv2
              clear q0 q1 q2 q3 q4 q5 q6 q7 lts
              replace HB := hide (onward HB.out hL)
              replace Hq := hide (blk_later Hq.out hL)
              clear hL
              simp only [Hdx.out, Hdy.out]
              have kk := ZZ.out
              go_wp2_with fail
              go_loopw [15] (fun a wr => ∃ k : Int, 0 ≤ k ∧ k ≤ gx ∧ a = .int .i64 k ∧ Below w.heap.size w wr ∧ Blk wr w.heap.size 33 #[.string s, .int .i64 sx, .int .i64 sy, .int .i64 z, .int .i64 r, .int .i64 g, .int .i64 st, .int .i64 wd]) (fun a _ => (g - intOf a).toNat)
              case atStart => exact ⟨0, by omega, by omega, rfl, HB.out, Hq.out⟩
              case round =>
                clear HB Hq
                obtain ⟨k, k0, k1, rfl, hbw, hbq⟩ := hrel
                have HB := hide hbw
                have Hq := hide hbq
                clear hbw hbq
                by_cases hlt : k < g
                · obtain ⟨b5, b6⟩ := Hbo.out k k0 (by omega)
                  obtain ⟨e5, e6⟩ := Hbo.out (k + 1) (by omega) (by omega)
                  have hc1 := fun W => Hbd.out W k k0 (by omega)
                  have hc2 := fun W => Hbd.out W (k + 1) (by omega) (by omega)
                  have hgk := Hgx.out k k0 hlt
                  generalize bord st t k = lo at *
                  generalize bord st t (k + 1) = hi at *
                  obtain ⟨sl1, sl2⟩ := mul_bdB b5 b6 b5 b6
                  obtain ⟨sh1, sh2⟩ := mul_bdB e5 e6 e5 e6
                  have Hgk := hide hgk
                  have C1 := hide hc1
                  have C2 := hide hc2
                  clear hgk hc1 hc2
                  obtain ⟨q0, q1, q2, q3, q4, q5, q6, q7⟩ := Hq.out.site8
                  have lts := Hq.out.lt
                  go_wp2_with fail
                  apply wp_region_L (w0 := wr) [[], [], [], [], [], [], [], [], [], [], []] [true, true, true, true, true, true, true, true, true, true, true] [] (fun ixq y => match ixq with  | _ => undef) (fun ixq x F wq => match ixq with  | _ => True) (fun a x => a) (by kernel_rfl) (by kernel_rfl) (fun _ => rfl) [67, 72] (by kernel_rfl)
                  · intro x D hD
                    have hne := hD.some
                    have k0 := liftB hD q0 (by first | assumption | omega)
                    have k1 := liftB hD q1 (by first | assumption | omega)
                    have k2 := liftB hD q2 (by first | assumption | omega)
                    have k3 := liftB hD q3 (by first | assumption | omega)
                    have k4 := liftB hD q4 (by first | assumption | omega)
                    have k5 := liftB hD q5 (by first | assumption | omega)
                    have k6 := liftB hD q6 (by first | assumption | omega)
                    have k7 := liftB hD q7 (by first | assumption | omega)
                    simp only [takeOps, Act.put, List.setIfInBounds_toArray, List.set_cons_succ, List.set_cons_zero]
                    repeat (go_big_quiet_step ((go_at_call 79; first | (with_reducible exact calls_later hD _ (C1.out _)) | (with_reducible exact calls_later hD _ (C2.out _)))))
                    exact wpQuiet_nil rfl
                  · intro d hd x x'
                    simp only [List.mem_cons, List.not_mem_nil, or_false] at hd
                    rcases hd with rfl | rfl
                    all_goals rfl
                  · exact trivial
                  · exact trivial
                  intro xx w5 F hL hlv3
                  clear hlv3
                  clear q0 q1 q2 q3 q4 q5 q6 q7 lts
                  replace HB := hide (onward HB.out hL)
                  replace Hq := hide (blk_later Hq.out hL)
                  clear hL
                  by_cases hk : k = gx
                  · obtain ⟨g1, g2⟩ := Hgk.out.2 hk
                    have HK := hide hk
                    have hkg : gx < g := by omega
                    clear hk
                    go_wp2_with fail
                    go_loopw [18] (fun a wr => ∃ c : Int, 0 ≤ c ∧ c ≤ ray ∧ a = .int .i64 c ∧ Below w.heap.size w wr ∧ Blk wr w.heap.size 33 #[.string s, .int .i64 sx, .int .i64 sy, .int .i64 z, .int .i64 r, .int .i64 g, .int .i64 st, .int .i64 wd]) (fun a _ => (4 * r - intOf a).toNat)
                    case atStart => exact ⟨0, by omega, by omega, rfl, HB.out, Hq.out⟩
                    case round =>
                      clear HB Hq
                      obtain ⟨c, cc0, cc1, rfl, hbw, hbq⟩ := hrel
                      have HB := hide hbw
                      have Hq := hide hbq
                      clear hbw hbq
                      obtain ⟨q0, q1, q2, q3, q4, q5, q6, q7⟩ := Hq.out.site8
                      have lts := Hq.out.lt
                      have hlt2 : c < 4 * r := by omega
                      have hsc := fun W => Hsec.out W c cc0 hlt2
                      by_cases hray : c = ray
                      · rw [show sectorB r c dx dy = true by rw [hray]; exact Hry.out] at hsc
                        have hrr : res = ((c, k), 0) := by rw [HR2.out hkg, hray, HK.out]
                        clear hray
                        have Hsc := hide hsc
                        have Hrr := hide hrr
                        clear hsc hrr
                        go_wp2_with fail
                        refine (Hsc.out _).mono ?_
                        rintro e w' ⟨rfl, rfl⟩
                        go_wp2
                        refine bodyPost_ret (v := twoE res) (by rw [Hrr.out]; simp [twoE, results, Try.results48, go_sem]) rfl ⟨rfl, HB.out⟩
                      · rw [Hun.out c cc0 hlt2 hray] at hsc
                        have Hsc := hide hsc
                        clear hsc
                        go_wp2_with fail
                        refine (Hsc.out _).mono ?_
                        rintro e w' ⟨rfl, rfl⟩
                        go_wp2
                        go_roundw
                        case rel => exact ⟨c + 1, by omega, by omega, by go_num, HB.out, Hq.out⟩
                        case measure => simp [intOf]; omega
                  have hk2 : k < gx := by omega
                  by_cases g1 : lo * lo ≤ dx * dx + dy * dy
                  · have g2 : ¬ dx * dx + dy * dy < hi * hi := fun g2 => hk (Hgk.out.1 ⟨g1, g2⟩)
                    go_wp2
                    go_roundw
                    case rel => exact ⟨k + 1, by omega, by omega, by go_num, HB.out, Hq.out⟩
                    case measure => simp [intOf]; omega
                  · go_wp2
                    go_roundw
                    case rel => exact ⟨k + 1, by omega, by omega, by go_num, HB.out, Hq.out⟩
                    case measure => simp [intOf]; omega
                · obtain rfl : k = g := by omega
                  have hrr := HR1.out (by omega)
                  have Hrr := hide hrr
                  clear hrr
                  obtain ⟨q0, q1, q2, q3, q4, q5, q6, q7⟩ := Hq.out.site8
                  have lts := Hq.out.lt
                  go_wp2
                  refine bodyPost_ret (v := twoE res) (by rw [Hrr.out]; simp [twoE, results, Try.results48, go_sem]) rfl ⟨rfl, HB.out⟩
            · have zz : (dx == 0) = true := by simpa using z1
              have zz2 : (dy == 0) = false := by simpa using z2
              have ZZ := hide zz
              have ZZ2 := hide zz2
              clear zz zz2
              clear z1 z2
              go_enter Try.func48, Try.ntmps48
              have HB := hide (Below.refl w.heap.size w)
              go_wp2_with fail
              refine at_world fun W hW => ?_
              have bq0 : Blk W w.heap.size 33 #[.string s, .int .i64 sx, .int .i64 sy, .int .i64 z, .int .i64 r, .int .i64 g, .int .i64 st, .int .i64 wd] := by rw [hW]; exact Blk.new _ _ _
              have LW : Later w W := by rw [hW]; exact ((Below.refl _ _).alloc (Nat.le_refl _) _)
              have szW : W.heap.size = w.heap.size + 1 := by rw [hW]; simp
              clear hW
              replace HB := hide (onward HB.out LW)
              have Hq := hide bq0
              clear bq0 LW szW
              refine (Hcs.out _).mono ?_
              rintro e w1 ⟨rfl, hb⟩
              replace HB := hide (onward HB.out hb)
              replace Hq := hide (blk_later Hq.out hb)
              clear hb
              obtain ⟨q0, q1, q2, q3, q4, q5, q6, q7⟩ := Hq.out.site8
              have lts := Hq.out.lt
              go_wp2_with fail
              refine (In_any _ _ _ _).mono ?_
              rintro e w' ⟨rfl, rfl⟩
              rw [g1]
              go_wp2_with fail
              refine (In_any _ _ _ _).mono ?_
              rintro e w' ⟨rfl, rfl⟩
              rw [g2]
              go_wp2_with fail
              refine (In_any _ _ _ _).mono ?_
              rintro e w' ⟨rfl, rfl⟩
              rw [g3]
              clear g1 g2 g3
              go_wp2_with fail
              apply wp_region_L (w0 := w1) [[], [], [], [], [], [], [], [], [], []] [true, true, true, true, true, true, true, true, true, true] [] (fun ixq y => match ixq with  | _ => undef) (fun ixq x F wq => match ixq with  | _ => True) (fun a x => a) (by kernel_rfl) (by kernel_rfl) (fun _ => rfl) [] (by kernel_rfl)
              · intro x D hD
                have hne := hD.some
                have k1 := liftB hD q1 (by first | assumption | omega)
                have k2 := liftB hD q2 (by first | assumption | omega)
                simp only [takeOps, Act.put, List.setIfInBounds_toArray, List.set_cons_succ, List.set_cons_zero]
                repeat (go_big_quiet_step (fail))
                exact wpQuiet_nil rfl
              · exact fun _ h => absurd h (by simp)
              · exact trivial
              · exact trivial
              intro xx w2 F hL hlv4
              clear hlv4
              clear q0 q1 q2 q3 q4 q5 q6 q7 lts
              replace HB := hide (onward HB.out hL)
              replace Hq := hide (blk_later Hq.out hL)
              clear hL
              simp only [Hdx.out, Hdy.out]
              have kk := ZZ.out
              have kk2 := ZZ2.out
              go_wp2_with fail
              go_loopw [15] (fun a wr => ∃ k : Int, 0 ≤ k ∧ k ≤ gx ∧ a = .int .i64 k ∧ Below w.heap.size w wr ∧ Blk wr w.heap.size 33 #[.string s, .int .i64 sx, .int .i64 sy, .int .i64 z, .int .i64 r, .int .i64 g, .int .i64 st, .int .i64 wd]) (fun a _ => (g - intOf a).toNat)
              case atStart => exact ⟨0, by omega, by omega, rfl, HB.out, Hq.out⟩
              case round =>
                clear HB Hq
                obtain ⟨k, k0, k1, rfl, hbw, hbq⟩ := hrel
                have HB := hide hbw
                have Hq := hide hbq
                clear hbw hbq
                by_cases hlt : k < g
                · obtain ⟨b5, b6⟩ := Hbo.out k k0 (by omega)
                  obtain ⟨e5, e6⟩ := Hbo.out (k + 1) (by omega) (by omega)
                  have hc1 := fun W => Hbd.out W k k0 (by omega)
                  have hc2 := fun W => Hbd.out W (k + 1) (by omega) (by omega)
                  have hgk := Hgx.out k k0 hlt
                  generalize bord st t k = lo at *
                  generalize bord st t (k + 1) = hi at *
                  obtain ⟨sl1, sl2⟩ := mul_bdB b5 b6 b5 b6
                  obtain ⟨sh1, sh2⟩ := mul_bdB e5 e6 e5 e6
                  have Hgk := hide hgk
                  have C1 := hide hc1
                  have C2 := hide hc2
                  clear hgk hc1 hc2
                  obtain ⟨q0, q1, q2, q3, q4, q5, q6, q7⟩ := Hq.out.site8
                  have lts := Hq.out.lt
                  go_wp2_with fail
                  apply wp_region_L (w0 := wr) [[], [], [], [], [], [], [], [], [], [], []] [true, true, true, true, true, true, true, true, true, true, true] [] (fun ixq y => match ixq with  | _ => undef) (fun ixq x F wq => match ixq with  | _ => True) (fun a x => a) (by kernel_rfl) (by kernel_rfl) (fun _ => rfl) [67, 72] (by kernel_rfl)
                  · intro x D hD
                    have hne := hD.some
                    have k0 := liftB hD q0 (by first | assumption | omega)
                    have k1 := liftB hD q1 (by first | assumption | omega)
                    have k2 := liftB hD q2 (by first | assumption | omega)
                    have k3 := liftB hD q3 (by first | assumption | omega)
                    have k4 := liftB hD q4 (by first | assumption | omega)
                    have k5 := liftB hD q5 (by first | assumption | omega)
                    have k6 := liftB hD q6 (by first | assumption | omega)
                    have k7 := liftB hD q7 (by first | assumption | omega)
                    simp only [takeOps, Act.put, List.setIfInBounds_toArray, List.set_cons_succ, List.set_cons_zero]
                    repeat (go_big_quiet_step ((go_at_call 79; first | (with_reducible exact calls_later hD _ (C1.out _)) | (with_reducible exact calls_later hD _ (C2.out _)))))
                    exact wpQuiet_nil rfl
                  · intro d hd x x'
                    simp only [List.mem_cons, List.not_mem_nil, or_false] at hd
                    rcases hd with rfl | rfl
                    all_goals rfl
                  · exact trivial
                  · exact trivial
                  intro xx w5 F hL hlv5
                  clear hlv5
                  clear q0 q1 q2 q3 q4 q5 q6 q7 lts
                  replace HB := hide (onward HB.out hL)
                  replace Hq := hide (blk_later Hq.out hL)
                  clear hL
                  by_cases hk : k = gx
                  · obtain ⟨g1, g2⟩ := Hgk.out.2 hk
                    have HK := hide hk
                    have hkg : gx < g := by omega
                    clear hk
                    go_wp2_with fail
                    go_loopw [18] (fun a wr => ∃ c : Int, 0 ≤ c ∧ c ≤ ray ∧ a = .int .i64 c ∧ Below w.heap.size w wr ∧ Blk wr w.heap.size 33 #[.string s, .int .i64 sx, .int .i64 sy, .int .i64 z, .int .i64 r, .int .i64 g, .int .i64 st, .int .i64 wd]) (fun a _ => (4 * r - intOf a).toNat)
                    case atStart => exact ⟨0, by omega, by omega, rfl, HB.out, Hq.out⟩
                    case round =>
                      clear HB Hq
                      obtain ⟨c, cc0, cc1, rfl, hbw, hbq⟩ := hrel
                      have HB := hide hbw
                      have Hq := hide hbq
                      clear hbw hbq
                      obtain ⟨q0, q1, q2, q3, q4, q5, q6, q7⟩ := Hq.out.site8
                      have lts := Hq.out.lt
                      have hlt2 : c < 4 * r := by omega
                      have hsc := fun W => Hsec.out W c cc0 hlt2
                      by_cases hray : c = ray
                      · rw [show sectorB r c dx dy = true by rw [hray]; exact Hry.out] at hsc
                        have hrr : res = ((c, k), 0) := by rw [HR2.out hkg, hray, HK.out]
                        clear hray
                        have Hsc := hide hsc
                        have Hrr := hide hrr
                        clear hsc hrr
                        go_wp2_with fail
                        refine (Hsc.out _).mono ?_
                        rintro e w' ⟨rfl, rfl⟩
                        go_wp2
                        refine bodyPost_ret (v := twoE res) (by rw [Hrr.out]; simp [twoE, results, Try.results48, go_sem]) rfl ⟨rfl, HB.out⟩
                      · rw [Hun.out c cc0 hlt2 hray] at hsc
                        have Hsc := hide hsc
                        clear hsc
                        go_wp2_with fail
                        refine (Hsc.out _).mono ?_
                        rintro e w' ⟨rfl, rfl⟩
                        go_wp2
                        go_roundw
                        case rel => exact ⟨c + 1, by omega, by omega, by go_num, HB.out, Hq.out⟩
                        case measure => simp [intOf]; omega
                  have hk2 : k < gx := by omega
                  by_cases g1 : lo * lo ≤ dx * dx + dy * dy
                  · have g2 : ¬ dx * dx + dy * dy < hi * hi := fun g2 => hk (Hgk.out.1 ⟨g1, g2⟩)
                    go_wp2
                    go_roundw
                    case rel => exact ⟨k + 1, by omega, by omega, by go_num, HB.out, Hq.out⟩
                    case measure => simp [intOf]; omega
                  · go_wp2
                    go_roundw
                    case rel => exact ⟨k + 1, by omega, by omega, by go_num, HB.out, Hq.out⟩
                    case measure => simp [intOf]; omega
                · obtain rfl : k = g := by omega
                  have hrr := HR1.out (by omega)
                  have Hrr := hide hrr
                  clear hrr
                  obtain ⟨q0, q1, q2, q3, q4, q5, q6, q7⟩ := Hq.out.site8
                  have lts := Hq.out.lt
                  go_wp2
                  refine bodyPost_ret (v := twoE res) (by rw [Hrr.out]; simp [twoE, results, Try.results48, go_sem]) rfl ⟨rfl, HB.out⟩
        · have g4 : winB y (-4194304) 4194304 = false := by simpa using g3
          rw [if_neg (by rw [g4]; simp)] at hR
          have HR := hide hR
          clear hR
          clear g3
          go_enter Try.func48, Try.ntmps48
          have HB := hide (Below.refl w.heap.size w)
          go_wp2_with fail
          refine at_world fun W hW => ?_
          have bq0 : Blk W w.heap.size 33 #[.string s, .int .i64 sx, .int .i64 sy, .int .i64 z, .int .i64 r, .int .i64 g, .int .i64 st, .int .i64 wd] := by rw [hW]; exact Blk.new _ _ _
          have LW : Later w W := by rw [hW]; exact ((Below.refl _ _).alloc (Nat.le_refl _) _)
          have szW : W.heap.size = w.heap.size + 1 := by rw [hW]; simp
          clear hW
          replace HB := hide (onward HB.out LW)
          have Hq := hide bq0
          clear bq0 LW szW
          refine (Hcs.out _).mono ?_
          rintro e w1 ⟨rfl, hb⟩
          replace HB := hide (onward HB.out hb)
          replace Hq := hide (blk_later Hq.out hb)
          clear hb
          obtain ⟨q0, q1, q2, q3, q4, q5, q6, q7⟩ := Hq.out.site8
          have lts := Hq.out.lt
          go_wp2_with fail
          refine (In_any _ _ _ _).mono ?_
          rintro e w' ⟨rfl, rfl⟩
          rw [g1]
          go_wp2_with fail
          refine (In_any _ _ _ _).mono ?_
          rintro e w' ⟨rfl, rfl⟩
          rw [g2]
          go_wp2_with fail
          refine (In_any _ _ _ _).mono ?_
          rintro e w' ⟨rfl, rfl⟩
          rw [g4]
          go_wp2
          refine bodyPost_ret (v := twoE res) (by rw [HR.out]; simp [twoE, results, Try.results48, go_sem]) rfl ⟨rfl, HB.out⟩
      · have g3 : winB x (-4194304) 4194304 = false := by simpa using g2
        rw [if_neg (by rw [g3]; simp)] at hR
        have HR := hide hR
        clear hR
        clear g2
        go_enter Try.func48, Try.ntmps48
        have HB := hide (Below.refl w.heap.size w)
        go_wp2_with fail
        refine at_world fun W hW => ?_
        have bq0 : Blk W w.heap.size 33 #[.string s, .int .i64 sx, .int .i64 sy, .int .i64 z, .int .i64 r, .int .i64 g, .int .i64 st, .int .i64 wd] := by rw [hW]; exact Blk.new _ _ _
        have LW : Later w W := by rw [hW]; exact ((Below.refl _ _).alloc (Nat.le_refl _) _)
        have szW : W.heap.size = w.heap.size + 1 := by rw [hW]; simp
        clear hW
        replace HB := hide (onward HB.out LW)
        have Hq := hide bq0
        clear bq0 LW szW
        refine (Hcs.out _).mono ?_
        rintro e w1 ⟨rfl, hb⟩
        replace HB := hide (onward HB.out hb)
        replace Hq := hide (blk_later Hq.out hb)
        clear hb
        obtain ⟨q0, q1, q2, q3, q4, q5, q6, q7⟩ := Hq.out.site8
        have lts := Hq.out.lt
        go_wp2_with fail
        refine (In_any _ _ _ _).mono ?_
        rintro e w' ⟨rfl, rfl⟩
        rw [g1]
        go_wp2_with fail
        refine (In_any _ _ _ _).mono ?_
        rintro e w' ⟨rfl, rfl⟩
        rw [g3]
        go_wp2
        refine bodyPost_ret (v := twoE res) (by rw [HR.out]; simp [twoE, results, Try.results48, go_sem]) rfl ⟨rfl, HB.out⟩
    · have g3 : winB t 0 256 = false := by simpa using g1
      rw [if_neg (by rw [g3]; simp)] at hR
      have HR := hide hR
      clear hR
      clear g1
      go_enter Try.func48, Try.ntmps48
      have HB := hide (Below.refl w.heap.size w)
      go_wp2_with fail
      refine at_world fun W hW => ?_
      have bq0 : Blk W w.heap.size 33 #[.string s, .int .i64 sx, .int .i64 sy, .int .i64 z, .int .i64 r, .int .i64 g, .int .i64 st, .int .i64 wd] := by rw [hW]; exact Blk.new _ _ _
      have LW : Later w W := by rw [hW]; exact ((Below.refl _ _).alloc (Nat.le_refl _) _)
      have szW : W.heap.size = w.heap.size + 1 := by rw [hW]; simp
      clear hW
      replace HB := hide (onward HB.out LW)
      have Hq := hide bq0
      clear bq0 LW szW
      refine (Hcs.out _).mono ?_
      rintro e w1 ⟨rfl, hb⟩
      replace HB := hide (onward HB.out hb)
      replace Hq := hide (blk_later Hq.out hb)
      clear hb
      obtain ⟨q0, q1, q2, q3, q4, q5, q6, q7⟩ := Hq.out.site8
      have lts := Hq.out.lt
      go_wp2_with fail
      refine (In_any _ _ _ _).mono ?_
      rintro e w' ⟨rfl, rfl⟩
      rw [g3]
      go_wp2
      refine bodyPost_ret (v := twoE res) (by rw [HR.out]; simp [twoE, results, Try.results48, go_sem]) rfl ⟨rfl, HB.out⟩
  · rw [if_pos h0] at hR
    have h00 : (er != 0) = true := by simpa [bne] using h0
    have HR := hide hR
    clear hR
    go_enter Try.func48, Try.ntmps48
    have HB := hide (Below.refl w.heap.size w)
    go_wp2_with fail
    refine at_world fun W hW => ?_
    have bq0 : Blk W w.heap.size 33 #[.string s, .int .i64 sx, .int .i64 sy, .int .i64 z, .int .i64 r, .int .i64 g, .int .i64 st, .int .i64 wd] := by rw [hW]; exact Blk.new _ _ _
    have LW : Later w W := by rw [hW]; exact ((Below.refl _ _).alloc (Nat.le_refl _) _)
    have szW : W.heap.size = w.heap.size + 1 := by rw [hW]; simp
    clear hW
    replace HB := hide (onward HB.out LW)
    have Hq := hide bq0
    clear bq0 LW szW
    refine (Hcs.out _).mono ?_
    rintro e w1 ⟨rfl, hb⟩
    replace HB := hide (onward HB.out hb)
    replace Hq := hide (blk_later Hq.out hb)
    clear hb
    obtain ⟨q0, q1, q2, q3, q4, q5, q6, q7⟩ := Hq.out.site8
    have lts := Hq.out.lt
    go_wp2
    refine bodyPost_ret (v := twoE res) (by rw [HR.out]; simp [twoE, results, Try.results48, go_sem]) rfl ⟨rfl, HB.out⟩
end Go.Proofs.Ythhhecidogcmjaa
