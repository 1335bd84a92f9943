/-
  Bands: the program's contract, the reference's; and the reference's ground ranges.
  Pixels and places: the reference's.
  The reference's places and borders.
  The reference's Find.
  What a grid sees of a site: plain laws.
  Middles of pixels, lists of numbers: the reference's Middle, the law's numbers.
  What a grid sees of a site: the reference's View.
-/
import Derived.Test.YtepgpihobmjbdaaGreatRrPlaces2
import Derived.Test.YtepgpihobmjbdaaGreatRrPdo
import Derived.Test.YtepgpihobmjbdaaGreatRrGauge
set_option linter.unusedSimpArgs false
set_option linter.unusedVariables false
section
namespace Go.Proofs.YtepgpihobmjbdaaGreat
open Go Go.RowKit
attribute [local go_sem] fieldSpan0 fieldSpan1
set_option maxHeartbeats 4000000 in
set_option maxRecDepth 100000 in
theorem Band_any (s : ByteArray) (x y z r g st wd t elo ehi gate : Int) (w : World) (hs : s.size ≤ 9223372036854775807) :
  Calls Tryz.prog 45 #[siteV s x y z r g st wd, .int .i64 t, .agg #[.int .i64 elo, .int .i64 ehi], .int .i64 gate] w fun e w' => e = .returned (spanE (bandR (siteE (nameB s) x y z r g st wd) t gate z g st wd elo ehi)) ∧ Below w.heap.size w w' := by
 have hcs := fun W => CheckSite_any s (nameB s) x y z r g st wd W (nm_any s hs)
 have hR : ∀ e, siteE (nameB s) x y z r g st wd = e → bandR (siteE (nameB s) x y z r g st wd) t gate z g st wd elo ehi = if e ≠ 0 then ((0, 0), e) else if (winB t 0 256 && okE elo ehi && winB gate 0 (g - 1)) = true then ((riseD z st gate (t - wd) ehi, riseU z st gate (t + wd) elo), 0) else ((0, 0), 3) := fun e he => by rw [he]; rfl
 obtain ⟨er, her⟩ : ∃ e, siteE (nameB s) x y z r g st wd = e := ⟨_, rfl⟩
 replace hR := hR er her
 have hok := fun h : er = 0 => siteE_ok (her.trans h)
 generalize bandR (siteE (nameB s) x y z r g st wd) t gate z g st wd elo ehi = res at *
 rw [her] at hcs
 unfold siteV at *
 clear her
 have Hcs := hide hcs
 have Hok := hide hok
 clear hcs hok
 by_cases h0 : er = 0
 ·
  subst h0
  obtain ⟨-, s1, s2, s3, s4, s5, s6, s7, s8, s9, s10, s11, s12, s13, s14⟩ := Hok.out rfl
  rw [if_neg (by simp)] at hR
  by_cases g1 : winB t 0 256 = true
  ·
   obtain ⟨t1, t2⟩ := winB_iff.1 g1
   by_cases g2 : okE elo ehi = true
   ·
    by_cases g3 : winB gate 0 (g - 1) = true
    ·
     obtain ⟨t3, t4⟩ := winB_iff.1 g3
     rw [if_pos (by rw [g1, g2, g3]; rfl)] at hR
     obtain ⟨e1, e2, e3⟩ := okE_iff g2
     have d1 := fun W => riseDown_any s x y z r g st wd (t - wd) gate ehi W (by omega) (by omega) t3 (by omega) (by omega) s12 s5 s6 (by omega) e3
     have d2 := fun W => riseUp_any s x y z r g st wd (t + wd) gate elo W (by omega) (by omega) t3 (by omega) (by omega) s12 s5 s6 e1 (by omega)
     generalize riseD z st gate (t - wd) ehi = a at *
     generalize riseU z st gate (t + wd) elo = b at *
     skip
     skip
     unfold siteV at d1 d2
     have D1 := hide d1
     have D2 := hide d2
     have HR := hide hR
     clear d1 d2 hR
     go_enter Tryz.func45, Tryz.ntmps45
     have HB := hide (Below.refl w.heap.size w)
     go_wp2_with fail
     refine at_world fun W hW => ?_
     have bq0 : Blk W w.heap.size 28 #[.string s, .int .i64 x, .int .i64 y, .int .i64 z, .int .i64 r, .int .i64 g, .int .i64 st, .int .i64 wd] := by rw [hW]; exact ((Blk.new _ _ _).alloc _).alloc _
     have bq1 : Blk W (w.heap.size + 1) 24 #[.int .i64 elo, .int .i64 ehi] := by rw [hW]; exact (blk_new_at (by simp)).alloc _
     have bq2 : Blk W (w.heap.size + 2) 24 #[.int .i64 0, .int .i64 0] := by rw [hW]; exact blk_new_at (by simp)
     have LW : Later w W := by rw [hW]; exact ((((Below.refl _ _).alloc (Nat.le_refl _) _).alloc (by simp; try omega) _).alloc (by simp; try omega) _)
     have szW : W.heap.size = w.heap.size + 3 := by rw [hW]; simp
     clear hW
     replace HB := hide (onward HB.out LW)
     have Hq := hide bq0
     have He := hide bq1
     have Ho := hide bq2
     clear bq0 bq1 bq2 LW szW
     refine (Hcs.out _).mono ?_
     rintro e w1 ⟨rfl, hb⟩
     replace HB := hide (onward HB.out hb)
     replace Hq := hide (blk_later Hq.out hb)
     replace He := hide (blk_later He.out hb)
     replace Ho := hide (blk_later Ho.out hb)
     clear hb
     obtain ⟨q0, q1, q2, q3, q4, q5, q6, q7⟩ := Hq.out.site8
     have lts := Hq.out.lt
     obtain ⟨v0, v1⟩ := He.out.c2
     have ltv := He.out.lt
     go_wp2_with fail
     refine (within_anyQ _ _ _ _).mono ?_
     rintro e w' ⟨rfl, rfl⟩
     rw [g1]
     go_wp2_with fail
     refine (valid_anyQ _ _ _).mono ?_
     rintro e w2 ⟨rfl, hb⟩
     replace HB := hide (onward HB.out hb)
     replace Hq := hide (blk_later Hq.out hb)
     replace He := hide (blk_later He.out hb)
     replace Ho := hide (blk_later Ho.out hb)
     clear hb v0 v1 ltv
     rw [g2]
     clear q0 q1 q2 q3 q4 q5 q6 q7 lts
     obtain ⟨q0, q1, q2, q3, q4, q5, q6, q7⟩ := Hq.out.site8
     have lts := Hq.out.lt
     obtain ⟨v0, v1⟩ := He.out.c2
     have ltv := He.out.lt
     go_wp2_with fail
     refine (within_anyQ _ _ _ _).mono ?_
     rintro e w' ⟨rfl, rfl⟩
     rw [g3]
     clear g1 g2 g3
     go_wp2_with fail
     have lto := Ho.out.lt
     apply wp_region_F (w0 := w2) [[], [], [], [2], [1, 2, 3], [], [], [6], [0, 1, 2, 3, 4, 5, 6, 7], [], [], [], [11], [10, 11, 12], [], [], [15], [0, 1, 2, 3, 4, 5, 6, 7, 8, 9, 10, 11, 12, 13, 14, 15, 16], [0, 1, 2, 3, 4, 5, 6, 7, 8, 9, 10, 11, 12, 13, 14, 15, 16, 17], [0, 1, 2, 3, 4, 5, 6, 7, 8, 9, 10, 11, 12, 13, 14, 15, 16, 17, 18], [0, 1, 2, 3, 4, 5, 6, 7, 8, 9, 10, 11, 12, 13, 14, 15, 16, 17, 18, 19]] [true, true, true, true, true, true, true, true, true, true, true, true, true, true, true, true, true, true, true, false, false] [false, false, false, false, false, false, false, false, false, false, false, false, false, false, false, false, false, false, false, false, true] [⟨19, none, [], []⟩] [(19, (w.heap.size+2))] [19] (fun ixq y => match ixq with | 19 => undef | _ => undef) (fun ixq x F wq => match ixq with | 19 => F (w.heap.size+2) ∧ Blk wq (w.heap.size+2) 24 #[.int .i64 a, .int .i64 b] | _ => True) (fun a x => (a).put (none) (undef)) (by kernel_rfl) (by kernel_rfl) (by kernel_rfl) (fun _ => rfl) [42, 51] (by kernel_rfl) (fills_lt1 (by omega)) fills_ne1
     ·
      intro x D hD
      have hne := hD.some
      have k0 := liftS hD q0 (by exact early_all (by first | assumption | omega) (by rfl))
      have k1 := liftS hD q1 (by exact early_all (by first | assumption | omega) (by rfl))
      have k2 := liftS hD q2 (by exact early_all (by first | assumption | omega) (by rfl))
      have k3 := liftS hD q3 (by exact early_all (by first | assumption | omega) (by rfl))
      have k4 := liftS hD q4 (by exact early_all (by first | assumption | omega) (by rfl))
      have k5 := liftS hD q5 (by exact early_all (by first | assumption | omega) (by rfl))
      have k6 := liftS hD q6 (by exact early_all (by first | assumption | omega) (by rfl))
      have k7 := liftS hD q7 (by exact early_all (by first | assumption | omega) (by rfl))
      have l0 := liftS hD v0 (by exact early_all (by first | assumption | omega) (by rfl))
      have l1 := liftS hD v1 (by exact early_all (by first | assumption | omega) (by rfl))
      simp only [takeOps, Act.put, List.setIfInBounds_toArray, List.set_cons_succ, List.set_cons_zero]
      repeat (go_big_quiet_step ((go_at_call 71; first | (with_reducible exact calls_later hD _ (D1.out _)) | (with_reducible exact calls_later hD _ (D2.out _)))))
      exact wpQuiet_nil rfl
     ·
      intro x D hD
      have hne := hD.some
      simp only [takeOps, Act.put, List.setIfInBounds_toArray, List.set_cons_succ, List.set_cons_zero]
      repeat (go_big_quiet_step ((go_at_call 71; first | (with_reducible exact calls_later hD _ (D1.out _)) | (with_reducible exact calls_later hD _ (D2.out _)))))
      exact wpQuiet_nil rfl
     ·
      intro d hd x x'
      simp only [List.mem_cons, List.not_mem_nil, or_false] at hd
      rcases hd with rfl | rfl
      all_goals rfl
     ·
      refine ⟨?_, trivial⟩
      · exact obl_fill 24 24 8 52 (w.heap.size+2) _ (fun x => #[.int .i64 a, .int .i64 b]) (by kernel_rfl) (fun _ => rfl) (fun _ => rfl) Ho.out eb_fill1 (by simp [wrF]) (fun _ => by kernel_rfl) (fun _ => rfl) (fun _ => by simp [Value.oneCell']) (fun _ => rfl) (fun _ _ _ _ h1 h2 => ⟨h1, h2⟩)
     ·
      refine ⟨?_, trivial⟩
      · exact owe_fill (w.heap.size+2) 24 (fun x => #[.int .i64 a, .int .i64 b]) (fun _ _ _ => rfl) (fun _ _ _ => rfl)
     intro xx w3 F hK hlv1
     obtain ⟨fct19, -⟩ := hlv1
     replace fct19 : (F 19) (w.heap.size+2) ∧ Blk w3 (w.heap.size+2) 24 #[.int .i64 a, .int .i64 b] := fct19 rfl
     clear q0 q1 q2 q3 q4 q5 q6 q7 lts lto
     clear Hq He
     have hgr := grown_kept hK
     replace HB := hide (below_grown HB.out hgr HB.out.size (fun q hq => by simp at hq; omega))
     replace Ho := hide fct19.2
     clear hgr hK fct19 v0 v1 ltv
     obtain ⟨o0, o1⟩ := Ho.out.c2
     have lto := Ho.out.lt
     have fo0 := Ho.out.frozen 0
     have fo1 := Ho.out.frozen 1
     go_wp2
     refine bodyPost_ret (v := spanE res) (by rw [HR.out]; simp [spanE, results, Tryz.results45, go_sem, o0, o1, fo0, fo1, lto]) rfl ⟨rfl, ?_⟩
     repeat (first | exact HB.out | (refine Below.setCell ?_ (by first | omega | (simp <;> omega)) _) | (refine Below.alloc ?_ (by first | omega | (simp <;> omega)) _) | (refine below_drewN ?_ _))
    ·
     have g4 : winB gate 0 (g - 1) = false := by simpa using g3
     rw [if_neg (by rw [g4]; simp)] at hR
     have HR := hide hR
     clear hR
     clear g3
     go_enter Tryz.func45, Tryz.ntmps45
     have HB := hide (Below.refl w.heap.size w)
     go_wp2_with fail
     refine at_world fun W hW => ?_
     have bq0 : Blk W w.heap.size 28 #[.string s, .int .i64 x, .int .i64 y, .int .i64 z, .int .i64 r, .int .i64 g, .int .i64 st, .int .i64 wd] := by rw [hW]; exact ((Blk.new _ _ _).alloc _).alloc _
     have bq1 : Blk W (w.heap.size + 1) 24 #[.int .i64 elo, .int .i64 ehi] := by rw [hW]; exact (blk_new_at (by simp)).alloc _
     have bq2 : Blk W (w.heap.size + 2) 24 #[.int .i64 0, .int .i64 0] := by rw [hW]; exact blk_new_at (by simp)
     have LW : Later w W := by rw [hW]; exact ((((Below.refl _ _).alloc (Nat.le_refl _) _).alloc (by simp; try omega) _).alloc (by simp; try omega) _)
     have szW : W.heap.size = w.heap.size + 3 := by rw [hW]; simp
     clear hW
     replace HB := hide (onward HB.out LW)
     have Hq := hide bq0
     have He := hide bq1
     have Ho := hide bq2
     clear bq0 bq1 bq2 LW szW
     refine (Hcs.out _).mono ?_
     rintro e w1 ⟨rfl, hb⟩
     replace HB := hide (onward HB.out hb)
     replace Hq := hide (blk_later Hq.out hb)
     replace He := hide (blk_later He.out hb)
     replace Ho := hide (blk_later Ho.out hb)
     clear hb
     obtain ⟨q0, q1, q2, q3, q4, q5, q6, q7⟩ := Hq.out.site8
     have lts := Hq.out.lt
     obtain ⟨v0, v1⟩ := He.out.c2
     have ltv := He.out.lt
     go_wp2_with fail
     refine (within_anyQ _ _ _ _).mono ?_
     rintro e w' ⟨rfl, rfl⟩
     rw [g1]
     go_wp2_with fail
     refine (valid_anyQ _ _ _).mono ?_
     rintro e w2 ⟨rfl, hb⟩
     replace HB := hide (onward HB.out hb)
     replace Hq := hide (blk_later Hq.out hb)
     replace He := hide (blk_later He.out hb)
     replace Ho := hide (blk_later Ho.out hb)
     clear hb v0 v1 ltv
     rw [g2]
     clear q0 q1 q2 q3 q4 q5 q6 q7 lts
     obtain ⟨q0, q1, q2, q3, q4, q5, q6, q7⟩ := Hq.out.site8
     have lts := Hq.out.lt
     obtain ⟨v0, v1⟩ := He.out.c2
     have ltv := He.out.lt
     go_wp2_with fail
     refine (within_anyQ _ _ _ _).mono ?_
     rintro e w' ⟨rfl, rfl⟩
     rw [g4]
     clear g1 g2 g4
     obtain ⟨o0, o1⟩ := Ho.out.c2
     have lto := Ho.out.lt
     have fo0 := Ho.out.frozen 0
     have fo1 := Ho.out.frozen 1
     go_wp2
     refine bodyPost_ret (v := spanE res) (by rw [HR.out]; simp [spanE, results, Tryz.results45, go_sem, o0, o1, fo0, fo1, lto]) rfl ⟨rfl, ?_⟩
     repeat (first | exact HB.out | (refine Below.setCell ?_ (by first | omega | (simp <;> omega)) _) | (refine Below.alloc ?_ (by first | omega | (simp <;> omega)) _) | (refine below_drewN ?_ _))
   ·
    have g4 : okE elo ehi = false := by simpa using g2
    rw [if_neg (by rw [g4]; simp)] at hR
    have HR := hide hR
    clear hR
    clear g2
    go_enter Tryz.func45, Tryz.ntmps45
    have HB := hide (Below.refl w.heap.size w)
    go_wp2_with fail
    refine at_world fun W hW => ?_
    have bq0 : Blk W w.heap.size 28 #[.string s, .int .i64 x, .int .i64 y, .int .i64 z, .int .i64 r, .int .i64 g, .int .i64 st, .int .i64 wd] := by rw [hW]; exact ((Blk.new _ _ _).alloc _).alloc _
    have bq1 : Blk W (w.heap.size + 1) 24 #[.int .i64 elo, .int .i64 ehi] := by rw [hW]; exact (blk_new_at (by simp)).alloc _
    have bq2 : Blk W (w.heap.size + 2) 24 #[.int .i64 0, .int .i64 0] := by rw [hW]; exact blk_new_at (by simp)
    have LW : Later w W := by rw [hW]; exact ((((Below.refl _ _).alloc (Nat.le_refl _) _).alloc (by simp; try omega) _).alloc (by simp; try omega) _)
    have szW : W.heap.size = w.heap.size + 3 := by rw [hW]; simp
    clear hW
    replace HB := hide (onward HB.out LW)
    have Hq := hide bq0
    have He := hide bq1
    have Ho := hide bq2
    clear bq0 bq1 bq2 LW szW
    refine (Hcs.out _).mono ?_
    rintro e w1 ⟨rfl, hb⟩
    replace HB := hide (onward HB.out hb)
    replace Hq := hide (blk_later Hq.out hb)
    replace He := hide (blk_later He.out hb)
    replace Ho := hide (blk_later Ho.out hb)
    clear hb
    obtain ⟨q0, q1, q2, q3, q4, q5, q6, q7⟩ := Hq.out.site8
    have lts := Hq.out.lt
    obtain ⟨v0, v1⟩ := He.out.c2
    have ltv := He.out.lt
    go_wp2_with fail
    refine (within_anyQ _ _ _ _).mono ?_
    rintro e w' ⟨rfl, rfl⟩
    rw [g1]
    go_wp2_with fail
    refine (valid_anyQ _ _ _).mono ?_
    rintro e w2 ⟨rfl, hb⟩
    replace HB := hide (onward HB.out hb)
    replace Hq := hide (blk_later Hq.out hb)
    replace He := hide (blk_later He.out hb)
    replace Ho := hide (blk_later Ho.out hb)
    clear hb v0 v1 ltv
    rw [g4]
    clear g1 g4
    clear q0 q1 q2 q3 q4 q5 q6 q7 lts
    obtain ⟨q0, q1, q2, q3, q4, q5, q6, q7⟩ := Hq.out.site8
    have lts := Hq.out.lt
    obtain ⟨v0, v1⟩ := He.out.c2
    have ltv := He.out.lt
    obtain ⟨o0, o1⟩ := Ho.out.c2
    have lto := Ho.out.lt
    have fo0 := Ho.out.frozen 0
    have fo1 := Ho.out.frozen 1
    go_wp2
    refine bodyPost_ret (v := spanE res) (by rw [HR.out]; simp [spanE, results, Tryz.results45, go_sem, o0, o1, fo0, fo1, lto]) rfl ⟨rfl, ?_⟩
    repeat (first | exact HB.out | (refine Below.setCell ?_ (by first | omega | (simp <;> omega)) _) | (refine Below.alloc ?_ (by first | omega | (simp <;> omega)) _) | (refine below_drewN ?_ _))
  ·
   have g4 : winB t 0 256 = false := by simpa using g1
   rw [if_neg (by rw [g4]; simp)] at hR
   have HR := hide hR
   clear hR
   clear g1
   go_enter Tryz.func45, Tryz.ntmps45
   have HB := hide (Below.refl w.heap.size w)
   go_wp2_with fail
   refine at_world fun W hW => ?_
   have bq0 : Blk W w.heap.size 28 #[.string s, .int .i64 x, .int .i64 y, .int .i64 z, .int .i64 r, .int .i64 g, .int .i64 st, .int .i64 wd] := by rw [hW]; exact ((Blk.new _ _ _).alloc _).alloc _
   have bq1 : Blk W (w.heap.size + 1) 24 #[.int .i64 elo, .int .i64 ehi] := by rw [hW]; exact (blk_new_at (by simp)).alloc _
   have bq2 : Blk W (w.heap.size + 2) 24 #[.int .i64 0, .int .i64 0] := by rw [hW]; exact blk_new_at (by simp)
   have LW : Later w W := by rw [hW]; exact ((((Below.refl _ _).alloc (Nat.le_refl _) _).alloc (by simp; try omega) _).alloc (by simp; try omega) _)
   have szW : W.heap.size = w.heap.size + 3 := by rw [hW]; simp
   clear hW
   replace HB := hide (onward HB.out LW)
   have Hq := hide bq0
   have He := hide bq1
   have Ho := hide bq2
   clear bq0 bq1 bq2 LW szW
   refine (Hcs.out _).mono ?_
   rintro e w1 ⟨rfl, hb⟩
   replace HB := hide (onward HB.out hb)
   replace Hq := hide (blk_later Hq.out hb)
   replace He := hide (blk_later He.out hb)
   replace Ho := hide (blk_later Ho.out hb)
   clear hb
   obtain ⟨q0, q1, q2, q3, q4, q5, q6, q7⟩ := Hq.out.site8
   have lts := Hq.out.lt
   obtain ⟨v0, v1⟩ := He.out.c2
   have ltv := He.out.lt
   go_wp2_with fail
   refine (within_anyQ _ _ _ _).mono ?_
   rintro e w' ⟨rfl, rfl⟩
   rw [g4]
   clear g4
   obtain ⟨o0, o1⟩ := Ho.out.c2
   have lto := Ho.out.lt
   have fo0 := Ho.out.frozen 0
   have fo1 := Ho.out.frozen 1
   go_wp2
   refine bodyPost_ret (v := spanE res) (by rw [HR.out]; simp [spanE, results, Tryz.results45, go_sem, o0, o1, fo0, fo1, lto]) rfl ⟨rfl, ?_⟩
   repeat (first | exact HB.out | (refine Below.setCell ?_ (by first | omega | (simp <;> omega)) _) | (refine Below.alloc ?_ (by first | omega | (simp <;> omega)) _) | (refine below_drewN ?_ _))
 ·
  rw [if_pos h0] at hR
  have h00 : (er != 0) = true := by simpa [bne] using h0
  have HR := hide hR
  clear hR
  go_enter Tryz.func45, Tryz.ntmps45
  have HB := hide (Below.refl w.heap.size w)
  go_wp2_with fail
  refine at_world fun W hW => ?_
  have bq0 : Blk W w.heap.size 28 #[.string s, .int .i64 x, .int .i64 y, .int .i64 z, .int .i64 r, .int .i64 g, .int .i64 st, .int .i64 wd] := by rw [hW]; exact ((Blk.new _ _ _).alloc _).alloc _
  have bq1 : Blk W (w.heap.size + 1) 24 #[.int .i64 elo, .int .i64 ehi] := by rw [hW]; exact (blk_new_at (by simp)).alloc _
  have bq2 : Blk W (w.heap.size + 2) 24 #[.int .i64 0, .int .i64 0] := by rw [hW]; exact blk_new_at (by simp)
  have LW : Later w W := by rw [hW]; exact ((((Below.refl _ _).alloc (Nat.le_refl _) _).alloc (by simp; try omega) _).alloc (by simp; try omega) _)
  have szW : W.heap.size = w.heap.size + 3 := by rw [hW]; simp
  clear hW
  replace HB := hide (onward HB.out LW)
  have Hq := hide bq0
  have He := hide bq1
  have Ho := hide bq2
  clear bq0 bq1 bq2 LW szW
  refine (Hcs.out _).mono ?_
  rintro e w1 ⟨rfl, hb⟩
  replace HB := hide (onward HB.out hb)
  replace Hq := hide (blk_later Hq.out hb)
  replace He := hide (blk_later He.out hb)
  replace Ho := hide (blk_later Ho.out hb)
  clear hb
  obtain ⟨q0, q1, q2, q3, q4, q5, q6, q7⟩ := Hq.out.site8
  have lts := Hq.out.lt
  obtain ⟨v0, v1⟩ := He.out.c2
  have ltv := He.out.lt
  obtain ⟨o0, o1⟩ := Ho.out.c2
  have lto := Ho.out.lt
  have fo0 := Ho.out.frozen 0
  have fo1 := Ho.out.frozen 1
  go_wp2
  refine bodyPost_ret (v := spanE res) (by rw [HR.out]; simp [spanE, results, Tryz.results45, go_sem, o0, o1, fo0, fo1, lto]) rfl ⟨rfl, ?_⟩
  repeat (first | exact HB.out | (refine Below.setCell ?_ (by first | omega | (simp <;> omega)) _) | (refine Below.alloc ?_ (by first | omega | (simp <;> omega)) _) | (refine below_drewN ?_ _))
set_option maxHeartbeats 4000000 in
set_option maxRecDepth 100000 in
theorem RefBand_any (s : ByteArray) (x y z r g st wd t elo ehi gate : Int) (w : World) (hs : s.size ≤ 9223372036854775807) :
  Calls Tryz.prog 24 #[siteV s x y z r g st wd, .int .i64 t, .agg #[.int .i64 elo, .int .i64 ehi], .int .i64 gate] w fun e w' => e = .returned (spanE (bandR (siteE (nameB s) x y z r g st wd) t gate z g st wd elo ehi)) ∧ Below w.heap.size w w' := by
 have hcs := fun W => RefCheckSite_any s x y z r g st wd W hs
 have hR : ∀ e, siteE (nameB s) x y z r g st wd = e → bandR (siteE (nameB s) x y z r g st wd) t gate z g st wd elo ehi = if e ≠ 0 then ((0, 0), e) else if (winB t 0 256 && okE elo ehi && winB gate 0 (g - 1)) = true then ((riseD z st gate (t - wd) ehi, riseU z st gate (t + wd) elo), 0) else ((0, 0), 3) := fun e he => by rw [he]; rfl
 obtain ⟨er, her⟩ : ∃ e, siteE (nameB s) x y z r g st wd = e := ⟨_, rfl⟩
 replace hR := hR er her
 have hok := fun h : er = 0 => siteE_ok (her.trans h)
 generalize bandR (siteE (nameB s) x y z r g st wd) t gate z g st wd elo ehi = res at *
 rw [her] at hcs
 unfold siteV at *
 clear her
 have Hcs := hide hcs
 have Hok := hide hok
 clear hcs hok
 by_cases h0 : er = 0
 ·
  subst h0
  obtain ⟨-, s1, s2, s3, s4, s5, s6, s7, s8, s9, s10, s11, s12, s13, s14⟩ := Hok.out rfl
  rw [if_neg (by simp)] at hR
  by_cases g1 : winB t 0 256 = true
  ·
   obtain ⟨t1, t2⟩ := winB_iff.1 g1
   by_cases g2 : okE elo ehi = true
   ·
    by_cases g3 : winB gate 0 (g - 1) = true
    ·
     obtain ⟨t3, t4⟩ := winB_iff.1 g3
     rw [if_pos (by rw [g1, g2, g3]; rfl)] at hR
     obtain ⟨e1, e2, e3⟩ := okE_iff g2
     have d1 := fun W => refheight_any s x y z r g st wd (t - wd) gate elo ehi W (by omega) (by omega) t3 (by omega) (by omega) s12 s5 s6 g2
     have d2 := fun W => refheight_any s x y z r g st wd (t + wd) gate elo ehi W (by omega) (by omega) t3 (by omega) (by omega) s12 s5 s6 g2
     generalize riseD z st gate (t - wd) ehi = a at *
     generalize riseU z st gate (t + wd) elo = b at *
     generalize riseD z st gate (t + wd) ehi = c1 at *
     generalize riseU z st gate (t - wd) elo = c2 at *
     unfold siteV at d1 d2
     have D1 := hide d1
     have D2 := hide d2
     have HR := hide hR
     clear d1 d2 hR
     go_enter Tryz.func24, Tryz.ntmps24
     have HB := hide (Below.refl w.heap.size w)
     go_wp2_with fail
     refine at_world fun W hW => ?_
     have bq0 : Blk W w.heap.size 28 #[.string s, .int .i64 x, .int .i64 y, .int .i64 z, .int .i64 r, .int .i64 g, .int .i64 st, .int .i64 wd] := by rw [hW]; exact ((Blk.new _ _ _).alloc _).alloc _
     have bq1 : Blk W (w.heap.size + 1) 24 #[.int .i64 elo, .int .i64 ehi] := by rw [hW]; exact (blk_new_at (by simp)).alloc _
     have bq2 : Blk W (w.heap.size + 2) 24 #[.int .i64 0, .int .i64 0] := by rw [hW]; exact blk_new_at (by simp)
     have LW : Later w W := by rw [hW]; exact ((((Below.refl _ _).alloc (Nat.le_refl _) _).alloc (by simp; try omega) _).alloc (by simp; try omega) _)
     have szW : W.heap.size = w.heap.size + 3 := by rw [hW]; simp
     clear hW
     replace HB := hide (onward HB.out LW)
     have Hq := hide bq0
     have He := hide bq1
     have Ho := hide bq2
     clear bq0 bq1 bq2 LW szW
     refine (Hcs.out _).mono ?_
     rintro e w1 ⟨rfl, hb⟩
     replace HB := hide (onward HB.out hb)
     replace Hq := hide (blk_later Hq.out hb)
     replace He := hide (blk_later He.out hb)
     replace Ho := hide (blk_later Ho.out hb)
     clear hb
     obtain ⟨q0, q1, q2, q3, q4, q5, q6, q7⟩ := Hq.out.site8
     have lts := Hq.out.lt
     obtain ⟨v0, v1⟩ := He.out.c2
     have ltv := He.out.lt
     go_wp2_with fail
     refine (In_anyQ _ _ _ _).mono ?_
     rintro e w' ⟨rfl, rfl⟩
     rw [g1]
     go_wp2_with fail
     refine (Earth_any _ _ _).mono ?_
     rintro e w2 ⟨rfl, hb⟩
     replace HB := hide (onward HB.out hb)
     replace Hq := hide (blk_later Hq.out hb)
     replace He := hide (blk_later He.out hb)
     replace Ho := hide (blk_later Ho.out hb)
     clear hb v0 v1 ltv
     rw [g2]
     clear q0 q1 q2 q3 q4 q5 q6 q7 lts
     obtain ⟨q0, q1, q2, q3, q4, q5, q6, q7⟩ := Hq.out.site8
     have lts := Hq.out.lt
     obtain ⟨v0, v1⟩ := He.out.c2
     have ltv := He.out.lt
     go_wp2_with fail
     refine (In_anyQ _ _ _ _).mono ?_
     rintro e w' ⟨rfl, rfl⟩
     rw [g3]
     clear g1 g2 g3
     go_wp2_with fail
     have lto := Ho.out.lt
     apply wp_region_F (w0 := w2) [[], [], [], [2], [1, 2, 3], [], [], [0, 1, 2, 3, 4, 5, 6], [0, 1, 2, 3, 4, 5, 6, 7], [], [], [], [11], [10, 11, 12], [], [], [0, 1, 2, 3, 4, 5, 6, 7, 9, 10, 11, 12, 13, 14, 15], [0, 1, 2, 3, 4, 5, 6, 7, 9, 10, 11, 12, 13, 14, 15, 16], [0, 1, 2, 3, 4, 5, 6, 7, 8, 9, 10, 11, 12, 13, 14, 15, 16, 17], [0, 1, 2, 3, 4, 5, 6, 7, 8, 9, 10, 11, 12, 13, 14, 15, 16, 17, 18], [0, 1, 2, 3, 4, 5, 6, 7, 8, 9, 10, 11, 12, 13, 14, 15, 16, 17, 18, 19]] [true, true, true, true, true, true, true, true, true, true, true, true, true, true, true, true, true, true, true, false, false] [false, false, false, false, false, false, false, false, false, false, false, false, false, false, false, false, false, false, false, false, true] [⟨19, none, [], []⟩] [(19, (w.heap.size+2))] [19] (fun ixq y => match ixq with | 19 => undef | _ => undef) (fun ixq x F wq => match ixq with | 19 => F (w.heap.size+2) ∧ Blk wq (w.heap.size+2) 24 #[.int .i64 a, .int .i64 b] | _ => True) (fun a x => (a).put (none) (undef)) (by kernel_rfl) (by kernel_rfl) (by kernel_rfl) (fun _ => rfl) [41, 50] (by kernel_rfl) (fills_lt1 (by omega)) fills_ne1
     ·
      intro x D hD
      have hne := hD.some
      have k0 := liftS hD q0 (by exact early_all (by first | assumption | omega) (by rfl))
      have k1 := liftS hD q1 (by exact early_all (by first | assumption | omega) (by rfl))
      have k2 := liftS hD q2 (by exact early_all (by first | assumption | omega) (by rfl))
      have k3 := liftS hD q3 (by exact early_all (by first | assumption | omega) (by rfl))
      have k4 := liftS hD q4 (by exact early_all (by first | assumption | omega) (by rfl))
      have k5 := liftS hD q5 (by exact early_all (by first | assumption | omega) (by rfl))
      have k6 := liftS hD q6 (by exact early_all (by first | assumption | omega) (by rfl))
      have k7 := liftS hD q7 (by exact early_all (by first | assumption | omega) (by rfl))
      have l0 := liftS hD v0 (by exact early_all (by first | assumption | omega) (by rfl))
      have l1 := liftS hD v1 (by exact early_all (by first | assumption | omega) (by rfl))
      simp only [takeOps, Act.put, List.setIfInBounds_toArray, List.set_cons_succ, List.set_cons_zero]
      repeat (go_big_quiet_step ((go_at_call 54; first | (with_reducible exact calls_later hD _ (D1.out _)) | (with_reducible exact calls_later hD _ (D2.out _)))))
      exact wpQuiet_nil rfl
     ·
      intro x D hD
      have hne := hD.some
      simp only [takeOps, Act.put, List.setIfInBounds_toArray, List.set_cons_succ, List.set_cons_zero]
      repeat (go_big_quiet_step ((go_at_call 54; first | (with_reducible exact calls_later hD _ (D1.out _)) | (with_reducible exact calls_later hD _ (D2.out _)))))
      exact wpQuiet_nil rfl
     ·
      intro d hd x x'
      simp only [List.mem_cons, List.not_mem_nil, or_false] at hd
      rcases hd with rfl | rfl
      all_goals rfl
     ·
      refine ⟨?_, trivial⟩
      · exact obl_fill 24 24 8 52 (w.heap.size+2) _ (fun x => #[.int .i64 a, .int .i64 b]) (by kernel_rfl) (fun _ => rfl) (fun _ => rfl) Ho.out eb_fill1 (by simp [wrF]) (fun _ => by kernel_rfl) (fun _ => rfl) (fun _ => by simp [Value.oneCell']) (fun _ => rfl) (fun _ _ _ _ h1 h2 => ⟨h1, h2⟩)
     ·
      refine ⟨?_, trivial⟩
      · exact owe_fill (w.heap.size+2) 24 (fun x => #[.int .i64 a, .int .i64 b]) (fun _ _ _ => rfl) (fun _ _ _ => rfl)
     intro xx w3 F hK hlv2
     obtain ⟨fct19, -⟩ := hlv2
     replace fct19 : (F 19) (w.heap.size+2) ∧ Blk w3 (w.heap.size+2) 24 #[.int .i64 a, .int .i64 b] := fct19 rfl
     clear q0 q1 q2 q3 q4 q5 q6 q7 lts lto
     clear Hq He
     have hgr := grown_kept hK
     replace HB := hide (below_grown HB.out hgr HB.out.size (fun q hq => by simp at hq; omega))
     replace Ho := hide fct19.2
     clear hgr hK fct19 v0 v1 ltv
     obtain ⟨o0, o1⟩ := Ho.out.c2
     have lto := Ho.out.lt
     have fo0 := Ho.out.frozen 0
     have fo1 := Ho.out.frozen 1
     go_wp2
     refine bodyPost_ret (v := spanE res) (by rw [HR.out]; simp [spanE, results, Tryz.results24, go_sem, o0, o1, fo0, fo1, lto]) rfl ⟨rfl, ?_⟩
     repeat (first | exact HB.out | (refine Below.setCell ?_ (by first | omega | (simp <;> omega)) _) | (refine Below.alloc ?_ (by first | omega | (simp <;> omega)) _) | (refine below_drewN ?_ _))
    ·
     have g4 : winB gate 0 (g - 1) = false := by simpa using g3
     rw [if_neg (by rw [g4]; simp)] at hR
     have HR := hide hR
     clear hR
     clear g3
     go_enter Tryz.func24, Tryz.ntmps24
     have HB := hide (Below.refl w.heap.size w)
     go_wp2_with fail
     refine at_world fun W hW => ?_
     have bq0 : Blk W w.heap.size 28 #[.string s, .int .i64 x, .int .i64 y, .int .i64 z, .int .i64 r, .int .i64 g, .int .i64 st, .int .i64 wd] := by rw [hW]; exact ((Blk.new _ _ _).alloc _).alloc _
     have bq1 : Blk W (w.heap.size + 1) 24 #[.int .i64 elo, .int .i64 ehi] := by rw [hW]; exact (blk_new_at (by simp)).alloc _
     have bq2 : Blk W (w.heap.size + 2) 24 #[.int .i64 0, .int .i64 0] := by rw [hW]; exact blk_new_at (by simp)
     have LW : Later w W := by rw [hW]; exact ((((Below.refl _ _).alloc (Nat.le_refl _) _).alloc (by simp; try omega) _).alloc (by simp; try omega) _)
     have szW : W.heap.size = w.heap.size + 3 := by rw [hW]; simp
     clear hW
     replace HB := hide (onward HB.out LW)
     have Hq := hide bq0
     have He := hide bq1
     have Ho := hide bq2
     clear bq0 bq1 bq2 LW szW
     refine (Hcs.out _).mono ?_
     rintro e w1 ⟨rfl, hb⟩
     replace HB := hide (onward HB.out hb)
     replace Hq := hide (blk_later Hq.out hb)
     replace He := hide (blk_later He.out hb)
     replace Ho := hide (blk_later Ho.out hb)
     clear hb
     obtain ⟨q0, q1, q2, q3, q4, q5, q6, q7⟩ := Hq.out.site8
     have lts := Hq.out.lt
     obtain ⟨v0, v1⟩ := He.out.c2
     have ltv := He.out.lt
     go_wp2_with fail
     refine (In_anyQ _ _ _ _).mono ?_
     rintro e w' ⟨rfl, rfl⟩
     rw [g1]
     go_wp2_with fail
     refine (Earth_any _ _ _).mono ?_
     rintro e w2 ⟨rfl, hb⟩
     replace HB := hide (onward HB.out hb)
     replace Hq := hide (blk_later Hq.out hb)
     replace He := hide (blk_later He.out hb)
     replace Ho := hide (blk_later Ho.out hb)
     clear hb v0 v1 ltv
     rw [g2]
     clear q0 q1 q2 q3 q4 q5 q6 q7 lts
     obtain ⟨q0, q1, q2, q3, q4, q5, q6, q7⟩ := Hq.out.site8
     have lts := Hq.out.lt
     obtain ⟨v0, v1⟩ := He.out.c2
     have ltv := He.out.lt
     go_wp2_with fail
     refine (In_anyQ _ _ _ _).mono ?_
     rintro e w' ⟨rfl, rfl⟩
     rw [g4]
     clear g1 g2 g4
     obtain ⟨o0, o1⟩ := Ho.out.c2
     have lto := Ho.out.lt
     have fo0 := Ho.out.frozen 0
     have fo1 := Ho.out.frozen 1
     go_wp2
     refine bodyPost_ret (v := spanE res) (by rw [HR.out]; simp [spanE, results, Tryz.results24, go_sem, o0, o1, fo0, fo1, lto]) rfl ⟨rfl, ?_⟩
     repeat (first | exact HB.out | (refine Below.setCell ?_ (by first | omega | (simp <;> omega)) _) | (refine Below.alloc ?_ (by first | omega | (simp <;> omega)) _) | (refine below_drewN ?_ _))
   ·
    have g4 : okE elo ehi = false := by simpa using g2
    rw [if_neg (by rw [g4]; simp)] at hR
    have HR := hide hR
    clear hR
    clear g2
    go_enter Tryz.func24, Tryz.ntmps24
    have HB := hide (Below.refl w.heap.size w)
    go_wp2_with fail
    refine at_world fun W hW => ?_
    have bq0 : Blk W w.heap.size 28 #[.string s, .int .i64 x, .int .i64 y, .int .i64 z, .int .i64 r, .int .i64 g, .int .i64 st, .int .i64 wd] := by rw [hW]; exact ((Blk.new _ _ _).alloc _).alloc _
    have bq1 : Blk W (w.heap.size + 1) 24 #[.int .i64 elo, .int .i64 ehi] := by rw [hW]; exact (blk_new_at (by simp)).alloc _
    have bq2 : Blk W (w.heap.size + 2) 24 #[.int .i64 0, .int .i64 0] := by rw [hW]; exact blk_new_at (by simp)
    have LW : Later w W := by rw [hW]; exact ((((Below.refl _ _).alloc (Nat.le_refl _) _).alloc (by simp; try omega) _).alloc (by simp; try omega) _)
    have szW : W.heap.size = w.heap.size + 3 := by rw [hW]; simp
    clear hW
    replace HB := hide (onward HB.out LW)
    have Hq := hide bq0
    have He := hide bq1
    have Ho := hide bq2
    clear bq0 bq1 bq2 LW szW
    refine (Hcs.out _).mono ?_
    rintro e w1 ⟨rfl, hb⟩
    replace HB := hide (onward HB.out hb)
    replace Hq := hide (blk_later Hq.out hb)
    replace He := hide (blk_later He.out hb)
    replace Ho := hide (blk_later Ho.out hb)
    clear hb
    obtain ⟨q0, q1, q2, q3, q4, q5, q6, q7⟩ := Hq.out.site8
    have lts := Hq.out.lt
    obtain ⟨v0, v1⟩ := He.out.c2
    have ltv := He.out.lt
    go_wp2_with fail
    refine (In_anyQ _ _ _ _).mono ?_
    rintro e w' ⟨rfl, rfl⟩
    rw [g1]
    go_wp2_with fail
    refine (Earth_any _ _ _).mono ?_
    rintro e w2 ⟨rfl, hb⟩
    replace HB := hide (onward HB.out hb)
    replace Hq := hide (blk_later Hq.out hb)
    replace He := hide (blk_later He.out hb)
    replace Ho := hide (blk_later Ho.out hb)
    clear hb v0 v1 ltv
    rw [g4]
    clear g1 g4
    clear q0 q1 q2 q3 q4 q5 q6 q7 lts
    obtain ⟨q0, q1, q2, q3, q4, q5, q6, q7⟩ := Hq.out.site8
    have lts := Hq.out.lt
    obtain ⟨v0, v1⟩ := He.out.c2
    have ltv := He.out.lt
    obtain ⟨o0, o1⟩ := Ho.out.c2
    have lto := Ho.out.lt
    have fo0 := Ho.out.frozen 0
    have fo1 := Ho.out.frozen 1
    go_wp2
    refine bodyPost_ret (v := spanE res) (by rw [HR.out]; simp [spanE, results, Tryz.results24, go_sem, o0, o1, fo0, fo1, lto]) rfl ⟨rfl, ?_⟩
    repeat (first | exact HB.out | (refine Below.setCell ?_ (by first | omega | (simp <;> omega)) _) | (refine Below.alloc ?_ (by first | omega | (simp <;> omega)) _) | (refine below_drewN ?_ _))
  ·
   have g4 : winB t 0 256 = false := by simpa using g1
   rw [if_neg (by rw [g4]; simp)] at hR
   have HR := hide hR
   clear hR
   clear g1
   go_enter Tryz.func24, Tryz.ntmps24
   have HB := hide (Below.refl w.heap.size w)
   go_wp2_with fail
   refine at_world fun W hW => ?_
   have bq0 : Blk W w.heap.size 28 #[.string s, .int .i64 x, .int .i64 y, .int .i64 z, .int .i64 r, .int .i64 g, .int .i64 st, .int .i64 wd] := by rw [hW]; exact ((Blk.new _ _ _).alloc _).alloc _
   have bq1 : Blk W (w.heap.size + 1) 24 #[.int .i64 elo, .int .i64 ehi] := by rw [hW]; exact (blk_new_at (by simp)).alloc _
   have bq2 : Blk W (w.heap.size + 2) 24 #[.int .i64 0, .int .i64 0] := by rw [hW]; exact blk_new_at (by simp)
   have LW : Later w W := by rw [hW]; exact ((((Below.refl _ _).alloc (Nat.le_refl _) _).alloc (by simp; try omega) _).alloc (by simp; try omega) _)
   have szW : W.heap.size = w.heap.size + 3 := by rw [hW]; simp
   clear hW
   replace HB := hide (onward HB.out LW)
   have Hq := hide bq0
   have He := hide bq1
   have Ho := hide bq2
   clear bq0 bq1 bq2 LW szW
   refine (Hcs.out _).mono ?_
   rintro e w1 ⟨rfl, hb⟩
   replace HB := hide (onward HB.out hb)
   replace Hq := hide (blk_later Hq.out hb)
   replace He := hide (blk_later He.out hb)
   replace Ho := hide (blk_later Ho.out hb)
   clear hb
   obtain ⟨q0, q1, q2, q3, q4, q5, q6, q7⟩ := Hq.out.site8
   have lts := Hq.out.lt
   obtain ⟨v0, v1⟩ := He.out.c2
   have ltv := He.out.lt
   go_wp2_with fail
   refine (In_anyQ _ _ _ _).mono ?_
   rintro e w' ⟨rfl, rfl⟩
   rw [g4]
   clear g4
   obtain ⟨o0, o1⟩ := Ho.out.c2
   have lto := Ho.out.lt
   have fo0 := Ho.out.frozen 0
   have fo1 := Ho.out.frozen 1
   go_wp2
   refine bodyPost_ret (v := spanE res) (by rw [HR.out]; simp [spanE, results, Tryz.results24, go_sem, o0, o1, fo0, fo1, lto]) rfl ⟨rfl, ?_⟩
   repeat (first | exact HB.out | (refine Below.setCell ?_ (by first | omega | (simp <;> omega)) _) | (refine Below.alloc ?_ (by first | omega | (simp <;> omega)) _) | (refine below_drewN ?_ _))
 ·
  rw [if_pos h0] at hR
  have h00 : (er != 0) = true := by simpa [bne] using h0
  have HR := hide hR
  clear hR
  go_enter Tryz.func24, Tryz.ntmps24
  have HB := hide (Below.refl w.heap.size w)
  go_wp2_with fail
  refine at_world fun W hW => ?_
  have bq0 : Blk W w.heap.size 28 #[.string s, .int .i64 x, .int .i64 y, .int .i64 z, .int .i64 r, .int .i64 g, .int .i64 st, .int .i64 wd] := by rw [hW]; exact ((Blk.new _ _ _).alloc _).alloc _
  have bq1 : Blk W (w.heap.size + 1) 24 #[.int .i64 elo, .int .i64 ehi] := by rw [hW]; exact (blk_new_at (by simp)).alloc _
  have bq2 : Blk W (w.heap.size + 2) 24 #[.int .i64 0, .int .i64 0] := by rw [hW]; exact blk_new_at (by simp)
  have LW : Later w W := by rw [hW]; exact ((((Below.refl _ _).alloc (Nat.le_refl _) _).alloc (by simp; try omega) _).alloc (by simp; try omega) _)
  have szW : W.heap.size = w.heap.size + 3 := by rw [hW]; simp
  clear hW
  replace HB := hide (onward HB.out LW)
  have Hq := hide bq0
  have He := hide bq1
  have Ho := hide bq2
  clear bq0 bq1 bq2 LW szW
  refine (Hcs.out _).mono ?_
  rintro e w1 ⟨rfl, hb⟩
  replace HB := hide (onward HB.out hb)
  replace Hq := hide (blk_later Hq.out hb)
  replace He := hide (blk_later He.out hb)
  replace Ho := hide (blk_later Ho.out hb)
  clear hb
  obtain ⟨q0, q1, q2, q3, q4, q5, q6, q7⟩ := Hq.out.site8
  have lts := Hq.out.lt
  obtain ⟨v0, v1⟩ := He.out.c2
  have ltv := He.out.lt
  obtain ⟨o0, o1⟩ := Ho.out.c2
  have lto := Ho.out.lt
  have fo0 := Ho.out.frozen 0
  have fo1 := Ho.out.frozen 1
  go_wp2
  refine bodyPost_ret (v := spanE res) (by rw [HR.out]; simp [spanE, results, Tryz.results24, go_sem, o0, o1, fo0, fo1, lto]) rfl ⟨rfl, ?_⟩
  repeat (first | exact HB.out | (refine Below.setCell ?_ (by first | omega | (simp <;> omega)) _) | (refine Below.alloc ?_ (by first | omega | (simp <;> omega)) _) | (refine below_drewN ?_ _))
end Go.Proofs.YtepgpihobmjbdaaGreat
end
section
namespace Go.Proofs.YtepgpihobmjbdaaGreat
open Go Go.RowKit
set_option maxHeartbeats 2000000 in
set_option maxRecDepth 100000 in
theorem RefPixel_any (gx gy gs wi hi x y : Int) (w : World) :
  Calls Tryz.prog 97 #[gridV gx gy gs wi hi, .int .i64 x, .int .i64 y] w fun e w' => e = .returned (.tuple #[.int .i64 (pixR (gridE gx gy gs wi hi) gx gy gs wi hi x y).1, .int .i64 (pixR (gridE gx gy gs wi hi) gx gy gs wi hi x y).2]) ∧ Below w.heap.size w w' := by
 have hg := fun W => RefCheckGrid_any gx gy gs wi hi W
 have hR : ∀ ge, gridE gx gy gs wi hi = ge → pixR (gridE gx gy gs wi hi) gx gy gs wi hi x y = if ge ≠ 0 then (0, ge) else if pixZ gx gy gs wi hi x y < 0 then (0, 29) else (pixZ gx gy gs wi hi x y, 0) := fun ge h => by rw [h]; rfl
 obtain ⟨ge, hge⟩ : ∃ ge, gridE gx gy gs wi hi = ge := ⟨_, rfl⟩
 replace hR := hR ge hge
 have hok := fun h : ge = 0 => gridE_ok (hge.trans h)
 generalize pixR (gridE gx gy gs wi hi) gx gy gs wi hi x y = res at *
 rw [hge] at hg
 clear hge
 obtain ⟨ra, rb⟩ := res
 simp only
 unfold gridV at *
 have Hg := hide hg
 clear hg
 by_cases h0 : ge = 0
 ·
  subst h0
  obtain ⟨a1, a2, b1, b2, c1, c2, d1, d2, e1, e2⟩ := hok rfl
  rw [if_neg (by simp)] at hR
  obtain ⟨m1, m2⟩ := mul_bdB (a := wi) (b := gs) (A := 64) (B := 10000) (by omega) d2 (by omega) c2
  obtain ⟨n1, n2⟩ := mul_bdB (a := hi) (b := gs) (A := 64) (B := 10000) (by omega) e2 (by omega) c2
  unfold pixZ at hR
  by_cases g1 : x < gx
  ·
   rw [if_pos (by omega)] at hR
   have hr1 := congrArg Prod.fst hR
   have hr2 := congrArg Prod.snd hR
   simp only at hr1 hr2
   clear hR
   have HR1 := hide hr1
   have HR2 := hide hr2
   clear hr1 hr2
   go_enter Tryz.func97, Tryz.ntmps97
   have HB := hide (Below.refl w.heap.size w)
   go_wp2_with fail
   refine at_world fun W hW => ?_
   have bq0 : Blk W w.heap.size 33 #[.int .i64 gx, .int .i64 gy, .int .i64 gs, .int .i64 wi, .int .i64 hi] := by rw [hW]; exact Blk.new _ _ _
   have LW : Later w W := by rw [hW]; exact ((Below.refl _ _).alloc (Nat.le_refl _) _)
   have szW : W.heap.size = w.heap.size + 1 := by rw [hW]; simp
   clear hW
   replace HB := hide (onward HB.out LW)
   have Hf := hide bq0
   clear bq0 LW szW
   refine (Hg.out _).mono ?_
   rintro e w1 ⟨rfl, hb⟩
   replace HB := hide (onward HB.out hb)
   replace Hf := hide (blk_later Hf.out hb)
   clear hb
   obtain ⟨q0, q1, q2, q3, q4⟩ := Hf.out.c5
   have ltf := Hf.out.lt
   go_wp2
   refine bodyPost_ret (v := .tuple #[.int .i64 ra, .int .i64 rb]) (by rw [HR1.out, HR2.out]; simp [results, Tryz.results97, go_sem]) rfl ⟨rfl, HB.out⟩
  by_cases g2 : gx + wi * gs ≤ x
  ·
   rw [if_pos (by omega)] at hR
   have hr1 := congrArg Prod.fst hR
   have hr2 := congrArg Prod.snd hR
   simp only at hr1 hr2
   clear hR
   have HR1 := hide hr1
   have HR2 := hide hr2
   clear hr1 hr2
   go_enter Tryz.func97, Tryz.ntmps97
   have HB := hide (Below.refl w.heap.size w)
   go_wp2_with fail
   refine at_world fun W hW => ?_
   have bq0 : Blk W w.heap.size 33 #[.int .i64 gx, .int .i64 gy, .int .i64 gs, .int .i64 wi, .int .i64 hi] := by rw [hW]; exact Blk.new _ _ _
   have LW : Later w W := by rw [hW]; exact ((Below.refl _ _).alloc (Nat.le_refl _) _)
   have szW : W.heap.size = w.heap.size + 1 := by rw [hW]; simp
   clear hW
   replace HB := hide (onward HB.out LW)
   have Hf := hide bq0
   clear bq0 LW szW
   refine (Hg.out _).mono ?_
   rintro e w1 ⟨rfl, hb⟩
   replace HB := hide (onward HB.out hb)
   replace Hf := hide (blk_later Hf.out hb)
   clear hb
   obtain ⟨q0, q1, q2, q3, q4⟩ := Hf.out.c5
   have ltf := Hf.out.lt
   go_wp2
   refine bodyPost_ret (v := .tuple #[.int .i64 ra, .int .i64 rb]) (by rw [HR1.out, HR2.out]; simp [results, Tryz.results97, go_sem]) rfl ⟨rfl, HB.out⟩
  by_cases g3 : y < gy
  ·
   rw [if_pos (by omega)] at hR
   have hr1 := congrArg Prod.fst hR
   have hr2 := congrArg Prod.snd hR
   simp only at hr1 hr2
   clear hR
   have HR1 := hide hr1
   have HR2 := hide hr2
   clear hr1 hr2
   go_enter Tryz.func97, Tryz.ntmps97
   have HB := hide (Below.refl w.heap.size w)
   go_wp2_with fail
   refine at_world fun W hW => ?_
   have bq0 : Blk W w.heap.size 33 #[.int .i64 gx, .int .i64 gy, .int .i64 gs, .int .i64 wi, .int .i64 hi] := by rw [hW]; exact Blk.new _ _ _
   have LW : Later w W := by rw [hW]; exact ((Below.refl _ _).alloc (Nat.le_refl _) _)
   have szW : W.heap.size = w.heap.size + 1 := by rw [hW]; simp
   clear hW
   replace HB := hide (onward HB.out LW)
   have Hf := hide bq0
   clear bq0 LW szW
   refine (Hg.out _).mono ?_
   rintro e w1 ⟨rfl, hb⟩
   replace HB := hide (onward HB.out hb)
   replace Hf := hide (blk_later Hf.out hb)
   clear hb
   obtain ⟨q0, q1, q2, q3, q4⟩ := Hf.out.c5
   have ltf := Hf.out.lt
   go_wp2
   refine bodyPost_ret (v := .tuple #[.int .i64 ra, .int .i64 rb]) (by rw [HR1.out, HR2.out]; simp [results, Tryz.results97, go_sem]) rfl ⟨rfl, HB.out⟩
  by_cases g4 : gy + hi * gs ≤ y
  ·
   rw [if_pos (by omega)] at hR
   have hr1 := congrArg Prod.fst hR
   have hr2 := congrArg Prod.snd hR
   simp only at hr1 hr2
   clear hR
   have HR1 := hide hr1
   have HR2 := hide hr2
   clear hr1 hr2
   go_enter Tryz.func97, Tryz.ntmps97
   have HB := hide (Below.refl w.heap.size w)
   go_wp2_with fail
   refine at_world fun W hW => ?_
   have bq0 : Blk W w.heap.size 33 #[.int .i64 gx, .int .i64 gy, .int .i64 gs, .int .i64 wi, .int .i64 hi] := by rw [hW]; exact Blk.new _ _ _
   have LW : Later w W := by rw [hW]; exact ((Below.refl _ _).alloc (Nat.le_refl _) _)
   have szW : W.heap.size = w.heap.size + 1 := by rw [hW]; simp
   clear hW
   replace HB := hide (onward HB.out LW)
   have Hf := hide bq0
   clear bq0 LW szW
   refine (Hg.out _).mono ?_
   rintro e w1 ⟨rfl, hb⟩
   replace HB := hide (onward HB.out hb)
   replace Hf := hide (blk_later Hf.out hb)
   clear hb
   obtain ⟨q0, q1, q2, q3, q4⟩ := Hf.out.c5
   have ltf := Hf.out.lt
   go_wp2
   refine bodyPost_ret (v := .tuple #[.int .i64 ra, .int .i64 rb]) (by rw [HR1.out, HR2.out]; simp [results, Tryz.results97, go_sem]) rfl ⟨rfl, HB.out⟩
  obtain ⟨p1, p2⟩ := pix_bd (gx := gx) (x := x) (wi := wi) c1 (by omega) (by omega)
  obtain ⟨p3, p4⟩ := pix_bd (gx := gy) (x := y) (wi := hi) c1 (by omega) (by omega)
  obtain ⟨r1, r2⟩ := mul_bdB (a := (y - gy) / gs) (b := wi) (A := 64) (B := 64) p3 (by omega) (by omega) d2
  have c3 : gs ≠ 0 := by omega
  have c4 : 0 < gs := by omega
  have hc : ¬ (x < gx ∨ y < gy ∨ gx + wi * gs ≤ x ∨ gy + hi * gs ≤ y) := by omega
  rw [if_neg hc] at hR
  rw [if_neg (by omega)] at hR
  clear hc
  have hr1 := congrArg Prod.fst hR
  have hr2 := congrArg Prod.snd hR
  simp only at hr1 hr2
  clear hR
  have HR1 := hide hr1
  have HR2 := hide hr2
  clear hr1 hr2
  go_enter Tryz.func97, Tryz.ntmps97
  have HB := hide (Below.refl w.heap.size w)
  go_wp2_with fail
  refine at_world fun W hW => ?_
  have bq0 : Blk W w.heap.size 33 #[.int .i64 gx, .int .i64 gy, .int .i64 gs, .int .i64 wi, .int .i64 hi] := by rw [hW]; exact Blk.new _ _ _
  have LW : Later w W := by rw [hW]; exact ((Below.refl _ _).alloc (Nat.le_refl _) _)
  have szW : W.heap.size = w.heap.size + 1 := by rw [hW]; simp
  clear hW
  replace HB := hide (onward HB.out LW)
  have Hf := hide bq0
  clear bq0 LW szW
  refine (Hg.out _).mono ?_
  rintro e w1 ⟨rfl, hb⟩
  replace HB := hide (onward HB.out hb)
  replace Hf := hide (blk_later Hf.out hb)
  clear hb
  obtain ⟨q0, q1, q2, q3, q4⟩ := Hf.out.c5
  have ltf := Hf.out.lt
  go_wp2_with fail
  apply wp_region_L (w0 := w1) [[], [], [], [], [], [], [], [], [], [], [], [], [], [], [], [], [], [], [], []] [true, true, true, true, true, true, true, true, true, true, true, true, true, true, true, true, true, true, true, true] [] (fun ixq y => match ixq with  | _ => undef) (fun ixq x F wq => match ixq with  | _ => True) (fun a x => a) (by kernel_rfl) (by kernel_rfl) (fun _ => rfl) [] (by kernel_rfl)
  ·
   intro x D hD
   have hne := hD.some
   have k0 := liftB hD q0 (by first | assumption | omega)
   have k1 := liftB hD q1 (by first | assumption | omega)
   have k2 := liftB hD q2 (by first | assumption | omega)
   have k3 := liftB hD q3 (by first | assumption | omega)
   simp only [takeOps, Act.put, List.setIfInBounds_toArray, List.set_cons_succ, List.set_cons_zero]
   repeat (go_big_quiet_step (fail))
   exact wpQuiet_nil rfl
  · exact fun _ h => absurd h (by simp)
  · exact trivial
  · exact trivial
  intro xx w2 F hL hlv1
  clear hlv1
  clear q0 q1 q2 q3 q4 ltf
  replace HB := hide (onward HB.out hL)
  replace Hf := hide (blk_later Hf.out hL)
  clear hL
  go_wp2
  refine bodyPost_ret (v := .tuple #[.int .i64 ra, .int .i64 rb]) (by rw [HR1.out, HR2.out]; simp [results, Tryz.results97, go_sem]) rfl ⟨rfl, HB.out⟩
 ·
  rw [if_pos h0] at hR
  have hr1 := congrArg Prod.fst hR
  have hr2 := congrArg Prod.snd hR
  simp only at hr1 hr2
  have h00 : (ge != 0) = true := by simpa [bne] using h0
  clear hR
  have HR1 := hide hr1
  have HR2 := hide hr2
  clear hr1 hr2
  go_enter Tryz.func97, Tryz.ntmps97
  have HB := hide (Below.refl w.heap.size w)
  go_wp2_with fail
  refine at_world fun W hW => ?_
  have bq0 : Blk W w.heap.size 33 #[.int .i64 gx, .int .i64 gy, .int .i64 gs, .int .i64 wi, .int .i64 hi] := by rw [hW]; exact Blk.new _ _ _
  have LW : Later w W := by rw [hW]; exact ((Below.refl _ _).alloc (Nat.le_refl _) _)
  have szW : W.heap.size = w.heap.size + 1 := by rw [hW]; simp
  clear hW
  replace HB := hide (onward HB.out LW)
  have Hf := hide bq0
  clear bq0 LW szW
  refine (Hg.out _).mono ?_
  rintro e w1 ⟨rfl, hb⟩
  replace HB := hide (onward HB.out hb)
  replace Hf := hide (blk_later Hf.out hb)
  clear hb
  obtain ⟨q0, q1, q2, q3, q4⟩ := Hf.out.c5
  have ltf := Hf.out.lt
  go_wp2
  refine bodyPost_ret (v := .tuple #[.int .i64 ra, .int .i64 rb]) (by rw [HR1.out, HR2.out]; simp [results, Tryz.results97, go_sem]) rfl ⟨rfl, HB.out⟩
set_option maxHeartbeats 2000000 in
set_option maxRecDepth 100000 in
theorem RefSector_any (n a X Y : Int) (w : World) (h1 : 1 ≤ n) (h2 : n ≤ 180) (h3 : 0 ≤ a) (h4 : a < 4 * n) (hX : -6000000 ≤ X ∧ X ≤ 6000000) (hY : -6000000 ≤ Y ∧ Y ≤ 6000000) :
  Calls Tryz.prog 87 #[.int .i64 n, .int .i64 a, .int .i64 X, .int .i64 Y] w fun e w' => e = .returned (.bool (sectorB n a X Y)) ∧ w = w' := by
 have hd := fun W => RefDirection_any n a W
 have m0 := Int.emod_nonneg (a + 1) (show 4 * n ≠ 0 by omega)
 have m1 := Int.emod_lt_of_pos (a + 1) (show 0 < 4 * n by omega)
 have hd2 := fun W => RefDirection_any n ((a + 1) % (4 * n)) W
 have ok : ∀ b, 0 ≤ b → b < 4 * n → okD n b = true := fun b b0 b1 => by unfold okD; rw [winB_iff.2 ⟨h1, h2⟩, winB_iff.2 ⟨b0, by omega⟩]; rfl
 unfold dirR at hd hd2
 rw [if_pos (ok a h3 h4)] at hd
 rw [if_pos (ok _ m0 m1)] at hd2
 have bd1 := dirV_bd h1 h2 h3 h4
 have bd2 := dirV_bd h1 h2 m0 m1
 unfold vecE at hd hd2
 unfold sectorB
 obtain ⟨b, hb⟩ : ∃ b, (a + 1) % (4 * n) = b := ⟨_, rfl⟩
 have n0 : 4 * n ≠ 0 := by omega
 have n1 : 0 < 4 * n := by omega
 rw [hb] at hd2 bd2 m0 m1
 rw [hb]
 generalize dirV n a = u at *
 generalize dirV n b = v at *
 obtain ⟨p1, p2, p3⟩ := u
 obtain ⟨r1, r2, r3⟩ := v
 simp only at *
 obtain ⟨⟨u1, u2⟩, ⟨u3, u4⟩, -, -⟩ := bd1
 obtain ⟨⟨v1, v2⟩, ⟨v3, v4⟩, -, -⟩ := bd2
 obtain ⟨k1, k2⟩ := prod_bdQ (A := 64800) (B := 6000000) (by omega) (by omega) ⟨u3, u4⟩ hX
 obtain ⟨k3, k4⟩ := prod_bdQ (A := 64800) (B := 6000000) (by omega) (by omega) ⟨u1, u2⟩ hY
 obtain ⟨k5, k6⟩ := prod_bdQ (A := 6000000) (B := 64800) (by omega) (by omega) hY ⟨v1, v2⟩
 obtain ⟨k7, k8⟩ := prod_bdQ (A := 6000000) (B := 64800) (by omega) (by omega) hX ⟨v3, v4⟩
 clear ok
 by_cases g1 : 0 ≤ p2 * X - p1 * Y <;> by_cases g2 : 0 < Y * r1 - X * r2
 all_goals
  have g3 := g1
  have g4 := g2
  have Hd := hide hd
  have Hd2 := hide hd2
  have G3 := hide g3
  have G4 := hide g4
  clear hd hd2 g3 g4
  go_enter Tryz.func87, Tryz.ntmps87
  go_wp2_with fail
  refine (Hd.out _).mono ?_
  rintro e w' ⟨rfl, rfl⟩
  go_wp2_with fail
  refine (Hd2.out _).mono ?_
  rintro e w' ⟨rfl, rfl⟩
  go_wp2
  go_ret
  refine ⟨?_, rfl⟩
  have a3 := G3.out
  have a4 := G4.out
  simp
  omega
end Go.Proofs.YtepgpihobmjbdaaGreat
end
section
namespace Go.Proofs.YtepgpihobmjbdaaGreat
open Go Go.RowKit
attribute [local go_sem] fieldSpan0 fieldSpan1
set_option maxHeartbeats 2000000 in
set_option maxRecDepth 100000 in
theorem Border_any (s : ByteArray) (x y z r g st wd t j : Int) (w : World) (h1 : 0 ≤ st) (h1' : st ≤ 2000) (h2 : 0 ≤ t) (h3 : t ≤ 256) (h4 : 0 ≤ j) (h5 : j ≤ 200) :
  Calls Tryz.prog 86 #[siteV s x y z r g st wd, .int .i64 t, .int .i64 j] w fun e w' => e = .returned (.int .i64 (bord st t j)) ∧ Below w.heap.size w w' := by
 have hs := fun W => RefSlant_any t W
 unfold slantR at hs
 simp only [if_pos (winB_iff.2 ⟨show -8 ≤ t by omega, show t ≤ 264 by omega⟩)] at hs
 unfold vecE slantV at hs
 simp only at hs
 obtain ⟨b1, b2, b3, b4, b5, b6⟩ := bord_bd h1 h1' h2 h3 h4 h5
 obtain ⟨t1, t2⟩ := tilt_bd (show -8 ≤ t by omega) (show t ≤ 264 by omega)
 have hB : bord st t j = j * st * (262144 - t * t) / (262144 + t * t) := rfl
 rw [hB]
 clear hB b5 b6
 have hd := fun W => Down_any (j * st * (262144 - t * t)) (262144 + t * t) W (by omega) (by omega) (by omega) (by omega)
 unfold siteV
 have Hs := hide hs
 have Hd := hide hd
 clear hs hd
 go_enter Tryz.func86, Tryz.ntmps86
 have HB := hide (Below.refl w.heap.size w)
 go_wp2_with fail
 refine at_world fun W hW => ?_
 have bq0 : Blk W w.heap.size 28 #[.string s, .int .i64 x, .int .i64 y, .int .i64 z, .int .i64 r, .int .i64 g, .int .i64 st, .int .i64 wd] := by rw [hW]; exact Blk.new _ _ _
 have LW : Later w W := by rw [hW]; exact ((Below.refl _ _).alloc (Nat.le_refl _) _)
 have szW : W.heap.size = w.heap.size + 1 := by rw [hW]; simp
 clear hW
 replace HB := hide (onward HB.out LW)
 have Hq := hide bq0
 clear bq0 LW szW
 refine (Hs.out _).mono ?_
 rintro e w' ⟨rfl, rfl⟩
 obtain ⟨q0, q1, q2, q3, q4, q5, q6, q7⟩ := Hq.out.site8
 have lts := Hq.out.lt
 go_wp2_with fail
 refine (Hd.out _).mono ?_
 rintro e w' ⟨rfl, rfl⟩
 go_wp2
 go_ret
 exact ⟨rfl, HB.out⟩
set_option maxHeartbeats 2000000 in
set_option maxRecDepth 100000 in
theorem RefPlace_any (s : ByteArray) (sx sy z r g st wd t ray gate : Int) (w : World) (hs : s.size ≤ 9223372036854775807) :
  Calls Tryz.prog 78 #[siteV s sx sy z r g st wd, .int .i64 t, .int .i64 ray, .int .i64 gate] w fun e w' => e = .returned (twoE (placeR (siteE (nameB s) sx sy z r g st wd) t ray gate g sx sy r st)) ∧ Below w.heap.size w w' := by
 have hcs := fun W => RefCheckSite_any s sx sy z r g st wd W hs
 have hR : ∀ e, siteE (nameB s) sx sy z r g st wd = e → placeR (siteE (nameB s) sx sy z r g st wd) t ray gate g sx sy r st = if e ≠ 0 then ((0, 0), e) else if (winB t 0 256 && winB ray 0 (4 * r - 1) && winB gate 0 (g - 1)) = true then (placeZ sx sy r st t ray gate, 0) else ((0, 0), 3) := fun e he => by rw [he]; rfl
 obtain ⟨er, her⟩ : ∃ e, siteE (nameB s) sx sy z r g st wd = e := ⟨_, rfl⟩
 replace hR := hR er her
 have hok := fun h : er = 0 => siteE_ok (her.trans h)
 generalize placeR (siteE (nameB s) sx sy z r g st wd) t ray gate g sx sy r st = res at *
 rw [her] at hcs
 clear her
 unfold siteV at *
 have Hcs := hide hcs
 have Hok := hide hok
 clear hcs hok
 by_cases h0 : er = 0
 ·
  subst h0
  obtain ⟨-, s1, s2, s3, s4, s5, s6, s7, s8, s9, s10, s11, s12, s13, s14⟩ := Hok.out rfl
  rw [if_neg (by simp)] at hR
  by_cases g1 : winB t 0 256 = true
  ·
   obtain ⟨t1, t2⟩ := winB_iff.1 g1
   by_cases g2 : winB ray 0 (4 * r - 1) = true
   ·
    obtain ⟨t3, t4⟩ := winB_iff.1 g2
    by_cases g3 : winB gate 0 (g - 1) = true
    ·
     obtain ⟨t5, t6⟩ := winB_iff.1 g3
     rw [if_pos (by rw [g1, g2, g3]; rfl)] at hR
     have hd := fun W => RefDirection_any (2 * r) (2 * ray + 1) W
     unfold dirR okD at hd
     simp only [winB_iff.2 ⟨show 1 ≤ 2 * r by omega, show 2 * r ≤ 180 by omega⟩, winB_iff.2 ⟨show 0 ≤ 2 * ray + 1 by omega, show 2 * ray + 1 ≤ 4 * (2 * r) - 1 by omega⟩, Bool.and_self, if_true] at hd
     unfold vecE at hd
     have hr := fun W => refground_any s sx sy z r g st wd t gate W (by omega) (by omega) (by omega) (by omega) (by omega) (by omega)
     obtain ⟨b1, b2⟩ := rD_bd (st := st) (gate := gate) (t := t) (by omega) (by omega) (by omega) (by omega) (by omega) (by omega)
     obtain ⟨⟨v1, v2⟩, ⟨v3, v4⟩, v5, v6⟩ := dirV_bd (n := 2 * r) (a := 2 * ray + 1) (by omega) (by omega) (by omega) (by omega)
     have hP : placeZ sx sy r st t ray gate = (sx + rD st gate t * (dirV (2 * r) (2 * ray + 1)).x / (dirV (2 * r) (2 * ray + 1)).l, sy + rD st gate t * (dirV (2 * r) (2 * ray + 1)).y / (dirV (2 * r) (2 * ray + 1)).l) := rfl
     rw [hP] at hR
     unfold siteV at hr
     clear hP
     generalize dirV (2 * r) (2 * ray + 1) = v at *
     obtain ⟨vx, vy, vl⟩ := v
     simp only at *
     generalize rD st gate t = q at *
     generalize rU st gate t = qu at *
     obtain ⟨m1, m2⟩ := prod_bdQ (A := 600000) (B := 64800) (by omega) (by omega) ⟨by omega, b2⟩ ⟨v1, v2⟩
     obtain ⟨n1, n2⟩ := prod_bdQ (A := 600000) (B := 64800) (by omega) (by omega) ⟨by omega, b2⟩ ⟨v3, v4⟩
     obtain ⟨o1, o2⟩ := quot_bd (b := vl) (M := 38880000000) v5 (by omega) (show -38880000000 ≤ q * vx by omega) (by omega)
     obtain ⟨p1, p2⟩ := quot_bd (b := vl) (M := 38880000000) v5 (by omega) (show -38880000000 ≤ q * vy by omega) (by omega)
     have hc1 := fun W => Down_any (q * vx) vl W (by omega) (by omega) (by omega) (by omega)
     have hc2 := fun W => Down_any (q * vy) vl W (by omega) (by omega) (by omega) (by omega)
     have Hd := hide hd
     have Hr := hide hr
     have C1 := hide hc1
     have C2 := hide hc2
     have HR := hide hR
     clear hd hr hc1 hc2 hR
     go_enter Tryz.func78, Tryz.ntmps78
     have HB := hide (Below.refl w.heap.size w)
     go_wp2_with fail
     refine at_world fun W hW => ?_
     have bq0 : Blk W w.heap.size 28 #[.string s, .int .i64 sx, .int .i64 sy, .int .i64 z, .int .i64 r, .int .i64 g, .int .i64 st, .int .i64 wd] := by rw [hW]; exact Blk.new _ _ _
     have LW : Later w W := by rw [hW]; exact ((Below.refl _ _).alloc (Nat.le_refl _) _)
     have szW : W.heap.size = w.heap.size + 1 := by rw [hW]; simp
     clear hW
     replace HB := hide (onward HB.out LW)
     have Hq := hide bq0
     clear bq0 LW szW
     refine (Hcs.out _).mono ?_
     rintro e w1 ⟨rfl, hb⟩
     replace HB := hide (onward HB.out hb)
     replace Hq := hide (blk_later Hq.out hb)
     clear hb
     obtain ⟨q0, q1, q2, q3, q4, q5, q6, q7⟩ := Hq.out.site8
     have lts := Hq.out.lt
     go_wp2_with fail
     refine (In_anyQ _ _ _ _).mono ?_
     rintro e w' ⟨rfl, rfl⟩
     rw [g1]
     go_wp2_with fail
     refine (In_anyQ _ _ _ _).mono ?_
     rintro e w' ⟨rfl, rfl⟩
     rw [g2]
     go_wp2_with fail
     refine (In_anyQ _ _ _ _).mono ?_
     rintro e w' ⟨rfl, rfl⟩
     rw [g3]
     clear g1 g2 g3
     go_wp2_with fail
     refine (Hd.out _).mono ?_
     rintro e w' ⟨rfl, rfl⟩
     go_wp2_with fail
     refine (Hr.out _).mono ?_
     rintro e w2 ⟨rfl, hb⟩
     replace HB := hide (onward HB.out hb)
     replace Hq := hide (blk_later Hq.out hb)
     clear hb
     clear q0 q1 q2 q3 q4 q5 q6 q7 lts
     obtain ⟨q0, q1, q2, q3, q4, q5, q6, q7⟩ := Hq.out.site8
     have lts := Hq.out.lt
     go_wp2_with fail
     apply wp_region_L (w0 := w2) [[], [], [], [], [], [], [], [], [], [], [], [], [], [], [], [], [], [], []] [true, true, true, true, true, true, true, true, true, true, true, true, true, true, true, true, true, true, true] [] (fun ixq y => match ixq with  | _ => undef) (fun ixq x F wq => match ixq with  | _ => True) (fun a x => a) (by kernel_rfl) (by kernel_rfl) (fun _ => rfl) [65, 73] (by kernel_rfl)
     ·
      intro x D hD
      have hne := hD.some
      have k1 := liftB hD q1 (by first | assumption | omega)
      have k2 := liftB hD q2 (by first | assumption | omega)
      simp only [takeOps, Act.put, List.setIfInBounds_toArray, List.set_cons_succ, List.set_cons_zero]
      repeat (go_big_quiet_step ((go_at_call 26; first | (with_reducible exact calls_same _ (C1.out _)) | (with_reducible exact calls_same _ (C2.out _)))))
      exact wpQuiet_nil rfl
     ·
      intro d hd x x'
      simp only [List.mem_cons, List.not_mem_nil, or_false] at hd
      rcases hd with rfl | rfl
      all_goals rfl
     · exact trivial
     · exact trivial
     intro xx w3 F hL hlv1
     clear hlv1
     clear q0 q1 q2 q3 q4 q5 q6 q7 lts
     replace HB := hide (onward HB.out hL)
     replace Hq := hide (blk_later Hq.out hL)
     clear hL
     go_wp2
     refine bodyPost_ret (v := twoE res) (by rw [HR.out]; simp [twoE, results, Tryz.results78, go_sem]) rfl ⟨rfl, HB.out⟩
    ·
     have g4 : winB gate 0 (g - 1) = false := by simpa using g3
     rw [if_neg (by rw [g4]; simp)] at hR
     have HR := hide hR
     clear hR
     clear g3
     go_enter Tryz.func78, Tryz.ntmps78
     have HB := hide (Below.refl w.heap.size w)
     go_wp2_with fail
     refine at_world fun W hW => ?_
     have bq0 : Blk W w.heap.size 28 #[.string s, .int .i64 sx, .int .i64 sy, .int .i64 z, .int .i64 r, .int .i64 g, .int .i64 st, .int .i64 wd] := by rw [hW]; exact Blk.new _ _ _
     have LW : Later w W := by rw [hW]; exact ((Below.refl _ _).alloc (Nat.le_refl _) _)
     have szW : W.heap.size = w.heap.size + 1 := by rw [hW]; simp
     clear hW
     replace HB := hide (onward HB.out LW)
     have Hq := hide bq0
     clear bq0 LW szW
     refine (Hcs.out _).mono ?_
     rintro e w1 ⟨rfl, hb⟩
     replace HB := hide (onward HB.out hb)
     replace Hq := hide (blk_later Hq.out hb)
     clear hb
     obtain ⟨q0, q1, q2, q3, q4, q5, q6, q7⟩ := Hq.out.site8
     have lts := Hq.out.lt
     go_wp2_with fail
     refine (In_anyQ _ _ _ _).mono ?_
     rintro e w' ⟨rfl, rfl⟩
     rw [g1]
     go_wp2_with fail
     refine (In_anyQ _ _ _ _).mono ?_
     rintro e w' ⟨rfl, rfl⟩
     rw [g2]
     go_wp2_with fail
     refine (In_anyQ _ _ _ _).mono ?_
     rintro e w' ⟨rfl, rfl⟩
     rw [g4]
     go_wp2
     refine bodyPost_ret (v := twoE res) (by rw [HR.out]; simp [twoE, results, Tryz.results78, go_sem]) rfl ⟨rfl, HB.out⟩
   ·
    have g3 : winB ray 0 (4 * r - 1) = false := by simpa using g2
    rw [if_neg (by rw [g3]; simp)] at hR
    have HR := hide hR
    clear hR
    clear g2
    go_enter Tryz.func78, Tryz.ntmps78
    have HB := hide (Below.refl w.heap.size w)
    go_wp2_with fail
    refine at_world fun W hW => ?_
    have bq0 : Blk W w.heap.size 28 #[.string s, .int .i64 sx, .int .i64 sy, .int .i64 z, .int .i64 r, .int .i64 g, .int .i64 st, .int .i64 wd] := by rw [hW]; exact Blk.new _ _ _
    have LW : Later w W := by rw [hW]; exact ((Below.refl _ _).alloc (Nat.le_refl _) _)
    have szW : W.heap.size = w.heap.size + 1 := by rw [hW]; simp
    clear hW
    replace HB := hide (onward HB.out LW)
    have Hq := hide bq0
    clear bq0 LW szW
    refine (Hcs.out _).mono ?_
    rintro e w1 ⟨rfl, hb⟩
    replace HB := hide (onward HB.out hb)
    replace Hq := hide (blk_later Hq.out hb)
    clear hb
    obtain ⟨q0, q1, q2, q3, q4, q5, q6, q7⟩ := Hq.out.site8
    have lts := Hq.out.lt
    go_wp2_with fail
    refine (In_anyQ _ _ _ _).mono ?_
    rintro e w' ⟨rfl, rfl⟩
    rw [g1]
    go_wp2_with fail
    refine (In_anyQ _ _ _ _).mono ?_
    rintro e w' ⟨rfl, rfl⟩
    rw [g3]
    go_wp2
    refine bodyPost_ret (v := twoE res) (by rw [HR.out]; simp [twoE, results, Tryz.results78, go_sem]) rfl ⟨rfl, HB.out⟩
  ·
   have g3 : winB t 0 256 = false := by simpa using g1
   rw [if_neg (by rw [g3]; simp)] at hR
   have HR := hide hR
   clear hR
   clear g1
   go_enter Tryz.func78, Tryz.ntmps78
   have HB := hide (Below.refl w.heap.size w)
   go_wp2_with fail
   refine at_world fun W hW => ?_
   have bq0 : Blk W w.heap.size 28 #[.string s, .int .i64 sx, .int .i64 sy, .int .i64 z, .int .i64 r, .int .i64 g, .int .i64 st, .int .i64 wd] := by rw [hW]; exact Blk.new _ _ _
   have LW : Later w W := by rw [hW]; exact ((Below.refl _ _).alloc (Nat.le_refl _) _)
   have szW : W.heap.size = w.heap.size + 1 := by rw [hW]; simp
   clear hW
   replace HB := hide (onward HB.out LW)
   have Hq := hide bq0
   clear bq0 LW szW
   refine (Hcs.out _).mono ?_
   rintro e w1 ⟨rfl, hb⟩
   replace HB := hide (onward HB.out hb)
   replace Hq := hide (blk_later Hq.out hb)
   clear hb
   obtain ⟨q0, q1, q2, q3, q4, q5, q6, q7⟩ := Hq.out.site8
   have lts := Hq.out.lt
   go_wp2_with fail
   refine (In_anyQ _ _ _ _).mono ?_
   rintro e w' ⟨rfl, rfl⟩
   rw [g3]
   go_wp2
   refine bodyPost_ret (v := twoE res) (by rw [HR.out]; simp [twoE, results, Tryz.results78, go_sem]) rfl ⟨rfl, HB.out⟩
 ·
  rw [if_pos h0] at hR
  have h00 : (er != 0) = true := by simpa [bne] using h0
  have HR := hide hR
  clear hR
  go_enter Tryz.func78, Tryz.ntmps78
  have HB := hide (Below.refl w.heap.size w)
  go_wp2_with fail
  refine at_world fun W hW => ?_
  have bq0 : Blk W w.heap.size 28 #[.string s, .int .i64 sx, .int .i64 sy, .int .i64 z, .int .i64 r, .int .i64 g, .int .i64 st, .int .i64 wd] := by rw [hW]; exact Blk.new _ _ _
  have LW : Later w W := by rw [hW]; exact ((Below.refl _ _).alloc (Nat.le_refl _) _)
  have szW : W.heap.size = w.heap.size + 1 := by rw [hW]; simp
  clear hW
  replace HB := hide (onward HB.out LW)
  have Hq := hide bq0
  clear bq0 LW szW
  refine (Hcs.out _).mono ?_
  rintro e w1 ⟨rfl, hb⟩
  replace HB := hide (onward HB.out hb)
  replace Hq := hide (blk_later Hq.out hb)
  clear hb
  obtain ⟨q0, q1, q2, q3, q4, q5, q6, q7⟩ := Hq.out.site8
  have lts := Hq.out.lt
  go_wp2
  refine bodyPost_ret (v := twoE res) (by rw [HR.out]; simp [twoE, results, Tryz.results78, go_sem]) rfl ⟨rfl, HB.out⟩
end Go.Proofs.YtepgpihobmjbdaaGreat
end
section
namespace Go.Proofs.YtepgpihobmjbdaaGreat
open Go Go.RowKit
set_option maxHeartbeats 2000000 in
set_option maxRecDepth 100000 in
theorem RefFind_any (s : ByteArray) (sx sy z r g st wd t x y : Int) (w : World) (hs : s.size ≤ 9223372036854775807) :
  Calls Tryz.prog 60 #[siteV s sx sy z r g st wd, .int .i64 t, .int .i64 x, .int .i64 y] w fun e w' => e = .returned (twoE (findR (siteE (nameB s) sx sy z r g st wd) t r st g sx sy x y)) ∧ Below w.heap.size w w' := by
 have hcs := fun W => RefCheckSite_any s sx sy z r g st wd W hs
 have hR : ∀ e, siteE (nameB s) sx sy z r g st wd = e → findR (siteE (nameB s) sx sy z r g st wd) t r st g sx sy x y = if e ≠ 0 then ((0, 0), e) else if (winB t 0 256 && winB x (-4194304) 4194304 && winB y (-4194304) 4194304) = true then (if (findZ r st t g (x - sx) (y - sy)).2 = true then ((findZ r st t g (x - sx) (y - sy)).1, 0) else ((0, 0), 29)) else ((0, 0), 3) := fun e he => by rw [he]; rfl
 obtain ⟨er, her⟩ : ∃ e, siteE (nameB s) sx sy z r g st wd = e := ⟨_, rfl⟩
 replace hR := hR er her
 have hok := fun h : er = 0 => siteE_ok (her.trans h)
 generalize findR (siteE (nameB s) sx sy z r g st wd) t r st g sx sy x y = res at *
 rw [her] at hcs
 clear her
 unfold siteV at *
 have Hcs := hide hcs
 have Hok := hide hok
 clear hcs hok
 by_cases h0 : er = 0
 ·
  subst h0
  obtain ⟨-, s1, s2, s3, s4, s5, s6, s7, s8, s9, s10, s11, s12, s13, s14⟩ := Hok.out rfl
  rw [if_neg (by simp)] at hR
  by_cases g1 : winB t 0 256 = true
  ·
   obtain ⟨t1, t2⟩ := winB_iff.1 g1
   by_cases g2 : winB x (-4194304) 4194304 = true
   ·
    obtain ⟨t3, t4⟩ := winB_iff.1 g2
    by_cases g3 : winB y (-4194304) 4194304 = true
    ·
     obtain ⟨t5, t6⟩ := winB_iff.1 g3
     rw [if_pos (by rw [g1, g2, g3]; rfl)] at hR
     have x1 : -5300000 ≤ x - sx := by omega
     have x2 : x - sx ≤ 5300000 := by omega
     have y1 : -5300000 ≤ y - sy := by omega
     have y2 : y - sy ≤ 5300000 := by omega
     have hbord := fun W j (a : 0 ≤ j) (b : j ≤ 200) => Border_any s sx sy z r g st wd t j W (by omega) (by omega) t1 t2 a b
     have hbo := fun j (a : 0 ≤ j) (b : j ≤ 200) => bord_bd (st := st) (t := t) (j := j) (by omega) s12 t1 t2 a b
     have hbo' : ∀ j, 0 ≤ j → j ≤ 200 → 0 ≤ bord st t j ∧ bord st t j ≤ 400000 := fun j a b => (hbo j a b).2.2.2.2
     clear hbo
     unfold siteV at hbord
     have X1 : -5300000 ≤ x - sx ∧ x - sx ≤ 5300000 := ⟨x1, x2⟩
     have Y1 : -5300000 ≤ y - sy ∧ y - sy ≤ 5300000 := ⟨y1, y2⟩
     obtain ⟨dx, hdx⟩ : ∃ d, x - sx = d := ⟨_, rfl⟩
     obtain ⟨dy, hdy⟩ := (⟨_, rfl⟩ : ∃ d, y - sy = d)
     rw [hdx, hdy] at hR
     rw [hdx] at X1
     rw [hdy] at Y1
     obtain ⟨u1, u2⟩ := sq_pos X1
     obtain ⟨v1, v2⟩ := sq_pos Y1
     have Hbd := hide hbord
     have Hbo := hide hbo'
     have Hdx := hide hdx
     have Hdy := hide hdy
     clear hbord hbo' hdx hdy
     by_cases hz : dx = 0 ∧ dy = 0
     ·
      have hF : findZ r st t g dx dy = ((0, 0), true) := by unfold findZ; rw [if_pos hz]
      rw [hF, if_pos rfl] at hR
      have z1 : (dx == 0) = true := by simpa using hz.1
      have z2 : (dy == 0) = true := by simpa using hz.2
      clear hz hF
      have HR := hide hR
      have Z1 := hide z1
      have Z2 := hide z2
      clear hR z1 z2
      go_enter Tryz.func60, Tryz.ntmps60
      have HB := hide (Below.refl w.heap.size w)
      go_wp2_with fail
      refine at_world fun W hW => ?_
      have bq0 : Blk W w.heap.size 28 #[.string s, .int .i64 sx, .int .i64 sy, .int .i64 z, .int .i64 r, .int .i64 g, .int .i64 st, .int .i64 wd] := by rw [hW]; exact Blk.new _ _ _
      have LW : Later w W := by rw [hW]; exact ((Below.refl _ _).alloc (Nat.le_refl _) _)
      have szW : W.heap.size = w.heap.size + 1 := by rw [hW]; simp
      clear hW
      replace HB := hide (onward HB.out LW)
      have Hq := hide bq0
      clear bq0 LW szW
      refine (Hcs.out _).mono ?_
      rintro e w1 ⟨rfl, hb⟩
      replace HB := hide (onward HB.out hb)
      replace Hq := hide (blk_later Hq.out hb)
      clear hb
      obtain ⟨q0, q1, q2, q3, q4, q5, q6, q7⟩ := Hq.out.site8
      have lts := Hq.out.lt
      go_wp2_with fail
      refine (In_anyQ _ _ _ _).mono ?_
      rintro e w' ⟨rfl, rfl⟩
      rw [g1]
      go_wp2_with fail
      refine (In_anyQ _ _ _ _).mono ?_
      rintro e w' ⟨rfl, rfl⟩
      rw [g2]
      go_wp2_with fail
      refine (In_anyQ _ _ _ _).mono ?_
      rintro e w' ⟨rfl, rfl⟩
      rw [g3]
      clear g1 g2 g3
      go_wp2_with fail
      apply wp_region_L (w0 := w1) [[], [], [], [], [], [], [], [], [], []] [true, true, true, true, true, true, true, true, true, true] [] (fun ixq y => match ixq with  | _ => undef) (fun ixq x F wq => match ixq with  | _ => True) (fun a x => a) (by kernel_rfl) (by kernel_rfl) (fun _ => rfl) [] (by kernel_rfl)
      ·
       intro x D hD
       have hne := hD.some
       have k1 := liftB hD q1 (by first | assumption | omega)
       have k2 := liftB hD q2 (by first | assumption | omega)
       simp only [takeOps, Act.put, List.setIfInBounds_toArray, List.set_cons_succ, List.set_cons_zero]
       repeat (go_big_quiet_step (fail))
       exact wpQuiet_nil rfl
      · exact fun _ h => absurd h (by simp)
      · exact trivial
      · exact trivial
      intro xx w2 F hL hlv1
      clear hlv1
      clear q0 q1 q2 q3 q4 q5 q6 q7 lts
      replace HB := hide (onward HB.out hL)
      replace Hq := hide (blk_later Hq.out hL)
      clear hL
      simp only [Hdx.out, Hdy.out]
      have kk1 := Z1.out
      have kk2 := Z2.out
      go_wp2
      refine bodyPost_ret (v := twoE res) (by rw [HR.out]; simp [twoE, results, Tryz.results60, go_sem]) rfl ⟨rfl, HB.out⟩
     ·
      obtain ⟨ry0, ry1, ry2⟩ := ray_spec s7 hz
      have hun : ∀ a, 0 ≤ a → a < 4 * r → a ≠ rayZ r dx dy → sectorB r a dx dy = false := fun a a0 a1 hne => by
       cases hb : sectorB r a dx dy with
       | false => rfl
       | true => exact absurd (sector_uniq s7 a0 a1 ry0 ry1 hb ry2) hne
      have hsec := fun W a (a0 : 0 ≤ a) (a1 : a < 4 * r) => RefSector_any r a dx dy W s7 (by omega) a0 a1 ⟨by omega, by omega⟩ ⟨by omega, by omega⟩
      have hF : findZ r st t g dx dy = if gateZ st t g (dx * dx + dy * dy) < 0 then ((0, 0), false) else ((rayZ r dx dy, gateZ st t g (dx * dx + dy * dy)), true) := by unfold findZ; rw [if_neg hz]
      have hgc := gate_cases (st := st) (t := t) (g := g) (w := dx * dx + dy * dy)
      have hgn := fun j => gate_none (st := st) (t := t) (g := g) (w := dx * dx + dy * dy) (j := j)
      have hgu := fun j k => gate_uniq (st := st) (t := t) (w := dx * dx + dy * dy) (j := j) (k := k) (by omega) t1 t2
      have hgate : ∀ w j, gateB st t w j = (decide (bord st t j * bord st t j ≤ w) && decide (w < bord st t (j + 1) * bord st t (j + 1))) := fun w j => rfl
      simp only [hgate] at hgn hgu hgc
      rw [hF] at hR
      clear hF hgate
      generalize gateZ st t g (dx * dx + dy * dy) = gt at *
      generalize rayZ r dx dy = ray at *
      generalize hv : dx * dx + dy * dy = v at *
      obtain ⟨gx, hgx, hgx0, hgx1, hgf⟩ : ∃ gx : Int, (∀ j, 0 ≤ j → j < g → (bord st t j * bord st t j ≤ v ∧ v < bord st t (j + 1) * bord st t (j + 1) ↔ j = gx)) ∧ 0 ≤ gx ∧ gx ≤ g ∧ ((gt < 0 ∧ gx = g) ∨ (¬ gt < 0 ∧ gx = gt ∧ gt < g)) := by
       rcases hgc with hg1 | ⟨hg1, hg2, hg3⟩
       ·
        refine ⟨g, fun j j0 j1 => ⟨fun hh => ?_, fun hh => by omega⟩, by omega, by omega, .inl ⟨by omega, rfl⟩⟩
        have := hgn j hg1 j0 j1
        rw [decide_eq_true hh.1, decide_eq_true hh.2] at this
        cases this
       ·
        refine ⟨gt, fun j j0 j1 => ⟨fun hh => hgu j gt j0 hg1 (by rw [decide_eq_true hh.1, decide_eq_true hh.2]; rfl) hg3, fun hh => ?_⟩, hg1, by omega, .inr ⟨by omega, rfl, hg2⟩⟩
        subst hh
        simpa using hg3
      clear hgn hgu hgc
      rw [← hv] at hgx
      clear hv
      have hz' : dx ≠ 0 ∨ (dx = 0 ∧ dy ≠ 0) := by omega
      have hR1 : gx = g → res = ((0, 0), 29) := fun h => by rw [hR, if_pos (show gt < 0 by omega)]; rfl
      have hR2 : gx < g → res = ((ray, gx), 0) := fun h => by rw [hR, if_neg (show ¬ gt < 0 by omega), show gx = gt by omega]; rfl
      clear hR hgf hz
      have Hgx := hide hgx
      have Hun := hide hun
      have Hsec := hide hsec
      have Hry := hide ry2
      have HR1 := hide hR1
      have HR2 := hide hR2
      clear hgx hun hsec ry2 hR1 hR2
      rcases hz' with z1 | ⟨z1, z2⟩
      ·
       have zz : (dx == 0) = false := by simpa using z1
       have ZZ := hide zz
       clear zz
       clear z1
       go_enter Tryz.func60, Tryz.ntmps60
       have HB := hide (Below.refl w.heap.size w)
       go_wp2_with fail
       refine at_world fun W hW => ?_
       have bq0 : Blk W w.heap.size 28 #[.string s, .int .i64 sx, .int .i64 sy, .int .i64 z, .int .i64 r, .int .i64 g, .int .i64 st, .int .i64 wd] := by rw [hW]; exact Blk.new _ _ _
       have LW : Later w W := by rw [hW]; exact ((Below.refl _ _).alloc (Nat.le_refl _) _)
       have szW : W.heap.size = w.heap.size + 1 := by rw [hW]; simp
       clear hW
       replace HB := hide (onward HB.out LW)
       have Hq := hide bq0
       clear bq0 LW szW
       refine (Hcs.out _).mono ?_
       rintro e w1 ⟨rfl, hb⟩
       replace HB := hide (onward HB.out hb)
       replace Hq := hide (blk_later Hq.out hb)
       clear hb
       obtain ⟨q0, q1, q2, q3, q4, q5, q6, q7⟩ := Hq.out.site8
       have lts := Hq.out.lt
       go_wp2_with fail
       refine (In_anyQ _ _ _ _).mono ?_
       rintro e w' ⟨rfl, rfl⟩
       rw [g1]
       go_wp2_with fail
       refine (In_anyQ _ _ _ _).mono ?_
       rintro e w' ⟨rfl, rfl⟩
       rw [g2]
       go_wp2_with fail
       refine (In_anyQ _ _ _ _).mono ?_
       rintro e w' ⟨rfl, rfl⟩
       rw [g3]
       clear g1 g2 g3
       go_wp2_with fail
       apply wp_region_L (w0 := w1) [[], [], [], [], [], [], [], [], [], []] [true, true, true, true, true, true, true, true, true, true] [] (fun ixq y => match ixq with  | _ => undef) (fun ixq x F wq => match ixq with  | _ => True) (fun a x => a) (by kernel_rfl) (by kernel_rfl) (fun _ => rfl) [] (by kernel_rfl)
       ·
        intro x D hD
        have hne := hD.some
        have k1 := liftB hD q1 (by first | assumption | omega)
        have k2 := liftB hD q2 (by first | assumption | omega)
        simp only [takeOps, Act.put, List.setIfInBounds_toArray, List.set_cons_succ, List.set_cons_zero]
        repeat (go_big_quiet_step (fail))
        exact wpQuiet_nil rfl
       · exact fun _ h => absurd h (by simp)
       · exact trivial
       · exact trivial
       intro xx w2 F hL hlv2
       clear hlv2
       clear q0 q1 q2 q3 q4 q5 q6 q7 lts
       replace HB := hide (onward HB.out hL)
       replace Hq := hide (blk_later Hq.out hL)
       clear hL
       simp only [Hdx.out, Hdy.out]
       have kk := ZZ.out
       go_wp2_with fail
       go_loopw [15] (fun a wr => ∃ k : Int, 0 ≤ k ∧ k ≤ gx ∧ a = .int .i64 k ∧ Below w.heap.size w wr ∧ Blk wr w.heap.size 28 #[.string s, .int .i64 sx, .int .i64 sy, .int .i64 z, .int .i64 r, .int .i64 g, .int .i64 st, .int .i64 wd]) (fun a _ => (g - intOf a).toNat)
       case atStart => exact ⟨0, by omega, by omega, rfl, HB.out, Hq.out⟩
       case round =>
        clear HB Hq
        obtain ⟨k, k0, k1, rfl, hbw, hbq⟩ := hrel
        have HB := hide hbw
        have Hq := hide hbq
        clear hbw hbq
        by_cases hlt : k < g
        ·
         obtain ⟨b5, b6⟩ := Hbo.out k k0 (by omega)
         obtain ⟨e5, e6⟩ := Hbo.out (k + 1) (by omega) (by omega)
         have hc1 := fun W => Hbd.out W k k0 (by omega)
         have hc2 := fun W => Hbd.out W (k + 1) (by omega) (by omega)
         have hgk := Hgx.out k k0 hlt
         generalize bord st t k = lo at *
         generalize bord st t (k + 1) = hi at *
         obtain ⟨sl1, sl2⟩ := mul_bdB b5 b6 b5 b6
         obtain ⟨sh1, sh2⟩ := mul_bdB e5 e6 e5 e6
         have Hgk := hide hgk
         have C1 := hide hc1
         have C2 := hide hc2
         clear hgk hc1 hc2
         obtain ⟨q0, q1, q2, q3, q4, q5, q6, q7⟩ := Hq.out.site8
         have lts := Hq.out.lt
         go_wp2_with fail
         apply wp_region_L (w0 := wr) [[], [], [], [], [], [], [], [], [], [], []] [true, true, true, true, true, true, true, true, true, true, true] [] (fun ixq y => match ixq with  | _ => undef) (fun ixq x F wq => match ixq with  | _ => True) (fun a x => a) (by kernel_rfl) (by kernel_rfl) (fun _ => rfl) [67, 72] (by kernel_rfl)
         ·
          intro x D hD
          have hne := hD.some
          have k0 := liftB hD q0 (by first | assumption | omega)
          have k1 := liftB hD q1 (by first | assumption | omega)
          have k2 := liftB hD q2 (by first | assumption | omega)
          have k3 := liftB hD q3 (by first | assumption | omega)
          have k4 := liftB hD q4 (by first | assumption | omega)
          have k5 := liftB hD q5 (by first | assumption | omega)
          have k6 := liftB hD q6 (by first | assumption | omega)
          have k7 := liftB hD q7 (by first | assumption | omega)
          simp only [takeOps, Act.put, List.setIfInBounds_toArray, List.set_cons_succ, List.set_cons_zero]
          repeat (go_big_quiet_step ((go_at_call 86; first | (with_reducible exact calls_later hD _ (C1.out _)) | (with_reducible exact calls_later hD _ (C2.out _)))))
          exact wpQuiet_nil rfl
         ·
          intro d hd x x'
          simp only [List.mem_cons, List.not_mem_nil, or_false] at hd
          rcases hd with rfl | rfl
          all_goals rfl
         · exact trivial
         · exact trivial
         intro xx w5 F hL hlv3
         clear hlv3
         clear q0 q1 q2 q3 q4 q5 q6 q7 lts
         replace HB := hide (onward HB.out hL)
         replace Hq := hide (blk_later Hq.out hL)
         clear hL
         by_cases hk : k = gx
         ·
          obtain ⟨g1, g2⟩ := Hgk.out.2 hk
          have HK := hide hk
          have hkg : gx < g := by omega
          clear hk
          go_wp2_with fail
          go_loopw [18] (fun a wr => ∃ c : Int, 0 ≤ c ∧ c ≤ ray ∧ a = .int .i64 c ∧ Below w.heap.size w wr ∧ Blk wr w.heap.size 28 #[.string s, .int .i64 sx, .int .i64 sy, .int .i64 z, .int .i64 r, .int .i64 g, .int .i64 st, .int .i64 wd]) (fun a _ => (4 * r - intOf a).toNat)
          case atStart => exact ⟨0, by omega, by omega, rfl, HB.out, Hq.out⟩
          case round =>
           clear HB Hq
           obtain ⟨c, cc0, cc1, rfl, hbw, hbq⟩ := hrel
           have HB := hide hbw
           have Hq := hide hbq
           clear hbw hbq
           obtain ⟨q0, q1, q2, q3, q4, q5, q6, q7⟩ := Hq.out.site8
           have lts := Hq.out.lt
           have hlt2 : c < 4 * r := by omega
           have hsc := fun W => Hsec.out W c cc0 hlt2
           by_cases hray : c = ray
           ·
            rw [show sectorB r c dx dy = true by rw [hray]; exact Hry.out] at hsc
            have hrr : res = ((c, k), 0) := by rw [HR2.out hkg, hray, HK.out]
            clear hray
            have Hsc := hide hsc
            have Hrr := hide hrr
            clear hsc hrr
            go_wp2_with fail
            refine (Hsc.out _).mono ?_
            rintro e w' ⟨rfl, rfl⟩
            go_wp2
            refine bodyPost_ret (v := twoE res) (by rw [Hrr.out]; simp [twoE, results, Tryz.results60, go_sem]) rfl ⟨rfl, HB.out⟩
           ·
            rw [Hun.out c cc0 hlt2 hray] at hsc
            have Hsc := hide hsc
            clear hsc
            go_wp2_with fail
            refine (Hsc.out _).mono ?_
            rintro e w' ⟨rfl, rfl⟩
            go_wp2
            go_roundw
            case rel => exact ⟨c + 1, by omega, by omega, by go_num, HB.out, Hq.out⟩
            case measure => simp [intOf]; omega
         have hk2 : k < gx := by omega
         by_cases g1 : lo * lo ≤ dx * dx + dy * dy
         ·
          have g2 : ¬ dx * dx + dy * dy < hi * hi := fun g2 => hk (Hgk.out.1 ⟨g1, g2⟩)
          go_wp2
          go_roundw
          case rel => exact ⟨k + 1, by omega, by omega, by go_num, HB.out, Hq.out⟩
          case measure => simp [intOf]; omega
         ·
          go_wp2
          go_roundw
          case rel => exact ⟨k + 1, by omega, by omega, by go_num, HB.out, Hq.out⟩
          case measure => simp [intOf]; omega
        ·
         obtain rfl : k = g := by omega
         have hrr := HR1.out (by omega)
         have Hrr := hide hrr
         clear hrr
         obtain ⟨q0, q1, q2, q3, q4, q5, q6, q7⟩ := Hq.out.site8
         have lts := Hq.out.lt
         go_wp2
         refine bodyPost_ret (v := twoE res) (by rw [Hrr.out]; simp [twoE, results, Tryz.results60, go_sem]) rfl ⟨rfl, HB.out⟩
      ·
       have zz : (dx == 0) = true := by simpa using z1
       have zz2 : (dy == 0) = false := by simpa using z2
       have ZZ := hide zz
       have ZZ2 := hide zz2
       clear zz zz2
       clear z1 z2
       go_enter Tryz.func60, Tryz.ntmps60
       have HB := hide (Below.refl w.heap.size w)
       go_wp2_with fail
       refine at_world fun W hW => ?_
       have bq0 : Blk W w.heap.size 28 #[.string s, .int .i64 sx, .int .i64 sy, .int .i64 z, .int .i64 r, .int .i64 g, .int .i64 st, .int .i64 wd] := by rw [hW]; exact Blk.new _ _ _
       have LW : Later w W := by rw [hW]; exact ((Below.refl _ _).alloc (Nat.le_refl _) _)
       have szW : W.heap.size = w.heap.size + 1 := by rw [hW]; simp
       clear hW
       replace HB := hide (onward HB.out LW)
       have Hq := hide bq0
       clear bq0 LW szW
       refine (Hcs.out _).mono ?_
       rintro e w1 ⟨rfl, hb⟩
       replace HB := hide (onward HB.out hb)
       replace Hq := hide (blk_later Hq.out hb)
       clear hb
       obtain ⟨q0, q1, q2, q3, q4, q5, q6, q7⟩ := Hq.out.site8
       have lts := Hq.out.lt
       go_wp2_with fail
       refine (In_anyQ _ _ _ _).mono ?_
       rintro e w' ⟨rfl, rfl⟩
       rw [g1]
       go_wp2_with fail
       refine (In_anyQ _ _ _ _).mono ?_
       rintro e w' ⟨rfl, rfl⟩
       rw [g2]
       go_wp2_with fail
       refine (In_anyQ _ _ _ _).mono ?_
       rintro e w' ⟨rfl, rfl⟩
       rw [g3]
       clear g1 g2 g3
       go_wp2_with fail
       apply wp_region_L (w0 := w1) [[], [], [], [], [], [], [], [], [], []] [true, true, true, true, true, true, true, true, true, true] [] (fun ixq y => match ixq with  | _ => undef) (fun ixq x F wq => match ixq with  | _ => True) (fun a x => a) (by kernel_rfl) (by kernel_rfl) (fun _ => rfl) [] (by kernel_rfl)
       ·
        intro x D hD
        have hne := hD.some
        have k1 := liftB hD q1 (by first | assumption | omega)
        have k2 := liftB hD q2 (by first | assumption | omega)
        simp only [takeOps, Act.put, List.setIfInBounds_toArray, List.set_cons_succ, List.set_cons_zero]
        repeat (go_big_quiet_step (fail))
        exact wpQuiet_nil rfl
       · exact fun _ h => absurd h (by simp)
       · exact trivial
       · exact trivial
       intro xx w2 F hL hlv4
       clear hlv4
       clear q0 q1 q2 q3 q4 q5 q6 q7 lts
       replace HB := hide (onward HB.out hL)
       replace Hq := hide (blk_later Hq.out hL)
       clear hL
       simp only [Hdx.out, Hdy.out]
       have kk := ZZ.out
       have kk2 := ZZ2.out
       go_wp2_with fail
       go_loopw [15] (fun a wr => ∃ k : Int, 0 ≤ k ∧ k ≤ gx ∧ a = .int .i64 k ∧ Below w.heap.size w wr ∧ Blk wr w.heap.size 28 #[.string s, .int .i64 sx, .int .i64 sy, .int .i64 z, .int .i64 r, .int .i64 g, .int .i64 st, .int .i64 wd]) (fun a _ => (g - intOf a).toNat)
       case atStart => exact ⟨0, by omega, by omega, rfl, HB.out, Hq.out⟩
       case round =>
        clear HB Hq
        obtain ⟨k, k0, k1, rfl, hbw, hbq⟩ := hrel
        have HB := hide hbw
        have Hq := hide hbq
        clear hbw hbq
        by_cases hlt : k < g
        ·
         obtain ⟨b5, b6⟩ := Hbo.out k k0 (by omega)
         obtain ⟨e5, e6⟩ := Hbo.out (k + 1) (by omega) (by omega)
         have hc1 := fun W => Hbd.out W k k0 (by omega)
         have hc2 := fun W => Hbd.out W (k + 1) (by omega) (by omega)
         have hgk := Hgx.out k k0 hlt
         generalize bord st t k = lo at *
         generalize bord st t (k + 1) = hi at *
         obtain ⟨sl1, sl2⟩ := mul_bdB b5 b6 b5 b6
         obtain ⟨sh1, sh2⟩ := mul_bdB e5 e6 e5 e6
         have Hgk := hide hgk
         have C1 := hide hc1
         have C2 := hide hc2
         clear hgk hc1 hc2
         obtain ⟨q0, q1, q2, q3, q4, q5, q6, q7⟩ := Hq.out.site8
         have lts := Hq.out.lt
         go_wp2_with fail
         apply wp_region_L (w0 := wr) [[], [], [], [], [], [], [], [], [], [], []] [true, true, true, true, true, true, true, true, true, true, true] [] (fun ixq y => match ixq with  | _ => undef) (fun ixq x F wq => match ixq with  | _ => True) (fun a x => a) (by kernel_rfl) (by kernel_rfl) (fun _ => rfl) [67, 72] (by kernel_rfl)
         ·
          intro x D hD
          have hne := hD.some
          have k0 := liftB hD q0 (by first | assumption | omega)
          have k1 := liftB hD q1 (by first | assumption | omega)
          have k2 := liftB hD q2 (by first | assumption | omega)
          have k3 := liftB hD q3 (by first | assumption | omega)
          have k4 := liftB hD q4 (by first | assumption | omega)
          have k5 := liftB hD q5 (by first | assumption | omega)
          have k6 := liftB hD q6 (by first | assumption | omega)
          have k7 := liftB hD q7 (by first | assumption | omega)
          simp only [takeOps, Act.put, List.setIfInBounds_toArray, List.set_cons_succ, List.set_cons_zero]
          repeat (go_big_quiet_step ((go_at_call 86; first | (with_reducible exact calls_later hD _ (C1.out _)) | (with_reducible exact calls_later hD _ (C2.out _)))))
          exact wpQuiet_nil rfl
         ·
          intro d hd x x'
          simp only [List.mem_cons, List.not_mem_nil, or_false] at hd
          rcases hd with rfl | rfl
          all_goals rfl
         · exact trivial
         · exact trivial
         intro xx w5 F hL hlv5
         clear hlv5
         clear q0 q1 q2 q3 q4 q5 q6 q7 lts
         replace HB := hide (onward HB.out hL)
         replace Hq := hide (blk_later Hq.out hL)
         clear hL
         by_cases hk : k = gx
         ·
          obtain ⟨g1, g2⟩ := Hgk.out.2 hk
          have HK := hide hk
          have hkg : gx < g := by omega
          clear hk
          go_wp2_with fail
          go_loopw [18] (fun a wr => ∃ c : Int, 0 ≤ c ∧ c ≤ ray ∧ a = .int .i64 c ∧ Below w.heap.size w wr ∧ Blk wr w.heap.size 28 #[.string s, .int .i64 sx, .int .i64 sy, .int .i64 z, .int .i64 r, .int .i64 g, .int .i64 st, .int .i64 wd]) (fun a _ => (4 * r - intOf a).toNat)
          case atStart => exact ⟨0, by omega, by omega, rfl, HB.out, Hq.out⟩
          case round =>
           clear HB Hq
           obtain ⟨c, cc0, cc1, rfl, hbw, hbq⟩ := hrel
           have HB := hide hbw
           have Hq := hide hbq
           clear hbw hbq
           obtain ⟨q0, q1, q2, q3, q4, q5, q6, q7⟩ := Hq.out.site8
           have lts := Hq.out.lt
           have hlt2 : c < 4 * r := by omega
           have hsc := fun W => Hsec.out W c cc0 hlt2
           by_cases hray : c = ray
           ·
            rw [show sectorB r c dx dy = true by rw [hray]; exact Hry.out] at hsc
            have hrr : res = ((c, k), 0) := by rw [HR2.out hkg, hray, HK.out]
            clear hray
            have Hsc := hide hsc
            have Hrr := hide hrr
            clear hsc hrr
            go_wp2_with fail
            refine (Hsc.out _).mono ?_
            rintro e w' ⟨rfl, rfl⟩
            go_wp2
            refine bodyPost_ret (v := twoE res) (by rw [Hrr.out]; simp [twoE, results, Tryz.results60, go_sem]) rfl ⟨rfl, HB.out⟩
           ·
            rw [Hun.out c cc0 hlt2 hray] at hsc
            have Hsc := hide hsc
            clear hsc
            go_wp2_with fail
            refine (Hsc.out _).mono ?_
            rintro e w' ⟨rfl, rfl⟩
            go_wp2
            go_roundw
            case rel => exact ⟨c + 1, by omega, by omega, by go_num, HB.out, Hq.out⟩
            case measure => simp [intOf]; omega
         have hk2 : k < gx := by omega
         by_cases g1 : lo * lo ≤ dx * dx + dy * dy
         ·
          have g2 : ¬ dx * dx + dy * dy < hi * hi := fun g2 => hk (Hgk.out.1 ⟨g1, g2⟩)
          go_wp2
          go_roundw
          case rel => exact ⟨k + 1, by omega, by omega, by go_num, HB.out, Hq.out⟩
          case measure => simp [intOf]; omega
         ·
          go_wp2
          go_roundw
          case rel => exact ⟨k + 1, by omega, by omega, by go_num, HB.out, Hq.out⟩
          case measure => simp [intOf]; omega
        ·
         obtain rfl : k = g := by omega
         have hrr := HR1.out (by omega)
         have Hrr := hide hrr
         clear hrr
         obtain ⟨q0, q1, q2, q3, q4, q5, q6, q7⟩ := Hq.out.site8
         have lts := Hq.out.lt
         go_wp2
         refine bodyPost_ret (v := twoE res) (by rw [Hrr.out]; simp [twoE, results, Tryz.results60, go_sem]) rfl ⟨rfl, HB.out⟩
    ·
     have g4 : winB y (-4194304) 4194304 = false := by simpa using g3
     rw [if_neg (by rw [g4]; simp)] at hR
     have HR := hide hR
     clear hR
     clear g3
     go_enter Tryz.func60, Tryz.ntmps60
     have HB := hide (Below.refl w.heap.size w)
     go_wp2_with fail
     refine at_world fun W hW => ?_
     have bq0 : Blk W w.heap.size 28 #[.string s, .int .i64 sx, .int .i64 sy, .int .i64 z, .int .i64 r, .int .i64 g, .int .i64 st, .int .i64 wd] := by rw [hW]; exact Blk.new _ _ _
     have LW : Later w W := by rw [hW]; exact ((Below.refl _ _).alloc (Nat.le_refl _) _)
     have szW : W.heap.size = w.heap.size + 1 := by rw [hW]; simp
     clear hW
     replace HB := hide (onward HB.out LW)
     have Hq := hide bq0
     clear bq0 LW szW
     refine (Hcs.out _).mono ?_
     rintro e w1 ⟨rfl, hb⟩
     replace HB := hide (onward HB.out hb)
     replace Hq := hide (blk_later Hq.out hb)
     clear hb
     obtain ⟨q0, q1, q2, q3, q4, q5, q6, q7⟩ := Hq.out.site8
     have lts := Hq.out.lt
     go_wp2_with fail
     refine (In_anyQ _ _ _ _).mono ?_
     rintro e w' ⟨rfl, rfl⟩
     rw [g1]
     go_wp2_with fail
     refine (In_anyQ _ _ _ _).mono ?_
     rintro e w' ⟨rfl, rfl⟩
     rw [g2]
     go_wp2_with fail
     refine (In_anyQ _ _ _ _).mono ?_
     rintro e w' ⟨rfl, rfl⟩
     rw [g4]
     go_wp2
     refine bodyPost_ret (v := twoE res) (by rw [HR.out]; simp [twoE, results, Tryz.results60, go_sem]) rfl ⟨rfl, HB.out⟩
   ·
    have g3 : winB x (-4194304) 4194304 = false := by simpa using g2
    rw [if_neg (by rw [g3]; simp)] at hR
    have HR := hide hR
    clear hR
    clear g2
    go_enter Tryz.func60, Tryz.ntmps60
    have HB := hide (Below.refl w.heap.size w)
    go_wp2_with fail
    refine at_world fun W hW => ?_
    have bq0 : Blk W w.heap.size 28 #[.string s, .int .i64 sx, .int .i64 sy, .int .i64 z, .int .i64 r, .int .i64 g, .int .i64 st, .int .i64 wd] := by rw [hW]; exact Blk.new _ _ _
    have LW : Later w W := by rw [hW]; exact ((Below.refl _ _).alloc (Nat.le_refl _) _)
    have szW : W.heap.size = w.heap.size + 1 := by rw [hW]; simp
    clear hW
    replace HB := hide (onward HB.out LW)
    have Hq := hide bq0
    clear bq0 LW szW
    refine (Hcs.out _).mono ?_
    rintro e w1 ⟨rfl, hb⟩
    replace HB := hide (onward HB.out hb)
    replace Hq := hide (blk_later Hq.out hb)
    clear hb
    obtain ⟨q0, q1, q2, q3, q4, q5, q6, q7⟩ := Hq.out.site8
    have lts := Hq.out.lt
    go_wp2_with fail
    refine (In_anyQ _ _ _ _).mono ?_
    rintro e w' ⟨rfl, rfl⟩
    rw [g1]
    go_wp2_with fail
    refine (In_anyQ _ _ _ _).mono ?_
    rintro e w' ⟨rfl, rfl⟩
    rw [g3]
    go_wp2
    refine bodyPost_ret (v := twoE res) (by rw [HR.out]; simp [twoE, results, Tryz.results60, go_sem]) rfl ⟨rfl, HB.out⟩
  ·
   have g3 : winB t 0 256 = false := by simpa using g1
   rw [if_neg (by rw [g3]; simp)] at hR
   have HR := hide hR
   clear hR
   clear g1
   go_enter Tryz.func60, Tryz.ntmps60
   have HB := hide (Below.refl w.heap.size w)
   go_wp2_with fail
   refine at_world fun W hW => ?_
   have bq0 : Blk W w.heap.size 28 #[.string s, .int .i64 sx, .int .i64 sy, .int .i64 z, .int .i64 r, .int .i64 g, .int .i64 st, .int .i64 wd] := by rw [hW]; exact Blk.new _ _ _
   have LW : Later w W := by rw [hW]; exact ((Below.refl _ _).alloc (Nat.le_refl _) _)
   have szW : W.heap.size = w.heap.size + 1 := by rw [hW]; simp
   clear hW
   replace HB := hide (onward HB.out LW)
   have Hq := hide bq0
   clear bq0 LW szW
   refine (Hcs.out _).mono ?_
   rintro e w1 ⟨rfl, hb⟩
   replace HB := hide (onward HB.out hb)
   replace Hq := hide (blk_later Hq.out hb)
   clear hb
   obtain ⟨q0, q1, q2, q3, q4, q5, q6, q7⟩ := Hq.out.site8
   have lts := Hq.out.lt
   go_wp2_with fail
   refine (In_anyQ _ _ _ _).mono ?_
   rintro e w' ⟨rfl, rfl⟩
   rw [g3]
   go_wp2
   refine bodyPost_ret (v := twoE res) (by rw [HR.out]; simp [twoE, results, Tryz.results60, go_sem]) rfl ⟨rfl, HB.out⟩
 ·
  rw [if_pos h0] at hR
  have h00 : (er != 0) = true := by simpa [bne] using h0
  have HR := hide hR
  clear hR
  go_enter Tryz.func60, Tryz.ntmps60
  have HB := hide (Below.refl w.heap.size w)
  go_wp2_with fail
  refine at_world fun W hW => ?_
  have bq0 : Blk W w.heap.size 28 #[.string s, .int .i64 sx, .int .i64 sy, .int .i64 z, .int .i64 r, .int .i64 g, .int .i64 st, .int .i64 wd] := by rw [hW]; exact Blk.new _ _ _
  have LW : Later w W := by rw [hW]; exact ((Below.refl _ _).alloc (Nat.le_refl _) _)
  have szW : W.heap.size = w.heap.size + 1 := by rw [hW]; simp
  clear hW
  replace HB := hide (onward HB.out LW)
  have Hq := hide bq0
  clear bq0 LW szW
  refine (Hcs.out _).mono ?_
  rintro e w1 ⟨rfl, hb⟩
  replace HB := hide (onward HB.out hb)
  replace Hq := hide (blk_later Hq.out hb)
  clear hb
  obtain ⟨q0, q1, q2, q3, q4, q5, q6, q7⟩ := Hq.out.site8
  have lts := Hq.out.lt
  go_wp2
  refine bodyPost_ret (v := twoE res) (by rw [HR.out]; simp [twoE, results, Tryz.results60, go_sem]) rfl ⟨rfl, HB.out⟩
end Go.Proofs.YtepgpihobmjbdaaGreat
end
section
namespace Go.Proofs.YtepgpihobmjbdaaGreat
def midX (gx gs wi i : Int) : Int := gx + i % wi * gs + gs / 2
def midY (gy gs wi i : Int) : Int := gy + i / wi * gs + gs / 2
def seenZ (ro st t g dx dy : Int) : Int := if (findZ ro st t g dx dy).2 = true then (findZ ro st t g dx dy).1.1 * g + (findZ ro st t g dx dy).1.2 else -1
def viewZ (ro st t g sx sy gx gy gs wi i : Int) : Int := seenZ ro st t g (midX gx gs wi i - sx) (midY gy gs wi i - sy)
def viewL (ro st t g sx sy gx gy gs wi : Int) (n : Nat) : List Int := (List.range n).map fun i : Nat => viewZ ro st t g sx sy gx gy gs wi i
theorem viewL_length {ro st t g sx sy gx gy gs wi : Int} {n : Nat} : (viewL ro st t g sx sy gx gy gs wi n).length = n := by simp [viewL]
theorem viewL_succ {ro st t g sx sy gx gy gs wi : Int} {n : Nat} : viewL ro st t g sx sy gx gy gs wi (n + 1) = viewL ro st t g sx sy gx gy gs wi n ++ [viewZ ro st t g sx sy gx gy gs wi n] := by
 simp [viewL, List.range_succ]
theorem row_col {wi a c : Int} (h0 : 0 ≤ c) (h1 : c < wi) : (a * wi + c) / wi = a ∧ (a * wi + c) % wi = c := by
 constructor
 · rw [Int.add_comm, Int.add_mul_ediv_right _ _ (by omega), Int.ediv_eq_zero_of_lt h0 h1]; omega
 · rw [Int.add_comm, Int.add_mul_emod_self_right, Int.emod_eq_of_lt h0 h1]
theorem view_at {ro st t g sx sy gx gy gs wi a c : Int} (h0 : 0 ≤ c) (h1 : c < wi) : viewZ ro st t g sx sy gx gy gs wi (a * wi + c) = seenZ ro st t g (gx + c * gs + gs / 2 - sx) (gy + a * gs + gs / 2 - sy) := by
 obtain ⟨e1, e2⟩ := row_col (wi := wi) (a := a) h0 h1
 unfold viewZ midX midY
 rw [e1, e2]
theorem mid_bd {gx gs wi c : Int} (a1 : -1048576 ≤ gx) (a2 : gx ≤ 1048576) (c1 : 1 ≤ gs) (c2 : gs ≤ 10000) (h0 : 0 ≤ c) (h1 : c < wi) (h2 : wi ≤ 64) : 0 ≤ c * gs ∧ c * gs ≤ 640000 ∧ 0 ≤ gs / 2 ∧ gs / 2 ≤ 5000 ∧ -1048576 ≤ gx + c * gs + gs / 2 ∧ gx + c * gs + gs / 2 ≤ 1700000 := by
 obtain ⟨m1, m2⟩ := mul_bdB (a := c) (b := gs) (A := 64) (B := 10000) h0 (by omega) (by omega) c2
 omega
theorem findZ_bd {ro st t g dx dy : Int} (h1 : 1 ≤ ro) (h2 : ro ≤ 90) (h3 : 1 ≤ g) (h4 : g ≤ 200) : 0 ≤ (findZ ro st t g dx dy).1.1 ∧ (findZ ro st t g dx dy).1.1 < 360 ∧ 0 ≤ (findZ ro st t g dx dy).1.2 ∧ (findZ ro st t g dx dy).1.2 < g := by
 unfold findZ
 split
 · exact ⟨by simp, by simp, by simp, by simp; omega⟩
 ·
  rename_i hz
  split
  · exact ⟨by simp, by simp, by simp, by simp; omega⟩
  ·
   obtain ⟨r0, r1, -⟩ := ray_spec (n := ro) (X := dx) (Y := dy) h1 hz
   have := gate_cases (st := st) (t := t) (g := g) (w := dx * dx + dy * dy)
   exact ⟨r0, by simp only; omega, by simp only; omega, by simp only; omega⟩
theorem find_seen {ro st t g sx sy x y : Int} (h1 : 1 ≤ ro) (h2 : ro ≤ 90) (h3 : 1 ≤ g) (h4 : g ≤ 200) (ht : winB t 0 256 = true) (hx : -4194304 ≤ x ∧ x ≤ 4194304) (hy : -4194304 ≤ y ∧ y ≤ 4194304) :
  ∃ a b e, findR 0 t ro st g sx sy x y = ((a, b), e) ∧ ((e = 0 ∧ seenZ ro st t g (x - sx) (y - sy) = a * g + b ∧ 0 ≤ a ∧ a < 360 ∧ 0 ≤ b ∧ b < g) ∨ (e = 29 ∧ seenZ ro st t g (x - sx) (y - sy) = -1)) := by
 have hw : (winB t 0 256 && winB x (-4194304) 4194304 && winB y (-4194304) 4194304) = true := by
  rw [ht, winB_iff.2 hx, winB_iff.2 hy]; rfl
 have hb := findZ_bd (ro := ro) (st := st) (t := t) (g := g) (dx := x - sx) (dy := y - sy) h1 h2 h3 h4
 unfold findR seenZ
 rw [if_neg (by simp), if_pos hw]
 split
 ·
  rename_i hf
  exact ⟨_, _, 0, rfl, .inl ⟨rfl, rfl, hb⟩⟩
 · exact ⟨0, 0, 29, rfl, .inr ⟨rfl, rfl⟩⟩
theorem findZ_seen {ro st t g dx dy : Int} (h1 : 1 ≤ ro) (h2 : ro ≤ 90) (h3 : 1 ≤ g) (h4 : g ≤ 200) :
  ∃ a b i, findZ ro st t g dx dy = ((a, b), i) ∧ ((i = true ∧ seenZ ro st t g dx dy = a * g + b ∧ 0 ≤ a ∧ a < 360 ∧ 0 ≤ b ∧ b < g) ∨ (i = false ∧ seenZ ro st t g dx dy = -1)) := by
 have hb := findZ_bd (ro := ro) (st := st) (t := t) (g := g) (dx := dx) (dy := dy) h1 h2 h3 h4
 unfold seenZ
 generalize findZ ro st t g dx dy = z at *
 obtain ⟨⟨a, b⟩, i⟩ := z
 cases i with
 | true => exact ⟨a, b, true, rfl, .inl ⟨rfl, by simp, hb⟩⟩
 | false => exact ⟨a, b, false, rfl, .inr ⟨rfl, by simp⟩⟩
end Go.Proofs.YtepgpihobmjbdaaGreat
end
section
namespace Go.Proofs.YtepgpihobmjbdaaGreat
open Go Go.RowKit
set_option maxHeartbeats 2000000 in
set_option maxRecDepth 100000 in
theorem Middle_any (gx gy gs wi hi i : Int) (w : World) (a1 : -1048576 ≤ gx) (a2 : gx ≤ 1048576) (b1 : -1048576 ≤ gy) (b2 : gy ≤ 1048576) (c1 : 1 ≤ gs) (c2 : gs ≤ 10000) (d1 : 1 ≤ wi) (d2 : wi ≤ 64) (i0 : 0 ≤ i) (i1 : i ≤ 4096) :
  Calls Tryz.prog 59 #[gridV gx gy gs wi hi, .int .i64 i] w fun e w' => e = .returned (.tuple #[.int .i64 (midX gx gs wi i), .int .i64 (midY gy gs wi i)]) ∧ Below w.heap.size w w' := by
 have e1 := Int.emod_nonneg i (show wi ≠ 0 by omega)
 have e2 := Int.emod_lt_of_pos i (show 0 < wi by omega)
 have f1 : 0 ≤ i / wi := Int.ediv_nonneg i0 (by omega)
 have f2 : i / wi ≤ 4096 := Int.le_trans (Int.ediv_le_self _ i0) i1
 obtain ⟨m1, m2⟩ := mul_bdB (a := i % wi) (b := gs) (A := 64) (B := 10000) e1 (by omega) (by omega) c2
 obtain ⟨n1, n2⟩ := mul_bdB (a := i / wi) (b := gs) (A := 4096) (B := 10000) f1 f2 (by omega) c2
 have g1 : 0 ≤ gs / 2 := by omega
 have g2 : gs / 2 ≤ 5000 := by omega
 have c3 : wi ≠ 0 := by omega
 have c4 : 0 < wi := by omega
 unfold gridV midX midY
 go_enter Tryz.func59, Tryz.ntmps59
 have HB := hide (Below.refl w.heap.size w)
 go_wp2_with fail
 refine code_world fun W hW => ?_
 have bq0 : Blk W w.heap.size 33 #[.int .i64 gx, .int .i64 gy, .int .i64 gs, .int .i64 wi, .int .i64 hi] := by rw [hW]; exact Blk.new _ _ _
 have LW : Later w W := by rw [hW]; exact ((Below.refl _ _).alloc (Nat.le_refl _) _)
 have szW : W.heap.size = w.heap.size + 1 := by rw [hW]; simp
 clear hW
 replace HB := hide (onward HB.out LW)
 have Hg := hide bq0
 clear bq0 LW szW
 obtain ⟨k0, k1, k2, k3, k4⟩ := Hg.out.c5
 have ltk := Hg.out.lt
 apply wp_region_L (w0 := W) [[], [], [], [], [], [], [], [], [], [], [], [], [], [], [], [], [], [], [], [], [], [], [], [], [], [], [], [], [], []] [true, true, true, true, true, true, true, true, true, true, true, true, true, true, true, true, true, true, true, true, true, true, true, true, true, true, true, true, true, true] [] (fun ixq y => match ixq with  | _ => undef) (fun ixq x F wq => match ixq with  | _ => True) (fun a x => a) (by kernel_rfl) (by kernel_rfl) (fun _ => rfl) [] (by kernel_rfl)
 ·
  intro x D hD
  have hne := hD.some
  have k0 := liftB hD k0 (by first | assumption | omega)
  have k1 := liftB hD k1 (by first | assumption | omega)
  have k2 := liftB hD k2 (by first | assumption | omega)
  have k3 := liftB hD k3 (by first | assumption | omega)
  simp only [takeOps, Act.put, List.setIfInBounds_toArray, List.set_cons_succ, List.set_cons_zero]
  repeat (go_big_quiet_step (fail))
  exact wpQuiet_nil rfl
 · exact fun _ h => absurd h (by simp)
 · exact trivial
 · exact trivial
 intro xx w2 F hL hlv1
 clear hlv1
 replace HB := hide (onward HB.out hL)
 replace Hg := hide (blk_later Hg.out hL)
 clear hL k0 k1 k2 k3 k4 ltk
 go_wp2
 refine bodyPost_ret (v := .tuple #[.int .i64 (gx + i % wi * gs + gs / 2), .int .i64 (gy + i / wi * gs + gs / 2)]) (by simp [results, Tryz.results59, go_sem]) rfl ⟨rfl, HB.out⟩
end Go.Proofs.YtepgpihobmjbdaaGreat
end
section
namespace Go.Proofs.YtepgpihobmjbdaaGreat
open Go Go.RowKit
theorem intInfo : (Tryz.prog.info? 3).map (fun i => (i.zero, i.size, i.bytes)) = some (some (.int .i64 0), 1, 8) := by kernel_rfl
def viewE (se ge t : Int) : Int := if se ≠ 0 then se else if ge ≠ 0 then ge else if winB t 0 256 = true then 0 else 3
def ViewPost (w : World) (ev : Int) (l : List Int) (n : Nat) (e : Ending) (w' : World) : Prop :=
 ∃ A c, e = .returned (.tuple #[.slice A (if ev = 0 then n else 0) c, .int .i64 ev]) ∧ Below w.heap.size w w' ∧ (ev = 0 → Ints w' w'.heap.size .i64 A l)
set_option maxHeartbeats 2000000 in
set_option maxRecDepth 100000 in
theorem RefView_any (s : ByteArray) (sx sy z r g st wd t gx gy gs wi hi : Int) (w : World) (hs : s.size ≤ 9223372036854775807) :
  Calls Tryz.prog 32 #[siteV s sx sy z r g st wd, .int .i64 t, gridV gx gy gs wi hi] w fun e w' => ViewPost w (viewE (siteE (nameB s) sx sy z r g st wd) (gridE gx gy gs wi hi) t) (viewL r st t g sx sy gx gy gs wi (wi * hi).toNat) (wi * hi).toNat e w' := by
 have hcs := fun W => RefCheckSite_any s sx sy z r g st wd W hs
 have hcg := fun W => RefCheckGrid_any gx gy gs wi hi W
 have hfd := fun x y W => RefFind_any s sx sy z r g st wd t x y W hs
 have hok := fun h : siteE (nameB s) sx sy z r g st wd = 0 => siteE_ok h
 have hokg := fun h : gridE gx gy gs wi hi = 0 => gridE_ok h
 generalize siteE (nameB s) sx sy z r g st wd = se at *
 generalize gridE gx gy gs wi hi = ge at *
 obtain ⟨i0, hi0, hz0, hz1, hz2⟩ := info_parts intInfo
 have hmid := fun i W => Middle_any gx gy gs wi hi i W
 unfold siteV gridV twoE at *
 have Hcs := hide hcs
 have Hcg := hide hcg
 have Hfd := hide hfd
 have Hmid := hide hmid
 have Hok := hide hok
 have Hokg := hide hokg
 clear hcs hcg hfd hmid hok hokg
 have Hi := hide hi0
 have Hz0 := hide hz0
 have Hz1 := hide hz1
 have Hz2 := hide hz2
 clear hi0 hz0 hz1 hz2
 by_cases h0 : se = 0
 ·
  subst h0
  by_cases h1 : ge = 0
  ·
   subst h1
   obtain ⟨-, s1, s2, s3, s4, s5, s6, s7, s8, s9, s10, s11, s12, s13, s14⟩ := Hok.out rfl
   obtain ⟨a1, a2, b1, b2, c1, c2, d1, d2, f1, f2⟩ := Hokg.out rfl
   by_cases g1 : winB t 0 256 = true
   ·
    obtain ⟨t1, t2⟩ := winB_iff.1 g1
    have hE : viewE 0 0 t = 0 := by unfold viewE; simp [g1]
    rw [hE]
    clear hE
    obtain ⟨m1, m2⟩ := mul_bdB (a := wi) (b := hi) (A := 64) (B := 64) (by omega) d2 (by omega) f2
    obtain ⟨N, hN⟩ : ∃ N : Nat, (wi * hi).toNat = N := ⟨_, rfl⟩
    have hN2 : wi * hi = (N : Int) := by omega
    rw [hN]
    clear hN
    have Hg1 := hide g1
    clear g1
    have Hn := hide hN2
    clear hN2
    go_enter Tryz.func32, Tryz.ntmps32
    have HB := hide (Below.refl w.heap.size w)
    go_wp2_with fail
    refine at_world fun W hW => ?_
    have bq0 : Blk W w.heap.size 28 #[.string s, .int .i64 sx, .int .i64 sy, .int .i64 z, .int .i64 r, .int .i64 g, .int .i64 st, .int .i64 wd] := by rw [hW]; exact (Blk.new _ _ _).alloc _
    have bq1 : Blk W (w.heap.size + 1) 33 #[.int .i64 gx, .int .i64 gy, .int .i64 gs, .int .i64 wi, .int .i64 hi] := by rw [hW]; exact blk_new_at (by simp)
    have LW : Later w W := by rw [hW]; exact (((Below.refl _ _).alloc (Nat.le_refl _) _).alloc (by simp; try omega) _)
    have szW : W.heap.size = w.heap.size + 2 := by rw [hW]; simp
    clear hW
    replace HB := hide (onward HB.out LW)
    have Hq := hide bq0
    have Hf := hide bq1
    clear bq0 bq1 LW szW
    refine (Hcs.out _).mono ?_
    rintro e w1 ⟨rfl, hb⟩
    replace HB := hide (onward HB.out hb)
    replace Hq := hide (blk_later Hq.out hb)
    replace Hf := hide (blk_later Hf.out hb)
    clear hb
    obtain ⟨e0, e1, e2, e3, e4⟩ := Hf.out.c5
    have ltf := Hf.out.lt
    go_wp2_with fail
    clear e0 e1 e2 e3 e4 ltf
    refine (Hcg.out _).mono ?_
    rintro e w2 ⟨rfl, hb⟩
    replace HB := hide (onward HB.out hb)
    replace Hq := hide (blk_later Hq.out hb)
    replace Hf := hide (blk_later Hf.out hb)
    clear hb
    go_wp2_with fail
    refine (In_anyQ _ _ _ _).mono ?_
    rintro e w' ⟨rfl, rfl⟩
    rw [Hg1.out]
    go_wp2_with fail
    have hs2 := HB.out.size
    go_loopw [9, 10] (fun o i wr => ∃ k : Nat, k ≤ N ∧ i = .int .i64 k ∧ wr.ownsRow (w.heap.size + 2) 3 1 o k ((viewL r st t g sx sy gx gy gs wi k).map (Value.int .i64)) ∧ Below w.heap.size w wr ∧ Blk wr w.heap.size 28 #[.string s, .int .i64 sx, .int .i64 sy, .int .i64 z, .int .i64 r, .int .i64 g, .int .i64 st, .int .i64 wd] ∧ Blk wr (w.heap.size + 1) 33 #[.int .i64 gx, .int .i64 gy, .int .i64 gs, .int .i64 wi, .int .i64 hi])
     (fun _ i _ => N - (intOf i).toNat)
    case atStart => exact ⟨0, by omega, rfl, by simpa [viewL] using World.ownsRow_nil _ _ _ _, HB.out, Hq.out, Hf.out⟩
    case round =>
     clear HB Hq Hf
     obtain ⟨k, hk, rfl, hown, hbw, hbq, hbf⟩ := hrel
     have hsw := hbf.lt
     have Ho := hide hown
     have HB := hide hbw
     have Hq := hide hbq
     have Hf := hide hbf
     clear hown hbw hbq hbf
     by_cases hlt : k < N
     ·
      have hlt2 : (k : Int) < wi * hi := by have := Hn.out; omega
      have c3 : wi ≠ 0 := by omega
      obtain ⟨x1, x2⟩ : 0 ≤ (k : Int) % wi ∧ (k : Int) % wi < wi := ⟨Int.emod_nonneg _ c3, Int.emod_lt_of_pos _ (by omega)⟩
      obtain ⟨y1, y2⟩ : 0 ≤ (k : Int) / wi ∧ (k : Int) / wi < hi := ⟨Int.ediv_nonneg (by omega) (by omega), Int.ediv_lt_of_lt_mul (by omega) (by rw [Int.mul_comm]; exact hlt2)⟩
      have hmx := mid_bd (gx := gx) a1 a2 c1 c2 x1 x2 d2
      have hmy := mid_bd (gx := gy) b1 b2 c1 c2 y1 y2 f2
      have hm := fun W => Hmid.out k W a1 a2 b1 b2 c1 c2 d1 d2 (by omega) (by omega)
      have hX : midX gx gs wi k = gx + k % wi * gs + gs / 2 := rfl
      have hY : midY gy gs wi k = gy + k / wi * gs + gs / 2 := rfl
      rw [← hX] at hmx
      rw [← hY] at hmy
      clear hX hY x1 x2 y1 y2
      have hts := viewL_succ (ro := r) (st := st) (t := t) (g := g) (sx := sx) (sy := sy) (gx := gx) (gy := gy) (gs := gs) (wi := wi) (n := k)
      unfold viewZ at hts
      generalize midX gx gs wi k = mx at *
      generalize midY gy gs wi k = my at *
      obtain ⟨a, b, e, hfe, hseen⟩ := find_seen (ro := r) (st := st) (t := t) (g := g) (sx := sx) (sy := sy) (x := mx) (y := my) s7 s8 s9 s10 Hg1.out ⟨by omega, by omega⟩ ⟨by omega, by omega⟩
      have hf := fun W => Hfd.out mx my W
      rw [hfe] at hf
      simp only at hf
      clear hfe
      generalize seenZ r st t g (mx - sx) (my - sy) = v at *
      have Hm := hide hm
      have Hfk := hide hf
      have Hts := hide hts
      clear hm hf hts
      clear hmx hmy
      rcases hseen with ⟨rfl, hv, v1, v2, v3, v4⟩ | ⟨rfl, hv⟩
      ·
       obtain ⟨m5, m6⟩ := mul_bdB (a := a) (b := g) (A := 360) (B := 200) v1 (by omega) (by omega) (by omega)
       have Hv := hide hv
       clear hv
       obtain ⟨k0, k1, k2, k3, k4⟩ := Hf.out.c5
       have ltk := Hf.out.lt
       go_wp2_with fail
       refine (Hm.out _).mono ?_
       rintro e w3 ⟨rfl, hb⟩
       replace Hq := hide (blk_later Hq.out hb)
       replace Hf := hide (blk_later Hf.out hb)
       replace Ho := hide (own_later Ho.out hb)
       replace HB := hide (onward HB.out hb)
       clear hb k0 k1 k2 k3 k4 ltk
       obtain ⟨q0, q1, q2, q3, q4, q5, q6, q7⟩ := Hq.out.site8
       have ltq := Hq.out.lt
       go_wp2_with fail
       clear q0 q1 q2 q3 q4 q5 q6 q7 ltq
       refine (Hfk.out _).mono ?_
       rintro e w4 ⟨rfl, hb⟩
       replace Hq := hide (blk_later Hq.out hb)
       replace Hf := hide (blk_later Hf.out hb)
       replace Ho := hide (own_later Ho.out hb)
       replace HB := hide (onward HB.out hb)
       clear hb
       obtain ⟨q0, q1, q2, q3, q4, q5, q6, q7⟩ := Hq.out.site8
       have ltq := Hq.out.lt
       have hs4 := Hf.out.lt
       go_wp2_with (at_builtin; refine wpList_append_own _ rfl (.tmp 57) (.tmp 64) _ rfl (w.heap.size + 2) 3 i0 _ 1 8 Tryz.underlying58 Hi.out Hz0.out Hz1.out Hz2.out rfl (by decide) _ k _ rfl (Ho.out.alloc _) ⟨w4.heap.size, 0, none⟩ 1 1 [.int .i64 (a * g + b)] rfl rfl ?q1c1 ?q1c2 ?q1c3 ?q1c4 ?q1c5 ?_)
       try case q1c1 => exact new_cells w4 _ [.int .i64 (a * g + b)]
       case q1c2 => intro u hu; simp at hu; subst hu; rfl
       case q1c3 => unfold maxLen; omega
       case q1c4 => omega
       case q1c5 => simp; omega
       intro v' w5 hown2 hgr2 _
       replace HB := hide (below_grown (HB.out.alloc HB.out.size (.cells #[.int .i64 (a * g + b)] 3)) hgr2 (by simp; omega) fun k hk => Nat.le_trans (by first | exact Nat.le_refl _ | omega) (Ho.out.lt k hk).1)
       replace Hq := hide (blk_grown (Hq.out.alloc _) hgr2 (own_low_ne Ho.out (by omega)))
       replace Hf := hide (blk_grown (Hf.out.alloc _) hgr2 (own_low_ne Ho.out (by omega)))
       replace Ho := hide hown2
       clear hown2 hgr2
       clear q0 q1 q2 q3 q4 q5 q6 q7 ltq
       go_wp2
       go_roundw
       case rel =>
        refine ⟨k + 1, by omega, by go_num, ?_, HB.out, Hq.out, Hf.out⟩
        have := Ho.out
        rw [Hts.out, Hv.out, List.map_append]; exact this
       case measure => simp [intOf]; omega
      ·
       subst hv
       obtain ⟨k0, k1, k2, k3, k4⟩ := Hf.out.c5
       have ltk := Hf.out.lt
       go_wp2_with fail
       refine (Hm.out _).mono ?_
       rintro e w3 ⟨rfl, hb⟩
       replace Hq := hide (blk_later Hq.out hb)
       replace Hf := hide (blk_later Hf.out hb)
       replace Ho := hide (own_later Ho.out hb)
       replace HB := hide (onward HB.out hb)
       clear hb k0 k1 k2 k3 k4 ltk
       obtain ⟨q0, q1, q2, q3, q4, q5, q6, q7⟩ := Hq.out.site8
       have ltq := Hq.out.lt
       go_wp2_with fail
       clear q0 q1 q2 q3 q4 q5 q6 q7 ltq
       refine (Hfk.out _).mono ?_
       rintro e w4 ⟨rfl, hb⟩
       replace Hq := hide (blk_later Hq.out hb)
       replace Hf := hide (blk_later Hf.out hb)
       replace Ho := hide (own_later Ho.out hb)
       replace HB := hide (onward HB.out hb)
       clear hb
       have hs4 := Hf.out.lt
       go_wp2_with (at_builtin; refine wpList_append_own _ rfl (.tmp 54) (.tmp 55) _ rfl (w.heap.size + 2) 3 i0 _ 1 8 Tryz.underlying58 Hi.out Hz0.out Hz1.out Hz2.out rfl (by decide) _ k _ rfl (Ho.out.alloc _) ⟨w4.heap.size, 0, none⟩ 1 1 [.int .i64 (-1)] rfl rfl ?q2c1 ?q2c2 ?q2c3 ?q2c4 ?q2c5 ?_)
       try case q2c1 => exact new_cells w4 _ [.int .i64 (-1)]
       case q2c2 => intro u hu; simp at hu; subst hu; rfl
       case q2c3 => unfold maxLen; omega
       case q2c4 => omega
       case q2c5 => simp; omega
       intro v' w5 hown2 hgr2 _
       replace HB := hide (below_grown (HB.out.alloc HB.out.size (.cells #[.int .i64 (-1)] 3)) hgr2 (by simp; omega) fun k hk => Nat.le_trans (by first | exact Nat.le_refl _ | omega) (Ho.out.lt k hk).1)
       replace Hq := hide (blk_grown (Hq.out.alloc _) hgr2 (own_low_ne Ho.out (by omega)))
       replace Hf := hide (blk_grown (Hf.out.alloc _) hgr2 (own_low_ne Ho.out (by omega)))
       replace Ho := hide hown2
       clear hown2 hgr2
       go_wp2
       go_roundw
       case rel =>
        refine ⟨k + 1, by omega, by go_num, ?_, HB.out, Hq.out, Hf.out⟩
        have := Ho.out
        rw [Hts.out, List.map_append]; exact this
       case measure => simp [intOf]; omega
     ·
      obtain rfl : k = N := by omega
      have hlt2 : ¬ (k : Int) < wi * hi := by have := Hn.out; omega
      obtain ⟨A, c, rfl⟩ := own_slice Ho.out
      obtain ⟨k0, k1, k2, k3, k4⟩ := Hf.out.c5
      have ltk := Hf.out.lt
      go_wp2
      refine bodyPost_ret (v := .tuple #[.slice A k c, .int .i64 0]) (by simp [results, Tryz.results32, go_sem]) rfl ⟨A, c, by rw [if_pos rfl], HB.out, fun _ => Ints.own Ho.out rfl (Nat.le_refl _)⟩
   ·
    have g3 : winB t 0 256 = false := by simpa using g1
    have hE : viewE 0 0 t = 3 := by unfold viewE; simp [g3]
    rw [hE]
    clear hE
    have hne : (3 : Int) ≠ 0 := by omega
    have Hg3 := hide g3
    clear g3 g1
    go_enter Tryz.func32, Tryz.ntmps32
    have HB := hide (Below.refl w.heap.size w)
    go_wp2_with fail
    refine at_world fun W hW => ?_
    have bq0 : Blk W w.heap.size 28 #[.string s, .int .i64 sx, .int .i64 sy, .int .i64 z, .int .i64 r, .int .i64 g, .int .i64 st, .int .i64 wd] := by rw [hW]; exact (Blk.new _ _ _).alloc _
    have bq1 : Blk W (w.heap.size + 1) 33 #[.int .i64 gx, .int .i64 gy, .int .i64 gs, .int .i64 wi, .int .i64 hi] := by rw [hW]; exact blk_new_at (by simp)
    have LW : Later w W := by rw [hW]; exact (((Below.refl _ _).alloc (Nat.le_refl _) _).alloc (by simp; try omega) _)
    have szW : W.heap.size = w.heap.size + 2 := by rw [hW]; simp
    clear hW
    replace HB := hide (onward HB.out LW)
    have Hq := hide bq0
    have Hf := hide bq1
    clear bq0 bq1 LW szW
    refine (Hcs.out _).mono ?_
    rintro e w1 ⟨rfl, hb⟩
    replace HB := hide (onward HB.out hb)
    replace Hq := hide (blk_later Hq.out hb)
    replace Hf := hide (blk_later Hf.out hb)
    clear hb
    obtain ⟨e0, e1, e2, e3, e4⟩ := Hf.out.c5
    have ltf := Hf.out.lt
    go_wp2_with fail
    clear e0 e1 e2 e3 e4 ltf
    refine (Hcg.out _).mono ?_
    rintro e w2 ⟨rfl, hb⟩
    replace HB := hide (onward HB.out hb)
    replace Hq := hide (blk_later Hq.out hb)
    replace Hf := hide (blk_later Hf.out hb)
    clear hb
    go_wp2_with fail
    refine (In_anyQ _ _ _ _).mono ?_
    rintro e w' ⟨rfl, rfl⟩
    rw [Hg3.out]
    go_wp2
    refine bodyPost_ret (v := .tuple #[.slice none 0 0, .int .i64 3]) (by simp [results, Tryz.results32, go_sem]) rfl ⟨none, 0, by rw [if_neg hne], HB.out, fun h => absurd h hne⟩
  ·
   have h10 : (ge != 0) = true := by simpa [bne] using h1
   have hE : viewE 0 ge t = ge := by unfold viewE; rw [if_neg (by simp), if_pos h1]
   rw [hE]
   clear hE
   have hne := h1
   go_enter Tryz.func32, Tryz.ntmps32
   have HB := hide (Below.refl w.heap.size w)
   go_wp2_with fail
   refine at_world fun W hW => ?_
   have bq0 : Blk W w.heap.size 28 #[.string s, .int .i64 sx, .int .i64 sy, .int .i64 z, .int .i64 r, .int .i64 g, .int .i64 st, .int .i64 wd] := by rw [hW]; exact (Blk.new _ _ _).alloc _
   have bq1 : Blk W (w.heap.size + 1) 33 #[.int .i64 gx, .int .i64 gy, .int .i64 gs, .int .i64 wi, .int .i64 hi] := by rw [hW]; exact blk_new_at (by simp)
   have LW : Later w W := by rw [hW]; exact (((Below.refl _ _).alloc (Nat.le_refl _) _).alloc (by simp; try omega) _)
   have szW : W.heap.size = w.heap.size + 2 := by rw [hW]; simp
   clear hW
   replace HB := hide (onward HB.out LW)
   have Hq := hide bq0
   have Hf := hide bq1
   clear bq0 bq1 LW szW
   refine (Hcs.out _).mono ?_
   rintro e w1 ⟨rfl, hb⟩
   replace HB := hide (onward HB.out hb)
   replace Hq := hide (blk_later Hq.out hb)
   replace Hf := hide (blk_later Hf.out hb)
   clear hb
   obtain ⟨e0, e1, e2, e3, e4⟩ := Hf.out.c5
   have ltf := Hf.out.lt
   go_wp2_with fail
   clear e0 e1 e2 e3 e4 ltf
   refine (Hcg.out _).mono ?_
   rintro e w2 ⟨rfl, hb⟩
   replace HB := hide (onward HB.out hb)
   replace Hq := hide (blk_later Hq.out hb)
   replace Hf := hide (blk_later Hf.out hb)
   clear hb
   go_wp2
   refine bodyPost_ret (v := .tuple #[.slice none 0 0, .int .i64 ge]) (by simp [results, Tryz.results32, go_sem]) rfl ⟨none, 0, by rw [if_neg hne], HB.out, fun h => absurd h hne⟩
 ·
  have h00 : (se != 0) = true := by simpa [bne] using h0
  have h01 : (se == 0) = false := by simpa using h0
  have hE : viewE se ge t = se := by unfold viewE; rw [if_pos h0]
  rw [hE]
  clear hE
  have hne := h0
  go_enter Tryz.func32, Tryz.ntmps32
  have HB := hide (Below.refl w.heap.size w)
  go_wp2_with fail
  refine at_world fun W hW => ?_
  have bq0 : Blk W w.heap.size 28 #[.string s, .int .i64 sx, .int .i64 sy, .int .i64 z, .int .i64 r, .int .i64 g, .int .i64 st, .int .i64 wd] := by rw [hW]; exact (Blk.new _ _ _).alloc _
  have bq1 : Blk W (w.heap.size + 1) 33 #[.int .i64 gx, .int .i64 gy, .int .i64 gs, .int .i64 wi, .int .i64 hi] := by rw [hW]; exact blk_new_at (by simp)
  have LW : Later w W := by rw [hW]; exact (((Below.refl _ _).alloc (Nat.le_refl _) _).alloc (by simp; try omega) _)
  have szW : W.heap.size = w.heap.size + 2 := by rw [hW]; simp
  clear hW
  replace HB := hide (onward HB.out LW)
  have Hq := hide bq0
  have Hf := hide bq1
  clear bq0 bq1 LW szW
  refine (Hcs.out _).mono ?_
  rintro e w1 ⟨rfl, hb⟩
  replace HB := hide (onward HB.out hb)
  replace Hq := hide (blk_later Hq.out hb)
  replace Hf := hide (blk_later Hf.out hb)
  clear hb
  go_wp2
  refine bodyPost_ret (v := .tuple #[.slice none 0 0, .int .i64 se]) (by simp [results, Tryz.results32, go_sem]) rfl ⟨none, 0, by rw [if_neg hne], HB.out, fun h => absurd h hne⟩
end Go.Proofs.YtepgpihobmjbdaaGreat
end
