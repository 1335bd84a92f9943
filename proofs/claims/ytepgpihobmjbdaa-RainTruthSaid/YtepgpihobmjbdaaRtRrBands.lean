/-
  Bands: the program's contract, the reference's; and the reference's ground ranges.
-/
import Derived.Test.YtepgpihobmjbdaaRtRrPlaces2
import Derived.Test.YtepgpihobmjbdaaRtRrPdo
set_option linter.unusedSimpArgs false
set_option linter.unusedVariables false
namespace Go.Proofs.Ytepgpihobmjbdaa
open Go Go.RowKit
attribute [local go_sem] fieldSpan0 fieldSpan1
set_option maxHeartbeats 4000000 in
set_option maxRecDepth 100000 in
theorem Band_any (s : ByteArray) (x y z r g st wd t elo ehi gate : Int) (w : World) (hs : s.size ≤ 9223372036854775807) :
  Calls Try.prog 12 #[siteV s x y z r g st wd, .int .i64 t, .agg #[.int .i64 elo, .int .i64 ehi], .int .i64 gate] w fun e w' => e = .returned (spanE (bandR (siteE (nameB s) x y z r g st wd) t gate z g st wd elo ehi)) ∧ Below w.heap.size w w' := by
 have hcs := fun W => CheckSite_any s (nameB s) x y z r g st wd W (nm_any s hs)
 have hR : ∀ e, siteE (nameB s) x y z r g st wd = e → bandR (siteE (nameB s) x y z r g st wd) t gate z g st wd elo ehi = if e ≠ 0 then ((0, 0), e) else if (winB t 0 256 && okE elo ehi && winB gate 0 (g - 1)) = true then ((riseD z st gate (t - wd) ehi, riseU z st gate (t + wd) elo), 0) else ((0, 0), 3) := fun e he => by rw [he]; rfl
 obtain ⟨er, her⟩ : ∃ e, siteE (nameB s) x y z r g st wd = e := ⟨_, rfl⟩
 replace hR := hR er her
 have hok := fun h : er = 0 => siteE_ok (her.trans h)
 generalize bandR (siteE (nameB s) x y z r g st wd) t gate z g st wd elo ehi = res at *
 rw [her] at hcs
 unfold siteV at *
 clear her
 have Hcs := hide hcs
 have Hok := hide hok
 clear hcs hok
 by_cases h0 : er = 0
 ·
  subst h0
  obtain ⟨-, s1, s2, s3, s4, s5, s6, s7, s8, s9, s10, s11, s12, s13, s14⟩ := Hok.out rfl
  rw [if_neg (by simp)] at hR
  by_cases g1 : winB t 0 256 = true
  ·
   obtain ⟨t1, t2⟩ := winB_iff.1 g1
   by_cases g2 : okE elo ehi = true
   ·
    by_cases g3 : winB gate 0 (g - 1) = true
    ·
     obtain ⟨t3, t4⟩ := winB_iff.1 g3
     rw [if_pos (by rw [g1, g2, g3]; rfl)] at hR
     obtain ⟨e1, e2, e3⟩ := okE_iff g2
     have d1 := fun W => riseDown_any s x y z r g st wd (t - wd) gate ehi W (by omega) (by omega) t3 (by omega) (by omega) s12 s5 s6 (by omega) e3
     have d2 := fun W => riseUp_any s x y z r g st wd (t + wd) gate elo W (by omega) (by omega) t3 (by omega) (by omega) s12 s5 s6 e1 (by omega)
     generalize riseD z st gate (t - wd) ehi = a at *
     generalize riseU z st gate (t + wd) elo = b at *
     skip
     skip
     unfold siteV at d1 d2
     have D1 := hide d1
     have D2 := hide d2
     have HR := hide hR
     clear d1 d2 hR
     go_enter Try.func12, Try.ntmps12
     have HB := hide (Below.refl w.heap.size w)
     go_wp2_with fail
     refine at_world fun W hW => ?_
     have bq0 : Blk W w.heap.size 28 #[.string s, .int .i64 x, .int .i64 y, .int .i64 z, .int .i64 r, .int .i64 g, .int .i64 st, .int .i64 wd] := by rw [hW]; exact ((Blk.new _ _ _).alloc _).alloc _
     have bq1 : Blk W (w.heap.size + 1) 24 #[.int .i64 elo, .int .i64 ehi] := by rw [hW]; exact (blk_new_at (by simp)).alloc _
     have bq2 : Blk W (w.heap.size + 2) 24 #[.int .i64 0, .int .i64 0] := by rw [hW]; exact blk_new_at (by simp)
     have LW : Later w W := by rw [hW]; exact ((((Below.refl _ _).alloc (Nat.le_refl _) _).alloc (by simp; try omega) _).alloc (by simp; try omega) _)
     have szW : W.heap.size = w.heap.size + 3 := by rw [hW]; simp
     clear hW
     replace HB := hide (onward HB.out LW)
     have Hq := hide bq0
     have He := hide bq1
     have Ho := hide bq2
     clear bq0 bq1 bq2 LW szW
     refine (Hcs.out _).mono ?_
     rintro e w1 ⟨rfl, hb⟩
     replace HB := hide (onward HB.out hb)
     replace Hq := hide (blk_later Hq.out hb)
     replace He := hide (blk_later He.out hb)
     replace Ho := hide (blk_later Ho.out hb)
     clear hb
     obtain ⟨q0, q1, q2, q3, q4, q5, q6, q7⟩ := Hq.out.site8
     have lts := Hq.out.lt
     obtain ⟨v0, v1⟩ := He.out.c2
     have ltv := He.out.lt
     go_wp2_with fail
     refine (within_anyQ _ _ _ _).mono ?_
     rintro e w' ⟨rfl, rfl⟩
     rw [g1]
     go_wp2_with fail
     refine (valid_anyQ _ _ _).mono ?_
     rintro e w2 ⟨rfl, hb⟩
     replace HB := hide (onward HB.out hb)
     replace Hq := hide (blk_later Hq.out hb)
     replace He := hide (blk_later He.out hb)
     replace Ho := hide (blk_later Ho.out hb)
     clear hb v0 v1 ltv
     rw [g2]
     clear q0 q1 q2 q3 q4 q5 q6 q7 lts
     obtain ⟨q0, q1, q2, q3, q4, q5, q6, q7⟩ := Hq.out.site8
     have lts := Hq.out.lt
     obtain ⟨v0, v1⟩ := He.out.c2
     have ltv := He.out.lt
     go_wp2_with fail
     refine (within_anyQ _ _ _ _).mono ?_
     rintro e w' ⟨rfl, rfl⟩
     rw [g3]
     clear g1 g2 g3
     go_wp2_with fail
     have lto := Ho.out.lt
     apply wp_region_F (w0 := w2) [[], [], [], [2], [1, 2, 3], [], [], [6], [0, 1, 2, 3, 4, 5, 6, 7], [], [], [], [11], [10, 11, 12], [], [], [15], [0, 1, 2, 3, 4, 5, 6, 7, 8, 9, 10, 11, 12, 13, 14, 15, 16], [0, 1, 2, 3, 4, 5, 6, 7, 8, 9, 10, 11, 12, 13, 14, 15, 16, 17], [0, 1, 2, 3, 4, 5, 6, 7, 8, 9, 10, 11, 12, 13, 14, 15, 16, 17, 18], [0, 1, 2, 3, 4, 5, 6, 7, 8, 9, 10, 11, 12, 13, 14, 15, 16, 17, 18, 19]] [true, true, true, true, true, true, true, true, true, true, true, true, true, true, true, true, true, true, true, false, false] [false, false, false, false, false, false, false, false, false, false, false, false, false, false, false, false, false, false, false, false, true] [⟨19, none, [], []⟩] [(19, (w.heap.size+2))] [19] (fun ixq y => match ixq with | 19 => undef | _ => undef) (fun ixq x F wq => match ixq with | 19 => F (w.heap.size+2) ∧ Blk wq (w.heap.size+2) 24 #[.int .i64 a, .int .i64 b] | _ => True) (fun a x => (a).put (none) (undef)) (by kernel_rfl) (by kernel_rfl) (by kernel_rfl) (fun _ => rfl) [42, 51] (by kernel_rfl) (fills_lt1 (by omega)) fills_ne1
     ·
      intro x D hD
      have hne := hD.some
      have k0 := liftS hD q0 (by exact early_all (by first | assumption | omega) (by rfl))
      have k1 := liftS hD q1 (by exact early_all (by first | assumption | omega) (by rfl))
      have k2 := liftS hD q2 (by exact early_all (by first | assumption | omega) (by rfl))
      have k3 := liftS hD q3 (by exact early_all (by first | assumption | omega) (by rfl))
      have k4 := liftS hD q4 (by exact early_all (by first | assumption | omega) (by rfl))
      have k5 := liftS hD q5 (by exact early_all (by first | assumption | omega) (by rfl))
      have k6 := liftS hD q6 (by exact early_all (by first | assumption | omega) (by rfl))
      have k7 := liftS hD q7 (by exact early_all (by first | assumption | omega) (by rfl))
      have l0 := liftS hD v0 (by exact early_all (by first | assumption | omega) (by rfl))
      have l1 := liftS hD v1 (by exact early_all (by first | assumption | omega) (by rfl))
      simp only [takeOps, Act.put, List.setIfInBounds_toArray, List.set_cons_succ, List.set_cons_zero]
      repeat (go_big_quiet_step ((go_at_call 36; first | (with_reducible exact calls_later hD _ (D1.out _)) | (with_reducible exact calls_later hD _ (D2.out _)))))
      exact wpQuiet_nil rfl
     ·
      intro x D hD
      have hne := hD.some
      simp only [takeOps, Act.put, List.setIfInBounds_toArray, List.set_cons_succ, List.set_cons_zero]
      repeat (go_big_quiet_step ((go_at_call 36; first | (with_reducible exact calls_later hD _ (D1.out _)) | (with_reducible exact calls_later hD _ (D2.out _)))))
      exact wpQuiet_nil rfl
     ·
      intro d hd x x'
      simp only [List.mem_cons, List.not_mem_nil, or_false] at hd
      rcases hd with rfl | rfl
      all_goals rfl
     ·
      refine ⟨?_, trivial⟩
      · exact obl_fill 24 24 8 52 (w.heap.size+2) _ (fun x => #[.int .i64 a, .int .i64 b]) (by kernel_rfl) (fun _ => rfl) (fun _ => rfl) Ho.out eb_fill1 (by simp [wrF]) (fun _ => by kernel_rfl) (fun _ => rfl) (fun _ => by simp [Value.oneCell']) (fun _ => rfl) (fun _ _ _ _ h1 h2 => ⟨h1, h2⟩)
     ·
      refine ⟨?_, trivial⟩
      · exact owe_fill (w.heap.size+2) 24 (fun x => #[.int .i64 a, .int .i64 b]) (fun _ _ _ => rfl) (fun _ _ _ => rfl)
     intro xx w3 F hK hlv1
     obtain ⟨fct19, -⟩ := hlv1
     replace fct19 : (F 19) (w.heap.size+2) ∧ Blk w3 (w.heap.size+2) 24 #[.int .i64 a, .int .i64 b] := fct19 rfl
     clear q0 q1 q2 q3 q4 q5 q6 q7 lts lto
     clear Hq He
     have hgr := grown_kept hK
     replace HB := hide (below_grown HB.out hgr HB.out.size (fun q hq => by simp at hq; omega))
     replace Ho := hide fct19.2
     clear hgr hK fct19 v0 v1 ltv
     obtain ⟨o0, o1⟩ := Ho.out.c2
     have lto := Ho.out.lt
     have fo0 := Ho.out.frozen 0
     have fo1 := Ho.out.frozen 1
     go_wp2
     refine bodyPost_ret (v := spanE res) (by rw [HR.out]; simp [spanE, results, Try.results12, go_sem, o0, o1, fo0, fo1, lto]) rfl ⟨rfl, ?_⟩
     repeat (first | exact HB.out | (refine Below.setCell ?_ (by first | omega | (simp <;> omega)) _) | (refine Below.alloc ?_ (by first | omega | (simp <;> omega)) _) | (refine below_drewN ?_ _))
    ·
     have g4 : winB gate 0 (g - 1) = false := by simpa using g3
     rw [if_neg (by rw [g4]; simp)] at hR
     have HR := hide hR
     clear hR
     clear g3
     go_enter Try.func12, Try.ntmps12
     have HB := hide (Below.refl w.heap.size w)
     go_wp2_with fail
     refine at_world fun W hW => ?_
     have bq0 : Blk W w.heap.size 28 #[.string s, .int .i64 x, .int .i64 y, .int .i64 z, .int .i64 r, .int .i64 g, .int .i64 st, .int .i64 wd] := by rw [hW]; exact ((Blk.new _ _ _).alloc _).alloc _
     have bq1 : Blk W (w.heap.size + 1) 24 #[.int .i64 elo, .int .i64 ehi] := by rw [hW]; exact (blk_new_at (by simp)).alloc _
     have bq2 : Blk W (w.heap.size + 2) 24 #[.int .i64 0, .int .i64 0] := by rw [hW]; exact blk_new_at (by simp)
     have LW : Later w W := by rw [hW]; exact ((((Below.refl _ _).alloc (Nat.le_refl _) _).alloc (by simp; try omega) _).alloc (by simp; try omega) _)
     have szW : W.heap.size = w.heap.size + 3 := by rw [hW]; simp
     clear hW
     replace HB := hide (onward HB.out LW)
     have Hq := hide bq0
     have He := hide bq1
     have Ho := hide bq2
     clear bq0 bq1 bq2 LW szW
     refine (Hcs.out _).mono ?_
     rintro e w1 ⟨rfl, hb⟩
     replace HB := hide (onward HB.out hb)
     replace Hq := hide (blk_later Hq.out hb)
     replace He := hide (blk_later He.out hb)
     replace Ho := hide (blk_later Ho.out hb)
     clear hb
     obtain ⟨q0, q1, q2, q3, q4, q5, q6, q7⟩ := Hq.out.site8
     have lts := Hq.out.lt
     obtain ⟨v0, v1⟩ := He.out.c2
     have ltv := He.out.lt
     go_wp2_with fail
     refine (within_anyQ _ _ _ _).mono ?_
     rintro e w' ⟨rfl, rfl⟩
     rw [g1]
     go_wp2_with fail
     refine (valid_anyQ _ _ _).mono ?_
     rintro e w2 ⟨rfl, hb⟩
     replace HB := hide (onward HB.out hb)
     replace Hq := hide (blk_later Hq.out hb)
     replace He := hide (blk_later He.out hb)
     replace Ho := hide (blk_later Ho.out hb)
     clear hb v0 v1 ltv
     rw [g2]
     clear q0 q1 q2 q3 q4 q5 q6 q7 lts
     obtain ⟨q0, q1, q2, q3, q4, q5, q6, q7⟩ := Hq.out.site8
     have lts := Hq.out.lt
     obtain ⟨v0, v1⟩ := He.out.c2
     have ltv := He.out.lt
     go_wp2_with fail
     refine (within_anyQ _ _ _ _).mono ?_
     rintro e w' ⟨rfl, rfl⟩
     rw [g4]
     clear g1 g2 g4
     obtain ⟨o0, o1⟩ := Ho.out.c2
     have lto := Ho.out.lt
     have fo0 := Ho.out.frozen 0
     have fo1 := Ho.out.frozen 1
     go_wp2
     refine bodyPost_ret (v := spanE res) (by rw [HR.out]; simp [spanE, results, Try.results12, go_sem, o0, o1, fo0, fo1, lto]) rfl ⟨rfl, ?_⟩
     repeat (first | exact HB.out | (refine Below.setCell ?_ (by first | omega | (simp <;> omega)) _) | (refine Below.alloc ?_ (by first | omega | (simp <;> omega)) _) | (refine below_drewN ?_ _))
   ·
    have g4 : okE elo ehi = false := by simpa using g2
    rw [if_neg (by rw [g4]; simp)] at hR
    have HR := hide hR
    clear hR
    clear g2
    go_enter Try.func12, Try.ntmps12
    have HB := hide (Below.refl w.heap.size w)
    go_wp2_with fail
    refine at_world fun W hW => ?_
    have bq0 : Blk W w.heap.size 28 #[.string s, .int .i64 x, .int .i64 y, .int .i64 z, .int .i64 r, .int .i64 g, .int .i64 st, .int .i64 wd] := by rw [hW]; exact ((Blk.new _ _ _).alloc _).alloc _
    have bq1 : Blk W (w.heap.size + 1) 24 #[.int .i64 elo, .int .i64 ehi] := by rw [hW]; exact (blk_new_at (by simp)).alloc _
    have bq2 : Blk W (w.heap.size + 2) 24 #[.int .i64 0, .int .i64 0] := by rw [hW]; exact blk_new_at (by simp)
    have LW : Later w W := by rw [hW]; exact ((((Below.refl _ _).alloc (Nat.le_refl _) _).alloc (by simp; try omega) _).alloc (by simp; try omega) _)
    have szW : W.heap.size = w.heap.size + 3 := by rw [hW]; simp
    clear hW
    replace HB := hide (onward HB.out LW)
    have Hq := hide bq0
    have He := hide bq1
    have Ho := hide bq2
    clear bq0 bq1 bq2 LW szW
    refine (Hcs.out _).mono ?_
    rintro e w1 ⟨rfl, hb⟩
    replace HB := hide (onward HB.out hb)
    replace Hq := hide (blk_later Hq.out hb)
    replace He := hide (blk_later He.out hb)
    replace Ho := hide (blk_later Ho.out hb)
    clear hb
    obtain ⟨q0, q1, q2, q3, q4, q5, q6, q7⟩ := Hq.out.site8
    have lts := Hq.out.lt
    obtain ⟨v0, v1⟩ := He.out.c2
    have ltv := He.out.lt
    go_wp2_with fail
    refine (within_anyQ _ _ _ _).mono ?_
    rintro e w' ⟨rfl, rfl⟩
    rw [g1]
    go_wp2_with fail
    refine (valid_anyQ _ _ _).mono ?_
    rintro e w2 ⟨rfl, hb⟩
    replace HB := hide (onward HB.out hb)
    replace Hq := hide (blk_later Hq.out hb)
    replace He := hide (blk_later He.out hb)
    replace Ho := hide (blk_later Ho.out hb)
    clear hb v0 v1 ltv
    rw [g4]
    clear g1 g4
    clear q0 q1 q2 q3 q4 q5 q6 q7 lts
    obtain ⟨q0, q1, q2, q3, q4, q5, q6, q7⟩ := Hq.out.site8
    have lts := Hq.out.lt
    obtain ⟨v0, v1⟩ := He.out.c2
    have ltv := He.out.lt
    obtain ⟨o0, o1⟩ := Ho.out.c2
    have lto := Ho.out.lt
    have fo0 := Ho.out.frozen 0
    have fo1 := Ho.out.frozen 1
    go_wp2
    refine bodyPost_ret (v := spanE res) (by rw [HR.out]; simp [spanE, results, Try.results12, go_sem, o0, o1, fo0, fo1, lto]) rfl ⟨rfl, ?_⟩
    repeat (first | exact HB.out | (refine Below.setCell ?_ (by first | omega | (simp <;> omega)) _) | (refine Below.alloc ?_ (by first | omega | (simp <;> omega)) _) | (refine below_drewN ?_ _))
  ·
   have g4 : winB t 0 256 = false := by simpa using g1
   rw [if_neg (by rw [g4]; simp)] at hR
   have HR := hide hR
   clear hR
   clear g1
   go_enter Try.func12, Try.ntmps12
   have HB := hide (Below.refl w.heap.size w)
   go_wp2_with fail
   refine at_world fun W hW => ?_
   have bq0 : Blk W w.heap.size 28 #[.string s, .int .i64 x, .int .i64 y, .int .i64 z, .int .i64 r, .int .i64 g, .int .i64 st, .int .i64 wd] := by rw [hW]; exact ((Blk.new _ _ _).alloc _).alloc _
   have bq1 : Blk W (w.heap.size + 1) 24 #[.int .i64 elo, .int .i64 ehi] := by rw [hW]; exact (blk_new_at (by simp)).alloc _
   have bq2 : Blk W (w.heap.size + 2) 24 #[.int .i64 0, .int .i64 0] := by rw [hW]; exact blk_new_at (by simp)
   have LW : Later w W := by rw [hW]; exact ((((Below.refl _ _).alloc (Nat.le_refl _) _).alloc (by simp; try omega) _).alloc (by simp; try omega) _)
   have szW : W.heap.size = w.heap.size + 3 := by rw [hW]; simp
   clear hW
   replace HB := hide (onward HB.out LW)
   have Hq := hide bq0
   have He := hide bq1
   have Ho := hide bq2
   clear bq0 bq1 bq2 LW szW
   refine (Hcs.out _).mono ?_
   rintro e w1 ⟨rfl, hb⟩
   replace HB := hide (onward HB.out hb)
   replace Hq := hide (blk_later Hq.out hb)
   replace He := hide (blk_later He.out hb)
   replace Ho := hide (blk_later Ho.out hb)
   clear hb
   obtain ⟨q0, q1, q2, q3, q4, q5, q6, q7⟩ := Hq.out.site8
   have lts := Hq.out.lt
   obtain ⟨v0, v1⟩ := He.out.c2
   have ltv := He.out.lt
   go_wp2_with fail
   refine (within_anyQ _ _ _ _).mono ?_
   rintro e w' ⟨rfl, rfl⟩
   rw [g4]
   clear g4
   obtain ⟨o0, o1⟩ := Ho.out.c2
   have lto := Ho.out.lt
   have fo0 := Ho.out.frozen 0
   have fo1 := Ho.out.frozen 1
   go_wp2
   refine bodyPost_ret (v := spanE res) (by rw [HR.out]; simp [spanE, results, Try.results12, go_sem, o0, o1, fo0, fo1, lto]) rfl ⟨rfl, ?_⟩
   repeat (first | exact HB.out | (refine Below.setCell ?_ (by first | omega | (simp <;> omega)) _) | (refine Below.alloc ?_ (by first | omega | (simp <;> omega)) _) | (refine below_drewN ?_ _))
 ·
  rw [if_pos h0] at hR
  have h00 : (er != 0) = true := by simpa [bne] using h0
  have HR := hide hR
  clear hR
  go_enter Try.func12, Try.ntmps12
  have HB := hide (Below.refl w.heap.size w)
  go_wp2_with fail
  refine at_world fun W hW => ?_
  have bq0 : Blk W w.heap.size 28 #[.string s, .int .i64 x, .int .i64 y, .int .i64 z, .int .i64 r, .int .i64 g, .int .i64 st, .int .i64 wd] := by rw [hW]; exact ((Blk.new _ _ _).alloc _).alloc _
  have bq1 : Blk W (w.heap.size + 1) 24 #[.int .i64 elo, .int .i64 ehi] := by rw [hW]; exact (blk_new_at (by simp)).alloc _
  have bq2 : Blk W (w.heap.size + 2) 24 #[.int .i64 0, .int .i64 0] := by rw [hW]; exact blk_new_at (by simp)
  have LW : Later w W := by rw [hW]; exact ((((Below.refl _ _).alloc (Nat.le_refl _) _).alloc (by simp; try omega) _).alloc (by simp; try omega) _)
  have szW : W.heap.size = w.heap.size + 3 := by rw [hW]; simp
  clear hW
  replace HB := hide (onward HB.out LW)
  have Hq := hide bq0
  have He := hide bq1
  have Ho := hide bq2
  clear bq0 bq1 bq2 LW szW
  refine (Hcs.out _).mono ?_
  rintro e w1 ⟨rfl, hb⟩
  replace HB := hide (onward HB.out hb)
  replace Hq := hide (blk_later Hq.out hb)
  replace He := hide (blk_later He.out hb)
  replace Ho := hide (blk_later Ho.out hb)
  clear hb
  obtain ⟨q0, q1, q2, q3, q4, q5, q6, q7⟩ := Hq.out.site8
  have lts := Hq.out.lt
  obtain ⟨v0, v1⟩ := He.out.c2
  have ltv := He.out.lt
  obtain ⟨o0, o1⟩ := Ho.out.c2
  have lto := Ho.out.lt
  have fo0 := Ho.out.frozen 0
  have fo1 := Ho.out.frozen 1
  go_wp2
  refine bodyPost_ret (v := spanE res) (by rw [HR.out]; simp [spanE, results, Try.results12, go_sem, o0, o1, fo0, fo1, lto]) rfl ⟨rfl, ?_⟩
  repeat (first | exact HB.out | (refine Below.setCell ?_ (by first | omega | (simp <;> omega)) _) | (refine Below.alloc ?_ (by first | omega | (simp <;> omega)) _) | (refine below_drewN ?_ _))
end Go.Proofs.Ytepgpihobmjbdaa
