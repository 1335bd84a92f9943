/-
  What a grid sees of a site: View.
-/
import Derived.Test.YtepgpihobmjbdaaGreatRrRefView
set_option linter.unusedSimpArgs false
set_option linter.unusedVariables false
namespace Go.Proofs.YtepgpihobmjbdaaGreat
open Go Go.RowKit
set_option maxHeartbeats 4000000 in
set_option maxRecDepth 100000 in
theorem View_any (s : ByteArray) (sx sy z r g st wd t gx gy gs wi hi : Int) (w : World) (hs : s.size ≤ 9223372036854775807) :
  Calls Tryz.prog 30 #[siteV s sx sy z r g st wd, .int .i64 t, gridV gx gy gs wi hi] w fun e w' => ViewPost w (viewE (siteE (nameB s) sx sy z r g st wd) (gridE gx gy gs wi hi) t) (viewL r st t g sx sy gx gy gs wi (wi * hi).toNat) (wi * hi).toNat e w' := by
 have hcs := fun W => CheckSite_any s (nameB s) sx sy z r g st wd W (fun W => Name_any s W hs)
 have hcg := fun W => CheckGrid_any gx gy gs wi hi W
 have hok := fun h : siteE (nameB s) sx sy z r g st wd = 0 => siteE_ok h
 have hokg := fun h : gridE gx gy gs wi hi = 0 => gridE_ok h
 generalize siteE (nameB s) sx sy z r g st wd = se at *
 generalize gridE gx gy gs wi hi = ge at *
 obtain ⟨i0, hi0, hz0, hz1, hz2⟩ := info_parts intInfo
 unfold siteV gridV at *
 have Hcs := hide hcs
 have Hcg := hide hcg
 have Hok := hide hok
 have Hokg := hide hokg
 clear hcs hcg hok hokg
 have Hi := hide hi0
 have Hz0 := hide hz0
 have Hz1 := hide hz1
 have Hz2 := hide hz2
 clear hi0 hz0 hz1 hz2
 by_cases h0 : se = 0
 ·
  subst h0
  by_cases h1 : ge = 0
  ·
   subst h1
   obtain ⟨-, s1, s2, s3, s4, s5, s6, s7, s8, s9, s10, s11, s12, s13, s14⟩ := Hok.out rfl
   obtain ⟨a1, a2, b1, b2, c1, c2, d1, d2, f1, f2⟩ := Hokg.out rfl
   by_cases g1 : winB t 0 256 = true
   ·
    obtain ⟨t1, t2⟩ := winB_iff.1 g1
    have hE : viewE 0 0 t = 0 := by unfold viewE; simp [g1]
    rw [hE]
    clear hE
    obtain ⟨m1, m2⟩ := mul_bdB (a := wi) (b := hi) (A := 64) (B := 64) (by omega) d2 (by omega) f2
    obtain ⟨U, hU⟩ : ∃ U : Nat, wi = (U : Int) := ⟨wi.toNat, by omega⟩
    obtain ⟨V, hV⟩ : ∃ V : Nat, hi = (V : Int) := ⟨hi.toNat, by omega⟩
    have hN2 : wi * hi = ((U * V : Nat) : Int) := by rw [hU, hV, Int.natCast_mul]
    have hN : (wi * hi).toNat = U * V := by omega
    have hNb : U * V ≤ 4096 := by omega
    rw [hN]
    clear hN
    have hmul := fun a (ha : a ≤ V) => Nat.mul_le_mul (Nat.le_refl U) ha
    have hfd := fun x y (X1 : -5300000 ≤ x - sx ∧ x - sx ≤ 5300000) (Y1 : -5300000 ≤ y - sy ∧ y - sy ≤ 5300000) W => find_any s sx sy z r g st wd t x y W (by omega) s12 t1 t2 s9 s10 s7 s8 X1 Y1
    unfold siteV at hfd
    have Hg1 := hide g1
    have Hn := hide hN2
    have HU := hide hU
    have HV := hide hV
    have Hmul := hide hmul
    have Hfd := hide hfd
    clear g1 hN2 hU hV hmul hfd
    go_enter Tryz.func30, Tryz.ntmps30
    have HB := hide (Below.refl w.heap.size w)
    go_wp2_with fail
    refine at_world fun W hW => ?_
    have bq0 : Blk W w.heap.size 28 #[.string s, .int .i64 sx, .int .i64 sy, .int .i64 z, .int .i64 r, .int .i64 g, .int .i64 st, .int .i64 wd] := by rw [hW]; exact (Blk.new _ _ _).alloc _
    have bq1 : Blk W (w.heap.size + 1) 33 #[.int .i64 gx, .int .i64 gy, .int .i64 gs, .int .i64 wi, .int .i64 hi] := by rw [hW]; exact blk_new_at (by simp)
    have LW : Later w W := by rw [hW]; exact (((Below.refl _ _).alloc (Nat.le_refl _) _).alloc (by simp; try omega) _)
    have szW : W.heap.size = w.heap.size + 2 := by rw [hW]; simp
    clear hW
    replace HB := hide (onward HB.out LW)
    have Hq := hide bq0
    have Hf := hide bq1
    clear bq0 bq1 LW szW
    refine (Hcs.out _).mono ?_
    rintro e w1 ⟨rfl, hb⟩
    replace HB := hide (onward HB.out hb)
    replace Hq := hide (blk_later Hq.out hb)
    replace Hf := hide (blk_later Hf.out hb)
    clear hb
    obtain ⟨e0, e1, e2, e3, e4⟩ := Hf.out.c5
    have ltf := Hf.out.lt
    go_wp2_with fail
    clear e0 e1 e2 e3 e4 ltf
    refine (Hcg.out _).mono ?_
    rintro e w2 ⟨rfl, hb⟩
    replace HB := hide (onward HB.out hb)
    replace Hq := hide (blk_later Hq.out hb)
    replace Hf := hide (blk_later Hf.out hb)
    clear hb
    obtain ⟨e0, e1, e2, e3, e4⟩ := Hf.out.c5
    have ltf := Hf.out.lt
    go_wp2_with fail
    refine (within_anyQ _ _ _ _).mono ?_
    rintro e w' ⟨rfl, rfl⟩
    rw [Hg1.out]
    have hs2 : w.heap.size + 2 ≤ w2.heap.size := by omega
    go_wp2_with (at_make; refine wpList_make_own _ rfl _ _ 58 rfl (w.heap.size + 2) 3 i0 (.int .i64 0) 1 Tryz.underlying58 Hi.out Hz0.out Hz1.out .i64 .i64 _ (U * V) rfl rfl Hn.out (by rw [Hz2.out]; omega) (by unfold maxLen; omega) hs2 ?_)
    intro w4 hown hgr
    clear e0 e1 e2 e3 e4 ltf
    have Ho := hide hown
    replace HB := hide (below_grown HB.out hgr (by omega) (fun k hk => by simp at hk))
    replace Hq := hide (blk_grown Hq.out hgr (by simp))
    replace Hf := hide (blk_grown Hf.out hgr (by simp))
    clear hown hgr
    obtain ⟨e0, e1, e2, e3, e4⟩ := Hf.out.c5
    have ltf := Hf.out.lt
    go_wp2_with fail
    clear e0 e1 e2 e3 e4 ltf
    go_loopw [10, 38] (fun o i wr => ∃ a : Nat, a ≤ V ∧ i = .int .i64 a ∧ wr.ownsRow (w.heap.size + 2) 3 1 o (U * a) ((viewL r st t g sx sy gx gy gs wi (U * a)).map (Value.int .i64)) ∧ Below w.heap.size w wr ∧ Blk wr w.heap.size 28 #[.string s, .int .i64 sx, .int .i64 sy, .int .i64 z, .int .i64 r, .int .i64 g, .int .i64 st, .int .i64 wd] ∧ Blk wr (w.heap.size + 1) 33 #[.int .i64 gx, .int .i64 gy, .int .i64 gs, .int .i64 wi, .int .i64 hi])
     (fun _ i _ => V - (intOf i).toNat)
    case atStart => exact ⟨0, by omega, rfl, by simpa [viewL] using Ho.out, HB.out, Hq.out, Hf.out⟩
    case round =>
     clear HB Hq Hf Ho
     obtain ⟨a, ha, rfl, hown, hbw, hbq, hbf⟩ := hrel
     have Ho := hide hown
     have HB := hide hbw
     have Hq := hide hbq
     have Hf := hide hbf
     clear hown hbw hbq hbf
     by_cases hlt : a < V
     ·
      have hlt2 : (a : Int) < hi := by have := HV.out; omega
      have hmy := mid_bd (gx := gy) (wi := hi) b1 b2 c1 c2 (show 0 ≤ (a : Int) by omega) hlt2 f2
      obtain ⟨e0, e1, e2, e3, e4⟩ := Hf.out.c5
      have ltf := Hf.out.lt
      go_wp2_with fail
      clear e0 e1 e2 e3 e4 ltf
      go_loopw [10, 43] (fun o i wr => ∃ c : Nat, c ≤ U ∧ i = .int .i64 c ∧ wr.ownsRow (w.heap.size + 2) 3 1 o (U * a + c) ((viewL r st t g sx sy gx gy gs wi (U * a + c)).map (Value.int .i64)) ∧ Below w.heap.size w wr ∧ Blk wr w.heap.size 28 #[.string s, .int .i64 sx, .int .i64 sy, .int .i64 z, .int .i64 r, .int .i64 g, .int .i64 st, .int .i64 wd] ∧ Blk wr (w.heap.size + 1) 33 #[.int .i64 gx, .int .i64 gy, .int .i64 gs, .int .i64 wi, .int .i64 hi])
       (fun _ i _ => U - (intOf i).toNat)
      case atStart => exact ⟨0, by omega, rfl, by simpa using Ho.out, HB.out, Hq.out, Hf.out⟩
      case round =>
       clear HB Hq Hf Ho
       obtain ⟨c, hc, rfl, hown, hbw, hbq, hbf⟩ := hrel
       have Ho := hide hown
       have HB := hide hbw
       have Hq := hide hbq
       have Hf := hide hbf
       clear hown hbw hbq hbf
       by_cases hltc : c < U
       ·
        have hlt3 : (c : Int) < wi := by have := HU.out; omega
        have hmx := mid_bd (gx := gx) (wi := wi) a1 a2 c1 c2 (show 0 ≤ (c : Int) by omega) hlt3 d2
        have hle : U * a + c + 1 ≤ 4096 := by
         have h1 := Hmul.out (a + 1) hlt
         rw [Nat.mul_succ] at h1
         omega
        have hts := viewL_succ (ro := r) (st := st) (t := t) (g := g) (sx := sx) (sy := sy) (gx := gx) (gy := gy) (gs := gs) (wi := wi) (n := U * a + c)
        rw [show ((U * a + c : Nat) : Int) = a * wi + c by rw [HU.out, Int.natCast_add, Int.natCast_mul, Int.mul_comm], view_at (by omega) hlt3] at hts
        have hf := fun W => Hfd.out (gx + c * gs + gs / 2) (gy + a * gs + gs / 2) ⟨by omega, by omega⟩ ⟨by omega, by omega⟩ W
        obtain ⟨p, q, i, hfe, hseen⟩ := findZ_seen (ro := r) (st := st) (t := t) (g := g) (dx := gx + c * gs + gs / 2 - sx) (dy := gy + a * gs + gs / 2 - sy) s7 s8 s9 s10
        rw [hfe] at hf
        simp only at hf
        clear hfe
        generalize seenZ r st t g (gx + c * gs + gs / 2 - sx) (gy + a * gs + gs / 2 - sy) = v at *
        have Hfk := hide hf
        have Hts := hide hts
        clear hf hts
        obtain ⟨M, hM⟩ : ∃ M, U * a = M := ⟨_, rfl⟩
        rw [hM] at Ho hle Hts
        have HM := hide hM
        clear hM
        rcases hseen with ⟨rfl, hv, v1, v2, v3, v4⟩ | ⟨rfl, hv⟩
        ·
         obtain ⟨m5, m6⟩ := mul_bdB (a := p) (b := g) (A := 360) (B := 200) v1 (by omega) (by omega) (by omega)
         have Hv := hide hv
         clear hv
         obtain ⟨e0, e1, e2, e3, e4⟩ := Hf.out.c5
         have ltf := Hf.out.lt
         obtain ⟨q0, q1, q2, q3, q4, q5, q6, q7⟩ := Hq.out.site8
         have ltq := Hq.out.lt
         go_wp2_with fail
         clear q0 q1 q2 q3 q4 q5 q6 q7 ltq e0 e1 e2 e3 e4 ltf
         refine (Hfk.out _).mono ?_
         rintro e w5 ⟨rfl, hb⟩
         replace Hq := hide (blk_later Hq.out hb)
         replace Hf := hide (blk_later Hf.out hb)
         replace Ho := hide (own_later Ho.out hb)
         replace HB := hide (onward HB.out hb)
         clear hb
         have hs5 := Hf.out.lt
         obtain ⟨q0, q1, q2, q3, q4, q5, q6, q7⟩ := Hq.out.site8
         have ltq := Hq.out.lt
         go_wp2_with (at_builtin; refine wpList_append_own _ rfl (.tmp 82) (.tmp 84) _ rfl (w.heap.size + 2) 3 i0 _ 1 8 Tryz.underlying58 Hi.out Hz0.out Hz1.out Hz2.out rfl (by decide) _ (M + c) _ rfl (Ho.out.alloc _) ⟨w5.heap.size, 0, none⟩ 1 1 [.int .i64 (p * g + q)] rfl rfl ?q1c1 ?q1c2 ?q1c3 ?q1c4 ?q1c5 ?_)
         try case q1c1 => exact new_cells w5 _ [.int .i64 (p * g + q)]
         case q1c2 => intro u hu; simp at hu; subst hu; rfl
         case q1c3 => unfold maxLen; omega
         case q1c4 => omega
         case q1c5 => simp; omega
         intro v' w6 hown2 hgr2 _
         replace HB := hide (below_grown (HB.out.alloc HB.out.size (.cells #[.int .i64 (p * g + q)] 3)) hgr2 (by simp; omega) fun k hk => Nat.le_trans (by first | exact Nat.le_refl _ | omega) (Ho.out.lt k hk).1)
         replace Hq := hide (blk_grown (Hq.out.alloc _) hgr2 (own_low_ne Ho.out (by omega)))
         replace Hf := hide (blk_grown (Hf.out.alloc _) hgr2 (own_low_ne Ho.out (by omega)))
         replace Ho := hide hown2
         clear hown2 hgr2
         clear q0 q1 q2 q3 q4 q5 q6 q7 ltq
         go_wp2
         go_roundw
         case rel =>
          refine ⟨c + 1, by omega, by go_num, ?_, HB.out, Hq.out, Hf.out⟩
          have := Ho.out
          rw [HM.out, ← Nat.add_assoc, Hts.out, Hv.out, List.map_append]; exact this
         case measure => simp [intOf]; omega
        ·
         subst hv
         obtain ⟨e0, e1, e2, e3, e4⟩ := Hf.out.c5
         have ltf := Hf.out.lt
         obtain ⟨q0, q1, q2, q3, q4, q5, q6, q7⟩ := Hq.out.site8
         have ltq := Hq.out.lt
         go_wp2_with fail
         clear q0 q1 q2 q3 q4 q5 q6 q7 ltq e0 e1 e2 e3 e4 ltf
         refine (Hfk.out _).mono ?_
         rintro e w5 ⟨rfl, hb⟩
         replace Hq := hide (blk_later Hq.out hb)
         replace Hf := hide (blk_later Hf.out hb)
         replace Ho := hide (own_later Ho.out hb)
         replace HB := hide (onward HB.out hb)
         clear hb
         have hs5 := Hf.out.lt
         go_wp2_with (at_builtin; refine wpList_append_own _ rfl (.tmp 82) (.tmp 84) _ rfl (w.heap.size + 2) 3 i0 _ 1 8 Tryz.underlying58 Hi.out Hz0.out Hz1.out Hz2.out rfl (by decide) _ (M + c) _ rfl (Ho.out.alloc _) ⟨w5.heap.size, 0, none⟩ 1 1 [.int .i64 (-1)] rfl rfl ?q2c1 ?q2c2 ?q2c3 ?q2c4 ?q2c5 ?_)
         try case q2c1 => exact new_cells w5 _ [.int .i64 (-1)]
         case q2c2 => intro u hu; simp at hu; subst hu; rfl
         case q2c3 => unfold maxLen; omega
         case q2c4 => omega
         case q2c5 => simp; omega
         intro v' w6 hown2 hgr2 _
         replace HB := hide (below_grown (HB.out.alloc HB.out.size (.cells #[.int .i64 (-1)] 3)) hgr2 (by simp; omega) fun k hk => Nat.le_trans (by first | exact Nat.le_refl _ | omega) (Ho.out.lt k hk).1)
         replace Hq := hide (blk_grown (Hq.out.alloc _) hgr2 (own_low_ne Ho.out (by omega)))
         replace Hf := hide (blk_grown (Hf.out.alloc _) hgr2 (own_low_ne Ho.out (by omega)))
         replace Ho := hide hown2
         clear hown2 hgr2
         go_wp2
         go_roundw
         case rel =>
          refine ⟨c + 1, by omega, by go_num, ?_, HB.out, Hq.out, Hf.out⟩
          have := Ho.out
          rw [HM.out, ← Nat.add_assoc, Hts.out, List.map_append]; exact this
         case measure => simp [intOf]; omega
       ·
        obtain rfl : c = U := by omega
        have hlt3 : ¬ (c : Int) < wi := by have := HU.out; omega
        go_wp2
        go_roundw
        case rel => exact ⟨a + 1, by omega, by go_num, by rw [Nat.mul_succ]; exact Ho.out, HB.out, Hq.out, Hf.out⟩
        case measure => simp [intOf]; omega
     ·
      obtain rfl : a = V := by omega
      have hlt2 : ¬ (a : Int) < hi := by have := HV.out; omega
      obtain ⟨A, c, rfl⟩ := own_slice Ho.out
      go_wp2
      refine bodyPost_ret (v := .tuple #[.slice A (U * a) c, .int .i64 0]) (by simp [results, Tryz.results30, go_sem]) rfl ⟨A, c, by rw [if_pos rfl], HB.out, fun _ => Ints.own Ho.out rfl (Nat.le_refl _)⟩
   ·
    have g3 : winB t 0 256 = false := by simpa using g1
    have hE : viewE 0 0 t = 3 := by unfold viewE; simp [g3]
    rw [hE]
    clear hE
    have hne : (3 : Int) ≠ 0 := by omega
    have Hg3 := hide g3
    clear g3 g1
    go_enter Tryz.func30, Tryz.ntmps30
    have HB := hide (Below.refl w.heap.size w)
    go_wp2_with fail
    refine at_world fun W hW => ?_
    have bq0 : Blk W w.heap.size 28 #[.string s, .int .i64 sx, .int .i64 sy, .int .i64 z, .int .i64 r, .int .i64 g, .int .i64 st, .int .i64 wd] := by rw [hW]; exact (Blk.new _ _ _).alloc _
    have bq1 : Blk W (w.heap.size + 1) 33 #[.int .i64 gx, .int .i64 gy, .int .i64 gs, .int .i64 wi, .int .i64 hi] := by rw [hW]; exact blk_new_at (by simp)
    have LW : Later w W := by rw [hW]; exact (((Below.refl _ _).alloc (Nat.le_refl _) _).alloc (by simp; try omega) _)
    have szW : W.heap.size = w.heap.size + 2 := by rw [hW]; simp
    clear hW
    replace HB := hide (onward HB.out LW)
    have Hq := hide bq0
    have Hf := hide bq1
    clear bq0 bq1 LW szW
    refine (Hcs.out _).mono ?_
    rintro e w1 ⟨rfl, hb⟩
    replace HB := hide (onward HB.out hb)
    replace Hq := hide (blk_later Hq.out hb)
    replace Hf := hide (blk_later Hf.out hb)
    clear hb
    obtain ⟨e0, e1, e2, e3, e4⟩ := Hf.out.c5
    have ltf := Hf.out.lt
    go_wp2_with fail
    clear e0 e1 e2 e3 e4 ltf
    refine (Hcg.out _).mono ?_
    rintro e w2 ⟨rfl, hb⟩
    replace HB := hide (onward HB.out hb)
    replace Hq := hide (blk_later Hq.out hb)
    replace Hf := hide (blk_later Hf.out hb)
    clear hb
    go_wp2_with fail
    refine (within_anyQ _ _ _ _).mono ?_
    rintro e w' ⟨rfl, rfl⟩
    rw [Hg3.out]
    go_wp2
    refine bodyPost_ret (v := .tuple #[.slice none 0 0, .int .i64 3]) (by simp [results, Tryz.results30, go_sem]) rfl ⟨none, 0, by rw [if_neg hne], HB.out, fun h => absurd h hne⟩
  ·
   have h10 : (ge != 0) = true := by simpa [bne] using h1
   have hE : viewE 0 ge t = ge := by unfold viewE; rw [if_neg (by simp), if_pos h1]
   rw [hE]
   clear hE
   have hne := h1
   go_enter Tryz.func30, Tryz.ntmps30
   have HB := hide (Below.refl w.heap.size w)
   go_wp2_with fail
   refine at_world fun W hW => ?_
   have bq0 : Blk W w.heap.size 28 #[.string s, .int .i64 sx, .int .i64 sy, .int .i64 z, .int .i64 r, .int .i64 g, .int .i64 st, .int .i64 wd] := by rw [hW]; exact (Blk.new _ _ _).alloc _
   have bq1 : Blk W (w.heap.size + 1) 33 #[.int .i64 gx, .int .i64 gy, .int .i64 gs, .int .i64 wi, .int .i64 hi] := by rw [hW]; exact blk_new_at (by simp)
   have LW : Later w W := by rw [hW]; exact (((Below.refl _ _).alloc (Nat.le_refl _) _).alloc (by simp; try omega) _)
   have szW : W.heap.size = w.heap.size + 2 := by rw [hW]; simp
   clear hW
   replace HB := hide (onward HB.out LW)
   have Hq := hide bq0
   have Hf := hide bq1
   clear bq0 bq1 LW szW
   refine (Hcs.out _).mono ?_
   rintro e w1 ⟨rfl, hb⟩
   replace HB := hide (onward HB.out hb)
   replace Hq := hide (blk_later Hq.out hb)
   replace Hf := hide (blk_later Hf.out hb)
   clear hb
   obtain ⟨e0, e1, e2, e3, e4⟩ := Hf.out.c5
   have ltf := Hf.out.lt
   go_wp2_with fail
   clear e0 e1 e2 e3 e4 ltf
   refine (Hcg.out _).mono ?_
   rintro e w2 ⟨rfl, hb⟩
   replace HB := hide (onward HB.out hb)
   replace Hq := hide (blk_later Hq.out hb)
   replace Hf := hide (blk_later Hf.out hb)
   clear hb
   go_wp2
   refine bodyPost_ret (v := .tuple #[.slice none 0 0, .int .i64 ge]) (by simp [results, Tryz.results30, go_sem]) rfl ⟨none, 0, by rw [if_neg hne], HB.out, fun h => absurd h hne⟩
 ·
  have h00 : (se != 0) = true := by simpa [bne] using h0
  have hE : viewE se ge t = se := by unfold viewE; rw [if_pos h0]
  rw [hE]
  clear hE
  have hne := h0
  go_enter Tryz.func30, Tryz.ntmps30
  have HB := hide (Below.refl w.heap.size w)
  go_wp2_with fail
  refine at_world fun W hW => ?_
  have bq0 : Blk W w.heap.size 28 #[.string s, .int .i64 sx, .int .i64 sy, .int .i64 z, .int .i64 r, .int .i64 g, .int .i64 st, .int .i64 wd] := by rw [hW]; exact (Blk.new _ _ _).alloc _
  have bq1 : Blk W (w.heap.size + 1) 33 #[.int .i64 gx, .int .i64 gy, .int .i64 gs, .int .i64 wi, .int .i64 hi] := by rw [hW]; exact blk_new_at (by simp)
  have LW : Later w W := by rw [hW]; exact (((Below.refl _ _).alloc (Nat.le_refl _) _).alloc (by simp; try omega) _)
  have szW : W.heap.size = w.heap.size + 2 := by rw [hW]; simp
  clear hW
  replace HB := hide (onward HB.out LW)
  have Hq := hide bq0
  have Hf := hide bq1
  clear bq0 bq1 LW szW
  refine (Hcs.out _).mono ?_
  rintro e w1 ⟨rfl, hb⟩
  replace HB := hide (onward HB.out hb)
  replace Hq := hide (blk_later Hq.out hb)
  replace Hf := hide (blk_later Hf.out hb)
  clear hb
  obtain ⟨e0, e1, e2, e3, e4⟩ := Hf.out.c5
  have ltf := Hf.out.lt
  go_wp2
  refine bodyPost_ret (v := .tuple #[.slice none 0 0, .int .i64 se]) (by simp [results, Tryz.results30, go_sem]) rfl ⟨none, 0, by rw [if_neg hne], HB.out, fun h => absurd h hne⟩
end Go.Proofs.YtepgpihobmjbdaaGreat
