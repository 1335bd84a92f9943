/-
  Blocked threads: the reference's Blocked.
-/
import Derived.Test.YtepgpihobmjbdaaGreatRrOver
set_option linter.unusedSimpArgs false
set_option linter.unusedVariables false
namespace Go.Proofs.YtepgpihobmjbdaaGreat
open Go Go.RowKit
theorem boolInfo : (Tryz.prog.info? 4).map (fun i => (i.zero, i.size, i.bytes)) = some (some (.bool false), 1, 1) := by kernel_rfl
set_option maxHeartbeats 8000000 in
set_option maxRecDepth 100000 in
theorem RefBlocked_any (s : ByteArray) (sx sy z r g st wd t elo ehi gx gy gs wi hi : Int) (A : Option Addr) (n c : Nat) (l : List (Int × Int)) (ray : Int) (w : World) (hs : s.size ≤ 9223372036854775807)
  (hn : l.length = n) (hmax : n ≤ 9223372036854775807) (hl : Ints w w.heap.size .i64 A (flat2Q l)) :
  Calls Tryz.prog 49 #[siteV s sx sy z r g st wd, .int .i64 t, .agg #[.int .i64 elo, .int .i64 ehi], fieldV gx gy gs wi hi A n c, .int .i64 ray] w fun e w' =>
   BlockPost w (blockE (siteE (nameB s) sx sy z r g st wd) (fieldE (gridE gx gy gs wi hi) n wi hi l 20000) t elo ehi ray r)
    (rowsZ (csB (groundZ l sx sy r st t ray gx gy gs wi hi) z st elo (t - wd)) (cmB (groundZ l sx sy r st t ray gx gy gs wi hi) z st ehi (t - wd)) (2 * wd + 1).toNat) g.toNat e w' := by
 have hcs := fun W => RefCheckSite_any s sx sy z r g st wd W hs
 have hck := fun W (hl : Ints W W.heap.size .i64 A (flat2Q l)) => fits_any gx gy gs wi hi A n c l 20000 W hn hmax hl
 have hpl := fun gate W => RefPlace_any s sx sy z r g st wd t ray gate W hs
 have hok := fun h : siteE (nameB s) sx sy z r g st wd = 0 => siteE_ok h
 have hfok : fieldE (gridE gx gy gs wi hi) n wi hi l 20000 = 0 → gridE gx gy gs wi hi = 0 ∧ (n : Int) = wi * hi ∧ l.all (okS 20000) = true := fun h => by
  unfold fieldE at h
  split at h
  · rename_i h1; exact absurd h h1
  ·
   rename_i h1
   split at h
   · omega
   ·
    rename_i h2
    split at h
    ·
     rename_i h3
     exact ⟨Classical.not_not.1 h1, Classical.not_not.1 h2, h3⟩
    · omega
 generalize siteE (nameB s) sx sy z r g st wd = se at *
 generalize fieldE (gridE gx gy gs wi hi) n wi hi l 20000 = fe at *
 obtain ⟨i0, hi0, hz0, hz1, hz2⟩ := info_parts spanInfo
 obtain ⟨j0, jhi, jz0, jz1, jz2⟩ := info_parts boolInfo
 unfold siteV fieldV at *
 have Hcs := hide hcs
 have Hck := hide hck
 have Hok := hide hok
 have Hfok := hide hfok
 have Hpl := hide hpl
 have Hl := hide hl
 have Hn := hide hn
 clear hcs hck hok hfok hpl hl hn
 have Hi := hide hi0
 have Hz0 := hide hz0
 have Hz1 := hide hz1
 have Hz2 := hide hz2
 have Ji := hide jhi
 have Jz0 := hide jz0
 have Jz1 := hide jz1
 have Jz2 := hide jz2
 clear hi0 hz0 hz1 hz2 jhi jz0 jz1 jz2
 by_cases h0 : se = 0
 ·
  subst h0
  obtain ⟨-, s1, s2, s3, s4, s5, s6, s7, s8, s9, s10, s11, s12, s13, s14⟩ := Hok.out rfl
  by_cases h1 : fe = 0
  ·
   subst h1
   obtain ⟨hge, hsz, hall⟩ := Hfok.out rfl
   obtain ⟨a1, a2, b1, b2, c1, c2, d1, d2, f1, f2⟩ := gridE_ok hge
   clear hge
   by_cases g1 : winB t 0 256 = true
   ·
    obtain ⟨t1, t2⟩ := winB_iff.1 g1
    by_cases g2 : okE elo ehi = true
    ·
     by_cases g3 : winB ray 0 (4 * r - 1) = true
     ·
      obtain ⟨t3, t4⟩ := winB_iff.1 g3
      have hE : blockE 0 0 t elo ehi ray r = 0 := by unfold blockE; simp [g1, g2, g3]
      rw [hE]
      clear hE
      obtain ⟨G, hG⟩ : ∃ G : Nat, g = (G : Int) := ⟨g.toNat, by omega⟩
      obtain ⟨K, hK⟩ : ∃ K : Nat, 2 * wd + 1 = (K : Int) := ⟨(2 * wd + 1).toNat, by omega⟩
      rw [show g.toNat = G by omega, show (2 * wd + 1).toNat = K by omega]
      have hG0 : 1 ≤ G := by omega
      have hG1 : G ≤ 200 := by omega
      have hK1 : K ≤ 17 := by omega
      have hge := (Hfok.out rfl).1
      have hheight := fun t' j (x1 : -8 ≤ t') (x2 : t' ≤ 264) (x3 : 0 ≤ j) (x4 : j ≤ 199) W => refheight_any s sx sy z r g st wd t' j elo ehi W x1 x2 x3 x4 (by omega) s12 s5 s6 g2
      have hpl := fun (j : Nat) (hj : j < G) W => Hpl.out (j : Int) W
      have hpr : ∀ j : Nat, j < G → placeR 0 t ray j g sx sy r st = (placeZ sx sy r st t ray j, 0) := fun j hj => by
       unfold placeR
       rw [if_neg (by simp), if_pos (by rw [g1, g3, winB_iff.2 ⟨by omega, by omega⟩]; rfl)]
      have hov := fun x y W (hl : Ints W W.heap.size .i64 A (flat2Q l)) => over_any gx gy gs wi hi x y A n c l W hge Hn.out hsz hl
      have hgz : ∀ j : Nat, groundZ l sx sy r st t ray gx gy gs wi hi j = overZ l gx gy gs wi hi (placeZ sx sy r st t ray j).1 (placeZ sx sy r st t ray j).2 := fun j => rfl
      have hCs : ∀ i j, csB (groundZ l sx sy r st t ray gx gy gs wi hi) z st elo (t - wd) i j = decide (riseU z st j (t - wd + i) elo ≤ (groundZ l sx sy r st t ray gx gy gs wi hi j).1) := fun i j => rfl
      have hCm : ∀ i j, cmB (groundZ l sx sy r st t ray gx gy gs wi hi) z st ehi (t - wd) i j = decide (riseD z st j (t - wd + i) ehi ≤ (groundZ l sx sy r st t ray gx gy gs wi hi j).2) := fun i j => rfl
      generalize csB (groundZ l sx sy r st t ray gx gy gs wi hi) z st elo (t - wd) = cs at *
      generalize cmB (groundZ l sx sy r st t ray gx gy gs wi hi) z st ehi (t - wd) = cm at *
      unfold siteV at hheight
      unfold fieldV at hov
      have HL := Hl
      clear Hpl
      have Hheight := hide hheight
      have HCs := hide hCs
      have HCm := hide hCm
      have HG := hide hG
      have HK := hide hK
      have Hsz := hide hsz
      have Hall := hide hall
      have Hge := hide hge
      have Hpl := hide hpl
      have Hpr := hide hpr
      have Hov := hide hov
      have Hgz := hide hgz
      clear hheight hCs hCm hG hK hsz hall hge hpl hpr hov hgz
      have Hg1 := hide g1
      have Hg2 := hide g2
      have Hg3 := hide g3
      clear g1 g2 g3
      go_enter Tryz.func49, Tryz.ntmps49
      have HB := hide (Below.refl w.heap.size w)
      go_wp2_with fail
      refine at_world fun W hW => ?_
      have bq0 : Blk W w.heap.size 28 #[.string s, .int .i64 sx, .int .i64 sy, .int .i64 z, .int .i64 r, .int .i64 g, .int .i64 st, .int .i64 wd] := by rw [hW]; exact ((Blk.new _ _ _).alloc _).alloc _
      have bq1 : Blk W (w.heap.size + 1) 24 #[.int .i64 elo, .int .i64 ehi] := by rw [hW]; exact (blk_new_at (by simp)).alloc _
      have bq2 : Blk W (w.heap.size + 2) 36 #[.int .i64 gx, .int .i64 gy, .int .i64 gs, .int .i64 wi, .int .i64 hi, .slice A n c] := by rw [hW]; exact blk_new_at (by simp)
      have LW : Later w W := by rw [hW]; exact ((((Below.refl _ _).alloc (Nat.le_refl _) _).alloc (by simp; try omega) _).alloc (by simp; try omega) _)
      have szW : W.heap.size = w.heap.size + 3 := by rw [hW]; simp
      clear hW
      replace Hl := hide ((Ints.below Hl.out LW).more (Below.size LW))
      replace HB := hide (onward HB.out LW)
      have Hq := hide bq0
      have He := hide bq1
      have Hf := hide bq2
      clear bq0 bq1 bq2 LW szW
      refine (Hcs.out _).mono ?_
      rintro e w1 ⟨rfl, hb⟩
      replace Hl := hide ((Ints.below Hl.out hb).more (Below.size hb))
      replace HB := hide (onward HB.out hb)
      replace Hq := hide (blk_later Hq.out hb)
      replace He := hide (blk_later He.out hb)
      replace Hf := hide (blk_later Hf.out hb)
      clear hb
      obtain ⟨e0, e1, e2, e3, e4, e5⟩ := Hf.out.c6
      have ltf := Hf.out.lt
      go_wp2_with fail
      clear e0 e1 e2 e3 e4 e5 ltf
      refine (Hck.out _ Hl.out).mono ?_
      rintro e w2 ⟨rfl, hb⟩
      replace Hl := hide ((Ints.below Hl.out hb).more (Below.size hb))
      replace HB := hide (onward HB.out hb)
      replace Hq := hide (blk_later Hq.out hb)
      replace He := hide (blk_later He.out hb)
      replace Hf := hide (blk_later Hf.out hb)
      clear hb
      obtain ⟨v0, v1⟩ := He.out.c2
      have ltv := He.out.lt
      obtain ⟨q0, q1, q2, q3, q4, q5, q6, q7⟩ := Hq.out.site8
      have ltq := Hq.out.lt
      go_wp2_with fail
      refine (In_anyQ _ _ _ _).mono ?_
      rintro e w' ⟨rfl, rfl⟩
      rw [Hg1.out]
      go_wp2_with fail
      clear q0 q1 q2 q3 q4 q5 q6 q7 ltq
      refine (Earth_any _ _ _).mono ?_
      rintro e w3 ⟨rfl, hb⟩
      replace Hl := hide ((Ints.below Hl.out hb).more (Below.size hb))
      replace HB := hide (onward HB.out hb)
      replace Hq := hide (blk_later Hq.out hb)
      replace He := hide (blk_later He.out hb)
      replace Hf := hide (blk_later Hf.out hb)
      clear hb v0 v1 ltv
      rw [Hg2.out]
      obtain ⟨q0, q1, q2, q3, q4, q5, q6, q7⟩ := Hq.out.site8
      have ltq := Hq.out.lt
      go_wp2_with fail
      refine (In_anyQ _ _ _ _).mono ?_
      rintro e w' ⟨rfl, rfl⟩
      rw [Hg3.out]
      have hs3 := Hf.out.lt
      go_wp2_with fail
      refine wp_region_R (fun k => k < w3.heap.size) 12 (by kernel_rfl) ?_
      apply anyR_peel (fuel := 4) 12 [true, true, true, true, false, true, true, true, true, false, false, false] #[true, true, true, true, false, true, true, true, true, false, false, false] (by kernel_rfl) rfl (fun j hj => decide_eq_true hj) (fun k hk => by first | exact hk | omega | (simp at hk ⊢; omega))
      ·
       intro D hD
       have hne := hD.some
       have q7 := liftB hD q7 (by omega)
       simp only [takeOps]
       repeat (go_big_quiet_step (fail))
       exact wpQuiet_nil rfl
      have e53 : 2 * wd + 1 = (K : Int) := HK.out
      refine two_makes (t := 132) (e := 4) (C := 2 * wd + 1) 4 9 10 11 (by kernel_rfl) rfl rfl rfl rfl rfl rfl rfl rfl rfl rfl rfl rfl rfl rfl rfl rfl
       (fun b hb => ⟨(hb 53 (by decide) (by decide) (by decide) (by decide)).trans rfl, (hb 53 (by decide) (by decide) (by decide) (by decide)).trans rfl, (hb 58 (by decide) (by decide) (by decide) (by decide)).trans rfl, (hb 58 (by decide) (by decide) (by decide) (by decide)).trans rfl⟩)
       (by decide) (by simp) (by simp) e53 Tryz.underlying132 Ji.out Jz0.out Jz1.out Jz2.out (by omega) (by omega) (fun k hk => hk) ?_
      clear e53
      intro ga gb w9 hl9 hga hgb hne hba hbb
      have hm := boolsR_made (c := cs) (K := K)
      have hm2 := boolsR_made (c := cm) (K := K)
      simp only [Value.cells] at hba hbb
      rw [hm] at hba
      rw [hm2] at hbb
      clear hm hm2
      clear q0 q1 q2 q3 q4 q5 q6 q7 ltq
      replace Hl := hide ((Ints.below Hl.out hl9).more (Below.size hl9))
      replace HB := hide (onward HB.out hl9)
      replace Hq := hide (blk_later Hq.out hl9)
      replace He := hide (blk_later He.out hl9)
      replace Hf := hide (blk_later Hf.out hl9)
      clear hl9
      have Hba := hide hba
      have Hbb := hide hbb
      clear hba hbb
      simp only [Act.put, List.setIfInBounds_toArray, List.set_cons_succ, List.set_cons_zero]
      have HO := hide (show w.heap.size + 3 ≤ ga ∧ w.heap.size + 3 ≤ gb ∧ ga ≠ gb from ⟨by omega, by omega, hne⟩)
      go_wp2_with fail
      go_loopw [15, 16] (fun o i wr => ∃ j : Nat, j ≤ G ∧ i = .int .i64 j ∧ wr.ownsRow (w.heap.size + 3) 24 2 o j ((flat2Q (rowL (rowsZ cs cm K) j)).map (Value.int .i64)) ∧ Below w.heap.size w wr ∧ Blk wr w.heap.size 28 #[.string s, .int .i64 sx, .int .i64 sy, .int .i64 z, .int .i64 r, .int .i64 g, .int .i64 st, .int .i64 wd] ∧ Blk wr (w.heap.size + 1) 24 #[.int .i64 elo, .int .i64 ehi] ∧ Blk wr (w.heap.size + 2) 36 #[.int .i64 gx, .int .i64 gy, .int .i64 gs, .int .i64 wi, .int .i64 hi, .slice A n c] ∧ Blk wr ga 4 (boolsR (fun t => prevB (cs t) j) K) ∧ Blk wr gb 4 (boolsR (fun t => prevB (cm t) j) K))
       (fun _ i _ => G - (intOf i).toNat)
      case atStart => exact ⟨0, by omega, rfl, by simpa [rowL, flat2Q] using World.ownsRow_nil _ _ _ _, HB.out, Hq.out, He.out, Hf.out, Hba.out, Hbb.out⟩
      case round =>
       clear HB Hq He Hf Hba Hbb Hl
       obtain ⟨j, hj, rfl, hown, hbw, hbq, hbe, hbf, hba, hbb⟩ := hrel
       have Ho := hide hown
       have HB := hide hbw
       have Hq := hide hbq
       have He := hide hbe
       have Hf := hide hbf
       have Hba := hide hba
       have Hbb := hide hbb
       clear hown hbw hbq hbe hbf hba hbb
       by_cases hlt : j < G
       ·
        have hlt2 : (j : Int) < g := by rw [HG.out]; omega
        have hp := fun W => Hpl.out j hlt W
        rw [Hpr.out j hlt] at hp
        have hz := Hgz.out j
        obtain ⟨px, py, hpe⟩ : ∃ px py, placeZ sx sy r st t ray j = (px, py) := ⟨_, _, rfl⟩
        rw [hpe] at hp hz
        unfold twoE at hp
        simp only at hp hz
        have ho := fun W hl => Hov.out px py W hl
        rw [← hz] at ho
        have hcsj := fun k => HCs.out k j
        have hcmj := fun k => HCm.out k j
        obtain ⟨za, zb, hze⟩ : ∃ za zb, groundZ l sx sy r st t ray gx gy gs wi hi j = (za, zb) := ⟨_, _, rfl⟩
        rw [hze] at ho
        simp only [hze] at hcsj hcmj
        clear hz hpe hze
        have Hp := hide hp
        have Hov2 := hide ho
        have HCsj := hide hcsj
        have HCmj := hide hcmj
        clear hp ho hcsj hcmj
        obtain ⟨q0, q1, q2, q3, q4, q5, q6, q7⟩ := Hq.out.site8
        have ltq := Hq.out.lt
        go_wp2_with fail
        clear q0 q1 q2 q3 q4 q5 q6 q7 ltq
        refine (Hp.out _).mono ?_
        rintro e w10 ⟨rfl, hb⟩
        replace Ho := hide (own_later Ho.out hb)
        replace HB := hide (onward HB.out hb)
        replace Hq := hide (blk_later Hq.out hb)
        replace He := hide (blk_later He.out hb)
        replace Hf := hide (blk_later Hf.out hb)
        replace Hba := hide (blk_later Hba.out hb)
        replace Hbb := hide (blk_later Hbb.out hb)
        clear hb
        obtain ⟨e0, e1, e2, e3, e4, e5⟩ := Hf.out.c6
        have ltf := Hf.out.lt
        go_wp2_with fail
        clear e0 e1 e2 e3 e4 e5 ltf
        refine (Hov2.out _ ((HL.out.below HB.out).more HB.out.size)).mono ?_
        rintro e w11 ⟨rfl, hb⟩
        replace Ho := hide (own_later Ho.out hb)
        replace HB := hide (onward HB.out hb)
        replace Hq := hide (blk_later Hq.out hb)
        replace He := hide (blk_later He.out hb)
        replace Hf := hide (blk_later Hf.out hb)
        replace Hba := hide (blk_later Hba.out hb)
        replace Hbb := hide (blk_later Hbb.out hb)
        clear hb
        go_wp2_with fail
        have hob := fun k e => (Ho.out.lt k e).2
        have hla := Hba.out.lt
        have hlb := Hbb.out.lt
        have hlf := Hf.out.lt
        refine code_world fun W1 hW => ?_
        have bq0 : Blk W1 w11.heap.size 24 #[.int .i64 za, .int .i64 zb] := by rw [hW]; exact (Blk.new _ _ _).alloc _
        have bq1 : Blk W1 (w11.heap.size + 1) 24 #[.int .i64 0, .int .i64 0] := by rw [hW]; exact blk_new_at (by simp)
        have LW : Later w11 W1 := by rw [hW]; exact (((Below.refl _ _).alloc (Nat.le_refl _) _).alloc (by simp; try omega) _)
        have szW : W1.heap.size = w11.heap.size + 2 := by rw [hW]; simp
        clear hW
        replace Ho := hide (own_later Ho.out LW)
        replace HB := hide (onward HB.out LW)
        replace Hq := hide (blk_later Hq.out LW)
        replace He := hide (blk_later He.out LW)
        replace Hf := hide (blk_later Hf.out LW)
        replace Hba := hide (blk_later Hba.out LW)
        replace Hbb := hide (blk_later Hbb.out LW)
        have Hbg := hide bq0
        have Hbn := hide bq1
        clear bq0 bq1 LW szW
        generalize w11.heap.size = bg at *
        have HON1 := hide (own_ne Ho.out Hba.out (by decide))
        have HON2 := hide (own_ne Ho.out Hbb.out (by decide))
        have hon3 : u15.ownBlock ≠ some (bg + 1) := fun e => by have := hob _ e; omega
        have HON3 := hide hon3
        clear hob hon3
        obtain ⟨bn, hbn⟩ : ∃ bn, bg + 1 = bn := ⟨_, rfl⟩
        rw [hbn] at Hbn HON3
        have HO2 := hide (And.intro HO.out (show ga < bg ∧ gb < bg ∧ bg < bn ∧ w.heap.size + 3 ≤ bg from ⟨hla, hlb, by omega, by omega⟩))
        rw [hbn]
        clear hbn hla hlb hlf
        go_loopw [22] (fun i wr => ∃ k : Nat, k ≤ K ∧ i = .int .i64 k ∧ wr.ownsRow (w.heap.size + 3) 24 2 u15 j ((flat2Q (rowL (rowsZ cs cm K) j)).map (Value.int .i64)) ∧ Below w.heap.size w wr ∧ Blk wr w.heap.size 28 #[.string s, .int .i64 sx, .int .i64 sy, .int .i64 z, .int .i64 r, .int .i64 g, .int .i64 st, .int .i64 wd] ∧ Blk wr (w.heap.size + 1) 24 #[.int .i64 elo, .int .i64 ehi] ∧ Blk wr (w.heap.size + 2) 36 #[.int .i64 gx, .int .i64 gy, .int .i64 gs, .int .i64 wi, .int .i64 hi, .slice A n c] ∧ Blk wr ga 4 (boolsR (midB cs j k) K) ∧ Blk wr gb 4 (boolsR (midB cm j k) K) ∧ Blk wr bg 24 #[.int .i64 za, .int .i64 zb] ∧ Blk wr bn 24 #[.int .i64 (rowsZ cs cm k j).1, .int .i64 (rowsZ cs cm k j).2])
         (fun i _ => K - (intOf i).toNat)
        case atStart => exact ⟨0, by omega, rfl, Ho.out, HB.out, Hq.out, He.out, Hf.out, blkOf Hba.out midB_zero, blkOf Hbb.out midB_zero, Hbg.out, Hbn.out⟩
        case round =>
         clear HB Hq He Hf Hba Hbb Hbg Hbn Ho
         obtain ⟨k, hk, rfl, hown, hbw, hbq, hbe, hbf, hba, hbb, hbg, hbn⟩ := hrel
         have Ho := hide hown
         have HB := hide hbw
         have Hq := hide hbq
         have He := hide hbe
         have Hf := hide hbf
         have Hba := hide hba
         have Hbb := hide hbb
         have Hbg := hide hbg
         have Hbn := hide hbn
         clear hown hbw hbq hbe hbf hba hbb hbg hbn
         by_cases hlk : k < K
         ·
          have hK' := HK.out
          have hh := fun W => Hheight.out (t - wd + k) j (by omega) (by omega) (by omega) (by omega) W
          have hc1 := HCsj.out k
          have hc2 := HCmj.out k
          have hrw : rowsZ cs cm (k + 1) j = ((rowsZ cs cm k j).1 + oneB (anyB (cs k) j), (rowsZ cs cm k j).2 + oneB (anyB (cm k) j)) := rfl
          have hbd := rowsZ_bd (cs := cs) (cm := cm) k j
          obtain ⟨n1, n2, hn12⟩ : ∃ n1 n2, rowsZ cs cm k j = (n1, n2) := ⟨_, _, rfl⟩
          rw [hn12] at hrw hbd
          simp only at hrw hbd
          rw [hn12] at Hbn
          simp only at Hbn
          generalize riseD z st j (t - wd + k) ehi = lo at *
          generalize riseU z st j (t - wd + k) elo = hh' at *
          have hkb1 : -9 ≤ t - wd := by omega
          have hkb2 : t - wd ≤ 265 := by omega
          clear hn12 hK'
          have Hh := hide hh
          have Hc1 := hide hc1
          have Hc2 := hide hc2
          have Hrw := hide hrw
          clear hh hc1 hc2 hrw
          obtain ⟨q0, q1, q2, q3, q4, q5, q6, q7⟩ := Hq.out.site8
          have ltq := Hq.out.lt
          obtain ⟨v0, v1⟩ := He.out.c2
          have ltv := He.out.lt
          go_wp2_with fail
          clear q0 q1 q2 q3 q4 q5 q6 q7 ltq
          refine (Hh.out _).mono ?_
          rintro e w7 ⟨rfl, hb⟩
          replace Ho := hide (own_later Ho.out hb)
          replace HB := hide (onward HB.out hb)
          replace Hq := hide (blk_later Hq.out hb)
          replace He := hide (blk_later He.out hb)
          replace Hf := hide (blk_later Hf.out hb)
          replace Hba := hide (blk_later Hba.out hb)
          replace Hbb := hide (blk_later Hbb.out hb)
          replace Hbg := hide (blk_later Hbg.out hb)
          replace Hbn := hide (blk_later Hbn.out hb)
          clear hb v0 v1 ltv
          have ca := Hba.out.c k (midB_get hlk)
          have cb := Hbb.out.c k (midB_get hlk)
          cases hps : prevB (cs k) j with
          | true =>
           cases hpm : prevB (cm k) j with
           | true =>
            have HS1 := hide (show anyB (cs k) j = true by rw [anyB_prev, hps]; rfl)
            have HS2 := hide (show anyB (cm k) j = true by rw [anyB_prev, hpm]; rfl)
            have HRW := hide (show rowsZ cs cm (k + 1) j = (n1 + 1, n2 + 1) by rw [Hrw.out, HS1.out, HS2.out]; simp [oneB])
            rw [hps] at ca
            rw [hpm] at cb
            clear hps hpm
            obtain ⟨⟨-, -, hab⟩, hgb1, hgb2, hgb3, -⟩ := HO2.out
            have hgan : ga < bn := by omega
            have hgbn : gb < bn := by omega
            have lta := Hba.out.lt
            have fa := Hba.out.frozen k
            have ltb := Hbb.out.lt
            have fb := Hbb.out.frozen k
            obtain ⟨v0, v1⟩ := Hbg.out.c2
            have ltv := Hbg.out.lt
            obtain ⟨x0, x1⟩ := Hbn.out.c2
            have ltx := Hbn.out.lt
            have fx0 := Hbn.out.frozen 0
            have fx1 := Hbn.out.frozen 1
            obtain ⟨W8, hW⟩ : ∃ Wnew, Wnew = (((((w7.setCell ⟨ga, k, none⟩ (.bool true)).setCell ⟨gb, k, none⟩ (.bool true)).setCell ⟨bn, 0, none⟩ (.int .i64 (n1 + 1))).setCell ⟨bn, 1, none⟩ (.int .i64 (n2 + 1))).alloc (.cells #[.int .i64 lo, .int .i64 hh'] 24)) := ⟨_, rfl⟩
            have lq_HB := HB.out.size
            have lq_Hq := Hq.out.lt
            have lq_He := He.out.lt
            have lq_Hf := Hf.out.lt
            have lq_Hba := Hba.out.lt
            have lq_Hbb := Hbb.out.lt
            have lq_Hbg := Hbg.out.lt
            have lq_Hbn := Hbn.out.lt
            have ho := HO2.out
            replace Ho := hide (own_to hW (World.ownsRow.alloc (own_set (own_set (own_set (own_set Ho.out (by first | (with_reducible exact HON1.out) | (with_reducible exact HON2.out) | (with_reducible exact HON3.out)) _ _) (by first | (with_reducible exact HON1.out) | (with_reducible exact HON2.out) | (with_reducible exact HON3.out)) _ _) (by first | (with_reducible exact HON1.out) | (with_reducible exact HON2.out) | (with_reducible exact HON3.out)) _ _) (by first | (with_reducible exact HON1.out) | (with_reducible exact HON2.out) | (with_reducible exact HON3.out)) _ _) _))
            replace HB := hide (below_to hW (belowAl (belowSc (belowSc (belowSc (belowSc HB.out _) _) _) _) _))
            have q_Hq := blkTo hW (Blk.alloc (blkFa (blkFa (blkFa (blkFa Hq.out _) _) _) _) _)
            replace Hq := hide q_Hq
            clear q_Hq
            have q_He := blkTo hW (Blk.alloc (blkFa (blkFa (blkFa (blkFa He.out _) _) _) _) _)
            replace He := hide q_He
            clear q_He
            have q_Hf := blkTo hW (Blk.alloc (blkFa (blkFa (blkFa (blkFa Hf.out _) _) _) _) _)
            replace Hf := hide q_Hf
            clear q_Hf
            have q_Hba := blkTo hW (Blk.alloc (blkFa (blkFa (blkFa (Blk.set_ Hba.out (k) _) _) _) _) _)
            replace Hba := hide (blkOf q_Hba (show _ = boolsR (midB cs j (k + 1)) K from by first | rfl | exact cellsR_set1 | exact cellsR_set0 | exact cellsR_set01 | exact cellsR_set10 | exact boolsR_set HS1.out | exact boolsR_set HS2.out))
            clear q_Hba
            have q_Hbb := blkTo hW (Blk.alloc (blkFa (blkFa (Blk.set_ (blkFa Hbb.out _) (k) _) _) _) _)
            replace Hbb := hide (blkOf q_Hbb (show _ = boolsR (midB cm j (k + 1)) K from by first | rfl | exact cellsR_set1 | exact cellsR_set0 | exact cellsR_set01 | exact cellsR_set10 | exact boolsR_set HS1.out | exact boolsR_set HS2.out))
            clear q_Hbb
            have q_Hbg := blkTo hW (Blk.alloc (blkFa (blkFa (blkFa (blkFa Hbg.out _) _) _) _) _)
            replace Hbg := hide q_Hbg
            clear q_Hbg
            have q_Hbn := blkTo hW (Blk.alloc (Blk.set_ (Blk.set_ (blkFa (blkFa Hbn.out _) _) (0) _) (1) _) _)
            replace Hbn := hide (blkOf q_Hbn (show _ = #[.int .i64 (n1 + 1), .int .i64 (n2 + 1)] from by first | rfl | exact cellsR_set1 | exact cellsR_set0 | exact cellsR_set01 | exact cellsR_set10 | exact boolsR_set HS1.out | exact boolsR_set HS2.out))
            clear q_Hbn
            have Hbh := hide (blkTo hW (blk_new_at (t := 24) (cs := #[.int .i64 lo, .int .i64 hh']) (g := w7.heap.size) (by simp)))
            have HW8 := hide hW
            clear hW lq_HB lq_Hq lq_He lq_Hf lq_Hba lq_Hbb lq_Hbg lq_Hbn ho
            go_wp2
            go_roundw
            case rel =>
             rw [← HW8.out]
             exact ⟨k + 1, by omega, by go_num, Ho.out, HB.out, Hq.out, He.out, Hf.out, Hba.out, Hbb.out, Hbg.out, by rw [HRW.out]; exact Hbn.out⟩
            case measure => simp [intOf]; omega
           | false =>
            by_cases hm : lo ≤ zb
            ·
             skip
             have HS1 := hide (show anyB (cs k) j = true by rw [anyB_prev, hps]; rfl)
             have HS2 := hide (show anyB (cm k) j = true by rw [anyB_prev, hpm, Hc2.out, decide_eq_true hm]; rfl)
             have HRW := hide (show rowsZ cs cm (k + 1) j = (n1 + 1, n2 + 1) by rw [Hrw.out, HS1.out, HS2.out]; simp [oneB])
             rw [hps] at ca
             rw [hpm] at cb
             clear hps hpm
             obtain ⟨⟨-, -, hab⟩, hgb1, hgb2, hgb3, -⟩ := HO2.out
             have hgan : ga < bn := by omega
             have hgbn : gb < bn := by omega
             have lta := Hba.out.lt
             have fa := Hba.out.frozen k
             have ltb := Hbb.out.lt
             have fb := Hbb.out.frozen k
             obtain ⟨v0, v1⟩ := Hbg.out.c2
             have ltv := Hbg.out.lt
             obtain ⟨x0, x1⟩ := Hbn.out.c2
             have ltx := Hbn.out.lt
             have fx0 := Hbn.out.frozen 0
             have fx1 := Hbn.out.frozen 1
             obtain ⟨W8, hW⟩ : ∃ Wnew, Wnew = (((((w7.setCell ⟨ga, k, none⟩ (.bool true)).setCell ⟨gb, k, none⟩ (.bool true)).setCell ⟨bn, 0, none⟩ (.int .i64 (n1 + 1))).setCell ⟨bn, 1, none⟩ (.int .i64 (n2 + 1))).alloc (.cells #[.int .i64 lo, .int .i64 hh'] 24)) := ⟨_, rfl⟩
             have lq_HB := HB.out.size
             have lq_Hq := Hq.out.lt
             have lq_He := He.out.lt
             have lq_Hf := Hf.out.lt
             have lq_Hba := Hba.out.lt
             have lq_Hbb := Hbb.out.lt
             have lq_Hbg := Hbg.out.lt
             have lq_Hbn := Hbn.out.lt
             have ho := HO2.out
             replace Ho := hide (own_to hW (World.ownsRow.alloc (own_set (own_set (own_set (own_set Ho.out (by first | (with_reducible exact HON1.out) | (with_reducible exact HON2.out) | (with_reducible exact HON3.out)) _ _) (by first | (with_reducible exact HON1.out) | (with_reducible exact HON2.out) | (with_reducible exact HON3.out)) _ _) (by first | (with_reducible exact HON1.out) | (with_reducible exact HON2.out) | (with_reducible exact HON3.out)) _ _) (by first | (with_reducible exact HON1.out) | (with_reducible exact HON2.out) | (with_reducible exact HON3.out)) _ _) _))
             replace HB := hide (below_to hW (belowAl (belowSc (belowSc (belowSc (belowSc HB.out _) _) _) _) _))
             have q_Hq := blkTo hW (Blk.alloc (blkFa (blkFa (blkFa (blkFa Hq.out _) _) _) _) _)
             replace Hq := hide q_Hq
             clear q_Hq
             have q_He := blkTo hW (Blk.alloc (blkFa (blkFa (blkFa (blkFa He.out _) _) _) _) _)
             replace He := hide q_He
             clear q_He
             have q_Hf := blkTo hW (Blk.alloc (blkFa (blkFa (blkFa (blkFa Hf.out _) _) _) _) _)
             replace Hf := hide q_Hf
             clear q_Hf
             have q_Hba := blkTo hW (Blk.alloc (blkFa (blkFa (blkFa (Blk.set_ Hba.out (k) _) _) _) _) _)
             replace Hba := hide (blkOf q_Hba (show _ = boolsR (midB cs j (k + 1)) K from by first | rfl | exact cellsR_set1 | exact cellsR_set0 | exact cellsR_set01 | exact cellsR_set10 | exact boolsR_set HS1.out | exact boolsR_set HS2.out))
             clear q_Hba
             have q_Hbb := blkTo hW (Blk.alloc (blkFa (blkFa (Blk.set_ (blkFa Hbb.out _) (k) _) _) _) _)
             replace Hbb := hide (blkOf q_Hbb (show _ = boolsR (midB cm j (k + 1)) K from by first | rfl | exact cellsR_set1 | exact cellsR_set0 | exact cellsR_set01 | exact cellsR_set10 | exact boolsR_set HS1.out | exact boolsR_set HS2.out))
             clear q_Hbb
             have q_Hbg := blkTo hW (Blk.alloc (blkFa (blkFa (blkFa (blkFa Hbg.out _) _) _) _) _)
             replace Hbg := hide q_Hbg
             clear q_Hbg
             have q_Hbn := blkTo hW (Blk.alloc (Blk.set_ (Blk.set_ (blkFa (blkFa Hbn.out _) _) (0) _) (1) _) _)
             replace Hbn := hide (blkOf q_Hbn (show _ = #[.int .i64 (n1 + 1), .int .i64 (n2 + 1)] from by first | rfl | exact cellsR_set1 | exact cellsR_set0 | exact cellsR_set01 | exact cellsR_set10 | exact boolsR_set HS1.out | exact boolsR_set HS2.out))
             clear q_Hbn
             have Hbh := hide (blkTo hW (blk_new_at (t := 24) (cs := #[.int .i64 lo, .int .i64 hh']) (g := w7.heap.size) (by simp)))
             have HW8 := hide hW
             clear hW lq_HB lq_Hq lq_He lq_Hf lq_Hba lq_Hbb lq_Hbg lq_Hbn ho
             go_wp2
             go_roundw
             case rel =>
              rw [← HW8.out]
              exact ⟨k + 1, by omega, by go_num, Ho.out, HB.out, Hq.out, He.out, Hf.out, Hba.out, Hbb.out, Hbg.out, by rw [HRW.out]; exact Hbn.out⟩
             case measure => simp [intOf]; omega
            ·
             skip
             have HS1 := hide (show anyB (cs k) j = true by rw [anyB_prev, hps]; rfl)
             have HS2 := hide (show anyB (cm k) j = false by rw [anyB_prev, hpm, Hc2.out, decide_eq_false hm]; rfl)
             have HRW := hide (show rowsZ cs cm (k + 1) j = (n1 + 1, n2) by rw [Hrw.out, HS1.out, HS2.out]; simp [oneB])
             rw [hps] at ca
             rw [hpm] at cb
             have hcd2 := decide_eq_false hm
             clear hps hpm
             obtain ⟨⟨-, -, hab⟩, hgb1, hgb2, hgb3, -⟩ := HO2.out
             have hgan : ga < bn := by omega
             have hgbn : gb < bn := by omega
             have lta := Hba.out.lt
             have fa := Hba.out.frozen k
             have ltb := Hbb.out.lt
             have fb := Hbb.out.frozen k
             obtain ⟨v0, v1⟩ := Hbg.out.c2
             have ltv := Hbg.out.lt
             obtain ⟨x0, x1⟩ := Hbn.out.c2
             have ltx := Hbn.out.lt
             have fx0 := Hbn.out.frozen 0
             have fx1 := Hbn.out.frozen 1
             obtain ⟨W8, hW⟩ : ∃ Wnew, Wnew = ((((w7.setCell ⟨ga, k, none⟩ (.bool true)).setCell ⟨gb, k, none⟩ (.bool false)).setCell ⟨bn, 0, none⟩ (.int .i64 (n1 + 1))).alloc (.cells #[.int .i64 lo, .int .i64 hh'] 24)) := ⟨_, rfl⟩
             have lq_HB := HB.out.size
             have lq_Hq := Hq.out.lt
             have lq_He := He.out.lt
             have lq_Hf := Hf.out.lt
             have lq_Hba := Hba.out.lt
             have lq_Hbb := Hbb.out.lt
             have lq_Hbg := Hbg.out.lt
             have lq_Hbn := Hbn.out.lt
             have ho := HO2.out
             replace Ho := hide (own_to hW (World.ownsRow.alloc (own_set (own_set (own_set Ho.out (by first | (with_reducible exact HON1.out) | (with_reducible exact HON2.out) | (with_reducible exact HON3.out)) _ _) (by first | (with_reducible exact HON1.out) | (with_reducible exact HON2.out) | (with_reducible exact HON3.out)) _ _) (by first | (with_reducible exact HON1.out) | (with_reducible exact HON2.out) | (with_reducible exact HON3.out)) _ _) _))
             replace HB := hide (below_to hW (belowAl (belowSc (belowSc (belowSc HB.out _) _) _) _))
             have q_Hq := blkTo hW (Blk.alloc (blkFa (blkFa (blkFa Hq.out _) _) _) _)
             replace Hq := hide q_Hq
             clear q_Hq
             have q_He := blkTo hW (Blk.alloc (blkFa (blkFa (blkFa He.out _) _) _) _)
             replace He := hide q_He
             clear q_He
             have q_Hf := blkTo hW (Blk.alloc (blkFa (blkFa (blkFa Hf.out _) _) _) _)
             replace Hf := hide q_Hf
             clear q_Hf
             have q_Hba := blkTo hW (Blk.alloc (blkFa (blkFa (Blk.set_ Hba.out (k) _) _) _) _)
             replace Hba := hide (blkOf q_Hba (show _ = boolsR (midB cs j (k + 1)) K from by first | rfl | exact cellsR_set1 | exact cellsR_set0 | exact cellsR_set01 | exact cellsR_set10 | exact boolsR_set HS1.out | exact boolsR_set HS2.out))
             clear q_Hba
             have q_Hbb := blkTo hW (Blk.alloc (blkFa (Blk.set_ (blkFa Hbb.out _) (k) _) _) _)
             replace Hbb := hide (blkOf q_Hbb (show _ = boolsR (midB cm j (k + 1)) K from by first | rfl | exact cellsR_set1 | exact cellsR_set0 | exact cellsR_set01 | exact cellsR_set10 | exact boolsR_set HS1.out | exact boolsR_set HS2.out))
             clear q_Hbb
             have q_Hbg := blkTo hW (Blk.alloc (blkFa (blkFa (blkFa Hbg.out _) _) _) _)
             replace Hbg := hide q_Hbg
             clear q_Hbg
             have q_Hbn := blkTo hW (Blk.alloc (Blk.set_ (blkFa (blkFa Hbn.out _) _) (0) _) _)
             replace Hbn := hide (blkOf q_Hbn (show _ = #[.int .i64 (n1 + 1), .int .i64 n2] from by first | rfl | exact cellsR_set1 | exact cellsR_set0 | exact cellsR_set01 | exact cellsR_set10 | exact boolsR_set HS1.out | exact boolsR_set HS2.out))
             clear q_Hbn
             have Hbh := hide (blkTo hW (blk_new_at (t := 24) (cs := #[.int .i64 lo, .int .i64 hh']) (g := w7.heap.size) (by simp)))
             have HW8 := hide hW
             clear hW lq_HB lq_Hq lq_He lq_Hf lq_Hba lq_Hbb lq_Hbg lq_Hbn ho
             go_wp2
             go_roundw
             case rel =>
              rw [← HW8.out]
              exact ⟨k + 1, by omega, by go_num, Ho.out, HB.out, Hq.out, He.out, Hf.out, Hba.out, Hbb.out, Hbg.out, by rw [HRW.out]; exact Hbn.out⟩
             case measure => simp [intOf]; omega
          | false =>
           by_cases hs : hh' ≤ za
           ·
            cases hpm : prevB (cm k) j with
            | true =>
             have HS1 := hide (show anyB (cs k) j = true by rw [anyB_prev, hps, Hc1.out, decide_eq_true hs]; rfl)
             have HS2 := hide (show anyB (cm k) j = true by rw [anyB_prev, hpm]; rfl)
             have HRW := hide (show rowsZ cs cm (k + 1) j = (n1 + 1, n2 + 1) by rw [Hrw.out, HS1.out, HS2.out]; simp [oneB])
             rw [hps] at ca
             rw [hpm] at cb
             clear hps hpm
             obtain ⟨⟨-, -, hab⟩, hgb1, hgb2, hgb3, -⟩ := HO2.out
             have hgan : ga < bn := by omega
             have hgbn : gb < bn := by omega
             have lta := Hba.out.lt
             have fa := Hba.out.frozen k
             have ltb := Hbb.out.lt
             have fb := Hbb.out.frozen k
             obtain ⟨v0, v1⟩ := Hbg.out.c2
             have ltv := Hbg.out.lt
             obtain ⟨x0, x1⟩ := Hbn.out.c2
             have ltx := Hbn.out.lt
             have fx0 := Hbn.out.frozen 0
             have fx1 := Hbn.out.frozen 1
             obtain ⟨W8, hW⟩ : ∃ Wnew, Wnew = (((((w7.setCell ⟨ga, k, none⟩ (.bool true)).setCell ⟨gb, k, none⟩ (.bool true)).setCell ⟨bn, 0, none⟩ (.int .i64 (n1 + 1))).setCell ⟨bn, 1, none⟩ (.int .i64 (n2 + 1))).alloc (.cells #[.int .i64 lo, .int .i64 hh'] 24)) := ⟨_, rfl⟩
             have lq_HB := HB.out.size
             have lq_Hq := Hq.out.lt
             have lq_He := He.out.lt
             have lq_Hf := Hf.out.lt
             have lq_Hba := Hba.out.lt
             have lq_Hbb := Hbb.out.lt
             have lq_Hbg := Hbg.out.lt
             have lq_Hbn := Hbn.out.lt
             have ho := HO2.out
             replace Ho := hide (own_to hW (World.ownsRow.alloc (own_set (own_set (own_set (own_set Ho.out (by first | (with_reducible exact HON1.out) | (with_reducible exact HON2.out) | (with_reducible exact HON3.out)) _ _) (by first | (with_reducible exact HON1.out) | (with_reducible exact HON2.out) | (with_reducible exact HON3.out)) _ _) (by first | (with_reducible exact HON1.out) | (with_reducible exact HON2.out) | (with_reducible exact HON3.out)) _ _) (by first | (with_reducible exact HON1.out) | (with_reducible exact HON2.out) | (with_reducible exact HON3.out)) _ _) _))
             replace HB := hide (below_to hW (belowAl (belowSc (belowSc (belowSc (belowSc HB.out _) _) _) _) _))
             have q_Hq := blkTo hW (Blk.alloc (blkFa (blkFa (blkFa (blkFa Hq.out _) _) _) _) _)
             replace Hq := hide q_Hq
             clear q_Hq
             have q_He := blkTo hW (Blk.alloc (blkFa (blkFa (blkFa (blkFa He.out _) _) _) _) _)
             replace He := hide q_He
             clear q_He
             have q_Hf := blkTo hW (Blk.alloc (blkFa (blkFa (blkFa (blkFa Hf.out _) _) _) _) _)
             replace Hf := hide q_Hf
             clear q_Hf
             have q_Hba := blkTo hW (Blk.alloc (blkFa (blkFa (blkFa (Blk.set_ Hba.out (k) _) _) _) _) _)
             replace Hba := hide (blkOf q_Hba (show _ = boolsR (midB cs j (k + 1)) K from by first | rfl | exact cellsR_set1 | exact cellsR_set0 | exact cellsR_set01 | exact cellsR_set10 | exact boolsR_set HS1.out | exact boolsR_set HS2.out))
             clear q_Hba
             have q_Hbb := blkTo hW (Blk.alloc (blkFa (blkFa (Blk.set_ (blkFa Hbb.out _) (k) _) _) _) _)
             replace Hbb := hide (blkOf q_Hbb (show _ = boolsR (midB cm j (k + 1)) K from by first | rfl | exact cellsR_set1 | exact cellsR_set0 | exact cellsR_set01 | exact cellsR_set10 | exact boolsR_set HS1.out | exact boolsR_set HS2.out))
             clear q_Hbb
             have q_Hbg := blkTo hW (Blk.alloc (blkFa (blkFa (blkFa (blkFa Hbg.out _) _) _) _) _)
             replace Hbg := hide q_Hbg
             clear q_Hbg
             have q_Hbn := blkTo hW (Blk.alloc (Blk.set_ (Blk.set_ (blkFa (blkFa Hbn.out _) _) (0) _) (1) _) _)
             replace Hbn := hide (blkOf q_Hbn (show _ = #[.int .i64 (n1 + 1), .int .i64 (n2 + 1)] from by first | rfl | exact cellsR_set1 | exact cellsR_set0 | exact cellsR_set01 | exact cellsR_set10 | exact boolsR_set HS1.out | exact boolsR_set HS2.out))
             clear q_Hbn
             have Hbh := hide (blkTo hW (blk_new_at (t := 24) (cs := #[.int .i64 lo, .int .i64 hh']) (g := w7.heap.size) (by simp)))
             have HW8 := hide hW
             clear hW lq_HB lq_Hq lq_He lq_Hf lq_Hba lq_Hbb lq_Hbg lq_Hbn ho
             go_wp2
             go_roundw
             case rel =>
              rw [← HW8.out]
              exact ⟨k + 1, by omega, by go_num, Ho.out, HB.out, Hq.out, He.out, Hf.out, Hba.out, Hbb.out, Hbg.out, by rw [HRW.out]; exact Hbn.out⟩
             case measure => simp [intOf]; omega
            | false =>
             by_cases hm : lo ≤ zb
             ·
              skip
              have HS1 := hide (show anyB (cs k) j = true by rw [anyB_prev, hps, Hc1.out, decide_eq_true hs]; rfl)
              have HS2 := hide (show anyB (cm k) j = true by rw [anyB_prev, hpm, Hc2.out, decide_eq_true hm]; rfl)
              have HRW := hide (show rowsZ cs cm (k + 1) j = (n1 + 1, n2 + 1) by rw [Hrw.out, HS1.out, HS2.out]; simp [oneB])
              rw [hps] at ca
              rw [hpm] at cb
              clear hps hpm
              obtain ⟨⟨-, -, hab⟩, hgb1, hgb2, hgb3, -⟩ := HO2.out
              have hgan : ga < bn := by omega
              have hgbn : gb < bn := by omega
              have lta := Hba.out.lt
              have fa := Hba.out.frozen k
              have ltb := Hbb.out.lt
              have fb := Hbb.out.frozen k
              obtain ⟨v0, v1⟩ := Hbg.out.c2
              have ltv := Hbg.out.lt
              obtain ⟨x0, x1⟩ := Hbn.out.c2
              have ltx := Hbn.out.lt
              have fx0 := Hbn.out.frozen 0
              have fx1 := Hbn.out.frozen 1
              obtain ⟨W8, hW⟩ : ∃ Wnew, Wnew = (((((w7.setCell ⟨ga, k, none⟩ (.bool true)).setCell ⟨gb, k, none⟩ (.bool true)).setCell ⟨bn, 0, none⟩ (.int .i64 (n1 + 1))).setCell ⟨bn, 1, none⟩ (.int .i64 (n2 + 1))).alloc (.cells #[.int .i64 lo, .int .i64 hh'] 24)) := ⟨_, rfl⟩
              have lq_HB := HB.out.size
              have lq_Hq := Hq.out.lt
              have lq_He := He.out.lt
              have lq_Hf := Hf.out.lt
              have lq_Hba := Hba.out.lt
              have lq_Hbb := Hbb.out.lt
              have lq_Hbg := Hbg.out.lt
              have lq_Hbn := Hbn.out.lt
              have ho := HO2.out
              replace Ho := hide (own_to hW (World.ownsRow.alloc (own_set (own_set (own_set (own_set Ho.out (by first | (with_reducible exact HON1.out) | (with_reducible exact HON2.out) | (with_reducible exact HON3.out)) _ _) (by first | (with_reducible exact HON1.out) | (with_reducible exact HON2.out) | (with_reducible exact HON3.out)) _ _) (by first | (with_reducible exact HON1.out) | (with_reducible exact HON2.out) | (with_reducible exact HON3.out)) _ _) (by first | (with_reducible exact HON1.out) | (with_reducible exact HON2.out) | (with_reducible exact HON3.out)) _ _) _))
              replace HB := hide (below_to hW (belowAl (belowSc (belowSc (belowSc (belowSc HB.out _) _) _) _) _))
              have q_Hq := blkTo hW (Blk.alloc (blkFa (blkFa (blkFa (blkFa Hq.out _) _) _) _) _)
              replace Hq := hide q_Hq
              clear q_Hq
              have q_He := blkTo hW (Blk.alloc (blkFa (blkFa (blkFa (blkFa He.out _) _) _) _) _)
              replace He := hide q_He
              clear q_He
              have q_Hf := blkTo hW (Blk.alloc (blkFa (blkFa (blkFa (blkFa Hf.out _) _) _) _) _)
              replace Hf := hide q_Hf
              clear q_Hf
              have q_Hba := blkTo hW (Blk.alloc (blkFa (blkFa (blkFa (Blk.set_ Hba.out (k) _) _) _) _) _)
              replace Hba := hide (blkOf q_Hba (show _ = boolsR (midB cs j (k + 1)) K from by first | rfl | exact cellsR_set1 | exact cellsR_set0 | exact cellsR_set01 | exact cellsR_set10 | exact boolsR_set HS1.out | exact boolsR_set HS2.out))
              clear q_Hba
              have q_Hbb := blkTo hW (Blk.alloc (blkFa (blkFa (Blk.set_ (blkFa Hbb.out _) (k) _) _) _) _)
              replace Hbb := hide (blkOf q_Hbb (show _ = boolsR (midB cm j (k + 1)) K from by first | rfl | exact cellsR_set1 | exact cellsR_set0 | exact cellsR_set01 | exact cellsR_set10 | exact boolsR_set HS1.out | exact boolsR_set HS2.out))
              clear q_Hbb
              have q_Hbg := blkTo hW (Blk.alloc (blkFa (blkFa (blkFa (blkFa Hbg.out _) _) _) _) _)
              replace Hbg := hide q_Hbg
              clear q_Hbg
              have q_Hbn := blkTo hW (Blk.alloc (Blk.set_ (Blk.set_ (blkFa (blkFa Hbn.out _) _) (0) _) (1) _) _)
              replace Hbn := hide (blkOf q_Hbn (show _ = #[.int .i64 (n1 + 1), .int .i64 (n2 + 1)] from by first | rfl | exact cellsR_set1 | exact cellsR_set0 | exact cellsR_set01 | exact cellsR_set10 | exact boolsR_set HS1.out | exact boolsR_set HS2.out))
              clear q_Hbn
              have Hbh := hide (blkTo hW (blk_new_at (t := 24) (cs := #[.int .i64 lo, .int .i64 hh']) (g := w7.heap.size) (by simp)))
              have HW8 := hide hW
              clear hW lq_HB lq_Hq lq_He lq_Hf lq_Hba lq_Hbb lq_Hbg lq_Hbn ho
              go_wp2
              go_roundw
              case rel =>
               rw [← HW8.out]
               exact ⟨k + 1, by omega, by go_num, Ho.out, HB.out, Hq.out, He.out, Hf.out, Hba.out, Hbb.out, Hbg.out, by rw [HRW.out]; exact Hbn.out⟩
              case measure => simp [intOf]; omega
             ·
              skip
              have HS1 := hide (show anyB (cs k) j = true by rw [anyB_prev, hps, Hc1.out, decide_eq_true hs]; rfl)
              have HS2 := hide (show anyB (cm k) j = false by rw [anyB_prev, hpm, Hc2.out, decide_eq_false hm]; rfl)
              have HRW := hide (show rowsZ cs cm (k + 1) j = (n1 + 1, n2) by rw [Hrw.out, HS1.out, HS2.out]; simp [oneB])
              rw [hps] at ca
              rw [hpm] at cb
              have hcd2 := decide_eq_false hm
              clear hps hpm
              obtain ⟨⟨-, -, hab⟩, hgb1, hgb2, hgb3, -⟩ := HO2.out
              have hgan : ga < bn := by omega
              have hgbn : gb < bn := by omega
              have lta := Hba.out.lt
              have fa := Hba.out.frozen k
              have ltb := Hbb.out.lt
              have fb := Hbb.out.frozen k
              obtain ⟨v0, v1⟩ := Hbg.out.c2
              have ltv := Hbg.out.lt
              obtain ⟨x0, x1⟩ := Hbn.out.c2
              have ltx := Hbn.out.lt
              have fx0 := Hbn.out.frozen 0
              have fx1 := Hbn.out.frozen 1
              obtain ⟨W8, hW⟩ : ∃ Wnew, Wnew = ((((w7.setCell ⟨ga, k, none⟩ (.bool true)).setCell ⟨gb, k, none⟩ (.bool false)).setCell ⟨bn, 0, none⟩ (.int .i64 (n1 + 1))).alloc (.cells #[.int .i64 lo, .int .i64 hh'] 24)) := ⟨_, rfl⟩
              have lq_HB := HB.out.size
              have lq_Hq := Hq.out.lt
              have lq_He := He.out.lt
              have lq_Hf := Hf.out.lt
              have lq_Hba := Hba.out.lt
              have lq_Hbb := Hbb.out.lt
              have lq_Hbg := Hbg.out.lt
              have lq_Hbn := Hbn.out.lt
              have ho := HO2.out
              replace Ho := hide (own_to hW (World.ownsRow.alloc (own_set (own_set (own_set Ho.out (by first | (with_reducible exact HON1.out) | (with_reducible exact HON2.out) | (with_reducible exact HON3.out)) _ _) (by first | (with_reducible exact HON1.out) | (with_reducible exact HON2.out) | (with_reducible exact HON3.out)) _ _) (by first | (with_reducible exact HON1.out) | (with_reducible exact HON2.out) | (with_reducible exact HON3.out)) _ _) _))
              replace HB := hide (below_to hW (belowAl (belowSc (belowSc (belowSc HB.out _) _) _) _))
              have q_Hq := blkTo hW (Blk.alloc (blkFa (blkFa (blkFa Hq.out _) _) _) _)
              replace Hq := hide q_Hq
              clear q_Hq
              have q_He := blkTo hW (Blk.alloc (blkFa (blkFa (blkFa He.out _) _) _) _)
              replace He := hide q_He
              clear q_He
              have q_Hf := blkTo hW (Blk.alloc (blkFa (blkFa (blkFa Hf.out _) _) _) _)
              replace Hf := hide q_Hf
              clear q_Hf
              have q_Hba := blkTo hW (Blk.alloc (blkFa (blkFa (Blk.set_ Hba.out (k) _) _) _) _)
              replace Hba := hide (blkOf q_Hba (show _ = boolsR (midB cs j (k + 1)) K from by first | rfl | exact cellsR_set1 | exact cellsR_set0 | exact cellsR_set01 | exact cellsR_set10 | exact boolsR_set HS1.out | exact boolsR_set HS2.out))
              clear q_Hba
              have q_Hbb := blkTo hW (Blk.alloc (blkFa (Blk.set_ (blkFa Hbb.out _) (k) _) _) _)
              replace Hbb := hide (blkOf q_Hbb (show _ = boolsR (midB cm j (k + 1)) K from by first | rfl | exact cellsR_set1 | exact cellsR_set0 | exact cellsR_set01 | exact cellsR_set10 | exact boolsR_set HS1.out | exact boolsR_set HS2.out))
              clear q_Hbb
              have q_Hbg := blkTo hW (Blk.alloc (blkFa (blkFa (blkFa Hbg.out _) _) _) _)
              replace Hbg := hide q_Hbg
              clear q_Hbg
              have q_Hbn := blkTo hW (Blk.alloc (Blk.set_ (blkFa (blkFa Hbn.out _) _) (0) _) _)
              replace Hbn := hide (blkOf q_Hbn (show _ = #[.int .i64 (n1 + 1), .int .i64 n2] from by first | rfl | exact cellsR_set1 | exact cellsR_set0 | exact cellsR_set01 | exact cellsR_set10 | exact boolsR_set HS1.out | exact boolsR_set HS2.out))
              clear q_Hbn
              have Hbh := hide (blkTo hW (blk_new_at (t := 24) (cs := #[.int .i64 lo, .int .i64 hh']) (g := w7.heap.size) (by simp)))
              have HW8 := hide hW
              clear hW lq_HB lq_Hq lq_He lq_Hf lq_Hba lq_Hbb lq_Hbg lq_Hbn ho
              go_wp2
              go_roundw
              case rel =>
               rw [← HW8.out]
               exact ⟨k + 1, by omega, by go_num, Ho.out, HB.out, Hq.out, He.out, Hf.out, Hba.out, Hbb.out, Hbg.out, by rw [HRW.out]; exact Hbn.out⟩
              case measure => simp [intOf]; omega
           ·
            cases hpm : prevB (cm k) j with
            | true =>
             have HS1 := hide (show anyB (cs k) j = false by rw [anyB_prev, hps, Hc1.out, decide_eq_false hs]; rfl)
             have HS2 := hide (show anyB (cm k) j = true by rw [anyB_prev, hpm]; rfl)
             have HRW := hide (show rowsZ cs cm (k + 1) j = (n1, n2 + 1) by rw [Hrw.out, HS1.out, HS2.out]; simp [oneB])
             rw [hps] at ca
             rw [hpm] at cb
             have hcd1 := decide_eq_false hs
             clear hps hpm
             obtain ⟨⟨-, -, hab⟩, hgb1, hgb2, hgb3, -⟩ := HO2.out
             have hgan : ga < bn := by omega
             have hgbn : gb < bn := by omega
             have lta := Hba.out.lt
             have fa := Hba.out.frozen k
             have ltb := Hbb.out.lt
             have fb := Hbb.out.frozen k
             obtain ⟨v0, v1⟩ := Hbg.out.c2
             have ltv := Hbg.out.lt
             obtain ⟨x0, x1⟩ := Hbn.out.c2
             have ltx := Hbn.out.lt
             have fx0 := Hbn.out.frozen 0
             have fx1 := Hbn.out.frozen 1
             obtain ⟨W8, hW⟩ : ∃ Wnew, Wnew = ((((w7.setCell ⟨ga, k, none⟩ (.bool false)).setCell ⟨gb, k, none⟩ (.bool true)).setCell ⟨bn, 1, none⟩ (.int .i64 (n2 + 1))).alloc (.cells #[.int .i64 lo, .int .i64 hh'] 24)) := ⟨_, rfl⟩
             have lq_HB := HB.out.size
             have lq_Hq := Hq.out.lt
             have lq_He := He.out.lt
             have lq_Hf := Hf.out.lt
             have lq_Hba := Hba.out.lt
             have lq_Hbb := Hbb.out.lt
             have lq_Hbg := Hbg.out.lt
             have lq_Hbn := Hbn.out.lt
             have ho := HO2.out
             replace Ho := hide (own_to hW (World.ownsRow.alloc (own_set (own_set (own_set Ho.out (by first | (with_reducible exact HON1.out) | (with_reducible exact HON2.out) | (with_reducible exact HON3.out)) _ _) (by first | (with_reducible exact HON1.out) | (with_reducible exact HON2.out) | (with_reducible exact HON3.out)) _ _) (by first | (with_reducible exact HON1.out) | (with_reducible exact HON2.out) | (with_reducible exact HON3.out)) _ _) _))
             replace HB := hide (below_to hW (belowAl (belowSc (belowSc (belowSc HB.out _) _) _) _))
             have q_Hq := blkTo hW (Blk.alloc (blkFa (blkFa (blkFa Hq.out _) _) _) _)
             replace Hq := hide q_Hq
             clear q_Hq
             have q_He := blkTo hW (Blk.alloc (blkFa (blkFa (blkFa He.out _) _) _) _)
             replace He := hide q_He
             clear q_He
             have q_Hf := blkTo hW (Blk.alloc (blkFa (blkFa (blkFa Hf.out _) _) _) _)
             replace Hf := hide q_Hf
             clear q_Hf
             have q_Hba := blkTo hW (Blk.alloc (blkFa (blkFa (Blk.set_ Hba.out (k) _) _) _) _)
             replace Hba := hide (blkOf q_Hba (show _ = boolsR (midB cs j (k + 1)) K from by first | rfl | exact cellsR_set1 | exact cellsR_set0 | exact cellsR_set01 | exact cellsR_set10 | exact boolsR_set HS1.out | exact boolsR_set HS2.out))
             clear q_Hba
             have q_Hbb := blkTo hW (Blk.alloc (blkFa (Blk.set_ (blkFa Hbb.out _) (k) _) _) _)
             replace Hbb := hide (blkOf q_Hbb (show _ = boolsR (midB cm j (k + 1)) K from by first | rfl | exact cellsR_set1 | exact cellsR_set0 | exact cellsR_set01 | exact cellsR_set10 | exact boolsR_set HS1.out | exact boolsR_set HS2.out))
             clear q_Hbb
             have q_Hbg := blkTo hW (Blk.alloc (blkFa (blkFa (blkFa Hbg.out _) _) _) _)
             replace Hbg := hide q_Hbg
             clear q_Hbg
             have q_Hbn := blkTo hW (Blk.alloc (Blk.set_ (blkFa (blkFa Hbn.out _) _) (1) _) _)
             replace Hbn := hide (blkOf q_Hbn (show _ = #[.int .i64 (n1), .int .i64 (n2 + 1)] from by first | rfl | exact cellsR_set1 | exact cellsR_set0 | exact cellsR_set01 | exact cellsR_set10 | exact boolsR_set HS1.out | exact boolsR_set HS2.out))
             clear q_Hbn
             have Hbh := hide (blkTo hW (blk_new_at (t := 24) (cs := #[.int .i64 lo, .int .i64 hh']) (g := w7.heap.size) (by simp)))
             have HW8 := hide hW
             clear hW lq_HB lq_Hq lq_He lq_Hf lq_Hba lq_Hbb lq_Hbg lq_Hbn ho
             go_wp2
             go_roundw
             case rel =>
              rw [← HW8.out]
              exact ⟨k + 1, by omega, by go_num, Ho.out, HB.out, Hq.out, He.out, Hf.out, Hba.out, Hbb.out, Hbg.out, by rw [HRW.out]; exact Hbn.out⟩
             case measure => simp [intOf]; omega
            | false =>
             by_cases hm : lo ≤ zb
             ·
              skip
              have HS1 := hide (show anyB (cs k) j = false by rw [anyB_prev, hps, Hc1.out, decide_eq_false hs]; rfl)
              have HS2 := hide (show anyB (cm k) j = true by rw [anyB_prev, hpm, Hc2.out, decide_eq_true hm]; rfl)
              have HRW := hide (show rowsZ cs cm (k + 1) j = (n1, n2 + 1) by rw [Hrw.out, HS1.out, HS2.out]; simp [oneB])
              rw [hps] at ca
              rw [hpm] at cb
              have hcd1 := decide_eq_false hs
              clear hps hpm
              obtain ⟨⟨-, -, hab⟩, hgb1, hgb2, hgb3, -⟩ := HO2.out
              have hgan : ga < bn := by omega
              have hgbn : gb < bn := by omega
              have lta := Hba.out.lt
              have fa := Hba.out.frozen k
              have ltb := Hbb.out.lt
              have fb := Hbb.out.frozen k
              obtain ⟨v0, v1⟩ := Hbg.out.c2
              have ltv := Hbg.out.lt
              obtain ⟨x0, x1⟩ := Hbn.out.c2
              have ltx := Hbn.out.lt
              have fx0 := Hbn.out.frozen 0
              have fx1 := Hbn.out.frozen 1
              obtain ⟨W8, hW⟩ : ∃ Wnew, Wnew = ((((w7.setCell ⟨ga, k, none⟩ (.bool false)).setCell ⟨gb, k, none⟩ (.bool true)).setCell ⟨bn, 1, none⟩ (.int .i64 (n2 + 1))).alloc (.cells #[.int .i64 lo, .int .i64 hh'] 24)) := ⟨_, rfl⟩
              have lq_HB := HB.out.size
              have lq_Hq := Hq.out.lt
              have lq_He := He.out.lt
              have lq_Hf := Hf.out.lt
              have lq_Hba := Hba.out.lt
              have lq_Hbb := Hbb.out.lt
              have lq_Hbg := Hbg.out.lt
              have lq_Hbn := Hbn.out.lt
              have ho := HO2.out
              replace Ho := hide (own_to hW (World.ownsRow.alloc (own_set (own_set (own_set Ho.out (by first | (with_reducible exact HON1.out) | (with_reducible exact HON2.out) | (with_reducible exact HON3.out)) _ _) (by first | (with_reducible exact HON1.out) | (with_reducible exact HON2.out) | (with_reducible exact HON3.out)) _ _) (by first | (with_reducible exact HON1.out) | (with_reducible exact HON2.out) | (with_reducible exact HON3.out)) _ _) _))
              replace HB := hide (below_to hW (belowAl (belowSc (belowSc (belowSc HB.out _) _) _) _))
              have q_Hq := blkTo hW (Blk.alloc (blkFa (blkFa (blkFa Hq.out _) _) _) _)
              replace Hq := hide q_Hq
              clear q_Hq
              have q_He := blkTo hW (Blk.alloc (blkFa (blkFa (blkFa He.out _) _) _) _)
              replace He := hide q_He
              clear q_He
              have q_Hf := blkTo hW (Blk.alloc (blkFa (blkFa (blkFa Hf.out _) _) _) _)
              replace Hf := hide q_Hf
              clear q_Hf
              have q_Hba := blkTo hW (Blk.alloc (blkFa (blkFa (Blk.set_ Hba.out (k) _) _) _) _)
              replace Hba := hide (blkOf q_Hba (show _ = boolsR (midB cs j (k + 1)) K from by first | rfl | exact cellsR_set1 | exact cellsR_set0 | exact cellsR_set01 | exact cellsR_set10 | exact boolsR_set HS1.out | exact boolsR_set HS2.out))
              clear q_Hba
              have q_Hbb := blkTo hW (Blk.alloc (blkFa (Blk.set_ (blkFa Hbb.out _) (k) _) _) _)
              replace Hbb := hide (blkOf q_Hbb (show _ = boolsR (midB cm j (k + 1)) K from by first | rfl | exact cellsR_set1 | exact cellsR_set0 | exact cellsR_set01 | exact cellsR_set10 | exact boolsR_set HS1.out | exact boolsR_set HS2.out))
              clear q_Hbb
              have q_Hbg := blkTo hW (Blk.alloc (blkFa (blkFa (blkFa Hbg.out _) _) _) _)
              replace Hbg := hide q_Hbg
              clear q_Hbg
              have q_Hbn := blkTo hW (Blk.alloc (Blk.set_ (blkFa (blkFa Hbn.out _) _) (1) _) _)
              replace Hbn := hide (blkOf q_Hbn (show _ = #[.int .i64 (n1), .int .i64 (n2 + 1)] from by first | rfl | exact cellsR_set1 | exact cellsR_set0 | exact cellsR_set01 | exact cellsR_set10 | exact boolsR_set HS1.out | exact boolsR_set HS2.out))
              clear q_Hbn
              have Hbh := hide (blkTo hW (blk_new_at (t := 24) (cs := #[.int .i64 lo, .int .i64 hh']) (g := w7.heap.size) (by simp)))
              have HW8 := hide hW
              clear hW lq_HB lq_Hq lq_He lq_Hf lq_Hba lq_Hbb lq_Hbg lq_Hbn ho
              go_wp2
              go_roundw
              case rel =>
               rw [← HW8.out]
               exact ⟨k + 1, by omega, by go_num, Ho.out, HB.out, Hq.out, He.out, Hf.out, Hba.out, Hbb.out, Hbg.out, by rw [HRW.out]; exact Hbn.out⟩
              case measure => simp [intOf]; omega
             ·
              skip
              have HS1 := hide (show anyB (cs k) j = false by rw [anyB_prev, hps, Hc1.out, decide_eq_false hs]; rfl)
              have HS2 := hide (show anyB (cm k) j = false by rw [anyB_prev, hpm, Hc2.out, decide_eq_false hm]; rfl)
              have HRW := hide (show rowsZ cs cm (k + 1) j = (n1, n2) by rw [Hrw.out, HS1.out, HS2.out]; simp [oneB])
              rw [hps] at ca
              rw [hpm] at cb
              have hcd1 := decide_eq_false hs
              have hcd2 := decide_eq_false hm
              clear hps hpm
              obtain ⟨⟨-, -, hab⟩, hgb1, hgb2, hgb3, -⟩ := HO2.out
              have hgan : ga < bn := by omega
              have hgbn : gb < bn := by omega
              have lta := Hba.out.lt
              have fa := Hba.out.frozen k
              have ltb := Hbb.out.lt
              have fb := Hbb.out.frozen k
              obtain ⟨v0, v1⟩ := Hbg.out.c2
              have ltv := Hbg.out.lt
              obtain ⟨x0, x1⟩ := Hbn.out.c2
              have ltx := Hbn.out.lt
              have fx0 := Hbn.out.frozen 0
              have fx1 := Hbn.out.frozen 1
              obtain ⟨W8, hW⟩ : ∃ Wnew, Wnew = (((w7.setCell ⟨ga, k, none⟩ (.bool false)).setCell ⟨gb, k, none⟩ (.bool false)).alloc (.cells #[.int .i64 lo, .int .i64 hh'] 24)) := ⟨_, rfl⟩
              have lq_HB := HB.out.size
              have lq_Hq := Hq.out.lt
              have lq_He := He.out.lt
              have lq_Hf := Hf.out.lt
              have lq_Hba := Hba.out.lt
              have lq_Hbb := Hbb.out.lt
              have lq_Hbg := Hbg.out.lt
              have lq_Hbn := Hbn.out.lt
              have ho := HO2.out
              replace Ho := hide (own_to hW (World.ownsRow.alloc (own_set (own_set Ho.out (by first | (with_reducible exact HON1.out) | (with_reducible exact HON2.out) | (with_reducible exact HON3.out)) _ _) (by first | (with_reducible exact HON1.out) | (with_reducible exact HON2.out) | (with_reducible exact HON3.out)) _ _) _))
              replace HB := hide (below_to hW (belowAl (belowSc (belowSc HB.out _) _) _))
              have q_Hq := blkTo hW (Blk.alloc (blkFa (blkFa Hq.out _) _) _)
              replace Hq := hide q_Hq
              clear q_Hq
              have q_He := blkTo hW (Blk.alloc (blkFa (blkFa He.out _) _) _)
              replace He := hide q_He
              clear q_He
              have q_Hf := blkTo hW (Blk.alloc (blkFa (blkFa Hf.out _) _) _)
              replace Hf := hide q_Hf
              clear q_Hf
              have q_Hba := blkTo hW (Blk.alloc (blkFa (Blk.set_ Hba.out (k) _) _) _)
              replace Hba := hide (blkOf q_Hba (show _ = boolsR (midB cs j (k + 1)) K from by first | rfl | exact cellsR_set1 | exact cellsR_set0 | exact cellsR_set01 | exact cellsR_set10 | exact boolsR_set HS1.out | exact boolsR_set HS2.out))
              clear q_Hba
              have q_Hbb := blkTo hW (Blk.alloc (Blk.set_ (blkFa Hbb.out _) (k) _) _)
              replace Hbb := hide (blkOf q_Hbb (show _ = boolsR (midB cm j (k + 1)) K from by first | rfl | exact cellsR_set1 | exact cellsR_set0 | exact cellsR_set01 | exact cellsR_set10 | exact boolsR_set HS1.out | exact boolsR_set HS2.out))
              clear q_Hbb
              have q_Hbg := blkTo hW (Blk.alloc (blkFa (blkFa Hbg.out _) _) _)
              replace Hbg := hide q_Hbg
              clear q_Hbg
              have q_Hbn := blkTo hW (Blk.alloc (blkFa (blkFa Hbn.out _) _) _)
              replace Hbn := hide q_Hbn
              clear q_Hbn
              have Hbh := hide (blkTo hW (blk_new_at (t := 24) (cs := #[.int .i64 lo, .int .i64 hh']) (g := w7.heap.size) (by simp)))
              have HW8 := hide hW
              clear hW lq_HB lq_Hq lq_He lq_Hf lq_Hba lq_Hbb lq_Hbg lq_Hbn ho
              go_wp2
              go_roundw
              case rel =>
               rw [← HW8.out]
               exact ⟨k + 1, by omega, by go_num, Ho.out, HB.out, Hq.out, He.out, Hf.out, Hba.out, Hbb.out, Hbg.out, by rw [HRW.out]; exact Hbn.out⟩
              case measure => simp [intOf]; omega
         ·
          obtain rfl : k = K := by omega
          have hbd := rowsZ_bd (cs := cs) (cm := cm) k j
          have hflat := flat_rowL (r := rowsZ cs cm k) (G := j)
          obtain ⟨n1, n2, hn12⟩ : ∃ n1 n2, rowsZ cs cm k j = (n1, n2) := ⟨_, _, rfl⟩
          rw [hn12] at hflat Hbn hbd
          simp only at hflat Hbn hbd
          replace Hba := hide (blkOf Hba.out midB_all)
          replace Hbb := hide (blkOf Hbb.out midB_all)
          clear hn12
          have Hflat := hide hflat
          clear hflat
          have hsf := Hf.out.lt
          have hwg : w.heap.size + 1 < w.heap.size + 3 := by omega
          obtain ⟨x0, x1⟩ := Hbn.out.c2
          have ltx := Hbn.out.lt
          clear Hbg Hbn
          go_wp2_with (at_builtin; refine wpList_append_own _ rfl (.tmp 140) (.tmp 142) _ rfl (w.heap.size + 3) 24 i0 _ 2 16 Tryz.underlying34 Hi.out Hz0.out Hz1.out Hz2.out rfl (by decide) _ j _ rfl (Ho.out.alloc _) ⟨wr.heap.size, 0, none⟩ 1 1 [.int .i64 n1, .int .i64 n2] rfl rfl ?q1c1 ?q1c2 ?q1c3 ?q1c4 ?q1c5 ?_)
          try case q1c1 => exact new_cells wr _ [.int .i64 n1, .int .i64 n2]
          case q1c2 => intro u hu; simp at hu; rcases hu with rfl | rfl <;> rfl
          case q1c3 => unfold maxLen; omega
          case q1c4 => omega
          case q1c5 => simp; omega
          intro v' w12 hown2 hgr2 _
          replace HB := hide (below_grown (HB.out.alloc HB.out.size (.cells #[.int .i64 n1, .int .i64 n2] 24)) hgr2 (by simp; omega) fun k hk => Nat.le_trans (by first | exact Nat.le_refl _ | omega) (Ho.out.lt k hk).1)
          replace Hq := hide (blk_grown (Hq.out.alloc _) hgr2 (own_ne Ho.out Hq.out (by decide)))
          replace Hf := hide (blk_grown (Hf.out.alloc _) hgr2 (own_ne Ho.out Hf.out (by decide)))
          replace Hba := hide (blk_grown (Hba.out.alloc _) hgr2 (own_ne Ho.out Hba.out (by decide)))
          replace Hbb := hide (blk_grown (Hbb.out.alloc _) hgr2 (own_ne Ho.out Hbb.out (by decide)))
          replace He := hide (blk_grown (He.out.alloc _) hgr2 (own_low_ne Ho.out (by omega)))
          replace Ho := hide hown2
          clear hown2 hgr2 x0 x1 ltx
          go_wp2
          go_roundw
          case rel =>
           refine ⟨j + 1, by omega, by go_num, ?_, HB.out, Hq.out, He.out, Hf.out, Hba.out, Hbb.out⟩
           have := Ho.out
           rw [Hflat.out]; exact this
          case measure => simp [intOf]; omega
       ·
        obtain rfl : j = G := by omega
        have hlt2 : ¬ (j : Int) < g := by rw [HG.out]; omega
        obtain ⟨A', c', rfl⟩ := own_shape2 Ho.out
        obtain ⟨q0, q1, q2, q3, q4, q5, q6, q7⟩ := Hq.out.site8
        have ltq := Hq.out.lt
        go_wp2
        refine bodyPost_ret (v := .tuple #[.slice A' j c', .int .i64 0]) (by simp [results, Tryz.results49, go_sem]) rfl ⟨A', c', by rw [if_pos rfl], HB.out, fun _ => Ints.own Ho.out rfl (Nat.le_refl _)⟩
     ·
      have g4 : winB ray 0 (4 * r - 1) = false := by simpa using g3
      have hE : blockE 0 0 t elo ehi ray r = 3 := by unfold blockE; simp [g4]
      rw [hE]
      clear hE g3
      have hne : (3 : Int) ≠ 0 := by omega
      have Hsz := hide hsz
      have Hall := hide hall
      clear hsz hall
      have Hg1 := hide g1
      have Hg2 := hide g2
      have Hg3 := hide g4
      clear g1 g2 g4
      go_enter Tryz.func49, Tryz.ntmps49
      have HB := hide (Below.refl w.heap.size w)
      go_wp2_with fail
      refine at_world fun W hW => ?_
      have bq0 : Blk W w.heap.size 28 #[.string s, .int .i64 sx, .int .i64 sy, .int .i64 z, .int .i64 r, .int .i64 g, .int .i64 st, .int .i64 wd] := by rw [hW]; exact ((Blk.new _ _ _).alloc _).alloc _
      have bq1 : Blk W (w.heap.size + 1) 24 #[.int .i64 elo, .int .i64 ehi] := by rw [hW]; exact (blk_new_at (by simp)).alloc _
      have bq2 : Blk W (w.heap.size + 2) 36 #[.int .i64 gx, .int .i64 gy, .int .i64 gs, .int .i64 wi, .int .i64 hi, .slice A n c] := by rw [hW]; exact blk_new_at (by simp)
      have LW : Later w W := by rw [hW]; exact ((((Below.refl _ _).alloc (Nat.le_refl _) _).alloc (by simp; try omega) _).alloc (by simp; try omega) _)
      have szW : W.heap.size = w.heap.size + 3 := by rw [hW]; simp
      clear hW
      replace Hl := hide ((Ints.below Hl.out LW).more (Below.size LW))
      replace HB := hide (onward HB.out LW)
      have Hq := hide bq0
      have He := hide bq1
      have Hf := hide bq2
      clear bq0 bq1 bq2 LW szW
      refine (Hcs.out _).mono ?_
      rintro e w1 ⟨rfl, hb⟩
      replace Hl := hide ((Ints.below Hl.out hb).more (Below.size hb))
      replace HB := hide (onward HB.out hb)
      replace Hq := hide (blk_later Hq.out hb)
      replace He := hide (blk_later He.out hb)
      replace Hf := hide (blk_later Hf.out hb)
      clear hb
      obtain ⟨e0, e1, e2, e3, e4, e5⟩ := Hf.out.c6
      have ltf := Hf.out.lt
      go_wp2_with fail
      clear e0 e1 e2 e3 e4 e5 ltf
      refine (Hck.out _ Hl.out).mono ?_
      rintro e w2 ⟨rfl, hb⟩
      replace Hl := hide ((Ints.below Hl.out hb).more (Below.size hb))
      replace HB := hide (onward HB.out hb)
      replace Hq := hide (blk_later Hq.out hb)
      replace He := hide (blk_later He.out hb)
      replace Hf := hide (blk_later Hf.out hb)
      clear hb
      obtain ⟨v0, v1⟩ := He.out.c2
      have ltv := He.out.lt
      obtain ⟨q0, q1, q2, q3, q4, q5, q6, q7⟩ := Hq.out.site8
      have ltq := Hq.out.lt
      go_wp2_with fail
      refine (In_anyQ _ _ _ _).mono ?_
      rintro e w' ⟨rfl, rfl⟩
      rw [Hg1.out]
      go_wp2_with fail
      clear q0 q1 q2 q3 q4 q5 q6 q7 ltq
      refine (Earth_any _ _ _).mono ?_
      rintro e w3 ⟨rfl, hb⟩
      replace Hl := hide ((Ints.below Hl.out hb).more (Below.size hb))
      replace HB := hide (onward HB.out hb)
      replace Hq := hide (blk_later Hq.out hb)
      replace He := hide (blk_later He.out hb)
      replace Hf := hide (blk_later Hf.out hb)
      clear hb v0 v1 ltv
      rw [Hg2.out]
      obtain ⟨q0, q1, q2, q3, q4, q5, q6, q7⟩ := Hq.out.site8
      have ltq := Hq.out.lt
      go_wp2_with fail
      refine (In_anyQ _ _ _ _).mono ?_
      rintro e w' ⟨rfl, rfl⟩
      rw [Hg3.out]
      go_wp2
      refine bodyPost_ret (v := .tuple #[.slice none 0 0, .int .i64 3]) (by simp [results, Tryz.results49, go_sem]) rfl ⟨none, 0, by rw [if_neg hne], HB.out, fun h => absurd h hne⟩
    ·
     have g4 : okE elo ehi = false := by simpa using g2
     have hE : blockE 0 0 t elo ehi ray r = 3 := by unfold blockE; simp [g4]
     rw [hE]
     clear hE g2
     have hne : (3 : Int) ≠ 0 := by omega
     have Hsz := hide hsz
     have Hall := hide hall
     clear hsz hall
     have Hg1 := hide g1
     have Hg2 := hide g4
     clear g1 g4
     go_enter Tryz.func49, Tryz.ntmps49
     have HB := hide (Below.refl w.heap.size w)
     go_wp2_with fail
     refine at_world fun W hW => ?_
     have bq0 : Blk W w.heap.size 28 #[.string s, .int .i64 sx, .int .i64 sy, .int .i64 z, .int .i64 r, .int .i64 g, .int .i64 st, .int .i64 wd] := by rw [hW]; exact ((Blk.new _ _ _).alloc _).alloc _
     have bq1 : Blk W (w.heap.size + 1) 24 #[.int .i64 elo, .int .i64 ehi] := by rw [hW]; exact (blk_new_at (by simp)).alloc _
     have bq2 : Blk W (w.heap.size + 2) 36 #[.int .i64 gx, .int .i64 gy, .int .i64 gs, .int .i64 wi, .int .i64 hi, .slice A n c] := by rw [hW]; exact blk_new_at (by simp)
     have LW : Later w W := by rw [hW]; exact ((((Below.refl _ _).alloc (Nat.le_refl _) _).alloc (by simp; try omega) _).alloc (by simp; try omega) _)
     have szW : W.heap.size = w.heap.size + 3 := by rw [hW]; simp
     clear hW
     replace Hl := hide ((Ints.below Hl.out LW).more (Below.size LW))
     replace HB := hide (onward HB.out LW)
     have Hq := hide bq0
     have He := hide bq1
     have Hf := hide bq2
     clear bq0 bq1 bq2 LW szW
     refine (Hcs.out _).mono ?_
     rintro e w1 ⟨rfl, hb⟩
     replace Hl := hide ((Ints.below Hl.out hb).more (Below.size hb))
     replace HB := hide (onward HB.out hb)
     replace Hq := hide (blk_later Hq.out hb)
     replace He := hide (blk_later He.out hb)
     replace Hf := hide (blk_later Hf.out hb)
     clear hb
     obtain ⟨e0, e1, e2, e3, e4, e5⟩ := Hf.out.c6
     have ltf := Hf.out.lt
     go_wp2_with fail
     clear e0 e1 e2 e3 e4 e5 ltf
     refine (Hck.out _ Hl.out).mono ?_
     rintro e w2 ⟨rfl, hb⟩
     replace Hl := hide ((Ints.below Hl.out hb).more (Below.size hb))
     replace HB := hide (onward HB.out hb)
     replace Hq := hide (blk_later Hq.out hb)
     replace He := hide (blk_later He.out hb)
     replace Hf := hide (blk_later Hf.out hb)
     clear hb
     obtain ⟨v0, v1⟩ := He.out.c2
     have ltv := He.out.lt
     obtain ⟨q0, q1, q2, q3, q4, q5, q6, q7⟩ := Hq.out.site8
     have ltq := Hq.out.lt
     go_wp2_with fail
     refine (In_anyQ _ _ _ _).mono ?_
     rintro e w' ⟨rfl, rfl⟩
     rw [Hg1.out]
     go_wp2_with fail
     clear q0 q1 q2 q3 q4 q5 q6 q7 ltq
     refine (Earth_any _ _ _).mono ?_
     rintro e w3 ⟨rfl, hb⟩
     replace Hl := hide ((Ints.below Hl.out hb).more (Below.size hb))
     replace HB := hide (onward HB.out hb)
     replace Hq := hide (blk_later Hq.out hb)
     replace He := hide (blk_later He.out hb)
     replace Hf := hide (blk_later Hf.out hb)
     clear hb v0 v1 ltv
     rw [Hg2.out]
     go_wp2
     refine bodyPost_ret (v := .tuple #[.slice none 0 0, .int .i64 3]) (by simp [results, Tryz.results49, go_sem]) rfl ⟨none, 0, by rw [if_neg hne], HB.out, fun h => absurd h hne⟩
   ·
    have g4 : winB t 0 256 = false := by simpa using g1
    have hE : blockE 0 0 t elo ehi ray r = 3 := by unfold blockE; simp [g4]
    rw [hE]
    clear hE g1
    have hne : (3 : Int) ≠ 0 := by omega
    have Hsz := hide hsz
    have Hall := hide hall
    clear hsz hall
    have Hg1 := hide g4
    clear g4
    go_enter Tryz.func49, Tryz.ntmps49
    have HB := hide (Below.refl w.heap.size w)
    go_wp2_with fail
    refine at_world fun W hW => ?_
    have bq0 : Blk W w.heap.size 28 #[.string s, .int .i64 sx, .int .i64 sy, .int .i64 z, .int .i64 r, .int .i64 g, .int .i64 st, .int .i64 wd] := by rw [hW]; exact ((Blk.new _ _ _).alloc _).alloc _
    have bq1 : Blk W (w.heap.size + 1) 24 #[.int .i64 elo, .int .i64 ehi] := by rw [hW]; exact (blk_new_at (by simp)).alloc _
    have bq2 : Blk W (w.heap.size + 2) 36 #[.int .i64 gx, .int .i64 gy, .int .i64 gs, .int .i64 wi, .int .i64 hi, .slice A n c] := by rw [hW]; exact blk_new_at (by simp)
    have LW : Later w W := by rw [hW]; exact ((((Below.refl _ _).alloc (Nat.le_refl _) _).alloc (by simp; try omega) _).alloc (by simp; try omega) _)
    have szW : W.heap.size = w.heap.size + 3 := by rw [hW]; simp
    clear hW
    replace Hl := hide ((Ints.below Hl.out LW).more (Below.size LW))
    replace HB := hide (onward HB.out LW)
    have Hq := hide bq0
    have He := hide bq1
    have Hf := hide bq2
    clear bq0 bq1 bq2 LW szW
    refine (Hcs.out _).mono ?_
    rintro e w1 ⟨rfl, hb⟩
    replace Hl := hide ((Ints.below Hl.out hb).more (Below.size hb))
    replace HB := hide (onward HB.out hb)
    replace Hq := hide (blk_later Hq.out hb)
    replace He := hide (blk_later He.out hb)
    replace Hf := hide (blk_later Hf.out hb)
    clear hb
    obtain ⟨e0, e1, e2, e3, e4, e5⟩ := Hf.out.c6
    have ltf := Hf.out.lt
    go_wp2_with fail
    clear e0 e1 e2 e3 e4 e5 ltf
    refine (Hck.out _ Hl.out).mono ?_
    rintro e w2 ⟨rfl, hb⟩
    replace Hl := hide ((Ints.below Hl.out hb).more (Below.size hb))
    replace HB := hide (onward HB.out hb)
    replace Hq := hide (blk_later Hq.out hb)
    replace He := hide (blk_later He.out hb)
    replace Hf := hide (blk_later Hf.out hb)
    clear hb
    obtain ⟨v0, v1⟩ := He.out.c2
    have ltv := He.out.lt
    obtain ⟨q0, q1, q2, q3, q4, q5, q6, q7⟩ := Hq.out.site8
    have ltq := Hq.out.lt
    go_wp2_with fail
    refine (In_anyQ _ _ _ _).mono ?_
    rintro e w' ⟨rfl, rfl⟩
    rw [Hg1.out]
    go_wp2
    refine bodyPost_ret (v := .tuple #[.slice none 0 0, .int .i64 3]) (by simp [results, Tryz.results49, go_sem]) rfl ⟨none, 0, by rw [if_neg hne], HB.out, fun h => absurd h hne⟩
  ·
   have h10 : (fe != 0) = true := by simpa [bne] using h1
   have hE : blockE 0 fe t elo ehi ray r = fe := by unfold blockE; rw [if_neg (by simp), if_pos h1]
   rw [hE]
   clear hE
   have hne := h1
   go_enter Tryz.func49, Tryz.ntmps49
   have HB := hide (Below.refl w.heap.size w)
   go_wp2_with fail
   refine at_world fun W hW => ?_
   have bq0 : Blk W w.heap.size 28 #[.string s, .int .i64 sx, .int .i64 sy, .int .i64 z, .int .i64 r, .int .i64 g, .int .i64 st, .int .i64 wd] := by rw [hW]; exact ((Blk.new _ _ _).alloc _).alloc _
   have bq1 : Blk W (w.heap.size + 1) 24 #[.int .i64 elo, .int .i64 ehi] := by rw [hW]; exact (blk_new_at (by simp)).alloc _
   have bq2 : Blk W (w.heap.size + 2) 36 #[.int .i64 gx, .int .i64 gy, .int .i64 gs, .int .i64 wi, .int .i64 hi, .slice A n c] := by rw [hW]; exact blk_new_at (by simp)
   have LW : Later w W := by rw [hW]; exact ((((Below.refl _ _).alloc (Nat.le_refl _) _).alloc (by simp; try omega) _).alloc (by simp; try omega) _)
   have szW : W.heap.size = w.heap.size + 3 := by rw [hW]; simp
   clear hW
   replace Hl := hide ((Ints.below Hl.out LW).more (Below.size LW))
   replace HB := hide (onward HB.out LW)
   have Hq := hide bq0
   have He := hide bq1
   have Hf := hide bq2
   clear bq0 bq1 bq2 LW szW
   refine (Hcs.out _).mono ?_
   rintro e w1 ⟨rfl, hb⟩
   replace Hl := hide ((Ints.below Hl.out hb).more (Below.size hb))
   replace HB := hide (onward HB.out hb)
   replace Hq := hide (blk_later Hq.out hb)
   replace He := hide (blk_later He.out hb)
   replace Hf := hide (blk_later Hf.out hb)
   clear hb
   obtain ⟨e0, e1, e2, e3, e4, e5⟩ := Hf.out.c6
   have ltf := Hf.out.lt
   go_wp2_with fail
   clear e0 e1 e2 e3 e4 e5 ltf
   refine (Hck.out _ Hl.out).mono ?_
   rintro e w2 ⟨rfl, hb⟩
   replace Hl := hide ((Ints.below Hl.out hb).more (Below.size hb))
   replace HB := hide (onward HB.out hb)
   replace Hq := hide (blk_later Hq.out hb)
   replace He := hide (blk_later He.out hb)
   replace Hf := hide (blk_later Hf.out hb)
   clear hb
   go_wp2
   refine bodyPost_ret (v := .tuple #[.slice none 0 0, .int .i64 fe]) (by simp [results, Tryz.results49, go_sem]) rfl ⟨none, 0, by rw [if_neg hne], HB.out, fun h => absurd h hne⟩
 ·
  have h00 : (se != 0) = true := by simpa [bne] using h0
  have hE : blockE se fe t elo ehi ray r = se := by unfold blockE; rw [if_pos h0]
  rw [hE]
  clear hE
  have hne := h0
  go_enter Tryz.func49, Tryz.ntmps49
  have HB := hide (Below.refl w.heap.size w)
  go_wp2_with fail
  refine at_world fun W hW => ?_
  have bq0 : Blk W w.heap.size 28 #[.string s, .int .i64 sx, .int .i64 sy, .int .i64 z, .int .i64 r, .int .i64 g, .int .i64 st, .int .i64 wd] := by rw [hW]; exact ((Blk.new _ _ _).alloc _).alloc _
  have bq1 : Blk W (w.heap.size + 1) 24 #[.int .i64 elo, .int .i64 ehi] := by rw [hW]; exact (blk_new_at (by simp)).alloc _
  have bq2 : Blk W (w.heap.size + 2) 36 #[.int .i64 gx, .int .i64 gy, .int .i64 gs, .int .i64 wi, .int .i64 hi, .slice A n c] := by rw [hW]; exact blk_new_at (by simp)
  have LW : Later w W := by rw [hW]; exact ((((Below.refl _ _).alloc (Nat.le_refl _) _).alloc (by simp; try omega) _).alloc (by simp; try omega) _)
  have szW : W.heap.size = w.heap.size + 3 := by rw [hW]; simp
  clear hW
  replace Hl := hide ((Ints.below Hl.out LW).more (Below.size LW))
  replace HB := hide (onward HB.out LW)
  have Hq := hide bq0
  have He := hide bq1
  have Hf := hide bq2
  clear bq0 bq1 bq2 LW szW
  refine (Hcs.out _).mono ?_
  rintro e w1 ⟨rfl, hb⟩
  replace Hl := hide ((Ints.below Hl.out hb).more (Below.size hb))
  replace HB := hide (onward HB.out hb)
  replace Hq := hide (blk_later Hq.out hb)
  replace He := hide (blk_later He.out hb)
  replace Hf := hide (blk_later Hf.out hb)
  clear hb
  go_wp2
  refine bodyPost_ret (v := .tuple #[.slice none 0 0, .int .i64 se]) (by simp [results, Tryz.results49, go_sem]) rfl ⟨none, 0, by rw [if_neg hne], HB.out, fun h => absurd h hne⟩
end Go.Proofs.YtepgpihobmjbdaaGreat
