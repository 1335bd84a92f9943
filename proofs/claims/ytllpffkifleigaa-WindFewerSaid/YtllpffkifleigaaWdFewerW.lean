/-
  WindFewer: the walk.
-/
import Derived.Test.YtllpffkifleigaaWdFewerL
set_option linter.unusedSimpArgs false
set_option linter.unusedVariables false
namespace Go.Proofs.Ytllpffkifleigaa
open Go Go.RowKit

set_option maxHeartbeats 4000000 in
set_option maxRecDepth 100000 in
theorem WindFewer_any (A : Option Addr) (n c : Nat) (E : List EyeN) (u v keep less sh : Int) (w : World) (hn : E.length = n) (hmax : n ≤ maxLen) (he : ∀ e ∈ E, EyeOk e) (hA : EyesAt w w.heap.size A E) (hu : -32768 ≤ u ∧ u ≤ 32767) (hv : -32768 ≤ v ∧ v ≤ 32767)
    (hk : 0 ≤ keep ∧ keep ≤ 255) (hl : 0 ≤ less ∧ less ≤ 65535) (hs : 0 ≤ sh ∧ sh ≤ 255) :
    Calls Try.prog 9 #[.slice A n c, .int .i16 u, .int .i16 v, .int .u8 keep, .int .u16 less, .int .u8 sh] w fun e w' => e = .returned (.bool true) ∧ Below w.heap.size w w' := by
  by_cases h10 : 10 < n
  · have hM := fun W => eyes_many A n c u v W h10
    obtain ⟨u1, u2⟩ := hu
    obtain ⟨v1, v2⟩ := hv
    have HE := hide hM
    clear hM
    clear hA he hn
    go_enter Try.func9, Try.ntmps9
    have HM := hide (Mem.start w)
    go_wp2_with fail
    refine (HE.out _).mono ?_
    rintro e w1 ⟨rfl, hb⟩
    replace HM := hide (HM.out.later hb)
    clear hb
    go_wp2_with fail
    refine (works_any _).mono ?_
    rintro e w2 ⟨rfl, hb⟩
    replace HM := hide (HM.out.later hb)
    clear hb
    go_wp2
    exact bodyPost_ret (v := .bool true) (by simp [results, Try.results9, go_sem]) rfl ⟨rfl, HM.out.below⟩
  · have hM := eyes_any A E c u v w (by omega) hA he hu hv
    have hlk := fun k (hk : k < n) W => eyelook_any (tightE less (E.getD k eye0)) u v W (tight_ok (he _ (getD_memE (by omega))) hl.1) hu hv
    have hek := fun k (hk : k < n) => he _ (getD_memE (d := eye0) (show k < E.length by omega))
    obtain ⟨k1, k2⟩ := hk
    obtain ⟨l1, l2⟩ := hl
    obtain ⟨h1, h2⟩ := hs
    obtain ⟨kn, rfl⟩ : ∃ k : Nat, keep = k := ⟨keep.toNat, by omega⟩
    obtain ⟨sn, rfl⟩ : ∃ k : Nat, sh = k := ⟨sh.toNat, by omega⟩
    have hkq : kn % (n + 1) ≤ n := by have := Nat.mod_lt kn (show 0 < n + 1 by omega); omega
    obtain ⟨p1, p2, p3, p4, q1, q2, q3, q4, t1, t2, t3, t4, s1, s2, F⟩ := fewI (sh := sn) (kq := kn % (n + 1)) hn (by omega) he hu hv l1 hkq
    obtain ⟨u1, u2⟩ := hu
    obtain ⟨v1, v2⟩ := hv
    have hll : (E.map (eyeT u v)).length = n := by rw [List.length_map, hn]
    have hlt : ((E.map (tightE less)).map (eyeT u v)).length = n := by rw [List.length_map, List.length_map, hn]
    have hsT : ∀ k, k < n → sgsV (((E.take (k + 1)).map (tightE less)).map (eyeT u v)) = sgsV (((E.take k).map (tightE less)).map (eyeT u v)) ++ sgsV [eyeT u v (tightE less (E.getD k eye0))] := fun k hk => by
      rw [map_snoc (d := eye0) (by omega), List.map_append, sgsV_app]
      rfl
    have heT : sgsV (((E.take n).map (tightE less)).map (eyeT u v)) = sgsV ((E.map (tightE less)).map (eyeT u v)) := by rw [← hn, List.take_length]
    obtain ⟨L, hL⟩ : ∃ L, E.map (eyeT u v) = L := ⟨_, rfl⟩
    rw [hL] at F hll hM
    have hsR : ∀ k, k < n → sgsV (roundN L sn (k + 1)) = sgsV (roundN L sn k) ++ sgsV [L.getD ((k + sn) % n) sg0] := fun k hk => by rw [roundN_succ, sgsV_app, hll]
    have hsU : ∀ k, k < n → sgsV ((L.take (k + 1)).map turnS) = sgsV ((L.take k).map turnS) ++ sgsV [turnS (L.getD k sg0)] := fun k hk => by rw [map_snocS (by omega), sgsV_app]
    have heU : sgsV ((L.take n).map turnS) = sgsV (L.map turnS) := by rw [← hll, List.take_length]
    have hrl : (roundN L sn n).length = n := by unfold roundN; simp
    have hul : (L.map turnS).length = n := by rw [List.length_map, hll]
    obtain ⟨bL, bK, bT, bR, bU, aL, aU, kk1, kk2, tt1, tt2, bd⟩ := F
    have hxb : ∀ k, k < n → -64800 ≤ (L.getD k sg0).x ∧ (L.getD k sg0).x ≤ 64800 := fun k hk => by
      have h := eyes_near (u := u) (v := v) he ⟨u1, u2⟩ ⟨v1, v2⟩
      rw [hL] at h
      have := h _ (getD_mem (show k < L.length by omega))
      have a := this.x1
      have b := this.x2
      have d := this.l2
      omega
    obtain ⟨K1, hK1⟩ : ∃ K : Nat → List Value, K = fun k => sgsV (((E.take k).map (tightE less)).map (eyeT u v)) := ⟨_, rfl⟩
    obtain ⟨K2, hK2⟩ : ∃ K : Nat → List Value, K = fun k => sgsV (roundN L sn k) := ⟨_, rfl⟩
    obtain ⟨K3, hK3⟩ : ∃ K : Nat → List Value, K = fun k => sgsV ((L.take k).map turnS) := ⟨_, rfl⟩
    have hK1e : ∀ k, sgsV (((E.take k).map (tightE less)).map (eyeT u v)) = K1 k := fun k => by rw [hK1]
    have hK2e : ∀ k, sgsV (roundN L sn k) = K2 k := fun k => by rw [hK2]
    have hK3e : ∀ k, sgsV ((L.take k).map turnS) = K3 k := fun k => by rw [hK3]
    have z1 : K1 0 = [] := by rw [hK1]; rfl
    have z2 : K2 0 = [] := by rw [hK2]; rfl
    have z3 : K3 0 = [] := by rw [hK3]; rfl
    simp only [hK1e] at hsT heT
    simp only [hK2e] at hsR
    simp only [hK3e] at hsU heU
    have heR := hK2e n
    have hsc : EyesAt w w.heap.size A E := hA
    unfold EyesAt at hsc
    unfold EyesPost at hM
    unfold eyeC sgC at hlk
    rw [hn] at hsc hM
    rw [hll] at hM
    have hn5 : (n : Int) ≤ 10 := by omega
    have kq1 : ((kn : Int)).tmod ((n : Int) + 1) = ((kn % (n + 1) : Nat) : Int) := by
      rw [Int.tmod_eq_emod_of_nonneg (by omega)]
      exact (by push_cast; rfl)
    obtain ⟨kq, hkqe⟩ : ∃ k, kn % (n + 1) = k := ⟨_, rfl⟩
    rw [hkqe] at kq1 hkq bK
    have hkq2 : (kq : Int) ≤ n := by omega
    have ls : less.tmod 3000 = less % 3000 := Int.tmod_eq_emod_of_nonneg l1
    obtain ⟨lq, hlq⟩ : ∃ k, less % 3000 = k := ⟨_, rfl⟩
    rw [hlq] at ls
    have hlq1 : 0 ≤ lq ∧ lq ≤ 2999 := by omega
    obtain ⟨lq1, lq2⟩ := hlq1
    have htd : ∀ e : EyeN, tightE less e = ⟨e.ro, e.di, min (e.le % 3000) lq, min (e.mo % 3000) lq⟩ := fun e => by unfold tightE; rw [hlq]
    simp only [htd] at hlk hsT
    have HE := hide hM
    have HLK := hide hlk
    have HEK := hide hek
    have HST := hide hsT
    have HSR := hide hsR
    have HSU := hide hsU
    have HET := hide heT
    have HER := hide heR
    have HEU := hide heU
    have HLL := hide hll
    have HLT := hide hlt
    have HRL := hide hrl
    have HUL := hide hul
    have HSC := hide hsc
    have BL := hide bL
    have BK := hide bK
    have BT := hide bT
    have BR := hide bR
    have BU := hide bU
    have AL := hide aL
    have AU := hide aU
    have HXB := hide hxb
    clear hM hlk hek hsT hsR hsU heT heR heU hll hlt hrl hul hsc bL bK bT bR bU aL aU hxb
    clear hA he hL hK1 hK2 hK3 hK1e hK2e hK3e hlq htd hkqe
    obtain ⟨kka, kkb, kkc⟩ := kk1
    obtain ⟨kkd, kke, kkf⟩ := kk2
    obtain ⟨tta, ttb, ttc⟩ := tt1
    obtain ⟨ttd, tte, ttf⟩ := tt2
    obtain ⟨bd1, bd2, bd3, bd4⟩ := bd
    go_enter Try.func9, Try.ntmps9
    have HM := hide (Mem.start w)
    go_wp2_with fail
    refine (HE.out).mono ?_
    rintro e w1 ⟨A1, c1, rfl, hb, ho⟩
    replace HM := hide (HM.out.later hb)
    clear hb
    have HSl := hide (SlS.of_own HLL.out ho)
    clear ho
    go_wp2_with fail
    refine (BL.out _ _ _ HSl.out.sgts).mono ?_
    rintro e w2 ⟨rfl, hb⟩
    replace HM := hide (HM.out.later hb)
    replace HSl := hide (HSl.out.later hb)
    clear hb
    go_upto_region 5 with fail
    refine code_world fun w3 hW => ?_
    have HMn := Mem.to (Mem.allocAt HM.out w2.heap.size rfl #[.int .i64 p1, .int .i64 p2, .int .i64 p3, .int .i64 p4] 34) hW
    have LW : Later w2 w3 := by rw [hW]; exact ((Below.refl _ _).alloc (Nat.le_refl _) _)
    have szW : w3.heap.size = w2.heap.size + 1 := by rw [hW]; simp
    clear hW
    replace HSl := hide (HSl.out.later LW)
    replace HM := hide HMn
    clear HMn LW
    clear szW
    generalize hgw : w2.heap.size = ga at HM ⊢
    clear hgw
    have hnc : n ≤ c1 := by have := HSl.out.1; have := HLL.out; omega
    have hcm : c1 ≤ maxLen := HSl.out.2.1
    have hnc2 : (n : Int) ≤ c1 := by omega
    have hcm2 : (c1 : Int) ≤ 9223372036854775807 := by unfold maxLen at hcm; omega
    go_wp2_with fail
    refine (BK.out _ _ _ (HSl.out.take kq).sgts).mono ?_
    rintro e w4 ⟨rfl, hb⟩
    replace HM := hide (HM.out.later hb)
    replace HSl := hide (HSl.out.later hb)
    clear hb
    go_upto_region 6 with fail
    refine code_world fun w5 hW => ?_
    have HMn := Mem.to (Mem.allocAt HM.out w4.heap.size rfl #[.int .i64 q1, .int .i64 q2, .int .i64 q3, .int .i64 q4] 34) hW
    have LW : Later w4 w5 := by rw [hW]; exact ((Below.refl _ _).alloc (Nat.le_refl _) _)
    have szW : w5.heap.size = w4.heap.size + 1 := by rw [hW]; simp
    clear hW
    replace HSl := hide (HSl.out.later LW)
    replace HM := hide HMn
    clear HMn LW
    clear szW
    generalize hgk : w4.heap.size = gk at HM ⊢
    clear hgk
    have ba : Blk w5 ga 34 #[.int .i64 p1, .int .i64 p2, .int .i64 p3, .int .i64 p4] := HM.out.get 1 rfl
    have lta := ba.lt
    have a0 := ba.c 0 rfl
    have a1 := ba.c 1 rfl
    have a2 := ba.c 2 rfl
    have a3 := ba.c 3 rfl
    have bd : Blk w5 gk 34 #[.int .i64 q1, .int .i64 q2, .int .i64 q3, .int .i64 q4] := HM.out.get 0 rfl
    have ltd := bd.lt
    have d0 := bd.c 0 rfl
    have d1 := bd.c 1 rfl
    have d2 := bd.c 2 rfl
    have d3 := bd.c 3 rfl
    go_wp2_with fail
    refine (inside_any p1 p2 q1 q2 _ kka kkb kkc).mono ?_
    rintro e w6 ⟨rfl, hb⟩
    replace HM := hide (HM.out.later hb)
    replace HSl := hide (HSl.out.later hb)
    clear hb ba lta a0 a1 a2 a3 bd ltd d0 d1 d2 d3
    have ba : Blk w6 ga 34 #[.int .i64 p1, .int .i64 p2, .int .i64 p3, .int .i64 p4] := HM.out.get 1 rfl
    have lta := ba.lt
    have a0 := ba.c 0 rfl
    have a1 := ba.c 1 rfl
    have a2 := ba.c 2 rfl
    have a3 := ba.c 3 rfl
    have bd : Blk w6 gk 34 #[.int .i64 q1, .int .i64 q2, .int .i64 q3, .int .i64 q4] := HM.out.get 0 rfl
    have ltd := bd.lt
    have d0 := bd.c 0 rfl
    have d1 := bd.c 1 rfl
    have d2 := bd.c 2 rfl
    have d3 := bd.c 3 rfl
    go_wp2_with fail
    refine (inside_any p3 p4 q3 q4 _ kkd kke kkf).mono ?_
    rintro e w7 ⟨rfl, hb⟩
    replace HM := hide (HM.out.later hb)
    replace HSl := hide (HSl.out.later hb)
    clear hb ba lta a0 a1 a2 a3 bd ltd d0 d1 d2 d3
    go_wp2_with fail
    have HB1 := hide HM.out.below
    have hz7 := HM.out.size
    have HMW := HM
    clear HM
    have HM := hide ((((Mem.start w7).nilRow w7.heap.size 71 5).nilRow w7.heap.size 71 5).nilRow w7.heap.size 71 5)
    clear HE BK
    obtain ⟨i0, hii, hz0, hz1, hz2⟩ := info_parts sightInfo
    have Hi := hide hii
    have Hz0 := hide hz0
    have Hz1 := hide hz1
    have Hz2 := hide hz2
    clear hii hz0 hz1 hz2
    go_loopw [19, 20, 21, 86] (fun o1 o2 o3 i wr => ∃ (k : Nat) (A1' A2' A3' : Option Addr) (c1' c2' c3' : Nat), k ≤ n ∧ i = .int .i64 k ∧ o1 = .slice A1' k c1' ∧ o2 = .slice A2' k c2' ∧ o3 = .slice A3' k c3' ∧ Mem w7 [.row w7.heap.size 71 5 (.slice A1' k c1') k (K1 k), .row w7.heap.size 71 5 (.slice A2' k c2') k (K2 k), .row w7.heap.size 71 5 (.slice A3' k c3') k (K3 k)] wr) (fun _ _ _ i _ => n - (intOf i).toNat)
    case atStart => exact ⟨0, none, none, none, 0, 0, 0, by omega, rfl, rfl, rfl, rfl, by rw [z1, z2, z3]; exact HM.out⟩
    case round =>
      obtain ⟨k, A1', A2', A3', c1', c2', c3', hk, rfl, rfl, rfl, rfl, hM⟩ := hrel
      clear HM
      have HM := hide hM
      clear hM
      have HSq := hide (HSl.out.later HM.out.below)
      have hbr := HB1.out.trans (HM.out.below.mono hz7)
      by_cases hlt : k < n
      · have hlt2 : (k : Int) < n := by omega
        obtain ⟨b, off, rfl, hb0, hc⟩ := HSC.out (by omega)
        have hc1 := hc _ hlt
        have ek := HEK.out k hlt
        have c0 := HLK.out k hlt
        have st := HST.out k hlt
        have sr := HSR.out k hlt
        have su := HSU.out k hlt
        have xb := HXB.out k hlt
        obtain ⟨X, hX⟩ : ∃ X, E.getD k eye0 = X := ⟨_, rfl⟩
        rw [hX] at hc1 ek c0 st
        rw [← hbr.cell hb0, ← hbr.cell hb0, ← hbr.cell hb0, ← hbr.cell hb0] at hc1
        have ltb : b < wr.heap.size := Nat.lt_of_lt_of_le hb0 hbr.size
        obtain ⟨q0, q1', q2', q3'⟩ := hc1
        obtain ⟨ro, di, le, mo⟩ := X
        obtain ⟨-, -, -, -, le0, le1, mo0, mo1⟩ := ek
        simp only at q0 q1' q2' q3' c0 st le0 le1 mo0 mo1
        have t3 : le.tmod 3000 = le % 3000 := Int.tmod_eq_emod_of_nonneg le0
        have t4 : mo.tmod 3000 = mo % 3000 := Int.tmod_eq_emod_of_nonneg mo0
        obtain ⟨lm, hlm⟩ : ∃ r, le % 3000 = r := ⟨_, rfl⟩
        obtain ⟨mm, hmm⟩ : ∃ r, mo % 3000 = r := ⟨_, rfl⟩
        rw [hlm] at t3 c0 st
        rw [hmm] at t4 c0 st
        have lm1 : 0 ≤ lm := by omega
        have lm2 : lm ≤ 2999 := by omega
        have mm1 : 0 ≤ mm := by omega
        have mm2 : mm ≤ 2999 := by omega
        obtain ⟨la, hla⟩ : ∃ r, min lm lq = r := ⟨_, rfl⟩
        obtain ⟨lb, hlb⟩ : ∃ r, min mm lq = r := ⟨_, rfl⟩
        rw [hla, hlb] at c0 st
        obtain ⟨Y, hY⟩ : ∃ Y, eyeT u v ⟨ro, di, la, lb⟩ = Y := ⟨_, rfl⟩
        rw [hY] at c0 st
        obtain ⟨yx, yy, yl, ylo, yhi⟩ := Y
        have kr : (k + sn) % n < n := Nat.mod_lt _ (by omega)
        have kr1 : ((k : Int) + sn).tmod n = (((k + sn) % n : Nat) : Int) := by
          rw [Int.tmod_eq_emod_of_nonneg (by omega)]
          exact (by push_cast; rfl)
        obtain ⟨b1, off1, rfl, hb1, hcS⟩ := HSq.out.sgts (by have := HLL.out; omega)
        have hs1 := hcS k (by have := HLL.out; omega)
        obtain ⟨kk, hkk⟩ : ∃ j, (k + sn) % n = j := ⟨_, rfl⟩
        rw [hkk] at kr kr1 sr
        have kr2 : (kk : Int) < n := by omega
        obtain ⟨Z, hZ⟩ : ∃ Z, L.getD k sg0 = Z := ⟨_, rfl⟩
        rw [hZ] at hs1 su xb
        obtain ⟨V, hV⟩ : ∃ V, L.getD kk sg0 = V := ⟨_, rfl⟩
        rw [hV] at sr
        obtain ⟨sx, sy, sl, slo, shi⟩ := Z
        obtain ⟨rx, ry, rl, rlo, rhi⟩ := V
        obtain ⟨g0, g1, g2, g3, g4⟩ := hs1
        simp only at g0 g1 g2 g3 g4 xb c0
        obtain ⟨xb1, xb2⟩ := xb
        have st2 : K1 (k + 1) = K1 k ++ [.int .i64 yx, .int .i64 yy, .int .i64 yl, .int .i64 ylo, .int .i64 yhi] := st
        have sr2 : K2 (k + 1) = K2 k ++ [.int .i64 rx, .int .i64 ry, .int .i64 rl, .int .i64 rlo, .int .i64 rhi] := sr
        have su2 : K3 (k + 1) = K3 k ++ [.int .i64 sy, .int .i64 (-sx), .int .i64 sl, .int .i64 slo, .int .i64 shi] := su
        generalize K1 k = x1 at *
        generalize K2 k = x2 at *
        generalize K3 k = x3 at *
        have C0 := hide c0
        have ST2 := hide st2
        have SR2 := hide sr2
        have SU2 := hide su2
        have HV := hide hV
        clear c0 st2 sr2 su2 hV
        clear hc hX hlm hmm hY hkk hZ hcS st sr su hbr HSC
        go_upto_region 13 with fail
        refine code_world fun w8 hW => ?_
        have HMn := Mem.to (Mem.allocAt (Mem.allocAt HM.out wr.heap.size rfl #[.int .i64 sx, .int .i64 sy, .int .i64 sl, .int .i64 slo, .int .i64 shi] 71) (wr.heap.size + 1) (by simp) #[.int .u8 ro, .int .u8 di, .int .u16 le, .int .u16 mo] 77) hW
        have LW : Later wr w8 := by rw [hW]; exact (((Below.refl _ _).alloc (Nat.le_refl _) _).alloc (by simp; try omega) _)
        have szW : w8.heap.size = wr.heap.size + 2 := by rw [hW]; simp
        clear hW
        replace HSq := hide (HSq.out.later LW)
        replace HM := hide HMn
        clear HMn LW
        clear szW q0 q1' q2' q3' ltb g0 g1 g2 g3 g4
        generalize hg1 : wr.heap.size + 1 = ge at HM ⊢
        generalize hg0 : wr.heap.size = gs at HM ⊢
        have bz : Blk w8 ge 77 #[.int .u8 ro, .int .u8 di, .int .u16 le, .int .u16 mo] := HM.out.get 0 rfl
        have ltz := bz.lt
        have z0 := bz.c 0 rfl
        have fz0 := bz.frozen 0
        have z1 := bz.c 1 rfl
        have fz1 := bz.frozen 1
        have z2 := bz.c 2 rfl
        have fz2 := bz.frozen 2
        have z3 := bz.c 3 rfl
        have fz3 := bz.frozen 3
        have HM2 := hide ((HM.out.set_ 0 rfl 2 (.int .u16 la) rfl).set_ 0 rfl 3 (.int .u16 lb) rfl)
        go_upto_region 14 with fail
        refine code_world fun w9 hW => ?_
        rw [← hW] at HM2
        clear hW bz ltz z0 z1 z2 z3 fz0 fz1 fz2 fz3 HM HSq
        have HM := HM2
        clear HM2
        have HSq := hide (HSl.out.later HM.out.below)
        have bz : Blk w9 ge 77 #[.int .u8 ro, .int .u8 di, .int .u16 la, .int .u16 lb] := HM.out.get 0 rfl
        have ltz := bz.lt
        have z0 := bz.c 0 rfl
        have z1 := bz.c 1 rfl
        have z2 := bz.c 2 rfl
        have z3 := bz.c 3 rfl
        go_wp2_with fail
        refine (C0.out _).mono ?_
        rintro e w10 ⟨rfl, hb⟩
        replace HM := hide (HM.out.later hb)
        replace HSq := hide (HSq.out.later hb)
        clear hb bz ltz z0 z1 z2 z3
        have hownM := Mem.row_ HM.out 2 rfl
        have hbaseM : w7.heap.size ≤ w10.heap.size := HM.out.size
        go_wp2_with (at_builtin; refine wpList_append_own_at _ rfl (.tmp 109) (.tmp 116) _ rfl w7.heap.size 71 i0 _ 5 40 Try.underlying25 Hi.out Hz0.out Hz1.out Hz2.out rfl (by decide) _ k x1 rfl (hownM.alloc _) ⟨w10.heap.size, 0, none⟩ 1 1 [.int .i64 yx, .int .i64 yy, .int .i64 yl, .int .i64 ylo, .int .i64 yhi] rfl rfl ?q1c1 (by intro u hu; simp only [List.mem_cons, List.not_mem_nil, or_false] at hu; rcases hu with rfl | rfl | rfl | rfl | rfl <;> rfl) ?q1c3 ?q1c4 ?q1c5 ?_)
        try case q1c1 => exact new_cellsQ w10 _ [.int .i64 yx, .int .i64 yy, .int .i64 yl, .int .i64 ylo, .int .i64 yhi]
        case q1c3 => unfold maxLen; omega
        case q1c4 => omega
        case q1c5 => first | omega | (simp; omega)
        intro vA w11 hown2 hgr2 _ hat2
        have HMn := HM.out.grow 2 rfl _ hgr2 hown2 hat2
        replace HM := hide HMn
        clear HMn hown2 hgr2 hat2 hownM hbaseM
        obtain ⟨A4, c4, rfl⟩ := own_shape2 (Mem.row_ HM.out 2 rfl)
        obtain ⟨b2, off2, hbe, hb2, hcS⟩ := (HSl.out.later HM.out.below).sgts (by have := HLL.out; omega)
        injection hbe with hbe
        injection hbe with e1 e2 _
        subst e1 e2
        have hs2 := hcS kk (by have := HLL.out; omega)
        rw [HV.out] at hs2
        obtain ⟨g0, g1, g2, g3, g4⟩ := hs2
        simp only at g0 g1 g2 g3 g4
        clear hcS HSq
        have hownM := Mem.row_ HM.out 3 rfl
        have hbaseM : w7.heap.size ≤ w11.heap.size := HM.out.size
        go_wp2_with (at_builtin; refine wpList_append_own_at _ rfl (.tmp 118) (.tmp 129) _ rfl w7.heap.size 71 i0 _ 5 40 Try.underlying25 Hi.out Hz0.out Hz1.out Hz2.out rfl (by decide) _ k x2 rfl (hownM.alloc _) ⟨w11.heap.size, 0, none⟩ 1 1 [.int .i64 rx, .int .i64 ry, .int .i64 rl, .int .i64 rlo, .int .i64 rhi] rfl rfl ?q2c1 (by intro u hu; simp only [List.mem_cons, List.not_mem_nil, or_false] at hu; rcases hu with rfl | rfl | rfl | rfl | rfl <;> rfl) ?q2c3 ?q2c4 ?q2c5 ?_)
        try case q2c1 => exact new_cellsQ w11 _ [.int .i64 rx, .int .i64 ry, .int .i64 rl, .int .i64 rlo, .int .i64 rhi]
        case q2c3 => unfold maxLen; omega
        case q2c4 => omega
        case q2c5 => first | omega | (simp; omega)
        intro vB w12 hown2 hgr2 _ hat2
        have HMn := HM.out.grow 3 rfl _ hgr2 hown2 hat2
        replace HM := hide HMn
        clear HMn hown2 hgr2 hat2 hownM hbaseM
        obtain ⟨A5, c5, rfl⟩ := own_shape2 (Mem.row_ HM.out 3 rfl)
        clear g0 g1 g2 g3 g4 hb2
        have bz : Blk w12 gs 71 #[.int .i64 sx, .int .i64 sy, .int .i64 sl, .int .i64 slo, .int .i64 shi] := HM.out.get 1 rfl
        have ltz := bz.lt
        have z0 := bz.c 0 rfl
        have z1 := bz.c 1 rfl
        have z2 := bz.c 2 rfl
        have z3 := bz.c 3 rfl
        have z4 := bz.c 4 rfl
        go_wp2_with fail
        refine (sight_any _ _ _ _ _ _).mono ?_
        rintro e w13 ⟨rfl, hb⟩
        replace HM := hide (HM.out.later hb)
        clear hb bz ltz z0 z1 z2 z3 z4
        have hownM := Mem.row_ HM.out 4 rfl
        have hbaseM : w7.heap.size ≤ w13.heap.size := HM.out.size
        go_wp2_with (at_builtin; refine wpList_append_own_at _ rfl (.tmp 131) (.tmp 146) _ rfl w7.heap.size 71 i0 _ 5 40 Try.underlying25 Hi.out Hz0.out Hz1.out Hz2.out rfl (by decide) _ k x3 rfl (hownM.alloc _) ⟨w13.heap.size, 0, none⟩ 1 1 [.int .i64 sy, .int .i64 (-sx), .int .i64 sl, .int .i64 slo, .int .i64 shi] rfl rfl ?q3c1 (by intro u hu; simp only [List.mem_cons, List.not_mem_nil, or_false] at hu; rcases hu with rfl | rfl | rfl | rfl | rfl <;> rfl) ?q3c3 ?q3c4 ?q3c5 ?_)
        try case q3c1 => exact new_cellsQ w13 _ [.int .i64 sy, .int .i64 (-sx), .int .i64 sl, .int .i64 slo, .int .i64 shi]
        case q3c3 => unfold maxLen; omega
        case q3c4 => omega
        case q3c5 => first | omega | (simp; omega)
        intro vC w14 hown2 hgr2 _ hat2
        have HMn := HM.out.grow 4 rfl _ hgr2 hown2 hat2
        replace HM := hide HMn
        clear HMn hown2 hgr2 hat2 hownM hbaseM
        obtain ⟨A6, c6, rfl⟩ := own_shape2 (Mem.row_ HM.out 4 rfl)
        go_wp2_with fail
        go_roundw
        case rel => exact ⟨k + 1, A4, A5, A6, c4, c5, c6, by omega, by go_num, rfl, rfl, rfl, by rw [ST2.out, SR2.out, SU2.out]; exact HM.out.tail.tail⟩
        case measure => simp [intOf] <;> omega
      · obtain rfl : k = n := by omega
        have hkk : ¬ ((k : Int) < k) := by omega
        have ho1 := HM.out.row_ 0 rfl
        have ho2 := HM.out.row_ 1 rfl
        have ho3 := HM.out.row_ 2 rfl
        rw [HET.out] at ho1
        rw [← HER.out] at ho2
        rw [HEU.out] at ho3
        have HT1 := hide (SlS.of_own HLT.out ho1).sgts
        have HR1 := hide (SlS.of_own HRL.out ho2).sgts
        have HU1 := hide (SlS.of_own HUL.out ho3)
        have HMv := hide (HMW.out.later HM.out.below)
        clear ho1 ho2 ho3 HM HMW HST HSR HSU HET HER HEU HLK HEK HXB HSC
        have HM := HMv
        clear HMv hbr
        go_wp2_with fail
        refine (BT.out _ _ _ HT1.out).mono ?_
        rintro e w8 ⟨rfl, hb⟩
        replace HM := hide (HM.out.later hb)
        replace HSq := hide (HSq.out.later hb)
        replace HT1 := hide (HT1.out.later hb)
        replace HR1 := hide (HR1.out.later hb)
        replace HU1 := hide (HU1.out.later hb)
        clear hb
        clear HT1
        go_upto_region 19 with fail
        refine code_world fun w9 hW => ?_
        have HMn := Mem.to (Mem.allocAt HM.out w8.heap.size rfl #[.int .i64 t1, .int .i64 t2, .int .i64 t3, .int .i64 t4] 34) hW
        have LW : Later w8 w9 := by rw [hW]; exact ((Below.refl _ _).alloc (Nat.le_refl _) _)
        have szW : w9.heap.size = w8.heap.size + 1 := by rw [hW]; simp
        clear hW
        replace HSq := hide (HSq.out.later LW)
        replace HR1 := hide (HR1.out.later LW)
        replace HU1 := hide (HU1.out.later LW)
        replace HM := hide HMn
        clear HMn LW
        clear szW
        generalize hgt : w8.heap.size = gt at HM ⊢
        clear hgt
        go_wp2_with fail
        refine (BR.out _ _ _ HR1.out).mono ?_
        rintro e w10 ⟨rfl, hb⟩
        replace HM := hide (HM.out.later hb)
        replace HSq := hide (HSq.out.later hb)
        replace HR1 := hide (HR1.out.later hb)
        replace HU1 := hide (HU1.out.later hb)
        clear hb
        clear HR1
        go_upto_region 20 with fail
        refine code_world fun w11 hW => ?_
        have HMn := Mem.to (Mem.allocAt HM.out w10.heap.size rfl #[.int .i64 p1, .int .i64 p2, .int .i64 p3, .int .i64 p4] 34) hW
        have LW : Later w10 w11 := by rw [hW]; exact ((Below.refl _ _).alloc (Nat.le_refl _) _)
        have szW : w11.heap.size = w10.heap.size + 1 := by rw [hW]; simp
        clear hW
        replace HSq := hide (HSq.out.later LW)
        replace HU1 := hide (HU1.out.later LW)
        replace HM := hide HMn
        clear HMn LW
        clear szW
        generalize hgr : w10.heap.size = gr at HM ⊢
        clear hgr
        go_wp2_with fail
        refine (BU.out _ _ _ HU1.out.sgts).mono ?_
        rintro e w12 ⟨rfl, hb⟩
        replace HM := hide (HM.out.later hb)
        replace HSq := hide (HSq.out.later hb)
        replace HU1 := hide (HU1.out.later hb)
        clear hb
        go_upto_region 21 with fail
        refine code_world fun w13 hW => ?_
        have HMn := Mem.to (Mem.allocAt HM.out w12.heap.size rfl #[.int .i64 p3, .int .i64 p4, .int .i64 (-p2), .int .i64 (-p1)] 34) hW
        have LW : Later w12 w13 := by rw [hW]; exact ((Below.refl _ _).alloc (Nat.le_refl _) _)
        have szW : w13.heap.size = w12.heap.size + 1 := by rw [hW]; simp
        clear hW
        replace HSq := hide (HSq.out.later LW)
        replace HU1 := hide (HU1.out.later LW)
        replace HM := hide HMn
        clear HMn LW
        clear szW
        generalize hgu : w12.heap.size = gu at HM ⊢
        clear hgu
        go_wp2_with fail
        refine (AL.out _ _ _ HSq.out.sgts).mono ?_
        rintro e w14 ⟨rfl, hb⟩
        replace HM := hide (HM.out.later hb)
        replace HSq := hide (HSq.out.later hb)
        replace HU1 := hide (HU1.out.later hb)
        clear hb
        go_upto_region 22 with fail
        refine code_world fun w15 hW => ?_
        have HMn := Mem.to (Mem.allocAt HM.out w14.heap.size rfl #[.int .i64 s1, .int .i64 s2] 32) hW
        have LW : Later w14 w15 := by rw [hW]; exact ((Below.refl _ _).alloc (Nat.le_refl _) _)
        have szW : w15.heap.size = w14.heap.size + 1 := by rw [hW]; simp
        clear hW
        replace HSq := hide (HSq.out.later LW)
        replace HU1 := hide (HU1.out.later LW)
        replace HM := hide HMn
        clear HMn LW
        clear szW
        generalize hgx : w14.heap.size = gx at HM ⊢
        clear hgx
        go_wp2_with fail
        refine (AU.out _ _ _ HU1.out.sgts).mono ?_
        rintro e w16 ⟨rfl, hb⟩
        replace HM := hide (HM.out.later hb)
        replace HSq := hide (HSq.out.later hb)
        replace HU1 := hide (HU1.out.later hb)
        clear hb
        clear HU1 HSq
        go_upto_region 23 with fail
        refine code_world fun w17 hW => ?_
        have HMn := Mem.to (Mem.allocAt HM.out w16.heap.size rfl #[.int .i64 s1, .int .i64 s2] 32) hW
        have LW : Later w16 w17 := by rw [hW]; exact ((Below.refl _ _).alloc (Nat.le_refl _) _)
        have szW : w17.heap.size = w16.heap.size + 1 := by rw [hW]; simp
        clear hW
        replace HM := hide HMn
        clear HMn LW
        clear szW
        generalize hgy : w16.heap.size = gy at HM ⊢
        clear hgy
        have be : Blk w17 gy 32 #[.int .i64 s1, .int .i64 s2] := HM.out.get 0 rfl
        have lte := be.lt
        have e0 := be.c 0 rfl
        have e1 := be.c 1 rfl
        have bg : Blk w17 gx 32 #[.int .i64 s1, .int .i64 s2] := HM.out.get 1 rfl
        have ltg := bg.lt
        have g0 := bg.c 0 rfl
        have g1 := bg.c 1 rfl
        have bz : Blk w17 gu 34 #[.int .i64 p3, .int .i64 p4, .int .i64 (-p2), .int .i64 (-p1)] := HM.out.get 2 rfl
        have ltz := bz.lt
        have z0 := bz.c 0 rfl
        have z1 := bz.c 1 rfl
        have z2 := bz.c 2 rfl
        have z3 := bz.c 3 rfl
        have bo : Blk w17 gr 34 #[.int .i64 p1, .int .i64 p2, .int .i64 p3, .int .i64 p4] := HM.out.get 3 rfl
        have lto := bo.lt
        have o0 := bo.c 0 rfl
        have o1 := bo.c 1 rfl
        have o2 := bo.c 2 rfl
        have o3 := bo.c 3 rfl
        have bm : Blk w17 gt 34 #[.int .i64 t1, .int .i64 t2, .int .i64 t3, .int .i64 t4] := HM.out.get 4 rfl
        have ltm := bm.lt
        have m0 := bm.c 0 rfl
        have m1 := bm.c 1 rfl
        have m2 := bm.c 2 rfl
        have m3 := bm.c 3 rfl
        have ba : Blk w17 ga 34 #[.int .i64 p1, .int .i64 p2, .int .i64 p3, .int .i64 p4] := HM.out.get 6 rfl
        have lta := ba.lt
        have a0 := ba.c 0 rfl
        have a1 := ba.c 1 rfl
        have a2 := ba.c 2 rfl
        have a3 := ba.c 3 rfl
        have I1 := fun W => inside_any t1 t2 p1 p2 W tta ttb ttc
        have I2 := fun W => inside_any t3 t4 p3 p4 W ttd tte ttf
        have H1 := hide I1
        have H2 := hide I2
        clear I1 I2
        have n1 : IntKind.i64.wrap (-p2) = -p2 := IntWalk.i64_in _ (by omega)
        have n2 : IntKind.i64.wrap (-p1) = -p1 := IntWalk.i64_in _ (by omega)
        simp only [List.append]
        apply wp_region_L (w0 := w17) [[], [], [], [], [], [], [], [], [], [], [], [], [], [], [], [], [], [], [], [], [], [], [], [], [], [], [], [], [], [], [], [], [], [], [], [], [], [], [], [], [], [], [], [], [], [], [], [], [], [], [], [], [], [], [], [], [], [], [], [], [], [], [], [], [], [], []] [true, true, true, true, true, true, true, true, true, true, true, true, true, true, true, true, true, true, true, true, true, true, true, true, true, true, true, true, true, true, true, true, true, true, true, true, true, true, true, true, true, true, true, true, true, true, true, true, true, true, true, true, true, true, true, true, true, true, true, true, true, true, true, true, true, true, true] [] (fun ixq y => match ixq with  | _ => undef) (fun ixq x F wq => match ixq with  | _ => True) (fun a x => a) (by kernel_rfl) (by kernel_rfl) (fun _ => rfl) [197, 204, 234, 238] (by kernel_rfl)
        · intro x D hD
          have hne := hD.some
          have k0 := liftB hD e0 (by first | assumption | omega)
          have k1 := liftB hD e1 (by first | assumption | omega)
          have k2 := liftB hD g0 (by first | assumption | omega)
          have k3 := liftB hD g1 (by first | assumption | omega)
          have k4 := liftB hD z0 (by first | assumption | omega)
          have k5 := liftB hD z1 (by first | assumption | omega)
          have k6 := liftB hD z2 (by first | assumption | omega)
          have k7 := liftB hD z3 (by first | assumption | omega)
          have k8 := liftB hD o0 (by first | assumption | omega)
          have k9 := liftB hD o1 (by first | assumption | omega)
          have k10 := liftB hD o2 (by first | assumption | omega)
          have k11 := liftB hD o3 (by first | assumption | omega)
          have k12 := liftB hD m0 (by first | assumption | omega)
          have k13 := liftB hD m1 (by first | assumption | omega)
          have k14 := liftB hD m2 (by first | assumption | omega)
          have k15 := liftB hD m3 (by first | assumption | omega)
          have k16 := liftB hD a0 (by first | assumption | omega)
          have k17 := liftB hD a1 (by first | assumption | omega)
          have k18 := liftB hD a2 (by first | assumption | omega)
          have k19 := liftB hD a3 (by first | assumption | omega)
          simp only [takeOps, Act.put, List.setIfInBounds_toArray, List.set_cons_succ, List.set_cons_zero]
          repeat (go_big_quiet_step ((first | (go_at_call 37; first | (with_reducible exact calls_later hD _ (H1.out _)) | (with_reducible exact calls_later hD _ (H2.out _))) | (go_at_call 40; with_reducible exact calls_later hD _ (span_any _ _ _)) | (go_at_call 13; with_reducible exact calls_later hD _ (works_any _)))))
          exact wpQuiet_nil rfl
        · intro d hd x x'
          simp only [List.mem_cons, List.not_mem_nil, or_false] at hd
          rcases hd with rfl | rfl | rfl | rfl
          all_goals rfl
        · exact trivial
        · exact trivial
        intro xx w18 F hL hlv1
        clear hlv1
        clear n1 n2
        replace HM := hide (HM.out.later hL)
        clear hL be lte e0 e1 bg ltg g0 g1 bz ltz z0 z1 z2 z3 bo lto o0 o1 o2 o3 bm ltm m0 m1 m2 m3 ba lta a0 a1 a2 a3
        go_wp2
        exact bodyPost_ret (v := .bool true) (by simp [results, Try.results9, go_sem]) rfl ⟨rfl, HM.out.below⟩
end Go.Proofs.Ytllpffkifleigaa
