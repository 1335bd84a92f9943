/-
  rain.Sum: the contract, for every record.
  Regions that draw their order, once more: which operations may turn old memory is said by a set; each of these must wait for every quiet operation that is taken ahead.
  A region that draws its order, in which one call may turn old memory: it waits for all that come ahead, and all others wait for it.
-/
import Derived.Test.YtjkelpelmljanaaTgValues
import Derived.Test.YtjkelpelmljanaaRegionStep
import Derived.Test.YtjkelpelmljanaaRegH
set_option linter.unusedSimpArgs false
set_option linter.unusedVariables false
namespace Go.Proofs.Ytjkelpelmljanaa
open Go.RowKit

theorem down_big (a b : Int) (w : World) (ha : 0 ≤ a) (hb : 1 ≤ b) (ha2 : a ≤ 9223372036854775807) (_hb2 : b ≤ 9223372036854775807) :
    Calls Try.prog 30 #[.int .i64 a, .int .i64 b] w fun e w' => e = .returned (.int .i64 (a / b)) ∧ w = w' := by
  have h1 : 0 ≤ a / b := Int.ediv_nonneg ha (by omega)
  have h2 : a / b ≤ a := Int.ediv_le_self b ha
  go_enter Try.func30, Try.ntmps30
  go_wp2
  go_ret
  exact ⟨rfl, rfl⟩
theorem up_big (a b : Int) (w : World) (ha : 0 ≤ a) (hb : 1 ≤ b) (ha2 : a + b ≤ 9223372036854775807) :
    Calls Try.prog 31 #[.int .i64 a, .int .i64 b] w fun e w' => e = .returned (.int .i64 (cdiv a b)) ∧ w = w' := by
  have h1 : 0 ≤ (a + b - 1) / b := Int.ediv_nonneg (by omega) (by omega)
  have h2 : (a + b - 1) / b ≤ a + b - 1 := Int.ediv_le_self b (by omega)
  have H := hide (cdiv_eq (a := a) (b := b) (by omega))
  go_enter Try.func31, Try.ntmps31
  go_wp2
  go_ret
  exact ⟨(ret_int H.out).symm, rfl⟩

/-- The three cells of reading k. -/
theorem Ints.pt3 {w : World} {B : Nat} {A : Option Addr} {zs : List Int} {n : Nat} (h : Ints w B .i64 A zs) (hz : zs.length = n * 3) (hn : 0 < n) : ∃ b off, A = some ⟨b, off, none⟩ ∧ b < B ∧
    ∀ k, k < n → w.cell? ⟨b, off + k * 3, none⟩ = some (.int .i64 (zs.getD (k * 3) 0)) ∧ w.cell? ⟨b, off + k * 3 + 1, none⟩ = some (.int .i64 (zs.getD (k * 3 + 1) 0)) ∧ w.cell? ⟨b, off + k * 3 + 2, none⟩ = some (.int .i64 (zs.getD (k * 3 + 2) 0)) := by
  obtain ⟨b, off, e, hb, hc⟩ := h (by omega)
  exact ⟨b, off, e, hb, fun k hk => ⟨hc (k * 3) (by omega), hc (k * 3 + 1) (by omega), hc (k * 3 + 2) (by omega)⟩⟩

set_option maxHeartbeats 2000000 in
set_option maxRecDepth 100000 in
theorem Sum_any (A : Option Addr) (n c : Nat) (zs : List Int) (ed sl : Int) (w : World) (hz : zs.length = n * 3) (hmax : n ≤ 9223372036854775807) (hcap : n ≤ c) (hcm : c ≤ 9223372036854775807) (hl : Ints w w.heap.size .i64 A zs) :
    Calls Try.prog 13 #[.slice A n c, .int .i64 ed, .int .i64 sl] w fun e w' => e = .returned (spanER (sumR (fun j => zs.getD j 0) n ed sl)) ∧ Below w.heap.size w w' := by
  by_cases h0 : n = 0
  · subst h0
    have hR : sumR (fun j => zs.getD j 0) 0 ed sl = ((0, 0), 18) := rfl
    rw [hR]
    go_enter Try.func13, Try.ntmps13
    go_wp2
    refine bodyPost_ret (v := spanER ((0, 0), 18)) (by simp [spanER, results, Try.results13, go_sem]) rfl ⟨rfl, ?_⟩
    repeat (first | exact Below.refl _ _ | (refine Below.setCell ?_ (by first | omega | (simp; done) | (simp; omega)) _) | (refine Below.alloc ?_ (by first | omega | (simp; done) | (simp; omega)) _) | (refine below_drewN ?_ _))
  generalize hzf : (fun j => zs.getD j 0) = z
  have hn0 : ((n : Int) == 0) = false := beq_eq_false_iff_ne.2 (by omega)
  have hn1 : (0 : Int) < n := by omega
  have hR : sumR z n ed sl = if scanE z 0 n ≠ 0 then ((0, 0), scanE z 0 n) else if (win ed 0 4294967296 && win sl 0 1000) = false then ((0, 0), 3) else if ed < z ((n - 1) * 3) then ((0, 0), 17)
      else ((totL z n ed * (1000 - sl) / 360000, cdiv (totH z n ed * (1000 + sl)) 360000), 0) := by unfold sumR; rw [if_neg h0]
  obtain ⟨b, off, rfl, hb, hc⟩ := hl.pt3 hz (by omega)
  have hc' : ∀ k, k < n → w.cell? ⟨b, off + k * 3, none⟩ = some (.int .i64 (z (k * 3))) ∧ w.cell? ⟨b, off + k * 3 + 1, none⟩ = some (.int .i64 (z (k * 3 + 1))) ∧ w.cell? ⟨b, off + k * 3 + 2, none⟩ = some (.int .i64 (z (k * 3 + 2))) := by
    rw [← hzf]; exact hc
  have HR := hide hR
  have Hc := hide hc'
  generalize sumR z n ed sl = r at *
  clear hR hc hc' hl hz hzf
  go_enter Try.func13, Try.ntmps13
  go_wp2_with fail
  go_loopw [23] (fun i wr => ∃ k : Nat, k ≤ n ∧ i = .int .i64 k ∧ Below w.heap.size w wr ∧ Blk wr w.heap.size 35 #[.int .i64 0, .int .i64 0] ∧ scanE z k (n - k) = scanE z 0 n)
    (fun i _ => n - (intOf i).toNat)
  case atStart => exact ⟨0, by omega, rfl, (Below.refl _ _).alloc (Nat.le_refl _) _, Blk.new _ _ _, rfl⟩
  case round =>
    obtain ⟨k, hk, rfl, hbw, hbl, hg⟩ := hrel
    have Hg := hide hg
    have Hbl := hide hbl
    have Hbw := hide hbw
    clear hg hbl hbw
    have hsz := Hbw.out.size
    by_cases hlt : k < n
    · obtain ⟨c0, c1, c2⟩ := Hc.out k hlt
      rw [← Hbw.out.cell hb] at c0 c1 c2
      have hst := scan_step z n k hlt
      rw [Hg.out] at hst
      have hno := @okR_no z k
      have hok := (@okR_iff z k).1
      by_cases hg : okR z k = true
      · rw [if_neg (by simp [hg])] at hst
        have hok' := hok hg
        have hw1 : win (z (k * 3)) 0 4294967296 = true := by simp [okR] at hg; exact hg.1
        have hw2 : ins (z (k * 3 + 1)) (z (k * 3 + 2)) 1000000 = true := by simp [okR] at hg; exact hg.2
        clear hno hok hg
        by_cases hk0 : k = 0
        · subst hk0
          rw [if_neg (by omega)] at hst
          have Hst := hide hst
          clear hst
          simp only [Nat.zero_mul, Nat.add_zero, Nat.zero_add] at c0 c1 c2 hok' hw1 hw2
          generalize z 0 = z0 at *
          generalize z 1 = z1 at *
          generalize z 2 = z2 at *
          go_wp2_with (go_at_call 15; refine (within_anyR _ _ _ _).mono ?_; rintro e w' ⟨rfl, rfl⟩)
          refine at_world fun W hW => ?_
          have br : Blk W wr.heap.size 52 #[.int .i64 z0, .int .i64 z1, .int .i64 z2] := by rw [hW]; exact Blk.new _ _ _
          have LW : Later wr W := by rw [hW]; exact (Below.refl _ _).alloc (Nat.le_refl _) _
          clear hW c0 c1 c2
          refine (inside_anyR _ _ _ _).mono ?_
          rintro e w1 ⟨rfl, hb1⟩
          have B1 := onward (onward Hbw.out LW) hb1
          have bo := blk_later (blk_later Hbl.out LW) hb1
          have br1 := blk_later br hb1
          have HB1 := hide B1
          have Hbo := hide bo
          obtain ⟨y0, y1, y2⟩ := br1.c3
          have lr := br1.lt
          clear hb1 LW br bo br1 B1 Hbw Hbl
          go_wp2_with fail
          go_quiet (fail)
          go_wp2
          go_roundw
          case rel => exact ⟨1, by omega, rfl, below_drewN HB1.out _, Hbo.out, Hst.out.symm⟩
          case measure => simp [intOf]; omega
        · obtain ⟨j, rfl⟩ : ∃ j, k = j + 1 := ⟨k - 1, by omega⟩
          obtain ⟨p0, -, -⟩ := Hc.out j (by omega)
          have hokj : 0 ≤ z (j * 3) + 1 ∨ True := .inr trivial
          rw [Nat.add_sub_cancel] at hst
          clear hokj hk0
          generalize z (j * 3) = t0 at p0 hst
          generalize z ((j + 1) * 3) = z0 at *
          generalize z ((j + 1) * 3 + 1) = z1 at *
          generalize z ((j + 1) * 3 + 2) = z2 at *
          have Hp0 := hide p0
          clear p0
          have q0 : decide (0 < (j : Int) + 1) = true := decide_eq_true (by omega)
          by_cases hle : z0 ≤ t0
          · rw [if_pos ⟨by omega, hle⟩] at hst
            have Hst := hide hst
            clear hst
            have q1 : decide (z0 ≤ t0) = true := decide_eq_true hle
            go_wp2_with (go_at_call 15; refine (within_anyR _ _ _ _).mono ?_; rintro e w' ⟨rfl, rfl⟩)
            refine at_world fun W hW => ?_
            have br : Blk W wr.heap.size 52 #[.int .i64 z0, .int .i64 z1, .int .i64 z2] := by rw [hW]; exact Blk.new _ _ _
            have LW : Later wr W := by rw [hW]; exact (Below.refl _ _).alloc (Nat.le_refl _) _
            clear hW c0 c1 c2
            refine (inside_anyR _ _ _ _).mono ?_
            rintro e w1 ⟨rfl, hb1⟩
            have B1 := onward (onward Hbw.out LW) hb1
            have bo := blk_later (blk_later Hbl.out LW) hb1
            have br1 := blk_later br hb1
            have p0 := Hp0.out
            rw [← B1.cell hb] at p0
            have HB1 := hide B1
            obtain ⟨y0, y1, y2⟩ := br1.c3
            obtain ⟨u0, u1⟩ := bo.c2
            have f0 := bo.frozen 0
            have f1 := bo.frozen 1
            have lr := br1.lt
            have lo := bo.lt
            clear hb1 LW br bo br1 B1 Hbw Hbl
            go_wp2_with fail
            go_quiet (fail)
            go_wp2
            have hr := HR.out
            rw [if_pos (by rw [Hst.out]; decide), Hst.out] at hr
            refine bodyPost_ret (v := spanER r) (by rw [hr]; simp [spanER, results, Try.results13, go_sem, u0, u1, f0, f1, lo]) rfl ⟨rfl, ?_⟩
            repeat (first | exact HB1.out | (refine Below.setCell ?_ (by first | omega | (simp; done) | (simp; omega)) _) | (refine Below.alloc ?_ (by first | omega | (simp; done) | (simp; omega)) _) | (refine below_drewN ?_ _))
          · rw [if_neg (by omega)] at hst
            have Hst := hide hst
            clear hst
            have q1 : decide (z0 ≤ t0) = false := decide_eq_false hle
            go_wp2_with (go_at_call 15; refine (within_anyR _ _ _ _).mono ?_; rintro e w' ⟨rfl, rfl⟩)
            refine at_world fun W hW => ?_
            have br : Blk W wr.heap.size 52 #[.int .i64 z0, .int .i64 z1, .int .i64 z2] := by rw [hW]; exact Blk.new _ _ _
            have LW : Later wr W := by rw [hW]; exact (Below.refl _ _).alloc (Nat.le_refl _) _
            clear hW c0 c1 c2
            refine (inside_anyR _ _ _ _).mono ?_
            rintro e w1 ⟨rfl, hb1⟩
            have B1 := onward (onward Hbw.out LW) hb1
            have bo := blk_later (blk_later Hbl.out LW) hb1
            have br1 := blk_later br hb1
            have p0 := Hp0.out
            rw [← B1.cell hb] at p0
            have HB1 := hide B1
            have Hbo := hide bo
            obtain ⟨y0, y1, y2⟩ := br1.c3
            have lr := br1.lt
            clear hb1 LW br bo br1 B1 Hbw Hbl
            go_wp2_with fail
            go_quiet (fail)
            go_wp2
            go_roundw
            case rel => exact ⟨j + 1 + 1, by omega, by go_num, below_drewN HB1.out _, Hbo.out, Hst.out.symm⟩
            case measure => simp [intOf]; omega
      · have hg' : okR z k = false := by simpa using hg
        rw [if_pos hg'] at hst
        have hno' := hno hg'
        have Hst := hide hst
        clear hst hno hok hg hg'
        generalize z (k * 3) = z0 at *
        generalize z (k * 3 + 1) = z1 at *
        generalize z (k * 3 + 2) = z2 at *
        have hr := HR.out
        rw [if_pos (by rw [Hst.out]; decide), Hst.out] at hr
        have HR2 := hide hr
        clear hr
        obtain ⟨u0, u1⟩ := Hbl.out.c2
        have f0 := Hbl.out.frozen 0
        have f1 := Hbl.out.frozen 1
        have lo := Hbl.out.lt
        rcases hno' with hw1 | ⟨hw1, hw2⟩
        · go_wp2_with (go_at_call 15; refine (within_anyR _ _ _ _).mono ?_; rintro e w' ⟨rfl, rfl⟩)
          refine bodyPost_ret (v := spanER r) (by rw [HR2.out]; simp [spanER, results, Try.results13, go_sem, u0, u1, f0, f1, lo]) rfl ⟨rfl, ?_⟩
          repeat (first | exact Hbw.out | (refine Below.setCell ?_ (by first | omega | (simp; done) | (simp; omega)) _) | (refine Below.alloc ?_ (by first | omega | (simp; done) | (simp; omega)) _) | (refine below_drewN ?_ _))
        · go_wp2_with (go_at_call 15; refine (within_anyR _ _ _ _).mono ?_; rintro e w' ⟨rfl, rfl⟩)
          refine at_world fun W hW => ?_
          have LW : Later wr W := by rw [hW]; exact (Below.refl _ _).alloc (Nat.le_refl _) _
          clear hW c0 c1 c2
          refine (inside_anyR _ _ _ _).mono ?_
          rintro e w1 ⟨rfl, hb1⟩
          have B1 := onward (onward Hbw.out LW) hb1
          have bo := blk_later (blk_later Hbl.out LW) hb1
          have HB1 := hide B1
          clear u0 u1 f0 f1 lo
          obtain ⟨u0, u1⟩ := bo.c2
          have f0 := bo.frozen 0
          have f1 := bo.frozen 1
          have lo := bo.lt
          clear hb1 LW bo B1 Hbw Hbl
          go_wp2
          refine bodyPost_ret (v := spanER r) (by rw [HR2.out]; simp [spanER, results, Try.results13, go_sem, u0, u1, f0, f1, lo]) rfl ⟨rfl, ?_⟩
          repeat (first | exact HB1.out | (refine Below.setCell ?_ (by first | omega | (simp; done) | (simp; omega)) _) | (refine Below.alloc ?_ (by first | omega | (simp; done) | (simp; omega)) _) | (refine below_drewN ?_ _))
    · obtain rfl : k = n := by omega
      have hs0 : scanE z 0 k = 0 := by rw [← Hg.out, Nat.sub_self]; rfl
      have hgd := good3_of hs0
      obtain ⟨m, rfl⟩ : ∃ m, k = m + 1 := ⟨k - 1, by omega⟩
      have hr := HR.out
      rw [if_neg (by rw [hs0]; simp), Nat.add_sub_cancel] at hr
      have HR2 := hide hr
      have Hgd := hide hgd
      obtain ⟨c0, c1, c2⟩ := Hc.out m (by omega)
      rw [← Hbw.out.cell hb] at c0 c1 c2
      have hlast := fun (he : z (m * 3) ≤ ed) => last_bd hgd (by omega) (e := ed) (by rw [Nat.add_sub_cancel]; exact he)
      have hway := fun (he : z (m * 3) ≤ ed) (he2 : ed ≤ 4294967296) (k : Nat) (hk : k < m + 1) => way_bd hgd (k := k) (by omega) (e := ed) (by rw [Nat.add_sub_cancel]; exact he) he2 hk
      have hokm := okR_iff.1 (hgd.ok m (by omega))
      rw [Nat.add_sub_cancel] at hlast hway
      have Hway := hide hway
      have Hlast := hide hlast
      have Hokm := hide hokm
      clear hr hs0 hgd HR Hg hlt hlast hway hokm
      obtain ⟨u0, u1⟩ := Hbl.out.c2
      have f0 := Hbl.out.frozen 0
      have f1 := Hbl.out.frozen 1
      have lo := Hbl.out.lt
      generalize hT : z (m * 3) = T at *
      generalize hLo : z (m * 3 + 1) = Lo at *
      generalize hHi : z (m * 3 + 2) = Hi at *
      have HT := hide hT
      have HLo := hide hLo
      have HHi := hide hHi
      clear hT hLo hHi
      by_cases hw1 : win ed 0 4294967296 = true
      · by_cases hw2 : win sl 0 1000 = true
        · have hr := HR2.out
          rw [if_neg (by simp [hw1, hw2])] at hr
          by_cases hle : T ≤ ed
          · rw [if_neg (by omega)] at hr
            have HR3 := hide hr
            have b1 := win_iff.1 hw1
            have b2 := win_iff.1 hw2
            obtain ⟨e1, e2⟩ := b1
            obtain ⟨e3, e4⟩ := b2
            obtain ⟨l1, l2, l3⟩ := Hlast.out hle
            have hway := Hway.out hle e2
            have hokm := Hokm.out
            obtain ⟨⟨o1, o2⟩, o3, o4, o5⟩ := hokm
            have l4 : (ed - T) * 1000000 ≤ 4294967296000000 := by omega
            have l5 : (ed - T) * Hi ≤ 4294967296000000 := by omega
            have l6 : 0 ≤ (ed - T) * Hi := by omega
            have l7 : (ed - T) * Lo ≤ 4294967296000000 := by omega
            have Hw := hide hway
            have q1 : decide (ed < T) = false := decide_eq_false (by omega)
            clear hr HR2 hway Hway Hlast Hokm l3 l4
            have hcc : (c = 1 ∧ m = 0) ∨ (1 : Int) < c := by omega
            rcases hcc with hcc | hcc
            · obtain ⟨rfl, rfl⟩ := hcc
              simp only [Nat.zero_mul, Nat.add_zero] at c0 c1 c2
              go_wp2_with (go_at_call 15; refine (within_anyR _ _ _ _).mono ?_; rintro e w' ⟨rfl, rfl⟩)
              go_quiet (fail)
              go_wp2
              go_loopw [11, 12, 97] (fun L H i wr' => ∃ k : Nat, k ≤ 0 ∧ i = .int .i64 k ∧ L = .int .i64 ((ed - T) * Lo + psL z k) ∧ H = .int .i64 ((ed - T) * Hi + psH z k) ∧ Below w.heap.size w wr' ∧ Blk wr' w.heap.size 35 #[.int .i64 0, .int .i64 0])
                (fun _ _ i _ => 0 - (intOf i).toNat)
              case atStart => exact ⟨0, by omega, rfl, by simp [psL], by simp [psH], below_drewN (Hbw.out.alloc hsz _) _, Hbl.out.alloc _⟩
              case round =>
                obtain ⟨k, hk, rfl, rfl, rfl, hbw', hbl'⟩ := hrel
                have Hbw' := hide hbw'
                have Hbl' := hide hbl'
                have hsz' := hbw'.size
                clear hbw' hbl' u0 u1 f0 f1 c0 c1 c2 Hbw Hbl
                have hwk := Hw.out k (by omega)
                obtain ⟨w1, w2, w3⟩ := hwk
                obtain rfl : k = 0 := by omega
                have eL : totL z (0 + 1) ed = (ed - T) * Lo + psL z 0 := by unfold totL; rw [Nat.add_sub_cancel, HT.out, HLo.out]; omega
                have eH : totH z (0 + 1) ed = (ed - T) * Hi + psH z 0 := by unfold totH; rw [Nat.add_sub_cancel, HT.out, HHi.out]; omega
                have hr := HR3.out
                rw [eL, eH] at hr
                have HR4 := hide hr
                clear eL eH hr HR3
                generalize (ed - T) * Lo + psL z 0 = L0 at *
                generalize (ed - T) * Hi + psH z 0 = H0 at *
                have p1 := Int.mul_nonneg w1 (by omega : 0 ≤ 1000 - sl)
                have p2 := Int.mul_le_mul (by omega : L0 ≤ 4294967296000000) (by omega : 1000 - sl ≤ 1000) (by omega) (by omega)
                have p3 := Int.mul_nonneg (by omega : 0 ≤ H0) (by omega : 0 ≤ 1000 + sl)
                have p4 := Int.mul_le_mul w3 (by omega : 1000 + sl ≤ 2000) (by omega) (by omega)
                have p5 : L0 * (1000 - sl) ≤ 4294967296000000000 := by omega
                have p6 : H0 * (1000 + sl) ≤ 8589934592000000000 := by omega
                clear p2 p4 Hc Hgd Hw HT HLo HHi l1 l2 l5 l6 l7
                obtain ⟨u0, u1⟩ := Hbl'.out.c2
                have f0 := Hbl'.out.frozen 0
                have f1 := Hbl'.out.frozen 1
                have lo2 := Hbl'.out.lt
                go_wp2_with (first | (go_at_call 30; refine (down_big _ _ _ (by omega) (by omega) (by omega) (by omega)).mono ?_; rintro e w' ⟨rfl, rfl⟩) | (go_at_call 31; refine (up_big _ _ _ (by omega) (by omega) (by omega)).mono ?_; rintro e w' ⟨rfl, rfl⟩))
                refine bodyPost_ret (v := spanER r) (by rw [HR4.out]; simp [spanER, results, Try.results13, go_sem, u0, u1, f0, f1, lo2]) rfl ⟨rfl, ?_⟩
                repeat (first | exact Hbw'.out | (refine Below.setCell ?_ (by first | omega | (simp; done) | (simp; omega)) _) | (refine Below.alloc ?_ (by first | omega | (simp; done) | (simp; omega)) _) | (refine below_drewN ?_ _))
            · go_wp2_with (go_at_call 15; refine (within_anyR _ _ _ _).mono ?_; rintro e w' ⟨rfl, rfl⟩)
              go_quiet (fail)
              go_wp2
              go_loopw [11, 12, 97] (fun L H i wr' => ∃ k : Nat, k ≤ m ∧ i = .int .i64 k ∧ L = .int .i64 ((ed - T) * Lo + psL z k) ∧ H = .int .i64 ((ed - T) * Hi + psH z k) ∧ Below w.heap.size w wr' ∧ Blk wr' w.heap.size 35 #[.int .i64 0, .int .i64 0])
                (fun _ _ i _ => m - (intOf i).toNat)
              case atStart => exact ⟨0, by omega, rfl, by simp [psL], by simp [psH], below_drewN (Hbw.out.alloc hsz _) _, Hbl.out.alloc _⟩
              case round =>
                obtain ⟨k, hk, rfl, rfl, rfl, hbw', hbl'⟩ := hrel
                have Hbw' := hide hbw'
                have Hbl' := hide hbl'
                have hsz' := hbw'.size
                clear hbw' hbl' u0 u1 f0 f1 c0 c1 c2 Hbw Hbl
                have hwk := Hw.out k (by omega)
                obtain ⟨w1, w2, w3⟩ := hwk
                have hbr : b < wr.heap.size := by omega
                have hwr0 : w.heap.size < wr.heap.size := Hbl'.out.lt
                by_cases hlt : k < m
                · have hpb := piece_bd Hgd.out (k := k) (by omega)
                  have hw' := Hw.out (k + 1) (by omega)
                  have eL : (ed - T) * Lo + psL z (k + 1) = (ed - T) * Lo + psL z k + (z ((k + 1) * 3) - z (k * 3)) * min (z (k * 3 + 1)) (z ((k + 1) * 3 + 1)) := by rw [psL]; omega
                  have eH : (ed - T) * Hi + psH z (k + 1) = (ed - T) * Hi + psH z k + (z ((k + 1) * 3) - z (k * 3)) * max (z (k * 3 + 2)) (z ((k + 1) * 3 + 2)) := by rw [psH]; omega
                  rw [eL, eH] at hw'
                  obtain ⟨a0, a1, a2⟩ := Hc.out k (by omega)
                  obtain ⟨d0, d1, d2⟩ := Hc.out (k + 1) (by omega)
                  have oka := okR_iff.1 (Hgd.out.ok k (by omega))
                  have okb := okR_iff.1 (Hgd.out.ok (k + 1) (by omega))
                  have hup := Hgd.out.up k (by omega)
                  rw [← Hbw'.out.cell hb] at a0 a1 a2 d0 d1 d2
                  rw [show off + (k + 1) * 3 = off + 3 + k * 3 by omega] at d0 d1 d2
                  generalize hL0 : (ed - T) * Lo + psL z k = L0 at *
                  generalize hH0 : (ed - T) * Hi + psH z k = H0 at *
                  generalize z (k * 3) = ta at *
                  generalize z (k * 3 + 1) = la at *
                  generalize z (k * 3 + 2) = ha at *
                  generalize z ((k + 1) * 3) = tb at *
                  generalize z ((k + 1) * 3 + 1) = lb at *
                  generalize z ((k + 1) * 3 + 2) = hb' at *
                  have EL := hide eL
                  have EH := hide eH
                  rw [min_if, max_if] at hpb hw'
                  clear eL eH hL0 hH0
                  obtain ⟨mn, emn⟩ : ∃ mn, (if lb < la then lb else la) = mn := ⟨_, rfl⟩
                  obtain ⟨mx, emx⟩ : ∃ mx, (if ha < hb' then hb' else ha) = mx := ⟨_, rfl⟩
                  rw [emn, emx] at hpb hw'
                  have EMN := hide ((min_if la lb).trans emn)
                  have EMX := hide ((max_if ha hb').trans emx)
                  obtain ⟨⟨oka1, oka2⟩, oka3, oka4, oka5⟩ := oka
                  obtain ⟨⟨okb1, okb2⟩, okb3, okb4, okb5⟩ := okb
                  obtain ⟨p1, p2, p3⟩ := hpb
                  obtain ⟨p4, p5, p6⟩ := hw'
                  have p7 : (tb - ta) * 1000000 ≤ 4294967296000000 := by omega
                  have p8 : (tb - ta) * mn ≤ 4294967296000000 := by omega
                  have p9 : (tb - ta) * mx ≤ 4294967296000000 := by omega
                  have p10 : 0 ≤ (tb - ta) * mx := by omega
                  have p11 : L0 + (tb - ta) * mn ≤ 4294967296000000 := by omega
                  have p12 : 0 ≤ H0 + (tb - ta) * mx := by omega
                  clear p2 p3 p5 p7 oka5 okb5 oka4 okb4 w2 l2 l5 l6 l7 l1 HR3 Hc Hgd Hw HT HLo HHi hn0 hn1 q1 h0
                  go_wp2
                  go_quiet (fail)
                  go_wp2
                  go_roundw
                  case rel => exact ⟨k + 1, by omega, by go_num, by rw [EL.out, EMN.out], by rw [EH.out, EMX.out], below_drewN ((Hbw'.out.alloc hsz' _).alloc (by simp; omega) _) _, (Hbl'.out.alloc _).alloc _⟩
                  case measure => simp [intOf]; omega
                · obtain rfl : k = m := by omega
                  have eL : totL z (k + 1) ed = (ed - T) * Lo + psL z k := by unfold totL; rw [Nat.add_sub_cancel, HT.out, HLo.out]; omega
                  have eH : totH z (k + 1) ed = (ed - T) * Hi + psH z k := by unfold totH; rw [Nat.add_sub_cancel, HT.out, HHi.out]; omega
                  have hr := HR3.out
                  rw [eL, eH] at hr
                  have HR4 := hide hr
                  clear eL eH hr HR3
                  generalize (ed - T) * Lo + psL z k = L0 at *
                  generalize (ed - T) * Hi + psH z k = H0 at *
                  have p1 := Int.mul_nonneg w1 (by omega : 0 ≤ 1000 - sl)
                  have p2 := Int.mul_le_mul (by omega : L0 ≤ 4294967296000000) (by omega : 1000 - sl ≤ 1000) (by omega) (by omega)
                  have p3 := Int.mul_nonneg (by omega : 0 ≤ H0) (by omega : 0 ≤ 1000 + sl)
                  have p4 := Int.mul_le_mul w3 (by omega : 1000 + sl ≤ 2000) (by omega) (by omega)
                  have p5 : L0 * (1000 - sl) ≤ 4294967296000000000 := by omega
                  have p6 : H0 * (1000 + sl) ≤ 8589934592000000000 := by omega
                  clear p2 p4 Hc Hgd Hw HT HLo HHi l1 l2 l5 l6 l7
                  obtain ⟨u0, u1⟩ := Hbl'.out.c2
                  have f0 := Hbl'.out.frozen 0
                  have f1 := Hbl'.out.frozen 1
                  have lo2 := Hbl'.out.lt
                  go_wp2_with (first | (go_at_call 30; refine (down_big _ _ _ (by omega) (by omega) (by omega) (by omega)).mono ?_; rintro e w' ⟨rfl, rfl⟩) | (go_at_call 31; refine (up_big _ _ _ (by omega) (by omega) (by omega)).mono ?_; rintro e w' ⟨rfl, rfl⟩))
                  refine bodyPost_ret (v := spanER r) (by rw [HR4.out]; simp [spanER, results, Try.results13, go_sem, u0, u1, f0, f1, lo2]) rfl ⟨rfl, ?_⟩
                  repeat (first | exact Hbw'.out | (refine Below.setCell ?_ (by first | omega | (simp; done) | (simp; omega)) _) | (refine Below.alloc ?_ (by first | omega | (simp; done) | (simp; omega)) _) | (refine below_drewN ?_ _))
          · rw [if_pos (by omega)] at hr
            have HR3 := hide hr
            have q1 : decide (ed < T) = true := decide_eq_true (by omega)
            clear hr HR2
            go_wp2_with (go_at_call 15; refine (within_anyR _ _ _ _).mono ?_; rintro e w' ⟨rfl, rfl⟩)
            refine bodyPost_ret (v := spanER r) (by rw [HR3.out]; simp [spanER, results, Try.results13, go_sem, u0, u1, f0, f1, lo]) rfl ⟨rfl, ?_⟩
            repeat (first | exact Hbw.out | (refine Below.setCell ?_ (by first | omega | (simp; done) | (simp; omega)) _) | (refine Below.alloc ?_ (by first | omega | (simp; done) | (simp; omega)) _) | (refine below_drewN ?_ _))
        · have hw3 : win sl 0 1000 = false := by simpa using hw2
          have hr := HR2.out
          rw [if_pos (by simp [hw3])] at hr
          have HR3 := hide hr
          clear hr HR2 hw2
          go_wp2_with (go_at_call 15; refine (within_anyR _ _ _ _).mono ?_; rintro e w' ⟨rfl, rfl⟩)
          refine bodyPost_ret (v := spanER r) (by rw [HR3.out]; simp [spanER, results, Try.results13, go_sem, u0, u1, f0, f1, lo]) rfl ⟨rfl, ?_⟩
          repeat (first | exact Hbw.out | (refine Below.setCell ?_ (by first | omega | (simp; done) | (simp; omega)) _) | (refine Below.alloc ?_ (by first | omega | (simp; done) | (simp; omega)) _) | (refine below_drewN ?_ _))
      · have hw3 : win ed 0 4294967296 = false := by simpa using hw1
        have hr := HR2.out
        rw [if_pos (by simp [hw3])] at hr
        have HR3 := hide hr
        clear hr HR2 hw1
        go_wp2_with (go_at_call 15; refine (within_anyR _ _ _ _).mono ?_; rintro e w' ⟨rfl, rfl⟩)
        refine bodyPost_ret (v := spanER r) (by rw [HR3.out]; simp [spanER, results, Try.results13, go_sem, u0, u1, f0, f1, lo]) rfl ⟨rfl, ?_⟩
        repeat (first | exact Hbw.out | (refine Below.setCell ?_ (by first | omega | (simp; done) | (simp; omega)) _) | (refine Below.alloc ?_ (by first | omega | (simp; done) | (simp; omega)) _) | (refine below_drewN ?_ _))
end Go.Proofs.Ytjkelpelmljanaa
namespace Go.Proofs.Ytjkelpelmljanaa
open Go Go.RowKit
section
variable {P : Program} {md : Region.Mode} {ops : Array Oper} {S : Nat → Prop} {E : Nat → Bool} {w0 : World}
theorem anyR_firstE {Q : Act → World → Prop} {i : Nat} {oi : Oper} {v : Value} (hi : ops[i]? = some oi) (hsel : ∀ (j : Nat) (o : Oper) cs b, ops[j]? = some o → o.op ≠ .select cs b) (hS : ∀ k, S k → k < w0.heap.size)
    (hlate : ∀ j, j < ops.size → E j = true ∨ waitsFor md ops j i = true) :
    ∀ (fuel : Nat) (listed : Array Bool) (a : Act) (w : World), Closed md ops listed →
      (∀ j oj, ops[j]? = some oj → j ≠ i → listed.getD j true = false → (∀ e ∈ oj.after, Region.binds md e = true → e.on ≠ i) → oi.apart ops oj = true) →
      i ∈ Region.ready md ops listed → Kept S w0 w → QuietAt P ops S w0 oi v a →
      anyR P md ops S E Q fuel (listed.setIfInBounds i true) (a.put oi.dst v) w → anyR P md ops S E Q (fuel + 1) listed a w := by
  intro fuel
  induction fuel with
  | zero =>
    intro listed a w _ _ hr hw hy H
    refine ⟨fun h => (by rw [h] at hr; cases hr), fun j hj w1 h1 => ?_⟩
    have hw1 : Kept S w0 w1 := kept_later hS hw h1
    by_cases hji : j = i
    · subst hji; exact opR_quiet hi hS hw1 hy fun w2 h2 => anyR_up H (h1.trans h2)
    · have := ready_mono hj hji
      rw [H.1] at this
      cases this
  | succ fuel ih =>
    intro listed a w hcl hfree hr hw hy H
    refine ⟨fun h => (by rw [h] at hr; cases hr), fun j hj w1 h1 => ?_⟩
    have hw1 : Kept S w0 w1 := kept_later hS hw h1
    by_cases hji : j = i
    · subst hji; exact opR_quiet hi hS hw1 hy fun w2 h2 => anyR_up H (h1.trans h2)
    · have hst := H.2 j (ready_mono hj hji) w1 h1
      obtain ⟨hjun, oj, hoj, hall⟩ := mem_ready.1 hj
      have hnot : ∀ e ∈ oj.after, Region.binds md e = true → e.on ≠ i := fun e he hb heq => by
        have h1 := hall e he hb
        have h0 := (mem_ready.1 hr).1
        rw [heq] at h1
        rcases Nat.lt_or_ge i listed.size with h' | h'
        · simp [h'] at h0 h1; rw [h0] at h1; cases h1
        · simp [Array.getElem?_eq_none h'] at h1
      have hEj : E j = true := by
        rcases hlate j (Array.getElem?_eq_some_iff.1 hoj).1 with h | h
        · exact h
        · obtain ⟨o, ho, e, he, hb, hon⟩ := waits_spec h
          have : o = oj := Option.some.inj (ho.symm.trans hoj)
          subst this
          exact absurd hon (hnot e he hb)
      have h2 := opR_put hoj (hfree j oj hoj hji hjun hnot) (fun cs b => hsel i oi cs b hi) (fun cs b => hsel j oj cs b hoj) hy hst
      have hfree' : ∀ k ok, ops[k]? = some ok → k ≠ i → (listed.setIfInBounds j true).getD k true = false →
          (∀ e ∈ ok.after, Region.binds md e = true → e.on ≠ i) → oi.apart ops ok = true := fun k ok hk hki hun hno => by
        refine hfree k ok hk hki ?_ hno
        by_cases hjk : j = k
        · subst hjk; exact hjun
        · rw [getD_set_ne true hjk] at hun; exact hun
      refine opR_mono (fun a' w' hb h3 => ih (listed.setIfInBounds j true) a' w' (hcl.set hj) hfree' (ready_mono hr (Ne.symm hji)) (hw1.trans (hb hEj)) h3.1 ?_) h2
      rw [Array.setIfInBounds_comm _ _ hji]
      exact h3.2

def peelE (md : Region.Mode) (ops : Array Oper) (E : Nat → Bool) : List Bool → Nat → Array Bool → Array Bool → Bool
  | [], _, listed, after => listed == after
  | true :: m, k, listed, after => ((List.range ops.size).all fun j => E j || waitsFor md ops j k) && (Region.ready md ops listed).contains k && Region.free md ops listed k && peelE md ops E m (k + 1) (listed.setIfInBounds k true) after
  | false :: m, k, listed, after => peelE md ops E m (k + 1) listed after
theorem anyR_peel_goE {Q : Act → World → Prop} (hs : Region.noSelect ops = true) (hS : ∀ k, S k → k < w0.heap.size)
    {af : Act} {fuel : Nat} {after : Array Bool} {w : World} (hw : Kept S w0 w) :
    ∀ (m : List Bool) (l : List Oper) (k : Nat) (listed : Array Bool) (a : Act), Closed md ops listed → (∀ j, l[j]? = ops[k + j]?) → peelE md ops E m k listed after = true → dstB (takeOps m l) = true →
      (∀ D, Good S w0 D → wpQuiet P ops (cls D) (fun a' => a' = af) (takeOps m l) a) → anyR P md ops S E Q fuel after af w → anyR P md ops S E Q ((takeOps m l).length + fuel) listed a w
  | [], l, k, listed, a, _, _, hp, _, hq, h => by
    have hl : listed = after := by simpa [peelE] using hp
    have ha : a = af := by
      have := hq (Kept S w0) ⟨fun _ h => h, fun _ _ h h' => kept_later hS h h', w0, Kept.refl _ _⟩
      simpa [takeOps, wpQuiet] using this
    subst hl
    subst ha
    simpa [takeOps] using h
  | false :: m, [], k, listed, a, hcl, hl, hp, hd, hq, h => by
    have e2 : takeOps m [] = [] := by cases m with | nil => rfl | cons b m => cases b <;> rfl
    have r := anyR_peel_goE hs hS hw m [] (k + 1) listed a hcl (fun j => by have := hl (j + 1); simpa [Nat.add_assoc, Nat.add_comm 1 j] using this) (by simpa [peelE] using hp) (by rw [e2]; rfl) (fun D hD => by rw [e2]; exact hq D hD) h
    rw [e2] at r
    exact r
  | false :: m, o :: l, k, listed, a, hcl, hl, hp, hd, hq, h =>
    anyR_peel_goE hs hS hw m l (k + 1) listed a hcl (fun j => by have := hl (j + 1); simpa [Nat.add_assoc, Nat.add_comm 1 j] using this) (by simpa [peelE] using hp) hd hq h
  | true :: m, [], k, listed, a, _, hl, hp, _, _, _ => by
    simp only [peelE, Bool.and_eq_true] at hp
    have hr : k ∈ Region.ready md ops listed := by simpa using hp.1.1.2
    obtain ⟨_, o, ho, _⟩ := mem_ready.1 hr
    have := hl 0
    simp [ho] at this
  | true :: m, o :: l, k, listed, a, hcl, hl, hp, hd, hq, h => by
    have h0 : ops[k]? = some o := by simpa using (hl 0).symm
    simp only [peelE, Bool.and_eq_true, List.all_eq_true, List.mem_range, Bool.or_eq_true] at hp
    obtain ⟨⟨⟨hkn, hr⟩, hf⟩, hp'⟩ := hp
    have hr' : k ∈ Region.ready md ops listed := by simpa using hr
    simp only [takeOps, dstB, Bool.and_eq_true, List.all_eq_true] at hd
    have step : ∀ D, Good S w0 D → ∃ v, YieldsIn P ops D o v a ∧ wpQuiet P ops (cls D) (fun a' => a' = af) (takeOps m l) (a.put o.dst v) := fun D hD => by
      have := hq D hD
      have hk : qOp P ops (cls D) k (wpQuiet P ops (cls D) (fun a' => a' = af) (takeOps m l)) a := by unfold qOp; simp only [h0]; exact this
      obtain ⟨v, hy, hn⟩ := yieldsIn_of_qOp h0 hk
      rw [cls_eq] at hy
      exact ⟨v, hy, hn⟩
    obtain ⟨v, _, hn0⟩ := step (Kept S w0) ⟨fun _ h => h, fun _ _ h h' => kept_later hS h h', w0, Kept.refl _ _⟩
    have same : ∀ D, Good S w0 D → ∀ u, wpQuiet P ops (cls D) (fun a' => a' = af) (takeOps m l) (a.put o.dst u) → a.put o.dst u = a.put o.dst v := fun D _ u hu => by
      cases ho : o.dst with
      | none => rfl
      | some d =>
        rw [ho] at hu hn0
        have hne : ∀ o' ∈ takeOps m l, o'.dst ≠ some d := fun o' ho' => by
          have := hd.1 o' ho'
          simpa [ho] using this
        exact put_slot ((final_slot _ _ hne hu).symm.trans (final_slot _ _ hne hn0))
    have hqa : QuietAt P ops S w0 o v a := fun D hD => by
      obtain ⟨u, hy, hn⟩ := step D hD
      exact ⟨u, hy, same D hD u hn⟩
    have rest := anyR_peel_goE hs hS hw m l (k + 1) (listed.setIfInBounds k true) (a.put o.dst v) (hcl.set hr') (fun j => by have := hl (j + 1); simpa [Nat.add_assoc, Nat.add_comm 1 j] using this) hp' hd.2 (fun D hD => by
      obtain ⟨u, _, hn⟩ := step D hD
      rw [← same D hD u hn]; exact hn) h
    have e : (takeOps (true :: m) (o :: l)).length + fuel = (takeOps m l).length + fuel + 1 := by simp [takeOps]; omega
    rw [e]
    exact anyR_firstE h0 (Region.noSelect_spec hs) hS hkn _ listed a w hcl (Region.free_spec h0 hf) hr' hw hqa rest

theorem anyR_peelE {Q : Act → World → Prop} {lops : List Oper} {listed a af w fuel len} (m : List Bool) (after : Array Bool)
    (hb : (Region.noSelect lops.toArray && closedB md lops.toArray listed && peelE md lops.toArray E m 0 listed after && dstB (takeOps m lops)) = true) (hn : len = (takeOps m lops).length + fuel)
    (hS : ∀ k, S k → k < w.heap.size)
    (hq : ∀ D, Good S w D → wpQuiet P lops.toArray (fun w' => ∃ x : Of D, w' = x.val) (fun a' => a' = af) (takeOps m lops) a) (h : anyR P md lops.toArray S E Q fuel after af w) : anyR P md lops.toArray S E Q len listed a w := by
  simp only [Bool.and_eq_true] at hb
  obtain ⟨⟨⟨hs, hc⟩, hp⟩, hd⟩ := hb
  rw [hn]
  exact anyR_peel_goE hs hS (Kept.refl _ _) m lops 0 listed a (closed_of hc) (by simp) hp hd hq h

theorem wp_region_E {id : Nat} {Q : Exit → Act → World → Prop} {a : Act} {w : World} {lops : List Oper} (S : Nat → Prop) (E : Nat → Bool) (hm : P.follows .mixedOrders = true)
    (h : anyR P .any lops.toArray S E (fun a w => Q .normal a w) lops.length (Array.replicate lops.length false) a w) : (Code.region id lops.toArray true).wp P Q a w :=
  wp_region_any hm (wpAny_of_anyR _ _ _ _ (by
    have := anyR_up h (w' := w.drew) ⟨rfl, rfl, rfl, Nat.le_refl _, fun _ _ => rfl⟩
    simpa using this))

theorem opR_set1 {i : Nat} {t t' : TypeId} {p x : Tmp} {g off : Nat} {old : Array Value} {z : Int} (hs : isStore ops[i]? t p x = true) {K : Act → World → Prop} {a : Act} {w : World}
    (hp : a.tmps.getD p undef = .pointer (some ⟨g, off, none⟩)) (hx : a.tmps.getD x undef = .int .i64 z) (hg : Blk w g t' old) (hi : (P.info? t).map (·.size) = some 1) (ho : off < old.size) (hE : E i = true → ¬ S g)
    (h : K a (w.setCell ⟨g, off, none⟩ (.int .i64 z))) : opR P ops S E i K a w := by
  unfold isStore at hs
  split at hs
  · rename_i t1 p1 x1 ty pos aft heq
    simp only [Bool.and_eq_true, beq_iff_eq] at hs
    obtain ⟨⟨rfl, rfl⟩, rfl⟩ := hs
    refine opR_of heq rfl ?_
    rw [exec_store_cell (P := P) (o := ⟨none, .store t1 (.tmp p1) (.tmp x1), ty, pos, aft, none⟩) rfl (e := a.eval) (w := w) hp hx hg hi ho]
    exact ⟨fun he => kept_setCell (hE he), h⟩
  · cases hs
theorem opR_value {i : Nat} {o : Oper} (h : ops[i]? = some o) (hg : o.guard = none) {q : Tmp} (hd : o.dst = some q) {v : Value} {K : Act → World → Prop} {a : Act} {w : World} (hrun : (execOp a.eval o).run P w = .ok (.value v) w) (hK : K (a.put (some q) v) w) : opR P ops S E i K a w := by
  refine opR_of h hg ?_
  rw [hrun]
  unfold uponR
  rw [hd]
  exact ⟨fun _ => Kept.refl _ _, hK⟩

/-- Two numbers are stored into a block that is known whole, the second one's address reckoned ahead of or behind the first store. -/
theorem anyR_sets2 {Q : Act → World → Prop} {listed : Array Bool} {a : Act} {w : World} (i m k : Nat) (t t' : TypeId) (p x p' x' : Tmp) (g off off' : Nat) (old new : Array Value) (z z' : Int)
    (hr : Region.ready md ops listed = [i, m]) (hr1 : Region.ready md ops (listed.setIfInBounds i true) = [m]) (hr2 : Region.ready md ops (listed.setIfInBounds m true) = [i]) (hr3 : Region.ready md ops ((listed.setIfInBounds i true).setIfInBounds m true) = [k])
    (hr4 : Region.ready md ops (((listed.setIfInBounds i true).setIfInBounds m true).setIfInBounds k true) = []) (him : i ≠ m) (hs : isStore ops[i]? t p x = true) (hs' : isStore ops[k]? t p' x' = true)
    {om : Oper} (hom : ops[m]? = some om) (hgm : om.guard = none) (hdm : om.dst = some p') (hrun : ∀ w, (execOp a.eval om).run P w = .ok (.value (.pointer (some ⟨g, off', none⟩))) w)
    (hp : a.tmps.getD p undef = .pointer (some ⟨g, off, none⟩)) (hx : a.tmps.getD x undef = .int .i64 z) (hx' : a.tmps.getD x' undef = .int .i64 z') (hpp : p' ≠ p) (hpx : p' ≠ x) (hpx' : p' ≠ x') (hsz : p' < a.tmps.size)
    (hg : Blk w g t' old) (hi : (P.info? t).map (·.size) = some 1) (ho : off < old.size) (ho' : off' < old.size) (hnew : (old.setIfInBounds off (.int .i64 z)).setIfInBounds off' (.int .i64 z') = new) (hE : E i = true → ¬ S g) (hE' : E k = true → ¬ S g)
    (h : ∀ w', w.grownBy w' (some g) → Blk w' g t' new → Q (a.put (some p') (.pointer (some ⟨g, off', none⟩))) w') : anyR P md ops S E Q 3 listed a w := by
  subst hnew
  have last : ∀ w2, w.grownBy w2 (some g) → Blk w2 g t' (old.setIfInBounds off (.int .i64 z)) → anyR P md ops S E Q 1 ((listed.setIfInBounds i true).setIfInBounds m true) (a.put (some p') (.pointer (some ⟨g, off', none⟩))) w2 := fun w2 g2 b2 => by
    refine anyR_one k _ hr3 (beq_self_eq_true _) fun w3 l3 => ?_
    refine opR_set1 hs' (getD_put hsz) (by rw [getD_put_ne hpx']; exact hx') (blk_later b2 l3) hi (by simpa using ho') hE' ?_
    refine anyR_done hr4 fun w4 l4 => ?_
    have g3 : w.grownBy (w3.setCell ⟨g, off', none⟩ (.int .i64 z')) (some g) := by
      have e := grown_setCell w3 g off' (.int .i64 z')
      have f := later_grown g2 l3
      exact ⟨e.os.trans f.os, e.tape.trans f.tape, e.output.trans f.output, Nat.le_trans f.size e.size, fun j hj hne => (e.block j (Nat.lt_of_lt_of_le hj f.size) hne).trans (f.block j hj hne)⟩
    exact h _ (later_grown g3 l4) (blk_later ((blk_later b2 l3).set_ off' _) l4)
  refine anyR_two hr (fun w1 l1 => ?_) (fun w1 l1 => ?_)
  · refine opR_set1 hs hp hx (blk_later hg l1) hi ho hE ?_
    refine anyR_one m _ hr1 (beq_self_eq_true _) fun w2 l2 => ?_
    refine opR_value hom hgm hdm (hrun w2) ?_
    exact last w2 (later_grown (grown_later l1 (grown_setCell w1 g off _)) l2) (blk_later ((blk_later hg l1).set_ off _) l2)
  · refine opR_value hom hgm hdm (hrun w1) ?_
    refine anyR_one i _ hr2 (beq_self_eq_true _) fun w2 l2 => ?_
    refine opR_set1 hs (by rw [getD_put_ne hpp]; exact hp) (by rw [getD_put_ne hpx]; exact hx) (blk_later hg (l1.trans l2)) hi ho hE ?_
    rw [Array.setIfInBounds_comm _ _ (Ne.symm him)]
    exact last _ (grown_later (l1.trans l2) (grown_setCell w2 g off _)) ((blk_later hg (l1.trans l2)).set_ off _)
end
end Go.Proofs.Ytjkelpelmljanaa
namespace Go.Proofs.Ytjkelpelmljanaa
open Go Go.RowKit

/-- Each operation ahead of `n` has a follower up to `n`. -/
def headB (md : Region.Mode) (ops : Array Oper) (n : Nat) : Bool := (List.range n).all fun i => (List.range (n + 1)).any fun j => decide (i < j) && waitsFor md ops j i
section
variable {P : Program} {md : Region.Mode} {ops : Array Oper} {S : Nat → Prop} {E : Nat → Bool} {w0 : World}
theorem anyR_firstX {Q : Act → World → Prop} {n i : Nat} {oi : Oper} {v : Value} (hi : ops[i]? = some oi) (hsel : ∀ (j : Nat) (o : Oper) cs b, ops[j]? = some o → o.op ≠ .select cs b) (hS : ∀ k, S k → k < w0.heap.size)
    (hE : ∀ j, j ≠ n → E j = true) (hnn : n < ops.size) (hs : headB md ops n = true) :
    ∀ (fuel : Nat) (listed : Array Bool) (a : Act) (w : World), (i < n ∨ listed.getD n false = true) → Closed md ops listed →
      (∀ j oj, ops[j]? = some oj → j ≠ i → listed.getD j true = false → (∀ e ∈ oj.after, Region.binds md e = true → e.on ≠ i) → oi.apart ops oj = true) →
      i ∈ Region.ready md ops listed → Kept S w0 w → QuietAt P ops S w0 oi v a →
      anyR P md ops S E Q fuel (listed.setIfInBounds i true) (a.put oi.dst v) w → anyR P md ops S E Q (fuel + 1) listed a w := by
  intro fuel
  induction fuel with
  | zero =>
    intro listed a w _ _ _ hr hw hy H
    refine ⟨fun h => (by rw [h] at hr; cases hr), fun j hj w1 h1 => ?_⟩
    have hw1 : Kept S w0 w1 := kept_later hS hw h1
    by_cases hji : j = i
    · subst hji; exact opR_quiet hi hS hw1 hy fun w2 h2 => anyR_up H (h1.trans h2)
    · have := ready_mono hj hji
      rw [H.1] at this
      cases this
  | succ fuel ih =>
    intro listed a w hin hcl hfree hr hw hy H
    refine ⟨fun h => (by rw [h] at hr; cases hr), fun j hj w1 h1 => ?_⟩
    have hw1 : Kept S w0 w1 := kept_later hS hw h1
    by_cases hji : j = i
    · subst hji; exact opR_quiet hi hS hw1 hy fun w2 h2 => anyR_up H (h1.trans h2)
    · have hst := H.2 j (ready_mono hj hji) w1 h1
      obtain ⟨hjun, oj, hoj, hall⟩ := mem_ready.1 hj
      have hnot : ∀ e ∈ oj.after, Region.binds md e = true → e.on ≠ i := fun e he hb heq => by
        have h1 := hall e he hb
        have h0 := (mem_ready.1 hr).1
        rw [heq] at h1
        rcases Nat.lt_or_ge i listed.size with h' | h'
        · simp [h'] at h0 h1; rw [h0] at h1; cases h1
        · simp [Array.getElem?_eq_none h'] at h1
      have hEj : E j = true := hE j fun e => by
        subst e
        rcases hin with h | h
        · exact (late_head hcl hs hnn _ i rfl h (mem_ready.1 hr).1).1 hj
        · rw [getD_ff hjun] at h
          cases h
      have h2 := opR_put hoj (hfree j oj hoj hji hjun hnot) (fun cs b => hsel i oi cs b hi) (fun cs b => hsel j oj cs b hoj) hy hst
      have hfree' : ∀ k ok, ops[k]? = some ok → k ≠ i → (listed.setIfInBounds j true).getD k true = false →
          (∀ e ∈ ok.after, Region.binds md e = true → e.on ≠ i) → oi.apart ops ok = true := fun k ok hk hki hun hno => by
        refine hfree k ok hk hki ?_ hno
        by_cases hjk : j = k
        · subst hjk; exact hjun
        · rw [getD_set_ne true hjk] at hun; exact hun
      refine opR_mono (fun a' w' hb h3 => ih (listed.setIfInBounds j true) a' w' (hin.imp id fun h => getD_set_true h) (hcl.set hj) hfree' (ready_mono hr (Ne.symm hji)) (hw1.trans (hb hEj)) h3.1 ?_) h2
      rw [Array.setIfInBounds_comm _ _ hji]
      exact h3.2

def peelX (md : Region.Mode) (ops : Array Oper) (n : Nat) : List Bool → Nat → Array Bool → Array Bool → Bool
  | [], _, listed, after => listed == after
  | true :: m, k, listed, after => (decide (k < n) || listed.getD n false) && (Region.ready md ops listed).contains k && Region.free md ops listed k && peelX md ops n m (k + 1) (listed.setIfInBounds k true) after
  | false :: m, k, listed, after => peelX md ops n m (k + 1) listed after
theorem anyR_peel_goX {Q : Act → World → Prop} {n : Nat} (hE : ∀ j, j ≠ n → E j = true) (hnn : n < ops.size) (hhs : headB md ops n = true) (hs : Region.noSelect ops = true) (hS : ∀ k, S k → k < w0.heap.size)
    {af : Act} {fuel : Nat} {after : Array Bool} {w : World} (hw : Kept S w0 w) :
    ∀ (m : List Bool) (l : List Oper) (k : Nat) (listed : Array Bool) (a : Act), Closed md ops listed → (∀ j, l[j]? = ops[k + j]?) → peelX md ops n m k listed after = true → dstB (takeOps m l) = true →
      (∀ D, Good S w0 D → wpQuiet P ops (cls D) (fun a' => a' = af) (takeOps m l) a) → anyR P md ops S E Q fuel after af w → anyR P md ops S E Q ((takeOps m l).length + fuel) listed a w
  | [], l, k, listed, a, _, _, hp, _, hq, h => by
    have hl : listed = after := by simpa [peelX] using hp
    have ha : a = af := by
      have := hq (Kept S w0) ⟨fun _ h => h, fun _ _ h h' => kept_later hS h h', w0, Kept.refl _ _⟩
      simpa [takeOps, wpQuiet] using this
    subst hl
    subst ha
    simpa [takeOps] using h
  | false :: m, [], k, listed, a, hcl, hl, hp, hd, hq, h => by
    have e2 : takeOps m [] = [] := by cases m with | nil => rfl | cons b m => cases b <;> rfl
    have r := anyR_peel_goX hE hnn hhs hs hS hw m [] (k + 1) listed a hcl (fun j => by have := hl (j + 1); simpa [Nat.add_assoc, Nat.add_comm 1 j] using this) (by simpa [peelX] using hp) (by rw [e2]; rfl) (fun D hD => by rw [e2]; exact hq D hD) h
    rw [e2] at r
    exact r
  | false :: m, o :: l, k, listed, a, hcl, hl, hp, hd, hq, h =>
    anyR_peel_goX hE hnn hhs hs hS hw m l (k + 1) listed a hcl (fun j => by have := hl (j + 1); simpa [Nat.add_assoc, Nat.add_comm 1 j] using this) (by simpa [peelX] using hp) hd hq h
  | true :: m, [], k, listed, a, _, hl, hp, _, _, _ => by
    simp only [peelX, Bool.and_eq_true] at hp
    have hr : k ∈ Region.ready md ops listed := by simpa using hp.1.1.2
    obtain ⟨_, o, ho, _⟩ := mem_ready.1 hr
    have := hl 0
    simp [ho] at this
  | true :: m, o :: l, k, listed, a, hcl, hl, hp, hd, hq, h => by
    have h0 : ops[k]? = some o := by simpa using (hl 0).symm
    simp only [peelX, Bool.and_eq_true, Bool.or_eq_true, decide_eq_true_eq] at hp
    obtain ⟨⟨⟨hkn, hr⟩, hf⟩, hp'⟩ := hp
    have hr' : k ∈ Region.ready md ops listed := by simpa using hr
    simp only [takeOps, dstB, Bool.and_eq_true, List.all_eq_true] at hd
    have step : ∀ D, Good S w0 D → ∃ v, YieldsIn P ops D o v a ∧ wpQuiet P ops (cls D) (fun a' => a' = af) (takeOps m l) (a.put o.dst v) := fun D hD => by
      have := hq D hD
      have hk : qOp P ops (cls D) k (wpQuiet P ops (cls D) (fun a' => a' = af) (takeOps m l)) a := by unfold qOp; simp only [h0]; exact this
      obtain ⟨v, hy, hn⟩ := yieldsIn_of_qOp h0 hk
      rw [cls_eq] at hy
      exact ⟨v, hy, hn⟩
    obtain ⟨v, _, hn0⟩ := step (Kept S w0) ⟨fun _ h => h, fun _ _ h h' => kept_later hS h h', w0, Kept.refl _ _⟩
    have same : ∀ D, Good S w0 D → ∀ u, wpQuiet P ops (cls D) (fun a' => a' = af) (takeOps m l) (a.put o.dst u) → a.put o.dst u = a.put o.dst v := fun D _ u hu => by
      cases ho : o.dst with
      | none => rfl
      | some d =>
        rw [ho] at hu hn0
        have hne : ∀ o' ∈ takeOps m l, o'.dst ≠ some d := fun o' ho' => by
          have := hd.1 o' ho'
          simpa [ho] using this
        exact put_slot ((final_slot _ _ hne hu).symm.trans (final_slot _ _ hne hn0))
    have hqa : QuietAt P ops S w0 o v a := fun D hD => by
      obtain ⟨u, hy, hn⟩ := step D hD
      exact ⟨u, hy, same D hD u hn⟩
    have rest := anyR_peel_goX hE hnn hhs hs hS hw m l (k + 1) (listed.setIfInBounds k true) (a.put o.dst v) (hcl.set hr') (fun j => by have := hl (j + 1); simpa [Nat.add_assoc, Nat.add_comm 1 j] using this) hp' hd.2 (fun D hD => by
      obtain ⟨u, _, hn⟩ := step D hD
      rw [← same D hD u hn]; exact hn) h
    have e : (takeOps (true :: m) (o :: l)).length + fuel = (takeOps m l).length + fuel + 1 := by simp [takeOps]; omega
    rw [e]
    exact anyR_firstX h0 (Region.noSelect_spec hs) hS hE hnn hhs _ listed a w hkn hcl (Region.free_spec h0 hf) hr' hw hqa rest

theorem anyR_peelX {Q : Act → World → Prop} {lops : List Oper} {listed a af w fuel len} (n : Nat) (m : List Bool) (after : Array Bool)
    (hE : ∀ j, j ≠ n → E j = true) (hb : (decide (n < lops.length) && headB md lops.toArray n && Region.noSelect lops.toArray && closedB md lops.toArray listed && peelX md lops.toArray n m 0 listed after && dstB (takeOps m lops)) = true) (hn : len = (takeOps m lops).length + fuel)
    (hS : ∀ k, S k → k < w.heap.size)
    (hq : ∀ D, Good S w D → wpQuiet P lops.toArray (fun w' => ∃ x : Of D, w' = x.val) (fun a' => a' = af) (takeOps m lops) a) (h : anyR P md lops.toArray S E Q fuel after af w) : anyR P md lops.toArray S E Q len listed a w := by
  simp only [Bool.and_eq_true] at hb
  simp only [decide_eq_true_eq] at hb
  obtain ⟨⟨⟨⟨⟨hnn, hhs⟩, hs⟩, hc⟩, hp⟩, hd⟩ := hb
  rw [hn]
  exact anyR_peel_goX hE (by simpa using hnn) hhs hs hS (Kept.refl _ _) m lops 0 listed a (closed_of hc) (by simp) hp hd hq h


end
section
variable {P : Program} {md : Region.Mode} {ops : Array Oper} {S : Nat → Prop} {E : Nat → Bool}
/-- The one operation that can come up is a call; what it does is told by its contract. -/
theorem anyR_callX {Q : Act → World → Prop} {f n : Nat} {listed : Array Bool} {a : Act} {w : World} (i : Nat) (after : Array Bool) (hr : Region.ready md ops listed = [i]) (he : (listed.setIfInBounds i true == after) = true) (hn : n = f + 1)
    {oi : Oper} (h : ops[i]? = some oi) {p : Tmp} (hd : oi.dst = some p) (hw : Region.wanted oi (yielded ops a.tmps) = true) (g : FuncId) (args : Array Value)
    (hrun : ∀ w, (execOp a.eval oi).run P w = .ok (.enter g args) w) (hE : E i = false)
    (hc : ∀ w1, Later w w1 → Calls P g args w1 fun e w2 => ∃ v, e = .returned v ∧ anyR P md ops S E Q f after (a.put (some p) v) w2) : anyR P md ops S E Q n listed a w := by
  subst hn
  refine anyR_one i after hr he fun w1 l1 => ?_
  unfold opR
  simp only [h, hw, if_true, hrun, uponR]
  refine (hc w1 l1).mono ?_
  rintro e w2 ⟨v, rfl, hk⟩
  exact ⟨v, rfl, fun h => absurd (hE.symm.trans h) (by simp), by rw [hd]; exact hk⟩
end
end Go.Proofs.Ytjkelpelmljanaa
