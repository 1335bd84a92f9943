/-
  rain.Sum: the contract, for every record.
-/
import Derived.Test.YtmglgahagbfbkaaLeaf
import Derived.Test.YtmglgahagbfbkaaSumMath2
import Derived.Test.YtmglgahagbfbkaaDivs
import Derived.Test.YtmglgahagbfbkaaValues
import Derived.Test.YtmglgahagbfbkaaRegionStep
namespace Go.Proofs.Ytmglgahagbfbkaa
open Go.RowKit

theorem down_big (a b : Int) (w : World) (ha : 0 ≤ a) (hb : 1 ≤ b) (ha2 : a ≤ 9223372036854775807) (_hb2 : b ≤ 9223372036854775807) :
    Calls Try.prog 48 #[.int .i64 a, .int .i64 b] w fun e w' => e = .returned (.int .i64 (a / b)) ∧ w = w' := by
  have h1 : 0 ≤ a / b := Int.ediv_nonneg ha (by omega)
  have h2 : a / b ≤ a := Int.ediv_le_self b ha
  go_enter Try.func48, Try.ntmps48
  go_wp2
  go_ret
  exact ⟨rfl, rfl⟩
theorem up_big (a b : Int) (w : World) (ha : 0 ≤ a) (hb : 1 ≤ b) (ha2 : a + b ≤ 9223372036854775807) :
    Calls Try.prog 49 #[.int .i64 a, .int .i64 b] w fun e w' => e = .returned (.int .i64 (cdiv a b)) ∧ w = w' := by
  have h1 : 0 ≤ (a + b - 1) / b := Int.ediv_nonneg (by omega) (by omega)
  have h2 : (a + b - 1) / b ≤ a + b - 1 := Int.ediv_le_self b (by omega)
  have H := hide (cdiv_eq (a := a) (b := b) (by omega))
  go_enter Try.func49, Try.ntmps49
  go_wp2
  go_ret
  exact ⟨(ret_int H.out).symm, rfl⟩

/-- The three cells of reading k. -/
theorem Ints.pt3 {w : World} {B : Nat} {A : Option Addr} {zs : List Int} {n : Nat} (h : Ints w B .i64 A zs) (hz : zs.length = n * 3) (hn : 0 < n) : ∃ b off, A = some ⟨b, off, none⟩ ∧ b < B ∧
    ∀ k, k < n → w.cell? ⟨b, off + k * 3, none⟩ = some (.int .i64 (zs.getD (k * 3) 0)) ∧ w.cell? ⟨b, off + k * 3 + 1, none⟩ = some (.int .i64 (zs.getD (k * 3 + 1) 0)) ∧ w.cell? ⟨b, off + k * 3 + 2, none⟩ = some (.int .i64 (zs.getD (k * 3 + 2) 0)) := by
  obtain ⟨b, off, e, hb, hc⟩ := h (by omega)
  exact ⟨b, off, e, hb, fun k hk => ⟨hc (k * 3) (by omega), hc (k * 3 + 1) (by omega), hc (k * 3 + 2) (by omega)⟩⟩

set_option maxHeartbeats 2000000 in
set_option maxRecDepth 100000 in
theorem Sum_any (A : Option Addr) (n c : Nat) (zs : List Int) (ed sl : Int) (w : World) (hz : zs.length = n * 3) (hmax : n ≤ 9223372036854775807) (hcap : n ≤ c) (hcm : c ≤ 9223372036854775807) (hl : Ints w w.heap.size .i64 A zs) :
    Calls Try.prog 22 #[.slice A n c, .int .i64 ed, .int .i64 sl] w fun e w' => e = .returned (spanE (sumR (fun j => zs.getD j 0) n ed sl)) ∧ Below w.heap.size w w' := by
  by_cases h0 : n = 0
  · subst h0
    have hR : sumR (fun j => zs.getD j 0) 0 ed sl = ((0, 0), 18) := rfl
    rw [hR]
    go_enter Try.func22, Try.ntmps22
    go_wp2
    refine bodyPost_ret (v := spanE ((0, 0), 18)) (by simp [spanE, results, Try.results22, go_sem]) rfl ⟨rfl, ?_⟩
    repeat (first | exact Below.refl _ _ | (refine Below.setCell ?_ (by first | omega | (simp; done) | (simp; omega)) _) | (refine Below.alloc ?_ (by first | omega | (simp; done) | (simp; omega)) _) | (refine below_drewN ?_ _))
  generalize hzf : (fun j => zs.getD j 0) = z
  have hn0 : ((n : Int) == 0) = false := beq_eq_false_iff_ne.2 (by omega)
  have hn1 : (0 : Int) < n := by omega
  have hR : sumR z n ed sl = if scanE z 0 n ≠ 0 then ((0, 0), scanE z 0 n) else if (win ed 0 4294967296 && win sl 0 1000) = false then ((0, 0), 3) else if ed < z ((n - 1) * 3) then ((0, 0), 17)
      else ((totL z n ed * (1000 - sl) / 360000, cdiv (totH z n ed * (1000 + sl)) 360000), 0) := by unfold sumR; rw [if_neg h0]
  obtain ⟨b, off, rfl, hb, hc⟩ := hl.pt3 hz (by omega)
  have hc' : ∀ k, k < n → w.cell? ⟨b, off + k * 3, none⟩ = some (.int .i64 (z (k * 3))) ∧ w.cell? ⟨b, off + k * 3 + 1, none⟩ = some (.int .i64 (z (k * 3 + 1))) ∧ w.cell? ⟨b, off + k * 3 + 2, none⟩ = some (.int .i64 (z (k * 3 + 2))) := by
    rw [← hzf]; exact hc
  have HR := hide hR
  have Hc := hide hc'
  generalize sumR z n ed sl = r at *
  clear hR hc hc' hl hz hzf
  go_enter Try.func22, Try.ntmps22
  go_wp2_with fail
  go_loopw [23] (fun i wr => ∃ k : Nat, k ≤ n ∧ i = .int .i64 k ∧ Below w.heap.size w wr ∧ Blk wr w.heap.size 24 #[.int .i64 0, .int .i64 0] ∧ scanE z k (n - k) = scanE z 0 n)
    (fun i _ => n - (intOf i).toNat)
  case atStart => exact ⟨0, by omega, rfl, (Below.refl _ _).alloc (Nat.le_refl _) _, Blk.new _ _ _, rfl⟩
  case round =>
    obtain ⟨k, hk, rfl, hbw, hbl, hg⟩ := hrel
    have Hg := hide hg
    have Hbl := hide hbl
    have Hbw := hide hbw
    clear hg hbl hbw
    have hsz := Hbw.out.size
    by_cases hlt : k < n
    · obtain ⟨c0, c1, c2⟩ := Hc.out k hlt
      rw [← Hbw.out.cell hb] at c0 c1 c2
      have hst := scan_step z n k hlt
      rw [Hg.out] at hst
      have hno := @okR_no z k
      have hok := (@okR_iff z k).1
      by_cases hg : okR z k = true
      · rw [if_neg (by simp [hg])] at hst
        have hok' := hok hg
        have hw1 : win (z (k * 3)) 0 4294967296 = true := by simp [okR] at hg; exact hg.1
        have hw2 : ins (z (k * 3 + 1)) (z (k * 3 + 2)) 1000000 = true := by simp [okR] at hg; exact hg.2
        clear hno hok hg
        by_cases hk0 : k = 0
        · subst hk0
          rw [if_neg (by omega)] at hst
          have Hst := hide hst
          clear hst
          simp only [Nat.zero_mul, Nat.add_zero, Nat.zero_add] at c0 c1 c2 hok' hw1 hw2
          generalize z 0 = z0 at *
          generalize z 1 = z1 at *
          generalize z 2 = z2 at *
          go_wp2_with (go_at_call 43; refine (within_any _ _ _ _).mono ?_; rintro e w' ⟨rfl, rfl⟩)
          refine at_world fun W hW => ?_
          have br : Blk W wr.heap.size 47 #[.int .i64 z0, .int .i64 z1, .int .i64 z2] := by rw [hW]; exact Blk.new _ _ _
          have LW : Later wr W := by rw [hW]; exact (Below.refl _ _).alloc (Nat.le_refl _) _
          clear hW c0 c1 c2
          refine (inside_any _ _ _ _).mono ?_
          rintro e w1 ⟨rfl, hb1⟩
          have B1 := onward (onward Hbw.out LW) hb1
          have bo := blk_later (blk_later Hbl.out LW) hb1
          have br1 := blk_later br hb1
          have HB1 := hide B1
          have Hbo := hide bo
          obtain ⟨y0, y1, y2⟩ := br1.c3
          have lr := br1.lt
          clear hb1 LW br bo br1 B1 Hbw Hbl
          go_wp2_with fail
          go_quiet (fail)
          go_wp2
          go_roundw
          case rel => exact ⟨1, by omega, rfl, below_drewN HB1.out _, Hbo.out, Hst.out.symm⟩
          case measure => simp [intOf]; omega
        · obtain ⟨j, rfl⟩ : ∃ j, k = j + 1 := ⟨k - 1, by omega⟩
          obtain ⟨p0, -, -⟩ := Hc.out j (by omega)
          have hokj : 0 ≤ z (j * 3) + 1 ∨ True := .inr trivial
          rw [Nat.add_sub_cancel] at hst
          clear hokj hk0
          generalize z (j * 3) = t0 at p0 hst
          generalize z ((j + 1) * 3) = z0 at *
          generalize z ((j + 1) * 3 + 1) = z1 at *
          generalize z ((j + 1) * 3 + 2) = z2 at *
          have Hp0 := hide p0
          clear p0
          have q0 : decide (0 < (j : Int) + 1) = true := decide_eq_true (by omega)
          by_cases hle : z0 ≤ t0
          · rw [if_pos ⟨by omega, hle⟩] at hst
            have Hst := hide hst
            clear hst
            have q1 : decide (z0 ≤ t0) = true := decide_eq_true hle
            go_wp2_with (go_at_call 43; refine (within_any _ _ _ _).mono ?_; rintro e w' ⟨rfl, rfl⟩)
            refine at_world fun W hW => ?_
            have br : Blk W wr.heap.size 47 #[.int .i64 z0, .int .i64 z1, .int .i64 z2] := by rw [hW]; exact Blk.new _ _ _
            have LW : Later wr W := by rw [hW]; exact (Below.refl _ _).alloc (Nat.le_refl _) _
            clear hW c0 c1 c2
            refine (inside_any _ _ _ _).mono ?_
            rintro e w1 ⟨rfl, hb1⟩
            have B1 := onward (onward Hbw.out LW) hb1
            have bo := blk_later (blk_later Hbl.out LW) hb1
            have br1 := blk_later br hb1
            have p0 := Hp0.out
            rw [← B1.cell hb] at p0
            have HB1 := hide B1
            obtain ⟨y0, y1, y2⟩ := br1.c3
            obtain ⟨u0, u1⟩ := bo.c2
            have f0 := bo.frozen 0
            have f1 := bo.frozen 1
            have lr := br1.lt
            have lo := bo.lt
            clear hb1 LW br bo br1 B1 Hbw Hbl
            go_wp2_with fail
            go_quiet (fail)
            go_wp2
            have hr := HR.out
            rw [if_pos (by rw [Hst.out]; decide), Hst.out] at hr
            refine bodyPost_ret (v := spanE r) (by rw [hr]; simp [spanE, results, Try.results22, go_sem, u0, u1, f0, f1, lo]) rfl ⟨rfl, ?_⟩
            repeat (first | exact HB1.out | (refine Below.setCell ?_ (by first | omega | (simp; done) | (simp; omega)) _) | (refine Below.alloc ?_ (by first | omega | (simp; done) | (simp; omega)) _) | (refine below_drewN ?_ _))
          · rw [if_neg (by omega)] at hst
            have Hst := hide hst
            clear hst
            have q1 : decide (z0 ≤ t0) = false := decide_eq_false hle
            go_wp2_with (go_at_call 43; refine (within_any _ _ _ _).mono ?_; rintro e w' ⟨rfl, rfl⟩)
            refine at_world fun W hW => ?_
            have br : Blk W wr.heap.size 47 #[.int .i64 z0, .int .i64 z1, .int .i64 z2] := by rw [hW]; exact Blk.new _ _ _
            have LW : Later wr W := by rw [hW]; exact (Below.refl _ _).alloc (Nat.le_refl _) _
            clear hW c0 c1 c2
            refine (inside_any _ _ _ _).mono ?_
            rintro e w1 ⟨rfl, hb1⟩
            have B1 := onward (onward Hbw.out LW) hb1
            have bo := blk_later (blk_later Hbl.out LW) hb1
            have br1 := blk_later br hb1
            have p0 := Hp0.out
            rw [← B1.cell hb] at p0
            have HB1 := hide B1
            have Hbo := hide bo
            obtain ⟨y0, y1, y2⟩ := br1.c3
            have lr := br1.lt
            clear hb1 LW br bo br1 B1 Hbw Hbl
            go_wp2_with fail
            go_quiet (fail)
            go_wp2
            go_roundw
            case rel => exact ⟨j + 1 + 1, by omega, by go_num, below_drewN HB1.out _, Hbo.out, Hst.out.symm⟩
            case measure => simp [intOf]; omega
      · have hg' : okR z k = false := by simpa using hg
        rw [if_pos hg'] at hst
        have hno' := hno hg'
        have Hst := hide hst
        clear hst hno hok hg hg'
        generalize z (k * 3) = z0 at *
        generalize z (k * 3 + 1) = z1 at *
        generalize z (k * 3 + 2) = z2 at *
        have hr := HR.out
        rw [if_pos (by rw [Hst.out]; decide), Hst.out] at hr
        have HR2 := hide hr
        clear hr
        obtain ⟨u0, u1⟩ := Hbl.out.c2
        have f0 := Hbl.out.frozen 0
        have f1 := Hbl.out.frozen 1
        have lo := Hbl.out.lt
        rcases hno' with hw1 | ⟨hw1, hw2⟩
        · go_wp2_with (go_at_call 43; refine (within_any _ _ _ _).mono ?_; rintro e w' ⟨rfl, rfl⟩)
          refine bodyPost_ret (v := spanE r) (by rw [HR2.out]; simp [spanE, results, Try.results22, go_sem, u0, u1, f0, f1, lo]) rfl ⟨rfl, ?_⟩
          repeat (first | exact Hbw.out | (refine Below.setCell ?_ (by first | omega | (simp; done) | (simp; omega)) _) | (refine Below.alloc ?_ (by first | omega | (simp; done) | (simp; omega)) _) | (refine below_drewN ?_ _))
        · go_wp2_with (go_at_call 43; refine (within_any _ _ _ _).mono ?_; rintro e w' ⟨rfl, rfl⟩)
          refine at_world fun W hW => ?_
          have LW : Later wr W := by rw [hW]; exact (Below.refl _ _).alloc (Nat.le_refl _) _
          clear hW c0 c1 c2
          refine (inside_any _ _ _ _).mono ?_
          rintro e w1 ⟨rfl, hb1⟩
          have B1 := onward (onward Hbw.out LW) hb1
          have bo := blk_later (blk_later Hbl.out LW) hb1
          have HB1 := hide B1
          clear u0 u1 f0 f1 lo
          obtain ⟨u0, u1⟩ := bo.c2
          have f0 := bo.frozen 0
          have f1 := bo.frozen 1
          have lo := bo.lt
          clear hb1 LW bo B1 Hbw Hbl
          go_wp2
          refine bodyPost_ret (v := spanE r) (by rw [HR2.out]; simp [spanE, results, Try.results22, go_sem, u0, u1, f0, f1, lo]) rfl ⟨rfl, ?_⟩
          repeat (first | exact HB1.out | (refine Below.setCell ?_ (by first | omega | (simp; done) | (simp; omega)) _) | (refine Below.alloc ?_ (by first | omega | (simp; done) | (simp; omega)) _) | (refine below_drewN ?_ _))
    · obtain rfl : k = n := by omega
      have hs0 : scanE z 0 k = 0 := by rw [← Hg.out, Nat.sub_self]; rfl
      have hgd := good3_of hs0
      obtain ⟨m, rfl⟩ : ∃ m, k = m + 1 := ⟨k - 1, by omega⟩
      have hr := HR.out
      rw [if_neg (by rw [hs0]; simp), Nat.add_sub_cancel] at hr
      have HR2 := hide hr
      have Hgd := hide hgd
      obtain ⟨c0, c1, c2⟩ := Hc.out m (by omega)
      rw [← Hbw.out.cell hb] at c0 c1 c2
      have hlast := fun (he : z (m * 3) ≤ ed) => last_bd hgd (by omega) (e := ed) (by rw [Nat.add_sub_cancel]; exact he)
      have hway := fun (he : z (m * 3) ≤ ed) (he2 : ed ≤ 4294967296) (k : Nat) (hk : k < m + 1) => way_bd hgd (k := k) (by omega) (e := ed) (by rw [Nat.add_sub_cancel]; exact he) he2 hk
      have hokm := okR_iff.1 (hgd.ok m (by omega))
      rw [Nat.add_sub_cancel] at hlast hway
      have Hway := hide hway
      have Hlast := hide hlast
      have Hokm := hide hokm
      clear hr hs0 hgd HR Hg hlt hlast hway hokm
      obtain ⟨u0, u1⟩ := Hbl.out.c2
      have f0 := Hbl.out.frozen 0
      have f1 := Hbl.out.frozen 1
      have lo := Hbl.out.lt
      generalize hT : z (m * 3) = T at *
      generalize hLo : z (m * 3 + 1) = Lo at *
      generalize hHi : z (m * 3 + 2) = Hi at *
      have HT := hide hT
      have HLo := hide hLo
      have HHi := hide hHi
      clear hT hLo hHi
      by_cases hw1 : win ed 0 4294967296 = true
      · by_cases hw2 : win sl 0 1000 = true
        · have hr := HR2.out
          rw [if_neg (by simp [hw1, hw2])] at hr
          by_cases hle : T ≤ ed
          · rw [if_neg (by omega)] at hr
            have HR3 := hide hr
            have b1 := win_iff.1 hw1
            have b2 := win_iff.1 hw2
            obtain ⟨e1, e2⟩ := b1
            obtain ⟨e3, e4⟩ := b2
            obtain ⟨l1, l2, l3⟩ := Hlast.out hle
            have hway := Hway.out hle e2
            have hokm := Hokm.out
            obtain ⟨⟨o1, o2⟩, o3, o4, o5⟩ := hokm
            have l4 : (ed - T) * 1000000 ≤ 4294967296000000 := by omega
            have l5 : (ed - T) * Hi ≤ 4294967296000000 := by omega
            have l6 : 0 ≤ (ed - T) * Hi := by omega
            have l7 : (ed - T) * Lo ≤ 4294967296000000 := by omega
            have Hw := hide hway
            have q1 : decide (ed < T) = false := decide_eq_false (by omega)
            clear hr HR2 hway Hway Hlast Hokm l3 l4
            have hcc : (c = 1 ∧ m = 0) ∨ (1 : Int) < c := by omega
            rcases hcc with hcc | hcc
            · obtain ⟨rfl, rfl⟩ := hcc
              simp only [Nat.zero_mul, Nat.add_zero] at c0 c1 c2
              go_wp2_with (go_at_call 43; refine (within_any _ _ _ _).mono ?_; rintro e w' ⟨rfl, rfl⟩)
              go_quiet (fail)
              go_wp2
              go_loopw [11, 12, 97] (fun L H i wr' => ∃ k : Nat, k ≤ 0 ∧ i = .int .i64 k ∧ L = .int .i64 ((ed - T) * Lo + psL z k) ∧ H = .int .i64 ((ed - T) * Hi + psH z k) ∧ Below w.heap.size w wr' ∧ Blk wr' w.heap.size 24 #[.int .i64 0, .int .i64 0])
                (fun _ _ i _ => 0 - (intOf i).toNat)
              case atStart => exact ⟨0, by omega, rfl, by simp [psL], by simp [psH], below_drewN (Hbw.out.alloc hsz _) _, Hbl.out.alloc _⟩
              case round =>
                obtain ⟨k, hk, rfl, rfl, rfl, hbw', hbl'⟩ := hrel
                have Hbw' := hide hbw'
                have Hbl' := hide hbl'
                have hsz' := hbw'.size
                clear hbw' hbl' u0 u1 f0 f1 c0 c1 c2 Hbw Hbl
                have hwk := Hw.out k (by omega)
                obtain ⟨w1, w2, w3⟩ := hwk
                obtain rfl : k = 0 := by omega
                have eL : totL z (0 + 1) ed = (ed - T) * Lo + psL z 0 := by unfold totL; rw [Nat.add_sub_cancel, HT.out, HLo.out]; omega
                have eH : totH z (0 + 1) ed = (ed - T) * Hi + psH z 0 := by unfold totH; rw [Nat.add_sub_cancel, HT.out, HHi.out]; omega
                have hr := HR3.out
                rw [eL, eH] at hr
                have HR4 := hide hr
                clear eL eH hr HR3
                generalize (ed - T) * Lo + psL z 0 = L0 at *
                generalize (ed - T) * Hi + psH z 0 = H0 at *
                have p1 := Int.mul_nonneg w1 (by omega : 0 ≤ 1000 - sl)
                have p2 := Int.mul_le_mul (by omega : L0 ≤ 4294967296000000) (by omega : 1000 - sl ≤ 1000) (by omega) (by omega)
                have p3 := Int.mul_nonneg (by omega : 0 ≤ H0) (by omega : 0 ≤ 1000 + sl)
                have p4 := Int.mul_le_mul w3 (by omega : 1000 + sl ≤ 2000) (by omega) (by omega)
                have p5 : L0 * (1000 - sl) ≤ 4294967296000000000 := by omega
                have p6 : H0 * (1000 + sl) ≤ 8589934592000000000 := by omega
                clear p2 p4 Hc Hgd Hw HT HLo HHi l1 l2 l5 l6 l7
                obtain ⟨u0, u1⟩ := Hbl'.out.c2
                have f0 := Hbl'.out.frozen 0
                have f1 := Hbl'.out.frozen 1
                have lo2 := Hbl'.out.lt
                go_wp2_with (first | (go_at_call 48; refine (down_big _ _ _ (by omega) (by omega) (by omega) (by omega)).mono ?_; rintro e w' ⟨rfl, rfl⟩) | (go_at_call 49; refine (up_big _ _ _ (by omega) (by omega) (by omega)).mono ?_; rintro e w' ⟨rfl, rfl⟩))
                refine bodyPost_ret (v := spanE r) (by rw [HR4.out]; simp [spanE, results, Try.results22, go_sem, u0, u1, f0, f1, lo2]) rfl ⟨rfl, ?_⟩
                repeat (first | exact Hbw'.out | (refine Below.setCell ?_ (by first | omega | (simp; done) | (simp; omega)) _) | (refine Below.alloc ?_ (by first | omega | (simp; done) | (simp; omega)) _) | (refine below_drewN ?_ _))
            · go_wp2_with (go_at_call 43; refine (within_any _ _ _ _).mono ?_; rintro e w' ⟨rfl, rfl⟩)
              go_quiet (fail)
              go_wp2
              go_loopw [11, 12, 97] (fun L H i wr' => ∃ k : Nat, k ≤ m ∧ i = .int .i64 k ∧ L = .int .i64 ((ed - T) * Lo + psL z k) ∧ H = .int .i64 ((ed - T) * Hi + psH z k) ∧ Below w.heap.size w wr' ∧ Blk wr' w.heap.size 24 #[.int .i64 0, .int .i64 0])
                (fun _ _ i _ => m - (intOf i).toNat)
              case atStart => exact ⟨0, by omega, rfl, by simp [psL], by simp [psH], below_drewN (Hbw.out.alloc hsz _) _, Hbl.out.alloc _⟩
              case round =>
                obtain ⟨k, hk, rfl, rfl, rfl, hbw', hbl'⟩ := hrel
                have Hbw' := hide hbw'
                have Hbl' := hide hbl'
                have hsz' := hbw'.size
                clear hbw' hbl' u0 u1 f0 f1 c0 c1 c2 Hbw Hbl
                have hwk := Hw.out k (by omega)
                obtain ⟨w1, w2, w3⟩ := hwk
                have hbr : b < wr.heap.size := by omega
                have hwr0 : w.heap.size < wr.heap.size := Hbl'.out.lt
                by_cases hlt : k < m
                · have hpb := piece_bd Hgd.out (k := k) (by omega)
                  have hw' := Hw.out (k + 1) (by omega)
                  have eL : (ed - T) * Lo + psL z (k + 1) = (ed - T) * Lo + psL z k + (z ((k + 1) * 3) - z (k * 3)) * min (z (k * 3 + 1)) (z ((k + 1) * 3 + 1)) := by rw [psL]; omega
                  have eH : (ed - T) * Hi + psH z (k + 1) = (ed - T) * Hi + psH z k + (z ((k + 1) * 3) - z (k * 3)) * max (z (k * 3 + 2)) (z ((k + 1) * 3 + 2)) := by rw [psH]; omega
                  rw [eL, eH] at hw'
                  obtain ⟨a0, a1, a2⟩ := Hc.out k (by omega)
                  obtain ⟨d0, d1, d2⟩ := Hc.out (k + 1) (by omega)
                  have oka := okR_iff.1 (Hgd.out.ok k (by omega))
                  have okb := okR_iff.1 (Hgd.out.ok (k + 1) (by omega))
                  have hup := Hgd.out.up k (by omega)
                  rw [← Hbw'.out.cell hb] at a0 a1 a2 d0 d1 d2
                  rw [show off + (k + 1) * 3 = off + 3 + k * 3 by omega] at d0 d1 d2
                  generalize hL0 : (ed - T) * Lo + psL z k = L0 at *
                  generalize hH0 : (ed - T) * Hi + psH z k = H0 at *
                  generalize z (k * 3) = ta at *
                  generalize z (k * 3 + 1) = la at *
                  generalize z (k * 3 + 2) = ha at *
                  generalize z ((k + 1) * 3) = tb at *
                  generalize z ((k + 1) * 3 + 1) = lb at *
                  generalize z ((k + 1) * 3 + 2) = hb' at *
                  have EL := hide eL
                  have EH := hide eH
                  rw [min_if, max_if] at hpb hw'
                  clear eL eH hL0 hH0
                  obtain ⟨mn, emn⟩ : ∃ mn, (if lb < la then lb else la) = mn := ⟨_, rfl⟩
                  obtain ⟨mx, emx⟩ : ∃ mx, (if ha < hb' then hb' else ha) = mx := ⟨_, rfl⟩
                  rw [emn, emx] at hpb hw'
                  have EMN := hide ((min_if la lb).trans emn)
                  have EMX := hide ((max_if ha hb').trans emx)
                  obtain ⟨⟨oka1, oka2⟩, oka3, oka4, oka5⟩ := oka
                  obtain ⟨⟨okb1, okb2⟩, okb3, okb4, okb5⟩ := okb
                  obtain ⟨p1, p2, p3⟩ := hpb
                  obtain ⟨p4, p5, p6⟩ := hw'
                  have p7 : (tb - ta) * 1000000 ≤ 4294967296000000 := by omega
                  have p8 : (tb - ta) * mn ≤ 4294967296000000 := by omega
                  have p9 : (tb - ta) * mx ≤ 4294967296000000 := by omega
                  have p10 : 0 ≤ (tb - ta) * mx := by omega
                  have p11 : L0 + (tb - ta) * mn ≤ 4294967296000000 := by omega
                  have p12 : 0 ≤ H0 + (tb - ta) * mx := by omega
                  clear p2 p3 p5 p7 oka5 okb5 oka4 okb4 w2 l2 l5 l6 l7 l1 HR3 Hc Hgd Hw HT HLo HHi hn0 hn1 q1 h0
                  go_wp2
                  go_quiet (fail)
                  go_wp2
                  go_roundw
                  case rel => exact ⟨k + 1, by omega, by go_num, by rw [EL.out, EMN.out], by rw [EH.out, EMX.out], below_drewN ((Hbw'.out.alloc hsz' _).alloc (by simp; omega) _) _, (Hbl'.out.alloc _).alloc _⟩
                  case measure => simp [intOf]; omega
                · obtain rfl : k = m := by omega
                  have eL : totL z (k + 1) ed = (ed - T) * Lo + psL z k := by unfold totL; rw [Nat.add_sub_cancel, HT.out, HLo.out]; omega
                  have eH : totH z (k + 1) ed = (ed - T) * Hi + psH z k := by unfold totH; rw [Nat.add_sub_cancel, HT.out, HHi.out]; omega
                  have hr := HR3.out
                  rw [eL, eH] at hr
                  have HR4 := hide hr
                  clear eL eH hr HR3
                  generalize (ed - T) * Lo + psL z k = L0 at *
                  generalize (ed - T) * Hi + psH z k = H0 at *
                  have p1 := Int.mul_nonneg w1 (by omega : 0 ≤ 1000 - sl)
                  have p2 := Int.mul_le_mul (by omega : L0 ≤ 4294967296000000) (by omega : 1000 - sl ≤ 1000) (by omega) (by omega)
                  have p3 := Int.mul_nonneg (by omega : 0 ≤ H0) (by omega : 0 ≤ 1000 + sl)
                  have p4 := Int.mul_le_mul w3 (by omega : 1000 + sl ≤ 2000) (by omega) (by omega)
                  have p5 : L0 * (1000 - sl) ≤ 4294967296000000000 := by omega
                  have p6 : H0 * (1000 + sl) ≤ 8589934592000000000 := by omega
                  clear p2 p4 Hc Hgd Hw HT HLo HHi l1 l2 l5 l6 l7
                  obtain ⟨u0, u1⟩ := Hbl'.out.c2
                  have f0 := Hbl'.out.frozen 0
                  have f1 := Hbl'.out.frozen 1
                  have lo2 := Hbl'.out.lt
                  go_wp2_with (first | (go_at_call 48; refine (down_big _ _ _ (by omega) (by omega) (by omega) (by omega)).mono ?_; rintro e w' ⟨rfl, rfl⟩) | (go_at_call 49; refine (up_big _ _ _ (by omega) (by omega) (by omega)).mono ?_; rintro e w' ⟨rfl, rfl⟩))
                  refine bodyPost_ret (v := spanE r) (by rw [HR4.out]; simp [spanE, results, Try.results22, go_sem, u0, u1, f0, f1, lo2]) rfl ⟨rfl, ?_⟩
                  repeat (first | exact Hbw'.out | (refine Below.setCell ?_ (by first | omega | (simp; done) | (simp; omega)) _) | (refine Below.alloc ?_ (by first | omega | (simp; done) | (simp; omega)) _) | (refine below_drewN ?_ _))
          · rw [if_pos (by omega)] at hr
            have HR3 := hide hr
            have q1 : decide (ed < T) = true := decide_eq_true (by omega)
            clear hr HR2
            go_wp2_with (go_at_call 43; refine (within_any _ _ _ _).mono ?_; rintro e w' ⟨rfl, rfl⟩)
            refine bodyPost_ret (v := spanE r) (by rw [HR3.out]; simp [spanE, results, Try.results22, go_sem, u0, u1, f0, f1, lo]) rfl ⟨rfl, ?_⟩
            repeat (first | exact Hbw.out | (refine Below.setCell ?_ (by first | omega | (simp; done) | (simp; omega)) _) | (refine Below.alloc ?_ (by first | omega | (simp; done) | (simp; omega)) _) | (refine below_drewN ?_ _))
        · have hw3 : win sl 0 1000 = false := by simpa using hw2
          have hr := HR2.out
          rw [if_pos (by simp [hw3])] at hr
          have HR3 := hide hr
          clear hr HR2 hw2
          go_wp2_with (go_at_call 43; refine (within_any _ _ _ _).mono ?_; rintro e w' ⟨rfl, rfl⟩)
          refine bodyPost_ret (v := spanE r) (by rw [HR3.out]; simp [spanE, results, Try.results22, go_sem, u0, u1, f0, f1, lo]) rfl ⟨rfl, ?_⟩
          repeat (first | exact Hbw.out | (refine Below.setCell ?_ (by first | omega | (simp; done) | (simp; omega)) _) | (refine Below.alloc ?_ (by first | omega | (simp; done) | (simp; omega)) _) | (refine below_drewN ?_ _))
      · have hw3 : win ed 0 4294967296 = false := by simpa using hw1
        have hr := HR2.out
        rw [if_pos (by simp [hw3])] at hr
        have HR3 := hide hr
        clear hr HR2 hw1
        go_wp2_with (go_at_call 43; refine (within_any _ _ _ _).mono ?_; rintro e w' ⟨rfl, rfl⟩)
        refine bodyPost_ret (v := spanE r) (by rw [HR3.out]; simp [spanE, results, Try.results22, go_sem, u0, u1, f0, f1, lo]) rfl ⟨rfl, ?_⟩
        repeat (first | exact Hbw.out | (refine Below.setCell ?_ (by first | omega | (simp; done) | (simp; omega)) _) | (refine Below.alloc ?_ (by first | omega | (simp; done) | (simp; omega)) _) | (refine below_drewN ?_ _))
end Go.Proofs.Ytmglgahagbfbkaa
