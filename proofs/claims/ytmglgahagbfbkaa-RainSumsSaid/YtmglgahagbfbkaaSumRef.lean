/-
  radomeref05.Sum: the contract, for every record.
-/
import Derived.Test.YtmglgahagbfbkaaSum
import Derived.Test.YtmglgahagbfbkaaRegH
import Derived.Test.YtmglgahagbfbkaaModel
namespace Go.Proofs.Ytmglgahagbfbkaa
open Go.RowKit

theorem Down_big (a b : Int) (w : World) (ha : 0 ≤ a) (hb : 1 ≤ b) (ha2 : a ≤ 9223372036854775807) (_hb2 : b ≤ 9223372036854775807) :
    Calls Try.prog 51 #[.int .i64 a, .int .i64 b] w fun e w' => e = .returned (.int .i64 (a / b)) ∧ w = w' := by
  have h1 : 0 ≤ a / b := Int.ediv_nonneg ha (by omega)
  have h2 : a / b ≤ a := Int.ediv_le_self b ha
  have h3 : 0 ≤ a % b := Int.emod_nonneg _ (by omega)
  go_enter Try.func51, Try.ntmps51
  go_wp2
  go_ret
  exact ⟨rfl, rfl⟩
theorem Down_neg (a b : Int) (w : World) (ha : a ≤ 0) (hb : 1 ≤ b) (ha2 : -9223372036854775000 ≤ a) (_hb2 : b ≤ 9223372036854775807) :
    Calls Try.prog 51 #[.int .i64 a, .int .i64 b] w fun e w' => e = .returned (.int .i64 (a / b)) ∧ w = w' := by
  have hq := tdiv_floor (a := a) (b := b) (by omega)
  have h2 : -a / b ≤ -a := Int.ediv_le_self b (by omega)
  have h3 : 0 ≤ -a / b := Int.ediv_nonneg (by omega) (by omega)
  have e1 : a.tdiv b = -(-a / b) := by rw [← Int.neg_neg a, Int.neg_tdiv, Int.neg_neg, Int.tdiv_eq_ediv_of_nonneg (by omega)]
  have h4 : -9223372036854775000 ≤ a.tdiv b := by omega
  have h5 : a.tdiv b ≤ 0 := by omega
  clear e1 h2 h3
  have Hq := hide hq
  clear hq
  by_cases h0 : a = 0
  · subst h0
    clear h4 h5
    go_enter Try.func51, Try.ntmps51
    go_wp2
    go_ret
    exact ⟨ret_int (by simp), rfl⟩
  have h6 : ¬ 0 ≤ a := by omega
  clear h0
  go_enter Try.func51, Try.ntmps51
  go_wp2
  all_goals
    go_ret
    exact ⟨ret_int (by rw [Hq.out]; first | rw [if_pos (by assumption)] | rw [if_neg (by omega)]), rfl⟩
theorem Up_big (a b : Int) (w : World) (ha : 0 ≤ a) (hb : 1 ≤ b) (ha2 : a ≤ 9223372036854775000) (hb2 : b ≤ 9223372036854775807) :
    Calls Try.prog 52 #[.int .i64 a, .int .i64 b] w fun e w' => e = .returned (.int .i64 (cdiv a b)) ∧ w = w' := by
  have h2 : -9223372036854775000 ≤ -a / b := by
    have := (Int.le_ediv_iff_mul_le (a := -9223372036854775000) (b := -a) (c := b) (by omega)).2 (by
      have : -9223372036854775000 * b ≤ -9223372036854775000 * 1 := by omega
      omega)
    exact this
  have h3 : -a / b ≤ 0 := by
    have := Int.ediv_lt_of_lt_mul (a := -a) (b := 1) (c := b) (by omega) (by omega)
    omega
  go_enter Try.func52, Try.ntmps52
  go_wp2_with (go_at_call 51; refine (Down_neg _ _ _ (by omega) hb (by omega) hb2).mono ?_; rintro e w' ⟨rfl, rfl⟩)
  go_ret
  exact ⟨rfl, rfl⟩

theorem min_nn {a b : Int} (ha : 0 ≤ a) (hb : 0 ≤ b) : 0 ≤ min a b := by omega

set_option maxHeartbeats 2000000 in
set_option maxRecDepth 100000 in
theorem RefSum_any (A : Option Addr) (n c : Nat) (zs : List Int) (ed sl : Int) (w : World) (hz : zs.length = n * 3) (hmax : n ≤ 9223372036854775807) (hl : Ints w w.heap.size .i64 A zs) :
    Calls Try.prog 23 #[.slice A n c, .int .i64 ed, .int .i64 sl] w fun e w' => e = .returned (spanE (sumR (fun j => zs.getD j 0) n ed sl)) ∧ Below w.heap.size w w' := by
  by_cases h0 : n = 0
  · subst h0
    have hR : sumR (fun j => zs.getD j 0) 0 ed sl = ((0, 0), 18) := rfl
    rw [hR]
    go_enter Try.func23, Try.ntmps23
    go_wp2
    refine bodyPost_ret (v := spanE ((0, 0), 18)) (by simp [spanE, results, Try.results23, go_sem]) rfl ⟨rfl, ?_⟩
    repeat (first | exact Below.refl _ _ | (refine Below.setCell ?_ (by first | omega | (simp; done) | (simp; omega)) _) | (refine Below.alloc ?_ (by first | omega | (simp; done) | (simp; omega)) _) | (refine below_drewN ?_ _))
  generalize hzf : (fun j => zs.getD j 0) = z
  have hn0 : ((n : Int) == 0) = false := beq_eq_false_iff_ne.2 (by omega)
  have hn1 : (0 : Int) < n := by omega
  have hR : sumR z n ed sl = if scanE z 0 n ≠ 0 then ((0, 0), scanE z 0 n) else if (win ed 0 4294967296 && win sl 0 1000) = false then ((0, 0), 3) else if ed < z ((n - 1) * 3) then ((0, 0), 17)
      else ((totL z n ed * (1000 - sl) / 360000, cdiv (totH z n ed * (1000 + sl)) 360000), 0) := by unfold sumR; rw [if_neg h0]
  obtain ⟨b, off, rfl, hb, hc⟩ := hl.pt3 hz (by omega)
  have hc' : ∀ k, k < n → w.cell? ⟨b, off + k * 3, none⟩ = some (.int .i64 (z (k * 3))) ∧ w.cell? ⟨b, off + k * 3 + 1, none⟩ = some (.int .i64 (z (k * 3 + 1))) ∧ w.cell? ⟨b, off + k * 3 + 2, none⟩ = some (.int .i64 (z (k * 3 + 2))) := by
    rw [← hzf]; exact hc
  have HR := hide hR
  have Hc := hide hc'
  generalize sumR z n ed sl = r at *
  clear hR hc hc' hl hz hzf
  go_enter Try.func23, Try.ntmps23
  go_wp2_with fail
  go_loopw [8] (fun i wr => ∃ k : Nat, k ≤ n ∧ i = .int .i64 k ∧ Below w.heap.size w wr ∧ Blk wr w.heap.size 24 #[.int .i64 0, .int .i64 0] ∧ scanE z k (n - k) = scanE z 0 n)
    (fun i _ => n - (intOf i).toNat)
  case atStart => exact ⟨0, by omega, rfl, (Below.refl _ _).alloc (Nat.le_refl _) _, Blk.new _ _ _, rfl⟩
  case round =>
    obtain ⟨k, hk, rfl, hbw, hbl, hg⟩ := hrel
    have Hg := hide hg
    have Hbl := hide hbl
    have Hbw := hide hbw
    clear hg hbl hbw
    have hsz := Hbw.out.size
    by_cases hlt : k < n
    · obtain ⟨c0, c1, c2⟩ := Hc.out k hlt
      rw [← Hbw.out.cell hb] at c0 c1 c2
      have hst := scan_step z n k hlt
      rw [Hg.out] at hst
      have hno := @okR_no z k
      by_cases hg : okR z k = true
      · rw [if_neg (by simp [hg])] at hst
        have hw1 : win (z (k * 3)) 0 4294967296 = true := by simp [okR] at hg; exact hg.1
        have hw2 : ins (z (k * 3 + 1)) (z (k * 3 + 2)) 1000000 = true := by simp [okR] at hg; exact hg.2
        clear hno hg
        by_cases hk0 : k = 0
        · subst hk0
          rw [if_neg (by omega)] at hst
          have Hst := hide hst
          clear hst
          simp only [Nat.zero_mul, Nat.add_zero, Nat.zero_add] at c0 c1 c2 hw1 hw2
          generalize z 0 = z0 at *
          generalize z 1 = z1 at *
          generalize z 2 = z2 at *
          go_wp2_with (go_at_call 44; refine (In_any _ _ _ _).mono ?_; rintro e w' ⟨rfl, rfl⟩)
          refine (Valid_any _ _ _ _).mono ?_
          rintro e w1 ⟨rfl, hb1⟩
          have HB1 := hide (onward Hbw.out hb1)
          have Hbo := hide (blk_later Hbl.out hb1)
          clear hb1 c0 c1 c2 Hbw Hbl
          go_wp2_with fail
          go_quiet (fail)
          go_wp2
          go_roundw
          case rel => exact ⟨1, by omega, rfl, below_drewN HB1.out _, Hbo.out, Hst.out.symm⟩
          case measure => simp [intOf] <;> omega
        · obtain ⟨j, rfl⟩ : ∃ j, k = j + 1 := ⟨k - 1, by omega⟩
          obtain ⟨p0, -, -⟩ := Hc.out j (by omega)
          rw [Nat.add_sub_cancel] at hst
          clear hk0
          generalize z (j * 3) = t0 at p0 hst
          generalize z ((j + 1) * 3) = z0 at *
          generalize z ((j + 1) * 3 + 1) = z1 at *
          generalize z ((j + 1) * 3 + 2) = z2 at *
          have Hp0 := hide p0
          have Hc0 := hide c0
          clear p0
          have q0 : decide (0 < (j : Int) + 1) = true := decide_eq_true (by omega)
          by_cases hle : z0 ≤ t0
          · rw [if_pos ⟨by omega, hle⟩] at hst
            have Hst := hide hst
            clear hst
            have q1 : decide (z0 ≤ t0) = true := decide_eq_true hle
            go_wp2_with (go_at_call 44; refine (In_any _ _ _ _).mono ?_; rintro e w' ⟨rfl, rfl⟩)
            refine (Valid_any _ _ _ _).mono ?_
            rintro e w1 ⟨rfl, hb1⟩
            have B1 := onward Hbw.out hb1
            have bo := blk_later Hbl.out hb1
            have p0 := Hp0.out
            have p1 := Hc0.out
            rw [Hbw.out.cell hb] at p1
            rw [← B1.cell hb] at p0 p1
            have HB1 := hide B1
            obtain ⟨u0, u1⟩ := bo.c2
            have f0 := bo.frozen 0
            have f1 := bo.frozen 1
            have lo := bo.lt
            clear hb1 bo B1 Hbw Hbl c0 c1 c2
            go_wp2_with fail
            go_quiet (fail)
            go_wp2
            have hr := HR.out
            rw [if_pos (by rw [Hst.out]; decide), Hst.out] at hr
            refine bodyPost_ret (v := spanE r) (by rw [hr]; simp [spanE, results, Try.results23, go_sem, u0, u1, f0, f1, lo]) rfl ⟨rfl, ?_⟩
            repeat (first | exact HB1.out | (refine Below.setCell ?_ (by first | omega | (simp; done) | (simp; omega)) _) | (refine Below.alloc ?_ (by first | omega | (simp; done) | (simp; omega)) _) | (refine below_drewN ?_ _))
          · rw [if_neg (by omega)] at hst
            have Hst := hide hst
            clear hst
            have q1 : decide (z0 ≤ t0) = false := decide_eq_false hle
            go_wp2_with (go_at_call 44; refine (In_any _ _ _ _).mono ?_; rintro e w' ⟨rfl, rfl⟩)
            refine (Valid_any _ _ _ _).mono ?_
            rintro e w1 ⟨rfl, hb1⟩
            have B1 := onward Hbw.out hb1
            have p0 := Hp0.out
            have p1 := Hc0.out
            rw [Hbw.out.cell hb] at p1
            rw [← B1.cell hb] at p0 p1
            have HB1 := hide B1
            have Hbo := hide (blk_later Hbl.out hb1)
            clear hb1 B1 Hbw Hbl c0 c1 c2
            go_wp2_with fail
            go_quiet (fail)
            go_wp2
            go_roundw
            case rel => exact ⟨j + 1 + 1, by omega, by go_num, below_drewN HB1.out _, Hbo.out, Hst.out.symm⟩
            case measure => simp [intOf] <;> omega
      · have hg' : okR z k = false := by simpa using hg
        rw [if_pos hg'] at hst
        have hno' := hno hg'
        have Hst := hide hst
        clear hst hno hg hg'
        generalize z (k * 3) = z0 at *
        generalize z (k * 3 + 1) = z1 at *
        generalize z (k * 3 + 2) = z2 at *
        have hr := HR.out
        rw [if_pos (by rw [Hst.out]; decide), Hst.out] at hr
        have HR2 := hide hr
        clear hr
        obtain ⟨u0, u1⟩ := Hbl.out.c2
        have f0 := Hbl.out.frozen 0
        have f1 := Hbl.out.frozen 1
        have lo := Hbl.out.lt
        rcases hno' with hw1 | ⟨hw1, hw2⟩
        · go_wp2_with (go_at_call 44; refine (In_any _ _ _ _).mono ?_; rintro e w' ⟨rfl, rfl⟩)
          refine bodyPost_ret (v := spanE r) (by rw [HR2.out]; simp [spanE, results, Try.results23, go_sem, u0, u1, f0, f1, lo]) rfl ⟨rfl, ?_⟩
          repeat (first | exact Hbw.out | (refine Below.setCell ?_ (by first | omega | (simp; done) | (simp; omega)) _) | (refine Below.alloc ?_ (by first | omega | (simp; done) | (simp; omega)) _) | (refine below_drewN ?_ _))
        · go_wp2_with (go_at_call 44; refine (In_any _ _ _ _).mono ?_; rintro e w' ⟨rfl, rfl⟩)
          refine (Valid_any _ _ _ _).mono ?_
          rintro e w1 ⟨rfl, hb1⟩
          have bo := blk_later Hbl.out hb1
          have HB1 := hide (onward Hbw.out hb1)
          clear u0 u1 f0 f1 lo c0 c1 c2
          obtain ⟨u0, u1⟩ := bo.c2
          have f0 := bo.frozen 0
          have f1 := bo.frozen 1
          have lo := bo.lt
          clear hb1 bo Hbw Hbl
          go_wp2
          refine bodyPost_ret (v := spanE r) (by rw [HR2.out]; simp [spanE, results, Try.results23, go_sem, u0, u1, f0, f1, lo]) rfl ⟨rfl, ?_⟩
          repeat (first | exact HB1.out | (refine Below.setCell ?_ (by first | omega | (simp; done) | (simp; omega)) _) | (refine Below.alloc ?_ (by first | omega | (simp; done) | (simp; omega)) _) | (refine below_drewN ?_ _))
    · obtain rfl : k = n := by omega
      have hs0 : scanE z 0 k = 0 := by rw [← Hg.out, Nat.sub_self]; rfl
      have hgd := good3_of hs0
      obtain ⟨m, rfl⟩ : ∃ m, k = m + 1 := ⟨k - 1, by omega⟩
      have hr := HR.out
      rw [if_neg (by rw [hs0]; simp), Nat.add_sub_cancel] at hr
      have HR2 := hide hr
      have Hgd := hide hgd
      obtain ⟨c0, c1, c2⟩ := Hc.out m (by omega)
      rw [← Hbw.out.cell hb] at c0 c1 c2
      clear hr hs0 hgd HR Hg hlt
      obtain ⟨u0, u1⟩ := Hbl.out.c2
      have f0 := Hbl.out.frozen 0
      have f1 := Hbl.out.frozen 1
      have lo := Hbl.out.lt
      generalize hT : z (m * 3) = T at *
      have HT := hide hT
      clear hT
      by_cases hw1 : win ed 0 4294967296 = true
      · by_cases hw2 : win sl 0 1000 = true
        · have hr := HR2.out
          rw [if_neg (by simp [hw1, hw2])] at hr
          by_cases hle : T ≤ ed
          · rw [if_neg (by omega)] at hr
            have HR3 := hide hr
            have b1 := win_iff.1 hw1
            have b2 := win_iff.1 hw2
            obtain ⟨e1, e2⟩ := b1
            obtain ⟨e3, e4⟩ := b2
            have q1 : decide (ed < T) = false := decide_eq_false (by omega)
            clear hr HR2
            go_wp2_with (go_at_call 44; refine (In_any _ _ _ _).mono ?_; rintro e w' ⟨rfl, rfl⟩)
            clear c0 c1 c2 u0 u1 f0 f1 q1
            go_loopw [9, 10, 11] (fun L H i wr' => ∃ k : Nat, k ≤ m + 1 ∧ i = .int .i64 k ∧ L = .int .i64 ((if k ≤ m then psL z k else totL z (m + 1) ed) * (1000 - sl)) ∧ H = .int .i64 ((if k ≤ m then psH z k else totH z (m + 1) ed) * (1000 + sl)) ∧ Below w.heap.size w wr' ∧ Blk wr' w.heap.size 24 #[.int .i64 0, .int .i64 0])
              (fun _ _ i _ => m + 1 - (intOf i).toNat)
            case atStart => exact ⟨0, by omega, rfl, by simp [psL], by simp [psH], Hbw.out, Hbl.out⟩
            case round =>
              obtain ⟨k, hk, rfl, rfl, rfl, hbw', hbl'⟩ := hrel
              have Hbw' := hide hbw'
              have Hbl' := hide hbl'
              have hsz' := hbw'.size
              have hbr : b < wr.heap.size := by omega
              have hwr0 : w.heap.size < wr.heap.size := hbl'.lt
              clear hbw' hbl' Hbw Hbl
              by_cases hlt : k < m + 1
              · rw [if_pos (by omega), if_pos (by omega)]
                obtain ⟨a0, a1, a2⟩ := Hc.out k (by omega)
                have Ha0 := hide a0
                have Ha1 := hide a1
                have Ha2 := hide a2
                have hmn := mono3 Hgd.out m k (by omega) (by omega)
                rw [HT.out] at hmn
                have hz0 := (okR_iff.1 (Hgd.out.ok k (by omega))).1.1
                clear a0 a1 a2
                by_cases hkm : k < m
                · obtain ⟨mn, mx, emn, emx, eL, eH, sb, sb2, rb, t1, t2, t3⟩ := round_mid Hgd.out (k := k) (s := sl) (by omega) e3 e4
                  obtain ⟨d0, d1, d2⟩ := Hc.out (k + 1) (by omega)
                  have EL := hide eL
                  have EH := hide eH
                  clear eL eH HR3 Hgd Hc hn0 hn1 h0
                  generalize psL z k * (1000 - sl) = L0 at *
                  generalize psH z k * (1000 + sl) = H0 at *
                  generalize z (k * 3) = ta at *
                  generalize z (k * 3 + 1) = la at *
                  generalize z (k * 3 + 2) = ha at *
                  generalize z ((k + 1) * 3) = tb at *
                  generalize z ((k + 1) * 3 + 1) = lb at *
                  generalize z ((k + 1) * 3 + 2) = hb' at *
                  have Hd0 := hide d0
                  have Hd1 := hide d1
                  have Hd2 := hide d2
                  have a0 := Ha0.out
                  have a1 := Ha1.out
                  have a2 := Ha2.out
                  rw [← Hbw'.out.cell hb] at a0 a1 a2
                  clear d0 d1 d2
                  go_wp2_with fail
                  apply wp_region_L (w0 := wr) [[], [], [], [], [], [], [], [], [], [], [], [], [], [12], []] [true, true, true, true, true, true, true, true, true, true, true, true, false, false, true] [⟨12, none, [], []⟩, ⟨13, some 12, [12], [12]⟩] (fun i y => match i with | 12 => .pointer (y 0).1 | 13 => undef | _ => undef) (fun i x F w => match i with | 12 => PtrF w F wr.heap.size (x 12 0).1 24 #[.int .i64 0, .int .i64 0] | 13 => PtrF w F wr.heap.size (x 12 0).1 24 #[.int .i64 la, .int .i64 ha] | _ => True) (fun a x => (a).put (some 12) (.pointer ((x 12) 0).1)) (by kernel_rfl) (by kernel_rfl) (fun _ => rfl) [] (by kernel_rfl)
                  · intro x D hD
                    have hne := hD.some
                    have k0 := liftB hD a0 (by first | assumption | omega)
                    have k1 := liftB hD a1 (by first | assumption | omega)
                    have k2 := liftB hD a2 (by first | assumption | omega)
                    simp only [takeOps, Act.put, List.setIfInBounds_toArray, List.set_cons_succ, List.set_cons_zero]
                    repeat (go_big_quiet_step (fail))
                    exact wpQuiet_nil rfl
                  · exact fun _ h => absurd h (by simp)
                  · refine ⟨?_, ?_, trivial⟩
                    · exact obl_alloc 24 12 (.agg #[.int .i64 0, .int .i64 0]) (by kernel_rfl) (by kernel_rfl) (fun _ => rfl) (fun _ _ _ h => h)
                    · refine obl_store 24 12 87 12 #[.int .i64 0, .int .i64 0] (fun x => #[.int .i64 la, .int .i64 ha]) (by kernel_rfl) rfl (by simp) (fun _ _ _ h => h) (fun _ => rfl) (fun _ => rfl) (fun _ => by kernel_rfl) (fun _ => rfl) (fun _ => by simp [Value.oneCell']) (fun _ => rfl) (by decide) (fun _ _ _ _ h => h)
                  · refine ⟨?_, ?_, trivial⟩
                    · exact owe_ptr 12 _ _ (fun x => #[.int .i64 0, .int .i64 0]) (fun _ _ _ => rfl) (by simp) (fun _ _ _ => rfl)
                    · exact owe_ptr 12 _ _ (fun x => #[.int .i64 la, .int .i64 ha]) (fun _ _ _ => rfl) (by simp) (fun _ _ _ => rfl)
                  intro xx w1 F hL1 hlv1
                  obtain ⟨-, fct13, -⟩ := hlv1
                  replace fct13 : PtrF w1 (F 13) wr.heap.size (xx 12 0).1 24 #[.int .i64 la, .int .i64 ha] := fct13 rfl
                  obtain ⟨g, hgx, hge, -, hbg⟩ := fct13
                  rw [hgx]
                  have HB1 := hide (onward Hbw'.out hL1)
                  have Hbo1 := hide (blk_later Hbl'.out hL1)
                  have Hbg := hide hbg
                  have ltg := hbg.lt
                  have sz1 := hL1.size
                  obtain ⟨x0, x1⟩ := hbg.c2
                  have d1 := Hd1.out
                  have d2 := Hd2.out
                  rw [← HB1.out.cell hb] at d1 d2
                  clear hgx hbg hL1 a0 a1 a2
                  have hb1 : b < w1.heap.size := by omega
                  go_wp2_with fail
                  apply wp_region_F (w0 := w1) [[], [0], [], [], [3], [2, 3, 4], [2, 3, 4, 5], [2, 3, 4, 5, 6], [2, 3, 4, 5, 6, 7], [0, 1, 2, 3, 4, 5, 6, 7, 8], [], [10], [], [], [13], [12, 13, 14], [12, 13, 14, 15], [12, 13, 14, 15, 16], [12, 13, 14, 15, 16, 17], [10, 11, 12, 13, 14, 15, 16, 17, 18], [0, 1, 2, 3, 4, 5, 6, 7, 8, 9, 10, 11, 12, 13, 14, 15, 16, 17, 18, 19], [0, 1, 2, 3, 4, 5, 6, 7, 8, 9, 10, 11, 12, 13, 14, 15, 16, 17, 18, 19, 20]] [true, true, true, true, true, true, true, true, true, true, true, true, true, true, true, true, true, true, true, true, true, false] [false, false, false, false, false, false, false, false, false, false, false, false, false, false, false, false, false, false, false, false, false, false] [⟨21, none, [], []⟩] [(21, g)] [21] (fun i y => match i with | 21 => undef | _ => undef) (fun i x F w => match i with | 21 => F g ∧ Blk w g 24 #[.int .i64 mn, .int .i64 mx] | _ => True) (fun a x => a) (by kernel_rfl) (by kernel_rfl) (by kernel_rfl) (fun _ => rfl) [] (by kernel_rfl) (fills_lt1 (by omega)) fills_ne1
                  · intro x D hD
                    have hne := hD.some
                    have k0 := liftS hD x0 (by exact early_all (by first | assumption | omega) (by rfl))
                    have k1 := liftS hD x1 (by exact early_all (by first | assumption | omega) (by rfl))
                    have k2 := liftS hD d1 (by exact early_all (by first | assumption | omega) (by rfl))
                    have k3 := liftS hD d2 (by exact early_all (by first | assumption | omega) (by rfl))
                    simp only [takeOps, Act.put, List.setIfInBounds_toArray, List.set_cons_succ, List.set_cons_zero]
                    repeat (go_big_quiet_step (fail))
                    exact wpQuiet_nil rfl
                  · exact fun x D hD => wpQuiet_nil rfl
                  · exact fun _ h => absurd h (by simp)
                  · refine ⟨?_, trivial⟩
                    · exact obl_fill 24 24 12 120 g _ (fun x => #[.int .i64 mn, .int .i64 mx]) (by kernel_rfl) (fun _ => rfl) (fun _ => rfl) Hbg.out eb_fill1 (by simp [wrF]) (fun _ => by kernel_rfl) (fun _ => rfl) (fun _ => by simp [Value.oneCell']) (fun _ => rfl) (fun _ _ _ _ h1 h2 => ⟨h1, h2⟩)
                  · refine ⟨?_, trivial⟩
                    · exact owe_fill g 24 (fun x => #[.int .i64 mn, .int .i64 mx]) (fun _ _ _ => rfl) (fun _ _ _ => rfl)
                  intro xx2 w2 F hK hlv2
                  obtain ⟨fct21, -⟩ := hlv2
                  replace fct21 : (F 21) g ∧ Blk w2 g 24 #[.int .i64 mn, .int .i64 mx] := fct21 rfl
                  have hgr := grown_kept hK
                  have HB2 := hide (below_grown HB1.out hgr HB1.out.size (fun q hq => by simp at hq; omega))
                  have Hbo2 := hide (blk_grown Hbo1.out hgr (by simp; omega))
                  have bg2 := fct21.2
                  obtain ⟨y0, y1⟩ := bg2.c2
                  have ltg2 := bg2.lt
                  have d0 := Hd0.out
                  have a0 := Ha0.out
                  rw [← HB2.out.cell hb] at d0 a0
                  clear hgr hK fct21 bg2 x0 x1 d1 d2 ltg hb1 sz1 HB1 Hbo1 Hbg emn emx
                  go_wp2_with fail
                  go_quiet (fail)
                  clear a0 d0
                  obtain ⟨s1, s2, s3, s4⟩ := sb
                  obtain ⟨s5, s6, s7, s8⟩ := sb2
                  obtain ⟨r1, r2, r3, r4, r5, r6, r7, r8⟩ := rb
                  go_wp2
                  go_roundw
                  case rel => exact ⟨k + 1, by omega, by go_num, by rw [if_pos (by omega), EL.out], by rw [if_pos (by omega), EH.out], below_drewN HB2.out _, Hbo2.out⟩
                  case measure => simp [intOf] <;> omega
                · obtain rfl : k = m := by omega
                  rw [← HT.out] at hle
                  obtain ⟨eL, eH, sb, sb2, rb, t1⟩ := round_last Hgd.out (s := sl) hle e2 e3 e4
                  have EL := hide eL
                  have EH := hide eH
                  clear eL eH HR3 Hgd Hc hn0 hn1 h0 HT hmn
                  generalize psL z k * (1000 - sl) = L0 at *
                  generalize psH z k * (1000 + sl) = H0 at *
                  generalize z (k * 3) = ta at *
                  generalize z (k * 3 + 1) = la at *
                  generalize z (k * 3 + 2) = ha at *
                  have a0 := Ha0.out
                  have a1 := Ha1.out
                  have a2 := Ha2.out
                  rw [← Hbw'.out.cell hb] at a0 a1 a2
                  go_wp2_with fail
                  apply wp_region_L (w0 := wr) [[], [], [], [], [], [], [], [], [], [], [], [], [], [12], []] [true, true, true, true, true, true, true, true, true, true, true, true, false, false, true] [⟨12, none, [], []⟩, ⟨13, some 12, [12], [12]⟩] (fun i y => match i with | 12 => .pointer (y 0).1 | 13 => undef | _ => undef) (fun i x F w => match i with | 12 => PtrF w F wr.heap.size (x 12 0).1 24 #[.int .i64 0, .int .i64 0] | 13 => PtrF w F wr.heap.size (x 12 0).1 24 #[.int .i64 la, .int .i64 ha] | _ => True) (fun a x => (a).put (some 12) (.pointer ((x 12) 0).1)) (by kernel_rfl) (by kernel_rfl) (fun _ => rfl) [] (by kernel_rfl)
                  · intro x D hD
                    have hne := hD.some
                    have k0 := liftB hD a0 (by first | assumption | omega)
                    have k1 := liftB hD a1 (by first | assumption | omega)
                    have k2 := liftB hD a2 (by first | assumption | omega)
                    simp only [takeOps, Act.put, List.setIfInBounds_toArray, List.set_cons_succ, List.set_cons_zero]
                    repeat (go_big_quiet_step (fail))
                    exact wpQuiet_nil rfl
                  · exact fun _ h => absurd h (by simp)
                  · refine ⟨?_, ?_, trivial⟩
                    · exact obl_alloc 24 12 (.agg #[.int .i64 0, .int .i64 0]) (by kernel_rfl) (by kernel_rfl) (fun _ => rfl) (fun _ _ _ h => h)
                    · refine obl_store 24 12 87 12 #[.int .i64 0, .int .i64 0] (fun x => #[.int .i64 la, .int .i64 ha]) (by kernel_rfl) rfl (by simp) (fun _ _ _ h => h) (fun _ => rfl) (fun _ => rfl) (fun _ => by kernel_rfl) (fun _ => rfl) (fun _ => by simp [Value.oneCell']) (fun _ => rfl) (by decide) (fun _ _ _ _ h => h)
                  · refine ⟨?_, ?_, trivial⟩
                    · exact owe_ptr 12 _ _ (fun x => #[.int .i64 0, .int .i64 0]) (fun _ _ _ => rfl) (by simp) (fun _ _ _ => rfl)
                    · exact owe_ptr 12 _ _ (fun x => #[.int .i64 la, .int .i64 ha]) (fun _ _ _ => rfl) (by simp) (fun _ _ _ => rfl)
                  intro xx w1 F hL1 hlv3
                  obtain ⟨-, fct13, -⟩ := hlv3
                  replace fct13 : PtrF w1 (F 13) wr.heap.size (xx 12 0).1 24 #[.int .i64 la, .int .i64 ha] := fct13 rfl
                  obtain ⟨g, hgx, hge, -, hbg⟩ := fct13
                  rw [hgx]
                  have HB1 := hide (onward Hbw'.out hL1)
                  have Hbo1 := hide (blk_later Hbl'.out hL1)
                  have ltg := hbg.lt
                  obtain ⟨x0, x1⟩ := hbg.c2
                  clear hgx hbg hL1 a0 a1 a2
                  obtain ⟨s1, s2, s3, s4⟩ := sb
                  obtain ⟨s5, s6, s7, s8⟩ := sb2
                  obtain ⟨r1, r2, r3, r4, r5, r6, r7, r8⟩ := rb
                  go_wp2
                  go_roundw
                  case rel => exact ⟨k + 1, by omega, by go_num, by rw [if_neg (by omega), EL.out], by rw [if_neg (by omega), EH.out], HB1.out, Hbo1.out⟩
                  case measure => simp [intOf] <;> omega
              · obtain rfl : k = m + 1 := by omega
                rw [if_neg (by omega), if_neg (by omega)]
                rw [← HT.out] at hle
                have ht := tot_bd Hgd.out (by omega) (e := ed) (by rw [Nat.add_sub_cancel]; exact hle) e2
                have sb := sumBd_of ht.1 ht.2.1 ht.2.2 e3 e4
                obtain ⟨s1, s2, s3, s4⟩ := sb
                clear ht Hgd Hc HT hn0 hn1 h0
                generalize totL z (m + 1) ed * (1000 - sl) = L0 at *
                generalize totH z (m + 1) ed * (1000 + sl) = H0 at *
                obtain ⟨u0, u1⟩ := Hbl'.out.c2
                have f0 := Hbl'.out.frozen 0
                have f1 := Hbl'.out.frozen 1
                go_wp2_with (first | (go_at_call 51; refine (Down_big _ _ _ (by omega) (by omega) (by omega) (by omega)).mono ?_; rintro e w' ⟨rfl, rfl⟩) | (go_at_call 52; refine (Up_big _ _ _ (by omega) (by omega) (by omega) (by omega)).mono ?_; rintro e w' ⟨rfl, rfl⟩))
                refine bodyPost_ret (v := spanE r) (by rw [HR3.out]; simp [spanE, results, Try.results23, go_sem, u0, u1, f0, f1, hwr0]) rfl ⟨rfl, ?_⟩
                repeat (first | exact Hbw'.out | (refine Below.setCell ?_ (by first | omega | (simp; done) | (simp; omega)) _) | (refine Below.alloc ?_ (by first | omega | (simp; done) | (simp; omega)) _) | (refine below_drewN ?_ _))
          · rw [if_pos (by omega)] at hr
            have HR3 := hide hr
            have q1 : decide (ed < T) = true := decide_eq_true (by omega)
            clear hr HR2
            go_wp2_with (go_at_call 44; refine (In_any _ _ _ _).mono ?_; rintro e w' ⟨rfl, rfl⟩)
            refine bodyPost_ret (v := spanE r) (by rw [HR3.out]; simp [spanE, results, Try.results23, go_sem, u0, u1, f0, f1, lo]) rfl ⟨rfl, ?_⟩
            repeat (first | exact Hbw.out | (refine Below.setCell ?_ (by first | omega | (simp; done) | (simp; omega)) _) | (refine Below.alloc ?_ (by first | omega | (simp; done) | (simp; omega)) _) | (refine below_drewN ?_ _))
        · have hw3 : win sl 0 1000 = false := by simpa using hw2
          have hr := HR2.out
          rw [if_pos (by simp [hw3])] at hr
          have HR3 := hide hr
          clear hr HR2 hw2
          go_wp2_with (go_at_call 44; refine (In_any _ _ _ _).mono ?_; rintro e w' ⟨rfl, rfl⟩)
          refine bodyPost_ret (v := spanE r) (by rw [HR3.out]; simp [spanE, results, Try.results23, go_sem, u0, u1, f0, f1, lo]) rfl ⟨rfl, ?_⟩
          repeat (first | exact Hbw.out | (refine Below.setCell ?_ (by first | omega | (simp; done) | (simp; omega)) _) | (refine Below.alloc ?_ (by first | omega | (simp; done) | (simp; omega)) _) | (refine below_drewN ?_ _))
      · have hw3 : win ed 0 4294967296 = false := by simpa using hw1
        have hr := HR2.out
        rw [if_pos (by simp [hw3])] at hr
        have HR3 := hide hr
        clear hr HR2 hw1
        go_wp2_with (go_at_call 44; refine (In_any _ _ _ _).mono ?_; rintro e w' ⟨rfl, rfl⟩)
        refine bodyPost_ret (v := spanE r) (by rw [HR3.out]; simp [spanE, results, Try.results23, go_sem, u0, u1, f0, f1, lo]) rfl ⟨rfl, ?_⟩
        repeat (first | exact Hbw.out | (refine Below.setCell ?_ (by first | omega | (simp; done) | (simp; omega)) _) | (refine Below.alloc ?_ (by first | omega | (simp; done) | (simp; omega)) _) | (refine below_drewN ?_ _))
end Go.Proofs.Ytmglgahagbfbkaa
