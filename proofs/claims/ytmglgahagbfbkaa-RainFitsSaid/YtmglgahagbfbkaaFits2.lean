/-
  RainFits, where some scales suit all pairs.
-/
import Derived.Test.YtmglgahagbfbkaaFits
namespace Go.Proofs.Ytmglgahagbfbkaa
open Go.RowKit

theorem src_ints {w0 w : World} {S : Nat → Prop} {b off : Nat} {zs : List Int} (hk : Kept S w0 w) (hS : S b) (hc : ∀ j, j < zs.length → w0.cell? ⟨b, off + j, none⟩ = some (.int .i64 (zs.getD j 0))) : ∀ j u, (zs.map (Value.int .i64))[j]? = some u → w.cell? ((⟨b, off, none⟩ : Addr).add j) = some u := fun j u hu => by
  rw [List.getElem?_map] at hu
  cases hz : zs[j]? with
  | none => rw [hz] at hu; cases hu
  | some v =>
    rw [hz] at hu
    have hj : j < zs.length := (List.getElem?_eq_some_iff.1 hz).1
    have h1 := hc j hj
    have h2 : zs.getD j 0 = v := by simp [List.getD, hz]
    rw [h2] at h1
    have e : ((⟨b, off, none⟩ : Addr).add j) = ⟨b, off + j, none⟩ := by unfold Addr.add; split <;> simp_all
    rw [e, ← Option.some.inj hu, ← h1]
    have hb := hk.block b hS
    simp only [World.cell?, hb]
theorem own_cap {w : World} {base : Nat} {e : TypeId} {size n c : Nat} {A : Option Addr} {xs : List Value} (h : w.ownsRow base e size (.slice A n c) n xs) : n ≤ c ∧ c ≤ 9223372036854775807 := by
  rcases h.2 with ⟨hv, _⟩ | ⟨g, cap, cur, hv, _, _, h1, h2, _⟩
  · injection hv with e1 e2 e3; omega
  · injection hv with e1 e2 e3
    unfold maxLen at h2
    omega

set_option maxHeartbeats 8000000 in
set_option maxRecDepth 100000 in
/-- Some scales suit all pairs. -/
theorem fits_ok (b off n c : Nat) (zs : List Int) (sc out : Int) (w : World) (h20 : ¬ (20 : Int) < n) (hn : 0 < n) (hz : zs.length = n * 4) (hcap : n ≤ c) (hcm : c ≤ 9223372036854775807) (hs0 : 0 ≤ sc) (hs1 : sc ≤ 4294967295) (ho0 : 0 ≤ out) (ho1 : out ≤ 255) (hb : b < w.heap.size)
    (hc : ∀ j, j < zs.length → w.cell? ⟨b, off + j, none⟩ = some (.int .i64 (zs.getD j 0))) (s1 s2 : Int) (r1 : 1 ≤ s1) (r2 : s1 ≤ s2) (r3 : s2 ≤ 100000)
    (hok : ∀ k, k < n → okZ (fun j => zs.getD j 0) k = true) (hm : (s1, s2) = meetG (scZ (fun j => zs.getD j 0)) (1, 100000) n)
    (hadj : Calls Try.prog 31 #[.slice (some ⟨b, off, none⟩) n c] w fun e w' => e = .returned (adjV (((s1, s2), (0, 0)), 0)) ∧ Below w.heap.size w w') : FitsSaid (some ⟨b, off, none⟩) n c sc out w := by
  unfold FitsSaid
  unfold adjV at hadj
  simp only at hadj
  have m1 : s1 = (meetG (scZ (fun j => zs.getD j 0)) (1, 100000) n).1 := congrArg Prod.fst hm
  have m2 : s2 = (meetG (scZ (fun j => zs.getD j 0)) (1, 100000) n).2 := congrArg Prod.snd hm
  have hall : ∀ k, k < n → ∀ f, s1 ≤ f → f ≤ s2 → suitZ (fun j => zs.getD j 0) k f = true := fun k hk f h1 h2 => suits_all hk (hok k hk) (by omega) (by omega)
  have hin : ∀ f, 1 ≤ f → f ≤ 100000 → (∀ k, k < n → suitZ (fun j => zs.getD j 0) k f = true) → s1 ≤ f ∧ f ≤ s2 := fun f h1 h2 h => by
    have := all_suits hok h1 h2 h; omega
  have hpt : ∀ k, k < n → w.cell? ⟨b, off + k * 4, none⟩ = some (.int .i64 (zs.getD (k * 4) 0)) ∧ w.cell? ⟨b, off + k * 4 + 1, none⟩ = some (.int .i64 (zs.getD (k * 4 + 1) 0)) ∧ w.cell? ⟨b, off + k * 4 + 2, none⟩ = some (.int .i64 (zs.getD (k * 4 + 2) 0)) ∧ w.cell? ⟨b, off + k * 4 + 3, none⟩ = some (.int .i64 (zs.getD (k * 4 + 3) 0)) := fun k hk =>
    ⟨hc (k * 4) (by omega), hc (k * 4 + 1) (by omega), hc (k * 4 + 2) (by omega), hc (k * 4 + 3) (by omega)⟩
  have hsu : ∀ k, k < n → ∀ f W, 0 ≤ f → f ≤ 120000 → Calls Try.prog 33 #[.agg #[.int .i64 (zs.getD (k * 4) 0), .int .i64 (zs.getD (k * 4 + 1) 0), .int .i64 (zs.getD (k * 4 + 2) 0), .int .i64 (zs.getD (k * 4 + 3) 0)], .int .i64 f] W fun e w' => e = .returned (.bool (suitZ (fun j => zs.getD j 0) k f)) ∧ Below W.heap.size W w' := fun k hk f W h1 h2 => suits_any _ _ _ _ f W (hok k hk) h1 h2
  have hless : 1 < n → ∀ k, k < n → ∃ (l1 l2 : List Int) (a' b' : Int), l1.length = k * 4 ∧ l2.length = (n - (k + 1)) * 4 ∧ (∀ j, j < l1.length → w.cell? ⟨b, off + j, none⟩ = some (.int .i64 (l1.getD j 0))) ∧ (∀ j, j < l2.length → w.cell? ⟨b, off + (k + 1) * 4 + j, none⟩ = some (.int .i64 (l2.getD j 0))) ∧
      adjG (okZ fun j => (l1 ++ l2).getD j 0) (scZ fun j => (l1 ++ l2).getD j 0) (n - 1) = (((a', b'), (0, 0)), 0) ∧ a' ≤ s1 ∧ s2 ≤ b' := fun h1 k hk => by
    have e1 : (zs.take (k * 4)).length = k * 4 := by rw [List.length_take]; omega
    have e2 : (zs.drop ((k + 1) * 4)).length = (n - (k + 1)) * 4 := by rw [List.length_drop]; omega
    have g1 : ∀ j, j < k * 4 → (zs.take (k * 4)).getD j 0 = zs.getD j 0 := fun j hj => by
      simp [List.getD, List.getElem?_take, hj]
    have g2 : ∀ j, (zs.drop ((k + 1) * 4)).getD j 0 = zs.getD ((k + 1) * 4 + j) 0 := fun j => by
      simp [List.getD, List.getElem?_drop]
    have hle : (meetG (scZ (fun j => zs.getD j 0)) (1, 100000) n).1 ≤ (meetG (scZ (fun j => zs.getD j 0)) (1, 100000) n).2 := by omega
    obtain ⟨a', b', ha, hb1, hb2⟩ := adj_less (z := fun j => zs.getD j 0) (y := fun j => (zs.take (k * 4) ++ zs.drop ((k + 1) * 4)).getD j 0) h1 hk hok hle (by omega) (fun j hj => by
      by_cases hjk : j < k
      · refine ⟨j, by omega, fun q hq => ?_⟩
        have : j * 4 + q < (zs.take (k * 4)).length := by omega
        simp only [List.getD, List.getElem?_append_left this]
        exact g1 _ (by omega)
      · refine ⟨j + 1, by omega, fun q hq => ?_⟩
        have : (zs.take (k * 4)).length ≤ j * 4 + q := by omega
        simp only [List.getD, List.getElem?_append_right this]
        have := g2 (j * 4 + q - (zs.take (k * 4)).length)
        simp only [List.getD] at this
        rw [this]
        congr 2
        omega)
    refine ⟨_, _, a', b', e1, e2, fun j hj => ?_, fun j hj => ?_, ha, by omega, by omega⟩
    · rw [g1 j (by omega)]; exact hc j (by omega)
    · rw [g2 j, show off + (k + 1) * 4 + j = off + ((k + 1) * 4 + j) by omega]; exact hc _ (by omega)
  have Hall := hide hall
  have Hin := hide hin
  have Hpt := hide hpt
  have Hsu := hide hsu
  have Hless := hide hless
  clear hall hin hpt hsu hless m1 m2 hm hok hc hz
  generalize (fun j => zs.getD j 0) = z at *
  obtain ⟨F1, hF1⟩ : ∃ F1 : Int, F1 = if sc % 3 = 0 then s1 - 1 else sc % 120000 := ⟨_, rfl⟩
  obtain ⟨F, hF⟩ : ∃ F : Int, F = if sc % 3 = 1 then s2 + 1 else F1 := ⟨_, rfl⟩
  have hFb : 0 ≤ F ∧ F ≤ 120000 := by
    have : 0 ≤ F1 ∧ F1 ≤ 120000 := by rw [hF1]; split <;> omega
    rw [hF]; split <;> omega
  obtain ⟨hFa, hFb⟩ := hFb
  have HF1 := hide hF1
  have HF := hide hF
  clear hF hF1
  go_enter Try.func8, Try.ntmps8
  have HB := hide (Below.refl w.heap.size w)
  go_wp2_with fail
  refine (hadj).mono ?_
  rintro e w1 ⟨rfl, hb⟩
  replace HB := hide (onward HB.out hb)
  clear hb
  clear hadj
  go_upto_if 126 with fail
  refine code_world fun W hW => ?_
  have bq0 : Blk W w1.heap.size 24 #[.int .i64 s1, .int .i64 s2] := by rw [hW]; exact (Blk.new _ _ _).alloc _
  have LW : Later w1 W := by rw [hW]; exact (((Below.refl _ _).alloc (Nat.le_refl _) _).alloc (by simp; try omega) _)
  have szW : W.heap.size = w1.heap.size + 2 := by rw [hW]; simp
  clear hW
  replace HB := hide (onward HB.out LW)
  have Hbs := hide bq0
  clear bq0 LW szW
  generalize w1.heap.size = g7 at *
  obtain ⟨x0, x1⟩ := Hbs.out.c2
  have ltx := Hbs.out.lt
  go_cut [15] (fun s15 wx => s15 = .int .i64 F1 ∧ wx = W)
  case first =>
    as_aux_lemma =>
      by_cases h0 : sc % 3 = 0
      · have e1 : F1 = s1 - 1 := by rw [HF1.out, if_pos h0]
        have E1 := hide e1
        have h00 : (sc % 3 == 0) = true := by simpa using h0
        clear e1
        go_wp2_with fail
        go_meet
        exact ⟨by rw [E1.out], rfl⟩
      · have e1 : F1 = sc % 120000 := by rw [HF1.out, if_neg h0]
        have E1 := hide e1
        have h00 : (sc % 3 == 0) = false := by simpa using h0
        clear e1
        go_wp2_with fail
        go_meet
        exact ⟨by rw [E1.out], rfl⟩
  case rest =>
    obtain ⟨rfl, rfl⟩ := hcut
    go_upto_if 133 with fail
    go_cut [15] (fun s15 wx' => s15 = .int .i64 F ∧ wx' = wc)
    case first =>
      as_aux_lemma =>
        by_cases h0 : sc % 3 = 1
        · have e1 : F = s2 + 1 := by rw [HF.out, if_pos h0]
          have E1 := hide e1
          have h00 : (sc % 3 == 1) = true := by simpa using h0
          clear e1
          go_wp2_with fail
          go_meet
          exact ⟨by rw [E1.out], rfl⟩
        · have e1 : F = F1 := by rw [HF.out, if_neg h0]
          have E1 := hide e1
          have h00 : (sc % 3 == 1) = false := by simpa using h0
          clear e1
          go_wp2_with fail
          go_meet
          exact ⟨by rw [E1.out], rfl⟩
    case rest =>
      obtain ⟨rfl, rfl⟩ := hcut
      clear HF1 HF
      go_wp2_with fail
      go_loopw [16, 17] (fun a i wr => ∃ k : Nat, k ≤ n ∧ i = .int .i64 k ∧ a = .bool ((List.range k).all fun j => suitZ z j F) ∧ Below w.heap.size w wr ∧ Blk wr g7 24 #[.int .i64 s1, .int .i64 s2])
        (fun _ i _ => n - (intOf i).toNat)
      case atStart => exact ⟨0, by omega, rfl, rfl, HB.out, Hbs.out⟩
      case round =>
        clear HB Hbs
        obtain ⟨k, hk, rfl, rfl, hbw, hbs⟩ := hrel
        have hbr : b < wr.heap.size := by have := hbw.size; omega
        have HB := hide hbw
        have Hbs := hide hbs
        clear hbw hbs
        have hsnoc : ((List.range (k + 1)).all fun j => suitZ z j F) = (((List.range k).all fun j => suitZ z j F) && suitZ z k F) := by
          rw [List.range_succ, List.all_append]; simp
        obtain ⟨ab, hab⟩ : ∃ ab, ((List.range k).all fun j => suitZ z j F) = ab := ⟨_, rfl⟩
        rw [hab] at hsnoc
        rw [hab]
        by_cases hlt : k < n
        · have Hsn := hide hsnoc
          clear hsnoc hab
          cases ab with
          | true =>
            as_aux_lemma =>
              obtain ⟨p0, p1, p2, p3⟩ := Hpt.out k hlt
              rw [← HB.out.cell hb] at p0 p1 p2 p3
              have hcall := Hsu.out k hlt F wr hFa hFb
              obtain ⟨sb, hsb⟩ : ∃ sb, suitZ z k F = sb := ⟨_, rfl⟩
              have hsn := Hsn.out
              rw [hsb] at hcall hsn
              have Hcall := hide hcall
              have Hsn2 := hide hsn
              clear hcall hsn hsb Hsn
              generalize zs.getD (k * 4) 0 = z0 at *
              generalize zs.getD (k * 4 + 1) 0 = z1 at *
              generalize zs.getD (k * 4 + 2) 0 = z2 at *
              generalize zs.getD (k * 4 + 3) 0 = z3 at *
              go_wp2_with fail
              refine (Hcall.out).mono ?_
              rintro e w2 ⟨rfl, hb⟩
              replace HB := hide (onward HB.out hb)
              replace Hbs := hide (blk_later Hbs.out hb)
              clear hb
              clear p0 p1 p2 p3
              go_wp2
              go_roundw
              case rel => exact ⟨k + 1, by omega, by go_num, by rw [Hsn2.out]; simp, HB.out, Hbs.out⟩
              case measure => simp [intOf] <;> omega
          | false =>
            go_wp2
            go_roundw
            case rel => exact ⟨k + 1, by omega, by go_num, by rw [Hsn.out]; simp, HB.out, Hbs.out⟩
            case measure => simp [intOf] <;> omega
        · obtain rfl : n = k := by omega
          clear hsnoc
          have hev : ab = true → 1 ≤ F → F ≤ 100000 → s1 ≤ F ∧ F ≤ s2 := fun h1 h2 h3 => Hin.out F h2 h3 fun q hq => by
            rw [h1] at hab
            exact List.all_eq_true.1 hab q (List.mem_range.2 hq)
          have Hev := hide hev
          clear hab hev
          obtain ⟨x0, x1⟩ := Hbs.out.c2
          have ltx := Hbs.out.lt
          go_upto_region 27 with fail
          go_cut [189] (fun s wx => s = .bool false ∧ wx = wr)
          case first =>
            as_aux_lemma =>
              have q1 : ¬ s1 < 1 := by omega
              have q2 : ¬ s2 < s1 := by omega
              have q3 : ¬ 100000 < s2 := by omega
              cases ab with
              | false =>
                go_wp2_with fail
                go_meet
                exact ⟨rfl, rfl⟩
              | true =>
                by_cases f1 : 1 ≤ F
                · by_cases f2 : F ≤ 100000
                  · obtain ⟨f3, f4⟩ := Hev.out rfl f1 f2
                    have f5 : decide (F < s1) = false := decide_eq_false (by omega)
                    have f6 : decide (s2 < F) = false := decide_eq_false (by omega)
                    go_wp2_with fail
                    go_meet
                    exact ⟨by first | rfl | (rw [f5, f6]; rfl), rfl⟩
                  · go_wp2_with fail
                    go_meet
                    exact ⟨rfl, rfl⟩
                · go_wp2_with fail
                  go_meet
                  exact ⟨rfl, rfl⟩
          case rest =>
            as_aux_lemma =>
              obtain ⟨rfl, rfl⟩ := hcut
              clear Hev
              go_wp2_with fail
              go_loopw [18] (fun i wr' => ∃ k : Nat, k ≤ n ∧ i = .int .i64 k ∧ Below w.heap.size w wr' ∧ Blk wr' g7 24 #[.int .i64 s1, .int .i64 s2])
                (fun i _ => n - (intOf i).toNat)
              case atStart => exact ⟨0, by omega, rfl, HB.out, Hbs.out⟩
              case round =>
                as_aux_lemma =>
                  obtain ⟨k, hk, rfl, hbw, hbs⟩ := hrel
                  have hbr : b < wr.heap.size := by have := hbw.size; omega
                  have HB := hide hbw
                  have Hbs := hide hbs
                  clear hbw hbs
                  obtain ⟨x0, x1⟩ := Hbs.out.c2
                  have ltx := Hbs.out.lt
                  by_cases hlt : k < n
                  · obtain ⟨p0, p1, p2, p3⟩ := Hpt.out k hlt
                    rw [← HB.out.cell hb] at p0 p1 p2 p3
                    have hq0 : 0 ≤ sc % (s2 - s1 + 1) := Int.emod_nonneg _ (by omega)
                    have hq1 : sc % (s2 - s1 + 1) < s2 - s1 + 1 := Int.emod_lt_of_pos _ (by omega)
                    have c1 := fun W => Hsu.out k hlt s1 W (by omega) (by omega)
                    have c2 := fun W => Hsu.out k hlt s2 W (by omega) (by omega)
                    have c3 := fun W => Hsu.out k hlt (s1 + sc % (s2 - s1 + 1)) W (by omega) (by omega)
                    rw [Hall.out k hlt s1 (by omega) (by omega)] at c1
                    rw [Hall.out k hlt s2 (by omega) (by omega)] at c2
                    rw [Hall.out k hlt (s1 + sc % (s2 - s1 + 1)) (by omega) (by omega)] at c3
                    have C1 := hide c1
                    have C2 := hide c2
                    have C3 := hide c3
                    clear c1 c2 c3
                    generalize zs.getD (k * 4) 0 = z0 at *
                    generalize zs.getD (k * 4 + 1) 0 = z1 at *
                    generalize zs.getD (k * 4 + 2) 0 = z2 at *
                    generalize zs.getD (k * 4 + 3) 0 = z3 at *
                    go_wp2_with fail
                    apply wp_region_L (w0 := wr) [[], [], [], [], [], [], [], [], [], [], [], [], [], [], [], [], [], [], [], [], [], [], [], [], [], [], [], [], [], [], [], [], [], [], [], [], [], []] [true, true, true, true, true, true, true, true, true, true, true, true, true, true, true, true, true, true, true, true, true, true, true, true, true, true, true, true, true, true, true, true, true, true, true, true, true, true] [] (fun ixq y => match ixq with  | _ => undef) (fun ixq x F wq => match ixq with  | _ => True) (fun a x => a) (by kernel_rfl) (by kernel_rfl) (fun _ => rfl) [202, 211, 231] (by kernel_rfl)
                    · intro x D hD
                      have hne := hD.some
                      have k0 := liftB hD p0 (by first | assumption | omega)
                      have k1 := liftB hD p1 (by first | assumption | omega)
                      have k2 := liftB hD p2 (by first | assumption | omega)
                      have k3 := liftB hD p3 (by first | assumption | omega)
                      have l0 := liftB hD x0 (by first | assumption | omega)
                      have l1 := liftB hD x1 (by first | assumption | omega)
                      simp only [takeOps, Act.put, List.setIfInBounds_toArray, List.set_cons_succ, List.set_cons_zero]
                      repeat (go_big_quiet_step ((go_at_call 33; first | (with_reducible exact calls_later hD _ (C1.out _)) | (with_reducible exact calls_later hD _ (C2.out _)) | (with_reducible exact calls_later hD _ (C3.out _)))))
                      exact wpQuiet_nil rfl
                    · intro d hd x x'
                      simp only [List.mem_cons, List.not_mem_nil, or_false] at hd
                      rcases hd with rfl | rfl | rfl
                      all_goals rfl
                    · exact trivial
                    · exact trivial
                    intro xx w3 F hL3 hlv1
                    clear hlv1
                    clear p0 p1 p2 p3
                    replace HB := hide (onward HB.out hL3)
                    replace Hbs := hide (blk_later Hbs.out hL3)
                    clear hL3 x0 x1 ltx
                    go_wp2
                    go_roundw
                    case rel => exact ⟨k + 1, by omega, by go_num, HB.out, Hbs.out⟩
                    case measure => simp [intOf] <;> omega
                  · obtain rfl : n = k := by omega
                    by_cases h1n : (1 : Int) < n
                    · obtain ⟨kk, hkk, hkn⟩ : ∃ kk : Nat, out % (n : Int) = (kk : Int) ∧ kk < n := by
                        have a := Int.emod_nonneg out (show (n : Int) ≠ 0 by omega)
                        have b := Int.emod_lt_of_pos out (show (0 : Int) < n by omega)
                        exact ⟨(out % (n : Int)).toNat, by omega, by omega⟩
                      obtain ⟨l1, l2, a', b', e1, e2, c1, c2, ha, hb1, hb2⟩ := Hless.out (by omega) kk hkn
                      have hc1 : ∀ j, j < l1.length → wr.cell? ⟨b, off + j, none⟩ = some (.int .i64 (l1.getD j 0)) := fun j hj => (HB.out.cell (p := ⟨b, off + j, none⟩) hb).trans (c1 j hj)
                      have hc2 : ∀ j, j < l2.length → wr.cell? ⟨b, off + (kk + 1) * 4 + j, none⟩ = some (.int .i64 (l2.getD j 0)) := fun j hj => (HB.out.cell (p := ⟨b, off + (kk + 1) * 4 + j, none⟩) hb).trans (c2 j hj)
                      have Hc1 := hide hc1
                      have Hc2 := hide hc2
                      have Ha := hide ha
                      have hlies : ∀ W, Calls Try.prog 25 #[.agg #[.int .i64 s1, .int .i64 s2], .agg #[.int .i64 a', .int .i64 b']] W fun e w' => e = .returned (.bool true) ∧ Below W.heap.size W w' := fun W => by
                        have := lies_any s1 s2 a' b' W
                        rwa [show decide (s1 ≤ s2 ∧ a' ≤ s1 ∧ s2 ≤ b') = true from decide_eq_true ⟨r2, hb1, hb2⟩] at this
                      have Hlies := hide hlies
                      have Hadj := hide (fun (W : World) (A1 : Option Addr) (q : Nat) (hq : n - 1 ≤ q) (hq2 : q ≤ 9223372036854775807) (hI : Ints W W.heap.size .i64 A1 (l1 ++ l2)) => Adjust_any A1 (n - 1) q (l1 ++ l2) W (by rw [List.length_append, e1, e2]; omega) (by omega) hq hq2 hI)
                      clear ha hlies hc1 hc2 c1 c2 Hless Hall Hin Hpt Hsu
                      obtain ⟨i0, hi, hz0, hz1, hz2⟩ := info_parts pairInfoG
                      have Hi := hide hi
                      have Hz0 := hide hz0
                      have Hz1 := hide hz1
                      have Hz2 := hide hz2
                      clear hi hz0 hz1 hz2
                      have hll : ((0 + kk + (n - (kk + 1)) : Nat)) = n - 1 := by omega
                      have Hll := hide hll
                      clear hll
                      have hk1 : (kk : Int) + 1 ≤ n := by omega
                      have hk0 : (0 : Int) ≤ kk := by omega
                      have hkc : (kk : Int) ≤ c := by omega
                      by_cases hcc : (kk : Int) + 1 < c
                      · go_wp2_with fail
                        apply wp_region_L (w0 := wr) [[], [], [], [], [0], [], [], [], [], [0, 4], [0, 4, 9], [0, 4, 9, 10], [0, 4, 9, 10], [0, 4, 9, 10], [0, 4, 9, 10], [], [], [0, 4, 9, 10, 15, 16], [0, 4, 9, 10, 15, 16, 17], [0, 4, 9, 10, 15, 16, 17, 18]] [false, true, true, true, false, true, true, true, true, false, false, true, true, true, true, false, false, false, false, true] [⟨0, none, [], []⟩, ⟨4, some 0, [0], []⟩, ⟨9, some 4, [4], []⟩, ⟨10, none, [9], []⟩, ⟨15, none, [], []⟩, ⟨16, none, [], []⟩, ⟨17, some 15, [15], [15]⟩, ⟨18, some 16, [16], [16]⟩] (fun ixq y => match ixq with | 0 => .slice (y 0).1 0 0 | 4 => .slice (y 0).1 (0 + kk) (y 0).2 | 9 => .slice (y 0).1 ((0+kk) + (n-(kk+1))) (y 0).2 | 10 => .tuple #[.agg #[.int .i64 a', .int .i64 b'], .agg #[.int .i64 0, .int .i64 0], .int .i64 0] | 15 => .pointer (y 0).1 | 16 => .pointer (y 0).1 | 17 => undef | 18 => undef | _ => undef) (fun ixq x F wq => match ixq with | 0 => OwnF wq F wr.heap.size 66 4 (.slice (x 0 0).1 0 0) 0 #[].toList | 4 => OwnF wq F wr.heap.size 66 4 (.slice (x 4 0).1 (0 + kk) (x 4 0).2) (0 + kk) ((#[] : Array Value).toList ++ (l1.map (Value.int .i64))) | 9 => OwnF wq F wr.heap.size 66 4 (.slice (x 9 0).1 ((0+kk) + (n-(kk+1))) (x 9 0).2) ((0+kk) + (n-(kk+1))) ((#[] : Array Value).toList ++ l1.map (Value.int .i64) ++ (l2.map (Value.int .i64))) | 10 => True | 15 => PtrF wq F wr.heap.size (x 15 0).1 24 #[.int .i64 0, .int .i64 0] | 16 => PtrF wq F wr.heap.size (x 16 0).1 72 #[.int .i64 0, .int .i64 0] | 17 => PtrF wq F wr.heap.size (x 15 0).1 24 #[.int .i64 a', .int .i64 b'] | 18 => PtrF wq F wr.heap.size (x 16 0).1 72 #[.int .i64 0, .int .i64 0] | _ => True) (fun a x => ((((((((a).put (some 243) (.slice ((x 0) 0).1 0 0)).put (some 247) (.slice ((x 4) 0).1 (0 + kk) ((x 4) 0).2)).put (some 252) (.slice ((x 9) 0).1 ((0+kk) + (n-(kk+1))) ((x 9) 0).2)).put (some 253) (.tuple #[.agg #[.int .i64 a', .int .i64 b'], .agg #[.int .i64 0, .int .i64 0], .int .i64 0])).put (some 20) (.pointer ((x 15) 0).1)).put (some 21) (.pointer ((x 16) 0).1)).put (none) (undef)).put (none) (undef)) (by kernel_rfl) (by kernel_rfl) (fun x => putH_step (some 243) (.slice ((x 0) 0).1 0 0) rfl rfl <| putH_step (some 247) (.slice ((x 4) 0).1 (0 + kk) ((x 4) 0).2) rfl rfl <| putH_step (some 252) (.slice ((x 9) 0).1 ((0+kk) + (n-(kk+1))) ((x 9) 0).2) rfl rfl <| putH_step (some 253) (.tuple #[.agg #[.int .i64 a', .int .i64 b'], .agg #[.int .i64 0, .int .i64 0], .int .i64 0]) rfl rfl <| putH_step (some 20) (.pointer ((x 15) 0).1) rfl rfl <| putH_step (some 21) (.pointer ((x 16) 0).1) rfl rfl <| putH_step (none) (undef) rfl rfl <| putH_step (none) (undef) rfl rfl <| putH_end) [] (by kernel_rfl)
                        · intro x D hD
                          have hne := hD.some
                          simp only [takeOps, Act.put, List.setIfInBounds_toArray, List.set_cons_succ, List.set_cons_zero]
                          repeat (go_big_quiet_step (fail))
                          exact wpQuiet_nil rfl
                        · exact fun _ h => absurd h (by simp)
                        · refine ⟨?_, ?_, ?_, ?_, ?_, ?_, ?_, ?_, trivial⟩
                          · exact obl_new rfl (fun _ => by kernel_rfl) 66 (fun x => #[]) gP (fun x w => by kernel_rfl) (fun x w hle => own_new hle rfl (by unfold maxLen; omega))
                          · refine obl_append 61 243 246 (by kernel_rfl) wr.heap.size 66 i0 _ 4 32 Try.underlying61 Hi.out Hz0.out Hz1.out Hz2.out rfl (by decide) 0 kk ((#[] : Array Value).toList) ((l1.map (Value.int .i64))) (by first | rfl | (simp; done) | (simp; omega)) (by intro u hu; simp only [List.mem_map] at hu; obtain ⟨_, _, rfl⟩ := hu; rfl) (by unfold maxLen; omega) (by omega) (by first | assumption | omega) (fun x w F hk hn => ?_) (fun _ => rfl) (fun _ _ _ _ h => h)
                            have hj := hn 0 (by simp)
                            exact ⟨_, ⟨b, off, none⟩, _, rfl, hj.1, fun g hg => .inr (hj.2 g hg), rfl, src_ints hk ⟨hbr, fun _ _ h => h.elim⟩ Hc1.out⟩
                          · refine obl_append 61 247 251 (by kernel_rfl) wr.heap.size 66 i0 _ 4 32 Try.underlying61 Hi.out Hz0.out Hz1.out Hz2.out rfl (by decide) (0+kk) (n-(kk+1)) ((#[] : Array Value).toList ++ l1.map (Value.int .i64)) ((l2.map (Value.int .i64))) (by first | rfl | (simp; done) | (simp; omega)) (by intro u hu; simp only [List.mem_map] at hu; obtain ⟨_, _, rfl⟩ := hu; rfl) (by unfold maxLen; omega) (by omega) (by first | assumption | omega) (fun x w F hk hn => ?_) (fun _ => rfl) (fun _ _ _ _ h => h)
                            have hj := hn 4 (by simp)
                            exact ⟨_, ⟨b, off + (kk + 1) * 4, none⟩, _, rfl, hj.1, fun g hg => .inr (hj.2 g hg), rfl, src_ints hk ⟨hbr, fun _ _ h => h.elim⟩ Hc2.out⟩
                          · refine obl_callL rfl (fun _ => by kernel_rfl) 31 (fun x => #[.slice (x 9 0).1 (0 + kk + (n - (kk + 1))) (x 9 0).2]) (fun x w => by kernel_rfl) ?_
                            intro x w F hL hN
                            have n9 := hN 9 (by simp)
                            have h9 := own_cap n9.1
                            have hI := Ints.own (k := .i64) (zs := l1 ++ l2) n9.1 (by simp) (Nat.le_refl _)
                            rw [Hll.out] at h9 ⊢
                            refine calls_one (y := fun _ => (none, 0)) (Hadj.out w _ _ h9.1 h9.2 hI) ?_ (fun _ => trivial)
                            rw [Ha.out]; rfl
                          · exact obl_alloc 24 20 (.agg #[.int .i64 0, .int .i64 0]) (by kernel_rfl) (by kernel_rfl) (fun _ => rfl) (fun _ _ _ h => h)
                          · exact obl_alloc 72 21 (.agg #[.int .i64 0, .int .i64 0]) (by kernel_rfl) (by kernel_rfl) (fun _ => rfl) (fun _ _ _ h => h)
                          · refine obl_store 24 20 254 15 #[.int .i64 0, .int .i64 0] (fun x => #[.int .i64 a', .int .i64 b']) (by kernel_rfl) rfl (by simp) (fun _ _ _ h => h) (fun _ => rfl) (fun _ => rfl) (fun _ => by kernel_rfl) (fun _ => rfl) (fun _ => by simp [Value.oneCell']) (fun _ => rfl) (by decide) (fun _ _ _ _ h => h)
                          · refine obl_store 72 21 255 16 #[.int .i64 0, .int .i64 0] (fun x => #[.int .i64 0, .int .i64 0]) (by kernel_rfl) rfl (by simp) (fun _ _ _ h => h) (fun _ => rfl) (fun _ => rfl) (fun _ => by kernel_rfl) (fun _ => rfl) (fun _ => by simp [Value.oneCell']) (fun _ => rfl) (by decide) (fun _ _ _ _ h => h)
                        · refine ⟨?_, ?_, ?_, ?_, ?_, ?_, ?_, ?_, trivial⟩
                          · refine ⟨fun x F wq wq' h hs hk => ?_, fun x x' F wq hx h => ?_⟩
                            · have h2 : OwnF wq F wr.heap.size 66 4 (.slice (x 0 0).1 0 0) 0 #[].toList := h
                              exact h2.stab hk
                            · have h2 : OwnF wq F wr.heap.size 66 4 (.slice (x 0 0).1 0 0) 0 #[].toList := h
                              rw [hx 0 (by simp)] at h2
                              exact h2
                          · exact owe_own 4 wr.heap.size 66 4 (0 + kk) ((#[] : Array Value).toList ++ (l1.map (Value.int .i64))) rfl (fun _ _ _ => rfl)
                          · exact owe_own 9 wr.heap.size 66 4 ((0+kk) + (n-(kk+1))) ((#[] : Array Value).toList ++ l1.map (Value.int .i64) ++ (l2.map (Value.int .i64))) rfl (fun _ _ _ => rfl)
                          · exact owe_true (fun _ _ _ => trivial)
                          · exact owe_ptr 15 _ _ (fun x => #[.int .i64 0, .int .i64 0]) (fun _ _ _ => rfl) (by simp) (fun _ _ _ => rfl)
                          · exact owe_ptr 16 _ _ (fun x => #[.int .i64 0, .int .i64 0]) (fun _ _ _ => rfl) (by simp) (fun _ _ _ => rfl)
                          · exact owe_ptr 15 _ _ (fun x => #[.int .i64 a', .int .i64 b']) (fun _ _ _ => rfl) (by simp) (fun _ _ _ => rfl)
                          · exact owe_ptr 16 _ _ (fun x => #[.int .i64 0, .int .i64 0]) (fun _ _ _ => rfl) (by simp) (fun _ _ _ => rfl)
                        intro xx w3 F hL3 hlv2
                        obtain ⟨-, -, fct9, fct10, -, -, fct17, fct18, -⟩ := hlv2
                        replace fct9 : OwnF w3 (F 9) wr.heap.size 66 4 (.slice (xx 9 0).1 ((0+kk) + (n-(kk+1))) (xx 9 0).2) ((0+kk) + (n-(kk+1))) ((#[] : Array Value).toList ++ l1.map (Value.int .i64) ++ (l2.map (Value.int .i64))) := fct9 rfl
                        clear fct10
                        replace fct17 : PtrF w3 (F 17) wr.heap.size (xx 15 0).1 24 #[.int .i64 a', .int .i64 b'] := fct17 rfl
                        replace fct18 : PtrF w3 (F 18) wr.heap.size (xx 16 0).1 72 #[.int .i64 0, .int .i64 0] := fct18 rfl
                        clear fct18 fct9
                        obtain ⟨g, hgx, hge, -, hbg⟩ := fct17
                        rw [hgx]
                        clear hgx
                        replace HB := hide (onward HB.out hL3)
                        replace Hbs := hide (blk_later Hbs.out hL3)
                        clear hL3 x0 x1 ltx
                        have Hbg := hide hbg
                        clear hbg
                        obtain ⟨x0, x1⟩ := Hbs.out.c2
                        have ltx := Hbs.out.lt
                        obtain ⟨y0, y1⟩ := Hbg.out.c2
                        have lty := Hbg.out.lt
                        go_wp2_with fail
                        refine (Hlies.out _).mono ?_
                        rintro e w4 ⟨rfl, hb⟩
                        replace HB := hide (onward HB.out hb)
                        replace Hbs := hide (blk_later Hbs.out hb)
                        replace Hbg := hide (blk_later Hbg.out hb)
                        clear hb x0 x1 ltx y0 y1 lty
                        go_wp2_with fail
                        refine (works_any _).mono ?_
                        rintro e w5 ⟨rfl, hb⟩
                        replace HB := hide (onward HB.out hb)
                        replace Hbs := hide (blk_later Hbs.out hb)
                        replace Hbg := hide (blk_later Hbg.out hb)
                        clear hb
                        go_wp2
                        go_ret
                        exact ⟨rfl, HB.out⟩
                      · have hl2 : l2 = [] := List.eq_nil_of_length_eq_zero (by omega)
                        go_wp2_with fail
                        apply wp_region_L (w0 := wr) [[], [], [], [], [0], [], [], [], [], [0, 4], [0, 4, 9], [0, 4, 9, 10], [0, 4, 9, 10], [0, 4, 9, 10], [0, 4, 9, 10], [], [], [0, 4, 9, 10, 15, 16], [0, 4, 9, 10, 15, 16, 17], [0, 4, 9, 10, 15, 16, 17, 18]] [false, true, true, true, false, true, true, true, true, false, false, true, true, true, true, false, false, false, false, true] [⟨0, none, [], []⟩, ⟨4, some 0, [0], []⟩, ⟨9, some 4, [4], []⟩, ⟨10, none, [9], []⟩, ⟨15, none, [], []⟩, ⟨16, none, [], []⟩, ⟨17, some 15, [15], [15]⟩, ⟨18, some 16, [16], [16]⟩] (fun ixq y => match ixq with | 0 => .slice (y 0).1 0 0 | 4 => .slice (y 0).1 (0 + kk) (y 0).2 | 9 => .slice (y 0).1 ((0+kk) + (n-(kk+1))) (y 0).2 | 10 => .tuple #[.agg #[.int .i64 a', .int .i64 b'], .agg #[.int .i64 0, .int .i64 0], .int .i64 0] | 15 => .pointer (y 0).1 | 16 => .pointer (y 0).1 | 17 => undef | 18 => undef | _ => undef) (fun ixq x F wq => match ixq with | 0 => OwnF wq F wr.heap.size 66 4 (.slice (x 0 0).1 0 0) 0 #[].toList | 4 => OwnF wq F wr.heap.size 66 4 (.slice (x 4 0).1 (0 + kk) (x 4 0).2) (0 + kk) ((#[] : Array Value).toList ++ (l1.map (Value.int .i64))) | 9 => OwnF wq F wr.heap.size 66 4 (.slice (x 9 0).1 ((0+kk) + (n-(kk+1))) (x 9 0).2) ((0+kk) + (n-(kk+1))) ((#[] : Array Value).toList ++ l1.map (Value.int .i64) ++ (l2.map (Value.int .i64))) | 10 => True | 15 => PtrF wq F wr.heap.size (x 15 0).1 24 #[.int .i64 0, .int .i64 0] | 16 => PtrF wq F wr.heap.size (x 16 0).1 72 #[.int .i64 0, .int .i64 0] | 17 => PtrF wq F wr.heap.size (x 15 0).1 24 #[.int .i64 a', .int .i64 b'] | 18 => PtrF wq F wr.heap.size (x 16 0).1 72 #[.int .i64 0, .int .i64 0] | _ => True) (fun a x => ((((((((a).put (some 243) (.slice ((x 0) 0).1 0 0)).put (some 247) (.slice ((x 4) 0).1 (0 + kk) ((x 4) 0).2)).put (some 252) (.slice ((x 9) 0).1 ((0+kk) + (n-(kk+1))) ((x 9) 0).2)).put (some 253) (.tuple #[.agg #[.int .i64 a', .int .i64 b'], .agg #[.int .i64 0, .int .i64 0], .int .i64 0])).put (some 20) (.pointer ((x 15) 0).1)).put (some 21) (.pointer ((x 16) 0).1)).put (none) (undef)).put (none) (undef)) (by kernel_rfl) (by kernel_rfl) (fun x => putH_step (some 243) (.slice ((x 0) 0).1 0 0) rfl rfl <| putH_step (some 247) (.slice ((x 4) 0).1 (0 + kk) ((x 4) 0).2) rfl rfl <| putH_step (some 252) (.slice ((x 9) 0).1 ((0+kk) + (n-(kk+1))) ((x 9) 0).2) rfl rfl <| putH_step (some 253) (.tuple #[.agg #[.int .i64 a', .int .i64 b'], .agg #[.int .i64 0, .int .i64 0], .int .i64 0]) rfl rfl <| putH_step (some 20) (.pointer ((x 15) 0).1) rfl rfl <| putH_step (some 21) (.pointer ((x 16) 0).1) rfl rfl <| putH_step (none) (undef) rfl rfl <| putH_step (none) (undef) rfl rfl <| putH_end) [] (by kernel_rfl)
                        · intro x D hD
                          have hne := hD.some
                          simp only [takeOps, Act.put, List.setIfInBounds_toArray, List.set_cons_succ, List.set_cons_zero]
                          repeat (go_big_quiet_step (fail))
                          exact wpQuiet_nil rfl
                        · exact fun _ h => absurd h (by simp)
                        · refine ⟨?_, ?_, ?_, ?_, ?_, ?_, ?_, ?_, trivial⟩
                          · exact obl_new rfl (fun _ => by kernel_rfl) 66 (fun x => #[]) gP (fun x w => by kernel_rfl) (fun x w hle => own_new hle rfl (by unfold maxLen; omega))
                          · refine obl_append 61 243 246 (by kernel_rfl) wr.heap.size 66 i0 _ 4 32 Try.underlying61 Hi.out Hz0.out Hz1.out Hz2.out rfl (by decide) 0 kk ((#[] : Array Value).toList) ((l1.map (Value.int .i64))) (by first | rfl | (simp; done) | (simp; omega)) (by intro u hu; simp only [List.mem_map] at hu; obtain ⟨_, _, rfl⟩ := hu; rfl) (by unfold maxLen; omega) (by omega) (by first | assumption | omega) (fun x w F hk hn => ?_) (fun _ => rfl) (fun _ _ _ _ h => h)
                            have hj := hn 0 (by simp)
                            exact ⟨_, ⟨b, off, none⟩, _, rfl, hj.1, fun g hg => .inr (hj.2 g hg), rfl, src_ints hk ⟨hbr, fun _ _ h => h.elim⟩ Hc1.out⟩
                          · refine obl_append 61 247 251 (by kernel_rfl) wr.heap.size 66 i0 _ 4 32 Try.underlying61 Hi.out Hz0.out Hz1.out Hz2.out rfl (by decide) (0+kk) (n-(kk+1)) ((#[] : Array Value).toList ++ l1.map (Value.int .i64)) ((l2.map (Value.int .i64))) (by first | rfl | (simp; done) | (simp; omega)) (by intro u hu; simp only [List.mem_map] at hu; obtain ⟨_, _, rfl⟩ := hu; rfl) (by unfold maxLen; omega) (by omega) (by first | assumption | omega) (fun x w F hk hn => ?_) (fun _ => rfl) (fun _ _ _ _ h => h)
                            have hj := hn 4 (by simp)
                            exact ⟨_, ⟨b, off, none⟩, _, rfl, hj.1, fun g hg => .inr (hj.2 g hg), rfl, (fun j u h => by rw [hl2] at h; simp at h)⟩
                          · refine obl_callL rfl (fun _ => by kernel_rfl) 31 (fun x => #[.slice (x 9 0).1 (0 + kk + (n - (kk + 1))) (x 9 0).2]) (fun x w => by kernel_rfl) ?_
                            intro x w F hL hN
                            have n9 := hN 9 (by simp)
                            have h9 := own_cap n9.1
                            have hI := Ints.own (k := .i64) (zs := l1 ++ l2) n9.1 (by simp) (Nat.le_refl _)
                            rw [Hll.out] at h9 ⊢
                            refine calls_one (y := fun _ => (none, 0)) (Hadj.out w _ _ h9.1 h9.2 hI) ?_ (fun _ => trivial)
                            rw [Ha.out]; rfl
                          · exact obl_alloc 24 20 (.agg #[.int .i64 0, .int .i64 0]) (by kernel_rfl) (by kernel_rfl) (fun _ => rfl) (fun _ _ _ h => h)
                          · exact obl_alloc 72 21 (.agg #[.int .i64 0, .int .i64 0]) (by kernel_rfl) (by kernel_rfl) (fun _ => rfl) (fun _ _ _ h => h)
                          · refine obl_store 24 20 254 15 #[.int .i64 0, .int .i64 0] (fun x => #[.int .i64 a', .int .i64 b']) (by kernel_rfl) rfl (by simp) (fun _ _ _ h => h) (fun _ => rfl) (fun _ => rfl) (fun _ => by kernel_rfl) (fun _ => rfl) (fun _ => by simp [Value.oneCell']) (fun _ => rfl) (by decide) (fun _ _ _ _ h => h)
                          · refine obl_store 72 21 255 16 #[.int .i64 0, .int .i64 0] (fun x => #[.int .i64 0, .int .i64 0]) (by kernel_rfl) rfl (by simp) (fun _ _ _ h => h) (fun _ => rfl) (fun _ => rfl) (fun _ => by kernel_rfl) (fun _ => rfl) (fun _ => by simp [Value.oneCell']) (fun _ => rfl) (by decide) (fun _ _ _ _ h => h)
                        · refine ⟨?_, ?_, ?_, ?_, ?_, ?_, ?_, ?_, trivial⟩
                          · refine ⟨fun x F wq wq' h hs hk => ?_, fun x x' F wq hx h => ?_⟩
                            · have h2 : OwnF wq F wr.heap.size 66 4 (.slice (x 0 0).1 0 0) 0 #[].toList := h
                              exact h2.stab hk
                            · have h2 : OwnF wq F wr.heap.size 66 4 (.slice (x 0 0).1 0 0) 0 #[].toList := h
                              rw [hx 0 (by simp)] at h2
                              exact h2
                          · exact owe_own 4 wr.heap.size 66 4 (0 + kk) ((#[] : Array Value).toList ++ (l1.map (Value.int .i64))) rfl (fun _ _ _ => rfl)
                          · exact owe_own 9 wr.heap.size 66 4 ((0+kk) + (n-(kk+1))) ((#[] : Array Value).toList ++ l1.map (Value.int .i64) ++ (l2.map (Value.int .i64))) rfl (fun _ _ _ => rfl)
                          · exact owe_true (fun _ _ _ => trivial)
                          · exact owe_ptr 15 _ _ (fun x => #[.int .i64 0, .int .i64 0]) (fun _ _ _ => rfl) (by simp) (fun _ _ _ => rfl)
                          · exact owe_ptr 16 _ _ (fun x => #[.int .i64 0, .int .i64 0]) (fun _ _ _ => rfl) (by simp) (fun _ _ _ => rfl)
                          · exact owe_ptr 15 _ _ (fun x => #[.int .i64 a', .int .i64 b']) (fun _ _ _ => rfl) (by simp) (fun _ _ _ => rfl)
                          · exact owe_ptr 16 _ _ (fun x => #[.int .i64 0, .int .i64 0]) (fun _ _ _ => rfl) (by simp) (fun _ _ _ => rfl)
                        intro xx w3 F hL3 hlv3
                        obtain ⟨-, -, fct9, fct10, -, -, fct17, fct18, -⟩ := hlv3
                        replace fct9 : OwnF w3 (F 9) wr.heap.size 66 4 (.slice (xx 9 0).1 ((0+kk) + (n-(kk+1))) (xx 9 0).2) ((0+kk) + (n-(kk+1))) ((#[] : Array Value).toList ++ l1.map (Value.int .i64) ++ (l2.map (Value.int .i64))) := fct9 rfl
                        clear fct10
                        replace fct17 : PtrF w3 (F 17) wr.heap.size (xx 15 0).1 24 #[.int .i64 a', .int .i64 b'] := fct17 rfl
                        replace fct18 : PtrF w3 (F 18) wr.heap.size (xx 16 0).1 72 #[.int .i64 0, .int .i64 0] := fct18 rfl
                        clear fct18 fct9
                        obtain ⟨g, hgx, hge, -, hbg⟩ := fct17
                        rw [hgx]
                        clear hgx
                        replace HB := hide (onward HB.out hL3)
                        replace Hbs := hide (blk_later Hbs.out hL3)
                        clear hL3 x0 x1 ltx
                        have Hbg := hide hbg
                        clear hbg
                        obtain ⟨x0, x1⟩ := Hbs.out.c2
                        have ltx := Hbs.out.lt
                        obtain ⟨y0, y1⟩ := Hbg.out.c2
                        have lty := Hbg.out.lt
                        go_wp2_with fail
                        refine (Hlies.out _).mono ?_
                        rintro e w4 ⟨rfl, hb⟩
                        replace HB := hide (onward HB.out hb)
                        replace Hbs := hide (blk_later Hbs.out hb)
                        replace Hbg := hide (blk_later Hbg.out hb)
                        clear hb x0 x1 ltx y0 y1 lty
                        go_wp2_with fail
                        refine (works_any _).mono ?_
                        rintro e w5 ⟨rfl, hb⟩
                        replace HB := hide (onward HB.out hb)
                        replace Hbs := hide (blk_later Hbs.out hb)
                        replace Hbg := hide (blk_later Hbg.out hb)
                        clear hb
                        go_wp2
                        go_ret
                        exact ⟨rfl, HB.out⟩
                    · go_wp2_with fail
                      refine (works_any _).mono ?_
                      rintro e w5 ⟨rfl, hb⟩
                      replace HB := hide (onward HB.out hb)
                      replace Hbs := hide (blk_later Hbs.out hb)
                      clear hb x0 x1 ltx
                      go_wp2
                      go_ret
                      exact ⟨rfl, HB.out⟩

set_option maxRecDepth 100000 in
theorem RainFits_any (A : Option Addr) (n c : Nat) (zs : List Int) (sc out : Int) (w : World) (hz : zs.length = n * 4) (hmax : n ≤ 9223372036854775807) (hcap : n ≤ c) (hcm : c ≤ 9223372036854775807) (hs0 : 0 ≤ sc) (hs1 : sc ≤ 4294967295) (ho0 : 0 ≤ out) (ho1 : out ≤ 255) (hl : Ints w w.heap.size .i64 A zs) :
    Calls Try.prog 8 #[.slice A n c, .int .u32 sc, .int .u8 out] w fun e w' => e = .returned (.bool true) ∧ Below w.heap.size w w' := by
  by_cases h20 : (20 : Int) < n
  · clear hl
    go_enter Try.func8, Try.ntmps8
    go_wp2_with fail
    refine (works_any _).mono ?_
    rintro e w1 ⟨rfl, hb⟩
    go_wp2
    go_ret
    exact ⟨rfl, hb⟩
  have hadj := Adjust_any A n c zs w hz hmax hcap hcm hl
  rcases adj_cases (fun j => zs.getD j 0) n with ⟨er, hr, e1, e2⟩ | ⟨i, j, hr, hij, hjn, hok, hcf, hii⟩ | ⟨a, b', hr, hm, r1, r2, r3, h100, hn, hok⟩
  · rw [hr] at hadj
    exact fits_other A n c sc out er w h20 e1 e2 hadj
  · rw [hr] at hadj
    obtain ⟨b, off, rfl, hb, hc⟩ := hl.pt4 hz (by omega)
    exact fits_conf b off n c (fun j => zs.getD j 0) sc out w h20 i j hij hjn hs0 hs1 hb hc (hok i (by omega)) (hok j hjn) hcf hii hadj
  · rw [hr] at hadj
    obtain ⟨b, off, rfl, hb, hc⟩ := hl (by omega)
    exact fits_ok b off n c zs sc out w h20 hn hz hcap hcm hs0 hs1 ho0 ho1 hb hc a b' r1 r2 r3 hok hm hadj
end Go.Proofs.Ytmglgahagbfbkaa
