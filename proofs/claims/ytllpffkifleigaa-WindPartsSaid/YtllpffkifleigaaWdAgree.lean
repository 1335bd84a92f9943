/-
  Lists of sights are checked.
  The strain of sights.
  Agree: whether a wind agrees with sights.
-/
import Derived.Test.YtllpffkifleigaaWdCheck
set_option linter.unusedSimpArgs false
set_option linter.unusedVariables false
section
namespace Go.Proofs.Ytllpffkifleigaa
open Go Go.RowKit

/-- Sights whose directions are numbers of the machine. -/
def AllI (l : List Sgt) : Prop := ∀ s ∈ l, I64 s.x ∧ I64 s.y
set_option maxHeartbeats 1000000 in
set_option maxRecDepth 100000 in
theorem listed1_any (s : Sgt) (w : World) (hx : I64 s.x) (hy : I64 s.y) :
    Calls Try.prog 95 #[sgC s] w fun e w' => e = .returned (.bool (!sgtB s)) ∧ Below w.heap.size w w' := by
  have hc := fun W => Check_any s W hx hy
  obtain ⟨r, hr⟩ : ∃ r, (!sgtB s) = r := ⟨_, rfl⟩
  have hv : chkE s = if r = true then 3 else 0 := by unfold chkE; rw [← hr]; cases sgtB s <;> rfl
  simp only [hv] at hc
  rw [hr]
  unfold sgC at hc ⊢
  obtain ⟨sx, sy, sl, slo, shi⟩ := s
  simp only at hc ⊢
  clear hv hr hx hy
  have HC := hide hc
  clear hc
  cases r with
  | false =>
    rw [if_neg (by simp)] at HC
    go_enter Try.func95, Try.ntmps95
    have HB := hide (Below.refl w.heap.size w)
    go_wp2_with fail
    refine at_world fun W hW => ?_
    have bq0 : Blk W w.heap.size 71 #[.int .i64 sx, .int .i64 sy, .int .i64 sl, .int .i64 slo, .int .i64 shi] := by rw [hW]; exact Blk.new _ _ _
    have LW : Later w W := by rw [hW]; exact ((Below.refl _ _).alloc (Nat.le_refl _) _)
    have szW : W.heap.size = w.heap.size + 1 := by rw [hW]; simp
    clear hW
    replace HB := hide (onward HB.out LW)
    have Hs := hide bq0
    clear bq0 LW szW
    refine (HC.out _).mono ?_
    rintro e w1 ⟨rfl, hb⟩
    replace HB := hide (onward HB.out hb)
    replace Hs := hide (blk_later Hs.out hb)
    clear hb
    go_wp2
    go_ret
    exact ⟨rfl, HB.out⟩
  | true =>
    rw [if_pos rfl] at HC
    go_enter Try.func95, Try.ntmps95
    have HB := hide (Below.refl w.heap.size w)
    go_wp2_with fail
    refine at_world fun W hW => ?_
    have bq0 : Blk W w.heap.size 71 #[.int .i64 sx, .int .i64 sy, .int .i64 sl, .int .i64 slo, .int .i64 shi] := by rw [hW]; exact Blk.new _ _ _
    have LW : Later w W := by rw [hW]; exact ((Below.refl _ _).alloc (Nat.le_refl _) _)
    have szW : W.heap.size = w.heap.size + 1 := by rw [hW]; simp
    clear hW
    replace HB := hide (onward HB.out LW)
    have Hs := hide bq0
    clear bq0 LW szW
    refine (HC.out _).mono ?_
    rintro e w1 ⟨rfl, hb⟩
    replace HB := hide (onward HB.out hb)
    replace Hs := hide (blk_later Hs.out hb)
    clear hb
    go_wp2
    go_ret
    exact ⟨rfl, HB.out⟩
set_option maxHeartbeats 1000000 in
set_option maxRecDepth 100000 in
theorem idxL_any (A : Option Addr) (l : List Sgt) (c : Nat) (w : World) (hmax : l.length ≤ 360) (hA : SgtsAt w w.heap.size A l) (hI : AllI l) :
    Calls Try.prog 96 #[.slice A l.length c, .func (.func 95) #[] #[]] w fun e w' => ∃ z : Int, e = .returned (.int .i64 z) ∧ decide (0 ≤ z) = badB l ∧ Below w.heap.size w w' := by
  have hc := fun k (hk : k < l.length) W => listed1_any (l.getD k sg0) W (hI _ (getD_mem hk)).1 (hI _ (getD_mem hk)).2
  have hbad1 : ∀ k, k < l.length → (!sgtB (l.getD k sg0)) = true → badB l = true := fun k hk h => List.any_eq_true.2 ⟨_, getD_mem hk, h⟩
  have hbad0 : (∀ k, k < l.length → (!sgtB (l.getD k sg0)) = false) → badB l = false := fun h => List.any_eq_false.2 fun s hs => by
    obtain ⟨i, hi, rfl⟩ := idx hs
    rw [h i hi]
    simp
  have hsc : SgtsAt w w.heap.size A l := hA
  unfold SgtsAt at hsc
  unfold sgC at hc
  obtain ⟨n, hn⟩ : ∃ n, l.length = n := ⟨_, rfl⟩
  rw [hn] at hc hsc hmax hbad1 hbad0 ⊢
  have hmax2 : (n : Int) ≤ 360 := by omega
  generalize badB l = bad at *
  have HC := hide hc
  have HSC := hide hsc
  have HB1 := hide hbad1
  have HB0 := hide hbad0
  clear hc hsc hbad1 hbad0
  clear hA hI hn
  go_enter Try.func96, Try.ntmps96
  have HB := hide (Below.refl w.heap.size w)
  go_wp2_with fail
  go_loopw [8] (fun i wr => ∃ k : Nat, k ≤ n ∧ i = .int .i64 k ∧ (∀ j, j < k → (!sgtB (l.getD j sg0)) = false) ∧ Below w.heap.size w wr) (fun i _ => n - (intOf i).toNat)
  case atStart => exact ⟨0, Nat.zero_le _, rfl, fun j h => absurd h (Nat.not_lt_zero _), HB.out⟩
  case round =>
    obtain ⟨k, hk, rfl, hno, hB⟩ := hrel
    clear HB
    have HB := hide hB
    have Hno := hide hno
    clear hB hno
    by_cases hlt : k < n
    · have hlt2 : (k : Int) < n := by omega
      obtain ⟨b, off, rfl, hb0, hcc⟩ := HSC.out (by omega)
      have hc1 := hcc k hlt
      rw [← HB.out.cell hb0, ← HB.out.cell hb0, ← HB.out.cell hb0, ← HB.out.cell hb0, ← HB.out.cell hb0] at hc1
      have ltb : b < wr.heap.size := Nat.lt_of_lt_of_le hb0 HB.out.size
      have c1 := HC.out k hlt
      have g1 := HB1.out k hlt
      obtain ⟨r, hr⟩ : ∃ r, (!sgtB (l.getD k sg0)) = r := ⟨_, rfl⟩
      rw [hr] at g1
      simp only [hr] at c1
      have Hr := hide hr
      clear hr hcc
      obtain ⟨X, hX⟩ : ∃ X, l.getD k sg0 = X := ⟨_, rfl⟩
      rw [hX] at hc1 c1
      obtain ⟨sx, sy, sl, slo, shi⟩ := X
      obtain ⟨q0, q1, q2, q3, q4⟩ := hc1
      simp only at q0 q1 q2 q3 q4 c1
      have C1 := hide c1
      have G1 := hide g1
      clear c1 g1
      clear hX
      go_wp2_with fail
      refine (C1.out _).mono ?_
      rintro e w1 ⟨rfl, hb⟩
      replace HB := hide (onward HB.out hb)
      clear hb
      cases r with
      | true =>
        have hbt := G1.out rfl
        subst hbt
        go_wp2
        go_ret
        exact ⟨_, rfl, by rw [decide_eq_true (by omega)], HB.out⟩
      | false =>
        go_wp2_with fail
        go_roundw
        case rel => exact ⟨k + 1, hlt, by go_num, fun j hj => by
          by_cases e : j = k
          · rw [e]; exact Hr.out
          · exact Hno.out j (by omega), HB.out⟩
        case measure => simp [intOf] <;> omega
    · obtain rfl : k = n := by omega
      have hkk : ¬ ((k : Int) < k) := by omega
      have hbt := HB0.out Hno.out
      subst hbt
      go_wp2
      go_ret
      exact ⟨_, rfl, by first | omega | simp | rfl, HB.out⟩
set_option maxHeartbeats 1000000 in
set_option maxRecDepth 100000 in
theorem conL_any (A : Option Addr) (l : List Sgt) (c : Nat) (w : World) (hmax : l.length ≤ 360) (hA : SgtsAt w w.heap.size A l) (hI : AllI l) :
    Calls Try.prog 57 #[.slice A l.length c, .func (.func 95) #[] #[]] w fun e w' => e = .returned (.bool (badB l)) ∧ Below w.heap.size w w' := by
  have hi := idxL_any A l c w hmax hA hI
  generalize badB l = bad at *
  clear hA hI
  generalize l.length = n at *
  go_enter Try.func57, Try.ntmps57
  go_wp2_with fail
  refine hi.mono ?_
  rintro e w' ⟨z, rfl, hz, hb⟩
  subst hz
  clear hi
  go_wp2
  go_ret
  exact ⟨rfl, hb⟩
set_option maxHeartbeats 1000000 in
set_option maxRecDepth 100000 in
theorem listed_any (A : Option Addr) (l : List Sgt) (c : Nat) (w : World) (hmax : l.length ≤ maxLen) (hA : SgtsAt w w.heap.size A l) (hI : AllI l) :
    Calls Try.prog 56 #[.slice A l.length c] w fun e w' => e = .returned (.int .i64 (listE l)) ∧ Below w.heap.size w w' := by
  obtain ⟨r, hr⟩ : ∃ r, listE l = r := ⟨_, rfl⟩
  rw [hr]
  unfold listE at hr
  have hm : (l.length : Int) ≤ 9223372036854775807 := by unfold maxLen at hmax; omega
  by_cases h1 : 360 < l.length
  · rw [if_pos h1] at hr
    subst hr
    have h2 : (360 : Int) < (l.length : Int) := by omega
    generalize l.length = n at *
    go_enter Try.func56, Try.ntmps56
    go_wp2
    go_ret
    exact ⟨rfl, Below.refl _ _⟩
  · rw [if_neg h1] at hr
    have h2 : ¬ (360 : Int) < (l.length : Int) := by omega
    have hc := conL_any A l c w (by omega) hA hI
    generalize badB l = bad at *
    clear hA hI
    generalize l.length = n at *
    have HC := hide hc
    clear hc
    cases bad with
    | true =>
      rw [if_pos rfl] at hr
      subst hr
      go_enter Try.func56, Try.ntmps56
      go_wp2_with fail
      refine HC.out.mono ?_
      rintro e w' ⟨rfl, hb⟩
      go_wp2
      go_ret
      exact ⟨rfl, hb⟩
    | false =>
      rw [if_neg (by simp)] at hr
      subst hr
      go_enter Try.func56, Try.ntmps56
      go_wp2_with fail
      refine HC.out.mono ?_
      rintro e w' ⟨rfl, hb⟩
      go_wp2
      go_ret
      exact ⟨rfl, hb⟩
end Go.Proofs.Ytllpffkifleigaa
end
section
namespace Go.Proofs.Ytllpffkifleigaa
open Go Go.RowKit

theorem empty_emp {l : List Sgt} {w : Int} : decide ((narL skyL l w).length = 0) = empB l w := by
  unfold empB
  cases narL skyL l w <;> rfl
theorem sights_any (A : Option Addr) (l : List Sgt) (c : Nat) (wd : Int) (w : World) (hlen : l.length ≤ 360) (hl : ∀ s ∈ l, SgtOk s) (h0 : 0 ≤ wd) (h1 : wd ≤ 400000) (hs : SgtsAt w w.heap.size A l) (A1 : Option Addr) (c1 : Nat) (ha : AreaAt w w.heap.size A1 skyL) :
    Calls Try.prog 62 #[.agg #[.slice A1 4 c1], .slice A l.length c, .int .i64 wd] w (AreaPost w (narL skyL l wd)) :=
  narrowed_any A1 c1 [] A l c wd w (by simp; omega) (fun s h => by cases h) hl h0 h1 ha hs
set_option maxHeartbeats 1000000 in
set_option maxRecDepth 100000 in
theorem Strain_any (A : Option Addr) (l : List Sgt) (c : Nat) (w : World) (hmax : l.length ≤ maxLen) (hA : SgtsAt w w.heap.size A l) (hI : AllI l) :
    Calls Try.prog 24 #[.slice A l.length c] w fun e w' => e = .returned (.tuple #[.int .i64 (strainA l), .int .i64 (listE l)]) ∧ Below w.heap.size w w' := by
  have hL := listed_any A l c w hmax hA hI
  by_cases he : listE l = 0
  · obtain ⟨hl1, hl2⟩ := listE_ok.1 he
    have hN := fun (W : World) (hW : Below w.heap.size w W) (wd : Int) (h0 : 0 ≤ wd) (h1 : wd ≤ 400000) (A1 : Option Addr) (c1 : Nat) (ha : AreaAt W W.heap.size A1 skyL) => sights_any A l c wd W hl1 hl2 h0 h1 (hA.below hW) A1 c1 ha
    have hE := fun (wd : Int) (W : World) (A' : Option Addr) (c' : Nat) => empty_any A' (narL skyL l wd).length c' W
    simp only [empty_emp] at hE
    obtain ⟨S, hS⟩ : ∃ S, strainA l = S := ⟨_, rfl⟩
    have hS2 : bis (fun s => empB l s) 0 400000 = S := by rw [← hS]; unfold strainA; rw [if_neg (by rw [he]; simp)]; rfl
    rw [hS, he]
    rw [he] at hL
    obtain ⟨B, hB⟩ : ∃ B : Int → Bool, (fun s => empB l s) = B := ⟨_, rfl⟩
    have hBe : ∀ s, empB l s = B s := fun s => by rw [← hB]
    rw [hB] at hS2
    simp only [hBe] at hE
    generalize l.length = n at *
    have HL := hide hL
    have HN := hide hN
    have HE := hide hE
    clear hL hN hE
    clear hA hI hl1 hl2 he hS hB hBe
    go_enter Try.func24, Try.ntmps24
    have HB := hide (Below.refl w.heap.size w)
    go_wp2_with fail
    refine (HL.out).mono ?_
    rintro e w1 ⟨rfl, hb⟩
    replace HB := hide (onward HB.out hb)
    clear hb
    go_wp2_with fail
    go_loopw [5, 6] (fun i k wr => ∃ lo hi : Int, 0 ≤ lo ∧ lo ≤ hi ∧ hi ≤ 400000 ∧ i = .int .i64 lo ∧ k = .int .i64 hi ∧ bis B lo hi = S ∧ Below w.heap.size w wr) (fun i k _ => (intOf k - intOf i).toNat)
    case atStart => exact ⟨0, 400000, by omega, by omega, by omega, rfl, rfl, hS2, HB.out⟩
    case round =>
      obtain ⟨lo, hi, h0, h1, h2, rfl, rfl, hbis, hB⟩ := hrel
      clear HB
      have HB := hide hB
      clear hB
      by_cases hlt : lo < hi
      · obtain ⟨m, hm⟩ : ∃ m, (lo + hi) / 2 = m := ⟨_, rfl⟩
        have hm2 : lo + (hi - lo) / 2 = m := by omega
        have hm3 : (lo + hi).tdiv 2 = m := by rw [Int.tdiv_eq_ediv_of_nonneg (by omega)]; exact hm
        have y1 := bis_yes (B := B) hlt
        have y2 := bis_no (B := B) hlt
        rw [hm2] at y1 y2
        have hmb : lo ≤ m ∧ m < hi := by omega
        obtain ⟨hmb1, hmb2⟩ := hmb
        clear hm hm2
        have hm0 : 0 ≤ m := by omega
        have hm4 : m ≤ 400000 := by omega
        have Y1 := hide y1
        have Y2 := hide y2
        clear y1 y2
        go_wp2_with fail
        refine (sky_any _).mono ?_
        rintro e w2 ⟨A1, c1, rfl, hA1, hb⟩
        replace HB := hide (onward HB.out hb)
        clear hb
        have HA1 := hide hA1
        clear hA1
        go_wp2_with fail
        refine (HN.out _ HB.out m hm0 hm4 A1 c1 HA1.out).mono ?_
        rintro e w3 ⟨A2, c2, rfl, hA2, hb⟩
        replace HB := hide (onward HB.out hb)
        clear hb
        clear HA1 hA2
        go_wp2_with fail
        refine (HE.out m _ A2 c2).mono ?_
        rintro e w4 ⟨rfl, hb⟩
        replace HB := hide (onward HB.out hb)
        clear hb
        obtain ⟨b, hb⟩ : ∃ b, B m = b := ⟨_, rfl⟩
        have Hb := hide hb
        rw [hb]
        clear hb
        cases b with
        | true =>
          have e := Y1.out Hb.out
          go_wp2_with fail
          go_roundw
          case rel => exact ⟨m + 1, hi, by omega, by omega, h2, by go_num, rfl, by rw [← e]; exact hbis, HB.out⟩
          case measure => simp [intOf] <;> omega
        | false =>
          have e := Y2.out Hb.out
          go_wp2_with fail
          go_roundw
          case rel => exact ⟨lo, m, by omega, by omega, by omega, rfl, rfl, by rw [← e]; exact hbis, HB.out⟩
          case measure => simp [intOf] <;> omega
      · rw [bis_end hlt] at hbis
        subst hbis
        go_wp2
        exact bodyPost_ret (v := .tuple #[.int .i64 lo, .int .i64 0]) (by simp [results, Try.results24, go_sem]) rfl ⟨rfl, HB.out⟩
  · have hS : strainA l = 0 := by unfold strainA; rw [if_pos he]
    rw [hS]
    obtain ⟨e0, hee⟩ : ∃ e, listE l = e := ⟨_, rfl⟩
    have hd : (e0 != 0) = true := by rw [hee] at he; simp [he]
    rw [hee] at hL he ⊢
    generalize l.length = n at *
    have HL := hide hL
    clear hL
    clear hA hI hee hS
    go_enter Try.func24, Try.ntmps24
    have HB := hide (Below.refl w.heap.size w)
    go_wp2_with fail
    refine (HL.out).mono ?_
    rintro e w1 ⟨rfl, hb⟩
    replace HB := hide (onward HB.out hb)
    clear hb
    go_wp2
    exact bodyPost_ret (v := .tuple #[.int .i64 0, .int .i64 e0]) (by simp [results, Try.results24, go_sem]) rfl ⟨rfl, HB.out⟩
end Go.Proofs.Ytllpffkifleigaa
end
section
namespace Go.Proofs.Ytllpffkifleigaa
open Go Go.RowKit

set_option maxHeartbeats 1000000 in
set_option maxRecDepth 100000 in
theorem agree1_any (s : Sgt) (u v : Int) (bu bv : Nat) (w : World) (hs : SgtOk s) (hu1 : -120000 ≤ u) (hu2 : u ≤ 120000) (hv1 : -120000 ≤ v) (hv2 : v ≤ 120000) (hbu : Blk w bu 3 #[.int .i64 u]) (hbv : Blk w bv 3 #[.int .i64 v]) :
    Calls Try.prog 58 #[sgC s, .pointer (some ⟨bu, 0, none⟩), .pointer (some ⟨bv, 0, none⟩)] w fun e w' => e = .returned (.bool (!agr1B s u v)) ∧ Below w.heap.size w w' := by
  obtain ⟨l1, l2, x1, x2, y1, y2, -, a1, a2, a3⟩ := hs
  have m1 := abs_mul (X := 120000) (Y := 64800) hu1 hu2 (show -64800 ≤ s.x by omega) (by omega)
  have m2 := abs_mul (X := 120000) (Y := 64800) hv1 hv2 (show -64800 ≤ s.y by omega) (by omega)
  have m3 := abs_mul (X := 400000) (Y := 64800) a1 (show s.lo ≤ 400000 by omega) (show -64800 ≤ s.l by omega) l2
  have m4 := abs_mul (X := 400000) (Y := 64800) (show -400000 ≤ s.hi by omega) a3 (show -64800 ≤ s.l by omega) l2
  have hr : (!agr1B s u v) = (decide (u * s.x + v * s.y < s.lo * s.l) || decide (s.hi * s.l < u * s.x + v * s.y)) := by unfold agr1B; rw [Bool.not_not]
  rw [hr]
  unfold sgC
  obtain ⟨sx, sy, sl, slo, shi⟩ := s
  simp only at *
  clear hr
  have HU := hide hbu
  have HV := hide hbv
  clear hbu hbv
  by_cases h1 : u * sx + v * sy < slo * sl
  · have hd1 : decide (u * sx + v * sy < slo * sl) = true := decide_eq_true h1
    rw [hd1]
    go_enter Try.func58, Try.ntmps58
    have HB := hide (Below.refl w.heap.size w)
    go_upto_region 1 with fail
    refine code_world fun W hW => ?_
    have bq0 : Blk W w.heap.size 71 #[.int .i64 sx, .int .i64 sy, .int .i64 sl, .int .i64 slo, .int .i64 shi] := by rw [hW]; exact Blk.new _ _ _
    have LW : Later w W := by rw [hW]; exact ((Below.refl _ _).alloc (Nat.le_refl _) _)
    have szW : W.heap.size = w.heap.size + 1 := by rw [hW]; simp
    clear hW
    replace HB := hide (onward HB.out LW)
    replace HU := hide (blk_later HU.out LW)
    replace HV := hide (blk_later HV.out LW)
    have Hs := hide bq0
    clear bq0 LW szW
    have y0 := HU.out.c 0 rfl
    have lty := HU.out.lt
    have z0 := HV.out.c 0 rfl
    have ltz := HV.out.lt
    have x0 := Hs.out.c 0 rfl
    have x1 := Hs.out.c 1 rfl
    have x2 := Hs.out.c 2 rfl
    have x3 := Hs.out.c 3 rfl
    have x4 := Hs.out.c 4 rfl
    have ltx := Hs.out.lt
    go_wp2
    go_ret
    exact ⟨by first | rfl | simp, HB.out⟩
  · have hd1 : decide (u * sx + v * sy < slo * sl) = false := decide_eq_false h1
    rw [hd1]
    go_enter Try.func58, Try.ntmps58
    have HB := hide (Below.refl w.heap.size w)
    go_upto_region 1 with fail
    refine code_world fun W hW => ?_
    have bq0 : Blk W w.heap.size 71 #[.int .i64 sx, .int .i64 sy, .int .i64 sl, .int .i64 slo, .int .i64 shi] := by rw [hW]; exact Blk.new _ _ _
    have LW : Later w W := by rw [hW]; exact ((Below.refl _ _).alloc (Nat.le_refl _) _)
    have szW : W.heap.size = w.heap.size + 1 := by rw [hW]; simp
    clear hW
    replace HB := hide (onward HB.out LW)
    replace HU := hide (blk_later HU.out LW)
    replace HV := hide (blk_later HV.out LW)
    have Hs := hide bq0
    clear bq0 LW szW
    have y0 := HU.out.c 0 rfl
    have lty := HU.out.lt
    have z0 := HV.out.c 0 rfl
    have ltz := HV.out.lt
    have x0 := Hs.out.c 0 rfl
    have x1 := Hs.out.c 1 rfl
    have x2 := Hs.out.c 2 rfl
    have x3 := Hs.out.c 3 rfl
    have x4 := Hs.out.c 4 rfl
    have ltx := Hs.out.lt
    go_wp2
    go_ret
    exact ⟨by first | rfl | simp, HB.out⟩
set_option maxHeartbeats 1000000 in
set_option maxRecDepth 100000 in
theorem idxA_any (A : Option Addr) (l : List Sgt) (c : Nat) (u v : Int) (bu bv : Nat) (w : World) (hmax : l.length ≤ 360) (hA : SgtsAt w w.heap.size A l) (hI : ∀ s ∈ l, SgtOk s) (hu1 : -120000 ≤ u) (hu2 : u ≤ 120000) (hv1 : -120000 ≤ v) (hv2 : v ≤ 120000) (hbu : Blk w bu 3 #[.int .i64 u]) (hbv : Blk w bv 3 #[.int .i64 v]) :
    Calls Try.prog 96 #[.slice A l.length c, .func (.func 58) #[] #[.pointer (some ⟨bu, 0, none⟩), .pointer (some ⟨bv, 0, none⟩)]] w fun e w' => ∃ z : Int, e = .returned (.int .i64 z) ∧ decide (0 ≤ z) = (!agrAll l u v) ∧ Below w.heap.size w w' := by
  have hc := fun k (hk : k < l.length) (W : World) (hW : Below w.heap.size w W) => agree1_any (l.getD k sg0) u v bu bv W (hI _ (getD_mem hk)) hu1 hu2 hv1 hv2 (blk_later hbu hW) (blk_later hbv hW)
  have hbad1 : ∀ k, k < l.length → (!agr1B (l.getD k sg0) u v) = true → (!agrAll l u v) = true := fun k hk h => by
    cases ha : agrAll l u v with
    | false => rfl
    | true =>
      unfold agrAll at ha
      rw [List.all_eq_true.1 ha _ (getD_mem hk)] at h
      cases h
  have hbad0 : (∀ k, k < l.length → (!agr1B (l.getD k sg0) u v) = false) → (!agrAll l u v) = false := fun h => by
    have ha : agrAll l u v = true := List.all_eq_true.2 fun s hs => by
      obtain ⟨i, hi, rfl⟩ := idx hs
      have := h i hi
      simpa using this
    rw [ha]
    rfl
  have hsc : SgtsAt w w.heap.size A l := hA
  unfold SgtsAt at hsc
  unfold sgC at hc
  obtain ⟨n, hn⟩ : ∃ n, l.length = n := ⟨_, rfl⟩
  rw [hn] at hc hsc hmax hbad1 hbad0 ⊢
  have hmax2 : (n : Int) ≤ 360 := by omega
  generalize (!agrAll l u v) = bad at *
  have HC := hide hc
  have HSC := hide hsc
  have HB1 := hide hbad1
  have HB0 := hide hbad0
  clear hc hsc hbad1 hbad0
  clear hA hI hn hbu hbv hu1 hu2 hv1 hv2
  go_enter Try.func96, Try.ntmps96
  have HB := hide (Below.refl w.heap.size w)
  go_wp2_with fail
  go_loopw [8] (fun i wr => ∃ k : Nat, k ≤ n ∧ i = .int .i64 k ∧ (∀ j, j < k → (!agr1B (l.getD j sg0) u v) = false) ∧ Below w.heap.size w wr) (fun i _ => n - (intOf i).toNat)
  case atStart => exact ⟨0, Nat.zero_le _, rfl, fun j h => absurd h (Nat.not_lt_zero _), HB.out⟩
  case round =>
    obtain ⟨k, hk, rfl, hno, hB⟩ := hrel
    clear HB
    have HB := hide hB
    have Hno := hide hno
    clear hB hno
    by_cases hlt : k < n
    · have hlt2 : (k : Int) < n := by omega
      obtain ⟨b, off, rfl, hb0, hcc⟩ := HSC.out (by omega)
      have hc1 := hcc k hlt
      rw [← HB.out.cell hb0, ← HB.out.cell hb0, ← HB.out.cell hb0, ← HB.out.cell hb0, ← HB.out.cell hb0] at hc1
      have ltb : b < wr.heap.size := Nat.lt_of_lt_of_le hb0 HB.out.size
      have c1 := HC.out k hlt
      have g1 := HB1.out k hlt
      obtain ⟨r, hr⟩ : ∃ r, (!agr1B (l.getD k sg0) u v) = r := ⟨_, rfl⟩
      rw [hr] at g1
      simp only [hr] at c1
      have Hr := hide hr
      clear hr hcc
      obtain ⟨X, hX⟩ : ∃ X, l.getD k sg0 = X := ⟨_, rfl⟩
      rw [hX] at hc1 c1
      obtain ⟨sx, sy, sl, slo, shi⟩ := X
      obtain ⟨q0, q1, q2, q3, q4⟩ := hc1
      simp only at q0 q1 q2 q3 q4 c1
      have C1 := hide c1
      have G1 := hide g1
      clear c1 g1
      clear hX
      go_wp2_with fail
      refine (C1.out _ HB.out).mono ?_
      rintro e w1 ⟨rfl, hb⟩
      replace HB := hide (onward HB.out hb)
      clear hb
      cases r with
      | true =>
        have hbt := G1.out rfl
        subst hbt
        go_wp2
        go_ret
        exact ⟨_, rfl, by rw [decide_eq_true (by omega)], HB.out⟩
      | false =>
        go_wp2_with fail
        go_roundw
        case rel => exact ⟨k + 1, hlt, by go_num, fun j hj => by
          by_cases e : j = k
          · rw [e]; exact Hr.out
          · exact Hno.out j (by omega), HB.out⟩
        case measure => simp [intOf] <;> omega
    · obtain rfl : k = n := by omega
      have hkk : ¬ ((k : Int) < k) := by omega
      have hbt := HB0.out Hno.out
      subst hbt
      go_wp2
      go_ret
      exact ⟨_, rfl, by first | omega | simp | rfl, HB.out⟩
set_option maxHeartbeats 1000000 in
set_option maxRecDepth 100000 in
theorem conA_any (A : Option Addr) (l : List Sgt) (c : Nat) (u v : Int) (bu bv : Nat) (w : World) (hmax : l.length ≤ 360) (hA : SgtsAt w w.heap.size A l) (hI : ∀ s ∈ l, SgtOk s) (hu1 : -120000 ≤ u) (hu2 : u ≤ 120000) (hv1 : -120000 ≤ v) (hv2 : v ≤ 120000) (hbu : Blk w bu 3 #[.int .i64 u]) (hbv : Blk w bv 3 #[.int .i64 v]) :
    Calls Try.prog 57 #[.slice A l.length c, .func (.func 58) #[] #[.pointer (some ⟨bu, 0, none⟩), .pointer (some ⟨bv, 0, none⟩)]] w fun e w' => e = .returned (.bool ((!agrAll l u v))) ∧ Below w.heap.size w w' := by
  have hi := idxA_any A l c u v bu bv w hmax hA hI hu1 hu2 hv1 hv2 hbu hbv
  generalize (!agrAll l u v) = bad at *
  clear hA hI hbu hbv
  generalize l.length = n at *
  go_enter Try.func57, Try.ntmps57
  go_wp2_with fail
  refine hi.mono ?_
  rintro e w' ⟨z, rfl, hz, hb⟩
  subst hz
  clear hi
  go_wp2
  go_ret
  exact ⟨rfl, hb⟩
set_option maxHeartbeats 1000000 in
set_option maxRecDepth 100000 in
theorem Agree_any (A : Option Addr) (l : List Sgt) (c : Nat) (u v : Int) (w : World) (hmax : l.length ≤ maxLen) (hA : SgtsAt w w.heap.size A l) (hI : AllI l) :
    Calls Try.prog 15 #[.slice A l.length c, .int .i64 u, .int .i64 v] w fun e w' => e = .returned (.tuple #[.bool (agreeA l u v), .int .i64 (agreeE l u v)]) ∧ Below w.heap.size w w' := by
  have hL := fun (W : World) (hW : Below w.heap.size w W) => listed_any A l c W hmax (hA.below hW) hI
  have hAa : agreeA l u v = (decide (agreeE l u v = 0) && agrAll l u v) := rfl
  rw [hAa]
  by_cases he : listE l = 0
  · obtain ⟨hl1, hl2⟩ := listE_ok.1 he
    have hC := fun (W : World) (hW : Below w.heap.size w W) (bu bv : Nat) (h1 : Blk W bu 3 #[.int .i64 u]) (h2 : Blk W bv 3 #[.int .i64 v]) (hu1 : -120000 ≤ u) (hu2 : u ≤ 120000) (hv1 : -120000 ≤ v) (hv2 : v ≤ 120000) => conA_any A l c u v bu bv W hl1 (hA.below hW) hl2 hu1 hu2 hv1 hv2 h1 h2
    have hE : agreeE l u v = if winB u v = true then 0 else 3 := by unfold agreeE; rw [if_neg (by rw [he]; simp)]
    rw [hE]
    simp only [he] at hL
    generalize agrAll l u v = b at *
    generalize l.length = n at *
    obtain ⟨mx, hmx⟩ : ∃ m, max u v = m := ⟨_, rfl⟩
    obtain ⟨mn, hmn⟩ : ∃ m, min u v = m := ⟨_, rfl⟩
    have hmx2 : (if u < v then v else u) = mx := by rw [← hmx]; split <;> omega
    have hmx3 : (if v < u then u else v) = mx := by rw [← hmx]; split <;> omega
    have hmn2 : (if v < u then v else u) = mn := by rw [← hmn]; split <;> omega
    have hmn3 : (if u < v then u else v) = mn := by rw [← hmn]; split <;> omega
    have HL := hide hL
    have HC := hide hC
    clear hL hC
    clear hA hI hE he hl2 hAa
    by_cases hw : winB u v = true
    · rw [if_pos hw]
      unfold winB at hw
      obtain ⟨u1, u2, v1, v2⟩ := of_decide_eq_true hw
      have hd1 : decide ((120000 : Int) < mx) = false := decide_eq_false (by omega)
      have hd2 : decide (mn < (-120000 : Int)) = false := decide_eq_false (by omega)
      have HC2 := hide (fun (W : World) (hW : Below w.heap.size w W) (bu bv : Nat) h1 h2 => HC.out W hW bu bv h1 h2 u1 u2 v1 v2)
      clear HC hw u1 u2 v1 v2
      go_enter Try.func15, Try.ntmps15
      have HM := hide (Mem.start w)
      go_wp2_with fail
      refine at_world fun W hW => ?_
      have HMn := Mem.to (Mem.allocAt (Mem.allocAt HM.out w.heap.size rfl #[.int .i64 u] 3) (w.heap.size + 1) (by simp) #[.int .i64 v] 3) hW
      have LW : Later w W := by rw [hW]; exact (((Below.refl _ _).alloc (Nat.le_refl _) _).alloc (by simp; try omega) _)
      have szW : W.heap.size = w.heap.size + 2 := by rw [hW]; simp
      clear hW
      replace HM := hide HMn
      clear HMn LW
      clear szW
      generalize hg1 : w.heap.size + 1 = gv at HM ⊢
      generalize hg0 : w.heap.size = gu at HM ⊢
      refine (HL.out _ HM.out.below).mono ?_
      rintro e w1 ⟨rfl, hb⟩
      replace HM := hide (HM.out.later hb)
      clear hb
      have bz : Blk w1 gv 3 #[.int .i64 v] := HM.out.get 0 rfl
      have ltz := bz.lt
      have z0 := bz.c 0 rfl
      have bx : Blk w1 gu 3 #[.int .i64 u] := HM.out.get 1 rfl
      have ltx := bx.lt
      have x0 := bx.c 0 rfl
      go_wp2_with fail
      refine (HC2.out _ HM.out.below gu gv (HM.out.get 1 rfl) (HM.out.get 0 rfl)).mono ?_
      rintro e w2 ⟨rfl, hb⟩
      replace HM := hide (HM.out.later hb)
      clear hb bz ltz z0 bx ltx x0
      go_wp2
      exact bodyPost_ret (v := .tuple #[.bool b, .int .i64 0]) (by simp [results, Try.results15, go_sem]) rfl ⟨rfl, by first | exact HM.out.below | (rw [← hg0]; exact HM.out.below)⟩
    · rw [if_neg hw]
      have hw2 : ¬ (-120000 ≤ u ∧ u ≤ 120000 ∧ -120000 ≤ v ∧ v ≤ 120000) := fun h => hw (by unfold winB; exact decide_eq_true h)
      clear HC hw
      have hd3 : (decide ((3 : Int) = 0) && b) = false := by simp
      rw [hd3]
      by_cases h1 : (120000 : Int) < mx
      · have hd1 : decide ((120000 : Int) < mx) = true := decide_eq_true h1
        clear hw2
        go_enter Try.func15, Try.ntmps15
        have HM := hide (Mem.start w)
        go_wp2_with fail
        refine at_world fun W hW => ?_
        have HMn := Mem.to (Mem.allocAt (Mem.allocAt HM.out w.heap.size rfl #[.int .i64 u] 3) (w.heap.size + 1) (by simp) #[.int .i64 v] 3) hW
        have LW : Later w W := by rw [hW]; exact (((Below.refl _ _).alloc (Nat.le_refl _) _).alloc (by simp; try omega) _)
        have szW : W.heap.size = w.heap.size + 2 := by rw [hW]; simp
        clear hW
        replace HM := hide HMn
        clear HMn LW
        clear szW
        generalize hg1 : w.heap.size + 1 = gv at HM ⊢
        generalize hg0 : w.heap.size = gu at HM ⊢
        refine (HL.out _ HM.out.below).mono ?_
        rintro e w1 ⟨rfl, hb⟩
        replace HM := hide (HM.out.later hb)
        clear hb
        have bz : Blk w1 gv 3 #[.int .i64 v] := HM.out.get 0 rfl
        have ltz := bz.lt
        have z0 := bz.c 0 rfl
        have bx : Blk w1 gu 3 #[.int .i64 u] := HM.out.get 1 rfl
        have ltx := bx.lt
        have x0 := bx.c 0 rfl
        go_wp2
        exact bodyPost_ret (v := .tuple #[.bool false, .int .i64 3]) (by simp [results, Try.results15, go_sem]) rfl ⟨rfl, by first | exact HM.out.below | (rw [← hg0]; exact HM.out.below)⟩
      · have hd1 : decide ((120000 : Int) < mx) = false := decide_eq_false h1
        have hd2 : decide (mn < (-120000 : Int)) = true := decide_eq_true (by omega)
        clear hw2
        go_enter Try.func15, Try.ntmps15
        have HM := hide (Mem.start w)
        go_wp2_with fail
        refine at_world fun W hW => ?_
        have HMn := Mem.to (Mem.allocAt (Mem.allocAt HM.out w.heap.size rfl #[.int .i64 u] 3) (w.heap.size + 1) (by simp) #[.int .i64 v] 3) hW
        have LW : Later w W := by rw [hW]; exact (((Below.refl _ _).alloc (Nat.le_refl _) _).alloc (by simp; try omega) _)
        have szW : W.heap.size = w.heap.size + 2 := by rw [hW]; simp
        clear hW
        replace HM := hide HMn
        clear HMn LW
        clear szW
        generalize hg1 : w.heap.size + 1 = gv at HM ⊢
        generalize hg0 : w.heap.size = gu at HM ⊢
        refine (HL.out _ HM.out.below).mono ?_
        rintro e w1 ⟨rfl, hb⟩
        replace HM := hide (HM.out.later hb)
        clear hb
        have bz : Blk w1 gv 3 #[.int .i64 v] := HM.out.get 0 rfl
        have ltz := bz.lt
        have z0 := bz.c 0 rfl
        have bx : Blk w1 gu 3 #[.int .i64 u] := HM.out.get 1 rfl
        have ltx := bx.lt
        have x0 := bx.c 0 rfl
        go_wp2
        exact bodyPost_ret (v := .tuple #[.bool false, .int .i64 3]) (by simp [results, Try.results15, go_sem]) rfl ⟨rfl, by first | exact HM.out.below | (rw [← hg0]; exact HM.out.below)⟩
  · have hS : agreeE l u v = listE l := by unfold agreeE; rw [if_pos he]
    rw [hS]
    have hd3 : (decide (listE l = 0) && agrAll l u v) = false := by rw [decide_eq_false he]; rfl
    rw [hd3]
    obtain ⟨e0, hee⟩ : ∃ e, listE l = e := ⟨_, rfl⟩
    have hd : (e0 != 0) = true := by rw [hee] at he; simp [he]
    rw [hee] at he ⊢
    simp only [hee] at hL
    generalize l.length = n at *
    have HL := hide hL
    clear hL
    clear hA hI hee hS hd3 hAa
    go_enter Try.func15, Try.ntmps15
    have HM := hide (Mem.start w)
    go_wp2_with fail
    refine at_world fun W hW => ?_
    have HMn := Mem.to (Mem.allocAt (Mem.allocAt HM.out w.heap.size rfl #[.int .i64 u] 3) (w.heap.size + 1) (by simp) #[.int .i64 v] 3) hW
    have LW : Later w W := by rw [hW]; exact (((Below.refl _ _).alloc (Nat.le_refl _) _).alloc (by simp; try omega) _)
    have szW : W.heap.size = w.heap.size + 2 := by rw [hW]; simp
    clear hW
    replace HM := hide HMn
    clear HMn LW
    clear szW
    generalize hg1 : w.heap.size + 1 = gv at HM ⊢
    generalize hg0 : w.heap.size = gu at HM ⊢
    refine (HL.out _ HM.out.below).mono ?_
    rintro e w1 ⟨rfl, hb⟩
    replace HM := hide (HM.out.later hb)
    clear hb
    have bz : Blk w1 gv 3 #[.int .i64 v] := HM.out.get 0 rfl
    have ltz := bz.lt
    have z0 := bz.c 0 rfl
    have bx : Blk w1 gu 3 #[.int .i64 u] := HM.out.get 1 rfl
    have ltx := bx.lt
    have x0 := bx.c 0 rfl
    go_wp2
    exact bodyPost_ret (v := .tuple #[.bool false, .int .i64 e0]) (by simp [results, Try.results15, go_sem]) rfl ⟨rfl, by first | exact HM.out.below | (rw [← hg0]; exact HM.out.below)⟩
end Go.Proofs.Ytllpffkifleigaa
end
