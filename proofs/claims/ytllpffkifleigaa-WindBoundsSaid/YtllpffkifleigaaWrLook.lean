/-
  The document's Agree.
  The document's beyond and upper: the greatest speed of corners along a direction.
  The document's Along.
  The document's Bounds.
  The document: the sight of a gate.
-/
import Derived.Test.YtllpffkifleigaaWxList
import Derived.Test.YtllpffkifleigaaWdAgree
import Derived.Test.YtllpffkifleigaaWdBounds
import Derived.Test.YtllpffkifleigaaRegM
set_option linter.unusedSimpArgs false
set_option linter.unusedVariables false
section
namespace Go.Proofs.Ytllpffkifleigaa
open Go Go.RowKit

set_option maxHeartbeats 1000000 in
set_option maxRecDepth 100000 in
theorem rAgree_any (A : Option Addr) (l : List Sgt) (c : Nat) (u v : Int) (w : World) (hmax : l.length ≤ maxLen) (hA : SgtsAt w w.heap.size A l) (hI : AllI l) :
    Calls Try.prog 16 #[.slice A l.length c, .int .i64 u, .int .i64 v] w fun e w' => e = .returned (.tuple #[.bool (agreeA l u v), .int .i64 (agreeE l u v)]) ∧ Below w.heap.size w w' := by
  have hL := fun (W : World) (hW : Below w.heap.size w W) => rlist_any A l c W hmax (hA.below hW) hI
  have hAa : agreeA l u v = (decide (agreeE l u v = 0) && agrAll l u v) := rfl
  rw [hAa]
  clear hAa
  by_cases he : listE l = 0
  · obtain ⟨hl1, hl2⟩ := listE_ok.1 he
    have hE : agreeE l u v = if winB u v = true then 0 else 3 := by unfold agreeE; rw [if_neg (by rw [he]; simp)]
    rw [hE]
    simp only [he] at hL
    have iu := fun W => In_any u (-120000) 120000 W
    have iv := fun W => In_any v (-120000) 120000 W
    by_cases hw : winB u v = true
    · rw [if_pos hw]
      unfold winB at hw
      obtain ⟨u1, u2, v1, v2⟩ := of_decide_eq_true hw
      have d1 : winBQ u (-120000) 120000 = true := winB_iff.2 ⟨u1, u2⟩
      have d2 : winBQ v (-120000) 120000 = true := winB_iff.2 ⟨v1, v2⟩
      simp only [d1] at iu
      simp only [d2] at iv
      have hd : (decide ((0 : Int) = 0) && agrAll l u v) = agrAll l u v := by simp
      rw [hd]
      have hbad1 : ∀ k, k < l.length → agr1B (l.getD k sg0) u v = false → agrAll l u v = false := fun k hk h => by
        cases ha : agrAll l u v with
        | false => rfl
        | true =>
          unfold agrAll at ha
          rw [List.all_eq_true.1 ha _ (getD_mem hk)] at h
          cases h
      have hbad0 : (∀ k, k < l.length → agr1B (l.getD k sg0) u v = true) → agrAll l u v = true := fun h => List.all_eq_true.2 fun s hs => by
        obtain ⟨i, hi, rfl⟩ := idx hs
        exact h i hi
      have hok := fun k (hk : k < l.length) => hl2 _ (getD_mem hk)
      have hsc : SgtsAt w w.heap.size A l := hA
      unfold SgtsAt at hsc
      obtain ⟨n, hn⟩ : ∃ n, l.length = n := ⟨_, rfl⟩
      rw [hn] at hsc hbad1 hbad0 hl1 ⊢
      simp only [hn] at hL hok
      have hmax2 : (n : Int) ≤ 360 := by omega
      generalize agrAll l u v = ok at *
      have HL := hide hL
      have IU := hide iu
      have IV := hide iv
      have HSC := hide hsc
      have HB1 := hide hbad1
      have HB0 := hide hbad0
      have HOK := hide hok
      clear hL iu iv hsc hbad1 hbad0 hok
      clear hA hI hE he hl2 hd d1 d2 hw hn hmax
      go_enter Try.func16, Try.ntmps16
      have HB := hide (Below.refl w.heap.size w)
      go_wp2_with fail
      refine (HL.out _ HB.out).mono ?_
      rintro e w1 ⟨rfl, hb⟩
      replace HB := hide (onward HB.out hb)
      clear hb
      go_wp2_with fail
      refine (IU.out _).mono ?_
      rintro e w2 ⟨rfl, rfl⟩
      go_wp2_with fail
      refine (IV.out _).mono ?_
      rintro e w2 ⟨rfl, rfl⟩
      go_wp2_with fail
      go_loopw [9] (fun i wr => ∃ k : Nat, k ≤ n ∧ i = .int .i64 k ∧ (∀ j, j < k → agr1B (l.getD j sg0) u v = true) ∧ Below w.heap.size w wr) (fun i _ => n - (intOf i).toNat)
      case atStart => exact ⟨0, Nat.zero_le _, rfl, fun j h => absurd h (Nat.not_lt_zero _), HB.out⟩
      case round =>
        obtain ⟨k, hk, rfl, hno, hB⟩ := hrel
        clear HB
        have HB := hide hB
        have Hno := hide hno
        clear hB hno
        by_cases hlt : k < n
        · have hlt2 : (k : Int) < n := by omega
          obtain ⟨b, off, rfl, hb0, hcc⟩ := HSC.out (by omega)
          have hc1 := hcc k hlt
          rw [← HB.out.cell hb0, ← HB.out.cell hb0, ← HB.out.cell hb0, ← HB.out.cell hb0, ← HB.out.cell hb0] at hc1
          have ltb : b < wr.heap.size := Nat.lt_of_lt_of_le hb0 HB.out.size
          have g1 := HB1.out k hlt
          have g2 := HOK.out k hlt
          obtain ⟨X, hX⟩ : ∃ X, l.getD k sg0 = X := ⟨_, rfl⟩
          rw [hX] at hc1 g1 g2
          obtain ⟨l1, l2, x1, x2, y1, y2, -, a1, a2, a3⟩ := g2
          have m1 := abs_mul (X := 120000) (Y := 64800) u1 u2 (show -64800 ≤ X.x by omega) (by omega)
          have m2 := abs_mul (X := 120000) (Y := 64800) v1 v2 (show -64800 ≤ X.y by omega) (by omega)
          have m3 := abs_mul (X := 400000) (Y := 64800) a1 (show X.lo ≤ 400000 by omega) (show -64800 ≤ X.l by omega) l2
          have m4 := abs_mul (X := 400000) (Y := 64800) (show -400000 ≤ X.hi by omega) a3 (show -64800 ≤ X.l by omega) l2
          have hgo : agr1B X u v = true → ∀ j, j < k + 1 → agr1B (l.getD j sg0) u v = true := fun h j hj => by
            by_cases e : j = k
            · rw [e, hX]; exact h
            · exact Hno.out j (by omega)
          have hr : agr1B X u v = !(decide (u * X.x + v * X.y < X.lo * X.l) || decide (X.hi * X.l < u * X.x + v * X.y)) := rfl
          rw [hr] at g1 hgo
          obtain ⟨sx, sy, sl, slo, shi⟩ := X
          obtain ⟨q0, q1, q2, q3, q4⟩ := hc1
          simp only at q0 q1 q2 q3 q4 g1 hgo m1 m2 m3 m4
          clear hX hcc hr l1 l2 x1 x2 y1 y2 a1 a2 a3
          obtain ⟨p1, hp1⟩ : ∃ p, u * sx = p := ⟨_, rfl⟩
          obtain ⟨p2, hp2⟩ : ∃ p, v * sy = p := ⟨_, rfl⟩
          obtain ⟨p3, hp3⟩ : ∃ p, slo * sl = p := ⟨_, rfl⟩
          obtain ⟨p4, hp4⟩ : ∃ p, shi * sl = p := ⟨_, rfl⟩
          rw [hp1, hp2, hp3, hp4] at g1 hgo
          rw [hp1] at m1
          rw [hp2] at m2
          rw [hp3] at m3
          rw [hp4] at m4
          obtain ⟨m11, m12⟩ := m1
          obtain ⟨m21, m22⟩ := m2
          obtain ⟨m31, m32⟩ := m3
          obtain ⟨m41, m42⟩ := m4
          have G1 := hide g1
          have HGO := hide hgo
          clear g1 hgo
          go_upto_region 9 with fail
          go_quiet (fail)
          have hL : Below wr.heap.size wr (wr.drewN nq) := below_drewN (Below.refl _ _) _
          generalize (wr.drewN nq : World) = w2 at hL ⊢
          replace q2 := (hL.cell ltb).trans q2
          replace q3 := (hL.cell ltb).trans q3
          replace q4 := (hL.cell ltb).trans q4
          replace ltb := Nat.lt_of_lt_of_le ltb hL.size
          clear q0 q1
          replace HB := hide (onward HB.out hL)
          clear hL
          by_cases c1 : p1 + p2 < p3
          · have hd : decide (p1 + p2 < p3) = true := decide_eq_true c1
            obtain rfl := G1.out (by rw [hd]; rfl)
            clear G1 HGO
            go_upto_region 10 with fail
            go_quiet (fail)
            have hL : Below w2.heap.size w2 (w2.drewN nq) := below_drewN (Below.refl _ _) _
            generalize (w2.drewN nq : World) = w3 at hL ⊢
            clear q2 q3 q4 ltb
            replace HB := hide (onward HB.out hL)
            clear hL
            go_wp2
            exact bodyPost_ret (v := .tuple #[.bool false, .int .i64 0]) (by simp [results, Try.results16, go_sem]) rfl ⟨rfl, HB.out⟩
          · have hd : decide (p1 + p2 < p3) = false := decide_eq_false c1
            by_cases c2 : p4 < p1 + p2
            · have hd2 : decide (p4 < p1 + p2) = true := decide_eq_true c2
              obtain rfl := G1.out (by rw [hd, hd2]; rfl)
              clear G1 HGO
              go_upto_region 10 with fail
              go_quiet (fail)
              have hL : Below w2.heap.size w2 (w2.drewN nq) := below_drewN (Below.refl _ _) _
              generalize (w2.drewN nq : World) = w3 at hL ⊢
              clear q2 q3 q4 ltb
              replace HB := hide (onward HB.out hL)
              clear hL
              go_wp2
              exact bodyPost_ret (v := .tuple #[.bool false, .int .i64 0]) (by simp [results, Try.results16, go_sem]) rfl ⟨rfl, HB.out⟩
            · have hd2 : decide (p4 < p1 + p2) = false := decide_eq_false c2
              have hgo := HGO.out (by rw [hd, hd2]; rfl)
              clear G1 HGO
              have HGO := hide hgo
              clear hgo
              go_upto_region 10 with fail
              go_quiet (fail)
              have hL : Below w2.heap.size w2 (w2.drewN nq) := below_drewN (Below.refl _ _) _
              generalize (w2.drewN nq : World) = w3 at hL ⊢
              clear q2 q3 q4 ltb
              replace HB := hide (onward HB.out hL)
              clear hL
              go_wp2_with fail
              go_roundw
              case rel => exact ⟨k + 1, hlt, by go_num, HGO.out, HB.out⟩
              case measure => simp [intOf] <;> omega
        · obtain rfl : k = n := by omega
          have hkk : ¬ ((k : Int) < k) := by omega
          obtain rfl := HB0.out Hno.out
          go_wp2
          exact bodyPost_ret (v := .tuple #[.bool true, .int .i64 0]) (by simp [results, Try.results16, go_sem]) rfl ⟨rfl, HB.out⟩
    · rw [if_neg hw]
      have hd3 : (decide ((3 : Int) = 0) && agrAll l u v) = false := by simp
      rw [hd3]
      have hw2 : ¬ (-120000 ≤ u ∧ u ≤ 120000 ∧ -120000 ≤ v ∧ v ≤ 120000) := fun h => hw (by unfold winB; exact decide_eq_true h)
      generalize l.length = n at *
      by_cases hu : -120000 ≤ u ∧ u ≤ 120000
      · have d1 : winBQ u (-120000) 120000 = true := winB_iff.2 hu
        have d2 : winBQ v (-120000) 120000 = false := by
          cases h : winBQ v (-120000) 120000 with
          | false => rfl
          | true => exact absurd ⟨hu.1, hu.2, winB_iff.1 h⟩ hw2
        simp only [d1] at iu
        simp only [d2] at iv
        have HL := hide hL
        have IU := hide iu
        have IV := hide iv
        clear hL iu iv
        clear hA hI hE he hl2 d1 d2 hw hw2 hu hmax hd3
        go_enter Try.func16, Try.ntmps16
        have HB := hide (Below.refl w.heap.size w)
        go_wp2_with fail
        refine (HL.out _ HB.out).mono ?_
        rintro e w1 ⟨rfl, hb⟩
        replace HB := hide (onward HB.out hb)
        clear hb
        go_wp2_with fail
        refine (IU.out _).mono ?_
        rintro e w2 ⟨rfl, rfl⟩
        go_wp2_with fail
        refine (IV.out _).mono ?_
        rintro e w2 ⟨rfl, rfl⟩
        go_wp2
        exact bodyPost_ret (v := .tuple #[.bool false, .int .i64 3]) (by simp [results, Try.results16, go_sem]) rfl ⟨rfl, HB.out⟩
      · have d1 : winBQ u (-120000) 120000 = false := by
          cases h : winBQ u (-120000) 120000 with
          | false => rfl
          | true => exact absurd (winB_iff.1 h) hu
        simp only [d1] at iu
        have HL := hide hL
        have IU := hide iu
        clear hL iu
        clear hA hI hE he hl2 d1 hw hw2 hu hmax hd3 iv
        go_enter Try.func16, Try.ntmps16
        have HB := hide (Below.refl w.heap.size w)
        go_wp2_with fail
        refine (HL.out _ HB.out).mono ?_
        rintro e w1 ⟨rfl, hb⟩
        replace HB := hide (onward HB.out hb)
        clear hb
        go_wp2_with fail
        refine (IU.out _).mono ?_
        rintro e w2 ⟨rfl, rfl⟩
        go_wp2
        exact bodyPost_ret (v := .tuple #[.bool false, .int .i64 3]) (by simp [results, Try.results16, go_sem]) rfl ⟨rfl, HB.out⟩
  · have hS : agreeE l u v = listE l := by unfold agreeE; rw [if_pos he]
    rw [hS]
    have hd3 : (decide (listE l = 0) && agrAll l u v) = false := by rw [decide_eq_false he]; rfl
    rw [hd3]
    obtain ⟨e0, hee⟩ : ∃ e, listE l = e := ⟨_, rfl⟩
    have hd : (e0 != 0) = true := by rw [hee] at he; simp [he]
    rw [hee] at he ⊢
    simp only [hee] at hL
    generalize l.length = n at *
    have HL := hide hL
    clear hL
    clear hA hI hee hd3 hS hmax
    go_enter Try.func16, Try.ntmps16
    have HB := hide (Below.refl w.heap.size w)
    go_wp2_with fail
    refine (HL.out _ HB.out).mono ?_
    rintro e w1 ⟨rfl, hb⟩
    replace HB := hide (onward HB.out hb)
    clear hb
    go_wp2
    exact bodyPost_ret (v := .tuple #[.bool false, .int .i64 e0]) (by simp [results, Try.results16, go_sem]) rfl ⟨rfl, HB.out⟩
end Go.Proofs.Ytllpffkifleigaa
end
section
namespace Go.Proofs.Ytllpffkifleigaa
open Go Go.RowKit

theorem bis_bd {B : Int → Bool} : ∀ (n : Nat) (lo hi : Int), (hi - lo).toNat ≤ n → lo ≤ hi → lo ≤ bis B lo hi ∧ bis B lo hi ≤ hi
  | 0, lo, hi, h, hl => by
    rw [bis_end (by omega)]
    omega
  | n + 1, lo, hi, h, hl => by
    by_cases hlt : lo < hi
    · cases hb : B (lo + (hi - lo) / 2) with
      | true =>
        rw [bis_yes hlt hb]
        have := bis_bd (B := B) n (lo + (hi - lo) / 2 + 1) hi (by omega) (by omega)
        omega
      | false =>
        rw [bis_no hlt hb]
        have := bis_bd (B := B) n lo (lo + (hi - lo) / 2) (by omega) (by omega)
        omega
    · rw [bis_end hlt]
      omega
theorem upper_bd (l : List Pt) (x y len : Int) : -240000 ≤ upper l x y len ∧ upper l x y len ≤ 240000 := bis_bd 480000 (-240000) 240000 (by omega) (by omega)
theorem bey_side {x y len s : Int} {p : Pt} : decide (0 < sideI (gap ⟨x, y, s * len⟩ p)) = decide (s * (len * p.d) < val x y p) := by
  have h : gap ⟨x, y, s * len⟩ p = s * (len * p.d) - val x y p := by unfold gap val; simp only; grind
  have e := sideI_gt (g := gap ⟨x, y, s * len⟩ p)
  rw [h] at e ⊢
  by_cases c : s * (len * p.d) < val x y p
  · rw [decide_eq_true c, decide_eq_true (e.2 (by omega))]
  · rw [decide_eq_false c, decide_eq_false (fun h2 => c (by have := e.1 h2; omega))]
set_option maxHeartbeats 1000000 in
set_option maxRecDepth 100000 in
theorem rbeyond_any (A : Option Addr) (l : List Pt) (c : Nat) (x y len s : Int) (w : World) (hmax : l.length ≤ 1000000) (hA : CorsH w A l) (hok : ∀ p ∈ l, PtOk p) (hb : BdOk ⟨x, y, s * len⟩) (hs1 : -240000 ≤ s) (hs2 : s ≤ 240000) (hl1 : 1 ≤ len) (hl2 : len ≤ 64800) :
    Calls Try.prog 102 #[.slice A l.length c, .int .i64 x, .int .i64 y, .int .i64 len, .int .i64 s] w fun e w' => e = .returned (.bool (beyB l x y len s)) ∧ Below w.heap.size w w' := by
  have hmem : ∀ k, k < l.length → l.getD k pt0 ∈ l := fun k hk => by rw [List.getD_eq_getElem?_getD, List.getElem?_eq_getElem hk]; exact List.getElem_mem _
  have hS := fun k (hk : k < l.length) W => rside_any ⟨x, y, s * len⟩ (l.getD k pt0) W hb (hok _ (hmem k hk))
  have hG := fun k => bey_side (x := x) (y := y) (len := len) (s := s) (p := l.getD k pt0)
  have hy1 : ∀ k, k < l.length → decide (s * (len * (l.getD k pt0).d) < val x y (l.getD k pt0)) = true → beyB l x y len s = true := fun k hk h => List.any_eq_true.2 ⟨_, hmem k hk, h⟩
  have hy0 : (∀ k, k < l.length → decide (s * (len * (l.getD k pt0).d) < val x y (l.getD k pt0)) = false) → beyB l x y len s = false := fun h => List.any_eq_false.2 fun p hp => by
    obtain ⟨i, hi, rfl⟩ := List.mem_iff_getElem.1 hp
    have := h i hi
    rw [List.getD_eq_getElem?_getD, List.getElem?_eq_getElem hi] at this
    simpa using this
  simp only [← hG] at hy1 hy0
  have hsc : CorsAt w w.heap.size A l := hA
  unfold CorsAt at hsc
  unfold bdC ptC at hS
  obtain ⟨n, hn⟩ : ∃ n, l.length = n := ⟨_, rfl⟩
  rw [hn] at hsc hy1 hy0 hmax ⊢
  simp only [hn] at hS
  have hmax2 : (n : Int) ≤ 1000000 := by omega
  generalize beyB l x y len s = bey at *
  obtain ⟨-, -, -, -, c0, c1⟩ := hb
  simp only at c0 c1
  obtain ⟨sl, hsl⟩ : ∃ z, s * len = z := ⟨_, rfl⟩
  simp only [hsl] at hS hy1 hy0
  rw [hsl] at c0 c1
  have HS := hide hS
  have HSC := hide hsc
  have HY1 := hide hy1
  have HY0 := hide hy0
  clear hS hsc hy1 hy0
  clear hA hok hmem hG hn
  go_enter Try.func102, Try.ntmps102
  have HB := hide (Below.refl w.heap.size w)
  go_wp2_with fail
  go_loopw [11] (fun i wr => ∃ k : Nat, k ≤ n ∧ i = .int .i64 k ∧ (∀ j, j < k → decide (0 < sideI (gap ⟨x, y, sl⟩ (l.getD j pt0))) = false) ∧ Below w.heap.size w wr) (fun i _ => n - (intOf i).toNat)
  case atStart => exact ⟨0, Nat.zero_le _, rfl, fun j h => absurd h (Nat.not_lt_zero _), HB.out⟩
  case round =>
    obtain ⟨k, hk, rfl, hno, hB⟩ := hrel
    clear HB
    have HB := hide hB
    have Hno := hide hno
    clear hB hno
    by_cases hlt : k < n
    · have hlt2 : (k : Int) < n := by omega
      obtain ⟨b, off, rfl, hb0, hcc⟩ := HSC.out (by omega)
      have hc1 := hcc k hlt
      rw [← HB.out.cell hb0, ← HB.out.cell hb0, ← HB.out.cell hb0] at hc1
      have ltb : b < wr.heap.size := Nat.lt_of_lt_of_le hb0 HB.out.size
      have s1 := HS.out k hlt
      have g1 := HY1.out k hlt
      obtain ⟨X, hX⟩ : ∃ X, l.getD k pt0 = X := ⟨_, rfl⟩
      rw [hX] at hc1 g1
      simp only [hX] at s1
      obtain ⟨sg, hsg⟩ : ∃ q, sideI (gap ⟨x, y, sl⟩ X) = q := ⟨_, rfl⟩
      rw [hsg] at g1
      simp only [hsg] at s1
      have hgo : decide (0 < sg) = false → ∀ j, j < k + 1 → decide (0 < sideI (gap ⟨x, y, sl⟩ (l.getD j pt0))) = false := fun h j hj => by
        by_cases e : j = k
        · rw [e, hX, hsg]; exact h
        · exact Hno.out j (by omega)
      obtain ⟨cu, cv, cd⟩ := X
      obtain ⟨q0, q1, q2⟩ := hc1
      simp only at q0 q1 q2 s1
      have S1 := hide s1
      have G1 := hide g1
      have HGO := hide hgo
      clear s1 g1 hgo
      clear hX hcc hsg
      go_wp2_with fail
      refine (S1.out _).mono ?_
      rintro e w1 ⟨rfl, hb⟩
      replace HB := hide (onward HB.out hb)
      clear hb
      by_cases c : 0 < sg
      · obtain rfl := G1.out (decide_eq_true c)
        go_wp2
        go_ret
        exact ⟨rfl, HB.out⟩
      · have hg := HGO.out (decide_eq_false c)
        have HG := hide hg
        clear hg
        clear q0 q1 q2 ltb
        go_wp2_with fail
        go_roundw
        case rel => exact ⟨k + 1, hlt, by go_num, HG.out, HB.out⟩
        case measure => simp [intOf] <;> omega
    · obtain rfl : k = n := by omega
      have hkk : ¬ ((k : Int) < k) := by omega
      obtain rfl := HY0.out Hno.out
      go_wp2
      go_ret
      exact ⟨rfl, HB.out⟩
set_option maxHeartbeats 1000000 in
set_option maxRecDepth 100000 in
theorem rupper_any (A : Option Addr) (l : List Pt) (c : Nat) (x y len : Int) (w : World) (hmax : l.length ≤ 1000000) (hA : CorsH w A l) (hok : ∀ p ∈ l, PtOk p) (hl1 : 1 ≤ len) (hl2 : len ≤ 64800) (hx1 : -len ≤ x) (hx2 : x ≤ len) (hy1 : -len ≤ y) (hy2 : y ≤ len) :
    Calls Try.prog 71 #[.slice A l.length c, .int .i64 x, .int .i64 y, .int .i64 len] w fun e w' => e = .returned (.int .i64 (upper l x y len)) ∧ Below w.heap.size w w' := by
  have hN := fun (s : Int) (W : World) (h1 : -240000 ≤ s) (h2 : s ≤ 240000) (ha : CorsH W A l) => rbeyond_any A l c x y len s W hmax ha hok (by
    have m := abs_mul (X := 240000) (Y := 64800) h1 h2 (show -64800 ≤ len by omega) hl2
    constructor <;> simp only <;> omega) h1 h2 hl1 hl2
  obtain ⟨S, hS⟩ : ∃ S, upper l x y len = S := ⟨_, rfl⟩
  have hS2 : bis (beyB l x y len) (-240000) 240000 = S := hS
  rw [hS]
  generalize beyB l x y len = B at *
  obtain ⟨n, hn⟩ : ∃ n, l.length = n := ⟨_, rfl⟩
  simp only [hn] at hN
  rw [hn]
  have HN := hide hN
  have HA := hide hA
  clear hN hA
  clear hok hS hn hx1 hx2 hy1 hy2
  go_enter Try.func71, Try.ntmps71
  have HB := hide (Below.refl w.heap.size w)
  go_wp2_with fail
  go_loopw [9, 10] (fun i k wr => ∃ lo hi : Int, -240000 ≤ lo ∧ lo ≤ hi ∧ hi ≤ 240000 ∧ i = .int .i64 lo ∧ k = .int .i64 hi ∧ bis B lo hi = S ∧ Below w.heap.size w wr) (fun i k _ => (intOf k - intOf i).toNat)
  case atStart => exact ⟨-240000, 240000, by omega, by omega, by omega, rfl, rfl, hS2, HB.out⟩
  case round =>
    obtain ⟨lo, hi, h0, h1, h2, rfl, rfl, hbis, hB⟩ := hrel
    clear HB
    have HB := hide hB
    clear hB
    by_cases hlt : lo < hi
    · obtain ⟨m, hm⟩ : ∃ m, (hi - lo) / 2 = m := ⟨_, rfl⟩
      have hm3 : (hi - lo).tdiv 2 = m := by rw [Int.tdiv_eq_ediv_of_nonneg (by omega)]; exact hm
      have y1 := bis_yes (B := B) hlt
      have y2 := bis_no (B := B) hlt
      rw [hm] at y1 y2
      have hmb1 : 0 ≤ m := by omega
      have hmb2 : lo + m < hi := by omega
      clear hm
      have hr := HN.out (lo + m) wr (by omega) (by omega) (HA.out.later HB.out)
      obtain ⟨mid, hmid⟩ : ∃ z, lo + m = z := ⟨_, rfl⟩
      rw [hmid] at hr y1 y2
      have Y1 := hide y1
      have Y2 := hide y2
      have HR := hide hr
      clear y1 y2 hr
      go_wp2_with fail
      refine (HR.out).mono ?_
      rintro e w2 ⟨rfl, hb⟩
      replace HB := hide (onward HB.out hb)
      clear hb
      obtain ⟨b, hb⟩ : ∃ b, B mid = b := ⟨_, rfl⟩
      have Hb := hide hb
      rw [hb]
      clear hb
      cases b with
      | true =>
        have e := Y1.out Hb.out
        go_wp2_with fail
        go_roundw
        case rel => exact ⟨mid + 1, hi, by omega, by omega, h2, by go_num, rfl, by rw [← e]; exact hbis, HB.out⟩
        case measure => simp [intOf] <;> omega
      | false =>
        have e := Y2.out Hb.out
        go_wp2_with fail
        go_roundw
        case rel => exact ⟨lo, mid, by omega, by omega, by omega, rfl, rfl, by rw [← e]; exact hbis, HB.out⟩
        case measure => simp [intOf] <;> omega
    · rw [bis_end hlt] at hbis
      subst hbis
      go_wp2
      go_ret
      exact ⟨rfl, HB.out⟩
end Go.Proofs.Ytllpffkifleigaa
end
section
namespace Go.Proofs.Ytllpffkifleigaa
open Go Go.RowKit

set_option maxHeartbeats 1000000 in
set_option maxRecDepth 100000 in
theorem rAlong_any (A : Option Addr) (l : List Sgt) (c : Nat) (x y len : Int) (w : World) (hmax : l.length ≤ maxLen) (hA : SgtsAt w w.heap.size A l) (hI : AllI l) (hx : I64 x) (hy : I64 y) :
    Calls Try.prog 20 #[.slice A l.length c, .int .i64 x, .int .i64 y, .int .i64 len] w fun e w' => e = .returned (.tuple #[.agg #[.int .i64 (alongL l x y len), .int .i64 (alongH l x y len)], .int .i64 (alongE l x y len)]) ∧ Below w.heap.size w w' := by
  have hL := fun (W : World) (hW : Below w.heap.size w W) => rlist_any A l c W hmax (hA.below hW) hI
  have hD := fun W => rdir_any x y len W hx hy
  have HQ := hide (⟨rfl, rfl⟩ : (0 : Int) = 0 ∧ (0 : Int) = 0)
  by_cases he : listE l = 0
  · obtain ⟨hl1, hl2⟩ := listE_ok.1 he
    have hH := fun (W : World) (hW : Below w.heap.size w W) => rhalves_any A l c 0 W (by omega) (hA.below hW) hl2 (by omega) (by omega)
    have hC := fun A' c' W h => rcors_any A' l c' 0 W (by omega) hl2 (by omega) (by omega) h
    have hb : agrB l 0 = decide (0 < (rcor (hvs l 0)).length) := by
      unfold agrB
      cases rcor (hvs l 0) <;> simp
    have hro := rcor_ok (hvs_ok hl2 (show (0 : Int) ≤ 0 by omega) (by omega))
    have hrl : (rcor (hvs l 0)).length ≤ 1000000 := by
      have h1 := rcorN_len (hvs l 0) (hvs l 0).length
      have h2 := hvs_len 0 l
      have h3 : (hvs l 0).length * (hvs l 0).length ≤ 724 * 724 := Nat.mul_le_mul (by omega) (by omega)
      unfold rcor
      omega
    have hU := fun (x y : Int) (h1 : 1 ≤ len) (h2 : len ≤ 64800) (h3 : -len ≤ x) (h4 : x ≤ len) (h5 : -len ≤ y) (h6 : y ≤ len) (W : World) A' c' (h : CorsH W A' (rcor (hvs l 0))) => rupper_any A' (rcor (hvs l 0)) c' x y len W hrl h (fun p hp => (hro p hp).1) h1 h2 h3 h4 h5 h6
    have hS := fun h1 h2 => along_same (l := l) (x := x) (y := y) (len := len) h1 h2
    have hub := fun x y => upper_bd (rcor (hvs l 0)) x y len
    have hrs : rs0 l = rcor (hvs l 0) := rfl
    rw [hrs] at hS
    have hEa : alongE l x y len = if dirB x y len = true then (if agrB l 0 = true then 0 else 14) else 3 := by unfold alongE; rw [if_neg (by rw [he]; simp)]
    simp only [he] at hL
    have hLo : alongL l x y len = if alongE l x y len = 0 then loL x y len 240000 (cs0 l) else 0 := rfl
    have hHi : alongH l x y len = if alongE l x y len = 0 then hiL x y len 240000 (cs0 l) else 0 := rfl
    rw [hLo, hHi, hEa]
    generalize loL x y len 240000 (cs0 l) = lo at *
    generalize hiL x y len 240000 (cs0 l) = hi at *
    have hdd := fun h => dirB_iff.1 (show dirB x y len = true from h)
    obtain ⟨d, hd⟩ : ∃ d, dirB x y len = d := ⟨_, rfl⟩
    simp only [hd] at hD hS hdd ⊢
    rw [hb] at hS ⊢
    generalize rcor (hvs l 0) = R at *
    generalize hvs l 0 = hv at *
    generalize l.length = n at *
    have hrl2 : (R.length : Int) ≤ 1000000 := by omega
    have HL := hide hL
    have HH := hide hH
    have HC := hide hC
    have HU := hide hU
    have HD := hide hD
    have HUB := hide hub
    clear hL hH hC hU hD hub
    clear hA hI hLo hHi hEa hd hb hl1 hl2 he hro hrs hrl
    cases d with
    | false =>
      simp only [Bool.false_eq_true, if_false]
      clear hS hdd
      go_enter Try.func20, Try.ntmps20
      have HM := hide (Mem.start w)
      go_wp2_with fail
      refine at_world fun W hW => ?_
      have HMn := Mem.to (Mem.allocAt HM.out w.heap.size rfl #[.int .i64 0, .int .i64 0] 32) hW
      have LW : Later w W := by rw [hW]; exact ((Below.refl _ _).alloc (Nat.le_refl _) _)
      have szW : W.heap.size = w.heap.size + 1 := by rw [hW]; simp
      clear hW
      replace HM := hide HMn
      clear HMn LW
      clear szW
      generalize hg0 : w.heap.size = gr at HM ⊢
      refine (HL.out _ HM.out.below).mono ?_
      rintro e w1 ⟨rfl, hb⟩
      replace HM := hide (HM.out.later hb)
      clear hb
      go_wp2_with fail
      refine (HD.out _).mono ?_
      rintro e w2 ⟨rfl, hb⟩
      replace HM := hide (HM.out.later hb)
      clear hb
      have br : Blk w2 gr 32 #[.int .i64 0, .int .i64 0] := HM.out.get 0 rfl
      have ltr := br.lt
      have r0 := br.c 0 rfl
      have fr0 := br.frozen 0
      have r1 := br.c 1 rfl
      have fr1 := br.frozen 1
      go_wp2
      have HM1 := hide ((HM.out.set_ 0 rfl 0 (.int .i64 0) rfl).set_ 0 rfl 1 (.int .i64 0) rfl)
      have s0 := (HM1.out.blk_ 0 rfl).c 0 rfl
      have s1 := (HM1.out.blk_ 0 rfl).c 1 rfl
      have lts := (HM1.out.blk_ 0 rfl).lt
      refine ret_world fun W1 hW1 => ?_
      rw [← hW1] at HM1 s0 s1 lts
      exact bodyPost_ret (v := .tuple #[.agg #[.int .i64 0, .int .i64 0], .int .i64 3]) (by simp [results, Try.results20, go_sem, s0, s1, lts]) rfl ⟨by first | rfl | (rw [HQ.out.1, HQ.out.2]), by first | exact HM1.out.below | (rw [← hg0]; exact HM1.out.below)⟩
    | true =>
      obtain ⟨d1, d2, d3, d4, d5, d6, -⟩ := hdd rfl
      by_cases hr : 0 < R.length
      · have hr1 : ¬ (R.length : Int) = 0 := by omega
        rw [decide_eq_true hr] at hS ⊢
        simp only [if_true]
        have hs := hS rfl rfl
        have u1 := HU.out x y d1 d2 d3 d4 d5 d6
        have u2 := HU.out (-x) (-y) d1 d2 (by omega) (by omega) (by omega) (by omega)
        obtain ⟨b1, b2⟩ := HUB.out x y
        obtain ⟨b3, b4⟩ := HUB.out (-x) (-y)
        obtain ⟨ua, hua⟩ : ∃ u, upper R x y len = u := ⟨_, rfl⟩
        obtain ⟨ub, hub⟩ : ∃ u, upper R (-x) (-y) len = u := ⟨_, rfl⟩
        simp only [hua] at u1 b1 b2 hs
        simp only [hub] at u2 b3 b4 hs
        obtain ⟨rfl, rfl⟩ := hs
        have U1 := hide u1
        have U2 := hide u2
        clear u1 u2
        clear hS hdd HU HUB hua hub
        go_enter Try.func20, Try.ntmps20
        have HM := hide (Mem.start w)
        go_wp2_with fail
        refine at_world fun W hW => ?_
        have HMn := Mem.to (Mem.allocAt HM.out w.heap.size rfl #[.int .i64 0, .int .i64 0] 32) hW
        have LW : Later w W := by rw [hW]; exact ((Below.refl _ _).alloc (Nat.le_refl _) _)
        have szW : W.heap.size = w.heap.size + 1 := by rw [hW]; simp
        clear hW
        replace HM := hide HMn
        clear HMn LW
        clear szW
        generalize hg0 : w.heap.size = gr at HM ⊢
        refine (HL.out _ HM.out.below).mono ?_
        rintro e w1 ⟨rfl, hb⟩
        replace HM := hide (HM.out.later hb)
        clear hb
        go_wp2_with fail
        refine (HD.out _).mono ?_
        rintro e w2 ⟨rfl, hb⟩
        replace HM := hide (HM.out.later hb)
        clear hb
        go_wp2_with fail
        refine (HH.out _ HM.out.below).mono ?_
        rintro e w3 ⟨A1, c1, rfl, hb, ha⟩
        replace HM := hide (HM.out.later hb)
        have HA1 := hide ha
        clear hb ha
        go_wp2_with fail
        refine (HC.out _ _ _ HA1.out).mono ?_
        rintro e w4 ⟨A2, c2, rfl, hb, ha⟩
        replace HM := hide (HM.out.later hb)
        have HA2 := hide ha
        clear hb ha HA1
        go_wp2_with fail
        refine (U2.out _ _ _ HA2.out).mono ?_
        rintro e w5 ⟨rfl, hb⟩
        replace HM := hide (HM.out.later hb)
        replace HA2 := hide (HA2.out.later hb)
        clear hb
        go_wp2_with fail
        refine (U1.out _ _ _ HA2.out).mono ?_
        rintro e w6 ⟨rfl, hb⟩
        replace HM := hide (HM.out.later hb)
        replace HA2 := hide (HA2.out.later hb)
        clear hb
        have br : Blk w6 gr 32 #[.int .i64 0, .int .i64 0] := HM.out.get 0 rfl
        have ltr := br.lt
        have r0 := br.c 0 rfl
        have fr0 := br.frozen 0
        have r1 := br.c 1 rfl
        have fr1 := br.frozen 1
        go_wp2
        have HM1 := hide ((HM.out.set_ 0 rfl 0 (.int .i64 (-ub)) rfl).set_ 0 rfl 1 (.int .i64 hi) rfl)
        have s0 := (HM1.out.blk_ 0 rfl).c 0 rfl
        have s1 := (HM1.out.blk_ 0 rfl).c 1 rfl
        have lts := (HM1.out.blk_ 0 rfl).lt
        refine ret_world fun W1 hW1 => ?_
        rw [← hW1] at HM1 s0 s1 lts
        exact bodyPost_ret (v := .tuple #[.agg #[.int .i64 (-ub), .int .i64 hi], .int .i64 0]) (by simp [results, Try.results20, go_sem, s0, s1, lts]) rfl ⟨by first | rfl | (rw [HQ.out.1, HQ.out.2]), by first | exact HM1.out.below | (rw [← hg0]; exact HM1.out.below)⟩
      · have hr1 : (R.length : Int) = 0 := by omega
        rw [decide_eq_false hr]
        simp only [Bool.false_eq_true, if_true, if_false]
        clear hS hdd HU HUB
        go_enter Try.func20, Try.ntmps20
        have HM := hide (Mem.start w)
        go_wp2_with fail
        refine at_world fun W hW => ?_
        have HMn := Mem.to (Mem.allocAt HM.out w.heap.size rfl #[.int .i64 0, .int .i64 0] 32) hW
        have LW : Later w W := by rw [hW]; exact ((Below.refl _ _).alloc (Nat.le_refl _) _)
        have szW : W.heap.size = w.heap.size + 1 := by rw [hW]; simp
        clear hW
        replace HM := hide HMn
        clear HMn LW
        clear szW
        generalize hg0 : w.heap.size = gr at HM ⊢
        refine (HL.out _ HM.out.below).mono ?_
        rintro e w1 ⟨rfl, hb⟩
        replace HM := hide (HM.out.later hb)
        clear hb
        go_wp2_with fail
        refine (HD.out _).mono ?_
        rintro e w2 ⟨rfl, hb⟩
        replace HM := hide (HM.out.later hb)
        clear hb
        go_wp2_with fail
        refine (HH.out _ HM.out.below).mono ?_
        rintro e w3 ⟨A1, c1, rfl, hb, ha⟩
        replace HM := hide (HM.out.later hb)
        have HA1 := hide ha
        clear hb ha
        go_wp2_with fail
        refine (HC.out _ _ _ HA1.out).mono ?_
        rintro e w4 ⟨A2, c2, rfl, hb, ha⟩
        replace HM := hide (HM.out.later hb)
        have HA2 := hide ha
        clear hb ha HA1
        have br : Blk w4 gr 32 #[.int .i64 0, .int .i64 0] := HM.out.get 0 rfl
        have ltr := br.lt
        have r0 := br.c 0 rfl
        have fr0 := br.frozen 0
        have r1 := br.c 1 rfl
        have fr1 := br.frozen 1
        go_wp2
        have HM1 := hide ((HM.out.set_ 0 rfl 0 (.int .i64 0) rfl).set_ 0 rfl 1 (.int .i64 0) rfl)
        have s0 := (HM1.out.blk_ 0 rfl).c 0 rfl
        have s1 := (HM1.out.blk_ 0 rfl).c 1 rfl
        have lts := (HM1.out.blk_ 0 rfl).lt
        refine ret_world fun W1 hW1 => ?_
        rw [← hW1] at HM1 s0 s1 lts
        exact bodyPost_ret (v := .tuple #[.agg #[.int .i64 0, .int .i64 0], .int .i64 14]) (by simp [results, Try.results20, go_sem, s0, s1, lts]) rfl ⟨by first | rfl | (rw [HQ.out.1, HQ.out.2]), by first | exact HM1.out.below | (rw [← hg0]; exact HM1.out.below)⟩
  · have hS : alongE l x y len = listE l := by unfold alongE; rw [if_pos he]
    have hS1 : alongL l x y len = 0 := by unfold alongL; rw [hS, if_neg he]
    have hS2 : alongH l x y len = 0 := by unfold alongH; rw [hS, if_neg he]
    rw [hS, hS1, hS2]
    obtain ⟨e0, hee⟩ : ∃ e, listE l = e := ⟨_, rfl⟩
    have hd : (e0 != 0) = true := by rw [hee] at he; simp [he]
    rw [hee] at he ⊢
    simp only [hee] at hL
    generalize l.length = n at *
    have HL := hide hL
    clear hL
    clear hA hI hee hS hS1 hS2 hD
    go_enter Try.func20, Try.ntmps20
    have HM := hide (Mem.start w)
    go_wp2_with fail
    refine at_world fun W hW => ?_
    have HMn := Mem.to (Mem.allocAt HM.out w.heap.size rfl #[.int .i64 0, .int .i64 0] 32) hW
    have LW : Later w W := by rw [hW]; exact ((Below.refl _ _).alloc (Nat.le_refl _) _)
    have szW : W.heap.size = w.heap.size + 1 := by rw [hW]; simp
    clear hW
    replace HM := hide HMn
    clear HMn LW
    clear szW
    generalize hg0 : w.heap.size = gr at HM ⊢
    refine (HL.out _ HM.out.below).mono ?_
    rintro e w1 ⟨rfl, hb⟩
    replace HM := hide (HM.out.later hb)
    clear hb
    have br : Blk w1 gr 32 #[.int .i64 0, .int .i64 0] := HM.out.get 0 rfl
    have ltr := br.lt
    have r0 := br.c 0 rfl
    have fr0 := br.frozen 0
    have r1 := br.c 1 rfl
    have fr1 := br.frozen 1
    go_wp2
    have HM1 := hide ((HM.out.set_ 0 rfl 0 (.int .i64 0) rfl).set_ 0 rfl 1 (.int .i64 0) rfl)
    have s0 := (HM1.out.blk_ 0 rfl).c 0 rfl
    have s1 := (HM1.out.blk_ 0 rfl).c 1 rfl
    have lts := (HM1.out.blk_ 0 rfl).lt
    refine ret_world fun W1 hW1 => ?_
    rw [← hW1] at HM1 s0 s1 lts
    exact bodyPost_ret (v := .tuple #[.agg #[.int .i64 0, .int .i64 0], .int .i64 e0]) (by simp [results, Try.results20, go_sem, s0, s1, lts]) rfl ⟨by first | rfl | (rw [HQ.out.1, HQ.out.2]), by first | exact HM1.out.below | (rw [← hg0]; exact HM1.out.below)⟩
end Go.Proofs.Ytllpffkifleigaa
end
section
namespace Go.Proofs.Ytllpffkifleigaa
open Go Go.RowKit

/-- Corners that lie below a block. -/
def CorsG (w : World) (B : Nat) (A : Option Addr) (l : List Pt) : Prop := B ≤ w.heap.size ∧ CorsAt w B A l
theorem CorsG.kept {w w' : World} {B : Nat} {A : Option Addr} {l : List Pt} (h : CorsG w B A l) (hs : w.heap.size ≤ w'.heap.size) (hk : ∀ b, b < B → w'.heap[b]? = w.heap[b]?) : CorsG w' B A l := by
  refine ⟨Nat.le_trans h.1 hs, fun hn => ?_⟩
  obtain ⟨b, off, e, hl, hc⟩ := h.2 hn
  refine ⟨b, off, e, hl, fun i hi => ?_⟩
  obtain ⟨c1, c2, c3⟩ := hc i hi
  exact ⟨(cell_same (hk b hl)).trans c1, (cell_same (hk b hl)).trans c2, (cell_same (hk b hl)).trans c3⟩
theorem CorsG.later {w w' : World} {B : Nat} {A : Option Addr} {l : List Pt} (h : CorsG w B A l) (hb : Below w.heap.size w w') : CorsG w' B A l := h.kept hb.size fun b hl => hb.block b (Nat.lt_of_lt_of_le hl h.1)
theorem take_snocP {l : List Pt} {k : Nat} (h : k < l.length) : l.take (k + 1) = l.take k ++ [l.getD k pt0] := by
  rw [List.take_add_one, List.getElem?_eq_getElem h, List.getD_eq_getElem?_getD, List.getElem?_eq_getElem h]
  rfl
set_option maxHeartbeats 2000000 in
set_option maxRecDepth 100000 in
theorem rBounds_any (A : Option Addr) (l : List Sgt) (c : Nat) (w : World) (hmax : l.length ≤ maxLen) (hA : SgtsAt w w.heap.size A l) (hI : AllI l) :
    Calls Try.prog 18 #[.slice A l.length c] w fun e w' => e = .returned (.tuple #[.agg #[.int .i64 (bndB l (loL 1 0 1 240000)), .int .i64 (bndB l (hiL 1 0 1 240000)), .int .i64 (bndB l (loL 0 1 1 240000)), .int .i64 (bndB l (hiL 0 1 1 240000))], .int .i64 (bndsE l)]) ∧ Below w.heap.size w w' := by
  have hL := fun (W : World) (hW : Below w.heap.size w W) => rlist_any A l c W hmax (hA.below hW) hI
  by_cases he : listE l = 0
  · obtain ⟨hl1, hl2⟩ := listE_ok.1 he
    have hH := fun (W : World) (hW : Below w.heap.size w W) => rhalves_any A l c 0 W (by omega) (hA.below hW) hl2 (by omega) (by omega)
    have hC := fun A' c' W h => rcors_any A' l c' 0 W (by omega) hl2 (by omega) (by omega) h
    have hb : agrB l 0 = decide (0 < (rcor (hvs l 0)).length) := by
      unfold agrB
      cases rcor (hvs l 0) <;> simp
    have hro := rcor_ok (hvs_ok hl2 (show (0 : Int) ≤ 0 by omega) (by omega))
    have hrl : (rcor (hvs l 0)).length ≤ 1000000 := by
      have h1 := rcorN_len (hvs l 0) (hvs l 0).length
      have h2 := hvs_len 0 l
      have h3 : (hvs l 0).length * (hvs l 0).length ≤ 724 * 724 := Nat.mul_le_mul (by omega) (by omega)
      unfold rcor
      omega
    have hS := fun h => bnds_same (l := l) h
    have hrs : rs0 l = rcor (hvs l 0) := rfl
    rw [hrs] at hS
    have hEa : bndsE l = if agrB l 0 = true then 0 else 14 := by unfold bndsE; rw [if_neg (by rw [he]; simp)]
    simp only [he] at hL
    have e1 : ∀ f, bndB l f = if bndsE l = 0 then f (cs0 l) else 0 := fun f => rfl
    simp only [e1]
    rw [hEa]
    generalize loL 1 0 1 240000 (cs0 l) = a1 at *
    generalize hiL 1 0 1 240000 (cs0 l) = a2 at *
    generalize loL 0 1 1 240000 (cs0 l) = a3 at *
    generalize hiL 0 1 1 240000 (cs0 l) = a4 at *
    rw [hb] at hS ⊢
    generalize rcor (hvs l 0) = R at *
    generalize hvs l 0 = hv at *
    generalize l.length = n at *
    have hrl2 : (R.length : Int) ≤ 1000000 := by omega
    by_cases hr : 0 < R.length
    · have hr1 : ¬ (R.length : Int) = 0 := by omega
      rw [decide_eq_true hr] at hS ⊢
      simp only [if_true]
      have hs := hS rfl
      have hk0 : loL 1 0 1 120000 (R.take 0) = 120000 ∧ hiL 1 0 1 120000 (R.take 0) = -120000 ∧ loL 0 1 1 120000 (R.take 0) = 120000 ∧ hiL 0 1 1 120000 (R.take 0) = -120000 := ⟨rfl, rfl, rfl, rfl⟩
      have hke : R.take R.length = R := List.take_length
      rw [← hke] at hs
      have hk1 : ∀ k, k < R.length → loL 1 0 1 120000 (R.take (k + 1)) = min (loL 1 0 1 120000 (R.take k)) ((R.getD k pt0).u / (R.getD k pt0).d) ∧ hiL 1 0 1 120000 (R.take (k + 1)) = max (hiL 1 0 1 120000 (R.take k)) (cdiv (R.getD k pt0).u (R.getD k pt0).d) ∧ loL 0 1 1 120000 (R.take (k + 1)) = min (loL 0 1 1 120000 (R.take k)) ((R.getD k pt0).v / (R.getD k pt0).d) ∧ hiL 0 1 1 120000 (R.take (k + 1)) = max (hiL 0 1 1 120000 (R.take k)) (cdiv (R.getD k pt0).v (R.getD k pt0).d) := fun k hk => by
        rw [take_snocP hk, loL_snoc, loL_snoc, hiL_snoc, hiL_snoc, spd_u, spd_v, spd_un, spd_vn]
        exact ⟨rfl, rfl, rfl, rfl⟩
      have hok := fun k (hk : k < R.length) => hro (R.getD k pt0) (by rw [List.getD_eq_getElem?_getD, List.getElem?_eq_getElem hk]; exact List.getElem_mem _)
      obtain ⟨f1, hf1⟩ : ∃ f : Nat → Int, f = fun k => loL 1 0 1 120000 (R.take k) := ⟨_, rfl⟩
      obtain ⟨f2, hf2⟩ : ∃ f : Nat → Int, f = fun k => hiL 1 0 1 120000 (R.take k) := ⟨_, rfl⟩
      obtain ⟨f3, hf3⟩ : ∃ f : Nat → Int, f = fun k => loL 0 1 1 120000 (R.take k) := ⟨_, rfl⟩
      obtain ⟨f4, hf4⟩ : ∃ f : Nat → Int, f = fun k => hiL 0 1 1 120000 (R.take k) := ⟨_, rfl⟩
      have g1 : ∀ k, loL 1 0 1 120000 (R.take k) = f1 k := fun k => by rw [hf1]
      have g2 : ∀ k, hiL 1 0 1 120000 (R.take k) = f2 k := fun k => by rw [hf2]
      have g3 : ∀ k, loL 0 1 1 120000 (R.take k) = f3 k := fun k => by rw [hf3]
      have g4 : ∀ k, hiL 0 1 1 120000 (R.take k) = f4 k := fun k => by rw [hf4]
      simp only [g1, g2, g3, g4] at hk0 hk1 hs
      clear hf1 hf2 hf3 hf4 g1 g2 g3 g4 hke
      obtain ⟨m, hm⟩ : ∃ m, R.length = m := ⟨_, rfl⟩
      rw [hm] at hr hr1 hrl2 hs
      simp only [hm] at hC hk1 hok
      have HQ := hide hs
      have hcr : ∀ W B A', CorsG W B A' R → 0 < m → ∃ b off, A' = some ⟨b, off, none⟩ ∧ b < B ∧ ∀ i, i < m → W.cell? ⟨b, off + i * 3, none⟩ = some (.int .i64 (R.getD i pt0).u) ∧ W.cell? ⟨b, off + i * 3 + 1, none⟩ = some (.int .i64 (R.getD i pt0).v) ∧ W.cell? ⟨b, off + i * 3 + 2, none⟩ = some (.int .i64 (R.getD i pt0).d) := fun W B A' h => by
        have h2 : CorsAt W B A' R := h.2
        unfold CorsAt at h2
        rw [hm] at h2
        exact h2
      have HL := hide hL
      have HH := hide hH
      have HC := hide hC
      have HK0 := hide hk0
      have HK1 := hide hk1
      have HOK := hide hok
      have HCR := hide hcr
      clear hL hH hC hk0 hk1 hok hcr
      clear hA hI hEa hb hl1 hl2 he hro hrs hrl hS e1 hs hm
      go_enter Try.func18, Try.ntmps18
      have HM := hide (Mem.start w)
      go_wp2_with fail
      refine at_world fun W hW => ?_
      have HMn := Mem.to (Mem.allocAt HM.out w.heap.size rfl #[.int .i64 0, .int .i64 0, .int .i64 0, .int .i64 0] 37) hW
      have LW : Later w W := by rw [hW]; exact ((Below.refl _ _).alloc (Nat.le_refl _) _)
      have szW : W.heap.size = w.heap.size + 1 := by rw [hW]; simp
      clear hW
      replace HM := hide HMn
      clear HMn LW
      clear szW
      generalize hg0 : w.heap.size = gr at HM ⊢
      refine (HL.out _ HM.out.below).mono ?_
      rintro e w1 ⟨rfl, hb⟩
      replace HM := hide (HM.out.later hb)
      clear hb
      go_wp2_with fail
      refine (HH.out _ HM.out.below).mono ?_
      rintro e w3 ⟨A1, c1, rfl, hb, ha⟩
      replace HM := hide (HM.out.later hb)
      have HA1 := hide ha
      clear hb ha
      go_wp2_with fail
      refine (HC.out _ _ _ HA1.out).mono ?_
      rintro e w4 ⟨A2, c2, rfl, hb, ha⟩
      replace HM := hide (HM.out.later hb)
      have HA2 := hide ha
      clear hb ha HA1
      have HG2 := hide (show CorsG w4 w4.heap.size A2 R from ⟨Nat.le_refl _, HA2.out⟩)
      clear HA2
      go_upto_region 8 with fail
      refine code_world fun w5 hW => ?_
      have HMn := Mem.to (Mem.allocAt HM.out w4.heap.size rfl #[.int .i64 120000, .int .i64 (-120000), .int .i64 120000, .int .i64 (-120000)] 37) hW
      have LW : Later w4 w5 := by rw [hW]; exact ((Below.refl _ _).alloc (Nat.le_refl _) _)
      have szW : w5.heap.size = w4.heap.size + 1 := by rw [hW]; simp
      clear hW
      replace HG2 := hide (HG2.out.later LW)
      replace HM := hide HMn
      clear HMn LW
      clear szW
      generalize hgw : w4.heap.size = gw at HM HG2 ⊢
      go_wp2_with fail
      go_loopw [7] (fun i wr => ∃ k : Nat, k ≤ m ∧ i = .int .i64 k ∧ CorsG wr gw A2 R ∧ Mem w [.blk gw 37 #[.int .i64 (f1 k), .int .i64 (f2 k), .int .i64 (f3 k), .int .i64 (f4 k)], .blk gr 37 #[.int .i64 0, .int .i64 0, .int .i64 0, .int .i64 0]] wr) (fun i _ => m - (intOf i).toNat)
      case atStart => exact ⟨0, by omega, rfl, HG2.out, by rw [HK0.out.1, HK0.out.2.1, HK0.out.2.2.1, HK0.out.2.2.2]; exact HM.out⟩
      case round =>
        obtain ⟨k, hk, rfl, hG2, hM⟩ := hrel
        clear HM HG2
        have HM := hide hM
        have HG2 := hide hG2
        clear hM hG2
        by_cases hlt : k < m
        · have hlt2 : (k : Int) < m := by omega
          obtain ⟨b, off, rfl, ltb0, hcc⟩ := HCR.out _ _ _ HG2.out (by omega)
          have ltb : b < wr.heap.size := Nat.lt_of_lt_of_le ltb0 HG2.out.1
          have hc1 := hcc k hlt
          have hk1 := HK1.out k hlt
          have hok := HOK.out k hlt
          obtain ⟨X, hX⟩ : ∃ X, R.getD k pt0 = X := ⟨_, rfl⟩
          rw [hX] at hc1 hk1 hok
          obtain ⟨cu, cv, cd⟩ := X
          obtain ⟨q0, q1, q2⟩ := hc1
          obtain ⟨⟨u0, u1, v0, v1, d0, d1⟩, dp⟩ := hok
          simp only at q0 q1 q2 hk1 u0 u1 v0 v1 d0 d1 dp
          have t1 := fun W => downB_any cu cd W (by omega) (by omega) (by omega) (by omega)
          have t2 := fun W => upB_any cu cd W (by omega) (by omega) (by omega) (by omega)
          have t3 := fun W => downB_any cv cd W (by omega) (by omega) (by omega) (by omega)
          have t4 := fun W => upB_any cv cd W (by omega) (by omega) (by omega) (by omega)
          generalize cu / cd = x1 at *
          generalize cdiv cu cd = x2 at *
          generalize cv / cd = x3 at *
          generalize cdiv cv cd = x4 at *
          have HKS := hide hk1
          obtain ⟨h1, h2, h3, h4⟩ := hk1
          generalize f1 k = y1 at *
          generalize f2 k = y2 at *
          generalize f3 k = y3 at *
          generalize f4 k = y4 at *
          obtain ⟨z1, hz1⟩ : ∃ z, f1 (k + 1) = z := ⟨_, rfl⟩
          obtain ⟨z2, hz2⟩ : ∃ z, f2 (k + 1) = z := ⟨_, rfl⟩
          obtain ⟨z3, hz3⟩ : ∃ z, f3 (k + 1) = z := ⟨_, rfl⟩
          obtain ⟨z4, hz4⟩ : ∃ z, f4 (k + 1) = z := ⟨_, rfl⟩
          rw [hz1] at h1
          rw [hz2] at h2
          rw [hz3] at h3
          rw [hz4] at h4
          have em1 : min y1 x1 = z1 := h1.symm
          have em2 : (if x1 < y1 then x1 else y1) = z1 := by rw [h1]; split <;> omega
          have en1 : max y2 x2 = z2 := h2.symm
          have en2 : (if y2 < x2 then x2 else y2) = z2 := by rw [h2]; split <;> omega
          have eo1 : min y3 x3 = z3 := h3.symm
          have eo2 : (if x3 < y3 then x3 else y3) = z3 := by rw [h3]; split <;> omega
          have ep1 : max y4 x4 = z4 := h4.symm
          have ep2 : (if y4 < x4 then x4 else y4) = z4 := by rw [h4]; split <;> omega
          have T1 := hide t1
          have T2 := hide t2
          have T3 := hide t3
          have T4 := hide t4
          have Z1 := hide hz1
          have Z2 := hide hz2
          have Z3 := hide hz3
          have Z4 := hide hz4
          clear t1 t2 t3 t4 hz1 hz2 hz3 hz4
          clear h1 h2 h3 h4 HKS hcc hX u0 u1 v0 v1 d0 d1 dp
          go_upto_region 12 with fail
          refine code_world fun w6 hW => ?_
          have HMn := Mem.to (Mem.allocAt HM.out wr.heap.size rfl #[.int .i64 cu, .int .i64 cv, .int .i64 cd] 137) hW
          have LW : Later wr w6 := by rw [hW]; exact ((Below.refl _ _).alloc (Nat.le_refl _) _)
          have szW : w6.heap.size = wr.heap.size + 1 := by rw [hW]; simp
          clear hW
          replace HG2 := hide (HG2.out.later LW)
          replace HM := hide HMn
          clear HMn LW
          clear szW q0 q1 q2 ltb ltb0
          generalize hgx : wr.heap.size = gx at HM ⊢
          clear hgx
          have bi : Blk w6 gx 137 #[.int .i64 cu, .int .i64 cv, .int .i64 cd] := HM.out.get 0 rfl
          have lti := bi.lt
          have i0 := bi.c 0 rfl
          have i1 := bi.c 1 rfl
          have i2 := bi.c 2 rfl
          have bj : Blk w6 gw 37 #[.int .i64 y1, .int .i64 y2, .int .i64 y3, .int .i64 y4] := HM.out.get 1 rfl
          have ltj := bj.lt
          have j0 := bj.c 0 rfl
          have j1 := bj.c 1 rfl
          have j2 := bj.c 2 rfl
          have j3 := bj.c 3 rfl
          have hnx := Mem.ne HM.out 0 1 rfl rfl (by decide)
          apply wp_region_F (w0 := w6) [[], [0], [0, 1], [], [3], [], [5], [3, 4, 5, 6], [0, 1, 2, 3, 4, 5, 6, 7], [], [9], [9, 10], [], [12], [], [14], [3, 4, 5, 6, 7, 12, 13, 14, 15], [3, 4, 5, 6, 7, 9, 10, 11, 12, 13, 14, 15, 16], [0, 1, 2, 3, 4, 5, 6, 7, 8, 9, 10, 11, 12, 13, 14, 15, 16, 17], [0, 1, 2, 3, 4, 5, 6, 7, 8, 9, 10, 11, 12, 13, 14, 15, 16, 17, 18], [0, 1, 2, 3, 4, 5, 6, 7, 8, 9, 10, 11, 12, 13, 14, 15, 16, 17, 18, 19]] [true, true, true, true, true, true, true, true, true, true, true, true, true, true, true, true, true, true, true, true, false] [false, false, false, false, false, false, false, false, false, false, false, false, false, false, false, false, false, false, false, false, false] [⟨20, none, [], []⟩] [(20, gw)] [20] (fun ixq y => match ixq with | 20 => undef | _ => undef) (fun ixq x F wq => match ixq with | 20 => F gw ∧ Blk wq gw 37 #[.int .i64 z1, .int .i64 z2, .int .i64 y3, .int .i64 y4] | _ => True) (fun a x => (a).put (none) (undef)) (by kernel_rfl) (by kernel_rfl) (by kernel_rfl) (fun _ => rfl) [42, 51] (by kernel_rfl) (fills_lt1 (by omega)) fills_ne1
          · intro x D hD
            have hne := hD.some
            have k0 := liftS hD j0 (by exact early_all (by first | assumption | omega) (by rfl))
            have k1 := liftS hD j1 (by exact early_all (by first | assumption | omega) (by rfl))
            have k2 := liftS hD i0 (by exact early_all (by first | assumption | omega) (by rfl))
            have k3 := liftS hD i2 (by exact early_all (by first | assumption | omega) (by rfl))
            simp only [takeOps, Act.put, List.setIfInBounds_toArray, List.set_cons_succ, List.set_cons_zero]
            repeat (go_big_quiet_step ((first | (go_at_call 67; with_reducible exact calls_later hD _ (T1.out _)) | (go_at_call 68; with_reducible exact calls_later hD _ (T2.out _)))))
            exact wpQuiet_nil rfl
          · exact fun x D hD => wpQuiet_nil rfl
          · intro d hd x x'
            simp only [List.mem_cons, List.not_mem_nil, or_false] at hd
            rcases hd with rfl | rfl
            all_goals rfl
          · refine ⟨?_, trivial⟩
            · exact obl_set2 32 37 54 53 gw 0 _ (z1) (z2) #[.int .i64 z1, .int .i64 z2, .int .i64 y3, .int .i64 y4] (by kernel_rfl) (fun _ => rfl) (fun _ => rfl) bj eb_fill1 (by simp [wrF]) (by kernel_rfl) (by simp) rfl (fun _ => rfl) (fun _ _ _ _ h1 h2 => ⟨h1, h2⟩)
          · refine ⟨?_, trivial⟩
            · exact owe_fill gw 37 (fun x => #[.int .i64 z1, .int .i64 z2, .int .i64 y3, .int .i64 y4]) (fun _ _ _ => rfl) (fun _ _ _ => rfl)
          intro xx w7 F hK hlv1
          obtain ⟨fct20, -⟩ := hlv1
          replace fct20 : (F 20) gw ∧ Blk w7 gw 37 #[.int .i64 z1, .int .i64 z2, .int .i64 y3, .int .i64 y4] := fct20 rfl
          have HM2 := hide (HM.out.filled 1 rfl hK (by simp) fct20.2)
          have HG3 := hide (HG2.out.kept hK.size (fun q hq => hK.block q ⟨Nat.lt_of_lt_of_le hq HG2.out.1, fun z hz => by simp at hz; subst hz; simp only; omega⟩))
          clear HM HG2 hK fct20 bi lti i0 i1 i2 bj ltj j0 j1 j2 j3 T1 T2 em1 em2 en1 en2
          have HM := HM2
          have HG2 := HG3
          clear HM2 HG3
          have bi : Blk w7 gx 137 #[.int .i64 cu, .int .i64 cv, .int .i64 cd] := HM.out.get 0 rfl
          have lti := bi.lt
          have i0 := bi.c 0 rfl
          have i1 := bi.c 1 rfl
          have i2 := bi.c 2 rfl
          have bj : Blk w7 gw 37 #[.int .i64 z1, .int .i64 z2, .int .i64 y3, .int .i64 y4] := HM.out.get 1 rfl
          have ltj := bj.lt
          have j0 := bj.c 0 rfl
          have j1 := bj.c 1 rfl
          have j2 := bj.c 2 rfl
          have j3 := bj.c 3 rfl
          go_upto_region 13 with fail
          apply wp_region_F (w0 := w7) [[], [0], [0, 1], [], [3], [], [5], [3, 4, 5, 6], [0, 1, 2, 3, 4, 5, 6, 7], [], [9], [9, 10], [], [12], [], [14], [3, 4, 5, 6, 7, 12, 13, 14, 15], [3, 4, 5, 6, 7, 9, 10, 11, 12, 13, 14, 15, 16], [0, 1, 2, 3, 4, 5, 6, 7, 8, 9, 10, 11, 12, 13, 14, 15, 16, 17], [0, 1, 2, 3, 4, 5, 6, 7, 8, 9, 10, 11, 12, 13, 14, 15, 16, 17, 18], [0, 1, 2, 3, 4, 5, 6, 7, 8, 9, 10, 11, 12, 13, 14, 15, 16, 17, 18, 19]] [true, true, true, true, true, true, true, true, true, true, true, true, true, true, true, true, true, true, true, true, false] [false, false, false, false, false, false, false, false, false, false, false, false, false, false, false, false, false, false, false, false, false] [⟨20, none, [], []⟩] [(20, gw)] [20] (fun ixq y => match ixq with | 20 => undef | _ => undef) (fun ixq x F wq => match ixq with | 20 => F gw ∧ Blk wq gw 37 #[.int .i64 z1, .int .i64 z2, .int .i64 z3, .int .i64 z4] | _ => True) (fun a x => (a).put (none) (undef)) (by kernel_rfl) (by kernel_rfl) (by kernel_rfl) (fun _ => rfl) [62, 71] (by kernel_rfl) (fills_lt1 (by omega)) fills_ne1
          · intro x D hD
            have hne := hD.some
            have k0 := liftS hD j2 (by exact early_all (by first | assumption | omega) (by rfl))
            have k1 := liftS hD j3 (by exact early_all (by first | assumption | omega) (by rfl))
            have k2 := liftS hD i1 (by exact early_all (by first | assumption | omega) (by rfl))
            have k3 := liftS hD i2 (by exact early_all (by first | assumption | omega) (by rfl))
            simp only [takeOps, Act.put, List.setIfInBounds_toArray, List.set_cons_succ, List.set_cons_zero]
            repeat (go_big_quiet_step ((first | (go_at_call 67; with_reducible exact calls_later hD _ (T3.out _)) | (go_at_call 68; with_reducible exact calls_later hD _ (T4.out _)))))
            exact wpQuiet_nil rfl
          · exact fun x D hD => wpQuiet_nil rfl
          · intro d hd x x'
            simp only [List.mem_cons, List.not_mem_nil, or_false] at hd
            rcases hd with rfl | rfl
            all_goals rfl
          · refine ⟨?_, trivial⟩
            · exact obl_set2 32 37 74 73 gw 2 _ (z3) (z4) #[.int .i64 z1, .int .i64 z2, .int .i64 z3, .int .i64 z4] (by kernel_rfl) (fun _ => rfl) (fun _ => rfl) bj eb_fill1 (by simp [wrF]) (by kernel_rfl) (by simp) rfl (fun _ => rfl) (fun _ _ _ _ h1 h2 => ⟨h1, h2⟩)
          · refine ⟨?_, trivial⟩
            · exact owe_fill gw 37 (fun x => #[.int .i64 z1, .int .i64 z2, .int .i64 z3, .int .i64 z4]) (fun _ _ _ => rfl) (fun _ _ _ => rfl)
          intro xx w8 F hK hlv2
          obtain ⟨fct20, -⟩ := hlv2
          replace fct20 : (F 20) gw ∧ Blk w8 gw 37 #[.int .i64 z1, .int .i64 z2, .int .i64 z3, .int .i64 z4] := fct20 rfl
          have HM2 := hide (HM.out.filled 1 rfl hK (by simp) fct20.2)
          have HG3 := hide (HG2.out.kept hK.size (fun q hq => hK.block q ⟨Nat.lt_of_lt_of_le hq HG2.out.1, fun z hz => by simp at hz; subst hz; simp only; omega⟩))
          clear HM HG2 hK fct20 bi lti i0 i1 i2 bj ltj j0 j1 j2 j3 T3 T4 eo1 eo2 ep1 ep2 hnx
          have HM := HM2
          have HG2 := HG3
          clear HM2 HG3
          go_wp2_with fail
          go_roundw
          case rel => exact ⟨k + 1, hlt, by go_num, HG2.out, by rw [Z1.out, Z2.out, Z3.out, Z4.out]; exact HM.out.tail⟩
          case measure => simp [intOf] <;> omega
        · obtain rfl : m = k := by omega
          have hkk : ¬ ((m : Int) < m) := by omega
          have bj : Blk wr gw 37 #[.int .i64 (f1 m), .int .i64 (f2 m), .int .i64 (f3 m), .int .i64 (f4 m)] := HM.out.get 0 rfl
          have ltj := bj.lt
          have j0 := bj.c 0 rfl
          have j1 := bj.c 1 rfl
          have j2 := bj.c 2 rfl
          have j3 := bj.c 3 rfl
          have br : Blk wr gr 37 #[.int .i64 0, .int .i64 0, .int .i64 0, .int .i64 0] := HM.out.get 1 rfl
          have ltr := br.lt
          have r0 := br.c 0 rfl
          have fr0 := br.frozen 0
          have r1 := br.c 1 rfl
          have fr1 := br.frozen 1
          have r2 := br.c 2 rfl
          have fr2 := br.frozen 2
          have r3 := br.c 3 rfl
          have fr3 := br.frozen 3
          go_wp2
          have HM1 := hide ((((HM.out.set_ 1 rfl 0 (.int .i64 (f1 m)) rfl).set_ 1 rfl 1 (.int .i64 (f2 m)) rfl).set_ 1 rfl 2 (.int .i64 (f3 m)) rfl).set_ 1 rfl 3 (.int .i64 (f4 m)) rfl)
          have s0 := (HM1.out.blk_ 1 rfl).c 0 rfl
          have s1 := (HM1.out.blk_ 1 rfl).c 1 rfl
          have s2 := (HM1.out.blk_ 1 rfl).c 2 rfl
          have s3 := (HM1.out.blk_ 1 rfl).c 3 rfl
          have lts := (HM1.out.blk_ 1 rfl).lt
          refine ret_world fun W1 hW1 => ?_
          rw [← hW1] at HM1 s0 s1 s2 s3 lts
          exact bodyPost_ret (v := .tuple #[.agg #[.int .i64 (f1 m), .int .i64 (f2 m), .int .i64 (f3 m), .int .i64 (f4 m)], .int .i64 0]) (by simp [results, Try.results18, go_sem, s0, s1, s2, s3, lts]) rfl ⟨by first | rfl | (rw [HQ.out.1, HQ.out.2.1, HQ.out.2.2.1, HQ.out.2.2.2]), by first | exact HM1.out.below | (rw [← hg0]; exact HM1.out.below)⟩
    · have hr1 : (R.length : Int) = 0 := by omega
      rw [decide_eq_false hr]
      simp only [Bool.false_eq_true, if_true, if_false]
      have HQ := hide (⟨rfl, rfl, rfl, rfl⟩ : (0 : Int) = 0 ∧ (0 : Int) = 0 ∧ (0 : Int) = 0 ∧ (0 : Int) = 0)
      have HL := hide hL
      have HH := hide hH
      have HC := hide hC
      clear hL hH hC
      clear hA hI hEa hb hl1 hl2 he hro hrs hrl hS e1
      go_enter Try.func18, Try.ntmps18
      have HM := hide (Mem.start w)
      go_wp2_with fail
      refine at_world fun W hW => ?_
      have HMn := Mem.to (Mem.allocAt HM.out w.heap.size rfl #[.int .i64 0, .int .i64 0, .int .i64 0, .int .i64 0] 37) hW
      have LW : Later w W := by rw [hW]; exact ((Below.refl _ _).alloc (Nat.le_refl _) _)
      have szW : W.heap.size = w.heap.size + 1 := by rw [hW]; simp
      clear hW
      replace HM := hide HMn
      clear HMn LW
      clear szW
      generalize hg0 : w.heap.size = gr at HM ⊢
      refine (HL.out _ HM.out.below).mono ?_
      rintro e w1 ⟨rfl, hb⟩
      replace HM := hide (HM.out.later hb)
      clear hb
      go_wp2_with fail
      refine (HH.out _ HM.out.below).mono ?_
      rintro e w3 ⟨A1, c1, rfl, hb, ha⟩
      replace HM := hide (HM.out.later hb)
      have HA1 := hide ha
      clear hb ha
      go_wp2_with fail
      refine (HC.out _ _ _ HA1.out).mono ?_
      rintro e w4 ⟨A2, c2, rfl, hb, ha⟩
      replace HM := hide (HM.out.later hb)
      have HA2 := hide ha
      clear hb ha HA1
      have br : Blk w4 gr 37 #[.int .i64 0, .int .i64 0, .int .i64 0, .int .i64 0] := HM.out.get 0 rfl
      have ltr := br.lt
      have r0 := br.c 0 rfl
      have fr0 := br.frozen 0
      have r1 := br.c 1 rfl
      have fr1 := br.frozen 1
      have r2 := br.c 2 rfl
      have fr2 := br.frozen 2
      have r3 := br.c 3 rfl
      have fr3 := br.frozen 3
      go_wp2
      have HM1 := hide ((((HM.out.set_ 0 rfl 0 (.int .i64 0) rfl).set_ 0 rfl 1 (.int .i64 0) rfl).set_ 0 rfl 2 (.int .i64 0) rfl).set_ 0 rfl 3 (.int .i64 0) rfl)
      have s0 := (HM1.out.blk_ 0 rfl).c 0 rfl
      have s1 := (HM1.out.blk_ 0 rfl).c 1 rfl
      have s2 := (HM1.out.blk_ 0 rfl).c 2 rfl
      have s3 := (HM1.out.blk_ 0 rfl).c 3 rfl
      have lts := (HM1.out.blk_ 0 rfl).lt
      refine ret_world fun W1 hW1 => ?_
      rw [← hW1] at HM1 s0 s1 s2 s3 lts
      exact bodyPost_ret (v := .tuple #[.agg #[.int .i64 0, .int .i64 0, .int .i64 0, .int .i64 0], .int .i64 14]) (by simp [results, Try.results18, go_sem, s0, s1, s2, s3, lts]) rfl ⟨by first | rfl | (rw [HQ.out.1, HQ.out.2.1, HQ.out.2.2.1, HQ.out.2.2.2]), by first | exact HM1.out.below | (rw [← hg0]; exact HM1.out.below)⟩
  · have hS : bndsE l = listE l := by unfold bndsE; rw [if_pos he]
    have e1 : ∀ f, bndB l f = 0 := fun f => by unfold bndB; rw [hS, if_neg he]
    simp only [e1]
    rw [hS]
    obtain ⟨e0, hee⟩ : ∃ e, listE l = e := ⟨_, rfl⟩
    have hd : (e0 != 0) = true := by rw [hee] at he; simp [he]
    rw [hee] at he ⊢
    simp only [hee] at hL
    have HQ := hide (⟨rfl, rfl, rfl, rfl⟩ : (0 : Int) = 0 ∧ (0 : Int) = 0 ∧ (0 : Int) = 0 ∧ (0 : Int) = 0)
    generalize l.length = n at *
    have HL := hide hL
    clear hL
    clear hA hI hee hS e1
    go_enter Try.func18, Try.ntmps18
    have HM := hide (Mem.start w)
    go_wp2_with fail
    refine at_world fun W hW => ?_
    have HMn := Mem.to (Mem.allocAt HM.out w.heap.size rfl #[.int .i64 0, .int .i64 0, .int .i64 0, .int .i64 0] 37) hW
    have LW : Later w W := by rw [hW]; exact ((Below.refl _ _).alloc (Nat.le_refl _) _)
    have szW : W.heap.size = w.heap.size + 1 := by rw [hW]; simp
    clear hW
    replace HM := hide HMn
    clear HMn LW
    clear szW
    generalize hg0 : w.heap.size = gr at HM ⊢
    refine (HL.out _ HM.out.below).mono ?_
    rintro e w1 ⟨rfl, hb⟩
    replace HM := hide (HM.out.later hb)
    clear hb
    have br : Blk w1 gr 37 #[.int .i64 0, .int .i64 0, .int .i64 0, .int .i64 0] := HM.out.get 0 rfl
    have ltr := br.lt
    have r0 := br.c 0 rfl
    have fr0 := br.frozen 0
    have r1 := br.c 1 rfl
    have fr1 := br.frozen 1
    have r2 := br.c 2 rfl
    have fr2 := br.frozen 2
    have r3 := br.c 3 rfl
    have fr3 := br.frozen 3
    go_wp2
    have HM1 := hide ((((HM.out.set_ 0 rfl 0 (.int .i64 0) rfl).set_ 0 rfl 1 (.int .i64 0) rfl).set_ 0 rfl 2 (.int .i64 0) rfl).set_ 0 rfl 3 (.int .i64 0) rfl)
    have s0 := (HM1.out.blk_ 0 rfl).c 0 rfl
    have s1 := (HM1.out.blk_ 0 rfl).c 1 rfl
    have s2 := (HM1.out.blk_ 0 rfl).c 2 rfl
    have s3 := (HM1.out.blk_ 0 rfl).c 3 rfl
    have lts := (HM1.out.blk_ 0 rfl).lt
    refine ret_world fun W1 hW1 => ?_
    rw [← hW1] at HM1 s0 s1 s2 s3 lts
    exact bodyPost_ret (v := .tuple #[.agg #[.int .i64 0, .int .i64 0, .int .i64 0, .int .i64 0], .int .i64 e0]) (by simp [results, Try.results18, go_sem, s0, s1, s2, s3, lts]) rfl ⟨by first | rfl | (rw [HQ.out.1, HQ.out.2.1, HQ.out.2.2.1, HQ.out.2.2.2]), by first | exact HM1.out.below | (rw [← hg0]; exact HM1.out.below)⟩
end Go.Proofs.Ytllpffkifleigaa
end
section
namespace Go.Proofs.Ytllpffkifleigaa
open Go Go.RowKit

set_option maxHeartbeats 1000000 in
set_option maxRecDepth 100000 in
theorem rlook_any (s : ByteArray) (x y z r g st wd tilt ray slo shi rlo rhi : Int) (w : World) (hs : s.size ≤ 9223372036854775807) :
    Calls Try.prog 42 #[siteV s x y z r g st wd, .int .i64 tilt, .int .i64 ray, .agg #[.int .i64 slo, .int .i64 shi], .agg #[.int .i64 rlo, .int .i64 rhi]] w fun e w' =>
      e = .returned (.tuple #[sgC (lookA (siteE (nameB s) x y z r g st wd) r tilt ray slo shi rlo rhi), .int .i64 (lookE (siteE (nameB s) x y z r g st wd) r tilt ray slo shi rlo rhi)]) ∧ Below w.heap.size w w' := by
  have hc := fun W => rgate_any s x y z r g st wd tilt rlo rhi W hs
  have hw := fun W => Valid_any slo shi (-200000) 200000 W
  have hsp : spnB slo shi 200000 = decide (-200000 ≤ slo ∧ slo ≤ shi ∧ shi ≤ 200000) := rfl
  rw [← hsp] at hw
  clear hsp
  have hin := fun W => In_any ray 0 (4 * r - 1) W
  have hsk := fun h => siteE_ok (nb := nameB s) (x := x) (y := y) (z := z) (r := r) (g := g) (st := st) (wd := wd) h
  generalize siteE (nameB s) x y z r g st wd = se at *
  have hE : lookE se r tilt ray slo shi rlo rhi = if gateE se tilt rlo rhi ≠ 0 then gateE se tilt rlo rhi else if winBQ ray 0 (4 * r - 1) = true ∧ spnB slo shi 200000 = true then 0 else 3 := rfl
  have hA : lookA se r tilt ray slo shi rlo rhi = if lookE se r tilt ray slo shi rlo rhi = 0 then lookS r tilt ray slo shi rlo rhi else sg0 := rfl
  have hok := fun h => gateE_ok (se := se) (tilt := tilt) (rlo := rlo) (rhi := rhi) h
  have hspn : spnB slo shi 200000 = true → -200000 ≤ slo ∧ slo ≤ shi ∧ shi ≤ 200000 := fun h => by unfold spnB at h; exact of_decide_eq_true h
  generalize lookE se r tilt ray slo shi rlo rhi = le at *
  generalize gateE se tilt rlo rhi = ge at *
  rw [hA]
  clear hA
  unfold siteV at *
  unfold sgC
  have HC := hide hc
  have HIN := hide hin
  clear hc hin
  have HA := hide (rfl : (0 : Int) = 0)
  by_cases h0 : ge = 0
  · subst h0
    obtain ⟨hse, t1, t2, r1, r2, r3⟩ := hok rfl
    obtain ⟨-, -, -, -, -, -, -, ro1, ro2, -⟩ := hsk hse
    rw [if_neg (by simp)] at hE
    obtain ⟨sb, hsb⟩ : ∃ b, spnB slo shi 200000 = b := ⟨_, rfl⟩
    rw [hsb] at hE hspn
    simp only [hsb] at hw
    clear hsk hok hsb
    have HW := hide hw
    clear hw
    by_cases h1 : winBQ ray 0 (4 * r - 1) = true
    · obtain ⟨y1, y2⟩ := winB_iff.1 h1
      have hin1 := HIN.out
      simp only [h1] at hin1
      have HIN2 := hide hin1
      clear hin1
      cases sb with
      | true =>
        rw [if_pos ⟨h1, rfl⟩] at hE
        subst hE
        obtain ⟨q1, q2, q3⟩ := hspn rfl
        rw [if_pos rfl]
        unfold lookS
        have hD := fun W => RefDirection_any (2 * r) (2 * ray + 1) W
        have hS := fun W => RefSlant_any tilt W
        have hdr : dirR (2 * r) (2 * ray + 1) = (dirV (2 * r) (2 * ray + 1), 0) := by
          unfold dirR
          rw [if_pos]
          unfold okD
          rw [Bool.and_eq_true]
          exact ⟨winB_iff.2 ⟨by omega, by omega⟩, winB_iff.2 ⟨by omega, by omega⟩⟩
        have hsr : slantR tilt = (slantV tilt, 0) := by
          unfold slantR
          rw [if_pos (winB_iff.2 ⟨by omega, by omega⟩)]
        rw [hdr] at hD
        rw [hsr] at hS
        obtain ⟨a1, a2, a3, a4, a5, a6⟩ := slant_bd t1 t2
        unfold vecE at hD hS
        clear hdr hsr
        generalize dirV (2 * r) (2 * ray + 1) = dv at *
        generalize slantV tilt = sv at *
        obtain ⟨dx, dy, dl⟩ := dv
        obtain ⟨cx, sy, al⟩ := sv
        simp only at *
        have m1 := abs_mul (X := 200000) (Y := 327680) q1 (show slo ≤ 200000 by omega) (show -327680 ≤ al by omega) a6
        have m2 := abs_mul (X := 50000) (Y := 262144) (show -50000 ≤ rhi by omega) r3 (show -262144 ≤ sy by omega) a4
        have m3 := abs_mul (X := 50000) (Y := 262144) r1 (show rlo ≤ 50000 by omega) (show -262144 ≤ sy by omega) a4
        have m4 := abs_mul (X := 200000) (Y := 327680) (show -200000 ≤ shi by omega) q3 (show -327680 ≤ al by omega) a6
        obtain ⟨n1, hn1⟩ : ∃ n, slo * al - rhi * sy = n := ⟨_, rfl⟩
        obtain ⟨n2, hn2⟩ : ∃ n, rlo * sy - shi * al = n := ⟨_, rfl⟩
        have hn3 : shi * al - rlo * sy = -n2 := by omega
        have f1 : -1000000000000 ≤ n1 ∧ n1 ≤ 1000000000000 := by omega
        have f2 : -1000000000000 ≤ n2 ∧ n2 ≤ 1000000000000 := by omega
        have k1 : ∀ W, Calls Try.prog 67 #[.int .i64 n1, .int .i64 cx] W fun e w' => e = .returned (.int .i64 (n1 / cx)) ∧ Below W.heap.size W w' := fun W => (Down_any n1 cx W (by omega) (by omega) (by omega) (by omega)).mono fun e w' ⟨h1, h2⟩ => ⟨h1, h2 ▸ Below.refl _ _⟩
        have k2 : ∀ W, Calls Try.prog 68 #[.int .i64 (-n2), .int .i64 cx] W fun e w' => e = .returned (.int .i64 (-(n2 / cx))) ∧ Below W.heap.size W w' := fun W => (Up_any (-n2) cx W (by omega) (by omega) (by omega) (by omega)).mono fun e w' ⟨h1, h2⟩ => ⟨by rw [h1]; unfold cdiv; rw [Int.neg_neg], h2 ▸ Below.refl _ _⟩
        have fq : -1000000000000 ≤ n2 / cx ∧ n2 / cx ≤ 1000000000000 := by
          have e1 := Int.ediv_mul_le n2 (show cx ≠ 0 by omega)
          have e2 := Int.lt_ediv_add_one_mul_self n2 (show 0 < cx by omega)
          constructor
          · apply Classical.byContradiction
            intro hc
            have := Int.mul_le_mul_of_nonneg_right (show n2 / cx + 1 ≤ -1000000000000 by omega) (show 0 ≤ cx by omega)
            omega
          · apply Classical.byContradiction
            intro hc
            have := Int.mul_le_mul_of_nonneg_right (show 1000000000001 ≤ n2 / cx by omega) (show 0 ≤ cx by omega)
            omega
        obtain ⟨fq1, fq2⟩ := fq
        rw [hn1, hn2]
        generalize n1 / cx = u1 at *
        generalize n2 / cx = u2 at *
        have HD := hide hD
        have HS := hide hS
        have K1 := hide k1
        have K2 := hide k2
        clear hD hS k1 k2
        clear f1 f2
        go_enter Try.func42, Try.ntmps42
        have HM := hide (Mem.start w)
        go_wp2_with fail
        refine at_world fun W hW => ?_
        have HMn := Mem.to (Mem.allocAt (Mem.allocAt (Mem.allocAt (Mem.allocAt HM.out w.heap.size rfl #[.string s, .int .i64 x, .int .i64 y, .int .i64 z, .int .i64 r, .int .i64 g, .int .i64 st, .int .i64 wd] 83) (w.heap.size + 1) (by simp) #[.int .i64 slo, .int .i64 shi] 32) (w.heap.size + 2) (by simp) #[.int .i64 rlo, .int .i64 rhi] 32) (w.heap.size + 3) (by simp) #[.int .i64 0, .int .i64 0, .int .i64 0, .int .i64 0, .int .i64 0] 88) hW
        have LW : Later w W := by rw [hW]; exact (((((Below.refl _ _).alloc (Nat.le_refl _) _).alloc (by simp; try omega) _).alloc (by simp; try omega) _).alloc (by simp; try omega) _)
        have szW : W.heap.size = w.heap.size + 4 := by rw [hW]; simp
        clear hW
        replace HM := hide HMn
        clear HMn LW
        clear szW
        generalize hg3 : w.heap.size + 3 = gr at HM ⊢
        generalize hg2 : w.heap.size + 2 = gt at HM ⊢
        generalize hg1 : w.heap.size + 1 = gp at HM ⊢
        generalize hg0 : w.heap.size = gs at HM ⊢
        refine (HC.out _).mono ?_
        rintro e w1 ⟨rfl, hb⟩
        replace HM := hide (HM.out.later hb)
        clear hb
        have ba : Blk w1 gs 83 #[.string s, .int .i64 x, .int .i64 y, .int .i64 z, .int .i64 r, .int .i64 g, .int .i64 st, .int .i64 wd] := HM.out.get 3 rfl
        have lta := ba.lt
        have a0 := ba.c 0 rfl
        have a1 := ba.c 1 rfl
        have a2 := ba.c 2 rfl
        have a3 := ba.c 3 rfl
        have a4 := ba.c 4 rfl
        have a5 := ba.c 5 rfl
        have a6 := ba.c 6 rfl
        have a7 := ba.c 7 rfl
        have bc : Blk w1 gp 32 #[.int .i64 slo, .int .i64 shi] := HM.out.get 2 rfl
        have ltc := bc.lt
        have c0 := bc.c 0 rfl
        have c1 := bc.c 1 rfl
        go_wp2_with fail
        refine (HIN2.out _).mono ?_
        rintro e wi1 ⟨rfl, rfl⟩
        go_wp2_with fail
        refine (HW.out _).mono ?_
        rintro e w2 ⟨rfl, hb⟩
        replace HM := hide (HM.out.later hb)
        clear hb ba lta a0 a1 a2 a3 a4 a5 a6 a7 bc ltc c0 c1
        have ba : Blk w2 gs 83 #[.string s, .int .i64 x, .int .i64 y, .int .i64 z, .int .i64 r, .int .i64 g, .int .i64 st, .int .i64 wd] := HM.out.get 3 rfl
        have lta := ba.lt
        have a0 := ba.c 0 rfl
        have a1 := ba.c 1 rfl
        have a2 := ba.c 2 rfl
        have a3 := ba.c 3 rfl
        have a4 := ba.c 4 rfl
        have a5 := ba.c 5 rfl
        have a6 := ba.c 6 rfl
        have a7 := ba.c 7 rfl
        go_wp2_with fail
        refine (HD.out _).mono ?_
        rintro e wd1 ⟨rfl, rfl⟩
        go_wp2_with fail
        refine (HS.out _).mono ?_
        rintro e wd2 ⟨rfl, rfl⟩
        have bc : Blk w2 gp 32 #[.int .i64 slo, .int .i64 shi] := HM.out.get 2 rfl
        have ltc := bc.lt
        have c0 := bc.c 0 rfl
        have c1 := bc.c 1 rfl
        have bd : Blk w2 gt 32 #[.int .i64 rlo, .int .i64 rhi] := HM.out.get 1 rfl
        have ltd := bd.lt
        have d0 := bd.c 0 rfl
        have d1 := bd.c 1 rfl
        go_wp2_with fail
        refine wp_region_cut 27 (by kernel_rfl) (by simp only [List.take_succ_cons, List.take_zero]; exact rfl) (by simp only [List.drop_succ_cons, List.drop_zero]; exact rfl) (by kernel_rfl) ?_
        apply any_region_J (w0 := w2) [[], [], [], [], [], [], [], [], [], [], [], [], [], [], [], [], [], [], [], [], [], [], [], [], [], [], []] [true, true, true, true, true, true, true, true, true, true, true, true, true, true, true, true, true, true, true, true, true, true, true, true, true, true, true] [] (fun ixq y => match ixq with  | _ => undef) (fun ixq x F wq => match ixq with  | _ => True) (fun a x => a) (by kernel_rfl) (fun _ => rfl) [74, 85] (by kernel_rfl)
        · intro x D hD
          have hne := hD.some
          have k0 := liftB hD c0 (by first | assumption | omega)
          have k1 := liftB hD c1 (by first | assumption | omega)
          have k2 := liftB hD d0 (by first | assumption | omega)
          have k3 := liftB hD d1 (by first | assumption | omega)
          simp only [takeOps, Act.put, List.setIfInBounds_toArray, List.set_cons_succ, List.set_cons_zero]
          repeat (go_big_quiet_step ((first | (go_at_call 67; with_reducible exact calls_later hD _ (K1.out _)) | (go_at_call 68; with_reducible exact calls_later hD _ (K2.out _)))))
          exact wpQuiet_nil rfl
        · intro d hd x x'
          simp only [List.mem_cons, List.not_mem_nil, or_false] at hd
          rcases hd with rfl | rfl
          all_goals rfl
        · exact trivial
        · exact trivial
        intro xx w5 F hL hlv1 hap1
        clear hap1
        clear hlv1
        refine ⟨rfl, ?_⟩
        replace HM := hide (HM.out.later hL)
        clear hL ba lta a0 a1 a2 a3 a4 a5 a6 a7 bc ltc c0 c1 bd ltd d0 d1
        have bk : Blk w5 gr 88 #[.int .i64 0, .int .i64 0, .int .i64 0, .int .i64 0, .int .i64 0] := HM.out.get 0 rfl
        have ltk := bk.lt
        have k0 := bk.c 0 rfl
        have fk0 := bk.frozen 0
        have k1 := bk.c 1 rfl
        have fk1 := bk.frozen 1
        have k2 := bk.c 2 rfl
        have fk2 := bk.frozen 2
        have k3 := bk.c 3 rfl
        have fk3 := bk.frozen 3
        have k4 := bk.c 4 rfl
        have fk4 := bk.frozen 4
        go_wp2
        have HM1 := hide (((((HM.out.set_ 0 rfl 0 (.int .i64 dx) rfl).set_ 0 rfl 1 (.int .i64 dy) rfl).set_ 0 rfl 2 (.int .i64 dl) rfl).set_ 0 rfl 3 (.int .i64 u1) rfl).set_ 0 rfl 4 (.int .i64 (-u2)) rfl)
        have s0 := (HM1.out.blk_ 0 rfl).c 0 rfl
        have s1 := (HM1.out.blk_ 0 rfl).c 1 rfl
        have s2 := (HM1.out.blk_ 0 rfl).c 2 rfl
        have s3 := (HM1.out.blk_ 0 rfl).c 3 rfl
        have s4 := (HM1.out.blk_ 0 rfl).c 4 rfl
        have lts := (HM1.out.blk_ 0 rfl).lt
        refine ret_world fun W1 hW1 => ?_
        rw [← hW1] at HM1 s0 s1 s2 s3 s4 lts
        exact bodyPost_ret (v := .tuple #[.agg #[.int .i64 dx, .int .i64 dy, .int .i64 dl, .int .i64 u1, .int .i64 (-u2)], .int .i64 0]) (by simp [results, Try.results42, go_sem, s0, s1, s2, s3, s4, lts]) rfl ⟨by first | rfl | (rw [HA.out]; rfl), by first | exact HM1.out.below | (rw [← hg0]; exact HM1.out.below)⟩
      | false =>
        rw [if_neg (by simp)] at hE
        subst hE
        rw [if_neg (by omega)]
        unfold sg0
        go_enter Try.func42, Try.ntmps42
        have HM := hide (Mem.start w)
        go_wp2_with fail
        refine at_world fun W hW => ?_
        have HMn := Mem.to (Mem.allocAt (Mem.allocAt (Mem.allocAt (Mem.allocAt HM.out w.heap.size rfl #[.string s, .int .i64 x, .int .i64 y, .int .i64 z, .int .i64 r, .int .i64 g, .int .i64 st, .int .i64 wd] 83) (w.heap.size + 1) (by simp) #[.int .i64 slo, .int .i64 shi] 32) (w.heap.size + 2) (by simp) #[.int .i64 rlo, .int .i64 rhi] 32) (w.heap.size + 3) (by simp) #[.int .i64 0, .int .i64 0, .int .i64 0, .int .i64 0, .int .i64 0] 88) hW
        have LW : Later w W := by rw [hW]; exact (((((Below.refl _ _).alloc (Nat.le_refl _) _).alloc (by simp; try omega) _).alloc (by simp; try omega) _).alloc (by simp; try omega) _)
        have szW : W.heap.size = w.heap.size + 4 := by rw [hW]; simp
        clear hW
        replace HM := hide HMn
        clear HMn LW
        clear szW
        generalize hg3 : w.heap.size + 3 = gr at HM ⊢
        generalize hg2 : w.heap.size + 2 = gt at HM ⊢
        generalize hg1 : w.heap.size + 1 = gp at HM ⊢
        generalize hg0 : w.heap.size = gs at HM ⊢
        refine (HC.out _).mono ?_
        rintro e w1 ⟨rfl, hb⟩
        replace HM := hide (HM.out.later hb)
        clear hb
        have ba : Blk w1 gs 83 #[.string s, .int .i64 x, .int .i64 y, .int .i64 z, .int .i64 r, .int .i64 g, .int .i64 st, .int .i64 wd] := HM.out.get 3 rfl
        have lta := ba.lt
        have a0 := ba.c 0 rfl
        have a1 := ba.c 1 rfl
        have a2 := ba.c 2 rfl
        have a3 := ba.c 3 rfl
        have a4 := ba.c 4 rfl
        have a5 := ba.c 5 rfl
        have a6 := ba.c 6 rfl
        have a7 := ba.c 7 rfl
        have bc : Blk w1 gp 32 #[.int .i64 slo, .int .i64 shi] := HM.out.get 2 rfl
        have ltc := bc.lt
        have c0 := bc.c 0 rfl
        have c1 := bc.c 1 rfl
        go_wp2_with fail
        refine (HIN2.out _).mono ?_
        rintro e wi1 ⟨rfl, rfl⟩
        go_wp2_with fail
        refine (HW.out _).mono ?_
        rintro e w2 ⟨rfl, hb⟩
        replace HM := hide (HM.out.later hb)
        clear hb ba lta a0 a1 a2 a3 a4 a5 a6 a7 bc ltc c0 c1
        have bk : Blk w2 gr 88 #[.int .i64 0, .int .i64 0, .int .i64 0, .int .i64 0, .int .i64 0] := HM.out.get 0 rfl
        have ltk := bk.lt
        have k0 := bk.c 0 rfl
        have fk0 := bk.frozen 0
        have k1 := bk.c 1 rfl
        have fk1 := bk.frozen 1
        have k2 := bk.c 2 rfl
        have fk2 := bk.frozen 2
        have k3 := bk.c 3 rfl
        have fk3 := bk.frozen 3
        have k4 := bk.c 4 rfl
        have fk4 := bk.frozen 4
        go_wp2
        have HM1 := hide (((((HM.out.set_ 0 rfl 0 (.int .i64 0) rfl).set_ 0 rfl 1 (.int .i64 0) rfl).set_ 0 rfl 2 (.int .i64 0) rfl).set_ 0 rfl 3 (.int .i64 0) rfl).set_ 0 rfl 4 (.int .i64 0) rfl)
        have s0 := (HM1.out.blk_ 0 rfl).c 0 rfl
        have s1 := (HM1.out.blk_ 0 rfl).c 1 rfl
        have s2 := (HM1.out.blk_ 0 rfl).c 2 rfl
        have s3 := (HM1.out.blk_ 0 rfl).c 3 rfl
        have s4 := (HM1.out.blk_ 0 rfl).c 4 rfl
        have lts := (HM1.out.blk_ 0 rfl).lt
        refine ret_world fun W1 hW1 => ?_
        rw [← hW1] at HM1 s0 s1 s2 s3 s4 lts
        exact bodyPost_ret (v := .tuple #[.agg #[.int .i64 0, .int .i64 0, .int .i64 0, .int .i64 0, .int .i64 0], .int .i64 3]) (by simp [results, Try.results42, go_sem, s0, s1, s2, s3, s4, lts]) rfl ⟨by first | rfl | (rw [HA.out]; rfl), by first | exact HM1.out.below | (rw [← hg0]; exact HM1.out.below)⟩
    · rw [if_neg (fun h => h1 h.1)] at hE
      subst hE
      rw [if_neg (by omega)]
      unfold sg0
      have h1f : winBQ ray 0 (4 * r - 1) = false := by rw [Bool.eq_false_iff]; exact h1
      have hin1 := HIN.out
      simp only [h1f] at hin1
      have HIN2 := hide hin1
      clear hin1 h1f h1
      go_enter Try.func42, Try.ntmps42
      have HM := hide (Mem.start w)
      go_wp2_with fail
      refine at_world fun W hW => ?_
      have HMn := Mem.to (Mem.allocAt (Mem.allocAt (Mem.allocAt (Mem.allocAt HM.out w.heap.size rfl #[.string s, .int .i64 x, .int .i64 y, .int .i64 z, .int .i64 r, .int .i64 g, .int .i64 st, .int .i64 wd] 83) (w.heap.size + 1) (by simp) #[.int .i64 slo, .int .i64 shi] 32) (w.heap.size + 2) (by simp) #[.int .i64 rlo, .int .i64 rhi] 32) (w.heap.size + 3) (by simp) #[.int .i64 0, .int .i64 0, .int .i64 0, .int .i64 0, .int .i64 0] 88) hW
      have LW : Later w W := by rw [hW]; exact (((((Below.refl _ _).alloc (Nat.le_refl _) _).alloc (by simp; try omega) _).alloc (by simp; try omega) _).alloc (by simp; try omega) _)
      have szW : W.heap.size = w.heap.size + 4 := by rw [hW]; simp
      clear hW
      replace HM := hide HMn
      clear HMn LW
      clear szW
      generalize hg3 : w.heap.size + 3 = gr at HM ⊢
      generalize hg2 : w.heap.size + 2 = gt at HM ⊢
      generalize hg1 : w.heap.size + 1 = gp at HM ⊢
      generalize hg0 : w.heap.size = gs at HM ⊢
      refine (HC.out _).mono ?_
      rintro e w1 ⟨rfl, hb⟩
      replace HM := hide (HM.out.later hb)
      clear hb
      have ba : Blk w1 gs 83 #[.string s, .int .i64 x, .int .i64 y, .int .i64 z, .int .i64 r, .int .i64 g, .int .i64 st, .int .i64 wd] := HM.out.get 3 rfl
      have lta := ba.lt
      have a0 := ba.c 0 rfl
      have a1 := ba.c 1 rfl
      have a2 := ba.c 2 rfl
      have a3 := ba.c 3 rfl
      have a4 := ba.c 4 rfl
      have a5 := ba.c 5 rfl
      have a6 := ba.c 6 rfl
      have a7 := ba.c 7 rfl
      go_wp2_with fail
      refine (HIN2.out _).mono ?_
      rintro e wi1 ⟨rfl, rfl⟩
      have bk : Blk w1 gr 88 #[.int .i64 0, .int .i64 0, .int .i64 0, .int .i64 0, .int .i64 0] := HM.out.get 0 rfl
      have ltk := bk.lt
      have k0 := bk.c 0 rfl
      have fk0 := bk.frozen 0
      have k1 := bk.c 1 rfl
      have fk1 := bk.frozen 1
      have k2 := bk.c 2 rfl
      have fk2 := bk.frozen 2
      have k3 := bk.c 3 rfl
      have fk3 := bk.frozen 3
      have k4 := bk.c 4 rfl
      have fk4 := bk.frozen 4
      go_wp2
      have HM1 := hide (((((HM.out.set_ 0 rfl 0 (.int .i64 0) rfl).set_ 0 rfl 1 (.int .i64 0) rfl).set_ 0 rfl 2 (.int .i64 0) rfl).set_ 0 rfl 3 (.int .i64 0) rfl).set_ 0 rfl 4 (.int .i64 0) rfl)
      have s0 := (HM1.out.blk_ 0 rfl).c 0 rfl
      have s1 := (HM1.out.blk_ 0 rfl).c 1 rfl
      have s2 := (HM1.out.blk_ 0 rfl).c 2 rfl
      have s3 := (HM1.out.blk_ 0 rfl).c 3 rfl
      have s4 := (HM1.out.blk_ 0 rfl).c 4 rfl
      have lts := (HM1.out.blk_ 0 rfl).lt
      refine ret_world fun W1 hW1 => ?_
      rw [← hW1] at HM1 s0 s1 s2 s3 s4 lts
      exact bodyPost_ret (v := .tuple #[.agg #[.int .i64 0, .int .i64 0, .int .i64 0, .int .i64 0, .int .i64 0], .int .i64 3]) (by simp [results, Try.results42, go_sem, s0, s1, s2, s3, s4, lts]) rfl ⟨by first | rfl | (rw [HA.out]; rfl), by first | exact HM1.out.below | (rw [← hg0]; exact HM1.out.below)⟩
  · rw [if_pos h0] at hE
    subst hE
    rw [if_neg h0]
    unfold sg0
    have hd : (le != 0) = true := by simp [h0]
    go_enter Try.func42, Try.ntmps42
    have HM := hide (Mem.start w)
    go_wp2_with fail
    refine at_world fun W hW => ?_
    have HMn := Mem.to (Mem.allocAt (Mem.allocAt (Mem.allocAt (Mem.allocAt HM.out w.heap.size rfl #[.string s, .int .i64 x, .int .i64 y, .int .i64 z, .int .i64 r, .int .i64 g, .int .i64 st, .int .i64 wd] 83) (w.heap.size + 1) (by simp) #[.int .i64 slo, .int .i64 shi] 32) (w.heap.size + 2) (by simp) #[.int .i64 rlo, .int .i64 rhi] 32) (w.heap.size + 3) (by simp) #[.int .i64 0, .int .i64 0, .int .i64 0, .int .i64 0, .int .i64 0] 88) hW
    have LW : Later w W := by rw [hW]; exact (((((Below.refl _ _).alloc (Nat.le_refl _) _).alloc (by simp; try omega) _).alloc (by simp; try omega) _).alloc (by simp; try omega) _)
    have szW : W.heap.size = w.heap.size + 4 := by rw [hW]; simp
    clear hW
    replace HM := hide HMn
    clear HMn LW
    clear szW
    generalize hg3 : w.heap.size + 3 = gr at HM ⊢
    generalize hg2 : w.heap.size + 2 = gt at HM ⊢
    generalize hg1 : w.heap.size + 1 = gp at HM ⊢
    generalize hg0 : w.heap.size = gs at HM ⊢
    refine (HC.out _).mono ?_
    rintro e w1 ⟨rfl, hb⟩
    replace HM := hide (HM.out.later hb)
    clear hb
    have bk : Blk w1 gr 88 #[.int .i64 0, .int .i64 0, .int .i64 0, .int .i64 0, .int .i64 0] := HM.out.get 0 rfl
    have ltk := bk.lt
    have k0 := bk.c 0 rfl
    have fk0 := bk.frozen 0
    have k1 := bk.c 1 rfl
    have fk1 := bk.frozen 1
    have k2 := bk.c 2 rfl
    have fk2 := bk.frozen 2
    have k3 := bk.c 3 rfl
    have fk3 := bk.frozen 3
    have k4 := bk.c 4 rfl
    have fk4 := bk.frozen 4
    go_wp2
    have HM1 := hide (((((HM.out.set_ 0 rfl 0 (.int .i64 0) rfl).set_ 0 rfl 1 (.int .i64 0) rfl).set_ 0 rfl 2 (.int .i64 0) rfl).set_ 0 rfl 3 (.int .i64 0) rfl).set_ 0 rfl 4 (.int .i64 0) rfl)
    have s0 := (HM1.out.blk_ 0 rfl).c 0 rfl
    have s1 := (HM1.out.blk_ 0 rfl).c 1 rfl
    have s2 := (HM1.out.blk_ 0 rfl).c 2 rfl
    have s3 := (HM1.out.blk_ 0 rfl).c 3 rfl
    have s4 := (HM1.out.blk_ 0 rfl).c 4 rfl
    have lts := (HM1.out.blk_ 0 rfl).lt
    refine ret_world fun W1 hW1 => ?_
    rw [← hW1] at HM1 s0 s1 s2 s3 s4 lts
    exact bodyPost_ret (v := .tuple #[.agg #[.int .i64 0, .int .i64 0, .int .i64 0, .int .i64 0, .int .i64 0], .int .i64 le]) (by simp [results, Try.results42, go_sem, s0, s1, s2, s3, s4, lts]) rfl ⟨by first | rfl | (rw [HA.out]; rfl), by first | exact HM1.out.below | (rw [← hg0]; exact HM1.out.below)⟩
end Go.Proofs.Ytllpffkifleigaa
end
