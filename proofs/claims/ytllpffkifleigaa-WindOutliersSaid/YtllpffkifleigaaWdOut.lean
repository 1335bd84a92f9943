/-
  WindOutliers: the walk.
-/
import Derived.Test.YtllpffkifleigaaWdReachedL
import Derived.Test.YtllpffkifleigaaRegG
import Derived.Test.YtllpffkifleigaaWdWithout
set_option linter.unusedSimpArgs false
set_option linter.unusedVariables false
namespace Go.Proofs.Ytllpffkifleigaa
open Go Go.RowKit

theorem outR_sub {l : List Sgt} {t : List Nat} : ∀ s ∈ outR l t, s ∈ l := fun s hs => by
  unfold outR at hs
  obtain ⟨j, h1, -, rfl⟩ := mem_selN.1 hs
  exact getD_mem h1
/-- What the law asks of agrees. -/
theorem agr_yes {L : List Sgt} (hn : ∀ s ∈ L, Near s) (hl : L.length ≤ 300) (hf : Feas L 0) (A : Option Addr) (n c : Nat) (hL : L.length = n) (W : World) (hs : SgtsH W A L) :
    Calls Try.prog 34 #[.slice A n c] W fun e w' => e = .returned (.bool true) ∧ Below W.heap.size W w' := by
  have := agrees_any A n c L W hL (by unfold maxLen; omega) hs (near_allI hn)
  rw [decide_eq_true ((near_bnds hn (by omega)).2 hf)] at this
  exact this
theorem agr_not {L : List Sgt} (hn : ∀ s ∈ L, Near s) (hl : L.length ≤ 300) (hf : ¬ Feas L 0) (A : Option Addr) (n c : Nat) (hL : L.length = n) (W : World) (hs : SgtsH W A L) :
    Calls Try.prog 34 #[.slice A n c] W fun e w' => e = .returned (.bool false) ∧ Below W.heap.size W w' := by
  have := agrees_any A n c L W hL (by unfold maxLen; omega) hs (near_allI hn)
  rw [decide_eq_false (fun h => hf ((near_bnds hn (by omega)).1 h))] at this
  exact this
theorem slc_lenO {L : List Sgt} {x y : Nat} (h : y ≤ L.length) : (slc L x y).length = y - x := by unfold slc; rw [List.length_drop, List.length_take]; omega
def FrontIs (L : List Sgt) (n x y : Nat) (ev : Int) : Prop := ∀ (A : Option Addr) (c : Nat) (W : World), SgtsH W A L → n ≤ c → Calls Try.prog 28 #[.slice A n c] W fun e w' => e = .returned (.tuple #[.int .i64 x, .int .i64 y, .int .i64 ev]) ∧ Below W.heap.size W w'
def AgrIs (L : List Sgt) (n : Nat) (a : Bool) : Prop := ∀ (A : Option Addr) (c : Nat) (W : World), SgtsH W A L → Calls Try.prog 34 #[.slice A n c] W fun e w' => e = .returned (.bool a) ∧ Below W.heap.size W w'
theorem front_is {L : List Sgt} {n x y : Nat} {ev : Int} (hL : L.length = n) (hl : n ≤ 300) (hn : ∀ s ∈ L, Near s) (he : frontE L = ev) (hx : frontA L = (x, y)) : FrontIs L n x y ev := fun A c W hs hc => by
  have := Front_any A L c W (by unfold maxLen; omega) (by omega) hs (near_allI hn)
  rw [he, hx, hL] at this
  exact this
theorem out_disj {E : List EyeN} {n : Nat} {u v p q : Int} {a b : Nat} (hn : E.length = n) (hmax : n ≤ 8) (he : ∀ e ∈ E, EyeOk e) (hu : -32768 ≤ u ∧ u ≤ 32767) (hv : -32768 ≤ v ∧ v ≤ 32767) (hp : -32768 ≤ p ∧ p ≤ 32767) (hq : -32768 ≤ q ∧ q ≤ 32767) (hab : a < b) (hb : b ≤ n) {L : List Sgt} (hL : mixT E u v p q (bitB (2 ^ b - 2 ^ a)) n = L) :
    (FrontIs L n 0 0 4 ∧ AgrIs L n true) ∨ ∃ x y : Nat, x < y ∧ y ≤ n ∧ x ≤ a ∧ FrontIs L n x y 0 ∧ AgrIs L n false ∧ AgrIs (slc L x y) (y - x) true ∧ AgrIs (L.take x ++ L.drop y) (0 + x + (n - y)) true := by
  have hnr := mix_near (B := bitB (2 ^ b - 2 ^ a)) hn he hu hv hp hq
  have hl := mixT_len (E := E) (u := u) (v := v) (p := p) (q := q) (B := bitB (2 ^ b - 2 ^ a)) n
  have h2 := out_two hn hmax he hu hv hp hq hab hb
  rw [hL] at hnr hl h2
  by_cases hf : Feas L 0
  · obtain ⟨e1, e2⟩ := out_agrees hnr (by omega) hf
    exact .inl ⟨front_is hl (by omega) hnr e1 e2, fun A c W hs => agr_yes hnr (by omega) hf A n c hl W hs⟩
  · obtain ⟨x, y, e1, e2, hxy, hy, hx, f1, f2⟩ := h2 hf
    have n1 : ∀ s ∈ slc L x y, Near s := fun s hs => hnr s (List.mem_of_mem_take (List.mem_of_mem_drop hs))
    have n2 : ∀ s ∈ L.take x ++ L.drop y, Near s := fun s hs => by
      rcases List.mem_append.1 hs with h | h
      · exact hnr s (List.mem_of_mem_take h)
      · exact hnr s (List.mem_of_mem_drop h)
    have l1 := slc_lenO (L := L) (x := x) (y := y) (by omega)
    have l2 : (L.take x ++ L.drop y).length = 0 + x + (n - y) := by rw [List.length_append, List.length_take, List.length_drop]; omega
    exact .inr ⟨x, y, hxy, hy, hx, front_is hl (by omega) hnr e1 e2, fun A c W hs => agr_not hnr (by omega) hf A n c hl W hs, fun A c W hs => agr_yes n1 (by omega) f1 A _ c l1 W hs, fun A c W hs => agr_yes n2 (by omega) f2 A _ c l2 W hs⟩
/-- The first half. -/
structure OutI (L R : List Sgt) (n r : Nat) (t : List Nat) : Prop where
  h2 : ∀ (A : Option Addr) (c : Nat) (W : World), SgtsH W A L → Calls Try.prog 26 #[.slice A n c, .int .i64 2] W fun e w' => ∃ A' c', e = .returned (.tuple #[.slice A' t.length c', .int .i64 0]) ∧ Below W.heap.size W w' ∧ SetM w' A' t
  hk : ∀ (k : Nat), k < t.length → ∀ (A : Option Addr) (c : Nat) (W : World), SgtsH W A L → Calls Try.prog 26 #[.slice A n c, .int .i64 k] W fun e w' => ∃ A' c', e = .returned (.tuple #[.slice A' 0 c', .int .i64 14]) ∧ Below W.heap.size W w' ∧ SetM w' A' []
  le : ∀ (A : Option Addr) (c : Nat) (B : Option Addr) (cb : Nat) (W : World), SgtsH W A L → SetM W B t → Calls Try.prog 36 #[.slice A n c, .slice B t.length cb] W fun e w' => ∃ A' c', e = .returned (.slice A' r c') ∧ Below W.heap.size W w' ∧ w'.ownsRow W.heap.size 71 5 (.slice A' r c') r (sgsV R)
  ag : AgrIs R r true
  rl : R.length = r
  t2 : t.length ≤ 2
theorem outI {E : List EyeN} {n : Nat} {u v p q : Int} {a b : Nat} (hn : E.length = n) (hmax : n ≤ 8) (he : ∀ e ∈ E, EyeOk e) (hu : -32768 ≤ u ∧ u ≤ 32767) (hv : -32768 ≤ v ∧ v ≤ 32767) (hp : -32768 ≤ p ∧ p ≤ 32767) (hq : -32768 ≤ q ∧ q ≤ 32767) (ha : a < n) (hb : b < n) {L : List Sgt} (hL : mixT E u v p q (bitB (secO a b)) n = L) :
    ∃ R r t, OutI L R n r t := by
  have hnr := mix_near (B := bitB (secO a b)) hn he hu hv hp hq
  have hl := mixT_len (E := E) (u := u) (v := v) (p := p) (q := q) (B := bitB (secO a b)) n
  have h2 := out_one hn hmax he hu hv hp hq ha hb
  rw [hL] at hnr hl h2
  obtain ⟨t, t1, e1, e2, f, ek⟩ := h2
  have hnR : ∀ s ∈ outR L t, Near s := fun s hs => hnr s (outR_sub s hs)
  have hlR : (outR L t).length ≤ n := by unfold outR; rw [← hl]; exact selN_len _
  refine ⟨outR L t, (outR L t).length, t, fun A c W hs => ?_, fun k hk A c W hs => ?_, fun A c B cb W hs hb => left_any A n c L B t cb W hl (by omega) hs hb (by omega), fun A c W hs => agr_yes hnR (by omega) f A _ c rfl W hs, rfl, t1⟩
  · have := Without_any A L c 2 W (by unfold maxLen; omega) hs (near_allI hnr)
    rw [e1, e2, hl] at this
    exact this
  · have := Without_any A L c k W (by unfold maxLen; omega) hs (near_allI hnr)
    have ea : withoutA L k = [] := by unfold withoutA; rw [if_neg (by rw [ek k hk]; simp)]
    rw [ek k hk, ea, hl] at this
    exact this
set_option maxHeartbeats 4000000 in
set_option maxRecDepth 100000 in
theorem WindOutliers_any (A : Option Addr) (n c : Nat) (E : List EyeN) (u v p q one two : Int) (w : World) (hn : E.length = n) (hmax : n ≤ maxLen) (he : ∀ e ∈ E, EyeOk e) (hA : EyesAt w w.heap.size A E) (hu : -32768 ≤ u ∧ u ≤ 32767) (hv : -32768 ≤ v ∧ v ≤ 32767) (hp : -32768 ≤ p ∧ p ≤ 32767) (hq : -32768 ≤ q ∧ q ≤ 32767)
    (h1 : 0 ≤ one ∧ one ≤ 255) (h2 : 0 ≤ two ∧ two ≤ 255) :
    Calls Try.prog 8 #[.slice A n c, .int .i16 u, .int .i16 v, .int .i16 p, .int .i16 q, .int .u8 one, .int .u8 two] w fun e w' => e = .returned (.bool true) ∧ Below w.heap.size w w' := by
  have hm := fun sec (hs : 0 ≤ sec ∧ sec ≤ 65535) W (hW : Below w.heap.size w W) (h8 : n ≤ 8) => mixed_any A n c E u v p q sec W hn (by omega) (hA.below hW) he hu hv hp hq hs.1 hs.2
  obtain ⟨a1, a2⟩ := h1
  obtain ⟨b1, b2⟩ := h2
  by_cases h18 : 1 ≤ n ∧ n ≤ 8
  · obtain ⟨hn1, hn8⟩ := h18
    have hn1' : ¬ (n : Int) < 1 := by omega
    have hn8' : ¬ (8 : Int) < n := by omega
    have hn8i : (n : Int) ≤ 8 := by omega
    have hn1i : 1 ≤ (n : Int) := by omega
    obtain ⟨on, rfl⟩ : ∃ k : Nat, one = k := ⟨one.toNat, by omega⟩
    obtain ⟨tn, rfl⟩ : ∃ k : Nat, two = k := ⟨two.toNat, by omega⟩
    have ha : on % n < n := Nat.mod_lt _ (by omega)
    have hb : tn % n < n := Nat.mod_lt _ (by omega)
    have r1 : ((on : Int)).tmod (n : Int) = ((on % n : Nat) : Int) := by
      rw [Int.tmod_eq_emod_of_nonneg (by omega)]
      exact (by push_cast; rfl)
    have r2 : ((tn : Int)).tmod (n : Int) = ((tn % n : Nat) : Int) := by
      rw [Int.tmod_eq_emod_of_nonneg (by omega)]
      exact (by push_cast; rfl)
    obtain ⟨a, hae⟩ : ∃ k, on % n = k := ⟨_, rfl⟩
    obtain ⟨b, hbe⟩ : ∃ k, tn % n = k := ⟨_, rfl⟩
    rw [hae] at r1 ha
    rw [hbe] at r2 hb
    have ha8 : (a : Int) ≤ 7 := by omega
    have hb8 : (b : Int) ≤ 7 := by omega
    clear hae hbe
    have hfr : min (a : Int) (b : Int) = ((min a b : Nat) : Int) := by omega
    have hto : max (a : Int) (b : Int) = ((max a b : Nat) : Int) := by omega
    have hab : min a b < max a b + 1 := by omega
    have hton : max a b + 1 ≤ n := by omega
    have hfra : min a b < 9 := by omega
    obtain ⟨R, r, t, I1⟩ := outI hn hn8 he hu hv hp hq ha hb rfl
    have I2 := out_disj hn hn8 he hu hv hp hq hab hton rfl
    obtain ⟨fr, hfre⟩ : ∃ k, min a b = k := ⟨_, rfl⟩
    obtain ⟨tt, htoe⟩ : ∃ k, max a b = k := ⟨_, rfl⟩
    rw [hfre] at hfr hab I2 hfra
    rw [htoe] at hto hab hton I2
    obtain ⟨tz, hte⟩ : ∃ k, tt + 1 = k := ⟨_, rfl⟩
    have htt1 : (tt : Int) + 1 = tz := by omega
    rw [hte] at hab hton I2
    have hs1 := (secO_all a (by omega) b (by omega)).1
    have hs2 := (secS_all fr (by omega) tz (by omega) hab).1
    have pa := pow_bd a (by omega)
    have pb := pow_bd b (by omega)
    have pf := pow_bd fr (by omega)
    have pt := pow_bd tz (by omega)
    have wa : IntKind.u16.wrap (2 ^ a) = 2 ^ a := IntWalk.u16_in _ (by omega)
    have wb : IntKind.u16.wrap (2 ^ b) = 2 ^ b := IntWalk.u16_in _ (by omega)
    have wf : IntKind.u16.wrap (2 ^ fr) = 2 ^ fr := IntWalk.u16_in _ (by omega)
    have wt : IntKind.u16.wrap (2 ^ tz) = 2 ^ tz := IntWalk.u16_in _ (by omega)
    have ws : IntKind.u16.wrap (2 ^ tz - 2 ^ fr) = 2 ^ tz - 2 ^ fr := IntWalk.u16_in _ (by omega)
    have hso0 : bits BinOp.or IntKind.u16 (2 ^ a) (2 ^ b) = secO a b := rfl
    obtain ⟨L1, hL1⟩ : ∃ L, mixT E u v p q (bitB (secO a b)) n = L := ⟨_, rfl⟩
    have hM1 := fun W hW => hm (secO a b) hs1 W hW hn8
    have hM2 := fun W hW => hm (2 ^ tz - 2 ^ fr) hs2 W hW hn8
    have l1 := mixT_len (E := E) (u := u) (v := v) (p := p) (q := q) (B := bitB (secO a b)) n
    have l2 := mixT_len (E := E) (u := u) (v := v) (p := p) (q := q) (B := bitB (2 ^ tz - 2 ^ fr)) n
    unfold RowPost at hM1 hM2
    rw [l1] at hM1
    rw [l2] at hM2
    rw [hL1] at hM1 l1 I1
    obtain ⟨L2, hL2⟩ : ∃ L, mixT E u v p q (bitB (2 ^ tz - 2 ^ fr)) n = L := ⟨_, rfl⟩
    rw [hL2] at hM2 l2 I2
    obtain ⟨so, hso⟩ : ∃ s, secO a b = s := ⟨_, rfl⟩
    rw [hso] at hM1 hso0
    obtain ⟨ss, hss⟩ : ∃ s, (2 : Int) ^ tz - 2 ^ fr = s := ⟨_, rfl⟩
    rw [hss] at hM2 ws
    obtain ⟨i2, ik, ile, iag, irl, it2⟩ := I1
    obtain ⟨tl, htl⟩ : ∃ k, t.length = k := ⟨_, rfl⟩
    rw [htl] at i2 ik ile it2
    have it3 : (tl : Int) ≤ 2 := by omega
    have it4 : ¬ (2 : Int) < tl := by omega
    have HM1 := hide hM1
    have HM2 := hide hM2
    have HW2 := hide i2
    have HWK := hide ik
    have HLE := hide ile
    have HAG := hide iag
    have HI2 := hide I2
    have HL1 := hide l1
    have HL2 := hide l2
    have HRL := hide irl
    have HWA := hide wa
    have HWB := hide wb
    have HWF := hide wf
    have HWT := hide wt
    have HSO := hide hso0
    have HFR := hide hfr
    have HTO := hide hto
    have HSS := hide hss
    have HTT := hide htt1
    have HWS := hide ws
    clear hM1 hM2 i2 ik ile iag I2 l1 l2 irl wa wb wf wt hso0 hfr hto hss htt1 ws
    clear hm he hA hn hL1 hL2 hso hfre htoe hte pa pb pf pt hs1 hs2 htl
    go_enter Try.func8, Try.ntmps8
    have HM := hide (Mem.start w)
    go_upto_region 3 with fail
    go_quiet (fail)
    have hL : Below w.heap.size w (w.drewN nq) := below_drewN (Below.refl _ _) _
    generalize (w.drewN nq : World) = w1 at hL ⊢
    replace HM := hide (HM.out.later hL)
    clear hL
    go_wp2_with fail
    refine wp_region_cut 10 (by kernel_rfl) (by simp only [List.take_succ_cons, List.take_zero]; exact rfl) (by simp only [List.drop_succ_cons, List.drop_zero]; exact rfl) (by kernel_rfl) ?_
    apply any_region_J (w0 := w1) [[], [], [], [], [], [], [], [], [], []] [true, true, true, true, true, true, true, true, true, true] [] (fun ixq y => match ixq with  | _ => undef) (fun ixq x F wq => match ixq with  | _ => True) (fun a x => a) (by kernel_rfl) (fun _ => rfl) [] (by kernel_rfl)
    · intro x D hD
      have hne := hD.some
      simp only [takeOps, Act.put, List.setIfInBounds_toArray, List.set_cons_succ, List.set_cons_zero]
      repeat (go_big_quiet_step (fail))
      exact wpQuiet_nil rfl
    · exact fun _ h => absurd h (by simp)
    · exact trivial
    · exact trivial
    intro xx w2 F hL hlv1 hap1
    clear hap1
    clear hlv1
    refine ⟨rfl, ?_⟩
    replace HM := hide (HM.out.later hL)
    clear hL
    simp only [HWA.out, HWB.out, HSO.out]
    go_wp2_with fail
    refine (HM1.out _ HM.out.below).mono ?_
    rintro e w3 ⟨A1, c1, rfl, hb, ho⟩
    replace HM := hide (HM.out.later hb)
    clear hb
    have HS1 := hide (SlS.of_own HL1.out ho).sgts
    clear ho HM1 HWA HWB HSO
    go_wp2_with fail
    refine (HW2.out _ _ _ HS1.out).mono ?_
    rintro e w4 ⟨A2, c2, rfl, hb, hset⟩
    replace HM := hide (HM.out.later hb)
    replace HS1 := hide (HS1.out.later hb)
    clear hb
    have HSet := hide hset
    clear hset
    go_wp2_with fail
    refine (HLE.out _ _ _ _ _ HS1.out HSet.out).mono ?_
    rintro e w5 ⟨A3, c3, rfl, hb, ho⟩
    replace HM := hide (HM.out.later hb)
    replace HS1 := hide (HS1.out.later hb)
    clear hb
    have HS3 := hide (SlS.of_own HRL.out ho).sgts
    clear ho HSet HLE
    go_wp2_with fail
    refine (HAG.out _ _ _ HS3.out).mono ?_
    rintro e w6 ⟨rfl, hb⟩
    replace HM := hide (HM.out.later hb)
    replace HS1 := hide (HS1.out.later hb)
    clear hb
    clear HS3 HAG
    go_wp2_with fail
    have HB1 := hide HM.out.below
    have hz6 := HM.out.size
    clear HM
    go_loopw [79] (fun i wr => ∃ k : Nat, k ≤ tl ∧ i = .int .i64 k ∧ Below w6.heap.size w6 wr) (fun i _ => tl - (intOf i).toNat)
    case atStart => exact ⟨0, Nat.zero_le _, rfl, Below.refl _ _⟩
    case round =>
      obtain ⟨k, hk, rfl, hbj⟩ := hrel
      have HBJ := hide hbj
      have HSq := hide (HS1.out.later hbj)
      clear hbj
      by_cases hlt : k < tl
      · have hlt2 : (k : Int) < tl := by omega
        have C1 := HWK.out k hlt
        have HC1 := hide C1
        clear C1
        go_wp2_with fail
        refine (HC1.out _ _ _ HSq.out).mono ?_
        rintro e w7 ⟨A4, c4, rfl, hb, hset⟩
        replace HSq := hide (HSq.out.later hb)
        replace HBJ := hide (onward HBJ.out hb)
        clear hb
        clear hset
        go_wp2_with fail
        go_roundw
        case rel => exact ⟨k + 1, hlt, by go_num, HBJ.out⟩
        case measure => simp [intOf] <;> omega
      · obtain rfl : k = tl := by omega
        have hkk : ¬ ((k : Int) < k) := by omega
        have HB2 := hide (HB1.out.trans (HBJ.out.mono hz6))
        clear HBJ HSq HS1
        have fr1 := HFR.out
        have to1 := HTO.out
        have hab2 : (fr : Int) < tz := by omega
        have hto2 : (tz : Int) ≤ n := by omega
        have htt2 := HTT.out
        go_upto_region 16 with fail
        refine wp_region_cut 10 (by kernel_rfl) (by simp only [List.take_succ_cons, List.take_zero]; exact rfl) (by simp only [List.drop_succ_cons, List.drop_zero]; exact rfl) (by kernel_rfl) ?_
        apply any_region_J (w0 := wr) [[], [], [], [], [], [], [], [], [], []] [true, true, true, true, true, true, true, true, true, true] [] (fun ixq y => match ixq with  | _ => undef) (fun ixq x F wq => match ixq with  | _ => True) (fun a x => a) (by kernel_rfl) (fun _ => rfl) [] (by kernel_rfl)
        · intro x D hD
          have hne := hD.some
          simp only [takeOps, Act.put, List.setIfInBounds_toArray, List.set_cons_succ, List.set_cons_zero]
          repeat (go_big_quiet_step (fail))
          exact wpQuiet_nil rfl
        · exact fun _ h => absurd h (by simp)
        · exact trivial
        · exact trivial
        intro xx w7 F hL hlv2 hap2
        clear hap2
        clear hlv2
        refine ⟨rfl, ?_⟩
        replace HB2 := hide (onward HB2.out hL)
        clear hL
        clear fr1 to1 htt2
        simp only [HWF.out, HWT.out, HSS.out, HWS.out]
        clear HWF HWT HSS HWS HFR HTO HTT
        go_wp2_with fail
        refine (HM2.out _ HB2.out).mono ?_
        rintro e w8 ⟨A5, c5, rfl, hb, ho⟩
        replace HB2 := hide (onward HB2.out hb)
        clear hb
        have HSl := hide (SlS.of_own HL2.out ho)
        clear ho HM2
        have hnc : n ≤ c5 := by have := HSl.out.1; have := HL2.out; omega
        rcases HI2.out with ⟨F1, G1⟩ | ⟨fx, fy, hxy, hy, hx, F1, G1, S1, S2⟩
        · unfold FrontIs at F1
          unfold AgrIs at G1
          have HF1 := hide F1
          have HG1 := hide G1
          clear F1 G1
          clear HI2
          go_wp2_with fail
          refine (HF1.out _ _ _ HSl.out.sgts hnc).mono ?_
          rintro e w9 ⟨rfl, hb⟩
          replace HSl := hide (HSl.out.later hb)
          replace HB2 := hide (onward HB2.out hb)
          clear hb
          go_wp2_with fail
          refine (HG1.out _ _ _ HSl.out.sgts).mono ?_
          rintro e w10 ⟨rfl, hb⟩
          replace HSl := hide (HSl.out.later hb)
          replace HB2 := hide (onward HB2.out hb)
          clear hb
          go_wp2_with fail
          refine (works_any _).mono ?_
          rintro e w11 ⟨rfl, hb⟩
          replace HSl := hide (HSl.out.later hb)
          replace HB2 := hide (onward HB2.out hb)
          clear hb
          go_wp2
          exact bodyPost_ret (v := .bool true) (by simp [results, Try.results8, go_sem]) rfl ⟨rfl, HB2.out⟩
        · unfold FrontIs at F1
          unfold AgrIs at G1
          have HF1 := hide F1
          have HG1 := hide G1
          have HS5 := hide S1
          have HS6 := hide S2
          clear F1 G1 S1 S2
          clear HI2
          have hx0 : ¬ (fx : Int) < 0 := by omega
          have hxy2 : ¬ (fy : Int) ≤ fx := by omega
          have hy2 : ¬ (n : Int) < fy := by omega
          have hx2 : ¬ (fr : Int) < fx := by omega
          go_wp2_with fail
          refine (HF1.out _ _ _ HSl.out.sgts hnc).mono ?_
          rintro e w9 ⟨rfl, hb⟩
          replace HSl := hide (HSl.out.later hb)
          replace HB2 := hide (onward HB2.out hb)
          clear hb
          go_wp2_with fail
          refine (HG1.out _ _ _ HSl.out.sgts).mono ?_
          rintro e w10 ⟨rfl, hb⟩
          replace HSl := hide (HSl.out.later hb)
          replace HB2 := hide (onward HB2.out hb)
          clear hb
          go_upto_region 22 with fail
          obtain ⟨bb, oo, rfl, hbb⟩ := HSl.out.some (by have := HL2.out; omega)
          have hcm : c5 ≤ maxLen := HSl.out.2.1
          have i1 : (fx : Int) ≤ fy := by omega
          have i2 : (fy : Int) ≤ n := by omega
          have i3 : (fy : Int) ≤ c5 := by omega
          have i4 : (n : Int) ≤ c5 := by omega
          have i5 : (c5 : Int) ≤ 9223372036854775807 := by unfold maxLen at hcm; omega
          have i6 : (fx : Int) ≤ c5 := by omega
          obtain ⟨As2, hAs2⟩ : ∃ z : Option Addr, (if c5 = fy then (some ⟨bb, oo, none⟩ : Option Addr) else some ⟨bb, oo + fy * 5, none⟩) = z := ⟨_, rfl⟩
          have s1 := (HSl.out.take fy).drop fx (by rw [List.length_take, HL2.out]; omega)
          rw [if_neg (by omega)] at s1
          have l1 : (L2.take fx).length = fx := by rw [List.length_take, HL2.out]; omega
          have l2 : (L2.drop fy).length = n - fy := by rw [List.length_drop, HL2.out]
          have hsr1 := fun (S : Nat → Prop) (W : World) (hk : Kept S w10 W) hS => (HSl.out.take fx).srcK hk hS
          have hsr2 := fun (S : Nat → Prop) (W : World) (hk : Kept S w10 W) hS => (HSl.out.drop fy (by rw [HL2.out]; omega)).srcK hk hS
          rw [l1] at hsr1
          rw [l2, hAs2] at hsr2
          have hle1 : (sgsV (L2.take fx)).length = fx * 5 := by rw [sgsV_len, l1]
          have hle2 : (sgsV (L2.drop fy)).length = (n - fy) * 5 := by rw [sgsV_len, l2]
          have hon1 := sgsV_oneC (L2.take fx)
          have hon2 := sgsV_oneC (L2.drop fy)
          have hvs : (#[] : Array Value).toList ++ sgsV (L2.take fx) ++ sgsV (L2.drop fy) = sgsV (L2.take fx ++ L2.drop fy) := by rw [sgsV_app]; rfl
          have hll : (L2.take fx ++ L2.drop fy).length = 0 + fx + (n - fy) := by rw [List.length_append, l1, l2]; omega
          obtain ⟨i0, hii, hz0, hz1, hz2⟩ := info_parts sightInfo
          have Hi := hide hii
          have Hz0 := hide hz0
          have Hz1 := hide hz1
          have Hz2 := hide hz2
          clear hii hz0 hz1 hz2
          have HSR1 := hide hsr1
          have HSR2 := hide hsr2
          have HLE1 := hide hle1
          have HLE2 := hide hle2
          have HON1 := hide hon1
          have HON2 := hide hon2
          have HVS := hide hvs
          have HLL2 := hide hll
          have HSS1 := hide s1
          clear hsr1 hsr2 hle1 hle2 hon1 hon2 hvs hll s1
          clear l1 l2
          apply wp_region_L (w0 := w10) [[], [], [], [], [], [4], [4], [4], [4], [4], [4, 6], [4], [4], [4], [4, 6, 10], [4, 6, 10, 14], [4, 6, 10, 14, 15], [4, 6, 10, 14, 15], [4, 6, 10, 14, 15], [4, 6, 10, 14, 15], [4, 6, 10, 14, 15]] [true, true, true, true, false, true, false, true, true, true, false, true, true, true, false, false, true, true, true, true, true] [⟨4, none, [], []⟩, ⟨6, none, [], []⟩, ⟨10, some 6, [6], []⟩, ⟨14, some 10, [10], []⟩, ⟨15, none, [14], []⟩] (fun ixq y => match ixq with | 4 => .bool true | 6 => .slice (y 0).1 0 0 | 10 => .slice (y 0).1 (0 + fx) (y 0).2 | 14 => .slice (y 0).1 ((0+fx) + (n-fy)) (y 0).2 | 15 => .bool true | _ => undef) (fun ixq x F wq => match ixq with | 4 => True | 6 => OwnF wq F w10.heap.size 71 5 (.slice (x 6 0).1 0 0) 0 #[].toList | 10 => OwnF wq F w10.heap.size 71 5 (.slice (x 10 0).1 (0 + fx) (x 10 0).2) (0 + fx) ((#[] : Array Value).toList ++ sgsV (L2.take fx)) | 14 => OwnF wq F w10.heap.size 71 5 (.slice (x 14 0).1 ((0+fx) + (n-fy)) (x 14 0).2) ((0+fx) + (n-fy)) ((#[] : Array Value).toList ++ sgsV (L2.take fx) ++ sgsV (L2.drop fy)) | 15 => True | _ => True) (fun a x => (((((a).put (some 152) (.bool true)).put (some 154) (.slice ((x 6) 0).1 0 0)).put (some 158) (.slice ((x 10) 0).1 (0 + fx) ((x 10) 0).2)).put (some 162) (.slice ((x 14) 0).1 ((0+fx) + (n-fy)) ((x 14) 0).2)).put (some 163) (.bool true)) (by kernel_rfl) (by kernel_rfl) (fun x => putH_step (some 152) (.bool true) rfl rfl <| putH_step (some 154) (.slice ((x 6) 0).1 0 0) rfl rfl <| putH_step (some 158) (.slice ((x 10) 0).1 (0 + fx) ((x 10) 0).2) rfl rfl <| putH_step (some 162) (.slice ((x 14) 0).1 ((0+fx) + (n-fy)) ((x 14) 0).2) rfl rfl <| putH_step (some 163) (.bool true) rfl rfl <| putH_end) [166] (by kernel_rfl)
          · intro x D hD
            have hne := hD.some
            simp only [takeOps, Act.put, List.setIfInBounds_toArray, List.set_cons_succ, List.set_cons_zero]
            repeat (go_big_quiet_step (((go_at_call 13; with_reducible exact calls_later hD _ (works_any _)))))
            exact wpQuiet_nil rfl
          · intro d hd x x'
            simp only [List.mem_cons, List.not_mem_nil, or_false] at hd
            rcases hd with rfl
            all_goals rfl
          · refine ⟨?_, ?_, ?_, ?_, ?_, trivial⟩
            · refine obl_callL rfl (fun _ => by kernel_rfl) 34 (fun x => #[.slice (some ⟨bb, oo + fx * 5, none⟩) (fy - fx) (c5 - fx)]) (fun x w => by kernel_rfl) ?_
              intro x w F hL hN
              exact calls_one (y := fun _ => (none, 0)) (HS5.out _ _ w (HSS1.out.later hL).sgts) rfl (fun _ => trivial)
            · exact obl_new rfl (fun _ => by kernel_rfl) 71 (fun x => #[]) gP (fun x w => by kernel_rfl) (fun x w hle => own_new hle rfl (by unfold maxLen; omega))
            · refine obl_appendG 25 154 157 (by kernel_rfl) (fun _ => by kernel_rfl) w10.heap.size 71 i0 _ 5 40 Try.underlying25 Hi.out Hz0.out Hz1.out Hz2.out rfl (by decide) 0 fx ((#[] : Array Value).toList) (sgsV (L2.take fx)) (HLE1.out) (HON1.out) (by unfold maxLen; omega) (by omega) (by first | assumption | omega) (fun x w F hk hn => ?_) (fun _ => rfl) (fun _ _ _ _ h => h)
              have hj := hn 6 (by simp)
              exact ⟨_, _, _, rfl, hj.1, fun g hg => .inr (hj.2 g hg), rfl, HSR1.out _ w hk (fun k hk => ⟨hk, fun _ _ h => h.elim⟩)⟩
            · refine obl_appendG 25 158 161 (by kernel_rfl) (fun _ => by kernel_rfl) w10.heap.size 71 i0 _ 5 40 Try.underlying25 Hi.out Hz0.out Hz1.out Hz2.out rfl (by decide) (0+fx) (n-fy) ((#[] : Array Value).toList ++ sgsV (L2.take fx)) (sgsV (L2.drop fy)) (HLE2.out) (HON2.out) (by unfold maxLen; omega) (by omega) (by first | assumption | omega) (fun x w F hk hn => ?_) (fun _ => rfl) (fun _ _ _ _ h => h)
              have hj := hn 10 (by simp)
              exact ⟨_, As2, _, rfl, hj.1, fun g hg => .inr (hj.2 g hg), rfl, HSR2.out _ w hk (fun k hk => ⟨hk, fun _ _ h => h.elim⟩)⟩
            · refine obl_callL rfl (fun _ => by kernel_rfl) 34 (fun x => #[.slice (x 14 0).1 (0 + fx + (n - fy)) (x 14 0).2]) (fun x w => by kernel_rfl) ?_
              intro x w F hL hN
              have n14 := hN 14 (by simp)
              have hs := sgts_own (c := (x 14 0).2) HLL2.out (by rw [← HVS.out]; exact n14.1)
              exact calls_one (y := fun _ => (none, 0)) (HS6.out _ _ w hs) rfl (fun _ => trivial)
          · refine ⟨?_, ?_, ?_, ?_, ?_, trivial⟩
            · exact owe_true (fun _ _ _ => trivial)
            · refine ⟨fun x F wq wq' h hs hk => ?_, fun x x' F wq hx h => ?_⟩
              · have h2 : OwnF wq F w10.heap.size 71 5 (.slice (x 6 0).1 0 0) 0 #[].toList := h
                exact h2.stab hk
              · have h2 : OwnF wq F w10.heap.size 71 5 (.slice (x 6 0).1 0 0) 0 #[].toList := h
                rw [hx 6 (by simp)] at h2
                exact h2
            · exact owe_own 10 w10.heap.size 71 5 (0 + fx) ((#[] : Array Value).toList ++ sgsV (L2.take fx)) rfl (fun _ _ _ => rfl)
            · exact owe_own 14 w10.heap.size 71 5 ((0+fx) + (n-fy)) ((#[] : Array Value).toList ++ sgsV (L2.take fx) ++ sgsV (L2.drop fy)) rfl (fun _ _ _ => rfl)
            · exact owe_true (fun _ _ _ => trivial)
          intro xx w11 F hL hlv3
          obtain ⟨fct4, -, -, fct14, fct15, -⟩ := hlv3
          clear fct4
          replace fct14 : OwnF w11 (F 14) w10.heap.size 71 5 (.slice (xx 14 0).1 ((0+fx) + (n-fy)) (xx 14 0).2) ((0+fx) + (n-fy)) ((#[] : Array Value).toList ++ sgsV (L2.take fx) ++ sgsV (L2.drop fy)) := fct14 rfl
          clear fct15
          clear fct14
          replace HSl := hide (HSl.out.later hL)
          replace HB2 := hide (onward HB2.out hL)
          clear hL
          clear hAs2
          go_wp2
          exact bodyPost_ret (v := .bool true) (by simp [results, Try.results8, go_sem]) rfl ⟨rfl, HB2.out⟩
  · have h3 : n < 1 ∨ 8 < n := by omega
    clear hm he hA hn h18
    rcases h3 with h3 | h3
    · have h4 : (n : Int) < 1 := by omega
      clear h3
      go_enter Try.func8, Try.ntmps8
      have HM := hide (Mem.start w)
      go_wp2_with fail
      refine (works_any _).mono ?_
      rintro e w2 ⟨rfl, hb⟩
      replace HM := hide (HM.out.later hb)
      clear hb
      go_wp2
      exact bodyPost_ret (v := .bool true) (by simp [results, Try.results8, go_sem]) rfl ⟨rfl, HM.out.below⟩
    · have h4 : (8 : Int) < n := by omega
      have h5 : ¬ (n : Int) < 1 := by omega
      clear h3
      go_enter Try.func8, Try.ntmps8
      have HM := hide (Mem.start w)
      go_wp2_with fail
      refine (works_any _).mono ?_
      rintro e w2 ⟨rfl, hb⟩
      replace HM := hide (HM.out.later hb)
      clear hb
      go_wp2
      exact bodyPost_ret (v := .bool true) (by simp [results, Try.results8, go_sem]) rfl ⟨rfl, HM.out.below⟩
end Go.Proofs.Ytllpffkifleigaa
