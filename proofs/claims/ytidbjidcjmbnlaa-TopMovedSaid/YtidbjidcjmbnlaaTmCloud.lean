/-
  Quotients, spans and flows of the clouds.
  A cloud is checked.
-/
import Derived.Test.YtidbjidcjmbnlaaTmBegin
import Derived.Test.YtidbjidcjmbnlaaDivMath
import Derived.Test.YtidbjidcjmbnlaaRegC
import Derived.Handy
import Derived.Test.YtidbjidcjmbnlaaTmChgM
set_option linter.unusedSimpArgs false
set_option linter.unusedVariables false
section
namespace Go.Proofs.Ytidbjidcjmbnlaa
open Go Go.RowKit
attribute [local go_sem] Oper.semAt_some

theorem cwithin_any (n lo hi : Int) (w : World) :
    Calls Try.prog 24 #[.int .i64 n, .int .i64 lo, .int .i64 hi] w fun e w' => e = .returned (.bool (winB n lo hi)) ∧ w = w' := by
  by_cases h1 : lo ≤ n <;> by_cases h2 : n ≤ hi
  all_goals
    go_enter Try.func24, Try.ntmps24
    go_wp2
    go_ret
    exact ⟨by simp [winB, *], rfl⟩
theorem cdown_any (a b : Int) (w : World) (ha1 : -4611686018427387903 ≤ a) (hb : 1 ≤ b) (ha2 : a ≤ 4611686018427387903) (_hb2 : b ≤ 4611686018427387903) :
    Calls Try.prog 46 #[.int .i64 a, .int .i64 b] w fun e w' => e = .returned (.int .i64 (a / b)) ∧ w = w' := by
  have hq := tdiv_floor (a := a) (b := b) (by omega)
  by_cases ha : 0 ≤ a
  · have h1 : 0 ≤ a / b := Int.ediv_nonneg ha (by omega)
    have h2 : a / b ≤ a := Int.ediv_le_self b ha
    have h3 : 0 ≤ a % b := Int.emod_nonneg _ (by omega)
    clear hq
    go_enter Try.func46, Try.ntmps46
    go_wp2
    go_ret
    exact ⟨rfl, rfl⟩
  · have h2 : -a / b ≤ -a := Int.ediv_le_self b (by omega)
    have h3 : 0 ≤ -a / b := Int.ediv_nonneg (by omega) (by omega)
    have e1 : a.tdiv b = -(-a / b) := by rw [← Int.neg_neg a, Int.neg_tdiv, Int.neg_neg, Int.tdiv_eq_ediv_of_nonneg (by omega)]
    have h4 : -4611686018427387903 ≤ a.tdiv b := by omega
    have h5 : a.tdiv b ≤ 0 := by omega
    clear e1 h2 h3
    have Hq := hide hq
    clear hq
    go_enter Try.func46, Try.ntmps46
    go_wp2
    all_goals
      go_ret
      exact ⟨ret_int (by rw [Hq.out]; first | rw [if_pos (by assumption)] | rw [if_neg (by omega)]), rfl⟩
theorem cup_any (a b : Int) (w : World) (ha1 : -4611686018427387903 ≤ a) (hb : 1 ≤ b) (ha2 : a ≤ 4611686018427387903) (hb2 : b ≤ 4611686018427387903) :
    Calls Try.prog 47 #[.int .i64 a, .int .i64 b] w fun e w' => e = .returned (.int .i64 (cdiv a b)) ∧ w = w' := by
  have h1 : -4611686018427387903 ≤ -a / b ∧ -a / b ≤ 4611686018427387903 := by
    constructor
    · have := (Int.le_ediv_iff_mul_le (a := -4611686018427387903) (b := -a) (c := b) (by omega)).2 (by omega)
      exact this
    · by_cases h : 0 ≤ -a
      · have := Int.ediv_le_self b h; omega
      · have : -a / b ≤ 0 := by
          have := Int.ediv_lt_of_lt_mul (a := -a) (b := 1) (c := b) (by omega) (by omega)
          omega
        omega
  obtain ⟨h2, h3⟩ := h1
  go_enter Try.func47, Try.ntmps47
  go_wp2_with (go_at_call 46; refine (cdown_any _ _ _ (by omega) hb (by omega) hb2).mono ?_; rintro e w' ⟨rfl, rfl⟩)
  go_ret
  exact ⟨rfl, rfl⟩
def insB (l h lo hi : Int) : Bool := decide (lo ≤ l) && decide (l ≤ h) && decide (h ≤ hi)
theorem inside_any (l h lo hi : Int) (w : World) :
    Calls Try.prog 44 #[.agg #[.int .i64 l, .int .i64 h], .int .i64 lo, .int .i64 hi] w fun e w' => e = .returned (.bool (insB l h lo hi)) ∧ Below w.heap.size w w' := by
  by_cases h1 : lo ≤ l <;> by_cases h2 : l ≤ h <;> by_cases h3 : h ≤ hi
  all_goals
    go_enter Try.func44, Try.ntmps44
    have HM := hide (Mem.start w)
    go_upto_region 1 with fail
    refine code_world fun W1 hW => ?_
    have HMn := Mem.to (Mem.allocAt HM.out w.heap.size rfl #[.int .i64 l, .int .i64 h] 60) hW
    have LW : Later w W1 := by rw [hW]; exact ((Below.refl _ _).alloc (Nat.le_refl _) _)
    have szW : W1.heap.size = w.heap.size + 1 := by rw [hW]; simp
    clear hW
    replace HM := hide HMn
    clear HMn LW
    clear szW
    have ba : Blk W1 w.heap.size 60 #[.int .i64 l, .int .i64 h] := HM.out.get 0 rfl
    have lta := ba.lt
    have a0 := ba.c 0 rfl
    have a1 := ba.c 1 rfl
    go_wp2
    go_ret
    exact ⟨by simp [insB, *], HM.out.below⟩
theorem insB_ok {l h lo hi : Int} (h1 : lo ≤ l) (h2 : l ≤ h) (h3 : h ≤ hi) : insB l h lo hi = true := by simp [insB, *]
theorem winB_ok {n lo hi : Int} (h1 : lo ≤ n) (h2 : n ≤ hi) : winB n lo hi = true := by simp [winB, *]
set_option maxRecDepth 100000 in
theorem CheckFlow_ok (xl xh yl yh : Int) (w : World) (h1 : insB xl xh (-100000) 100000 = true) (h2 : insB yl yh (-100000) 100000 = true) :
    Calls Try.prog 48 #[.agg #[.int .i64 xl, .int .i64 xh, .int .i64 yl, .int .i64 yh]] w fun e w' => e = .returned (.int .i64 0) ∧ Below w.heap.size w w' := by
  have hx := fun V => inside_any xl xh (-100000) 100000 V
  have hy := fun V => inside_any yl yh (-100000) 100000 V
  simp only [h1] at hx
  simp only [h2] at hy
  have HX := hide hx
  have HY := hide hy
  clear hx hy
  clear h1 h2
  go_enter Try.func48, Try.ntmps48
  have HM := hide (Mem.start w)
  go_upto_region 1 with fail
  refine code_world fun W1 hW => ?_
  have HMn := Mem.to (Mem.allocAt HM.out w.heap.size rfl #[.int .i64 xl, .int .i64 xh, .int .i64 yl, .int .i64 yh] 72) hW
  have LW : Later w W1 := by rw [hW]; exact ((Below.refl _ _).alloc (Nat.le_refl _) _)
  have szW : W1.heap.size = w.heap.size + 1 := by rw [hW]; simp
  clear hW
  replace HM := hide HMn
  clear HMn LW
  clear szW
  have ba : Blk W1 w.heap.size 72 #[.int .i64 xl, .int .i64 xh, .int .i64 yl, .int .i64 yh] := HM.out.get 0 rfl
  have lta := ba.lt
  have a0 := ba.c 0 rfl
  have a1 := ba.c 1 rfl
  have a2 := ba.c 2 rfl
  have a3 := ba.c 3 rfl
  go_wp2_with fail
  refine (HX.out _).mono ?_
  rintro e w2 ⟨rfl, hb⟩
  replace HM := hide (HM.out.later hb)
  clear hb ba lta a0 a1 a2 a3
  have ba : Blk w2 w.heap.size 72 #[.int .i64 xl, .int .i64 xh, .int .i64 yl, .int .i64 yh] := HM.out.get 0 rfl
  have lta := ba.lt
  have a0 := ba.c 0 rfl
  have a1 := ba.c 1 rfl
  have a2 := ba.c 2 rfl
  have a3 := ba.c 3 rfl
  go_wp2_with fail
  refine (HY.out _).mono ?_
  rintro e w3 ⟨rfl, hb⟩
  replace HM := hide (HM.out.later hb)
  clear hb ba lta a0 a1 a2 a3
  go_wp2_with fail
  go_ret
  exact ⟨rfl, HM.out.below⟩
set_option maxHeartbeats 2000000 in
set_option maxRecDepth 100000 in
theorem rush_any (l h s sec : Int) (gs gt : Nat) (w : World) (hl : -64 ≤ l ∧ l ≤ 64) (hh : -64 ≤ h ∧ h ≤ 64) (hs : 0 ≤ s ∧ s ≤ 2000) (ht : 1 ≤ sec ∧ sec ≤ 86400) (cs : Blk w gs 3 #[.int .i64 s]) (ct : Blk w gt 3 #[.int .i64 sec]) :
    Calls Try.prog 45 #[.agg #[.int .i64 l, .int .i64 h], .pointer (some ⟨gs, 0, none⟩), .pointer (some ⟨gt, 0, none⟩)] w fun e w' => e = .returned (.agg #[.int .i64 (1000 * (1000 * l - s) / sec), .int .i64 (cdiv (1000 * (1000 * h + s)) sec)]) ∧ Below w.heap.size w w' := by
  obtain ⟨PP, hPP⟩ : ∃ PP : Ending → World → Prop, (fun e w' => e = .returned (.agg #[.int .i64 (1000 * (1000 * l - s) / sec), .int .i64 (cdiv (1000 * (1000 * h + s)) sec)]) ∧ Below w.heap.size w w') = PP := ⟨_, rfl⟩
  rw [hPP]
  have hd := fun V => (cdown_any (1000 * (1000 * l - s)) sec V (by omega) (by omega) (by omega) (by omega)).mono fun e w' (hq : e = .returned (.int .i64 (1000 * (1000 * l - s) / sec)) ∧ V = w') => show e = .returned (.int .i64 (1000 * (1000 * l - s) / sec)) ∧ Below V.heap.size V w' from ⟨hq.1, hq.2 ▸ Below.refl _ _⟩
  have hu := fun V => (cup_any (1000 * (1000 * h + s)) sec V (by omega) (by omega) (by omega) (by omega)).mono fun e w' (hq : e = .returned (.int .i64 (cdiv (1000 * (1000 * h + s)) sec)) ∧ V = w') => show e = .returned (.int .i64 (cdiv (1000 * (1000 * h + s)) sec)) ∧ Below V.heap.size V w' from ⟨hq.1, hq.2 ▸ Below.refl _ _⟩
  obtain ⟨D, hD⟩ : ∃ q, 1000 * (1000 * l - s) / sec = q := ⟨_, rfl⟩
  obtain ⟨U, hU⟩ : ∃ q, cdiv (1000 * (1000 * h + s)) sec = q := ⟨_, rfl⟩
  rw [hD] at hd hPP
  rw [hU] at hu hPP
  have HDN := hide hd
  have HUP := hide hu
  have HPP := hide hPP
  have HCS := hide cs
  have HCT := hide ct
  clear hd hu hPP cs ct
  clear hD hU
  go_enter Try.func45, Try.ntmps45
  have HM := hide (Mem.start w)
  go_upto_region 1 with fail
  refine code_world fun W1 hW => ?_
  have HMn := Mem.to (Mem.allocAt (Mem.allocAt HM.out w.heap.size rfl #[.int .i64 l, .int .i64 h] 60) (w.heap.size + 1) (by simp) #[.int .i64 0, .int .i64 0] 60) hW
  have LW : Later w W1 := by rw [hW]; exact (((Below.refl _ _).alloc (Nat.le_refl _) _).alloc (by simp; try omega) _)
  have szW : W1.heap.size = w.heap.size + 2 := by rw [hW]; simp
  clear hW
  replace HM := hide HMn
  clear HMn LW
  clear szW
  have ba : Blk W1 w.heap.size 60 #[.int .i64 l, .int .i64 h] := HM.out.get 1 rfl
  have lta := ba.lt
  have a0 := ba.c 0 rfl
  have a1 := ba.c 1 rfl
  have hbs := blk_belowN HCS.out HM.out.below HCS.out.lt
  have hbt := blk_belowN HCT.out HM.out.below HCT.out.lt
  have s0 := hbs.c 0 rfl
  have lts := hbs.lt
  have t0 := hbt.c 0 rfl
  have ltt := hbt.lt
  clear hbs hbt
  go_wp2_with fail
  refine wp_region_cut 17 (by kernel_rfl) (by simp only [List.take_succ_cons, List.take_zero]; exact rfl) (by simp only [List.drop_succ_cons, List.drop_zero]; exact rfl) (by kernel_rfl) ?_
  apply any_region_J (w0 := W1) [[], [], [], [], [], [], [], [], [], [], [], [], [], [], [], [], []] [true, true, true, true, true, true, true, true, true, true, true, true, true, true, true, true, true] [] (fun ixq y => match ixq with  | _ => undef) (fun ixq x F wq => match ixq with  | _ => True) (fun a x => a) (by kernel_rfl) (fun _ => rfl) [12, 20] (by kernel_rfl)
  · intro x D hD
    have hne := hD.some
    have k0 := liftB hD a0 (by first | assumption | omega)
    have k1 := liftB hD s0 (by first | assumption | omega)
    have k2 := liftB hD t0 (by first | assumption | omega)
    have k3 := liftB hD a1 (by first | assumption | omega)
    simp only [takeOps, Act.put, List.setIfInBounds_toArray, List.set_cons_succ, List.set_cons_zero]
    repeat (go_big_quiet_step ((first | (go_at_call 46; with_reducible exact calls_later hD _ (HDN.out _)) | (go_at_call 47; with_reducible exact calls_later hD _ (HUP.out _)))))
    exact wpQuiet_nil rfl
  · intro d hd x x'
    simp only [List.mem_cons, List.not_mem_nil, or_false] at hd
    rcases hd with rfl | rfl
    all_goals rfl
  · exact trivial
  · exact trivial
  intro xx w2 F hL hlv1 hap1
  clear hap1
  clear hlv1
  refine ⟨rfl, ?_⟩
  replace HM := hide (HM.out.later hL)
  clear hL ba lta a0 a1
  clear s0 lts t0 ltt
  have bq : Blk w2 (w.heap.size + 1) 60 #[.int .i64 0, .int .i64 0] := HM.out.get 0 rfl
  have ltq := bq.lt
  have q0 := bq.c 0 rfl
  have fq0 := bq.frozen 0
  have q1 := bq.c 1 rfl
  have fq1 := bq.frozen 1
  go_wp2_with fail
  refine ret_world fun V hV => ?_
  have hM9 := Mem.to ((HM.out.set_ 0 rfl 0 (.int .i64 D) (cs' := #[.int .i64 D, .int .i64 0]) rfl).set_ 0 rfl 1 (.int .i64 U) (cs' := #[.int .i64 D, .int .i64 U]) rfl) hV
  have hb9 := hM9.blk_ 0 rfl
  have r0 := hb9.c 0 rfl
  have r1 := hb9.c 1 rfl
  rw [← HPP.out]
  refine bodyPost_ret (v := .agg #[.int .i64 D, .int .i64 U]) (by simp [results, Try.results45, go_sem, r0, r1]) rfl ⟨rfl, hM9.below⟩
set_option maxHeartbeats 4000000 in
set_option maxRecDepth 100000 in
theorem Fit_ok (xl xh yl yh sec xd xu yd yu : Int) (w : World) (hx1 : -64 ≤ xl) (hx2 : xl ≤ xh) (hx3 : xh ≤ 64) (hy1 : -64 ≤ yl) (hy2 : yl ≤ yh) (hy3 : yh ≤ 64) (ht : 1 ≤ sec ∧ sec ≤ 86400)
    (exd : 1000 * (1000 * xl - 0) / sec = xd) (exu : cdiv (1000 * (1000 * xh + 0)) sec = xu) (eyd : 1000 * (1000 * yl - 0) / sec = yd) (eyu : cdiv (1000 * (1000 * yh + 0)) sec = yu) (hfx : insB xd xu (-100000) 100000 = true) (hfy : insB yd yu (-100000) 100000 = true) :
    Calls Try.prog 19 #[.agg #[.int .i64 xl, .int .i64 xh], .agg #[.int .i64 yl, .int .i64 yh], .int .i64 sec, .int .i64 0] w fun e w' => e = .returned (.tuple #[.agg #[.int .i64 xd, .int .i64 xu, .int .i64 yd, .int .i64 yu], .int .i64 0]) ∧ Below w.heap.size w w' := by
  obtain ⟨PP, hPP⟩ : ∃ PP : Ending → World → Prop, (fun e w' => e = .returned (.tuple #[.agg #[.int .i64 xd, .int .i64 xu, .int .i64 yd, .int .i64 yu], .int .i64 0]) ∧ Below w.heap.size w w') = PP := ⟨_, rfl⟩
  rw [hPP]
  have hrx := fun gs gt V (cs : Blk V gs 3 #[.int .i64 0]) (ct : Blk V gt 3 #[.int .i64 sec]) => rush_any xl xh 0 sec gs gt V (by omega) (by omega) (by omega) ht cs ct
  have hry := fun gs gt V (cs : Blk V gs 3 #[.int .i64 0]) (ct : Blk V gt 3 #[.int .i64 sec]) => rush_any yl yh 0 sec gs gt V (by omega) (by omega) (by omega) ht cs ct
  rw [exd, exu] at hrx
  rw [eyd, eyu] at hry
  have hix := fun V => inside_any xl xh (-64) 64 V
  have hiy := fun V => inside_any yl yh (-64) 64 V
  have hws := fun V => cwithin_any sec 1 86400 V
  have hw0 := fun V => cwithin_any 0 0 2000 V
  simp only [insB_ok hx1 hx2 hx3] at hix
  simp only [insB_ok hy1 hy2 hy3] at hiy
  simp only [winB_ok ht.1 ht.2] at hws
  simp only [winB_ok (show (0 : Int) ≤ 0 by omega) (show (0 : Int) ≤ 2000 by omega)] at hw0
  have hcf := fun V => CheckFlow_ok xd xu yd yu V hfx hfy
  have HRX := hide hrx
  have HRY := hide hry
  have HIX := hide hix
  have HIY := hide hiy
  have HWS := hide hws
  have HW0 := hide hw0
  have HCF := hide hcf
  have HPP := hide hPP
  clear hrx hry hix hiy hws hw0 hcf hPP
  clear exd exu eyd eyu hfx hfy hx1 hx2 hx3 hy1 hy2 hy3
  have hmf : ∀ (fn : Fn) (first cap : Array Value) (w : World), (Instr.makeFunc fn first cap).run Try.prog w = .ok (.func fn first cap) w := fun _ _ _ _ => rfl
  go_enter Try.func19, Try.ntmps19
  have HM := hide (Mem.start w)
  go_upto_region 1 with fail
  refine code_world fun W1 hW => ?_
  have HMn := Mem.to (Mem.allocAt (Mem.allocAt (Mem.allocAt (Mem.allocAt (Mem.allocAt HM.out w.heap.size rfl #[.int .i64 xl, .int .i64 xh] 60) (w.heap.size + 1) (by simp) #[.int .i64 yl, .int .i64 yh] 60) (w.heap.size + 2) (by simp) #[.int .i64 sec] 3) (w.heap.size + 3) (by simp) #[.int .i64 0] 3) (w.heap.size + 4) (by simp) #[.int .i64 0, .int .i64 0, .int .i64 0, .int .i64 0] 72) hW
  have LW : Later w W1 := by rw [hW]; exact ((((((Below.refl _ _).alloc (Nat.le_refl _) _).alloc (by simp; try omega) _).alloc (by simp; try omega) _).alloc (by simp; try omega) _).alloc (by simp; try omega) _)
  have szW : W1.heap.size = w.heap.size + 5 := by rw [hW]; simp
  clear hW
  replace HM := hide HMn
  clear HMn LW
  clear szW
  obtain ⟨pX, hpX⟩ : ∃ q, w.heap.size = q := ⟨_, rfl⟩
  obtain ⟨pY, hpY⟩ : ∃ q, pX + 1 = q := ⟨_, rfl⟩
  obtain ⟨pT, hpT⟩ : ∃ q, pY + 1 = q := ⟨_, rfl⟩
  obtain ⟨pS, hpS⟩ : ∃ q, pT + 1 = q := ⟨_, rfl⟩
  obtain ⟨pR, hpR⟩ : ∃ q, pS + 1 = q := ⟨_, rfl⟩
  rw [show w.heap.size + 4 = pR by omega, show w.heap.size + 3 = pS by omega, show w.heap.size + 2 = pT by omega, show w.heap.size + 1 = pY by omega, hpX] at HM
  simp only [hpX, hpY, hpT, hpS, hpR]
  clear hpX hpY hpT hpS hpR
  have ba : Blk W1 pX 60 #[.int .i64 xl, .int .i64 xh] := HM.out.get 4 rfl
  have lta := ba.lt
  have a0 := ba.c 0 rfl
  have a1 := ba.c 1 rfl
  have bb : Blk W1 pY 60 #[.int .i64 yl, .int .i64 yh] := HM.out.get 3 rfl
  have ltb := bb.lt
  have b0 := bb.c 0 rfl
  have b1 := bb.c 1 rfl
  have bt : Blk W1 pT 3 #[.int .i64 sec] := HM.out.get 2 rfl
  have ltt := bt.lt
  have t0 := bt.c 0 rfl
  have bs : Blk W1 pS 3 #[.int .i64 0] := HM.out.get 1 rfl
  have lts := bs.lt
  have s0 := bs.c 0 rfl
  go_wp2_with fail
  refine (HIX.out _).mono ?_
  rintro e w2 ⟨rfl, hb⟩
  replace HM := hide (HM.out.later hb)
  clear hb ba lta a0 a1 bb ltb b0 b1 bt ltt t0 bs lts s0
  have ba : Blk w2 pX 60 #[.int .i64 xl, .int .i64 xh] := HM.out.get 4 rfl
  have lta := ba.lt
  have a0 := ba.c 0 rfl
  have a1 := ba.c 1 rfl
  have bb : Blk w2 pY 60 #[.int .i64 yl, .int .i64 yh] := HM.out.get 3 rfl
  have ltb := bb.lt
  have b0 := bb.c 0 rfl
  have b1 := bb.c 1 rfl
  have bt : Blk w2 pT 3 #[.int .i64 sec] := HM.out.get 2 rfl
  have ltt := bt.lt
  have t0 := bt.c 0 rfl
  have bs : Blk w2 pS 3 #[.int .i64 0] := HM.out.get 1 rfl
  have lts := bs.lt
  have s0 := bs.c 0 rfl
  go_wp2_with fail
  refine (HIY.out _).mono ?_
  rintro e w3 ⟨rfl, hb⟩
  replace HM := hide (HM.out.later hb)
  clear hb ba lta a0 a1 bb ltb b0 b1 bt ltt t0 bs lts s0
  have ba : Blk w3 pX 60 #[.int .i64 xl, .int .i64 xh] := HM.out.get 4 rfl
  have lta := ba.lt
  have a0 := ba.c 0 rfl
  have a1 := ba.c 1 rfl
  have bb : Blk w3 pY 60 #[.int .i64 yl, .int .i64 yh] := HM.out.get 3 rfl
  have ltb := bb.lt
  have b0 := bb.c 0 rfl
  have b1 := bb.c 1 rfl
  have bt : Blk w3 pT 3 #[.int .i64 sec] := HM.out.get 2 rfl
  have ltt := bt.lt
  have t0 := bt.c 0 rfl
  have bs : Blk w3 pS 3 #[.int .i64 0] := HM.out.get 1 rfl
  have lts := bs.lt
  have s0 := bs.c 0 rfl
  go_wp2_with fail
  refine (HWS.out _).mono ?_
  rintro e w4 ⟨rfl, rfl⟩
  go_wp2_with fail
  refine (HW0.out _).mono ?_
  rintro e w4 ⟨rfl, rfl⟩
  go_wp2_with fail
  have hcx := fun V (hB : Below w3.heap.size w3 V) => HRX.out pS pT V (blk_belowN (HM.out.blk_ 1 rfl) hB (HM.out.blk_ 1 rfl).lt) (blk_belowN (HM.out.blk_ 2 rfl) hB (HM.out.blk_ 2 rfl).lt)
  have hcy := fun V (hB : Below w3.heap.size w3 V) => HRY.out pS pT V (blk_belowN (HM.out.blk_ 1 rfl) hB (HM.out.blk_ 1 rfl).lt) (blk_belowN (HM.out.blk_ 2 rfl) hB (HM.out.blk_ 2 rfl).lt)
  have HCX := hide hcx
  have HCY := hide hcy
  clear hcx hcy
  apply wp_region_L (w0 := w3) [[], [], [], [], [], [], [], [], [7]] [true, true, true, true, true, true, true, false, false] [⟨7, none, [], []⟩, ⟨8, some 7, [7], [7]⟩] (fun ixq y => match ixq with | 7 => .pointer (y 0).1 | 8 => undef | _ => undef) (fun ixq x F wq => match ixq with | 7 => PtrF wq F w3.heap.size (x 7 0).1 72 #[.int .i64 0, .int .i64 0, .int .i64 0, .int .i64 0] | 8 => PtrF wq F w3.heap.size (x 7 0).1 72 #[.int .i64 xd, .int .i64 xu, .int .i64 yd, .int .i64 yu] | _ => True) (fun a x => ((a).put (some 11) (.pointer ((x 7) 0).1)).put (none) (undef)) (by kernel_rfl) (by kernel_rfl) (fun _ => rfl) [34, 37] (by kernel_rfl)
  · intro x D hD
    have hne := hD.some
    have k0 := liftB hD a0 (by first | assumption | omega)
    have k1 := liftB hD a1 (by first | assumption | omega)
    have k2 := liftB hD b0 (by first | assumption | omega)
    have k3 := liftB hD b1 (by first | assumption | omega)
    simp only [takeOps, Act.put, List.setIfInBounds_toArray, List.set_cons_succ, List.set_cons_zero]
    repeat (go_big_quiet_step ((first | with_reducible exact calls_later hD _ (HCX.out _ (kb hD _)) | with_reducible exact calls_later hD _ (HCY.out _ (kb hD _)))))
    exact wpQuiet_nil rfl
  · intro d hd x x'
    simp only [List.mem_cons, List.not_mem_nil, or_false] at hd
    rcases hd with rfl | rfl
    all_goals rfl
  · refine ⟨?_, ?_, trivial⟩
    · exact obl_alloc 72 11 (.agg #[.int .i64 0, .int .i64 0, .int .i64 0, .int .i64 0]) (by kernel_rfl) (by kernel_rfl) (fun _ => rfl) (fun _ _ _ h => h)
    · refine obl_store 72 11 38 7 #[.int .i64 0, .int .i64 0, .int .i64 0, .int .i64 0] (fun x => #[.int .i64 xd, .int .i64 xu, .int .i64 yd, .int .i64 yu]) (by kernel_rfl) rfl (by simp) (fun _ _ _ h => h) (fun _ => rfl) (fun _ => rfl) (fun _ => by kernel_rfl) (fun _ => rfl) (fun _ => by simp [Value.oneCell']) (fun _ => rfl) (by decide) (fun _ _ _ _ h => h)
  · refine ⟨?_, ?_, trivial⟩
    · exact owe_ptr 7 _ _ (fun x => #[.int .i64 0, .int .i64 0, .int .i64 0, .int .i64 0]) (fun _ _ _ => rfl) (by simp) (fun _ _ _ => rfl)
    · exact owe_ptr 7 _ _ (fun x => #[.int .i64 xd, .int .i64 xu, .int .i64 yd, .int .i64 yu]) (fun _ _ _ => rfl) (by simp) (fun _ _ _ => rfl)
  intro xx w5 F hL hlv2
  obtain ⟨-, fct8, -⟩ := hlv2
  replace fct8 : PtrF w5 (F 8) w3.heap.size (xx 7 0).1 72 #[.int .i64 xd, .int .i64 xu, .int .i64 yd, .int .i64 yu] := fct8 rfl
  obtain ⟨pF, hgs, hge, -, hbg⟩ := fct8
  rw [hgs]
  have HM1 := hide (HM.out.add (t := .blk pF 72 _) hL (show Blk _ _ _ _ from hbg) (fun k hk => by rw [List.mem_singleton.1 hk]; exact hge))
  clear HM hL hbg hge hgs HCX HCY
  have HM := HM1
  clear HM1
  have bf : Blk w5 pF 72 #[.int .i64 xd, .int .i64 xu, .int .i64 yd, .int .i64 yu] := HM.out.get 0 rfl
  have ltf := bf.lt
  have f0 := bf.c 0 rfl
  have f1 := bf.c 1 rfl
  have f2 := bf.c 2 rfl
  have f3 := bf.c 3 rfl
  go_wp2_with fail
  refine (HCF.out _).mono ?_
  rintro e w6 ⟨rfl, hb⟩
  replace HM := hide (HM.out.later hb)
  clear hb bf ltf f0 f1 f2 f3
  have bf : Blk w6 pF 72 #[.int .i64 xd, .int .i64 xu, .int .i64 yd, .int .i64 yu] := HM.out.get 0 rfl
  have ltf := bf.lt
  have f0 := bf.c 0 rfl
  have f1 := bf.c 1 rfl
  have f2 := bf.c 2 rfl
  have f3 := bf.c 3 rfl
  have br : Blk w6 pR 72 #[.int .i64 0, .int .i64 0, .int .i64 0, .int .i64 0] := HM.out.get 1 rfl
  have ltr := br.lt
  have r0 := br.c 0 rfl
  have fr0 := br.frozen 0
  have r1 := br.c 1 rfl
  have fr1 := br.frozen 1
  have r2 := br.c 2 rfl
  have fr2 := br.frozen 2
  have r3 := br.c 3 rfl
  have fr3 := br.frozen 3
  go_wp2_with fail
  refine ret_world fun V hV => ?_
  have hM9 := Mem.to ((((HM.out.set_ 1 rfl 0 (.int .i64 xd) (cs' := #[.int .i64 xd, .int .i64 0, .int .i64 0, .int .i64 0]) rfl).set_ 1 rfl 1 (.int .i64 xu) (cs' := #[.int .i64 xd, .int .i64 xu, .int .i64 0, .int .i64 0]) rfl).set_ 1 rfl 2 (.int .i64 yd) (cs' := #[.int .i64 xd, .int .i64 xu, .int .i64 yd, .int .i64 0]) rfl).set_ 1 rfl 3 (.int .i64 yu) (cs' := #[.int .i64 xd, .int .i64 xu, .int .i64 yd, .int .i64 yu]) rfl) hV
  have hb9 := hM9.blk_ 1 rfl
  have q0 := hb9.c 0 rfl
  have q1 := hb9.c 1 rfl
  have q2 := hb9.c 2 rfl
  have q3 := hb9.c 3 rfl
  rw [← HPP.out]
  refine bodyPost_ret (v := .tuple #[.agg #[.int .i64 xd, .int .i64 xu, .int .i64 yd, .int .i64 yu], .int .i64 0]) (by simp [results, Try.results19, go_sem, q0, q1, q2, q3]) rfl ⟨rfl, hM9.below⟩
end Go.Proofs.Ytidbjidcjmbnlaa
end
section
namespace Go.Proofs.Ytidbjidcjmbnlaa
open Go Go.RowKit
attribute [local go_sem] Oper.semAt_some

/-- Numbers that rise. -/
theorem rise_at {l : List Nat} (h : l.Pairwise (· < ·)) {m x y : Nat} (hx : l[m]? = some x) (hy : l[m + 1]? = some y) : x < y := by
  obtain ⟨h1, e1⟩ := List.getElem?_eq_some_iff.1 hx
  obtain ⟨h2, e2⟩ := List.getElem?_eq_some_iff.1 hy
  rw [← e1, ← e2]
  exact List.pairwise_iff_getElem.1 h m (m + 1) h1 h2 (Nat.lt_succ_self _)
def cloudC (As Am : Option Addr) (ns cs nm cm : Nat) (xd xu yd yu : Int) : Array Value := #[.slice As ns cs, .slice Am nm cm, .int .i64 xd, .int .i64 xu, .int .i64 yd, .int .i64 yu, .int .i64 0]
set_option maxHeartbeats 4000000 in
set_option maxRecDepth 100000 in
theorem CheckCloud_ok (gx gy gs : Int) (W H N base : Nat) (As Am : Option Addr) (ns cs nm cm : Nat) (xd xu yd yu : Int) (sl ml : List Nat) (w : World) (he : gridE gx gy gs W H = 0) (hN : N = W * H) (hN64 : N ≤ 10000) (hW64 : W ≤ 64) (hH64 : H ≤ 64) (hfx : insB xd xu (-100000) 100000 = true) (hfy : insB yd yu (-100000) 100000 = true)
    (hs : w.ownsRow base 3 1 (.slice As ns cs) ns (numsV sl)) (hm : w.ownsRow base 3 1 (.slice Am nm cm) nm (numsV ml)) (hns : sl.length = ns) (hnm : ml.length = nm) (hm0 : 1 ≤ nm) (hmN : ∀ p ∈ ml, p < N) (hmr : ml.Pairwise (· < ·)) (hsr : sl.Pairwise (· < ·)) (hsm : ∀ p ∈ sl, p ∈ ml) (hnmN : nm ≤ 10000) (hnsN : ns ≤ 10000) :
    Calls Try.prog 22 #[.agg #[.int .i64 gx, .int .i64 gy, .int .i64 gs, .int .i64 (W : Nat), .int .i64 (H : Nat)], .agg (cloudC As Am ns cs nm cm xd xu yd yu)] w fun e w' => e = .returned (.int .i64 0) ∧ Below w.heap.size w w' := by
  obtain ⟨PP, hPP⟩ : ∃ PP : Ending → World → Prop, (fun e w' => e = .returned (.int .i64 0) ∧ Below w.heap.size w w') = PP := ⟨_, rfl⟩
  rw [hPP]
  have hcg := fun V => CheckGrid_any gx gy gs W H V
  rw [he] at hcg
  unfold gridV at hcg
  have hcf := fun V => CheckFlow_ok xd xu yd yu V hfx hfy
  have hw0 := fun V => cwithin_any 0 0 10000 V
  simp only [winB_ok (show (0 : Int) ≤ 0 by omega) (show (0 : Int) ≤ 10000 by omega)] at hw0
  have hwN := fun (p : Nat) (hp : p < N) V => cwithin_any p 0 ((N : Int) - 1) V
  have hwN2 : ∀ (p : Nat), p < N → ∀ V, Calls Try.prog 24 #[.int .i64 (p : Nat), .int .i64 0, .int .i64 ((N : Int) - 1)] V fun e w' => e = .returned (.bool true) ∧ V = w' := fun p hp V => by
    have h := cwithin_any p 0 ((N : Int) - 1) V
    rwa [winB_ok (show (0 : Int) ≤ p by omega) (show (p : Int) ≤ (N : Int) - 1 by omega)] at h
  have hrs := fun V (hB : Below w.heap.size w V) => own_belowT hs hB
  have hrm := fun V (hB : Below w.heap.size w V) => own_belowT hm hB
  have hset := fun V (hB : Below w.heap.size w V) => set_any base (.slice Am nm cm) ml V (by rw [hnm]; exact own_belowT hm hB) (by omega) (fun x hx => by have := hmN x hx; omega)
  unfold SetPost at hset
  rw [hnm] at hset
  have hNI : (W : Int) * (H : Int) = (N : Int) := by rw [hN]; push_cast; rfl
  have hnm0 : ¬ (nm : Int) = 0 := by omega
  unfold cloudC
  have HCG := hide hcg
  have HCF := hide hcf
  have HW0 := hide hw0
  have HWN := hide hwN2
  have HRS := hide hrs
  have HRM := hide hrm
  have HSET := hide hset
  have HPP := hide hPP
  have HNS := hide hns
  have HNM := hide hnm
  have HMN := hide hmN
  have HMR := hide hmr
  have HSR := hide hsr
  have HSM := hide hsm
  have HN := hide hN
  clear hcg hcf hw0 hwN2 hrs hrm hset hPP hns hnm hmN hmr hsr hsm hN
  clear he hfx hfy hs hm hwN
  go_enter Try.func22, Try.ntmps22
  have HM := hide (Mem.start w)
  go_upto_region 1 with fail
  refine code_world fun W1 hW => ?_
  have HMn := Mem.to (Mem.allocAt (Mem.allocAt HM.out w.heap.size rfl #[.int .i64 gx, .int .i64 gy, .int .i64 gs, .int .i64 (W : Nat), .int .i64 (H : Nat)] 28) (w.heap.size + 1) (by simp) #[.slice As ns cs, .slice Am nm cm, .int .i64 xd, .int .i64 xu, .int .i64 yd, .int .i64 yu, .int .i64 0] 76) hW
  have LW : Later w W1 := by rw [hW]; exact (((Below.refl _ _).alloc (Nat.le_refl _) _).alloc (by simp; try omega) _)
  have szW : W1.heap.size = w.heap.size + 2 := by rw [hW]; simp
  clear hW
  replace HM := hide HMn
  clear HMn LW
  clear szW
  obtain ⟨pG, hpG⟩ : ∃ q, w.heap.size = q := ⟨_, rfl⟩
  obtain ⟨pC, hpC⟩ : ∃ q, pG + 1 = q := ⟨_, rfl⟩
  rw [show w.heap.size + 1 = pC by omega, hpG] at HM
  simp only [hpG, hpC]
  clear hpC hpG
  have bg : Blk W1 pG 28 #[.int .i64 gx, .int .i64 gy, .int .i64 gs, .int .i64 (W : Nat), .int .i64 (H : Nat)] := HM.out.get 1 rfl
  have ltg := bg.lt
  have g0 := bg.c 0 rfl
  have g1 := bg.c 1 rfl
  have g2 := bg.c 2 rfl
  have g3 := bg.c 3 rfl
  have g4 := bg.c 4 rfl
  have bc : Blk W1 pC 76 #[.slice As ns cs, .slice Am nm cm, .int .i64 xd, .int .i64 xu, .int .i64 yd, .int .i64 yu, .int .i64 0] := HM.out.get 0 rfl
  have ltc := bc.lt
  have c0 := bc.c 0 rfl
  have c1 := bc.c 1 rfl
  have c2 := bc.c 2 rfl
  have c3 := bc.c 3 rfl
  have c4 := bc.c 4 rfl
  have c5 := bc.c 5 rfl
  have c6 := bc.c 6 rfl
  go_wp2_with fail
  refine (HCG.out _).mono ?_
  rintro e w2 ⟨rfl, hb⟩
  replace HM := hide (HM.out.later hb)
  clear hb bg ltg g0 g1 g2 g3 g4 bc ltc c0 c1 c2 c3 c4 c5 c6
  have bg : Blk w2 pG 28 #[.int .i64 gx, .int .i64 gy, .int .i64 gs, .int .i64 (W : Nat), .int .i64 (H : Nat)] := HM.out.get 1 rfl
  have ltg := bg.lt
  have g0 := bg.c 0 rfl
  have g1 := bg.c 1 rfl
  have g2 := bg.c 2 rfl
  have g3 := bg.c 3 rfl
  have g4 := bg.c 4 rfl
  have bc : Blk w2 pC 76 #[.slice As ns cs, .slice Am nm cm, .int .i64 xd, .int .i64 xu, .int .i64 yd, .int .i64 yu, .int .i64 0] := HM.out.get 0 rfl
  have ltc := bc.lt
  have c0 := bc.c 0 rfl
  have c1 := bc.c 1 rfl
  have c2 := bc.c 2 rfl
  have c3 := bc.c 3 rfl
  have c4 := bc.c 4 rfl
  have c5 := bc.c 5 rfl
  have c6 := bc.c 6 rfl
  go_wp2_with fail
  refine (HCF.out _).mono ?_
  rintro e w3 ⟨rfl, hb⟩
  replace HM := hide (HM.out.later hb)
  clear hb bg ltg g0 g1 g2 g3 g4 bc ltc c0 c1 c2 c3 c4 c5 c6
  have bg : Blk w3 pG 28 #[.int .i64 gx, .int .i64 gy, .int .i64 gs, .int .i64 (W : Nat), .int .i64 (H : Nat)] := HM.out.get 1 rfl
  have ltg := bg.lt
  have g0 := bg.c 0 rfl
  have g1 := bg.c 1 rfl
  have g2 := bg.c 2 rfl
  have g3 := bg.c 3 rfl
  have g4 := bg.c 4 rfl
  have bc : Blk w3 pC 76 #[.slice As ns cs, .slice Am nm cm, .int .i64 xd, .int .i64 xu, .int .i64 yd, .int .i64 yu, .int .i64 0] := HM.out.get 0 rfl
  have ltc := bc.lt
  have c0 := bc.c 0 rfl
  have c1 := bc.c 1 rfl
  have c2 := bc.c 2 rfl
  have c3 := bc.c 3 rfl
  have c4 := bc.c 4 rfl
  have c5 := bc.c 5 rfl
  have c6 := bc.c 6 rfl
  go_wp2_with fail
  refine (HW0.out _).mono ?_
  rintro e w4 ⟨rfl, rfl⟩
  go_wp2_with fail
  have hb0 : ((nm : Int) == 0) = false := beq_eq_false_iff_ne.2 hnm0
  simp only [hb0]
  clear hb0
  clear bg ltg g0 g1 g2 g3 g4 bc ltc c0 c1 c2 c3 c4 c5 c6
  obtain ⟨T0, hT0⟩ : ∃ T0 : List Th, [.blk pC 76 #[.slice As ns cs, .slice Am nm cm, .int .i64 xd, .int .i64 xu, .int .i64 yd, .int .i64 yu, .int .i64 0], .blk pG 28 #[.int .i64 gx, .int .i64 gy, .int .i64 gs, .int .i64 (W : Nat), .int .i64 (H : Nat)]] = T0 := ⟨_, rfl⟩
  rw [hT0] at HM
  have HT := hide hT0
  clear hT0
  go_loopw [36] (fun u wr => ∃ k : Nat, k ≤ nm ∧ u = .int .i64 (k : Nat) ∧ Hid (Mem w T0 wr)) (fun u _ => nm - (intOf u).toNat)
  case atStart => exact ⟨0, Nat.zero_le _, rfl, HM⟩
  case round =>
    clear HM
    obtain ⟨k, hkn, rfl, HM⟩ := hrel
    rw [← HT.out] at HM
    by_cases hlt : k < nm
    · have hlt2 : (k : Int) < nm := by omega
      have hrw := HRM.out wr HM.out.below
      obtain ⟨bm, curm, hAm, -, hbm, -, -, hcm⟩ := row_blk hrw (by omega)
      subst hAm
      obtain ⟨p, hp⟩ : ∃ x, ml[k]? = some x := ⟨_, List.getElem?_eq_getElem (by rw [HNM.out]; exact hlt)⟩
      have hpN := HMN.out p (List.mem_of_getElem? hp)
      have r0 := hbm.c k (hcm k (.int .i64 (p : Nat)) (by unfold numsV; rw [List.getElem?_map, hp]; rfl))
      have ltr := hbm.lt
      have hwp := HWN.out p hpN
      have HWP := hide hwp
      clear hwp
      have bg : Blk wr pG 28 #[.int .i64 gx, .int .i64 gy, .int .i64 gs, .int .i64 (W : Nat), .int .i64 (H : Nat)] := HM.out.get 1 rfl
      have ltg := bg.lt
      have g0 := bg.c 0 rfl
      have g1 := bg.c 1 rfl
      have g2 := bg.c 2 rfl
      have g3 := bg.c 3 rfl
      have g4 := bg.c 4 rfl
      have bc : Blk wr pC 76 #[.slice As ns cs, .slice (some ⟨bm, 0, none⟩) nm cm, .int .i64 xd, .int .i64 xu, .int .i64 yd, .int .i64 yu, .int .i64 0] := HM.out.get 0 rfl
      have ltc := bc.lt
      have c0 := bc.c 0 rfl
      have c1 := bc.c 1 rfl
      have c2 := bc.c 2 rfl
      have c3 := bc.c 3 rfl
      have c4 := bc.c 4 rfl
      have c5 := bc.c 5 rfl
      have c6 := bc.c 6 rfl
      rcases Nat.eq_zero_or_pos k with hk0 | hk0
      · subst hk0
        clear hrw hbm hcm hp
        go_wp2_with fail
        refine (HWP.out _).mono ?_
        rintro e w5 ⟨rfl, rfl⟩
        rw [HT.out] at HM
        go_wp2_with fail
        go_roundw
        case rel => exact ⟨1, hlt, by go_num, HM⟩
        case measure => simp [intOf] <;> omega
      · obtain ⟨m, hm⟩ : ∃ m, k = m + 1 := ⟨k - 1, by omega⟩
        obtain ⟨q, hq⟩ : ∃ x, ml[m]? = some x := ⟨_, List.getElem?_eq_getElem (by rw [HNM.out]; omega)⟩
        have hqp := rise_at HMR.out hq (by rw [← hm]; exact hp)
        have r1 := hbm.c m (hcm m (.int .i64 (q : Nat)) (by unfold numsV; rw [List.getElem?_map, hq]; rfl))
        have hk1 : (k : Int) - 1 = (m : Int) := by omega
        have hkp : (0 : Int) < k := by omega
        have hpq : ¬ (p : Int) ≤ q := by omega
        have hm2 : (m : Int) < nm := by omega
        clear hrw hbm hcm hp hq hm hqp
        go_wp2_with fail
        refine (HWP.out _).mono ?_
        rintro e w5 ⟨rfl, rfl⟩
        rw [HT.out] at HM
        go_wp2_with fail
        go_roundw
        case rel => exact ⟨k + 1, hlt, by go_num, HM⟩
        case measure => simp [intOf] <;> omega
    · obtain rfl : nm = k := by omega
      have hkk : ¬ ((nm : Int) < nm) := by omega
      have bg : Blk wr pG 28 #[.int .i64 gx, .int .i64 gy, .int .i64 gs, .int .i64 (W : Nat), .int .i64 (H : Nat)] := HM.out.get 1 rfl
      have ltg := bg.lt
      have g0 := bg.c 0 rfl
      have g1 := bg.c 1 rfl
      have g2 := bg.c 2 rfl
      have g3 := bg.c 3 rfl
      have g4 := bg.c 4 rfl
      have bc : Blk wr pC 76 #[.slice As ns cs, .slice Am nm cm, .int .i64 xd, .int .i64 xu, .int .i64 yd, .int .i64 yu, .int .i64 0] := HM.out.get 0 rfl
      have ltc := bc.lt
      have c0 := bc.c 0 rfl
      have c1 := bc.c 1 rfl
      have c2 := bc.c 2 rfl
      have c3 := bc.c 3 rfl
      have c4 := bc.c 4 rfl
      have c5 := bc.c 5 rfl
      have c6 := bc.c 6 rfl
      go_wp2_with fail
      refine (HSET.out wr HM.out.below).mono ?_
      rintro e w6 ⟨gm, cq, rfl, hcq, hMs⟩
      have hM6 := HM.out.joinL hMs
      simp only [List.cons_append, List.nil_append] at hM6
      have HM6 := hide hM6
      clear HM hM6 hMs
      have HM := HM6
      clear HM6
      have bg : Blk w6 pG 28 #[.int .i64 gx, .int .i64 gy, .int .i64 gs, .int .i64 (W : Nat), .int .i64 (H : Nat)] := HM.out.get 2 rfl
      have ltg := bg.lt
      have g0 := bg.c 0 rfl
      have g1 := bg.c 1 rfl
      have g2 := bg.c 2 rfl
      have g3 := bg.c 3 rfl
      have g4 := bg.c 4 rfl
      have bc : Blk w6 pC 76 #[.slice As ns cs, .slice Am nm cm, .int .i64 xd, .int .i64 xu, .int .i64 yd, .int .i64 yu, .int .i64 0] := HM.out.get 1 rfl
      have ltc := bc.lt
      have c0 := bc.c 0 rfl
      have c1 := bc.c 1 rfl
      have c2 := bc.c 2 rfl
      have c3 := bc.c 3 rfl
      have c4 := bc.c 4 rfl
      have c5 := bc.c 5 rfl
      have c6 := bc.c 6 rfl
      go_wp2_with fail
      clear bg ltg g0 g1 g2 g3 g4 bc ltc c0 c1 c2 c3 c4 c5 c6
      obtain ⟨T1, hT1⟩ : ∃ T1 : List Th, [thK Try.prog 3 izL okI gm (setF ml) cq, .blk pC 76 #[.slice As ns cs, .slice Am nm cm, .int .i64 xd, .int .i64 xu, .int .i64 yd, .int .i64 yu, .int .i64 0], .blk pG 28 #[.int .i64 gx, .int .i64 gy, .int .i64 gs, .int .i64 (W : Nat), .int .i64 (H : Nat)]] = T1 := ⟨_, rfl⟩
      rw [hT1] at HM
      have HT1 := hide hT1
      clear hT1
      go_loopw [71] (fun u wr => ∃ k : Nat, k ≤ ns ∧ u = .int .i64 (k : Nat) ∧ Hid (Mem w T1 wr)) (fun u _ => ns - (intOf u).toNat)
      case atStart => exact ⟨0, Nat.zero_le _, rfl, HM⟩
      case round =>
        clear HM
        obtain ⟨k2, hkn2, rfl, HM⟩ := hrel
        rw [← HT1.out] at HM
        by_cases hlt : k2 < ns
        · have hlt2 : (k2 : Int) < ns := by omega
          have hrw := HRS.out wr HM.out.below
          obtain ⟨bs, curs, hAs, -, hbs, -, -, hcs⟩ := row_blk hrw (by omega)
          subst hAs
          obtain ⟨p, hp⟩ : ∃ x, sl[k2]? = some x := ⟨_, List.getElem?_eq_getElem (by rw [HNS.out]; exact hlt)⟩
          have hpm := HSM.out p (List.mem_of_getElem? hp)
          have hpN := HMN.out p hpm
          have hpf : (setF ml p).getD (.bool false) = .bool true := by unfold setF; rw [if_pos (iz_mem.2 hpm)]; rfl
          have hpo : okI (p : Int) := wfN (show p ≤ 1000000 by omega)
          have r0 := hbs.c k2 (hcs k2 (.int .i64 (p : Nat)) (by unfold numsV; rw [List.getElem?_map, hp]; rfl))
          have ltr := hbs.lt
          have hmk := HM.out.map_ 0 rfl
          have HPF := hide hpf
          have HMK := hide hmk
          have HPO := hide hpo
          clear hpf hmk hpo
          have bg : Blk wr pG 28 #[.int .i64 gx, .int .i64 gy, .int .i64 gs, .int .i64 (W : Nat), .int .i64 (H : Nat)] := HM.out.get 2 rfl
          have ltg := bg.lt
          have g0 := bg.c 0 rfl
          have g1 := bg.c 1 rfl
          have g2 := bg.c 2 rfl
          have g3 := bg.c 3 rfl
          have g4 := bg.c 4 rfl
          have bc : Blk wr pC 76 #[.slice (some ⟨bs, 0, none⟩) ns cs, .slice Am nm cm, .int .i64 xd, .int .i64 xu, .int .i64 yd, .int .i64 yu, .int .i64 0] := HM.out.get 1 rfl
          have ltc := bc.lt
          have c0 := bc.c 0 rfl
          have c1 := bc.c 1 rfl
          have c2 := bc.c 2 rfl
          have c3 := bc.c 3 rfl
          have c4 := bc.c 4 rfl
          have c5 := bc.c 5 rfl
          have c6 := bc.c 6 rfl
          rcases Nat.eq_zero_or_pos k2 with hk0 | hk0
          · subst hk0
            clear hrw hbs hcs hp hpm
            go_wp2_with (at_lookup; refine wpList_lookK _ rfl _ _ _ rfl 3 4 izKey Try.underlying85 (.bool false) (by kernel_rfl) gm cq (setF ml) rfl HMK.out (p : Int) rfl HPO.out (.bool true) HPF.out ?_)
            rw [HT1.out] at HM
            go_roundw
            case rel => exact ⟨1, hlt, by go_num, HM⟩
            case measure => simp [intOf] <;> omega
          · obtain ⟨m, hm⟩ : ∃ m, k2 = m + 1 := ⟨k2 - 1, by omega⟩
            obtain ⟨q, hq⟩ : ∃ x, sl[m]? = some x := ⟨_, List.getElem?_eq_getElem (by rw [HNS.out]; omega)⟩
            have hqp := rise_at HSR.out hq (by rw [← hm]; exact hp)
            have r1 := hbs.c m (hcs m (.int .i64 (q : Nat)) (by unfold numsV; rw [List.getElem?_map, hq]; rfl))
            have hk1 : (k2 : Int) - 1 = (m : Int) := by omega
            have hkp : (0 : Int) < k2 := by omega
            have hpq : ¬ (p : Int) ≤ q := by omega
            have hm2 : (m : Int) < ns := by omega
            clear hrw hbs hcs hp hpm hq hm hqp
            go_wp2_with (at_lookup; refine wpList_lookK _ rfl _ _ _ rfl 3 4 izKey Try.underlying85 (.bool false) (by kernel_rfl) gm cq (setF ml) rfl HMK.out (p : Int) rfl HPO.out (.bool true) HPF.out ?_)
            rw [HT1.out] at HM
            go_roundw
            case rel => exact ⟨k2 + 1, hlt, by go_num, HM⟩
            case measure => simp [intOf] <;> omega
        · obtain rfl : ns = k2 := by omega
          have hkk2 : ¬ ((ns : Int) < ns) := by omega
          go_wp2
          rw [← HPP.out]
          exact ⟨rfl, HM.out.below⟩
end Go.Proofs.Ytidbjidcjmbnlaa
end
