/-
  The law RainFits returns true: for every list of pairs and all numbers.
-/
import Derived.Test.YtmglgahagbfbkaaSuits
import Derived.Test.YtmglgahagbfbkaaAdjust
import Derived.Test.YtmglgahagbfbkaaWorks
import Derived.Test.YtmglgahagbfbkaaArr
import Derived.Test.YtmglgahagbfbkaaRegP
import Derived.Deep.Cut
import Derived.Deep.DeepCutAuto
namespace Go.Proofs.Ytmglgahagbfbkaa
open Go.RowKit

theorem eqArr (a b a' b' : Int) (w : World) : (Op.equalIn 10000 72 (.agg #[.int .i64 a, .int .i64 b]) (.agg #[.int .i64 a', .int .i64 b'])).run Try.prog w = .ok (a == a' && b == b') w :=
  run_equalIn_arr2 Try.underlying72 Try.underlying3 (by kernel_rfl) 9998 a b a' b' w
theorem pairInfoG : (Try.prog.info? 66).map (fun i => (i.zero, i.size, i.bytes)) = some (some (.agg #[.int .i64 0, .int .i64 0, .int .i64 0, .int .i64 0]), 4, 32) := by kernel_rfl

def FitsSaid (A : Option Addr) (n c : Nat) (sc out : Int) (w : World) : Prop :=
  Calls Try.prog 8 #[.slice A n c, .int .u32 sc, .int .u8 out] w fun e w' => e = .returned (.bool true) ∧ Below w.heap.size w w'

set_option maxRecDepth 100000 in
/-- An error that is none of these: nothing is asked. -/
theorem fits_other (A : Option Addr) (n c : Nat) (sc out er : Int) (w : World) (h20 : ¬ (20 : Int) < n) (e1 : er ≠ 0) (e2 : er ≠ 14)
    (hadj : Calls Try.prog 31 #[.slice A n c] w fun e w' => e = .returned (adjV (((0, 0), (0, 0)), er)) ∧ Below w.heap.size w w') : FitsSaid A n c sc out w := by
  unfold FitsSaid
  unfold adjV at hadj
  have b1 : (er == 14) = false := beq_eq_false_iff_ne.2 e2
  have b2 : (er != 0) = true := by simpa using e1
  go_enter Try.func8, Try.ntmps8
  have HB := hide (Below.refl w.heap.size w)
  go_wp2_with fail
  refine (hadj).mono ?_
  rintro e w1 ⟨rfl, hb⟩
  replace HB := hide (onward HB.out hb)
  clear hb
  clear hadj
  go_wp2_with fail
  refine at_world fun W hW => ?_
  have LW : Later w1 W := by rw [hW]; exact (((Below.refl _ _).alloc (Nat.le_refl _) _).alloc (by simp; try omega) _)
  have szW : W.heap.size = w1.heap.size + 2 := by rw [hW]; simp
  clear hW
  replace HB := hide (onward HB.out LW)
  clear LW szW
  refine (works_any _).mono ?_
  rintro e w2 ⟨rfl, hb⟩
  replace HB := hide (onward HB.out hb)
  clear hb
  go_wp2
  go_ret
  exact ⟨rfl, HB.out⟩

set_option maxHeartbeats 4000000 in
set_option maxRecDepth 100000 in
/-- Two pairs contradict each other. -/
theorem fits_conf (b off n c : Nat) (z : Nat → Int) (sc out : Int) (w : World) (h20 : ¬ (20 : Int) < n) (i j : Nat) (hij : i ≤ j) (hjn : j < n) (hs0 : 0 ≤ sc) (hs1 : sc ≤ 4294967295) (hb : b < w.heap.size)
    (hc : ∀ k, k < n → w.cell? ⟨b, off + k * 4, none⟩ = some (.int .i64 (z (k * 4))) ∧ w.cell? ⟨b, off + k * 4 + 1, none⟩ = some (.int .i64 (z (k * 4 + 1))) ∧ w.cell? ⟨b, off + k * 4 + 2, none⟩ = some (.int .i64 (z (k * 4 + 2))) ∧ w.cell? ⟨b, off + k * 4 + 3, none⟩ = some (.int .i64 (z (k * 4 + 3))))
    (oki : okZ z i = true) (okj : okZ z j = true) (hcf : conf (scZ z) i j = true) (hii : i < j → conf (scZ z) i i = false)
    (hadj : Calls Try.prog 31 #[.slice (some ⟨b, off, none⟩) n c] w fun e w' => e = .returned (adjV (((0, 0), ((i : Int), (j : Int))), 14)) ∧ Below w.heap.size w w') : FitsSaid (some ⟨b, off, none⟩) n c sc out w := by
  unfold FitsSaid
  unfold adjV at hadj
  simp only at hadj
  obtain ⟨p0, p1, p2, p3⟩ := hc i (by omega)
  obtain ⟨d0, d1, d2, d3⟩ := hc j hjn
  have Hp := hide (And.intro p0 (And.intro p1 (And.intro p2 p3)))
  have Hd := hide (And.intro d0 (And.intro d1 (And.intro d2 d3)))
  have hcs : ∀ f, 1 ≤ f → f ≤ 100000 → suitB (z (i * 4)) (z (i * 4 + 1)) (z (i * 4 + 2)) (z (i * 4 + 3)) f = true → suitB (z (j * 4)) (z (j * 4 + 1)) (z (j * 4 + 2)) (z (j * 4 + 3)) f = false := fun f h1 h2 h3 => conf_suit oki okj hcf h1 h2 h3
  have hsi : ∀ f W, 0 ≤ f → f ≤ 120000 → Calls Try.prog 33 #[.agg #[.int .i64 (z (i * 4)), .int .i64 (z (i * 4 + 1)), .int .i64 (z (i * 4 + 2)), .int .i64 (z (i * 4 + 3))], .int .i64 f] W fun e w' => e = .returned (.bool (suitB (z (i * 4)) (z (i * 4 + 1)) (z (i * 4 + 2)) (z (i * 4 + 3)) f)) ∧ Below W.heap.size W w' := fun f W h1 h2 => suits_any _ _ _ _ f W oki h1 h2
  have hsj : ∀ f W, 0 ≤ f → f ≤ 120000 → Calls Try.prog 33 #[.agg #[.int .i64 (z (j * 4)), .int .i64 (z (j * 4 + 1)), .int .i64 (z (j * 4 + 2)), .int .i64 (z (j * 4 + 3))], .int .i64 f] W fun e w' => e = .returned (.bool (suitB (z (j * 4)) (z (j * 4 + 1)) (z (j * 4 + 2)) (z (j * 4 + 3)) f)) ∧ Below W.heap.size W w' := fun f W h1 h2 => suits_any _ _ _ _ f W okj h1 h2
  have htwo : ∀ (l : List Int), l = [z (i * 4), z (i * 4 + 1), z (i * 4 + 2), z (i * 4 + 3), z (j * 4), z (j * 4 + 1), z (j * 4 + 2), z (j * 4 + 3)] → adjG (okZ fun q => l.getD q 0) (scZ fun q => l.getD q 0) 2 = (((0, 0), (0, if i < j then 1 else 0)), 14) := fun l hl => by
    subst hl
    refine adj_two oki okj hcf hii hij (fun q hq => ?_) (fun q hq => ?_)
    all_goals
      have : q = 0 ∨ q = 1 ∨ q = 2 ∨ q = 3 := by omega
      rcases this with rfl | rfl | rfl | rfl <;> rfl
  have Hcs := hide hcs
  have Hsi := hide hsi
  have Hsj := hide hsj
  have Htwo := hide htwo
  clear hcs hsi hsj htwo p0 p1 p2 p3 d0 d1 d2 d3 hc oki okj hcf hii
  generalize z (i * 4) = zi0 at *
  generalize z (i * 4 + 1) = zi1 at *
  generalize z (i * 4 + 2) = zi2 at *
  generalize z (i * 4 + 3) = zi3 at *
  generalize z (j * 4) = zj0 at *
  generalize z (j * 4 + 1) = zj1 at *
  generalize z (j * 4 + 2) = zj2 at *
  generalize z (j * 4 + 3) = zj3 at *
  have hin : i < n := by omega
  have t1 : decide ((i : Int) < 0) = false := decide_eq_false (by omega)
  have t2 : decide (j < i) = false := decide_eq_false (by omega)
  have t3 : decide (n ≤ j) = false := decide_eq_false (by omega)
  go_enter Try.func8, Try.ntmps8
  have HB := hide (Below.refl w.heap.size w)
  go_wp2_with fail
  refine (hadj).mono ?_
  rintro e w1 ⟨rfl, hb⟩
  replace HB := hide (onward HB.out hb)
  clear hb
  clear hadj
  go_wp2_with fail
  go_loopw [10] (fun kk wr => ∃ k : Nat, k ≤ 40 ∧ kk = .int .i64 k ∧ Below w.heap.size w wr ∧ Blk wr (w1.heap.size + 1) 72 #[.int .i64 (i : Int), .int .i64 (j : Int)])
    (fun kk _ => 40 - (intOf kk).toNat)
  case atStart =>
    have hs1 := HB.out.size
    exact ⟨0, by omega, rfl, (HB.out.alloc hs1 _).alloc (by simp; omega) _, blk_new_at (by simp)⟩
  case round =>
    obtain ⟨k, hk, rfl, hbw, hba⟩ := hrel
    have hs1 := HB.out.size
    clear HB
    generalize w1.heap.size + 1 = ga at *
    have hsw := hbw.size
    have hbr : b < wr.heap.size := by omega
    have HB := hide hbw
    have Hba := hide hba
    clear hbw hba
    obtain ⟨p0, p1, p2, p3⟩ := Hp.out
    obtain ⟨d0, d1, d2, d3⟩ := Hd.out
    rw [← HB.out.cell hb] at p0 p1 p2 p3 d0 d1 d2 d3
    obtain ⟨a0, a1⟩ := Hba.out.c2
    have lta := Hba.out.lt
    by_cases hlt : k < 40
    · have hf1 : 1 ≤ 1 + (sc + (k : Int) * 2503) % 100000 := by omega
      have hf2 : 1 + (sc + (k : Int) * 2503) % 100000 ≤ 100000 := by omega
      have hq := Hcs.out _ hf1 hf2
      have HSI := hide (Hsi.out (1 + (sc + (k : Int) * 2503) % 100000))
      have HSJ := hide (Hsj.out (1 + (sc + (k : Int) * 2503) % 100000))
      have hr0 : 0 ≤ (sc + (k : Int) * 2503) % 100000 := by omega
      have hr1 : (sc + (k : Int) * 2503) % 100000 < 100000 := by omega
      by_cases hsu : suitB zi0 zi1 zi2 zi3 (1 + (sc + (k : Int) * 2503) % 100000) = true
      · have hsj := hq hsu
        clear hq
        rw [hsu] at HSI
        rw [hsj] at HSJ
        clear hsu hsj d0 d1 d2 d3
        go_wp2_with fail
        refine (HSI.out _ (by omega) (by omega)).mono ?_
        rintro e w2 ⟨rfl, hb⟩
        replace HB := hide (onward HB.out hb)
        replace Hba := hide (blk_later Hba.out hb)
        clear hb a0 a1 lta
        clear p0 p1 p2 p3
        obtain ⟨d0, d1, d2, d3⟩ := Hd.out
        rw [← HB.out.cell hb] at d0 d1 d2 d3
        obtain ⟨a0, a1⟩ := Hba.out.c2
        have lta := Hba.out.lt
        go_wp2_with fail
        refine (HSJ.out _ (by omega) (by omega)).mono ?_
        rintro e w3 ⟨rfl, hb⟩
        replace HB := hide (onward HB.out hb)
        replace Hba := hide (blk_later Hba.out hb)
        clear hb a0 a1 lta
        clear d0 d1 d2 d3
        go_wp2
        go_roundw
        case rel => exact ⟨k + 1, by omega, by go_num, HB.out, Hba.out⟩
        case measure => simp [intOf] <;> omega
      · have hsf : suitB zi0 zi1 zi2 zi3 (1 + (sc + (k : Int) * 2503) % 100000) = false := by simpa using hsu
        clear hq hsu
        rw [hsf] at HSI
        clear hsf d0 d1 d2 d3
        go_wp2_with fail
        refine (HSI.out _ (by omega) (by omega)).mono ?_
        rintro e w2 ⟨rfl, hb⟩
        replace HB := hide (onward HB.out hb)
        replace Hba := hide (blk_later Hba.out hb)
        clear hb a0 a1 lta
        clear p0 p1 p2 p3
        go_wp2
        go_roundw
        case rel => exact ⟨k + 1, by omega, by go_num, HB.out, Hba.out⟩
        case measure => simp [intOf] <;> omega
    · have hk40 : k = 40 := by omega
      subst hk40
      clear hk hlt
      obtain ⟨q, hq⟩ : ∃ q : Int, q = if i < j then 1 else 0 := ⟨_, rfl⟩
      have htwo := Htwo.out _ rfl
      rw [← hq] at htwo
      have hqc : (i < j ∧ q = 1) ∨ (¬ i < j ∧ q = 0) := by
        by_cases h : i < j
        · left; rw [if_pos h] at hq; exact ⟨h, hq⟩
        · right; rw [if_neg h] at hq; exact ⟨h, hq⟩
      have Hadj := hide (fun (W : World) (A1 : Option Addr) (hI : Ints W W.heap.size .i64 A1 [zi0, zi1, zi2, zi3, zj0, zj1, zj2, zj3]) => Adjust_any A1 2 2 [zi0, zi1, zi2, zi3, zj0, zj1, zj2, zj3] W rfl (by decide) (by decide) (by decide) hI)
      have Htw := hide htwo
      have Hqc := hide hqc
      clear htwo hq hqc Htwo
      go_wp2_with fail
      apply wp_region_L (w0 := wr) [[], [], [], [], [], [], [], [], [], [], [], [10], [10, 11], [10, 11], [10, 11], [10, 11], [], [], [10, 11, 16, 17], [10, 11, 16, 17, 18], [10, 11, 16, 17, 18, 19]] [true, true, true, true, true, true, true, true, true, true, false, false, true, true, true, true, false, false, false, false, true] [⟨10, none, [], []⟩, ⟨11, none, [10], []⟩, ⟨16, none, [], []⟩, ⟨17, none, [], []⟩, ⟨18, some 16, [16], [16]⟩, ⟨19, some 17, [17], [17]⟩] (fun ixq y => match ixq with | 10 => .slice (y 0).1 2 2 | 11 => .tuple #[.agg #[.int .i64 0, .int .i64 0], .agg #[.int .i64 0, .int .i64 q], .int .i64 14] | 16 => .pointer (y 0).1 | 17 => .pointer (y 0).1 | 18 => undef | 19 => undef | _ => undef) (fun ixq x F wq => match ixq with | 10 => OwnF wq F wr.heap.size 66 4 (.slice (x 10 0).1 2 2) 2 #[.int .i64 zi0, .int .i64 zi1, .int .i64 zi2, .int .i64 zi3, .int .i64 zj0, .int .i64 zj1, .int .i64 zj2, .int .i64 zj3].toList | 11 => True | 16 => PtrF wq F wr.heap.size (x 16 0).1 24 #[.int .i64 0, .int .i64 0] | 17 => PtrF wq F wr.heap.size (x 17 0).1 72 #[.int .i64 0, .int .i64 0] | 18 => PtrF wq F wr.heap.size (x 16 0).1 24 #[.int .i64 0, .int .i64 0] | 19 => PtrF wq F wr.heap.size (x 17 0).1 72 #[.int .i64 0, .int .i64 q] | _ => True) (fun a x => ((((((a).put (some 90) (.slice ((x 10) 0).1 2 2)).put (some 91) (.tuple #[.agg #[.int .i64 0, .int .i64 0], .agg #[.int .i64 0, .int .i64 q], .int .i64 14])).put (some 12) (.pointer ((x 16) 0).1)).put (some 13) (.pointer ((x 17) 0).1)).put (none) (undef)).put (none) (undef)) (by kernel_rfl) (by kernel_rfl) (fun _ => rfl) [] (by kernel_rfl)
      · intro x D hD
        have hne := hD.some
        have k0 := liftB hD p0 (by first | assumption | omega)
        have k1 := liftB hD p1 (by first | assumption | omega)
        have k2 := liftB hD p2 (by first | assumption | omega)
        have k3 := liftB hD p3 (by first | assumption | omega)
        have l0 := liftB hD d0 (by first | assumption | omega)
        have l1 := liftB hD d1 (by first | assumption | omega)
        have l2 := liftB hD d2 (by first | assumption | omega)
        have l3 := liftB hD d3 (by first | assumption | omega)
        have m0 := liftB hD a0 (by first | assumption | omega)
        have m1 := liftB hD a1 (by first | assumption | omega)
        simp only [takeOps, Act.put, List.setIfInBounds_toArray, List.set_cons_succ, List.set_cons_zero]
        repeat (go_big_quiet_step (fail))
        exact wpQuiet_nil rfl
      · exact fun _ h => absurd h (by simp)
      · refine ⟨?_, ?_, ?_, ?_, ?_, ?_, trivial⟩
        · exact obl_new rfl (fun _ => by kernel_rfl) 66 (fun x => #[.int .i64 zi0, .int .i64 zi1, .int .i64 zi2, .int .i64 zi3, .int .i64 zj0, .int .i64 zj1, .int .i64 zj2, .int .i64 zj3]) gP (fun x w => by kernel_rfl) (fun x w hle => own_new hle rfl (by unfold maxLen; omega))
        · refine obl_callL rfl (fun _ => by kernel_rfl) 31 (fun x => #[.slice (x 10 0).1 2 2]) (fun x w => by kernel_rfl) ?_
          intro x w F hL hN
          have n10 := hN 10 (by simp)
          refine calls_one (y := fun _ => (none, 0)) (Hadj.out w _ (Ints.own (zs := [zi0, zi1, zi2, zi3, zj0, zj1, zj2, zj3]) (own_mono n10.1 (Nat.le_refl _)) rfl (Nat.le_refl _))) ?_ (fun _ => trivial)
          rw [Htw.out]; rfl
        · exact obl_alloc 24 12 (.agg #[.int .i64 0, .int .i64 0]) (by kernel_rfl) (by kernel_rfl) (fun _ => rfl) (fun _ _ _ h => h)
        · exact obl_alloc 72 13 (.agg #[.int .i64 0, .int .i64 0]) (by kernel_rfl) (by kernel_rfl) (fun _ => rfl) (fun _ _ _ h => h)
        · refine obl_store 24 12 92 16 #[.int .i64 0, .int .i64 0] (fun x => #[.int .i64 0, .int .i64 0]) (by kernel_rfl) rfl (by simp) (fun _ _ _ h => h) (fun _ => rfl) (fun _ => rfl) (fun _ => by kernel_rfl) (fun _ => rfl) (fun _ => by simp [Value.oneCell']) (fun _ => rfl) (by decide) (fun _ _ _ _ h => h)
        · refine obl_store 72 13 93 17 #[.int .i64 0, .int .i64 0] (fun x => #[.int .i64 0, .int .i64 q]) (by kernel_rfl) rfl (by simp) (fun _ _ _ h => h) (fun _ => rfl) (fun _ => rfl) (fun _ => by kernel_rfl) (fun _ => rfl) (fun _ => by simp [Value.oneCell']) (fun _ => rfl) (by decide) (fun _ _ _ _ h => h)
      · refine ⟨?_, ?_, ?_, ?_, ?_, ?_, trivial⟩
        · refine ⟨fun x F wq wq' h hs hk => ?_, fun x x' F wq hx h => ?_⟩
          · have h2 : OwnF wq F wr.heap.size 66 4 (.slice (x 10 0).1 2 2) 2 #[.int .i64 zi0, .int .i64 zi1, .int .i64 zi2, .int .i64 zi3, .int .i64 zj0, .int .i64 zj1, .int .i64 zj2, .int .i64 zj3].toList := h
            exact h2.stab hk
          · have h2 : OwnF wq F wr.heap.size 66 4 (.slice (x 10 0).1 2 2) 2 #[.int .i64 zi0, .int .i64 zi1, .int .i64 zi2, .int .i64 zi3, .int .i64 zj0, .int .i64 zj1, .int .i64 zj2, .int .i64 zj3].toList := h
            rw [hx 10 (by simp)] at h2
            exact h2
        · exact owe_true (fun _ _ _ => trivial)
        · exact owe_ptr 16 _ _ (fun x => #[.int .i64 0, .int .i64 0]) (fun _ _ _ => rfl) (by simp) (fun _ _ _ => rfl)
        · exact owe_ptr 17 _ _ (fun x => #[.int .i64 0, .int .i64 0]) (fun _ _ _ => rfl) (by simp) (fun _ _ _ => rfl)
        · exact owe_ptr 16 _ _ (fun x => #[.int .i64 0, .int .i64 0]) (fun _ _ _ => rfl) (by simp) (fun _ _ _ => rfl)
        · exact owe_ptr 17 _ _ (fun x => #[.int .i64 0, .int .i64 q]) (fun _ _ _ => rfl) (by simp) (fun _ _ _ => rfl)
      intro xx w3 F hL3 hlv1
      obtain ⟨fct10, fct11, -, -, fct18, fct19, -⟩ := hlv1
      replace fct10 : OwnF w3 (F 10) wr.heap.size 66 4 (.slice (xx 10 0).1 2 2) 2 #[.int .i64 zi0, .int .i64 zi1, .int .i64 zi2, .int .i64 zi3, .int .i64 zj0, .int .i64 zj1, .int .i64 zj2, .int .i64 zj3].toList := fct10 rfl
      clear fct11
      replace fct18 : PtrF w3 (F 18) wr.heap.size (xx 16 0).1 24 #[.int .i64 0, .int .i64 0] := fct18 rfl
      replace fct19 : PtrF w3 (F 19) wr.heap.size (xx 17 0).1 72 #[.int .i64 0, .int .i64 q] := fct19 rfl
      clear p0 p1 p2 p3 d0 d1 d2 d3 fct18
      obtain ⟨g, hgx, hge, -, hbg⟩ := fct19
      rw [hgx]
      clear hgx
      replace HB := hide (onward HB.out hL3)
      replace Hba := hide (blk_later Hba.out hL3)
      clear hL3 a0 a1 lta
      have Hbg := hide hbg
      clear hbg
      obtain ⟨a0, a1⟩ := Hba.out.c2
      have lta := Hba.out.lt
      obtain ⟨y0, y1⟩ := Hbg.out.c2
      have lty := Hbg.out.lt
      rcases Hqc.out with ⟨hlt, rfl⟩ | ⟨hnl, rfl⟩
      · have heq := eqArr 0 1 0 1
        go_wp2_with fail
        refine (works_any _).mono ?_
        rintro e w4 ⟨rfl, hb⟩
        replace HB := hide (onward HB.out hb)
        replace Hba := hide (blk_later Hba.out hb)
        replace Hbg := hide (blk_later Hbg.out hb)
        clear hb a0 a1 lta y0 y1 lty
        go_wp2
        go_ret
        exact ⟨rfl, HB.out⟩
      · obtain rfl : i = j := by omega
        have heq := eqArr 0 0 0 1
        have heq2 := eqArr 0 0 0 0
        go_wp2_with fail
        refine (works_any _).mono ?_
        rintro e w4 ⟨rfl, hb⟩
        replace HB := hide (onward HB.out hb)
        replace Hba := hide (blk_later Hba.out hb)
        replace Hbg := hide (blk_later Hbg.out hb)
        clear hb a0 a1 lta y0 y1 lty
        go_wp2
        go_ret
        exact ⟨rfl, HB.out⟩

end Go.Proofs.Ytmglgahagbfbkaa
