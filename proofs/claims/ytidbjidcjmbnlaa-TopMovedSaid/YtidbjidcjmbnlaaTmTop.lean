/-
  A field that contradicts no states.
  Rain that moves evenly contradicts no forecast: the law's walk.
-/
import Derived.Test.YtidbjidcjmbnlaaTmCld
import Derived.Test.YtidbjidcjmbnlaaTmHull
import Derived.Test.YtidbjidcjmbnlaaTmWk
set_option linter.unusedSimpArgs false
set_option linter.unusedVariables false
section
namespace Go.Proofs.Ytidbjidcjmbnlaa
open Go Go.RowKit
attribute [local go_sem] Oper.semAt_some

set_option maxHeartbeats 4000000 in
set_option maxRecDepth 100000 in
theorem Held_ok (gx gy gs : Int) (W H n base cs c : Nat) (As A : Option Addr) (lev : Int) (sts : List Nat) (l : List (Int × Int)) (w : World) (hn : l.length = n) (hns : sts.length = n) (hmax : n ≤ 1000000) (hv : 1 ≤ lev ∧ lev ≤ 1073741824) (he : fieldE (gridE gx gy gs W H) n W H l 1073741824 = 0)
    (hs : w.ownsRow base 3 1 (.slice As n cs) n (numsV sts)) (hl : w.ownsRow base 60 2 (.slice A n c) n ((flat2 l).map (Value.int .i64))) (h2 : ∀ (p x : Nat) (y : Int × Int), sts[p]? = some x → l[p]? = some y → x ≤ 2 ∧ (x = 2 → lev ≤ y.2) ∧ (x = 0 → y.1 < lev)) :
    Calls Try.prog 8 #[.slice As n cs, .agg #[.int .i64 gx, .int .i64 gy, .int .i64 gs, .int .i64 (W : Nat), .int .i64 (H : Nat), .slice A n c], .int .i64 lev] w fun e w' => e = .returned (.tuple #[.slice none 0 0, .int .i64 0]) ∧ Below w.heap.size w w' := by
  obtain ⟨PP, hPP⟩ : ∃ PP : Ending → World → Prop, (fun e w' => e = .returned (.tuple #[.slice none 0 0, .int .i64 0]) ∧ Below w.heap.size w w') = PP := ⟨_, rfl⟩
  rw [hPP]
  have hrs := fun V (hB : Below w.heap.size w V) => own_belowT hs hB
  have hrl := fun V (hB : Below w.heap.size w V) => own_belowT hl hB
  have hcf := fun V (hB : Below w.heap.size w V) => CheckField_any gx gy gs W H A n c l V hn (by omega) (Ints.own (own_belowT hl hB) rfl (Nat.le_refl _))
  rw [he] at hcf
  unfold fieldV at hcf
  have hw := fun V => cwithin_any lev 1 1073741824 V
  simp only [winB_ok hv.1 hv.2] at hw
  have HRS := hide hrs
  have HRL := hide hrl
  have HCF := hide hcf
  have HWI := hide hw
  have HPP := hide hPP
  have HN := hide hn
  have HNS := hide hns
  have H2 := hide h2
  clear hrs hrl hcf hw hPP hn hns h2
  clear hs hl he hv
  go_enter Try.func8, Try.ntmps8
  have HM := hide (Mem.start w)
  go_upto_region 1 with fail
  refine code_world fun W1 hW => ?_
  have HMn := Mem.to (Mem.allocAt HM.out w.heap.size rfl #[.int .i64 gx, .int .i64 gy, .int .i64 gs, .int .i64 (W : Nat), .int .i64 (H : Nat), .slice A n c] 41) hW
  have LW : Later w W1 := by rw [hW]; exact ((Below.refl _ _).alloc (Nat.le_refl _) _)
  have szW : W1.heap.size = w.heap.size + 1 := by rw [hW]; simp
  clear hW
  replace HM := hide HMn
  clear HMn LW
  clear szW
  obtain ⟨pF, hpF⟩ : ∃ q, w.heap.size = q := ⟨_, rfl⟩
  rw [hpF] at HM
  simp only [hpF]
  clear hpF
  have bf : Blk W1 pF 41 #[.int .i64 gx, .int .i64 gy, .int .i64 gs, .int .i64 (W : Nat), .int .i64 (H : Nat), .slice A n c] := HM.out.get 0 rfl
  have ltf := bf.lt
  have f0 := bf.c 0 rfl
  have f1 := bf.c 1 rfl
  have f2 := bf.c 2 rfl
  have f3 := bf.c 3 rfl
  have f4 := bf.c 4 rfl
  have f5 := bf.c 5 rfl
  go_wp2_with fail
  refine (HCF.out _ HM.out.below).mono ?_
  rintro e w2 ⟨rfl, hb⟩
  replace HM := hide (HM.out.later hb)
  clear hb bf ltf f0 f1 f2 f3 f4 f5
  have bf : Blk w2 pF 41 #[.int .i64 gx, .int .i64 gy, .int .i64 gs, .int .i64 (W : Nat), .int .i64 (H : Nat), .slice A n c] := HM.out.get 0 rfl
  have ltf := bf.lt
  have f0 := bf.c 0 rfl
  have f1 := bf.c 1 rfl
  have f2 := bf.c 2 rfl
  have f3 := bf.c 3 rfl
  have f4 := bf.c 4 rfl
  have f5 := bf.c 5 rfl
  go_wp2_with fail
  refine (HWI.out _).mono ?_
  rintro e w3 ⟨rfl, rfl⟩
  go_wp2_with fail
  clear bf ltf f0 f1 f2 f3 f4 f5
  go_loopw [9, 30] (fun v u wr => ∃ k : Nat, k ≤ n ∧ v = .slice none 0 0 ∧ u = .int .i64 (k : Nat) ∧ Hid (Mem w [.blk pF 41 #[.int .i64 gx, .int .i64 gy, .int .i64 gs, .int .i64 (W : Nat), .int .i64 (H : Nat), .slice A n c]] wr)) (fun _ u _ => n - (intOf u).toNat)
  case atStart => exact ⟨0, Nat.zero_le _, rfl, rfl, HM⟩
  case round =>
    clear HM
    obtain ⟨k, hkn, rfl, rfl, HM⟩ := hrel
    by_cases hlt : k < n
    · have hlt2 : (k : Int) < n := by omega
      obtain ⟨x, hx⟩ : ∃ x, sts[k]? = some x := ⟨_, List.getElem?_eq_getElem (by rw [HNS.out]; exact hlt)⟩
      obtain ⟨y, hy⟩ : ∃ x, l[k]? = some x := ⟨_, List.getElem?_eq_getElem (by rw [HN.out]; exact hlt)⟩
      obtain ⟨hx2, hsure, hclear⟩ := H2.out k x y hx hy
      obtain ⟨bs, curs, hAs, -, hbs, -, -, hcs⟩ := row_blk (HRS.out wr HM.out.below) (by omega)
      obtain ⟨bl, curl, hA, -, hbl, -, -, hcl⟩ := row_blk (HRL.out wr HM.out.below) (by omega)
      subst hAs hA
      have r0 := hbs.c k (hcs k (.int .i64 (x : Nat)) (by unfold numsV; rw [List.getElem?_map, hx]; rfl))
      have ltr := hbs.lt
      have v0 := hbl.c (k * 2) (hcl _ _ (flat2_at hy).1)
      have v1 := hbl.c (k * 2 + 1) (hcl _ _ (flat2_at hy).2)
      have ltl := hbl.lt
      obtain ⟨ya, yb⟩ := y
      dsimp only at v0 v1 hsure hclear
      clear hbs hcs hbl hcl hx hy
      have bf : Blk wr pF 41 #[.int .i64 gx, .int .i64 gy, .int .i64 gs, .int .i64 (W : Nat), .int .i64 (H : Nat), .slice (some ⟨bl, 0, none⟩) n c] := HM.out.get 0 rfl
      have ltf := bf.lt
      have f0 := bf.c 0 rfl
      have f1 := bf.c 1 rfl
      have f2 := bf.c 2 rfl
      have f3 := bf.c 3 rfl
      have f4 := bf.c 4 rfl
      have f5 := bf.c 5 rfl
      obtain rfl | rfl | rfl : x = 0 ∨ x = 1 ∨ x = 2 := by omega
      · have hc1 : ya < lev := hclear rfl
        have hc2 : ¬ lev ≤ ya := by omega
        clear hsure hclear
        go_wp2_with fail
        go_roundw
        case rel => exact ⟨k + 1, hlt, rfl, by go_num, HM⟩
        case measure => simp [intOf] <;> omega
      · clear hsure hclear
        go_wp2_with fail
        go_roundw
        case rel => exact ⟨k + 1, hlt, rfl, by go_num, HM⟩
        case measure => simp [intOf] <;> omega
      · have hc1 : lev ≤ yb := hsure rfl
        have hc2 : ¬ yb < lev := by omega
        clear hsure hclear
        go_wp2_with fail
        go_roundw
        case rel => exact ⟨k + 1, hlt, rfl, by go_num, HM⟩
        case measure => simp [intOf] <;> omega
    · obtain rfl : n = k := by omega
      have hkk : ¬ ((n : Int) < n) := by omega
      go_wp2
      rw [← HPP.out]
      exact ⟨rfl, HM.out.below⟩
end Go.Proofs.Ytidbjidcjmbnlaa
end
section
namespace Go.Proofs.Ytidbjidcjmbnlaa
open Go Go.RowKit
attribute [local go_sem] Oper.semAt_some

set_option maxHeartbeats 4000000 in
set_option maxRecDepth 100000 in
theorem TopMoved_any (wd hg nA cA xb yb nD cD sec W H N : Nat) (A D : Option Addr) (T : Int) (inl : List Bool) (dl : List Nat) (M : Mvd) (w : World) (hwd : wd < 256) (hhg : hg < 256) (hsec : sec < 65536) (hWe : 1 + wd % 8 = W) (hHe : 1 + hg % 8 = H) (hN : W * H = N) (hT : ((100 + sec % 500 : Nat) : Int) = T) (hxb : xb < 256) (hyb : yb < 256) (hM0 : mvdOf W H xb yb inl = M) (hnA : inl.length = nA) (hA64 : nA ≤ 9223372036854775807) (hnD : dl.length = nD) (hD64 : nD ≤ 9223372036854775807) (hI : Bools w w.heap.size A inl) (hDl : Ints w w.heap.size .u8 D (dl.map fun x : Nat => (x : Int))) (hd8 : ∀ x ∈ dl, x < 256) :
    Calls Try.prog 3 #[.agg (movedC wd hg A nA cA xb yb D nD cD sec)] w fun e w' => e = .returned (.bool true) ∧ Below w.heap.size w w' := by
  obtain ⟨PP, hPP⟩ : ∃ PP : Ending → World → Prop, (fun e w' => e = .returned (.bool true) ∧ Below w.heap.size w w') = PP := ⟨_, rfl⟩
  rw [hPP]
  have hW : 1 ≤ W := by omega
  have hH : 1 ≤ H := by omega
  have hW8 : W ≤ 8 := by omega
  have hH8 : H ≤ 8 := by omega
  have hN64 : N ≤ 64 := by rw [← hN]; exact Nat.mul_le_mul hW8 hH8
  have hNI : (W : Int) * (H : Int) = N := by rw [← hN]; push_cast; rfl
  have hT1 : 100 ≤ T ∧ T ≤ 599 := by omega
  have hIV := fun V (hB : Below w.heap.size w V) => hI.later hB
  have hDV := fun V (hB : Below w.heap.size w V) => (hDl.below hB).more hB.size
  have hcl := fun V (hB : Below w.heap.size w V) => movedClouds_any wd hg nA cA xb yb nD cD sec W H N A D T inl dl M V hwd hhg hsec hWe hHe hN hT hxb hyb hM0 hnA hA64 hnD hD64 (hIV V hB) (hDV V hB) hd8
  have hmp := fun V (hB : Below w.heap.size w V) => movedMap_any wd hg nA cA xb yb nD cD sec W H N 2 A D inl dl V hwd hhg hWe hHe hN (by omega) hxb hyb hnA hA64 hnD hD64 (hIV V hB) (hDV V hB) hd8
  have hmi := fun V (hB : Below w.heap.size w V) p (hp : p < N) => movedIn_any wd hg nA cA xb yb nD cD sec W H p 2 A D 0 0 1000 inl V hW hH hW8 hH8 (by rw [hN]; exact hp) (by omega) hxb hyb hnA hA64 (hIV V hB)
  rw [hM0] at hmp hmi
  have hmg := fun V => movedGrid_any wd hg nA cA xb yb nD cD sec A D V hwd hhg
  rw [hWe, hHe] at hmg
  have hsc := fun V => movedSeconds_any wd hg nA cA xb yb nD cD sec A D V hsec
  rw [hT] at hsc
  have hge : gridE 0 0 1000 W H = 0 := by
    unfold gridE winB
    rw [if_pos]
    simp
    omega
  have hfe : fieldE (gridE 0 0 1000 W H) (N : Nat) W H (knownL M dl 2 (2 * W * H) N) 1073741824 = 0 := by
    rw [← hN]
    exact known_field M dl 2 (2 * W * H) W H hW hH hW8 hH8
  have hMW : M.W = W := by rw [← hM0]; rfl
  have hMH : M.H = H := by rw [← hM0]; rfl
  have hfo : FieldOk M 1 (mayB (knownL M dl 1 (1 * W * H) N) 5) (inB (knownL M dl 1 (1 * W * H) N) 5) := by
    have := known_ok M dl 1 (1 * W * H)
    rw [hMW, hMH, hN] at this
    exact this
  have hn2 := knownL_len (M := M) (dl := dl) (n := 2) (b := 2 * W * H) (k := N)
  have ez2 : ((2 : Nat) : Int) = 2 := rfl
  rw [ez2] at hmp hmi
  clear ez2
  unfold MapPost at hmp
  unfold movedC at hcl hmp hmi hmg hsc ⊢
  have hwk := movedWorks_ok
  have HCL := hide hcl
  have HMP := hide hmp
  have HMI := hide hmi
  have HMG := hide hmg
  have HSC := hide hsc
  have HWK := hide hwk
  have HFE := hide hfe
  have HFO := hide hfo
  have HN2 := hide hn2
  have HPP := hide hPP
  have HNN := hide hN
  have HMW := hide hMW
  have HMH := hide hMH
  clear hcl hmp hmi hmg hsc hwk hfe hfo hn2 hPP hN hMW hMH
  clear hI hDl hnA hnD hd8 hM0 hWe hHe hwd hhg hIV hDV
  go_enter Try.func3, Try.ntmps3
  have HM := hide (Mem.start w)
  go_upto_region 1 with fail
  refine code_world fun W1 hW => ?_
  have HMn := Mem.to (Mem.allocAt HM.out w.heap.size rfl #[.int .u8 (wd : Nat), .int .u8 (hg : Nat), .slice A nA cA, .int .u8 (xb : Nat), .int .u8 (yb : Nat), .slice D nD cD, .int .u16 (sec : Nat)] 26) hW
  have LW : Later w W1 := by rw [hW]; exact ((Below.refl _ _).alloc (Nat.le_refl _) _)
  have szW : W1.heap.size = w.heap.size + 1 := by rw [hW]; simp
  clear hW
  replace HM := hide HMn
  clear HMn LW
  clear szW
  obtain ⟨pX, hpX⟩ : ∃ q, w.heap.size = q := ⟨_, rfl⟩
  rw [hpX] at HM
  simp only [hpX]
  clear hpX
  have ba : Blk W1 pX 26 #[.int .u8 (wd : Nat), .int .u8 (hg : Nat), .slice A nA cA, .int .u8 (xb : Nat), .int .u8 (yb : Nat), .slice D nD cD, .int .u16 (sec : Nat)] := HM.out.get 0 rfl
  have lta := ba.lt
  have a0 := ba.c 0 rfl
  have a1 := ba.c 1 rfl
  have a2 := ba.c 2 rfl
  have a3 := ba.c 3 rfl
  have a4 := ba.c 4 rfl
  have a5 := ba.c 5 rfl
  have a6 := ba.c 6 rfl
  go_wp2_with fail
  refine (HMG.out _).mono ?_
  rintro e w2 ⟨rfl, hb⟩
  replace HM := hide (HM.out.later hb)
  clear hb ba lta a0 a1 a2 a3 a4 a5 a6
  go_upto_region 2 with fail
  refine code_world fun W3 hW => ?_
  have HMn := Mem.to (Mem.allocAt HM.out w2.heap.size rfl #[.int .i64 0, .int .i64 0, .int .i64 1000, .int .i64 (W : Nat), .int .i64 (H : Nat)] 28) hW
  have LW : Later w2 W3 := by rw [hW]; exact ((Below.refl _ _).alloc (Nat.le_refl _) _)
  have szW : W3.heap.size = w2.heap.size + 1 := by rw [hW]; simp
  clear hW
  replace HM := hide HMn
  clear HMn LW
  clear szW
  obtain ⟨pG, hpG⟩ : ∃ q, w2.heap.size = q := ⟨_, rfl⟩
  rw [hpG] at HM
  simp only [hpG]
  clear hpG
  have ba : Blk W3 pX 26 #[.int .u8 (wd : Nat), .int .u8 (hg : Nat), .slice A nA cA, .int .u8 (xb : Nat), .int .u8 (yb : Nat), .slice D nD cD, .int .u16 (sec : Nat)] := HM.out.get 1 rfl
  have lta := ba.lt
  have a0 := ba.c 0 rfl
  have a1 := ba.c 1 rfl
  have a2 := ba.c 2 rfl
  have a3 := ba.c 3 rfl
  have a4 := ba.c 4 rfl
  have a5 := ba.c 5 rfl
  have a6 := ba.c 6 rfl
  go_wp2_with fail
  refine (HCL.out W3 HM.out.below).mono ?_
  rintro e w4 ⟨v, L, s, rfl, hok, hL, hG, hA, hr, hb⟩
  have hK64 : s.K ≤ 64 := by have := hok.le; rw [HMW.out, HMH.out, HNN.out] at this; omega
  have hmay := fun p (hp : p < N) => top_may (p := p) (by rw [HMW.out, HMH.out]; exact HNN.out) (by omega) HFO.out hok hL hG hp
  have hsure := fun p (hp : p < N) => top_sure (p := p) (by rw [HMW.out, HMH.out]; exact HNN.out) (by omega) HFO.out hok hL hG hp
  rw [HMW.out, HMH.out] at hmay hsure
  have hoks : ∀ c ∈ L, c.Ok N := fun c hc => by
    obtain ⟨i, hi⟩ := List.mem_iff_getElem?.1 hc
    exact (hG i c hi).1
  obtain ⟨Ac, cc, rfl⟩ := own_shape2 hr
  have hat : ∀ V, Below w4.heap.size w4 V → Calls Try.prog 6 #[.agg #[.int .i64 0, .int .i64 0, .int .i64 1000, .int .i64 (W : Nat), .int .i64 (H : Nat)], .slice Ac s.K cc, .int .i64 T] V (AtPost ((List.range N).map (stA W H T L)) N V) := fun V hB =>
    At_ok 0 0 1000 W H N W3.heap.size s.K cc Ac T L V hW hH hW8 hH8 HNN.out hge (by omega) hL hK64 (own_belowT hr hB) hoks (fun x hx => (hA x hx).later hB)
  have hle : ∀ p, stA W H T L p ≤ 2 := fun p => stA_le
  obtain ⟨st, hst⟩ : ∃ st, stA W H T L = st := ⟨_, rfl⟩
  rw [hst] at hat hmay hsure hle
  unfold AtPost at hat
  replace HM := hide (HM.out.later hb)
  have HMAY := hide hmay
  have HSURE := hide hsure
  have HAT := hide hat
  have HLE := hide hle
  clear hmay hsure hat hle
  clear hok hL hG hA hr hb hoks hst hK64 HCL HFO a0 a1 a2 a3 a4 a5 a6 lta ba
  have ba : Blk w4 pX 26 #[.int .u8 (wd : Nat), .int .u8 (hg : Nat), .slice A nA cA, .int .u8 (xb : Nat), .int .u8 (yb : Nat), .slice D nD cD, .int .u16 (sec : Nat)] := HM.out.get 1 rfl
  have lta := ba.lt
  have a0 := ba.c 0 rfl
  have a1 := ba.c 1 rfl
  have a2 := ba.c 2 rfl
  have a3 := ba.c 3 rfl
  have a4 := ba.c 4 rfl
  have a5 := ba.c 5 rfl
  have a6 := ba.c 6 rfl
  have bg : Blk w4 pG 28 #[.int .i64 0, .int .i64 0, .int .i64 1000, .int .i64 (W : Nat), .int .i64 (H : Nat)] := HM.out.get 0 rfl
  have ltg := bg.lt
  have g0 := bg.c 0 rfl
  have g1 := bg.c 1 rfl
  have g2 := bg.c 2 rfl
  have g3 := bg.c 3 rfl
  have g4 := bg.c 4 rfl
  go_wp2_with fail
  apply wp_region_L (w0 := w4) [[], [], [], [], [], [4], [4], [4], [4], [4]] [true, true, true, true, false, true, true, true, true, true] [⟨4, none, [], []⟩] (fun ixq y => match ixq with | 4 => .tuple #[.slice (y 0).1 N (y 0).2, .int .i64 0] | _ => undef) (fun ixq x F wq => match ixq with | 4 => OwnF wq F w4.heap.size 3 1 (.slice (x 4 0).1 N (x 4 0).2) N (numsV ((List.range N).map st)) | _ => True) (fun a x => (a).put (some 25) (.tuple #[.slice ((x 4) 0).1 N ((x 4) 0).2, .int .i64 0])) (by kernel_rfl) (by kernel_rfl) (fun x => putH_step (some 25) (.tuple #[.slice ((x 4) 0).1 N ((x 4) 0).2, .int .i64 0]) rfl rfl <| putH_end) [24] (by kernel_rfl)
  · intro x D hD
    have hne := hD.some
    have k0 := liftB hD a0 (by first | assumption | omega)
    have k1 := liftB hD a1 (by first | assumption | omega)
    have k2 := liftB hD a2 (by first | assumption | omega)
    have k3 := liftB hD a3 (by first | assumption | omega)
    have k4 := liftB hD a4 (by first | assumption | omega)
    have k5 := liftB hD a5 (by first | assumption | omega)
    have k6 := liftB hD a6 (by first | assumption | omega)
    have k7 := liftB hD g0 (by first | assumption | omega)
    have k8 := liftB hD g1 (by first | assumption | omega)
    have k9 := liftB hD g2 (by first | assumption | omega)
    have k10 := liftB hD g3 (by first | assumption | omega)
    have k11 := liftB hD g4 (by first | assumption | omega)
    simp only [takeOps, Act.put, List.setIfInBounds_toArray, List.set_cons_succ, List.set_cons_zero]
    repeat (go_big_quiet_step ((go_at_call 7; with_reducible exact calls_later hD _ (HSC.out _))))
    exact wpQuiet_nil rfl
  · intro d hd x x'
    simp only [List.mem_cons, List.not_mem_nil, or_false] at hd
    rcases hd with rfl
    all_goals rfl
  · refine ⟨?_, trivial⟩
    · refine obl_callL rfl (fun _ => by kernel_rfl) 6 (fun x => #[.agg #[.int .i64 0, .int .i64 0, .int .i64 1000, .int .i64 (W : Nat), .int .i64 (H : Nat)], .slice Ac s.K cc, .int .i64 T]) (fun x w => by kernel_rfl) ?_
      intro x w F hL hN
      refine (HAT.out w hL).mono ?_
      rintro e w' ⟨v9, rfl, hm9⟩
      have hown := hm9.row_ 0 rfl
      obtain ⟨A9, c9, rfl⟩ := own_shape2 hown
      exact ⟨fun _ => (A9, c9), rfl, hm9.below, own_mono hown hL.size, fun g hg => hown.lt g hg⟩
  · refine ⟨?_, trivial⟩
    · refine ⟨fun x F wq wq' h hs hk => ?_, fun x x' F wq hx h => ?_⟩
      · have h2 : OwnF wq F w4.heap.size 3 1 (.slice (x 4 0).1 N (x 4 0).2) N (numsV ((List.range N).map st)) := h
        exact h2.stab hk
      · have h2 : OwnF wq F w4.heap.size 3 1 (.slice (x 4 0).1 N (x 4 0).2) N (numsV ((List.range N).map st)) := h
        rw [hx 4 (by simp)] at h2
        exact h2
  intro xx w5 F hL hlv1
  obtain ⟨fct4, -⟩ := hlv1
  replace fct4 : OwnF w5 (F 4) w4.heap.size 3 1 (.slice (xx 4 0).1 N (xx 4 0).2) N (numsV ((List.range N).map st)) := fct4 rfl
  generalize (xx 4 0).1 = As at *
  generalize (xx 4 0).2 = cs at *
  have hro := own_mono fct4.1 HM.out.size
  replace HM := hide (HM.out.later hL)
  clear fct4 hL HAT a0 a1 a2 a3 a4 a5 a6 lta ba g0 g1 g2 g3 g4 ltg bg
  have bg : Blk w5 pG 28 #[.int .i64 0, .int .i64 0, .int .i64 1000, .int .i64 (W : Nat), .int .i64 (H : Nat)] := HM.out.get 0 rfl
  have ltg := bg.lt
  have g0 := bg.c 0 rfl
  have g1 := bg.c 1 rfl
  have g2 := bg.c 2 rfl
  have g3 := bg.c 3 rfl
  have g4 := bg.c 4 rfl
  have ba : Blk w5 pX 26 #[.int .u8 (wd : Nat), .int .u8 (hg : Nat), .slice A nA cA, .int .u8 (xb : Nat), .int .u8 (yb : Nat), .slice D nD cD, .int .u16 (sec : Nat)] := HM.out.get 1 rfl
  have lta := ba.lt
  have a0 := ba.c 0 rfl
  have a1 := ba.c 1 rfl
  have a2 := ba.c 2 rfl
  have a3 := ba.c 3 rfl
  have a4 := ba.c 4 rfl
  have a5 := ba.c 5 rfl
  have a6 := ba.c 6 rfl
  go_wp2_with fail
  refine (HMP.out w5 HM.out.below).mono ?_
  rintro e w6 ⟨A6, c6, rfl, hm6⟩
  have hro6 := own_belowT hro hm6.below
  have hrl6 := own_mono (hm6.row_ 0 rfl) HM.out.size
  replace HM := hide (HM.out.later hm6.below)
  have hhd := Held_ok 0 0 1000 W H N w.heap.size cs c6 As A6 5 ((List.range N).map st) (knownL M dl 2 (2 * W * H) N) w6 HN2.out (by simp) (by omega) (by decide) HFE.out hro6 hrl6 (top_held HMAY.out HSURE.out HLE.out)
  have HHD := hide hhd
  clear hhd
  clear hm6 hrl6 hro HMP g0 g1 g2 g3 g4 ltg bg a0 a1 a2 a3 a4 a5 a6 lta ba
  go_wp2_with fail
  refine HHD.out.mono ?_
  rintro e w7 ⟨rfl, hb7⟩
  have hro7 := own_belowT hro6 hb7
  replace HM := hide (HM.out.later hb7)
  have hrow := fun V (hB : Below w7.heap.size w7 V) => own_belowT hro7 hB
  have HROW := hide hrow
  clear hrow
  clear hb7 hro6 hro7 HHD
  go_wp2_with fail
  go_loopw [9] (fun u wr => ∃ p : Nat, p ≤ N ∧ u = .int .i64 (p : Nat) ∧ Hid (Below w7.heap.size w7 wr)) (fun u _ => N - (intOf u).toNat)
  case atStart => exact ⟨0, Nat.zero_le _, rfl, hide (Below.refl _ _)⟩
  case round =>
    obtain ⟨p, hpN, rfl, HB⟩ := hrel
    replace HM := hide (HM.out.later HB.out)
    by_cases hlt : p < N
    · have hlt2 : (p : Int) < N := by omega
      have bg : Blk wr pG 28 #[.int .i64 0, .int .i64 0, .int .i64 1000, .int .i64 (W : Nat), .int .i64 (H : Nat)] := HM.out.get 0 rfl
      have ltg := bg.lt
      have g0 := bg.c 0 rfl
      have g1 := bg.c 1 rfl
      have g2 := bg.c 2 rfl
      have g3 := bg.c 3 rfl
      have g4 := bg.c 4 rfl
      have ba : Blk wr pX 26 #[.int .u8 (wd : Nat), .int .u8 (hg : Nat), .slice A nA cA, .int .u8 (xb : Nat), .int .u8 (yb : Nat), .slice D nD cD, .int .u16 (sec : Nat)] := HM.out.get 1 rfl
      have lta := ba.lt
      have a0 := ba.c 0 rfl
      have a1 := ba.c 1 rfl
      have a2 := ba.c 2 rfl
      have a3 := ba.c 3 rfl
      have a4 := ba.c 4 rfl
      have a5 := ba.c 5 rfl
      have a6 := ba.c 6 rfl
      have hin := HMI.out wr HM.out.below p hlt
      have hm := HMAY.out p hlt
      have hsu := HSURE.out p hlt
      have hle := HLE.out p
      obtain ⟨r, hr⟩ : ∃ r, truP M 2 p = r := ⟨_, rfl⟩
      obtain ⟨q, hq⟩ : ∃ q, st p = q := ⟨_, rfl⟩
      rw [hr] at hin hm hsu
      rw [hq] at hm hsu hle
      have HIN := hide hin
      have HMY := hide hm
      have HSU := hide hsu
      have HQ := hide hq
      clear hin hm hsu hq
      clear hr
      go_wp2_with fail
      refine (HIN.out).mono ?_
      rintro e w8 ⟨rfl, hb⟩
      replace HM := hide (HM.out.later hb)
      replace HB := hide (onward HB.out hb)
      clear hb bg ltg g0 g1 g2 g3 g4 ba lta a0 a1 a2 a3 a4 a5 a6
      obtain ⟨bs, curs, hAs, -, hbs, -, -, hcs⟩ := row_blk (HROW.out w8 HB.out) (by omega)
      subst hAs
      have z0 : w8.cell? ⟨bs, p, none⟩ = some (.int .i64 (q : Nat)) := hbs.c p (hcs p _ (by unfold numsV; rw [List.getElem?_map, List.getElem?_map, List.getElem?_range hlt]; show some (Value.int .i64 ((st p : Nat) : Int)) = _; rw [HQ.out]))
      have ltz := hbs.lt
      clear hbs hcs
      cases r with
      | true =>
        have hq0 : q ≠ 0 := HMY.out rfl
        have hq1 : ¬ (q : Int) = 0 := by omega
        have hq2 : ((q : Int) == 0) = false := by simpa using hq0
        go_wp2_with fail
        go_roundw
        case rel => exact ⟨p + 1, hlt, by go_num, HB⟩
        case measure => simp [intOf] <;> omega
      | false =>
        have hq0 : q ≠ 2 := fun h => by have := HSU.out h; cases this
        have hq1 : ¬ (q : Int) = 2 := by omega
        have hq2 : ((q : Int) == 2) = false := by
          rw [beq_eq_false_iff_ne]
          exact hq1
        go_wp2_with fail
        go_roundw
        case rel => exact ⟨p + 1, hlt, by go_num, HB⟩
        case measure => simp [intOf] <;> omega
    · obtain rfl : N = p := by omega
      have hkk : ¬ ((N : Int) < N) := by omega
      go_wp2_with fail
      refine (HWK.out _).mono ?_
      rintro e w8 ⟨rfl, hb⟩
      replace HM := hide (HM.out.later hb)
      clear hb
      go_wp2
      rw [← HPP.out]
      exact ⟨rfl, HM.out.below⟩
end Go.Proofs.Ytidbjidcjmbnlaa
end
