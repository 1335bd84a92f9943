/-
  The examples of TopGauged: they answer as the law says.
  A loop's code, taken out of a function.
  The law TopGauged: words, and what each reading says.
-/
import Derived.Test.YtjkelpelmljanaaTgMem
import Derived.Test.YtjkelpelmljanaaTgTraceTest
import Derived.Test.YtjkelpelmljanaaTgTraceDefine
import Derived.Test.YtjkelpelmljanaaTgTraceGain
import Derived.Test.YtjkelpelmljanaaTgTraceDefMath
import Derived.Test.YtjkelpelmljanaaTgRestMath
import Derived.Test.YtjkelpelmljanaaTgAdjust
import Derived.Test.YtjkelpelmljanaaTgValues
import Derived.Test.YtjkelpelmljanaaRegC
import Derived.Test.YtjkelpelmljanaaWords
set_option linter.unusedSimpArgs false
set_option linter.unusedVariables false
namespace Go.Proofs.Ytjkelpelmljanaa
open Go Go.RowKit

theorem gpoint_any (n : Int) (w : World) : Calls Try.prog 16 #[.int .i64 n] w fun e w' => e = .returned (.agg #[.int .i64 n, .int .i64 n]) ∧ Below w.heap.size w w' := by
  go_enter Try.func16, Try.ntmps16
  go_wp2
  refine bodyPost_ret (v := .agg #[.int .i64 n, .int .i64 n]) (by simp [results, Try.results16, go_sem]) rfl ⟨rfl, ?_⟩
  repeat (first | exact Below.refl _ _ | (refine Below.setCell ?_ (by first | omega | (simp; done) | (simp; omega)) _) | (refine Below.alloc ?_ (by first | omega | (simp; done) | (simp; omega)) _) | (refine below_drewN ?_ _))
theorem gints_at {w : World} {g : Nat} {t : TypeId} {cs : Array Value} {zs : List Int} (hb : Blk w g t cs) (h : cs.toList = zs.map (Value.int .i64)) : Ints w w.heap.size .i64 (some ⟨g, 0, none⟩) zs := fun _ =>
  ⟨g, 0, rfl, hb.lt, fun k hk => by
    rw [Nat.zero_add]
    refine hb.c k ?_
    rw [← Array.getElem?_toList, h, List.getElem?_map, List.getElem?_eq_getElem hk]
    simp [List.getD, hk]⟩
def gexR : Ent := .radar ⟨#[114]⟩ 0
def gexA : Ent := .define ⟨⟨#[97]⟩, ⟨#[]⟩, 1000, 1000, 0, 100, 0⟩
def gexT : Ent := .test ⟨⟨#[114]⟩, ⟨#[97]⟩, 0, 2000, 2000⟩
theorem gex1 : radarE [] ⟨#[114]⟩ 0 = 0 := by decide +kernel
theorem gex2 : defineE [gexR] ⟨⟨#[97]⟩, ⟨#[]⟩, 1000, 1000, 0, 100, 0⟩ = 0 := by decide +kernel
theorem gex3 : testE [gexA, gexR] ⟨⟨#[114]⟩, ⟨#[97]⟩, 0, 2000, 2000⟩ = 0 := by decide +kernel
theorem gex4 : gainE [gexT, gexA, gexR] ⟨#[114]⟩ 50 = ((2000, 2000), (0, 0), 0) := by decide +kernel
theorem gex5 : correctR (400, 400) (2000, 2000) = ((200, 200), 0) := by decide +kernel
theorem gex6 : adjG (okZ (fun j => [1000, 1000, 5, 200].getD j 0)) (scZ (fun j => [1000, 1000, 5, 200].getD j 0)) 1 = (((801, 1199), (0, 0)), 0) := by decide +kernel
set_option maxHeartbeats 4000000 in
set_option maxRecDepth 100000 in
theorem gworks_any (w : World) : Calls Try.prog 5 #[] w fun e w' => e = .returned (.bool true) ∧ Below w.heap.size w w' := by
  have hcr := fun W => Correct_any 400 400 2000 2000 W
  simp only [gex5, corrV] at hcr
  have Hcr := hide hcr
  clear hcr
  go_enter Try.func5, Try.ntmps5
  have HM := hide (Mem.start w)
  go_wp2_with fail
  refine (New_any _).mono ?_
  rintro e w1 ⟨p, L, rfl, hb, hB, hL⟩
  have HM1 := hide (HM.out.add (t := .book [] p L) hB hb hL)
  clear HM hb hB hL
  have HM := HM1
  clear HM1
  go_wp2_with fail
  have c1 := Radar_any [] p L ⟨#[114]⟩ 0 w1 (Mem.book_ HM.out 0 rfl) (by decide)
  rw [gex1] at c1
  refine c1.mono ?_
  clear c1
  rintro e w2 ⟨rfl, hp⟩
  obtain ⟨L2, HMn⟩ := HM.out.enter 0 rfl hp
  replace HM := hide HMn
  clear HMn hp
  rw [if_pos rfl] at HM
  go_wp2_with fail
  refine (gpoint_any _ _).mono ?_
  rintro e w3 ⟨rfl, hb⟩
  replace HM := hide (HM.out.later hb)
  clear hb
  go_wp2_with fail
  have c2 := Define_any [gexR] p L2 ⟨⟨#[97]⟩, ⟨#[]⟩, 1000, 1000, 0, 100, 0⟩ w3 (Mem.book_ HM.out 0 rfl) (by decide) (by decide)
  rw [gex2] at c2
  refine c2.mono ?_
  clear c2
  rintro e w4 ⟨rfl, hp⟩
  obtain ⟨L3, HMn⟩ := HM.out.enter 0 rfl hp
  replace HM := hide HMn
  clear HMn hp
  rw [if_pos rfl] at HM
  go_wp2_with fail
  refine (gpoint_any _ _).mono ?_
  rintro e w5 ⟨rfl, hb⟩
  replace HM := hide (HM.out.later hb)
  clear hb
  go_wp2_with fail
  have c3 := Test_any [gexA, gexR] p L3 ⟨#[114]⟩ ⟨#[97]⟩ 0 2000 2000 w5 (Mem.book_ HM.out 0 rfl) (by decide) (by decide)
  rw [gex3, if_pos rfl, show ((testsT [gexA, gexR]).length : Int) = 0 from rfl] at c3
  refine c3.mono ?_
  clear c3
  rintro e w6 ⟨rfl, hp⟩
  obtain ⟨L4, HMn⟩ := HM.out.enter 0 rfl hp
  replace HM := hide HMn
  clear HMn hp
  rw [if_pos rfl] at HM
  go_wp2_with fail
  have c4 := Gain_any [gexT, gexA, gexR] p L4 ⟨#[114]⟩ 50 w6 (Mem.book_ HM.out 0 rfl) (by decide)
  rw [gex4] at c4
  unfold gainV at c4
  simp only at c4
  refine (c4).mono ?_
  rintro e w7 ⟨rfl, hb⟩
  replace HM := hide (HM.out.later hb)
  clear hb
  clear c4
  go_wp2_with fail
  refine code_world fun w8 hW => ?_
  have HMn := Mem.to (Mem.allocAt (Mem.allocAt HM.out w7.heap.size rfl #[.int .i64 2000, .int .i64 2000] 35) (w7.heap.size + 1) (by simp) #[.int .i64 0, .int .i64 0] 45) hW
  have LW : Later w7 w8 := by rw [hW]; exact (((Below.refl _ _).alloc (Nat.le_refl _) _).alloc (by simp; try omega) _)
  have szW : w8.heap.size = w7.heap.size + 2 := by rw [hW]; simp
  clear hW
  replace HM := hide HMn
  clear HMn LW
  have bz : Blk w8 w7.heap.size 35 #[.int .i64 2000, .int .i64 2000] := HM.out.get 1 rfl
  have ltz := bz.lt
  have z0 := bz.c 0 rfl
  have z1 := bz.c 1 rfl
  apply wp_region_L (w0 := w8) [[], [], [], [], [], [], [], [6], [6, 7]] [true, true, true, true, true, true, false, false, true] [⟨6, none, [], []⟩, ⟨7, some 6, [6], [6]⟩] (fun ixq y => match ixq with | 6 => .pointer (y 0).1 | 7 => undef | _ => undef) (fun ixq x F wq => match ixq with | 6 => PtrF wq F w8.heap.size (x 6 0).1 35 #[.int .i64 0, .int .i64 0] | 7 => PtrF wq F w8.heap.size (x 6 0).1 35 #[.int .i64 200, .int .i64 200] | _ => True) (fun a x => ((a).put (some 7) (.pointer ((x 6) 0).1)).put (none) (undef)) (by kernel_rfl) (by kernel_rfl) (fun _ => rfl) [37, 39] (by kernel_rfl)
  · intro x D hD
    have hne := hD.some
    have k0 := liftB hD z0 (by first | assumption | omega)
    have k1 := liftB hD z1 (by first | assumption | omega)
    simp only [takeOps, Act.put, List.setIfInBounds_toArray, List.set_cons_succ, List.set_cons_zero]
    repeat (go_big_quiet_step ((first | (go_at_call 16; exact calls_later hD _ (gpoint_any _ _)) | (go_at_call 11; exact calls_later hD _ (Hcr.out _)))))
    exact wpQuiet_nil rfl
  · intro d hd x x'
    simp only [List.mem_cons, List.not_mem_nil, or_false] at hd
    rcases hd with rfl | rfl
    all_goals rfl
  · refine ⟨?_, ?_, trivial⟩
    · exact obl_alloc 35 7 (.agg #[.int .i64 0, .int .i64 0]) (by kernel_rfl) (by kernel_rfl) (fun _ => rfl) (fun _ _ _ h => h)
    · refine obl_store 35 7 40 6 #[.int .i64 0, .int .i64 0] (fun x => #[.int .i64 200, .int .i64 200]) (by kernel_rfl) rfl (by simp) (fun _ _ _ h => h) (fun _ => rfl) (fun _ => rfl) (fun _ => by kernel_rfl) (fun _ => rfl) (fun _ => by simp [Value.oneCell']) (fun _ => rfl) (by decide) (fun _ _ _ _ h => h)
  · refine ⟨?_, ?_, trivial⟩
    · exact owe_ptr 6 _ _ (fun x => #[.int .i64 0, .int .i64 0]) (fun _ _ _ => rfl) (by simp) (fun _ _ _ => rfl)
    · exact owe_ptr 6 _ _ (fun x => #[.int .i64 200, .int .i64 200]) (fun _ _ _ => rfl) (by simp) (fun _ _ _ => rfl)
  intro xx w9 F hL hlv1
  obtain ⟨-, fct7, -⟩ := hlv1
  replace fct7 : PtrF w9 (F 7) w8.heap.size (xx 6 0).1 35 #[.int .i64 200, .int .i64 200] := fct7 rfl
  obtain ⟨g, hgx, hge, -, hbg⟩ := fct7
  rw [hgx]
  have HMn := hide (HM.out.add (t := .blk g 35 #[.int .i64 200, .int .i64 200]) hL hbg (fun k hk => by rw [List.mem_singleton.1 hk]; exact hge))
  clear HM hbg
  have HM := HMn
  clear HMn
  go_wp2_with fail
  refine (gpoint_any _ _).mono ?_
  rintro e w10 ⟨rfl, hb⟩
  replace HM := hide (HM.out.later hb)
  clear hb bz ltz z0 z1
  go_wp2_with fail
  refine at_world fun w11 hW => ?_
  have HMn := Mem.to (Mem.allocAt HM.out w10.heap.size rfl #[.int .i64 1000, .int .i64 1000, .int .i64 5, .int .i64 200] 58) hW
  have LW : Later w10 w11 := by rw [hW]; exact ((Below.refl _ _).alloc (Nat.le_refl _) _)
  have szW : w11.heap.size = w10.heap.size + 1 := by rw [hW]; simp
  clear hW
  replace HM := hide HMn
  clear HMn LW
  have c6 := Adjust_any (some ⟨w10.heap.size, 0, none⟩) 1 1 [1000, 1000, 5, 200] w11 rfl (by decide) (by decide) (by decide) (gints_at (Mem.blk_ HM.out 0 rfl) rfl)
  rw [gex6] at c6
  unfold adjV at c6
  simp only at c6
  refine (c6).mono ?_
  rintro e w12 ⟨rfl, hb⟩
  replace HM := hide (HM.out.later hb)
  clear hb
  clear c6
  go_wp2_with fail
  refine code_world fun w13 hW => ?_
  have HMn := Mem.to (Mem.allocAt (Mem.allocAt HM.out w12.heap.size rfl #[.int .i64 801, .int .i64 1199] 35) (w12.heap.size + 1) (by simp) #[.int .i64 0, .int .i64 0] 45) hW
  have LW : Later w12 w13 := by rw [hW]; exact (((Below.refl _ _).alloc (Nat.le_refl _) _).alloc (by simp; try omega) _)
  have szW : w13.heap.size = w12.heap.size + 2 := by rw [hW]; simp
  clear hW
  replace HM := hide HMn
  clear HMn LW
  have bx : Blk w13 w12.heap.size 35 #[.int .i64 801, .int .i64 1199] := HM.out.get 1 rfl
  have ltx := bx.lt
  have x0 := bx.c 0 rfl
  have x1 := bx.c 1 rfl
  have bt : Blk w13 g 35 #[.int .i64 200, .int .i64 200] := HM.out.get 3 rfl
  have ltt := bt.lt
  have t0 := bt.c 0 rfl
  have t1 := bt.c 1 rfl
  have bz : Blk w13 w7.heap.size 35 #[.int .i64 2000, .int .i64 2000] := HM.out.get 5 rfl
  have ltz := bz.lt
  have z0 := bz.c 0 rfl
  have z1 := bz.c 1 rfl
  apply wp_region_L (w0 := w13) [[], [], [], [], [], [], [], [], [], [], [], [], [], [], [], [], [], [], [], [], [], [], [], [], [], [], [], [], [], []] [true, true, true, true, true, true, true, true, true, true, true, true, true, true, true, true, true, true, true, true, true, true, true, true, true, true, true, true, true, true] [] (fun ixq y => match ixq with  | _ => undef) (fun ixq x F wq => match ixq with  | _ => True) (fun a x => a) (by kernel_rfl) (by kernel_rfl) (fun _ => rfl) [59, 68] (by kernel_rfl)
  · intro x D hD
    have hne := hD.some
    have k0 := liftB hD x0 (by first | assumption | omega)
    have k1 := liftB hD x1 (by first | assumption | omega)
    have k2 := liftB hD t0 (by first | assumption | omega)
    have k3 := liftB hD t1 (by first | assumption | omega)
    have k4 := liftB hD z0 (by first | assumption | omega)
    have k5 := liftB hD z1 (by first | assumption | omega)
    simp only [takeOps, Act.put, List.setIfInBounds_toArray, List.set_cons_succ, List.set_cons_zero]
    repeat (go_big_quiet_step ((go_at_call 16; exact calls_later hD _ (gpoint_any _ _))))
    exact wpQuiet_nil rfl
  · intro d hd x x'
    simp only [List.mem_cons, List.not_mem_nil, or_false] at hd
    rcases hd with rfl | rfl
    all_goals rfl
  · exact trivial
  · exact trivial
  intro yy w14 F hL2 hlv2
  clear hlv2
  replace HM := hide (HM.out.later hL2)
  clear hL2 bx ltx x0 x1 bt ltt t0 t1 bz ltz z0 z1
  go_wp2
  go_ret
  exact ⟨rfl, HM.out.below⟩
end Go.Proofs.Ytjkelpelmljanaa
namespace Go.Proofs.Ytjkelpelmljanaa
open Go Go.RowKit

/-- The loops of a code, in order. -/
def loopsOf : Code → List Code
  | .loop c => .loop c :: loopsOf c
  | .seq a b => loopsOf a ++ loopsOf b
  | .block _ c => loopsOf c
  | .scope c => loopsOf c
  | .cond _ a b => loopsOf a ++ loopsOf b
  | _ => []
end Go.Proofs.Ytjkelpelmljanaa
namespace Go.Proofs.Ytjkelpelmljanaa
open Go Go.RowKit

theorem rdInfo : (Try.prog.info? 52).map (fun i => (i.zero, i.size, i.bytes)) = some (some (.agg #[.int .i64 0, .int .i64 0, .int .i64 0]), 3, 24) := by kernel_rfl
theorem paInfo : (Try.prog.info? 58).map (fun i => (i.zero, i.size, i.bytes)) = some (some (.agg #[.int .i64 0, .int .i64 0, .int .i64 0, .int .i64 0]), 4, 32) := by kernel_rfl
/-- The cells of the argument. -/
structure GArg where
  Ap : Option Addr
  np : Nat
  cp : Nat
  gn : Int
  vl : Int
  ls : Int
  mo : Int
  sl : Int
  dr : Int
  pc : Int
  Ar : Option Addr
  nr : Nat
  cr : Nat
  sk : Int
  Ab : Option Addr
  nb : Nat
  cb : Nat
def gcells (a : GArg) : Array Value := #[.slice a.Ap a.np a.cp, .int .u16 a.gn, .int .u32 a.vl, .int .u16 a.ls, .int .u16 a.mo, .int .u16 a.sl, .int .u8 a.dr, .int .u16 a.pc, .slice a.Ar a.nr a.cr, .int .u16 a.sk, .slice a.Ab a.nb a.cb]

section
variable (x : Gd) (pace : Int) (zp : List Int) (l : List (Int × Int))
def pwG (k : Nat) : Int := zp.getD k 0 % 1048576
/-- The corrected power. -/
def cG (k : Nat) : Int × Int := (correctR (pwG zp k * x.g / 1000, (pwG zp k * x.g + 999) / 1000) (gainE (bkG x) ⟨#[114]⟩ (k * pace)).1).1
def fG (k : Nat) : Int × Int := ((valGo (cG x pace zp k).1 l).1, (valGo (cG x pace zp k).2 l).2)
def tG (k : Nat) : Int × Int := valGo (pwG zp k) l
variable {x pace zp l}
theorem RdOk.zero (h0 : 1 ≤ pace) (h1 : pace ≤ 600) (f t : Nat → Int × Int) : RdOk pace f t 0 :=
  ⟨h0, h1, by omega, fun k hk => absurd hk (by omega), fun k hk => absurd hk (by omega), fun k hk => absurd hk (by omega)⟩
theorem RdOk.succ {f t : Nat → Int × Int} {n : Nat} (h : RdOk pace f t n) (hn : n < 6) (h1 : 0 ≤ (f n).1 ∧ (f n).1 ≤ (t n).1) (h2 : 0 ≤ (t n).1 ∧ (t n).1 ≤ (t n).2 ∧ (t n).2 ≤ 1000000) (h3 : (t n).2 ≤ (f n).2 ∧ (f n).2 ≤ 1000000) : RdOk pace f t (n + 1) where
  p0 := h.p0
  p1 := h.p1
  n6 := by omega
  lo := fun k hk => by
    rcases Nat.lt_or_ge k n with g | g
    · exact h.lo k g
    · obtain rfl : k = n := by omega
      exact h1
  in_ := fun k hk => by
    rcases Nat.lt_or_ge k n with g | g
    · exact h.in_ k g
    · obtain rfl : k = n := by omega
      exact h2
  hi := fun k hk => by
    rcases Nat.lt_or_ge k n with g | g
    · exact h.hi k g
    · obtain rfl : k = n := by omega
      exact h3
/-- All that is said of one reading: letters for the walk. -/
theorem step_G (hx : GdOk x) (hT : Tab l 1000000) (hc : chk l 1000000 = 0) (h0 : 1 ≤ pace) (h1 : pace ≤ 600) {k : Nat} (hk : k < 6) :
    ∃ sg : Int × Int, gainE (bkG x) ⟨#[114]⟩ (k * pace) = (sg, (0, 0), 0) ∧ 1 ≤ sg.1 ∧ sg.1 ≤ x.g ∧ x.g ≤ sg.2 ∧ (sg.2 ≤ 1000000 →
      ∃ c lo hi is : Int × Int, correctR (pwG zp k * x.g / 1000, (pwG zp k * x.g + 999) / 1000) sg = (c, 0) ∧ c.1 ≤ pwG zp k ∧ pwG zp k ≤ c.2 ∧
        valueR l c.1 = (lo, 0) ∧ valueR l c.2 = (hi, 0) ∧ valueR l (pwG zp k) = (is, 0) ∧ lo.1 ≤ is.1 ∧ is.2 ≤ hi.2 ∧ fG x pace zp l k = (lo.1, hi.2) ∧ tG zp l k = is ∧ 0 ≤ lo.1 ∧ 0 ≤ is.1 ∧ is.1 ≤ is.2 ∧ is.2 ≤ 1000000 ∧ hi.2 ≤ 1000000) := by
  have e1 : (0 : Int) ≤ k * pace := Int.mul_nonneg (by omega) (by omega)
  have e2 : (k : Int) * pace ≤ 6 * 600 := Int.mul_le_mul (by omega) h1 (by omega) (by omega)
  obtain ⟨sg, hsg, s1, s2, s3⟩ := gainG hx e1 (by omega)
  refine ⟨sg, hsg, s1, s2, s3, fun s4 => ?_⟩
  have g0 := hx.g0
  have g1 := hx.g1
  have hp : 0 ≤ pwG zp k ∧ pwG zp k ≤ 1048575 := by unfold pwG; omega
  obtain ⟨c, hcr, c1, c2⟩ := correct_holds (p := pwG zp k) (G := x.g) (s := sg) hp.1 (by omega) (by omega) (by omega) s1 s2 s3 s4
  obtain ⟨d1, d2, d3, d4⟩ := correct_bd hcr
  have hcG : cG x pace zp k = c := by unfold cG; rw [hsg, hcr]
  have hv : ∀ z, 0 ≤ z → z ≤ 1073741824 → valueR l z = (valGo z l, 0) := fun z z0 z1 => by
    unfold valueR
    rw [if_neg (by rw [chk_more (m := 1000000) (M := 1073741824) (by omega) hc]; simp), if_neg (by rw [win_iff.2 ⟨z0, z1⟩]; simp)]
  have m1 := val_mono hT (y := c.1) (z := pwG zp k) d1 c1
  have m2 := val_mono hT (y := pwG zp k) (z := c.2) hp.1 c2
  have i1 := val_in hT (z := c.1) d1
  have i2 := val_in hT (z := c.2) d3
  have i3 := val_in hT (z := pwG zp k) hp.1
  exact ⟨c, _, _, _, hcr, c1, c2, hv _ d1 d2, hv _ d3 d4, hv _ hp.1 (by omega), m1.1, m2.2, by unfold fG; rw [hcG], rfl, i1.1, i3.1, i3.2.1, i3.2.2, i2.2.2⟩
end
end Go.Proofs.Ytjkelpelmljanaa
