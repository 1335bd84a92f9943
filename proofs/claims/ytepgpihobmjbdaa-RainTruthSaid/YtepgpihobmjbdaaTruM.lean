/-
  The steps of a ray, each by itself: threads, layer, rating.
  A path of four steps: threads, passage, layer, rating.
  RainTruth: what is measured of powers that are partly blocked, and what the rates make of it; no program in sight.
-/
import Derived.Test.YtepgpihobmjbdaaRtRrRefDivs
import Derived.Test.YtepgpihobmjbdaaTruFac
import Derived.Test.YtepgpihobmjbdaaRtRrPdo
import Derived.Test.YtepgpihobmjbdaaRtRrRestore
import Derived.Test.YtepgpihobmjbdaaRtRrBlocked
import Derived.Test.YtepgpihobmjbdaaRegQ
import Derived.LoopN
import Derived.Test.YtepgpihobmjbdaaBeam2Math
set_option linter.unusedSimpArgs false
set_option linter.unusedVariables false
section
namespace Go.Proofs.Ytepgpihobmjbdaa
open Go.RowKit
theorem flat2Q_eq (l : List (Int × Int)) : flat2Q l = flat2 l := by induction l with
 | nil => rfl
 | cons p t ih => rw [flat2Q, flat2, ih]
set_option maxHeartbeats 1000000 in
set_option maxRecDepth 100000 in
theorem threads_any (p1 p2 cnt : Int) (A : Option Addr) (n c : Nat) (bl : List (Int × Int)) (k : Nat) (w : World) (hn : bl.length = n) (hk : k < n) (hok : okF (p1, p2) cnt (bl.getD k (0, 0)) = true) (hl : Ints w w.heap.size .i64 A (flat2 bl)) :
  Calls Try.prog 87 #[.agg #[.int .i64 cnt, .slice A n c], .int .i64 k, .agg #[.int .i64 p1, .int .i64 p2]] w fun e w' => e = .returned (spanV (fillS (p1, p2) cnt (bl.getD k (0, 0)))) ∧ Below w.heap.size w w' := by
 obtain ⟨b, off, rfl, hb, hc⟩ := hl.pt (by omega)
 obtain ⟨p0, p1'⟩ := hc k (by omega)
 generalize bl.getD k (0, 0) = bb at *
 obtain ⟨b1, b2⟩ := bb
 have hf := fun W => fill_any p1 p2 cnt b1 b2 W hok
 obtain ⟨q, hq⟩ : ∃ q, fillS (p1, p2) cnt (b1, b2) = q := ⟨_, rfl⟩
 simp only [hq] at hf
 rw [hq]
 obtain ⟨q1, q2⟩ := q
 unfold spanV at hf ⊢
 simp only at hf p0 p1' ⊢
 have hkn : (k : Int) < n := by omega
 have Hf := hide hf
 clear hf
 clear hq hc hok hl
 go_enter Try.func87, Try.ntmps87
 have HB := hide (Below.refl w.heap.size w)
 rw [← HB.out.cell hb] at p0 p1'
 go_wp2_with fail
 have hP := hide (And.intro p0 p1')
 clear p0 p1'
 refine code_world fun W hW => ?_
 have bq0 : Blk W w.heap.size 106 #[.int .i64 cnt, .slice (some ⟨b, off, none⟩) n c] := by rw [hW]; exact ((Blk.new _ _ _).alloc _).alloc _
 have bq1 : Blk W (w.heap.size + 1) 24 #[.int .i64 p1, .int .i64 p2] := by rw [hW]; exact (blk_new_at (by simp)).alloc _
 have bq2 : Blk W (w.heap.size + 2) 24 #[.int .i64 0, .int .i64 0] := by rw [hW]; exact blk_new_at (by simp)
 have LW : Later w W := by rw [hW]; exact ((((Below.refl _ _).alloc (Nat.le_refl _) _).alloc (by simp; try omega) _).alloc (by simp; try omega) _)
 have szW : W.heap.size = w.heap.size + 3 := by rw [hW]; simp
 clear hW
 replace HB := hide (onward HB.out LW)
 have Hbt := hide bq0
 have Hbz := hide bq1
 have Hbo := hide bq2
 clear bq0 bq1 bq2 LW szW
 obtain ⟨p0, p1'⟩ := hP.out
 rw [← HB.out.cell hb] at p0 p1'
 have hbW : b < W.heap.size := Nat.lt_of_lt_of_le hb HB.out.size
 have lto0 := Hbo.out.lt
 clear hP
 obtain ⟨y0, y1⟩ := Hbz.out.c2
 have lty := Hbz.out.lt
 obtain ⟨t0, t1⟩ := Hbt.out.c2
 have ltt := Hbt.out.lt
 apply wp_region_F (w0 := W) [[], [], [1], [], [3], [], [3, 4, 5], [3, 4, 5, 6], [0, 1, 2, 3, 4, 5, 6, 7], [0, 1, 2, 3, 4, 5, 6, 7, 8]] [true, true, true, true, true, true, true, true, true, false] [false, false, false, false, false, false, false, false, false, false] [⟨9, none, [], []⟩] [(9, (w.heap.size+2))] [9] (fun ixq y => match ixq with | 9 => undef | _ => undef) (fun ixq x F wq => match ixq with | 9 => F (w.heap.size+2) ∧ Blk wq (w.heap.size+2) 24 #[.int .i64 q1, .int .i64 q2] | _ => True) (fun a x => (a).put (none) (undef)) (by kernel_rfl) (by kernel_rfl) (by kernel_rfl) (fun _ => rfl) [15] (by kernel_rfl) (fills_lt1 (by omega)) fills_ne1
 ·
  intro x D hD
  have hne := hD.some
  have k0 := liftS hD y0 (by exact early_all (by first | assumption | omega) (by rfl))
  have k1 := liftS hD y1 (by exact early_all (by first | assumption | omega) (by rfl))
  have k2 := liftS hD t0 (by exact early_all (by first | assumption | omega) (by rfl))
  have k3 := liftS hD t1 (by exact early_all (by first | assumption | omega) (by rfl))
  have k4 := liftS hD p0 (by exact early_all (by first | assumption | omega) (by rfl))
  have k5 := liftS hD p1' (by exact early_all (by first | assumption | omega) (by rfl))
  simp only [takeOps, Act.put, List.setIfInBounds_toArray, List.set_cons_succ, List.set_cons_zero]
  repeat (go_big_quiet_step ((go_at_call 88; exact calls_later hD _ (Hf.out _))))
  exact wpQuiet_nil rfl
 · exact fun x D hD => wpQuiet_nil rfl
 ·
  intro d hd x x'
  simp only [List.mem_cons, List.not_mem_nil, or_false] at hd
  rcases hd with rfl
  all_goals rfl
 ·
  refine ⟨?_, trivial⟩
  · exact obl_fill 24 24 6 15 (w.heap.size+2) _ (fun x => #[.int .i64 q1, .int .i64 q2]) (by kernel_rfl) (fun _ => rfl) (fun _ => rfl) Hbo.out eb_fill1 (by simp [wrF]) (fun _ => by kernel_rfl) (fun _ => rfl) (fun _ => by simp [Value.oneCell']) (fun _ => rfl) (fun _ _ _ _ h1 h2 => ⟨h1, h2⟩)
 ·
  refine ⟨?_, trivial⟩
  · exact owe_fill (w.heap.size+2) 24 (fun x => #[.int .i64 q1, .int .i64 q2]) (fun _ _ _ => rfl) (fun _ _ _ => rfl)
 intro xx w3 F hK hlv1
 obtain ⟨fct9, -⟩ := hlv1
 replace fct9 : (F 9) (w.heap.size+2) ∧ Blk w3 (w.heap.size+2) 24 #[.int .i64 q1, .int .i64 q2] := fct9 rfl
 clear p0 p1' hbW lto0
 clear Hbt Hbz
 have hgr := grown_kept hK
 replace HB := hide (below_grown HB.out hgr HB.out.size (fun q hq => by simp at hq; omega))
 replace Hbo := hide fct9.2
 clear hgr hK fct9 y0 y1 lty t0 t1 ltt
 obtain ⟨e0, e1⟩ := Hbo.out.c2
 have lte := Hbo.out.lt
 go_wp2
 refine bodyPost_ret (v := .agg #[.int .i64 q1, .int .i64 q2]) (by simp [results, Try.results87, go_sem, e0, e1]) rfl ⟨rfl, HB.out⟩
set_option maxHeartbeats 1000000 in
set_option maxRecDepth 100000 in
theorem rating_any (p1 p2 : Int) (A : Option Addr) (n c : Nat) (l : List (Int × Int)) (most : Int) (g : Nat) (k : Int) (w : World) (hn : l.length = n) (hT : Tab l most) (hmost : most ≤ 1073741824) (h1 : 0 ≤ p1 ∧ p1 ≤ 1073741824) (h2 : 0 ≤ p2 ∧ p2 ≤ 1073741824)
  (hl : Ints w w.heap.size .i64 A (flat2 l)) (hg : Blk w g 22 #[.slice A n c]) :
  Calls Try.prog 91 #[.agg #[lossF g], .int .i64 k, .agg #[.int .i64 p1, .int .i64 p2]] w fun e w' => e = .returned (.agg #[.int .i64 (valGo p1 l).1, .int .i64 (valGo p2 l).2]) ∧ Below w.heap.size w w' := by
 have hd := fun W hI hG => worth1_down A n c l most p1 (valGo p1 l).1 g W hn hT hmost h1.1 h1.2 hI hG (end_down hT p1)
 have hu := fun W hI hG => worth1_up A n c l most p2 (valGo p2 l).2 g W hn hT hmost h2.1 h2.2 hI hG (end_up hT p2)
 generalize (valGo p1 l).1 = q1 at *
 generalize (valGo p2 l).2 = q2 at *
 unfold lossF
 have Hd := hide hd
 have Hu := hide hu
 have Hl := hide hl
 have Hg := hide hg
 clear hd hu hl hg
 clear hT h1 h2
 go_enter Try.func91, Try.ntmps91
 have HB := hide (Below.refl w.heap.size w)
 go_wp2_with fail
 refine code_world fun W hW => ?_
 have bq0 : Blk W w.heap.size 110 #[.func (.func 54) #[] #[.pointer (some ⟨g, 0, none⟩)]] := by rw [hW]; exact ((Blk.new _ _ _).alloc _).alloc _
 have bq1 : Blk W (w.heap.size + 1) 24 #[.int .i64 p1, .int .i64 p2] := by rw [hW]; exact (blk_new_at (by simp)).alloc _
 have bq2 : Blk W (w.heap.size + 2) 24 #[.int .i64 0, .int .i64 0] := by rw [hW]; exact blk_new_at (by simp)
 have LW : Later w W := by rw [hW]; exact ((((Below.refl _ _).alloc (Nat.le_refl _) _).alloc (by simp; try omega) _).alloc (by simp; try omega) _)
 have szW : W.heap.size = w.heap.size + 3 := by rw [hW]; simp
 clear hW
 replace HB := hide (onward HB.out LW)
 replace Hg := hide (blk_later Hg.out LW)
 have Hbt := hide bq0
 have Hbz := hide bq1
 have Hbo := hide bq2
 clear bq0 bq1 bq2 LW szW
 have HI := hide ((Hl.out.below HB.out).more HB.out.size)
 have lto0 := Hbo.out.lt
 obtain ⟨y0, y1⟩ := Hbz.out.c2
 have lty := Hbz.out.lt
 have t0 := Hbt.out.c 0 rfl
 have ltt := Hbt.out.lt
 apply wp_region_F (w0 := W) [[], [0], [], [2], [0, 1, 2, 3], [], [5], [], [7], [0, 1, 2, 3, 4, 5, 6, 7, 8], [0, 1, 2, 3, 4, 5, 6, 7, 8, 9], [0, 1, 2, 3, 4, 5, 6, 7, 8, 9, 10]] [true, true, true, true, true, true, true, true, true, true, true, false] [false, false, false, false, false, false, false, false, false, false, false, false] [⟨11, none, [], []⟩] [(11, (w.heap.size+2))] [11] (fun ixq y => match ixq with | 11 => undef | _ => undef) (fun ixq x F wq => match ixq with | 11 => F (w.heap.size+2) ∧ Blk wq (w.heap.size+2) 24 #[.int .i64 q1, .int .i64 q2] | _ => True) (fun a x => (a).put (none) (undef)) (by kernel_rfl) (by kernel_rfl) (by kernel_rfl) (fun _ => rfl) [11, 16] (by kernel_rfl) (fills_lt1 (by omega)) fills_ne1
 ·
  intro x D hD
  have hne := hD.some
  have k0 := liftS hD y0 (by exact early_all (by first | assumption | omega) (by rfl))
  have k1 := liftS hD y1 (by exact early_all (by first | assumption | omega) (by rfl))
  have k2 := liftS hD t0 (by exact early_all (by first | assumption | omega) (by rfl))
  simp only [takeOps, Act.put, List.setIfInBounds_toArray, List.set_cons_succ, List.set_cons_zero]
  repeat (go_big_quiet_step ((first | (go_at_call_of 54 (Value.int .i64 p1); exact calls_later hD _ (Hd.out _ ((HI.out.below (kbS hD (fun k hk => early_all hk (by rfl)) _)).more (kbS hD (fun k hk => early_all hk (by rfl)) _).size) (blk_later Hg.out (kbS hD (fun k hk => early_all hk (by rfl)) _)))) | (go_at_call_of 54 (Value.int .i64 p2); exact calls_later hD _ (Hu.out _ ((HI.out.below (kbS hD (fun k hk => early_all hk (by rfl)) _)).more (kbS hD (fun k hk => early_all hk (by rfl)) _).size) (blk_later Hg.out (kbS hD (fun k hk => early_all hk (by rfl)) _)))))))
  exact wpQuiet_nil rfl
 · exact fun x D hD => wpQuiet_nil rfl
 ·
  intro d hd x x'
  simp only [List.mem_cons, List.not_mem_nil, or_false] at hd
  rcases hd with rfl | rfl
  all_goals rfl
 ·
  refine ⟨?_, trivial⟩
  · exact obl_fill 24 24 6 17 (w.heap.size+2) _ (fun x => #[.int .i64 q1, .int .i64 q2]) (by kernel_rfl) (fun _ => rfl) (fun _ => rfl) Hbo.out eb_fill1 (by simp [wrF]) (fun _ => by kernel_rfl) (fun _ => rfl) (fun _ => by simp [Value.oneCell']) (fun _ => rfl) (fun _ _ _ _ h1 h2 => ⟨h1, h2⟩)
 ·
  refine ⟨?_, trivial⟩
  · exact owe_fill (w.heap.size+2) 24 (fun x => #[.int .i64 q1, .int .i64 q2]) (fun _ _ _ => rfl) (fun _ _ _ => rfl)
 intro xx w3 F hK hlv2
 obtain ⟨fct11, -⟩ := hlv2
 replace fct11 : (F 11) (w.heap.size+2) ∧ Blk w3 (w.heap.size+2) 24 #[.int .i64 q1, .int .i64 q2] := fct11 rfl
 clear Hbt Hbz Hg
 have hgr := grown_kept hK
 replace HB := hide (below_grown HB.out hgr HB.out.size (fun q hq => by simp at hq; omega))
 replace Hbo := hide fct11.2
 clear hgr hK fct11 y0 y1 lty t0 ltt
 obtain ⟨e0, e1⟩ := Hbo.out.c2
 have lte := Hbo.out.lt
 go_wp2
 refine bodyPost_ret (v := .agg #[.int .i64 q1, .int .i64 q2]) (by simp [results, Try.results91, go_sem, e0, e1]) rfl ⟨rfl, HB.out⟩
def layZ (f p : Int × Int) : Int × Int := (capI (p.1 * f.1 / 1000), capI (cdiv (p.2 * f.2) 1000))
set_option maxHeartbeats 1000000 in
set_option maxRecDepth 100000 in
theorem layer_any (p1 p2 : Int) (A : Option Addr) (n c : Nat) (A' : Option Addr) (n' c' : Nat) (a0 a1 b0 b1 c0 c1 : Int) (Ab : Option Addr) (nb cb : Nat) (bl : List (Int × Int)) (k : Nat) (w : World) (hn : bl.length = nb) (hk : k < nb) (h1 : 0 ≤ p1 ∧ p1 ≤ 1073741824) (h2 : 0 ≤ p2 ∧ p2 ≤ 1073741824)
  (hf : 0 ≤ (facS (a0, a1) (b0, b1) (c0, c1) (bl.getD k (0, 0))).1 ∧ (facS (a0, a1) (b0, b1) (c0, c1) (bl.getD k (0, 0))).1 ≤ 100000 ∧ 0 ≤ (facS (a0, a1) (b0, b1) (c0, c1) (bl.getD k (0, 0))).2 ∧ (facS (a0, a1) (b0, b1) (c0, c1) (bl.getD k (0, 0))).2 ≤ 100000)
  (hl : Ints w w.heap.size .i64 Ab (flat2 bl)) :
  Calls Try.prog 90 #[.agg #[.slice A n c, .slice A' n' c', .int .i64 a0, .int .i64 a1, .int .i64 b0, .int .i64 b1, .int .i64 c0, .int .i64 c1, .slice Ab nb cb], .int .i64 k, .agg #[.int .i64 p1, .int .i64 p2]] w fun e w' => e = .returned (spanV (layZ (facS (a0, a1) (b0, b1) (c0, c1) (bl.getD k (0, 0))) (p1, p2))) ∧ Below w.heap.size w w' := by
 obtain ⟨b, off, rfl, hb, hc⟩ := hl.pt (by omega)
 obtain ⟨p0, p1'⟩ := hc k (by omega)
 generalize bl.getD k (0, 0) = bb at *
 obtain ⟨x, y⟩ := bb
 have hfa := fun W => factor_any A n c A' n' c' a0 a1 b0 b1 c0 c1 x y W
 obtain ⟨f, hff⟩ : ∃ f, facS (a0, a1) (b0, b1) (c0, c1) (x, y) = f := ⟨_, rfl⟩
 rw [hff] at hf ⊢
 simp only [hff] at hfa
 obtain ⟨f1, f2⟩ := f
 simp only at hf p0 p1'
 unfold spanV at hfa ⊢
 simp only at hfa
 obtain ⟨f1a, f1b, f2a, f2b⟩ := hf
 obtain ⟨m1, m2⟩ := mul_bd (a := p1) (b := f1) (A := 1073741824) (B := 100000) h1.1 h1.2 f1a f1b
 obtain ⟨m3, m4⟩ := mul_bd (a := p2) (b := f2) (A := 1073741824) (B := 100000) h2.1 h2.2 f2a f2b
 obtain ⟨u, hu, hdn⟩ : ∃ u, p1 * f1 / 1000 = u ∧ ∀ W, Calls Try.prog 30 #[.int .i64 (p1 * f1), .int .i64 1000] W fun e w' => e = .returned (.int .i64 u) ∧ W = w' := ⟨_, rfl, fun W => down_any _ _ _ (by omega) (by omega) (by omega) (by omega)⟩
 obtain ⟨v, hv, hup⟩ : ∃ v, cdiv (p2 * f2) 1000 = v ∧ ∀ W, Calls Try.prog 31 #[.int .i64 (p2 * f2), .int .i64 1000] W fun e w' => e = .returned (.int .i64 v) ∧ W = w' := ⟨_, rfl, fun W => up_any _ _ _ (by omega) (by omega) (by omega) (by omega)⟩
 have hcp := fun W => capped_any u v W
 have hS : layZ (f1, f2) (p1, p2) = (capI u, capI v) := by unfold layZ; rw [hu, hv]
 rw [hS]
 generalize capI u = q1 at *
 generalize capI v = q2 at *
 simp only
 have hkn : (k : Int) < nb := by omega
 have Hf := hide hfa
 have Hdn := hide hdn
 have Hup := hide hup
 have Hcp := hide hcp
 clear hfa hdn hup hcp
 clear hu hv hS hff hc hl
 go_enter Try.func90, Try.ntmps90
 have HB := hide (Below.refl w.heap.size w)
 rw [← HB.out.cell hb] at p0 p1'
 go_wp2_with fail
 have hP := hide (And.intro p0 p1')
 clear p0 p1'
 refine code_world fun W hW => ?_
 have bq0 : Blk W w.heap.size 108 #[.slice A n c, .slice A' n' c', .int .i64 a0, .int .i64 a1, .int .i64 b0, .int .i64 b1, .int .i64 c0, .int .i64 c1, .slice (some ⟨b, off, none⟩) nb cb] := by rw [hW]; exact ((Blk.new _ _ _).alloc _).alloc _
 have bq1 : Blk W (w.heap.size + 1) 24 #[.int .i64 p1, .int .i64 p2] := by rw [hW]; exact (blk_new_at (by simp)).alloc _
 have bq2 : Blk W (w.heap.size + 2) 24 #[.int .i64 0, .int .i64 0] := by rw [hW]; exact blk_new_at (by simp)
 have LW : Later w W := by rw [hW]; exact ((((Below.refl _ _).alloc (Nat.le_refl _) _).alloc (by simp; try omega) _).alloc (by simp; try omega) _)
 have szW : W.heap.size = w.heap.size + 3 := by rw [hW]; simp
 clear hW
 replace HB := hide (onward HB.out LW)
 have Hbt := hide bq0
 have Hbz := hide bq1
 have Hbo := hide bq2
 clear bq0 bq1 bq2 LW szW
 obtain ⟨p0, p1'⟩ := hP.out
 rw [← HB.out.cell hb] at p0 p1'
 have hbW : b < W.heap.size := Nat.lt_of_lt_of_le hb HB.out.size
 have lto0 := Hbo.out.lt
 clear hP
 have t0 := Hbt.out.c 0 rfl
 have t1 := Hbt.out.c 1 rfl
 have t2 := Hbt.out.c 2 rfl
 have t3 := Hbt.out.c 3 rfl
 have t4 := Hbt.out.c 4 rfl
 have t5 := Hbt.out.c 5 rfl
 have t6 := Hbt.out.c 6 rfl
 have t7 := Hbt.out.c 7 rfl
 have t8 := Hbt.out.c 8 rfl
 have ltt := Hbt.out.lt
 apply wp_region_L (w0 := W) [[], [], [], [], [], [], [], [], [], [8]] [true, true, true, true, true, true, true, true, false, false] [⟨8, none, [], []⟩, ⟨9, some 8, [8], [8]⟩] (fun ixq y => match ixq with | 8 => .pointer (y 0).1 | 9 => undef | _ => undef) (fun ixq x F wq => match ixq with | 8 => PtrF wq F W.heap.size (x 8 0).1 24 #[.int .i64 0, .int .i64 0] | 9 => PtrF wq F W.heap.size (x 8 0).1 24 #[.int .i64 f1, .int .i64 f2] | _ => True) (fun a x => ((a).put (some 7) (.pointer ((x 8) 0).1)).put (none) (undef)) (by kernel_rfl) (by kernel_rfl) (fun _ => rfl) [15] (by kernel_rfl)
 ·
  intro x D hD
  have hne := hD.some
  have k0 := liftB hD t0 (by first | assumption | omega)
  have k1 := liftB hD t1 (by first | assumption | omega)
  have k2 := liftB hD t2 (by first | assumption | omega)
  have k3 := liftB hD t3 (by first | assumption | omega)
  have k4 := liftB hD t4 (by first | assumption | omega)
  have k5 := liftB hD t5 (by first | assumption | omega)
  have k6 := liftB hD t6 (by first | assumption | omega)
  have k7 := liftB hD t7 (by first | assumption | omega)
  have k8 := liftB hD t8 (by first | assumption | omega)
  have k9 := liftB hD p0 (by first | assumption | omega)
  have k10 := liftB hD p1' (by first | assumption | omega)
  simp only [takeOps, Act.put, List.setIfInBounds_toArray, List.set_cons_succ, List.set_cons_zero]
  repeat (go_big_quiet_step ((go_at_call 39; exact calls_later hD _ (Hf.out _))))
  exact wpQuiet_nil rfl
 ·
  intro d hd x x'
  simp only [List.mem_cons, List.not_mem_nil, or_false] at hd
  rcases hd with rfl
  all_goals rfl
 ·
  refine ⟨?_, ?_, trivial⟩
  · exact obl_alloc 24 7 (.agg #[.int .i64 0, .int .i64 0]) (by kernel_rfl) (by kernel_rfl) (fun _ => rfl) (fun _ _ _ h => h)
  · refine obl_store 24 7 15 8 #[.int .i64 0, .int .i64 0] (fun x => #[.int .i64 f1, .int .i64 f2]) (by kernel_rfl) rfl (by simp) (fun _ _ _ h => h) (fun _ => rfl) (fun _ => rfl) (fun _ => by kernel_rfl) (fun _ => rfl) (fun _ => by simp [Value.oneCell']) (fun _ => rfl) (by decide) (fun _ _ _ _ h => h)
 ·
  refine ⟨?_, ?_, trivial⟩
  · exact owe_ptr 8 _ _ (fun x => #[.int .i64 0, .int .i64 0]) (fun _ _ _ => rfl) (by simp) (fun _ _ _ => rfl)
  · exact owe_ptr 8 _ _ (fun x => #[.int .i64 f1, .int .i64 f2]) (fun _ _ _ => rfl) (by simp) (fun _ _ _ => rfl)
 intro xx w3 F hK hlv3
 obtain ⟨-, fct9, -⟩ := hlv3
 replace fct9 : PtrF w3 (F 9) W.heap.size (xx 8 0).1 24 #[.int .i64 f1, .int .i64 f2] := fct9 rfl
 obtain ⟨g7, hgx, hge, -, hbg⟩ := fct9
 rw [hgx]
 have hg7 : w.heap.size + 2 < g7 := by omega
 clear p0 p1' hbW lto0 hgx
 replace HB := hide (onward HB.out hK)
 replace Hbt := hide (blk_later Hbt.out hK)
 replace Hbz := hide (blk_later Hbz.out hK)
 replace Hbo := hide (blk_later Hbo.out hK)
 clear hK t0 t1 t2 t3 t4 t5 t6 t7 t8 ltt
 clear Hbt
 have Hz := hide hbg
 clear hbg
 have lto0 := Hbo.out.lt
 obtain ⟨y0, y1⟩ := Hbz.out.c2
 have lty := Hbz.out.lt
 obtain ⟨z0, z1⟩ := Hz.out.c2
 have ltz := Hz.out.lt
 go_wp2_with fail
 apply wp_region_F (w0 := w3) [[], [0], [], [2], [0, 1, 2, 3], [0, 1, 2, 3, 4], [], [6], [], [8], [6, 7, 8, 9], [0, 1, 2, 3, 4, 5, 6, 7, 8, 9, 10], [0, 1, 2, 3, 4, 5, 6, 7, 8, 9, 10, 11], [0, 1, 2, 3, 4, 5, 6, 7, 8, 9, 10, 11, 12]] [true, true, true, true, true, true, true, true, true, true, true, true, true, false] [false, false, false, false, false, false, false, false, false, false, false, false, false, false] [⟨13, none, [], []⟩] [(13, (w.heap.size+2))] [13] (fun ixq y => match ixq with | 13 => undef | _ => undef) (fun ixq x F wq => match ixq with | 13 => F (w.heap.size+2) ∧ Blk wq (w.heap.size+2) 24 #[.int .i64 q1, .int .i64 q2] | _ => True) (fun a x => (a).put (none) (undef)) (by kernel_rfl) (by kernel_rfl) (by kernel_rfl) (fun _ => rfl) [21, 27, 28] (by kernel_rfl) (fills_lt1 (by omega)) fills_ne1
 ·
  intro x D hD
  have hne := hD.some
  have k0 := liftS hD y0 (by exact early_all (by first | assumption | omega) (by rfl))
  have k1 := liftS hD y1 (by exact early_all (by first | assumption | omega) (by rfl))
  have k2 := liftS hD z0 (by exact early_all (by first | assumption | omega) (by rfl))
  have k3 := liftS hD z1 (by exact early_all (by first | assumption | omega) (by rfl))
  simp only [takeOps, Act.put, List.setIfInBounds_toArray, List.set_cons_succ, List.set_cons_zero]
  repeat (go_big_quiet_step ((first | (go_at_call 30; exact calls_same _ (Hdn.out _)) | (go_at_call 31; exact calls_same _ (Hup.out _)) | (go_at_call 89; exact calls_later hD _ (Hcp.out _)))))
  exact wpQuiet_nil rfl
 · exact fun x D hD => wpQuiet_nil rfl
 ·
  intro d hd x x'
  simp only [List.mem_cons, List.not_mem_nil, or_false] at hd
  rcases hd with rfl | rfl | rfl
  all_goals rfl
 ·
  refine ⟨?_, trivial⟩
  · exact obl_fill 24 24 6 28 (w.heap.size+2) _ (fun x => #[.int .i64 q1, .int .i64 q2]) (by kernel_rfl) (fun _ => rfl) (fun _ => rfl) Hbo.out eb_fill1 (by simp [wrF]) (fun _ => by kernel_rfl) (fun _ => rfl) (fun _ => by simp [Value.oneCell']) (fun _ => rfl) (fun _ _ _ _ h1 h2 => ⟨h1, h2⟩)
 ·
  refine ⟨?_, trivial⟩
  · exact owe_fill (w.heap.size+2) 24 (fun x => #[.int .i64 q1, .int .i64 q2]) (fun _ _ _ => rfl) (fun _ _ _ => rfl)
 intro xx2 w4 F hK4 hlv4
 obtain ⟨fct13, -⟩ := hlv4
 replace fct13 : (F 13) (w.heap.size+2) ∧ Blk w4 (w.heap.size+2) 24 #[.int .i64 q1, .int .i64 q2] := fct13 rfl
 clear lto0
 clear Hbz Hz
 have hgr := grown_kept hK4
 replace HB := hide (below_grown HB.out hgr HB.out.size (fun q hq => by simp at hq; omega))
 replace Hbo := hide fct13.2
 clear hgr hK4 fct13 y0 y1 lty z0 z1 ltz
 obtain ⟨e0, e1⟩ := Hbo.out.c2
 have lte := Hbo.out.lt
 go_wp2
 refine bodyPost_ret (v := .agg #[.int .i64 q1, .int .i64 q2]) (by simp [results, Try.results90, go_sem, e0, e1]) rfl ⟨rfl, HB.out⟩
end Go.Proofs.Ytepgpihobmjbdaa
end
section
namespace Go.Proofs.Ytepgpihobmjbdaa
open Go.RowKit
def rateZ (rt : List (Int × Int)) (f z : Int × Int) : Int × Int := ((valGo (layZ f z).1 rt).1, (valGo (layZ f z).2 rt).2)
def fillsL (ms : List (Int × Int)) (cnt : Int) (bl : List (Int × Int)) : List (Int × Int) := (List.range ms.length).map fun k => fillS (ms.getD k (0, 0)) cnt (bl.getD k (0, 0))
theorem fillsL_length (ms : List (Int × Int)) (cnt : Int) (bl : List (Int × Int)) : (fillsL ms cnt bl).length = ms.length := by simp [fillsL]
theorem fillsL_get {ms : List (Int × Int)} {cnt : Int} {bl : List (Int × Int)} {k : Nat} (h : k < ms.length) : (fillsL ms cnt bl).getD k (0, 0) = fillS (ms.getD k (0, 0)) cnt (bl.getD k (0, 0)) := by simp [fillsL, List.getD, h]
def rayL (l rt : List (Int × Int)) (melt inn above : Int × Int) (bd fl : List (Int × Int)) (k : Nat) : List (Int × Int) := (List.range k).map fun j => rateZ rt (facS melt inn above (bd.getD j (0, 0))) ((restGo l whole fl).getD j (0, 0))
theorem rayL_succ (l rt : List (Int × Int)) (melt inn above : Int × Int) (bd fl : List (Int × Int)) (k : Nat) : rayL l rt melt inn above bd fl (k + 1) = rayL l rt melt inn above bd fl k ++ [rateZ rt (facS melt inn above (bd.getD k (0, 0))) ((restGo l whole fl).getD k (0, 0))] := by simp [rayL, List.range_succ]
theorem rayL_length (l rt : List (Int × Int)) (melt inn above : Int × Int) (bd fl : List (Int × Int)) (k : Nat) : (rayL l rt melt inn above bd fl k).length = k := by simp [rayL]
theorem capI_bd {a : Int} (h : 0 ≤ a) : 0 ≤ capI a ∧ capI a ≤ 1073741824 := by unfold capI; omega
def FacOk (f : Int × Int) : Prop := 0 ≤ f.1 ∧ f.1 ≤ 100000 ∧ 0 ≤ f.2 ∧ f.2 ≤ 100000
theorem layZ_bd {f z : Int × Int} (hf : FacOk f) (h1 : 0 ≤ z.1) (h2 : 0 ≤ z.2) : (0 ≤ (layZ f z).1 ∧ (layZ f z).1 ≤ 1073741824) ∧ (0 ≤ (layZ f z).2 ∧ (layZ f z).2 ≤ 1073741824) := by
 refine ⟨capI_bd (Int.ediv_nonneg (Int.mul_nonneg h1 hf.1) (by decide)), capI_bd ?_⟩
 have : 0 ≤ z.2 * f.2 := Int.mul_nonneg h2 hf.2.2.1
 rw [cdiv_eq (by decide)]
 exact Int.ediv_nonneg (by omega) (by decide)
theorem fillS_okM {p : Int × Int} {n : Int} {b : Int × Int} (h : okF p n b = true) : okM (fillS p n b) = true := by
 obtain ⟨h1, h2, h3, h4, h5, h6, h7, h8⟩ := okF_iff h
 obtain ⟨p1, p2⟩ := p
 obtain ⟨b1, b2⟩ := b
 simp only at h1 h2 h3 h6 h7 h8
 have m1 : 0 ≤ p1 * n := Int.mul_nonneg h1 (by omega)
 have d0 : 0 ≤ p1 * n / max 1 (n - b1) := Int.ediv_nonneg m1 (by omega)
 apply decide_eq_true
 unfold fillS
 simp only
 refine ⟨by omega, ?_, by split <;> omega⟩
 split
 ·
  have e1 : max 1 (n - b1) = n - b1 := by omega
  have l1 : p1 * n ≤ p2 * n := Int.mul_le_mul_of_nonneg_right h2 (by omega)
  have l2 : p1 * n / (n - b1) ≤ p2 * n / (n - b2) := div_le_div2 m1 l1 (by omega) (by omega)
  have l3 : p2 * n / (n - b2) ≤ cdiv (p2 * n) (n - b2) := by
   rw [cdiv_eq (by omega)]
   exact Int.ediv_le_ediv (by omega) (by omega)
  rw [e1]
  omega
 · omega
theorem below_gr {B g : Nat} {w w1 w2 : World} (h : Below B w w1) (hg : w1.grownBy w2 (some g)) (hB : B ≤ g) (hl : B < w1.heap.size) : Below B w w2 :=
 h.trans ⟨hg.os, hg.tape, hg.output, hg.size, fun k hk => hg.block k (by omega) (fun e => by injection e with e; omega)⟩
set_option maxHeartbeats 4000000 in
set_option maxRecDepth 100000 in
theorem all4_any (A : Option Addr) (n c : Nat) (l : List (Int × Int)) (Ar : Option Addr) (nr cr : Nat) (rt : List (Int × Int)) (A' : Option Addr) (n' c' : Nat) (ms : List (Int × Int)) (cnt : Int) (Ak : Option Addr) (nk ck : Nat) (bl : List (Int × Int)) (Ab : Option Addr) (nb cb : Nat) (bd : List (Int × Int))
  (a0 a1 b0 b1 c0 c1 : Int) (B g gl g2 gp : Nat) (w : World) (hn : l.length = n) (hnr : rt.length = nr) (hn' : ms.length = n') (hnk : bl.length = nk) (hnb : bd.length = nb) (hle : n' ≤ nk) (hle2 : n' ≤ nb) (hmax' : n' ≤ 200) (hT : Tab l 32768) (hTr : Tab rt 1000000)
  (hok : ∀ k, k < n' → okF (ms.getD k (0, 0)) cnt (bl.getD k (0, 0)) = true) (hfac : ∀ k, k < n' → FacOk (facS (a0, a1) (b0, b1) (c0, c1) (bd.getD k (0, 0))))
  (hl : Ints w B .i64 A (flat2 l)) (hlr : Ints w B .i64 Ar (flat2 rt)) (hl' : Ints w B .i64 A' (flat2 ms)) (hlk : Ints w B .i64 Ak (flat2 bl)) (hlb : Ints w B .i64 Ab (flat2 bd))
  (hg : Blk w g 81 #[.int .i64 1073741824, .int .i64 1073741824, lossF gl]) (hgl : Blk w gl 22 #[.slice A n c]) (hg2 : Blk w g2 22 #[.slice Ar nr cr])
  (hgp : Blk w gp 130 #[.iface 106 (.agg #[.int .i64 cnt, .slice Ak nk ck]), .iface 76 (.pointer (some ⟨g, 0, none⟩)), .iface 108 (.agg #[.slice A n c, .slice Ar nr cr, .int .i64 a0, .int .i64 a1, .int .i64 b0, .int .i64 b1, .int .i64 c0, .int .i64 c1, .slice Ab nb cb]), .iface 110 (.agg #[lossF g2])]) (hB : B ≤ gl ∧ B ≤ g ∧ B ≤ g2 ∧ B ≤ gp) (hne : gl ≠ g ∧ g2 ≠ g ∧ gp ≠ g) :
  Calls Try.prog 51 #[.slice (some ⟨gp, 0, none⟩) 4 4, .slice A' n' c'] w fun e w' => ∃ v, e = .returned v ∧ w'.ownsRow w.heap.size 24 2 v n' (spanCells (rayL l rt (a0, a1) (b0, b1) (c0, c1) bd (fillsL ms cnt bl) n')) ∧ Below B w w' := by
 obtain ⟨i0, hi, hz0, hz1, hz2⟩ := info_parts spanInfo
 obtain ⟨Ba, Bb, Bc, Bd⟩ := hB
 obtain ⟨ne1, ne2, ne3⟩ := hne
 have hgw := hg.lt
 have hglw := hgl.lt
 have hg2w := hg2.lt
 have hgpw := hgp.lt
 have HT := hide hT
 have HTr := hide hTr
 have Hl := hide hl
 have Hlr := hide hlr
 have Hl' := hide hl'
 have Hlk := hide hlk
 have Hlb := hide hlb
 have Hn := hide hn
 have Hnr := hide hnr
 have Hn' := hide hn'
 have Hnk := hide hnk
 have Hnb := hide hnb
 have Hi := hide hi
 have Hz0 := hide hz0
 have Hz1 := hide hz1
 have Hz2 := hide hz2
 have Hok := hide hok
 have Hfac := hide hfac
 clear hT hTr hl hlr hl' hlk hlb hn hnr hn' hnk hnb hi hz0 hz1 hz2 hok hfac
 go_enter Try.func51, Try.ntmps51
 go_wp2_with fail
 go_loopw [5, 12] (fun o i wr => ∃ (k : Nat) (t : Int × Int) (dn : List (Int × Int)), k ≤ n' ∧ i = .int .i64 k ∧ wr.ownsRow w.heap.size 24 2 o k (spanCells (rayL l rt (a0, a1) (b0, b1) (c0, c1) bd (fillsL ms cnt bl) k)) ∧ Below B w wr ∧ w.heap.size ≤ wr.heap.size ∧
   Blk wr g 81 #[.int .i64 t.1, .int .i64 t.2, lossF gl] ∧ Blk wr gl 22 #[.slice A n c] ∧ Blk wr g2 22 #[.slice Ar nr cr] ∧ Blk wr gp 130 #[.iface 106 (.agg #[.int .i64 cnt, .slice Ak nk ck]), .iface 76 (.pointer (some ⟨g, 0, none⟩)), .iface 108 (.agg #[.slice A n c, .slice Ar nr cr, .int .i64 a0, .int .i64 a1, .int .i64 b0, .int .i64 b1, .int .i64 c0, .int .i64 c1, .slice Ab nb cb]), .iface 110 (.agg #[lossF g2])] ∧ Psg1 t ∧ dn.length = k ∧ restGo l whole (fillsL ms cnt bl) = dn ++ restGo l t ((fillsL ms cnt bl).drop k))
  (fun _ i _ => n' - (intOf i).toNat)
 case atStart => exact ⟨0, whole, [], by omega, rfl, World.ownsRow_nil _ _ _ _, Below.refl _ _, Nat.le_refl _, hg, hgl, hg2, hgp, whole_psg1, rfl, rfl⟩
 case round =>
  obtain ⟨k, t, dn, hk, rfl, hown, hbw, hsw, hbg, hbgl, hbg2, hbgp, ht, hdn, hgo⟩ := hrel
  have Hown := hide hown
  have HB := hide hbw
  have Hg := hide hbg
  have Hgl := hide hbgl
  have Hg2 := hide hbg2
  have Hgp := hide hbgp
  have Hgo := hide hgo
  have Ht := hide ht
  have Hdn := hide hdn
  clear hown hbw hbg hbgl hbg2 hbgp hgo ht hdn
  by_cases hlt : k < n'
  ·
   have hlt3 : (k : Int) < n' := by omega
   obtain ⟨b', off', rfl, hb', hc'⟩ := Hl'.out.pt (by have := Hn'.out; omega)
   have hpp := hc' k (by have := Hn'.out; omega)
   have hrs := rayL_succ l rt (a0, a1) (b0, b1) (c0, c1) bd (fillsL ms cnt bl) k
   have hgd := restGo_drop l t (fillsL ms cnt bl) k (by rw [fillsL_length]; have := Hn'.out; omega)
   rw [fillsL_get (by have := Hn'.out; omega)] at hgd
   have hokk := Hok.out k hlt
   have hfack := Hfac.out k hlt
   have hokm := fillS_okM hokk
   have hat : (restGo l whole (fillsL ms cnt bl)).getD k (0, 0) = restOne t (fillS (ms.getD k (0, 0)) cnt (bl.getD k (0, 0))) := by
    rw [Hgo.out, hgd, List.getD, List.getElem?_append_right (by have := Hdn.out; omega)]
    simp [Hdn.out]
   rw [hat] at hrs
   have cth := fun (p1 p2 : Int) (W : World) (ho : okF (p1, p2) cnt (bl.getD k (0, 0)) = true) (hI : Ints W W.heap.size .i64 Ak (flat2 bl)) => threads_any p1 p2 cnt Ak nk ck bl k W Hnk.out (by omega) ho hI
   have cly := fun (p1 p2 : Int) (W : World) (h1 : 0 ≤ p1 ∧ p1 ≤ 1073741824) (h2 : 0 ≤ p2 ∧ p2 ≤ 1073741824) (hI : Ints W W.heap.size .i64 Ab (flat2 bd)) => layer_any p1 p2 A n c Ar nr cr a0 a1 b0 b1 c0 c1 Ab nb cb bd k W Hnb.out (by omega) h1 h2 hfack hI
   generalize facS (a0, a1) (b0, b1) (c0, c1) (bd.getD k (0, 0)) = fk at *
   generalize bl.getD k (0, 0) = bk at *
   generalize ms.getD k (0, 0) = m at *
   obtain ⟨m1, m2⟩ := m
   simp only at hpp
   obtain ⟨p0, p1⟩ := hpp
   rw [← HB.out.cell (p := ⟨b', off' + k * 2, none⟩) (by show b' < B; omega)] at p0
   rw [← HB.out.cell (p := ⟨b', off' + k * 2 + 1, none⟩) (by show b' < B; omega)] at p1
   have cth2 := fun W hI => cth m1 m2 W hokk hI
   obtain ⟨f1, f2, hf⟩ : ∃ a b, fillS (m1, m2) cnt bk = (a, b) := ⟨_, _, rfl⟩
   rw [hf] at hgd hokm hrs
   simp only [hf] at cth2
   obtain ⟨q1, q2, hq⟩ : ∃ a b, restOne t (f1, f2) = (a, b) := ⟨_, _, rfl⟩
   have Hq := hide hq
   have hbd := restOne_bd Ht.out hokm
   rw [hq] at hbd hrs
   simp only at hbd
   obtain ⟨qa, qb, qc, qd⟩ := hbd
   obtain ⟨la, lb⟩ := layZ_bd hfack (z := (q1, q2)) qa qc
   have cly2 := fun W hI => cly q1 q2 W ⟨qa, qb⟩ ⟨qc, qd⟩ hI
   unfold rateZ at hrs
   obtain ⟨y1, y2, hy⟩ : ∃ a b, layZ fk (q1, q2) = (a, b) := ⟨_, _, rfl⟩
   rw [hy] at hrs la lb
   simp only [hy] at cly2
   simp only at hrs la lb
   unfold spanV at cth2 cly2
   simp only at cth2 cly2
   have crt := fun W hI hG => rating_any y1 y2 Ar nr cr rt 1000000 g2 k W Hnr.out HTr.out (by decide) la lb hI hG
   obtain ⟨v1, hv1⟩ : ∃ v, (valGo y1 rt).1 = v := ⟨_, rfl⟩
   obtain ⟨v2, hv2⟩ : ∃ v, (valGo y2 rt).2 = v := ⟨_, rfl⟩
   rw [hv1, hv2] at hrs
   simp only [hv1, hv2] at crt
   have Hgd := hide hgd
   have Hm := hide hokm
   have Hrs := hide hrs
   have Cth := hide cth2
   have Cly := hide cly2
   have Crt := hide crt
   clear hgd hokm hrs cth2 cly2 crt
   clear hc' hq hf hy hv1 hv2 cth cly hokk hfack hat la lb
   have hnz := own_high_ne Hown.out (Nat.le_refl _)
   have hgr0 : g < wr.heap.size := by omega
   have hbr : b' < wr.heap.size := by omega
   have hBr : B < wr.heap.size := by omega
   go_wp2_with fail
   refine code_world fun W hW => ?_
   have bq0 : Blk W wr.heap.size 24 #[.int .i64 m1, .int .i64 m2] := by rw [hW]; exact Blk.new _ _ _
   have LW : Later wr W := by rw [hW]; exact ((Below.refl _ _).alloc (Nat.le_refl _) _)
   have szW : W.heap.size = wr.heap.size + 1 := by rw [hW]; simp
   clear hW
   replace HB := hide (belowg HB.out LW (by omega))
   replace Hg := hide (blk_later Hg.out LW)
   replace Hgl := hide (blk_later Hgl.out LW)
   replace Hg2 := hide (blk_later Hg2.out LW)
   replace Hgp := hide (blk_later Hgp.out LW)
   replace Hown := hide (own_later Hown.out LW)
   have Hz := hide bq0
   clear bq0 LW szW
   have hzW : wr.heap.size < W.heap.size := Hz.out.lt
   refine wp_loop_rounds 5 ?_
   rw [rounds_succ]
   obtain ⟨z0, z1⟩ := Hz.out.c2
   have ltz := Hz.out.lt
   obtain ⟨y0, y1, y2, y3⟩ := Hgp.out.c4
   have lty := Hgp.out.lt
   clear p0 p1
   go_wp2_with fail
   refine (Cth.out _ ((Hlk.out.below HB.out).more (by omega))).mono ?_
   rintro e w2 ⟨rfl, hb⟩
   replace HB := hide (belowg HB.out hb (by omega))
   replace Hg := hide (blk_later Hg.out hb)
   replace Hgl := hide (blk_later Hgl.out hb)
   replace Hg2 := hide (blk_later Hg2.out hb)
   replace Hgp := hide (blk_later Hgp.out hb)
   replace Hown := hide (own_later Hown.out hb)
   replace Hz := hide (blk_later Hz.out hb)
   clear hb z0 z1 ltz y0 y1 y2 y3 lty
   have hz2 : wr.heap.size < w2.heap.size := Hz.out.lt
   obtain ⟨z0, z1⟩ := Hz.out.c2
   have ltz := Hz.out.lt
   have fz0 := Hz.out.frozen 0
   have fz1 := Hz.out.frozen 1
   go_wp2_with fail
   rw [rounds_succ]
   refine code_world fun W3 hW => ?_
   have hz5 : Blk W3 wr.heap.size 24 #[.int .i64 f1, .int .i64 f2] := by rw [hW]; exact blk_eq2 ((Hz.out.set_ 0 _).set_ 1 _) (by simp)
   have hg5 : Blk W3 g 81 #[.int .i64 t.1, .int .i64 t.2, lossF gl] := by rw [hW]; exact (Hg.out.far (by simp; omega) _).far (by simp; omega) _
   have hgl5 : Blk W3 gl 22 #[.slice A n c] := by rw [hW]; exact (Hgl.out.far (by simp; omega) _).far (by simp; omega) _
   have hg25 : Blk W3 g2 22 #[.slice Ar nr cr] := by rw [hW]; exact (Hg2.out.far (by simp; omega) _).far (by simp; omega) _
   have hgp5 : Blk W3 gp 130 #[.iface 106 (.agg #[.int .i64 cnt, .slice Ak nk ck]), .iface 76 (.pointer (some ⟨g, 0, none⟩)), .iface 108 (.agg #[.slice A n c, .slice Ar nr cr, .int .i64 a0, .int .i64 a1, .int .i64 b0, .int .i64 b1, .int .i64 c0, .int .i64 c1, .slice Ab nb cb]), .iface 110 (.agg #[lossF g2])] := by rw [hW]; exact (Hgp.out.far (by simp; omega) _).far (by simp; omega) _
   have hB5 : Below B w W3 := by
    rw [hW]
    repeat (first | exact HB.out | (refine Below.setCell ?_ (by first | omega | (simp <;> omega)) _) | (refine Below.alloc ?_ (by first | omega | (simp <;> omega)) _) | (refine below_drewN ?_ _))
   have hO5 := own_grown (own_grown Hown.out (grown_setCell w2 wr.heap.size 0 (.int .i64 f1)) hnz) (grown_setCell _ wr.heap.size 1 (.int .i64 f2)) hnz
   rw [← hW] at hO5
   replace HB := hide hB5
   replace Hg := hide hg5
   replace Hgl := hide hgl5
   replace Hg2 := hide hg25
   replace Hgp := hide hgp5
   replace Hown := hide hO5
   replace Hz := hide hz5
   clear hW hB5 hg5 hgl5 hg25 hgp5 hO5 hz5
   clear z0 z1 ltz fz0 fz1
   have hzsW3 : wr.heap.size < W3.heap.size := Hz.out.lt
   obtain ⟨z0, z1⟩ := Hz.out.c2
   have ltz := Hz.out.lt
   obtain ⟨y0, y1, y2, y3⟩ := Hgp.out.c4
   have lty := Hgp.out.lt
   go_wp2_with fail
   refine (pdo_any A n c l t (f1, f2) g gl k W3 Hn.out HT.out Ht.out Hm.out ((Hl.out.below HB.out).more (by omega)) Hg.out Hgl.out).mono ?_
   rintro e w4 ⟨rfl, hgr, hbk⟩
   rw [Hq.out] at hbk ⊢
   simp only at hbk ⊢
   replace Hown := hide (own_grown Hown.out hgr (own_ne Hown.out Hg.out (by decide)))
   replace HB := hide (below_gr HB.out hgr (by omega) (by omega))
   replace Hgl := hide (blk_grown Hgl.out hgr (by simp; omega))
   replace Hg2 := hide (blk_grown Hg2.out hgr (by simp; omega))
   replace Hgp := hide (blk_grown Hgp.out hgr (by simp; omega))
   replace Hz := hide (blk_grown Hz.out hgr (by simp; omega))
   replace Hg := hide hbk
   clear hgr hbk
   obtain ⟨t', htt⟩ : ∃ t', nextT l t (q1, q2) = t' := ⟨_, rfl⟩
   have hnx := nextT_psg1 HT.out Ht.out (z := (q1, q2)) (by simp only; omega) (by simp only; omega)
   rw [htt] at hnx Hg
   have hgd2 := Hgd.out
   rw [Hq.out, htt] at hgd2
   have Hnx := hide hnx
   have Hgd2 := hide hgd2
   clear hnx hgd2
   clear htt Hgd
   have hz2 : wr.heap.size < w4.heap.size := Hz.out.lt
   clear z0 z1 ltz y0 y1 y2 y3 lty
   obtain ⟨z0, z1⟩ := Hz.out.c2
   have ltz := Hz.out.lt
   have fz0 := Hz.out.frozen 0
   have fz1 := Hz.out.frozen 1
   go_wp2_with fail
   rw [rounds_succ]
   refine code_world fun W5 hW => ?_
   have hz5 : Blk W5 wr.heap.size 24 #[.int .i64 q1, .int .i64 q2] := by rw [hW]; exact blk_eq2 ((Hz.out.set_ 0 _).set_ 1 _) (by simp)
   have hg5 : Blk W5 g 81 #[.int .i64 t'.1, .int .i64 t'.2, lossF gl] := by rw [hW]; exact (Hg.out.far (by simp; omega) _).far (by simp; omega) _
   have hgl5 : Blk W5 gl 22 #[.slice A n c] := by rw [hW]; exact (Hgl.out.far (by simp; omega) _).far (by simp; omega) _
   have hg25 : Blk W5 g2 22 #[.slice Ar nr cr] := by rw [hW]; exact (Hg2.out.far (by simp; omega) _).far (by simp; omega) _
   have hgp5 : Blk W5 gp 130 #[.iface 106 (.agg #[.int .i64 cnt, .slice Ak nk ck]), .iface 76 (.pointer (some ⟨g, 0, none⟩)), .iface 108 (.agg #[.slice A n c, .slice Ar nr cr, .int .i64 a0, .int .i64 a1, .int .i64 b0, .int .i64 b1, .int .i64 c0, .int .i64 c1, .slice Ab nb cb]), .iface 110 (.agg #[lossF g2])] := by rw [hW]; exact (Hgp.out.far (by simp; omega) _).far (by simp; omega) _
   have hB5 : Below B w W5 := by
    rw [hW]
    repeat (first | exact HB.out | (refine Below.setCell ?_ (by first | omega | (simp <;> omega)) _) | (refine Below.alloc ?_ (by first | omega | (simp <;> omega)) _) | (refine below_drewN ?_ _))
   have hO5 := own_grown (own_grown Hown.out (grown_setCell w4 wr.heap.size 0 (.int .i64 q1)) hnz) (grown_setCell _ wr.heap.size 1 (.int .i64 q2)) hnz
   rw [← hW] at hO5
   replace HB := hide hB5
   replace Hg := hide hg5
   replace Hgl := hide hgl5
   replace Hg2 := hide hg25
   replace Hgp := hide hgp5
   replace Hown := hide hO5
   replace Hz := hide hz5
   clear hW hB5 hg5 hgl5 hg25 hgp5 hO5 hz5
   clear z0 z1 ltz fz0 fz1
   have hzsW5 : wr.heap.size < W5.heap.size := Hz.out.lt
   obtain ⟨z0, z1⟩ := Hz.out.c2
   have ltz := Hz.out.lt
   obtain ⟨y0, y1, y2, y3⟩ := Hgp.out.c4
   have lty := Hgp.out.lt
   go_wp2_with fail
   refine (Cly.out _ ((Hlb.out.below HB.out).more (by omega))).mono ?_
   rintro e w6 ⟨rfl, hb⟩
   replace HB := hide (belowg HB.out hb (by omega))
   replace Hg := hide (blk_later Hg.out hb)
   replace Hgl := hide (blk_later Hgl.out hb)
   replace Hg2 := hide (blk_later Hg2.out hb)
   replace Hgp := hide (blk_later Hgp.out hb)
   replace Hz := hide (blk_later Hz.out hb)
   replace Hown := hide (own_later Hown.out hb)
   clear hb z0 z1 ltz y0 y1 y2 y3 lty
   have hz2 : wr.heap.size < w6.heap.size := Hz.out.lt
   obtain ⟨z0, z1⟩ := Hz.out.c2
   have ltz := Hz.out.lt
   have fz0 := Hz.out.frozen 0
   have fz1 := Hz.out.frozen 1
   go_wp2_with fail
   rw [rounds_succ]
   refine code_world fun W7 hW => ?_
   have hz5 : Blk W7 wr.heap.size 24 #[.int .i64 y1, .int .i64 y2] := by rw [hW]; exact blk_eq2 ((Hz.out.set_ 0 _).set_ 1 _) (by simp)
   have hg5 : Blk W7 g 81 #[.int .i64 t'.1, .int .i64 t'.2, lossF gl] := by rw [hW]; exact (Hg.out.far (by simp; omega) _).far (by simp; omega) _
   have hgl5 : Blk W7 gl 22 #[.slice A n c] := by rw [hW]; exact (Hgl.out.far (by simp; omega) _).far (by simp; omega) _
   have hg25 : Blk W7 g2 22 #[.slice Ar nr cr] := by rw [hW]; exact (Hg2.out.far (by simp; omega) _).far (by simp; omega) _
   have hgp5 : Blk W7 gp 130 #[.iface 106 (.agg #[.int .i64 cnt, .slice Ak nk ck]), .iface 76 (.pointer (some ⟨g, 0, none⟩)), .iface 108 (.agg #[.slice A n c, .slice Ar nr cr, .int .i64 a0, .int .i64 a1, .int .i64 b0, .int .i64 b1, .int .i64 c0, .int .i64 c1, .slice Ab nb cb]), .iface 110 (.agg #[lossF g2])] := by rw [hW]; exact (Hgp.out.far (by simp; omega) _).far (by simp; omega) _
   have hB5 : Below B w W7 := by
    rw [hW]
    repeat (first | exact HB.out | (refine Below.setCell ?_ (by first | omega | (simp <;> omega)) _) | (refine Below.alloc ?_ (by first | omega | (simp <;> omega)) _) | (refine below_drewN ?_ _))
   have hO5 := own_grown (own_grown Hown.out (grown_setCell w6 wr.heap.size 0 (.int .i64 y1)) hnz) (grown_setCell _ wr.heap.size 1 (.int .i64 y2)) hnz
   rw [← hW] at hO5
   replace HB := hide hB5
   replace Hg := hide hg5
   replace Hgl := hide hgl5
   replace Hg2 := hide hg25
   replace Hgp := hide hgp5
   replace Hown := hide hO5
   replace Hz := hide hz5
   clear hW hB5 hg5 hgl5 hg25 hgp5 hO5 hz5
   clear z0 z1 ltz fz0 fz1
   have hzsW7 : wr.heap.size < W7.heap.size := Hz.out.lt
   obtain ⟨z0, z1⟩ := Hz.out.c2
   have ltz := Hz.out.lt
   obtain ⟨y0, y1, y2, y3⟩ := Hgp.out.c4
   have lty := Hgp.out.lt
   go_wp2_with fail
   refine (Crt.out _ ((Hlr.out.below HB.out).more (by omega)) Hg2.out).mono ?_
   rintro e w8 ⟨rfl, hb⟩
   replace HB := hide (belowg HB.out hb (by omega))
   replace Hg := hide (blk_later Hg.out hb)
   replace Hgl := hide (blk_later Hgl.out hb)
   replace Hg2 := hide (blk_later Hg2.out hb)
   replace Hgp := hide (blk_later Hgp.out hb)
   replace Hz := hide (blk_later Hz.out hb)
   replace Hown := hide (own_later Hown.out hb)
   clear hb z0 z1 ltz y0 y1 y2 y3 lty
   have hz2 : wr.heap.size < w8.heap.size := Hz.out.lt
   obtain ⟨z0, z1⟩ := Hz.out.c2
   have ltz := Hz.out.lt
   have fz0 := Hz.out.frozen 0
   have fz1 := Hz.out.frozen 1
   go_wp2_with fail
   rw [rounds_succ]
   refine code_world fun W9 hW => ?_
   have hz5 : Blk W9 wr.heap.size 24 #[.int .i64 v1, .int .i64 v2] := by rw [hW]; exact blk_eq2 ((Hz.out.set_ 0 _).set_ 1 _) (by simp)
   have hg5 : Blk W9 g 81 #[.int .i64 t'.1, .int .i64 t'.2, lossF gl] := by rw [hW]; exact (Hg.out.far (by simp; omega) _).far (by simp; omega) _
   have hgl5 : Blk W9 gl 22 #[.slice A n c] := by rw [hW]; exact (Hgl.out.far (by simp; omega) _).far (by simp; omega) _
   have hg25 : Blk W9 g2 22 #[.slice Ar nr cr] := by rw [hW]; exact (Hg2.out.far (by simp; omega) _).far (by simp; omega) _
   have hgp5 : Blk W9 gp 130 #[.iface 106 (.agg #[.int .i64 cnt, .slice Ak nk ck]), .iface 76 (.pointer (some ⟨g, 0, none⟩)), .iface 108 (.agg #[.slice A n c, .slice Ar nr cr, .int .i64 a0, .int .i64 a1, .int .i64 b0, .int .i64 b1, .int .i64 c0, .int .i64 c1, .slice Ab nb cb]), .iface 110 (.agg #[lossF g2])] := by rw [hW]; exact (Hgp.out.far (by simp; omega) _).far (by simp; omega) _
   have hB5 : Below B w W9 := by
    rw [hW]
    repeat (first | exact HB.out | (refine Below.setCell ?_ (by first | omega | (simp <;> omega)) _) | (refine Below.alloc ?_ (by first | omega | (simp <;> omega)) _) | (refine below_drewN ?_ _))
   have hO5 := own_grown (own_grown Hown.out (grown_setCell w8 wr.heap.size 0 (.int .i64 v1)) hnz) (grown_setCell _ wr.heap.size 1 (.int .i64 v2)) hnz
   rw [← hW] at hO5
   replace HB := hide hB5
   replace Hg := hide hg5
   replace Hgl := hide hgl5
   replace Hg2 := hide hg25
   replace Hgp := hide hgp5
   replace Hown := hide hO5
   replace Hz := hide hz5
   clear hW hB5 hg5 hgl5 hg25 hgp5 hO5 hz5
   clear z0 z1 ltz fz0 fz1
   have hzsW9 : wr.heap.size < W9.heap.size := Hz.out.lt
   have hsw5 : w.heap.size ≤ W9.heap.size := by omega
   have hBlt : B < w.heap.size := by omega
   have neHz : (_ : Value).ownBlock ≠ some wr.heap.size := hnz
   obtain ⟨z0, z1⟩ := Hz.out.c2
   have ltz := Hz.out.lt
   go_wp2_with (at_builtin; refine wpList_append_own _ rfl (.tmp 28) (.tmp 30) _ rfl w.heap.size 24 i0 _ 2 16 Try.underlying31 Hi.out Hz0.out Hz1.out Hz2.out rfl (by decide) _ k _ rfl (Hown.out.alloc _) ⟨W9.heap.size, 0, none⟩ 1 1 [.int .i64 v1, .int .i64 v2] rfl rfl ?q1c1 ?q1c2 ?q1c3 ?q1c4 ?q1c5 ?_)
   try case q1c1 => exact new_cells W9 _ [.int .i64 v1, .int .i64 v2]
   case q1c2 => intro u hu; simp at hu; rcases hu with rfl | rfl <;> rfl
   case q1c3 => unfold maxLen; omega
   case q1c4 => omega
   case q1c5 => simp; omega
   intro v' w10 hown2 hgr2 _
   replace HB := hide (belowg_own (HB.out.alloc (by omega) _) hgr2 Hown.out ⟨by omega, by simp; omega⟩)
   replace Hg := hide (blk_grown (Hg.out.alloc _) hgr2 (own_low_ne Hown.out (by omega)))
   replace Hgl := hide (blk_grown (Hgl.out.alloc _) hgr2 (own_low_ne Hown.out (by omega)))
   replace Hg2 := hide (blk_grown (Hg2.out.alloc _) hgr2 (own_low_ne Hown.out (by omega)))
   replace Hgp := hide (blk_grown (Hgp.out.alloc _) hgr2 (own_low_ne Hown.out (by omega)))
   replace Hz := hide (blk_grown (Hz.out.alloc _) hgr2 neHz)
   replace Hown := hide hown2
   clear hown2 hgr2 z0 z1 ltz
   go_wp2
   go_roundw
   case rel =>
    refine ⟨k + 1, t', dn ++ [(q1, q2)], by omega, by go_num, ?_, HB.out, (by have := Hz.out.lt; omega), Hg.out, Hgl.out, Hg2.out, Hgp.out, Hnx.out, by simp [Hdn.out], ?_⟩
    ·
     have := Hown.out
     rw [show [Value.int .i64 v1, .int .i64 v2] = #[Value.int .i64 v1, .int .i64 v2].toList from rfl, spanCells_snoc] at this
     rw [Hrs.out]
     exact this
    · rw [Hgo.out, Hgd2.out]; simp
   case measure => simp [intOf] <;> omega
  ·
   obtain rfl : k = n' := by omega
   have hlt3 : ¬ ((k : Int) < k) := by omega
   go_wp2
   go_ret
   exact ⟨_, rfl, Hown.out, HB.out⟩
end Go.Proofs.Ytepgpihobmjbdaa
end
section
namespace Go.Proofs.Ytepgpihobmjbdaa
def measZ (n : Int) (p : Int × Int) (left w : Int) : Int × Int := (max 0 (p.1 * left / n - w), min 1073741824 ((p.2 * left + n - 1) / n + w))
theorem meas_bd {n left : Int} {p : Int × Int} (hn : 1 ≤ n) (hp : okM p = true) (hl : 0 ≤ left ∧ left ≤ n) : 0 ≤ p.1 * left / n ∧ p.1 * left / n ≤ p.1 ∧ p.1 * left / n ≤ (p.2 * left + n - 1) / n ∧ 0 ≤ p.1 * left ∧ 0 ≤ p.2 * left ∧ p.2 * left ≤ p.2 * n ∧ p.1 * left ≤ p.1 * n := by
 obtain ⟨a, b, c⟩ := okM_iff hp
 have m1 : 0 ≤ p.1 * left := Int.mul_nonneg a hl.1
 have m2 : p.1 * left ≤ p.2 * left := Int.mul_le_mul_of_nonneg_right b hl.1
 have m3 : p.2 * left ≤ p.2 * n := Int.mul_le_mul_of_nonneg_left hl.2 (by omega)
 have m4 : p.1 * left ≤ p.1 * n := Int.mul_le_mul_of_nonneg_left hl.2 a
 have d1 := div_bd (b := n) m1 hn (C := p.1) m4
 have d2 : p.1 * left / n ≤ (p.2 * left + n - 1) / n := Int.ediv_le_ediv (by omega) (by omega)
 exact ⟨d1.1, d1.2, d2, m1, by omega, m3, m4⟩
theorem meas_ok {n left w : Int} {p : Int × Int} (hn : 1 ≤ n) (hp : okM p = true) (hl : 0 ≤ left ∧ left ≤ n) (hw : 0 ≤ w) : okM (measZ n p left w) = true := by
 obtain ⟨a, b, c⟩ := okM_iff hp
 obtain ⟨d1, d2, d3, -⟩ := meas_bd hn hp hl
 unfold measZ okM
 simp only
 exact decide_eq_true (by omega)
theorem fill_has {n left w : Int} {p b : Int × Int} (hn : 1 ≤ n) (hp : okM p = true) (hb : 0 ≤ b.1 ∧ b.1 ≤ b.2 ∧ b.2 ≤ n) (hl : n - b.2 ≤ left ∧ left ≤ n - b.1) (hw : 0 ≤ w) :
  (fillS (measZ n p left w) n b).1 ≤ p.1 ∧ p.2 ≤ (fillS (measZ n p left w) n b).2 := by
 obtain ⟨p0, p1, p2⟩ := okM_iff hp
 obtain ⟨d1, d2, d3, m1, m2, m3, m4⟩ := meas_bd hn hp (left := left) ⟨by omega, by omega⟩
 unfold fillS measZ
 simp only
 constructor
 ·
  have q1 := Int.ediv_mul_le (p.1 * left) (show n ≠ 0 by omega)
  have hx : max 0 (p.1 * left / n - w) ≤ p.1 * left / n := by omega
  have hx0 : 0 ≤ max 0 (p.1 * left / n - w) := by omega
  generalize max 0 (p.1 * left / n - w) = x at *
  have q2 : x * n ≤ p.1 * left / n * n := Int.mul_le_mul_of_nonneg_right hx (by omega)
  by_cases hz : n - b.1 = 0
  ·
   have hl0 : left = 0 := by omega
   subst hl0
   rw [Int.mul_zero] at *
   rw [show max 1 (n - b.1) = 1 by omega, Int.ediv_one]
   omega
  ·
   rw [show max 1 (n - b.1) = n - b.1 by omega]
   have q3 : p.1 * left ≤ p.1 * (n - b.1) := Int.mul_le_mul_of_nonneg_left hl.2 p0
   have : x * n / (n - b.1) < p.1 + 1 := Int.ediv_lt_of_lt_mul (by omega) (by rw [Int.add_mul]; omega)
   omega
 ·
  split
  ·
   rename_i hbn
   have c1 : p.2 * left ≤ cdiv (p.2 * left) n * n := le_cdiv_mul hn
   rw [cdiv_eq (by omega)] at c1
   generalize (p.2 * left + n - 1) / n = q at *
   have c2 : p.2 * (n - b.2) ≤ p.2 * left := Int.mul_le_mul_of_nonneg_left hl.1 (by omega)
   have c3 : p.2 * (n - b.2) ≤ 1073741824 * n := Int.mul_le_mul p2 (by omega) (by omega) (by omega)
   have key : p.2 * (n - b.2) ≤ min 1073741824 (q + w) * n := by
    by_cases h : 1073741824 ≤ q + w
    · rw [show min 1073741824 (q + w) = 1073741824 by omega]; exact c3
    ·
     rw [show min 1073741824 (q + w) = q + w by omega, Int.add_mul]
     have : 0 ≤ w * n := Int.mul_nonneg hw (by omega)
     omega
   have c4 := le_cdiv_mul (a := min 1073741824 (q + w) * n) (b := n - b.2) (by omega)
   have := Int.le_of_mul_le_mul_right (Int.le_trans key c4) (show 0 < n - b.2 by omega)
   omega
  · omega
theorem whole_w : Wid whole whole := ⟨Int.le_refl _, Int.le_refl _⟩
theorem rain_truth {loss rt : List (Int × Int)} (hT : Tab loss 32768) (hTr : Tab rt 1000000) {pw : List Int} (hpw : ∀ z ∈ pw, 0 ≤ z ∧ z ≤ 1073741824) {n : Int} (hn : 1 ≤ n ∧ n ≤ 17) {bl ms bd : List (Int × Int)} (hms : ms.length = pw.length)
  (hb : ∀ j, j < pw.length → 0 ≤ (bl.getD j (0, 0)).1 ∧ (bl.getD j (0, 0)).1 ≤ (bl.getD j (0, 0)).2 ∧ (bl.getD j (0, 0)).2 ≤ n) {left w : Nat → Int}
  (hl : ∀ j, j < pw.length → n - (bl.getD j (0, 0)).2 ≤ left j ∧ left j ≤ n - (bl.getD j (0, 0)).1) (hw : ∀ j, j < pw.length → 0 ≤ w j)
  (hm : ∀ j, j < pw.length → ms.getD j (0, 0) = measZ n ((passGo loss whole pw).getD j (0, 0)) (left j) (w j)) {melt inn above : Int × Int} (hf : ∀ j, j < pw.length → FacOk (facS melt inn above (bd.getD j (0, 0)))) {k : Nat → Int}
  (hk : ∀ j, j < pw.length → (facS melt inn above (bd.getD j (0, 0))).1 ≤ k j ∧ k j ≤ (facS melt inn above (bd.getD j (0, 0))).2) :
  ∀ j, j < pw.length → ((rayL loss rt melt inn above bd (fillsL ms n bl) pw.length).getD j (0, 0)).1 ≤ (valGo (min 1073741824 (pw.getD j 0 * k j / 1000)) rt).1 ∧
   (valGo (min 1073741824 ((pw.getD j 0 * k j + 999) / 1000)) rt).2 ≤ ((rayL loss rt melt inn above bd (fillsL ms n bl) pw.length).getD j (0, 0)).2 := fun j hj => by
 have wp : Psg1 whole := whole_psg1
 have h1 := back_ok hT pw whole whole wp wp.toPsg (Int.le_refl _) whole_w hpw
 have l1 : (passGo loss whole pw).length = pw.length := passGo_length _ _ _
 have l2 : (fillsL ms n bl).length = pw.length := by rw [fillsL_length, hms]
 have g2 : ∀ i, i < pw.length → (fillsL ms n bl).getD i (0, 0) = fillS (measZ n ((passGo loss whole pw).getD i (0, 0)) (left i) (w i)) n (bl.getD i (0, 0)) := fun i hi => by
  rw [fillsL_get (by rw [hms]; exact hi), hm i hi]
 have h2 := wid_ok hT (passGo loss whole pw) (fillsL ms n bl) whole whole (by rw [l1, l2]) wp wp whole_w (fun i hi => by
  rw [l1] at hi
  obtain ⟨a, -, -⟩ := h1 i hi
  have b := hb i hi
  have c := hl i hi
  rw [g2 i hi]
  refine ⟨a, fillS_okM ?_, fill_has hn.1 a b c (hw i hi)⟩
  unfold okF
  rw [meas_ok hn.1 a ⟨by omega, by omega⟩ (hw i hi), show win n 1 17 = true from win_iff.2 hn]
  simp only [Bool.true_and]
  exact decide_eq_true b)
 rw [l1] at h2
 obtain ⟨-, x1, x2⟩ := h1 j hj
 obtain ⟨y1, y2⟩ := h2 j hj
 have hr : (rayL loss rt melt inn above bd (fillsL ms n bl) pw.length).getD j (0, 0) = rateZ rt (facS melt inn above (bd.getD j (0, 0))) ((restGo loss whole (fillsL ms n bl)).getD j (0, 0)) := by simp [rayL, List.getD, hj]
 rw [hr]
 have hz0 : 0 ≤ ((restGo loss whole (fillsL ms n bl)).getD j (0, 0)).1 := by
  rw [← Nat.add_zero j] at *
  have hall : (fillsL ms n bl).all okM = true := all_okM (fun i hi => by
   rw [l2] at hi
   obtain ⟨a, -, -⟩ := h1 i hi
   rw [g2 i hi]
   refine fillS_okM ?_
   unfold okF
   have b := hb i hi
   have c := hl i hi
   rw [meas_ok hn.1 a ⟨by omega, by omega⟩ (hw i hi), show win n 1 17 = true from win_iff.2 hn]
   simp only [Bool.true_and]
   exact decide_eq_true b)
  have key : ∀ (ms : List (Int × Int)) (t : Int × Int), Psg1 t → ms.all okM = true → ∀ i, i < ms.length → 0 ≤ ((restGo loss t ms).getD i (0, 0)).1 := by
   intro ms
   induction ms with
   | nil => intro t _ _ i hi; simp at hi
   | cons m r ih =>
    intro t ht ha i hi
    rw [List.all_cons, Bool.and_eq_true] at ha
    have h3 := restOne_bd ht ha.1
    cases i with
    | zero => exact h3.1
    | succ i => exact ih (nextT loss t (restOne t m)) (nextT_psg1 hT ht h3.1 h3.2.2.1) ha.2 i (by simpa using hi)
  exact key _ whole wp hall _ (by rw [l2]; exact hj)
 have pz := hpw (pw.getD j 0) (by simp only [List.getD, List.getElem?_eq_getElem hj, Option.getD_some]; exact List.getElem_mem hj)
 have hkj := hk j hj
 obtain ⟨f0, f1, f2, f3⟩ := hf j hj
 generalize facS melt inn above (bd.getD j (0, 0)) = f at *
 have hzz : ((restGo loss whole (fillsL ms n bl)).getD j (0, 0)).1 ≤ pw.getD j 0 ∧ pw.getD j 0 ≤ ((restGo loss whole (fillsL ms n bl)).getD j (0, 0)).2 := ⟨by omega, by omega⟩
 generalize (restGo loss whole (fillsL ms n bl)).getD j (0, 0) = z at *
 generalize pw.getD j 0 = p at *
 generalize k j = q at *
 obtain ⟨hz1, hz2⟩ := hzz
 unfold rateZ layZ capI
 simp only
 have m1 : z.1 * f.1 ≤ p * q := Int.mul_le_mul hz1 hkj.1 f0 (by omega)
 have m2 : p * q ≤ z.2 * f.2 := Int.mul_le_mul hz2 hkj.2 (by omega) (by omega)
 have m0 : 0 ≤ z.1 * f.1 := Int.mul_nonneg hz0 f0
 have e1 : z.1 * f.1 / 1000 ≤ p * q / 1000 := Int.ediv_le_ediv (by omega) m1
 have e2 : (p * q + 999) / 1000 ≤ cdiv (z.2 * f.2) 1000 := by
  rw [cdiv_eq (by omega)]
  exact Int.ediv_le_ediv (by omega) (by omega)
 have e0 : 0 ≤ z.1 * f.1 / 1000 := Int.ediv_nonneg m0 (by omega)
 have e3 : 0 ≤ (p * q + 999) / 1000 := Int.ediv_nonneg (by omega) (by omega)
 exact ⟨(val_mono hTr (by omega) (by omega)).1, (val_mono hTr (by omega) (by omega)).2⟩
end Go.Proofs.Ytepgpihobmjbdaa
end
