/-
  A power without what is in the way: rain's and the reference's.
  Quotients of the reference, rounded down and up: its contracts.
-/
import Derived.Test.YtepgpihobmjbdaaBeam2Math
import Derived.Test.YtepgpihobmjbdaaRtRrGauge
import Derived.Test.YtepgpihobmjbdaaRtTable
import Derived.Test.YtepgpihobmjbdaaRegQ
import Derived.Test.YtepgpihobmjbdaaProg
set_option linter.unusedSimpArgs false
set_option linter.unusedVariables false
section
namespace Go.Proofs.Ytepgpihobmjbdaa
open Go.RowKit
theorem capped_any (a b : Int) (w : World) :
  Calls Try.prog 89 #[.int .i64 a, .int .i64 b] w fun e w' => e = .returned (.agg #[.int .i64 (capI a), .int .i64 (capI b)]) ∧ Below w.heap.size w w' := by
 obtain ⟨x, ex⟩ : ∃ x, (if 1073741824 < a then 1073741824 else a) = x := ⟨_, rfl⟩
 obtain ⟨y, ey⟩ : ∃ y, (if 1073741824 < b then 1073741824 else b) = y := ⟨_, rfl⟩
 have h1 : capI a = x := (min_if a 1073741824).trans ex
 have h2 : capI b = y := (min_if b 1073741824).trans ey
 have H1 := hide h1
 have H2 := hide h2
 clear h1 h2
 go_enter Try.func89, Try.ntmps89
 go_wp2
 refine bodyPost_ret (v := .agg #[.int .i64 x, .int .i64 y]) (by simp [results, Try.results89, go_sem]) rfl ⟨by rw [H1.out, H2.out], ?_⟩
 exact (Below.refl _ _).alloc (Nat.le_refl _) _
theorem okF_iff {p : Int × Int} {n : Int} {b : Int × Int} (h : okF p n b = true) : 0 ≤ p.1 ∧ p.1 ≤ p.2 ∧ p.2 ≤ 1073741824 ∧ 1 ≤ n ∧ n ≤ 17 ∧ 0 ≤ b.1 ∧ b.1 ≤ b.2 ∧ b.2 ≤ n := by
 simp only [okF, Bool.and_eq_true] at h
 obtain ⟨⟨h1, h2⟩, h3⟩ := h
 have a := okM_iff h1
 have b' := win_iff.1 h2
 have c : 0 ≤ b.1 ∧ b.1 ≤ b.2 ∧ b.2 ≤ n := by simpa [ins] using h3
 omega
set_option maxHeartbeats 1000000 in
set_option maxRecDepth 100000 in
theorem fill_any (p1 p2 n b1 b2 : Int) (w : World) (h : okF (p1, p2) n (b1, b2) = true) :
  Calls Try.prog 88 #[.agg #[.int .i64 p1, .int .i64 p2], .int .i64 n, .agg #[.int .i64 b1, .int .i64 b2]] w fun e w' => e = .returned (spanV (fillS (p1, p2) n (b1, b2))) ∧ Below w.heap.size w w' := by
 obtain ⟨h1, h2, h3, h4, h5, h6, h7, h8⟩ := okF_iff h
 simp only at h1 h2 h3 h6 h7 h8
 obtain ⟨m1, m2⟩ := mul_bd (a := p1) (b := n) (A := 1073741824) (B := 17) h1 (by omega) (by omega) h5
 obtain ⟨m3, m4⟩ := mul_bd (a := p2) (b := n) (A := 1073741824) (B := 17) (by omega) h3 (by omega) h5
 have hS : fillS (p1, p2) n (b1, b2) = (capI (p1 * n / max 1 (n - b1)), if b2 < n then capI (cdiv (p2 * n) (n - b2)) else 1073741824) := by
  simp only [fillS, capI]
  rw [Int.min_comm, Int.min_comm 1073741824]
 generalize fillS (p1, p2) n (b1, b2) = r at *
 clear h
 by_cases c1 : n = b1
 ·
  have hR : r = (capI (p1 * n), capI 1073741824) := by
   rw [hS, if_neg (by omega), show max 1 (n - b1) = 1 by omega, Int.ediv_one]; rfl
  have HR := hide hR
  have t1 : (n == b1) = true := by simpa using c1
  have Hcap := hide (fun W => capped_any (p1 * n) 1073741824 W)
  clear hS hR c1
  generalize capI (p1 * n) = x at *
  generalize capI 1073741824 = y at *
  go_enter Try.func88, Try.ntmps88
  have HB := hide (Below.refl w.heap.size w)
  go_wp2_with fail
  refine at_world fun W hW => ?_
  have bq0 : Blk W w.heap.size 24 #[.int .i64 p1, .int .i64 p2] := by rw [hW]; exact ((Blk.new _ _ _).alloc _).alloc _
  have bq1 : Blk W (w.heap.size + 1) 24 #[.int .i64 b1, .int .i64 b2] := by rw [hW]; exact (blk_new_at (by simp)).alloc _
  have bq2 : Blk W (w.heap.size + 2) 24 #[.int .i64 0, .int .i64 0] := by rw [hW]; exact blk_new_at (by simp)
  have LW : Later w W := by rw [hW]; exact ((((Below.refl _ _).alloc (Nat.le_refl _) _).alloc (by simp; try omega) _).alloc (by simp; try omega) _)
  have szW : W.heap.size = w.heap.size + 3 := by rw [hW]; simp
  clear hW
  replace HB := hide (onward HB.out LW)
  have Hbp := hide bq0
  have Hbb := hide bq1
  have Hbo := hide bq2
  clear bq0 bq1 bq2 LW szW
  refine (Hcap.out _).mono ?_
  rintro e w1 ⟨rfl, hb⟩
  replace HB := hide (onward HB.out hb)
  replace Hbp := hide (blk_later Hbp.out hb)
  replace Hbb := hide (blk_later Hbb.out hb)
  replace Hbo := hide (blk_later Hbo.out hb)
  clear hb
  obtain ⟨e0, e1⟩ := Hbo.out.c2
  have lte := Hbo.out.lt
  have fe0 := Hbo.out.frozen 0
  have fe1 := Hbo.out.frozen 1
  go_wp2
  refine bodyPost_ret (v := spanV r) (by rw [HR.out]; simp [spanV, results, Try.results88, go_sem, e0, e1, fe0, fe1, lte]) rfl ⟨rfl, ?_⟩
  repeat (first | exact HB.out | (refine Below.setCell ?_ (by first | omega | (simp <;> omega)) _) | (refine Below.alloc ?_ (by first | omega | (simp <;> omega)) _) | (refine below_drewN ?_ _))
 have t1 : (n == b1) = false := by simpa using c1
 have hmx : max 1 (n - b1) = n - b1 := by omega
 rw [hmx] at hS
 have hdn : ∃ u, p1 * n / (n - b1) = u ∧ 0 ≤ u ∧ u ≤ 18253611008 ∧ ∀ W, Calls Try.prog 30 #[.int .i64 (p1 * n), .int .i64 (n - b1)] W fun e w' => e = .returned (.int .i64 u) ∧ W = w' :=
  ⟨_, rfl, Int.ediv_nonneg m1 (by omega), by have := Int.ediv_le_self (n - b1) m1; omega, fun W => down_any _ _ _ (by omega) (by omega) (by omega) (by omega)⟩
 obtain ⟨u, hu, hu1, hu2, hdn⟩ := hdn
 rw [hu] at hS
 clear hmx hu
 by_cases c2 : n = b2
 ·
  have hR : r = (capI u, capI 1073741824) := by
   rw [hS, if_neg (by omega)]; rfl
  have HR := hide hR
  have t2 : (n == b2) = true := by simpa using c2
  have Hcap := hide (fun W => capped_any u 1073741824 W)
  have Hdn := hide hdn
  clear hS hR c1 c2 hdn
  generalize capI u = x at *
  generalize capI 1073741824 = y at *
  go_enter Try.func88, Try.ntmps88
  have HB := hide (Below.refl w.heap.size w)
  go_wp2_with fail
  refine at_world fun W hW => ?_
  have bq0 : Blk W w.heap.size 24 #[.int .i64 p1, .int .i64 p2] := by rw [hW]; exact ((Blk.new _ _ _).alloc _).alloc _
  have bq1 : Blk W (w.heap.size + 1) 24 #[.int .i64 b1, .int .i64 b2] := by rw [hW]; exact (blk_new_at (by simp)).alloc _
  have bq2 : Blk W (w.heap.size + 2) 24 #[.int .i64 0, .int .i64 0] := by rw [hW]; exact blk_new_at (by simp)
  have LW : Later w W := by rw [hW]; exact ((((Below.refl _ _).alloc (Nat.le_refl _) _).alloc (by simp; try omega) _).alloc (by simp; try omega) _)
  have szW : W.heap.size = w.heap.size + 3 := by rw [hW]; simp
  clear hW
  replace HB := hide (onward HB.out LW)
  have Hbp := hide bq0
  have Hbb := hide bq1
  have Hbo := hide bq2
  clear bq0 bq1 bq2 LW szW
  obtain ⟨x0, x1⟩ := Hbp.out.c2
  have ltx := Hbp.out.lt
  obtain ⟨y0, y1⟩ := Hbb.out.c2
  have lty := Hbb.out.lt
  refine (Hdn.out _).mono ?_
  rintro e w' ⟨rfl, rfl⟩
  go_wp2_with fail
  refine (Hcap.out _).mono ?_
  rintro e w1 ⟨rfl, hb⟩
  replace HB := hide (onward HB.out hb)
  replace Hbp := hide (blk_later Hbp.out hb)
  replace Hbb := hide (blk_later Hbb.out hb)
  replace Hbo := hide (blk_later Hbo.out hb)
  clear hb x0 x1 ltx y0 y1 lty
  obtain ⟨e0, e1⟩ := Hbo.out.c2
  have lte := Hbo.out.lt
  have fe0 := Hbo.out.frozen 0
  have fe1 := Hbo.out.frozen 1
  go_wp2
  refine bodyPost_ret (v := spanV r) (by rw [HR.out]; simp [spanV, results, Try.results88, go_sem, e0, e1, fe0, fe1, lte]) rfl ⟨rfl, ?_⟩
  repeat (first | exact HB.out | (refine Below.setCell ?_ (by first | omega | (simp <;> omega)) _) | (refine Below.alloc ?_ (by first | omega | (simp <;> omega)) _) | (refine below_drewN ?_ _))
 ·
  have t2 : (n == b2) = false := by simpa using c2
  have hup : ∃ v, cdiv (p2 * n) (n - b2) = v ∧ ∀ W, Calls Try.prog 31 #[.int .i64 (p2 * n), .int .i64 (n - b2)] W fun e w' => e = .returned (.int .i64 v) ∧ W = w' :=
   ⟨_, rfl, fun W => up_any _ _ _ (by omega) (by omega) (by omega) (by omega)⟩
  obtain ⟨v, hv, hup⟩ := hup
  rw [hv, if_pos (by omega)] at hS
  have HR := hide hS
  have Hcap := hide (fun W => capped_any u v W)
  clear hS hv c1 c2
  generalize capI u = ca at *
  generalize capI v = cb at *
  go_enter Try.func88, Try.ntmps88
  have HB := hide (Below.refl w.heap.size w)
  go_wp2_with fail
  refine code_world fun W hW => ?_
  have bq0 : Blk W w.heap.size 24 #[.int .i64 p1, .int .i64 p2] := by rw [hW]; exact ((Blk.new _ _ _).alloc _).alloc _
  have bq1 : Blk W (w.heap.size + 1) 24 #[.int .i64 b1, .int .i64 b2] := by rw [hW]; exact (blk_new_at (by simp)).alloc _
  have bq2 : Blk W (w.heap.size + 2) 24 #[.int .i64 0, .int .i64 0] := by rw [hW]; exact blk_new_at (by simp)
  have LW : Later w W := by rw [hW]; exact ((((Below.refl _ _).alloc (Nat.le_refl _) _).alloc (by simp; try omega) _).alloc (by simp; try omega) _)
  have szW : W.heap.size = w.heap.size + 3 := by rw [hW]; simp
  clear hW
  replace HB := hide (onward HB.out LW)
  have Hbp := hide bq0
  have Hbb := hide bq1
  have Hbo := hide bq2
  clear bq0 bq1 bq2 LW szW
  obtain ⟨x0, x1⟩ := Hbp.out.c2
  have ltx := Hbp.out.lt
  obtain ⟨y0, y1⟩ := Hbb.out.c2
  have lty := Hbb.out.lt
  have lto := Hbo.out.lt
  apply wp_region_F (w0 := W) [[], [0], [], [0, 1, 2], [], [], [5], [4, 5, 6], [0, 1, 2, 3, 4, 5, 6, 7], [], [9], [], [9, 10, 11], [], [], [14], [13, 14, 15], [0, 1, 2, 3, 4, 5, 6, 7, 8, 9, 10, 11, 12, 13, 14, 15, 16], [0, 1, 2, 3, 4, 5, 6, 7, 8, 9, 10, 11, 12, 13, 14, 15, 16, 17], [0, 1, 2, 3, 4, 5, 6, 7, 8, 9, 10, 11, 12, 13, 14, 15, 16, 17, 18]] [true, true, true, true, true, true, true, true, true, true, true, true, true, true, true, true, true, true, true, false] [false, false, false, false, false, false, false, false, false, false, false, false, false, false, false, false, false, false, false, false] [⟨19, none, [], []⟩] [(19, (w.heap.size+2))] [19] (fun ixq y => match ixq with | 19 => undef | _ => undef) (fun ixq x F wq => match ixq with | 19 => F (w.heap.size+2) ∧ Blk wq (w.heap.size+2) 24 #[.int .i64 ca, .int .i64 cb] | _ => True) (fun a x => (a).put (none) (undef)) (by kernel_rfl) (by kernel_rfl) (by kernel_rfl) (fun _ => rfl) [39, 48, 49] (by kernel_rfl) (fills_lt1 (by omega)) fills_ne1
  ·
   intro x D hD
   have hne := hD.some
   have k0 := liftS hD x0 (by exact early_all (by first | assumption | omega) (by rfl))
   have k1 := liftS hD x1 (by exact early_all (by first | assumption | omega) (by rfl))
   have l0 := liftS hD y0 (by exact early_all (by first | assumption | omega) (by rfl))
   have l1 := liftS hD y1 (by exact early_all (by first | assumption | omega) (by rfl))
   simp only [takeOps, Act.put, List.setIfInBounds_toArray, List.set_cons_succ, List.set_cons_zero]
   repeat (go_big_quiet_step ((first | (go_at_call 30; exact calls_same _ (hdn _)) | (go_at_call 31; exact calls_same _ (hup _)) | (go_at_call 89; exact calls_later hD _ (Hcap.out _)))))
   exact wpQuiet_nil rfl
  · exact fun x D hD => wpQuiet_nil rfl
  ·
   intro d hd x x'
   simp only [List.mem_cons, List.not_mem_nil, or_false] at hd
   rcases hd with rfl | rfl | rfl
   all_goals rfl
  ·
   refine ⟨?_, trivial⟩
   · exact obl_fill 24 24 6 49 (w.heap.size+2) _ (fun x => #[.int .i64 ca, .int .i64 cb]) (by kernel_rfl) (fun _ => rfl) (fun _ => rfl) Hbo.out eb_fill1 (by simp [wrF]) (fun _ => by kernel_rfl) (fun _ => rfl) (fun _ => by simp [Value.oneCell']) (fun _ => rfl) (fun _ _ _ _ h1 h2 => ⟨h1, h2⟩)
  ·
   refine ⟨?_, trivial⟩
   · exact owe_fill (w.heap.size+2) 24 (fun x => #[.int .i64 ca, .int .i64 cb]) (fun _ _ _ => rfl) (fun _ _ _ => rfl)
  intro xx w2 F hK hlv1
  obtain ⟨fct19, -⟩ := hlv1
  replace fct19 : (F 19) (w.heap.size+2) ∧ Blk w2 (w.heap.size+2) 24 #[.int .i64 ca, .int .i64 cb] := fct19 rfl
  have hgr := grown_kept hK
  replace HB := hide (below_grown HB.out hgr HB.out.size (fun q hq => by simp at hq; omega))
  replace Hbp := hide (blk_grown Hbp.out hgr (by first | (simp; done) | (simp; omega)))
  replace Hbb := hide (blk_grown Hbb.out hgr (by first | (simp; done) | (simp; omega)))
  replace Hbo := hide fct19.2
  clear hgr hK fct19 x0 x1 ltx y0 y1 lty
  obtain ⟨e0, e1⟩ := Hbo.out.c2
  have lte := Hbo.out.lt
  go_wp2
  refine bodyPost_ret (v := spanV r) (by rw [HR.out]; simp [spanV, results, Try.results88, go_sem, e0, e1]) rfl ⟨rfl, HB.out⟩
end Go.Proofs.Ytepgpihobmjbdaa
end
section
namespace Go.Proofs.Ytepgpihobmjbdaa
open Go.RowKit
end Go.Proofs.Ytepgpihobmjbdaa
end
