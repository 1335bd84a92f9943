/-
  A power without what is in the way: rain's and the reference's.
  Factors in plain Lean: what a band of heights meets, one factor after the other.
  Factors: rain's contract.
  The passage of a ray: how it begins, and how it goes through a gate.
  rain.Pass: the contract, for every table and every list of powers.
  The reference's passage behind a gate, and what it lets through.
-/
import Derived.Test.YtepgpihobmjbdaaGreatDivs
import Derived.Test.YtepgpihobmjbdaaGreatRegionStep
import Derived.Test.YtepgpihobmjbdaaGreatRegAll
import Derived.Test.YtepgpihobmjbdaaGreatRegP
import Derived.Deep.CutRange
import Derived.Deep.RegionWith
set_option linter.unusedSimpArgs false
set_option linter.unusedVariables false
namespace Go.Proofs.YtepgpihobmjbdaaGreat
open Go.RowKit

theorem capped_any (a b : Int) (w : World) :
    Calls Tryz.prog 133 #[.int .i64 a, .int .i64 b] w fun e w' => e = .returned (.agg #[.int .i64 (capI a), .int .i64 (capI b)]) ∧ Below w.heap.size w w' := by
  obtain ⟨x, ex⟩ : ∃ x, (if 1073741824 < a then 1073741824 else a) = x := ⟨_, rfl⟩
  obtain ⟨y, ey⟩ : ∃ y, (if 1073741824 < b then 1073741824 else b) = y := ⟨_, rfl⟩
  have h1 : capI a = x := (min_if a 1073741824).trans ex
  have h2 : capI b = y := (min_if b 1073741824).trans ey
  have H1 := hide h1
  have H2 := hide h2
  clear h1 h2
  go_enter Tryz.func133, Tryz.ntmps133
  go_wp2
  refine bodyPost_ret (v := .agg #[.int .i64 x, .int .i64 y]) (by simp [results, Tryz.results133, go_sem]) rfl ⟨by rw [H1.out, H2.out], ?_⟩
  exact (Below.refl _ _).alloc (Nat.le_refl _) _

theorem okF_iff {p : Int × Int} {n : Int} {b : Int × Int} (h : okF p n b = true) : 0 ≤ p.1 ∧ p.1 ≤ p.2 ∧ p.2 ≤ 1073741824 ∧ 1 ≤ n ∧ n ≤ 17 ∧ 0 ≤ b.1 ∧ b.1 ≤ b.2 ∧ b.2 ≤ n := by
  simp only [okF, Bool.and_eq_true] at h
  obtain ⟨⟨h1, h2⟩, h3⟩ := h
  have a := okM_iff h1
  have b' := win_iff.1 h2
  have c : 0 ≤ b.1 ∧ b.1 ≤ b.2 ∧ b.2 ≤ n := by simpa [ins] using h3
  omega
set_option maxHeartbeats 1000000 in
set_option maxRecDepth 100000 in
theorem fill_any (p1 p2 n b1 b2 : Int) (w : World) (h : okF (p1, p2) n (b1, b2) = true) :
    Calls Tryz.prog 132 #[.agg #[.int .i64 p1, .int .i64 p2], .int .i64 n, .agg #[.int .i64 b1, .int .i64 b2]] w fun e w' => e = .returned (spanV (fillS (p1, p2) n (b1, b2))) ∧ Below w.heap.size w w' := by
  obtain ⟨h1, h2, h3, h4, h5, h6, h7, h8⟩ := okF_iff h
  simp only at h1 h2 h3 h6 h7 h8
  obtain ⟨m1, m2⟩ := mul_bd (a := p1) (b := n) (A := 1073741824) (B := 17) h1 (by omega) (by omega) h5
  obtain ⟨m3, m4⟩ := mul_bd (a := p2) (b := n) (A := 1073741824) (B := 17) (by omega) h3 (by omega) h5
  have hS : fillS (p1, p2) n (b1, b2) = (capI (p1 * n / max 1 (n - b1)), if b2 < n then capI (cdiv (p2 * n) (n - b2)) else 1073741824) := by
    simp only [fillS, capI]
    rw [Int.min_comm, Int.min_comm 1073741824]
  generalize fillS (p1, p2) n (b1, b2) = r at *
  clear h
  by_cases c1 : n = b1
  · have hR : r = (capI (p1 * n), capI 1073741824) := by
      rw [hS, if_neg (by omega), show max 1 (n - b1) = 1 by omega, Int.ediv_one]; rfl
    have HR := hide hR
    have t1 : (n == b1) = true := by simpa using c1
    have Hcap := hide (fun W => capped_any (p1 * n) 1073741824 W)
    clear hS hR c1
    generalize capI (p1 * n) = x at *
    generalize capI 1073741824 = y at *
    go_enter Tryz.func132, Tryz.ntmps132
    have HB := hide (Below.refl w.heap.size w)
    go_wp2_with fail
    refine at_world fun W hW => ?_
    have bq0 : Blk W w.heap.size 24 #[.int .i64 p1, .int .i64 p2] := by rw [hW]; exact ((Blk.new _ _ _).alloc _).alloc _
    have bq1 : Blk W (w.heap.size + 1) 24 #[.int .i64 b1, .int .i64 b2] := by rw [hW]; exact (blk_new_at (by simp)).alloc _
    have bq2 : Blk W (w.heap.size + 2) 24 #[.int .i64 0, .int .i64 0] := by rw [hW]; exact blk_new_at (by simp)
    have LW : Later w W := by rw [hW]; exact ((((Below.refl _ _).alloc (Nat.le_refl _) _).alloc (by simp; try omega) _).alloc (by simp; try omega) _)
    have szW : W.heap.size = w.heap.size + 3 := by rw [hW]; simp
    clear hW
    replace HB := hide (onward HB.out LW)
    have Hbp := hide bq0
    have Hbb := hide bq1
    have Hbo := hide bq2
    clear bq0 bq1 bq2 LW szW
    refine (Hcap.out _).mono ?_
    rintro e w1 ⟨rfl, hb⟩
    replace HB := hide (onward HB.out hb)
    replace Hbp := hide (blk_later Hbp.out hb)
    replace Hbb := hide (blk_later Hbb.out hb)
    replace Hbo := hide (blk_later Hbo.out hb)
    clear hb
    obtain ⟨e0, e1⟩ := Hbo.out.c2
    have lte := Hbo.out.lt
    have fe0 := Hbo.out.frozen 0
    have fe1 := Hbo.out.frozen 1
    go_wp2
    refine bodyPost_ret (v := spanV r) (by rw [HR.out]; simp [spanV, results, Tryz.results132, go_sem, e0, e1, fe0, fe1, lte]) rfl ⟨rfl, ?_⟩
    repeat (first | exact HB.out | (refine Below.setCell ?_ (by first | omega | (simp; done) | (simp; omega)) _) | (refine Below.alloc ?_ (by first | omega | (simp; done) | (simp; omega)) _) | (refine below_drewN ?_ _))
  have t1 : (n == b1) = false := by simpa using c1
  have hmx : max 1 (n - b1) = n - b1 := by omega
  rw [hmx] at hS
  have hdn : ∃ u, p1 * n / (n - b1) = u ∧ 0 ≤ u ∧ u ≤ 18253611008 ∧ ∀ W, Calls Tryz.prog 36 #[.int .i64 (p1 * n), .int .i64 (n - b1)] W fun e w' => e = .returned (.int .i64 u) ∧ W = w' :=
    ⟨_, rfl, Int.ediv_nonneg m1 (by omega), by have := Int.ediv_le_self (n - b1) m1; omega, fun W => down_any _ _ _ (by omega) (by omega) (by omega) (by omega)⟩
  obtain ⟨u, hu, hu1, hu2, hdn⟩ := hdn
  rw [hu] at hS
  clear hmx hu
  by_cases c2 : n = b2
  · have hR : r = (capI u, capI 1073741824) := by
      rw [hS, if_neg (by omega)]; rfl
    have HR := hide hR
    have t2 : (n == b2) = true := by simpa using c2
    have Hcap := hide (fun W => capped_any u 1073741824 W)
    have Hdn := hide hdn
    clear hS hR c1 c2 hdn
    generalize capI u = x at *
    generalize capI 1073741824 = y at *
    go_enter Tryz.func132, Tryz.ntmps132
    have HB := hide (Below.refl w.heap.size w)
    go_wp2_with fail
    refine at_world fun W hW => ?_
    have bq0 : Blk W w.heap.size 24 #[.int .i64 p1, .int .i64 p2] := by rw [hW]; exact ((Blk.new _ _ _).alloc _).alloc _
    have bq1 : Blk W (w.heap.size + 1) 24 #[.int .i64 b1, .int .i64 b2] := by rw [hW]; exact (blk_new_at (by simp)).alloc _
    have bq2 : Blk W (w.heap.size + 2) 24 #[.int .i64 0, .int .i64 0] := by rw [hW]; exact blk_new_at (by simp)
    have LW : Later w W := by rw [hW]; exact ((((Below.refl _ _).alloc (Nat.le_refl _) _).alloc (by simp; try omega) _).alloc (by simp; try omega) _)
    have szW : W.heap.size = w.heap.size + 3 := by rw [hW]; simp
    clear hW
    replace HB := hide (onward HB.out LW)
    have Hbp := hide bq0
    have Hbb := hide bq1
    have Hbo := hide bq2
    clear bq0 bq1 bq2 LW szW
    obtain ⟨x0, x1⟩ := Hbp.out.c2
    have ltx := Hbp.out.lt
    obtain ⟨y0, y1⟩ := Hbb.out.c2
    have lty := Hbb.out.lt
    refine (Hdn.out _).mono ?_
    rintro e w' ⟨rfl, rfl⟩
    go_wp2_with fail
    refine (Hcap.out _).mono ?_
    rintro e w1 ⟨rfl, hb⟩
    replace HB := hide (onward HB.out hb)
    replace Hbp := hide (blk_later Hbp.out hb)
    replace Hbb := hide (blk_later Hbb.out hb)
    replace Hbo := hide (blk_later Hbo.out hb)
    clear hb x0 x1 ltx y0 y1 lty
    obtain ⟨e0, e1⟩ := Hbo.out.c2
    have lte := Hbo.out.lt
    have fe0 := Hbo.out.frozen 0
    have fe1 := Hbo.out.frozen 1
    go_wp2
    refine bodyPost_ret (v := spanV r) (by rw [HR.out]; simp [spanV, results, Tryz.results132, go_sem, e0, e1, fe0, fe1, lte]) rfl ⟨rfl, ?_⟩
    repeat (first | exact HB.out | (refine Below.setCell ?_ (by first | omega | (simp; done) | (simp; omega)) _) | (refine Below.alloc ?_ (by first | omega | (simp; done) | (simp; omega)) _) | (refine below_drewN ?_ _))
  · have t2 : (n == b2) = false := by simpa using c2
    have hup : ∃ v, cdiv (p2 * n) (n - b2) = v ∧ ∀ W, Calls Tryz.prog 37 #[.int .i64 (p2 * n), .int .i64 (n - b2)] W fun e w' => e = .returned (.int .i64 v) ∧ W = w' :=
      ⟨_, rfl, fun W => up_any _ _ _ (by omega) (by omega) (by omega) (by omega)⟩
    obtain ⟨v, hv, hup⟩ := hup
    rw [hv, if_pos (by omega)] at hS
    have HR := hide hS
    have Hcap := hide (fun W => capped_any u v W)
    clear hS hv c1 c2
    generalize capI u = ca at *
    generalize capI v = cb at *
    go_enter Tryz.func132, Tryz.ntmps132
    have HB := hide (Below.refl w.heap.size w)
    go_wp2_with fail
    refine code_world fun W hW => ?_
    have bq0 : Blk W w.heap.size 24 #[.int .i64 p1, .int .i64 p2] := by rw [hW]; exact ((Blk.new _ _ _).alloc _).alloc _
    have bq1 : Blk W (w.heap.size + 1) 24 #[.int .i64 b1, .int .i64 b2] := by rw [hW]; exact (blk_new_at (by simp)).alloc _
    have bq2 : Blk W (w.heap.size + 2) 24 #[.int .i64 0, .int .i64 0] := by rw [hW]; exact blk_new_at (by simp)
    have LW : Later w W := by rw [hW]; exact ((((Below.refl _ _).alloc (Nat.le_refl _) _).alloc (by simp; try omega) _).alloc (by simp; try omega) _)
    have szW : W.heap.size = w.heap.size + 3 := by rw [hW]; simp
    clear hW
    replace HB := hide (onward HB.out LW)
    have Hbp := hide bq0
    have Hbb := hide bq1
    have Hbo := hide bq2
    clear bq0 bq1 bq2 LW szW
    obtain ⟨x0, x1⟩ := Hbp.out.c2
    have ltx := Hbp.out.lt
    obtain ⟨y0, y1⟩ := Hbb.out.c2
    have lty := Hbb.out.lt
    have lto := Hbo.out.lt
    apply wp_region_F (w0 := W) [[], [0], [], [0, 1, 2], [], [], [5], [4, 5, 6], [0, 1, 2, 3, 4, 5, 6, 7], [], [9], [], [9, 10, 11], [], [], [14], [13, 14, 15], [0, 1, 2, 3, 4, 5, 6, 7, 8, 9, 10, 11, 12, 13, 14, 15, 16], [0, 1, 2, 3, 4, 5, 6, 7, 8, 9, 10, 11, 12, 13, 14, 15, 16, 17], [0, 1, 2, 3, 4, 5, 6, 7, 8, 9, 10, 11, 12, 13, 14, 15, 16, 17, 18]] [true, true, true, true, true, true, true, true, true, true, true, true, true, true, true, true, true, true, true, false] [false, false, false, false, false, false, false, false, false, false, false, false, false, false, false, false, false, false, false, false] [⟨19, none, [], []⟩] [(19, (w.heap.size+2))] [19] (fun ixq y => match ixq with | 19 => undef | _ => undef) (fun ixq x F wq => match ixq with | 19 => F (w.heap.size+2) ∧ Blk wq (w.heap.size+2) 24 #[.int .i64 ca, .int .i64 cb] | _ => True) (fun a x => (a).put (none) (undef)) (by kernel_rfl) (by kernel_rfl) (by kernel_rfl) (fun _ => rfl) [39, 48, 49] (by kernel_rfl) (fills_lt1 (by omega)) fills_ne1
    · intro x D hD
      have hne := hD.some
      have k0 := liftS hD x0 (by exact early_all (by first | assumption | omega) (by rfl))
      have k1 := liftS hD x1 (by exact early_all (by first | assumption | omega) (by rfl))
      have l0 := liftS hD y0 (by exact early_all (by first | assumption | omega) (by rfl))
      have l1 := liftS hD y1 (by exact early_all (by first | assumption | omega) (by rfl))
      simp only [takeOps, Act.put, List.setIfInBounds_toArray, List.set_cons_succ, List.set_cons_zero]
      repeat (go_big_quiet_step ((first | (go_at_call 36; exact calls_same _ (hdn _)) | (go_at_call 37; exact calls_same _ (hup _)) | (go_at_call 133; exact calls_later hD _ (Hcap.out _)))))
      exact wpQuiet_nil rfl
    · exact fun x D hD => wpQuiet_nil rfl
    · intro d hd x x'
      simp only [List.mem_cons, List.not_mem_nil, or_false] at hd
      rcases hd with rfl | rfl | rfl
      all_goals rfl
    · refine ⟨?_, trivial⟩
      · exact obl_fill 24 24 6 49 (w.heap.size+2) _ (fun x => #[.int .i64 ca, .int .i64 cb]) (by kernel_rfl) (fun _ => rfl) (fun _ => rfl) Hbo.out eb_fill1 (by simp [wrF]) (fun _ => by kernel_rfl) (fun _ => rfl) (fun _ => by simp [Value.oneCell']) (fun _ => rfl) (fun _ _ _ _ h1 h2 => ⟨h1, h2⟩)
    · refine ⟨?_, trivial⟩
      · exact owe_fill (w.heap.size+2) 24 (fun x => #[.int .i64 ca, .int .i64 cb]) (fun _ _ _ => rfl) (fun _ _ _ => rfl)
    intro xx w2 F hK hlv1
    obtain ⟨fct19, -⟩ := hlv1
    replace fct19 : (F 19) (w.heap.size+2) ∧ Blk w2 (w.heap.size+2) 24 #[.int .i64 ca, .int .i64 cb] := fct19 rfl
    have hgr := grown_kept hK
    replace HB := hide (below_grown HB.out hgr HB.out.size (fun q hq => by simp at hq; omega))
    replace Hbp := hide (blk_grown Hbp.out hgr (by first | (simp; done) | (simp; omega)))
    replace Hbb := hide (blk_grown Hbb.out hgr (by first | (simp; done) | (simp; omega)))
    replace Hbo := hide fct19.2
    clear hgr hK fct19 x0 x1 ltx y0 y1 lty
    obtain ⟨e0, e1⟩ := Hbo.out.c2
    have lte := Hbo.out.lt
    go_wp2
    refine bodyPost_ret (v := spanV r) (by rw [HR.out]; simp [spanV, results, Tryz.results132, go_sem, e0, e1]) rfl ⟨rfl, HB.out⟩

set_option maxHeartbeats 1000000 in
set_option maxRecDepth 100000 in
theorem refFill_any (p1 p2 n b1 b2 : Int) (w : World) (h : okF (p1, p2) n (b1, b2) = true) :
    Calls Tryz.prog 22 #[.agg #[.int .i64 p1, .int .i64 p2], .int .i64 n, .agg #[.int .i64 b1, .int .i64 b2]] w fun e w' => e = .returned (spanV (fillS (p1, p2) n (b1, b2))) ∧ Below w.heap.size w w' := by
  obtain ⟨h1, h2, h3, h4, h5, h6, h7, h8⟩ := okF_iff h
  simp only at h1 h2 h3 h6 h7 h8
  obtain ⟨m1, m2⟩ := mul_bd (a := p1) (b := n) (A := 1073741824) (B := 17) h1 (by omega) (by omega) h5
  obtain ⟨m3, m4⟩ := mul_bd (a := p2) (b := n) (A := 1073741824) (B := 17) (by omega) h3 (by omega) h5
  obtain ⟨mx, emx⟩ : ∃ mx, (if 1 < n - b1 then n - b1 else 1) = mx := ⟨_, rfl⟩
  have hmx : 1 ≤ mx ∧ mx ≤ 17 := by rw [← emx]; split <;> omega
  obtain ⟨hmx1, hmx2⟩ := hmx
  have hdn : ∃ u, p1 * n / mx = u ∧ 0 ≤ u ∧ u ≤ 18253611008 ∧ ∀ W, Calls Tryz.prog 26 #[.int .i64 (p1 * n), .int .i64 mx] W fun e w' => e = .returned (.int .i64 u) ∧ W = w' :=
    ⟨_, rfl, Int.ediv_nonneg m1 (by omega), by have := Int.ediv_le_self mx m1; omega, fun W => Down_any _ _ _ (by omega) (by omega) (by omega) (by omega)⟩
  obtain ⟨u, hu, hu1, hu2, hdn⟩ := hdn
  obtain ⟨lo, elo⟩ : ∃ lo, (if u < 1073741824 then u else 1073741824) = lo := ⟨_, rfl⟩
  have hS : fillS (p1, p2) n (b1, b2) = (lo, if b2 < n then min 1073741824 (cdiv (p2 * n) (n - b2)) else 1073741824) := by
    simp only [fillS]
    rw [(max_if 1 (n - b1)).trans emx, hu, (min_if 1073741824 u).trans elo]
  generalize fillS (p1, p2) n (b1, b2) = r at *
  have Hdn := hide hdn
  clear h hu hdn
  by_cases c : b2 < n
  · have hup : ∃ v, cdiv (p2 * n) (n - b2) = v ∧ 0 ≤ v ∧ v ≤ 18253611008 ∧ ∀ W, Calls Tryz.prog 27 #[.int .i64 (p2 * n), .int .i64 (n - b2)] W fun e w' => e = .returned (.int .i64 v) ∧ W = w' :=
      ⟨_, rfl, (cdiv_bd' m3 (by omega)).1, by have := (cdiv_bd' (a := p2 * n) (b := n - b2) m3 (by omega)).2; omega, fun W => Up_any _ _ _ (by omega) (by omega) (by omega) (by omega)⟩
    obtain ⟨v, hv, hv1, hv2, hup⟩ := hup
    obtain ⟨hi, ehi⟩ : ∃ hi, (if v < 1073741824 then v else 1073741824) = hi := ⟨_, rfl⟩
    rw [if_pos c, hv, (min_if 1073741824 v).trans ehi] at hS
    have HR := hide hS
    have Hup := hide hup
    clear hS hv hup
    go_enter Tryz.func22, Tryz.ntmps22
    have HB := hide (Below.refl w.heap.size w)
    go_wp2_with fail
    refine at_world fun W hW => ?_
    have bq0 : Blk W w.heap.size 24 #[.int .i64 p1, .int .i64 p2] := by rw [hW]; exact ((Blk.new _ _ _).alloc _).alloc _
    have bq1 : Blk W (w.heap.size + 1) 24 #[.int .i64 b1, .int .i64 b2] := by rw [hW]; exact (blk_new_at (by simp)).alloc _
    have bq2 : Blk W (w.heap.size + 2) 24 #[.int .i64 0, .int .i64 0] := by rw [hW]; exact blk_new_at (by simp)
    have LW : Later w W := by rw [hW]; exact ((((Below.refl _ _).alloc (Nat.le_refl _) _).alloc (by simp; try omega) _).alloc (by simp; try omega) _)
    have szW : W.heap.size = w.heap.size + 3 := by rw [hW]; simp
    clear hW
    replace HB := hide (onward HB.out LW)
    have Hbp := hide bq0
    have Hbb := hide bq1
    have Hbo := hide bq2
    clear bq0 bq1 bq2 LW szW
    obtain ⟨x0, x1⟩ := Hbp.out.c2
    have ltx := Hbp.out.lt
    obtain ⟨y0, y1⟩ := Hbb.out.c2
    have lty := Hbb.out.lt
    refine (Hdn.out _).mono ?_
    rintro e w' ⟨rfl, rfl⟩
    go_wp2_with fail
    refine (Hup.out _).mono ?_
    rintro e w' ⟨rfl, rfl⟩
    have ltw : w.heap.size + 2 < W.heap.size := Hbo.out.lt
    obtain ⟨e0, e1⟩ := Hbo.out.c2
    have lte := Hbo.out.lt
    have fe0 := Hbo.out.frozen 0
    have fe1 := Hbo.out.frozen 1
    go_wp2
    refine bodyPost_ret (v := spanV r) (by rw [HR.out]; simp [spanV, results, Tryz.results22, go_sem, e0, e1, fe0, fe1, lte]) rfl ⟨rfl, ?_⟩
    have hsz := HB.out.size
    repeat (first | exact HB.out | (refine Below.setCell ?_ (by first | omega | (simp; done) | (simp; omega)) _) | (refine Below.alloc ?_ (by first | omega | (simp; done) | (simp; omega)) _) | (refine below_drewN ?_ _))
  · rw [if_neg c] at hS
    have HR := hide hS
    clear hS
    go_enter Tryz.func22, Tryz.ntmps22
    have HB := hide (Below.refl w.heap.size w)
    go_wp2_with fail
    refine at_world fun W hW => ?_
    have bq0 : Blk W w.heap.size 24 #[.int .i64 p1, .int .i64 p2] := by rw [hW]; exact ((Blk.new _ _ _).alloc _).alloc _
    have bq1 : Blk W (w.heap.size + 1) 24 #[.int .i64 b1, .int .i64 b2] := by rw [hW]; exact (blk_new_at (by simp)).alloc _
    have bq2 : Blk W (w.heap.size + 2) 24 #[.int .i64 0, .int .i64 0] := by rw [hW]; exact blk_new_at (by simp)
    have LW : Later w W := by rw [hW]; exact ((((Below.refl _ _).alloc (Nat.le_refl _) _).alloc (by simp; try omega) _).alloc (by simp; try omega) _)
    have szW : W.heap.size = w.heap.size + 3 := by rw [hW]; simp
    clear hW
    replace HB := hide (onward HB.out LW)
    have Hbp := hide bq0
    have Hbb := hide bq1
    have Hbo := hide bq2
    clear bq0 bq1 bq2 LW szW
    obtain ⟨x0, x1⟩ := Hbp.out.c2
    have ltx := Hbp.out.lt
    obtain ⟨y0, y1⟩ := Hbb.out.c2
    have lty := Hbb.out.lt
    refine (Hdn.out _).mono ?_
    rintro e w' ⟨rfl, rfl⟩
    have ltw : w.heap.size + 2 < W.heap.size := Hbo.out.lt
    obtain ⟨e0, e1⟩ := Hbo.out.c2
    have lte := Hbo.out.lt
    have fe0 := Hbo.out.frozen 0
    have fe1 := Hbo.out.frozen 1
    go_wp2
    refine bodyPost_ret (v := spanV r) (by rw [HR.out]; simp [spanV, results, Tryz.results22, go_sem, e0, e1, fe0, fe1, lte]) rfl ⟨rfl, ?_⟩
    have hsz := HB.out.size
    repeat (first | exact HB.out | (refine Below.setCell ?_ (by first | omega | (simp; done) | (simp; omega)) _) | (refine Below.alloc ?_ (by first | omega | (simp; done) | (simp; omega)) _) | (refine below_drewN ?_ _))

end Go.Proofs.YtepgpihobmjbdaaGreat
namespace Go.Proofs.YtepgpihobmjbdaaGreat

/-- One factor more, if it is met. -/
def meetF (is : Bool) (f o : Int × Int) : Int × Int := if is then (min o.1 f.1, max o.2 f.2) else o

def met1 (melt band : Int × Int) : Bool := decide (band.1 < melt.1)
def met2 (melt band : Int × Int) : Bool := decide (max band.1 melt.1 ≤ min band.2 melt.2)
def met3 (melt band : Int × Int) : Bool := decide (melt.2 < band.2)

/-- The factor of a band. -/
def facS (melt inn above band : Int × Int) : Int × Int :=
  meetF (met3 melt band) above (meetF (met2 melt band) inn (meetF (met1 melt band) (1000, 1000) (100000, 0)))

/-- What Factor answers. -/
def facR (l m : List (Int × Int)) (melt inn above band : Int × Int) : (Int × Int) × Int :=
  if chkModel l m melt inn above ≠ 0 then ((0, 0), chkModel l m melt inn above)
  else if band.2 < band.1 then ((0, 0), 3)
  else (facS melt inn above band, 0)
end Go.Proofs.YtepgpihobmjbdaaGreat
namespace Go.Proofs.YtepgpihobmjbdaaGreat
open Go.RowKit

theorem blk_of {w : World} {g : Nat} {t : TypeId} {cs cs' : Array Value} (h : Blk w g t cs) (e : cs = cs') : Blk w g t cs' := e ▸ h

theorem arr9 {f1 f2 f3 g1 g2 g3 : Bool} {p0 p1 q0 q1 r0 r1 : Int} (h1 : f1 = g1) (h2 : f2 = g2) (h3 : f3 = g3) : (#[.bool f1, .int .i64 p0, .int .i64 p1, .bool f2, .int .i64 q0, .int .i64 q1, .bool f3, .int .i64 r0, .int .i64 r1] : Array Value) = #[.bool g1, .int .i64 p0, .int .i64 p1, .bool g2, .int .i64 q0, .int .i64 q1, .bool g3, .int .i64 r0, .int .i64 r1] := by subst h1 h2 h3; rfl

/-- The factor after so many of the three. -/
def facK (f1 f2 f3 : Bool) (inn above : Int × Int) : Nat → Int × Int
  | 0 => (100000, 0)
  | 1 => meetF f1 (1000, 1000) (100000, 0)
  | 2 => meetF f2 inn (meetF f1 (1000, 1000) (100000, 0))
  | _ => meetF f3 above (meetF f2 inn (meetF f1 (1000, 1000) (100000, 0)))

set_option maxHeartbeats 2000000 in
set_option maxRecDepth 100000 in
theorem factor_any (A : Option Addr) (n c : Nat) (A' : Option Addr) (n' c' : Nat) (a0 a1 b0 b1 c0 c1 x y : Int) (w : World) :
    Calls Tryz.prog 129 #[.agg #[.slice A n c, .slice A' n' c', .int .i64 a0, .int .i64 a1, .int .i64 b0, .int .i64 b1, .int .i64 c0, .int .i64 c1], .agg #[.int .i64 x, .int .i64 y]] w fun e w' => e = .returned (spanV (facS (a0, a1) (b0, b1) (c0, c1) (x, y))) ∧ Below w.heap.size w w' := by
  have hF : facS (a0, a1) (b0, b1) (c0, c1) (x, y) = facK (met1 (a0, a1) (x, y)) (met2 (a0, a1) (x, y)) (met3 (a0, a1) (x, y)) (b0, b1) (c0, c1) 3 := rfl
  rw [hF]
  clear hF
  generalize e1 : met1 (a0, a1) (x, y) = f1
  generalize e2 : met2 (a0, a1) (x, y) = f2
  generalize e3 : met3 (a0, a1) (x, y) = f3
  have E1 := hide e1
  have E2 := hide e2
  have E3 := hide e3
  clear e1 e2 e3
  go_enter Tryz.func129, Tryz.ntmps129
  go_upto_region 2 with fail
  go_cut [42, 43, 44] from 9 to 44 (fun s t u wx => s = .slice (some ⟨w.heap.size + 4, 0, none⟩) 3 3 ∧ t = .int .i64 3 ∧ u = .int .i64 0 ∧ Below w.heap.size w wx ∧ Blk wx (w.heap.size + 2) 24 #[.int .i64 0, .int .i64 0] ∧ Blk wx (w.heap.size + 3) 24 #[.int .i64 100000, .int .i64 0] ∧ Blk wx (w.heap.size + 4) 186 #[.bool f1, .int .i64 1000, .int .i64 1000, .bool f2, .int .i64 b0, .int .i64 b1, .bool f3, .int .i64 c0, .int .i64 c1])
  case first =>
    go_wp2
    all_goals go_meet
    all_goals
      refine ⟨rfl, rfl, rfl, (((((Below.refl _ _).alloc (Nat.le_refl _) _).alloc (by simp) _).alloc (by simp <;> omega) _).alloc (by simp <;> omega) _).alloc (by simp <;> omega) _, ((blk_new_at (by simp)).alloc _).alloc _, (blk_new_at (by simp)).alloc _, ?_⟩
      refine blk_of (blk_new_at (by simp)) (arr9 ?_ ?_ ?_)
      all_goals first | rw [← E1.out] | rw [← E2.out] | rw [← E3.out]
      all_goals simp only [met1, met2, met3]
      all_goals first | rfl | exact (decide_eq_true (by omega)).symm | exact (decide_eq_false (by omega)).symm | exact decide_eq_decide.2 (by omega)
  case rest =>
    obtain ⟨rfl, rfl, rfl, hbw, hb2, hb3, hb4⟩ := hcut
    have Hbw := hide hbw
    have Hb2 := hide hb2
    have Hb3 := hide hb3
    have Hb4 := hide hb4
    clear hbw hb2 hb3 hb4
    go_wp2_with fail
    go_loopw [44] (fun i wr => ∃ k : Nat, k ≤ 3 ∧ i = .int .i64 k ∧ Below w.heap.size w wr ∧ Blk wr (w.heap.size + 2) 24 #[.int .i64 0, .int .i64 0] ∧ Blk wr (w.heap.size + 3) 24 #[.int .i64 (facK f1 f2 f3 (b0, b1) (c0, c1) k).1, .int .i64 (facK f1 f2 f3 (b0, b1) (c0, c1) k).2] ∧ Blk wr (w.heap.size + 4) 186 #[.bool f1, .int .i64 1000, .int .i64 1000, .bool f2, .int .i64 b0, .int .i64 b1, .bool f3, .int .i64 c0, .int .i64 c1]) (fun i _ => 3 - (intOf i).toNat)
    case atStart => exact ⟨0, by omega, rfl, Hbw.out, Hb2.out, Hb3.out, Hb4.out⟩
    case round =>
      obtain ⟨k, hk, rfl, hb, c2, c3, c4⟩ := hrel
      have hk' : k = 0 ∨ k = 1 ∨ k = 2 ∨ k = 3 := by omega
      clear Hbw Hb2 Hb3 Hb4
      rcases hk' with rfl | rfl | rfl | rfl
      · have hs : facK f1 f2 f3 (b0, b1) (c0, c1) 1 = meetF f1 (1000, 1000) (facK f1 f2 f3 (b0, b1) (c0, c1) 0) := rfl
        generalize facK f1 f2 f3 (b0, b1) (c0, c1) 0 = o at *
        obtain ⟨o1, o2⟩ := o
        obtain ⟨p0, p1⟩ := c3.c2
        have g0 := c3.frozen 0
        have g1 := c3.frozen 1
        have q0 := c4.c 0 rfl
        have q1 := c4.c 1 rfl
        have q2 := c4.c 2 rfl
        simp only at p0 p1
        have lt2 := c2.lt
        have lt3 := c3.lt
        have lt4 := c4.lt
        have HB := hide hb
        have C2 := hide c2
        have C3 := hide c3
        have C4 := hide c4
        have HS := hide hs
        clear hb c2 c3 c4 hs
        cases f1
        · go_wp2
          go_roundw
          case rel =>
            exact ⟨1, by omega, by go_num, HB.out.alloc HB.out.size _, C2.out.alloc _, blk_of (C3.out.alloc _) (by rw [HS.out]; rfl), C4.out.alloc _⟩
          case measure => simp [intOf]
        · go_wp2
          go_roundw
          case rel =>
            refine ⟨1, by omega, by go_num, ((HB.out.setCell (by simp; omega) _).setCell (by simp; omega) _).alloc (by have := HB.out.size; simp; omega) _, ((C2.out.far (by show w.heap.size + 2 ≠ w.heap.size + 1 + 1 + 1; omega) _).far (by show w.heap.size + 2 ≠ w.heap.size + 1 + 1 + 1; omega) _).alloc _, ?_, ((C4.out.far (by show w.heap.size + 4 ≠ w.heap.size + 1 + 1 + 1; omega) _).far (by show w.heap.size + 4 ≠ w.heap.size + 1 + 1 + 1; omega) _).alloc _⟩
            exact blk_of (((C3.out.set_ 0 _).set_ 1 _).alloc _) (by rw [HS.out]; simp [meetF]; omega)
          case measure => simp [intOf]
      · have hs : facK f1 f2 f3 (b0, b1) (c0, c1) 2 = meetF f2 (b0, b1) (facK f1 f2 f3 (b0, b1) (c0, c1) 1) := rfl
        generalize facK f1 f2 f3 (b0, b1) (c0, c1) 1 = o at *
        obtain ⟨o1, o2⟩ := o
        obtain ⟨p0, p1⟩ := c3.c2
        have g0 := c3.frozen 0
        have g1 := c3.frozen 1
        have q0 := c4.c 3 rfl
        have q1 := c4.c 4 rfl
        have q2 := c4.c 5 rfl
        simp only at p0 p1
        have lt2 := c2.lt
        have lt3 := c3.lt
        have lt4 := c4.lt
        have HB := hide hb
        have C2 := hide c2
        have C3 := hide c3
        have C4 := hide c4
        have HS := hide hs
        clear hb c2 c3 c4 hs
        cases f2
        · go_wp2
          go_roundw
          case rel =>
            exact ⟨2, by omega, by go_num, HB.out.alloc HB.out.size _, C2.out.alloc _, blk_of (C3.out.alloc _) (by rw [HS.out]; rfl), C4.out.alloc _⟩
          case measure => simp [intOf]
        · go_wp2
          go_roundw
          case rel =>
            refine ⟨2, by omega, by go_num, ((HB.out.setCell (by simp; omega) _).setCell (by simp; omega) _).alloc (by have := HB.out.size; simp; omega) _, ((C2.out.far (by show w.heap.size + 2 ≠ w.heap.size + 1 + 1 + 1; omega) _).far (by show w.heap.size + 2 ≠ w.heap.size + 1 + 1 + 1; omega) _).alloc _, ?_, ((C4.out.far (by show w.heap.size + 4 ≠ w.heap.size + 1 + 1 + 1; omega) _).far (by show w.heap.size + 4 ≠ w.heap.size + 1 + 1 + 1; omega) _).alloc _⟩
            exact blk_of (((C3.out.set_ 0 _).set_ 1 _).alloc _) (by rw [HS.out]; simp [meetF]; omega)
          case measure => simp [intOf]
      · have hs : facK f1 f2 f3 (b0, b1) (c0, c1) 3 = meetF f3 (c0, c1) (facK f1 f2 f3 (b0, b1) (c0, c1) 2) := rfl
        generalize facK f1 f2 f3 (b0, b1) (c0, c1) 2 = o at *
        obtain ⟨o1, o2⟩ := o
        obtain ⟨p0, p1⟩ := c3.c2
        have g0 := c3.frozen 0
        have g1 := c3.frozen 1
        have q0 := c4.c 6 rfl
        have q1 := c4.c 7 rfl
        have q2 := c4.c 8 rfl
        simp only at p0 p1
        have lt2 := c2.lt
        have lt3 := c3.lt
        have lt4 := c4.lt
        have HB := hide hb
        have C2 := hide c2
        have C3 := hide c3
        have C4 := hide c4
        have HS := hide hs
        clear hb c2 c3 c4 hs
        cases f3
        · go_wp2
          go_roundw
          case rel =>
            exact ⟨3, by omega, by go_num, HB.out.alloc HB.out.size _, C2.out.alloc _, blk_of (C3.out.alloc _) (by rw [HS.out]; rfl), C4.out.alloc _⟩
          case measure => simp [intOf]
        · go_wp2
          go_roundw
          case rel =>
            refine ⟨3, by omega, by go_num, ((HB.out.setCell (by simp; omega) _).setCell (by simp; omega) _).alloc (by have := HB.out.size; simp; omega) _, ((C2.out.far (by show w.heap.size + 2 ≠ w.heap.size + 1 + 1 + 1; omega) _).far (by show w.heap.size + 2 ≠ w.heap.size + 1 + 1 + 1; omega) _).alloc _, ?_, ((C4.out.far (by show w.heap.size + 4 ≠ w.heap.size + 1 + 1 + 1; omega) _).far (by show w.heap.size + 4 ≠ w.heap.size + 1 + 1 + 1; omega) _).alloc _⟩
            exact blk_of (((C3.out.set_ 0 _).set_ 1 _).alloc _) (by rw [HS.out]; simp [meetF]; omega)
          case measure => simp [intOf]
      · generalize ho : facK f1 f2 f3 (b0, b1) (c0, c1) 3 = o at *
        obtain ⟨o1, o2⟩ := o
        have HO := hide ho
        clear ho
        obtain ⟨p0, p1⟩ := c3.c2
        obtain ⟨r0, r1⟩ := c2.c2
        have g0 := c2.frozen 0
        have g1 := c2.frozen 1
        simp only at p0 p1
        have lt2 := c2.lt
        have lt3 := c3.lt
        have HB := hide hb
        clear hb c2 c3 c4
        go_wp2
        refine bodyPost_ret (v := spanV (o1, o2)) (by simp [spanV, results, Tryz.results129, go_sem, r0, r1]) rfl ⟨by rw [HO.out], ?_⟩
        exact (HB.out.setCell (by simp; omega) _).setCell (by simp; omega) _
end Go.Proofs.YtepgpihobmjbdaaGreat
namespace Go.Proofs.YtepgpihobmjbdaaGreat
open Go.RowKit

theorem sizeSpan' : (Tryz.prog.info? 24).map (·.size) = some 2 := by kernel_rfl
/-- The closure over the losses. -/
def lossF (gl : Nat) : Value := .func (.func 61) #[] #[.pointer (some ⟨gl, 0, none⟩)]

theorem passing_any (A : Option Addr) (n c : Nat) (w : World) :
    Calls Tryz.prog 38 #[.slice A n c] w fun e w' => e = .returned (.pointer (some ⟨w.heap.size + 1, 0, none⟩)) ∧
      (w.alloc (.cells #[.slice A n c] 22)).alloc (.cells #[.int .i64 1073741824, .int .i64 1073741824, lossF w.heap.size] 89) = w' := by
  go_enter Tryz.func38, Tryz.ntmps38
  go_wp2_with (first | (go_at_call 35; refine (worth_any _ _ _ _).mono ?_; rintro e w' ⟨rfl, rfl⟩))
  go_ret
  exact ⟨rfl, rfl⟩

set_option maxHeartbeats 1000000 in
theorem through_any (A : Option Addr) (n c : Nat) (l : List (Int × Int)) (t z : Int × Int) (g gl : Nat) (w : World) (hn : l.length = n) (hT : Tab l 32768) (ht : Psg t) (hz1 : 0 ≤ z.1 ∧ z.1 ≤ 1073741824) (hz2 : 0 ≤ z.2 ∧ z.2 ≤ 1073741824) (hl : Ints w w.heap.size .i64 A (flat2 l))
    (hg : Blk w g 89 #[.int .i64 t.1, .int .i64 t.2, lossF gl]) (hgl : Blk w gl 22 #[.slice A n c]) :
    Calls Tryz.prog 39 #[.pointer (some ⟨g, 0, none⟩), .agg #[.int .i64 z.1, .int .i64 z.2]] w fun e w' =>
      e = .returned (.tuple #[]) ∧ w.grownBy w' (some g) ∧ Blk w' g 89 #[.int .i64 (nextT l t z).1, .int .i64 (nextT l t z).2, lossF gl] := by
  obtain ⟨z1, z2⟩ := z
  obtain ⟨t1, t2⟩ := t
  have HN := hide (nextT_psg hT ht hz1.1 hz2.1)
  obtain ⟨hz1a, hz1b⟩ := hz1
  obtain ⟨hz2a, hz2b⟩ := hz2
  have hv1 := val_bd hT hz1a
  have hv2 := val_bd hT hz2a
  have c := mul_bd (a := t1) (b := 65536 - (valGo z2 l).2) (A := 1073741824) (B := 65536) ht.lo ht.hi (by simp only at *; omega) (by simp only at *; omega)
  have d := mul_bd (a := t2) (b := 65536 - (valGo z1 l).1) (A := 1073741824) (B := 65536) ht.lo' ht.hi' (by simp only at *; omega) (by simp only at *; omega)
  have HT := hide hT
  have Hn := hide hn
  have Hl := hide hl
  have Hgl := hide hgl
  have e1 : nextT l (t1, t2) (z1, z2) = (t1 * (65536 - (valGo z2 l).2) / 65536, cdiv (t2 * (65536 - (valGo z1 l).1)) 65536) := rfl
  have E1 := hide e1
  clear e1
  have Hv2 := hide (end_up hT z2)
  have Hv1 := hide (end_down hT z1)
  simp only at hz1a hz1b hz2a hz2b hv1 hv2 hg
  clear ht hT hn hl hgl
  generalize (valGo z2 l).2 = v2 at *
  generalize (valGo z1 l).1 = v1 at *
  have hlt := hg.lt
  have hg' := hg.alloc (.cells #[.int .i64 z1, .int .i64 z2] 24)
  have hgl' := Hgl.out.alloc (.cells #[.int .i64 z1, .int .i64 z2] 24)
  have hbW : Below w.heap.size w (w.alloc (.cells #[.int .i64 z1, .int .i64 z2] 24)) := (Below.refl _ _).alloc (Nat.le_refl _) _
  have hl' := (Hl.out.below hbW).more hbW.size
  have hsW : w.heap.size < (w.alloc (.cells #[.int .i64 z1, .int .i64 z2] 24)).heap.size := by simp
  obtain ⟨g0, g1, g2⟩ := hg'.c3
  clear Hl Hgl hg
  have q1 := div_bd c.1 (by omega : (1 : Int) ≤ 65536) (C := 1073741824) (by omega)
  have q2 := cdiv_bd d.1 (by omega : (1 : Int) ≤ 65536) (C := 1073741824) (by omega)
  obtain ⟨c1, c2⟩ := c
  obtain ⟨d1, d2⟩ := d
  obtain ⟨hv1a, hv1b, hv1c⟩ := hv1
  obtain ⟨hv2a, hv2b, hv2c⟩ := hv2
  obtain ⟨q1a, q1b⟩ := q1
  obtain ⟨q2a, q2b⟩ := q2
  have hv1d : v1 ≤ 32768 := by omega
  have hv2d : 0 ≤ v2 := by omega
  clear hv1b hv1c hv2a hv2b
  have b0 := (Blk.new w 24 #[.int .i64 z1, .int .i64 z2]).c2
  obtain ⟨b1, b2⟩ := b0
  unfold lossF at *
  go_enter Tryz.func39, Tryz.ntmps39
  go_wp2_with fail
  generalize w.alloc (.cells #[.int .i64 z1, .int .i64 z2] 24) = W at *
  have Hg := hide hg'
  have Hgl := hide hgl'
  have Hl := hide hl'
  have HbW := hide hbW
  have hglt := hgl'.lt
  clear hg' hgl' hl' hbW
  refine wp_region_R (fun k => k < W.heap.size) 34 (by kernel_rfl) ?_
  apply anyR_peel (fuel := 1) 34 [true, true, true, true, true, true, true, true, true, true, true, true, true, true, true, true, true, true, true, true, true, true, true, true, true, true, true, true, true, true, true, true, true, true, false] #[true, true, true, true, true, true, true, true, true, true, true, true, true, true, true, true, true, true, true, true, true, true, true, true, true, true, true, true, true, true, true, true, true, true, false] (by kernel_rfl) rfl (fun j hj => decide_eq_true hj) (fun k hk => by first | exact hk | omega | (simp at hk ⊢; omega))
  · intro D hD
    have hne := hD.some
    have k0 := liftB hD g0 (by omega)
    have k1 := liftB hD g1 (by omega)
    have k2 := liftB hD g2 (by omega)
    have k3 := liftB hD b1 (by omega)
    have k4 := liftB hD b2 (by omega)
    simp only [takeOps]
    repeat (go_big_quiet_step ((first | (go_at_call 36; exact calls_same _ (down_any _ _ _ (by omega) (by omega) (by omega) (by omega))) | (go_at_call 37; exact calls_same _ (up_any _ _ _ (by omega) (by omega) (by omega) (by omega))) | (go_at_call_of 61 (Value.int .i64 z2); exact calls_later hD _ (worth1_up A n c l 32768 z2 v2 gl _ Hn.out HT.out (by omega) hz2a hz2b ((Hl.out.below (kb hD _)).more (kb hD _).size) (Hgl.out.below (kb hD _) hglt) Hv2.out)) | (go_at_call_of 61 (Value.int .i64 z1); exact calls_later hD _ (worth1_down A n c l 32768 z1 v1 gl _ Hn.out HT.out (by omega) hz1a hz1b ((Hl.out.below (kb hD _)).more (kb hD _).size) (Hgl.out.below (kb hD _) hglt) Hv1.out)))))
    exact wpQuiet_nil rfl
  refine anyR_fill_at (f := 0) 34 _ 89 37 35 g 0 #[.int .i64 t1, .int .i64 t2, .func (.func 61) #[] #[.pointer (some ⟨gl, 0, none⟩)]] #[.int .i64 (t1 * (65536 - v2) / 65536), .int .i64 (cdiv (t2 * (65536 - v1)) 65536)]
    #[.int .i64 (t1 * (65536 - v2) / 65536), .int .i64 (cdiv (t2 * (65536 - v1)) 65536), .func (.func 61) #[] #[.pointer (some ⟨gl, 0, none⟩)]] (by kernel_rfl) rfl rfl rfl Hg.out sizeSpan' (by simp) (one2 _ _) (by simp) (by simp) ?_
  intro w2 hgr hbk
  have hgr2 := grown_later HbW.out hgr
  go_wp2
  go_end0
  exact ⟨rfl, hgr2, by rw [E1.out]; exact hbk⟩
end Go.Proofs.YtepgpihobmjbdaaGreat
namespace Go.Proofs.YtepgpihobmjbdaaGreat
open Go.RowKit

theorem spanInfo : (Tryz.prog.info? 24).map (fun i => (i.zero, i.size, i.bytes)) = some (some (.agg #[.int .i64 0, .int .i64 0]), 2, 16) := by kernel_rfl

/-- A list of spans, as cells. -/
def spanCells (l : List (Int × Int)) : List Value := (flat2 l).map (Value.int .i64)
theorem spanCells_snoc (l : List (Int × Int)) (a b : Int) : spanCells l ++ #[Value.int .i64 a, .int .i64 b].toList = spanCells (l ++ [(a, b)]) := by
  simp [spanCells, flat2_append, flat2]

/-- A call that returns a new list of spans and an error. -/
def SpansPost (r : List (Int × Int) × Int) (w : World) (e : Ending) (w' : World) : Prop :=
  ∃ v, e = .returned (.tuple #[v, .int .i64 r.2]) ∧ w'.ownsRow w.heap.size 24 2 v r.1.length (spanCells r.1) ∧ Below w.heap.size w w'
theorem spans_nil {w w' : World} (k : Int) (hb : Below w.heap.size w w') : SpansPost ([], k) w (.returned (.tuple #[.slice none 0 0, .int .i64 k])) w' := ⟨_, rfl, World.ownsRow_nil _ _ _ _, hb⟩

set_option maxHeartbeats 2000000 in
set_option maxRecDepth 100000 in
theorem Pass_any (A : Option Addr) (n c : Nat) (l : List (Int × Int)) (A' : Option Addr) (n' c' : Nat) (pw : List Int) (w : World) (hn : l.length = n) (hmax : n ≤ 9223372036854775807) (hn' : pw.length = n') (hmax' : n' ≤ 9223372036854775807)
    (hl : Ints w w.heap.size .i64 A (flat2 l)) (hl' : Ints w w.heap.size .i64 A' pw) :
    Calls Tryz.prog 15 #[.slice A n c, .slice A' n' c'] w (SpansPost (passR l pw) w) := by
  have hchk := CheckTable_any A n c l 32768 w hn hmax hl
  by_cases h1 : chk l 32768 = 0
  · rw [h1] at hchk
    by_cases h2 : (200 : Int) < n'
    · have hR : passR l pw = ([], 9) := by simp [passR, h1, hn', show 200 < n' by omega]
      have HR := hide hR
      clear hR h1 hl hl' hn hn'
      go_enter Tryz.func15, Tryz.ntmps15
      go_wp2_with fail
      refine hchk.mono ?_
      rintro e w1 ⟨rfl, hb1⟩
      clear hchk
      go_wp2
      go_ret2
      rw [HR.out]
      exact spans_nil _ hb1
    · have hT := tab_of h1
      have hR : passR l pw = if pw.all okP = true then (passGo l whole pw, 0) else ([], 3) := by simp [passR, h1, hn', show ¬ 200 < n' by omega]
      have HR := hide hR
      have HT := hide hT
      have Hl := hide hl
      have Hl' := hide hl'
      have Hn := hide hn
      have Hn' := hide hn'
      clear hR h1 hl hl' hn hn' hT
      obtain ⟨i0, hi, hz0, hz1, hz2⟩ := info_parts spanInfo
      have Hi := hide hi
      have Hz0 := hide hz0
      have Hz1 := hide hz1
      have Hz2 := hide hz2
      clear hi hz0 hz1 hz2
      go_enter Tryz.func15, Tryz.ntmps15
      go_wp2_with fail
      refine hchk.mono ?_
      rintro e w1 ⟨rfl, hb1⟩
      clear hchk
      go_wp2_with (go_at_call 38; refine (passing_any _ _ _ _).mono ?_; rintro e w' ⟨rfl, rfl⟩)
      go_loopw [8, 23] (fun o i wr => ∃ (k : Nat) (t : Int × Int) (dn : List (Int × Int)), k ≤ n' ∧ i = .int .i64 k ∧ wr.ownsRow w.heap.size 24 2 o k (spanCells dn) ∧ Below w.heap.size w wr ∧
          Blk wr (w1.heap.size + 1) 89 #[.int .i64 t.1, .int .i64 t.2, lossF w1.heap.size] ∧ Blk wr w1.heap.size 22 #[.slice A n c] ∧ Psg t ∧ dn.length = k ∧ passGo l whole pw = dn ++ passGo l t (pw.drop k) ∧ (∀ j, j < k → okP (pw.getD j 0) = true))
        (fun _ i _ => n' - (intOf i).toNat)
      case atStart =>
        have hs1 := hb1.size
        exact ⟨0, whole, [], by omega, rfl, World.ownsRow_nil _ _ _ _, (hb1.alloc hs1 _).alloc (by simp; omega) _, blk_new_at (by simp), (Blk.new _ _ _).alloc _, ⟨by decide, by decide, by decide, by decide⟩, rfl, rfl, fun j hj => by omega⟩
      case round =>
        obtain ⟨k, t, dn, hk, rfl, hown, hbw, hg, hgl, ht, hdn, hgo, hall⟩ := hrel
        have Hown := hide hown
        have Hbw := hide hbw
        have Hg := hide hg
        have Hgl := hide hgl
        have Ht := hide ht
        have Hgo := hide hgo
        have Hall := hide hall
        have hsw := hbw.size
        have hs1 := hb1.size
        have hglt := hg.lt
        obtain ⟨g0, g1, _⟩ := hg.c3
        clear hown hbw hg hgl hgo hall
        by_cases hlt : k < n'
        · obtain ⟨b', off', rfl, hb', hc'⟩ := Hl'.out (by have := Hn'.out; omega)
          have hp := hc' k (by have := Hn'.out; omega)
          rw [← Hbw.out.cell hb'] at hp
          have hgd := passGo_drop l t pw k (by have := Hn'.out; omega)
          have hnn := fun h => not_all_ok (pw := pw) (j := k) (by have := Hn'.out; omega) h
          have hok1 : okP (pw.getD k 0) = true → ∀ j, j < k + 1 → okP (pw.getD j 0) = true := fun h j hj => by
            rcases Nat.lt_or_ge j k with h1 | h1
            · exact Hall.out j h1
            · obtain rfl : j = k := by omega
              exact h
          have Hgd := hide hgd
          have Hnn := hide hnn
          have Hok1 := hide hok1
          clear hc' hgd hnn hok1
          generalize pw.getD k 0 = z at *
          by_cases hw : win z 0 1073741824 = true
          · have hz := win_iff.1 hw
            obtain ⟨hz0, hz1⟩ := hz
            have hob := one_bd ht hz0 hz1
            obtain ⟨o1, o2, o3, o4⟩ := hob
            have hd1 := div_bd o1 (by omega : (1 : Int) ≤ 1073741824) (C := 1073741824) (by omega)
            have hd2 := cdiv_bd o3 (by omega : (1 : Int) ≤ 1073741824) (C := 1073741824) (by omega)
            clear hd1 hd2
            obtain ⟨t1, t2⟩ := t
            simp only at g0 g1 o1 o2 o3 o4
            clear ht
            go_wp2_with (go_at_call 34; refine (within_any _ _ _ _).mono ?_; rintro e w' ⟨rfl, rfl⟩)
            refine wp_region_R (fun k => k < wr.heap.size) 19 (by kernel_rfl) ?_
            apply anyR_peel (fuel := 3) 19 [true, true, true, true, true, true, true, true, true, true, true, true, true, true, true, true, true, true, false, false, false] #[true, true, true, true, true, true, true, true, true, true, true, true, true, true, true, true, true, true, false, false, false] (by kernel_rfl) rfl (fun j hj => decide_eq_true hj) (fun k hk => by first | exact hk | omega | (simp at hk ⊢; omega))
            · intro D hD
              have hne := hD.some
              have k0 := liftB hD g0 (by omega)
              have k1 := liftB hD g1 (by omega)
              simp only [takeOps]
              repeat (go_big_quiet_step ((first | (go_at_call 36; exact calls_same _ (down_any _ _ _ (by omega) (by omega) (by omega) (by omega))) | (go_at_call 37; exact calls_same _ (up_any _ _ _ (by omega) (by omega) (by omega) (by omega))))))
              exact wpQuiet_nil rfl
            refine anyR_push (f := 0) 18 19 20 34 24 30 48 49 8 47 (by kernel_rfl) (by decide) rfl rfl rfl rfl rfl rfl rfl rfl rfl rfl rfl rfl rfl w.heap.size i0 _ 2 16 Tryz.underlying34 Hi.out Hz0.out Hz1.out Hz2.out rfl (by omega) #[.int .i64 (z * t1 / 1073741824), .int .i64 (cdiv (z * t2) 1073741824)] (fun _ => by kernel_rfl) rfl (one2 _ _) _ k (spanCells dn) rfl (by exact of_decide_eq_true rfl) (by exact of_decide_eq_true rfl) Hown.out (by unfold maxLen; omega) (by omega) hsw (fun h => by simp at h) (fun k hk => hk) ?_
            intro g v' w2 hown2 hgr2
            simp only [Act.put, List.setIfInBounds_toArray, List.set_cons_succ, List.set_cons_zero]
            have G2 := hide (blk_grown Hg.out hgr2 (own_ne Hown.out Hg.out (by decide)))
            have GL2 := hide (blk_grown Hgl.out hgr2 (own_ne Hown.out Hgl.out (by decide)))
            have B2 := hide (below_grown Hbw.out hgr2 hsw fun k hk => (Hown.out.lt k hk).1)
            have O2 := hide hown2
            have hs2 := hgr2.size
            clear hgr2 hown2 g0 g1 hp
            go_wp2_with fail
            refine (through_any A n c l (t1, t2) (z, z) (w1.heap.size + 1) w1.heap.size w2 Hn.out HT.out Ht.out ⟨hz0, hz1⟩ ⟨hz0, hz1⟩ ((Hl.out.below B2.out).more B2.out.size) G2.out GL2.out).mono ?_
            rintro e w3 ⟨rfl, hgr3, hbk3⟩
            have GL3 := hide (blk_grown GL2.out hgr3 (by simp))
            have B3 := hide (below_grown B2.out hgr3 B2.out.size (fun k hk => by simp at hk; omega))
            have O3 := hide (own_grown O2.out hgr3 (own_ne O2.out G2.out (by decide)))
            have G3 := hide hbk3
            clear hgr3 hbk3
            go_wp2
            go_roundw
            case rel =>
              refine ⟨k + 1, nextT l (t1, t2) (z, z), dn ++ [passOne (t1, t2) z], by omega, by go_num, ?_, B3.out, G3.out, GL3.out, nextT_psg HT.out Ht.out hz0 hz0, by simp [hdn], ?_, Hok1.out hw⟩
              · have := O3.out; rw [spanCells_snoc] at this; exact this
              · rw [Hgo.out, Hgd.out]; simp
            case measure => simp [intOf]; omega
          · have hw3 : win z 0 1073741824 = false := by simpa using hw
            have hno := Hnn.out hw3
            have HR2 := hide (HR.out.trans (if_neg (by rw [hno]; simp)))
            clear hw hno
            go_wp2_with (go_at_call 34; refine (within_any _ _ _ _).mono ?_; rintro e w' ⟨rfl, rfl⟩)
            go_ret2
            rw [HR2.out]
            exact spans_nil _ Hbw.out
        · obtain rfl : k = n' := by omega
          have hal := all_ok (pw := pw) (fun j hj => Hall.out j (by have := Hn'.out; omega))
          have HR2 := hide (HR.out.trans (if_pos hal))
          have hgo := Hgo.out
          rw [List.drop_eq_nil_of_le (by have := Hn'.out; omega), passGo, List.append_nil] at hgo
          have Hgo2 := hide hgo
          clear hal hgo
          go_wp2
          go_ret2
          rw [HR2.out]
          exact ⟨_, rfl, by rw [Hgo2.out, hdn]; exact Hown.out, Hbw.out⟩
  · have hR : passR l pw = ([], chk l 32768) := by simp [passR, h1]
    have HR := hide hR
    have h3 : (chk l 32768 != 0) = true := by simpa [bne] using h1
    clear hR h1 hl hl' hn hn'
    generalize chk l 32768 = ck at *
    go_enter Tryz.func15, Tryz.ntmps15
    go_wp2_with fail
    refine hchk.mono ?_
    rintro e w1 ⟨rfl, hb1⟩
    clear hchk
    go_wp2
    go_ret2
    rw [HR.out]
    exact spans_nil _ hb1
end Go.Proofs.YtepgpihobmjbdaaGreat
namespace Go.Proofs.YtepgpihobmjbdaaGreat
open Go.RowKit

theorem blk_eq2 {w : World} {g : Nat} {t : TypeId} {cs cs' : Array Value} (h : Blk w g t cs) (e : cs = cs') : Blk w g t cs' := e ▸ h
theorem own_high_ne {w : World} {base : Nat} {e : TypeId} {size n k : Nat} {v : Value} {xs : List Value} (h : w.ownsRow base e size v n xs) (hk : w.heap.size ≤ k) : v.ownBlock ≠ some k := fun e1 => by
  have := (h.lt k e1).2; omega
theorem fieldSpan0 (a b : Int) (w : World) : (Instr.field 24 (.agg #[.int .i64 a, .int .i64 b]) 0).run Tryz.prog w = .ok (.int .i64 a) w := by kernel_rfl
theorem fieldSpan1 (a b : Int) (w : World) : (Instr.field 24 (.agg #[.int .i64 a, .int .i64 b]) 1).run Tryz.prog w = .ok (.int .i64 b) w := by kernel_rfl
attribute [local go_sem] fieldSpan0 fieldSpan1
set_option maxHeartbeats 1000000 in
set_option maxRecDepth 100000 in
theorem next_any (A : Option Addr) (n c : Nat) (l : List (Int × Int)) (t z : Int × Int) (w : World) (hn : l.length = n) (hT : Tab l 32768) (ht : Psg t) (hz1 : 0 ≤ z.1 ∧ z.1 ≤ 1073741824) (hz2 : 0 ≤ z.2 ∧ z.2 ≤ 1073741824) (hl : Ints w w.heap.size .i64 A (flat2 l)) :
    Calls Tryz.prog 50 #[.slice A n c, .agg #[.int .i64 t.1, .int .i64 t.2], .agg #[.int .i64 z.1, .int .i64 z.2]] w fun e w' => e = .returned (.agg #[.int .i64 (nextT l t z).1, .int .i64 (nextT l t z).2]) ∧ Below w.heap.size w w' := by
  obtain ⟨z1, z2⟩ := z
  obtain ⟨t1, t2⟩ := t
  simp only at hz1 hz2 ⊢
  obtain ⟨t1a, t1b, t2a, t2b⟩ := ht
  simp only at t1a t1b t2a t2b
  have v1 := val_bd hT hz1.1
  have v2 := val_bd hT hz2.1
  obtain ⟨a1, b1, hg1⟩ : ∃ a b, valGo z1 l = (a, b) := ⟨_, _, rfl⟩
  obtain ⟨a2, b2, hg2⟩ : ∃ a b, valGo z2 l = (a, b) := ⟨_, _, rfl⟩
  rw [hg1] at v1
  rw [hg2] at v2
  simp only at v1 v2
  obtain ⟨v1a, v1b, v1c⟩ := v1
  obtain ⟨v2a, v2b, v2c⟩ := v2
  have hv1 := fun (W : World) (hI : Ints W W.heap.size .i64 A (flat2 l)) => value_any A n c l 32768 z1 W hn hT (by decide) hz1.1 hz1.2 hI
  have hv2 := fun (W : World) (hI : Ints W W.heap.size .i64 A (flat2 l)) => value_any A n c l 32768 z2 W hn hT (by decide) hz2.1 hz2.2 hI
  rw [hg1] at hv1
  rw [hg2] at hv2
  simp only at hv1 hv2
  obtain ⟨c1, c2⟩ := mul_bd (a := t1) (b := 65536 - b2) (A := 1073741824) (B := 65536) t1a t1b (by omega) (by omega)
  obtain ⟨d1, d2⟩ := mul_bd (a := t2) (b := 65536 - a1) (A := 1073741824) (B := 65536) t2a t2b (by omega) (by omega)
  obtain ⟨q1, hq1, hdn⟩ : ∃ q, t1 * (65536 - b2) / 65536 = q ∧ ∀ W, Calls Tryz.prog 26 #[.int .i64 (t1 * (65536 - b2)), .int .i64 65536] W fun e w' => e = .returned (.int .i64 q) ∧ W = w' := ⟨_, rfl, fun W => Down_any _ _ _ (by omega) (by omega) (by omega) (by omega)⟩
  obtain ⟨q2, hq2, hup⟩ : ∃ q, cdiv (t2 * (65536 - a1)) 65536 = q ∧ ∀ W, Calls Tryz.prog 27 #[.int .i64 (t2 * (65536 - a1)), .int .i64 65536] W fun e w' => e = .returned (.int .i64 q) ∧ W = w' := ⟨_, rfl, fun W => Up_any _ _ _ (by omega) (by omega) (by omega) (by omega)⟩
  have hN : nextT l (t1, t2) (z1, z2) = (q1, q2) := by
    unfold nextT
    simp only [hg1, hg2, hq1, hq2]
  rw [hN]
  simp only
  have Hl := hide hl
  have Hv1 := hide hv1
  have Hv2 := hide hv2
  clear hN hq1 hq2 hg1 hg2 hv1 hv2 hl hT hn hz1 hz2
  go_enter Tryz.func50, Tryz.ntmps50
  have HB := hide (Below.refl w.heap.size w)
  go_wp2_with fail
  refine code_world fun W hW => ?_
  have bq0 : Blk W w.heap.size 24 #[.int .i64 t1, .int .i64 t2] := by rw [hW]; exact ((Blk.new _ _ _).alloc _).alloc _
  have bq1 : Blk W (w.heap.size + 1) 24 #[.int .i64 z1, .int .i64 z2] := by rw [hW]; exact (blk_new_at (by simp)).alloc _
  have bq2 : Blk W (w.heap.size + 2) 24 #[.int .i64 0, .int .i64 0] := by rw [hW]; exact blk_new_at (by simp)
  have LW : Later w W := by rw [hW]; exact ((((Below.refl _ _).alloc (Nat.le_refl _) _).alloc (by simp; try omega) _).alloc (by simp; try omega) _)
  have szW : W.heap.size = w.heap.size + 3 := by rw [hW]; simp
  clear hW
  replace HB := hide (onward HB.out LW)
  have Hbt := hide bq0
  have Hbz := hide bq1
  have Hbo := hide bq2
  clear bq0 bq1 bq2 LW szW
  have HI := hide ((Hl.out.below HB.out).more HB.out.size)
  obtain ⟨y0, y1⟩ := Hbz.out.c2
  have lty := Hbz.out.lt
  apply wp_region_L (w0 := W) [[], [], [], [], [], [], [], [], [], [], [], []] [true, true, true, true, true, true, true, true, true, true, true, true] [] (fun ixq y => match ixq with  | _ => undef) (fun ixq x F wq => match ixq with  | _ => True) (fun a x => a) (by kernel_rfl) (by kernel_rfl) (fun _ => rfl) [12, 17] (by kernel_rfl)
  · intro x D hD
    have hne := hD.some
    have k0 := liftB hD y0 (by first | assumption | omega)
    have k1 := liftB hD y1 (by first | assumption | omega)
    simp only [takeOps, Act.put, List.setIfInBounds_toArray, List.set_cons_succ, List.set_cons_zero]
    repeat (go_big_quiet_step ((first | (go_at_call_of 28 (Value.int .i64 z2); exact calls_later hD _ (Hv2.out _ ((HI.out.below (kb hD _)).more (kb hD _).size))) | (go_at_call_of 28 (Value.int .i64 z1); exact calls_later hD _ (Hv1.out _ ((HI.out.below (kb hD _)).more (kb hD _).size))))))
    exact wpQuiet_nil rfl
  · intro d hd x x'
    simp only [List.mem_cons, List.not_mem_nil, or_false] at hd
    rcases hd with rfl | rfl
    all_goals rfl
  · exact trivial
  · exact trivial
  intro xx w2 F hL hlv1
  clear hlv1
  clear HI
  replace HB := hide (onward HB.out hL)
  replace Hbt := hide (blk_later Hbt.out hL)
  replace Hbz := hide (blk_later Hbz.out hL)
  replace Hbo := hide (blk_later Hbo.out hL)
  clear hL y0 y1 lty
  obtain ⟨x0, x1⟩ := Hbt.out.c2
  have ltx := Hbt.out.lt
  have lto := Hbo.out.lt
  go_wp2_with fail
  apply wp_region_F (w0 := w2) [[], [0], [], [2], [0, 1, 2, 3], [0, 1, 2, 3, 4], [], [6], [], [8], [6, 7, 8, 9], [0, 1, 2, 3, 4, 5, 6, 7, 8, 9, 10], [0, 1, 2, 3, 4, 5, 6, 7, 8, 9, 10, 11], [0, 1, 2, 3, 4, 5, 6, 7, 8, 9, 10, 11, 12]] [true, true, true, true, true, true, true, true, true, true, true, true, true, false] [false, false, false, false, false, false, false, false, false, false, false, false, false, false] [⟨13, none, [], []⟩] [(13, (w.heap.size+2))] [13] (fun ixq y => match ixq with | 13 => undef | _ => undef) (fun ixq x F wq => match ixq with | 13 => F (w.heap.size+2) ∧ Blk wq (w.heap.size+2) 24 #[.int .i64 q1, .int .i64 q2] | _ => True) (fun a x => (a).put (none) (undef)) (by kernel_rfl) (by kernel_rfl) (by kernel_rfl) (fun _ => rfl) [24, 30] (by kernel_rfl) (fills_lt1 (by omega)) fills_ne1
  · intro x D hD
    have hne := hD.some
    have k0 := liftS hD x0 (by exact early_all (by first | assumption | omega) (by rfl))
    have k1 := liftS hD x1 (by exact early_all (by first | assumption | omega) (by rfl))
    simp only [takeOps, Act.put, List.setIfInBounds_toArray, List.set_cons_succ, List.set_cons_zero]
    repeat (go_big_quiet_step ((first | (go_at_call 26; exact calls_same _ (hdn _)) | (go_at_call 27; exact calls_same _ (hup _)))))
    exact wpQuiet_nil rfl
  · exact fun x D hD => wpQuiet_nil rfl
  · intro d hd x x'
    simp only [List.mem_cons, List.not_mem_nil, or_false] at hd
    rcases hd with rfl | rfl
    all_goals rfl
  · refine ⟨?_, trivial⟩
    · exact obl_fill 24 24 6 31 (w.heap.size+2) _ (fun x => #[.int .i64 q1, .int .i64 q2]) (by kernel_rfl) (fun _ => rfl) (fun _ => rfl) Hbo.out eb_fill1 (by simp [wrF]) (fun _ => by kernel_rfl) (fun _ => rfl) (fun _ => by simp [Value.oneCell']) (fun _ => rfl) (fun _ _ _ _ h1 h2 => ⟨h1, h2⟩)
  · refine ⟨?_, trivial⟩
    · exact owe_fill (w.heap.size+2) 24 (fun x => #[.int .i64 q1, .int .i64 q2]) (fun _ _ _ => rfl) (fun _ _ _ => rfl)
  intro xx2 w3 F hK hlv2
  obtain ⟨fct13, -⟩ := hlv2
  replace fct13 : (F 13) (w.heap.size+2) ∧ Blk w3 (w.heap.size+2) 24 #[.int .i64 q1, .int .i64 q2] := fct13 rfl
  clear Hbt Hbz
  have hgr := grown_kept hK
  replace HB := hide (below_grown HB.out hgr HB.out.size (fun q hq => by simp at hq; omega))
  replace Hbo := hide fct13.2
  clear hgr hK fct13 x0 x1 ltx
  obtain ⟨e0, e1⟩ := Hbo.out.c2
  have lte := Hbo.out.lt
  go_wp2
  refine bodyPost_ret (v := .agg #[.int .i64 q1, .int .i64 q2]) (by simp [results, Tryz.results50, go_sem, e0, e1]) rfl ⟨rfl, HB.out⟩
end Go.Proofs.YtepgpihobmjbdaaGreat
