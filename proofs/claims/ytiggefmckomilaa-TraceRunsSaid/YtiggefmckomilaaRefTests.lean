/-
  The reference's book: spans that widen; what standards are worth.
  The reference's book: what standards were worth, chains, what is void.
  The reference's book gets entries: how it is kept; a radar.
  The reference's book: all tests, in order.
-/
import Derived.Test.YtiggefmckomilaaRefStd
import Derived.Test.YtiggefmckomilaaRegC
import Derived.Deep.Cut
set_option linter.unusedSimpArgs false
set_option linter.unusedVariables false
namespace Go.Proofs.Ytiggefmckomilaa
open Go Go.RowKit

set_option maxHeartbeats 2000000 in
set_option maxRecDepth 100000 in
theorem rWiden_any (a b d f t : Int) (w : World) (h0 : 0 ≤ d) (h1 : d ≤ 1000000) (f0 : 0 ≤ f) (f1 : f ≤ 4294967296) (t0 : 0 ≤ t) (t1 : t ≤ 4294967296) (a0 : -1000000000000000000 ≤ a) (a1 : a ≤ 1000000000000000000) (b0 : -1000000000000000000 ≤ b) (b1 : b ≤ 1000000000000000000) (sc : Int) (hsc : sc = t - f) :
    Calls Try.prog 90 #[.agg #[.int .i64 a, .int .i64 b], .int .i64 d, .int .i64 sc] w fun e w' => e = .returned (.agg #[.int .i64 (widenS (a, b) d f t).1, .int .i64 (widenS (a, b) d f t).2]) ∧ Below w.heap.size w w' := by
  obtain ⟨k1, k2, k3, k4⟩ := wide_bd (d := d) h0 h1 f0 f1 t0 t1
  have hmx : (if sc < -sc then -sc else sc) = max (t - f) (f - t) := by rw [Int.max_def]; split <;> split <;> omega
  have hmx2 : max sc (-sc) = max (t - f) (f - t) := by omega
  have hW : widenS (a, b) d f t = (max 1 (a - upD (d * max (t - f) (f - t)) 86400), b + upD (d * max (t - f) (f - t)) 86400) := rfl
  have m1 : 0 ≤ max (t - f) (f - t) := by omega
  have m2 : max (t - f) (f - t) ≤ 4294967296 := by omega
  have hu := fun W => Up_any (d * max (t - f) (f - t)) 86400 W (by omega) (by omega) (by omega) (by omega)
  rw [← upD_cdiv (by omega)] at hu
  have hsb : -4294967296 ≤ sc ∧ sc ≤ 4294967296 := by omega
  generalize max (t - f) (f - t) = m at *
  generalize upD (d * m) 86400 = u at *
  rw [hW]
  have hm1 : (if 1 < a - u then a - u else 1) = max 1 (a - u) := by rw [Int.max_def]; split <;> split <;> omega
  have Hu := hide hu
  clear hu
  clear hW h0 h1 hsc
  go_enter Try.func90, Try.ntmps90
  have HB := hide (Below.refl w.heap.size w)
  go_wp2_with fail
  refine at_world fun W hW => ?_
  have bq0 : Blk W w.heap.size 23 #[.int .i64 a, .int .i64 b] := by rw [hW]; exact (Blk.new _ _ _).alloc _
  have bq1 : Blk W (w.heap.size + 1) 23 #[.int .i64 0, .int .i64 0] := by rw [hW]; exact blk_new_at (by simp)
  have LW : Later w W := by rw [hW]; exact (((Below.refl _ _).alloc (Nat.le_refl _) _).alloc (by simp; try omega) _)
  have szW : W.heap.size = w.heap.size + 2 := by rw [hW]; simp
  clear hW
  replace HB := hide (onward HB.out LW)
  have Hs := hide bq0
  have Ho := hide bq1
  clear bq0 bq1 LW szW
  refine (Hu.out _).mono ?_
  rintro e w' ⟨rfl, rfl⟩
  obtain ⟨s0, s1⟩ := Hs.out.c2
  have lts := Hs.out.lt
  obtain ⟨o0, o1⟩ := Ho.out.c2
  have lto := Ho.out.lt
  have fo0 := Ho.out.frozen 0
  have fo1 := Ho.out.frozen 1
  go_wp2
  refine bodyPost_ret (v := .agg #[.int .i64 (max 1 (a - u)), .int .i64 (b + u)]) (by simp [results, Try.results90, go_sem, o0, o1, fo0, fo1, lto]) rfl ⟨rfl, ?_⟩
  have hsz := HB.out.size
  repeat (first | exact HB.out | (refine Below.setCell ?_ (by first | omega | (simp; done) | (simp; omega)) _) | (refine Below.alloc ?_ (by first | omega | (simp; done) | (simp; omega)) _) | (refine below_drewN ?_ _))
/-- The contracts of made and value for one standard. -/
def MadeC (l : List Ent) (p : Nat) (A : Option Addr) (c : Nat) (s : Std) : Prop := ∀ w, RefR l p A c w → Calls Try.prog 74 #[ptrB p, stdV s] w fun e w' => e = .returned (.agg #[.int .i64 (madeT l s.name).1, .int .i64 (madeT l s.name).2]) ∧ Below w.heap.size w w'
set_option maxHeartbeats 2000000 in
set_option maxRecDepth 100000 in
theorem rvalue_of (l : List Ent) (p c : Nat) (A : Option Addr) (s : Std) (t : Int) (w : World) (hb : RefR l p A c w) (hs : stdT l s.name = some s) (hm : MadeC l p A c s) (t0 : 0 ≤ t) (t1 : t ≤ 4294967296) :
    Calls Try.prog 75 #[ptrB p, stdV s, .int .i64 t] w fun e w' => e = .returned (.agg #[.int .i64 (valueT l s t).1, .int .i64 (valueT l s t).2]) ∧ Below w.heap.size w w' := by
  obtain ⟨ho, -, hms⟩ := good_std hb.good hs
  have hV : valueT l s t = widenS (madeT l s.name) s.drift s.time t := rfl
  have hmc := fun W (hW : Below w.heap.size w W) => hm W (hb.later hW)
  obtain ⟨m1, m2, m3⟩ := hms
  obtain ⟨sn, sp, slo, shi, stm, sst, sdr⟩ := s
  have h3 := ho.d0
  have h4 := ho.d1
  have h5 := ho.t0
  have h6 := ho.t1
  have h7 := ho.t2
  simp only at *
  obtain ⟨⟨a, b⟩, hab⟩ : ∃ m, madeT l sn = m := ⟨_, rfl⟩
  rw [hab] at hmc m1 m2 m3 hV
  simp only at hmc m1 m2 m3
  have hw := fun W => rWiden_any a b sdr stm t W h3 h4 h5 (by omega) t0 t1 (by omega) (by omega) (by omega) (by omega) (t - stm) rfl
  rw [← hV] at hw
  generalize valueT l ⟨sn, sp, slo, shi, stm, sst, sdr⟩ t = v at *
  obtain ⟨v1, v2⟩ := v
  simp only at hw
  unfold ptrB stdV at *
  simp only at *
  clear hV hab ho hs hm hb
  have Hmc := hide hmc
  have Hw := hide hw
  clear hmc hw
  go_enter Try.func75, Try.ntmps75
  have HB := hide (Below.refl w.heap.size w)
  go_wp2_with fail
  refine code_world fun W hW => ?_
  have bq0 : Blk W w.heap.size 67 #[.string sn, .string sp, .int .i64 slo, .int .i64 shi, .int .i64 stm, .int .i64 sst, .int .i64 sdr] := by rw [hW]; exact (Blk.new _ _ _).alloc _
  have bq1 : Blk W (w.heap.size + 1) 23 #[.int .i64 0, .int .i64 0] := by rw [hW]; exact blk_new_at (by simp)
  have LW : Later w W := by rw [hW]; exact (((Below.refl _ _).alloc (Nat.le_refl _) _).alloc (by simp; try omega) _)
  have szW : W.heap.size = w.heap.size + 2 := by rw [hW]; simp
  clear hW
  replace HB := hide (onward HB.out LW)
  have Hs := hide bq0
  have Ho := hide bq1
  clear bq0 bq1 LW szW
  obtain ⟨s0, s1, s2, s3, s4, s5, s6⟩ := Hs.out.c7
  have lts := Hs.out.lt
  have hoo := Ho.out.lt
  have hsz := HB.out.size
  apply wp_region_F (w0 := W) [[], [], [0, 1], [], [3], [], [], [6], [5, 6, 7], [0, 1, 2, 3, 4, 5, 6, 7, 8], [0, 1, 2, 3, 4, 5, 6, 7, 8, 9]] [true, true, true, true, true, true, true, true, true, true, false] [false, false, false, false, false, false, false, false, false, false, false] [⟨10, none, [], []⟩] [(10, (w.heap.size+1))] [10] (fun ixq y => match ixq with | 10 => undef | _ => undef) (fun ixq x F wq => match ixq with | 10 => F (w.heap.size+1) ∧ Blk wq (w.heap.size+1) 23 #[.int .i64 v1, .int .i64 v2] | _ => True) (fun a x => (a).put (none) (undef)) (by kernel_rfl) (by kernel_rfl) (by kernel_rfl) (fun _ => rfl) [9, 16] (by kernel_rfl) (fills_lt1 (by omega)) fills_ne1
  · intro x D hD
    have hne := hD.some
    have k0 := liftS hD s0 (by exact early_all (by first | assumption | omega) (by rfl))
    have k1 := liftS hD s1 (by exact early_all (by first | assumption | omega) (by rfl))
    have k2 := liftS hD s2 (by exact early_all (by first | assumption | omega) (by rfl))
    have k3 := liftS hD s3 (by exact early_all (by first | assumption | omega) (by rfl))
    have k4 := liftS hD s4 (by exact early_all (by first | assumption | omega) (by rfl))
    have k5 := liftS hD s5 (by exact early_all (by first | assumption | omega) (by rfl))
    have k6 := liftS hD s6 (by exact early_all (by first | assumption | omega) (by rfl))
    simp only [takeOps, Act.put, List.setIfInBounds_toArray, List.set_cons_succ, List.set_cons_zero]
    repeat (go_big_quiet_step ((first | (go_at_call 74; exact calls_later hD _ (Hmc.out _ (onward HB.out (kbS hD (fun k hk => early_all hk (by rfl)) _)))) | (go_at_call 90; exact calls_later hD _ (Hw.out _)))))
    exact wpQuiet_nil rfl
  · exact fun x D hD => wpQuiet_nil rfl
  · intro d hd x x'
    simp only [List.mem_cons, List.not_mem_nil, or_false] at hd
    rcases hd with rfl | rfl
    all_goals rfl
  · refine ⟨?_, trivial⟩
    · exact obl_fill 23 23 6 16 (w.heap.size+1) _ (fun x => #[.int .i64 v1, .int .i64 v2]) (by kernel_rfl) (fun _ => rfl) (fun _ => rfl) Ho.out eb_fill1 (by simp [wrF]) (fun _ => by kernel_rfl) (fun _ => rfl) (fun _ => by simp [Value.oneCell']) (fun _ => rfl) (fun _ _ _ _ h1 h2 => ⟨h1, h2⟩)
  · refine ⟨?_, trivial⟩
    · exact owe_fill (w.heap.size+1) 23 (fun x => #[.int .i64 v1, .int .i64 v2]) (fun _ _ _ => rfl) (fun _ _ _ => rfl)
  intro xx w2 F hK hlv1
  obtain ⟨fct10, -⟩ := hlv1
  replace fct10 : (F 10) (w.heap.size+1) ∧ Blk w2 (w.heap.size+1) 23 #[.int .i64 v1, .int .i64 v2] := fct10 rfl
  have Hq := hide fct10.2
  have hB : Below w.heap.size w w2 := below_kept HB.out HB.out.size hK (fun p hp => by simp only [List.mem_singleton] at hp; subst hp; omega)
  obtain ⟨o0, o1⟩ := Hq.out.c2
  have lto := Hq.out.lt
  have fo0 := Hq.out.frozen 0
  have fo1 := Hq.out.frozen 1
  go_wp2
  refine bodyPost_ret (v := .agg #[.int .i64 v1, .int .i64 v2]) (by simp [results, Try.results75, go_sem, o0, o1, fo0, fo1, lto]) rfl ⟨rfl, hB⟩
end Go.Proofs.Ytiggefmckomilaa
namespace Go.Proofs.Ytiggefmckomilaa
open Go Go.RowKit

set_option maxHeartbeats 4000000 in
set_option maxRecDepth 100000 in
theorem rmade_par (l : List Ent) (p c : Nat) (A : Option Addr) (s q : Std) (w : World) (hb : RefR l p A c w) (hp : s.par ≠ ByteArray.empty) (hq : stdT l s.par = some q) (hrec : MadeC l p A c q) (t0 : 0 ≤ s.time) (t1 : s.time ≤ 4294967296) (h1 : 1 ≤ s.lo) (h2 : s.lo ≤ s.hi) (h3 : s.hi ≤ 1000000) :
    Calls Try.prog 74 #[ptrB p, stdV s] w fun e w' => e = .returned (.agg #[.int .i64 (scaledS (valueT l q s.time) (s.lo, s.hi)).1, .int .i64 (scaledS (valueT l q s.time) (s.lo, s.hi)).2]) ∧ Below w.heap.size w w' := by
  have hg := hb.good
  have hqn := std_name hq
  have he1 : s.par.toList.isEmpty = false := notEmpty hp
  have hqs : stdT l q.name = some q := by rw [hqn]; exact hq
  have hvc := fun W (hW : Below w.heap.size w W) => rvalue_of l p c A q s.time W (hb.later hW) hqs hrec t0 t1
  have hsc := fun W (hW : Below w.heap.size w W) => rstandard_any l p c A s.par W (hb.later hW)
  have hsv : standardV l s.par = .tuple #[stdV q, .bool true] := by unfold standardV; rw [hq]
  rw [hsv] at hsc
  obtain ⟨ho2, -, hms⟩ := good_std hg hqs
  have hvb := widenS_bd (s := madeT l q.name) (d := q.drift) (f := q.time) (t := s.time) ho2.d0 ho2.d1 ho2.t0 (by have := ho2.t1; have := ho2.t2; omega) t0 t1 hms.2.1 (by have := hms.1; have := hms.2.1; omega)
  have hms3 := hms.2.2
  have hvE : valueT l q s.time = widenS (madeT l q.name) q.drift q.time s.time := rfl
  rw [← hvE] at hvb
  clear hp hrec hqs hqn hsv hms hq ho2 hb hg hvE
  obtain ⟨sn, sp, slo, shi, stm, sst, sdr⟩ := s
  obtain ⟨qn, qp, qlo, qhi, qtm, qst, qdr⟩ := q
  simp only at *
  generalize valueT l ⟨qn, qp, qlo, qhi, qtm, qst, qdr⟩ stm = v at *
  obtain ⟨v1, v2⟩ := v
  simp only at hvb hvc
  obtain ⟨-, -, -, k1, k2, k3⟩ := scaledS_bd (s := (v1, v2)) (t := (slo, shi)) hvb.1 hvb.2.1 (by simp only; omega) h1 h2 h3
  simp only at k1 k2 k3
  have hS : scaledS (v1, v2) (slo, shi) = (max 1 (v1 * slo / 1000), upD (v2 * shi) 1000) := rfl
  have hu := fun W => Up_any (v2 * shi) 1000 W (by omega) (by omega) (by omega) (by omega)
  rw [← upD_cdiv (by omega)] at hu
  have hdn := fun W => Down_any (v1 * slo) 1000 W (by omega) (by omega) (by omega) (by omega)
  obtain ⟨q1, q2, -⟩ := div_bd (a := v1 * slo) (b := 1000) k1 (by omega)
  rw [hS]
  have q3 : 0 ≤ v2 * shi := by omega
  obtain ⟨dq, hdq⟩ : ∃ d : Int, v1 * slo / 1000 = d := ⟨_, rfl⟩
  rw [hdq] at hdn q1 q2 ⊢
  obtain ⟨mm, hmm⟩ : ∃ m : Int, (if 1 < dq then dq else 1) = m := ⟨_, rfl⟩
  have hmm2 : max 1 dq = mm := by rw [← hmm, Int.max_def]; split <;> split <;> omega
  rw [hmm2]
  generalize upD (v2 * shi) 1000 = u at *
  unfold ptrB stdV at *
  simp only at *
  have Hu := hide hu
  have Hdn := hide hdn
  have Hvc := hide hvc
  have Hsc := hide hsc
  clear hu hdn hvc hsc
  clear hS
  go_enter Try.func74, Try.ntmps74
  have HB := hide (Below.refl w.heap.size w)
  go_wp2_with fail
  refine at_world fun W hW => ?_
  have bq0 : Blk W w.heap.size 67 #[.string sn, .string sp, .int .i64 slo, .int .i64 shi, .int .i64 stm, .int .i64 sst, .int .i64 sdr] := by rw [hW]; exact (Blk.new _ _ _).alloc _
  have bq1 : Blk W (w.heap.size + 1) 23 #[.int .i64 0, .int .i64 0] := by rw [hW]; exact blk_new_at (by simp)
  have LW : Later w W := by rw [hW]; exact (((Below.refl _ _).alloc (Nat.le_refl _) _).alloc (by simp; try omega) _)
  have szW : W.heap.size = w.heap.size + 2 := by rw [hW]; simp
  clear hW
  replace HB := hide (onward HB.out LW)
  have Hs := hide bq0
  have Ho := hide bq1
  clear bq0 bq1 LW szW
  refine (Hsc.out _ HB.out).mono ?_
  rintro e w2 ⟨rfl, hb⟩
  replace HB := hide (onward HB.out hb)
  replace Hs := hide (blk_later Hs.out hb)
  replace Ho := hide (blk_later Ho.out hb)
  clear hb
  obtain ⟨s0, s1, s2, s3, s4, s5, s6⟩ := Hs.out.c7
  have lts := Hs.out.lt
  go_wp2_with fail
  refine at_world fun W3 hW => ?_
  have bq0 : Blk W3 w2.heap.size 67 #[.string qn, .string qp, .int .i64 qlo, .int .i64 qhi, .int .i64 qtm, .int .i64 qst, .int .i64 qdr] := by rw [hW]; exact Blk.new _ _ _
  have LW : Later w2 W3 := by rw [hW]; exact ((Below.refl _ _).alloc (Nat.le_refl _) _)
  have szW : W3.heap.size = w2.heap.size + 1 := by rw [hW]; simp
  clear hW s0 s1 s2 s3 s4 s5 s6 lts
  replace HB := hide (onward HB.out LW)
  replace Hs := hide (blk_later Hs.out LW)
  replace Ho := hide (blk_later Ho.out LW)
  have Hq := hide bq0
  clear bq0 LW szW
  refine (Hvc.out _ HB.out).mono ?_
  rintro e w4 ⟨rfl, hb⟩
  replace HB := hide (onward HB.out hb)
  replace Hs := hide (blk_later Hs.out hb)
  replace Ho := hide (blk_later Ho.out hb)
  replace Hq := hide (blk_later Hq.out hb)
  clear hb
  go_wp2_with fail
  refine code_world fun W5 hW => ?_
  have bq0 : Blk W5 w4.heap.size 23 #[.int .i64 v1, .int .i64 v2] := by rw [hW]; exact Blk.new _ _ _
  have LW : Later w4 W5 := by rw [hW]; exact ((Below.refl _ _).alloc (Nat.le_refl _) _)
  have szW : W5.heap.size = w4.heap.size + 1 := by rw [hW]; simp
  clear hW
  replace HB := hide (onward HB.out LW)
  replace Hs := hide (blk_later Hs.out LW)
  replace Ho := hide (blk_later Ho.out LW)
  replace Hq := hide (blk_later Hq.out LW)
  have Hv := hide bq0
  clear bq0 LW szW
  obtain ⟨s0, s1, s2, s3, s4, s5, s6⟩ := Hs.out.c7
  have lts := Hs.out.lt
  obtain ⟨vv0, vv1⟩ := Hv.out.c2
  have ltvv := Hv.out.lt
  have hoo := Ho.out.lt
  have hsz := HB.out.size
  apply wp_region_F (w0 := W5) [[], [0], [], [2], [2, 3], [0, 1, 2, 3, 4], [0, 1, 2, 3, 4, 5], [0, 1, 2, 3, 4, 5, 6], [], [8], [], [10], [10, 11], [8, 9, 10, 11, 12], [0, 1, 2, 3, 4, 5, 6, 8, 9, 10, 11, 12, 13], [0, 1, 2, 3, 4, 5, 6, 7, 8, 9, 10, 11, 12, 13, 14], [0, 1, 2, 3, 4, 5, 6, 7, 8, 9, 10, 11, 12, 13, 14, 15]] [true, true, true, true, true, true, true, true, true, true, true, true, true, true, true, true, false] [false, false, false, false, false, false, false, false, false, false, false, false, false, false, false, false, false] [⟨16, none, [], []⟩] [(16, (w.heap.size+1))] [16] (fun ixq y => match ixq with | 16 => undef | _ => undef) (fun ixq x F wq => match ixq with | 16 => F (w.heap.size+1) ∧ Blk wq (w.heap.size+1) 23 #[.int .i64 mm, .int .i64 u] | _ => True) (fun a x => (a).put (none) (undef)) (by kernel_rfl) (by kernel_rfl) (by kernel_rfl) (fun _ => rfl) [31, 39] (by kernel_rfl) (fills_lt1 (by omega)) fills_ne1
  · intro x D hD
    have hne := hD.some
    have k0 := liftS hD s0 (by exact early_all (by first | assumption | omega) (by rfl))
    have k1 := liftS hD s1 (by exact early_all (by first | assumption | omega) (by rfl))
    have k2 := liftS hD s2 (by exact early_all (by first | assumption | omega) (by rfl))
    have k3 := liftS hD s3 (by exact early_all (by first | assumption | omega) (by rfl))
    have k4 := liftS hD s4 (by exact early_all (by first | assumption | omega) (by rfl))
    have k5 := liftS hD s5 (by exact early_all (by first | assumption | omega) (by rfl))
    have k6 := liftS hD s6 (by exact early_all (by first | assumption | omega) (by rfl))
    have j0 := liftS hD vv0 (by exact early_all (by first | assumption | omega) (by rfl))
    have j1 := liftS hD vv1 (by exact early_all (by first | assumption | omega) (by rfl))
    simp only [takeOps, Act.put, List.setIfInBounds_toArray, List.set_cons_succ, List.set_cons_zero]
    repeat (go_big_quiet_step ((first | (go_at_call 56; exact calls_same _ (Hdn.out _)) | (go_at_call 57; exact calls_same _ (Hu.out _)))))
    exact wpQuiet_nil rfl
  · exact fun x D hD => wpQuiet_nil rfl
  · intro d hd x x'
    simp only [List.mem_cons, List.not_mem_nil, or_false] at hd
    rcases hd with rfl | rfl
    all_goals rfl
  · refine ⟨?_, trivial⟩
    · exact obl_fill 23 23 4 40 (w.heap.size+1) _ (fun x => #[.int .i64 mm, .int .i64 u]) (by kernel_rfl) (fun _ => rfl) (fun _ => rfl) Ho.out eb_fill1 (by simp [wrF]) (fun _ => by kernel_rfl) (fun _ => rfl) (fun _ => by simp [Value.oneCell']) (fun _ => rfl) (fun _ _ _ _ h1 h2 => ⟨h1, h2⟩)
  · refine ⟨?_, trivial⟩
    · exact owe_fill (w.heap.size+1) 23 (fun x => #[.int .i64 mm, .int .i64 u]) (fun _ _ _ => rfl) (fun _ _ _ => rfl)
  intro xx w6 F hK hlv1
  obtain ⟨fct16, -⟩ := hlv1
  replace fct16 : (F 16) (w.heap.size+1) ∧ Blk w6 (w.heap.size+1) 23 #[.int .i64 mm, .int .i64 u] := fct16 rfl
  have Hr := hide fct16.2
  have hB : Below w.heap.size w w6 := below_kept HB.out HB.out.size hK (fun p hp => by simp only [List.mem_singleton] at hp; subst hp; omega)
  obtain ⟨o0, o1⟩ := Hr.out.c2
  have lto := Hr.out.lt
  have fo0 := Hr.out.frozen 0
  have fo1 := Hr.out.frozen 1
  go_wp2
  refine bodyPost_ret (v := .agg #[.int .i64 mm, .int .i64 u]) (by simp [results, Try.results74, go_sem, o0, o1, fo0, fo1, lto]) rfl ⟨rfl, hB⟩
set_option maxHeartbeats 4000000 in
set_option maxRecDepth 100000 in
theorem rmade_all (l : List Ent) (p c : Nat) (A : Option Addr) (hg : GoodB l) : ∀ (m : Nat) (n : ByteArray) (s : Std), (chainT l n).length ≤ m → stdT l n = some s → MadeC l p A c s
  | 0, n, s, h, hs => by rw [chain_step hg hs] at h; simp at h
  | m + 1, n, s, h, hs => by
    intro w hb
    obtain ⟨ho, hn, -⟩ := good_std hg hs
    have hst := chain_step hg hs
    obtain ⟨hm1, hm2⟩ := made_step hg hs
    rw [hn]
    subst hn
    by_cases hp : s.par = ByteArray.empty
    · have hM := hm1 hp
      rw [hM]
      have he1 : s.par.toList.isEmpty = true := by rw [hp, ByteArray.toList_eq]; rfl
      clear hst hm1 hm2 hp
      obtain ⟨sn, sp, slo, shi, stm, sst, sdr⟩ := s
      simp only at *
      unfold ptrB stdV
      simp only
      go_enter Try.func74, Try.ntmps74
      go_wp2
      refine ret_world fun W2 hW => ?_
      have hb2 : Blk W2 (w.heap.size + 1) 23 #[.int .i64 slo, .int .i64 shi] := by
        rw [hW]
        have hX : w.heap.size + 1 = (w.alloc (.cells #[.string sn, .string sp, .int .i64 slo, .int .i64 shi, .int .i64 stm, .int .i64 sst, .int .i64 sdr] 67)).heap.size := by simp
        exact blk_new_at (t := 23) (cs := #[.int .i64 slo, .int .i64 shi]) (g := w.heap.size + 1) hX
      have hB2 : Below w.heap.size w W2 := by
        rw [hW]
        repeat (first | exact Below.refl _ _ | (refine Below.setCell ?_ (by first | omega | (simp; done) | (simp; omega)) _) | (refine Below.alloc ?_ (by first | omega | (simp; done) | (simp; omega)) _) | (refine below_drewN ?_ _))
      clear hW
      obtain ⟨o0, o1⟩ := hb2.c2
      have lto := hb2.lt
      refine bodyPost_ret (v := .agg #[.int .i64 slo, .int .i64 shi]) (by simp [results, Try.results74, go_sem, o0, o1, lto]) rfl ⟨rfl, hB2⟩
    · obtain ⟨q, hq, hq1, hq2⟩ := par_of hg hs hp
      have hM := hm2 q hq hp
      rw [hM]
      rw [if_neg hp] at hst
      have hrec := rmade_all l p c A hg m s.par q (by rw [hst] at h; simp at h; omega) hq
      exact rmade_par l p c A s q w hb hp hq hrec ho.t0 (by have := ho.t1; have := ho.t2; omega) ho.lo ho.le ho.hi
theorem rmade_any {l : List Ent} (p c : Nat) (A : Option Addr) {n : ByteArray} {s : Std} (hg : GoodB l) (hs : stdT l n = some s) : MadeC l p A c s := rmade_all l p c A hg _ n s (Nat.le_refl _) hs
theorem rvalue_any {l : List Ent} {p c : Nat} {A : Option Addr} {n : ByteArray} {s : Std} (t : Int) (w : World) (hb : RefR l p A c w) (hs : stdT l n = some s) (t0 : 0 ≤ t) (t1 : t ≤ 4294967296) :
    Calls Try.prog 75 #[ptrB p, stdV s, .int .i64 t] w fun e w' => e = .returned (.agg #[.int .i64 (valueT l s t).1, .int .i64 (valueT l s t).2]) ∧ Below w.heap.size w w' :=
  rvalue_of l p c A s t w hb (by rw [std_name hs]; exact hs) (rmade_any p c A hb.good hs) t0 t1
def slN : Value → Nat
  | .slice _ n _ => n
  | _ => 0
set_option maxHeartbeats 4000000 in
set_option maxRecDepth 100000 in
theorem rchain_any (l : List Ent) (p c : Nat) (A : Option Addr) (n : ByteArray) (w : World) (hb : RefR l p A c w) (hs : ∃ s, stdT l n = some s) :
    Calls Try.prog 88 #[ptrB p, .string n] w fun e w' => ∃ v, e = .returned v ∧ Mem w [.row w.heap.size 9 1 v (chainT l n).length (strV (chainT l n))] w' := by
  have hcd := fun j m h => chainDrop (n := n) hb.good hs j m h
  have hcn := fun (j : Nat) (s : Std) h1 h2 => chainNext (n := n) (j := j) (s := s) hb.good hs h1 h2
  have hcl := chainLen (l := l) (n := n)
  have hl := good_len hb.good
  have hc0 : (chainT l n)[0]? = some n := by obtain ⟨s, hs⟩ := hs; rw [chain_step hb.good hs]; rfl
  have hne : ∀ m s, stdT l m = some s → m.toList.isEmpty = false := fun m s h => by
    refine notEmpty fun e => ?_
    obtain ⟨h1, h2, -⟩ := good_std hb.good h
    have h3 := h1.name
    rw [h2, e] at h3
    revert h3
    decide
  have hsc := fun W (hW : Below w.heap.size w W) m => rstandard_any l p c A m W (hb.later hW)
  obtain ⟨C, hC⟩ : ∃ C, chainT l n = C := ⟨_, rfl⟩
  rw [hC] at hcd hcn hcl hc0 ⊢
  have hat : n = (C[0]?).getD ByteArray.empty := by rw [hc0]; rfl
  clear hC hb hs
  obtain ⟨i0, hii, hz0, hz1, hz2⟩ := info_parts strInfo
  unfold ptrB at *
  have Hcd := hide hcd
  have Hcn := hide hcn
  have Hne := hide hne
  have Hsc := hide hsc
  have Hi := hide hii
  have Hz0 := hide hz0
  have Hz1 := hide hz1
  have Hz2 := hide hz2
  clear hcd hcn hne hsc hii hz0 hz1 hz2
  go_enter Try.func88, Try.ntmps88
  have HM := hide ((Mem.start w).nilRow w.heap.size 9 1)
  go_wp2_with fail
  go_loopw [1, 5] (fun nm o wr => ∃ k : Nat, k ≤ C.length ∧ nm = .string ((C[k]?).getD ByteArray.empty) ∧ Mem w [.row w.heap.size 9 1 o k (strV (C.take k))] wr) (fun _ o _ => C.length - slN o)
  case atStart => exact ⟨0, Nat.zero_le _, by rw [← hat], by rw [List.take_zero]; exact HM.out⟩
  case round =>
    obtain ⟨k, hk, rfl, hM⟩ := hrel
    clear HM
    have HM := hide hM
    clear hM
    obtain ⟨Ao, co, rfl⟩ := own_shape2 (Mem.row_ HM.out 0 rfl)
    by_cases hlt : k < C.length
    · obtain ⟨m, hm⟩ : ∃ m, C[k]? = some m := ⟨_, List.getElem?_eq_getElem hlt⟩
      rw [hm]
      rw [show (some m).getD ByteArray.empty = m from rfl]
      obtain ⟨-, sm, hsm⟩ := Hcd.out k m hm
      have hmn := std_name hsm
      have he1 := Hne.out m sm hsm
      obtain ⟨hn1, hn2⟩ := Hcn.out k sm (by rw [hmn]; exact hm) (by rw [hmn]; exact hsm)
      have hnx : (C[k + 1]?).getD ByteArray.empty = sm.par := by
        by_cases hp : sm.par = ByteArray.empty
        · have := hn1 hp
          rw [hp, List.getElem?_eq_none (by omega)]
          rfl
        · rw [hn2 hp]; rfl
      have htk : strV (C.take (k + 1)) = strV (C.take k) ++ [.string m] := by
        obtain ⟨hj, e⟩ := List.getElem?_eq_some_iff.1 hm
        rw [List.take_succ_eq_append_getElem hj, strV_snoc, e]
      have hv : standardV l m = .tuple #[stdV sm, .bool true] := by unfold standardV; rw [hsm]
      have hc1 := Hsc.out wr HM.out.below m
      rw [hv] at hc1
      clear hn1 hn2 hsm hmn hm hv
      obtain ⟨sn, sp, slo, shi, stm, sst, sdr⟩ := sm
      unfold stdV at hc1
      simp only at hc1 hnx
      have Hnx := hide hnx
      have Htk := hide htk
      clear hnx htk
      go_wp2_with fail
      refine (hc1).mono ?_
      rintro e w2 ⟨rfl, hb⟩
      replace HM := hide (HM.out.later hb)
      clear hb
      clear hc1
      go_upto_region 4 with fail
      refine code_world fun w3 hW => ?_
      have HMn := Mem.to (Mem.allocAt HM.out w2.heap.size rfl #[.string sn, .string sp, .int .i64 slo, .int .i64 shi, .int .i64 stm, .int .i64 sst, .int .i64 sdr] 67) hW
      have LW : Later w2 w3 := by rw [hW]; exact ((Below.refl _ _).alloc (Nat.le_refl _) _)
      have szW : w3.heap.size = w2.heap.size + 1 := by rw [hW]; simp
      clear hW
      replace HM := hide HMn
      clear HMn LW
      clear szW
      generalize hgs : w2.heap.size = gs at HM ⊢
      have hownM := Mem.row_ HM.out 1 rfl
      have hbaseM : w.heap.size ≤ w3.heap.size := HM.out.size
      go_wp2_with (at_builtin; refine wpList_append_own_at _ rfl (.tmp 16) (.tmp 18) _ rfl w.heap.size 9 i0 _ 1 16 Try.underlying36 Hi.out Hz0.out Hz1.out Hz2.out rfl (by decide) _ k (strV (C.take k)) rfl (hownM.alloc _) ⟨w3.heap.size, 0, none⟩ 1 1 [.string m] rfl rfl ?q1c1 (by intro u hu; simp only [List.mem_cons, List.not_mem_nil, or_false] at hu; rcases hu with rfl <;> rfl) ?q1c3 ?q1c4 ?q1c5 ?_)
      try case q1c1 => exact new_cellsQ w3 _ [.string m]
      case q1c3 => unfold maxLen; omega
      case q1c4 => omega
      case q1c5 => simp; omega
      intro o2 w4 hown2 hgr2 _ hat2
      have HMn := HM.out.grow 1 rfl _ hgr2 hown2 hat2
      replace HM := hide HMn
      clear HMn hown2 hgr2 hat2 hownM hbaseM
      have bz : Blk w4 gs 67 #[.string sn, .string sp, .int .i64 slo, .int .i64 shi, .int .i64 stm, .int .i64 sst, .int .i64 sdr] := HM.out.get 0 rfl
      have ltz := bz.lt
      have z0 := bz.c 0 rfl
      have z1 := bz.c 1 rfl
      obtain ⟨A2, c2, rfl⟩ := own_shape2 (Mem.row_ HM.out 1 rfl)
      go_wp2_with fail
      go_roundw
      case rel => exact ⟨k + 1, hlt, by rw [Hnx.out], by rw [Htk.out]; exact HM.out.tail⟩
      case measure => simp [slN] <;> omega
    · obtain rfl : k = C.length := by omega
      rw [List.getElem?_eq_none (Nat.le_refl _), show (none : Option ByteArray).getD ByteArray.empty = ⟨#[]⟩ from rfl]
      rw [List.take_length] at HM
      go_wp2
      go_ret
      exact ⟨_, rfl, HM.out⟩
set_option maxHeartbeats 2000000 in
set_option maxRecDepth 100000 in
theorem rvoid_any (l : List Ent) (p c : Nat) (A : Option Addr) (n : ByteArray) (w : World) (hb : RefR l p A c w) (hs : ∃ s, stdT l n = some s) :
    Calls Try.prog 73 #[ptrB p, .string n] w fun e w' => e = .returned (.bool (voidT l n)) ∧ Below w.heap.size w w' := by
  have hcl := chainLen (l := l) (n := n)
  have hl := good_len hb.good
  have hch := rchain_any l p c A n w hb hs
  have hwd := fun W (hW : Below w.heap.size w W) m => rwd_any l p c A m W (hb.later hW)
  have hv : voidT l n = (chainT l n).any (wdT l) := rfl
  rw [hv]
  obtain ⟨C, hC⟩ : ∃ C, chainT l n = C := ⟨_, rfl⟩
  rw [hC] at hcl hch ⊢
  have hCl : (C.length : Int) ≤ 2000 := by omega
  clear hC hb hs hv
  unfold ptrB at *
  have Hch := hide hch
  have Hwd := hide hwd
  clear hch hwd
  go_enter Try.func73, Try.ntmps73
  go_wp2_with fail
  refine Hch.out.mono ?_
  rintro e w2 ⟨v, rfl, hM⟩
  have HM := hide hM
  clear hM Hch
  obtain ⟨Ao, co, rfl⟩ := own_shape2 (Mem.row_ HM.out 0 rfl)
  go_wp2_with fail
  go_loopw [6] (fun i wr => ∃ k : Nat, k ≤ C.length ∧ i = .int .i64 k ∧ (C.take k).any (wdT l) = false ∧ Mem w [.row w.heap.size 9 1 (.slice Ao C.length co) C.length (strV C)] wr) (fun i _ => C.length - (intOf i).toNat)
  case atStart => exact ⟨0, Nat.zero_le _, rfl, by rw [List.take_zero]; rfl, HM.out⟩
  case round =>
    obtain ⟨k, hk, rfl, hno, hM⟩ := hrel
    clear HM
    have HM := hide hM
    have Hno := hide hno
    clear hM hno
    by_cases hlt : k < C.length
    · have hlt2 : (k : Int) < C.length := by omega
      obtain ⟨m, hm⟩ : ∃ m, C[k]? = some m := ⟨_, List.getElem?_eq_getElem hlt⟩
      have hnx : (C.take (k + 1)).any (wdT l) = wdT l m := by
        obtain ⟨hj, e⟩ := List.getElem?_eq_some_iff.1 hm
        rw [List.take_succ_eq_append_getElem hj, List.any_append, Hno.out, e]
        simp
      have hall : wdT l m = true → C.any (wdT l) = true := fun h => List.any_eq_true.2 ⟨m, List.mem_of_getElem? hm, h⟩
      obtain ⟨b, cur, rfl, -, hbk, -, -, hcc⟩ := row_blk (Mem.row_ HM.out 0 rfl) (by omega)
      have y0 := hbk.c k (hcc k _ (by unfold strV; rw [List.getElem?_map, hm]; rfl))
      have lty := hbk.lt
      have hw := Hwd.out wr HM.out.below m
      obtain ⟨o, ho⟩ : ∃ o, wdT l m = o := ⟨_, rfl⟩
      rw [ho] at hnx hall hw
      have Hnx := hide hnx
      have Hall := hide hall
      clear hnx hall
      clear hm hbk hcc ho
      go_wp2_with fail
      refine (hw).mono ?_
      rintro e w3 ⟨rfl, hb⟩
      replace HM := hide (HM.out.later hb)
      clear hb
      clear hw y0 lty
      cases o with
      | true =>
        go_wp2
        go_ret
        have hX := Hall.out (by trivial)
        exact ⟨by rw [hX]; rfl, HM.out.below⟩
      | false =>
        go_wp2_with fail
        go_roundw
        case rel => exact ⟨k + 1, hlt, by go_num, Hnx.out, HM.out⟩
        case measure => simp [intOf] <;> omega
    · obtain rfl : k = C.length := by omega
      have hkk : ¬ ((C.length : Int) < C.length) := by omega
      have hno := Hno.out
      rw [List.take_length] at hno
      go_wp2
      go_ret
      exact ⟨rfl, HM.out.below⟩
end Go.Proofs.Ytiggefmckomilaa
namespace Go.Proofs.Ytiggefmckomilaa
open Go Go.RowKit

theorem flatMap_at {α : Type} (f : α → List Value) (m : Nat) (hf : ∀ x, (f x).length = m) : ∀ (xs : List α) (i j : Nat) (x : α), xs[i]? = some x → j < m → (xs.flatMap f)[i * m + j]? = (f x)[j]?
  | [], i, j, x, h, _ => by simp at h
  | y :: ys, 0, j, x, h, hj => by
    have e : y = x := by simpa using h
    subst e
    rw [List.flatMap_cons, Nat.zero_mul, Nat.zero_add, List.getElem?_append_left (by rw [hf]; exact hj)]
  | y :: ys, i + 1, j, x, h, hj => by
    rw [List.flatMap_cons, List.getElem?_append_right (by rw [hf, Nat.succ_mul]; omega), hf, show (i + 1) * m + j - m = i * m + j by rw [Nat.succ_mul]; omega]
    exact flatMap_at f m hf ys i j x (by simpa using h) hj
def refRow (l : List Ent) : List Value := l.reverse.flatMap rowE
theorem refRow_cons (x : Ent) (l : List Ent) : refRow (x :: l) = refRow l ++ rowE x := by unfold refRow; rw [List.reverse_cons, List.flatMap_append]; simp
/-- The reference's book, beside other things. -/
structure RMem (w0 : World) (l : List Ent) (p : Nat) (v : Value) (ts : List Th) (W : World) : Prop where
  good : GoodB l
  mem : Mem w0 (.blk p 117 #[v] :: .row w0.heap.size 121 15 v l.length (refRow l) :: ts) W
theorem RMem.later {w0 W W' : World} {l : List Ent} {p : Nat} {v : Value} {ts : List Th} (h : RMem w0 l p v ts W) (hb : Below W.heap.size W W') : RMem w0 l p v ts W' := ⟨h.good, h.mem.later hb⟩
theorem RMem.shape {w0 W : World} {l : List Ent} {p : Nat} {v : Value} {ts : List Th} (h : RMem w0 l p v ts W) : ∃ A c, v = .slice A l.length c := own_shape2 (Mem.row_ h.mem 1 rfl)
theorem RMem.ref {w0 W : World} {l : List Ent} {p c : Nat} {A : Option Addr} {ts : List Th} (h : RMem w0 l p (.slice A l.length c) ts W) : RefR l p A c W := by
  refine ⟨h.good, Mem.blk_ h.mem 0 rfl, fun hn => ?_⟩
  obtain ⟨b, cur, hA, -, hb, -, -, hc⟩ := row_blk (Mem.row_ h.mem 1 rfl) hn
  refine ⟨b, 0, hA, hb.lt, fun i hi j v hv => ?_⟩
  rw [Nat.zero_add]
  refine hb.c _ (hc _ _ ?_)
  have hj : j < 15 := by have := (List.getElem?_eq_some_iff.1 hv).1; simpa [rowE] using this
  unfold refRow
  rw [flatMap_at rowE 15 (fun _ => rfl) l.reverse i j (entN l i) (by unfold entN; rw [List.getD_eq_getElem?_getD, List.getElem?_eq_getElem (by simpa using hi)]; rfl) hj]
  exact hv
theorem entryInfo : (Try.prog.info? 121).map (fun i => (i.zero, i.size, i.bytes)) = some (some (.agg #[.int .i64 0, .string ⟨#[]⟩, .int .i64 0, .string ⟨#[]⟩, .string ⟨#[]⟩, .int .i64 0, .int .i64 0, .int .i64 0, .int .i64 0, .int .i64 0, .string ⟨#[]⟩, .string ⟨#[]⟩, .int .i64 0, .int .i64 0, .int .i64 0]), 15, 160) := by kernel_rfl
set_option maxHeartbeats 4000000 in
set_option maxRecDepth 100000 in
theorem rRadar_any (w0 : World) (l : List Ent) (p : Nat) (v : Value) (ts : List Th) (n : ByteArray) (d : Int) (w : World) (h : RMem w0 l p v ts w) (hns : n.size ≤ maxLen) :
    Calls Try.prog 31 #[ptrB p, .string n, .int .i64 d] w fun e w' => e = .returned (.int .i64 (radarE l n d)) ∧ ∃ v', RMem w0 (if radarE l n d = 0 then .radar n d :: l else l) p v' ts w' := by
  obtain ⟨A, c, rfl⟩ := h.shape
  have hl := good_len h.good
  have hl2 : (l.length : Int) ≤ 2000 := by omega
  have hdr := fun W (hW : Below w.heap.size w W) => rdrift_any l p c A n W (h.ref.later hW)
  have hcn := fun W (hW : Below w.heap.size w W) => rcount_any l p c A 1 W (h.ref.later hW)
  have hin := fun W => rIn_any d 0 1000000 W
  have hnm := fun W => RefName_any n W (by unfold maxLen at hns; omega)
  have hE : radarE l n d = if 2000 ≤ l.length then 13 else if nameB n = false then 10 else if (driftT l n).isSome then 5 else if 32 ≤ (radarsT l).length then 9 else if inR d 0 1000000 = false then 3 else 0 := rfl
  rw [cnt_radar] at hcn
  have hrl : (radarsT l).length ≤ l.length := by rw [← cnt_radar]; exact cnt_le 1 l
  obtain ⟨M, hM⟩ : ∃ M, (radarsT l).length = M := ⟨_, rfl⟩
  rw [hM] at hcn hE hrl
  have hM2 : (M : Int) ≤ 2000 := by omega
  have hgood : radarE l n d = 0 → GoodB (.radar n d :: l) := fun e => ⟨by show (radarE l n d == 0) = true; rw [e]; rfl, h.good⟩
  have hb := (Mem.blk_ h.mem 0 rfl)
  have x0 := hb.c 0 rfl
  have ltx := hb.lt
  have H := hide h
  clear h hb hM
  unfold ptrB at *
  have Hdr := hide hdr
  have Hcn := hide hcn
  have Hin := hide hin
  have Hnm := hide hnm
  have Hgood := hide hgood
  clear hdr hcn hin hnm hgood
  have HB := hide (Below.refl w.heap.size w)
  generalize hre : radarE l n d = re at *
  by_cases h1 : 2000 ≤ l.length
  · rw [if_pos h1] at hE
    subst hE
    have h1' : (2000 : Int) ≤ l.length := by omega
    go_enter Try.func31, Try.ntmps31
    go_wp2
    go_ret
    exact ⟨rfl, .slice A l.length c, by first | exact H.out | (rw [if_neg (by decide)]; exact H.out)⟩
  · rw [if_neg h1] at hE
    have h1' : ¬ (2000 : Int) ≤ l.length := by omega
    cases hn : nameB n with
    | false =>
      rw [hn, if_pos rfl] at hE
      rw [hn] at Hnm
      subst hE
      go_enter Try.func31, Try.ntmps31
      go_wp2_with fail
      refine (Hnm.out _).mono ?_
      rintro e w' ⟨rfl, rfl⟩
      go_wp2
      go_ret
      exact ⟨rfl, .slice A l.length c, by first | exact H.out.later HB.out | (rw [if_neg (by decide)]; exact H.out.later HB.out)⟩
    | true =>
      rw [hn, if_neg (by decide)] at hE
      rw [hn] at Hnm
      cases hd : driftT l n with
      | some d0 =>
        rw [hd, if_pos (show (some d0).isSome = true from rfl)] at hE
        unfold driftV at Hdr
        simp only [hd] at Hdr
        subst hE
        go_enter Try.func31, Try.ntmps31
        go_wp2_with fail
        refine (Hnm.out _).mono ?_
        rintro e w' ⟨rfl, rfl⟩
        go_wp2_with fail
        refine (Hdr.out _ HB.out).mono ?_
        rintro e w3 ⟨rfl, hb⟩
        replace HB := hide (onward HB.out hb)
        clear hb
        go_wp2
        go_ret
        exact ⟨rfl, .slice A l.length c, by first | exact H.out.later HB.out | (rw [if_neg (by decide)]; exact H.out.later HB.out)⟩
      | none =>
        rw [hd, if_neg (show ¬ (none : Option Int).isSome = true by decide)] at hE
        unfold driftV at Hdr
        simp only [hd] at Hdr
        by_cases h4 : 32 ≤ M
        · rw [if_pos h4] at hE
          have h4' : (32 : Int) ≤ M := by omega
          subst hE
          go_enter Try.func31, Try.ntmps31
          go_wp2_with fail
          refine (Hnm.out _).mono ?_
          rintro e w' ⟨rfl, rfl⟩
          go_wp2_with fail
          refine (Hdr.out _ HB.out).mono ?_
          rintro e w3 ⟨rfl, hb⟩
          replace HB := hide (onward HB.out hb)
          clear hb
          go_wp2_with fail
          refine (Hcn.out _ HB.out).mono ?_
          rintro e w4 ⟨rfl, hb⟩
          replace HB := hide (onward HB.out hb)
          clear hb
          go_wp2
          go_ret
          exact ⟨rfl, .slice A l.length c, by first | exact H.out.later HB.out | (rw [if_neg (by decide)]; exact H.out.later HB.out)⟩
        · rw [if_neg h4] at hE
          have h4' : ¬ (32 : Int) ≤ M := by omega
          cases hi : inR d 0 1000000 with
          | false =>
            rw [hi, if_pos rfl] at hE
            rw [hi] at Hin
            subst hE
            go_enter Try.func31, Try.ntmps31
            go_wp2_with fail
            refine (Hnm.out _).mono ?_
            rintro e w' ⟨rfl, rfl⟩
            go_wp2_with fail
            refine (Hdr.out _ HB.out).mono ?_
            rintro e w3 ⟨rfl, hb⟩
            replace HB := hide (onward HB.out hb)
            clear hb
            go_wp2_with fail
            refine (Hcn.out _ HB.out).mono ?_
            rintro e w4 ⟨rfl, hb⟩
            replace HB := hide (onward HB.out hb)
            clear hb
            go_wp2_with fail
            refine (Hin.out _).mono ?_
            rintro e w' ⟨rfl, rfl⟩
            go_wp2
            go_ret
            exact ⟨rfl, .slice A l.length c, by first | exact H.out.later HB.out | (rw [if_neg (by decide)]; exact H.out.later HB.out)⟩
          | true =>
            rw [hi, if_neg (by decide)] at hE
            rw [hi] at Hin
            subst hE
            go_enter Try.func31, Try.ntmps31
            go_wp2_with fail
            refine (Hnm.out _).mono ?_
            rintro e w' ⟨rfl, rfl⟩
            go_wp2_with fail
            refine (Hdr.out _ HB.out).mono ?_
            rintro e w3 ⟨rfl, hb⟩
            replace HB := hide (onward HB.out hb)
            clear hb
            go_wp2_with fail
            refine (Hcn.out _ HB.out).mono ?_
            rintro e w4 ⟨rfl, hb⟩
            replace HB := hide (onward HB.out hb)
            clear hb
            go_wp2_with fail
            refine (Hin.out _).mono ?_
            rintro e w' ⟨rfl, rfl⟩
            have hg := Hgood.out (by trivial)
            have HM := hide (H.out.later HB.out).mem
            clear x0 ltx HB
            obtain ⟨i0, hii, hz0, hz1, hz2⟩ := info_parts entryInfo
            have Hi := hide hii
            have Hz0 := hide hz0
            have Hz1 := hide hz1
            have Hz2 := hide hz2
            clear hii hz0 hz1 hz2
            have hb := Mem.blk_ HM.out 0 rfl
            have x0 := hb.c 0 rfl
            have ltx := hb.lt
            have fx := hb.frozen 0
            clear hb
            have hownM := Mem.row_ HM.out 1 rfl
            have hbaseM : w0.heap.size ≤ w4.heap.size := HM.out.size
            go_wp2_with (at_builtin; refine wpList_append_own_at _ rfl (.tmp 35) (.tmp 39) _ rfl w0.heap.size 121 i0 _ 15 160 Try.underlying115 Hi.out Hz0.out Hz1.out Hz2.out rfl (by decide) _ l.length (refRow l) rfl (hownM.alloc _) ⟨w4.heap.size, 0, none⟩ 1 1 [.int .i64 1, .string n, .int .i64 d, .string ⟨#[]⟩, .string ⟨#[]⟩, .int .i64 0, .int .i64 0, .int .i64 0, .int .i64 0, .int .i64 0, .string ⟨#[]⟩, .string ⟨#[]⟩, .int .i64 0, .int .i64 0, .int .i64 0] rfl rfl ?q1c1 (by intro u hu; simp only [List.mem_cons, List.not_mem_nil, or_false] at hu; rcases hu with rfl | rfl | rfl | rfl | rfl | rfl | rfl | rfl | rfl | rfl | rfl | rfl | rfl | rfl | rfl <;> rfl) ?q1c3 ?q1c4 ?q1c5 ?_)
            try case q1c1 => exact new_cellsQ w4 _ [.int .i64 1, .string n, .int .i64 d, .string ⟨#[]⟩, .string ⟨#[]⟩, .int .i64 0, .int .i64 0, .int .i64 0, .int .i64 0, .int .i64 0, .string ⟨#[]⟩, .string ⟨#[]⟩, .int .i64 0, .int .i64 0, .int .i64 0]
            case q1c3 => unfold maxLen; omega
            case q1c4 => omega
            case q1c5 => simp; omega
            intro v2 w5 hown2 hgr2 _ hat2
            have HMn := HM.out.grow 1 rfl _ hgr2 hown2 hat2
            replace HM := hide HMn
            clear HMn hown2 hgr2 hat2 hownM hbaseM
            clear x0 ltx fx
            have hb := Mem.blk_ HM.out 0 rfl
            have x0 := hb.c 0 rfl
            have ltx := hb.lt
            have fx := hb.frozen 0
            clear hb
            obtain ⟨A2, c2, rfl⟩ := own_shape2 (Mem.row_ HM.out 1 rfl)
            go_wp2
            go_ret
            have hM2 := HM.out.set_ 0 rfl 0 (.slice A2 (l.length + 1) c2) rfl
            have hX : RMem w0 (.radar n d :: l) p (.slice A2 (l.length + 1) c2) ts _ := ⟨hg, by rw [refRow_cons, List.length_cons]; exact hM2⟩
            exact ⟨rfl, .slice A2 (l.length + 1) c2, by first | exact hX | (rw [if_pos rfl]; exact hX)⟩
end Go.Proofs.Ytiggefmckomilaa
namespace Go.Proofs.Ytiggefmckomilaa
open Go Go.RowKit

def rtsL (t : Tst) : List Value := [.string t.radar, .string t.std, .int .i64 t.time, .int .i64 t.lo, .int .i64 t.hi]
def rtsRow (l : List Ent) : List Value := (testsT l).reverse.flatMap rtsL
theorem rtsRow_succ {x : Ent} {l : List Ent} (h : kdE x = 3) : rtsRow (x :: l) = rtsRow l ++ rtsL (tsE x) ∧ (testsT (x :: l)).length = (testsT l).length + 1 := by
  cases x with
  | test t => exact ⟨by unfold rtsRow; rw [testsT, List.reverse_cons, List.flatMap_append]; simp [tsE], by rw [testsT, List.length_cons]⟩
  | radar a b => simp [kdE] at h
  | define s => simp [kdE] at h
  | turn a b => cases b <;> simp [kdE] at h
theorem rtsRow_other {x : Ent} {l : List Ent} (h : ¬ kdE x = 3) : testsT (x :: l) = testsT l := by
  cases x with
  | test t => exact absurd rfl h
  | radar a b => rfl
  | define s => rfl
  | turn a b => rfl
theorem rtsInfo : (Try.prog.info? 87).map (fun i => (i.zero, i.size, i.bytes)) = some (some (.agg #[.string ⟨#[]⟩, .string ⟨#[]⟩, .int .i64 0, .int .i64 0, .int .i64 0]), 5, 56) := by kernel_rfl
set_option maxHeartbeats 2000000 in
set_option maxRecDepth 100000 in
theorem rtests_any (l : List Ent) (p c : Nat) (A : Option Addr) (w : World) (hb : RefR l p A c w) :
    Calls Try.prog 94 #[ptrB p] w fun e w' => ∃ v, e = .returned v ∧ Mem w [.row w.heap.size 87 5 v (testsT l).length (rtsRow l)] w' := by
  have hl := good_len hb.good
  have hl2 : (l.length : Int) ≤ 2000 := by omega
  have Hb := hide hb
  clear hb
  unfold ptrB
  go_enter Try.func94, Try.ntmps94
  have HM := hide ((Mem.start w).nilRow w.heap.size 87 5)
  go_wp2_with fail
  go_loopw [3, 4] (fun o i wr => ∃ k : Nat, k ≤ l.length ∧ i = .int .i64 k ∧ Mem w [.row w.heap.size 87 5 o (testsT (sufL l k)).length (rtsRow (sufL l k))] wr) (fun _ i _ => l.length - (intOf i).toNat)
  case atStart => exact ⟨0, Nat.zero_le _, rfl, by rw [suf_zero]; exact HM.out⟩
  case round =>
    obtain ⟨k, hk, rfl, hM⟩ := hrel
    clear HM
    have HM := hide hM
    clear hM
    have hb1 := Hb.out.later HM.out.below
    have x0 := hb1.b.c 0 rfl
    have ltx := hb1.b.lt
    by_cases hlt : k < l.length
    · have hlt2 : (k : Int) < l.length := by omega
      obtain ⟨b, off, hA, hbb, hc⟩ := hb1.cells hlt
      have q0 := hc 0 (.int .i64 (kdE (entN l k))) rfl
      have q10 := hc 10 (.string (tsE (entN l k)).radar) rfl
      have q11 := hc 11 (.string (tsE (entN l k)).std) rfl
      have q12 := hc 12 (.int .i64 (tsE (entN l k)).time) rfl
      have q13 := hc 13 (.int .i64 (tsE (entN l k)).lo) rfl
      have q14 := hc 14 (.int .i64 (tsE (entN l k)).hi) rfl
      rw [Nat.add_zero] at q0
      have hs := suf_succ hlt
      have hsl : (testsT (sufL l k)).length ≤ 2000 := by
        rw [← cnt_test]
        refine Nat.le_trans (cnt_le 3 _) ?_
        unfold sufL
        rw [List.length_drop]
        omega
      subst hA
      by_cases h1 : kdE (entN l k) = 3
      · obtain ⟨hs2, hs3⟩ := rtsRow_succ (l := sufL l k) h1
        rw [← hs] at hs2 hs3
        unfold rtsL at hs2
        obtain ⟨i0, hii, hz0, hz1, hz2⟩ := info_parts rtsInfo
        have Hs2 := hide hs2
        have Hs3 := hide hs3
        have Hi := hide hii
        have Hz0 := hide hz0
        have Hz1 := hide hz1
        have Hz2 := hide hz2
        clear hs2 hs3 hii hz0 hz1 hz2
        generalize hTT : tsE (entN l k) = T at *
        obtain ⟨tr, tn, tt, tl, th⟩ := T
        try simp only at q10 q11 q12 q13 q14
        rw [h1] at q0
        obtain ⟨Y, hY⟩ : ∃ Y, rtsRow (sufL l k) = Y := ⟨_, rfl⟩
        obtain ⟨N, hN⟩ : ∃ N, (testsT (sufL l k)).length = N := ⟨_, rfl⟩
        rw [hY] at Hs2 HM
        rw [hN] at Hs3 HM hsl
        clear hc hb1 hs hTT h1 hY hN
        have hownM := Mem.row_ HM.out 0 rfl
        have hbaseM : w.heap.size ≤ wr.heap.size := HM.out.size
        go_wp2_with (at_builtin; refine wpList_append_own_at _ rfl (.tmp 23) (.tmp 32) _ rfl w.heap.size 87 i0 _ 5 56 Try.underlying138 Hi.out Hz0.out Hz1.out Hz2.out rfl (by decide) _ N Y rfl (hownM.alloc _) ⟨wr.heap.size, 0, none⟩ 1 1 [.string tr, .string tn, .int .i64 tt, .int .i64 tl, .int .i64 th] rfl rfl ?q1c1 (by intro u hu; simp only [List.mem_cons, List.not_mem_nil, or_false] at hu; rcases hu with rfl | rfl | rfl | rfl | rfl <;> rfl) ?q1c3 ?q1c4 ?q1c5 ?_)
        try case q1c1 => exact new_cellsQ wr _ [.string tr, .string tn, .int .i64 tt, .int .i64 tl, .int .i64 th]
        case q1c3 => unfold maxLen; omega
        case q1c4 => omega
        case q1c5 => first | omega | (simp; omega)
        intro o2 w4 hown2 hgr2 _ hat2
        have HMn := HM.out.grow 0 rfl _ hgr2 hown2 hat2
        replace HM := hide HMn
        clear HMn hown2 hgr2 hat2 hownM hbaseM
        go_wp2_with fail
        go_roundw
        case rel => exact ⟨k + 1, hlt, by go_num, by rw [Hs2.out, Hs3.out]; first | exact HM.out | exact HM.out.tail⟩
        case measure => simp [intOf] <;> omega
      · have hs2 : testsT (sufL l (k + 1)) = testsT (sufL l k) := by rw [hs, rtsRow_other h1]
        have hs3 : rtsRow (sufL l (k + 1)) = rtsRow (sufL l k) := by unfold rtsRow; rw [hs2]
        have Hs2 := hide hs2
        have Hs3 := hide hs3
        clear hs2 hs3
        generalize kdE (entN l k) = kd at *
        clear hc hb1 hs q10 q11 q12 q13 q14
        go_wp2_with fail
        go_roundw
        case rel => exact ⟨k + 1, hlt, by go_num, by rw [Hs2.out, Hs3.out]; exact HM.out⟩
        case measure => simp [intOf] <;> omega
    · obtain rfl : k = l.length := by omega
      have hkk : ¬ ((l.length : Int) < l.length) := by omega
      rw [suf_all] at HM
      clear hb1
      go_wp2
      go_ret
      exact ⟨_, rfl, HM.out⟩
end Go.Proofs.Ytiggefmckomilaa
