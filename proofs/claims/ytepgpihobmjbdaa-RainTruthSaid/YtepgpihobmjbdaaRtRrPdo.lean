/-
  The reference's passage behind a gate, and what it lets through.
  The passage restores the power of a gate: rain's passage.do.
-/
import Derived.Test.YtepgpihobmjbdaaBeam2Math
import Derived.Test.YtepgpihobmjbdaaRtRrGauge
import Derived.Test.YtepgpihobmjbdaaRtTableRef
import Derived.Test.YtepgpihobmjbdaaRtRrWorks
import Derived.Test.YtepgpihobmjbdaaRegQ
set_option linter.unusedSimpArgs false
set_option linter.unusedVariables false
section
namespace Go.Proofs.Ytepgpihobmjbdaa
open Go.RowKit
theorem blk_eq2 {w : World} {g : Nat} {t : TypeId} {cs cs' : Array Value} (h : Blk w g t cs) (e : cs = cs') : Blk w g t cs' := e ▸ h
theorem fieldSpan0 (a b : Int) (w : World) : (Instr.field 24 (.agg #[.int .i64 a, .int .i64 b]) 0).run Try.prog w = .ok (.int .i64 a) w := by kernel_rfl
theorem fieldSpan1 (a b : Int) (w : World) : (Instr.field 24 (.agg #[.int .i64 a, .int .i64 b]) 1).run Try.prog w = .ok (.int .i64 b) w := by kernel_rfl
attribute [local go_sem] fieldSpan0 fieldSpan1
end Go.Proofs.Ytepgpihobmjbdaa
end
section
namespace Go.Proofs.Ytepgpihobmjbdaa
open Go.RowKit
section
variable {w w1 w2 : World} {row : Option Nat} {g7 : Nat}
theorem gb_fill (h : w.grownBy w1 row) (h2 : w1.grownBy w2 (some g7)) (hg : w.heap.size ≤ g7) : w.grownBy w2 row :=
 ⟨h2.os.trans h.os, h2.tape.trans h.tape, h2.output.trans h.output, Nat.le_trans h.size h2.size, fun k hk hne => (h2.block k (Nat.lt_of_lt_of_le hk h.size) (fun e => by injection e with e; omega)).trans (h.block k hk hne)⟩
theorem gb_trans (h : w.grownBy w1 row) (h2 : w1.grownBy w2 row) : w.grownBy w2 row :=
 ⟨h2.os.trans h.os, h2.tape.trans h.tape, h2.output.trans h.output, Nat.le_trans h.size h2.size, fun k hk hne => (h2.block k (Nat.lt_of_lt_of_le hk h.size) hne).trans (h.block k hk hne)⟩
end
set_option maxHeartbeats 2000000 in
set_option maxRecDepth 100000 in
theorem pdo_any (A : Option Addr) (n c : Nat) (l : List (Int × Int)) (t m : Int × Int) (g gl : Nat) (j : Int) (w : World) (hn : l.length = n) (hT : Tab l 32768) (ht : Psg1 t) (hm : okM m = true) (hl : Ints w w.heap.size .i64 A (flat2 l))
  (hg : Blk w g 81 #[.int .i64 t.1, .int .i64 t.2, lossF gl]) (hgl : Blk w gl 22 #[.slice A n c]) :
  Calls Try.prog 86 #[.pointer (some ⟨g, 0, none⟩), .int .i64 j, .agg #[.int .i64 m.1, .int .i64 m.2]] w fun e w' => e = .returned (.agg #[.int .i64 (restOne t m).1, .int .i64 (restOne t m).2]) ∧ w.grownBy w' (some g) ∧
   Blk w' g 81 #[.int .i64 (nextT l t (restOne t m)).1, .int .i64 (nextT l t (restOne t m)).2, lossF gl] := by
 have hbd := restOne_bd ht hm
 obtain ⟨hm1, hm2, hm3⟩ := okM_iff hm
 obtain ⟨q1, q2, hq⟩ : ∃ a b, restOne t m = (a, b) := ⟨_, _, rfl⟩
 rw [hq] at hbd ⊢
 obtain ⟨m1, m2⟩ := m
 simp only at hbd hm1 hm2 hm3 ⊢
 obtain ⟨qa, qb, qc, qd⟩ := hbd
 have Ht := hide ht
 obtain ⟨t1, t2⟩ := t
 obtain ⟨⟨ta, tb, tc, td⟩, te⟩ := ht
 simp only at ta tb tc td te hg
 obtain ⟨u, hu, hu0, hu1, hdn⟩ : ∃ u, m1 * 1073741824 / t2 = u ∧ 0 ≤ u ∧ u ≤ m1 * 1073741824 ∧ ∀ W, Calls Try.prog 30 #[.int .i64 (m1 * 1073741824), .int .i64 t2] W fun e w' => e = .returned (.int .i64 u) ∧ W = w' :=
  ⟨_, rfl, Int.ediv_nonneg (by omega) (by omega), Int.ediv_le_self _ (by omega), fun W => down_any _ _ _ (by omega) (by omega) (by omega) (by omega)⟩
 have elo : (if u < 1073741824 then u else 1073741824) = q1 := by
  have : (restOne (t1, t2) (m1, m2)).1 = min 1073741824 u := by simp only [restOne, hu]
  rw [hq] at this
  exact ((min_if 1073741824 u).symm.trans this.symm)
 have HT := hide hT
 have Hn := hide hn
 have Hl := hide hl
 have Hg := hide hg
 have Hgl := hide hgl
 have hglt := hg.lt
 have hgllt := hgl.lt
 clear hu hm hT hn hl hg hgl
 go_enter Try.func86, Try.ntmps86
 have HB := hide (Below.refl w.heap.size w)
 go_wp2_with fail
 refine code_world fun W hW => ?_
 have bq0 : Blk W w.heap.size 24 #[.int .i64 m1, .int .i64 m2] := by rw [hW]; exact (Blk.new _ _ _).alloc _
 have bq1 : Blk W (w.heap.size + 1) 24 #[.int .i64 0, .int .i64 0] := by rw [hW]; exact blk_new_at (by simp)
 have LW : Later w W := by rw [hW]; exact (((Below.refl _ _).alloc (Nat.le_refl _) _).alloc (by simp; try omega) _)
 have szW : W.heap.size = w.heap.size + 2 := by rw [hW]; simp
 clear hW
 replace HB := hide (onward HB.out LW)
 replace Hg := hide (blk_later Hg.out LW)
 replace Hgl := hide (blk_later Hgl.out LW)
 have Hbm := hide bq0
 have Hbo := hide bq1
 clear bq0 bq1 LW szW
 obtain ⟨p0, p1⟩ := Hbm.out.c2
 have ltp := Hbm.out.lt
 obtain ⟨x0, x1, x2⟩ := Hg.out.c3
 have ltx := Hg.out.lt
 apply wp_region_L (w0 := W) [[], [], [], [], [], [], [], [], [], [], [], [], [11]] [true, true, true, true, true, true, true, true, true, true, true, false, false] [⟨11, none, [], []⟩, ⟨12, some 11, [11], [11]⟩] (fun ixq y => match ixq with | 11 => .pointer (y 0).1 | 12 => undef | _ => undef) (fun ixq x F wq => match ixq with | 11 => PtrF wq F W.heap.size (x 11 0).1 24 #[.int .i64 0, .int .i64 0] | 12 => PtrF wq F W.heap.size (x 11 0).1 24 #[.int .i64 q1, .int .i64 1073741824] | _ => True) (fun a x => ((a).put (some 7) (.pointer ((x 11) 0).1)).put (none) (undef)) (by kernel_rfl) (by kernel_rfl) (fun _ => rfl) [12, 16] (by kernel_rfl)
 ·
  intro x D hD
  have hne := hD.some
  have k0 := liftB hD p0 (by first | assumption | omega)
  have k1 := liftB hD x1 (by first | assumption | omega)
  simp only [takeOps, Act.put, List.setIfInBounds_toArray, List.set_cons_succ, List.set_cons_zero]
  repeat (go_big_quiet_step ((go_at_call 30; exact calls_same _ (hdn _))))
  exact wpQuiet_nil rfl
 ·
  intro d hd x x'
  simp only [List.mem_cons, List.not_mem_nil, or_false] at hd
  rcases hd with rfl | rfl
  all_goals rfl
 ·
  refine ⟨?_, ?_, trivial⟩
  · exact obl_alloc 24 7 (.agg #[.int .i64 0, .int .i64 0]) (by kernel_rfl) (by kernel_rfl) (fun _ => rfl) (fun _ _ _ h => h)
  · refine obl_store 24 7 18 11 #[.int .i64 0, .int .i64 0] (fun x => #[.int .i64 q1, .int .i64 1073741824]) (by kernel_rfl) rfl (by simp) (fun _ _ _ h => h) (fun _ => rfl) (fun _ => rfl) (fun _ => by kernel_rfl) (fun _ => rfl) (fun _ => by simp [Value.oneCell']) (fun _ => rfl) (by decide) (fun _ _ _ _ h => h)
 ·
  refine ⟨?_, ?_, trivial⟩
  · exact owe_ptr 11 _ _ (fun x => #[.int .i64 0, .int .i64 0]) (fun _ _ _ => rfl) (by simp) (fun _ _ _ => rfl)
  · exact owe_ptr 11 _ _ (fun x => #[.int .i64 q1, .int .i64 1073741824]) (fun _ _ _ => rfl) (by simp) (fun _ _ _ => rfl)
 intro xx w2 F hL hlv1
 obtain ⟨-, fct12, -⟩ := hlv1
 replace fct12 : PtrF w2 (F 12) W.heap.size (xx 11 0).1 24 #[.int .i64 q1, .int .i64 1073741824] := fct12 rfl
 obtain ⟨g7, hgx, hge, -, hbg⟩ := fct12
 rw [hgx]
 have hg7 : w.heap.size ≤ g7 := by have := HB.out.size; omega
 have hg8 : w.heap.size + 1 < g7 := by have := Hbo.out.lt; omega
 clear hgx elo hdn
 replace HB := hide (onward HB.out hL)
 replace Hg := hide (blk_later Hg.out hL)
 replace Hgl := hide (blk_later Hgl.out hL)
 replace Hbm := hide (blk_later Hbm.out hL)
 replace Hbo := hide (blk_later Hbo.out hL)
 clear hL p0 p1 ltp x0 x1 x2 ltx
 have Hz := hide hbg
 clear hbg
 by_cases c3 : 1048576 ≤ t1
 ·
  obtain ⟨v, hv, hv0, hv1, hup⟩ : ∃ v, cdiv (m2 * 1073741824) t1 = v ∧ 0 ≤ v ∧ v ≤ m2 * 1073741824 ∧ ∀ W, Calls Try.prog 31 #[.int .i64 (m2 * 1073741824), .int .i64 t1] W fun e w' => e = .returned (.int .i64 v) ∧ W = w' := by
   have hb : m2 * 1073741824 ≤ m2 * 1073741824 * t1 := by have := Int.mul_le_mul_of_nonneg_left (show 1 ≤ t1 by omega) (show 0 ≤ m2 * 1073741824 by omega); omega
   have := cdiv_bd (a := m2 * 1073741824) (b := t1) (C := m2 * 1073741824) (by omega) (by omega) hb
   exact ⟨_, rfl, this.1, this.2, fun W => up_any _ _ _ (by omega) (by omega) (by omega) (by omega)⟩
  have ehi : (if v < 1073741824 then v else 1073741824) = q2 := by
   have : (restOne (t1, t2) (m1, m2)).2 = min 1073741824 v := by simp only [restOne, if_pos c3, hv]
   rw [hq] at this
   exact ((min_if 1073741824 v).symm.trans this.symm)
  clear hv hq
  obtain ⟨p0, p1⟩ := Hbm.out.c2
  have ltp := Hbm.out.lt
  obtain ⟨x0, x1, x2⟩ := Hg.out.c3
  have ltx := Hg.out.lt
  obtain ⟨z0, z1⟩ := Hz.out.c2
  have ltz := Hz.out.lt
  go_wp2_with fail
  apply wp_region_F (w0 := w2) [[], [0], [0, 1], [], [3], [3, 4], [3, 4, 5], [3, 4, 5, 6], [0, 1, 2, 3, 4, 5, 6, 7], [0, 1, 2, 3, 4, 5, 6, 7, 8], [0, 1, 2, 3, 4, 5, 6, 7, 8, 9], [0, 1, 2, 3, 4, 5, 6, 7, 8, 9, 10]] [true, true, true, true, true, true, true, true, true, true, true, false] [false, false, false, false, false, false, false, false, false, false, false, false] [⟨11, none, [], []⟩] [(11, g7)] [11] (fun ixq y => match ixq with | 11 => undef | _ => undef) (fun ixq x F wq => match ixq with | 11 => F g7 ∧ Blk wq g7 24 #[.int .i64 q1, .int .i64 q2] | _ => True) (fun a x => (a).put (none) (undef)) (by kernel_rfl) (by kernel_rfl) (by kernel_rfl) (fun _ => rfl) [29, 33] (by kernel_rfl) (fills_lt1 (by omega)) fills_ne1
  ·
   intro x D hD
   have hne := hD.some
   have k0 := liftS hD p1 (by exact early_all (by first | assumption | omega) (by rfl))
   have k1 := liftS hD x0 (by exact early_all (by first | assumption | omega) (by rfl))
   simp only [takeOps, Act.put, List.setIfInBounds_toArray, List.set_cons_succ, List.set_cons_zero]
   repeat (go_big_quiet_step ((go_at_call 31; exact calls_same _ (hup _))))
   exact wpQuiet_nil rfl
  · exact fun x D hD => wpQuiet_nil rfl
  ·
   intro d hd x x'
   simp only [List.mem_cons, List.not_mem_nil, or_false] at hd
   rcases hd with rfl | rfl
   all_goals rfl
  ·
   refine ⟨?_, trivial⟩
   · exact obl_set 3 24 35 34 g7 1 _ (q2) #[.int .i64 q1, .int .i64 q2] (by kernel_rfl) (fun _ => rfl) (fun _ => rfl) Hz.out eb_fill1 (by simp [wrF]) (by kernel_rfl) (by simp) (by simp) (fun _ => rfl) (fun _ _ _ _ h1 h2 => ⟨h1, h2⟩)
  ·
   refine ⟨?_, trivial⟩
   · exact owe_fill g7 24 (fun x => #[.int .i64 q1, .int .i64 q2]) (fun _ _ _ => rfl) (fun _ _ _ => rfl)
  intro xx2 w3 F hK hlv2
  obtain ⟨fct11, -⟩ := hlv2
  replace fct11 : (F 11) g7 ∧ Blk w3 g7 24 #[.int .i64 q1, .int .i64 q2] := fct11 rfl
  clear ehi hup
  have hgr := grown_kept hK
  replace HB := hide (below_grown HB.out hgr HB.out.size (fun q hq => by simp at hq; omega))
  replace Hg := hide (blk_grown Hg.out hgr (by first | (simp; done) | (simp; omega)))
  replace Hgl := hide (blk_grown Hgl.out hgr (by first | (simp; done) | (simp; omega)))
  replace Hbm := hide (blk_grown Hbm.out hgr (by first | (simp; done) | (simp; omega)))
  replace Hbo := hide (blk_grown Hbo.out hgr (by first | (simp; done) | (simp; omega)))
  replace Hz := hide fct11.2
  clear hgr hK fct11 p0 p1 ltp x0 x1 x2 ltx z0 z1 ltz
  obtain ⟨z0, z1⟩ := Hz.out.c2
  have ltz := Hz.out.lt
  go_wp2_with fail
  have hgb := (show w.grownBy w3 (some g) from ⟨HB.out.os, HB.out.tape, HB.out.output, HB.out.size, fun k hk _ => HB.out.block k hk⟩)
  refine (through_any A n c l (t1, t2) (q1, q2) g gl w3 Hn.out HT.out Ht.out.toPsg ⟨by omega, by omega⟩ ⟨by omega, by omega⟩ ((Hl.out.below HB.out).more HB.out.size) Hg.out Hgl.out).mono ?_
  rintro e w5 ⟨rfl, hgr, hbk⟩
  replace Hz := hide (blk_grown Hz.out hgr (by simp; omega))
  replace Hbo := hide (blk_grown Hbo.out hgr (by simp; omega))
  have hgb2 := gb_trans hgb hgr
  have HGB := hide hgb2
  have HBK := hide hbk
  clear hgr hgb hgb2 hbk
  clear z0 z1 ltz
  obtain ⟨z0, z1⟩ := Hz.out.c2
  have ltz := Hz.out.lt
  obtain ⟨e0, e1⟩ := Hbo.out.c2
  have lte := Hbo.out.lt
  have fe0 := Hbo.out.frozen 0
  have fe1 := Hbo.out.frozen 1
  go_wp2
  refine bodyPost_ret (v := .agg #[.int .i64 q1, .int .i64 q2]) (by simp [results, Try.results86, go_sem, e0, e1, fe0, fe1, lte]) rfl ⟨rfl, gb_fill (gb_fill HGB.out (grown_setCell _ _ _ _) (by omega)) (grown_setCell _ _ _ _) (by omega), (HBK.out.far (by simp; omega) _).far (by simp; omega) _⟩
 ·
  have hq2 : q2 = 1073741824 := by
   have : (restOne (t1, t2) (m1, m2)).2 = 1073741824 := by simp only [restOne, if_neg c3]
   rw [hq] at this
   exact this
  subst hq2
  clear hq
  obtain ⟨x0, x1, x2⟩ := Hg.out.c3
  have ltx := Hg.out.lt
  obtain ⟨z0, z1⟩ := Hz.out.c2
  have ltz := Hz.out.lt
  go_wp2_with fail
  have hgb := (show w.grownBy w2 (some g) from ⟨HB.out.os, HB.out.tape, HB.out.output, HB.out.size, fun k hk _ => HB.out.block k hk⟩)
  refine (through_any A n c l (t1, t2) (q1, 1073741824) g gl w2 Hn.out HT.out Ht.out.toPsg ⟨by omega, by omega⟩ ⟨by omega, by omega⟩ ((Hl.out.below HB.out).more HB.out.size) Hg.out Hgl.out).mono ?_
  rintro e w5 ⟨rfl, hgr, hbk⟩
  replace Hz := hide (blk_grown Hz.out hgr (by simp; omega))
  replace Hbo := hide (blk_grown Hbo.out hgr (by simp; omega))
  have hgb2 := gb_trans hgb hgr
  have HGB := hide hgb2
  have HBK := hide hbk
  clear hgr hgb hgb2 hbk
  clear x0 x1 x2 ltx z0 z1 ltz
  obtain ⟨z0, z1⟩ := Hz.out.c2
  have ltz := Hz.out.lt
  obtain ⟨e0, e1⟩ := Hbo.out.c2
  have lte := Hbo.out.lt
  have fe0 := Hbo.out.frozen 0
  have fe1 := Hbo.out.frozen 1
  go_wp2
  refine bodyPost_ret (v := .agg #[.int .i64 q1, .int .i64 1073741824]) (by simp [results, Try.results86, go_sem, e0, e1, fe0, fe1, lte]) rfl ⟨rfl, gb_fill (gb_fill HGB.out (grown_setCell _ _ _ _) (by omega)) (grown_setCell _ _ _ _) (by omega), (HBK.out.far (by simp; omega) _).far (by simp; omega) _⟩
end Go.Proofs.Ytepgpihobmjbdaa
end
