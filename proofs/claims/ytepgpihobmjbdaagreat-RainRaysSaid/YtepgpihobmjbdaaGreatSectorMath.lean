/-
  The passage restores the power of a gate: rain's passage.do.
  What the law hands the reference: the same points in new memory, the same model.
  radomeref05.restore and Restore: the contracts.
  rain.Restore: what was measured goes through the passage alone.
  Directions of a rose and slants: plain functions and their bounds; no program in sight.
  Sectors and gates: a vector lies in exactly one sector of a rose, a distance between the borders of at most one gate; no program in sight.
-/
import Derived.Test.YtepgpihobmjbdaaGreatDivs
import Derived.Test.YtepgpihobmjbdaaGreatRrNext
import Derived.Test.YtepgpihobmjbdaaGreatRegionStep
import Derived.Test.YtepgpihobmjbdaaGreatRegP
import Derived.Test.YtepgpihobmjbdaaGreatRegAll
import Derived.Deep.Cut
import Derived.LoopN
set_option linter.unusedSimpArgs false
set_option linter.unusedVariables false
namespace Go.Proofs.YtepgpihobmjbdaaGreat
open Go.RowKit

section
variable {w w1 w2 : World} {row : Option Nat} {g7 : Nat}
theorem gb_fill (h : w.grownBy w1 row) (h2 : w1.grownBy w2 (some g7)) (hg : w.heap.size ≤ g7) : w.grownBy w2 row :=
  ⟨h2.os.trans h.os, h2.tape.trans h.tape, h2.output.trans h.output, Nat.le_trans h.size h2.size, fun k hk hne => (h2.block k (Nat.lt_of_lt_of_le hk h.size) (fun e => by injection e with e; omega)).trans (h.block k hk hne)⟩
theorem gb_trans (h : w.grownBy w1 row) (h2 : w1.grownBy w2 row) : w.grownBy w2 row :=
  ⟨h2.os.trans h.os, h2.tape.trans h.tape, h2.output.trans h.output, Nat.le_trans h.size h2.size, fun k hk hne => (h2.block k (Nat.lt_of_lt_of_le hk h.size) hne).trans (h.block k hk hne)⟩
theorem gb_refl (w : World) (row : Option Nat) : w.grownBy w row := ⟨rfl, rfl, rfl, Nat.le_refl _, fun _ _ _ => rfl⟩
end

set_option maxHeartbeats 2000000 in
set_option maxRecDepth 100000 in
theorem pdo_any (A : Option Addr) (n c : Nat) (l : List (Int × Int)) (t m : Int × Int) (g gl : Nat) (j : Int) (w : World) (hn : l.length = n) (hT : Tab l 32768) (ht : Psg1 t) (hm : okM m = true) (hl : Ints w w.heap.size .i64 A (flat2 l))
    (hg : Blk w g 89 #[.int .i64 t.1, .int .i64 t.2, lossF gl]) (hgl : Blk w gl 22 #[.slice A n c]) :
    Calls Tryz.prog 130 #[.pointer (some ⟨g, 0, none⟩), .int .i64 j, .agg #[.int .i64 m.1, .int .i64 m.2]] w fun e w' => e = .returned (.agg #[.int .i64 (restOne t m).1, .int .i64 (restOne t m).2]) ∧ w.grownBy w' (some g) ∧
      Blk w' g 89 #[.int .i64 (nextT l t (restOne t m)).1, .int .i64 (nextT l t (restOne t m)).2, lossF gl] := by
  have hbd := restOne_bd ht hm
  obtain ⟨hm1, hm2, hm3⟩ := okM_iff hm
  obtain ⟨q1, q2, hq⟩ : ∃ a b, restOne t m = (a, b) := ⟨_, _, rfl⟩
  rw [hq] at hbd ⊢
  obtain ⟨m1, m2⟩ := m
  simp only at hbd hm1 hm2 hm3 ⊢
  obtain ⟨qa, qb, qc, qd⟩ := hbd
  have Ht := hide ht
  obtain ⟨t1, t2⟩ := t
  obtain ⟨⟨ta, tb, tc, td⟩, te⟩ := ht
  simp only at ta tb tc td te hg
  obtain ⟨u, hu, hu0, hu1, hdn⟩ : ∃ u, m1 * 1073741824 / t2 = u ∧ 0 ≤ u ∧ u ≤ m1 * 1073741824 ∧ ∀ W, Calls Tryz.prog 36 #[.int .i64 (m1 * 1073741824), .int .i64 t2] W fun e w' => e = .returned (.int .i64 u) ∧ W = w' :=
    ⟨_, rfl, Int.ediv_nonneg (by omega) (by omega), Int.ediv_le_self _ (by omega), fun W => down_any _ _ _ (by omega) (by omega) (by omega) (by omega)⟩
  have elo : (if u < 1073741824 then u else 1073741824) = q1 := by
    have : (restOne (t1, t2) (m1, m2)).1 = min 1073741824 u := by simp only [restOne, hu]
    rw [hq] at this
    exact ((min_if 1073741824 u).symm.trans this.symm)
  have HT := hide hT
  have Hn := hide hn
  have Hl := hide hl
  have Hg := hide hg
  have Hgl := hide hgl
  have hglt := hg.lt
  have hgllt := hgl.lt
  clear hu hm hT hn hl hg hgl
  go_enter Tryz.func130, Tryz.ntmps130
  have HB := hide (Below.refl w.heap.size w)
  go_wp2_with fail
  refine code_world fun W hW => ?_
  have bq0 : Blk W w.heap.size 24 #[.int .i64 m1, .int .i64 m2] := by rw [hW]; exact (Blk.new _ _ _).alloc _
  have bq1 : Blk W (w.heap.size + 1) 24 #[.int .i64 0, .int .i64 0] := by rw [hW]; exact blk_new_at (by simp)
  have LW : Later w W := by rw [hW]; exact (((Below.refl _ _).alloc (Nat.le_refl _) _).alloc (by simp; try omega) _)
  have szW : W.heap.size = w.heap.size + 2 := by rw [hW]; simp
  clear hW
  replace HB := hide (onward HB.out LW)
  replace Hg := hide (blk_later Hg.out LW)
  replace Hgl := hide (blk_later Hgl.out LW)
  have Hbm := hide bq0
  have Hbo := hide bq1
  clear bq0 bq1 LW szW
  obtain ⟨p0, p1⟩ := Hbm.out.c2
  have ltp := Hbm.out.lt
  obtain ⟨x0, x1, x2⟩ := Hg.out.c3
  have ltx := Hg.out.lt
  apply wp_region_L (w0 := W) [[], [], [], [], [], [], [], [], [], [], [], [], [11]] [true, true, true, true, true, true, true, true, true, true, true, false, false] [⟨11, none, [], []⟩, ⟨12, some 11, [11], [11]⟩] (fun ixq y => match ixq with | 11 => .pointer (y 0).1 | 12 => undef | _ => undef) (fun ixq x F wq => match ixq with | 11 => PtrF wq F W.heap.size (x 11 0).1 24 #[.int .i64 0, .int .i64 0] | 12 => PtrF wq F W.heap.size (x 11 0).1 24 #[.int .i64 q1, .int .i64 1073741824] | _ => True) (fun a x => ((a).put (some 7) (.pointer ((x 11) 0).1)).put (none) (undef)) (by kernel_rfl) (by kernel_rfl) (fun _ => rfl) [12, 16] (by kernel_rfl)
  · intro x D hD
    have hne := hD.some
    have k0 := liftB hD p0 (by first | assumption | omega)
    have k1 := liftB hD x1 (by first | assumption | omega)
    simp only [takeOps, Act.put, List.setIfInBounds_toArray, List.set_cons_succ, List.set_cons_zero]
    repeat (go_big_quiet_step ((go_at_call 36; exact calls_same _ (hdn _))))
    exact wpQuiet_nil rfl
  · intro d hd x x'
    simp only [List.mem_cons, List.not_mem_nil, or_false] at hd
    rcases hd with rfl | rfl
    all_goals rfl
  · refine ⟨?_, ?_, trivial⟩
    · exact obl_alloc 24 7 (.agg #[.int .i64 0, .int .i64 0]) (by kernel_rfl) (by kernel_rfl) (fun _ => rfl) (fun _ _ _ h => h)
    · refine obl_store 24 7 18 11 #[.int .i64 0, .int .i64 0] (fun x => #[.int .i64 q1, .int .i64 1073741824]) (by kernel_rfl) rfl (by simp) (fun _ _ _ h => h) (fun _ => rfl) (fun _ => rfl) (fun _ => by kernel_rfl) (fun _ => rfl) (fun _ => by simp [Value.oneCell']) (fun _ => rfl) (by decide) (fun _ _ _ _ h => h)
  · refine ⟨?_, ?_, trivial⟩
    · exact owe_ptr 11 _ _ (fun x => #[.int .i64 0, .int .i64 0]) (fun _ _ _ => rfl) (by simp) (fun _ _ _ => rfl)
    · exact owe_ptr 11 _ _ (fun x => #[.int .i64 q1, .int .i64 1073741824]) (fun _ _ _ => rfl) (by simp) (fun _ _ _ => rfl)
  intro xx w2 F hL hlv1
  obtain ⟨-, fct12, -⟩ := hlv1
  replace fct12 : PtrF w2 (F 12) W.heap.size (xx 11 0).1 24 #[.int .i64 q1, .int .i64 1073741824] := fct12 rfl
  obtain ⟨g7, hgx, hge, -, hbg⟩ := fct12
  rw [hgx]
  have hg7 : w.heap.size ≤ g7 := by have := HB.out.size; omega
  have hg8 : w.heap.size + 1 < g7 := by have := Hbo.out.lt; omega
  clear hgx elo hdn
  replace HB := hide (onward HB.out hL)
  replace Hg := hide (blk_later Hg.out hL)
  replace Hgl := hide (blk_later Hgl.out hL)
  replace Hbm := hide (blk_later Hbm.out hL)
  replace Hbo := hide (blk_later Hbo.out hL)
  clear hL p0 p1 ltp x0 x1 x2 ltx
  have Hz := hide hbg
  clear hbg
  by_cases c3 : 1048576 ≤ t1
  · obtain ⟨v, hv, hv0, hv1, hup⟩ : ∃ v, cdiv (m2 * 1073741824) t1 = v ∧ 0 ≤ v ∧ v ≤ m2 * 1073741824 ∧ ∀ W, Calls Tryz.prog 37 #[.int .i64 (m2 * 1073741824), .int .i64 t1] W fun e w' => e = .returned (.int .i64 v) ∧ W = w' := by
      have hb : m2 * 1073741824 ≤ m2 * 1073741824 * t1 := by have := Int.mul_le_mul_of_nonneg_left (show 1 ≤ t1 by omega) (show 0 ≤ m2 * 1073741824 by omega); omega
      have := cdiv_bd (a := m2 * 1073741824) (b := t1) (C := m2 * 1073741824) (by omega) (by omega) hb
      exact ⟨_, rfl, this.1, this.2, fun W => up_any _ _ _ (by omega) (by omega) (by omega) (by omega)⟩
    have ehi : (if v < 1073741824 then v else 1073741824) = q2 := by
      have : (restOne (t1, t2) (m1, m2)).2 = min 1073741824 v := by simp only [restOne, if_pos c3, hv]
      rw [hq] at this
      exact ((min_if 1073741824 v).symm.trans this.symm)
    clear hv hq
    obtain ⟨p0, p1⟩ := Hbm.out.c2
    have ltp := Hbm.out.lt
    obtain ⟨x0, x1, x2⟩ := Hg.out.c3
    have ltx := Hg.out.lt
    obtain ⟨z0, z1⟩ := Hz.out.c2
    have ltz := Hz.out.lt
    go_wp2_with fail
    apply wp_region_F (w0 := w2) [[], [0], [0, 1], [], [3], [3, 4], [3, 4, 5], [3, 4, 5, 6], [0, 1, 2, 3, 4, 5, 6, 7], [0, 1, 2, 3, 4, 5, 6, 7, 8], [0, 1, 2, 3, 4, 5, 6, 7, 8, 9], [0, 1, 2, 3, 4, 5, 6, 7, 8, 9, 10]] [true, true, true, true, true, true, true, true, true, true, true, false] [false, false, false, false, false, false, false, false, false, false, false, false] [⟨11, none, [], []⟩] [(11, g7)] [11] (fun ixq y => match ixq with | 11 => undef | _ => undef) (fun ixq x F wq => match ixq with | 11 => F g7 ∧ Blk wq g7 24 #[.int .i64 q1, .int .i64 q2] | _ => True) (fun a x => (a).put (none) (undef)) (by kernel_rfl) (by kernel_rfl) (by kernel_rfl) (fun _ => rfl) [29, 33] (by kernel_rfl) (fills_lt1 (by omega)) fills_ne1
    · intro x D hD
      have hne := hD.some
      have k0 := liftS hD p1 (by exact early_all (by first | assumption | omega) (by rfl))
      have k1 := liftS hD x0 (by exact early_all (by first | assumption | omega) (by rfl))
      simp only [takeOps, Act.put, List.setIfInBounds_toArray, List.set_cons_succ, List.set_cons_zero]
      repeat (go_big_quiet_step ((go_at_call 37; exact calls_same _ (hup _))))
      exact wpQuiet_nil rfl
    · exact fun x D hD => wpQuiet_nil rfl
    · intro d hd x x'
      simp only [List.mem_cons, List.not_mem_nil, or_false] at hd
      rcases hd with rfl | rfl
      all_goals rfl
    · refine ⟨?_, trivial⟩
      · exact obl_set 3 24 35 34 g7 1 _ (q2) #[.int .i64 q1, .int .i64 q2] (by kernel_rfl) (fun _ => rfl) (fun _ => rfl) Hz.out eb_fill1 (by simp [wrF]) (by kernel_rfl) (by simp) (by simp) (fun _ => rfl) (fun _ _ _ _ h1 h2 => ⟨h1, h2⟩)
    · refine ⟨?_, trivial⟩
      · exact owe_fill g7 24 (fun x => #[.int .i64 q1, .int .i64 q2]) (fun _ _ _ => rfl) (fun _ _ _ => rfl)
    intro xx2 w3 F hK hlv2
    obtain ⟨fct11, -⟩ := hlv2
    replace fct11 : (F 11) g7 ∧ Blk w3 g7 24 #[.int .i64 q1, .int .i64 q2] := fct11 rfl
    clear ehi hup
    have hgr := grown_kept hK
    replace HB := hide (below_grown HB.out hgr HB.out.size (fun q hq => by simp at hq; omega))
    replace Hg := hide (blk_grown Hg.out hgr (by first | (simp; done) | (simp; omega)))
    replace Hgl := hide (blk_grown Hgl.out hgr (by first | (simp; done) | (simp; omega)))
    replace Hbm := hide (blk_grown Hbm.out hgr (by first | (simp; done) | (simp; omega)))
    replace Hbo := hide (blk_grown Hbo.out hgr (by first | (simp; done) | (simp; omega)))
    replace Hz := hide fct11.2
    clear hgr hK fct11 p0 p1 ltp x0 x1 x2 ltx z0 z1 ltz
    obtain ⟨z0, z1⟩ := Hz.out.c2
    have ltz := Hz.out.lt
    go_wp2_with fail
    have hgb := (show w.grownBy w3 (some g) from ⟨HB.out.os, HB.out.tape, HB.out.output, HB.out.size, fun k hk _ => HB.out.block k hk⟩)
    refine (through_any A n c l (t1, t2) (q1, q2) g gl w3 Hn.out HT.out Ht.out.toPsg ⟨by omega, by omega⟩ ⟨by omega, by omega⟩ ((Hl.out.below HB.out).more HB.out.size) Hg.out Hgl.out).mono ?_
    rintro e w5 ⟨rfl, hgr, hbk⟩
    replace Hz := hide (blk_grown Hz.out hgr (by simp; omega))
    replace Hbo := hide (blk_grown Hbo.out hgr (by simp; omega))
    have hgb2 := gb_trans hgb hgr
    have HGB := hide hgb2
    have HBK := hide hbk
    clear hgr hgb hgb2 hbk
    clear z0 z1 ltz
    obtain ⟨z0, z1⟩ := Hz.out.c2
    have ltz := Hz.out.lt
    obtain ⟨e0, e1⟩ := Hbo.out.c2
    have lte := Hbo.out.lt
    have fe0 := Hbo.out.frozen 0
    have fe1 := Hbo.out.frozen 1
    go_wp2
    refine bodyPost_ret (v := .agg #[.int .i64 q1, .int .i64 q2]) (by simp [results, Tryz.results130, go_sem, e0, e1, fe0, fe1, lte]) rfl ⟨rfl, gb_fill (gb_fill HGB.out (grown_setCell _ _ _ _) (by omega)) (grown_setCell _ _ _ _) (by omega), (HBK.out.far (by simp; omega) _).far (by simp; omega) _⟩
  · have hq2 : q2 = 1073741824 := by
      have : (restOne (t1, t2) (m1, m2)).2 = 1073741824 := by simp only [restOne, if_neg c3]
      rw [hq] at this
      exact this
    subst hq2
    clear hq
    obtain ⟨x0, x1, x2⟩ := Hg.out.c3
    have ltx := Hg.out.lt
    obtain ⟨z0, z1⟩ := Hz.out.c2
    have ltz := Hz.out.lt
    go_wp2_with fail
    have hgb := (show w.grownBy w2 (some g) from ⟨HB.out.os, HB.out.tape, HB.out.output, HB.out.size, fun k hk _ => HB.out.block k hk⟩)
    refine (through_any A n c l (t1, t2) (q1, 1073741824) g gl w2 Hn.out HT.out Ht.out.toPsg ⟨by omega, by omega⟩ ⟨by omega, by omega⟩ ((Hl.out.below HB.out).more HB.out.size) Hg.out Hgl.out).mono ?_
    rintro e w5 ⟨rfl, hgr, hbk⟩
    replace Hz := hide (blk_grown Hz.out hgr (by simp; omega))
    replace Hbo := hide (blk_grown Hbo.out hgr (by simp; omega))
    have hgb2 := gb_trans hgb hgr
    have HGB := hide hgb2
    have HBK := hide hbk
    clear hgr hgb hgb2 hbk
    clear x0 x1 x2 ltx z0 z1 ltz
    obtain ⟨z0, z1⟩ := Hz.out.c2
    have ltz := Hz.out.lt
    obtain ⟨e0, e1⟩ := Hbo.out.c2
    have lte := Hbo.out.lt
    have fe0 := Hbo.out.frozen 0
    have fe1 := Hbo.out.frozen 1
    go_wp2
    refine bodyPost_ret (v := .agg #[.int .i64 q1, .int .i64 1073741824]) (by simp [results, Tryz.results130, go_sem, e0, e1, fe0, fe1, lte]) rfl ⟨rfl, gb_fill (gb_fill HGB.out (grown_setCell _ _ _ _) (by omega)) (grown_setCell _ _ _ _) (by omega), (HBK.out.far (by simp; omega) _).far (by simp; omega) _⟩
end Go.Proofs.YtepgpihobmjbdaaGreat
namespace Go.Proofs.YtepgpihobmjbdaaGreat
open Go.RowKit

theorem pointInfo : (Tryz.prog.info? 109).map (fun i => (i.zero, i.size, i.bytes)) = some (some (.agg #[.int .i64 0, .int .i64 0]), 2, 16) := by kernel_rfl
theorem new_cells (w : World) (t : TypeId) (l : List Value) (j : Nat) (u : Value) (h : l[j]? = some u) : (w.alloc (.cells ⟨l⟩ t)).cell? ((⟨w.heap.size, 0, none⟩ : Addr).add j) = some u := by
  rw [show (⟨w.heap.size, 0, none⟩ : Addr).add j = ⟨w.heap.size, j, none⟩ by unfold Addr.add; split <;> simp_all]
  rw [(Blk.new w t ⟨l⟩).cell j]; simpa using h
theorem flat_snoc (l : List (Int × Int)) (a b : Int) : (flat2 l).map (Value.int .i64) ++ [Value.int .i64 a, .int .i64 b] = (flat2 (l ++ [(a, b)])).map (Value.int .i64) := by
  simp [flat2_append, flat2]
theorem take_snoc2 (l : List (Int × Int)) (k : Nat) (hk : k < l.length) : l.take (k + 1) = l.take k ++ [l.getD k (0, 0)] := by
  rw [List.take_succ_eq_append_getElem hk]; simp [List.getD, hk]

set_option maxHeartbeats 800000 in
theorem points_any (A : Option Addr) (n c : Nat) (l : List (Int × Int)) (w : World) (hn : l.length = n) (hmax : n ≤ 1000000) (hl : Ints w w.heap.size .i64 A (flat2 l)) :
    Calls Tryz.prog 29 #[.slice A n c] w fun e w' => ∃ v, e = .returned v ∧ Below w.heap.size w w' ∧ w'.ownsRow w.heap.size 109 2 v n ((flat2 l).map (Value.int .i64)) := by
  obtain ⟨i0, hi, hz0, hz1, hz2⟩ := info_parts pointInfo
  have Hi := hide hi
  have Hz0 := hide hz0
  have Hz1 := hide hz1
  have Hz2 := hide hz2
  have Hl := hide hl
  have Hn := hide hn
  clear hi hz0 hz1 hz2 hl hn
  go_enter Tryz.func29, Tryz.ntmps29
  go_wp2_with fail
  go_loopw [3, 4] (fun o i wr => ∃ k : Nat, k ≤ n ∧ i = .int .i64 k ∧ wr.ownsRow w.heap.size 109 2 o k ((flat2 (l.take k)).map (Value.int .i64)) ∧ Below w.heap.size w wr) (fun _ i _ => n - (intOf i).toNat)
  case atStart => exact ⟨0, by omega, rfl, World.ownsRow_nil _ _ _ _, Below.refl _ _⟩
  case round =>
    obtain ⟨k, hk, rfl, hown, hbw⟩ := hrel
    have Hown := hide hown
    have Hbw := hide hbw
    have hsw := hbw.size
    clear hown hbw
    by_cases hlt : k < n
    · obtain ⟨b, off, rfl, hb, hc⟩ := Hl.out.pt (by have := Hn.out; omega)
      obtain ⟨p0, p1⟩ := hc k (by have := Hn.out; omega)
      have hts := take_snoc2 l k (by have := Hn.out; omega)
      rw [← Hbw.out.cell hb] at p0 p1
      have Hts := hide hts
      clear hts hc
      obtain ⟨⟨x0, x1⟩, hx⟩ : ∃ x, l.getD k (0, 0) = x := ⟨_, rfl⟩
      rw [hx] at p0 p1
      have Hx := hide hx
      clear hx
      simp only at p0 p1
      go_wp2_with (at_builtin; refine wpList_append_own _ rfl (.tmp 11) (.tmp 16) _ rfl w.heap.size 109 i0 _ 2 16 Tryz.underlying43 Hi.out Hz0.out Hz1.out Hz2.out rfl (by decide) _ k _ rfl (Hown.out.alloc _) ⟨wr.heap.size, 0, none⟩ 1 1 [.int .i64 x0, .int .i64 x1] rfl rfl ?c1 ?c2 ?c3 ?c4 ?c5 ?_)
      case c1 => exact new_cells wr _ [.int .i64 x0, .int .i64 x1]
      case c2 => intro u hu; simp at hu; rcases hu with rfl | rfl <;> rfl
      case c3 => unfold maxLen; omega
      case c4 => omega
      case c5 => simp; omega
      intro v' w' hown' hgrow _
      have O2 := hide hown'
      have B2 := hide (below_grown (Hbw.out.alloc hsw (.cells #[.int .i64 x0, .int .i64 x1] 109)) hgrow (by simp; omega) (fun k hk => (Hown.out.lt k hk).1))
      clear hown' hgrow
      go_wp2
      go_roundw
      case rel =>
        refine ⟨k + 1, by omega, by go_num, ?_, B2.out⟩
        have := O2.out
        rw [flat_snoc] at this
        rw [Hts.out, Hx.out]; exact this
      case measure => simp [intOf]; omega
    · obtain rfl : k = n := by omega
      have hown := Hown.out
      rw [List.take_of_length_le (by have := Hn.out; omega)] at hown
      have HO := hide hown
      clear hown
      go_wp2
      go_ret
      exact ⟨_, rfl, Hbw.out, HO.out⟩

/-- What model returns, and that it is new. -/
def ModelOwn (w : World) (n : Nat) (l : List (Int × Int)) (n' : Nat) (m : List (Int × Int)) (melt inn above : Int × Int) (v : Value) (w' : World) : Prop :=
  ∃ A c A' c', v = mdlV A n c A' n' c' melt inn above ∧ w'.ownsRow w.heap.size 109 2 (.slice A n c) n ((flat2 l).map (Value.int .i64)) ∧ w'.ownsRow w.heap.size 109 2 (.slice A' n' c') n' ((flat2 m).map (Value.int .i64))
/-- What model returns. -/
def ModelPost (n : Nat) (l : List (Int × Int)) (n' : Nat) (m : List (Int × Int)) (melt inn above : Int × Int) (v : Value) (w' : World) : Prop :=
  ∃ A c A' c', v = mdlV A n c A' n' c' melt inn above ∧ Ints w' w'.heap.size .i64 A (flat2 l) ∧ Ints w' w'.heap.size .i64 A' (flat2 m)
theorem own_slice {w : World} {base : Nat} {e : TypeId} {size n : Nat} {v : Value} {xs : List Value} (h : w.ownsRow base e size v n xs) : ∃ A c, v = .slice A n c := by
  rcases h.2 with ⟨hv, h0⟩ | ⟨g, cap, _, hv, _⟩
  · exact ⟨none, 0, by rw [hv, h0]⟩
  · exact ⟨_, _, hv⟩

theorem own_low {w : World} {base base' : Nat} {e : TypeId} {size : Nat} {v : Value} {n : Nat} {xs : List Value} (h : w.ownsRow base e size v n xs) (hb : base' ≤ base) : w.ownsRow base' e size v n xs := by
  refine ⟨h.1, ?_⟩
  rcases h.2 with hn | ⟨g, cap, cur, e1, h2, rest⟩
  · exact .inl hn
  · exact .inr ⟨g, cap, cur, e1, Nat.le_trans hb h2, rest⟩
theorem Later.size1 {a b : World} (h : Later a b) : a.heap.size ≤ b.heap.size := h.size
theorem mzero : (Tryz.prog.info? 45).map (·.size) = some 8 := by kernel_rfl
theorem one8 (A : Option Addr) (n c : Nat) (A' : Option Addr) (n' c' : Nat) (a0 a1 b0 b1 c0 c1 : Int) : (#[.slice A n c, .slice A' n' c', .int .i64 a0, .int .i64 a1, .int .i64 b0, .int .i64 b1, .int .i64 c0, .int .i64 c1] : Array Value).all (·.oneCell') = true := by simp [Value.oneCell']

set_option maxHeartbeats 1000000 in
theorem model_own (A : Option Addr) (n c : Nat) (l : List (Int × Int)) (A' : Option Addr) (n' c' : Nat) (m : List (Int × Int)) (melt inn above : Int × Int) (w : World) (hn : l.length = n) (hmax : n ≤ 1000000) (hn' : m.length = n') (hmax' : n' ≤ 1000000)
    (hl : Ints w w.heap.size .i64 A (flat2 l)) (hm : Ints w w.heap.size .i64 A' (flat2 m)) :
    Calls Tryz.prog 9 #[mdlV A n c A' n' c' melt inn above] w fun e w' => ∃ v, e = .returned v ∧ Below w.heap.size w w' ∧ ModelOwn w n l n' m melt inn above v w' := by
  obtain ⟨a0, a1⟩ := melt
  obtain ⟨b0, b1⟩ := inn
  obtain ⟨c0, c1⟩ := above
  unfold mdlV
  simp only
  have Hl := hide hl
  have Hm := hide hm
  clear hl hm
  go_enter Tryz.func9, Tryz.ntmps9
  go_wp2_with fail
  refine code_world fun W hW => ?_
  have b1' : Blk W w.heap.size 26 #[.slice A n c, .slice A' n' c', .int .i64 a0, .int .i64 a1, .int .i64 b0, .int .i64 b1, .int .i64 c0, .int .i64 c1] := by rw [hW]; exact (Blk.new _ _ _).alloc _
  have r1 : Blk W (w.heap.size + 1) 45 #[.slice none 0 0, .slice none 0 0, .int .i64 0, .int .i64 0, .int .i64 0, .int .i64 0, .int .i64 0, .int .i64 0] := by rw [hW]; exact blk_new_at (by simp)
  have BW : Below w.heap.size w W := by rw [hW]; exact ((Below.refl _ _).alloc (Nat.le_refl _) _).alloc (by simp) _
  have hsz : W.heap.size = w.heap.size + 2 := by rw [hW]; simp
  have HlW := hide ((Hl.out.below BW).more BW.size)
  have HmW := hide ((Hm.out.below BW).more BW.size)
  obtain ⟨x0, x1, x2, x3, x4, x5, x6, x7⟩ := b1'.c8
  have HBW := hide BW
  have HR1 := hide r1
  clear hW b1' r1 BW Hl Hm
  refine wp_region_R (fun k => k < W.heap.size) 13 (by kernel_rfl) ?_
  apply anyR_peel (fuel := 4) 13 [true, true, false, true, true, false, true, true, true, true, true, true, false, false] #[true, true, false, true, true, false, true, true, true, true, true, true, false, false] (by kernel_rfl) rfl (fun j hj => decide_eq_true hj) (fun k hk => by first | exact hk | omega | (simp at hk ⊢; omega))
  · intro D hD
    have hne := hD.some
    have k0 := liftB hD x0 (by omega)
    have k1 := liftB hD x1 (by omega)
    have k2 := liftB hD x2 (by omega)
    have k3 := liftB hD x3 (by omega)
    have k4 := liftB hD x4 (by omega)
    have k5 := liftB hD x5 (by omega)
    have k6 := liftB hD x6 (by omega)
    have k7 := liftB hD x7 (by omega)
    simp only [takeOps]
    repeat (go_big_quiet_step (fail))
    exact wpQuiet_nil rfl
  refine anyR_call (f := 3) 2 #[true, true, true, true, true, false, true, true, true, true, true, true, false, false] (by kernel_rfl) (by kernel_rfl) rfl rfl rfl rfl 29 #[.slice A n c] (fun _ => by kernel_rfl) (fun k hk => hk) (fun v w1 w2 => w2.ownsRow w1.heap.size 109 2 v n ((flat2 l).map (Value.int .i64)))
    (fun w1 l1 => points_any A n c l w1 hn hmax ((HlW.out.below l1).more l1.size)) ?_
  intro v1 w1 w2 l1 l2 o1
  simp only [Act.put, List.setIfInBounds_toArray, List.set_cons_succ, List.set_cons_zero]
  refine anyR_call (f := 2) 5 #[true, true, true, true, true, true, true, true, true, true, true, true, false, false] (by kernel_rfl) (by kernel_rfl) rfl rfl rfl rfl 29 #[.slice A' n' c'] (fun _ => by kernel_rfl) (fun k hk => Nat.lt_of_lt_of_le hk l2.size) (fun v w1 w2 => w2.ownsRow w1.heap.size 109 2 v n' ((flat2 m).map (Value.int .i64)))
    (fun w3 l3 => points_any A' n' c' m w3 hn' hmax' ((HmW.out.below (l2.trans l3)).more (Nat.le_trans l2.size l3.size))) ?_
  intro v2 w3 w4 l3 l4 o2
  simp only [Act.put, List.setIfInBounds_toArray, List.set_cons_succ, List.set_cons_zero]
  have o1' := own_later o1 l4
  obtain ⟨A1, e1, rfl⟩ := own_slice o1
  obtain ⟨A2, e2, rfl⟩ := own_slice o2
  have L4 : Later W w4 := Later.trans l2 l4
  have hs4 := Below.size L4
  have R4 := blk_later HR1.out L4
  have O1 := hide o1'
  have O2 := hide o2
  have HR4 := hide R4
  have HL4 := hide L4
  have HS3 := hide (And.intro (Later.size1 l1) (Nat.le_trans l2.size l3.size))
  clear o1 o2 o1' l1 l2 l3 l4 L4 x0 x1 x2 x3 x4 x5 x6 x7
  refine anyR_sub (S' := fun k => k < W.heap.size) (fun k hk => by first | exact hk | omega | (simp at hk ⊢; omega)) ?_
  apply anyR_peel (fuel := 1) 13 [false, false, false, false, false, false, false, false, false, false, false, false, true, false] #[true, true, true, true, true, true, true, true, true, true, true, true, true, false] (by kernel_rfl) rfl (fun j hj => decide_eq_true hj) (fun k hk => by first | exact hk | omega | (simp at hk ⊢; omega))
  · intro D hD
    have hne := hD.some
    simp only [takeOps]
    repeat (go_big_quiet_step (fail))
    exact wpQuiet_nil rfl
  refine anyR_fill (f := 0) 13 _ 45 2 15 (w.heap.size + 1) _ #[.slice A1 n e1, .slice A2 n' e2, .int .i64 a0, .int .i64 a1, .int .i64 b0, .int .i64 b1, .int .i64 c0, .int .i64 c1] (by kernel_rfl) rfl rfl rfl R4 mzero rfl (one8 _ _ _ _ _ _ _ _ _ _ _ _) (fun h => by simp at h) ?_
  intro w5 hgr hbk
  obtain ⟨y0, y1, y2, y3, y4, y5, y6, y7⟩ := hbk.c8
  have HB5 := hide (below_grown (HBW.out.trans (Below.mono HL4.out HBW.out.size)) hgr (by omega) (fun k hk => by simp at hk; omega))
  have hs5 := hgr.size
  have P5 : ModelOwn w n l n' m (a0, a1) (b0, b1) (c0, c1) (mdlV A1 n e1 A2 n' e2 (a0, a1) (b0, b1) (c0, c1)) w5 := by
    have s1 := HBW.out.size
    have s3 := HS3.out
    exact ⟨A1, e1, A2, e2, rfl, own_low (own_grown O1.out hgr (own_ne O1.out HR4.out (by decide))) (Nat.le_trans s1 s3.1), own_low (own_grown O2.out hgr (own_ne O2.out HR4.out (by decide))) (Nat.le_trans s1 s3.2)⟩
  have HP := hide P5
  clear hgr P5
  go_wp2
  refine bodyPost_ret (v := mdlV A1 n e1 A2 n' e2 (a0, a1) (b0, b1) (c0, c1)) (by simp [mdlV, results, Tryz.results9, go_sem, y0, y1, y2, y3, y4, y5, y6, y7]) rfl ⟨_, rfl, HB5.out, HP.out⟩

theorem model_any (A : Option Addr) (n c : Nat) (l : List (Int × Int)) (A' : Option Addr) (n' c' : Nat) (m : List (Int × Int)) (melt inn above : Int × Int) (w : World) (hn : l.length = n) (hmax : n ≤ 1000000) (hn' : m.length = n') (hmax' : n' ≤ 1000000)
    (hl : Ints w w.heap.size .i64 A (flat2 l)) (hm : Ints w w.heap.size .i64 A' (flat2 m)) :
    Calls Tryz.prog 9 #[mdlV A n c A' n' c' melt inn above] w fun e w' => ∃ v, e = .returned v ∧ Below w.heap.size w w' ∧ ModelPost n l n' m melt inn above v w' :=
  (model_own A n c l A' n' c' m melt inn above w hn hmax hn' hmax' hl hm).mono fun _ _ ⟨v, he, hb, A1, e1, A2, e2, hv, h1, h2⟩ => ⟨v, he, hb, A1, e1, A2, e2, hv, Ints.own h1 rfl (Nat.le_refl _), Ints.own h2 rfl (Nat.le_refl _)⟩
end Go.Proofs.YtepgpihobmjbdaaGreat
namespace Go.Proofs.YtepgpihobmjbdaaGreat
open Go.RowKit

/-- What Restore's measured spans lie in. -/
theorem getD_all {l : List (Int × Int)} (h : l.all okM = true) {j : Nat} (hj : j < l.length) : okM (l.getD j (0, 0)) = true := by
  rw [List.all_eq_true] at h
  have := h l[j] (List.getElem_mem hj)
  simpa [List.getD, hj] using this
theorem div_ge1 {a b : Int} (ha : 0 ≤ a) (hb : 1 ≤ b) : 0 ≤ a / b ∧ a / b ≤ a := ⟨Int.ediv_nonneg ha (by omega), Int.ediv_le_self b ha⟩

set_option maxHeartbeats 2000000 in
set_option maxRecDepth 100000 in
theorem restore_any (A : Option Addr) (n c : Nat) (l : List (Int × Int)) (A' : Option Addr) (n' c' : Nat) (ms : List (Int × Int)) (w : World) (hn : l.length = n) (hn' : ms.length = n') (hmax' : n' ≤ 200) (hT : Tab l 32768) (hok : ms.all okM = true)
    (hl : Ints w w.heap.size .i64 A (flat2 l)) (hl' : Ints w w.heap.size .i64 A' (flat2 ms)) :
    Calls Tryz.prog 23 #[.slice A n c, .slice A' n' c'] w fun e w' => ∃ v, e = .returned v ∧ w'.ownsRow w.heap.size 24 2 v ms.length (spanCells (restGo l whole ms)) ∧ Below w.heap.size w w' := by
  obtain ⟨i0, hi, hz0, hz1, hz2⟩ := info_parts spanInfo
  have HT := hide hT
  have Hl := hide hl
  have Hl' := hide hl'
  have Hn := hide hn
  have Hn' := hide hn'
  have Hi := hide hi
  have Hz0 := hide hz0
  have Hz1 := hide hz1
  have Hz2 := hide hz2
  have Hok := hide hok
  clear hT hl hl' hn hn' hi hz0 hz1 hz2 hok
  go_enter Tryz.func23, Tryz.ntmps23
  go_wp2_with fail
  go_loopw [6, 7] (fun o i wr => ∃ (k : Nat) (t : Int × Int) (dn : List (Int × Int)), k ≤ n' ∧ i = .int .i64 k ∧ wr.ownsRow (w.heap.size + 1) 24 2 o k (spanCells dn) ∧ Below w.heap.size w wr ∧
      Blk wr w.heap.size 24 #[.int .i64 t.1, .int .i64 t.2] ∧ Psg1 t ∧ dn.length = k ∧ restGo l whole ms = dn ++ restGo l t (ms.drop k))
    (fun _ i _ => n' - (intOf i).toNat)
  case atStart => exact ⟨0, whole, [], by omega, rfl, World.ownsRow_nil _ _ _ _, (Below.refl _ _).alloc (Nat.le_refl _) _, Blk.new _ _ _, whole_psg1, rfl, rfl⟩
  case round =>
    obtain ⟨k, t, dn, hk, rfl, hown, hbw, hg, ht, hdn, hgo⟩ := hrel
    have hsw := hg.lt
    have Hown := hide hown
    have HB := hide hbw
    have Hg := hide hg
    have Hgo := hide hgo
    have Ht := hide ht
    have Hdn := hide hdn
    clear hown hbw hg hgo ht hdn
    by_cases hlt : k < n'
    · obtain ⟨b', off', rfl, hb', hc'⟩ := Hl'.out.pt (by have := Hn'.out; omega)
      have hpp := hc' k (by have := Hn'.out; omega)
      have hgd := restGo_drop l t ms k (by have := Hn'.out; omega)
      have hm := getD_all Hok.out (j := k) (by have := Hn'.out; omega)
      generalize ms.getD k (0, 0) = m at *
      obtain ⟨m1, m2⟩ := m
      simp only at hpp
      obtain ⟨q1, q2, hq⟩ : ∃ a b, restOne t (m1, m2) = (a, b) := ⟨_, _, rfl⟩
      have hbd := restOne_bd Ht.out hm
      rw [hq] at hgd hbd
      simp only at hbd
      obtain ⟨qa, qb, qc, qd⟩ := hbd
      obtain ⟨hm1, hm2, hm3⟩ := okM_iff hm
      simp only at hm1 hm2 hm3
      have Hgd := hide hgd
      have Hpp := hide hpp
      have htt := Ht.out
      obtain ⟨t1, t2⟩ := t
      obtain ⟨⟨ta, tb, tc, td⟩, te⟩ := htt
      simp only at ta tb tc td te Hg
      obtain ⟨u, hu, hu0, hu1, hdn2⟩ : ∃ u, m1 * 1073741824 / t2 = u ∧ 0 ≤ u ∧ u ≤ m1 * 1073741824 ∧ ∀ W, Calls Tryz.prog 26 #[.int .i64 (m1 * 1073741824), .int .i64 t2] W fun e w' => e = .returned (.int .i64 u) ∧ W = w' :=
        ⟨_, rfl, (div_ge1 (by omega) te).1, (div_ge1 (by omega) te).2, fun W => Down_any _ _ _ (by omega) (by omega) (by omega) (by omega)⟩
      have elo : (if u < 1073741824 then u else 1073741824) = q1 := by
        have : (restOne (t1, t2) (m1, m2)).1 = min 1073741824 u := by simp only [restOne, hu]
        rw [hq] at this
        exact ((min_if 1073741824 u).symm.trans this.symm)
      clear hu hgd hpp hm hc'
      obtain ⟨p0, p1⟩ := Hpp.out
      rw [← HB.out.cell hb'] at p0 p1
      have hbr : b' < wr.heap.size := by have := HB.out.size; omega
      go_wp2_with fail
      obtain ⟨g0, g1⟩ := Hg.out.c2
      have ltg := Hg.out.lt
      apply wp_region_L (w0 := wr) [[], [], [], [], [], [], [], [], [], [], [], [], [11]] [true, true, true, true, true, true, true, true, true, true, true, false, false] [⟨11, none, [], []⟩, ⟨12, some 11, [11], [11]⟩] (fun ixq y => match ixq with | 11 => .pointer (y 0).1 | 12 => undef | _ => undef) (fun ixq x F wq => match ixq with | 11 => PtrF wq F wr.heap.size (x 11 0).1 24 #[.int .i64 0, .int .i64 0] | 12 => PtrF wq F wr.heap.size (x 11 0).1 24 #[.int .i64 q1, .int .i64 1073741824] | _ => True) (fun a x => ((a).put (some 8) (.pointer ((x 11) 0).1)).put (none) (undef)) (by kernel_rfl) (by kernel_rfl) (fun _ => rfl) [24] (by kernel_rfl)
      · intro x D hD
        have hne := hD.some
        have k0 := liftB hD p0 (by first | assumption | omega)
        have k1 := liftB hD g1 (by first | assumption | omega)
        simp only [takeOps, Act.put, List.setIfInBounds_toArray, List.set_cons_succ, List.set_cons_zero]
        repeat (go_big_quiet_step ((go_at_call 26; exact calls_same _ (hdn2 _))))
        exact wpQuiet_nil rfl
      · intro d hd x x'
        simp only [List.mem_cons, List.not_mem_nil, or_false] at hd
        rcases hd with rfl
        all_goals rfl
      · refine ⟨?_, ?_, trivial⟩
        · exact obl_alloc 24 8 (.agg #[.int .i64 0, .int .i64 0]) (by kernel_rfl) (by kernel_rfl) (fun _ => rfl) (fun _ _ _ h => h)
        · refine obl_store 24 8 26 11 #[.int .i64 0, .int .i64 0] (fun x => #[.int .i64 q1, .int .i64 1073741824]) (by kernel_rfl) rfl (by simp) (fun _ _ _ h => h) (fun _ => rfl) (fun _ => rfl) (fun _ => by kernel_rfl) (fun _ => rfl) (fun _ => by simp [Value.oneCell']) (fun _ => rfl) (by decide) (fun _ _ _ _ h => h)
      · refine ⟨?_, ?_, trivial⟩
        · exact owe_ptr 11 _ _ (fun x => #[.int .i64 0, .int .i64 0]) (fun _ _ _ => rfl) (by simp) (fun _ _ _ => rfl)
        · exact owe_ptr 11 _ _ (fun x => #[.int .i64 q1, .int .i64 1073741824]) (fun _ _ _ => rfl) (by simp) (fun _ _ _ => rfl)
      intro xx w2 F hL hlv1
      obtain ⟨-, fct12, -⟩ := hlv1
      replace fct12 : PtrF w2 (F 12) wr.heap.size (xx 11 0).1 24 #[.int .i64 q1, .int .i64 1073741824] := fct12 rfl
      obtain ⟨g8, hgx, hge, -, hbg⟩ := fct12
      rw [hgx]
      have ne8 : Hid (True) := trivial
      clear ne8
      have hne8 := own_high_ne Hown.out hge
      clear hgx p0 p1 elo hdn2
      replace Hg := hide (blk_later Hg.out hL)
      replace Hown := hide (own_later Hown.out hL)
      replace HB := hide (onward HB.out hL)
      clear hL g0 g1 ltg
      have Hz8 := hide hbg
      clear hbg
      have neHz8 := hne8
      clear hne8
      have hbr2 : b' < w2.heap.size := by have := HB.out.size; omega
      by_cases c3 : 1048576 ≤ t1
      · obtain ⟨v, hv, hv0, hv1, hup⟩ : ∃ v, cdiv (m2 * 1073741824) t1 = v ∧ 0 ≤ v ∧ v ≤ m2 * 1073741824 ∧ ∀ W, Calls Tryz.prog 27 #[.int .i64 (m2 * 1073741824), .int .i64 t1] W fun e w' => e = .returned (.int .i64 v) ∧ W = w' :=
          ⟨_, rfl, (cdiv_bd (C := m2 * 1073741824) (by omega) (by omega) (by have := Int.mul_le_mul_of_nonneg_left (show 1 ≤ t1 by omega) (show 0 ≤ m2 * 1073741824 by omega); omega)).1, (cdiv_bd (C := m2 * 1073741824) (by omega) (by omega) (by have := Int.mul_le_mul_of_nonneg_left (show 1 ≤ t1 by omega) (show 0 ≤ m2 * 1073741824 by omega); omega)).2, fun W => Up_any _ _ _ (by omega) (by omega) (by omega) (by omega)⟩
        have ehi : (if v < 1073741824 then v else 1073741824) = q2 := by
          have : (restOne (t1, t2) (m1, m2)).2 = min 1073741824 v := by simp only [restOne, if_pos c3, hv]
          rw [hq] at this
          exact ((min_if 1073741824 v).symm.trans this.symm)
        clear hv hq
        obtain ⟨p0, p1⟩ := Hpp.out
        rw [← HB.out.cell hb'] at p0 p1
        obtain ⟨g0, g1⟩ := Hg.out.c2
        have ltg := Hg.out.lt
        obtain ⟨z0, z1⟩ := Hz8.out.c2
        have ltz := Hz8.out.lt
        have hg8 : w.heap.size + 1 ≤ g8 := by omega
        go_wp2_with fail
        apply wp_region_F (w0 := w2) [[], [], [0, 1], [0, 1, 2], [0, 1, 2, 3], [0, 1, 2, 3, 4], [], [6], [0, 1, 2, 3, 4, 5, 6, 7], [0, 1, 2, 3, 4, 5, 6, 7, 8], [0, 1, 2, 3, 4, 5, 6, 7, 8, 9], [0, 1, 2, 3, 4, 5, 6, 7, 8, 9, 10]] [true, true, true, true, true, true, true, true, true, true, true, false] [false, false, false, false, false, false, false, false, false, false, false, false] [⟨11, none, [], []⟩] [(11, g8)] [11] (fun ixq y => match ixq with | 11 => undef | _ => undef) (fun ixq x F wq => match ixq with | 11 => F g8 ∧ Blk wq g8 24 #[.int .i64 q1, .int .i64 q2] | _ => True) (fun a x => (a).put (none) (undef)) (by kernel_rfl) (by kernel_rfl) (by kernel_rfl) (fun _ => rfl) [38] (by kernel_rfl) (fills_lt1 (by omega)) fills_ne1
        · intro x D hD
          have hne := hD.some
          have k0 := liftS hD p1 (by exact early_all (by first | assumption | omega) (by rfl))
          have k1 := liftS hD g0 (by exact early_all (by first | assumption | omega) (by rfl))
          simp only [takeOps, Act.put, List.setIfInBounds_toArray, List.set_cons_succ, List.set_cons_zero]
          repeat (go_big_quiet_step ((go_at_call 27; exact calls_same _ (hup _))))
          exact wpQuiet_nil rfl
        · exact fun x D hD => wpQuiet_nil rfl
        · intro d hd x x'
          simp only [List.mem_cons, List.not_mem_nil, or_false] at hd
          rcases hd with rfl
          all_goals rfl
        · refine ⟨?_, trivial⟩
          · exact obl_set 3 24 40 39 g8 1 _ (q2) #[.int .i64 q1, .int .i64 q2] (by kernel_rfl) (fun _ => rfl) (fun _ => rfl) Hz8.out eb_fill1 (by simp [wrF]) (by kernel_rfl) (by simp) (by simp) (fun _ => rfl) (fun _ _ _ _ h1 h2 => ⟨h1, h2⟩)
        · refine ⟨?_, trivial⟩
          · exact owe_fill g8 24 (fun x => #[.int .i64 q1, .int .i64 q2]) (fun _ _ _ => rfl) (fun _ _ _ => rfl)
        intro xx2 w3 F hK hlv2
        obtain ⟨fct11, -⟩ := hlv2
        replace fct11 : (F 11) g8 ∧ Blk w3 g8 24 #[.int .i64 q1, .int .i64 q2] := fct11 rfl
        clear p0 p1 ehi hup
        have hgr := grown_kept hK
        have HB3 := below_grown HB.out hgr HB.out.size (fun q hq => by simp at hq; omega)
        have Hg3 := blk_grown Hg.out hgr (by simp; omega)
        have Hown3 := own_grown Hown.out hgr neHz8
        replace HB := hide HB3
        replace Hg := hide Hg3
        replace Hown := hide Hown3
        replace Hz8 := hide fct11.2
        clear hgr hK fct11 HB3 Hg3 Hown3
        clear g0 g1 ltg z0 z1 ltz
        have hsw : w.heap.size + 1 ≤ w3.heap.size := Hg.out.lt
        obtain ⟨z0, z1⟩ := Hz8.out.c2
        have ltz := Hz8.out.lt
        go_wp2_with (at_builtin; refine wpList_append_own _ rfl (.tmp 41) (.tmp 43) _ rfl (w.heap.size + 1) 24 i0 _ 2 16 Tryz.underlying34 Hi.out Hz0.out Hz1.out Hz2.out rfl (by decide) _ k _ rfl (Hown.out.alloc _) ⟨w3.heap.size, 0, none⟩ 1 1 [.int .i64 q1, .int .i64 q2] rfl rfl ?q1c1 ?q1c2 ?q1c3 ?q1c4 ?q1c5 ?_)
        try case q1c1 => exact new_cells w3 _ [.int .i64 q1, .int .i64 q2]
        case q1c2 => intro u hu; simp at hu; rcases hu with rfl | rfl <;> rfl
        case q1c3 => unfold maxLen; omega
        case q1c4 => omega
        case q1c5 => simp; omega
        intro v' w5 hown2 hgr2 _
        replace HB := hide (below_grown (HB.out.alloc HB.out.size (.cells #[.int .i64 q1, .int .i64 q2] 24)) hgr2 (by simp; omega) fun k hk => Nat.le_trans (by first | exact Nat.le_refl _ | omega) (Hown.out.lt k hk).1)
        replace Hg := hide (blk_grown (Hg.out.alloc _) hgr2 (own_low_ne Hown.out (by omega)))
        replace Hz8 := hide (blk_grown (Hz8.out.alloc _) hgr2 neHz8)
        replace Hown := hide hown2
        clear hown2 hgr2 z0 z1 ltz
        obtain ⟨z0, z1⟩ := Hz8.out.c2
        have ltz := Hz8.out.lt
        obtain ⟨g0, g1⟩ := Hg.out.c2
        have ltg := Hg.out.lt
        go_wp2_with fail
        refine (next_any A n c l (t1, t2) (q1, q2) _ Hn.out HT.out Ht.out.toPsg ⟨by omega, by omega⟩ ⟨by omega, by omega⟩ ((Hl.out.below HB.out).more HB.out.size)).mono ?_
        rintro e w6 ⟨rfl, hb⟩
        replace Hg := hide (blk_later Hg.out hb)
        replace Hz8 := hide (blk_later Hz8.out hb)
        replace Hown := hide (own_later Hown.out hb)
        replace HB := hide (onward HB.out hb)
        clear hb z0 z1 ltz g0 g1 ltg
        have f0 := Hg.out.frozen 0
        have f1 := Hg.out.frozen 1
        obtain ⟨g0, g1⟩ := Hg.out.c2
        have ltg := Hg.out.lt
        have hnx := nextT_psg1 HT.out Ht.out (z := (q1, q2)) (by simp only; omega) (by simp only; omega)
        have Hnx := hide hnx
        clear hnx
        go_wp2
        go_roundw
        case rel =>
          refine ⟨k + 1, nextT l (t1, t2) (q1, q2), dn ++ [(q1, q2)], by omega, by go_num, ?_, ?_, blk_eq2 ((Hg.out.set_ 0 _).set_ 1 _) (by simp), Hnx.out, by simp [Hdn.out], ?_⟩
          · have := Hown.out
            have e2 := spanCells_snoc dn q1 q2
            rw [show [Value.int .i64 q1, .int .i64 q2] = #[Value.int .i64 q1, .int .i64 q2].toList from rfl, e2] at this
            have h2 := own_grown this (grown_setCell _ w.heap.size 0 (.int .i64 (nextT l (t1, t2) (q1, q2)).1)) (own_low_ne this (by omega))
            exact own_grown h2 (grown_setCell _ w.heap.size 1 _) (own_low_ne h2 (by omega))
          · repeat (first | exact HB.out | (refine Below.setCell ?_ (by first | omega | (simp; done) | (simp; omega)) _) | (refine Below.alloc ?_ (by first | omega | (simp; done) | (simp; omega)) _) | (refine below_drewN ?_ _))
          · rw [Hgo.out, Hgd.out]; simp
        case measure => simp [intOf] <;> omega
      · have hq2 : q2 = 1073741824 := by
          have : (restOne (t1, t2) (m1, m2)).2 = 1073741824 := by simp only [restOne, if_neg c3]
          rw [hq] at this
          exact this
        subst hq2
        clear hq
        have c4 : t1 < 1048576 := by omega
        clear c3
        obtain ⟨g0, g1⟩ := Hg.out.c2
        have ltg := Hg.out.lt
        go_upto_region 9 with fail
        have hsw : w.heap.size + 1 ≤ w2.heap.size := Hg.out.lt
        obtain ⟨z0, z1⟩ := Hz8.out.c2
        have ltz := Hz8.out.lt
        go_wp2_with (at_builtin; refine wpList_append_own _ rfl (.tmp 41) (.tmp 43) _ rfl (w.heap.size + 1) 24 i0 _ 2 16 Tryz.underlying34 Hi.out Hz0.out Hz1.out Hz2.out rfl (by decide) _ k _ rfl (Hown.out.alloc _) ⟨w2.heap.size, 0, none⟩ 1 1 [.int .i64 q1, .int .i64 1073741824] rfl rfl ?q2c1 ?q2c2 ?q2c3 ?q2c4 ?q2c5 ?_)
        try case q2c1 => exact new_cells w2 _ [.int .i64 q1, .int .i64 1073741824]
        case q2c2 => intro u hu; simp at hu; rcases hu with rfl | rfl <;> rfl
        case q2c3 => unfold maxLen; omega
        case q2c4 => omega
        case q2c5 => simp; omega
        intro v' w5 hown2 hgr2 _
        replace HB := hide (below_grown (HB.out.alloc HB.out.size (.cells #[.int .i64 q1, .int .i64 1073741824] 24)) hgr2 (by simp; omega) fun k hk => Nat.le_trans (by first | exact Nat.le_refl _ | omega) (Hown.out.lt k hk).1)
        replace Hg := hide (blk_grown (Hg.out.alloc _) hgr2 (own_low_ne Hown.out (by omega)))
        replace Hz8 := hide (blk_grown (Hz8.out.alloc _) hgr2 neHz8)
        replace Hown := hide hown2
        clear hown2 hgr2 g0 g1 ltg z0 z1 ltz
        obtain ⟨z0, z1⟩ := Hz8.out.c2
        have ltz := Hz8.out.lt
        obtain ⟨g0, g1⟩ := Hg.out.c2
        have ltg := Hg.out.lt
        go_wp2_with fail
        refine (next_any A n c l (t1, t2) (q1, 1073741824) _ Hn.out HT.out Ht.out.toPsg ⟨by omega, by omega⟩ ⟨by omega, by omega⟩ ((Hl.out.below HB.out).more HB.out.size)).mono ?_
        rintro e w6 ⟨rfl, hb⟩
        replace Hg := hide (blk_later Hg.out hb)
        replace Hz8 := hide (blk_later Hz8.out hb)
        replace Hown := hide (own_later Hown.out hb)
        replace HB := hide (onward HB.out hb)
        clear hb z0 z1 ltz g0 g1 ltg
        have f0 := Hg.out.frozen 0
        have f1 := Hg.out.frozen 1
        obtain ⟨g0, g1⟩ := Hg.out.c2
        have ltg := Hg.out.lt
        have hnx := nextT_psg1 HT.out Ht.out (z := (q1, 1073741824)) (by simp only; omega) (by simp only; omega)
        have Hnx := hide hnx
        clear hnx
        go_wp2
        go_roundw
        case rel =>
          refine ⟨k + 1, nextT l (t1, t2) (q1, 1073741824), dn ++ [(q1, 1073741824)], by omega, by go_num, ?_, ?_, blk_eq2 ((Hg.out.set_ 0 _).set_ 1 _) (by simp), Hnx.out, by simp [Hdn.out], ?_⟩
          · have := Hown.out
            have e2 := spanCells_snoc dn q1 1073741824
            rw [show [Value.int .i64 q1, .int .i64 1073741824] = #[Value.int .i64 q1, .int .i64 1073741824].toList from rfl, e2] at this
            have h2 := own_grown this (grown_setCell _ w.heap.size 0 (.int .i64 (nextT l (t1, t2) (q1, 1073741824)).1)) (own_low_ne this (by omega))
            exact own_grown h2 (grown_setCell _ w.heap.size 1 _) (own_low_ne h2 (by omega))
          · repeat (first | exact HB.out | (refine Below.setCell ?_ (by first | omega | (simp; done) | (simp; omega)) _) | (refine Below.alloc ?_ (by first | omega | (simp; done) | (simp; omega)) _) | (refine below_drewN ?_ _))
          · rw [Hgo.out, Hgd.out]; simp
        case measure => simp [intOf] <;> omega
    · obtain rfl : k = n' := by omega
      have hgo := Hgo.out
      rw [List.drop_eq_nil_of_le (by have := Hn'.out; omega), restGo, List.append_nil] at hgo
      have Hgo2 := hide hgo
      clear hgo
      go_wp2
      go_ret
      exact ⟨_, rfl, by rw [Hgo2.out, Hn'.out]; exact own_mono Hown.out (by omega), HB.out⟩

end Go.Proofs.YtepgpihobmjbdaaGreat
namespace Go.Proofs.YtepgpihobmjbdaaGreat
open Go.RowKit

theorem belowg {g : Nat} {w w1 w2 : World} (h : Below g w w1) (hl : Later w1 w2) (hg : g < w1.heap.size) : Below g w w2 := h.trans (Below.mono hl (by omega))
theorem belowg_own {g base : Nat} {w w1 w2 : World} {e : TypeId} {size n : Nat} {v : Value} {xs : List Value} {w0 : World} (h : Below g w w1) (hg : w1.grownBy w2 v.ownBlock) (ho : w0.ownsRow base e size v n xs) (hl : g < base ∧ g < w1.heap.size) : Below g w w2 :=
  h.trans ⟨hg.os, hg.tape, hg.output, hg.size, fun k hk => hg.block k (by omega) (fun e1 => by have := (ho.lt k e1.symm).1; omega)⟩
end Go.Proofs.YtepgpihobmjbdaaGreat
namespace Go.Proofs.YtepgpihobmjbdaaGreat

def winB (n lo hi : Int) : Bool := decide (lo ≤ n ∧ n ≤ hi)
theorem winB_iff {n lo hi : Int} : winB n lo hi = true ↔ lo ≤ n ∧ n ≤ hi := by simp [winB]
/-- A direction, and its length. -/
structure Vec where
  x : Int
  y : Int
  l : Int
def quarter (q p r l : Int) : Vec := if q = 0 then ⟨p, r, l⟩ else if q = 1 then ⟨r, -p, l⟩ else if q = 2 then ⟨-p, -r, l⟩ else ⟨-r, p, l⟩
def dirV (rose a : Int) : Vec := quarter (a / rose) (2 * rose * (a % rose)) (rose * rose - a % rose * (a % rose)) (rose * rose + a % rose * (a % rose))
def okD (rose a : Int) : Bool := winB rose 1 180 && winB a 0 (4 * rose - 1)
def dirR (rose a : Int) : Vec × Int := if okD rose a = true then (dirV rose a, 0) else (⟨0, 0, 0⟩, 3)
def slantV (t : Int) : Vec := ⟨262144 - t * t, 1024 * t, 262144 + t * t⟩
def slantR (t : Int) : Vec × Int := if winB t (-8) 264 = true then (slantV t, 0) else (⟨0, 0, 0⟩, 3)
theorem mul_bdB {a b A B : Int} (ha : 0 ≤ a) (haA : a ≤ A) (hb : 0 ≤ b) (hbB : b ≤ B) : 0 ≤ a * b ∧ a * b ≤ A * B :=
  ⟨Int.mul_nonneg ha hb, Int.le_trans (Int.mul_le_mul_of_nonneg_right haA hb) (Int.mul_le_mul_of_nonneg_left hbB (by omega))⟩
/-- What the walk needs of a direction. -/
theorem dir_bd {rose a : Int} (h1 : 1 ≤ rose) (h2 : rose ≤ 180) (h3 : 0 ≤ a) (h4 : a ≤ 4 * rose - 1) :
    (a / rose = 0 ∨ a / rose = 1 ∨ a / rose = 2 ∨ a / rose = 3) ∧ 0 ≤ a % rose ∧ a % rose < rose ∧ 0 ≤ 2 * rose * (a % rose) ∧ 2 * rose * (a % rose) ≤ 64800 ∧ 0 ≤ rose * rose ∧ rose * rose ≤ 32400 ∧ 0 ≤ a % rose * (a % rose) ∧ a % rose * (a % rose) ≤ 32400 := by
  have a1 := Int.emod_nonneg a (show rose ≠ 0 by omega)
  have a2 := Int.emod_lt_of_pos a (show 0 < rose by omega)
  have b1 : 0 ≤ a / rose := Int.ediv_nonneg h3 (by omega)
  have b2 : a / rose < 4 := Int.ediv_lt_of_lt_mul (by omega) (by omega)
  obtain ⟨c1, c2⟩ := mul_bdB (a := 2 * rose) (b := a % rose) (A := 360) (B := 180) (by omega) (by omega) a1 (by omega)
  obtain ⟨d1, d2⟩ := mul_bdB (a := rose) (b := rose) (A := 180) (B := 180) (by omega) (by omega) (by omega) (by omega)
  obtain ⟨e1, e2⟩ := mul_bdB (a := a % rose) (b := a % rose) (A := 180) (B := 180) a1 (by omega) a1 (by omega)
  exact ⟨by omega, a1, a2, c1, by omega, d1, by omega, e1, by omega⟩
theorem tilt_bd {t : Int} (h1 : -8 ≤ t) (h2 : t ≤ 264) : 0 ≤ t * t ∧ t * t ≤ 69696 := by
  by_cases h : 0 ≤ t
  · obtain ⟨a, b⟩ := mul_bdB h h2 h h2
    exact ⟨a, by omega⟩
  · have e : t * t = -t * -t := by rw [Int.neg_mul_neg]
    obtain ⟨a, b⟩ := mul_bdB (a := -t) (b := -t) (A := 8) (B := 8) (by omega) (by omega) (by omega) (by omega)
    rw [e]; exact ⟨a, by omega⟩
end Go.Proofs.YtepgpihobmjbdaaGreat
namespace Go.Proofs.YtepgpihobmjbdaaGreat

/-- A direction of the first quarter: (dP n k, dQ n k). -/
def dP (n k : Int) : Int := 2 * n * k
def dQ (n k : Int) : Int := n * n - k * k
theorem cross_dir (n k j : Int) : dQ n k * dP n j - dP n k * dQ n j = 2 * n * ((j - k) * (n * n + k * j)) := by
  unfold dP dQ; grind
theorem dP_nonneg {n k : Int} (hn : 1 ≤ n) (hk : 0 ≤ k) : 0 ≤ dP n k := Int.mul_nonneg (by omega) hk
theorem dQ_nonneg {n k : Int} (_hn : 1 ≤ n) (hk : 0 ≤ k) (h : k ≤ n) : 0 ≤ dQ n k := by
  have : k * k ≤ n * n := Int.mul_le_mul h h hk (by omega)
  unfold dQ; omega
theorem cross_pos {n k j : Int} (hn : 1 ≤ n) (hk : 0 ≤ k) (hkj : k < j) : 0 < dQ n k * dP n j - dP n k * dQ n j := by
  rw [cross_dir]
  have h1 : 0 < n * n := Int.mul_pos (by omega) (by omega)
  have h2 : 0 ≤ k * j := Int.mul_nonneg hk (by omega)
  exact Int.mul_pos (by omega) (Int.mul_pos (by omega) (by omega))
/-- A direction is at a vector of the first quarter, or behind it. -/
def aheadB (n k x y : Int) : Bool := decide (dP n k * y ≤ dQ n k * x)
theorem ahead_zero {n x y : Int} (hx : 0 ≤ x) : aheadB n 0 x y = true := by
  unfold aheadB dP dQ
  have : 0 ≤ n * n * x := Int.mul_nonneg (by by_cases h : 0 ≤ n; exact Int.mul_nonneg h h; exact Int.mul_nonneg_of_nonpos_of_nonpos (by omega) (by omega)) hx
  exact decide_eq_true (by simpa using this)
theorem ahead_end {n x y : Int} (hn : 1 ≤ n) (hy : 0 < y) : aheadB n n x y = false := by
  unfold aheadB dP dQ
  have h1 : 0 < 2 * n * n * y := Int.mul_pos (Int.mul_pos (by omega) (by omega)) hy
  exact decide_eq_false (by rw [Int.sub_self, Int.zero_mul]; omega)
/-- Behind a direction that is not there, none is. -/
theorem ahead_mono {n k j x y : Int} (hn : 1 ≤ n) (hk : 0 ≤ k) (hkj : k ≤ j) (hj : j ≤ n) (hx : 0 ≤ x) (hy : 0 < y) (h : aheadB n k x y = false) : aheadB n j x y = false := by
  by_cases e : k = j
  · subst e; exact h
  have h1 : dQ n k * x < dP n k * y := by have := of_decide_eq_false h; omega
  refine decide_eq_false ?_
  intro h2
  have c := cross_pos hn hk (show k < j by omega)
  have pk := dP_nonneg hn hk
  have qk := dQ_nonneg hn hk (show k ≤ n by omega)
  have pj := dP_nonneg hn (show 0 ≤ j by omega)
  have qx : 0 ≤ dQ n k * x := Int.mul_nonneg qk hx
  -- dP j * y * dP k <= dQ j * x * dP k <= x * dQ k * dP j < dP k * y * dP j
  have a1 : dP n j * y * dP n k ≤ dQ n j * x * dP n k := Int.mul_le_mul_of_nonneg_right h2 pk
  have a2 : x * (dP n k * dQ n j) ≤ x * (dQ n k * dP n j) := Int.mul_le_mul_of_nonneg_left (by omega) hx
  have a3 : dQ n k * x * dP n j ≤ (dP n k * y - 1) * dP n j := Int.mul_le_mul_of_nonneg_right (by omega) pj
  have pj0 : 0 < dP n j := by
    rcases Int.lt_or_eq_of_le pj with h | h
    · exact h
    · rw [← h] at c
      have : dP n k * dQ n j ≥ 0 := Int.mul_nonneg pk (dQ_nonneg hn (by omega) hj)
      omega
  have e1 : dP n j * y * dP n k = dP n k * y * dP n j := by grind
  have e2 : dQ n j * x * dP n k = x * (dP n k * dQ n j) := by grind
  have e3 : x * (dQ n k * dP n j) = dQ n k * x * dP n j := by grind
  have e4 : (dP n k * y - 1) * dP n j = dP n k * y * dP n j - dP n j := by grind
  omega

/-- A vector, turned q quarters. -/
def rotN (X Y : Int) : Nat → Int × Int
  | 0 => (X, Y)
  | q + 1 => (-(rotN X Y q).2, (rotN X Y q).1)
def quad (X Y : Int) : Nat := if 0 ≤ X ∧ 0 < Y then 0 else if 0 ≤ -Y ∧ 0 < X then 1 else if 0 ≤ -X ∧ 0 < -Y then 2 else 3
theorem quad_le (X Y : Int) : quad X Y ≤ 3 := by
  unfold quad
  repeat' split
  all_goals omega
theorem quad_at {X Y : Int} (h : ¬ (X = 0 ∧ Y = 0)) : 0 ≤ (rotN X Y (quad X Y)).1 ∧ 0 < (rotN X Y (quad X Y)).2 := by
  unfold quad
  repeat' split
  all_goals
    simp only [rotN]
    omega
theorem quad_uniq {X Y : Int} {q : Nat} (hq : q ≤ 3) (h1 : 0 ≤ (rotN X Y q).1) (h2 : 0 < (rotN X Y q).2) : q = quad X Y := by
  unfold quad
  have : q = 0 ∨ q = 1 ∨ q = 2 ∨ q = 3 := by omega
  rcases this with rfl | rfl | rfl | rfl <;> simp only [rotN] at h1 h2 <;> (repeat' split) <;> omega
/-- Whether a vector is in the sector of a ray. -/
def sectorB (rose a X Y : Int) : Bool := decide (0 ≤ (dirV rose a).y * X - (dirV rose a).x * Y) && decide (0 < Y * (dirV rose ((a + 1) % (4 * rose))).x - X * (dirV rose ((a + 1) % (4 * rose))).y)
theorem div_add {n : Int} {q : Nat} {k : Int} (hn : 1 ≤ n) (hk : 0 ≤ k) (hkn : k < n) : ((q : Int) * n + k) / n = q ∧ ((q : Int) * n + k) % n = k := by
  constructor
  · rw [Int.add_comm, Int.add_mul_ediv_right _ _ (by omega), Int.ediv_eq_zero_of_lt hk hkn]; omega
  · rw [Int.add_comm, Int.add_mul_emod_self_right, Int.emod_eq_of_lt hk hkn]
/-- The direction of ray q * n + k against a vector, in the turned frame. -/
theorem dir_turn {n : Int} {q : Nat} {k : Int} (hn : 1 ≤ n) (hk : 0 ≤ k) (hkn : k < n) (hq : q ≤ 3) (X Y : Int) :
    (dirV n ((q : Int) * n + k)).y * X - (dirV n ((q : Int) * n + k)).x * Y = dQ n k * (rotN X Y q).1 - dP n k * (rotN X Y q).2 := by
  unfold dirV
  obtain ⟨e1, e2⟩ := div_add (q := q) hn hk hkn
  rw [e1, e2]
  have : q = 0 ∨ q = 1 ∨ q = 2 ∨ q = 3 := by omega
  rcases this with rfl | rfl | rfl | rfl <;> simp [quarter, rotN, dP, dQ] <;> grind
theorem next_turn {n : Int} {q : Nat} {k : Int} (hn : 1 ≤ n) (hk : 0 ≤ k) (hkn : k < n) (hq : q ≤ 3) (X Y : Int) :
    0 < Y * (dirV n (((q : Int) * n + k + 1) % (4 * n))).x - X * (dirV n (((q : Int) * n + k + 1) % (4 * n))).y ↔ aheadB n (k + 1) (rotN X Y q).1 (rotN X Y q).2 = false := by
  have hA : aheadB n (k + 1) (rotN X Y q).1 (rotN X Y q).2 = false ↔ 0 < dP n (k + 1) * (rotN X Y q).2 - dQ n (k + 1) * (rotN X Y q).1 := by
    unfold aheadB; rw [decide_eq_false_iff_not]; omega
  rw [hA]
  by_cases h : k + 1 < n
  · have e : ((q : Int) * n + k + 1) % (4 * n) = (q : Int) * n + (k + 1) := by
      have : (q : Int) * n ≤ 3 * n := Int.mul_le_mul_of_nonneg_right (by omega) (by omega)
      have : 0 ≤ (q : Int) * n := Int.mul_nonneg (by omega) (by omega)
      rw [Int.emod_eq_of_lt (by omega) (by omega)]; omega
    rw [e]
    have := dir_turn (q := q) (k := k + 1) hn (by omega) h hq X Y
    have c1 : Y * (dirV n ((q : Int) * n + (k + 1))).x = (dirV n ((q : Int) * n + (k + 1))).x * Y := Int.mul_comm _ _
    have c2 : X * (dirV n ((q : Int) * n + (k + 1))).y = (dirV n ((q : Int) * n + (k + 1))).y * X := Int.mul_comm _ _
    omega
  · obtain rfl : k = n - 1 := by omega
    have nn : 0 < n * n := Int.mul_pos (by omega) (by omega)
    have e0 : dP n (n - 1 + 1) = 2 * (n * n) := by unfold dP; rw [Int.sub_add_cancel]; grind
    have e1 : dQ n (n - 1 + 1) = 0 := by unfold dQ; rw [Int.sub_add_cancel]; omega
    rw [e0, e1]
    have hd : ∀ b : Nat, b ≤ 3 → dirV n ((b : Int) * n) = quarter b 0 (n * n) (n * n) := fun b hb => by
      have := div_add (q := b) (k := 0) hn (Int.le_refl _) (by omega)
      rw [Int.add_zero] at this
      unfold dirV
      rw [this.1, this.2]; simp
    have hc : q = 0 ∨ q = 1 ∨ q = 2 ∨ q = 3 := by omega
    have key : ∀ z : Int, (0 < 2 * (n * n) * z - 0 * (rotN X Y q).1 ↔ 0 < z) := fun z => by
      rw [Int.zero_mul, Int.sub_zero]
      constructor
      · intro h; refine Int.not_le.1 fun hz => ?_
        have := Int.mul_nonpos_of_nonneg_of_nonpos (show 0 ≤ 2 * (n * n) by omega) hz; omega
      · intro h; exact Int.mul_pos (by omega) h
    rw [key]
    have key2 : ∀ z : Int, (0 < n * n * z ↔ 0 < z) := fun z => by
      constructor
      · intro h; refine Int.not_le.1 fun hz => ?_
        have := Int.mul_nonpos_of_nonneg_of_nonpos (show 0 ≤ n * n by omega) hz; omega
      · intro h; exact Int.mul_pos nn h
    rcases hc with rfl | rfl | rfl | rfl
    · have e : (((0 : Nat) : Int) * n + (n - 1) + 1) % (4 * n) = ((1 : Nat) : Int) * n := by rw [Int.emod_eq_of_lt (by omega) (by omega)]; omega
      rw [e, hd 1 (by omega)]
      have := key2 Y
      have c : Y * (n * n) = n * n * Y := Int.mul_comm _ _
      simp [quarter, rotN]; omega
    · have e : (((1 : Nat) : Int) * n + (n - 1) + 1) % (4 * n) = ((2 : Nat) : Int) * n := by rw [Int.emod_eq_of_lt (by omega) (by omega)]; omega
      rw [e, hd 2 (by omega)]
      have := key2 X
      have c : X * (n * n) = n * n * X := Int.mul_comm _ _
      have c2 : X * -(n * n) = -(X * (n * n)) := Int.mul_neg _ _
      simp [quarter, rotN]; omega
    · have e : (((2 : Nat) : Int) * n + (n - 1) + 1) % (4 * n) = ((3 : Nat) : Int) * n := by rw [Int.emod_eq_of_lt (by omega) (by omega)]; omega
      rw [e, hd 3 (by omega)]
      have := key2 (-Y)
      have c : Y * (n * n) = n * n * Y := Int.mul_comm _ _
      have c2 : Y * -(n * n) = -(Y * (n * n)) := Int.mul_neg _ _
      have c3 : n * n * -Y = -(n * n * Y) := Int.mul_neg _ _
      simp [quarter, rotN]; omega
    · have e : (((3 : Nat) : Int) * n + (n - 1) + 1) % (4 * n) = ((0 : Nat) : Int) * n := by
        have : ((3 : Nat) : Int) * n + (n - 1) + 1 = 4 * n := by omega
        rw [this, Int.emod_self]; simp
      rw [e, hd 0 (by omega)]
      have := key2 (-X)
      have c : X * (n * n) = n * n * X := Int.mul_comm _ _
      have c3 : n * n * -X = -(n * n * X) := Int.mul_neg _ _
      simp [quarter, rotN]; omega
theorem sector_turn {n : Int} {q : Nat} {k : Int} (hn : 1 ≤ n) (hk : 0 ≤ k) (hkn : k < n) (hq : q ≤ 3) (X Y : Int) :
    sectorB n ((q : Int) * n + k) X Y = (aheadB n k (rotN X Y q).1 (rotN X Y q).2 && !aheadB n (k + 1) (rotN X Y q).1 (rotN X Y q).2) := by
  unfold sectorB
  rw [dir_turn hn hk hkn hq X Y]
  have h2 := next_turn hn hk hkn hq X Y
  rw [Bool.eq_iff_iff]
  simp only [Bool.and_eq_true, Bool.not_eq_true', decide_eq_true_eq]
  have h3 : aheadB n k (rotN X Y q).1 (rotN X Y q).2 = true ↔ 0 ≤ dQ n k * (rotN X Y q).1 - dP n k * (rotN X Y q).2 := by
    unfold aheadB; rw [decide_eq_true_eq]; omega
  rw [h2, h3]
end Go.Proofs.YtepgpihobmjbdaaGreat
