/-
  radomeref05.restore and Restore: the contracts.
-/
import Derived.Test.YtepgpihobmjbdaaGreatRrPdo
import Derived.Test.YtepgpihobmjbdaaGreatRrGauge
import Derived.Test.YtepgpihobmjbdaaGreatBeam2Math
import Derived.Deep.Cut
set_option linter.unusedSimpArgs false
set_option linter.unusedVariables false
namespace Go.Proofs.YtepgpihobmjbdaaGreat
open Go.RowKit
theorem getD_all {l : List (Int × Int)} (h : l.all okM = true) {j : Nat} (hj : j < l.length) : okM (l.getD j (0, 0)) = true := by
 rw [List.all_eq_true] at h
 have := h l[j] (List.getElem_mem hj)
 simpa [List.getD, hj] using this
theorem div_ge1 {a b : Int} (ha : 0 ≤ a) (hb : 1 ≤ b) : 0 ≤ a / b ∧ a / b ≤ a := ⟨Int.ediv_nonneg ha (by omega), Int.ediv_le_self b ha⟩
set_option maxHeartbeats 2000000 in
set_option maxRecDepth 100000 in
theorem restore_any (A : Option Addr) (n c : Nat) (l : List (Int × Int)) (A' : Option Addr) (n' c' : Nat) (ms : List (Int × Int)) (w : World) (hn : l.length = n) (hn' : ms.length = n') (hmax' : n' ≤ 200) (hT : Tab l 32768) (hok : ms.all okM = true)
  (hl : Ints w w.heap.size .i64 A (flat2 l)) (hl' : Ints w w.heap.size .i64 A' (flat2 ms)) :
  Calls Tryz.prog 23 #[.slice A n c, .slice A' n' c'] w fun e w' => ∃ v, e = .returned v ∧ w'.ownsRow w.heap.size 24 2 v ms.length (spanCells (restGo l whole ms)) ∧ Below w.heap.size w w' := by
 obtain ⟨i0, hi, hz0, hz1, hz2⟩ := info_parts spanInfo
 have HT := hide hT
 have Hl := hide hl
 have Hl' := hide hl'
 have Hn := hide hn
 have Hn' := hide hn'
 have Hi := hide hi
 have Hz0 := hide hz0
 have Hz1 := hide hz1
 have Hz2 := hide hz2
 have Hok := hide hok
 clear hT hl hl' hn hn' hi hz0 hz1 hz2 hok
 go_enter Tryz.func23, Tryz.ntmps23
 go_wp2_with fail
 go_loopw [6, 7] (fun o i wr => ∃ (k : Nat) (t : Int × Int) (dn : List (Int × Int)), k ≤ n' ∧ i = .int .i64 k ∧ wr.ownsRow (w.heap.size + 1) 24 2 o k (spanCells dn) ∧ Below w.heap.size w wr ∧
   Blk wr w.heap.size 24 #[.int .i64 t.1, .int .i64 t.2] ∧ Psg1 t ∧ dn.length = k ∧ restGo l whole ms = dn ++ restGo l t (ms.drop k))
  (fun _ i _ => n' - (intOf i).toNat)
 case atStart => exact ⟨0, whole, [], by omega, rfl, World.ownsRow_nil _ _ _ _, (Below.refl _ _).alloc (Nat.le_refl _) _, Blk.new _ _ _, whole_psg1, rfl, rfl⟩
 case round =>
  obtain ⟨k, t, dn, hk, rfl, hown, hbw, hg, ht, hdn, hgo⟩ := hrel
  have hsw := hg.lt
  have Hown := hide hown
  have HB := hide hbw
  have Hg := hide hg
  have Hgo := hide hgo
  have Ht := hide ht
  have Hdn := hide hdn
  clear hown hbw hg hgo ht hdn
  by_cases hlt : k < n'
  ·
   obtain ⟨b', off', rfl, hb', hc'⟩ := Hl'.out.pt (by have := Hn'.out; omega)
   have hpp := hc' k (by have := Hn'.out; omega)
   have hgd := restGo_drop l t ms k (by have := Hn'.out; omega)
   have hm := getD_all Hok.out (j := k) (by have := Hn'.out; omega)
   generalize ms.getD k (0, 0) = m at *
   obtain ⟨m1, m2⟩ := m
   simp only at hpp
   obtain ⟨q1, q2, hq⟩ : ∃ a b, restOne t (m1, m2) = (a, b) := ⟨_, _, rfl⟩
   have hbd := restOne_bd Ht.out hm
   rw [hq] at hgd hbd
   simp only at hbd
   obtain ⟨qa, qb, qc, qd⟩ := hbd
   obtain ⟨hm1, hm2, hm3⟩ := okM_iff hm
   simp only at hm1 hm2 hm3
   have Hgd := hide hgd
   have Hpp := hide hpp
   have htt := Ht.out
   obtain ⟨t1, t2⟩ := t
   obtain ⟨⟨ta, tb, tc, td⟩, te⟩ := htt
   simp only at ta tb tc td te Hg
   obtain ⟨u, hu, hu0, hu1, hdn2⟩ : ∃ u, m1 * 1073741824 / t2 = u ∧ 0 ≤ u ∧ u ≤ m1 * 1073741824 ∧ ∀ W, Calls Tryz.prog 26 #[.int .i64 (m1 * 1073741824), .int .i64 t2] W fun e w' => e = .returned (.int .i64 u) ∧ W = w' :=
    ⟨_, rfl, (div_ge1 (by omega) te).1, (div_ge1 (by omega) te).2, fun W => Down_any _ _ _ (by omega) (by omega) (by omega) (by omega)⟩
   have elo : (if u < 1073741824 then u else 1073741824) = q1 := by
    have : (restOne (t1, t2) (m1, m2)).1 = min 1073741824 u := by simp only [restOne, hu]
    rw [hq] at this
    exact ((min_if 1073741824 u).symm.trans this.symm)
   clear hu hgd hpp hm hc'
   obtain ⟨p0, p1⟩ := Hpp.out
   rw [← HB.out.cell hb'] at p0 p1
   have hbr : b' < wr.heap.size := by have := HB.out.size; omega
   go_wp2_with fail
   obtain ⟨g0, g1⟩ := Hg.out.c2
   have ltg := Hg.out.lt
   apply wp_region_L (w0 := wr) [[], [], [], [], [], [], [], [], [], [], [], [], [11]] [true, true, true, true, true, true, true, true, true, true, true, false, false] [⟨11, none, [], []⟩, ⟨12, some 11, [11], [11]⟩] (fun ixq y => match ixq with | 11 => .pointer (y 0).1 | 12 => undef | _ => undef) (fun ixq x F wq => match ixq with | 11 => PtrF wq F wr.heap.size (x 11 0).1 24 #[.int .i64 0, .int .i64 0] | 12 => PtrF wq F wr.heap.size (x 11 0).1 24 #[.int .i64 q1, .int .i64 1073741824] | _ => True) (fun a x => ((a).put (some 8) (.pointer ((x 11) 0).1)).put (none) (undef)) (by kernel_rfl) (by kernel_rfl) (fun _ => rfl) [24] (by kernel_rfl)
   ·
    intro x D hD
    have hne := hD.some
    have k0 := liftB hD p0 (by first | assumption | omega)
    have k1 := liftB hD g1 (by first | assumption | omega)
    simp only [takeOps, Act.put, List.setIfInBounds_toArray, List.set_cons_succ, List.set_cons_zero]
    repeat (go_big_quiet_step ((go_at_call 26; exact calls_same _ (hdn2 _))))
    exact wpQuiet_nil rfl
   ·
    intro d hd x x'
    simp only [List.mem_cons, List.not_mem_nil, or_false] at hd
    rcases hd with rfl
    all_goals rfl
   ·
    refine ⟨?_, ?_, trivial⟩
    · exact obl_alloc 24 8 (.agg #[.int .i64 0, .int .i64 0]) (by kernel_rfl) (by kernel_rfl) (fun _ => rfl) (fun _ _ _ h => h)
    · refine obl_store 24 8 26 11 #[.int .i64 0, .int .i64 0] (fun x => #[.int .i64 q1, .int .i64 1073741824]) (by kernel_rfl) rfl (by simp) (fun _ _ _ h => h) (fun _ => rfl) (fun _ => rfl) (fun _ => by kernel_rfl) (fun _ => rfl) (fun _ => by simp [Value.oneCell']) (fun _ => rfl) (by decide) (fun _ _ _ _ h => h)
   ·
    refine ⟨?_, ?_, trivial⟩
    · exact owe_ptr 11 _ _ (fun x => #[.int .i64 0, .int .i64 0]) (fun _ _ _ => rfl) (by simp) (fun _ _ _ => rfl)
    · exact owe_ptr 11 _ _ (fun x => #[.int .i64 q1, .int .i64 1073741824]) (fun _ _ _ => rfl) (by simp) (fun _ _ _ => rfl)
   intro xx w2 F hL hlv1
   obtain ⟨-, fct12, -⟩ := hlv1
   replace fct12 : PtrF w2 (F 12) wr.heap.size (xx 11 0).1 24 #[.int .i64 q1, .int .i64 1073741824] := fct12 rfl
   obtain ⟨g8, hgx, hge, -, hbg⟩ := fct12
   rw [hgx]
   have ne8 : Hid (True) := trivial
   clear ne8
   have hne8 := own_high_ne Hown.out hge
   clear hgx p0 p1 elo hdn2
   replace Hg := hide (blk_later Hg.out hL)
   replace Hown := hide (own_later Hown.out hL)
   replace HB := hide (onward HB.out hL)
   clear hL g0 g1 ltg
   have Hz8 := hide hbg
   clear hbg
   have neHz8 := hne8
   clear hne8
   have hbr2 : b' < w2.heap.size := by have := HB.out.size; omega
   by_cases c3 : 1048576 ≤ t1
   ·
    obtain ⟨v, hv, hv0, hv1, hup⟩ : ∃ v, cdiv (m2 * 1073741824) t1 = v ∧ 0 ≤ v ∧ v ≤ m2 * 1073741824 ∧ ∀ W, Calls Tryz.prog 27 #[.int .i64 (m2 * 1073741824), .int .i64 t1] W fun e w' => e = .returned (.int .i64 v) ∧ W = w' :=
     ⟨_, rfl, (cdiv_bd (C := m2 * 1073741824) (by omega) (by omega) (by have := Int.mul_le_mul_of_nonneg_left (show 1 ≤ t1 by omega) (show 0 ≤ m2 * 1073741824 by omega); omega)).1, (cdiv_bd (C := m2 * 1073741824) (by omega) (by omega) (by have := Int.mul_le_mul_of_nonneg_left (show 1 ≤ t1 by omega) (show 0 ≤ m2 * 1073741824 by omega); omega)).2, fun W => Up_any _ _ _ (by omega) (by omega) (by omega) (by omega)⟩
    have ehi : (if v < 1073741824 then v else 1073741824) = q2 := by
     have : (restOne (t1, t2) (m1, m2)).2 = min 1073741824 v := by simp only [restOne, if_pos c3, hv]
     rw [hq] at this
     exact ((min_if 1073741824 v).symm.trans this.symm)
    clear hv hq
    obtain ⟨p0, p1⟩ := Hpp.out
    rw [← HB.out.cell hb'] at p0 p1
    obtain ⟨g0, g1⟩ := Hg.out.c2
    have ltg := Hg.out.lt
    obtain ⟨z0, z1⟩ := Hz8.out.c2
    have ltz := Hz8.out.lt
    have hg8 : w.heap.size + 1 ≤ g8 := by omega
    go_wp2_with fail
    apply wp_region_F (w0 := w2) [[], [], [0, 1], [0, 1, 2], [0, 1, 2, 3], [0, 1, 2, 3, 4], [], [6], [0, 1, 2, 3, 4, 5, 6, 7], [0, 1, 2, 3, 4, 5, 6, 7, 8], [0, 1, 2, 3, 4, 5, 6, 7, 8, 9], [0, 1, 2, 3, 4, 5, 6, 7, 8, 9, 10]] [true, true, true, true, true, true, true, true, true, true, true, false] [false, false, false, false, false, false, false, false, false, false, false, false] [⟨11, none, [], []⟩] [(11, g8)] [11] (fun ixq y => match ixq with | 11 => undef | _ => undef) (fun ixq x F wq => match ixq with | 11 => F g8 ∧ Blk wq g8 24 #[.int .i64 q1, .int .i64 q2] | _ => True) (fun a x => (a).put (none) (undef)) (by kernel_rfl) (by kernel_rfl) (by kernel_rfl) (fun _ => rfl) [38] (by kernel_rfl) (fills_lt1 (by omega)) fills_ne1
    ·
     intro x D hD
     have hne := hD.some
     have k0 := liftS hD p1 (by exact early_all (by first | assumption | omega) (by rfl))
     have k1 := liftS hD g0 (by exact early_all (by first | assumption | omega) (by rfl))
     simp only [takeOps, Act.put, List.setIfInBounds_toArray, List.set_cons_succ, List.set_cons_zero]
     repeat (go_big_quiet_step ((go_at_call 27; exact calls_same _ (hup _))))
     exact wpQuiet_nil rfl
    · exact fun x D hD => wpQuiet_nil rfl
    ·
     intro d hd x x'
     simp only [List.mem_cons, List.not_mem_nil, or_false] at hd
     rcases hd with rfl
     all_goals rfl
    ·
     refine ⟨?_, trivial⟩
     · exact obl_set 3 24 40 39 g8 1 _ (q2) #[.int .i64 q1, .int .i64 q2] (by kernel_rfl) (fun _ => rfl) (fun _ => rfl) Hz8.out eb_fill1 (by simp [wrF]) (by kernel_rfl) (by simp) (by simp) (fun _ => rfl) (fun _ _ _ _ h1 h2 => ⟨h1, h2⟩)
    ·
     refine ⟨?_, trivial⟩
     · exact owe_fill g8 24 (fun x => #[.int .i64 q1, .int .i64 q2]) (fun _ _ _ => rfl) (fun _ _ _ => rfl)
    intro xx2 w3 F hK hlv2
    obtain ⟨fct11, -⟩ := hlv2
    replace fct11 : (F 11) g8 ∧ Blk w3 g8 24 #[.int .i64 q1, .int .i64 q2] := fct11 rfl
    clear p0 p1 ehi hup
    have hgr := grown_kept hK
    have HB3 := below_grown HB.out hgr HB.out.size (fun q hq => by simp at hq; omega)
    have Hg3 := blk_grown Hg.out hgr (by simp; omega)
    have Hown3 := own_grown Hown.out hgr neHz8
    replace HB := hide HB3
    replace Hg := hide Hg3
    replace Hown := hide Hown3
    replace Hz8 := hide fct11.2
    clear hgr hK fct11 HB3 Hg3 Hown3
    clear g0 g1 ltg z0 z1 ltz
    have hsw : w.heap.size + 1 ≤ w3.heap.size := Hg.out.lt
    obtain ⟨z0, z1⟩ := Hz8.out.c2
    have ltz := Hz8.out.lt
    go_wp2_with (at_builtin; refine wpList_append_own _ rfl (.tmp 41) (.tmp 43) _ rfl (w.heap.size + 1) 24 i0 _ 2 16 Tryz.underlying34 Hi.out Hz0.out Hz1.out Hz2.out rfl (by decide) _ k _ rfl (Hown.out.alloc _) ⟨w3.heap.size, 0, none⟩ 1 1 [.int .i64 q1, .int .i64 q2] rfl rfl ?q1c1 ?q1c2 ?q1c3 ?q1c4 ?q1c5 ?_)
    try case q1c1 => exact new_cells w3 _ [.int .i64 q1, .int .i64 q2]
    case q1c2 => intro u hu; simp at hu; rcases hu with rfl | rfl <;> rfl
    case q1c3 => unfold maxLen; omega
    case q1c4 => omega
    case q1c5 => simp; omega
    intro v' w5 hown2 hgr2 _
    replace HB := hide (below_grown (HB.out.alloc HB.out.size (.cells #[.int .i64 q1, .int .i64 q2] 24)) hgr2 (by simp; omega) fun k hk => Nat.le_trans (by first | exact Nat.le_refl _ | omega) (Hown.out.lt k hk).1)
    replace Hg := hide (blk_grown (Hg.out.alloc _) hgr2 (own_low_ne Hown.out (by omega)))
    replace Hz8 := hide (blk_grown (Hz8.out.alloc _) hgr2 neHz8)
    replace Hown := hide hown2
    clear hown2 hgr2 z0 z1 ltz
    obtain ⟨z0, z1⟩ := Hz8.out.c2
    have ltz := Hz8.out.lt
    obtain ⟨g0, g1⟩ := Hg.out.c2
    have ltg := Hg.out.lt
    go_wp2_with fail
    refine (next_any A n c l (t1, t2) (q1, q2) _ Hn.out HT.out Ht.out.toPsg ⟨by omega, by omega⟩ ⟨by omega, by omega⟩ ((Hl.out.below HB.out).more HB.out.size)).mono ?_
    rintro e w6 ⟨rfl, hb⟩
    replace Hg := hide (blk_later Hg.out hb)
    replace Hz8 := hide (blk_later Hz8.out hb)
    replace Hown := hide (own_later Hown.out hb)
    replace HB := hide (onward HB.out hb)
    clear hb z0 z1 ltz g0 g1 ltg
    have f0 := Hg.out.frozen 0
    have f1 := Hg.out.frozen 1
    obtain ⟨g0, g1⟩ := Hg.out.c2
    have ltg := Hg.out.lt
    have hnx := nextT_psg1 HT.out Ht.out (z := (q1, q2)) (by simp only; omega) (by simp only; omega)
    have Hnx := hide hnx
    clear hnx
    go_wp2
    go_roundw
    case rel =>
     refine ⟨k + 1, nextT l (t1, t2) (q1, q2), dn ++ [(q1, q2)], by omega, by go_num, ?_, ?_, blk_eq2 ((Hg.out.set_ 0 _).set_ 1 _) (by simp), Hnx.out, by simp [Hdn.out], ?_⟩
     ·
      have := Hown.out
      have e2 := spanCells_snoc dn q1 q2
      rw [show [Value.int .i64 q1, .int .i64 q2] = #[Value.int .i64 q1, .int .i64 q2].toList from rfl, e2] at this
      have h2 := own_grown this (grown_setCell _ w.heap.size 0 (.int .i64 (nextT l (t1, t2) (q1, q2)).1)) (own_low_ne this (by omega))
      exact own_grown h2 (grown_setCell _ w.heap.size 1 _) (own_low_ne h2 (by omega))
     · repeat (first | exact HB.out | (refine Below.setCell ?_ (by first | omega | (simp <;> omega)) _) | (refine Below.alloc ?_ (by first | omega | (simp <;> omega)) _) | (refine below_drewN ?_ _))
     · rw [Hgo.out, Hgd.out]; simp
    case measure => simp [intOf] <;> omega
   ·
    have hq2 : q2 = 1073741824 := by
     have : (restOne (t1, t2) (m1, m2)).2 = 1073741824 := by simp only [restOne, if_neg c3]
     rw [hq] at this
     exact this
    subst hq2
    clear hq
    have c4 : t1 < 1048576 := by omega
    clear c3
    obtain ⟨g0, g1⟩ := Hg.out.c2
    have ltg := Hg.out.lt
    go_upto_region 9 with fail
    have hsw : w.heap.size + 1 ≤ w2.heap.size := Hg.out.lt
    obtain ⟨z0, z1⟩ := Hz8.out.c2
    have ltz := Hz8.out.lt
    go_wp2_with (at_builtin; refine wpList_append_own _ rfl (.tmp 41) (.tmp 43) _ rfl (w.heap.size + 1) 24 i0 _ 2 16 Tryz.underlying34 Hi.out Hz0.out Hz1.out Hz2.out rfl (by decide) _ k _ rfl (Hown.out.alloc _) ⟨w2.heap.size, 0, none⟩ 1 1 [.int .i64 q1, .int .i64 1073741824] rfl rfl ?q2c1 ?q2c2 ?q2c3 ?q2c4 ?q2c5 ?_)
    try case q2c1 => exact new_cells w2 _ [.int .i64 q1, .int .i64 1073741824]
    case q2c2 => intro u hu; simp at hu; rcases hu with rfl | rfl <;> rfl
    case q2c3 => unfold maxLen; omega
    case q2c4 => omega
    case q2c5 => simp; omega
    intro v' w5 hown2 hgr2 _
    replace HB := hide (below_grown (HB.out.alloc HB.out.size (.cells #[.int .i64 q1, .int .i64 1073741824] 24)) hgr2 (by simp; omega) fun k hk => Nat.le_trans (by first | exact Nat.le_refl _ | omega) (Hown.out.lt k hk).1)
    replace Hg := hide (blk_grown (Hg.out.alloc _) hgr2 (own_low_ne Hown.out (by omega)))
    replace Hz8 := hide (blk_grown (Hz8.out.alloc _) hgr2 neHz8)
    replace Hown := hide hown2
    clear hown2 hgr2 g0 g1 ltg z0 z1 ltz
    obtain ⟨z0, z1⟩ := Hz8.out.c2
    have ltz := Hz8.out.lt
    obtain ⟨g0, g1⟩ := Hg.out.c2
    have ltg := Hg.out.lt
    go_wp2_with fail
    refine (next_any A n c l (t1, t2) (q1, 1073741824) _ Hn.out HT.out Ht.out.toPsg ⟨by omega, by omega⟩ ⟨by omega, by omega⟩ ((Hl.out.below HB.out).more HB.out.size)).mono ?_
    rintro e w6 ⟨rfl, hb⟩
    replace Hg := hide (blk_later Hg.out hb)
    replace Hz8 := hide (blk_later Hz8.out hb)
    replace Hown := hide (own_later Hown.out hb)
    replace HB := hide (onward HB.out hb)
    clear hb z0 z1 ltz g0 g1 ltg
    have f0 := Hg.out.frozen 0
    have f1 := Hg.out.frozen 1
    obtain ⟨g0, g1⟩ := Hg.out.c2
    have ltg := Hg.out.lt
    have hnx := nextT_psg1 HT.out Ht.out (z := (q1, 1073741824)) (by simp only; omega) (by simp only; omega)
    have Hnx := hide hnx
    clear hnx
    go_wp2
    go_roundw
    case rel =>
     refine ⟨k + 1, nextT l (t1, t2) (q1, 1073741824), dn ++ [(q1, 1073741824)], by omega, by go_num, ?_, ?_, blk_eq2 ((Hg.out.set_ 0 _).set_ 1 _) (by simp), Hnx.out, by simp [Hdn.out], ?_⟩
     ·
      have := Hown.out
      have e2 := spanCells_snoc dn q1 1073741824
      rw [show [Value.int .i64 q1, .int .i64 1073741824] = #[Value.int .i64 q1, .int .i64 1073741824].toList from rfl, e2] at this
      have h2 := own_grown this (grown_setCell _ w.heap.size 0 (.int .i64 (nextT l (t1, t2) (q1, 1073741824)).1)) (own_low_ne this (by omega))
      exact own_grown h2 (grown_setCell _ w.heap.size 1 _) (own_low_ne h2 (by omega))
     · repeat (first | exact HB.out | (refine Below.setCell ?_ (by first | omega | (simp <;> omega)) _) | (refine Below.alloc ?_ (by first | omega | (simp <;> omega)) _) | (refine below_drewN ?_ _))
     · rw [Hgo.out, Hgd.out]; simp
    case measure => simp [intOf] <;> omega
  ·
   obtain rfl : k = n' := by omega
   have hgo := Hgo.out
   rw [List.drop_eq_nil_of_le (by have := Hn'.out; omega), restGo, List.append_nil] at hgo
   have Hgo2 := hide hgo
   clear hgo
   go_wp2
   go_ret
   exact ⟨_, rfl, by rw [Hgo2.out, Hn'.out]; exact own_mono Hown.out (by omega), HB.out⟩
end Go.Proofs.YtepgpihobmjbdaaGreat
