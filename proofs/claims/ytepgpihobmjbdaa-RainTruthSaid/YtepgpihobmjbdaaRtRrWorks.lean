/-
  The passage of a ray: how it begins, and how it goes through a gate.
  rain.Pass: the contract, for every table and every list of powers.
  works: a table, losses and a gauge are there: it returns true.
-/
import Derived.Test.YtepgpihobmjbdaaRtRrGauge
import Derived.Test.YtepgpihobmjbdaaBeam2Math
import Derived.Test.YtepgpihobmjbdaaRegW
import Derived.Deep.RegionWith
import Derived.Test.YtepgpihobmjbdaaRtTable
set_option linter.unusedSimpArgs false
set_option linter.unusedVariables false
section
namespace Go.Proofs.Ytepgpihobmjbdaa
open Go.RowKit
theorem sizeSpan' : (Try.prog.info? 24).map (·.size) = some 2 := by kernel_rfl
def lossF (gl : Nat) : Value := .func (.func 54) #[] #[.pointer (some ⟨gl, 0, none⟩)]
theorem passing_any (A : Option Addr) (n c : Nat) (w : World) :
  Calls Try.prog 28 #[.slice A n c] w fun e w' => e = .returned (.pointer (some ⟨w.heap.size + 1, 0, none⟩)) ∧
   (w.alloc (.cells #[.slice A n c] 22)).alloc (.cells #[.int .i64 1073741824, .int .i64 1073741824, lossF w.heap.size] 81) = w' := by
 go_enter Try.func28, Try.ntmps28
 go_wp2_with (first | (go_at_call 40; refine (worth_any _ _ _ _).mono ?_; rintro e w' ⟨rfl, rfl⟩))
 go_ret
 exact ⟨rfl, rfl⟩
set_option maxHeartbeats 1000000 in
theorem through_any (A : Option Addr) (n c : Nat) (l : List (Int × Int)) (t z : Int × Int) (g gl : Nat) (w : World) (hn : l.length = n) (hT : Tab l 32768) (ht : Psg t) (hz1 : 0 ≤ z.1 ∧ z.1 ≤ 1073741824) (hz2 : 0 ≤ z.2 ∧ z.2 ≤ 1073741824) (hl : Ints w w.heap.size .i64 A (flat2 l))
  (hg : Blk w g 81 #[.int .i64 t.1, .int .i64 t.2, lossF gl]) (hgl : Blk w gl 22 #[.slice A n c]) :
  Calls Try.prog 32 #[.pointer (some ⟨g, 0, none⟩), .agg #[.int .i64 z.1, .int .i64 z.2]] w fun e w' =>
   e = .returned (.tuple #[]) ∧ w.grownBy w' (some g) ∧ Blk w' g 81 #[.int .i64 (nextT l t z).1, .int .i64 (nextT l t z).2, lossF gl] := by
 obtain ⟨z1, z2⟩ := z
 obtain ⟨t1, t2⟩ := t
 have HN := hide (nextT_psg hT ht hz1.1 hz2.1)
 obtain ⟨hz1a, hz1b⟩ := hz1
 obtain ⟨hz2a, hz2b⟩ := hz2
 have hv1 := val_bd hT hz1a
 have hv2 := val_bd hT hz2a
 have c := mul_bd (a := t1) (b := 65536 - (valGo z2 l).2) (A := 1073741824) (B := 65536) ht.lo ht.hi (by simp only at *; omega) (by simp only at *; omega)
 have d := mul_bd (a := t2) (b := 65536 - (valGo z1 l).1) (A := 1073741824) (B := 65536) ht.lo' ht.hi' (by simp only at *; omega) (by simp only at *; omega)
 have HT := hide hT
 have Hn := hide hn
 have Hl := hide hl
 have Hgl := hide hgl
 have e1 : nextT l (t1, t2) (z1, z2) = (t1 * (65536 - (valGo z2 l).2) / 65536, cdiv (t2 * (65536 - (valGo z1 l).1)) 65536) := rfl
 have E1 := hide e1
 clear e1
 have Hv2 := hide (end_up hT z2)
 have Hv1 := hide (end_down hT z1)
 simp only at hz1a hz1b hz2a hz2b hv1 hv2 hg
 clear ht hT hn hl hgl
 generalize (valGo z2 l).2 = v2 at *
 generalize (valGo z1 l).1 = v1 at *
 have hlt := hg.lt
 have hg' := hg.alloc (.cells #[.int .i64 z1, .int .i64 z2] 24)
 have hgl' := Hgl.out.alloc (.cells #[.int .i64 z1, .int .i64 z2] 24)
 have hbW : Below w.heap.size w (w.alloc (.cells #[.int .i64 z1, .int .i64 z2] 24)) := (Below.refl _ _).alloc (Nat.le_refl _) _
 have hl' := (Hl.out.below hbW).more hbW.size
 have hsW : w.heap.size < (w.alloc (.cells #[.int .i64 z1, .int .i64 z2] 24)).heap.size := by simp
 obtain ⟨g0, g1, g2⟩ := hg'.c3
 clear Hl Hgl hg
 have q1 := div_bd c.1 (by omega : (1 : Int) ≤ 65536) (C := 1073741824) (by omega)
 have q2 := cdiv_bd d.1 (by omega : (1 : Int) ≤ 65536) (C := 1073741824) (by omega)
 obtain ⟨c1, c2⟩ := c
 obtain ⟨d1, d2⟩ := d
 obtain ⟨hv1a, hv1b, hv1c⟩ := hv1
 obtain ⟨hv2a, hv2b, hv2c⟩ := hv2
 obtain ⟨q1a, q1b⟩ := q1
 obtain ⟨q2a, q2b⟩ := q2
 have hv1d : v1 ≤ 32768 := by omega
 have hv2d : 0 ≤ v2 := by omega
 clear hv1b hv1c hv2a hv2b
 have b0 := (Blk.new w 24 #[.int .i64 z1, .int .i64 z2]).c2
 obtain ⟨b1, b2⟩ := b0
 unfold lossF at *
 go_enter Try.func32, Try.ntmps32
 go_wp2_with fail
 generalize w.alloc (.cells #[.int .i64 z1, .int .i64 z2] 24) = W at *
 have Hg := hide hg'
 have Hgl := hide hgl'
 have Hl := hide hl'
 have HbW := hide hbW
 have hglt := hgl'.lt
 clear hg' hgl' hl' hbW
 refine wp_region_R (fun k => k < W.heap.size) 34 (by kernel_rfl) ?_
 apply anyR_peel (fuel := 1) 34 [true, true, true, true, true, true, true, true, true, true, true, true, true, true, true, true, true, true, true, true, true, true, true, true, true, true, true, true, true, true, true, true, true, true, false] #[true, true, true, true, true, true, true, true, true, true, true, true, true, true, true, true, true, true, true, true, true, true, true, true, true, true, true, true, true, true, true, true, true, true, false] (by kernel_rfl) rfl (fun j hj => decide_eq_true hj) (fun k hk => by first | exact hk | omega | (simp at hk ⊢; omega))
 ·
  intro D hD
  have hne := hD.some
  have k0 := liftB hD g0 (by omega)
  have k1 := liftB hD g1 (by omega)
  have k2 := liftB hD g2 (by omega)
  have k3 := liftB hD b1 (by omega)
  have k4 := liftB hD b2 (by omega)
  simp only [takeOps]
  repeat (go_big_quiet_step ((first | (go_at_call 30; exact calls_same _ (down_any _ _ _ (by omega) (by omega) (by omega) (by omega))) | (go_at_call 31; exact calls_same _ (up_any _ _ _ (by omega) (by omega) (by omega) (by omega))) | (go_at_call_of 54 (Value.int .i64 z2); exact calls_later hD _ (worth1_up A n c l 32768 z2 v2 gl _ Hn.out HT.out (by omega) hz2a hz2b ((Hl.out.below (kb hD _)).more (kb hD _).size) (Hgl.out.below (kb hD _) hglt) Hv2.out)) | (go_at_call_of 54 (Value.int .i64 z1); exact calls_later hD _ (worth1_down A n c l 32768 z1 v1 gl _ Hn.out HT.out (by omega) hz1a hz1b ((Hl.out.below (kb hD _)).more (kb hD _).size) (Hgl.out.below (kb hD _) hglt) Hv1.out)))))
  exact wpQuiet_nil rfl
 refine anyR_fill_at (f := 0) 34 _ 81 37 35 g 0 #[.int .i64 t1, .int .i64 t2, .func (.func 54) #[] #[.pointer (some ⟨gl, 0, none⟩)]] #[.int .i64 (t1 * (65536 - v2) / 65536), .int .i64 (cdiv (t2 * (65536 - v1)) 65536)]
  #[.int .i64 (t1 * (65536 - v2) / 65536), .int .i64 (cdiv (t2 * (65536 - v1)) 65536), .func (.func 54) #[] #[.pointer (some ⟨gl, 0, none⟩)]] (by kernel_rfl) rfl rfl rfl Hg.out sizeSpan' (by simp) (one2 _ _) (by simp) (by simp) ?_
 intro w2 hgr hbk
 have hgr2 := grown_later HbW.out hgr
 go_wp2
 go_end0
 exact ⟨rfl, hgr2, by rw [E1.out]; exact hbk⟩
end Go.Proofs.Ytepgpihobmjbdaa
end
section
namespace Go.Proofs.Ytepgpihobmjbdaa
open Go.RowKit
theorem spanInfo : (Try.prog.info? 24).map (fun i => (i.zero, i.size, i.bytes)) = some (some (.agg #[.int .i64 0, .int .i64 0]), 2, 16) := by kernel_rfl
def spanCells (l : List (Int × Int)) : List Value := (flat2 l).map (Value.int .i64)
theorem spanCells_snoc (l : List (Int × Int)) (a b : Int) : spanCells l ++ #[Value.int .i64 a, .int .i64 b].toList = spanCells (l ++ [(a, b)]) := by
 simp [spanCells, flat2_append, flat2]
def SpansPost (r : List (Int × Int) × Int) (w : World) (e : Ending) (w' : World) : Prop :=
 ∃ v, e = .returned (.tuple #[v, .int .i64 r.2]) ∧ w'.ownsRow w.heap.size 24 2 v r.1.length (spanCells r.1) ∧ Below w.heap.size w w'
theorem spans_nil {w w' : World} (k : Int) (hb : Below w.heap.size w w') : SpansPost ([], k) w (.returned (.tuple #[.slice none 0 0, .int .i64 k])) w' := ⟨_, rfl, World.ownsRow_nil _ _ _ _, hb⟩
set_option maxHeartbeats 2000000 in
set_option maxRecDepth 100000 in
theorem Pass_any (A : Option Addr) (n c : Nat) (l : List (Int × Int)) (A' : Option Addr) (n' c' : Nat) (pw : List Int) (w : World) (hn : l.length = n) (hmax : n ≤ 9223372036854775807) (hn' : pw.length = n') (hmax' : n' ≤ 9223372036854775807)
  (hl : Ints w w.heap.size .i64 A (flat2 l)) (hl' : Ints w w.heap.size .i64 A' pw) :
  Calls Try.prog 9 #[.slice A n c, .slice A' n' c'] w (SpansPost (passR l pw) w) := by
 have hchk := CheckTable_any A n c l 32768 w hn hmax hl
 by_cases h1 : chk l 32768 = 0
 ·
  rw [h1] at hchk
  by_cases h2 : (200 : Int) < n'
  ·
   have hR : passR l pw = ([], 9) := by simp [passR, h1, hn', show 200 < n' by omega]
   have HR := hide hR
   clear hR h1 hl hl' hn hn'
   go_enter Try.func9, Try.ntmps9
   go_wp2_with fail
   refine hchk.mono ?_
   rintro e w1 ⟨rfl, hb1⟩
   clear hchk
   go_wp2
   go_ret2
   rw [HR.out]
   exact spans_nil _ hb1
  ·
   have hT := tab_of h1
   have hR : passR l pw = if pw.all okP = true then (passGo l whole pw, 0) else ([], 3) := by simp [passR, h1, hn', show ¬ 200 < n' by omega]
   have HR := hide hR
   have HT := hide hT
   have Hl := hide hl
   have Hl' := hide hl'
   have Hn := hide hn
   have Hn' := hide hn'
   clear hR h1 hl hl' hn hn' hT
   obtain ⟨i0, hi, hz0, hz1, hz2⟩ := info_parts spanInfo
   have Hi := hide hi
   have Hz0 := hide hz0
   have Hz1 := hide hz1
   have Hz2 := hide hz2
   clear hi hz0 hz1 hz2
   go_enter Try.func9, Try.ntmps9
   go_wp2_with fail
   refine hchk.mono ?_
   rintro e w1 ⟨rfl, hb1⟩
   clear hchk
   go_wp2_with (go_at_call 28; refine (passing_any _ _ _ _).mono ?_; rintro e w' ⟨rfl, rfl⟩)
   go_loopw [8, 23] (fun o i wr => ∃ (k : Nat) (t : Int × Int) (dn : List (Int × Int)), k ≤ n' ∧ i = .int .i64 k ∧ wr.ownsRow w.heap.size 24 2 o k (spanCells dn) ∧ Below w.heap.size w wr ∧
     Blk wr (w1.heap.size + 1) 81 #[.int .i64 t.1, .int .i64 t.2, lossF w1.heap.size] ∧ Blk wr w1.heap.size 22 #[.slice A n c] ∧ Psg t ∧ dn.length = k ∧ passGo l whole pw = dn ++ passGo l t (pw.drop k) ∧ (∀ j, j < k → okP (pw.getD j 0) = true))
    (fun _ i _ => n' - (intOf i).toNat)
   case atStart =>
    have hs1 := hb1.size
    exact ⟨0, whole, [], by omega, rfl, World.ownsRow_nil _ _ _ _, (hb1.alloc hs1 _).alloc (by simp; omega) _, blk_new_at (by simp), (Blk.new _ _ _).alloc _, ⟨by decide, by decide, by decide, by decide⟩, rfl, rfl, fun j hj => by omega⟩
   case round =>
    obtain ⟨k, t, dn, hk, rfl, hown, hbw, hg, hgl, ht, hdn, hgo, hall⟩ := hrel
    have Hown := hide hown
    have Hbw := hide hbw
    have Hg := hide hg
    have Hgl := hide hgl
    have Ht := hide ht
    have Hgo := hide hgo
    have Hall := hide hall
    have hsw := hbw.size
    have hs1 := hb1.size
    have hglt := hg.lt
    obtain ⟨g0, g1, _⟩ := hg.c3
    clear hown hbw hg hgl hgo hall
    by_cases hlt : k < n'
    ·
     obtain ⟨b', off', rfl, hb', hc'⟩ := Hl'.out (by have := Hn'.out; omega)
     have hp := hc' k (by have := Hn'.out; omega)
     rw [← Hbw.out.cell hb'] at hp
     have hgd := passGo_drop l t pw k (by have := Hn'.out; omega)
     have hnn := fun h => not_all_ok (pw := pw) (j := k) (by have := Hn'.out; omega) h
     have hok1 : okP (pw.getD k 0) = true → ∀ j, j < k + 1 → okP (pw.getD j 0) = true := fun h j hj => by
      rcases Nat.lt_or_ge j k with h1 | h1
      · exact Hall.out j h1
      ·
       obtain rfl : j = k := by omega
       exact h
     have Hgd := hide hgd
     have Hnn := hide hnn
     have Hok1 := hide hok1
     clear hc' hgd hnn hok1
     generalize pw.getD k 0 = z at *
     by_cases hw : win z 0 1073741824 = true
     ·
      have hz := win_iff.1 hw
      obtain ⟨hz0, hz1⟩ := hz
      have hob := one_bd ht hz0 hz1
      obtain ⟨o1, o2, o3, o4⟩ := hob
      have hd1 := div_bd o1 (by omega : (1 : Int) ≤ 1073741824) (C := 1073741824) (by omega)
      have hd2 := cdiv_bd o3 (by omega : (1 : Int) ≤ 1073741824) (C := 1073741824) (by omega)
      clear hd1 hd2
      obtain ⟨t1, t2⟩ := t
      simp only at g0 g1 o1 o2 o3 o4
      clear ht
      go_wp2_with (go_at_call 29; refine (within_any _ _ _ _).mono ?_; rintro e w' ⟨rfl, rfl⟩)
      refine wp_region_R (fun k => k < wr.heap.size) 19 (by kernel_rfl) ?_
      apply anyR_peel (fuel := 3) 19 [true, true, true, true, true, true, true, true, true, true, true, true, true, true, true, true, true, true, false, false, false] #[true, true, true, true, true, true, true, true, true, true, true, true, true, true, true, true, true, true, false, false, false] (by kernel_rfl) rfl (fun j hj => decide_eq_true hj) (fun k hk => by first | exact hk | omega | (simp at hk ⊢; omega))
      ·
       intro D hD
       have hne := hD.some
       have k0 := liftB hD g0 (by omega)
       have k1 := liftB hD g1 (by omega)
       simp only [takeOps]
       repeat (go_big_quiet_step ((first | (go_at_call 30; exact calls_same _ (down_any _ _ _ (by omega) (by omega) (by omega) (by omega))) | (go_at_call 31; exact calls_same _ (up_any _ _ _ (by omega) (by omega) (by omega) (by omega))))))
       exact wpQuiet_nil rfl
      refine anyR_push (f := 0) 18 19 20 31 24 30 48 49 8 47 (by kernel_rfl) (by decide) rfl rfl rfl rfl rfl rfl rfl rfl rfl rfl rfl rfl rfl w.heap.size i0 _ 2 16 Try.underlying31 Hi.out Hz0.out Hz1.out Hz2.out rfl (by omega) #[.int .i64 (z * t1 / 1073741824), .int .i64 (cdiv (z * t2) 1073741824)] (fun _ => by kernel_rfl) rfl (one2 _ _) _ k (spanCells dn) rfl (by exact of_decide_eq_true rfl) (by exact of_decide_eq_true rfl) Hown.out (by unfold maxLen; omega) (by omega) hsw (fun h => by simp at h) (fun k hk => hk) ?_
      intro g v' w2 hown2 hgr2
      simp only [Act.put, List.setIfInBounds_toArray, List.set_cons_succ, List.set_cons_zero]
      have G2 := hide (blk_grown Hg.out hgr2 (own_ne Hown.out Hg.out (by decide)))
      have GL2 := hide (blk_grown Hgl.out hgr2 (own_ne Hown.out Hgl.out (by decide)))
      have B2 := hide (below_grown Hbw.out hgr2 hsw fun k hk => (Hown.out.lt k hk).1)
      have O2 := hide hown2
      have hs2 := hgr2.size
      clear hgr2 hown2 g0 g1 hp
      go_wp2_with fail
      refine (through_any A n c l (t1, t2) (z, z) (w1.heap.size + 1) w1.heap.size w2 Hn.out HT.out Ht.out ⟨hz0, hz1⟩ ⟨hz0, hz1⟩ ((Hl.out.below B2.out).more B2.out.size) G2.out GL2.out).mono ?_
      rintro e w3 ⟨rfl, hgr3, hbk3⟩
      have GL3 := hide (blk_grown GL2.out hgr3 (by simp))
      have B3 := hide (below_grown B2.out hgr3 B2.out.size (fun k hk => by simp at hk; omega))
      have O3 := hide (own_grown O2.out hgr3 (own_ne O2.out G2.out (by decide)))
      have G3 := hide hbk3
      clear hgr3 hbk3
      go_wp2
      go_roundw
      case rel =>
       refine ⟨k + 1, nextT l (t1, t2) (z, z), dn ++ [passOne (t1, t2) z], by omega, by go_num, ?_, B3.out, G3.out, GL3.out, nextT_psg HT.out Ht.out hz0 hz0, by simp [hdn], ?_, Hok1.out hw⟩
       · have := O3.out; rw [spanCells_snoc] at this; exact this
       · rw [Hgo.out, Hgd.out]; simp
      case measure => simp [intOf]; omega
     ·
      have hw3 : win z 0 1073741824 = false := by simpa using hw
      have hno := Hnn.out hw3
      have HR2 := hide (HR.out.trans (if_neg (by rw [hno]; simp)))
      clear hw hno
      go_wp2_with (go_at_call 29; refine (within_any _ _ _ _).mono ?_; rintro e w' ⟨rfl, rfl⟩)
      go_ret2
      rw [HR2.out]
      exact spans_nil _ Hbw.out
    ·
     obtain rfl : k = n' := by omega
     have hal := all_ok (pw := pw) (fun j hj => Hall.out j (by have := Hn'.out; omega))
     have HR2 := hide (HR.out.trans (if_pos hal))
     have hgo := Hgo.out
     rw [List.drop_eq_nil_of_le (by have := Hn'.out; omega), passGo, List.append_nil] at hgo
     have Hgo2 := hide hgo
     clear hal hgo
     go_wp2
     go_ret2
     rw [HR2.out]
     exact ⟨_, rfl, by rw [Hgo2.out, hdn]; exact Hown.out, Hbw.out⟩
 ·
  have hR : passR l pw = ([], chk l 32768) := by simp [passR, h1]
  have HR := hide hR
  have h3 : (chk l 32768 != 0) = true := by simpa [bne] using h1
  clear hR h1 hl hl' hn hn'
  generalize chk l 32768 = ck at *
  go_enter Try.func9, Try.ntmps9
  go_wp2_with fail
  refine hchk.mono ?_
  rintro e w1 ⟨rfl, hb1⟩
  clear hchk
  go_wp2
  go_ret2
  rw [HR.out]
  exact spans_nil _ hb1
end Go.Proofs.Ytepgpihobmjbdaa
end
section
namespace Go.Proofs.Ytepgpihobmjbdaa
open Go.RowKit
def tabT : List (Int × Int) := [(0, 0), (100, 10), (200, 110)]
def tabL : List (Int × Int) := [(0, 0), (1000, 32768)]
theorem valueT : valueR tabT 50 = ((5, 5), 0) := by decide +kernel
theorem passL : passR tabL [1000, 1000, 500] = ([(1000, 1000), (500, 500), (125, 125)], 0) := by decide +kernel
theorem fell3 : fellR 3 200 = ((401, 799), 0) := by decide +kernel
theorem ints_new {w : World} {g : Nat} {t : TypeId} {cs : Array Value} {zs : List Int} (hb : Blk w g t cs) (h : cs.toList = zs.map (Value.int .i64)) : Ints w (g + 1) .i64 (some ⟨g, 0, none⟩) zs := fun _ => by
 refine ⟨g, 0, rfl, by omega, fun j hj => ?_⟩
 rw [Nat.zero_add, hb.cell j, ← Array.getElem?_toList, h]
 simp [List.getD, hj]
set_option maxHeartbeats 2000000 in
set_option maxRecDepth 100000 in
theorem works_any (w : World) : Calls Try.prog 6 #[] w fun e w' => e = .returned (.bool true) ∧ Below w.heap.size w w' := by
 go_enter Try.func6, Try.ntmps6
 go_wp2_with fail
 refine (T_any _).mono ?_
 rintro e w1 ⟨rfl, rfl⟩
 go_wp2_with fail
 refine (Value_any _ 3 3 tabT 50 _ rfl (by decide) ((ints_new (zs := flat2 tabT) (Blk.new w 94 _) rfl).more (by simp))).mono ?_
 rintro e w2 ⟨rfl, hb2⟩
 rw [valueT]
 have B2 : Below w.heap.size w w2 := ((Below.refl _ _).alloc (Nat.le_refl _) _).trans (hb2.mono (by simp))
 unfold spanE
 clear hb2
 go_wp2_with fail
 refine (L_any _).mono ?_
 rintro e w3 ⟨rfl, rfl⟩
 go_wp2_with fail
 refine at_world fun W hW => ?_
 have bS : Blk W w2.heap.size 24 #[.int .i64 5, .int .i64 5] := by rw [hW]; exact ((Blk.new _ _ _).alloc _).alloc _
 have bL : Blk W (w2.heap.size + 1) 94 #[.int .i64 0, .int .i64 0, .int .i64 1000, .int .i64 32768] := by rw [hW]; exact (blk_new_at (by simp)).alloc _
 have bP : Blk W (w2.heap.size + 1 + 1) 3 #[.int .i64 1000, .int .i64 1000, .int .i64 500] := by rw [hW]; exact blk_new_at (by simp)
 have hsz : W.heap.size = w2.heap.size + 3 := by rw [hW]; simp
 have BW : Below w.heap.size w W := by
  have := B2.size
  rw [hW]; exact ((B2.alloc this _).alloc (by simp; omega) _).alloc (by simp; omega) _
 clear hW B2
 refine (Pass_any _ 2 2 tabL _ 3 3 [1000, 1000, 500] W rfl (by decide) rfl (by decide) ((ints_new (zs := flat2 tabL) bL rfl).more (by omega)) ((ints_new (zs := [1000, 1000, 500]) bP rfl).more (by omega))).mono ?_
 rintro e w4 ⟨v, rfl, hown, hb4⟩
 rw [passL] at hown
 rw [passL]
 simp only at hown
 obtain ⟨gv, cv, rfl⟩ := own_form hown (by decide)
 have BS4 := bS.below hb4 bS.lt
 have B4 := onward BW hb4
 have HO := hide hown
 have HBS := hide BS4
 have HB := hide B4
 clear bS bL bP BW hown BS4 hb4 hsz B4
 go_wp2_with fail
 refine (Fell_any 3 200 _).mono ?_
 rintro e w5 ⟨rfl, hb5⟩
 rw [fell3]
 have HO5 := hide (own_later HO.out hb5)
 have HBS5 := hide (HBS.out.below hb5 HBS.out.lt)
 have HB5 := hide (onward HB.out hb5)
 unfold spanE
 clear HO HBS HB hb5
 go_wp2_with fail
 refine code_world fun W5 hW5 => ?_
 have b1 : Blk W5 w2.heap.size 24 #[.int .i64 5, .int .i64 5] := by rw [hW5]; exact HBS5.out.alloc _
 have b2 : Blk W5 w5.heap.size 24 #[.int .i64 401, .int .i64 799] := by rw [hW5]; exact Blk.new _ _ _
 have o5 := HO5.out.alloc (.cells #[.int .i64 401, .int .i64 799] 24)
 rw [← hW5] at o5
 have hB5 : Below w.heap.size w W5 := by rw [hW5]; exact HB5.out.alloc HB5.out.size _
 have hi5 : Ints W5 W5.heap.size .i64 (some ⟨gv, 0, none⟩) (flat2 [(1000, 1000), (500, 500), (125, 125)]) := Ints.own o5 rfl (Nat.le_refl _)
 have HB := hide hB5
 have HI := hide hi5
 have HB2 := hide b2
 have l1 := b1.lt
 have l2 := b2.lt
 obtain ⟨c0, c1⟩ := b1.c2
 obtain ⟨d0, d1⟩ := b2.c2
 clear b1 b2 o5 hB5 hi5 hW5 HO5 HBS5 HB5
 refine wp_region_R (fun k => k < W5.heap.size) 29 (by kernel_rfl) ?_
 apply anyR_peel (fuel := 17) 29 [true, true, true, true, true, true, true, true, true, true, true, true, false, false, false, false, false, false, false, false, false, false, false, false, false, false, false, false, false] #[true, true, true, true, true, true, true, true, true, true, true, true, false, false, false, false, false, false, false, false, false, false, false, false, false, false, false, false, false] (by kernel_rfl) rfl (fun j hj => decide_eq_true hj) (fun k hk => by first | exact hk | omega | (simp at hk ⊢; omega))
 ·
  intro D hD
  have hne := hD.some
  have k0 := liftB hD c0 (by omega)
  have k1 := liftB hD c1 (by omega)
  simp only [takeOps]
  repeat (go_big_quiet_step ((go_at_call 22; exact calls_later hD _ (point_any _ _))))
  exact wpQuiet_nil rfl
 refine anyR_new (f := 16) 12 #[true, true, true, true, true, true, true, true, true, true, true, true, true, false, false, false, false, false, false, false, false, false, false, false, false, false, false, false, false] (by kernel_rfl) (by kernel_rfl) rfl rfl rfl rfl 24 #[.int .i64 1000, .int .i64 1000, .int .i64 500, .int .i64 500, .int .i64 125, .int .i64 125] (fun b => .slice (some ⟨b, 0, none⟩) 3 3) (fun _ => by kernel_rfl) (fun k hk => hk) ?_
 intro w6 hl6
 simp only [Act.put, List.setIfInBounds_toArray, List.set_cons_succ, List.set_cons_zero]
 have hi6 : Ints w6 w6.heap.size .i64 (some ⟨gv, 0, none⟩) (flat2 [(1000, 1000), (500, 500), (125, 125)]) := (HI.out.below hl6).more hl6.size
 refine anyR_call (f := 15) 13 #[true, true, true, true, true, true, true, true, true, true, true, true, true, true, false, false, false, false, false, false, false, false, false, false, false, false, false, false, false] (by kernel_rfl) (by kernel_rfl) rfl rfl rfl rfl 23 #[.slice (some ⟨gv, 0, none⟩) 3 cv, .slice (some ⟨w6.heap.size, 0, none⟩) 3 3] (fun _ => by kernel_rfl) (fun k hk => Nat.lt_of_lt_of_le hk (by have := hl6.size; simp; omega)) (fun v _ _ => v = .bool true)
  (fun w7 hl7 => (same_any _ 3 cv [(1000, 1000), (500, 500), (125, 125)] _ 3 3 [(1000, 1000), (500, 500), (125, 125)] w7 rfl (by decide) rfl (by decide) ?_ ?_).mono fun e w8 ⟨he, hb⟩ => ⟨_, he, hb, by simp⟩) ?_
 · exact (hi6.below (((Below.refl _ _).alloc (Nat.le_refl _) _).trans (Below.mono hl7 (by simp)))).more (by have := hl7.size; simp at this; omega)
 · exact (ints_new (zs := flat2 [(1000, 1000), (500, 500), (125, 125)]) ((Blk.new w6 _ _).below hl7 (by simp)) rfl).more (by have := hl7.size; simp at this; omega)
 rintro v w7 w8 hl7 hl8 rfl
 simp only [Act.put, List.setIfInBounds_toArray, List.set_cons_succ, List.set_cons_zero]
 have b8 := (((HB2.out.below hl6 HB2.out.lt).alloc (.cells #[.int .i64 1000, .int .i64 1000, .int .i64 500, .int .i64 500, .int .i64 125, .int .i64 125] 24))).below hl8 (by have := hl6.size; simp; omega)
 obtain ⟨x0, x1⟩ := b8.c2
 have B8 : Below w.heap.size w w8 := (((onward HB.out hl6).alloc (by have := HB.out.size; have := hl6.size; omega) _)).trans (Below.mono hl8 (by have := HB.out.size; have := hl6.size; simp; omega))
 have HB8 := hide B8
 have hs8 := hl8.size
 simp only [World.size_alloc] at hs8
 have hs6 := hl6.size
 clear b8 B8 c0 c1 d0 d1 hi6 hl7
 refine anyR_sub (S' := fun k => k < W5.heap.size) (fun k hk => by first | exact hk | omega | (simp at hk ⊢; omega)) ?_
 apply anyR_peel (fuel := 0) 29 [false, false, false, false, false, false, false, false, false, false, false, false, false, false, true, true, true, true, true, true, true, true, true, true, true, true, true, true, true] #[true, true, true, true, true, true, true, true, true, true, true, true, true, true, true, true, true, true, true, true, true, true, true, true, true, true, true, true, true] (by kernel_rfl) rfl (fun j hj => decide_eq_true hj) (fun k hk => by first | exact hk | omega | (simp at hk ⊢; omega))
 ·
  intro D hD
  have hne := hD.some
  have k0 := liftB hD x0 (by omega)
  have k1 := liftB hD x1 (by omega)
  simp only [takeOps]
  repeat (go_big_quiet_step (fail))
  exact wpQuiet_nil rfl
 refine anyR_done (by kernel_rfl) fun w9 hl9 => ?_
 have HB9 := hide (onward HB8.out hl9)
 go_wp2
 go_ret
 exact ⟨rfl, HB9.out⟩
end Go.Proofs.Ytepgpihobmjbdaa
end
