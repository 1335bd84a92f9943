/-
  rain.Pass: the contract, for every table and every list of powers.
-/
import Derived.Test.YtmglgahagbfbkaaThrough
import Derived.Test.YtmglgahagbfbkaaTable
namespace Go.Proofs.Ytmglgahagbfbkaa
open Go.RowKit

theorem spanInfo : (Try.prog.info? 24).map (fun i => (i.zero, i.size, i.bytes)) = some (some (.agg #[.int .i64 0, .int .i64 0]), 2, 16) := by kernel_rfl

/-- A list of spans, as cells. -/
def spanCells (l : List (Int × Int)) : List Value := (flat2 l).map (Value.int .i64)
theorem spanCells_snoc (l : List (Int × Int)) (a b : Int) : spanCells l ++ #[Value.int .i64 a, .int .i64 b].toList = spanCells (l ++ [(a, b)]) := by
  simp [spanCells, flat2_append, flat2]

/-- A call that returns a new list of spans and an error. -/
def SpansPost (r : List (Int × Int) × Int) (w : World) (e : Ending) (w' : World) : Prop :=
  ∃ v, e = .returned (.tuple #[v, .int .i64 r.2]) ∧ w'.ownsRow w.heap.size 24 2 v r.1.length (spanCells r.1) ∧ Below w.heap.size w w'
theorem spans_nil {w w' : World} (k : Int) (hb : Below w.heap.size w w') : SpansPost ([], k) w (.returned (.tuple #[.slice none 0 0, .int .i64 k])) w' := ⟨_, rfl, World.ownsRow_nil _ _ _ _, hb⟩

set_option maxHeartbeats 2000000 in
set_option maxRecDepth 100000 in
theorem Pass_any (A : Option Addr) (n c : Nat) (l : List (Int × Int)) (A' : Option Addr) (n' c' : Nat) (pw : List Int) (w : World) (hn : l.length = n) (hmax : n ≤ 9223372036854775807) (hn' : pw.length = n') (hmax' : n' ≤ 9223372036854775807)
    (hl : Ints w w.heap.size .i64 A (flat2 l)) (hl' : Ints w w.heap.size .i64 A' pw) :
    Calls Try.prog 34 #[.slice A n c, .slice A' n' c'] w (SpansPost (passR l pw) w) := by
  have hchk := CheckTable_any A n c l 32768 w hn hmax hl
  by_cases h1 : chk l 32768 = 0
  · rw [h1] at hchk
    by_cases h2 : (200 : Int) < n'
    · have hR : passR l pw = ([], 9) := by simp [passR, h1, hn', show 200 < n' by omega]
      have HR := hide hR
      clear hR h1 hl hl' hn hn'
      go_enter Try.func34, Try.ntmps34
      go_wp2_with fail
      refine hchk.mono ?_
      rintro e w1 ⟨rfl, hb1⟩
      clear hchk
      go_wp2
      go_ret2
      rw [HR.out]
      exact spans_nil _ hb1
    · have hT := tab_of h1
      have hR : passR l pw = if pw.all okP = true then (passGo l whole pw, 0) else ([], 3) := by simp [passR, h1, hn', show ¬ 200 < n' by omega]
      have HR := hide hR
      have HT := hide hT
      have Hl := hide hl
      have Hl' := hide hl'
      have Hn := hide hn
      have Hn' := hide hn'
      clear hR h1 hl hl' hn hn' hT
      obtain ⟨i0, hi, hz0, hz1, hz2⟩ := info_parts spanInfo
      have Hi := hide hi
      have Hz0 := hide hz0
      have Hz1 := hide hz1
      have Hz2 := hide hz2
      clear hi hz0 hz1 hz2
      go_enter Try.func34, Try.ntmps34
      go_wp2_with fail
      refine hchk.mono ?_
      rintro e w1 ⟨rfl, hb1⟩
      clear hchk
      go_wp2_with (go_at_call 60; refine (passing_any _ _ _ _).mono ?_; rintro e w' ⟨rfl, rfl⟩)
      go_loopw [8, 23] (fun o i wr => ∃ (k : Nat) (t : Int × Int) (dn : List (Int × Int)), k ≤ n' ∧ i = .int .i64 k ∧ wr.ownsRow w.heap.size 24 2 o k (spanCells dn) ∧ Below w.heap.size w wr ∧
          Blk wr (w1.heap.size + 1) 112 #[.int .i64 t.1, .int .i64 t.2, lossF w1.heap.size] ∧ Blk wr w1.heap.size 22 #[.slice A n c] ∧ Psg t ∧ dn.length = k ∧ passGo l whole pw = dn ++ passGo l t (pw.drop k) ∧ (∀ j, j < k → okP (pw.getD j 0) = true))
        (fun _ i _ => n' - (intOf i).toNat)
      case atStart =>
        have hs1 := hb1.size
        exact ⟨0, whole, [], by omega, rfl, World.ownsRow_nil _ _ _ _, (hb1.alloc hs1 _).alloc (by simp; omega) _, blk_new_at (by simp), (Blk.new _ _ _).alloc _, ⟨by decide, by decide, by decide, by decide⟩, rfl, rfl, fun j hj => by omega⟩
      case round =>
        obtain ⟨k, t, dn, hk, rfl, hown, hbw, hg, hgl, ht, hdn, hgo, hall⟩ := hrel
        have Hown := hide hown
        have Hbw := hide hbw
        have Hg := hide hg
        have Hgl := hide hgl
        have Ht := hide ht
        have Hgo := hide hgo
        have Hall := hide hall
        have hsw := hbw.size
        have hs1 := hb1.size
        have hglt := hg.lt
        obtain ⟨g0, g1, _⟩ := hg.c3
        clear hown hbw hg hgl hgo hall
        by_cases hlt : k < n'
        · obtain ⟨b', off', rfl, hb', hc'⟩ := Hl'.out (by have := Hn'.out; omega)
          have hp := hc' k (by have := Hn'.out; omega)
          rw [← Hbw.out.cell hb'] at hp
          have hgd := passGo_drop l t pw k (by have := Hn'.out; omega)
          have hnn := fun h => not_all_ok (pw := pw) (j := k) (by have := Hn'.out; omega) h
          have hok1 : okP (pw.getD k 0) = true → ∀ j, j < k + 1 → okP (pw.getD j 0) = true := fun h j hj => by
            rcases Nat.lt_or_ge j k with h1 | h1
            · exact Hall.out j h1
            · obtain rfl : j = k := by omega
              exact h
          have Hgd := hide hgd
          have Hnn := hide hnn
          have Hok1 := hide hok1
          clear hc' hgd hnn hok1
          generalize pw.getD k 0 = z at *
          by_cases hw : win z 0 1073741824 = true
          · have hz := win_iff.1 hw
            obtain ⟨hz0, hz1⟩ := hz
            have hob := one_bd ht hz0 hz1
            obtain ⟨o1, o2, o3, o4⟩ := hob
            have hd1 := div_bd o1 (by omega : (1 : Int) ≤ 1073741824) (C := 1073741824) (by omega)
            have hd2 := cdiv_bd o3 (by omega : (1 : Int) ≤ 1073741824) (C := 1073741824) (by omega)
            clear hd1 hd2
            obtain ⟨t1, t2⟩ := t
            simp only at g0 g1 o1 o2 o3 o4
            clear ht
            go_wp2_with (go_at_call 43; refine (within_any _ _ _ _).mono ?_; rintro e w' ⟨rfl, rfl⟩)
            refine wp_region_R (fun k => k < wr.heap.size) 19 (by kernel_rfl) ?_
            apply anyR_peel (fuel := 3) 19 [true, true, true, true, true, true, true, true, true, true, true, true, true, true, true, true, true, true, false, false, false] #[true, true, true, true, true, true, true, true, true, true, true, true, true, true, true, true, true, true, false, false, false] (by kernel_rfl) rfl (fun j hj => decide_eq_true hj) (fun k hk => by first | exact hk | omega | (simp at hk ⊢; omega))
            · intro D hD
              have hne := hD.some
              have k0 := liftB hD g0 (by omega)
              have k1 := liftB hD g1 (by omega)
              simp only [takeOps]
              repeat (go_big_quiet_step ((first | (go_at_call 48; exact calls_same _ (down_any _ _ _ (by omega) (by omega) (by omega) (by omega))) | (go_at_call 49; exact calls_same _ (up_any _ _ _ (by omega) (by omega) (by omega) (by omega))))))
              exact wpQuiet_nil rfl
            refine anyR_push (f := 0) 18 19 20 82 24 30 48 49 8 47 (by kernel_rfl) (by decide) rfl rfl rfl rfl rfl rfl rfl rfl rfl rfl rfl rfl rfl w.heap.size i0 _ 2 16 Try.underlying82 Hi.out Hz0.out Hz1.out Hz2.out rfl (by omega) #[.int .i64 (z * t1 / 1073741824), .int .i64 (cdiv (z * t2) 1073741824)] (fun _ => by kernel_rfl) rfl (one2 _ _) _ k (spanCells dn) rfl (by exact of_decide_eq_true rfl) (by exact of_decide_eq_true rfl) Hown.out (by unfold maxLen; omega) (by omega) hsw (fun h => by simp at h) (fun k hk => hk) ?_
            intro g v' w2 hown2 hgr2
            simp only [Act.put, List.setIfInBounds_toArray, List.set_cons_succ, List.set_cons_zero]
            have G2 := hide (blk_grown Hg.out hgr2 (own_ne Hown.out Hg.out (by decide)))
            have GL2 := hide (blk_grown Hgl.out hgr2 (own_ne Hown.out Hgl.out (by decide)))
            have B2 := hide (below_grown Hbw.out hgr2 hsw fun k hk => (Hown.out.lt k hk).1)
            have O2 := hide hown2
            have hs2 := hgr2.size
            clear hgr2 hown2 g0 g1 hp
            go_wp2_with fail
            refine (through_any A n c l (t1, t2) (z, z) (w1.heap.size + 1) w1.heap.size w2 Hn.out HT.out Ht.out ⟨hz0, hz1⟩ ⟨hz0, hz1⟩ ((Hl.out.below B2.out).more B2.out.size) G2.out GL2.out).mono ?_
            rintro e w3 ⟨rfl, hgr3, hbk3⟩
            have GL3 := hide (blk_grown GL2.out hgr3 (by simp))
            have B3 := hide (below_grown B2.out hgr3 B2.out.size (fun k hk => by simp at hk; omega))
            have O3 := hide (own_grown O2.out hgr3 (own_ne O2.out G2.out (by decide)))
            have G3 := hide hbk3
            clear hgr3 hbk3
            go_wp2
            go_roundw
            case rel =>
              refine ⟨k + 1, nextT l (t1, t2) (z, z), dn ++ [passOne (t1, t2) z], by omega, by go_num, ?_, B3.out, G3.out, GL3.out, nextT_psg HT.out Ht.out hz0 hz0, by simp [hdn], ?_, Hok1.out hw⟩
              · have := O3.out; rw [spanCells_snoc] at this; exact this
              · rw [Hgo.out, Hgd.out]; simp
            case measure => simp [intOf]; omega
          · have hw3 : win z 0 1073741824 = false := by simpa using hw
            have hno := Hnn.out hw3
            have HR2 := hide (HR.out.trans (if_neg (by rw [hno]; simp)))
            clear hw hno
            go_wp2_with (go_at_call 43; refine (within_any _ _ _ _).mono ?_; rintro e w' ⟨rfl, rfl⟩)
            go_ret2
            rw [HR2.out]
            exact spans_nil _ Hbw.out
        · obtain rfl : k = n' := by omega
          have hal := all_ok (pw := pw) (fun j hj => Hall.out j (by have := Hn'.out; omega))
          have HR2 := hide (HR.out.trans (if_pos hal))
          have hgo := Hgo.out
          rw [List.drop_eq_nil_of_le (by have := Hn'.out; omega), passGo, List.append_nil] at hgo
          have Hgo2 := hide hgo
          clear hal hgo
          go_wp2
          go_ret2
          rw [HR2.out]
          exact ⟨_, rfl, by rw [Hgo2.out, hdn]; exact Hown.out, Hbw.out⟩
  · have hR : passR l pw = ([], chk l 32768) := by simp [passR, h1]
    have HR := hide hR
    have h3 : (chk l 32768 != 0) = true := by simpa [bne] using h1
    clear hR h1 hl hl' hn hn'
    generalize chk l 32768 = ck at *
    go_enter Try.func34, Try.ntmps34
    go_wp2_with fail
    refine hchk.mono ?_
    rintro e w1 ⟨rfl, hb1⟩
    clear hchk
    go_wp2
    go_ret2
    rw [HR.out]
    exact spans_nil _ hb1
end Go.Proofs.Ytmglgahagbfbkaa
