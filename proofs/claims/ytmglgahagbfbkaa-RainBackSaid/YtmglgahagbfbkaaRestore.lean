/-
  rain.Restore: what was measured goes through the passage alone.
-/
import Derived.Test.YtmglgahagbfbkaaPdo
import Derived.Test.YtmglgahagbfbkaaRefRest
import Derived.LoopN
namespace Go.Proofs.Ytmglgahagbfbkaa
open Go.RowKit

theorem belowg {g : Nat} {w w1 w2 : World} (h : Below g w w1) (hl : Later w1 w2) (hg : g < w1.heap.size) : Below g w w2 := h.trans (Below.mono hl (by omega))
theorem belowgr {g : Nat} {w w1 w2 : World} (h : Below g w w1) (hg : w1.grownBy w2 (some g)) (hl : g < w1.heap.size) : Below g w w2 :=
  h.trans ⟨hg.os, hg.tape, hg.output, hg.size, fun k hk => hg.block k (by omega) (fun e => by injection e with e; omega)⟩
theorem belowg_own {g base : Nat} {w w1 w2 : World} {e : TypeId} {size n : Nat} {v : Value} {xs : List Value} {w0 : World} (h : Below g w w1) (hg : w1.grownBy w2 v.ownBlock) (ho : w0.ownsRow base e size v n xs) (hl : g < base ∧ g < w1.heap.size) : Below g w w2 :=
  h.trans ⟨hg.os, hg.tape, hg.output, hg.size, fun k hk => hg.block k (by omega) (fun e1 => by have := (ho.lt k e1.symm).1; omega)⟩
set_option maxHeartbeats 2000000 in
set_option maxRecDepth 100000 in
/-- A path of one step, a passage. -/
theorem all_any (A : Option Addr) (n c : Nat) (l : List (Int × Int)) (A' : Option Addr) (n' c' : Nat) (ms : List (Int × Int)) (g gl gp : Nat) (w : World) (hn : l.length = n) (hn' : ms.length = n') (hmax' : n' ≤ 200) (hT : Tab l 32768) (hok : ms.all okM = true)
    (hl : Ints w gl .i64 A (flat2 l)) (hl' : Ints w gl .i64 A' (flat2 ms))
    (hg : Blk w g 112 #[.int .i64 1073741824, .int .i64 1073741824, lossF gl]) (hgl : Blk w gl 22 #[.slice A n c]) (hgp : Blk w gp 126 #[.iface 109 (.pointer (some ⟨g, 0, none⟩))]) (hgg : gl < g ∧ g < gp) :
    Calls Try.prog 62 #[.slice (some ⟨gp, 0, none⟩) 1 1, .slice A' n' c'] w fun e w' => ∃ v, e = .returned v ∧ w'.ownsRow w.heap.size 24 2 v ms.length (spanCells (restGo l whole ms)) ∧ Below g w w' := by
  obtain ⟨i0, hi, hz0, hz1, hz2⟩ := info_parts spanInfo
  obtain ⟨gg1, gg2⟩ := hgg
  have hgpw := hgp.lt
  have HT := hide hT
  have Hl := hide hl
  have Hl' := hide hl'
  have Hn := hide hn
  have Hn' := hide hn'
  have Hi := hide hi
  have Hz0 := hide hz0
  have Hz1 := hide hz1
  have Hz2 := hide hz2
  have Hok := hide hok
  clear hT hl hl' hn hn' hi hz0 hz1 hz2 hok
  go_enter Try.func62, Try.ntmps62
  go_wp2_with fail
  go_loopw [5, 12] (fun o i wr => ∃ (k : Nat) (t : Int × Int) (dn : List (Int × Int)), k ≤ n' ∧ i = .int .i64 k ∧ wr.ownsRow w.heap.size 24 2 o k (spanCells dn) ∧ Below g w wr ∧ w.heap.size ≤ wr.heap.size ∧
      Blk wr g 112 #[.int .i64 t.1, .int .i64 t.2, lossF gl] ∧ Blk wr gl 22 #[.slice A n c] ∧ Blk wr gp 126 #[.iface 109 (.pointer (some ⟨g, 0, none⟩))] ∧ Psg1 t ∧ dn.length = k ∧ restGo l whole ms = dn ++ restGo l t (ms.drop k))
    (fun _ i _ => n' - (intOf i).toNat)
  case atStart => exact ⟨0, whole, [], by omega, rfl, World.ownsRow_nil _ _ _ _, Below.refl _ _, Nat.le_refl _, hg, hgl, hgp, whole_psg1, rfl, rfl⟩
  case round =>
    obtain ⟨k, t, dn, hk, rfl, hown, hbw, hsw, hbg, hbgl, hbgp, ht, hdn, hgo⟩ := hrel
    have Hown := hide hown
    have HB := hide hbw
    have Hg := hide hbg
    have Hgl := hide hbgl
    have Hgp := hide hbgp
    have Hgo := hide hgo
    have Ht := hide ht
    have Hdn := hide hdn
    clear hown hbw hbg hbgl hbgp hgo ht hdn
    by_cases hlt : k < n'
    · obtain ⟨b', off', rfl, hb', hc'⟩ := Hl'.out.pt (by have := Hn'.out; omega)
      have hpp := hc' k (by have := Hn'.out; omega)
      have hgd := restGo_drop l t ms k (by have := Hn'.out; omega)
      have hm := getD_all Hok.out (j := k) (by have := Hn'.out; omega)
      generalize ms.getD k (0, 0) = m at *
      obtain ⟨m1, m2⟩ := m
      simp only at hpp
      obtain ⟨p0, p1⟩ := hpp
      rw [← HB.out.cell (p := ⟨b', off' + k * 2, none⟩) (by show b' < g; omega)] at p0
      rw [← HB.out.cell (p := ⟨b', off' + k * 2 + 1, none⟩) (by show b' < g; omega)] at p1
      have Hgd := hide hgd
      have Hm := hide hm
      obtain ⟨q1, q2, hq⟩ : ∃ a b, restOne t (m1, m2) = (a, b) := ⟨_, _, rfl⟩
      have Hq := hide hq
      have hbd := restOne_bd Ht.out hm
      rw [hq] at hbd
      simp only at hbd
      obtain ⟨qa, qb, qc, qd⟩ := hbd
      clear hgd hm hc' hq
      have hnz := own_high_ne Hown.out (Nat.le_refl _)
      have hgr0 : g < wr.heap.size := by omega
      have hbr : b' < wr.heap.size := by omega
      go_wp2_with fail
      refine code_world fun W hW => ?_
      have bq0 : Blk W wr.heap.size 24 #[.int .i64 m1, .int .i64 m2] := by rw [hW]; exact Blk.new _ _ _
      have LW : Later wr W := by rw [hW]; exact ((Below.refl _ _).alloc (Nat.le_refl _) _)
      have szW : W.heap.size = wr.heap.size + 1 := by rw [hW]; simp
      clear hW
      replace HB := hide (belowg HB.out LW (by omega))
      replace Hg := hide (blk_later Hg.out LW)
      replace Hgl := hide (blk_later Hgl.out LW)
      replace Hgp := hide (blk_later Hgp.out LW)
      replace Hown := hide (own_later Hown.out LW)
      have Hz := hide bq0
      clear bq0 LW szW
      have hgW : gp < W.heap.size := Hgp.out.lt
      have hzW : wr.heap.size < W.heap.size := Hz.out.lt
      refine wp_loop_rounds 2 ?_
      rw [rounds_succ]
      obtain ⟨z0, z1⟩ := Hz.out.c2
      have ltz := Hz.out.lt
      have y0 := Hgp.out.c 0 rfl
      have lty := Hgp.out.lt
      clear p0 p1
      go_wp2_with fail
      refine (pdo_any A n c l t (m1, m2) g gl k W Hn.out HT.out Ht.out Hm.out ((Hl.out.below' HB.out (by omega)).more (by omega)) Hg.out Hgl.out).mono ?_
      rintro e w2 ⟨rfl, hgr, hbk⟩
      rw [Hq.out] at hbk ⊢
      simp only at hbk ⊢
      replace Hown := hide (own_grown Hown.out hgr (own_ne Hown.out Hg.out (by decide)))
      replace HB := hide (belowgr HB.out hgr (by omega))
      replace Hgl := hide (blk_grown Hgl.out hgr (by simp; omega))
      replace Hgp := hide (blk_grown Hgp.out hgr (by simp; omega))
      replace Hz := hide (blk_grown Hz.out hgr (by simp; omega))
      replace Hg := hide hbk
      have hg2 : gp < w2.heap.size := Hgp.out.lt
      have hz2 : wr.heap.size < w2.heap.size := Hz.out.lt
      clear hgr hbk
      clear z0 z1 ltz y0 lty
      obtain ⟨z0, z1⟩ := Hz.out.c2
      have ltz := Hz.out.lt
      have fz0 := Hz.out.frozen 0
      have fz1 := Hz.out.frozen 1
      go_wp2_with fail
      rw [rounds_succ]
      refine code_world fun W5 hW => ?_
      have hz5 : Blk W5 wr.heap.size 24 #[.int .i64 q1, .int .i64 q2] := by rw [hW]; exact blk_eq2 ((Hz.out.set_ 0 _).set_ 1 _) (by simp)
      have hg5 := Hg.out
      replace hg5 : Blk W5 g 112 #[.int .i64 (nextT l t (q1, q2)).1, .int .i64 (nextT l t (q1, q2)).2, lossF gl] := by rw [hW]; exact (hg5.far (by simp; omega) _).far (by simp; omega) _
      have hgl5 : Blk W5 gl 22 #[.slice A n c] := by rw [hW]; exact (Hgl.out.far (by simp; omega) _).far (by simp; omega) _
      have hgp5 : Blk W5 gp 126 #[.iface 109 (.pointer (some ⟨g, 0, none⟩))] := by rw [hW]; exact (Hgp.out.far (by simp; omega) _).far (by simp; omega) _
      have hB5 : Below g w W5 := by
        rw [hW]
        repeat (first | exact HB.out | (refine Below.setCell ?_ (by first | omega | (simp; done) | (simp; omega)) _) | (refine Below.alloc ?_ (by first | omega | (simp; done) | (simp; omega)) _) | (refine below_drewN ?_ _))
      have hO5 := own_grown (own_grown Hown.out (grown_setCell w2 wr.heap.size 0 (.int .i64 q1)) hnz) (grown_setCell _ wr.heap.size 1 (.int .i64 q2)) hnz
      rw [← hW] at hO5
      replace HB := hide hB5
      replace Hg := hide hg5
      replace Hgl := hide hgl5
      replace Hgp := hide hgp5
      replace Hown := hide hO5
      replace Hz := hide hz5
      clear hW hB5 hg5 hgl5 hgp5 hO5 hz5
      clear z0 z1 ltz fz0 fz1
      have hsw5 : w.heap.size ≤ W5.heap.size := HB.out.size
      have hg5 : gp < W5.heap.size := Hgp.out.lt
      obtain ⟨z0, z1⟩ := Hz.out.c2
      have ltz := Hz.out.lt
      go_wp2_with (at_builtin; refine wpList_append_own _ rfl (.tmp 28) (.tmp 30) _ rfl w.heap.size 24 i0 _ 2 16 Try.underlying82 Hi.out Hz0.out Hz1.out Hz2.out rfl (by decide) _ k _ rfl (Hown.out.alloc _) ⟨W5.heap.size, 0, none⟩ 1 1 [.int .i64 q1, .int .i64 q2] rfl rfl ?q1c1 ?q1c2 ?q1c3 ?q1c4 ?q1c5 ?_)
      try case q1c1 => exact new_cells W5 _ [.int .i64 q1, .int .i64 q2]
      case q1c2 => intro u hu; simp at hu; rcases hu with rfl | rfl <;> rfl
      case q1c3 => unfold maxLen; omega
      case q1c4 => omega
      case q1c5 => simp; omega
      intro v' w6 hown2 hgr2 _
      replace HB := hide (belowg_own (HB.out.alloc (by omega) _) hgr2 Hown.out ⟨by omega, by simp; omega⟩)
      replace Hg := hide (blk_grown (Hg.out.alloc _) hgr2 (own_low_ne Hown.out (by omega)))
      replace Hgl := hide (blk_grown (Hgl.out.alloc _) hgr2 (own_low_ne Hown.out (by omega)))
      replace Hgp := hide (blk_grown (Hgp.out.alloc _) hgr2 (own_low_ne Hown.out (by omega)))
      replace Hown := hide hown2
      clear hown2 hgr2 z0 z1 ltz
      have hnx := nextT_psg1 HT.out Ht.out (z := (q1, q2)) (by simp only; omega) (by simp only; omega)
      have Hnx := hide hnx
      clear hnx
      go_wp2
      go_roundw
      case rel =>
        refine ⟨k + 1, nextT l t (q1, q2), dn ++ [(q1, q2)], by omega, by go_num, ?_, HB.out, HB.out.size, Hg.out, Hgl.out, Hgp.out, Hnx.out, by simp [Hdn.out], ?_⟩
        · have := Hown.out
          rw [show [Value.int .i64 q1, .int .i64 q2] = #[Value.int .i64 q1, .int .i64 q2].toList from rfl, spanCells_snoc] at this
          exact this
        · rw [Hgo.out, Hgd.out, Hq.out]; simp
      case measure => simp [intOf] <;> omega
    · obtain rfl : k = n' := by omega
      have hgo := Hgo.out
      rw [List.drop_eq_nil_of_le (by have := Hn'.out; omega), restGo, List.append_nil] at hgo
      have Hgo2 := hide hgo
      clear hgo
      go_wp2
      go_ret
      exact ⟨_, rfl, by rw [Hgo2.out, Hn'.out]; exact Hown.out, HB.out⟩

set_option maxHeartbeats 2000000 in
set_option maxRecDepth 100000 in
theorem Restore_any (A : Option Addr) (n c : Nat) (l : List (Int × Int)) (A' : Option Addr) (n' c' : Nat) (ms : List (Int × Int)) (w : World) (hn : l.length = n) (hmax : n ≤ 9223372036854775807) (hn' : ms.length = n') (hmax' : n' ≤ 9223372036854775807)
    (hl : Ints w w.heap.size .i64 A (flat2 l)) (hl' : Ints w w.heap.size .i64 A' (flat2 ms)) :
    Calls Try.prog 35 #[.slice A n c, .slice A' n' c'] w (SpansPost (restR l ms) w) := by
  have hchk := CheckTable_any A n c l 32768 w hn hmax hl
  by_cases h1 : chk l 32768 = 0
  · rw [h1] at hchk
    by_cases h2 : (200 : Int) < n'
    · have hR : restR l ms = ([], 9) := by simp [restR, h1, hn', show 200 < n' by omega]
      have HR := hide hR
      clear hR h1 hl hl' hn hn'
      go_enter Try.func35, Try.ntmps35
      go_wp2_with fail
      refine hchk.mono ?_
      rintro e w1 ⟨rfl, hb1⟩
      clear hchk
      go_wp2
      go_ret2
      rw [HR.out]
      exact spans_nil _ hb1
    · have hT := tab_of h1
      have hR : restR l ms = if ms.all okM = true then (restGo l whole ms, 0) else ([], 3) := by simp [restR, h1, hn', show ¬ 200 < n' by omega]
      have HR := hide hR
      have HT := hide hT
      have Hl := hide hl
      have Hl' := hide hl'
      have Hn := hide hn
      have Hn' := hide hn'
      clear hR hT hl hl' hn hn'
      clear h1
      go_enter Try.func35, Try.ntmps35
      go_wp2_with fail
      refine hchk.mono ?_
      rintro e w1 ⟨rfl, hb1⟩
      clear hchk
      go_wp2_with fail
      go_loopw [19] (fun i wr => ∃ k : Nat, k ≤ n' ∧ i = .int .i64 k ∧ Below w.heap.size w wr ∧ (∀ j, j < k → okM (ms.getD j (0, 0)) = true))
        (fun i _ => n' - (intOf i).toNat)
      case atStart => exact ⟨0, by omega, rfl, hb1, fun j hj => by omega⟩
      case round =>
        clear hb1
        obtain ⟨k, hk, rfl, hbw, hall⟩ := hrel
        have HB := hide hbw
        have Hall := hide hall
        clear hbw hall
        by_cases hlt : k < n'
        · obtain ⟨b', off', rfl, hb', hc'⟩ := Hl'.out.pt (by have := Hn'.out; omega)
          obtain ⟨p0, p1⟩ := hc' k (by have := Hn'.out; omega)
          rw [← HB.out.cell hb'] at p0 p1
          have hnn := fun h => not_all_okM (l := ms) (j := k) (by have := Hn'.out; omega) h
          have hok1 : okM (ms.getD k (0, 0)) = true → ∀ j, j < k + 1 → okM (ms.getD j (0, 0)) = true := fun h j hj => by
            rcases Nat.lt_or_ge j k with h1 | h1
            · exact Hall.out j h1
            · obtain rfl : j = k := by omega
              exact h
          have Hnn := hide hnn
          have Hok1 := hide hok1
          clear hc' hnn hok1
          generalize ms.getD k (0, 0) = m at *
          obtain ⟨m1, m2⟩ := m
          have hmm : okM (m1, m2) = ins m1 m2 1073741824 := rfl
          rw [hmm] at Hnn Hok1
          simp only at p0 p1
          clear hmm
          cases hins : ins m1 m2 1073741824 with
          | true =>
            have Hk2 := hide (Hok1.out hins)
            go_wp2_with fail
            refine at_world fun W hW => ?_
            have LW : Later wr W := by rw [hW]; exact ((Below.refl _ _).alloc (Nat.le_refl _) _)
            have szW : W.heap.size = wr.heap.size + 1 := by rw [hW]; simp
            clear hW
            replace HB := hide (onward HB.out LW)
            clear LW szW
            have hv := inside_any m1 m2 1073741824 W
            rw [hins] at hv
            clear hins Hok1 Hnn
            refine (hv).mono ?_
            rintro e w2 ⟨rfl, hb⟩
            replace HB := hide (onward HB.out hb)
            clear hb
            clear p0 p1 hv
            go_wp2
            go_roundw
            case rel => exact ⟨k + 1, by omega, by go_num, HB.out, Hk2.out⟩
            case measure => simp [intOf] <;> omega
          | false =>
            have hno := Hnn.out hins
            have HR2 := hide (HR.out.trans (if_neg (by rw [hno]; simp)))
            go_wp2_with fail
            refine at_world fun W hW => ?_
            have LW : Later wr W := by rw [hW]; exact ((Below.refl _ _).alloc (Nat.le_refl _) _)
            have szW : W.heap.size = wr.heap.size + 1 := by rw [hW]; simp
            clear hW
            replace HB := hide (onward HB.out LW)
            clear LW szW
            have hv := inside_any m1 m2 1073741824 W
            rw [hins] at hv
            clear hins Hok1 Hnn hno
            refine (hv).mono ?_
            rintro e w2 ⟨rfl, hb⟩
            replace HB := hide (onward HB.out hb)
            clear hb
            clear p0 p1 hv
            go_wp2
            go_ret2
            rw [HR2.out]
            exact spans_nil _ HB.out
        · obtain rfl : k = n' := by omega
          have hal := all_okM (l := ms) (fun j hj => Hall.out j (by have := Hn'.out; omega))
          have HR2 := hide (HR.out.trans (if_pos hal))
          have Hal := hide hal
          clear hal
          have hsz0 : w.heap.size ≤ wr.heap.size := HB.out.size
          go_wp2_with fail
          refine (passing_any _ _ _ _).mono ?_
          rintro e w' ⟨rfl, rfl⟩
          go_wp2_with fail
          refine at_world fun W hW => ?_
          have bq0 : Blk W wr.heap.size 22 #[.slice A n c] := by rw [hW]; exact ((Blk.new _ _ _).alloc _).alloc _
          have bq1 : Blk W (wr.heap.size + 1) 112 #[.int .i64 1073741824, .int .i64 1073741824, lossF wr.heap.size] := by rw [hW]; exact (blk_new_at (by simp)).alloc _
          have bq2 : Blk W (wr.heap.size + 2) 126 #[.iface 109 (.pointer (some ⟨wr.heap.size + 1, 0, none⟩))] := by rw [hW]; exact blk_new_at (by simp)
          have LW : Later wr W := by rw [hW]; exact ((((Below.refl _ _).alloc (Nat.le_refl _) _).alloc (by simp; try omega) _).alloc (by simp; try omega) _)
          have szW : W.heap.size = wr.heap.size + 3 := by rw [hW]; simp
          clear hW
          replace HB := hide (onward HB.out LW)
          have Hgl := hide bq0
          have Hg := hide bq1
          have Hgp := hide bq2
          clear bq0 bq1 bq2 LW szW
          have hszW : w.heap.size ≤ W.heap.size := HB.out.size
          refine (all_any A n c l A' k c' ms (wr.heap.size + 1) wr.heap.size (wr.heap.size + 2) W Hn.out Hn'.out (by omega) HT.out Hal.out ((Hl.out.below HB.out).more hsz0) ((Hl'.out.below HB.out).more hsz0) Hg.out Hgl.out Hgp.out ⟨by omega, by omega⟩).mono ?_
          rintro e w3 ⟨v, rfl, ho, hb⟩
          go_wp2
          go_ret2
          rw [HR2.out]
          exact ⟨_, rfl, by rw [restGo_length]; exact own_mono ho hszW, HB.out.trans (hb.mono (by omega))⟩
  · have hR : restR l ms = ([], chk l 32768) := by simp [restR, h1]
    have HR := hide hR
    have h3 : (chk l 32768 != 0) = true := by simpa [bne] using h1
    clear hR h1 hl hl' hn hn'
    generalize chk l 32768 = ck at *
    go_enter Try.func35, Try.ntmps35
    go_wp2_with fail
    refine hchk.mono ?_
    rintro e w1 ⟨rfl, hb1⟩
    clear hchk
    go_wp2
    go_ret2
    rw [HR.out]
    exact spans_nil _ hb1
end Go.Proofs.Ytmglgahagbfbkaa
