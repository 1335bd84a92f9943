/-
  The gain of a radar at a time.
-/
import Derived.Test.YtiggefmckomilaaRegT
import Derived.Test.YtiggefmckomilaaTracePush
import Derived.Deep.CutRange
import Derived.WalkMore
set_option linter.unusedSimpArgs false
set_option linter.unusedVariables false
namespace Go.Proofs.Ytiggefmckomilaa
open Go Go.RowKit

theorem strNe {a b : ByteArray} (h : a ≠ b) : (a.toList == b.toList) = false := by
  rw [ByteArray.toList_eq, ByteArray.toList_eq]
  exact beq_eq_false_iff_ne.2 fun e => h (WideShapes.bytes_inj e)
theorem to_world {w W x : World} {B : Nat} (h : W = x) (hb : Below B w x) : Below B w W := h ▸ hb
theorem blk_to {W x : World} {g : Nat} {t : TypeId} {cs : Array Value} (h : W = x) (hb : Blk x g t cs) : Blk W g t cs := h ▸ hb
theorem blk_of {w : World} {g : Nat} {t : TypeId} {cs cs' : Array Value} (h : Blk w g t cs) (e : cs = cs') : Blk w g t cs' := e ▸ h
theorem intInfo : (Try.prog.info? 3).map (fun i => (i.zero, i.size, i.bytes)) = some (some (.int .i64 0), 1, 8) := by kernel_rfl
theorem spanInfo : (Try.prog.info? 23).map (fun i => (i.zero, i.size, i.bytes)) = some (some (.agg #[.int .i64 0, .int .i64 0]), 2, 16) := by kernel_rfl
def gainV (r : (Int × Int) × (Int × Int) × Int) : Value := .tuple #[.agg #[.int .i64 r.1.1, .int .i64 r.1.2], .agg #[.int .i64 r.2.1.1, .int .i64 r.2.1.2], .int .i64 r.2.2]
set_option maxHeartbeats 4000000 in
set_option maxRecDepth 100000 in
theorem Gain_any (l : List Ent) (p : Nat) (L : Lay) (n : ByteArray) (time : Int) (w : World) (hb : BookR l p L w) (hn : n.size ≤ maxLen) :
    Calls Try.prog 24 #[ptrB p, .string n, .int .i64 time] w fun e w' => e = .returned (gainV (gainE l n time)) ∧ Below w.heap.size w w' := by
  obtain ⟨Ao, co, At, ct, Ae, ce, e1, e2, e3, hk⟩ := hb.cells
  have hR : gainE l n time = match driftT l n with
    | none => ((0, 0), (0, 0), 4)
    | some d => if inR time 0 4294967296 = false then ((0, 0), (0, 0), 3) else gainQ (selN (testInfo l) n (voidT l) d time (testsT l).length) := rfl
  generalize gainE l n time = r at *
  have hw2 := ((Below.refl w.heap.size w).alloc (Nat.le_refl _) (.cells #[.int .i64 0, .int .i64 0] 23)).alloc (by simp) (.cells #[.int .i64 0, .int .i64 0] 52)
  have hlr := look_radar hb hw2 hn
  have hwi := fun W => within_any time 0 4294967296 W
  unfold ptrB
  have HK0 := hide hk
  have Hk := hide hk
  have Hwi := hide hwi
  clear hk hwi
  obtain ⟨x0, x1, x2, x3, x4, x5, x6, x7⟩ := Hk.out.c8
  have ltk := Hk.out.lt
  cases hdr : driftT l n with
  | none =>
    rw [hdr] at hR hlr
    simp only at hR
    simp only [Option.getD_none, Option.isSome_none] at hlr
    subst hR
    go_enter Try.func24, Try.ntmps24
    go_wp2_with fail
    go_step3
    go_wp2_with fail
    go_region
    all_goals
      go_wp2
      rw [Exit.noGoto_ret]
      refine bodyPost_ret (v := gainV ((0, 0), (0, 0), 4)) (by simp [gainV, results, Try.results24, go_sem]) rfl ⟨rfl, ?_⟩
      repeat (first | exact Below.refl _ _ | (refine Below.setCell ?_ (by first | omega | (simp; done) | (simp; omega)) _) | (refine Below.alloc ?_ (by first | omega | (simp; done) | (simp; omega)) _) | (refine below_drewN ?_ _))
  | some d =>
    rw [hdr] at hR hlr
    simp only at hR
    simp only [Option.getD_some, Option.isSome_some] at hlr
    go_enter Try.func24, Try.ntmps24
    have HB := hide (Below.refl w.heap.size w)
    go_wp2_with fail
    go_step3
    go_wp2_with fail
    clear hlr hw2 x0 x1 x2 x3 x4 x5 x6 x7 ltk
    refine at_world fun W1 hW => ?_
    have bq0 : Blk W1 w.heap.size 23 #[.int .i64 0, .int .i64 0] := by rw [hW]; exact (Blk.new _ _ _).alloc _
    have bq1 : Blk W1 (w.heap.size + 1) 52 #[.int .i64 0, .int .i64 0] := by rw [hW]; exact blk_new_at (by simp)
    have LW : Later w W1 := by rw [hW]; exact (((Below.refl _ _).alloc (Nat.le_refl _) _).alloc (by simp; try omega) _)
    have szW : W1.heap.size = w.heap.size + 2 := by rw [hW]; simp
    clear hW
    replace HB := hide (onward HB.out LW)
    replace Hk := hide (blk_later Hk.out LW)
    have Hg := hide bq0
    have Ha := hide bq1
    clear bq0 bq1 LW szW
    refine (Hwi.out _).mono ?_
    rintro e w' ⟨rfl, rfl⟩
    have hszW : w.heap.size + 1 < W1.heap.size := Ha.out.lt
    cases hir : inR time 0 4294967296 with
    | false =>
      rw [if_pos hir] at hR
      subst hR
      obtain ⟨g0, g1⟩ := Hg.out.c2
      obtain ⟨a0, a1⟩ := Ha.out.c2
      have ltg := Hg.out.lt
      have lta := Ha.out.lt
      have fg0 := Hg.out.frozen 0
      have fg1 := Hg.out.frozen 1
      have fa0 := Ha.out.frozen 0
      have fa1 := Ha.out.frozen 1
      have hszB := HB.out.size
      go_wp2_with fail
      go_region
      all_goals
        go_wp2
        rw [Exit.noGoto_ret]
        refine bodyPost_ret (v := gainV ((0, 0), (0, 0), 3)) (by simp [gainV, results, Try.results24, go_sem, g0, g1, a0, a1, ltg, lta, fg0, fg1, fa0, fa1]) rfl ⟨rfl, ?_⟩
        repeat (first | exact HB.out | (refine Below.setCell ?_ (by first | omega | (simp; done) | (simp; omega)) _) | (refine Below.alloc ?_ (by first | omega | (simp; done) | (simp; omega)) _) | (refine below_drewN ?_ _))
    | true =>
      rw [if_neg (by rw [hir]; simp)] at hR
      obtain ⟨j1, j2⟩ := inR_iff.1 hir
      obtain ⟨x0, x1, x2, x3, x4, x5, x6, x7⟩ := Hk.out.c8
      have ltk := Hk.out.lt
      go_wp2_with fail
      clear x0 x1 x2 x3 x4 x5 x6 x7 ltk
      obtain ⟨X, hX⟩ : ∃ X, testAll l L.kb = X := ⟨_, rfl⟩
      have hXI : X.map (·.1) = testInfo l := by rw [← hX]; exact testAll_info l L.kb
      have hXl : X.length = (testsT l).length := by rw [← testInfo_length, ← hXI, List.length_map]
      have htr := hb.tests
      rw [testRows_all, hX, e2] at htr
      obtain ⟨sel, hsel⟩ : ∃ sel, selN (testInfo l) n (voidT l) d time = sel := ⟨_, rfl⟩
      rw [hsel] at hR
      obtain ⟨M, hM⟩ : ∃ M, (testsT l).length = M := ⟨_, rfl⟩
      rw [hM] at hR hXl htr Hk HK0
      simp only [hM]
      have hgood := good_test hb.good
      obtain ⟨d0, d1⟩ := drift_bd hb.good hdr
      have hM5 : M ≤ 512 := by rw [← hM]; exact tests_le hb.good
      have Htr := hide htr
      have Hsel := hide hsel
      have Hgood := hide hgood
      have HXI := hide hXI
      clear htr hsel hgood hXI
      go_loopw [11, 12, 57] (fun o q i wr => ∃ k : Nat, k ≤ M ∧ i = .int .i64 k ∧ Below w.heap.size w wr ∧ W1.heap.size ≤ wr.heap.size ∧ Blk wr w.heap.size 23 #[.int .i64 0, .int .i64 0] ∧ Blk wr (w.heap.size + 1) 52 #[.int .i64 0, .int .i64 0] ∧
          wr.ownsRow W1.heap.size 3 1 o (sel k).length (numV (sel k)) ∧ wr.ownsRow W1.heap.size 23 2 q (sel k).length (spnV (sel k)) ∧ Apart o q) (fun _ _ i _ => M - (intOf i).toNat)
      case atStart =>
        have h0 : sel 0 = [] := by rw [← Hsel.out]; rfl
        exact ⟨0, by omega, rfl, HB.out, Nat.le_refl _, Hg.out, Ha.out, by rw [h0]; exact World.ownsRow_nil _ _ _ _, by rw [h0]; exact World.ownsRow_nil _ _ _ _, apart_nil _⟩
      case round =>
        obtain ⟨k, hkM, rfl, hbw, hsz1, hqg, hqa, hon, hos, hap⟩ := hrel
        obtain ⟨An, cn, rfl⟩ := own_shape2 hon
        obtain ⟨As, cs, rfl⟩ := own_shape2 hos
        by_cases hlt : k < M
        · obtain ⟨b, rfl, hbl, -, hcl⟩ := rows_pt Htr.out (by omega)
          obtain ⟨x, hx⟩ : ∃ x, X[k]? = some x := ⟨X[k]'(by omega), List.getElem?_eq_getElem (by omega)⟩
          have hTk : (testInfo l)[k]? = some x.1 := by rw [← HXI.out, List.getElem?_map, hx]; rfl
          have htok := Hgood.out x.1 (List.mem_of_getElem? hTk)
          have hsk : sel (k + 1) = sel k ++ if x.1.1.radar = n ∧ voidT l x.1.1.std = false then [(k, widenS x.1.2 d x.1.1.time time)] else [] := by rw [← Hsel.out, selN, hTk]
          have c0 := hcl k x hx 0 _ (by decide) rfl
          have c1 := hcl k x hx 1 _ (by decide) rfl
          have c2 := hcl k x hx 2 _ (by decide) rfl
          have c3 := hcl k x hx 3 _ (by decide) rfl
          have c4 := hcl k x hx 4 _ (by decide) rfl
          have c5 := hcl k x hx 5 _ (by decide) rfl
          have c6 := hcl k x hx 6 _ (by decide) rfl
          have c7 := hcl k x hx 7 _ (by decide) rfl
          rw [← hbw.cell hbl] at c0 c1 c2 c3 c4 c5 c6 c7
          rw [Nat.add_zero] at c0
          obtain ⟨⟨⟨rd, sd, tm, lo, hi⟩, ⟨g1, g2⟩⟩, po⟩ := x
          obtain ⟨t0, t1, z0, z1, z2, z3, zn⟩ := htok
          simp only at c0 c1 c2 c3 c4 c5 c6 c7 hsk t0 t1 z0 z1 z2 z3 zn
          have hsn : sd.size ≤ maxLen := by
            unfold nameB at zn
            simp only [Bool.and_eq_true, decide_eq_true_eq] at zn
            have := zn.1.1.1.2
            unfold maxLen
            omega
          clear hcl hx hTk
          have hbl' : b < wr.heap.size := Nat.lt_of_lt_of_le hbl hbw.size
          have hkM' : (k : Int) < M := by omega
          have hk2 := blk_later HK0.out hbw
          have hnt0 := own_high_ne hon (Nat.le_refl _)
          have hst0 := own_high_ne hos (Nat.le_refl _)
          have HLr := hide (Later.refl wr)
          have Hg := hide hqg
          have Ha := hide hqa
          have Hn := hide hon
          have Hs := hide hos
          have Hap := hide hap
          have HG := hide hbw
          have Hk := hide hk2
          have Hsk := hide hsk
          clear hqg hqa hon hos hap hbw hk2 hsk
          go_wp2_with fail
          refine code_world fun W3 hW => ?_
          have bq0 : Blk W3 wr.heap.size 113 #[.string rd, .string sd, .int .i64 tm, .int .i64 lo, .int .i64 hi, .pointer po, .int .i64 g1, .int .i64 g2] := by rw [hW]; exact Blk.new _ _ _
          have LW : Later wr W3 := by rw [hW]; exact ((Below.refl _ _).alloc (Nat.le_refl _) _)
          have szW : W3.heap.size = wr.heap.size + 1 := by rw [hW]; simp
          clear hW
          replace Hg := hide (blk_later Hg.out LW)
          replace Ha := hide (blk_later Ha.out LW)
          replace Hn := hide (own_later Hn.out LW)
          replace Hs := hide (own_later Hs.out LW)
          replace HG := hide (onward HG.out LW)
          replace Hk := hide (blk_later Hk.out LW)
          replace HLr := hide (onward HLr.out LW)
          have Ht := hide bq0
          clear bq0 LW szW
          clear c0 c1 c2 c3 c4 c5 c6 c7
          have t0' := Ht.out.c 0 rfl
          have t1' := Ht.out.c 1 rfl
          have x6 := Hk.out.c 6 rfl
          have ltt := Ht.out.lt
          have ltk := Hk.out.lt
          by_cases hrd : rd = n
          · subst hrd
            have heq1 : (rd.toList == rd.toList) = true := beq_self_eq_true _
            have hlv := fun W hw => look_void (W := W) hb hw hsn
            have hskv := Hsk.out
            generalize hvd : voidT l sd = vd at *
            apply wp_region_L (w0 := W3) [[], [], [], [], [], [], [], [], [], [], [], [], [], [], [], []] [true, true, true, true, true, true, true, true, true, true, true, true, true, true, true, true] [] (fun ixq y => match ixq with  | _ => undef) (fun ixq x F wq => match ixq with  | _ => True) (fun a x => a) (by kernel_rfl) (by kernel_rfl) (fun _ => rfl) [69, 75] (by kernel_rfl)
            · intro x D hD
              have hne := hD.some
              have k0 := liftB hD t0' (by first | assumption | omega)
              have k1 := liftB hD t1' (by first | assumption | omega)
              have k6 := liftB hD x6 (by first | assumption | omega)
              have hlk := fun (x : Of D) => hlv x.val (onward HG.out (kb hD x))
              simp only [takeOps, Act.put, List.setIfInBounds_toArray, List.set_cons_succ, List.set_cons_zero]
              repeat (go_big_quiet_step (fail))
              exact wpQuiet_nil rfl
            · intro d hd x x'
              simp only [List.mem_cons, List.not_mem_nil, or_false] at hd
              rcases hd with rfl | rfl
              all_goals rfl
            · exact trivial
            · exact trivial
            intro xx w4 F hL4 hlv1
            clear hlv1
            clear t0' t1' x6 ltt ltk hlv
            replace Hg := hide (blk_later Hg.out hL4)
            replace Ha := hide (blk_later Ha.out hL4)
            replace Hn := hide (own_later Hn.out hL4)
            replace Hs := hide (own_later Hs.out hL4)
            replace HG := hide (onward HG.out hL4)
            replace Hk := hide (blk_later Hk.out hL4)
            replace HLr := hide (onward HLr.out hL4)
            replace Ht := hide (blk_later Ht.out hL4)
            clear hL4
            cases vd with
            | true =>
              have Hsk2 := hide (show sel (k + 1) = sel k by rw [hskv]; simp)
              go_wp2
              go_roundw
              case rel => exact ⟨k + 1, by omega, by go_num, HG.out, Nat.le_trans hsz1 HLr.out.size, Hg.out, Ha.out, by rw [Hsk2.out]; exact Hn.out, by rw [Hsk2.out]; exact Hs.out, Hap.out⟩
              case measure => simp [intOf] <;> omega
            | false =>
              have Hsk2 := hide (show sel (k + 1) = sel k ++ [(k, widenS (g1, g2) d tm time)] by rw [hskv]; simp)
              have hwd := fun W => widen_any g1 g2 d tm time W d0 d1 t0 t1 j1 j2 (by omega) (by omega) (by omega) (by omega)
              generalize widenS (g1, g2) d tm time = v at *
              obtain ⟨v1, v2⟩ := v
              simp only at hwd
              obtain ⟨N, hN⟩ : ∃ N, (sel k).length = N := ⟨_, rfl⟩
              have hNk : N ≤ k := by rw [← hN, ← Hsel.out]; exact selN_length _ _ _ _ _ k
              have hnt : (Value.slice An (sel k).length cn).ownBlock ≠ some wr.heap.size := hnt0
              have hst : (Value.slice As (sel k).length cs).ownBlock ≠ some wr.heap.size := hst0
              rw [hN] at hnt hst Hn Hs Hap
              simp only [hN]
              clear hnt0 hst0
              have Hwd := hide hwd
              have Hnt := hide hnt
              obtain ⟨i0, hii, hz0, hz1, hz2⟩ := info_parts intInfo
              obtain ⟨i1, hii1, hz10, hz11, hz12⟩ := info_parts spanInfo
              have Hi := hide hii
              have Hz0 := hide hz0
              have Hz1 := hide hz1
              have Hz2 := hide hz2
              have Hi1 := hide hii1
              have Hz10 := hide hz10
              have Hz11 := hide hz11
              have Hz12 := hide hz12
              clear hii hz0 hz1 hz2 hii1 hz10 hz11 hz12
              clear hwd
              go_wp2_with fail
              have t2' := Ht.out.c 2 rfl
              have t6' := Ht.out.c 6 rfl
              have t7' := Ht.out.c 7 rfl
              have ltt := Ht.out.lt
              have hW14 : W1.heap.size ≤ w4.heap.size := Nat.le_trans hsz1 HLr.out.size
              have hltL2 : ∀ qa ∈ ((ownFill 14 (.slice As N cs)) : List (Nat × Nat)), qa.2 < w4.heap.size := fun qa hq => (Hs.out.lt _ (mem_ownFill.1 hq).2).2
              have hneL2 : ∀ qa ∈ ((ownFill 14 (.slice As N cs)) : List (Nat × Nat)), ((.slice An N cn) : Value).ownBlock ≠ some qa.2 := fun qa hq => apart_ne Hap.out (mem_ownFill.1 hq).2
              have hccL2 : ∀ qa ∈ ((ownFill 14 (.slice As N cs)) : List (Nat × Nat)), ∀ qb ∈ ((ownFill 14 (.slice As N cs)) : List (Nat × Nat)), qa.1 ≠ qb.1 → qa.2 ≠ qb.2 := fun qa ha qb hb h => absurd ((mem_ownFill.1 ha).1.trans (mem_ownFill.1 hb).1.symm) h
              refine wp_region_cut 15 (by kernel_rfl) (by simp only [List.take_succ_cons, List.take_zero]; exact rfl) (by simp only [List.drop_succ_cons, List.drop_zero]; exact rfl) (by kernel_rfl) ?_
              apply any_region_F (w0 := w4) [[], [], [], [2], [], [], [], [], [], [], [], [], [2, 3], [2, 3], [2, 3, 13]] [true, true, false, false, true, true, true, true, true, true, true, true, true, false, false] [false, false, false, false, false, false, false, false, false, false, false, false, false, false, false] [⟨2, none, [], []⟩, ⟨3, none, [2], []⟩, ⟨13, none, [], []⟩, ⟨14, none, [13], []⟩] (fillL 3 (.slice An N cn) (ownFill 14 (.slice As N cs))) [] (fun ixq y => match ixq with | 2 => .slice (y 0).1 1 1 | 3 => .slice (y 0).1 (N + 1) (y 0).2 | 13 => .slice (y 0).1 1 1 | 14 => .slice (y 0).1 (N + 1) (y 0).2 | _ => undef) (fun ixq x F wq => match ixq with | 2 => OwnF wq F w4.heap.size 3 1 (.slice (x 2 0).1 1 1) 1 #[.int .i64 (k : Int)].toList | 3 => OwnF wq F W1.heap.size 3 1 (.slice (x 3 0).1 (N + 1) (x 3 0).2) (N + 1) ((numV (sel k)) ++ (#[.int .i64 (k : Int)] : Array Value).toList) ∧ FreshOr w4.heap.size (.slice An N cn) (.slice (x 3 0).1 (N + 1) (x 3 0).2) | 13 => OwnF wq F w4.heap.size 23 2 (.slice (x 13 0).1 1 1) 1 #[.int .i64 v1, .int .i64 v2].toList | 14 => OwnF wq F W1.heap.size 23 2 (.slice (x 14 0).1 (N + 1) (x 14 0).2) (N + 1) ((spnV (sel k)) ++ (#[.int .i64 v1, .int .i64 v2] : Array Value).toList) ∧ FreshOr w4.heap.size (.slice As N cs) (.slice (x 14 0).1 (N + 1) (x 14 0).2) | _ => True) (fun a x => ((((a).put (some 80) (.slice ((x 2) 0).1 1 1)).put (some 81) (.slice ((x 3) 0).1 (N + 1) ((x 3) 0).2)).put (some 91) (.slice ((x 13) 0).1 1 1)).put (some 92) (.slice ((x 14) 0).1 (N + 1) ((x 14) 0).2)) (by kernel_rfl) (by kernel_rfl) (fun _ => rfl) [90] (by kernel_rfl) (fillL_lt (fun g hg => (Hn.out.lt g hg).2) hltL2) (fillL_ne hneL2 hccL2)
              · intro x D hD
                have hne := hD.some
                have k2 := liftS hD t2' (earlyL (by first | assumption | omega) hnt (fun q hq e => absurd ((mem_ownFill.1 hq).2.trans (congrArg some e)) hst))
                have k6 := liftS hD t6' (earlyL (by first | assumption | omega) hnt (fun q hq e => absurd ((mem_ownFill.1 hq).2.trans (congrArg some e)) hst))
                have k7 := liftS hD t7' (earlyL (by first | assumption | omega) hnt (fun q hq e => absurd ((mem_ownFill.1 hq).2.trans (congrArg some e)) hst))
                simp only [takeOps, Act.put, List.setIfInBounds_toArray, List.set_cons_succ, List.set_cons_zero]
                repeat (go_big_quiet_step ((go_at_call 67; exact calls_later hD _ (Hwd.out _))))
                exact wpQuiet_nil rfl
              · exact fun x D hD => wpQuiet_nil rfl
              · intro d hd x x'
                simp only [List.mem_cons, List.not_mem_nil, or_false] at hd
                rcases hd with rfl
                all_goals rfl
              · refine ⟨?_, ?_, ?_, ?_, trivial⟩
                · exact obl_new rfl (fun _ => by kernel_rfl) 3 (fun x => #[.int .i64 (k : Int)]) gP (fun x w => by kernel_rfl) (fun x w hle => own_new hle rfl (by unfold maxLen; omega))
                · refine obl_pushQ 40 78 80 (by kernel_rfl) W1.heap.size 3 i0 _ 1 8 Try.underlying40 Hi.out Hz0.out Hz1.out Hz2.out rfl (by decide) (.slice An N cn) N 1 ((numV (sel k))) (#[.int .i64 (k : Int)] : Array Value).toList (by first | rfl | (simp; done) | (simp; omega)) (by simp [Value.oneCell']) (by unfold maxLen; omega) (by omega) (by first | assumption | omega) (fun x w F hk hn => ?_) (fun _ => rfl) (fun _ _ _ _ h1 h2 => ⟨h1, h2⟩)
                  have hj : OwnF w (F 2) w4.heap.size 3 1 (.slice (x 2 0).1 1 1) 1 (#[.int .i64 (k : Int)] : Array Value).toList := hn 2 (by simp)
                  obtain ⟨ad, hA, hc⟩ := news_own hj (by decide)
                  exact ⟨ad, 1, rfl, row_thenL Hn.out hneL2 hk, wrL_row, (show Value.slice (x 2 0).1 1 1 = _ by rw [hA]), hc⟩
                · exact obl_new rfl (fun _ => by kernel_rfl) 23 (fun x => #[.int .i64 v1, .int .i64 v2]) gP (fun x w => by kernel_rfl) (fun x w hle => own_new hle rfl (by unfold maxLen; omega))
                · refine obl_pushQ 80 82 91 (by kernel_rfl) W1.heap.size 23 i1 _ 2 16 Try.underlying80 Hi1.out Hz10.out Hz11.out Hz12.out rfl (by decide) (.slice As N cs) N 1 ((spnV (sel k))) (#[.int .i64 v1, .int .i64 v2] : Array Value).toList (by first | rfl | (simp; done) | (simp; omega)) (by simp [Value.oneCell']) (by unfold maxLen; omega) (by omega) (by first | assumption | omega) (fun x w F hk hn => ?_) (fun _ => rfl) (fun _ _ _ _ h1 h2 => ⟨h1, h2⟩)
                  have hj : OwnF w (F 13) w4.heap.size 23 2 (.slice (x 13 0).1 1 1) 1 (#[.int .i64 v1, .int .i64 v2] : Array Value).toList := hn 13 (by simp)
                  obtain ⟨ad, hA, hc⟩ := news_own hj (by decide)
                  exact ⟨ad, 1, rfl, row_thenC Hs.out Hap.out hk, wrL_own, (show Value.slice (x 13 0).1 1 1 = _ by rw [hA]), hc⟩
              · refine ⟨?_, ?_, ?_, ?_, trivial⟩
                · refine ⟨fun x F wq wq' h hs hk => ?_, fun x x' F wq hx h => ?_⟩
                  · have h2 : OwnF wq F w4.heap.size 3 1 (.slice (x 2 0).1 1 1) 1 #[.int .i64 (k : Int)].toList := h
                    exact h2.stab hk
                  · have h2 : OwnF wq F w4.heap.size 3 1 (.slice (x 2 0).1 1 1) 1 #[.int .i64 (k : Int)].toList := h
                    rw [hx 2 (by simp)] at h2
                    exact h2
                · exact owe_pushQ 3 _ W1.heap.size (.slice An N cn) 3 1 (N + 1) ((numV (sel k)) ++ (#[.int .i64 (k : Int)] : Array Value).toList) rfl (fun _ _ _ => rfl)
                · refine ⟨fun x F wq wq' h hs hk => ?_, fun x x' F wq hx h => ?_⟩
                  · have h2 : OwnF wq F w4.heap.size 23 2 (.slice (x 13 0).1 1 1) 1 #[.int .i64 v1, .int .i64 v2].toList := h
                    exact h2.stab hk
                  · have h2 : OwnF wq F w4.heap.size 23 2 (.slice (x 13 0).1 1 1) 1 #[.int .i64 v1, .int .i64 v2].toList := h
                    rw [hx 13 (by simp)] at h2
                    exact h2
                · exact owe_pushQ 14 _ W1.heap.size (.slice As N cs) 23 2 (N + 1) ((spnV (sel k)) ++ (#[.int .i64 v1, .int .i64 v2] : Array Value).toList) rfl (fun _ _ _ => rfl)
              intro xx w5 F hK hlv2 hap2
              have apart3_14 : ∀ k, F 3 k → ¬ F 14 k := hap2 _ (List.mem_iff_getElem?.2 ⟨1, rfl⟩) _ (List.mem_iff_getElem?.2 ⟨3, rfl⟩) (by decide) (by intro t ht; simp only [List.mem_cons, List.not_mem_nil, or_false] at ht; rcases ht with rfl | rfl | rfl | rfl <;> simp) (by intro t ht; simp only [List.mem_cons, List.not_mem_nil, or_false] at ht; rcases ht with rfl | rfl | rfl | rfl <;> simp)
              clear hap2
              obtain ⟨-, fct3, -, fct14, -⟩ := hlv2
              replace fct3 : OwnF w5 (F 3) W1.heap.size 3 1 (.slice (xx 3 0).1 (N + 1) (xx 3 0).2) (N + 1) ((numV (sel k)) ++ (#[.int .i64 (k : Int)] : Array Value).toList) ∧ FreshOr w4.heap.size (.slice An N cn) (.slice (xx 3 0).1 (N + 1) (xx 3 0).2) := fct3 rfl
              replace fct14 : OwnF w5 (F 14) W1.heap.size 23 2 (.slice (xx 14 0).1 (N + 1) (xx 14 0).2) (N + 1) ((spnV (sel k)) ++ (#[.int .i64 v1, .int .i64 v2] : Array Value).toList) ∧ FreshOr w4.heap.size (.slice As N cs) (.slice (xx 14 0).1 (N + 1) (xx 14 0).2) := fct14 rfl
              refine ⟨rfl, ?_⟩
              have hb5 := below_two hK hW14 (fun g hg => (Hn.out.lt g hg).1) (fun g hg => (Hs.out.lt g hg).1)
              have HG5 := hide (HG.out.trans (Below.mono hb5 (by omega)))
              have Hg5 := hide (Hg.out.below hb5 (by omega))
              have Ha5 := hide (Ha.out.below hb5 (by omega))
              have Hap5 := hide (apart_two apart3_14 fct3.1.2 fct14.1.2)
              have Hn5 := hide fct3.1.1
              have Hs5 := hide fct14.1.1
              have hsz5 := Nat.le_trans hW14 hK.size
              clear hK fct3 fct14 apart3_14 hb5
              have hl2 : (sel (k + 1)).length = N + 1 := by rw [Hsk2.out, List.length_append, hN]; rfl
              have hn2 : numV (sel (k + 1)) = numV (sel k) ++ (#[.int .i64 (k : Int)] : Array Value).toList := by rw [Hsk2.out]; simp [numV]
              have hs2 : spnV (sel (k + 1)) = spnV (sel k) ++ (#[.int .i64 v1, .int .i64 v2] : Array Value).toList := by rw [Hsk2.out]; simp [spnV]
              go_wp2_with fail
              go_roundw
              case rel => exact ⟨k + 1, by omega, by go_num, HG5.out, hsz5, Hg5.out, Ha5.out, by rw [hl2, hn2]; exact Hn5.out, by rw [hl2, hs2]; exact Hs5.out, Hap5.out⟩
              case measure => simp [intOf] <;> omega
          · have hne1 : (rd.toList == n.toList) = false := strNe hrd
            apply wp_region_L (w0 := W3) [[], [], [], [], [], [], [], [], [], [], [], [], [], [], [], []] [true, true, true, true, true, true, true, true, true, true, true, true, true, true, true, true] [] (fun ixq y => match ixq with  | _ => undef) (fun ixq x F wq => match ixq with  | _ => True) (fun a x => a) (by kernel_rfl) (by kernel_rfl) (fun _ => rfl) [69, 75] (by kernel_rfl)
            · intro x D hD
              have hne := hD.some
              have k0 := liftB hD t0' (by first | assumption | omega)
              simp only [takeOps, Act.put, List.setIfInBounds_toArray, List.set_cons_succ, List.set_cons_zero]
              repeat (go_big_quiet_step (fail))
              exact wpQuiet_nil rfl
            · intro d hd x x'
              simp only [List.mem_cons, List.not_mem_nil, or_false] at hd
              rcases hd with rfl | rfl
              all_goals rfl
            · exact trivial
            · exact trivial
            intro xx w4 F hL4 hlv3
            clear hlv3
            clear t0' t1' x6 ltt ltk
            replace Hg := hide (blk_later Hg.out hL4)
            replace Ha := hide (blk_later Ha.out hL4)
            replace Hn := hide (own_later Hn.out hL4)
            replace Hs := hide (own_later Hs.out hL4)
            replace HG := hide (onward HG.out hL4)
            replace Hk := hide (blk_later Hk.out hL4)
            replace HLr := hide (onward HLr.out hL4)
            replace Ht := hide (blk_later Ht.out hL4)
            clear hL4
            have Hsk2 := hide (show sel (k + 1) = sel k by rw [Hsk.out]; simp [hrd])
            go_wp2
            go_roundw
            case rel => exact ⟨k + 1, by omega, by go_num, HG.out, Nat.le_trans hsz1 HLr.out.size, Hg.out, Ha.out, by rw [Hsk2.out]; exact Hn.out, by rw [Hsk2.out]; exact Hs.out, Hap.out⟩
            case measure => simp [intOf] <;> omega
        · have hkM2 : k = M := by omega
          subst hkM2
          obtain ⟨q, hq⟩ : ∃ q, sel k = q := ⟨_, rfl⟩
          obtain ⟨N, hN⟩ : ∃ N, q.length = N := ⟨_, rfl⟩
          have hNk : N ≤ k := by rw [← hN, ← hq, ← Hsel.out]; exact selN_length _ _ _ _ _ k
          rw [hq, hN] at hon hos
          rw [hq] at hR
          simp only [hq, hN]
          have hN5 : N ≤ 512 := Nat.le_trans hNk hM5
          clear hlt Hgood hM5
          have Hg := hide hqg
          have Ha := hide hqa
          have HG := hide hbw
          clear hqg hqa hbw
          have hszr := HG.out.size
          by_cases h0 : N = 0
          · have HR := hide (hR.trans (gainQ_empty (by omega)))
            have hn0 : ((N : Int) == 0) = true := beq_iff_eq.2 (by omega)
            clear hR hon hos hap
            obtain ⟨g0, g1⟩ := Hg.out.c2
            obtain ⟨a0, a1⟩ := Ha.out.c2
            have ltg := Hg.out.lt
            have lta := Ha.out.lt
            have fg0 := Hg.out.frozen 0
            have fg1 := Hg.out.frozen 1
            have fa0 := Ha.out.frozen 0
            have fa1 := Ha.out.frozen 1
            go_wp2_with fail
            go_region
            all_goals
              go_wp2
              rw [Exit.noGoto_ret]
              refine bodyPost_ret (v := gainV r) (by rw [HR.out]; simp [gainV, results, Try.results24, go_sem, g0, g1, a0, a1, ltg, lta, fg0, fg1, fa0, fa1]) rfl ⟨rfl, ?_⟩
              repeat (first | exact HG.out | (refine Below.setCell ?_ (by first | omega | (simp; done) | (simp; omega)) _) | (refine Below.alloc ?_ (by first | omega | (simp; done) | (simp; omega)) _) | (refine below_drewN ?_ _))
          · have hn0 : ((N : Int) == 0) = false := beq_eq_false_iff_ne.2 (by omega)
            obtain ⟨b1, cur1, rfl, hb1, hbl1, hc1, hcm1, hcur1⟩ := row_blk hon (by omega)
            obtain ⟨b2, cur2, rfl, hb2, hbl2, hc2, hcm2, hcur2⟩ := row_blk hos (by omega)
            have hcx1 : ∀ i, i < N → cur1[i]? = some (.int .i64 ((q.getD i (0, (0, 0))).1 : Int)) := fun i hi => hcur1 _ _ (numV_get (by omega))
            have hcx2 : ∀ i, i < N → cur2[i * 2]? = some (.int .i64 (q.getD i (0, (0, 0))).2.1) ∧ cur2[i * 2 + 1]? = some (.int .i64 (q.getD i (0, (0, 0))).2.2) := fun i hi => ⟨hcur2 _ _ (spnV_get q i (by omega)).1, hcur2 _ _ (spnV_get q i (by omega)).2⟩
            clear hcur1 hcur2 hon hos hap
            have H1 := hide hbl1
            have H2 := hide hbl2
            have Hc1 := hide hcx1
            have Hc2 := hide hcx2
            have HR := hide hR
            clear hbl1 hbl2 hcx1 hcx2 hR
            obtain ⟨m0, hm0⟩ : ∃ m0, meetQ q 0 = m0 := ⟨_, rfl⟩
            obtain ⟨u1, u2⟩ := m0
            have hz := Hc2.out 0 (by omega)
            rw [show (q.getD 0 (0, (0, 0))).2 = (u1, u2) from hm0] at hz
            have x0 := H2.out.c 0 hz.1
            have x1 := H2.out.c 1 hz.2
            have HO := hide (show w.heap.size + 1 < W1.heap.size ∧ W1.heap.size ≤ b1 ∧ W1.heap.size ≤ b2 from ⟨hszW, hb1, hb2⟩)
            clear hz
            obtain ⟨g0, g1⟩ := Hg.out.c2
            have ltg := Hg.out.lt
            have lt2 := H2.out.lt
            have fg0 := Hg.out.frozen 0
            have fg1 := Hg.out.frozen 1
            have hbn2 : b2 ≠ w.heap.size := by omega
            go_wp2_with fail
            clear x0 x1 g0 g1 ltg lt2 fg0 fg1
            have lq_Hg := Hg.out.lt
            have lq_Ha := Ha.out.lt
            have lq_HG := HG.out.size
            have lq_H1 := H1.out.lt
            have lq_H2 := H2.out.lt
            first | refine at_world fun W6 hW => ?_ | refine code_world fun W6 hW => ?_
            have q_Hg := blk_to hW (Blk.set_ (Blk.set_ Hg.out 0 _) 1 _)
            replace Hg := hide (blk_of q_Hg (show _ = #[.int .i64 u1, .int .i64 u2] from rfl))
            clear q_Hg
            have q_Ha := blk_to hW (Blk.far (Blk.far Ha.out (by have ho := HO.out; (try dsimp only); omega) _) (by have ho := HO.out; (try dsimp only); omega) _)
            replace Ha := hide q_Ha
            clear q_Ha
            replace HG := hide (to_world hW (Below.setCell (Below.setCell HG.out (by have ho := HO.out; (try dsimp only); omega) _) (by have ho := HO.out; (try dsimp only); omega) _) : Below _ _ W6)
            have q_H1 := blk_to hW (Blk.far (Blk.far H1.out (by have ho := HO.out; (try dsimp only); omega) _) (by have ho := HO.out; (try dsimp only); omega) _)
            replace H1 := hide q_H1
            clear q_H1
            have q_H2 := blk_to hW (Blk.far (Blk.far H2.out (by have ho := HO.out; (try dsimp only); omega) _) (by have ho := HO.out; (try dsimp only); omega) _)
            replace H2 := hide q_H2
            clear q_H2
            clear hW lq_Hg lq_Ha lq_HG lq_H1 lq_H2
            go_loopw [104] (fun i wr' => ∃ k2 : Nat, k2 ≤ N ∧ i = .int .i64 k2 ∧ Below w.heap.size w wr' ∧ Blk wr' w.heap.size 23 #[.int .i64 (meetQ q k2).1, .int .i64 (meetQ q k2).2] ∧ Blk wr' (w.heap.size + 1) 52 #[.int .i64 0, .int .i64 0] ∧ Blk wr' b1 3 cur1 ∧ Blk wr' b2 23 cur2) (fun i _ => N - (intOf i).toNat)
            case atStart => exact ⟨0, by omega, rfl, HG.out, by rw [hm0]; exact Hg.out, Ha.out, H1.out, H2.out⟩
            case round =>
              obtain ⟨k2, hk2N, rfl, hbw, hqg, hqa, hq1, hq2⟩ := hrel
              obtain ⟨m, hm⟩ : ∃ m, meetQ q k2 = m := ⟨_, rfl⟩
              obtain ⟨m1, m2⟩ := m
              rw [hm] at hqg
              clear HG Hg Ha H1 H2
              have Hg := hide hqg
              have Ha := hide hqa
              have HG := hide hbw
              have H1 := hide hq1
              have H2 := hide hq2
              clear hqg hqa hbw hq1 hq2
              obtain ⟨g0, g1⟩ := Hg.out.c2
              have ltg := Hg.out.lt
              have lt2 := H2.out.lt
              have fg0 := Hg.out.frozen 0
              have fg1 := Hg.out.frozen 1
              by_cases hlt2 : k2 < N
              · obtain ⟨y, hy⟩ : ∃ y, (q.getD k2 (0, (0, 0))).2 = y := ⟨_, rfl⟩
                obtain ⟨y1, y2⟩ := y
                have hz := Hc2.out k2 hlt2
                rw [hy] at hz
                have x0 := H2.out.c _ hz.1
                have x1 := H2.out.c _ hz.2
                obtain ⟨mx, hmx⟩ : ∃ mx, (if m1 < y1 then y1 else m1) = mx := ⟨_, rfl⟩
                obtain ⟨mn, hmn⟩ : ∃ mn, (if y2 < m2 then y2 else m2) = mn := ⟨_, rfl⟩
                have hmk : meetQ q (k2 + 1) = (mx, mn) := by
                  rw [meetQ, hm, hy]
                  simp only
                  have e1 : max m1 y1 = mx := by rw [← hmx]; split <;> omega
                  have e2 : min m2 y2 = mn := by rw [← hmn]; split <;> omega
                  rw [e1, e2]
                have Hmk := hide hmk
                clear hz hmk
                go_wp2_with fail
                go_roundw
                case rel =>
                  refine ⟨k2 + 1, by omega, by go_num, ?_, ?_, ?_, ?_, ?_⟩
                  · repeat (first | exact HG.out | (refine Below.setCell ?_ (by first | omega | (simp; done) | (simp; omega)) _) | (refine Below.alloc ?_ (by first | omega | (simp; done) | (simp; omega)) _) | (refine below_drewN ?_ _))
                  · exact (blk_of ((Hg.out.set_ 0 (.int .i64 mx)).set_ 1 (.int .i64 mn)) (by rw [Hmk.out]; rfl)).alloc _
                  · exact ((Ha.out.far (by simp) _).far (by simp) _).alloc _
                  · exact ((H1.out.far (by simp only; omega) _).far (by simp only; omega) _).alloc _
                  · exact ((H2.out.far (by simp only; omega) _).far (by simp only; omega) _).alloc _
                case measure => simp [intOf] <;> omega
              · have hkN : k2 = N := by omega
                subst hkN
                clear g0 g1 ltg lt2 fg0 fg1
                by_cases hle : m1 ≤ m2
                · have HR3 := hide (HR.out.trans (gainQ_meet (q := q) (by omega) (by rw [hN, hm]; exact hle)))
                  rw [hN, hm] at HR3
                  obtain ⟨g0, g1⟩ := Hg.out.c2
                  obtain ⟨a0, a1⟩ := Ha.out.c2
                  have ltg := Hg.out.lt
                  have lta := Ha.out.lt
                  have fg0 := Hg.out.frozen 0
                  have fg1 := Hg.out.frozen 1
                  have fa0 := Ha.out.frozen 0
                  have fa1 := Ha.out.frozen 1
                  go_wp2_with fail
                  go_region
                  all_goals
                    go_wp2
                    rw [Exit.noGoto_ret]
                    refine bodyPost_ret (v := gainV r) (by rw [HR3.out]; simp [gainV, results, Try.results24, go_sem, g0, g1, a0, a1, ltg, lta, fg0, fg1, fa0, fa1]) rfl ⟨rfl, ?_⟩
                    repeat (first | exact HG.out | (refine Below.setCell ?_ (by first | omega | (simp; done) | (simp; omega)) _) | (refine Below.alloc ?_ (by first | omega | (simp; done) | (simp; omega)) _) | (refine below_drewN ?_ _))
                · have HR3 := hide (HR.out.trans (gainQ_off (q := q) (by omega) (by rw [hN, hm]; exact hle)))
                  rw [hN] at HR3
                  have hle2 : decide (m1 ≤ m2) = false := decide_eq_false hle
                  obtain ⟨g0, g1⟩ := Hg.out.c2
                  have ltg := Hg.out.lt
                  go_wp2_with fail
                  go_step3
                  go_wp2_with fail
                  clear g0 g1 ltg
                  go_loopw [129] (fun i wr' => ∃ i3 : Nat, i3 ≤ k2 ∧ i = .int .i64 i3 ∧ Below w.heap.size w wr' ∧ Blk wr' w.heap.size 23 #[.int .i64 m1, .int .i64 m2] ∧ Blk wr' (w.heap.size + 1) 52 #[.int .i64 0, .int .i64 0] ∧ Blk wr' b1 3 cur1 ∧ Blk wr' b2 23 cur2 ∧ findF (offQ q) k2 i3 (k2 - i3) = findF (offQ q) k2 0 k2) (fun i _ => k2 - (intOf i).toNat)
                  case atStart => exact ⟨0, by omega, rfl, HG.out, Hg.out, Ha.out, H1.out, H2.out, rfl⟩
                  case round =>
                    obtain ⟨i3, hi3, rfl, hbw, hqg, hqa, hq1, hq2, hfi⟩ := hrel
                    clear HG Hg Ha H1 H2
                    have Hg := hide hqg
                    have Ha := hide hqa
                    have HG := hide hbw
                    have H1 := hide hq1
                    have H2 := hide hq2
                    have Hfi := hide hfi
                    clear hqg hqa hbw hq1 hq2 hfi
                    have lt2 := H2.out.lt
                    by_cases hlt3 : i3 < k2
                    · obtain ⟨x, hx⟩ : ∃ x, (q.getD i3 (0, (0, 0))).2 = x := ⟨_, rfl⟩
                      obtain ⟨x1, x2⟩ := x
                      have hz := Hc2.out i3 hlt3
                      rw [hx] at hz
                      have c0 := H2.out.c _ hz.1
                      have c1 := H2.out.c _ hz.2
                      have hs1 : (i3 : Int) + 1 ≤ k2 := by omega
                      have hs0 : (0 : Int) ≤ (i3 : Int) + 1 := by omega
                      have Hx := hide hx
                      clear hx
                      obtain ⟨Asl, hAsl⟩ : ∃ Asl : Option Addr, (if cs = i3 + 1 then some ⟨b2, 0, none⟩ else some ⟨b2, (i3 + 1) * 2, none⟩) = Asl := ⟨_, rfl⟩
                      go_wp2_with fail
                      clear c0 c1 lt2
                      have HAsl := hide hAsl
                      clear hAsl
                      have lq_Hg := Hg.out.lt
                      have lq_Ha := Ha.out.lt
                      have lq_HG := HG.out.size
                      have lq_H1 := H1.out.lt
                      have lq_H2 := H2.out.lt
                      first | refine at_world fun W8 hW => ?_ | refine code_world fun W8 hW => ?_
                      have q_Hg := blk_to hW (Blk.alloc Hg.out _)
                      replace Hg := hide q_Hg
                      clear q_Hg
                      have q_Ha := blk_to hW (Blk.alloc Ha.out _)
                      replace Ha := hide q_Ha
                      clear q_Ha
                      replace HG := hide (to_world hW (Below.alloc HG.out (by have ho := HO.out; first | omega | (simp; omega)) _) : Below _ _ W8)
                      have q_H1 := blk_to hW (Blk.alloc H1.out _)
                      replace H1 := hide q_H1
                      clear q_H1
                      have q_H2 := blk_to hW (Blk.alloc H2.out _)
                      replace H2 := hide q_H2
                      clear q_H2
                      have q_HX := blk_to hW (blk_new_at (t := 23) (cs := #[.int .i64 x1, .int .i64 x2]) (g := wr.heap.size) (by simp))
                      have HX := hide q_HX
                      clear q_HX
                      replace HO := hide (And.intro HO.out (And.intro lq_Hg (And.intro lq_Ha (And.intro lq_HG (And.intro lq_H1 lq_H2)))))
                      clear hW lq_Hg lq_Ha lq_HG lq_H1 lq_H2
                      go_loopw [139] (fun jj w9 => ∃ j : Nat, i3 + 1 + j ≤ k2 ∧ jj = .int .i64 j ∧ Below w.heap.size w w9 ∧ Blk w9 w.heap.size 23 #[.int .i64 m1, .int .i64 m2] ∧ Blk w9 (w.heap.size + 1) 52 #[.int .i64 0, .int .i64 0] ∧ Blk w9 b1 3 cur1 ∧ Blk w9 b2 23 cur2 ∧ Blk w9 wr.heap.size 23 #[.int .i64 x1, .int .i64 x2] ∧ rowF (offQ q) i3 (i3 + 1 + j) (k2 - (i3 + 1 + j)) = rowF (offQ q) i3 (i3 + 1) (k2 - (i3 + 1))) (fun jj _ => k2 - (intOf jj).toNat)
                      case atStart => exact ⟨0, by omega, rfl, HG.out, Hg.out, Ha.out, H1.out, H2.out, HX.out, rfl⟩
                      case round =>
                        obtain ⟨j, hj3, rfl, hbw, hqg, hqa, hq1, hq2, hqx, hro⟩ := hrel
                        clear HG Hg Ha H1 H2 HX
                        have Hg := hide hqg
                        have Ha := hide hqa
                        have HG := hide hbw
                        have H1 := hide hq1
                        have H2 := hide hq2
                        have HX := hide hqx
                        have Hro := hide hro
                        clear hqg hqa hbw hq1 hq2 hqx hro
                        have lt2 := H2.out.lt
                        by_cases hlt4 : i3 + 1 + j < k2
                        · obtain ⟨y, hy⟩ : ∃ y, (q.getD (i3 + 1 + j) (0, (0, 0))).2 = y := ⟨_, rfl⟩
                          obtain ⟨y1, y2⟩ := y
                          have hz := Hc2.out (i3 + 1 + j) hlt4
                          rw [hy, show (i3 + 1 + j) * 2 = (i3 + 1) * 2 + j * 2 by omega] at hz
                          have c0 := H2.out.c _ hz.1
                          have c1 := H2.out.c _ hz.2
                          obtain ⟨x0, x1'⟩ := HX.out.c2
                          have ltx := HX.out.lt
                          have hjlt : j < k2 - (i3 + 1) := by omega
                          have hAs : Asl = some ⟨b2, (i3 + 1) * 2, none⟩ := by rw [← HAsl.out, if_neg (by omega)]
                          subst hAs
                          have Hy := hide hy
                          clear hy
                          have hszr2 := HG.out.size
                          by_cases h1 : y2 < x1
                          · have h1d : decide (y2 < x1) = true := decide_eq_true h1
                            go_wp2_with fail
                            have hrow := row_hit (cf := offQ q) hlt4 (show offQ q i3 (i3 + 1 + j) = true by unfold offQ offB; rw [Hx.out, Hy.out]; simp [h1d])
                            rw [Hro.out] at hrow
                            have hfd := find_hit (cf := offQ q) hlt3 hrow
                            rw [Hfi.out] at hfd
                            have hr4 := HR3.out
                            rw [hfd] at hr4
                            obtain ⟨n1, hn1⟩ : ∃ n1 : Nat, (q.getD i3 (0, (0, 0))).1 = n1 := ⟨_, rfl⟩
                            obtain ⟨n2, hn2⟩ : ∃ n2 : Nat, (q.getD (i3 + 1 + j) (0, (0, 0))).1 = n2 := ⟨_, rfl⟩
                            simp only [atOf, hn1, hn2] at hr4
                            have hy1 := Hc1.out i3 hlt3
                            have hy2 := Hc1.out (i3 + 1 + j) hlt4
                            rw [hn1] at hy1
                            rw [hn2] at hy2
                            have HR4 := hide hr4
                            clear hrow hfd hr4 hn1 hn2 c0 c1 x0 x1' ltx lt2
                            refine code_world fun W10 hW => ?_
                            have bq0 : Blk W10 wr.heap.size 23 #[.int .i64 y1, .int .i64 y2] := by rw [hW]; exact Blk.new _ _ _
                            have LW : Later wr W10 := by rw [hW]; exact ((Below.refl _ _).alloc (Nat.le_refl _) _)
                            have szW : W10.heap.size = wr.heap.size + 1 := by rw [hW]; simp
                            clear hW
                            replace Hg := hide (blk_later Hg.out LW)
                            replace Ha := hide (blk_later Ha.out LW)
                            replace HG := hide (onward HG.out LW)
                            replace H1 := hide (blk_later H1.out LW)
                            replace H2 := hide (blk_later H2.out LW)
                            replace HX := hide (blk_later HX.out LW)
                            have HY := hide bq0
                            clear bq0 LW szW
                            have e0 := H1.out.c _ hy1
                            have e1 := H1.out.c _ hy2
                            have lt1 := H1.out.lt
                            have hab : b1 ≠ w.heap.size + 1 := by omega
                            apply wp_region_F (w0 := W10) [[], [], [0, 1], [0, 1, 2], [], [], [5], [], [5, 6, 7], [4, 5, 6, 7, 8], [4, 5, 6, 7, 8, 9], [0, 1, 2, 3, 4, 5, 6, 7, 8, 9, 10], [0, 1, 2, 3, 4, 5, 6, 7, 8, 9, 10, 11]] [true, true, true, true, true, true, true, true, true, true, true, true, false] [false, false, false, false, false, false, false, false, false, false, false, false, false] [⟨12, none, [], []⟩] [(12, (w.heap.size+1))] [12] (fun ixq y => match ixq with | 12 => undef | _ => undef) (fun ixq x F wq => match ixq with | 12 => F (w.heap.size+1) ∧ Blk wq (w.heap.size+1) 52 #[.int .i64 (n1 : Int), .int .i64 (n2 : Int)] | _ => True) (fun a x => (a).put (none) (undef)) (by kernel_rfl) (by kernel_rfl) (by kernel_rfl) (fun _ => rfl) [] (by kernel_rfl) (fills_lt1 (by omega)) fills_ne1
                            · intro x D hD
                              have hne := hD.some
                              have k0 := liftS hD e0 (by exact early_all (by first | assumption | omega) (by rfl))
                              have k1 := liftS hD e1 (by exact early_all (by first | assumption | omega) (by rfl))
                              simp only [takeOps, Act.put, List.setIfInBounds_toArray, List.set_cons_succ, List.set_cons_zero]
                              repeat (go_big_quiet_step (fail))
                              exact wpQuiet_nil rfl
                            · exact fun x D hD => wpQuiet_nil rfl
                            · exact fun _ h => absurd h (by simp)
                            · refine ⟨?_, trivial⟩
                              · exact obl_fill 52 52 7 167 (w.heap.size+1) _ (fun x => #[.int .i64 (n1 : Int), .int .i64 (n2 : Int)]) (by kernel_rfl) (fun _ => rfl) (fun _ => rfl) Ha.out eb_fill1 (by simp [wrF]) (fun _ => by kernel_rfl) (fun _ => rfl) (fun _ => by simp [Value.oneCell']) (fun _ => rfl) (fun _ _ _ _ h1 h2 => ⟨h1, h2⟩)
                            · refine ⟨?_, trivial⟩
                              · exact owe_fill (w.heap.size+1) 52 (fun x => #[.int .i64 (n1 : Int), .int .i64 (n2 : Int)]) (fun _ _ _ => rfl) (fun _ _ _ => rfl)
                            intro xr w11 F hKr hlv4
                            obtain ⟨fct12, -⟩ := hlv4
                            replace fct12 : (F 12) (w.heap.size+1) ∧ Blk w11 (w.heap.size+1) 52 #[.int .i64 (n1 : Int), .int .i64 (n2 : Int)] := fct12 rfl
                            have hbr := below_kept HG.out HG.out.size hKr (by simp)
                            have hg11 : Blk w11 w.heap.size 23 #[.int .i64 m1, .int .i64 m2] := (hKr.block _ ⟨Hg.out.lt, by simp [free]⟩).trans Hg.out
                            have ha11 := fct12.2
                            clear hKr fct12 e0 e1 lt1 HG Hg Ha
                            have HG := hide hbr
                            have Hg := hide hg11
                            have Ha := hide ha11
                            clear hbr hg11 ha11
                            obtain ⟨g0, g1⟩ := Hg.out.c2
                            obtain ⟨a0, a1⟩ := Ha.out.c2
                            have ltg := Hg.out.lt
                            have lta := Ha.out.lt
                            have fg0 := Hg.out.frozen 0
                            have fg1 := Hg.out.frozen 1
                            have fa0 := Ha.out.frozen 0
                            have fa1 := Ha.out.frozen 1
                            go_wp2_with fail
                            go_region
                            all_goals
                              go_wp2
                              rw [Exit.noGoto_ret]
                              refine bodyPost_ret (v := gainV r) (by rw [HR4.out]; simp [gainV, results, Try.results24, go_sem, g0, g1, a0, a1, ltg, lta, fg0, fg1, fa0, fa1]) rfl ⟨rfl, ?_⟩
                              repeat (first | exact HG.out | (refine Below.setCell ?_ (by first | omega | (simp; done) | (simp; omega)) _) | (refine Below.alloc ?_ (by first | omega | (simp; done) | (simp; omega)) _) | (refine below_drewN ?_ _))
                          · have h1d : decide (y2 < x1) = false := decide_eq_false h1
                            by_cases h2 : x2 < y1
                            · have h2d : decide (x2 < y1) = true := decide_eq_true h2
                              go_wp2_with fail
                              have hrow := row_hit (cf := offQ q) hlt4 (show offQ q i3 (i3 + 1 + j) = true by unfold offQ offB; rw [Hx.out, Hy.out]; simp [h2d])
                              rw [Hro.out] at hrow
                              have hfd := find_hit (cf := offQ q) hlt3 hrow
                              rw [Hfi.out] at hfd
                              have hr4 := HR3.out
                              rw [hfd] at hr4
                              obtain ⟨n1, hn1⟩ : ∃ n1 : Nat, (q.getD i3 (0, (0, 0))).1 = n1 := ⟨_, rfl⟩
                              obtain ⟨n2, hn2⟩ : ∃ n2 : Nat, (q.getD (i3 + 1 + j) (0, (0, 0))).1 = n2 := ⟨_, rfl⟩
                              simp only [atOf, hn1, hn2] at hr4
                              have hy1 := Hc1.out i3 hlt3
                              have hy2 := Hc1.out (i3 + 1 + j) hlt4
                              rw [hn1] at hy1
                              rw [hn2] at hy2
                              have HR4 := hide hr4
                              clear hrow hfd hr4 hn1 hn2 c0 c1 x0 x1' ltx lt2
                              refine code_world fun W10 hW => ?_
                              have bq0 : Blk W10 wr.heap.size 23 #[.int .i64 y1, .int .i64 y2] := by rw [hW]; exact Blk.new _ _ _
                              have LW : Later wr W10 := by rw [hW]; exact ((Below.refl _ _).alloc (Nat.le_refl _) _)
                              have szW : W10.heap.size = wr.heap.size + 1 := by rw [hW]; simp
                              clear hW
                              replace Hg := hide (blk_later Hg.out LW)
                              replace Ha := hide (blk_later Ha.out LW)
                              replace HG := hide (onward HG.out LW)
                              replace H1 := hide (blk_later H1.out LW)
                              replace H2 := hide (blk_later H2.out LW)
                              replace HX := hide (blk_later HX.out LW)
                              have HY := hide bq0
                              clear bq0 LW szW
                              have e0 := H1.out.c _ hy1
                              have e1 := H1.out.c _ hy2
                              have lt1 := H1.out.lt
                              have hab : b1 ≠ w.heap.size + 1 := by omega
                              apply wp_region_F (w0 := W10) [[], [], [0, 1], [0, 1, 2], [], [], [5], [], [5, 6, 7], [4, 5, 6, 7, 8], [4, 5, 6, 7, 8, 9], [0, 1, 2, 3, 4, 5, 6, 7, 8, 9, 10], [0, 1, 2, 3, 4, 5, 6, 7, 8, 9, 10, 11]] [true, true, true, true, true, true, true, true, true, true, true, true, false] [false, false, false, false, false, false, false, false, false, false, false, false, false] [⟨12, none, [], []⟩] [(12, (w.heap.size+1))] [12] (fun ixq y => match ixq with | 12 => undef | _ => undef) (fun ixq x F wq => match ixq with | 12 => F (w.heap.size+1) ∧ Blk wq (w.heap.size+1) 52 #[.int .i64 (n1 : Int), .int .i64 (n2 : Int)] | _ => True) (fun a x => (a).put (none) (undef)) (by kernel_rfl) (by kernel_rfl) (by kernel_rfl) (fun _ => rfl) [] (by kernel_rfl) (fills_lt1 (by omega)) fills_ne1
                              · intro x D hD
                                have hne := hD.some
                                have k0 := liftS hD e0 (by exact early_all (by first | assumption | omega) (by rfl))
                                have k1 := liftS hD e1 (by exact early_all (by first | assumption | omega) (by rfl))
                                simp only [takeOps, Act.put, List.setIfInBounds_toArray, List.set_cons_succ, List.set_cons_zero]
                                repeat (go_big_quiet_step (fail))
                                exact wpQuiet_nil rfl
                              · exact fun x D hD => wpQuiet_nil rfl
                              · exact fun _ h => absurd h (by simp)
                              · refine ⟨?_, trivial⟩
                                · exact obl_fill 52 52 7 167 (w.heap.size+1) _ (fun x => #[.int .i64 (n1 : Int), .int .i64 (n2 : Int)]) (by kernel_rfl) (fun _ => rfl) (fun _ => rfl) Ha.out eb_fill1 (by simp [wrF]) (fun _ => by kernel_rfl) (fun _ => rfl) (fun _ => by simp [Value.oneCell']) (fun _ => rfl) (fun _ _ _ _ h1 h2 => ⟨h1, h2⟩)
                              · refine ⟨?_, trivial⟩
                                · exact owe_fill (w.heap.size+1) 52 (fun x => #[.int .i64 (n1 : Int), .int .i64 (n2 : Int)]) (fun _ _ _ => rfl) (fun _ _ _ => rfl)
                              intro xr w11 F hKr hlv5
                              obtain ⟨fct12, -⟩ := hlv5
                              replace fct12 : (F 12) (w.heap.size+1) ∧ Blk w11 (w.heap.size+1) 52 #[.int .i64 (n1 : Int), .int .i64 (n2 : Int)] := fct12 rfl
                              have hbr := below_kept HG.out HG.out.size hKr (by simp)
                              have hg11 : Blk w11 w.heap.size 23 #[.int .i64 m1, .int .i64 m2] := (hKr.block _ ⟨Hg.out.lt, by simp [free]⟩).trans Hg.out
                              have ha11 := fct12.2
                              clear hKr fct12 e0 e1 lt1 HG Hg Ha
                              have HG := hide hbr
                              have Hg := hide hg11
                              have Ha := hide ha11
                              clear hbr hg11 ha11
                              obtain ⟨g0, g1⟩ := Hg.out.c2
                              obtain ⟨a0, a1⟩ := Ha.out.c2
                              have ltg := Hg.out.lt
                              have lta := Ha.out.lt
                              have fg0 := Hg.out.frozen 0
                              have fg1 := Hg.out.frozen 1
                              have fa0 := Ha.out.frozen 0
                              have fa1 := Ha.out.frozen 1
                              go_wp2_with fail
                              go_region
                              all_goals
                                go_wp2
                                rw [Exit.noGoto_ret]
                                refine bodyPost_ret (v := gainV r) (by rw [HR4.out]; simp [gainV, results, Try.results24, go_sem, g0, g1, a0, a1, ltg, lta, fg0, fg1, fa0, fa1]) rfl ⟨rfl, ?_⟩
                                repeat (first | exact HG.out | (refine Below.setCell ?_ (by first | omega | (simp; done) | (simp; omega)) _) | (refine Below.alloc ?_ (by first | omega | (simp; done) | (simp; omega)) _) | (refine below_drewN ?_ _))
                            · have h2d : decide (x2 < y1) = false := decide_eq_false h2
                              go_wp2_with fail
                              have Hmi := hide (row_miss (cf := offQ q) hlt4 (show offQ q i3 (i3 + 1 + j) = false by unfold offQ offB; rw [Hx.out, Hy.out]; simp [h1d, h2d]))
                              go_roundw
                              case rel => exact ⟨j + 1, by omega, by go_num, HG.out.alloc (by omega) _, Hg.out.alloc _, Ha.out.alloc _, H1.out.alloc _, H2.out.alloc _, HX.out.alloc _, by rw [show i3 + 1 + (j + 1) = i3 + 1 + j + 1 from rfl, ← Hmi.out, Hro.out]⟩
                              case measure => simp [intOf] <;> omega
                        · have hkj : i3 + 1 + j = k2 := by omega
                          have hro := Hro.out
                          rw [hkj, Nat.sub_self, rowF] at hro
                          have Hmi := hide (find_miss (cf := offQ q) hlt3 hro.symm)
                          clear hro
                          go_wp2
                          go_roundw
                          case rel => exact ⟨i3 + 1, by omega, by go_num, HG.out, Hg.out, Ha.out, H1.out, H2.out, by rw [← Hmi.out, Hfi.out]⟩
                          case measure => simp [intOf] <;> omega
                    · have hkN : i3 = k2 := by omega
                      subst hkN
                      have hfi := Hfi.out
                      rw [Nat.sub_self, findF] at hfi
                      have hr4 := HR3.out
                      rw [← hfi] at hr4
                      have HR4 := hide (show r = ((0, 0), (0, 0), 14) from hr4)
                      clear hr4 hfi HR3 HR
                      obtain ⟨g0, g1⟩ := Hg.out.c2
                      obtain ⟨a0, a1⟩ := Ha.out.c2
                      have ltg := Hg.out.lt
                      have lta := Ha.out.lt
                      have fg0 := Hg.out.frozen 0
                      have fg1 := Hg.out.frozen 1
                      have fa0 := Ha.out.frozen 0
                      have fa1 := Ha.out.frozen 1
                      go_wp2_with fail
                      go_region
                      all_goals
                        go_wp2
                        rw [Exit.noGoto_ret]
                        refine bodyPost_ret (v := gainV r) (by rw [HR4.out]; simp [gainV, results, Try.results24, go_sem, g0, g1, a0, a1, ltg, lta, fg0, fg1, fa0, fa1]) rfl ⟨rfl, ?_⟩
                        repeat (first | exact HG.out | (refine Below.setCell ?_ (by first | omega | (simp; done) | (simp; omega)) _) | (refine Below.alloc ?_ (by first | omega | (simp; done) | (simp; omega)) _) | (refine below_drewN ?_ _))
end Go.Proofs.Ytiggefmckomilaa
