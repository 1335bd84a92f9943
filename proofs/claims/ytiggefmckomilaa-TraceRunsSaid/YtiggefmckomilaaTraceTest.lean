/-
  A test is entered.
-/
import Derived.Test.YtiggefmckomilaaTraceDefMath
set_option linter.unusedSimpArgs false
set_option linter.unusedVariables false
namespace Go.Proofs.Ytiggefmckomilaa
open Go Go.RowKit

def Lay.restT (L : Lay) (p : Nat) : List Nat := p :: L.br :: L.bs :: L.bw :: L.bv :: (optL L.vo ++ (optL L.ve ++ (L.kb ++ L.cb.flatten)))
theorem Lay.perm_restT (L : Lay) (p : Nat) : (L.all p).Perm (L.restT p ++ optL L.vt) := by
  refine List.perm_iff_count.2 fun a => ?_
  simp only [Lay.all, Lay.restT, List.count_cons, List.count_append]
  omega
theorem Lay.perm_tests (L : Lay) (p : Nat) (v : Value) : (Lay.all { L with vt := v } p).Perm (L.restT p ++ (optL v ++ [])) := by
  refine List.perm_iff_count.2 fun a => ?_
  simp only [Lay.all, Lay.restT, List.count_cons, List.count_append, List.count_nil]
  omega
theorem mem_allT {L : Lay} {p k : Nat} : k ∈ L.all p ↔ k ∈ L.restT p ++ optL L.vt := (L.perm_restT p).mem_iff
/-- The book, when the test is in its list. -/
theorem bookQ_test {l : List Ent} {p : Nat} {L : Lay} {w w5 : World} {t : Tst} {v : Value} (h : BookR l p L w) (hok : okEnt l (.test t) = true)
    (hbk : Blk w5 p 98 (bookC { L with vt := v })) (hts : w5.ownsRow 0 113 8 v ((testsT l).length + 1) (testRows l L.kb ++ testC l L.kb t))
    (hat : v.ownBlock = L.vt.ownBlock ∨ ∃ g, v.ownBlock = some g ∧ w.heap.size ≤ g)
    (hk : ∀ k, k < w.heap.size → k ≠ p → L.vt.ownBlock ≠ some k → w5.heap[k]? = w.heap[k]?) : BookQ (.test t) l p { L with vt := v } w5 := by
  have hlt := h.lt
  have hnd' := h.nodup
  rw [(L.perm_restT p).nodup_iff] at hnd'
  have hn1 := (List.nodup_append.1 hnd').1
  have hn3 := (List.nodup_append.1 hnd').2.2
  have key : ∀ k ∈ L.br :: L.bs :: L.bw :: L.bv :: (optL L.vo ++ (optL L.ve ++ (L.kb ++ L.cb.flatten))), w5.heap[k]? = w.heap[k]? := fun k hm' => by
    have hmem : k ∈ L.restT p := List.mem_cons_of_mem _ hm'
    refine hk k (hlt k (mem_allT.2 (List.mem_append_left _ hmem))) (fun e => ?_) fun e => hn3 k hmem k (optL_iff.2 e) rfl
    unfold Lay.restT at hn1
    rw [List.nodup_cons] at hn1
    exact hn1.1 (e ▸ hm')
  obtain ⟨c6, h6a, h6⟩ := h.wd
  obtain ⟨c7, h7a, h7⟩ := h.void
  refine ⟨⟨hok, h.good⟩, ?_, hbk, h.radars.stab (key _ (by simp)), h.stds.stab (key _ (by simp)), ⟨c6, by simp; omega, h6.stab (key _ (by simp))⟩, ⟨c7, Nat.le_trans h7a (Nat.mul_le_mul (by simp) (by simp)), h7.stab (key _ (by simp))⟩,
    own_stabT h.order fun g hg => key g (by simp [optL_mem hg]), hts, own_stabT h.entries fun g hg => key g (by simp [optL_mem hg]), h.knowns.stab fun k h' => key k (by simp [h']), h.caps.stab fun k h' => key k ?_⟩
  · rw [(L.perm_tests p v).nodup_iff]
    refine nodup_gen (B := w.heap.size) hnd' (fun k hk' => hlt k (mem_allT.2 hk')) (by simp) (fun k hk' => by cases hk') ?_
    rcases hat with h1 | ⟨g, h1, h2⟩
    · exact .inl h1
    · exact .inr ⟨g, h1, h2, by simp⟩
  · simp only [List.mem_cons, List.mem_append]
    exact .inr (.inr (.inr (.inr (.inr (.inr (.inr h'))))))

set_option maxHeartbeats 4000000 in
set_option maxRecDepth 100000 in
theorem Test_any (l : List Ent) (p : Nat) (L : Lay) (rd sd : ByteArray) (tm lo hi : Int) (w : World) (hb : BookR l p L w) (hrn : rd.size ≤ maxLen) (hsn : sd.size ≤ maxLen) :
    Calls Try.prog 23 #[ptrB p, .agg #[.string rd, .string sd, .int .i64 tm, .int .i64 lo, .int .i64 hi]] w fun e w' => e = .returned (.tuple #[.int .i64 (if testE l ⟨rd, sd, tm, lo, hi⟩ = 0 then ((testsT l).length : Int) else 0), .int .i64 (testE l ⟨rd, sd, tm, lo, hi⟩)]) ∧ EntPost l p L w (.test ⟨rd, sd, tm, lo, hi⟩) (testE l ⟨rd, sd, tm, lo, hi⟩) w' := by
  obtain ⟨S, hS⟩ : ∃ S : Tst, S = ⟨rd, sd, tm, lo, hi⟩ := ⟨_, rfl⟩
  have hE : testE l S = if 2000 ≤ l.length then 13 else match driftT l rd, stdT l sd with
    | some _, some s => if 512 ≤ (testsT l).length then 9 else if (inR tm 0 4294967296 && inS lo hi 1 1000000000) = false then 3 else if (voidT l sd || !inR tm s.time s.stop) = true then 22 else 0
    | _, _ => 4 := by subst hS; rfl
  rw [← hS]
  obtain ⟨Ao, co, At, ct, Ae, ce, e1, e2, e3, hk⟩ := hb.cells
  have hp := fun (ev : Int) (W : World) (h : Below w.heap.size w W) (he : ev ≠ 0) => EntPost.same (x := .test S) (ev := ev) hb h he
  have hlr := fun W hw => look_radar (W := W) hb hw hrn
  have hls := fun W hw => look_std (W := W) hb hw hsn
  have hlv := fun W hw => look_void (W := W) hb hw hsn
  have hwi := fun W => within_any tm 0 4294967296 W
  have hin := fun W => inside_any lo hi 1 1000000000 W
  generalize hr : testE l S = r at *
  unfold ptrB
  have hst := fun W (h : Below w.heap.size w W) => state_any p l.length ce _ _ _ _ _ _ Ae W (blk_later hk h)
  have Hk := hide hk
  have Hp := hide hp
  have Hlr := hide hlr
  have Hls := hide hls
  have Hlv := hide hlv
  have Hwi := hide hwi
  have Hin := hide hin
  have Hst := hide hst
  have HS := hide hS
  clear hk hp hlr hls hlv hwi hin hst hS
  by_cases c1 : 2000 ≤ l.length
  · rw [if_pos c1] at hE
    have hs13 : stateE l.length = 13 := by unfold stateE; rw [if_pos c1]
    rw [hs13] at Hst
    clear c1 hs13
    go_enter Try.func23, Try.ntmps23
    have HB := hide (Below.refl w.heap.size w)
    go_wp2_with fail
    refine at_world fun W1 hW => ?_
    have bq0 : Blk W1 w.heap.size 51 #[.string rd, .string sd, .int .i64 tm, .int .i64 lo, .int .i64 hi] := by rw [hW]; exact Blk.new _ _ _
    have LW : Later w W1 := by rw [hW]; exact ((Below.refl _ _).alloc (Nat.le_refl _) _)
    have szW : W1.heap.size = w.heap.size + 1 := by rw [hW]; simp
    clear hW
    replace HB := hide (onward HB.out LW)
    replace Hk := hide (blk_later Hk.out LW)
    have Hs := hide bq0
    clear bq0 LW szW
    refine (Hst.out _ HB.out).mono ?_
    rintro e w2 ⟨rfl, hb⟩
    replace HB := hide (onward HB.out hb)
    replace Hk := hide (blk_later Hk.out hb)
    replace Hs := hide (blk_later Hs.out hb)
    clear hb
    subst hE
    go_wp2
    go_ret2
    exact ⟨by simp, Hp.out 13 _ HB.out (by decide)⟩
  · rw [if_neg c1] at hE
    have hs0 : stateE l.length = 0 := by unfold stateE; rw [if_neg c1]
    rw [hs0] at Hst
    clear hs0
    go_enter Try.func23, Try.ntmps23
    have HB := hide (Below.refl w.heap.size w)
    go_wp2_with fail
    refine at_world fun W1 hW => ?_
    have bq0 : Blk W1 w.heap.size 51 #[.string rd, .string sd, .int .i64 tm, .int .i64 lo, .int .i64 hi] := by rw [hW]; exact Blk.new _ _ _
    have LW : Later w W1 := by rw [hW]; exact ((Below.refl _ _).alloc (Nat.le_refl _) _)
    have szW : W1.heap.size = w.heap.size + 1 := by rw [hW]; simp
    clear hW
    replace HB := hide (onward HB.out LW)
    replace Hk := hide (blk_later Hk.out LW)
    have Hs := hide bq0
    clear bq0 LW szW
    refine (Hst.out _ HB.out).mono ?_
    rintro e w2 ⟨rfl, hb⟩
    replace HB := hide (onward HB.out hb)
    replace Hk := hide (blk_later Hk.out hb)
    replace Hs := hide (blk_later Hs.out hb)
    clear hb
    go_wp2_with fail
    obtain ⟨x0, x1, x2, x3, x4, x5, x6, x7⟩ := Hk.out.c8
    obtain ⟨s0, s1, s2, s3, s4⟩ := Hs.out.c5
    have ltk := Hk.out.lt
    have lts := Hs.out.lt
    apply wp_region_L (w0 := w2) [[], [], [], [], [], [], [], [], [], [], [], []] [true, true, true, true, true, true, true, true, true, true, true, true] [] (fun ixq y => match ixq with  | _ => undef) (fun ixq x F wq => match ixq with  | _ => True) (fun a x => a) (by kernel_rfl) (by kernel_rfl) (fun _ => rfl) [18, 23] (by kernel_rfl)
    · intro x D hD
      have hne := hD.some
      have k1 := liftB hD x1 (by first | assumption | omega)
      have kn := liftB hD s0 (by first | assumption | omega)
      have hlk := fun (x : Of D) => Hlr.out x.val (onward HB.out (kb hD x))
      simp only [takeOps, Act.put, List.setIfInBounds_toArray, List.set_cons_succ, List.set_cons_zero]
      repeat (go_big_quiet_step (fail))
      exact wpQuiet_nil rfl
    · intro d hd x x'
      simp only [List.mem_cons, List.not_mem_nil, or_false] at hd
      rcases hd with rfl | rfl
      all_goals rfl
    · exact trivial
    · exact trivial
    intro xx w3 F hL3 hlv1
    clear hlv1
    clear x0 x1 x2 x3 x4 x5 x6 x7 s0 s1 s2 s3 s4 ltk lts
    replace HB := hide (onward HB.out hL3)
    replace Hk := hide (blk_later Hk.out hL3)
    replace Hs := hide (blk_later Hs.out hL3)
    clear hL3
    go_wp2_with fail
    obtain ⟨x0, x1, x2, x3, x4, x5, x6, x7⟩ := Hk.out.c8
    obtain ⟨s0, s1, s2, s3, s4⟩ := Hs.out.c5
    have ltk := Hk.out.lt
    have lts := Hs.out.lt
    apply wp_region_L (w0 := w3) [[], [], [], [], [], [], [], []] [true, true, true, true, true, true, true, true] [] (fun ixq y => match ixq with  | _ => undef) (fun ixq x F wq => match ixq with  | _ => True) (fun a x => a) (by kernel_rfl) (by kernel_rfl) (fun _ => rfl) [27, 32] (by kernel_rfl)
    · intro x D hD
      have hne := hD.some
      have k2 := liftB hD x2 (by first | assumption | omega)
      have kn := liftB hD s1 (by first | assumption | omega)
      have hlk := fun (x : Of D) => Hls.out x.val (onward HB.out (kb hD x))
      simp only [takeOps, Act.put, List.setIfInBounds_toArray, List.set_cons_succ, List.set_cons_zero]
      repeat (go_big_quiet_step (fail))
      exact wpQuiet_nil rfl
    · intro d hd x x'
      simp only [List.mem_cons, List.not_mem_nil, or_false] at hd
      rcases hd with rfl | rfl
      all_goals rfl
    · exact trivial
    · exact trivial
    intro xx w4 F hL4 hlv2
    clear hlv2
    clear x0 x1 x2 x3 x4 x5 x6 x7 s0 s1 s2 s3 s4 ltk lts
    replace HB := hide (onward HB.out hL4)
    replace Hk := hide (blk_later Hk.out hL4)
    replace Hs := hide (blk_later Hs.out hL4)
    clear hL4
    cases hdr : driftT l rd with
    | none =>
      rw [hdr] at hE
      simp only at hE
      subst hE
      go_wp2
      go_ret2
      exact ⟨by simp, Hp.out 4 _ HB.out (by decide)⟩
    | some d0 =>
      cases hsd : stdT l sd with
      | none =>
        rw [hdr, hsd] at hE
        simp only at hE
        rw [ptr_none hsd]
        unfold addrO
        simp only [Option.map_none]
        subst hE
        go_wp2
        go_ret2
        exact ⟨by simp, Hp.out 4 _ HB.out (by decide)⟩
      | some q =>
        rw [hdr, hsd] at hE
        simp only at hE
        obtain ⟨hq, hqn, hqm⟩ := good_std hb.good hsd
        obtain ⟨b, hpt, hbm, hbk0⟩ := known_get hb.good hb.knowns hsd
        have hbl := hb.lt b (by unfold Lay.all; simp [hbm])
        have Hpar := hide (blk_later hbk0 HB.out)
        rw [hpt]
        have haO : addrO (some b) = some ⟨b, 0, none⟩ := rfl
        rw [haO]
        clear haO
        have hho := fun W hk => holds_any q (parO l L.kb q) (madeT l sd) b tm W hk
        obtain ⟨x0, x1, x2, x3, x4, x5, x6, x7⟩ := Hk.out.c8
        obtain ⟨s0, s1, s2, s3, s4⟩ := Hs.out.c5
        have ltk := Hk.out.lt
        have lts := Hs.out.lt
        by_cases c2 : 512 ≤ (testsT l).length
        · rw [if_pos c2] at hE
          have c2' : (512 : Int) ≤ (testsT l).length := by omega
          subst hE
          go_wp2
          go_ret2
          exact ⟨by simp, Hp.out 9 _ HB.out (by decide)⟩
        · rw [if_neg c2] at hE
          have c2' : ¬ (512 : Int) ≤ (testsT l).length := by omega
          go_wp2_with fail
          refine (Hwi.out _).mono ?_
          rintro e w' ⟨rfl, rfl⟩
          cases hi0 : inR tm 0 4294967296 with
          | false =>
            rw [hi0] at hE
            rw [if_pos (by rfl)] at hE
            subst hE
            go_wp2
            go_ret2
            exact ⟨by simp, Hp.out 3 _ HB.out (by decide)⟩
          | true =>
            rw [hi0] at hE
            go_wp2_with fail
            clear x0 x1 x2 x3 x4 x5 x6 x7 s0 s1 s2 s3 s4 ltk lts
            refine (Hin.out _).mono ?_
            rintro e w5 ⟨rfl, hb⟩
            replace HB := hide (onward HB.out hb)
            replace Hk := hide (blk_later Hk.out hb)
            replace Hs := hide (blk_later Hs.out hb)
            replace Hpar := hide (blk_later Hpar.out hb)
            clear hb
            cases hi1 : inS lo hi 1 1000000000 with
            | false =>
              rw [hi1] at hE
              rw [if_pos (by rfl)] at hE
              subst hE
              go_wp2
              go_ret2
              exact ⟨by simp, Hp.out 3 _ HB.out (by decide)⟩
            | true =>
              rw [hi1] at hE
              rw [if_neg (by simp)] at hE
              obtain ⟨j1, j2⟩ := inR_iff.1 hi0
              obtain ⟨y1, y2, y3⟩ := inS_iff.1 hi1
              go_wp2_with fail
              generalize hvd : voidT l sd = vd at *
              obtain ⟨x0, x1, x2, x3, x4, x5, x6, x7⟩ := Hk.out.c8
              obtain ⟨s0, s1, s2, s3, s4⟩ := Hs.out.c5
              have ltk := Hk.out.lt
              have lts := Hs.out.lt
              cases vd with
              | true =>
                rw [if_pos (by simp)] at hE
                apply wp_region_L (w0 := w5) [[], [], [], [], [], [], [], [], [], [], [], [], [], [], []] [true, true, true, true, true, true, true, true, true, true, true, true, true, true, true] [] (fun ixq y => match ixq with  | _ => undef) (fun ixq x F wq => match ixq with  | _ => True) (fun a x => a) (by kernel_rfl) (by kernel_rfl) (fun _ => rfl) [60, 65, 70] (by kernel_rfl)
                · intro x D hD
                  have hne := hD.some
                  have k6 := liftB hD x6 (by first | assumption | omega)
                  have k1 := liftB hD s1 (by first | assumption | omega)
                  have hlk := fun (x : Of D) => Hlv.out x.val (onward HB.out (kb hD x))
                  simp only [takeOps, Act.put, List.setIfInBounds_toArray, List.set_cons_succ, List.set_cons_zero]
                  repeat (go_big_quiet_step (fail))
                  exact wpQuiet_nil rfl
                · intro d hd x x'
                  simp only [List.mem_cons, List.not_mem_nil, or_false] at hd
                  rcases hd with rfl | rfl | rfl
                  all_goals rfl
                · exact trivial
                · exact trivial
                intro xx w6 F hL6 hlv3
                clear hlv3
                clear x0 x1 x2 x3 x4 x5 x6 x7 s0 s1 s2 s3 s4 ltk lts
                replace HB := hide (onward HB.out hL6)
                replace Hk := hide (blk_later Hk.out hL6)
                replace Hs := hide (blk_later Hs.out hL6)
                replace Hpar := hide (blk_later Hpar.out hL6)
                clear hL6
                subst hE
                go_wp2
                go_ret2
                exact ⟨by simp, Hp.out 22 _ HB.out (by decide)⟩
              | false =>
                apply wp_region_L (w0 := w5) [[], [], [], [], [], [], [], [], [], [], [], [], [], [], []] [true, true, true, true, true, true, true, true, true, true, true, true, true, true, true] [] (fun ixq y => match ixq with  | _ => undef) (fun ixq x F wq => match ixq with  | _ => True) (fun a x => a) (by kernel_rfl) (by kernel_rfl) (fun _ => rfl) [60, 65, 70] (by kernel_rfl)
                · intro x D hD
                  have hne := hD.some
                  have k6 := liftB hD x6 (by first | assumption | omega)
                  have k1 := liftB hD s1 (by first | assumption | omega)
                  have k2 := liftB hD s2 (by first | assumption | omega)
                  have hlk := fun (x : Of D) => Hlv.out x.val (onward HB.out (kb hD x))
                  simp only [takeOps, Act.put, List.setIfInBounds_toArray, List.set_cons_succ, List.set_cons_zero]
                  repeat (go_big_quiet_step ((go_at_call 62; exact calls_later hD _ (hho _ (blk_later Hpar.out (kb hD _))))))
                  exact wpQuiet_nil rfl
                · intro d hd x x'
                  simp only [List.mem_cons, List.not_mem_nil, or_false] at hd
                  rcases hd with rfl | rfl | rfl
                  all_goals rfl
                · exact trivial
                · exact trivial
                intro xx w6 F hL6 hlv4
                clear hlv4
                clear x0 x1 x2 x3 x4 x5 x6 x7 s0 s1 s2 s3 s4 ltk lts
                replace HB := hide (onward HB.out hL6)
                replace Hk := hide (blk_later Hk.out hL6)
                replace Hs := hide (blk_later Hs.out hL6)
                replace Hpar := hide (blk_later Hpar.out hL6)
                clear hL6
                cases hin4 : inR tm q.time q.stop with
                | false =>
                  rw [if_pos (by rw [hin4]; rfl)] at hE
                  subst hE
                  go_wp2
                  go_ret2
                  exact ⟨by simp, Hp.out 22 _ HB.out (by decide)⟩
                | true =>
                  rw [if_neg (by rw [hin4]; simp)] at hE
                  obtain ⟨j3, j4⟩ := inR_iff.1 hin4
                  have hra := fun W hk => at_any q (parO l L.kb q) (madeT l sd) b tm W hk hq hqm j1 j2
                  have hvv : valueT l q tm = widenS (madeT l sd) q.drift q.time tm := by unfold valueT; rw [hqn]
                  have hvb := widenS_bd (s := madeT l sd) (d := q.drift) (f := q.time) (t := tm) hq.d0 hq.d1 hq.t0 (by have := hq.t1; have := hq.t2; omega) j1 j2 hqm.2.1 (by have := hqm.1; have := hqm.2.1; omega)
                  have hvc := hqm.2.2
                  have hgS : gainT l S = (max 1 (1000 * lo / (valueT l q tm).2), upD (1000 * hi) (valueT l q tm).1) := by
                    rw [HS.out]
                    unfold gainT
                    simp only [hsd]
                  rw [← hvv] at hra hvb
                  generalize valueT l q tm = v at *
                  obtain ⟨v1, v2⟩ := v
                  simp only at hra hvb hgS
                  have hup := fun W => up_any (1000 * hi) v1 W (by omega) hvb.1 (by omega) (by omega)
                  obtain ⟨u1, u2, -⟩ := div_bd (a := 1000 * lo) (b := v2) (by omega) (by omega)
                  obtain ⟨g1, hg1⟩ : ∃ g1 : Int, (if 1 < 1000 * lo / v2 then 1000 * lo / v2 else 1) = g1 := ⟨_, rfl⟩
                  rw [show max 1 (1000 * lo / v2) = g1 by rw [← hg1, Int.max_def]; split <;> split <;> omega] at hgS
                  generalize upD (1000 * hi) v1 = g2 at *
                  have Hup := hide hup
                  have Hra := hide hra
                  have HgS := hide hgS
                  clear hup hra hgS
                  obtain ⟨x0, x1, x2, x3, x4, x5, x6, x7⟩ := Hk.out.c8
                  obtain ⟨s0, s1, s2, s3, s4⟩ := Hs.out.c5
                  have ltk := Hk.out.lt
                  have lts := Hs.out.lt
                  go_wp2_with fail
                  clear x0 x1 x2 x3 x4 x5 x6 x7 s0 s1 s2 s3 s4 ltk lts
                  refine (Hra.out _ Hpar.out).mono ?_
                  rintro e w7 ⟨rfl, hb⟩
                  replace HB := hide (onward HB.out hb)
                  replace Hk := hide (blk_later Hk.out hb)
                  replace Hs := hide (blk_later Hs.out hb)
                  replace Hpar := hide (blk_later Hpar.out hb)
                  clear hb
                  have HW7 := hide HB.out
                  go_wp2_with fail
                  clear Hpar
                  refine code_world fun w8 hW => ?_
                  have bq0 : Blk w8 w7.heap.size 23 #[.int .i64 v1, .int .i64 v2] := by rw [hW]; exact Blk.new _ _ _
                  have LW : Later w7 w8 := by rw [hW]; exact ((Below.refl _ _).alloc (Nat.le_refl _) _)
                  have szW : w8.heap.size = w7.heap.size + 1 := by rw [hW]; simp
                  clear hW
                  replace HB := hide (onward HB.out LW)
                  replace Hk := hide (blk_later Hk.out LW)
                  replace Hs := hide (blk_later Hs.out LW)
                  have Hv := hide bq0
                  clear bq0 LW szW
                  have hok : okEnt l (.test S) = true := by show (testE l S == 0) = true; rw [hr, hE]; rfl
                  have hnd2 := hb.nodup
                  rw [(L.perm_restT p).nodup_iff, List.nodup_append] at hnd2
                  have htp : (Value.slice At (testsT l).length ct).ownBlock ≠ some p := fun e => hnd2.2.2 p (by simp [Lay.restT]) p (optL_iff.2 (by rw [e2]; exact e)) rfl
                  have hep : L.ve.ownBlock ≠ some p := fun e => by
                    have hnd := hb.nodup
                    unfold Lay.all at hnd
                    rw [List.nodup_cons] at hnd
                    exact hnd.1 (by simp [optL_mem e])
                  clear hnd2
                  have hsz7 := HB.out.size
                  have hlt7 := Hv.out.lt
                  have hts : (Value.slice At (testsT l).length ct).ownBlock ≠ some w.heap.size := fun e => by have := hb.lt _ (mem_allT.2 (List.mem_append_right _ (optL_iff.2 (by rw [e2]; exact e)))); omega
                  have hsv : w.heap.size ≤ w7.heap.size := HW7.out.size
                  have htv : (Value.slice At (testsT l).length ct).ownBlock ≠ some w7.heap.size := fun e => by have := hb.lt _ (mem_allT.2 (List.mem_append_right _ (optL_iff.2 (by rw [e2]; exact e)))); omega
                  have hpl := hb.lt p (by simp [Lay.all])
                  have Htr := hide (e2 ▸ (hb.later HB.out).tests : w8.ownsRow 0 113 8 (.slice At (testsT l).length ct) (testsT l).length (testRows l L.kb))
                  obtain ⟨M, hM⟩ : ∃ M, (testsT l).length = M := ⟨_, rfl⟩
                  rw [hM] at htp hts htv Htr Hk c2 c2'
                  simp only [hM]
                  have HneT := hide htp
                  obtain ⟨i0, hii, hz0, hz1, hz2⟩ := info_parts readInfo
                  have Hi := hide hii
                  have Hz0 := hide hz0
                  have Hz1 := hide hz1
                  have Hz2 := hide hz2
                  clear hii hz0 hz1 hz2
                  obtain ⟨x0, x1, x2, x3, x4, x5, x6, x7⟩ := Hk.out.c8
                  obtain ⟨s0, s1, s2, s3, s4⟩ := Hs.out.c5
                  have ltk := Hk.out.lt
                  have lts := Hs.out.lt
                  obtain ⟨a0, a1⟩ := Hv.out.c2
                  apply wp_region_F (w0 := w8) [[], [], [1], [1, 2], [1, 2, 3], [], [], [], [7], [7, 8], [7, 8, 9], [], [11], [7, 8, 9, 10, 11, 12], [7, 8, 9, 10, 11, 12, 13], [], [15], [15, 16], [15, 16, 17], [], [19], [15, 16, 17, 18, 19, 20], [7, 8, 9, 10, 11, 12, 13, 14, 15, 16, 17, 18, 19, 20, 21], [5, 6, 7, 8, 9, 10, 11, 12, 13, 14, 15, 16, 17, 18, 19, 20, 21, 22], [5, 6, 7, 8, 9, 10, 11, 12, 13, 14, 15, 16, 17, 18, 19, 20, 21, 22, 23], [1, 2, 3, 4, 5, 6, 7, 8, 9, 10, 11, 12, 13, 14, 15, 16, 17, 18, 19, 20, 21, 22, 23, 24], [0, 1, 2, 3, 4, 5, 6, 7, 8, 9, 10, 11, 12, 13, 14, 15, 16, 17, 18, 19, 20, 21, 22, 23, 24, 25], [0, 1, 2, 3, 4, 5, 6, 7, 8, 9, 10, 11, 12, 13, 14, 15, 16, 17, 18, 19, 20, 21, 22, 23, 24, 25, 26], [0, 1, 2, 3, 4, 5, 6, 7, 8, 9, 10, 11, 12, 13, 14, 15, 16, 17, 18, 19, 20, 21, 22, 23, 24, 25, 26, 27]] [true, true, true, true, true, true, true, true, true, true, true, true, true, true, true, true, true, true, true, true, true, true, true, true, false, false, true, true, false] [false, false, false, false, false, false, false, false, false, false, false, false, false, false, false, false, false, false, false, false, false, false, false, false, false, false, false, false, false] [⟨24, none, [], []⟩, ⟨25, none, [24], []⟩, ⟨28, none, [], [25]⟩] (fillQ 25 (.slice At M ct) 28 p) [28] (fun ixq y => match ixq with | 24 => .slice (y 0).1 1 1 | 25 => .slice (y 0).1 (M + 1) (y 0).2 | 28 => undef | _ => undef) (fun ixq x F wq => match ixq with | 24 => OwnF wq F w8.heap.size 113 8 (.slice (x 24 0).1 1 1) 1 #[.string rd, .string sd, .int .i64 tm, .int .i64 lo, .int .i64 hi, .pointer (some ⟨b, 0, none⟩), .int .i64 g1, .int .i64 g2].toList | 25 => OwnF wq F 0 113 8 (.slice (x 25 0).1 (M + 1) (x 25 0).2) (M + 1) ((testRows l L.kb) ++ (#[.string rd, .string sd, .int .i64 tm, .int .i64 lo, .int .i64 hi, .pointer (some ⟨b, 0, none⟩), .int .i64 g1, .int .i64 g2] : Array Value).toList) ∧ FreshOr w8.heap.size (.slice At M ct) (.slice (x 25 0).1 (M + 1) (x 25 0).2) | 28 => F p ∧ Blk wq p 98 #[.bool true, .map (some L.br), .map (some L.bs), .slice Ao (stdsT l).length co, .slice (x 25 0).1 (M + 1) (x 25 0).2, .map (some L.bw), .map (some L.bv), .slice Ae l.length ce] | _ => True) (fun a x => (((a).put (some 101) (.slice ((x 24) 0).1 1 1)).put (some 102) (.slice ((x 25) 0).1 (M + 1) ((x 25) 0).2)).put (none) (undef)) (by kernel_rfl) (by kernel_rfl) (by kernel_rfl) (fun _ => rfl) [79, 98, 103] (by kernel_rfl) (fillQ_lt (fun g hg => (Htr.out.lt g hg).2) (by omega)) (fillQ_ne HneT.out)
                  · intro x D hD
                    have hne := hD.some
                    have k4 := liftS hD x4 (earlyQ (by first | assumption | omega) HneT.out)
                    have n0 := liftS hD s0 (earlyQ (by first | assumption | omega) hts)
                    have n1 := liftS hD s1 (earlyQ (by first | assumption | omega) hts)
                    have n2 := liftS hD s2 (earlyQ (by first | assumption | omega) hts)
                    have n3 := liftS hD s3 (earlyQ (by first | assumption | omega) hts)
                    have n4 := liftS hD s4 (earlyQ (by first | assumption | omega) hts)
                    have m0 := liftS hD a0 (earlyQ (by first | assumption | omega) htv)
                    have m1 := liftS hD a1 (earlyQ (by first | assumption | omega) htv)
                    simp only [takeOps, Act.put, List.setIfInBounds_toArray, List.set_cons_succ, List.set_cons_zero]
                    repeat (go_big_quiet_step ((go_at_call 54; exact calls_same _ (Hup.out _))))
                    exact wpQuiet_nil rfl
                  · exact fun x D hD => wpQuiet_nil rfl
                  · intro d hd x x'
                    simp only [List.mem_cons, List.not_mem_nil, or_false] at hd
                    rcases hd with rfl | rfl | rfl
                    all_goals rfl
                  · refine ⟨?_, ?_, ?_, trivial⟩
                    · exact obl_new rfl (fun _ => by kernel_rfl) 113 (fun x => #[.string rd, .string sd, .int .i64 tm, .int .i64 lo, .int .i64 hi, .pointer (some ⟨b, 0, none⟩), .int .i64 g1, .int .i64 g2]) gP (fun x w => by kernel_rfl) (fun x w hle => own_new hle rfl (by unfold maxLen; omega))
                    · refine obl_pushQ 94 81 101 (by kernel_rfl) 0 113 i0 _ 8 80 Try.underlying94 Hi.out Hz0.out Hz1.out Hz2.out rfl (by decide) (.slice At M ct) M 1 ((testRows l L.kb)) (#[.string rd, .string sd, .int .i64 tm, .int .i64 lo, .int .i64 hi, .pointer (some ⟨b, 0, none⟩), .int .i64 g1, .int .i64 g2] : Array Value).toList (by first | rfl | (simp; done) | (simp; omega)) (by simp [Value.oneCell']) (by unfold maxLen; omega) (by omega) (by first | assumption | omega) (fun x w F hk hn => ?_) (fun _ => rfl) (fun _ _ _ _ h1 h2 => ⟨h1, h2⟩)
                      have hj : OwnF w (F 24) w8.heap.size 113 8 (.slice (x 24 0).1 1 1) 1 (#[.string rd, .string sd, .int .i64 tm, .int .i64 lo, .int .i64 hi, .pointer (some ⟨b, 0, none⟩), .int .i64 g1, .int .i64 g2] : Array Value).toList := hn 24 (by simp)
                      obtain ⟨ad, hA, hc⟩ := news_own hj (by decide)
                      exact ⟨ad, 1, rfl, row_thenQ Htr.out HneT.out hk, wrQ_row, (show Value.slice (x 24 0).1 1 1 = _ by rw [hA]), hc⟩
                    · exact obl_setv 94 98 104 102 p 4 _ (fun x => .slice (x 25 0).1 (M + 1) (x 25 0).2) (fun x => #[.bool true, .map (some L.br), .map (some L.bs), .slice Ao (stdsT l).length co, .slice (x 25 0).1 (M + 1) (x 25 0).2, .map (some L.bw), .map (some L.bv), .slice Ae l.length ce]) (by kernel_rfl) (fun _ => rfl) (fun _ => rfl) (fun _ => rfl) Hk.out (ebQ_set HneT.out) wrQ_set (by kernel_rfl) (by first | assumption | (simp; done)) (fun _ => rfl) (fun _ => rfl) (fun _ _ _ _ h1 h2 => ⟨h1, h2⟩)
                  · refine ⟨?_, ?_, ?_, trivial⟩
                    · refine ⟨fun x F wq wq' h hs hk => ?_, fun x x' F wq hx h => ?_⟩
                      · have h2 : OwnF wq F w8.heap.size 113 8 (.slice (x 24 0).1 1 1) 1 #[.string rd, .string sd, .int .i64 tm, .int .i64 lo, .int .i64 hi, .pointer (some ⟨b, 0, none⟩), .int .i64 g1, .int .i64 g2].toList := h
                        exact h2.stab hk
                      · have h2 : OwnF wq F w8.heap.size 113 8 (.slice (x 24 0).1 1 1) 1 #[.string rd, .string sd, .int .i64 tm, .int .i64 lo, .int .i64 hi, .pointer (some ⟨b, 0, none⟩), .int .i64 g1, .int .i64 g2].toList := h
                        rw [hx 24 (by simp)] at h2
                        exact h2
                    · exact owe_pushQ 25 _ 0 (.slice At M ct) 113 8 (M + 1) ((testRows l L.kb) ++ (#[.string rd, .string sd, .int .i64 tm, .int .i64 lo, .int .i64 hi, .pointer (some ⟨b, 0, none⟩), .int .i64 g1, .int .i64 g2] : Array Value).toList) rfl (fun _ _ _ => rfl)
                    · exact owe_fill p 98 (fun x => #[.bool true, .map (some L.br), .map (some L.bs), .slice Ao (stdsT l).length co, .slice (x 25 0).1 (M + 1) (x 25 0).2, .map (some L.bw), .map (some L.bv), .slice Ae l.length ce]) (fun _ _ _ => rfl) (fun x x' hx => by simp only [hx 25 (by simp)])
                  intro xx w9 F hK hlv5
                  obtain ⟨-, fct25, fct28, -⟩ := hlv5
                  replace fct25 : OwnF w9 (F 25) 0 113 8 (.slice (xx 25 0).1 (M + 1) (xx 25 0).2) (M + 1) ((testRows l L.kb) ++ (#[.string rd, .string sd, .int .i64 tm, .int .i64 lo, .int .i64 hi, .pointer (some ⟨b, 0, none⟩), .int .i64 g1, .int .i64 g2] : Array Value).toList) ∧ FreshOr w8.heap.size (.slice At M ct) (.slice (xx 25 0).1 (M + 1) (xx 25 0).2) := fct25 rfl
                  replace fct28 : (F 28) p ∧ Blk w9 p 98 #[.bool true, .map (some L.br), .map (some L.bs), .slice Ao (stdsT l).length co, .slice (xx 25 0).1 (M + 1) (xx 25 0).2, .map (some L.bw), .map (some L.bv), .slice Ae l.length ce] := fct28 rfl
                  obtain ⟨⟨hot, -⟩, hfr⟩ := fct25
                  have hbk := fct28.2
                  generalize (xx 25 0).1 = A7 at *
                  generalize (xx 25 0).2 = c7 at *
                  have hk9 : ∀ k, k < w8.heap.size → k ≠ p → (Value.slice At M ct).ownBlock ≠ some k → w9.heap[k]? = w8.heap[k]? := fun k a b c => hK.block k ⟨a, freeQ c (Ne.symm b)⟩
                  have hs9 : Blk w9 w.heap.size _ _ := (hk9 w.heap.size lts (by omega) hts).trans Hs.out
                  have htC : testC l L.kb S = [.string rd, .string sd, .int .i64 tm, .int .i64 lo, .int .i64 hi, .pointer (some ⟨b, 0, none⟩), .int .i64 g1, .int .i64 g2] := by
                    unfold testC
                    rw [HgS.out, HS.out]
                    simp only
                    rw [hpt]
                    rfl
                  have Q := bookQ_test (t := S) (v := .slice A7 (M + 1) c7) (hb.later HB.out) hok (by unfold bookC; simp only; rw [e1, e3]; exact hbk) (by rw [hM, htC]; exact hot)
                    (by
                      rcases hfr with e | ⟨g, e, hg⟩
                      · exact .inl (by rw [e2, hM]; exact e)
                      · exact .inr ⟨g, e, hg⟩) (fun k a b c => hk9 k a b (by rw [e2, hM] at c; exact c))
                  have hw9 : w.heap.size ≤ w9.heap.size := Nat.le_trans HB.out.size hK.size
                  have HK9 : Hid (Kept (fun k => k < w.heap.size ∧ k ∉ L.all p) w w9) := hide ⟨hK.os.trans HB.out.os, hK.tape.trans HB.out.tape, hK.output.trans HB.out.output, hw9, fun k hk' => (hk9 k (Nat.lt_of_lt_of_le hk'.1 HB.out.size) (fun e => hk'.2 (by rw [e]; simp [Lay.all])) (fun e => hk'.2 (mem_allT.2 (List.mem_append_right _ (optL_iff.2 (by rw [e2, hM]; exact e)))))).trans (HB.out.block k hk'.1)⟩
                  have Hsub : Hid (∀ k ∈ Lay.all { L with vt := .slice A7 (M + 1) c7 } p, k ∈ L.all p ∨ w.heap.size < k) := hide fun k hk' => by
                    rw [(L.perm_tests p (.slice A7 (M + 1) c7)).mem_iff] at hk'
                    rcases List.mem_append.1 hk' with h | h
                    · exact .inl (mem_allT.2 (List.mem_append_left _ h))
                    · rcases List.mem_append.1 h with h | h
                      · rw [optL_iff] at h
                        rcases hfr with e | ⟨g, e, hg⟩
                        · exact .inl (mem_allT.2 (List.mem_append_right _ (optL_iff.2 (by rw [e2, hM]; exact e.symm.trans h))))
                        · rw [e] at h
                          have := Option.some.inj h
                          exact .inr (by omega)
                      · cases h
                  have hen9 := Q.entries
                  simp only at hen9
                  rw [e3] at hen9 hep
                  obtain ⟨i1, hii1, hz10, hz11, hz12⟩ := info_parts funcInfo
                  clear a0 a1 hot hfr fct28 hK hk9 Hk Hs Hv HB Htr HneT htp hts htv Hi Hz0 Hz1 Hz2 HW7
                  clear x0 x1 x2 x3 x4 x5 x6 x7 s0 s1 s2 s3 s4 ltk lts
                  have Hi := hide hii1
                  have Hz0 := hide hz10
                  have Hz1 := hide hz11
                  have Hz2 := hide hz12
                  have Hk := hide hbk
                  have Hen := hide hen9
                  have Hs := hide hs9
                  have HQ := hide Q
                  clear hii1 hz10 hz11 hz12 hbk hen9 hs9 Q
                  obtain ⟨x0, x1, x2, x3, x4, x5, x6, x7⟩ := Hk.out.c8
                  have ltk := Hk.out.lt
                  go_wp2_with (at_builtin; refine wpList_append_own_at _ rfl (.tmp 109) (.tmp 111) _ rfl 0 106 i1 _ 1 8 Try.underlying96 Hi.out Hz0.out Hz1.out Hz2.out rfl (by decide) _ l.length _ rfl (Hen.out.alloc _) ⟨w9.heap.size, 0, none⟩ 1 1 [entF (.test S) [w.heap.size]] rfl rfl ?ka1 ?ka2 ?ka3 ?ka4 ?ka5 ?_)
                  try case ka1 => exact new_cellsQ w9 _ [entF (.test S) [w.heap.size]]
                  case ka2 => intro u hu; simp only [List.mem_singleton] at hu; subst hu; rfl
                  case ka3 => unfold maxLen; omega
                  case ka4 => omega
                  case ka5 => exact Nat.zero_le _
                  intro v' wA hown hgrw _ hat
                  obtain ⟨A9, c9, rfl⟩ := own_shape2 hown
                  obtain ⟨q1, q2, q3⟩ := HQ.out.push (c := [w.heap.size]) ⟨_, rfl, by rw [HS.out]; exact Hs.out⟩ (by simp) (fun k hk' hm => by
                    simp only [List.mem_singleton] at hk'
                    subst hk'
                    rcases Hsub.out _ hm with h | h
                    · have := hb.lt _ h; omega
                    · omega) (v := .slice A9 (l.length + 1) c9) (by simp only; rw [e3]; exact hgrw) hown (by simp only; rw [e3]; rw [World.size_alloc]; exact hat)
                  have hkA := blk_grown (Hk.out.alloc _) hgrw hep
                  have hos : wA.os = w9.os ∧ wA.tape = w9.tape ∧ wA.output = w9.output := ⟨hgrw.os, hgrw.tape, hgrw.output⟩
                  clear x0 x1 x2 x3 x4 x5 x6 x7 ltk hown hgrw Hk Hen
                  have Hk := hide hkA
                  have Q1 := hide q1
                  have Q2 := hide q2
                  have Q3 := hide q3
                  have Hat := hide hat
                  clear hkA q1 q2 q3 hat
                  have x7 := Hk.out.c 7 rfl
                  have x4 := Hk.out.c 4 rfl
                  have ltk := Hk.out.lt
                  have fx7 := Hk.out.frozen 7
                  have hM2 : (M : Int) + 1 - 1 = M := by omega
                  go_wp2
                  go_ret2
                  subst hE
                  refine ⟨by simp, _, Q1.out, step_push HK9.out (fun k h => (Hsub.out k h).imp id Nat.le_of_lt) (fun k hk' => ?_) ?_ Q2.out Q3.out hos⟩
                  · simp only [List.mem_singleton] at hk'; omega
                  · rcases Hat.out with h1 | h1
                    · exact .inl (by simp only; rw [e3]; exact h1)
                    · exact .inr ⟨_, h1, by simp⟩
end Go.Proofs.Ytiggefmckomilaa
