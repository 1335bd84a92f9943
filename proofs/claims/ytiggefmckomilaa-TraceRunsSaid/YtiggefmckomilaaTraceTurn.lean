/-
  A standard is withdrawn, or reinstated.
-/
import Derived.Test.YtiggefmckomilaaRegD
set_option linter.unusedSimpArgs false
set_option linter.unusedVariables false
namespace Go.Proofs.Ytiggefmckomilaa
open Go Go.RowKit
attribute [local go_sem] Oper.semAt_some

theorem name_size {s : ByteArray} (h : nameB s = true) : s.size ≤ maxLen := by
  unfold nameB at h
  simp only [Bool.and_eq_true, decide_eq_true_eq] at h
  have := h.1.1.1.2
  unfold maxLen
  omega
theorem eq_not {q o : Bool} (h : ¬ q = o) : q = !o := by cases q <;> cases o <;> simp_all
set_option maxHeartbeats 4000000 in
set_option maxRecDepth 100000 in
theorem turn_any (l : List Ent) (p : Nat) (L : Lay) (n : ByteArray) (o : Bool) (w : World) (hb : BookR l p L w) (hn : n.size ≤ maxLen) :
    Calls Try.prog 76 #[ptrB p, .string n, .bool o] w fun e w' => e = .returned (.int .i64 (turnE l n o)) ∧ EntPost l p L w (.turn n o) (turnE l n o) w' := by
  obtain ⟨Ao, co, At, ct, Ae, ce, e1, e2, e3, hk⟩ := hb.cells
  have hE : turnE l n o = if 2000 ≤ l.length then 13 else if (stdT l n).isNone then 4 else if wdT l n = o then 6 else 0 := rfl
  have hp := fun (ev : Int) (W : World) (h : Below w.heap.size w W) (he : ev ≠ 0) => EntPost.same (x := .turn n o) (ev := ev) hb h he
  have hls := fun W hw => look_std (W := W) hb hw hn
  have hlw := fun W hw => look_wd (W := W) hb hw hn
  generalize hr : turnE l n o = r at *
  unfold ptrB
  have hst := fun W (h : Below w.heap.size w W) => state_any p l.length ce _ _ _ _ _ _ Ae W (blk_later hk h)
  have hk0 := hk
  have Hk := hide hk
  have Hp := hide hp
  have Hls := hide hls
  have Hlw := hide hlw
  have Hst := hide hst
  clear hk hp hls hlw hst
  by_cases c1 : 2000 ≤ l.length
  · rw [if_pos c1] at hE
    have hs13 : stateE l.length = 13 := by unfold stateE; rw [if_pos c1]
    rw [hs13] at Hst
    subst hE
    clear c1 hs13
    refine (callsIn_wide (n := 8)).1 (callsIn_of_wp_marks Try.func76 rfl trivial (wpIn_wide.2 ?_))
    simp only [Try.ntmps76, List.size_toArray, List.length_cons, List.length_nil, Nat.reduceAdd, Nat.reduceSub, Array.replicate_succ, Array.replicate_zero, List.push_toArray, List.append_toArray, List.nil_append, List.cons_append]
    have HB := hide (Below.refl w.heap.size w)
    go_wp2_with fail
    refine at_world fun W1 hW => ?_
    have bq0 : Blk W1 w.heap.size 37 #[.pointer (some ⟨p, 0, none⟩)] := by rw [hW]; exact ((Blk.new _ _ _).alloc _).alloc _
    have bq1 : Blk W1 (w.heap.size + 1) 9 #[.string n] := by rw [hW]; exact (blk_new_at (by simp)).alloc _
    have bq2 : Blk W1 (w.heap.size + 2) 4 #[.bool o] := by rw [hW]; exact blk_new_at (by simp)
    have LW : Later w W1 := by rw [hW]; exact ((((Below.refl _ _).alloc (Nat.le_refl _) _).alloc (by simp; try omega) _).alloc (by simp; try omega) _)
    have szW : W1.heap.size = w.heap.size + 3 := by rw [hW]; simp
    clear hW
    replace HB := hide (onward HB.out LW)
    replace Hk := hide (blk_later Hk.out LW)
    have Hb := hide bq0
    have Hs := hide bq1
    have Ho := hide bq2
    clear bq0 bq1 bq2 LW szW
    refine (Hst.out _ HB.out).mono ?_
    rintro e w2 ⟨rfl, hb⟩
    replace HB := hide (onward HB.out hb)
    replace Hk := hide (blk_later Hk.out hb)
    replace Hb := hide (blk_later Hb.out hb)
    replace Hs := hide (blk_later Hs.out hb)
    replace Ho := hide (blk_later Ho.out hb)
    clear hb
    go_wp2
    refine leaves_marks [] _ (marks_nil w.heap.size _) HB.out.size fun w' hbw' _ => ?_
    exact ⟨.int .i64 13, by simp [results, Try.results76, go_sem], rfl, Hp.out 13 _ (HB.out.trans hbw') (by decide)⟩
  · rw [if_neg c1] at hE
    have hs0 : stateE l.length = 0 := by unfold stateE; rw [if_neg c1]
    rw [hs0] at Hst
    clear hs0
    cases hs : stdT l n with
    | none =>
      rw [if_pos (by rw [hs]; rfl)] at hE
      subst hE
      simp only [ptr_none hs, addrO, Option.map_none] at Hls
      refine (callsIn_wide (n := 8)).1 (callsIn_of_wp_marks Try.func76 rfl trivial (wpIn_wide.2 ?_))
      simp only [Try.ntmps76, List.size_toArray, List.length_cons, List.length_nil, Nat.reduceAdd, Nat.reduceSub, Array.replicate_succ, Array.replicate_zero, List.push_toArray, List.append_toArray, List.nil_append, List.cons_append]
      have HB := hide (Below.refl w.heap.size w)
      go_wp2_with fail
      refine at_world fun W1 hW => ?_
      have bq0 : Blk W1 w.heap.size 37 #[.pointer (some ⟨p, 0, none⟩)] := by rw [hW]; exact ((Blk.new _ _ _).alloc _).alloc _
      have bq1 : Blk W1 (w.heap.size + 1) 9 #[.string n] := by rw [hW]; exact (blk_new_at (by simp)).alloc _
      have bq2 : Blk W1 (w.heap.size + 2) 4 #[.bool o] := by rw [hW]; exact blk_new_at (by simp)
      have LW : Later w W1 := by rw [hW]; exact ((((Below.refl _ _).alloc (Nat.le_refl _) _).alloc (by simp; try omega) _).alloc (by simp; try omega) _)
      have szW : W1.heap.size = w.heap.size + 3 := by rw [hW]; simp
      clear hW
      replace HB := hide (onward HB.out LW)
      replace Hk := hide (blk_later Hk.out LW)
      have Hb := hide bq0
      have Hs := hide bq1
      have Ho := hide bq2
      clear bq0 bq1 bq2 LW szW
      refine (Hst.out _ HB.out).mono ?_
      rintro e w2 ⟨rfl, hb⟩
      replace HB := hide (onward HB.out hb)
      replace Hk := hide (blk_later Hk.out hb)
      replace Hb := hide (blk_later Hb.out hb)
      replace Hs := hide (blk_later Hs.out hb)
      replace Ho := hide (blk_later Ho.out hb)
      clear hb
      go_wp2_with fail
      obtain ⟨x0, x1, x2, x3, x4, x5, x6, x7⟩ := Hk.out.c8
      have ltk := Hk.out.lt
      have b0 := Hb.out.c 0 rfl
      have ltb := Hb.out.lt
      have n0 := Hs.out.c 0 rfl
      have lts := Hs.out.lt
      apply wp_region_L (w0 := w2) [[], [], [], [], [], [], [], []] [true, true, true, true, true, true, true, true] [] (fun ixq y => match ixq with  | _ => undef) (fun ixq x F wq => match ixq with  | _ => True) (fun a x => a) (by kernel_rfl) (by kernel_rfl) (fun _ => rfl) [18, 22] (by kernel_rfl)
      · intro x D hD
        have hne := hD.some
        have k9 := liftB hD b0 (by first | assumption | omega)
        have k2 := liftB hD x2 (by first | assumption | omega)
        have kn := liftB hD n0 (by first | assumption | omega)
        have hlk := fun (x : Of D) => Hls.out x.val (onward HB.out (kb hD x))
        simp only [takeOps, Act.put, List.setIfInBounds_toArray, List.set_cons_succ, List.set_cons_zero]
        repeat (go_big_quiet_step (fail))
        exact wpQuiet_nil rfl
      · intro d hd x x'
        simp only [List.mem_cons, List.not_mem_nil, or_false] at hd
        rcases hd with rfl | rfl
        all_goals rfl
      · exact trivial
      · exact trivial
      intro xx w3 F hL3 hlv1
      clear hlv1
      clear x0 x1 x2 x3 x4 x5 x6 x7 n0 ltk lts b0 ltb
      replace HB := hide (onward HB.out hL3)
      replace Hk := hide (blk_later Hk.out hL3)
      replace Hb := hide (blk_later Hb.out hL3)
      replace Hs := hide (blk_later Hs.out hL3)
      replace Ho := hide (blk_later Ho.out hL3)
      clear hL3
      go_wp2
      refine leaves_marks [] _ (marks_nil w.heap.size _) HB.out.size fun w' hbw' _ => ?_
      exact ⟨.int .i64 4, by simp [results, Try.results76, go_sem], rfl, Hp.out 4 _ (HB.out.trans hbw') (by decide)⟩
    | some sd =>
      rw [if_neg (by rw [hs]; simp)] at hE
      obtain ⟨b, hpb, hbm, hbk⟩ := known_get hb.good hb.knowns hs
      simp only [hpb, addrO, Option.map_some] at Hls
      obtain ⟨q, hq⟩ : ∃ q, wdT l n = q := ⟨_, rfl⟩
      rw [hq] at hE
      simp only [hq] at Hlw
      by_cases c2 : q = o
      · rw [if_pos c2] at hE
        subst hE
        have c3 := c2.symm
        clear c2
        subst c3
        refine (callsIn_wide (n := 8)).1 (callsIn_of_wp_marks Try.func76 rfl trivial (wpIn_wide.2 ?_))
        simp only [Try.ntmps76, List.size_toArray, List.length_cons, List.length_nil, Nat.reduceAdd, Nat.reduceSub, Array.replicate_succ, Array.replicate_zero, List.push_toArray, List.append_toArray, List.nil_append, List.cons_append]
        have HB := hide (Below.refl w.heap.size w)
        go_wp2_with fail
        refine at_world fun W1 hW => ?_
        have bq0 : Blk W1 w.heap.size 37 #[.pointer (some ⟨p, 0, none⟩)] := by rw [hW]; exact ((Blk.new _ _ _).alloc _).alloc _
        have bq1 : Blk W1 (w.heap.size + 1) 9 #[.string n] := by rw [hW]; exact (blk_new_at (by simp)).alloc _
        have bq2 : Blk W1 (w.heap.size + 2) 4 #[.bool o] := by rw [hW]; exact blk_new_at (by simp)
        have LW : Later w W1 := by rw [hW]; exact ((((Below.refl _ _).alloc (Nat.le_refl _) _).alloc (by simp; try omega) _).alloc (by simp; try omega) _)
        have szW : W1.heap.size = w.heap.size + 3 := by rw [hW]; simp
        clear hW
        replace HB := hide (onward HB.out LW)
        replace Hk := hide (blk_later Hk.out LW)
        have Hb := hide bq0
        have Hs := hide bq1
        have Ho := hide bq2
        clear bq0 bq1 bq2 LW szW
        refine (Hst.out _ HB.out).mono ?_
        rintro e w2 ⟨rfl, hb⟩
        replace HB := hide (onward HB.out hb)
        replace Hk := hide (blk_later Hk.out hb)
        replace Hb := hide (blk_later Hb.out hb)
        replace Hs := hide (blk_later Hs.out hb)
        replace Ho := hide (blk_later Ho.out hb)
        clear hb
        go_wp2_with fail
        obtain ⟨x0, x1, x2, x3, x4, x5, x6, x7⟩ := Hk.out.c8
        have ltk := Hk.out.lt
        have b0 := Hb.out.c 0 rfl
        have ltb := Hb.out.lt
        have n0 := Hs.out.c 0 rfl
        have lts := Hs.out.lt
        apply wp_region_L (w0 := w2) [[], [], [], [], [], [], [], []] [true, true, true, true, true, true, true, true] [] (fun ixq y => match ixq with  | _ => undef) (fun ixq x F wq => match ixq with  | _ => True) (fun a x => a) (by kernel_rfl) (by kernel_rfl) (fun _ => rfl) [18, 22] (by kernel_rfl)
        · intro x D hD
          have hne := hD.some
          have k9 := liftB hD b0 (by first | assumption | omega)
          have k2 := liftB hD x2 (by first | assumption | omega)
          have kn := liftB hD n0 (by first | assumption | omega)
          have hlk := fun (x : Of D) => Hls.out x.val (onward HB.out (kb hD x))
          simp only [takeOps, Act.put, List.setIfInBounds_toArray, List.set_cons_succ, List.set_cons_zero]
          repeat (go_big_quiet_step (fail))
          exact wpQuiet_nil rfl
        · intro d hd x x'
          simp only [List.mem_cons, List.not_mem_nil, or_false] at hd
          rcases hd with rfl | rfl
          all_goals rfl
        · exact trivial
        · exact trivial
        intro xx w3 F hL3 hlv2
        clear hlv2
        clear x0 x1 x2 x3 x4 x5 x6 x7 n0 ltk lts b0 ltb
        replace HB := hide (onward HB.out hL3)
        replace Hk := hide (blk_later Hk.out hL3)
        replace Hb := hide (blk_later Hb.out hL3)
        replace Hs := hide (blk_later Hs.out hL3)
        replace Ho := hide (blk_later Ho.out hL3)
        clear hL3
        obtain ⟨x0, x1, x2, x3, x4, x5, x6, x7⟩ := Hk.out.c8
        have ltk := Hk.out.lt
        have b0 := Hb.out.c 0 rfl
        have ltb := Hb.out.lt
        have n0 := Hs.out.c 0 rfl
        have lts := Hs.out.lt
        have o0 := Ho.out.c 0 rfl
        have lto := Ho.out.lt
        go_wp2_with fail
        apply wp_region_L (w0 := w3) [[], [], [], [], [], [], [], [], []] [true, true, true, true, true, true, true, true, true] [] (fun ixq y => match ixq with  | _ => undef) (fun ixq x F wq => match ixq with  | _ => True) (fun a x => a) (by kernel_rfl) (by kernel_rfl) (fun _ => rfl) [26, 30] (by kernel_rfl)
        · intro x D hD
          have hne := hD.some
          have k9 := liftB hD b0 (by first | assumption | omega)
          have k5 := liftB hD x5 (by first | assumption | omega)
          have kn := liftB hD n0 (by first | assumption | omega)
          have ko := liftB hD o0 (by first | assumption | omega)
          have hlk := fun (x : Of D) => Hlw.out x.val (onward HB.out (kb hD x))
          simp only [takeOps, Act.put, List.setIfInBounds_toArray, List.set_cons_succ, List.set_cons_zero]
          repeat (go_big_quiet_step (fail))
          exact wpQuiet_nil rfl
        · intro d hd x x'
          simp only [List.mem_cons, List.not_mem_nil, or_false] at hd
          rcases hd with rfl | rfl
          all_goals rfl
        · exact trivial
        · exact trivial
        intro xx w4 F hL4 hlv3
        clear hlv3
        clear x0 x1 x2 x3 x4 x5 x6 x7 n0 ltk lts b0 ltb o0 lto
        replace HB := hide (onward HB.out hL4)
        replace Hk := hide (blk_later Hk.out hL4)
        replace Hb := hide (blk_later Hb.out hL4)
        replace Hs := hide (blk_later Hs.out hL4)
        replace Ho := hide (blk_later Ho.out hL4)
        clear hL4
        go_wp2
        refine leaves_marks [] _ (marks_nil w.heap.size _) HB.out.size fun w' hbw' _ => ?_
        exact ⟨.int .i64 6, by simp [results, Try.results76, go_sem], rfl, Hp.out 6 _ (HB.out.trans hbw') (by decide)⟩
      · rw [if_neg c2] at hE
        have c3 := eq_not c2
        clear c2
        subst c3
        refine (callsIn_wide (n := 8)).1 (callsIn_of_wp_marks Try.func76 rfl trivial (wpIn_wide.2 ?_))
        simp only [Try.ntmps76, List.size_toArray, List.length_cons, List.length_nil, Nat.reduceAdd, Nat.reduceSub, Array.replicate_succ, Array.replicate_zero, List.push_toArray, List.append_toArray, List.nil_append, List.cons_append]
        have HB := hide (Below.refl w.heap.size w)
        go_wp2_with fail
        refine at_world fun W1 hW => ?_
        have bq0 : Blk W1 w.heap.size 37 #[.pointer (some ⟨p, 0, none⟩)] := by rw [hW]; exact ((Blk.new _ _ _).alloc _).alloc _
        have bq1 : Blk W1 (w.heap.size + 1) 9 #[.string n] := by rw [hW]; exact (blk_new_at (by simp)).alloc _
        have bq2 : Blk W1 (w.heap.size + 2) 4 #[.bool o] := by rw [hW]; exact blk_new_at (by simp)
        have LW : Later w W1 := by rw [hW]; exact ((((Below.refl _ _).alloc (Nat.le_refl _) _).alloc (by simp; try omega) _).alloc (by simp; try omega) _)
        have szW : W1.heap.size = w.heap.size + 3 := by rw [hW]; simp
        clear hW
        replace HB := hide (onward HB.out LW)
        replace Hk := hide (blk_later Hk.out LW)
        have Hb := hide bq0
        have Hs := hide bq1
        have Ho := hide bq2
        clear bq0 bq1 bq2 LW szW
        refine (Hst.out _ HB.out).mono ?_
        rintro e w2 ⟨rfl, hb⟩
        replace HB := hide (onward HB.out hb)
        replace Hk := hide (blk_later Hk.out hb)
        replace Hb := hide (blk_later Hb.out hb)
        replace Hs := hide (blk_later Hs.out hb)
        replace Ho := hide (blk_later Ho.out hb)
        clear hb
        go_wp2_with fail
        obtain ⟨x0, x1, x2, x3, x4, x5, x6, x7⟩ := Hk.out.c8
        have ltk := Hk.out.lt
        have b0 := Hb.out.c 0 rfl
        have ltb := Hb.out.lt
        have n0 := Hs.out.c 0 rfl
        have lts := Hs.out.lt
        apply wp_region_L (w0 := w2) [[], [], [], [], [], [], [], []] [true, true, true, true, true, true, true, true] [] (fun ixq y => match ixq with  | _ => undef) (fun ixq x F wq => match ixq with  | _ => True) (fun a x => a) (by kernel_rfl) (by kernel_rfl) (fun _ => rfl) [18, 22] (by kernel_rfl)
        · intro x D hD
          have hne := hD.some
          have k9 := liftB hD b0 (by first | assumption | omega)
          have k2 := liftB hD x2 (by first | assumption | omega)
          have kn := liftB hD n0 (by first | assumption | omega)
          have hlk := fun (x : Of D) => Hls.out x.val (onward HB.out (kb hD x))
          simp only [takeOps, Act.put, List.setIfInBounds_toArray, List.set_cons_succ, List.set_cons_zero]
          repeat (go_big_quiet_step (fail))
          exact wpQuiet_nil rfl
        · intro d hd x x'
          simp only [List.mem_cons, List.not_mem_nil, or_false] at hd
          rcases hd with rfl | rfl
          all_goals rfl
        · exact trivial
        · exact trivial
        intro xx w3 F hL3 hlv4
        clear hlv4
        clear x0 x1 x2 x3 x4 x5 x6 x7 n0 ltk lts b0 ltb
        replace HB := hide (onward HB.out hL3)
        replace Hk := hide (blk_later Hk.out hL3)
        replace Hb := hide (blk_later Hb.out hL3)
        replace Hs := hide (blk_later Hs.out hL3)
        replace Ho := hide (blk_later Ho.out hL3)
        clear hL3
        obtain ⟨x0, x1, x2, x3, x4, x5, x6, x7⟩ := Hk.out.c8
        have ltk := Hk.out.lt
        have b0 := Hb.out.c 0 rfl
        have ltb := Hb.out.lt
        have n0 := Hs.out.c 0 rfl
        have lts := Hs.out.lt
        have o0 := Ho.out.c 0 rfl
        have lto := Ho.out.lt
        go_wp2_with fail
        apply wp_region_L (w0 := w3) [[], [], [], [], [], [], [], [], []] [true, true, true, true, true, true, true, true, true] [] (fun ixq y => match ixq with  | _ => undef) (fun ixq x F wq => match ixq with  | _ => True) (fun a x => a) (by kernel_rfl) (by kernel_rfl) (fun _ => rfl) [26, 30] (by kernel_rfl)
        · intro x D hD
          have hne := hD.some
          have k9 := liftB hD b0 (by first | assumption | omega)
          have k5 := liftB hD x5 (by first | assumption | omega)
          have kn := liftB hD n0 (by first | assumption | omega)
          have ko := liftB hD o0 (by first | assumption | omega)
          have hlk := fun (x : Of D) => Hlw.out x.val (onward HB.out (kb hD x))
          simp only [takeOps, Act.put, List.setIfInBounds_toArray, List.set_cons_succ, List.set_cons_zero]
          repeat (go_big_quiet_step (fail))
          exact wpQuiet_nil rfl
        · intro d hd x x'
          simp only [List.mem_cons, List.not_mem_nil, or_false] at hd
          rcases hd with rfl | rfl
          all_goals rfl
        · exact trivial
        · exact trivial
        intro xx w4 F hL4 hlv5
        clear hlv5
        clear x0 x1 x2 x3 x4 x5 x6 x7 n0 ltk lts b0 ltb o0 lto
        replace HB := hide (onward HB.out hL4)
        replace Hk := hide (blk_later Hk.out hL4)
        replace Hb := hide (blk_later Hb.out hL4)
        replace Hs := hide (blk_later Hs.out hL4)
        replace Ho := hide (blk_later Ho.out hL4)
        clear hL4
        go_wp2_with fail
        have hlt := hb.lt
        have hnd := hb.nodup
        unfold Lay.all at hnd
        obtain ⟨n1, hnd⟩ := List.nodup_cons.1 hnd
        obtain ⟨n2, hnd⟩ := List.nodup_cons.1 hnd
        obtain ⟨n3, hnd⟩ := List.nodup_cons.1 hnd
        obtain ⟨n4, hnd⟩ := List.nodup_cons.1 hnd
        obtain ⟨n5, -⟩ := List.nodup_cons.1 hnd
        have hpw : p ≠ L.bw := fun e => n1 (by rw [e]; simp)
        have hpv : p ≠ L.bv := fun e => n1 (by rw [e]; simp)
        have hwv : L.bw ≠ L.bv := fun e => n4 (by rw [e]; simp)
        have hlw := hlt L.bw (by simp [Lay.all])
        have hlv := hlt L.bv (by simp [Lay.all])
        obtain ⟨c6, h6a, h6⟩ := (hb.later HB.out).wd
        obtain ⟨c7, h7a, h7⟩ := (hb.later HB.out).void
        have hok : okEnt l (.turn n o) = true := by show (turnE l n o == 0) = true; rw [hr, hE]; rfl
        have hkp : ∀ k ∈ optL L.vo ++ L.kb, k < w.heap.size ∧ k ≠ L.bw ∧ k ≠ L.bv := fun k hm => by
          have hm2 : k ∈ optL L.vo ++ (optL L.vt ++ (optL L.ve ++ (L.kb ++ L.cb.flatten))) := by
            rcases List.mem_append.1 hm with h | h
            · exact List.mem_append_left _ h
            · exact List.mem_append_right _ (List.mem_append_right _ (List.mem_append_right _ (List.mem_append_left _ h)))
          exact ⟨hlt k (by unfold Lay.all; simp only [List.mem_cons]; exact .inr (.inr (.inr (.inr (.inr hm2))))), fun e => n4 (by rw [← e]; exact List.mem_cons_of_mem _ hm2), fun e => n5 (by rw [← e]; exact hm2)⟩
        have Hkp := hide hkp
        clear n1 n2 n3 n4 n5 hnd hlt hkp
        have H6 := hide h6
        have H7 := hide h7
        clear h6 h7
        obtain ⟨x0, x1, x2, x3, x4, x5, x6, x7⟩ := Hk.out.c8
        have ltk := Hk.out.lt
        have b0 := Hb.out.c 0 rfl
        have ltb := Hb.out.lt
        have n0 := Hs.out.c 0 rfl
        have lts := Hs.out.lt
        have ltm := H6.out.lt
        apply wp_region_F (w0 := w4) [[], [0], [0, 1], [0, 1, 2], [], [0, 1, 2, 3, 4]] [true, true, true, true, true, false] [false, false, false, false, false, false] [⟨5, none, [], []⟩] [(5, L.bw)] [5] (fun ixq y => match ixq with | 5 => undef | _ => undef) (fun ixq x F wq => match ixq with | 5 => F L.bw ∧ MapV wq Try.prog 9 L.bw (putF ((boolF (wdT l))) (n) (.bool true)) (if (((boolF (wdT l))) (n)).isSome then c6 else c6 + 1) | _ => True) (fun a x => (a).put (none) (undef)) (by kernel_rfl) (by kernel_rfl) (by kernel_rfl) (fun _ => rfl) [34] (by kernel_rfl) (fills_lt1 (by omega)) fills_ne1
        · intro x D hD
          have hne := hD.some
          have k9 := liftS hD b0 (by exact early_all (by first | assumption | omega) (by rfl))
          have k5 := liftS hD x5 (by exact early_all (by first | assumption | omega) (by rfl))
          have kn := liftS hD n0 (by exact early_all (by first | assumption | omega) (by rfl))
          simp only [takeOps, Act.put, List.setIfInBounds_toArray, List.set_cons_succ, List.set_cons_zero]
          repeat (go_big_quiet_step (fail))
          exact wpQuiet_nil rfl
        · exact fun x D hD => wpQuiet_nil rfl
        · intro d hd x x'
          simp only [List.mem_cons, List.not_mem_nil, or_false] at hd
          rcases hd with rfl
          all_goals rfl
        · refine ⟨?_, trivial⟩
          · exact obl_mapTrue 95 9 4 36 37 L.bw c6 ((boolF (wdT l))) (n) (by kernel_rfl) (fun _ => rfl) (fun _ => rfl) Try.underlying9 Try.underlying95 (by unfold maxLen; omega) hn H6.out eb_fill1 (by simp [wrF]) (fun _ => rfl) (fun _ _ _ _ h1 h2 => ⟨h1, h2⟩)
        · refine ⟨?_, trivial⟩
          · exact owe_mapV _ _ _ _ _ (fun _ _ _ => rfl)
        intro xx w5 F hK hlv6
        obtain ⟨fct5, -⟩ := hlv6
        replace fct5 : (F 5) L.bw ∧ MapV w5 Try.prog 9 L.bw (putF ((boolF (wdT l))) (n) (.bool true)) (if (((boolF (wdT l))) (n)).isSome then c6 else c6 + 1) := fct5 rfl
        have hgr := grown_kept hK
        obtain ⟨cw, hcw, hmw⟩ : ∃ c, c ≤ l.length + 1 ∧ MapV w5 Try.prog 9 L.bw (boolF (updB (wdT l) n true)) c := ⟨_, by split <;> omega, fct5.2.congr (boolF_put _ _)⟩
        have hsz4 := HB.out.size
        have hT : TurnW w L p n o (updB (wdT l) n true) cw (w.heap.size + 3) [] (voidT l) (l.length * l.length) w5 := by
          have hbl : ∀ k, k ≠ L.bw → k < w4.heap.size → w5.heap[k]? = w4.heap[k]? := fun k h1 h2 => hgr.block k h2 fun e => h1 (Option.some.inj e)
          exact ⟨⟨hgr.os.trans HB.out.os, hgr.tape.trans HB.out.tape, hgr.output.trans HB.out.output, Nat.le_trans hsz4 hgr.size, fun k hk => (hbl k hk.2.1 (by omega)).trans (HB.out.block k hk.1)⟩,
            marks_nil _ _, Nat.le_trans (by have := Ho.out.lt; omega) hgr.size, (hbl _ (by omega) Hb.out.lt).trans Hb.out, (hbl _ (by omega) Hs.out.lt).trans Hs.out, (hbl _ (by omega) Ho.out.lt).trans Ho.out, hmw, c7, h7a, H7.out.stab (hbl _ (Ne.symm hwv) H7.out.lt)⟩
        have HT := hide hT
        clear x0 x1 x2 x3 x4 x5 x6 x7 ltk b0 ltb n0 lts ltm hT hK fct5 hgr hmw hsz4 Hb Hs Ho H6 H7 HB
        have hlt := hb.lt
        have hgd := hb.good
        have hkl := hb.knowns.length
        have hkn := hb.knowns
        have hord := hb.order
        rw [e1] at hord
        have hM5 := stds_le hb.good
        have hML := stds_len_le (l := l)
        obtain ⟨M, hM⟩ : ∃ M, (stdsT l).length = M := ⟨_, rfl⟩
        rw [hM] at hk0 hkl hord hM5 hML
        have hbk := fun (f : ByteArray → Bool) (c B : Nat) (Ds : List Nat) (g : ByteArray → Bool) (m : Nat) (W : World) (h : TurnW w L p n o f c B Ds g m W) => (h.stab hk0.lt hpw hpv).trans hk0
        obtain ⟨l', hl'⟩ : ∃ l', Ent.turn n o :: l = l' := ⟨_, rfl⟩
        have hwt : wdT l' = updB (wdT l) n o := by rw [← hl']; exact wd_turn l n o
        have Hord := hide hord
        have Hwt := hide hwt
        have Hbk := hide hbk
        have Hl' := hide hl'
        clear hord hwt hbk hl'
        clear Hk hbm hpb hk0
        have H := HT
        clear HT
        cases o with
        | true =>
          have HT := H
          clear H
          obtain ⟨x0, x1, x2, x3, x4, x5, x6, x7⟩ := Blk.c8 (Hbk.out _ _ _ _ _ _ _ HT.out)
          have ltk := Blk.lt (Hbk.out _ _ _ _ _ _ _ HT.out)
          have b0 := HT.out.b0
          have ltb := HT.out.bp.lt
          have o0 := HT.out.o0
          have lto := HT.out.bo.lt
          go_wp2_with fail
          clear x0 x1 x2 x3 x4 x5 x6 x7 ltk b0 ltb o0 lto
          obtain ⟨INV, hINV⟩ : ∃ INV : Act → World → Prop, INV = (fun a' wr => ∃ u0 u1 u2 u6 u7 u8 u9 u10 u11 u12 u13 u14 u15 u16 u17 u18 u19 u20 u21 u22 u23 u24 u25 u26 u27 u28 u29 u30 u31 u32 u33 u34 u35 u36 u37 u38 u39 u40 u41 u42 u43 u44 u45 u46 u47 u51 u52 u53 u54 u55 u56 u57 u58 u59 u60 u61 u62 u63 u64 u65 u66 u67 u68 u69 u70 u71 u72 u73 u74 u75 u76 u77 u78 u79 u80 u81 u82 u83 u84 u85 u86 u87 u88 u89 u90 u91 u92 u93 u94 u95 : Value, ∃ (j : Nat) (Ds : List Nat), (j ≤ M ∧ Ds.length = j ∧ TurnW w L p n true (updB (wdT l) n true) cw (w.heap.size + 3) Ds (vB l l' ((ordN l).take j)) (l.length * l.length + j) wr) ∧ a' = ⟨#[u0, u1, u2, .pointer (some ⟨w.heap.size, 0, none⟩), .pointer (some ⟨w.heap.size + 1, 0, none⟩), .pointer (some ⟨w.heap.size + 1 + 1, 0, none⟩), u6, u7, u8, u9, u10, u11, u12, u13, u14, u15, u16, u17, u18, u19, u20, u21, u22, u23, u24, u25, u26, u27, u28, u29, u30, u31, u32, u33, u34, u35, u36, u37, u38, u39, u40, u41, u42, u43, u44, u45, u46, u47, .slice Ao M co, .int .i64 M, .int .i64 j, u51, u52, u53, u54, u55, u56, u57, u58, u59, u60, u61, u62, u63, u64, u65, u66, u67, u68, u69, u70, u71, u72, u73, u74, u75, u76, u77, u78, u79, u80, u81, u82, u83, u84, u85, u86, u87, u88, u89, u90, u91, u92, u93, u94, u95], Ds.map markD⟩) := ⟨_, rfl⟩
          have HINV := hide hINV
          clear hINV
          refine wp_loop INV (fun a' _ => M + 1 - a'.defers.length) ?_ ?_
          · rw [HINV.out]
            iterate 90 (apply Exists.intro)
            refine ⟨0, [], ⟨Nat.zero_le _, rfl, ?_⟩, rfl⟩
            have h0 : vB l l' ((ordN l).take 0) = voidT l := by rw [List.take_zero]; exact vB_nil _ _
            rw [h0]
            exact HT.out
          · intro a' wr hinv
            rw [HINV.out] at hinv
            obtain ⟨u0, hinv⟩ := hinv
            obtain ⟨u1, hinv⟩ := hinv
            obtain ⟨u2, hinv⟩ := hinv
            obtain ⟨u6, hinv⟩ := hinv
            obtain ⟨u7, hinv⟩ := hinv
            obtain ⟨u8, hinv⟩ := hinv
            obtain ⟨u9, hinv⟩ := hinv
            obtain ⟨u10, hinv⟩ := hinv
            obtain ⟨u11, hinv⟩ := hinv
            obtain ⟨u12, hinv⟩ := hinv
            obtain ⟨u13, hinv⟩ := hinv
            obtain ⟨u14, hinv⟩ := hinv
            obtain ⟨u15, hinv⟩ := hinv
            obtain ⟨u16, hinv⟩ := hinv
            obtain ⟨u17, hinv⟩ := hinv
            obtain ⟨u18, hinv⟩ := hinv
            obtain ⟨u19, hinv⟩ := hinv
            obtain ⟨u20, hinv⟩ := hinv
            obtain ⟨u21, hinv⟩ := hinv
            obtain ⟨u22, hinv⟩ := hinv
            obtain ⟨u23, hinv⟩ := hinv
            obtain ⟨u24, hinv⟩ := hinv
            obtain ⟨u25, hinv⟩ := hinv
            obtain ⟨u26, hinv⟩ := hinv
            obtain ⟨u27, hinv⟩ := hinv
            obtain ⟨u28, hinv⟩ := hinv
            obtain ⟨u29, hinv⟩ := hinv
            obtain ⟨u30, hinv⟩ := hinv
            obtain ⟨u31, hinv⟩ := hinv
            obtain ⟨u32, hinv⟩ := hinv
            obtain ⟨u33, hinv⟩ := hinv
            obtain ⟨u34, hinv⟩ := hinv
            obtain ⟨u35, hinv⟩ := hinv
            obtain ⟨u36, hinv⟩ := hinv
            obtain ⟨u37, hinv⟩ := hinv
            obtain ⟨u38, hinv⟩ := hinv
            obtain ⟨u39, hinv⟩ := hinv
            obtain ⟨u40, hinv⟩ := hinv
            obtain ⟨u41, hinv⟩ := hinv
            obtain ⟨u42, hinv⟩ := hinv
            obtain ⟨u43, hinv⟩ := hinv
            obtain ⟨u44, hinv⟩ := hinv
            obtain ⟨u45, hinv⟩ := hinv
            obtain ⟨u46, hinv⟩ := hinv
            obtain ⟨u47, hinv⟩ := hinv
            obtain ⟨u51, hinv⟩ := hinv
            obtain ⟨u52, hinv⟩ := hinv
            obtain ⟨u53, hinv⟩ := hinv
            obtain ⟨u54, hinv⟩ := hinv
            obtain ⟨u55, hinv⟩ := hinv
            obtain ⟨u56, hinv⟩ := hinv
            obtain ⟨u57, hinv⟩ := hinv
            obtain ⟨u58, hinv⟩ := hinv
            obtain ⟨u59, hinv⟩ := hinv
            obtain ⟨u60, hinv⟩ := hinv
            obtain ⟨u61, hinv⟩ := hinv
            obtain ⟨u62, hinv⟩ := hinv
            obtain ⟨u63, hinv⟩ := hinv
            obtain ⟨u64, hinv⟩ := hinv
            obtain ⟨u65, hinv⟩ := hinv
            obtain ⟨u66, hinv⟩ := hinv
            obtain ⟨u67, hinv⟩ := hinv
            obtain ⟨u68, hinv⟩ := hinv
            obtain ⟨u69, hinv⟩ := hinv
            obtain ⟨u70, hinv⟩ := hinv
            obtain ⟨u71, hinv⟩ := hinv
            obtain ⟨u72, hinv⟩ := hinv
            obtain ⟨u73, hinv⟩ := hinv
            obtain ⟨u74, hinv⟩ := hinv
            obtain ⟨u75, hinv⟩ := hinv
            obtain ⟨u76, hinv⟩ := hinv
            obtain ⟨u77, hinv⟩ := hinv
            obtain ⟨u78, hinv⟩ := hinv
            obtain ⟨u79, hinv⟩ := hinv
            obtain ⟨u80, hinv⟩ := hinv
            obtain ⟨u81, hinv⟩ := hinv
            obtain ⟨u82, hinv⟩ := hinv
            obtain ⟨u83, hinv⟩ := hinv
            obtain ⟨u84, hinv⟩ := hinv
            obtain ⟨u85, hinv⟩ := hinv
            obtain ⟨u86, hinv⟩ := hinv
            obtain ⟨u87, hinv⟩ := hinv
            obtain ⟨u88, hinv⟩ := hinv
            obtain ⟨u89, hinv⟩ := hinv
            obtain ⟨u90, hinv⟩ := hinv
            obtain ⟨u91, hinv⟩ := hinv
            obtain ⟨u92, hinv⟩ := hinv
            obtain ⟨u93, hinv⟩ := hinv
            obtain ⟨u94, hinv⟩ := hinv
            obtain ⟨u95, hinv⟩ := hinv
            obtain ⟨j, Ds, ⟨hjM, hlen, hT0⟩, ha⟩ := hinv
            subst ha
            dsimp only
            clear HT
            have HT := hide hT0
            clear hT0
            by_cases hjl : j < M
            · obtain ⟨s, b, k1, k2, k3, k4⟩ := ord_at (bs := L.kb) hgd (by omega) (i := j) (by omega)
              obtain ⟨bo, cur, hAo, -, hbl, -, -, hcur⟩ := row_blk Hord.out (by omega)
              have hkeep := Hkp.out
              have hbok := hkeep bo (List.mem_append_left _ (optL_mem (by rw [e1, hAo]; rfl)))
              subst hAo
              have c0 := hbl.c j (hcur j _ (by rw [List.getElem?_map, k2]; rfl))
              unfold ptrB at c0
              rw [← cell_of_heap (HT.out.stab hbok.1 hbok.2.1 hbok.2.2)] at c0
              have hltb : bo < wr.heap.size := Nat.lt_of_lt_of_le hbok.1 HT.out.kept.size
              have hjl' : (j : Int) < M := by omega
              have hjp : (0 : Int) ≤ j := by omega
              obtain ⟨b', hb', hbm', hbk'⟩ := known_get hgd hkn k3
              obtain rfl : b' = b := Option.some.inj (hb'.symm.trans k4)
              have hkb' := hkeep b' (List.mem_append_right _ hbm')
              have hsn : s.name.size ≤ maxLen := name_size (good_std hgd k3).1.1
              have hwr := HT.out.kept.size
              have hwr3 := HT.out.size
              go_wp2_with fail
              clear c0
              refine code_world fun W hW => ?_
              have bq0 : Blk W wr.heap.size 107 #[.pointer (some ⟨b', 0, none⟩)] := by rw [hW]; exact Blk.new _ _ _
              have LW : Later wr W := by rw [hW]; exact ((Below.refl _ _).alloc (Nat.le_refl _) _)
              have szW : W.heap.size = wr.heap.size + 1 := by rw [hW]; simp
              clear hW
              replace HT := hide (HT.out.later LW hlw hlv)
              have Hkx := hide bq0
              clear bq0 LW szW
              obtain ⟨x0, x1, x2, x3, x4, x5, x6, x7⟩ := Blk.c8 (Hbk.out _ _ _ _ _ _ _ HT.out)
              have ltk := Blk.lt (Hbk.out _ _ _ _ _ _ _ HT.out)
              have b0 := HT.out.b0
              have ltb := HT.out.bp.lt
              have kx0 := ptr0 Hkx.out
              have ltx := Hkx.out.lt
              have hkW : Blk W b' 109 _ := (HT.out.stab hkb'.1 hkb'.2.1 hkb'.2.2).trans hbk'
              have s0 : W.cell? ⟨b', 0, none⟩ = some (.string s.name) := hkW.c 0 rfl
              have lts := hkW.lt
              obtain ⟨cv, hcv, hv⟩ := HT.out.void
              have ltm := hv.lt
              have Hv := hide hv
              apply wp_region_F (w0 := W) [[], [0], [0, 1], [0, 1, 2], [], [4], [4, 5], [4, 5, 6], [4, 5, 6, 7], [0, 1, 2, 3, 4, 5, 6, 7, 8]] [true, true, true, true, true, true, true, true, true, false] [false, false, false, false, false, false, false, false, false, false] [⟨9, none, [], []⟩] [(9, L.bv)] [9] (fun ixq y => match ixq with | 9 => .tuple #[] | _ => undef) (fun ixq x F wq => match ixq with | 9 => F L.bv ∧ MapV wq Try.prog 9 L.bv (delF ((boolF (vB l l' ((ordN l).take j)))) (s.name)) (if (((boolF (vB l l' ((ordN l).take j)))) (s.name)).isSome then cv - 1 else cv) | _ => True) (fun a x => (a).put (none) (.tuple #[])) (by kernel_rfl) (by kernel_rfl) (by kernel_rfl) (fun _ => rfl) [55, 59] (by kernel_rfl) (fills_lt1 (by omega)) fills_ne1
              · intro x D hD
                have hne := hD.some
                have k9 := liftS hD b0 (by exact early_all (by first | assumption | omega) (by rfl))
                have k6 := liftS hD x6 (by exact early_all (by first | assumption | omega) (by rfl))
                have ke := liftS hD kx0 (by exact early_all (by first | assumption | omega) (by rfl))
                have ks := liftS hD s0 (by exact early_all (by first | assumption | omega) (by rfl))
                simp only [takeOps, Act.put, List.setIfInBounds_toArray, List.set_cons_succ, List.set_cons_zero]
                repeat (go_big_quiet_step (fail))
                exact wpQuiet_nil rfl
              · exact fun x D hD => wpQuiet_nil rfl
              · intro d hd x x'
                simp only [List.mem_cons, List.not_mem_nil, or_false] at hd
                rcases hd with rfl | rfl
                all_goals rfl
              · refine ⟨?_, trivial⟩
                · exact obl_mapDel 95 9 4 57 62 L.bv cv ((boolF (vB l l' ((ordN l).take j)))) (s.name) (by kernel_rfl) (fun _ => rfl) (fun _ => rfl) Try.underlying9 Try.underlying95 hsn Hv.out eb_fill1 (by simp [wrF]) (fun _ => rfl) (fun _ _ _ _ h1 h2 => ⟨h1, h2⟩)
              · refine ⟨?_, trivial⟩
                · exact owe_mapV _ _ _ _ _ (fun _ _ _ => rfl)
              intro xx w1 F hK hlv7
              obtain ⟨fct9, -⟩ := hlv7
              replace fct9 : (F 9) L.bv ∧ MapV w1 Try.prog 9 L.bv (delF ((boolF (vB l l' ((ordN l).take j)))) (s.name)) (if (((boolF (vB l l' ((ordN l).take j)))) (s.name)).isSome then cv - 1 else cv) := fct9 rfl
              have hgr := grown_kept hK
              have HT1 := hide (HT.out.turned (g' := updB (vB l l' ((ordN l).take j)) s.name false) (m' := l.length * l.length + j) hgr hlv hwv ⟨_, by split <;> omega, fct9.2.congr (boolF_del _ _)⟩)
              have Hkx1 := hide (blk_grown Hkx.out hgr (fun e => by have := Option.some.inj e; omega))
              clear x0 x1 x2 x3 x4 x5 x6 x7 ltk b0 ltb kx0 ltx hkW s0 lts hv ltm Hv hK fct9 hgr hcv HT Hkx
              have hsz1 := Hkx1.out.lt
              have kx0 := ptr0 Hkx1.out
              go_wp2_with fail
              clear kx0
              refine (chain_any _ _).mono ?_
              rintro e w2 ⟨rfl, hb2, hsz2, hbk2⟩
              replace HT1 := hide (HT1.out.later hb2 hlw hlv)
              replace Hkx1 := hide (blk_later Hkx1.out hb2)
              clear hb2
              have hlx := Hkx1.out.lt
              have hkw2 := hkn.stab (w' := w2) fun k hm => by have h := hkeep k (List.mem_append_right _ hm); exact HT1.out.stab h.1 h.2.1 h.2.2
              have hw12 : w.heap.size + 3 ≤ w1.heap.size := by omega
              have hst := chain_stops (fun k => k ∈ L.kb ∨ k = w1.heap.size) l L.kb s.name s w1.heap.size 7 w2 (by omega) hgd k3 hkw2 (fun k h => by
                rcases h with h | h
                · exact hkw2.lt k h
                · omega) (fun k hm => .inl hm) (.inr rfl) (by rw [k4]; exact hbk2)
              obtain ⟨fw, hfw⟩ : ∃ fw, updB (wdT l) n true = fw := ⟨_, rfl⟩
              obtain ⟨gv, hgv⟩ : ∃ gv, vB l l' ((ordN l).take j) = gv := ⟨_, rfl⟩
              rw [hfw, hgv] at HT1
              obtain ⟨II, hII⟩ : ∃ II : List (InC l s.name) → World → Prop, II = (fun pre V => TurnW w L p n true fw cw w2.heap.size Ds (updB gv s.name (anyW fw pre)) (l.length * l.length + j + (anyW fw pre).toNat) V ∧ Blk V wr.heap.size 107 #[.pointer (some ⟨b', 0, none⟩)]) := ⟨_, rfl⟩
              have HII := hide hII
              clear hII
              have hmk := HT1.out.marks.lt
              have Hfw := hide hfw
              have Hgv := hide hgv
              clear hfw hgv
              go_wp2_with fail
              refine wp_range1 (α := InC l s.name) (p := 65) (d := 10) rfl (enters_of Try.func93 (by kernel_rfl) rfl) (v0 := fun x : InC l s.name => .pointer (addrO (ptrT (stdsT l) L.kb x.1))) hst
                (fun h k => h.trans k) (fun W' lx o' hl => KeptS.putObj (B := w2.heap.size) (fun k hk => by
                  rcases hk with h | h
                  · exact hkw2.lt k h
                  · omega) W' lx o' hl) (fun W' => KeptS.refl _ _) (Below.refl _ _)
                II (fun _ _ _ => False)
                (by rw [HII.out]; exact OwnFrom.and (TurnW.own hlw hlv (by omega) hmk) (fun s W W' row h hg hr => blk_grown h hg (fun e => by have := (hr _ e).1; omega))) (fun c => ownFrom_pure _ _) (fun pre W' h => by rw [HII.out] at h; exact h.1.size)
                (by rw [HII.out]; exact ⟨HT1.out.to (Nat.le_refl _), Hkx1.out⟩)
                ?assign ?body ?done ?stop
              case assign =>
                intro lp x V K hK
                gi_wp2
                exact hK
              case body =>
                intro lp pre y V hi hlen
                rw [HII.out] at hi
                obtain ⟨hT, hkx⟩ := hi
                clear HT1 Hkx1
                have HT := hide hT
                have Hkx := hide hkx
                clear hT hkx
                simp only [List.setIfInBounds_toArray, List.set_cons_succ, List.set_cons_zero]
                obtain ⟨sy, hsy⟩ := inC_std hgd k3 y
                obtain ⟨yb, hyb, hybm, hybk⟩ := known_get hgd hkn hsy
                have hky := hkeep yb (List.mem_append_right _ hybm)
                obtain ⟨hsk, hsyn, -⟩ := good_std hgd hsy
                have hyn : sy.name.size ≤ maxLen := name_size hsk.1
                have Hsyn := hide hsyn
                clear hsyn
                rw [hyb]
                simp only [addrO, Option.map_some]
                have hyV : Blk V yb 109 _ := (HT.out.stab hky.1 hky.2.1 hky.2.2).trans hybk
                obtain ⟨x0, x1, x2, x3, x4, x5, x6, x7⟩ := Blk.c8 (Hbk.out _ _ _ _ _ _ _ HT.out)
                have ltk := Blk.lt (Hbk.out _ _ _ _ _ _ _ HT.out)
                have b0 := HT.out.b0
                have ltb := HT.out.bp.lt
                have y0 : V.cell? ⟨yb, 0, none⟩ = some (.string sy.name) := hyV.c 0 rfl
                have lty := hyV.lt
                gi_wp2
                refine wpIn_region_wide (by kernel_rfl) (by kernel_rfl) (by first | exact ownPostG_out | exact block_out ownPostG_out | exact then_out ownPostG_out | exact then_out (block_out ownPostG_out) | exact block_out (then_out ownPostG_out) | exact then_out (then_out ownPostG_out) | exact then_out (then_out (block_out ownPostG_out)) | exact then_out (block_out (then_out ownPostG_out))) ?_
                apply any_region_L (w0 := V) [[], [], [], [], [], [], [], [], [], []] [true, true, true, true, true, true, true, true, true, true] [] (fun ixq y => match ixq with  | _ => undef) (fun ixq x F wq => match ixq with  | _ => True) (fun a x => a) (by kernel_rfl) (fun _ => rfl) [67, 71, 75] (by kernel_rfl)
                · intro x D hD
                  have hne := hD.some
                  have k9 := liftB hD b0 (by first | assumption | omega)
                  have k5 := liftB hD x5 (by first | assumption | omega)
                  have ky := liftB hD y0 (by first | assumption | omega)
                  have hlk := fun (x : Of D) => (HT.out.later (kb hD x) hlw hlv).look_wd hyn
                  simp only [takeOps, Act.put, List.setIfInBounds_toArray, List.set_cons_succ, List.set_cons_zero]
                  repeat (go_big_quiet_step (fail))
                  exact wpQuiet_nil rfl
                · intro d hd x x'
                  simp only [List.mem_cons, List.not_mem_nil, or_false] at hd
                  rcases hd with rfl | rfl | rfl
                  all_goals rfl
                · exact trivial
                · exact trivial
                intro xx V2 F hL hlv8 hap8
                clear hap8
                clear hlv8
                clear x0 x1 x2 x3 x4 x5 x6 x7 ltk b0 ltb y0 lty hyV
                have HKF := hide (KeepsFrom.of_grownBy (B := w2.heap.size) (grown_of_below hL) (fun j e => by cases e))
                have HKS := hide (KeptS.of_grown (S := fun k => k ∈ L.kb ∨ k = w1.heap.size) (grown_of_below hL) (fun _ e => by cases e))
                replace HT := hide (HT.out.later hL hlw hlv)
                replace Hkx := hide (blk_later Hkx.out hL)
                clear hL
                have hsn2 := anyW_snoc fw pre y
                rw [← Hsyn.out] at hsn2
                obtain ⟨q, hq⟩ : ∃ q, fw sy.name = q := ⟨_, rfl⟩
                rw [hq] at hsn2
                simp only [hq]
                clear hq
                have HSN := hide hsn2
                clear hsn2
                cases q with
                | false =>
                  gi_wp2
                  refine ⟨HKF.out, HKS.out, ?_⟩
                  rw [HII.out]
                  dsimp only
                  rw [HSN.out, Bool.or_false]
                  exact ⟨HT.out, Hkx.out⟩
                | true =>
                  obtain ⟨x0, x1, x2, x3, x4, x5, x6, x7⟩ := Blk.c8 (Hbk.out _ _ _ _ _ _ _ HT.out)
                  have ltk := Blk.lt (Hbk.out _ _ _ _ _ _ _ HT.out)
                  have b0 := HT.out.b0
                  have ltb := HT.out.bp.lt
                  have kx0 := ptr0 Hkx.out
                  have ltx := Hkx.out.lt
                  have hkV : Blk V2 b' 109 _ := (HT.out.stab hkb'.1 hkb'.2.1 hkb'.2.2).trans hbk'
                  have s0 : V2.cell? ⟨b', 0, none⟩ = some (.string s.name) := hkV.c 0 rfl
                  have lts := hkV.lt
                  obtain ⟨cv2, hcv2, hv2⟩ := HT.out.void
                  have ltm := hv2.lt
                  have Hv := hide hv2
                  have hpl : (anyW fw pre).toNat ≤ 1 := by cases anyW fw pre <;> simp
                  gi_wp2
                  refine wpIn_region_wide (by kernel_rfl) (by kernel_rfl) (by first | exact ownPostG_out | exact block_out ownPostG_out | exact then_out ownPostG_out | exact then_out (block_out ownPostG_out) | exact block_out (then_out ownPostG_out) | exact then_out (then_out ownPostG_out) | exact then_out (then_out (block_out ownPostG_out)) | exact then_out (block_out (then_out ownPostG_out))) ?_
                  apply any_region_F (w0 := V2) [[], [0], [0, 1], [0, 1, 2], [], [4], [4, 5], [4, 5, 6], [4, 5, 6, 7], [0, 1, 2, 3, 4, 5, 6, 7, 8]] [true, true, true, true, true, true, true, true, true, false] [false, false, false, false, false, false, false, false, false, false] [⟨9, none, [], []⟩] [(9, L.bv)] [9] (fun ixq y => match ixq with | 9 => undef | _ => undef) (fun ixq x F wq => match ixq with | 9 => F L.bv ∧ MapV wq Try.prog 9 L.bv (putF ((boolF (updB gv s.name (anyW fw pre)))) (s.name) (.bool true)) (if (((boolF (updB gv s.name (anyW fw pre)))) (s.name)).isSome then cv2 else cv2 + 1) | _ => True) (fun a x => (a).put (none) (undef)) (by kernel_rfl) (by kernel_rfl) (fun _ => rfl) [77, 81] (by kernel_rfl) (fills_lt1 (by omega)) fills_ne1
                  · intro x D hD
                    have hne := hD.some
                    have k9 := liftS hD b0 (by exact early_all (by first | assumption | omega) (by rfl))
                    have k6 := liftS hD x6 (by exact early_all (by first | assumption | omega) (by rfl))
                    have ke := liftS hD kx0 (by exact early_all (by first | assumption | omega) (by rfl))
                    have ks := liftS hD s0 (by exact early_all (by first | assumption | omega) (by rfl))
                    simp only [takeOps, Act.put, List.setIfInBounds_toArray, List.set_cons_succ, List.set_cons_zero]
                    repeat (go_big_quiet_step (fail))
                    exact wpQuiet_nil rfl
                  · exact fun x D hD => wpQuiet_nil rfl
                  · intro d hd x x'
                    simp only [List.mem_cons, List.not_mem_nil, or_false] at hd
                    rcases hd with rfl | rfl
                    all_goals rfl
                  · refine ⟨?_, trivial⟩
                    · exact obl_mapTrue 95 9 4 79 84 L.bv cv2 ((boolF (updB gv s.name (anyW fw pre)))) (s.name) (by kernel_rfl) (fun _ => rfl) (fun _ => rfl) Try.underlying9 Try.underlying95 (by have := Nat.mul_le_mul (Nat.le_of_lt (Nat.lt_of_not_le c1)) (Nat.le_of_lt (Nat.lt_of_not_le c1)); unfold maxLen; omega) hsn Hv.out eb_fill1 (by simp [wrF]) (fun _ => rfl) (fun _ _ _ _ h1 h2 => ⟨h1, h2⟩)
                  · refine ⟨?_, trivial⟩
                    · exact owe_mapV _ _ _ _ _ (fun _ _ _ => rfl)
                  intro xx V3 F hK hlv9 hap9
                  clear hap9
                  obtain ⟨fct9, -⟩ := hlv9
                  replace fct9 : (F 9) L.bv ∧ MapV V3 Try.prog 9 L.bv (putF ((boolF (updB gv s.name (anyW fw pre)))) (s.name) (.bool true)) (if (((boolF (updB gv s.name (anyW fw pre)))) (s.name)).isSome then cv2 else cv2 + 1) := fct9 rfl
                  have hgr := grown_kept hK
                  have hvs : ∃ c, c ≤ l.length * l.length + j + 1 ∧ MapV V3 Try.prog 9 L.bv (boolF (updB gv s.name true)) c := ⟨_, by
                    unfold boolF
                    rw [updB_same]
                    revert hcv2
                    cases anyW fw pre <;> intro hcv2 <;> simp at hcv2 ⊢ <;> omega, fct9.2.congr fun z => by rw [boolF_put, updB_updB]⟩
                  have HT3 := hide (HT.out.turned hgr hlv hwv hvs)
                  have Hkx3 := hide (blk_grown Hkx.out hgr (fun e => by have := Option.some.inj e; omega))
                  have hbvn : L.bv < w2.heap.size := by omega
                  have HKF3 := hide (HKF.out.trans (KeepsFrom.of_grownBy (B := w2.heap.size) hgr (fun i e => by cases e; exact hbvn)))
                  have HKS3 := hide (HKS.out.trans (KeptS.of_grown (S := fun k => k ∈ L.kb ∨ k = w1.heap.size) hgr (fun k e hk => by
                    cases e
                    rcases hk with h | h
                    · exact (hkeep _ (List.mem_append_right _ h)).2.2 rfl
                    · omega)))
                  clear x0 x1 x2 x3 x4 x5 x6 x7 ltk b0 ltb kx0 ltx hkV s0 lts hv2 ltm Hv hK fct9 hgr hcv2 HT Hkx HKF HKS hvs
                  gi_wp2
                  refine ⟨HKF3.out, HKS3.out, ?_⟩
                  rw [HII.out]
                  dsimp only
                  rw [HSN.out, Bool.or_true]
                  exact ⟨HT3.out, Hkx3.out⟩
              case done =>
                intro D xs V hD hxs hi hdd
                rw [HII.out] at hi
                obtain ⟨hT, hkx⟩ := hi
                subst hxs
                have hT2 := hT.mark (fun h => by have := hmk D h; omega) (by omega) hdd
                have hall : anyW fw (chainT l s.name).attach = voidT l' s.name := by rw [← Hfw.out, ← Hwt.out, ← Hl'.out]; exact anyW_all l n s.name _
                have hg : updB gv s.name (voidT l' s.name) = vB l l' ((ordN l).take (j + 1)) := by rw [← Hgv.out, vB_next, List.take_add_one, k1]; rfl
                have hbt : (voidT l' s.name).toNat ≤ 1 := by cases voidT l' s.name <;> simp
                rw [hall, hg] at hT2
                rw [← Hfw.out] at hT2
                have HT4 := hide ((hT2.le (m' := l.length * l.length + (j + 1)) (by omega)).back (B' := w.heap.size + 3) (by omega))
                clear hT hT2 hkx hall hg HT1 Hkx1
                go_wp2
                refine ⟨?_, ?_⟩
                · rw [HINV.out]
                  iterate 90 (apply Exists.intro)
                  exact ⟨j + 1, D :: Ds, ⟨hjl, by rw [List.length_cons, hlen], HT4.out⟩, rfl⟩
                · (try simp only [List.length_cons, List.length_map])
                  omega
              case stop =>
                intro D jc pre V hD hpre hix hdd
                exact hix.elim
            · obtain rfl : j = M := by omega
              have hg : vB l l' ((ordN l).take j) = voidT l' := by rw [List.take_of_length_le (by unfold ordN; simp [hM]), ← Hl'.out]; exact vB_all l n _
              rw [hg] at HT
              obtain ⟨cv, hcv, hv⟩ := HT.out.void
              have Q := bookQ_turn hb hok hcw (by rw [hM]; exact hcv) (by rw [wd_turn]; exact HT.out.wd) (by rw [Hl'.out]; exact hv) (fun k h1 h2 h3 => HT.out.stab h1 h2 h3)
              have hen := Q.entries
              rw [e3] at hen
              have hpl := hlt p (by simp [Lay.all])
              have hel : ∀ k, (Value.slice Ae l.length ce).ownBlock = some k → k ∈ L.all p := fun k e => mem_all.2 (.inr (by rw [e3]; exact e))
              have hep : (Value.slice Ae l.length ce).ownBlock ≠ some p := fun e => by
                have hnd := hb.nodup
                unfold Lay.all at hnd
                exact (List.nodup_cons.1 hnd).1 (by simp [optL_mem (v := L.ve) (by rw [e3]; exact e)])
              have heb : (Value.slice Ae l.length ce).ownBlock ≠ some w.heap.size := fun e => by have := hlt _ (hel _ e); omega
              have hjn : ¬ ((j : Int) < j) := by omega
              obtain ⟨i0, hii, hz0, hz1, hz2⟩ := info_parts funcInfo
              have hbk0 : Blk wr p 98 _ := Hbk.out _ _ _ _ _ _ _ HT.out
              have Hi := hide hii
              have Hz0 := hide hz0
              have Hz1 := hide hz1
              have Hz2 := hide hz2
              have Hen := hide hen
              have HneE := hide hep
              have Hbkp := hide hbk0
              have HQ := hide Q
              clear hii hz0 hz1 hz2 hen hep hbk0 Q
              have b0 := HT.out.b0
              have ltb := HT.out.bp.lt
              obtain ⟨x0, x1, x2, x3, x4, x5, x6, x7⟩ := Hbkp.out.c8
              have ltk := Hbkp.out.lt
              obtain ⟨qn, hqn⟩ : ∃ qn, w.heap.size + 1 = qn := ⟨_, rfl⟩
              rw [hqn]
              have Hqn := hide hqn
              clear hqn
              go_wp2_with fail
              apply wp_region_F (w0 := wr) [[], [], [1], [1, 2], [1, 2, 3], [], [5], [1, 2, 3, 4, 5, 6], [0, 1, 2, 3, 4, 5, 6, 7], [0, 1, 2, 3, 4, 5, 6, 7, 8], [0, 1, 2, 3, 4, 5, 6, 7, 8, 9]] [true, true, true, true, true, true, false, false, true, true, false] [false, false, false, false, false, false, false, false, false, false, false] [⟨6, none, [], []⟩, ⟨7, none, [6], []⟩, ⟨10, none, [], [7]⟩] (fillQ 7 (.slice Ae l.length ce) 10 p) [10] (fun ixq y => match ixq with | 6 => .slice (y 0).1 1 1 | 7 => .slice (y 0).1 (l.length + 1) (y 0).2 | 10 => undef | _ => undef) (fun ixq x F wq => match ixq with | 6 => OwnF wq F wr.heap.size 106 1 (.slice (x 6 0).1 1 1) 1 #[.func (.func 91) #[] #[.pointer (some ⟨qn, 0, none⟩), .pointer (some ⟨qn + 1, 0, none⟩)]].toList | 7 => OwnF wq F 0 106 1 (.slice (x 7 0).1 (l.length + 1) (x 7 0).2) (l.length + 1) ((entRow l L.cb) ++ (#[.func (.func 91) #[] #[.pointer (some ⟨qn, 0, none⟩), .pointer (some ⟨qn + 1, 0, none⟩)]] : Array Value).toList) ∧ FreshOr wr.heap.size (.slice Ae l.length ce) (.slice (x 7 0).1 (l.length + 1) (x 7 0).2) | 10 => F p ∧ Blk wq p 98 #[.bool true, .map (some L.br), .map (some L.bs), .slice Ao j co, .slice At (testsT l).length ct, .map (some L.bw), .map (some L.bv), .slice (x 7 0).1 (l.length + 1) (x 7 0).2] | _ => True) (fun a x => (((a).put (some 92) (.slice ((x 6) 0).1 1 1)).put (some 93) (.slice ((x 7) 0).1 (l.length + 1) ((x 7) 0).2)).put (none) (undef)) (by kernel_rfl) (by kernel_rfl) (by kernel_rfl) (fun _ => rfl) [88, 91, 94] (by kernel_rfl) (fillQ_lt (fun g hg => (Hen.out.lt g hg).2) (by omega)) (fillQ_ne HneE.out)
              · intro x D hD
                have hne := hD.some
                have k9 := liftS hD b0 (earlyQ (by first | assumption | omega) heb)
                have k7 := liftS hD x7 (earlyQ (by first | assumption | omega) HneE.out)
                simp only [takeOps, Act.put, List.setIfInBounds_toArray, List.set_cons_succ, List.set_cons_zero]
                repeat (go_big_quiet_step (fail))
                exact wpQuiet_nil rfl
              · exact fun x D hD => wpQuiet_nil rfl
              · intro d hd x x'
                simp only [List.mem_cons, List.not_mem_nil, or_false] at hd
                rcases hd with rfl | rfl | rfl
                all_goals rfl
              · refine ⟨?_, ?_, ?_, trivial⟩
                · exact obl_new rfl (fun _ => by kernel_rfl) 106 (fun x => #[.func (.func 91) #[] #[.pointer (some ⟨qn, 0, none⟩), .pointer (some ⟨qn + 1, 0, none⟩)]]) gP (fun x w => by kernel_rfl) (fun x w hle => own_new hle rfl (by unfold maxLen; omega))
                · refine obl_pushQ 96 90 92 (by kernel_rfl) 0 106 i0 _ 1 8 Try.underlying96 Hi.out Hz0.out Hz1.out Hz2.out rfl (by decide) (.slice Ae l.length ce) l.length 1 ((entRow l L.cb)) (#[.func (.func 91) #[] #[.pointer (some ⟨qn, 0, none⟩), .pointer (some ⟨qn + 1, 0, none⟩)]] : Array Value).toList (by first | rfl | (simp; done) | (simp; omega)) (by simp [Value.oneCell']) (by unfold maxLen; omega) (by omega) (by first | assumption | omega) (fun x w F hk hn => ?_) (fun _ => rfl) (fun _ _ _ _ h1 h2 => ⟨h1, h2⟩)
                  have hj : OwnF w (F 6) wr.heap.size 106 1 (.slice (x 6 0).1 1 1) 1 (#[.func (.func 91) #[] #[.pointer (some ⟨qn, 0, none⟩), .pointer (some ⟨qn + 1, 0, none⟩)]] : Array Value).toList := hn 6 (by simp)
                  obtain ⟨ad, hA, hc⟩ := news_own hj (by decide)
                  exact ⟨ad, 1, rfl, row_thenQ Hen.out HneE.out hk, wrQ_row, (show Value.slice (x 6 0).1 1 1 = _ by rw [hA]), hc⟩
                · exact obl_setv 96 98 95 93 p 7 _ (fun x => .slice (x 7 0).1 (l.length + 1) (x 7 0).2) (fun x => #[.bool true, .map (some L.br), .map (some L.bs), .slice Ao j co, .slice At (testsT l).length ct, .map (some L.bw), .map (some L.bv), .slice (x 7 0).1 (l.length + 1) (x 7 0).2]) (by kernel_rfl) (fun _ => rfl) (fun _ => rfl) (fun _ => rfl) Hbkp.out (ebQ_set HneE.out) wrQ_set (by kernel_rfl) (by first | assumption | (simp; done)) (fun _ => rfl) (fun _ => rfl) (fun _ _ _ _ h1 h2 => ⟨h1, h2⟩)
              · refine ⟨?_, ?_, ?_, trivial⟩
                · refine ⟨fun x F wq wq' h hs hk => ?_, fun x x' F wq hx h => ?_⟩
                  · have h2 : OwnF wq F wr.heap.size 106 1 (.slice (x 6 0).1 1 1) 1 #[.func (.func 91) #[] #[.pointer (some ⟨qn, 0, none⟩), .pointer (some ⟨qn + 1, 0, none⟩)]].toList := h
                    exact h2.stab hk
                  · have h2 : OwnF wq F wr.heap.size 106 1 (.slice (x 6 0).1 1 1) 1 #[.func (.func 91) #[] #[.pointer (some ⟨qn, 0, none⟩), .pointer (some ⟨qn + 1, 0, none⟩)]].toList := h
                    rw [hx 6 (by simp)] at h2
                    exact h2
                · exact owe_pushQ 7 _ 0 (.slice Ae l.length ce) 106 1 (l.length + 1) ((entRow l L.cb) ++ (#[.func (.func 91) #[] #[.pointer (some ⟨qn, 0, none⟩), .pointer (some ⟨qn + 1, 0, none⟩)]] : Array Value).toList) rfl (fun _ _ _ => rfl)
                · exact owe_fill p 98 (fun x => #[.bool true, .map (some L.br), .map (some L.bs), .slice Ao j co, .slice At (testsT l).length ct, .map (some L.bw), .map (some L.bv), .slice (x 7 0).1 (l.length + 1) (x 7 0).2]) (fun _ _ _ => rfl) (fun x x' hx => by simp only [hx 7 (by simp)])
              intro xx w9 F hK hlv10
              obtain ⟨-, fct7, fct10, -⟩ := hlv10
              replace fct7 : OwnF w9 (F 7) 0 106 1 (.slice (xx 7 0).1 (l.length + 1) (xx 7 0).2) (l.length + 1) ((entRow l L.cb) ++ (#[.func (.func 91) #[] #[.pointer (some ⟨qn, 0, none⟩), .pointer (some ⟨qn + 1, 0, none⟩)]] : Array Value).toList) ∧ FreshOr wr.heap.size (.slice Ae l.length ce) (.slice (xx 7 0).1 (l.length + 1) (xx 7 0).2) := fct7 rfl
              replace fct10 : (F 10) p ∧ Blk w9 p 98 #[.bool true, .map (some L.br), .map (some L.bs), .slice Ao j co, .slice At (testsT l).length ct, .map (some L.bw), .map (some L.bv), .slice (xx 7 0).1 (l.length + 1) (xx 7 0).2] := fct10 rfl
              obtain ⟨⟨hot, -⟩, hfr⟩ := fct7
              have hbk9 := fct10.2
              rw [← Hqn.out] at hot
              generalize (xx 7 0).1 = A7 at *
              generalize (xx 7 0).2 = c7 at *
              have hk9 : ∀ k, k < wr.heap.size → k ≠ p → (Value.slice Ae l.length ce).ownBlock ≠ some k → w9.heap[k]? = wr.heap[k]? := fun k a b c => hK.block k ⟨a, freeQ c (Ne.symm b)⟩
              have hso : ∀ k, w.heap.size ≤ k → k < wr.heap.size → w9.heap[k]? = wr.heap[k]? := fun k h1 h2 => hk9 k h2 (by omega) (fun e => by have := hlt _ (hel _ e); omega)
              have hs9 : Blk w9 (w.heap.size + 1) 9 #[.string n] := (hso _ (by omega) HT.out.bs.lt).trans HT.out.bs
              have ho9 : Blk w9 (w.heap.size + 1 + 1) 4 #[.bool true] := (hso _ (by omega) HT.out.bo.lt).trans HT.out.bo
              have R := HQ.out.push2 (c := [w.heap.size + 1, w.heap.size + 1 + 1]) (v := .slice A7 (l.length + 1) c7) (W := w9) ⟨_, _, rfl, HT.out.bs, HT.out.bo⟩ (by simp) (fun k hk' hm => by
                have := hlt k hm
                simp only [List.mem_cons, List.not_mem_nil, or_false] at hk'
                omega) (fun k a b c => hk9 k a b (by rw [e3] at c; exact c)) (by unfold bookC; simp only; rw [e1, e2, hM]; exact hbk9) hot (by
                rcases hfr with e | ⟨g, e, hg⟩
                · exact .inl (by rw [e3]; exact e)
                · exact .inr ⟨g, e, hg⟩)
              have hmk9 : MarksOK w.heap.size Ds w9 := ⟨HT.out.marks.1, fun D hD => ⟨(HT.out.marks.2 D hD).1, (hso D (HT.out.marks.2 D hD).1 (HT.out.marks.lt D hD)).trans (HT.out.marks.2 D hD).2⟩⟩
              have hszr := HT.out.kept.size
              have hsz9 : w.heap.size ≤ w9.heap.size := Nat.le_trans hszr hK.size
              have hkw9 : Kept (fun k => k < w.heap.size ∧ k ∉ L.all p) w w9 := ⟨hK.os.trans HT.out.kept.os, hK.tape.trans HT.out.kept.tape, hK.output.trans HT.out.kept.output, hsz9, fun k hk => (hk9 k (by omega) (fun e => hk.2 (by rw [e]; simp [Lay.all])) (fun e => hk.2 (hel _ e))).trans (HT.out.kept.block k ⟨hk.1, fun e => hk.2 (by rw [e]; simp [Lay.all]), fun e => hk.2 (by rw [e]; simp [Lay.all])⟩)⟩
              have Hs9 := hide hs9
              have Ho9 := hide ho9
              have HR := hide R
              have Hmk9 := hide hmk9
              have Hkw9 := hide hkw9
              have Hot := hide hot
              have Hfr := hide hfr
              clear hs9 ho9 R hmk9 hkw9 hot hfr
              clear x0 x1 x2 x3 x4 x5 x6 x7 ltk b0 ltb hk9 hso fct10 hbk9 hK
              go_wp2
              refine leaves_marks Ds w9 Hmk9.out hsz9 fun w' hbw' hcells => ?_
              subst hE
              refine ⟨.int .i64 0, by simp [results, Try.results76, go_sem], rfl, _, HR.out.stab fun k hk' => ?_, ⟨⟨hbw'.os.trans Hkw9.out.os, hbw'.tape.trans Hkw9.out.tape, hbw'.output.trans Hkw9.out.output, Nat.le_trans hsz9 hbw'.size, fun k hk => (hbw'.block k hk.1).trans (Hkw9.out.block k hk)⟩, fun k hk' => ?_⟩⟩
              · rw [(L.perm_push p _ _).mem_iff] at hk'
                rcases List.mem_append.1 hk' with h | h
                · exact hbw'.block k (hlt k (mem_all.2 (.inl h)))
                · rcases List.mem_append.1 h with h | h
                  · rw [optL_iff] at h
                    rcases Hot.out.2 with ⟨h0, -⟩ | ⟨g, cap, cur, hv, -, hg, -⟩
                    · rw [h0] at h; cases h
                    · rw [hv] at h
                      have := Option.some.inj h
                      subst this
                      exact (hcells _ _ _ hg).trans hg.symm
                  · simp only [List.mem_cons, List.not_mem_nil, or_false] at h
                    rcases h with rfl | rfl
                    · exact (hcells _ _ _ Hs9.out).trans Hs9.out.symm
                    · exact (hcells _ _ _ Ho9.out).trans Ho9.out.symm
              · rw [(L.perm_push p _ _).mem_iff] at hk'
                rcases List.mem_append.1 hk' with h | h
                · exact .inl (mem_all.2 (.inl h))
                · rcases List.mem_append.1 h with h | h
                  · rw [optL_iff] at h
                    rcases Hfr.out with e | ⟨g, e, hg⟩
                    · exact .inl (hel _ (e.symm.trans h))
                    · rw [e] at h
                      have := Option.some.inj h
                      exact .inr (by omega)
                  · simp only [List.mem_cons, List.not_mem_nil, or_false] at h
                    exact .inr (by omega)
        | false =>
          obtain ⟨x0, x1, x2, x3, x4, x5, x6, x7⟩ := Blk.c8 (Hbk.out _ _ _ _ _ _ _ H.out)
          have ltk := Blk.lt (Hbk.out _ _ _ _ _ _ _ H.out)
          have b0 := H.out.b0
          have ltb := H.out.bp.lt
          have n0 := H.out.n0
          have lts := H.out.bs.lt
          have o0 := H.out.o0
          have lto := H.out.bo.lt
          have ltm := H.out.wd.lt
          have Hwd := hide H.out.wd
          go_wp2_with fail
          apply wp_region_F (w0 := w5) [[], [0], [0, 1], [0, 1, 2], [], [0, 1, 2, 3, 4]] [true, true, true, true, true, false] [false, false, false, false, false, false] [⟨5, none, [], []⟩] [(5, L.bw)] [5] (fun ixq y => match ixq with | 5 => .tuple #[] | _ => undef) (fun ixq x F wq => match ixq with | 5 => F L.bw ∧ MapV wq Try.prog 9 L.bw (delF ((boolF (updB (wdT l) n true))) (n)) (if (((boolF (updB (wdT l) n true))) (n)).isSome then cw - 1 else cw) | _ => True) (fun a x => (a).put (none) (.tuple #[])) (by kernel_rfl) (by kernel_rfl) (by kernel_rfl) (fun _ => rfl) [41] (by kernel_rfl) (fills_lt1 (by omega)) fills_ne1
          · intro x D hD
            have hne := hD.some
            have k9 := liftS hD b0 (by exact early_all (by first | assumption | omega) (by rfl))
            have k5 := liftS hD x5 (by exact early_all (by first | assumption | omega) (by rfl))
            have kn := liftS hD n0 (by exact early_all (by first | assumption | omega) (by rfl))
            simp only [takeOps, Act.put, List.setIfInBounds_toArray, List.set_cons_succ, List.set_cons_zero]
            repeat (go_big_quiet_step (fail))
            exact wpQuiet_nil rfl
          · exact fun x D hD => wpQuiet_nil rfl
          · intro d hd x x'
            simp only [List.mem_cons, List.not_mem_nil, or_false] at hd
            rcases hd with rfl
            all_goals rfl
          · refine ⟨?_, trivial⟩
            · exact obl_mapDel 95 9 4 43 44 L.bw cw ((boolF (updB (wdT l) n true))) (n) (by kernel_rfl) (fun _ => rfl) (fun _ => rfl) Try.underlying9 Try.underlying95 hn Hwd.out eb_fill1 (by simp [wrF]) (fun _ => rfl) (fun _ _ _ _ h1 h2 => ⟨h1, h2⟩)
          · refine ⟨?_, trivial⟩
            · exact owe_mapV _ _ _ _ _ (fun _ _ _ => rfl)
          intro xx w6 F hK hlv11
          obtain ⟨fct5, -⟩ := hlv11
          replace fct5 : (F 5) L.bw ∧ MapV w6 Try.prog 9 L.bw (delF ((boolF (updB (wdT l) n true))) (n)) (if (((boolF (updB (wdT l) n true))) (n)).isSome then cw - 1 else cw) := fct5 rfl
          have hgr := grown_kept hK
          obtain ⟨c9, h9, hmw⟩ : ∃ c, c ≤ l.length + 1 ∧ MapV w6 Try.prog 9 L.bw (boolF (updB (wdT l) n false)) c := ⟨_, by split <;> omega, fct5.2.congr fun s => by rw [boolF_del, updB_updB]⟩
          have HT := hide (H.out.turnedW hgr hlw hwv hmw)
          clear x0 x1 x2 x3 x4 x5 x6 x7 ltk b0 ltb n0 lts o0 lto ltm Hwd H hmw hgr hK fct5 hcw
          have hcw := h9
          clear h9
          generalize c9 = cw at *
          obtain ⟨x0, x1, x2, x3, x4, x5, x6, x7⟩ := Blk.c8 (Hbk.out _ _ _ _ _ _ _ HT.out)
          have ltk := Blk.lt (Hbk.out _ _ _ _ _ _ _ HT.out)
          have b0 := HT.out.b0
          have ltb := HT.out.bp.lt
          have o0 := HT.out.o0
          have lto := HT.out.bo.lt
          go_wp2_with fail
          clear x0 x1 x2 x3 x4 x5 x6 x7 ltk b0 ltb o0 lto
          obtain ⟨INV, hINV⟩ : ∃ INV : Act → World → Prop, INV = (fun a' wr => ∃ u0 u1 u2 u6 u7 u8 u9 u10 u11 u12 u13 u14 u15 u16 u17 u18 u19 u20 u21 u22 u23 u24 u25 u26 u27 u28 u29 u30 u31 u32 u33 u34 u35 u36 u37 u38 u39 u40 u41 u42 u43 u44 u45 u46 u47 u51 u52 u53 u54 u55 u56 u57 u58 u59 u60 u61 u62 u63 u64 u65 u66 u67 u68 u69 u70 u71 u72 u73 u74 u75 u76 u77 u78 u79 u80 u81 u82 u83 u84 u85 u86 u87 u88 u89 u90 u91 u92 u93 u94 u95 : Value, ∃ (j : Nat) (Ds : List Nat), (j ≤ M ∧ Ds.length = j ∧ TurnW w L p n false (updB (wdT l) n false) cw (w.heap.size + 3) Ds (vB l l' ((ordN l).take j)) (l.length * l.length + j) wr) ∧ a' = ⟨#[u0, u1, u2, .pointer (some ⟨w.heap.size, 0, none⟩), .pointer (some ⟨w.heap.size + 1, 0, none⟩), .pointer (some ⟨w.heap.size + 1 + 1, 0, none⟩), u6, u7, u8, u9, u10, u11, u12, u13, u14, u15, u16, u17, u18, u19, u20, u21, u22, u23, u24, u25, u26, u27, u28, u29, u30, u31, u32, u33, u34, u35, u36, u37, u38, u39, u40, u41, u42, u43, u44, u45, u46, u47, .slice Ao M co, .int .i64 M, .int .i64 j, u51, u52, u53, u54, u55, u56, u57, u58, u59, u60, u61, u62, u63, u64, u65, u66, u67, u68, u69, u70, u71, u72, u73, u74, u75, u76, u77, u78, u79, u80, u81, u82, u83, u84, u85, u86, u87, u88, u89, u90, u91, u92, u93, u94, u95], Ds.map markD⟩) := ⟨_, rfl⟩
          have HINV := hide hINV
          clear hINV
          refine wp_loop INV (fun a' _ => M + 1 - a'.defers.length) ?_ ?_
          · rw [HINV.out]
            iterate 90 (apply Exists.intro)
            refine ⟨0, [], ⟨Nat.zero_le _, rfl, ?_⟩, rfl⟩
            have h0 : vB l l' ((ordN l).take 0) = voidT l := by rw [List.take_zero]; exact vB_nil _ _
            rw [h0]
            exact HT.out
          · intro a' wr hinv
            rw [HINV.out] at hinv
            obtain ⟨u0, hinv⟩ := hinv
            obtain ⟨u1, hinv⟩ := hinv
            obtain ⟨u2, hinv⟩ := hinv
            obtain ⟨u6, hinv⟩ := hinv
            obtain ⟨u7, hinv⟩ := hinv
            obtain ⟨u8, hinv⟩ := hinv
            obtain ⟨u9, hinv⟩ := hinv
            obtain ⟨u10, hinv⟩ := hinv
            obtain ⟨u11, hinv⟩ := hinv
            obtain ⟨u12, hinv⟩ := hinv
            obtain ⟨u13, hinv⟩ := hinv
            obtain ⟨u14, hinv⟩ := hinv
            obtain ⟨u15, hinv⟩ := hinv
            obtain ⟨u16, hinv⟩ := hinv
            obtain ⟨u17, hinv⟩ := hinv
            obtain ⟨u18, hinv⟩ := hinv
            obtain ⟨u19, hinv⟩ := hinv
            obtain ⟨u20, hinv⟩ := hinv
            obtain ⟨u21, hinv⟩ := hinv
            obtain ⟨u22, hinv⟩ := hinv
            obtain ⟨u23, hinv⟩ := hinv
            obtain ⟨u24, hinv⟩ := hinv
            obtain ⟨u25, hinv⟩ := hinv
            obtain ⟨u26, hinv⟩ := hinv
            obtain ⟨u27, hinv⟩ := hinv
            obtain ⟨u28, hinv⟩ := hinv
            obtain ⟨u29, hinv⟩ := hinv
            obtain ⟨u30, hinv⟩ := hinv
            obtain ⟨u31, hinv⟩ := hinv
            obtain ⟨u32, hinv⟩ := hinv
            obtain ⟨u33, hinv⟩ := hinv
            obtain ⟨u34, hinv⟩ := hinv
            obtain ⟨u35, hinv⟩ := hinv
            obtain ⟨u36, hinv⟩ := hinv
            obtain ⟨u37, hinv⟩ := hinv
            obtain ⟨u38, hinv⟩ := hinv
            obtain ⟨u39, hinv⟩ := hinv
            obtain ⟨u40, hinv⟩ := hinv
            obtain ⟨u41, hinv⟩ := hinv
            obtain ⟨u42, hinv⟩ := hinv
            obtain ⟨u43, hinv⟩ := hinv
            obtain ⟨u44, hinv⟩ := hinv
            obtain ⟨u45, hinv⟩ := hinv
            obtain ⟨u46, hinv⟩ := hinv
            obtain ⟨u47, hinv⟩ := hinv
            obtain ⟨u51, hinv⟩ := hinv
            obtain ⟨u52, hinv⟩ := hinv
            obtain ⟨u53, hinv⟩ := hinv
            obtain ⟨u54, hinv⟩ := hinv
            obtain ⟨u55, hinv⟩ := hinv
            obtain ⟨u56, hinv⟩ := hinv
            obtain ⟨u57, hinv⟩ := hinv
            obtain ⟨u58, hinv⟩ := hinv
            obtain ⟨u59, hinv⟩ := hinv
            obtain ⟨u60, hinv⟩ := hinv
            obtain ⟨u61, hinv⟩ := hinv
            obtain ⟨u62, hinv⟩ := hinv
            obtain ⟨u63, hinv⟩ := hinv
            obtain ⟨u64, hinv⟩ := hinv
            obtain ⟨u65, hinv⟩ := hinv
            obtain ⟨u66, hinv⟩ := hinv
            obtain ⟨u67, hinv⟩ := hinv
            obtain ⟨u68, hinv⟩ := hinv
            obtain ⟨u69, hinv⟩ := hinv
            obtain ⟨u70, hinv⟩ := hinv
            obtain ⟨u71, hinv⟩ := hinv
            obtain ⟨u72, hinv⟩ := hinv
            obtain ⟨u73, hinv⟩ := hinv
            obtain ⟨u74, hinv⟩ := hinv
            obtain ⟨u75, hinv⟩ := hinv
            obtain ⟨u76, hinv⟩ := hinv
            obtain ⟨u77, hinv⟩ := hinv
            obtain ⟨u78, hinv⟩ := hinv
            obtain ⟨u79, hinv⟩ := hinv
            obtain ⟨u80, hinv⟩ := hinv
            obtain ⟨u81, hinv⟩ := hinv
            obtain ⟨u82, hinv⟩ := hinv
            obtain ⟨u83, hinv⟩ := hinv
            obtain ⟨u84, hinv⟩ := hinv
            obtain ⟨u85, hinv⟩ := hinv
            obtain ⟨u86, hinv⟩ := hinv
            obtain ⟨u87, hinv⟩ := hinv
            obtain ⟨u88, hinv⟩ := hinv
            obtain ⟨u89, hinv⟩ := hinv
            obtain ⟨u90, hinv⟩ := hinv
            obtain ⟨u91, hinv⟩ := hinv
            obtain ⟨u92, hinv⟩ := hinv
            obtain ⟨u93, hinv⟩ := hinv
            obtain ⟨u94, hinv⟩ := hinv
            obtain ⟨u95, hinv⟩ := hinv
            obtain ⟨j, Ds, ⟨hjM, hlen, hT0⟩, ha⟩ := hinv
            subst ha
            dsimp only
            clear HT
            have HT := hide hT0
            clear hT0
            by_cases hjl : j < M
            · obtain ⟨s, b, k1, k2, k3, k4⟩ := ord_at (bs := L.kb) hgd (by omega) (i := j) (by omega)
              obtain ⟨bo, cur, hAo, -, hbl, -, -, hcur⟩ := row_blk Hord.out (by omega)
              have hkeep := Hkp.out
              have hbok := hkeep bo (List.mem_append_left _ (optL_mem (by rw [e1, hAo]; rfl)))
              subst hAo
              have c0 := hbl.c j (hcur j _ (by rw [List.getElem?_map, k2]; rfl))
              unfold ptrB at c0
              rw [← cell_of_heap (HT.out.stab hbok.1 hbok.2.1 hbok.2.2)] at c0
              have hltb : bo < wr.heap.size := Nat.lt_of_lt_of_le hbok.1 HT.out.kept.size
              have hjl' : (j : Int) < M := by omega
              have hjp : (0 : Int) ≤ j := by omega
              obtain ⟨b', hb', hbm', hbk'⟩ := known_get hgd hkn k3
              obtain rfl : b' = b := Option.some.inj (hb'.symm.trans k4)
              have hkb' := hkeep b' (List.mem_append_right _ hbm')
              have hsn : s.name.size ≤ maxLen := name_size (good_std hgd k3).1.1
              have hwr := HT.out.kept.size
              have hwr3 := HT.out.size
              go_wp2_with fail
              clear c0
              refine code_world fun W hW => ?_
              have bq0 : Blk W wr.heap.size 107 #[.pointer (some ⟨b', 0, none⟩)] := by rw [hW]; exact Blk.new _ _ _
              have LW : Later wr W := by rw [hW]; exact ((Below.refl _ _).alloc (Nat.le_refl _) _)
              have szW : W.heap.size = wr.heap.size + 1 := by rw [hW]; simp
              clear hW
              replace HT := hide (HT.out.later LW hlw hlv)
              have Hkx := hide bq0
              clear bq0 LW szW
              obtain ⟨x0, x1, x2, x3, x4, x5, x6, x7⟩ := Blk.c8 (Hbk.out _ _ _ _ _ _ _ HT.out)
              have ltk := Blk.lt (Hbk.out _ _ _ _ _ _ _ HT.out)
              have b0 := HT.out.b0
              have ltb := HT.out.bp.lt
              have kx0 := ptr0 Hkx.out
              have ltx := Hkx.out.lt
              have hkW : Blk W b' 109 _ := (HT.out.stab hkb'.1 hkb'.2.1 hkb'.2.2).trans hbk'
              have s0 : W.cell? ⟨b', 0, none⟩ = some (.string s.name) := hkW.c 0 rfl
              have lts := hkW.lt
              obtain ⟨cv, hcv, hv⟩ := HT.out.void
              have ltm := hv.lt
              have Hv := hide hv
              apply wp_region_F (w0 := W) [[], [0], [0, 1], [0, 1, 2], [], [4], [4, 5], [4, 5, 6], [4, 5, 6, 7], [0, 1, 2, 3, 4, 5, 6, 7, 8]] [true, true, true, true, true, true, true, true, true, false] [false, false, false, false, false, false, false, false, false, false] [⟨9, none, [], []⟩] [(9, L.bv)] [9] (fun ixq y => match ixq with | 9 => .tuple #[] | _ => undef) (fun ixq x F wq => match ixq with | 9 => F L.bv ∧ MapV wq Try.prog 9 L.bv (delF ((boolF (vB l l' ((ordN l).take j)))) (s.name)) (if (((boolF (vB l l' ((ordN l).take j)))) (s.name)).isSome then cv - 1 else cv) | _ => True) (fun a x => (a).put (none) (.tuple #[])) (by kernel_rfl) (by kernel_rfl) (by kernel_rfl) (fun _ => rfl) [55, 59] (by kernel_rfl) (fills_lt1 (by omega)) fills_ne1
              · intro x D hD
                have hne := hD.some
                have k9 := liftS hD b0 (by exact early_all (by first | assumption | omega) (by rfl))
                have k6 := liftS hD x6 (by exact early_all (by first | assumption | omega) (by rfl))
                have ke := liftS hD kx0 (by exact early_all (by first | assumption | omega) (by rfl))
                have ks := liftS hD s0 (by exact early_all (by first | assumption | omega) (by rfl))
                simp only [takeOps, Act.put, List.setIfInBounds_toArray, List.set_cons_succ, List.set_cons_zero]
                repeat (go_big_quiet_step (fail))
                exact wpQuiet_nil rfl
              · exact fun x D hD => wpQuiet_nil rfl
              · intro d hd x x'
                simp only [List.mem_cons, List.not_mem_nil, or_false] at hd
                rcases hd with rfl | rfl
                all_goals rfl
              · refine ⟨?_, trivial⟩
                · exact obl_mapDel 95 9 4 57 62 L.bv cv ((boolF (vB l l' ((ordN l).take j)))) (s.name) (by kernel_rfl) (fun _ => rfl) (fun _ => rfl) Try.underlying9 Try.underlying95 hsn Hv.out eb_fill1 (by simp [wrF]) (fun _ => rfl) (fun _ _ _ _ h1 h2 => ⟨h1, h2⟩)
              · refine ⟨?_, trivial⟩
                · exact owe_mapV _ _ _ _ _ (fun _ _ _ => rfl)
              intro xx w1 F hK hlv12
              obtain ⟨fct9, -⟩ := hlv12
              replace fct9 : (F 9) L.bv ∧ MapV w1 Try.prog 9 L.bv (delF ((boolF (vB l l' ((ordN l).take j)))) (s.name)) (if (((boolF (vB l l' ((ordN l).take j)))) (s.name)).isSome then cv - 1 else cv) := fct9 rfl
              have hgr := grown_kept hK
              have HT1 := hide (HT.out.turned (g' := updB (vB l l' ((ordN l).take j)) s.name false) (m' := l.length * l.length + j) hgr hlv hwv ⟨_, by split <;> omega, fct9.2.congr (boolF_del _ _)⟩)
              have Hkx1 := hide (blk_grown Hkx.out hgr (fun e => by have := Option.some.inj e; omega))
              clear x0 x1 x2 x3 x4 x5 x6 x7 ltk b0 ltb kx0 ltx hkW s0 lts hv ltm Hv hK fct9 hgr hcv HT Hkx
              have hsz1 := Hkx1.out.lt
              have kx0 := ptr0 Hkx1.out
              go_wp2_with fail
              clear kx0
              refine (chain_any _ _).mono ?_
              rintro e w2 ⟨rfl, hb2, hsz2, hbk2⟩
              replace HT1 := hide (HT1.out.later hb2 hlw hlv)
              replace Hkx1 := hide (blk_later Hkx1.out hb2)
              clear hb2
              have hlx := Hkx1.out.lt
              have hkw2 := hkn.stab (w' := w2) fun k hm => by have h := hkeep k (List.mem_append_right _ hm); exact HT1.out.stab h.1 h.2.1 h.2.2
              have hw12 : w.heap.size + 3 ≤ w1.heap.size := by omega
              have hst := chain_stops (fun k => k ∈ L.kb ∨ k = w1.heap.size) l L.kb s.name s w1.heap.size 7 w2 (by omega) hgd k3 hkw2 (fun k h => by
                rcases h with h | h
                · exact hkw2.lt k h
                · omega) (fun k hm => .inl hm) (.inr rfl) (by rw [k4]; exact hbk2)
              obtain ⟨fw, hfw⟩ : ∃ fw, updB (wdT l) n false = fw := ⟨_, rfl⟩
              obtain ⟨gv, hgv⟩ : ∃ gv, vB l l' ((ordN l).take j) = gv := ⟨_, rfl⟩
              rw [hfw, hgv] at HT1
              obtain ⟨II, hII⟩ : ∃ II : List (InC l s.name) → World → Prop, II = (fun pre V => TurnW w L p n false fw cw w2.heap.size Ds (updB gv s.name (anyW fw pre)) (l.length * l.length + j + (anyW fw pre).toNat) V ∧ Blk V wr.heap.size 107 #[.pointer (some ⟨b', 0, none⟩)]) := ⟨_, rfl⟩
              have HII := hide hII
              clear hII
              have hmk := HT1.out.marks.lt
              have Hfw := hide hfw
              have Hgv := hide hgv
              clear hfw hgv
              go_wp2_with fail
              refine wp_range1 (α := InC l s.name) (p := 65) (d := 10) rfl (enters_of Try.func93 (by kernel_rfl) rfl) (v0 := fun x : InC l s.name => .pointer (addrO (ptrT (stdsT l) L.kb x.1))) hst
                (fun h k => h.trans k) (fun W' lx o' hl => KeptS.putObj (B := w2.heap.size) (fun k hk => by
                  rcases hk with h | h
                  · exact hkw2.lt k h
                  · omega) W' lx o' hl) (fun W' => KeptS.refl _ _) (Below.refl _ _)
                II (fun _ _ _ => False)
                (by rw [HII.out]; exact OwnFrom.and (TurnW.own hlw hlv (by omega) hmk) (fun s W W' row h hg hr => blk_grown h hg (fun e => by have := (hr _ e).1; omega))) (fun c => ownFrom_pure _ _) (fun pre W' h => by rw [HII.out] at h; exact h.1.size)
                (by rw [HII.out]; exact ⟨HT1.out.to (Nat.le_refl _), Hkx1.out⟩)
                ?assign ?body ?done ?stop
              case assign =>
                intro lp x V K hK
                gi_wp2
                exact hK
              case body =>
                intro lp pre y V hi hlen
                rw [HII.out] at hi
                obtain ⟨hT, hkx⟩ := hi
                clear HT1 Hkx1
                have HT := hide hT
                have Hkx := hide hkx
                clear hT hkx
                simp only [List.setIfInBounds_toArray, List.set_cons_succ, List.set_cons_zero]
                obtain ⟨sy, hsy⟩ := inC_std hgd k3 y
                obtain ⟨yb, hyb, hybm, hybk⟩ := known_get hgd hkn hsy
                have hky := hkeep yb (List.mem_append_right _ hybm)
                obtain ⟨hsk, hsyn, -⟩ := good_std hgd hsy
                have hyn : sy.name.size ≤ maxLen := name_size hsk.1
                have Hsyn := hide hsyn
                clear hsyn
                rw [hyb]
                simp only [addrO, Option.map_some]
                have hyV : Blk V yb 109 _ := (HT.out.stab hky.1 hky.2.1 hky.2.2).trans hybk
                obtain ⟨x0, x1, x2, x3, x4, x5, x6, x7⟩ := Blk.c8 (Hbk.out _ _ _ _ _ _ _ HT.out)
                have ltk := Blk.lt (Hbk.out _ _ _ _ _ _ _ HT.out)
                have b0 := HT.out.b0
                have ltb := HT.out.bp.lt
                have y0 : V.cell? ⟨yb, 0, none⟩ = some (.string sy.name) := hyV.c 0 rfl
                have lty := hyV.lt
                gi_wp2
                refine wpIn_region_wide (by kernel_rfl) (by kernel_rfl) (by first | exact ownPostG_out | exact block_out ownPostG_out | exact then_out ownPostG_out | exact then_out (block_out ownPostG_out) | exact block_out (then_out ownPostG_out) | exact then_out (then_out ownPostG_out) | exact then_out (then_out (block_out ownPostG_out)) | exact then_out (block_out (then_out ownPostG_out))) ?_
                apply any_region_L (w0 := V) [[], [], [], [], [], [], [], [], [], []] [true, true, true, true, true, true, true, true, true, true] [] (fun ixq y => match ixq with  | _ => undef) (fun ixq x F wq => match ixq with  | _ => True) (fun a x => a) (by kernel_rfl) (fun _ => rfl) [67, 71, 75] (by kernel_rfl)
                · intro x D hD
                  have hne := hD.some
                  have k9 := liftB hD b0 (by first | assumption | omega)
                  have k5 := liftB hD x5 (by first | assumption | omega)
                  have ky := liftB hD y0 (by first | assumption | omega)
                  have hlk := fun (x : Of D) => (HT.out.later (kb hD x) hlw hlv).look_wd hyn
                  simp only [takeOps, Act.put, List.setIfInBounds_toArray, List.set_cons_succ, List.set_cons_zero]
                  repeat (go_big_quiet_step (fail))
                  exact wpQuiet_nil rfl
                · intro d hd x x'
                  simp only [List.mem_cons, List.not_mem_nil, or_false] at hd
                  rcases hd with rfl | rfl | rfl
                  all_goals rfl
                · exact trivial
                · exact trivial
                intro xx V2 F hL hlv13 hap13
                clear hap13
                clear hlv13
                clear x0 x1 x2 x3 x4 x5 x6 x7 ltk b0 ltb y0 lty hyV
                have HKF := hide (KeepsFrom.of_grownBy (B := w2.heap.size) (grown_of_below hL) (fun j e => by cases e))
                have HKS := hide (KeptS.of_grown (S := fun k => k ∈ L.kb ∨ k = w1.heap.size) (grown_of_below hL) (fun _ e => by cases e))
                replace HT := hide (HT.out.later hL hlw hlv)
                replace Hkx := hide (blk_later Hkx.out hL)
                clear hL
                have hsn2 := anyW_snoc fw pre y
                rw [← Hsyn.out] at hsn2
                obtain ⟨q, hq⟩ : ∃ q, fw sy.name = q := ⟨_, rfl⟩
                rw [hq] at hsn2
                simp only [hq]
                clear hq
                have HSN := hide hsn2
                clear hsn2
                cases q with
                | false =>
                  gi_wp2
                  refine ⟨HKF.out, HKS.out, ?_⟩
                  rw [HII.out]
                  dsimp only
                  rw [HSN.out, Bool.or_false]
                  exact ⟨HT.out, Hkx.out⟩
                | true =>
                  obtain ⟨x0, x1, x2, x3, x4, x5, x6, x7⟩ := Blk.c8 (Hbk.out _ _ _ _ _ _ _ HT.out)
                  have ltk := Blk.lt (Hbk.out _ _ _ _ _ _ _ HT.out)
                  have b0 := HT.out.b0
                  have ltb := HT.out.bp.lt
                  have kx0 := ptr0 Hkx.out
                  have ltx := Hkx.out.lt
                  have hkV : Blk V2 b' 109 _ := (HT.out.stab hkb'.1 hkb'.2.1 hkb'.2.2).trans hbk'
                  have s0 : V2.cell? ⟨b', 0, none⟩ = some (.string s.name) := hkV.c 0 rfl
                  have lts := hkV.lt
                  obtain ⟨cv2, hcv2, hv2⟩ := HT.out.void
                  have ltm := hv2.lt
                  have Hv := hide hv2
                  have hpl : (anyW fw pre).toNat ≤ 1 := by cases anyW fw pre <;> simp
                  gi_wp2
                  refine wpIn_region_wide (by kernel_rfl) (by kernel_rfl) (by first | exact ownPostG_out | exact block_out ownPostG_out | exact then_out ownPostG_out | exact then_out (block_out ownPostG_out) | exact block_out (then_out ownPostG_out) | exact then_out (then_out ownPostG_out) | exact then_out (then_out (block_out ownPostG_out)) | exact then_out (block_out (then_out ownPostG_out))) ?_
                  apply any_region_F (w0 := V2) [[], [0], [0, 1], [0, 1, 2], [], [4], [4, 5], [4, 5, 6], [4, 5, 6, 7], [0, 1, 2, 3, 4, 5, 6, 7, 8]] [true, true, true, true, true, true, true, true, true, false] [false, false, false, false, false, false, false, false, false, false] [⟨9, none, [], []⟩] [(9, L.bv)] [9] (fun ixq y => match ixq with | 9 => undef | _ => undef) (fun ixq x F wq => match ixq with | 9 => F L.bv ∧ MapV wq Try.prog 9 L.bv (putF ((boolF (updB gv s.name (anyW fw pre)))) (s.name) (.bool true)) (if (((boolF (updB gv s.name (anyW fw pre)))) (s.name)).isSome then cv2 else cv2 + 1) | _ => True) (fun a x => (a).put (none) (undef)) (by kernel_rfl) (by kernel_rfl) (fun _ => rfl) [77, 81] (by kernel_rfl) (fills_lt1 (by omega)) fills_ne1
                  · intro x D hD
                    have hne := hD.some
                    have k9 := liftS hD b0 (by exact early_all (by first | assumption | omega) (by rfl))
                    have k6 := liftS hD x6 (by exact early_all (by first | assumption | omega) (by rfl))
                    have ke := liftS hD kx0 (by exact early_all (by first | assumption | omega) (by rfl))
                    have ks := liftS hD s0 (by exact early_all (by first | assumption | omega) (by rfl))
                    simp only [takeOps, Act.put, List.setIfInBounds_toArray, List.set_cons_succ, List.set_cons_zero]
                    repeat (go_big_quiet_step (fail))
                    exact wpQuiet_nil rfl
                  · exact fun x D hD => wpQuiet_nil rfl
                  · intro d hd x x'
                    simp only [List.mem_cons, List.not_mem_nil, or_false] at hd
                    rcases hd with rfl | rfl
                    all_goals rfl
                  · refine ⟨?_, trivial⟩
                    · exact obl_mapTrue 95 9 4 79 84 L.bv cv2 ((boolF (updB gv s.name (anyW fw pre)))) (s.name) (by kernel_rfl) (fun _ => rfl) (fun _ => rfl) Try.underlying9 Try.underlying95 (by have := Nat.mul_le_mul (Nat.le_of_lt (Nat.lt_of_not_le c1)) (Nat.le_of_lt (Nat.lt_of_not_le c1)); unfold maxLen; omega) hsn Hv.out eb_fill1 (by simp [wrF]) (fun _ => rfl) (fun _ _ _ _ h1 h2 => ⟨h1, h2⟩)
                  · refine ⟨?_, trivial⟩
                    · exact owe_mapV _ _ _ _ _ (fun _ _ _ => rfl)
                  intro xx V3 F hK hlv14 hap14
                  clear hap14
                  obtain ⟨fct9, -⟩ := hlv14
                  replace fct9 : (F 9) L.bv ∧ MapV V3 Try.prog 9 L.bv (putF ((boolF (updB gv s.name (anyW fw pre)))) (s.name) (.bool true)) (if (((boolF (updB gv s.name (anyW fw pre)))) (s.name)).isSome then cv2 else cv2 + 1) := fct9 rfl
                  have hgr := grown_kept hK
                  have hvs : ∃ c, c ≤ l.length * l.length + j + 1 ∧ MapV V3 Try.prog 9 L.bv (boolF (updB gv s.name true)) c := ⟨_, by
                    unfold boolF
                    rw [updB_same]
                    revert hcv2
                    cases anyW fw pre <;> intro hcv2 <;> simp at hcv2 ⊢ <;> omega, fct9.2.congr fun z => by rw [boolF_put, updB_updB]⟩
                  have HT3 := hide (HT.out.turned hgr hlv hwv hvs)
                  have Hkx3 := hide (blk_grown Hkx.out hgr (fun e => by have := Option.some.inj e; omega))
                  have hbvn : L.bv < w2.heap.size := by omega
                  have HKF3 := hide (HKF.out.trans (KeepsFrom.of_grownBy (B := w2.heap.size) hgr (fun i e => by cases e; exact hbvn)))
                  have HKS3 := hide (HKS.out.trans (KeptS.of_grown (S := fun k => k ∈ L.kb ∨ k = w1.heap.size) hgr (fun k e hk => by
                    cases e
                    rcases hk with h | h
                    · exact (hkeep _ (List.mem_append_right _ h)).2.2 rfl
                    · omega)))
                  clear x0 x1 x2 x3 x4 x5 x6 x7 ltk b0 ltb kx0 ltx hkV s0 lts hv2 ltm Hv hK fct9 hgr hcv2 HT Hkx HKF HKS hvs
                  gi_wp2
                  refine ⟨HKF3.out, HKS3.out, ?_⟩
                  rw [HII.out]
                  dsimp only
                  rw [HSN.out, Bool.or_true]
                  exact ⟨HT3.out, Hkx3.out⟩
              case done =>
                intro D xs V hD hxs hi hdd
                rw [HII.out] at hi
                obtain ⟨hT, hkx⟩ := hi
                subst hxs
                have hT2 := hT.mark (fun h => by have := hmk D h; omega) (by omega) hdd
                have hall : anyW fw (chainT l s.name).attach = voidT l' s.name := by rw [← Hfw.out, ← Hwt.out, ← Hl'.out]; exact anyW_all l n s.name _
                have hg : updB gv s.name (voidT l' s.name) = vB l l' ((ordN l).take (j + 1)) := by rw [← Hgv.out, vB_next, List.take_add_one, k1]; rfl
                have hbt : (voidT l' s.name).toNat ≤ 1 := by cases voidT l' s.name <;> simp
                rw [hall, hg] at hT2
                rw [← Hfw.out] at hT2
                have HT4 := hide ((hT2.le (m' := l.length * l.length + (j + 1)) (by omega)).back (B' := w.heap.size + 3) (by omega))
                clear hT hT2 hkx hall hg HT1 Hkx1
                go_wp2
                refine ⟨?_, ?_⟩
                · rw [HINV.out]
                  iterate 90 (apply Exists.intro)
                  exact ⟨j + 1, D :: Ds, ⟨hjl, by rw [List.length_cons, hlen], HT4.out⟩, rfl⟩
                · (try simp only [List.length_cons, List.length_map])
                  omega
              case stop =>
                intro D jc pre V hD hpre hix hdd
                exact hix.elim
            · obtain rfl : j = M := by omega
              have hg : vB l l' ((ordN l).take j) = voidT l' := by rw [List.take_of_length_le (by unfold ordN; simp [hM]), ← Hl'.out]; exact vB_all l n _
              rw [hg] at HT
              obtain ⟨cv, hcv, hv⟩ := HT.out.void
              have Q := bookQ_turn hb hok hcw (by rw [hM]; exact hcv) (by rw [wd_turn]; exact HT.out.wd) (by rw [Hl'.out]; exact hv) (fun k h1 h2 h3 => HT.out.stab h1 h2 h3)
              have hen := Q.entries
              rw [e3] at hen
              have hpl := hlt p (by simp [Lay.all])
              have hel : ∀ k, (Value.slice Ae l.length ce).ownBlock = some k → k ∈ L.all p := fun k e => mem_all.2 (.inr (by rw [e3]; exact e))
              have hep : (Value.slice Ae l.length ce).ownBlock ≠ some p := fun e => by
                have hnd := hb.nodup
                unfold Lay.all at hnd
                exact (List.nodup_cons.1 hnd).1 (by simp [optL_mem (v := L.ve) (by rw [e3]; exact e)])
              have heb : (Value.slice Ae l.length ce).ownBlock ≠ some w.heap.size := fun e => by have := hlt _ (hel _ e); omega
              have hjn : ¬ ((j : Int) < j) := by omega
              obtain ⟨i0, hii, hz0, hz1, hz2⟩ := info_parts funcInfo
              have hbk0 : Blk wr p 98 _ := Hbk.out _ _ _ _ _ _ _ HT.out
              have Hi := hide hii
              have Hz0 := hide hz0
              have Hz1 := hide hz1
              have Hz2 := hide hz2
              have Hen := hide hen
              have HneE := hide hep
              have Hbkp := hide hbk0
              have HQ := hide Q
              clear hii hz0 hz1 hz2 hen hep hbk0 Q
              have b0 := HT.out.b0
              have ltb := HT.out.bp.lt
              obtain ⟨x0, x1, x2, x3, x4, x5, x6, x7⟩ := Hbkp.out.c8
              have ltk := Hbkp.out.lt
              obtain ⟨qn, hqn⟩ : ∃ qn, w.heap.size + 1 = qn := ⟨_, rfl⟩
              rw [hqn]
              have Hqn := hide hqn
              clear hqn
              go_wp2_with fail
              apply wp_region_F (w0 := wr) [[], [], [1], [1, 2], [1, 2, 3], [], [5], [1, 2, 3, 4, 5, 6], [0, 1, 2, 3, 4, 5, 6, 7], [0, 1, 2, 3, 4, 5, 6, 7, 8], [0, 1, 2, 3, 4, 5, 6, 7, 8, 9]] [true, true, true, true, true, true, false, false, true, true, false] [false, false, false, false, false, false, false, false, false, false, false] [⟨6, none, [], []⟩, ⟨7, none, [6], []⟩, ⟨10, none, [], [7]⟩] (fillQ 7 (.slice Ae l.length ce) 10 p) [10] (fun ixq y => match ixq with | 6 => .slice (y 0).1 1 1 | 7 => .slice (y 0).1 (l.length + 1) (y 0).2 | 10 => undef | _ => undef) (fun ixq x F wq => match ixq with | 6 => OwnF wq F wr.heap.size 106 1 (.slice (x 6 0).1 1 1) 1 #[.func (.func 91) #[] #[.pointer (some ⟨qn, 0, none⟩), .pointer (some ⟨qn + 1, 0, none⟩)]].toList | 7 => OwnF wq F 0 106 1 (.slice (x 7 0).1 (l.length + 1) (x 7 0).2) (l.length + 1) ((entRow l L.cb) ++ (#[.func (.func 91) #[] #[.pointer (some ⟨qn, 0, none⟩), .pointer (some ⟨qn + 1, 0, none⟩)]] : Array Value).toList) ∧ FreshOr wr.heap.size (.slice Ae l.length ce) (.slice (x 7 0).1 (l.length + 1) (x 7 0).2) | 10 => F p ∧ Blk wq p 98 #[.bool true, .map (some L.br), .map (some L.bs), .slice Ao j co, .slice At (testsT l).length ct, .map (some L.bw), .map (some L.bv), .slice (x 7 0).1 (l.length + 1) (x 7 0).2] | _ => True) (fun a x => (((a).put (some 92) (.slice ((x 6) 0).1 1 1)).put (some 93) (.slice ((x 7) 0).1 (l.length + 1) ((x 7) 0).2)).put (none) (undef)) (by kernel_rfl) (by kernel_rfl) (by kernel_rfl) (fun _ => rfl) [88, 91, 94] (by kernel_rfl) (fillQ_lt (fun g hg => (Hen.out.lt g hg).2) (by omega)) (fillQ_ne HneE.out)
              · intro x D hD
                have hne := hD.some
                have k9 := liftS hD b0 (earlyQ (by first | assumption | omega) heb)
                have k7 := liftS hD x7 (earlyQ (by first | assumption | omega) HneE.out)
                simp only [takeOps, Act.put, List.setIfInBounds_toArray, List.set_cons_succ, List.set_cons_zero]
                repeat (go_big_quiet_step (fail))
                exact wpQuiet_nil rfl
              · exact fun x D hD => wpQuiet_nil rfl
              · intro d hd x x'
                simp only [List.mem_cons, List.not_mem_nil, or_false] at hd
                rcases hd with rfl | rfl | rfl
                all_goals rfl
              · refine ⟨?_, ?_, ?_, trivial⟩
                · exact obl_new rfl (fun _ => by kernel_rfl) 106 (fun x => #[.func (.func 91) #[] #[.pointer (some ⟨qn, 0, none⟩), .pointer (some ⟨qn + 1, 0, none⟩)]]) gP (fun x w => by kernel_rfl) (fun x w hle => own_new hle rfl (by unfold maxLen; omega))
                · refine obl_pushQ 96 90 92 (by kernel_rfl) 0 106 i0 _ 1 8 Try.underlying96 Hi.out Hz0.out Hz1.out Hz2.out rfl (by decide) (.slice Ae l.length ce) l.length 1 ((entRow l L.cb)) (#[.func (.func 91) #[] #[.pointer (some ⟨qn, 0, none⟩), .pointer (some ⟨qn + 1, 0, none⟩)]] : Array Value).toList (by first | rfl | (simp; done) | (simp; omega)) (by simp [Value.oneCell']) (by unfold maxLen; omega) (by omega) (by first | assumption | omega) (fun x w F hk hn => ?_) (fun _ => rfl) (fun _ _ _ _ h1 h2 => ⟨h1, h2⟩)
                  have hj : OwnF w (F 6) wr.heap.size 106 1 (.slice (x 6 0).1 1 1) 1 (#[.func (.func 91) #[] #[.pointer (some ⟨qn, 0, none⟩), .pointer (some ⟨qn + 1, 0, none⟩)]] : Array Value).toList := hn 6 (by simp)
                  obtain ⟨ad, hA, hc⟩ := news_own hj (by decide)
                  exact ⟨ad, 1, rfl, row_thenQ Hen.out HneE.out hk, wrQ_row, (show Value.slice (x 6 0).1 1 1 = _ by rw [hA]), hc⟩
                · exact obl_setv 96 98 95 93 p 7 _ (fun x => .slice (x 7 0).1 (l.length + 1) (x 7 0).2) (fun x => #[.bool true, .map (some L.br), .map (some L.bs), .slice Ao j co, .slice At (testsT l).length ct, .map (some L.bw), .map (some L.bv), .slice (x 7 0).1 (l.length + 1) (x 7 0).2]) (by kernel_rfl) (fun _ => rfl) (fun _ => rfl) (fun _ => rfl) Hbkp.out (ebQ_set HneE.out) wrQ_set (by kernel_rfl) (by first | assumption | (simp; done)) (fun _ => rfl) (fun _ => rfl) (fun _ _ _ _ h1 h2 => ⟨h1, h2⟩)
              · refine ⟨?_, ?_, ?_, trivial⟩
                · refine ⟨fun x F wq wq' h hs hk => ?_, fun x x' F wq hx h => ?_⟩
                  · have h2 : OwnF wq F wr.heap.size 106 1 (.slice (x 6 0).1 1 1) 1 #[.func (.func 91) #[] #[.pointer (some ⟨qn, 0, none⟩), .pointer (some ⟨qn + 1, 0, none⟩)]].toList := h
                    exact h2.stab hk
                  · have h2 : OwnF wq F wr.heap.size 106 1 (.slice (x 6 0).1 1 1) 1 #[.func (.func 91) #[] #[.pointer (some ⟨qn, 0, none⟩), .pointer (some ⟨qn + 1, 0, none⟩)]].toList := h
                    rw [hx 6 (by simp)] at h2
                    exact h2
                · exact owe_pushQ 7 _ 0 (.slice Ae l.length ce) 106 1 (l.length + 1) ((entRow l L.cb) ++ (#[.func (.func 91) #[] #[.pointer (some ⟨qn, 0, none⟩), .pointer (some ⟨qn + 1, 0, none⟩)]] : Array Value).toList) rfl (fun _ _ _ => rfl)
                · exact owe_fill p 98 (fun x => #[.bool true, .map (some L.br), .map (some L.bs), .slice Ao j co, .slice At (testsT l).length ct, .map (some L.bw), .map (some L.bv), .slice (x 7 0).1 (l.length + 1) (x 7 0).2]) (fun _ _ _ => rfl) (fun x x' hx => by simp only [hx 7 (by simp)])
              intro xx w9 F hK hlv15
              obtain ⟨-, fct7, fct10, -⟩ := hlv15
              replace fct7 : OwnF w9 (F 7) 0 106 1 (.slice (xx 7 0).1 (l.length + 1) (xx 7 0).2) (l.length + 1) ((entRow l L.cb) ++ (#[.func (.func 91) #[] #[.pointer (some ⟨qn, 0, none⟩), .pointer (some ⟨qn + 1, 0, none⟩)]] : Array Value).toList) ∧ FreshOr wr.heap.size (.slice Ae l.length ce) (.slice (xx 7 0).1 (l.length + 1) (xx 7 0).2) := fct7 rfl
              replace fct10 : (F 10) p ∧ Blk w9 p 98 #[.bool true, .map (some L.br), .map (some L.bs), .slice Ao j co, .slice At (testsT l).length ct, .map (some L.bw), .map (some L.bv), .slice (xx 7 0).1 (l.length + 1) (xx 7 0).2] := fct10 rfl
              obtain ⟨⟨hot, -⟩, hfr⟩ := fct7
              have hbk9 := fct10.2
              rw [← Hqn.out] at hot
              generalize (xx 7 0).1 = A7 at *
              generalize (xx 7 0).2 = c7 at *
              have hk9 : ∀ k, k < wr.heap.size → k ≠ p → (Value.slice Ae l.length ce).ownBlock ≠ some k → w9.heap[k]? = wr.heap[k]? := fun k a b c => hK.block k ⟨a, freeQ c (Ne.symm b)⟩
              have hso : ∀ k, w.heap.size ≤ k → k < wr.heap.size → w9.heap[k]? = wr.heap[k]? := fun k h1 h2 => hk9 k h2 (by omega) (fun e => by have := hlt _ (hel _ e); omega)
              have hs9 : Blk w9 (w.heap.size + 1) 9 #[.string n] := (hso _ (by omega) HT.out.bs.lt).trans HT.out.bs
              have ho9 : Blk w9 (w.heap.size + 1 + 1) 4 #[.bool false] := (hso _ (by omega) HT.out.bo.lt).trans HT.out.bo
              have R := HQ.out.push2 (c := [w.heap.size + 1, w.heap.size + 1 + 1]) (v := .slice A7 (l.length + 1) c7) (W := w9) ⟨_, _, rfl, HT.out.bs, HT.out.bo⟩ (by simp) (fun k hk' hm => by
                have := hlt k hm
                simp only [List.mem_cons, List.not_mem_nil, or_false] at hk'
                omega) (fun k a b c => hk9 k a b (by rw [e3] at c; exact c)) (by unfold bookC; simp only; rw [e1, e2, hM]; exact hbk9) hot (by
                rcases hfr with e | ⟨g, e, hg⟩
                · exact .inl (by rw [e3]; exact e)
                · exact .inr ⟨g, e, hg⟩)
              have hmk9 : MarksOK w.heap.size Ds w9 := ⟨HT.out.marks.1, fun D hD => ⟨(HT.out.marks.2 D hD).1, (hso D (HT.out.marks.2 D hD).1 (HT.out.marks.lt D hD)).trans (HT.out.marks.2 D hD).2⟩⟩
              have hszr := HT.out.kept.size
              have hsz9 : w.heap.size ≤ w9.heap.size := Nat.le_trans hszr hK.size
              have hkw9 : Kept (fun k => k < w.heap.size ∧ k ∉ L.all p) w w9 := ⟨hK.os.trans HT.out.kept.os, hK.tape.trans HT.out.kept.tape, hK.output.trans HT.out.kept.output, hsz9, fun k hk => (hk9 k (by omega) (fun e => hk.2 (by rw [e]; simp [Lay.all])) (fun e => hk.2 (hel _ e))).trans (HT.out.kept.block k ⟨hk.1, fun e => hk.2 (by rw [e]; simp [Lay.all]), fun e => hk.2 (by rw [e]; simp [Lay.all])⟩)⟩
              have Hs9 := hide hs9
              have Ho9 := hide ho9
              have HR := hide R
              have Hmk9 := hide hmk9
              have Hkw9 := hide hkw9
              have Hot := hide hot
              have Hfr := hide hfr
              clear hs9 ho9 R hmk9 hkw9 hot hfr
              clear x0 x1 x2 x3 x4 x5 x6 x7 ltk b0 ltb hk9 hso fct10 hbk9 hK
              go_wp2
              refine leaves_marks Ds w9 Hmk9.out hsz9 fun w' hbw' hcells => ?_
              subst hE
              refine ⟨.int .i64 0, by simp [results, Try.results76, go_sem], rfl, _, HR.out.stab fun k hk' => ?_, ⟨⟨hbw'.os.trans Hkw9.out.os, hbw'.tape.trans Hkw9.out.tape, hbw'.output.trans Hkw9.out.output, Nat.le_trans hsz9 hbw'.size, fun k hk => (hbw'.block k hk.1).trans (Hkw9.out.block k hk)⟩, fun k hk' => ?_⟩⟩
              · rw [(L.perm_push p _ _).mem_iff] at hk'
                rcases List.mem_append.1 hk' with h | h
                · exact hbw'.block k (hlt k (mem_all.2 (.inl h)))
                · rcases List.mem_append.1 h with h | h
                  · rw [optL_iff] at h
                    rcases Hot.out.2 with ⟨h0, -⟩ | ⟨g, cap, cur, hv, -, hg, -⟩
                    · rw [h0] at h; cases h
                    · rw [hv] at h
                      have := Option.some.inj h
                      subst this
                      exact (hcells _ _ _ hg).trans hg.symm
                  · simp only [List.mem_cons, List.not_mem_nil, or_false] at h
                    rcases h with rfl | rfl
                    · exact (hcells _ _ _ Hs9.out).trans Hs9.out.symm
                    · exact (hcells _ _ _ Ho9.out).trans Ho9.out.symm
              · rw [(L.perm_push p _ _).mem_iff] at hk'
                rcases List.mem_append.1 hk' with h | h
                · exact .inl (mem_all.2 (.inl h))
                · rcases List.mem_append.1 h with h | h
                  · rw [optL_iff] at h
                    rcases Hfr.out with e | ⟨g, e, hg⟩
                    · exact .inl (hel _ (e.symm.trans h))
                    · rw [e] at h
                      have := Option.some.inj h
                      exact .inr (by omega)
                  · simp only [List.mem_cons, List.not_mem_nil, or_false] at h
                    exact .inr (by omega)
end Go.Proofs.Ytiggefmckomilaa
