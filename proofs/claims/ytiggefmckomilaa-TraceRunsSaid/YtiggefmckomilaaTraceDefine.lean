/-
  A standard is entered.
-/
import Derived.Test.YtiggefmckomilaaTraceDefMath
import Derived.Test.YtiggefmckomilaaNames2
set_option linter.unusedSimpArgs false
set_option linter.unusedVariables false
namespace Go.Proofs.Ytiggefmckomilaa
open Go Go.RowKit

theorem notEmpty {s : ByteArray} (h : s ≠ ⟨#[]⟩) : s.toList.isEmpty = false := by
  rw [ByteArray.toList_eq]
  cases hl : s.data.toList with
  | nil => exact absurd (by cases s with | mk d => simp only at hl; congr 1; exact Array.toList_eq_nil_iff.1 hl) h
  | cons _ _ => rfl
def rangeB (M : Int) (s : Std) : Bool := inS s.lo s.hi 1 M && inR s.time 0 s.stop && decide (s.stop ≤ 4294967296) && inR s.drift 0 1000000

set_option maxHeartbeats 4000000 in
set_option maxRecDepth 100000 in
theorem Define_root (l : List Ent) (p : Nat) (L : Lay) (nm : ByteArray) (lo hi tm sp dr : Int) (w : World) (hb : BookR l p L w) (hn : nm.size ≤ maxLen) :
    Calls Try.prog 21 #[ptrB p, .agg #[.string nm, .string ⟨#[]⟩, .int .i64 lo, .int .i64 hi, .int .i64 tm, .int .i64 sp, .int .i64 dr]] w fun e w' => e = .returned (.int .i64 (defineE l ⟨nm, ⟨#[]⟩, lo, hi, tm, sp, dr⟩)) ∧ EntPost l p L w (.define ⟨nm, ⟨#[]⟩, lo, hi, tm, sp, dr⟩) (defineE l ⟨nm, ⟨#[]⟩, lo, hi, tm, sp, dr⟩) w' := by
  obtain ⟨S, hS⟩ : ∃ S : Std, S = ⟨nm, ⟨#[]⟩, lo, hi, tm, sp, dr⟩ := ⟨_, rfl⟩
  have hE : defineE l S = if 2000 ≤ l.length then 13 else if nameB nm = false then 10 else if (stdT l nm).isSome then 5 else if 64 ≤ (stdsT l).length then 9 else if rangeB 1000000 S = false then 3 else 0 := by subst hS; rfl
  rw [← hS]
  obtain ⟨Ao, co, At, ct, Ae, ce, e1, e2, e3, hk⟩ := hb.cells
  have hp := fun (ev : Int) (W : World) (h : Below w.heap.size w W) (he : ev ≠ 0) => EntPost.same (x := .define S) (ev := ev) hb h he
  have hl := fun W hw => look_std (W := W) hb hw hn
  have hnm := fun W => Name_any nm W (by unfold maxLen at hn; omega)
  have hwi := fun W => within_any dr 0 1000000 W
  have hin := fun W => inside_any lo hi 1 1000000 W
  generalize hr : defineE l S = r at *
  unfold ptrB
  have hst := fun W (h : Below w.heap.size w W) => state_any p l.length ce _ _ _ _ _ _ Ae W (blk_later hk h)
  have Hk := hide hk
  have Hp := hide hp
  have Hl := hide hl
  have Hnm := hide hnm
  have Hwi := hide hwi
  have Hin := hide hin
  have Hst := hide hst
  have HS := hide hS
  clear hk hp hl hnm hwi hin hst hS
  by_cases c1 : 2000 ≤ l.length
  · rw [if_pos c1] at hE
    have hs13 : stateE l.length = 13 := by unfold stateE; rw [if_pos c1]
    rw [hs13] at Hst
    subst hE
    clear c1 hs13
    go_enter Try.func21, Try.ntmps21
    have HB := hide (Below.refl w.heap.size w)
    go_wp2_with fail
    refine at_world fun W1 hW => ?_
    have bq0 : Blk W1 w.heap.size 43 #[.string nm, .string ⟨#[]⟩, .int .i64 lo, .int .i64 hi, .int .i64 tm, .int .i64 sp, .int .i64 dr] := by rw [hW]; exact Blk.new _ _ _
    have LW : Later w W1 := by rw [hW]; exact ((Below.refl _ _).alloc (Nat.le_refl _) _)
    have szW : W1.heap.size = w.heap.size + 1 := by rw [hW]; simp
    clear hW
    replace HB := hide (onward HB.out LW)
    replace Hk := hide (blk_later Hk.out LW)
    have Hs := hide bq0
    clear bq0 LW szW
    refine (Hst.out _ HB.out).mono ?_
    rintro e w2 ⟨rfl, hb⟩
    replace HB := hide (onward HB.out hb)
    replace Hk := hide (blk_later Hk.out hb)
    replace Hs := hide (blk_later Hs.out hb)
    clear hb
    go_wp2
    go_ret
    exact ⟨rfl, Hp.out 13 _ HB.out (by decide)⟩
  · rw [if_neg c1] at hE
    have hs0 : stateE l.length = 0 := by unfold stateE; rw [if_neg c1]
    rw [hs0] at Hst
    clear hs0
    go_enter Try.func21, Try.ntmps21
    have HB := hide (Below.refl w.heap.size w)
    go_wp2_with fail
    refine at_world fun W1 hW => ?_
    have bq0 : Blk W1 w.heap.size 43 #[.string nm, .string ⟨#[]⟩, .int .i64 lo, .int .i64 hi, .int .i64 tm, .int .i64 sp, .int .i64 dr] := by rw [hW]; exact Blk.new _ _ _
    have LW : Later w W1 := by rw [hW]; exact ((Below.refl _ _).alloc (Nat.le_refl _) _)
    have szW : W1.heap.size = w.heap.size + 1 := by rw [hW]; simp
    clear hW
    replace HB := hide (onward HB.out LW)
    replace Hk := hide (blk_later Hk.out LW)
    have Hs := hide bq0
    clear bq0 LW szW
    refine (Hst.out _ HB.out).mono ?_
    rintro e w2 ⟨rfl, hb⟩
    replace HB := hide (onward HB.out hb)
    replace Hk := hide (blk_later Hk.out hb)
    replace Hs := hide (blk_later Hs.out hb)
    clear hb
    obtain ⟨s0, s1, s2, s3, s4, s5, s6⟩ := Hs.out.c7
    have lts := Hs.out.lt
    go_wp2_with fail
    refine (Hnm.out _).mono ?_
    rintro e w3 ⟨rfl, hb⟩
    replace HB := hide (onward HB.out hb)
    replace Hk := hide (blk_later Hk.out hb)
    replace Hs := hide (blk_later Hs.out hb)
    clear hb s0 s1 s2 s3 s4 s5 s6 lts
    cases hnb : nameB nm with
    | false =>
      rw [if_pos hnb] at hE
      subst hE
      go_wp2
      go_ret
      exact ⟨rfl, Hp.out 10 _ HB.out (by decide)⟩
    | true =>
      rw [if_neg (by rw [hnb]; simp)] at hE
      go_wp2_with fail
      cases hsd : stdT l nm with
      | some q =>
        obtain ⟨b, hpt, -, -⟩ := known_get hb.good hb.knowns hsd
        rw [hpt] at Hl
        rw [if_pos (by rw [hsd]; rfl)] at hE
        subst hE
        unfold addrO at Hl
        simp only [Option.map_some] at Hl
        obtain ⟨x0, x1, x2, x3, x4, x5, x6, x7⟩ := Hk.out.c8
        have n0 := Hs.out.c 0 rfl
        have ltk := Hk.out.lt
        have lts := Hs.out.lt
        apply wp_region_L (w0 := w3) [[], [], [], [], [], [], [], [], []] [true, true, true, true, true, true, true, true, true] [] (fun ixq y => match ixq with  | _ => undef) (fun ixq x F wq => match ixq with  | _ => True) (fun a x => a) (by kernel_rfl) (by kernel_rfl) (fun _ => rfl) [23, 28] (by kernel_rfl)
        · intro x D hD
          have hne := hD.some
          have k2 := liftB hD x2 (by first | assumption | omega)
          have kn := liftB hD n0 (by first | assumption | omega)
          have hlk := fun (x : Of D) => Hl.out x.val (onward HB.out (kb hD x))
          simp only [takeOps, Act.put, List.setIfInBounds_toArray, List.set_cons_succ, List.set_cons_zero]
          repeat (go_big_quiet_step (fail))
          exact wpQuiet_nil rfl
        · intro d hd x x'
          simp only [List.mem_cons, List.not_mem_nil, or_false] at hd
          rcases hd with rfl | rfl
          all_goals rfl
        · exact trivial
        · exact trivial
        intro xx w4 F hL4 hlv1
        clear hlv1
        clear x0 x1 x2 x3 x4 x5 x6 x7 n0 ltk lts
        replace HB := hide (onward HB.out hL4)
        replace Hk := hide (blk_later Hk.out hL4)
        replace Hs := hide (blk_later Hs.out hL4)
        clear hL4
        obtain ⟨x0, x1, x2, x3, x4, x5, x6, x7⟩ := Hk.out.c8
        have ltk := Hk.out.lt
        go_wp2
        go_ret
        exact ⟨rfl, Hp.out 5 _ HB.out (by decide)⟩
      | none =>
        rw [ptr_none hsd] at Hl
        rw [if_neg (by rw [hsd]; simp)] at hE
        unfold addrO at Hl
        simp only [Option.map_none] at Hl
        obtain ⟨x0, x1, x2, x3, x4, x5, x6, x7⟩ := Hk.out.c8
        have n0 := Hs.out.c 0 rfl
        have ltk := Hk.out.lt
        have lts := Hs.out.lt
        apply wp_region_L (w0 := w3) [[], [], [], [], [], [], [], [], []] [true, true, true, true, true, true, true, true, true] [] (fun ixq y => match ixq with  | _ => undef) (fun ixq x F wq => match ixq with  | _ => True) (fun a x => a) (by kernel_rfl) (by kernel_rfl) (fun _ => rfl) [23, 28] (by kernel_rfl)
        · intro x D hD
          have hne := hD.some
          have k2 := liftB hD x2 (by first | assumption | omega)
          have kn := liftB hD n0 (by first | assumption | omega)
          have hlk := fun (x : Of D) => Hl.out x.val (onward HB.out (kb hD x))
          simp only [takeOps, Act.put, List.setIfInBounds_toArray, List.set_cons_succ, List.set_cons_zero]
          repeat (go_big_quiet_step (fail))
          exact wpQuiet_nil rfl
        · intro d hd x x'
          simp only [List.mem_cons, List.not_mem_nil, or_false] at hd
          rcases hd with rfl | rfl
          all_goals rfl
        · exact trivial
        · exact trivial
        intro xx w4 F hL4 hlv2
        clear hlv2
        clear x0 x1 x2 x3 x4 x5 x6 x7 n0 ltk lts
        replace HB := hide (onward HB.out hL4)
        replace Hk := hide (blk_later Hk.out hL4)
        replace Hs := hide (blk_later Hs.out hL4)
        clear hL4
        obtain ⟨x0, x1, x2, x3, x4, x5, x6, x7⟩ := Hk.out.c8
        have ltk := Hk.out.lt
        by_cases c2 : 64 ≤ (stdsT l).length
        · rw [if_pos c2] at hE
          subst hE
          have c2' : (64 : Int) ≤ (stdsT l).length := by omega
          go_wp2
          go_ret
          exact ⟨rfl, Hp.out 9 _ HB.out (by decide)⟩
        · rw [if_neg c2] at hE
          have c2' : ¬ (64 : Int) ≤ (stdsT l).length := by omega
          obtain ⟨s0, s1, s2, s3, s4, s5, s6⟩ := Hs.out.c7
          have lts := Hs.out.lt
          go_wp2_with fail
          clear s0 s1 s2 s3 s4 s5 s6 lts x0 x1 x2 x3 x4 x5 x6 x7 ltk
          refine (Hin.out _).mono ?_
          rintro e w5 ⟨rfl, hb⟩
          replace HB := hide (onward HB.out hb)
          replace Hk := hide (blk_later Hk.out hb)
          replace Hs := hide (blk_later Hs.out hb)
          clear hb
          have Hs5 := Hs.out.lt
          obtain ⟨s0, s1, s2, s3, s4, s5, s6⟩ := Hs.out.c7
          have lts := Hs.out.lt
          have hrB : rangeB 1000000 S = (inS lo hi 1 1000000 && inR tm 0 sp && decide (sp ≤ 4294967296) && inR dr 0 1000000) := by rw [HS.out]; rfl
          cases hi1 : inS lo hi 1 1000000 with
          | false =>
            have hf : rangeB 1000000 S = false := by rw [hrB, hi1]; rfl
            rw [if_pos hf] at hE
            subst hE
            go_wp2
            go_ret
            exact ⟨rfl, Hp.out 3 _ HB.out (by decide)⟩
          | true =>
            by_cases k1 : tm < 0
            · have hf : rangeB 1000000 S = false := by rw [hrB, show inR tm 0 sp = false by simp [inR]; omega]; simp
              rw [if_pos hf] at hE
              subst hE
              go_wp2
              go_ret
              exact ⟨rfl, Hp.out 3 _ HB.out (by decide)⟩
            by_cases k2 : sp < tm
            · have hf : rangeB 1000000 S = false := by rw [hrB, show inR tm 0 sp = false by simp [inR]; omega]; simp
              rw [if_pos hf] at hE
              subst hE
              go_wp2
              go_ret
              exact ⟨rfl, Hp.out 3 _ HB.out (by decide)⟩
            by_cases k3 : 4294967296 < sp
            · have hf : rangeB 1000000 S = false := by rw [hrB, show decide (sp ≤ 4294967296) = false from decide_eq_false (by omega)]; simp
              rw [if_pos hf] at hE
              subst hE
              go_wp2
              go_ret
              exact ⟨rfl, Hp.out 3 _ HB.out (by decide)⟩
            go_wp2_with fail
            refine (Hwi.out _).mono ?_
            rintro e w' ⟨rfl, rfl⟩
            cases hi4 : inR dr 0 1000000 with
            | false =>
              have hf : rangeB 1000000 S = false := by rw [hrB, hi4]; simp
              rw [if_pos hf] at hE
              subst hE
              go_wp2
              go_ret
              exact ⟨rfl, Hp.out 3 _ HB.out (by decide)⟩
            | true =>
              have hf : rangeB 1000000 S = true := by rw [hrB, hi1, hi4, show inR tm 0 sp = true from inR_iff.2 ⟨by omega, by omega⟩, show decide (sp ≤ 4294967296) = true from decide_eq_true (by omega)]; rfl
              rw [if_neg (by rw [hf]; simp)] at hE
              go_wp2_with fail
              clear s0 s1 s2 s3 s4 s5 s6 lts
              refine code_world fun w6 hW => ?_
              have bq0 : Blk w6 w5.heap.size 109 #[.string nm, .string ⟨#[]⟩, .int .i64 lo, .int .i64 hi, .int .i64 tm, .int .i64 sp, .int .i64 dr, .pointer none, .int .i64 lo, .int .i64 hi] := by rw [hW]; exact Blk.new _ _ _
              have LW : Later w5 w6 := by rw [hW]; exact ((Below.refl _ _).alloc (Nat.le_refl _) _)
              have szW : w6.heap.size = w5.heap.size + 1 := by rw [hW]; simp
              clear hW
              replace HB := hide (onward HB.out LW)
              replace Hk := hide (blk_later Hk.out LW)
              replace Hs := hide (blk_later Hs.out LW)
              have Hn := hide bq0
              clear bq0 LW szW
              have hmd : knownC S (parO l L.kb S) (madeT (.define S :: l) S.name) = #[.string nm, .string ⟨#[]⟩, .int .i64 lo, .int .i64 hi, .int .i64 tm, .int .i64 sp, .int .i64 dr, .pointer none, .int .i64 lo, .int .i64 hi] := by
                rw [HS.out]
                unfold knownC parO
                rw [madeT, if_pos rfl]
                simp only
                rw [if_pos (show (⟨#[]⟩ : ByteArray) = ByteArray.empty from rfl), if_pos (show (⟨#[]⟩ : ByteArray) = ByteArray.empty from rfl)]
              obtain ⟨kb0, hkb⟩ : ∃ kb0, w5.heap.size = kb0 := ⟨_, rfl⟩
              rw [hkb] at Hn
              have hkge : w.heap.size ≤ kb0 := by rw [← hkb]; have := Hs.out.lt; have := HB.out.size; omega
              have hkne : w.heap.size ≠ kb0 := by
                have := Hs5
                omega
              simp only [hkb]
              have hok : okEnt l (.define S) = true := by show (defineE l S == 0) = true; rw [hr, hE]; rfl
              have hbp : L.bs ≠ p := fun e => by
                have hnd := hb.nodup
                unfold Lay.all at hnd
                rw [List.nodup_cons] at hnd
                exact hnd.1 (by rw [← e]; simp)
              have hnd2 := hb.nodup
              rw [(L.perm_restO p).nodup_iff, List.nodup_append] at hnd2
              have hop : (Value.slice Ao (stdsT l).length co).ownBlock ≠ some p := fun e => hnd2.2.2 p (by simp [Lay.restO]) p (optL_iff.2 (by rw [e1]; exact e)) rfl
              have hobs : (Value.slice Ao (stdsT l).length co).ownBlock ≠ some L.bs := fun e => hnd2.2.2 L.bs (by simp [Lay.restO]) L.bs (optL_iff.2 (by rw [e1]; exact e)) rfl
              have hep : L.ve.ownBlock ≠ some p := fun e => by
                have hnd := hb.nodup
                unfold Lay.all at hnd
                rw [List.nodup_cons] at hnd
                exact hnd.1 (by simp [optL_mem e])
              clear hnd2
              have hosb : (Value.slice Ao (stdsT l).length co).ownBlock ≠ some w.heap.size := fun e => by have := hb.lt _ (mem_allO.2 (List.mem_append_right _ (optL_iff.2 (by rw [e1]; exact e)))); omega
              have hokb : (Value.slice Ao (stdsT l).length co).ownBlock ≠ some kb0 := fun e => by have := hb.lt _ (mem_allO.2 (List.mem_append_right _ (optL_iff.2 (by rw [e1]; exact e)))); omega
              have hpl := hb.lt p (by simp [Lay.all])
              have hbsl := hb.lt L.bs (by simp [Lay.all])
              have Hmv := hide (hb.later HB.out).stds
              have Hord := hide (e1 ▸ (hb.later HB.out).order : w6.ownsRow 0 107 1 (.slice Ao (stdsT l).length co) (stdsT l).length (L.kb.reverse.map ptrB))
              have hfn : (fun q => (ptrT (stdsT l) L.kb q).map ptrB) nm = none := by simp only [ptr_none hsd, Option.map_none]
              obtain ⟨N, hN⟩ : ∃ N, (stdsT l).length = N := ⟨_, rfl⟩
              rw [hN] at hop hobs hosb hokb Hmv Hord Hk c2 c2'
              simp only [hN]
              have hneP := hide hop
              obtain ⟨i0, hii, hz0, hz1, hz2⟩ := info_parts ptrInfo
              have Hi := hide hii
              have Hz0 := hide hz0
              have Hz1 := hide hz1
              have Hz2 := hide hz2
              clear hii hz0 hz1 hz2
              obtain ⟨x0, x1, x2, x3, x4, x5, x6, x7⟩ := Hk.out.c8
              have s0 := Hs.out.c 0 rfl
              have lts := Hs.out.lt
              have ltk := Hk.out.lt
              have ltn := Hn.out.lt
              have lbs6 := Hmv.out.lt
              have hltL3 : ∀ qa ∈ ([(15, L.bs), (20, p)] : List (Nat × Nat)), qa.2 < w6.heap.size := by intro qa hq; simp only [List.mem_cons, List.not_mem_nil, or_false] at hq; rcases hq with rfl | rfl <;> first | assumption | omega
              have hneL3 : ∀ qa ∈ ([(15, L.bs), (20, p)] : List (Nat × Nat)), ((.slice Ao N co) : Value).ownBlock ≠ some qa.2 := by intro qa hq; simp only [List.mem_cons, List.not_mem_nil, or_false] at hq; rcases hq with rfl | rfl <;> first | assumption | (simp [Value.ownBlock]; done)
              have hccL3 : ∀ qa ∈ ([(15, L.bs), (20, p)] : List (Nat × Nat)), ∀ qb ∈ ([(15, L.bs), (20, p)] : List (Nat × Nat)), qa.1 ≠ qb.1 → qa.2 ≠ qb.2 := by intro qa hp qb hq h; simp only [List.mem_cons, List.not_mem_nil, or_false] at hp hq; rcases hp with rfl | rfl <;> rcases hq with rfl | rfl <;> first | (exact absurd rfl h) | assumption | (exact Ne.symm (by assumption)) | omega
              apply wp_region_F (w0 := w6) [[], [0], [0, 1], [0, 1, 2], [], [4], [], [], [], [8], [8, 9], [8, 9, 10], [], [12], [8, 9, 10, 11, 12, 13], [0, 1, 2, 3, 4, 5, 8, 9, 10, 11, 12, 13, 14], [0, 1, 2, 3, 4, 5, 8, 9, 10, 11, 12, 13, 14, 15], [0, 1, 2, 3, 4, 5, 7, 8, 9, 10, 11, 12, 13, 14, 15, 16], [0, 1, 2, 3, 4, 5, 6, 7, 8, 9, 10, 11, 12, 13, 14, 15, 16, 17], [0, 1, 2, 3, 4, 5, 6, 7, 8, 9, 10, 11, 12, 13, 14, 15, 16, 17, 18], [0, 1, 2, 3, 4, 5, 6, 7, 8, 9, 10, 11, 12, 13, 14, 15, 16, 17, 18, 19]] [true, true, true, true, true, true, true, true, true, true, true, true, true, false, false, false, true, false, true, true, false] [false, false, false, false, false, false, false, false, false, false, false, false, false, false, false, false, false, false, false, false, false] [⟨13, none, [], []⟩, ⟨14, none, [13], []⟩, ⟨15, none, [], []⟩, ⟨17, some 15, [15], []⟩, ⟨20, none, [], [14]⟩] (fillL 14 (.slice Ao N co) [(15, L.bs), (20, p)]) [20] (fun ixq y => match ixq with | 13 => .slice (y 0).1 1 1 | 14 => .slice (y 0).1 (N + 1) (y 0).2 | 15 => .tuple #[.pointer none, goInt (y 0).2] | 17 => undef | 20 => undef | _ => undef) (fun ixq x F wq => match ixq with | 13 => OwnF wq F w6.heap.size 107 1 (.slice (x 13 0).1 1 1) 1 #[.pointer (some ⟨kb0, 0, none⟩)].toList | 14 => OwnF wq F 0 107 1 (.slice (x 14 0).1 (N + 1) (x 14 0).2) (N + 1) ((L.kb.reverse.map ptrB) ++ (#[.pointer (some ⟨kb0, 0, none⟩)] : Array Value).toList) ∧ FreshOr w6.heap.size (.slice Ao N co) (.slice (x 14 0).1 (N + 1) (x 14 0).2) | 15 => F L.bs ∧ Pend Try.prog wq 92 9 L.bs N ((fun q => (ptrT (stdsT l) L.kb q).map ptrB)) (nm) (x 15 0).2 | 17 => F L.bs ∧ MapV wq Try.prog 9 L.bs (putF ((fun q => (ptrT (stdsT l) L.kb q).map ptrB)) (nm) (ptrB kb0)) (if (((fun q => (ptrT (stdsT l) L.kb q).map ptrB)) (nm)).isSome then N else N + 1) | 20 => F p ∧ Blk wq p 98 #[.bool true, .map (some L.br), .map (some L.bs), .slice (x 14 0).1 (N + 1) (x 14 0).2, .slice At (testsT l).length ct, .map (some L.bw), .map (some L.bv), .slice Ae l.length ce] | _ => True) (fun a x => (((((a).put (some 140) (.slice ((x 13) 0).1 1 1)).put (some 141) (.slice ((x 14) 0).1 (N + 1) ((x 14) 0).2)).put (some 142) (.tuple #[.pointer none, goInt ((x 15) 0).2])).put (none) (undef)).put (none) (undef)) (by kernel_rfl) (by kernel_rfl) (by kernel_rfl) (fun _ => rfl) [128, 136, 144] (by kernel_rfl) (fillL_lt (fun g hg => (Hord.out.lt g hg).2) hltL3) (fillL_ne hneL3 hccL3)
              · intro x D hD
                have hne := hD.some
                have k2 := liftS hD x2 (earlyL (by first | assumption | omega) (by first | assumption | (exact own_low_ne Hord.out (by first | assumption | omega))) (by intro q hq e; simp only [List.mem_cons, List.not_mem_nil, or_false] at hq; rcases hq with rfl | rfl <;> first | (simp; done) | (exact absurd e (by first | assumption | (exact Ne.symm (by assumption)) | (simp only; omega)))))
                have k3 := liftS hD x3 (earlyL (by first | assumption | omega) (by first | assumption | (exact own_low_ne Hord.out (by first | assumption | omega))) (by intro q hq e; simp only [List.mem_cons, List.not_mem_nil, or_false] at hq; rcases hq with rfl | rfl <;> first | (simp; done) | (exact absurd e (by first | assumption | (exact Ne.symm (by assumption)) | (simp only; omega)))))
                have kn := liftS hD s0 (earlyL (by first | assumption | omega) (by first | assumption | (exact own_low_ne Hord.out (by first | assumption | omega))) (by intro q hq e; simp only [List.mem_cons, List.not_mem_nil, or_false] at hq; rcases hq with rfl | rfl <;> first | (simp; done) | (exact absurd e (by first | assumption | (exact Ne.symm (by assumption)) | (simp only; omega)))))
                simp only [takeOps, Act.put, List.setIfInBounds_toArray, List.set_cons_succ, List.set_cons_zero]
                repeat (go_big_quiet_step (fail))
                exact wpQuiet_nil rfl
              · exact fun x D hD => wpQuiet_nil rfl
              · intro d hd x x'
                simp only [List.mem_cons, List.not_mem_nil, or_false] at hd
                rcases hd with rfl | rfl | rfl
                all_goals rfl
              · refine ⟨?_, ?_, ?_, ?_, ?_, trivial⟩
                · exact obl_new rfl (fun _ => by kernel_rfl) 107 (fun x => #[.pointer (some ⟨kb0, 0, none⟩)]) gP (fun x w => by kernel_rfl) (fun x w hle => own_new hle rfl (by unfold maxLen; omega))
                · refine obl_pushQ 93 138 140 (by kernel_rfl) 0 107 i0 _ 1 8 Try.underlying93 Hi.out Hz0.out Hz1.out Hz2.out rfl (by decide) (.slice Ao N co) N 1 ((L.kb.reverse.map ptrB)) (#[.pointer (some ⟨kb0, 0, none⟩)] : Array Value).toList (by first | rfl | (simp; done) | (simp; omega)) (by simp [Value.oneCell']) (by unfold maxLen; omega) (by omega) (by first | assumption | omega) (fun x w F hk hn => ?_) (fun _ => rfl) (fun _ _ _ _ h1 h2 => ⟨h1, h2⟩)
                  have hj : OwnF w (F 13) w6.heap.size 107 1 (.slice (x 13 0).1 1 1) 1 (#[.pointer (some ⟨kb0, 0, none⟩)] : Array Value).toList := hn 13 (by simp)
                  obtain ⟨ad, hA, hc⟩ := news_own hj (by decide)
                  exact ⟨ad, 1, rfl, row_thenL Hord.out hneL3 hk, wrL_row, (show Value.slice (x 13 0).1 1 1 = _ by rw [hA]), hc⟩
                · exact obl_mapEntry 92 9 107 130 132 L.bs N ((fun q => (ptrT (stdsT l) L.kb q).map ptrB)) (nm) (.pointer none) (by kernel_rfl) (fun _ => rfl) (fun _ => rfl) Try.underlying9 Try.underlying92 (fun _ => by kernel_rfl) (by unfold maxLen; omega) hn hfn Hmv.out (ebL_cell (by simp) (by first | assumption | (simp [Value.ownBlock]; done)) hccL3) (wrL_cell (by simp)) (fun _ => rfl) (fun _ _ _ _ h1 h2 => ⟨h1, h2⟩)
                · exact obl_entryStore 92 9 130 143 134 15 L.bs N ((fun q => (ptrT (stdsT l) L.kb q).map ptrB)) (nm) (ptrB kb0) (by kernel_rfl) rfl (by simp) (fun _ _ _ h => h) (fun _ => rfl) (fun _ => rfl) (fun _ => rfl) (fun _ => rfl) (fun _ _ _ _ h1 h2 => ⟨h1, h2⟩)
                · exact obl_setv 93 98 145 141 p 3 _ (fun x => .slice (x 14 0).1 (N + 1) (x 14 0).2) (fun x => #[.bool true, .map (some L.br), .map (some L.bs), .slice (x 14 0).1 (N + 1) (x 14 0).2, .slice At (testsT l).length ct, .map (some L.bw), .map (some L.bv), .slice Ae l.length ce]) (by kernel_rfl) (fun _ => rfl) (fun _ => rfl) (fun _ => rfl) Hk.out (ebL_cell (by simp) (by first | assumption | (simp [Value.ownBlock]; done)) hccL3) (wrL_cell (by simp)) (by kernel_rfl) (by first | assumption | (simp; done)) (fun _ => rfl) (fun _ => rfl) (fun _ _ _ _ h1 h2 => ⟨h1, h2⟩)
              · refine ⟨?_, ?_, ?_, ?_, ?_, trivial⟩
                · refine ⟨fun x F wq wq' h hs hk => ?_, fun x x' F wq hx h => ?_⟩
                  · have h2 : OwnF wq F w6.heap.size 107 1 (.slice (x 13 0).1 1 1) 1 #[.pointer (some ⟨kb0, 0, none⟩)].toList := h
                    exact h2.stab hk
                  · have h2 : OwnF wq F w6.heap.size 107 1 (.slice (x 13 0).1 1 1) 1 #[.pointer (some ⟨kb0, 0, none⟩)].toList := h
                    rw [hx 13 (by simp)] at h2
                    exact h2
                · exact owe_pushQ 14 _ 0 (.slice Ao N co) 107 1 (N + 1) ((L.kb.reverse.map ptrB) ++ (#[.pointer (some ⟨kb0, 0, none⟩)] : Array Value).toList) rfl (fun _ _ _ => rfl)
                · exact owe_pend _ _ _ 15 _ _ _ _ rfl (fun _ _ _ => rfl)
                · exact owe_mapV _ _ _ _ _ (fun _ _ _ => rfl)
                · exact owe_fill p 98 (fun x => #[.bool true, .map (some L.br), .map (some L.bs), .slice (x 14 0).1 (N + 1) (x 14 0).2, .slice At (testsT l).length ct, .map (some L.bw), .map (some L.bv), .slice Ae l.length ce]) (fun _ _ _ => rfl) (fun x x' hx => by simp only [hx 14 (by simp)])
              intro xx w7 F hK hlv3
              obtain ⟨-, fct14, -, fct17, fct20, -⟩ := hlv3
              replace fct14 : OwnF w7 (F 14) 0 107 1 (.slice (xx 14 0).1 (N + 1) (xx 14 0).2) (N + 1) ((L.kb.reverse.map ptrB) ++ (#[.pointer (some ⟨kb0, 0, none⟩)] : Array Value).toList) ∧ FreshOr w6.heap.size (.slice Ao N co) (.slice (xx 14 0).1 (N + 1) (xx 14 0).2) := fct14 rfl
              replace fct17 : (F 17) L.bs ∧ MapV w7 Try.prog 9 L.bs (putF ((fun q => (ptrT (stdsT l) L.kb q).map ptrB)) (nm) (ptrB kb0)) (if (((fun q => (ptrT (stdsT l) L.kb q).map ptrB)) (nm)).isSome then N else N + 1) := fct17 rfl
              replace fct20 : (F 20) p ∧ Blk w7 p 98 #[.bool true, .map (some L.br), .map (some L.bs), .slice (xx 14 0).1 (N + 1) (xx 14 0).2, .slice At (testsT l).length ct, .map (some L.bw), .map (some L.bv), .slice Ae l.length ce] := fct20 rfl
              obtain ⟨⟨hot, -⟩, hfr⟩ := fct14
              have hmp := fct17.2
              have hbk := fct20.2
              generalize (xx 14 0).1 = A7 at *
              generalize (xx 14 0).2 = c7 at *
              simp only [hfn, Option.isSome_none, Bool.false_eq_true, if_false] at hmp
              have hk7 : ∀ k, k < w6.heap.size → k ≠ L.bs → k ≠ p → (Value.slice Ao N co).ownBlock ≠ some k → w7.heap[k]? = w6.heap[k]? := fun k a b c d => hK.block k ⟨a, freeL d (by
                intro q hq
                simp only [List.mem_cons, List.not_mem_nil, or_false] at hq
                rcases hq with rfl | rfl
                · exact Ne.symm b
                · exact Ne.symm c)⟩
              have hn7 : Blk w7 kb0 _ _ := (hk7 kb0 ltn (by omega) (by omega) hokb).trans Hn.out
              have hs7 : Blk w7 w.heap.size _ _ := (hk7 w.heap.size lts (by omega) (by omega) hosb).trans Hs.out
              rw [← hmd] at hn7
              have hSn : S.name = nm := by rw [HS.out]
              have Q := bookQ_define (s := S) (kb0 := kb0) (v := .slice A7 (N + 1) c7) (hb.later HB.out) hok (by rw [hSn, hN]; exact hmp) (by unfold bookC; simp only; rw [e2, e3]; exact hbk) (by rw [hN]; exact hot) hn7 (fun hm => by have := hb.lt _ hm; omega)
                (by
                  rcases hfr with e | ⟨g, e, hg⟩
                  · exact .inl (by rw [e1, hN]; exact e)
                  · exact .inr ⟨g, e, hg, by omega⟩) (fun k a b c d => hk7 k a b c (by rw [e1, hN] at d; exact d))
              have hw7 : w.heap.size ≤ w7.heap.size := Nat.le_trans HB.out.size hK.size
              have HK7 : Hid (Kept (fun k => k < w.heap.size ∧ k ∉ L.all p) w w7) := hide ⟨hK.os.trans HB.out.os, hK.tape.trans HB.out.tape, hK.output.trans HB.out.output, hw7, fun k hk' => (hk7 k (Nat.lt_of_lt_of_le hk'.1 HB.out.size) (fun e => hk'.2 (by rw [e]; simp [Lay.all])) (fun e => hk'.2 (by rw [e]; simp [Lay.all])) (fun e => hk'.2 (mem_allO.2 (List.mem_append_right _ (optL_iff.2 (by rw [e1, hN]; exact e)))))).trans (HB.out.block k hk'.1)⟩
              have Hsub : Hid (∀ k ∈ Lay.all { L with vo := .slice A7 (N + 1) c7, kb := kb0 :: L.kb } p, k ∈ L.all p ∨ w.heap.size < k) := hide fun k hk' => by
                rw [(L.perm_order p (.slice A7 (N + 1) c7) kb0).mem_iff] at hk'
                rcases List.mem_append.1 hk' with h | h
                · exact .inl (mem_allO.2 (List.mem_append_left _ h))
                · rcases List.mem_append.1 h with h | h
                  · rw [optL_iff] at h
                    rcases hfr with e | ⟨g, e, hg⟩
                    · exact .inl (mem_allO.2 (List.mem_append_right _ (optL_iff.2 (by rw [e1, hN]; exact e.symm.trans h))))
                    · rw [e] at h
                      have := Option.some.inj h
                      have := HB.out.size
                      exact .inr (by omega)
                  · simp only [List.mem_singleton] at h
                    exact .inr (by omega)
              have hen7 := Q.entries
              simp only at hen7
              rw [e3] at hen7 hep
              obtain ⟨i1, hii1, hz10, hz11, hz12⟩ := info_parts funcInfo
              clear x0 x1 x2 x3 x4 x5 x6 x7 s0 lts ltk ltn lbs6 hmp hot hfr fct17 fct20 hK hk7 hn7 Hk Hs Hn HB Hmv Hord hneP hop hobs hosb hokb hfn Hi Hz0 Hz1 Hz2
              have Hi := hide hii1
              have Hz0 := hide hz10
              have Hz1 := hide hz11
              have Hz2 := hide hz12
              have Hk := hide hbk
              have Hen := hide hen7
              have Hs := hide hs7
              have HQ := hide Q
              clear hii1 hz10 hz11 hz12 hbk hen7 hs7 Q
              obtain ⟨x0, x1, x2, x3, x4, x5, x6, x7⟩ := Hk.out.c8
              have ltk := Hk.out.lt
              go_wp2_with (at_builtin; refine wpList_append_own_at _ rfl (.tmp 150) (.tmp 152) _ rfl 0 106 i1 _ 1 8 Try.underlying96 Hi.out Hz0.out Hz1.out Hz2.out rfl (by decide) _ l.length _ rfl (Hen.out.alloc _) ⟨w7.heap.size, 0, none⟩ 1 1 [entF (.define S) [w.heap.size]] rfl rfl ?ka1 ?ka2 ?ka3 ?ka4 ?ka5 ?_)
              try case ka1 => exact new_cellsQ w7 _ [entF (.define S) [w.heap.size]]
              case ka2 => intro u hu; simp only [List.mem_singleton] at hu; subst hu; rfl
              case ka3 => unfold maxLen; omega
              case ka4 => omega
              case ka5 => exact Nat.zero_le _
              intro v' w8 hown hgrw _ hat
              obtain ⟨A9, c9, rfl⟩ := own_shape2 hown
              obtain ⟨q1, q2, q3⟩ := HQ.out.push (c := [w.heap.size]) ⟨_, rfl, by rw [HS.out]; exact Hs.out⟩ (by simp) (fun k hk' hm => by
                simp only [List.mem_singleton] at hk'
                subst hk'
                rcases Hsub.out _ hm with h | h
                · have := hb.lt _ h; omega
                · omega) (v := .slice A9 (l.length + 1) c9) (by simp only; rw [e3]; exact hgrw) hown (by simp only; rw [e3]; rw [World.size_alloc]; exact hat)
              have hk8 := blk_grown (Hk.out.alloc _) hgrw hep
              have hos : w8.os = w7.os ∧ w8.tape = w7.tape ∧ w8.output = w7.output := ⟨hgrw.os, hgrw.tape, hgrw.output⟩
              clear x0 x1 x2 x3 x4 x5 x6 x7 ltk hown hgrw Hk Hen
              have Hk := hide hk8
              have Q1 := hide q1
              have Q2 := hide q2
              have Q3 := hide q3
              have Hat := hide hat
              clear hk8 q1 q2 q3 hat
              have x7 := Hk.out.c 7 rfl
              have ltk := Hk.out.lt
              have fx7 := Hk.out.frozen 7
              go_wp2
              go_ret
              subst hE
              refine ⟨rfl, _, Q1.out, step_push HK7.out (fun k h => (Hsub.out k h).imp id Nat.le_of_lt) (fun k hk' => ?_) ?_ Q2.out Q3.out hos⟩
              · simp only [List.mem_singleton] at hk'; omega
              · rcases Hat.out with h1 | h1
                · exact .inl (by simp only; rw [e3]; exact h1)
                · exact .inr ⟨_, h1, by simp⟩
set_option maxHeartbeats 4000000 in
set_option maxRecDepth 100000 in
theorem Define_child (l : List Ent) (p : Nat) (L : Lay) (nm pr : ByteArray) (lo hi tm sp dr : Int) (w : World) (hb : BookR l p L w) (hn : nm.size ≤ maxLen) (hpe : pr ≠ ⟨#[]⟩) (hpn : pr.size ≤ maxLen) :
    Calls Try.prog 21 #[ptrB p, .agg #[.string nm, .string pr, .int .i64 lo, .int .i64 hi, .int .i64 tm, .int .i64 sp, .int .i64 dr]] w fun e w' => e = .returned (.int .i64 (defineE l ⟨nm, pr, lo, hi, tm, sp, dr⟩)) ∧ EntPost l p L w (.define ⟨nm, pr, lo, hi, tm, sp, dr⟩) (defineE l ⟨nm, pr, lo, hi, tm, sp, dr⟩) w' := by
  obtain ⟨S, hS⟩ : ∃ S : Std, S = ⟨nm, pr, lo, hi, tm, sp, dr⟩ := ⟨_, rfl⟩
  have hE : defineE l S = if 2000 ≤ l.length then 13 else if nameB nm = false then 10 else if (stdT l nm).isSome then 5 else if 64 ≤ (stdsT l).length then 9 else if rangeB 100000 S = false then 3 else match stdT l pr with
    | none => 4
    | some q => if (voidT l pr || !inR tm q.time q.stop) = true then 22 else if 1000000000 < (scaledS (valueT l q tm) (lo, hi)).2 then 26 else 0 := by
    subst hS
    have hpe' : ¬ pr = ByteArray.empty := hpe
    unfold defineE rangeB
    simp only [if_neg hpe']
    rfl
  rw [← hS]
  obtain ⟨Ao, co, At, ct, Ae, ce, e1, e2, e3, hk⟩ := hb.cells
  have hp := fun (ev : Int) (W : World) (h : Below w.heap.size w W) (he : ev ≠ 0) => EntPost.same (x := .define S) (ev := ev) hb h he
  have hl := fun W hw => look_std (W := W) hb hw hn
  have hlp := fun W hw => look_std (W := W) hb hw hpn
  have hlv := fun W hw => look_void (W := W) hb hw hpn
  have hpe1 : pr.toList.isEmpty = false := notEmpty hpe
  have hnm := fun W => Name_any nm W (by unfold maxLen at hn; omega)
  have hwi := fun W => within_any dr 0 1000000 W
  have hin := fun W => inside_any lo hi 1 100000 W
  generalize hr : defineE l S = r at *
  unfold ptrB
  have hst := fun W (h : Below w.heap.size w W) => state_any p l.length ce _ _ _ _ _ _ Ae W (blk_later hk h)
  have Hk := hide hk
  have Hp := hide hp
  have Hl := hide hl
  have Hnm := hide hnm
  have Hwi := hide hwi
  have Hin := hide hin
  have Hst := hide hst
  have HS := hide hS
  have Hlp := hide hlp
  have Hlv := hide hlv
  clear hk hp hl hnm hwi hin hst hS hlp hlv
  by_cases c1 : 2000 ≤ l.length
  · rw [if_pos c1] at hE
    have hs13 : stateE l.length = 13 := by unfold stateE; rw [if_pos c1]
    rw [hs13] at Hst
    subst hE
    clear c1 hs13
    go_enter Try.func21, Try.ntmps21
    have HB := hide (Below.refl w.heap.size w)
    go_wp2_with fail
    refine at_world fun W1 hW => ?_
    have bq0 : Blk W1 w.heap.size 43 #[.string nm, .string pr, .int .i64 lo, .int .i64 hi, .int .i64 tm, .int .i64 sp, .int .i64 dr] := by rw [hW]; exact Blk.new _ _ _
    have LW : Later w W1 := by rw [hW]; exact ((Below.refl _ _).alloc (Nat.le_refl _) _)
    have szW : W1.heap.size = w.heap.size + 1 := by rw [hW]; simp
    clear hW
    replace HB := hide (onward HB.out LW)
    replace Hk := hide (blk_later Hk.out LW)
    have Hs := hide bq0
    clear bq0 LW szW
    refine (Hst.out _ HB.out).mono ?_
    rintro e w2 ⟨rfl, hb⟩
    replace HB := hide (onward HB.out hb)
    replace Hk := hide (blk_later Hk.out hb)
    replace Hs := hide (blk_later Hs.out hb)
    clear hb
    go_wp2
    go_ret
    exact ⟨rfl, Hp.out 13 _ HB.out (by decide)⟩
  · rw [if_neg c1] at hE
    have hs0 : stateE l.length = 0 := by unfold stateE; rw [if_neg c1]
    rw [hs0] at Hst
    clear hs0
    go_enter Try.func21, Try.ntmps21
    have HB := hide (Below.refl w.heap.size w)
    go_wp2_with fail
    refine at_world fun W1 hW => ?_
    have bq0 : Blk W1 w.heap.size 43 #[.string nm, .string pr, .int .i64 lo, .int .i64 hi, .int .i64 tm, .int .i64 sp, .int .i64 dr] := by rw [hW]; exact Blk.new _ _ _
    have LW : Later w W1 := by rw [hW]; exact ((Below.refl _ _).alloc (Nat.le_refl _) _)
    have szW : W1.heap.size = w.heap.size + 1 := by rw [hW]; simp
    clear hW
    replace HB := hide (onward HB.out LW)
    replace Hk := hide (blk_later Hk.out LW)
    have Hs := hide bq0
    clear bq0 LW szW
    refine (Hst.out _ HB.out).mono ?_
    rintro e w2 ⟨rfl, hb⟩
    replace HB := hide (onward HB.out hb)
    replace Hk := hide (blk_later Hk.out hb)
    replace Hs := hide (blk_later Hs.out hb)
    clear hb
    obtain ⟨s0, s1, s2, s3, s4, s5, s6⟩ := Hs.out.c7
    have lts := Hs.out.lt
    go_wp2_with fail
    refine (Hnm.out _).mono ?_
    rintro e w3 ⟨rfl, hb⟩
    replace HB := hide (onward HB.out hb)
    replace Hk := hide (blk_later Hk.out hb)
    replace Hs := hide (blk_later Hs.out hb)
    clear hb s0 s1 s2 s3 s4 s5 s6 lts
    cases hnb : nameB nm with
    | false =>
      rw [if_pos hnb] at hE
      subst hE
      go_wp2
      go_ret
      exact ⟨rfl, Hp.out 10 _ HB.out (by decide)⟩
    | true =>
      rw [if_neg (by rw [hnb]; simp)] at hE
      go_wp2_with fail
      cases hsd : stdT l nm with
      | some q =>
        obtain ⟨b, hpt, -, -⟩ := known_get hb.good hb.knowns hsd
        rw [hpt] at Hl
        rw [if_pos (by rw [hsd]; rfl)] at hE
        subst hE
        unfold addrO at Hl
        simp only [Option.map_some] at Hl
        obtain ⟨x0, x1, x2, x3, x4, x5, x6, x7⟩ := Hk.out.c8
        have n0 := Hs.out.c 0 rfl
        have ltk := Hk.out.lt
        have lts := Hs.out.lt
        apply wp_region_L (w0 := w3) [[], [], [], [], [], [], [], [], []] [true, true, true, true, true, true, true, true, true] [] (fun ixq y => match ixq with  | _ => undef) (fun ixq x F wq => match ixq with  | _ => True) (fun a x => a) (by kernel_rfl) (by kernel_rfl) (fun _ => rfl) [23, 28] (by kernel_rfl)
        · intro x D hD
          have hne := hD.some
          have k2 := liftB hD x2 (by first | assumption | omega)
          have kn := liftB hD n0 (by first | assumption | omega)
          have hlk := fun (x : Of D) => Hl.out x.val (onward HB.out (kb hD x))
          simp only [takeOps, Act.put, List.setIfInBounds_toArray, List.set_cons_succ, List.set_cons_zero]
          repeat (go_big_quiet_step (fail))
          exact wpQuiet_nil rfl
        · intro d hd x x'
          simp only [List.mem_cons, List.not_mem_nil, or_false] at hd
          rcases hd with rfl | rfl
          all_goals rfl
        · exact trivial
        · exact trivial
        intro xx w4 F hL4 hlv4
        clear hlv4
        clear x0 x1 x2 x3 x4 x5 x6 x7 n0 ltk lts
        replace HB := hide (onward HB.out hL4)
        replace Hk := hide (blk_later Hk.out hL4)
        replace Hs := hide (blk_later Hs.out hL4)
        clear hL4
        obtain ⟨x0, x1, x2, x3, x4, x5, x6, x7⟩ := Hk.out.c8
        have ltk := Hk.out.lt
        go_wp2
        go_ret
        exact ⟨rfl, Hp.out 5 _ HB.out (by decide)⟩
      | none =>
        rw [ptr_none hsd] at Hl
        rw [if_neg (by rw [hsd]; simp)] at hE
        unfold addrO at Hl
        simp only [Option.map_none] at Hl
        obtain ⟨x0, x1, x2, x3, x4, x5, x6, x7⟩ := Hk.out.c8
        have n0 := Hs.out.c 0 rfl
        have ltk := Hk.out.lt
        have lts := Hs.out.lt
        apply wp_region_L (w0 := w3) [[], [], [], [], [], [], [], [], []] [true, true, true, true, true, true, true, true, true] [] (fun ixq y => match ixq with  | _ => undef) (fun ixq x F wq => match ixq with  | _ => True) (fun a x => a) (by kernel_rfl) (by kernel_rfl) (fun _ => rfl) [23, 28] (by kernel_rfl)
        · intro x D hD
          have hne := hD.some
          have k2 := liftB hD x2 (by first | assumption | omega)
          have kn := liftB hD n0 (by first | assumption | omega)
          have hlk := fun (x : Of D) => Hl.out x.val (onward HB.out (kb hD x))
          simp only [takeOps, Act.put, List.setIfInBounds_toArray, List.set_cons_succ, List.set_cons_zero]
          repeat (go_big_quiet_step (fail))
          exact wpQuiet_nil rfl
        · intro d hd x x'
          simp only [List.mem_cons, List.not_mem_nil, or_false] at hd
          rcases hd with rfl | rfl
          all_goals rfl
        · exact trivial
        · exact trivial
        intro xx w4 F hL4 hlv5
        clear hlv5
        clear x0 x1 x2 x3 x4 x5 x6 x7 n0 ltk lts
        replace HB := hide (onward HB.out hL4)
        replace Hk := hide (blk_later Hk.out hL4)
        replace Hs := hide (blk_later Hs.out hL4)
        clear hL4
        obtain ⟨x0, x1, x2, x3, x4, x5, x6, x7⟩ := Hk.out.c8
        have ltk := Hk.out.lt
        by_cases c2 : 64 ≤ (stdsT l).length
        · rw [if_pos c2] at hE
          subst hE
          have c2' : (64 : Int) ≤ (stdsT l).length := by omega
          go_wp2
          go_ret
          exact ⟨rfl, Hp.out 9 _ HB.out (by decide)⟩
        · rw [if_neg c2] at hE
          have c2' : ¬ (64 : Int) ≤ (stdsT l).length := by omega
          obtain ⟨s0, s1, s2, s3, s4, s5, s6⟩ := Hs.out.c7
          have lts := Hs.out.lt
          go_wp2_with fail
          clear s0 s1 s2 s3 s4 s5 s6 lts x0 x1 x2 x3 x4 x5 x6 x7 ltk
          refine (Hin.out _).mono ?_
          rintro e w5 ⟨rfl, hb⟩
          replace HB := hide (onward HB.out hb)
          replace Hk := hide (blk_later Hk.out hb)
          replace Hs := hide (blk_later Hs.out hb)
          clear hb
          have Hs5 := Hs.out.lt
          obtain ⟨s0, s1, s2, s3, s4, s5, s6⟩ := Hs.out.c7
          have lts := Hs.out.lt
          have hrB : rangeB 100000 S = (inS lo hi 1 100000 && inR tm 0 sp && decide (sp ≤ 4294967296) && inR dr 0 1000000) := by rw [HS.out]; rfl
          cases hi1 : inS lo hi 1 100000 with
          | false =>
            have hf : rangeB 100000 S = false := by rw [hrB, hi1]; rfl
            rw [if_pos hf] at hE
            subst hE
            go_wp2
            go_ret
            exact ⟨rfl, Hp.out 3 _ HB.out (by decide)⟩
          | true =>
            by_cases k1 : tm < 0
            · have hf : rangeB 100000 S = false := by rw [hrB, show inR tm 0 sp = false by simp [inR]; omega]; simp
              rw [if_pos hf] at hE
              subst hE
              go_wp2
              go_ret
              exact ⟨rfl, Hp.out 3 _ HB.out (by decide)⟩
            by_cases k2 : sp < tm
            · have hf : rangeB 100000 S = false := by rw [hrB, show inR tm 0 sp = false by simp [inR]; omega]; simp
              rw [if_pos hf] at hE
              subst hE
              go_wp2
              go_ret
              exact ⟨rfl, Hp.out 3 _ HB.out (by decide)⟩
            by_cases k3 : 4294967296 < sp
            · have hf : rangeB 100000 S = false := by rw [hrB, show decide (sp ≤ 4294967296) = false from decide_eq_false (by omega)]; simp
              rw [if_pos hf] at hE
              subst hE
              go_wp2
              go_ret
              exact ⟨rfl, Hp.out 3 _ HB.out (by decide)⟩
            go_wp2_with fail
            refine (Hwi.out _).mono ?_
            rintro e w' ⟨rfl, rfl⟩
            cases hi4 : inR dr 0 1000000 with
            | false =>
              have hf : rangeB 100000 S = false := by rw [hrB, hi4]; simp
              rw [if_pos hf] at hE
              subst hE
              go_wp2
              go_ret
              exact ⟨rfl, Hp.out 3 _ HB.out (by decide)⟩
            | true =>
              have hf : rangeB 100000 S = true := by rw [hrB, hi1, hi4, show inR tm 0 sp = true from inR_iff.2 ⟨by omega, by omega⟩, show decide (sp ≤ 4294967296) = true from decide_eq_true (by omega)]; rfl
              rw [if_neg (by rw [hf]; simp)] at hE
              go_wp2_with fail
              clear s0 s1 s2 s3 s4 s5 s6 lts
              refine code_world fun w6 hW => ?_
              have bq0 : Blk w6 w5.heap.size 109 #[.string nm, .string pr, .int .i64 lo, .int .i64 hi, .int .i64 tm, .int .i64 sp, .int .i64 dr, .pointer none, .int .i64 lo, .int .i64 hi] := by rw [hW]; exact Blk.new _ _ _
              have LW : Later w5 w6 := by rw [hW]; exact ((Below.refl _ _).alloc (Nat.le_refl _) _)
              have szW : w6.heap.size = w5.heap.size + 1 := by rw [hW]; simp
              clear hW
              replace HB := hide (onward HB.out LW)
              replace Hk := hide (blk_later Hk.out LW)
              replace Hs := hide (blk_later Hs.out LW)
              have Hn := hide bq0
              clear bq0 LW szW
              obtain ⟨kb0, hkb⟩ : ∃ kb0, w5.heap.size = kb0 := ⟨_, rfl⟩
              rw [hkb] at Hn
              have hkge : w.heap.size ≤ kb0 := by rw [← hkb]; have := Hs.out.lt; have := HB.out.size; omega
              have hkne : w.heap.size ≠ kb0 := by
                have := Hs5
                omega
              simp only [hkb]
              clear hkb
              have hpl := hb.lt p (by simp [Lay.all])
              obtain ⟨x0, x1, x2, x3, x4, x5, x6, x7⟩ := Hk.out.c8
              have s1 := Hs.out.c 1 rfl
              have lts := Hs.out.lt
              have ltk := Hk.out.lt
              have ltn := Hn.out.lt
              apply wp_region_F (w0 := w6) [[], [], [1], [1, 2], [1, 2, 3], [], [5], [1, 2, 3, 4, 5, 6], [0, 1, 2, 3, 4, 5, 6, 7], [0, 1, 2, 3, 4, 5, 6, 7, 8], [0, 1, 2, 3, 4, 5, 6, 7, 8, 9]] [true, true, true, true, true, true, true, true, true, true, false] [false, false, false, false, false, false, false, false, false, false, false] [⟨10, none, [], []⟩] [(10, kb0)] [10] (fun ixq y => match ixq with | 10 => undef | _ => undef) (fun ixq x F wq => match ixq with | 10 => F kb0 ∧ Blk wq kb0 109 #[.string nm, .string pr, .int .i64 lo, .int .i64 hi, .int .i64 tm, .int .i64 sp, .int .i64 dr, .pointer (addrO (ptrT (stdsT l) L.kb pr)), .int .i64 lo, .int .i64 hi] | _ => True) (fun a x => (a).put (none) (undef)) (by kernel_rfl) (by kernel_rfl) (by kernel_rfl) (fun _ => rfl) [76, 81, 82] (by kernel_rfl) (fills_lt1 (by omega)) fills_ne1
              · intro x D hD
                have hne := hD.some
                have k2 := liftS hD x2 (by exact early_all (by first | assumption | omega) (by rfl))
                have kn := liftS hD s1 (by exact early_all (by first | assumption | omega) (by rfl))
                have hlk := fun (x : Of D) => Hlp.out x.val (HB.out.trans (kbS (B := w.heap.size) hD (fun k hk => early_all (Nat.lt_of_lt_of_le hk HB.out.size) (by rfl)) x))
                simp only [takeOps, Act.put, List.setIfInBounds_toArray, List.set_cons_succ, List.set_cons_zero]
                repeat (go_big_quiet_step (fail))
                exact wpQuiet_nil rfl
              · exact fun x D hD => wpQuiet_nil rfl
              · intro d hd x x'
                simp only [List.mem_cons, List.not_mem_nil, or_false] at hd
                rcases hd with rfl | rfl | rfl
                all_goals rfl
              · refine ⟨?_, trivial⟩
                · exact obl_setv 107 109 83 81 kb0 7 _ (fun x => .pointer (addrO (ptrT (stdsT l) L.kb pr))) (fun x => #[.string nm, .string pr, .int .i64 lo, .int .i64 hi, .int .i64 tm, .int .i64 sp, .int .i64 dr, .pointer (addrO (ptrT (stdsT l) L.kb pr)), .int .i64 lo, .int .i64 hi]) (by kernel_rfl) (fun _ => rfl) (fun _ => rfl) (fun _ => rfl) Hn.out eb_fill1 (by simp [wrF]) (by kernel_rfl) (by first | assumption | (simp; done)) (fun _ => rfl) (fun _ => rfl) (fun _ _ _ _ h1 h2 => ⟨h1, h2⟩)
              · refine ⟨?_, trivial⟩
                · exact owe_fill kb0 109 (fun x => #[.string nm, .string pr, .int .i64 lo, .int .i64 hi, .int .i64 tm, .int .i64 sp, .int .i64 dr, .pointer (addrO (ptrT (stdsT l) L.kb pr)), .int .i64 lo, .int .i64 hi]) (fun _ _ _ => rfl) (fun _ _ _ => rfl)
              intro xx w7 F hK hlv6
              obtain ⟨fct10, -⟩ := hlv6
              replace fct10 : (F 10) kb0 ∧ Blk w7 kb0 109 #[.string nm, .string pr, .int .i64 lo, .int .i64 hi, .int .i64 tm, .int .i64 sp, .int .i64 dr, .pointer (addrO (ptrT (stdsT l) L.kb pr)), .int .i64 lo, .int .i64 hi] := fct10 rfl
              clear x0 x1 x2 x3 x4 x5 x6 x7 s1 lts ltk ltn
              have hgr := grown_kept hK
              replace HB := hide (below_grown HB.out hgr HB.out.size (fun q hq => by simp at hq; omega))
              replace Hk := hide (blk_grown Hk.out hgr (by first | (simp; done) | (simp; omega)))
              replace Hs := hide (blk_grown Hs.out hgr (by first | (simp; done) | (simp; omega)))
              replace Hn := hide fct10.2
              clear hgr hK fct10
              try clear fct10
              try clear hK
              have n7 := Hn.out.c 7 rfl
              have ltn := Hn.out.lt
              cases hsp : stdT l pr with
              | none =>
                rw [hsp] at hE
                simp only at hE
                rw [ptr_none hsp] at n7
                unfold addrO at n7
                simp only [Option.map_none] at n7
                subst hE
                go_wp2
                go_ret
                exact ⟨rfl, Hp.out 4 _ HB.out (by decide)⟩
              | some q =>
                rw [hsp] at hE
                simp only at hE
                obtain ⟨hq, hqn, hqm⟩ := good_std hb.good hsp
                obtain ⟨b, hpt, hbm, hbk0⟩ := known_get hb.good hb.knowns hsp
                rw [hpt] at n7 Hn
                unfold addrO at n7 Hn
                simp only [Option.map_some] at n7 Hn
                have hbl := hb.lt b (by unfold Lay.all; simp [hbm])
                have Hpar := hide (blk_later hbk0 HB.out)
                have hho := fun W hk => holds_any q (parO l L.kb q) (madeT l pr) b tm W hk
                generalize hvd : voidT l pr = vd at *
                go_wp2_with fail
                clear n7 ltn
                obtain ⟨x0, x1, x2, x3, x4, x5, x6, x7⟩ := Hk.out.c8
                obtain ⟨s0, s1, s2, s3, s4, s5, s6⟩ := Hs.out.c7
                have n7 := Hn.out.c 7 rfl
                have lts := Hs.out.lt
                have ltk := Hk.out.lt
                have ltn := Hn.out.lt
                cases vd with
                | true =>
                  rw [if_pos (by simp)] at hE
                  subst hE
                  apply wp_region_L (w0 := w7) [[], [], [], [], [], [], [], [], [], [], [], [], [], [], [], [], [], []] [true, true, true, true, true, true, true, true, true, true, true, true, true, true, true, true, true, true] [] (fun ixq y => match ixq with  | _ => undef) (fun ixq x F wq => match ixq with  | _ => True) (fun a x => a) (by kernel_rfl) (by kernel_rfl) (fun _ => rfl) [92, 97, 100, 105] (by kernel_rfl)
                  · intro x D hD
                    have hne := hD.some
                    have k6 := liftB hD x6 (by first | assumption | omega)
                    have k1 := liftB hD s1 (by first | assumption | omega)
                    have hlk := fun (x : Of D) => Hlv.out x.val (onward HB.out (kb hD x))
                    simp only [takeOps, Act.put, List.setIfInBounds_toArray, List.set_cons_succ, List.set_cons_zero]
                    repeat (go_big_quiet_step (fail))
                    exact wpQuiet_nil rfl
                  · intro d hd x x'
                    simp only [List.mem_cons, List.not_mem_nil, or_false] at hd
                    rcases hd with rfl | rfl | rfl | rfl
                    all_goals rfl
                  · exact trivial
                  · exact trivial
                  intro xx w8 F hL8 hlv7
                  clear hlv7
                  replace HB := hide (onward HB.out hL8)
                  replace Hk := hide (blk_later Hk.out hL8)
                  replace Hs := hide (blk_later Hs.out hL8)
                  replace Hn := hide (blk_later Hn.out hL8)
                  replace Hpar := hide (blk_later Hpar.out hL8)
                  clear hL8
                  go_wp2
                  go_ret
                  exact ⟨rfl, Hp.out 22 _ HB.out (by decide)⟩
                | false =>
                  apply wp_region_L (w0 := w7) [[], [], [], [], [], [], [], [], [], [], [], [], [], [], [], [], [], []] [true, true, true, true, true, true, true, true, true, true, true, true, true, true, true, true, true, true] [] (fun ixq y => match ixq with  | _ => undef) (fun ixq x F wq => match ixq with  | _ => True) (fun a x => a) (by kernel_rfl) (by kernel_rfl) (fun _ => rfl) [92, 97, 100, 105] (by kernel_rfl)
                  · intro x D hD
                    have hne := hD.some
                    have k6 := liftB hD x6 (by first | assumption | omega)
                    have k1 := liftB hD s1 (by first | assumption | omega)
                    have k3 := liftB hD s4 (by first | assumption | omega)
                    have k7 := liftB hD n7 (by first | assumption | omega)
                    have hlk := fun (x : Of D) => Hlv.out x.val (onward HB.out (kb hD x))
                    simp only [takeOps, Act.put, List.setIfInBounds_toArray, List.set_cons_succ, List.set_cons_zero]
                    repeat (go_big_quiet_step ((go_at_call 62; exact calls_later hD _ (hho _ (blk_later Hpar.out (kb hD _))))))
                    exact wpQuiet_nil rfl
                  · intro d hd x x'
                    simp only [List.mem_cons, List.not_mem_nil, or_false] at hd
                    rcases hd with rfl | rfl | rfl | rfl
                    all_goals rfl
                  · exact trivial
                  · exact trivial
                  intro xx w8 F hL8 hlv8
                  clear hlv8
                  clear x0 x1 x2 x3 x4 x5 x6 x7 s0 s1 s2 s3 s4 s5 s6 n7 lts ltk ltn
                  replace HB := hide (onward HB.out hL8)
                  replace Hk := hide (blk_later Hk.out hL8)
                  replace Hs := hide (blk_later Hs.out hL8)
                  replace Hn := hide (blk_later Hn.out hL8)
                  replace Hpar := hide (blk_later Hpar.out hL8)
                  clear hL8
                  cases hin4 : inR tm q.time q.stop with
                  | false =>
                    rw [if_pos (by rw [hin4]; rfl)] at hE
                    subst hE
                    go_wp2
                    go_ret
                    exact ⟨rfl, Hp.out 22 _ HB.out (by decide)⟩
                  | true =>
                    rw [if_neg (by rw [hin4]; simp)] at hE
                    obtain ⟨j1, j2⟩ := inR_iff.1 hin4
                    obtain ⟨y1, y2, y3⟩ := inS_iff.1 hi1
                    have hra := fun W hk => at_any q (parO l L.kb q) (madeT l pr) b tm W hk hq hqm (by have := hq.t0; omega) (by have := hq.t2; omega)
                    have hvv : valueT l q tm = widenS (madeT l pr) q.drift q.time tm := by unfold valueT; rw [hqn]
                    have hvb := widenS_bd (s := madeT l pr) (d := q.drift) (f := q.time) (t := tm) hq.d0 hq.d1 hq.t0 (by have := hq.t1; have := hq.t2; omega) (by have := hq.t0; omega) (by have := hq.t2; omega) hqm.2.1 (by have := hqm.1; have := hqm.2.1; omega)
                    have hvc := hqm.2.2
                    have hmS : madeT (.define S :: l) S.name = scaledS (valueT l q tm) (lo, hi) := by
                      rw [HS.out, madeT, if_pos rfl]
                      simp only
                      rw [if_neg (show ¬ pr = ByteArray.empty from hpe), hsp, hvv]
                    rw [← hvv] at hra hvb
                    generalize valueT l q tm = v at *
                    obtain ⟨v1, v2⟩ := v
                    simp only at hra hvb
                    have hsc := fun W => scaled_any v1 v2 lo hi W hvb.1 hvb.2.1 (by omega) y1 y2 (by omega)
                    generalize scaledS (v1, v2) (lo, hi) = m2 at *
                    obtain ⟨ma, mb⟩ := m2
                    simp only at hsc hE
                    have hpS : parO l L.kb S = some ⟨b, 0, none⟩ := by
                      rw [HS.out]
                      unfold parO
                      simp only
                      rw [if_neg (show ¬ pr = ByteArray.empty from hpe), hpt]
                      rfl
                    have hmd : knownC S (parO l L.kb S) (madeT (.define S :: l) S.name) = #[.string nm, .string pr, .int .i64 lo, .int .i64 hi, .int .i64 tm, .int .i64 sp, .int .i64 dr, .pointer (some ⟨b, 0, none⟩), .int .i64 ma, .int .i64 mb] := by
                      rw [hpS, hmS, HS.out]
                      rfl
                    clear hmS hpS hvv hvb hvc hho y1 y2 y3
                    go_wp2_with fail
                    obtain ⟨s0, s1, s2, s3, s4, s5, s6⟩ := Hs.out.c7
                    have n7 := Hn.out.c 7 rfl
                    have lts := Hs.out.lt
                    have ltn := Hn.out.lt
                    have ltb8 := Hpar.out.lt
                    apply wp_region_F (w0 := w8) [[], [], [1], [1, 2], [1, 2, 3], [], [5], [1, 2, 3, 4, 5, 6], [], [8], [1, 2, 3, 4, 5, 6, 7, 8, 9], [0, 1, 2, 3, 4, 5, 6, 7, 8, 9, 10], [0, 1, 2, 3, 4, 5, 6, 7, 8, 9, 10, 11], [0, 1, 2, 3, 4, 5, 6, 7, 8, 9, 10, 11, 12]] [true, true, true, true, true, true, true, true, true, true, true, true, true, false] [false, false, false, false, false, false, false, false, false, false, false, false, false, false] [⟨13, none, [], []⟩] [(13, kb0)] [13] (fun ixq y => match ixq with | 13 => undef | _ => undef) (fun ixq x F wq => match ixq with | 13 => F kb0 ∧ Blk wq kb0 109 #[.string nm, .string pr, .int .i64 lo, .int .i64 hi, .int .i64 tm, .int .i64 sp, .int .i64 dr, .pointer (some ⟨b, 0, none⟩), .int .i64 ma, .int .i64 mb] | _ => True) (fun a x => (a).put (none) (undef)) (by kernel_rfl) (by kernel_rfl) (by kernel_rfl) (fun _ => rfl) [110, 115, 118, 119] (by kernel_rfl) (fills_lt1 (by omega)) fills_ne1
                    · intro x D hD
                      have hne := hD.some
                      have k7 := liftS hD n7 (by exact early_all (by first | assumption | omega) (by rfl))
                      have k2 := liftS hD s2 (by exact early_all (by first | assumption | omega) (by rfl))
                      have k3 := liftS hD s3 (by exact early_all (by first | assumption | omega) (by rfl))
                      have k4 := liftS hD s4 (by exact early_all (by first | assumption | omega) (by rfl))
                      have hpb := fun (x : Of D) => ((hD.low _ x.ok).block b (early_all ltb8 (by rfl))).trans Hpar.out
                      simp only [takeOps, Act.put, List.setIfInBounds_toArray, List.set_cons_succ, List.set_cons_zero]
                      repeat (go_big_quiet_step ((first | (go_at_call 64; exact calls_later hD _ (hra _ (hpb _))) | (go_at_call 63; exact calls_later hD _ (hsc _)))))
                      exact wpQuiet_nil rfl
                    · exact fun x D hD => wpQuiet_nil rfl
                    · intro d hd x x'
                      simp only [List.mem_cons, List.not_mem_nil, or_false] at hd
                      rcases hd with rfl | rfl | rfl | rfl
                      all_goals rfl
                    · refine ⟨?_, trivial⟩
                      · exact obl_set2 23 109 120 118 kb0 8 _ (ma) (mb) #[.string nm, .string pr, .int .i64 lo, .int .i64 hi, .int .i64 tm, .int .i64 sp, .int .i64 dr, .pointer (some ⟨b, 0, none⟩), .int .i64 ma, .int .i64 mb] (by kernel_rfl) (fun _ => rfl) (fun _ => rfl) Hn.out eb_fill1 (by simp [wrF]) (by kernel_rfl) (by simp) rfl (fun _ => rfl) (fun _ _ _ _ h1 h2 => ⟨h1, h2⟩)
                    · refine ⟨?_, trivial⟩
                      · exact owe_fill kb0 109 (fun x => #[.string nm, .string pr, .int .i64 lo, .int .i64 hi, .int .i64 tm, .int .i64 sp, .int .i64 dr, .pointer (some ⟨b, 0, none⟩), .int .i64 ma, .int .i64 mb]) (fun _ _ _ => rfl) (fun _ _ _ => rfl)
                    intro xx w9 F hK hlv9
                    obtain ⟨fct13, -⟩ := hlv9
                    replace fct13 : (F 13) kb0 ∧ Blk w9 kb0 109 #[.string nm, .string pr, .int .i64 lo, .int .i64 hi, .int .i64 tm, .int .i64 sp, .int .i64 dr, .pointer (some ⟨b, 0, none⟩), .int .i64 ma, .int .i64 mb] := fct13 rfl
                    clear s0 s1 s2 s3 s4 s5 s6 n7 lts ltn ltb8 hra hsc
                    clear Hpar
                    have hgr := grown_kept hK
                    replace HB := hide (below_grown HB.out hgr HB.out.size (fun q hq => by simp at hq; omega))
                    replace Hk := hide (blk_grown Hk.out hgr (by first | (simp; done) | (simp; omega)))
                    replace Hs := hide (blk_grown Hs.out hgr (by first | (simp; done) | (simp; omega)))
                    replace Hn := hide fct13.2
                    clear hgr hK fct13
                    try clear fct13
                    try clear hK
                    have n9 := Hn.out.c 9 rfl
                    have ltn := Hn.out.lt
                    by_cases hov : 1000000000 < mb
                    · rw [if_pos hov] at hE
                      subst hE
                      go_wp2
                      go_ret
                      exact ⟨rfl, Hp.out 26 _ HB.out (by decide)⟩
                    · rw [if_neg hov] at hE
                      go_wp2_with fail
                      clear n9 ltn
                      have hok : okEnt l (.define S) = true := by show (defineE l S == 0) = true; rw [hr, hE]; rfl
                      have hbp : L.bs ≠ p := fun e => by
                        have hnd := hb.nodup
                        unfold Lay.all at hnd
                        rw [List.nodup_cons] at hnd
                        exact hnd.1 (by rw [← e]; simp)
                      have hnd2 := hb.nodup
                      rw [(L.perm_restO p).nodup_iff, List.nodup_append] at hnd2
                      have hop : (Value.slice Ao (stdsT l).length co).ownBlock ≠ some p := fun e => hnd2.2.2 p (by simp [Lay.restO]) p (optL_iff.2 (by rw [e1]; exact e)) rfl
                      have hobs : (Value.slice Ao (stdsT l).length co).ownBlock ≠ some L.bs := fun e => hnd2.2.2 L.bs (by simp [Lay.restO]) L.bs (optL_iff.2 (by rw [e1]; exact e)) rfl
                      have hep : L.ve.ownBlock ≠ some p := fun e => by
                        have hnd := hb.nodup
                        unfold Lay.all at hnd
                        rw [List.nodup_cons] at hnd
                        exact hnd.1 (by simp [optL_mem e])
                      clear hnd2
                      have hosb : (Value.slice Ao (stdsT l).length co).ownBlock ≠ some w.heap.size := fun e => by have := hb.lt _ (mem_allO.2 (List.mem_append_right _ (optL_iff.2 (by rw [e1]; exact e)))); omega
                      have hokb : (Value.slice Ao (stdsT l).length co).ownBlock ≠ some kb0 := fun e => by have := hb.lt _ (mem_allO.2 (List.mem_append_right _ (optL_iff.2 (by rw [e1]; exact e)))); omega
                      have hpl := hb.lt p (by simp [Lay.all])
                      have hbsl := hb.lt L.bs (by simp [Lay.all])
                      have Hmv := hide (hb.later HB.out).stds
                      have Hord := hide (e1 ▸ (hb.later HB.out).order : w9.ownsRow 0 107 1 (.slice Ao (stdsT l).length co) (stdsT l).length (L.kb.reverse.map ptrB))
                      have hfn : (fun q => (ptrT (stdsT l) L.kb q).map ptrB) nm = none := by simp only [ptr_none hsd, Option.map_none]
                      obtain ⟨N, hN⟩ : ∃ N, (stdsT l).length = N := ⟨_, rfl⟩
                      rw [hN] at hop hobs hosb hokb Hmv Hord Hk c2 c2'
                      simp only [hN]
                      have hneP := hide hop
                      obtain ⟨i0, hii, hz0, hz1, hz2⟩ := info_parts ptrInfo
                      have Hi := hide hii
                      have Hz0 := hide hz0
                      have Hz1 := hide hz1
                      have Hz2 := hide hz2
                      clear hii hz0 hz1 hz2
                      obtain ⟨x0, x1, x2, x3, x4, x5, x6, x7⟩ := Hk.out.c8
                      have s0 := Hs.out.c 0 rfl
                      have lts := Hs.out.lt
                      have ltk := Hk.out.lt
                      have ltn := Hn.out.lt
                      have lbs6 := Hmv.out.lt
                      have hltL10 : ∀ qa ∈ ([(15, L.bs), (20, p)] : List (Nat × Nat)), qa.2 < w9.heap.size := by intro qa hq; simp only [List.mem_cons, List.not_mem_nil, or_false] at hq; rcases hq with rfl | rfl <;> first | assumption | omega
                      have hneL10 : ∀ qa ∈ ([(15, L.bs), (20, p)] : List (Nat × Nat)), ((.slice Ao N co) : Value).ownBlock ≠ some qa.2 := by intro qa hq; simp only [List.mem_cons, List.not_mem_nil, or_false] at hq; rcases hq with rfl | rfl <;> first | assumption | (simp [Value.ownBlock]; done)
                      have hccL10 : ∀ qa ∈ ([(15, L.bs), (20, p)] : List (Nat × Nat)), ∀ qb ∈ ([(15, L.bs), (20, p)] : List (Nat × Nat)), qa.1 ≠ qb.1 → qa.2 ≠ qb.2 := by intro qa hp qb hq h; simp only [List.mem_cons, List.not_mem_nil, or_false] at hp hq; rcases hp with rfl | rfl <;> rcases hq with rfl | rfl <;> first | (exact absurd rfl h) | assumption | (exact Ne.symm (by assumption)) | omega
                      apply wp_region_F (w0 := w9) [[], [0], [0, 1], [0, 1, 2], [], [4], [], [], [], [8], [8, 9], [8, 9, 10], [], [12], [8, 9, 10, 11, 12, 13], [0, 1, 2, 3, 4, 5, 8, 9, 10, 11, 12, 13, 14], [0, 1, 2, 3, 4, 5, 8, 9, 10, 11, 12, 13, 14, 15], [0, 1, 2, 3, 4, 5, 7, 8, 9, 10, 11, 12, 13, 14, 15, 16], [0, 1, 2, 3, 4, 5, 6, 7, 8, 9, 10, 11, 12, 13, 14, 15, 16, 17], [0, 1, 2, 3, 4, 5, 6, 7, 8, 9, 10, 11, 12, 13, 14, 15, 16, 17, 18], [0, 1, 2, 3, 4, 5, 6, 7, 8, 9, 10, 11, 12, 13, 14, 15, 16, 17, 18, 19]] [true, true, true, true, true, true, true, true, true, true, true, true, true, false, false, false, true, false, true, true, false] [false, false, false, false, false, false, false, false, false, false, false, false, false, false, false, false, false, false, false, false, false] [⟨13, none, [], []⟩, ⟨14, none, [13], []⟩, ⟨15, none, [], []⟩, ⟨17, some 15, [15], []⟩, ⟨20, none, [], [14]⟩] (fillL 14 (.slice Ao N co) [(15, L.bs), (20, p)]) [20] (fun ixq y => match ixq with | 13 => .slice (y 0).1 1 1 | 14 => .slice (y 0).1 (N + 1) (y 0).2 | 15 => .tuple #[.pointer none, goInt (y 0).2] | 17 => undef | 20 => undef | _ => undef) (fun ixq x F wq => match ixq with | 13 => OwnF wq F w9.heap.size 107 1 (.slice (x 13 0).1 1 1) 1 #[.pointer (some ⟨kb0, 0, none⟩)].toList | 14 => OwnF wq F 0 107 1 (.slice (x 14 0).1 (N + 1) (x 14 0).2) (N + 1) ((L.kb.reverse.map ptrB) ++ (#[.pointer (some ⟨kb0, 0, none⟩)] : Array Value).toList) ∧ FreshOr w9.heap.size (.slice Ao N co) (.slice (x 14 0).1 (N + 1) (x 14 0).2) | 15 => F L.bs ∧ Pend Try.prog wq 92 9 L.bs N ((fun q => (ptrT (stdsT l) L.kb q).map ptrB)) (nm) (x 15 0).2 | 17 => F L.bs ∧ MapV wq Try.prog 9 L.bs (putF ((fun q => (ptrT (stdsT l) L.kb q).map ptrB)) (nm) (ptrB kb0)) (if (((fun q => (ptrT (stdsT l) L.kb q).map ptrB)) (nm)).isSome then N else N + 1) | 20 => F p ∧ Blk wq p 98 #[.bool true, .map (some L.br), .map (some L.bs), .slice (x 14 0).1 (N + 1) (x 14 0).2, .slice At (testsT l).length ct, .map (some L.bw), .map (some L.bv), .slice Ae l.length ce] | _ => True) (fun a x => (((((a).put (some 140) (.slice ((x 13) 0).1 1 1)).put (some 141) (.slice ((x 14) 0).1 (N + 1) ((x 14) 0).2)).put (some 142) (.tuple #[.pointer none, goInt ((x 15) 0).2])).put (none) (undef)).put (none) (undef)) (by kernel_rfl) (by kernel_rfl) (by kernel_rfl) (fun _ => rfl) [128, 136, 144] (by kernel_rfl) (fillL_lt (fun g hg => (Hord.out.lt g hg).2) hltL10) (fillL_ne hneL10 hccL10)
                      · intro x D hD
                        have hne := hD.some
                        have k2 := liftS hD x2 (earlyL (by first | assumption | omega) (by first | assumption | (exact own_low_ne Hord.out (by first | assumption | omega))) (by intro q hq e; simp only [List.mem_cons, List.not_mem_nil, or_false] at hq; rcases hq with rfl | rfl <;> first | (simp; done) | (exact absurd e (by first | assumption | (exact Ne.symm (by assumption)) | (simp only; omega)))))
                        have k3 := liftS hD x3 (earlyL (by first | assumption | omega) (by first | assumption | (exact own_low_ne Hord.out (by first | assumption | omega))) (by intro q hq e; simp only [List.mem_cons, List.not_mem_nil, or_false] at hq; rcases hq with rfl | rfl <;> first | (simp; done) | (exact absurd e (by first | assumption | (exact Ne.symm (by assumption)) | (simp only; omega)))))
                        have kn := liftS hD s0 (earlyL (by first | assumption | omega) (by first | assumption | (exact own_low_ne Hord.out (by first | assumption | omega))) (by intro q hq e; simp only [List.mem_cons, List.not_mem_nil, or_false] at hq; rcases hq with rfl | rfl <;> first | (simp; done) | (exact absurd e (by first | assumption | (exact Ne.symm (by assumption)) | (simp only; omega)))))
                        simp only [takeOps, Act.put, List.setIfInBounds_toArray, List.set_cons_succ, List.set_cons_zero]
                        repeat (go_big_quiet_step (fail))
                        exact wpQuiet_nil rfl
                      · exact fun x D hD => wpQuiet_nil rfl
                      · intro d hd x x'
                        simp only [List.mem_cons, List.not_mem_nil, or_false] at hd
                        rcases hd with rfl | rfl | rfl
                        all_goals rfl
                      · refine ⟨?_, ?_, ?_, ?_, ?_, trivial⟩
                        · exact obl_new rfl (fun _ => by kernel_rfl) 107 (fun x => #[.pointer (some ⟨kb0, 0, none⟩)]) gP (fun x w => by kernel_rfl) (fun x w hle => own_new hle rfl (by unfold maxLen; omega))
                        · refine obl_pushQ 93 138 140 (by kernel_rfl) 0 107 i0 _ 1 8 Try.underlying93 Hi.out Hz0.out Hz1.out Hz2.out rfl (by decide) (.slice Ao N co) N 1 ((L.kb.reverse.map ptrB)) (#[.pointer (some ⟨kb0, 0, none⟩)] : Array Value).toList (by first | rfl | (simp; done) | (simp; omega)) (by simp [Value.oneCell']) (by unfold maxLen; omega) (by omega) (by first | assumption | omega) (fun x w F hk hn => ?_) (fun _ => rfl) (fun _ _ _ _ h1 h2 => ⟨h1, h2⟩)
                          have hj : OwnF w (F 13) w9.heap.size 107 1 (.slice (x 13 0).1 1 1) 1 (#[.pointer (some ⟨kb0, 0, none⟩)] : Array Value).toList := hn 13 (by simp)
                          obtain ⟨ad, hA, hc⟩ := news_own hj (by decide)
                          exact ⟨ad, 1, rfl, row_thenL Hord.out hneL10 hk, wrL_row, (show Value.slice (x 13 0).1 1 1 = _ by rw [hA]), hc⟩
                        · exact obl_mapEntry 92 9 107 130 132 L.bs N ((fun q => (ptrT (stdsT l) L.kb q).map ptrB)) (nm) (.pointer none) (by kernel_rfl) (fun _ => rfl) (fun _ => rfl) Try.underlying9 Try.underlying92 (fun _ => by kernel_rfl) (by unfold maxLen; omega) hn hfn Hmv.out (ebL_cell (by simp) (by first | assumption | (simp [Value.ownBlock]; done)) hccL10) (wrL_cell (by simp)) (fun _ => rfl) (fun _ _ _ _ h1 h2 => ⟨h1, h2⟩)
                        · exact obl_entryStore 92 9 130 143 134 15 L.bs N ((fun q => (ptrT (stdsT l) L.kb q).map ptrB)) (nm) (ptrB kb0) (by kernel_rfl) rfl (by simp) (fun _ _ _ h => h) (fun _ => rfl) (fun _ => rfl) (fun _ => rfl) (fun _ => rfl) (fun _ _ _ _ h1 h2 => ⟨h1, h2⟩)
                        · exact obl_setv 93 98 145 141 p 3 _ (fun x => .slice (x 14 0).1 (N + 1) (x 14 0).2) (fun x => #[.bool true, .map (some L.br), .map (some L.bs), .slice (x 14 0).1 (N + 1) (x 14 0).2, .slice At (testsT l).length ct, .map (some L.bw), .map (some L.bv), .slice Ae l.length ce]) (by kernel_rfl) (fun _ => rfl) (fun _ => rfl) (fun _ => rfl) Hk.out (ebL_cell (by simp) (by first | assumption | (simp [Value.ownBlock]; done)) hccL10) (wrL_cell (by simp)) (by kernel_rfl) (by first | assumption | (simp; done)) (fun _ => rfl) (fun _ => rfl) (fun _ _ _ _ h1 h2 => ⟨h1, h2⟩)
                      · refine ⟨?_, ?_, ?_, ?_, ?_, trivial⟩
                        · refine ⟨fun x F wq wq' h hs hk => ?_, fun x x' F wq hx h => ?_⟩
                          · have h2 : OwnF wq F w9.heap.size 107 1 (.slice (x 13 0).1 1 1) 1 #[.pointer (some ⟨kb0, 0, none⟩)].toList := h
                            exact h2.stab hk
                          · have h2 : OwnF wq F w9.heap.size 107 1 (.slice (x 13 0).1 1 1) 1 #[.pointer (some ⟨kb0, 0, none⟩)].toList := h
                            rw [hx 13 (by simp)] at h2
                            exact h2
                        · exact owe_pushQ 14 _ 0 (.slice Ao N co) 107 1 (N + 1) ((L.kb.reverse.map ptrB) ++ (#[.pointer (some ⟨kb0, 0, none⟩)] : Array Value).toList) rfl (fun _ _ _ => rfl)
                        · exact owe_pend _ _ _ 15 _ _ _ _ rfl (fun _ _ _ => rfl)
                        · exact owe_mapV _ _ _ _ _ (fun _ _ _ => rfl)
                        · exact owe_fill p 98 (fun x => #[.bool true, .map (some L.br), .map (some L.bs), .slice (x 14 0).1 (N + 1) (x 14 0).2, .slice At (testsT l).length ct, .map (some L.bw), .map (some L.bv), .slice Ae l.length ce]) (fun _ _ _ => rfl) (fun x x' hx => by simp only [hx 14 (by simp)])
                      intro xx w7 F hK hlv10
                      obtain ⟨-, fct14, -, fct17, fct20, -⟩ := hlv10
                      replace fct14 : OwnF w7 (F 14) 0 107 1 (.slice (xx 14 0).1 (N + 1) (xx 14 0).2) (N + 1) ((L.kb.reverse.map ptrB) ++ (#[.pointer (some ⟨kb0, 0, none⟩)] : Array Value).toList) ∧ FreshOr w9.heap.size (.slice Ao N co) (.slice (xx 14 0).1 (N + 1) (xx 14 0).2) := fct14 rfl
                      replace fct17 : (F 17) L.bs ∧ MapV w7 Try.prog 9 L.bs (putF ((fun q => (ptrT (stdsT l) L.kb q).map ptrB)) (nm) (ptrB kb0)) (if (((fun q => (ptrT (stdsT l) L.kb q).map ptrB)) (nm)).isSome then N else N + 1) := fct17 rfl
                      replace fct20 : (F 20) p ∧ Blk w7 p 98 #[.bool true, .map (some L.br), .map (some L.bs), .slice (xx 14 0).1 (N + 1) (xx 14 0).2, .slice At (testsT l).length ct, .map (some L.bw), .map (some L.bv), .slice Ae l.length ce] := fct20 rfl
                      obtain ⟨⟨hot, -⟩, hfr⟩ := fct14
                      have hmp := fct17.2
                      have hbk := fct20.2
                      generalize (xx 14 0).1 = A7 at *
                      generalize (xx 14 0).2 = c7 at *
                      simp only [hfn, Option.isSome_none, Bool.false_eq_true, if_false] at hmp
                      have hk7 : ∀ k, k < w9.heap.size → k ≠ L.bs → k ≠ p → (Value.slice Ao N co).ownBlock ≠ some k → w7.heap[k]? = w9.heap[k]? := fun k a b c d => hK.block k ⟨a, freeL d (by
                        intro q hq
                        simp only [List.mem_cons, List.not_mem_nil, or_false] at hq
                        rcases hq with rfl | rfl
                        · exact Ne.symm b
                        · exact Ne.symm c)⟩
                      have hn7 : Blk w7 kb0 _ _ := (hk7 kb0 ltn (by omega) (by omega) hokb).trans Hn.out
                      have hs7 : Blk w7 w.heap.size _ _ := (hk7 w.heap.size lts (by omega) (by omega) hosb).trans Hs.out
                      rw [← hmd] at hn7
                      have hSn : S.name = nm := by rw [HS.out]
                      have Q := bookQ_define (s := S) (kb0 := kb0) (v := .slice A7 (N + 1) c7) (hb.later HB.out) hok (by rw [hSn, hN]; exact hmp) (by unfold bookC; simp only; rw [e2, e3]; exact hbk) (by rw [hN]; exact hot) hn7 (fun hm => by have := hb.lt _ hm; omega)
                        (by
                          rcases hfr with e | ⟨g, e, hg⟩
                          · exact .inl (by rw [e1, hN]; exact e)
                          · exact .inr ⟨g, e, hg, by omega⟩) (fun k a b c d => hk7 k a b c (by rw [e1, hN] at d; exact d))
                      have hw7 : w.heap.size ≤ w7.heap.size := Nat.le_trans HB.out.size hK.size
                      have HK7 : Hid (Kept (fun k => k < w.heap.size ∧ k ∉ L.all p) w w7) := hide ⟨hK.os.trans HB.out.os, hK.tape.trans HB.out.tape, hK.output.trans HB.out.output, hw7, fun k hk' => (hk7 k (Nat.lt_of_lt_of_le hk'.1 HB.out.size) (fun e => hk'.2 (by rw [e]; simp [Lay.all])) (fun e => hk'.2 (by rw [e]; simp [Lay.all])) (fun e => hk'.2 (mem_allO.2 (List.mem_append_right _ (optL_iff.2 (by rw [e1, hN]; exact e)))))).trans (HB.out.block k hk'.1)⟩
                      have Hsub : Hid (∀ k ∈ Lay.all { L with vo := .slice A7 (N + 1) c7, kb := kb0 :: L.kb } p, k ∈ L.all p ∨ w.heap.size < k) := hide fun k hk' => by
                        rw [(L.perm_order p (.slice A7 (N + 1) c7) kb0).mem_iff] at hk'
                        rcases List.mem_append.1 hk' with h | h
                        · exact .inl (mem_allO.2 (List.mem_append_left _ h))
                        · rcases List.mem_append.1 h with h | h
                          · rw [optL_iff] at h
                            rcases hfr with e | ⟨g, e, hg⟩
                            · exact .inl (mem_allO.2 (List.mem_append_right _ (optL_iff.2 (by rw [e1, hN]; exact e.symm.trans h))))
                            · rw [e] at h
                              have := Option.some.inj h
                              have := HB.out.size
                              exact .inr (by omega)
                          · simp only [List.mem_singleton] at h
                            exact .inr (by omega)
                      have hen7 := Q.entries
                      simp only at hen7
                      rw [e3] at hen7 hep
                      obtain ⟨i1, hii1, hz10, hz11, hz12⟩ := info_parts funcInfo
                      clear x0 x1 x2 x3 x4 x5 x6 x7 s0 lts ltk ltn lbs6 hmp hot hfr fct17 fct20 hK hk7 hn7 Hk Hs Hn HB Hmv Hord hneP hop hobs hosb hokb hfn Hi Hz0 Hz1 Hz2
                      have Hi := hide hii1
                      have Hz0 := hide hz10
                      have Hz1 := hide hz11
                      have Hz2 := hide hz12
                      have Hk := hide hbk
                      have Hen := hide hen7
                      have Hs := hide hs7
                      have HQ := hide Q
                      clear hii1 hz10 hz11 hz12 hbk hen7 hs7 Q
                      obtain ⟨x0, x1, x2, x3, x4, x5, x6, x7⟩ := Hk.out.c8
                      have ltk := Hk.out.lt
                      go_wp2_with (at_builtin; refine wpList_append_own_at _ rfl (.tmp 150) (.tmp 152) _ rfl 0 106 i1 _ 1 8 Try.underlying96 Hi.out Hz0.out Hz1.out Hz2.out rfl (by decide) _ l.length _ rfl (Hen.out.alloc _) ⟨w7.heap.size, 0, none⟩ 1 1 [entF (.define S) [w.heap.size]] rfl rfl ?ka1 ?ka2 ?ka3 ?ka4 ?ka5 ?_)
                      try case ka1 => exact new_cellsQ w7 _ [entF (.define S) [w.heap.size]]
                      case ka2 => intro u hu; simp only [List.mem_singleton] at hu; subst hu; rfl
                      case ka3 => unfold maxLen; omega
                      case ka4 => omega
                      case ka5 => exact Nat.zero_le _
                      intro v' w8 hown hgrw _ hat
                      obtain ⟨A9, c9, rfl⟩ := own_shape2 hown
                      obtain ⟨q1, q2, q3⟩ := HQ.out.push (c := [w.heap.size]) ⟨_, rfl, by rw [HS.out]; exact Hs.out⟩ (by simp) (fun k hk' hm => by
                        simp only [List.mem_singleton] at hk'
                        subst hk'
                        rcases Hsub.out _ hm with h | h
                        · have := hb.lt _ h; omega
                        · omega) (v := .slice A9 (l.length + 1) c9) (by simp only; rw [e3]; exact hgrw) hown (by simp only; rw [e3]; rw [World.size_alloc]; exact hat)
                      have hk8 := blk_grown (Hk.out.alloc _) hgrw hep
                      have hos : w8.os = w7.os ∧ w8.tape = w7.tape ∧ w8.output = w7.output := ⟨hgrw.os, hgrw.tape, hgrw.output⟩
                      clear x0 x1 x2 x3 x4 x5 x6 x7 ltk hown hgrw Hk Hen
                      have Hk := hide hk8
                      have Q1 := hide q1
                      have Q2 := hide q2
                      have Q3 := hide q3
                      have Hat := hide hat
                      clear hk8 q1 q2 q3 hat
                      have x7 := Hk.out.c 7 rfl
                      have ltk := Hk.out.lt
                      have fx7 := Hk.out.frozen 7
                      go_wp2
                      go_ret
                      subst hE
                      refine ⟨rfl, _, Q1.out, step_push HK7.out (fun k h => (Hsub.out k h).imp id Nat.le_of_lt) (fun k hk' => ?_) ?_ Q2.out Q3.out hos⟩
                      · simp only [List.mem_singleton] at hk'; omega
                      · rcases Hat.out with h1 | h1
                        · exact .inl (by simp only; rw [e3]; exact h1)
                        · exact .inr ⟨_, h1, by simp⟩

/-- A standard is entered. -/
theorem Define_any (l : List Ent) (p : Nat) (L : Lay) (s : Std) (w : World) (hb : BookR l p L w) (hn : s.name.size ≤ maxLen) (hp : s.par.size ≤ maxLen) :
    Calls Try.prog 21 #[ptrB p, .agg (stdC s)] w fun e w' => e = .returned (.int .i64 (defineE l s)) ∧ EntPost l p L w (.define s) (defineE l s) w' := by
  obtain ⟨nm, pr, lo, hi, tm, sp, dr⟩ := s
  by_cases h : pr = ⟨#[]⟩
  · subst h; exact Define_root l p L nm lo hi tm sp dr w hb hn
  · exact Define_child l p L nm pr lo hi tm sp dr w hb hn h hp
end Go.Proofs.Ytiggefmckomilaa
