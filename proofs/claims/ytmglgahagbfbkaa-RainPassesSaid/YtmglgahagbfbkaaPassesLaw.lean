/-
  The law RainPasses returns true: for every table, all powers, all measured spans and all threads.
-/
import Derived.Test.YtmglgahagbfbkaaRestore
import Derived.Test.YtmglgahagbfbkaaRefPass
import Derived.Test.YtmglgahagbfbkaaFill
import Derived.Test.YtmglgahagbfbkaaWorks
namespace Go.Proofs.Ytmglgahagbfbkaa
open Go.RowKit

theorem passR_len (l : List (Int × Int)) (pw : List Int) : (passR l pw).1.length ≤ 200 := by
  unfold passR
  split
  · simp
  · split
    · simp
    · split
      · simp only [passGo_length]; omega
      · simp
theorem restR_len (l ms : List (Int × Int)) : (restR l ms).1.length ≤ 200 := by
  unfold restR
  split
  · simp
  · split
    · simp
    · split
      · simp only [restGo_length]; omega
      · simp
/-- A list of spans that the call owns reads as it. -/
theorem Ints.spans {w : World} {base n c : Nat} {A : Option Addr} {l : List (Int × Int)} (h : w.ownsRow base 24 2 (.slice A n c) n (spanCells l)) : Ints w w.heap.size .i64 A (flat2 l) := Ints.own h rfl (Nat.le_refl _)

set_option maxHeartbeats 4000000 in
set_option maxRecDepth 100000 in
theorem RainPasses_any (A : Option Addr) (n c : Nat) (l : List (Int × Int)) (A' : Option Addr) (n' c' : Nat) (pw : List Int) (A'' : Option Addr) (n'' c'' : Nat) (ms : List (Int × Int)) (th b1 b2 : Int) (w : World) (hn : l.length = n) (hmax : n ≤ 9223372036854775807) (hn' : pw.length = n') (hmax' : n' ≤ 9223372036854775807) (hn'' : ms.length = n'') (hmax'' : n'' ≤ 9223372036854775807)
    (hl : Ints w w.heap.size .i64 A (flat2 l)) (hl' : Ints w w.heap.size .i64 A' pw) (hl'' : Ints w w.heap.size .i64 A'' (flat2 ms)) :
    Calls Try.prog 10 #[.slice A n c, .slice A' n' c', .slice A'' n'' c'', .int .i64 th, .agg #[.int .i64 b1, .int .i64 b2]] w fun e w' => e = .returned (.bool true) ∧ Below w.heap.size w w' := by
  have Hl := hide hl
  have Hl' := hide hl'
  have Hl'' := hide hl''
  have Hn := hide hn
  have Hn' := hide hn'
  have Hn'' := hide hn''
  clear hl hl' hl'' hn hn' hn''
  by_cases g1 : (100 : Int) < n
  · go_enter Try.func10, Try.ntmps10
    have HB := hide (Below.refl w.heap.size w)
    go_wp2_with fail
    refine at_world fun W hW => ?_
    have bq0 : Blk W w.heap.size 24 #[.int .i64 b1, .int .i64 b2] := by rw [hW]; exact Blk.new _ _ _
    have LW : Later w W := by rw [hW]; exact ((Below.refl _ _).alloc (Nat.le_refl _) _)
    have szW : W.heap.size = w.heap.size + 1 := by rw [hW]; simp
    clear hW
    replace HB := hide (onward HB.out LW)
    have Hb := hide bq0
    clear bq0 LW szW
    refine (works_any _).mono ?_
    rintro e w1 ⟨rfl, hb⟩
    replace HB := hide (onward HB.out hb)
    replace Hb := hide (blk_later Hb.out hb)
    clear hb
    go_wp2
    go_ret
    exact ⟨rfl, HB.out⟩
  by_cases g2 : (300 : Int) < n'
  · go_enter Try.func10, Try.ntmps10
    have HB := hide (Below.refl w.heap.size w)
    go_wp2_with fail
    refine at_world fun W hW => ?_
    have bq0 : Blk W w.heap.size 24 #[.int .i64 b1, .int .i64 b2] := by rw [hW]; exact Blk.new _ _ _
    have LW : Later w W := by rw [hW]; exact ((Below.refl _ _).alloc (Nat.le_refl _) _)
    have szW : W.heap.size = w.heap.size + 1 := by rw [hW]; simp
    clear hW
    replace HB := hide (onward HB.out LW)
    have Hb := hide bq0
    clear bq0 LW szW
    refine (works_any _).mono ?_
    rintro e w1 ⟨rfl, hb⟩
    replace HB := hide (onward HB.out hb)
    replace Hb := hide (blk_later Hb.out hb)
    clear hb
    go_wp2
    go_ret
    exact ⟨rfl, HB.out⟩
  by_cases g3 : (300 : Int) < n''
  · go_enter Try.func10, Try.ntmps10
    have HB := hide (Below.refl w.heap.size w)
    go_wp2_with fail
    refine at_world fun W hW => ?_
    have bq0 : Blk W w.heap.size 24 #[.int .i64 b1, .int .i64 b2] := by rw [hW]; exact Blk.new _ _ _
    have LW : Later w W := by rw [hW]; exact ((Below.refl _ _).alloc (Nat.le_refl _) _)
    have szW : W.heap.size = w.heap.size + 1 := by rw [hW]; simp
    clear hW
    replace HB := hide (onward HB.out LW)
    have Hb := hide bq0
    clear bq0 LW szW
    refine (works_any _).mono ?_
    rintro e w1 ⟨rfl, hb⟩
    replace HB := hide (onward HB.out hb)
    replace Hb := hide (blk_later Hb.out hb)
    clear hb
    go_wp2
    go_ret
    exact ⟨rfl, HB.out⟩
  obtain ⟨rl, re, hr⟩ : ∃ a b, passR l pw = (a, b) := ⟨_, _, rfl⟩
  obtain ⟨sl, se, hs⟩ : ∃ a b, restR l ms = (a, b) := ⟨_, _, rfl⟩
  have rlen := passR_len l pw
  have slen := restR_len l ms
  rw [hr] at rlen
  rw [hs] at slen
  simp only at rlen slen
  have Hr := hide hr
  have Hs := hide hs
  clear hr hs
  go_enter Try.func10, Try.ntmps10
  have HB := hide (Below.refl w.heap.size w)
  go_wp2_with fail
  refine at_world fun W hW => ?_
  have bq0 : Blk W w.heap.size 24 #[.int .i64 b1, .int .i64 b2] := by rw [hW]; exact Blk.new _ _ _
  have LW : Later w W := by rw [hW]; exact ((Below.refl _ _).alloc (Nat.le_refl _) _)
  have szW : W.heap.size = w.heap.size + 1 := by rw [hW]; simp
  clear hW
  replace HB := hide (onward HB.out LW)
  have Hb := hide bq0
  clear bq0 LW szW
  have c1 := Pass_any A n c l A' n' c' pw W Hn.out hmax Hn'.out hmax' ((Hl.out.below HB.out).more HB.out.size) ((Hl'.out.below HB.out).more HB.out.size)
  rw [Hr.out] at c1
  refine (c1).mono ?_
  rintro e w1 ⟨v, rfl, ho, hb⟩
  replace HB := hide (onward HB.out hb)
  replace Hb := hide (blk_later Hb.out hb)
  clear hb
  clear c1
  obtain ⟨A1, k1, rfl⟩ := own_slice ho
  have Ho1 := hide ho
  clear ho
  go_wp2_with fail
  refine (points_any A n c l w1 Hn.out (by omega) ((Hl.out.below HB.out).more HB.out.size)).mono ?_
  rintro e w2 ⟨v, rfl, hb, ho⟩
  replace HB := hide (onward HB.out hb)
  replace Hb := hide (blk_later Hb.out hb)
  replace Ho1 := hide (own_later Ho1.out hb)
  clear hb
  obtain ⟨A2, k2, rfl⟩ := own_slice ho
  have Hop := hide ho
  clear ho
  go_wp2_with fail
  have c2 := RefPass_any A2 n k2 l A' n' c' pw w2 Hn.out hmax Hn'.out hmax' (Ints.own Hop.out rfl (Nat.le_refl _)) ((Hl'.out.below HB.out).more HB.out.size)
  rw [Hr.out] at c2
  refine (c2).mono ?_
  rintro e w3 ⟨v, rfl, ho, hb⟩
  replace HB := hide (onward HB.out hb)
  replace Hb := hide (blk_later Hb.out hb)
  replace Ho1 := hide (own_later Ho1.out hb)
  replace Hop := hide (own_later Hop.out hb)
  clear hb
  clear Hop
  clear c2
  obtain ⟨A3, k3, rfl⟩ := own_slice ho
  have Ho2 := hide ho
  clear ho
  go_wp2_with fail
  have c3 := Restore_any A n c l A'' n'' c'' ms w3 Hn.out hmax Hn''.out hmax'' ((Hl.out.below HB.out).more HB.out.size) ((Hl''.out.below HB.out).more HB.out.size)
  rw [Hs.out] at c3
  refine (c3).mono ?_
  rintro e w4 ⟨v, rfl, ho, hb⟩
  replace HB := hide (onward HB.out hb)
  replace Hb := hide (blk_later Hb.out hb)
  replace Ho1 := hide (own_later Ho1.out hb)
  replace Ho2 := hide (own_later Ho2.out hb)
  clear hb
  clear c3
  obtain ⟨A4, k4, rfl⟩ := own_slice ho
  have Ho3 := hide ho
  clear ho
  go_wp2_with fail
  refine (points_any A n c l w4 Hn.out (by omega) ((Hl.out.below HB.out).more HB.out.size)).mono ?_
  rintro e w5 ⟨v, rfl, hb, ho⟩
  replace HB := hide (onward HB.out hb)
  replace Hb := hide (blk_later Hb.out hb)
  replace Ho1 := hide (own_later Ho1.out hb)
  replace Ho2 := hide (own_later Ho2.out hb)
  replace Ho3 := hide (own_later Ho3.out hb)
  clear hb
  obtain ⟨A5, k5, rfl⟩ := own_slice ho
  have Hop := hide ho
  clear ho
  go_wp2_with fail
  have c4 := RefRestore_any A5 n k5 l A'' n'' c'' ms w5 Hn.out hmax Hn''.out hmax'' (Ints.own Hop.out rfl (Nat.le_refl _)) ((Hl''.out.below HB.out).more HB.out.size)
  rw [Hs.out] at c4
  refine (c4).mono ?_
  rintro e w6 ⟨v, rfl, ho, hb⟩
  replace HB := hide (onward HB.out hb)
  replace Hb := hide (blk_later Hb.out hb)
  replace Ho1 := hide (own_later Ho1.out hb)
  replace Ho2 := hide (own_later Ho2.out hb)
  replace Ho3 := hide (own_later Ho3.out hb)
  replace Hop := hide (own_later Hop.out hb)
  clear hb
  clear Hop
  clear c4
  obtain ⟨A6, k6, rfl⟩ := own_slice ho
  have Ho4 := hide ho
  clear ho
  simp only
  go_wp2_with fail
  have c5 := same_any A1 rl.length k1 rl A3 rl.length k3 rl w6 rfl (by omega) rfl (by omega) (Ints.spans Ho1.out) (Ints.spans Ho2.out)
  rw [show decide (rl = rl) = true from decide_eq_true rfl] at c5
  refine (c5).mono ?_
  rintro e w7 ⟨rfl, hb⟩
  replace HB := hide (onward HB.out hb)
  replace Hb := hide (blk_later Hb.out hb)
  replace Ho1 := hide (own_later Ho1.out hb)
  replace Ho2 := hide (own_later Ho2.out hb)
  replace Ho3 := hide (own_later Ho3.out hb)
  replace Ho4 := hide (own_later Ho4.out hb)
  clear hb
  clear Ho1 Ho2
  clear c5
  go_wp2_with fail
  have c6 := same_any A4 sl.length k4 sl A6 sl.length k6 sl w7 rfl (by omega) rfl (by omega) (Ints.spans Ho3.out) (Ints.spans Ho4.out)
  rw [show decide (sl = sl) = true from decide_eq_true rfl] at c6
  refine (c6).mono ?_
  rintro e w8 ⟨rfl, hb⟩
  replace HB := hide (onward HB.out hb)
  replace Hb := hide (blk_later Hb.out hb)
  replace Ho3 := hide (own_later Ho3.out hb)
  replace Ho4 := hide (own_later Ho4.out hb)
  clear hb
  clear Ho3 Ho4
  clear c6
  go_wp2_with fail
  go_loopw [19] (fun i wr => ∃ k : Nat, k ≤ n'' ∧ k ≤ 5 ∧ i = .int .i64 k ∧ Below w.heap.size w wr ∧ Blk wr w.heap.size 24 #[.int .i64 b1, .int .i64 b2])
    (fun i _ => 5 - (intOf i).toNat)
  case atStart => exact ⟨0, by omega, by omega, rfl, HB.out, Hb.out⟩
  case round =>
    clear HB Hb
    obtain ⟨k, hk, hk5, rfl, hbw, hb⟩ := hrel
    have HB := hide hbw
    have Hb := hide hb
    clear hbw hb
    by_cases hlt : k < n'' ∧ k < 5
    · obtain ⟨hlt1, hlt2⟩ := hlt
      obtain ⟨b', off', rfl, hb', hc'⟩ := Hl''.out.pt (by have := Hn''.out; omega)
      have hpp := hc' k (by have := Hn''.out; omega)
      have Hpp := hide hpp
      clear hc' hpp
      generalize ms.getD k (0, 0) = m at *
      obtain ⟨m1, m2⟩ := m
      simp only at Hpp
      obtain ⟨f1, f2, f3, hf⟩ : ∃ f1 f2 f3, fillR (m1, m2) th (b1, b2) = ((f1, f2), f3) := ⟨_, _, _, rfl⟩
      have hF1 := fun W => Fill_any m1 m2 th b1 b2 W
      have hF2 := fun W => RefFill_any m1 m2 th b1 b2 W
      rw [hf] at hF1 hF2
      unfold spanE at hF1 hF2
      simp only at hF1 hF2
      have HF1 := hide hF1
      have HF2 := hide hF2
      clear hF1 hF2
      clear hf
      have hbr : b' < wr.heap.size := by have := HB.out.size; omega
      obtain ⟨p0, p1⟩ := Hpp.out
      rw [← HB.out.cell hb'] at p0 p1
      go_wp2_with fail
      obtain ⟨y0, y1⟩ := Hb.out.c2
      have lty := Hb.out.lt
      apply wp_region_L (w0 := wr) [[], [], [], [], [], [], [], [], [], [], [], [10], [10, 11]] [true, true, true, true, true, true, true, true, true, true, false, false, true] [⟨10, none, [], []⟩, ⟨11, some 10, [10], [10]⟩] (fun ixq y => match ixq with | 10 => .pointer (y 0).1 | 11 => undef | _ => undef) (fun ixq x F wq => match ixq with | 10 => PtrF wq F wr.heap.size (x 10 0).1 24 #[.int .i64 0, .int .i64 0] | 11 => PtrF wq F wr.heap.size (x 10 0).1 24 #[.int .i64 f1, .int .i64 f2] | _ => True) (fun a x => ((a).put (some 20) (.pointer ((x 10) 0).1)).put (none) (undef)) (by kernel_rfl) (by kernel_rfl) (fun _ => rfl) [101] (by kernel_rfl)
      · intro x D hD
        have hne := hD.some
        have k0 := liftB hD p0 (by first | assumption | omega)
        have k1 := liftB hD p1 (by first | assumption | omega)
        have l0 := liftB hD y0 (by first | assumption | omega)
        have l1 := liftB hD y1 (by first | assumption | omega)
        simp only [takeOps, Act.put, List.setIfInBounds_toArray, List.set_cons_succ, List.set_cons_zero]
        repeat (go_big_quiet_step ((go_at_call 40; exact calls_later hD _ (HF1.out _))))
        exact wpQuiet_nil rfl
      · intro d hd x x'
        simp only [List.mem_cons, List.not_mem_nil, or_false] at hd
        rcases hd with rfl
        all_goals rfl
      · refine ⟨?_, ?_, trivial⟩
        · exact obl_alloc 24 20 (.agg #[.int .i64 0, .int .i64 0]) (by kernel_rfl) (by kernel_rfl) (fun _ => rfl) (fun _ _ _ h => h)
        · refine obl_store 24 20 102 10 #[.int .i64 0, .int .i64 0] (fun x => #[.int .i64 f1, .int .i64 f2]) (by kernel_rfl) rfl (by simp) (fun _ _ _ h => h) (fun _ => rfl) (fun _ => rfl) (fun _ => by kernel_rfl) (fun _ => rfl) (fun _ => by simp [Value.oneCell']) (fun _ => rfl) (by decide) (fun _ _ _ _ h => h)
      · refine ⟨?_, ?_, trivial⟩
        · exact owe_ptr 10 _ _ (fun x => #[.int .i64 0, .int .i64 0]) (fun _ _ _ => rfl) (by simp) (fun _ _ _ => rfl)
        · exact owe_ptr 10 _ _ (fun x => #[.int .i64 f1, .int .i64 f2]) (fun _ _ _ => rfl) (by simp) (fun _ _ _ => rfl)
      intro xx w2 F hL hlv1
      obtain ⟨-, fct11, -⟩ := hlv1
      replace fct11 : PtrF w2 (F 11) wr.heap.size (xx 10 0).1 24 #[.int .i64 f1, .int .i64 f2] := fct11 rfl
      obtain ⟨gx, hgx, hge, -, hbg⟩ := fct11
      rw [hgx]
      clear hgx p0 p1
      replace HB := hide (onward HB.out hL)
      replace Hb := hide (blk_later Hb.out hL)
      clear hL y0 y1 lty
      have Hx := hide hbg
      clear hbg
      have hbr2 : b' < w2.heap.size := by have := HB.out.size; omega
      obtain ⟨p0, p1⟩ := Hpp.out
      rw [← HB.out.cell hb'] at p0 p1
      obtain ⟨y0, y1⟩ := Hb.out.c2
      have lty := Hb.out.lt
      go_wp2_with fail
      apply wp_region_L (w0 := w2) [[], [], [], [], [], [], [], [], [], [], [], [10], [10, 11]] [true, true, true, true, true, true, true, true, true, true, false, false, true] [⟨10, none, [], []⟩, ⟨11, some 10, [10], [10]⟩] (fun ixq y => match ixq with | 10 => .pointer (y 0).1 | 11 => undef | _ => undef) (fun ixq x F wq => match ixq with | 10 => PtrF wq F w2.heap.size (x 10 0).1 24 #[.int .i64 0, .int .i64 0] | 11 => PtrF wq F w2.heap.size (x 10 0).1 24 #[.int .i64 f1, .int .i64 f2] | _ => True) (fun a x => ((a).put (some 22) (.pointer ((x 10) 0).1)).put (none) (undef)) (by kernel_rfl) (by kernel_rfl) (fun _ => rfl) [111] (by kernel_rfl)
      · intro x D hD
        have hne := hD.some
        have k0 := liftB hD p0 (by first | assumption | omega)
        have k1 := liftB hD p1 (by first | assumption | omega)
        have l0 := liftB hD y0 (by first | assumption | omega)
        have l1 := liftB hD y1 (by first | assumption | omega)
        simp only [takeOps, Act.put, List.setIfInBounds_toArray, List.set_cons_succ, List.set_cons_zero]
        repeat (go_big_quiet_step ((go_at_call 41; exact calls_later hD _ (HF2.out _))))
        exact wpQuiet_nil rfl
      · intro d hd x x'
        simp only [List.mem_cons, List.not_mem_nil, or_false] at hd
        rcases hd with rfl
        all_goals rfl
      · refine ⟨?_, ?_, trivial⟩
        · exact obl_alloc 24 22 (.agg #[.int .i64 0, .int .i64 0]) (by kernel_rfl) (by kernel_rfl) (fun _ => rfl) (fun _ _ _ h => h)
        · refine obl_store 24 22 112 10 #[.int .i64 0, .int .i64 0] (fun x => #[.int .i64 f1, .int .i64 f2]) (by kernel_rfl) rfl (by simp) (fun _ _ _ h => h) (fun _ => rfl) (fun _ => rfl) (fun _ => by kernel_rfl) (fun _ => rfl) (fun _ => by simp [Value.oneCell']) (fun _ => rfl) (by decide) (fun _ _ _ _ h => h)
      · refine ⟨?_, ?_, trivial⟩
        · exact owe_ptr 10 _ _ (fun x => #[.int .i64 0, .int .i64 0]) (fun _ _ _ => rfl) (by simp) (fun _ _ _ => rfl)
        · exact owe_ptr 10 _ _ (fun x => #[.int .i64 f1, .int .i64 f2]) (fun _ _ _ => rfl) (by simp) (fun _ _ _ => rfl)
      intro xx2 w3 F hL hlv2
      obtain ⟨-, fct11, -⟩ := hlv2
      replace fct11 : PtrF w3 (F 11) w2.heap.size (xx2 10 0).1 24 #[.int .i64 f1, .int .i64 f2] := fct11 rfl
      obtain ⟨gy, hgy, hge2, -, hbg⟩ := fct11
      rw [hgy]
      clear hgy p0 p1
      replace HB := hide (onward HB.out hL)
      replace Hb := hide (blk_later Hb.out hL)
      replace Hx := hide (blk_later Hx.out hL)
      clear hL y0 y1 lty
      have Hy := hide hbg
      clear hbg
      obtain ⟨x0, x1⟩ := Hx.out.c2
      have ltx := Hx.out.lt
      obtain ⟨y0, y1⟩ := Hy.out.c2
      have lty := Hy.out.lt
      go_wp2
      go_roundw
      case rel => exact ⟨k + 1, by omega, by omega, by go_num, HB.out, Hb.out⟩
      case measure => simp [intOf] <;> omega
    · have hor : ¬ k < n'' ∨ (k < n'' ∧ ¬ k < 5) := by omega
      clear hlt
      rcases hor with h | ⟨h, h'⟩
      all_goals
        go_wp2_with fail
        refine (works_any _).mono ?_
        rintro e w9 ⟨rfl, hb9⟩
        have HB9 := hide (onward HB.out hb9)
        clear hb9
        go_wp2
        go_ret
        exact ⟨rfl, HB9.out⟩
end Go.Proofs.Ytmglgahagbfbkaa
