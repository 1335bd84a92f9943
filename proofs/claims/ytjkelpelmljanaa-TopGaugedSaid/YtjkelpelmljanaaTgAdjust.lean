/-
  rain.Adjust: the contract.
-/
import Derived.Test.YtjkelpelmljanaaTgMeet
import Derived.Deep.CutRange
import Derived.WalkMore
set_option linter.unusedSimpArgs false
set_option linter.unusedVariables false
namespace Go.Proofs.Ytjkelpelmljanaa
open Go.RowKit


set_option maxHeartbeats 4000000 in
set_option maxRecDepth 100000 in
theorem Adjust_any (A : Option Addr) (n c : Nat) (zs : List Int) (w : World) (hz : zs.length = n * 4) (hmax : n ≤ 9223372036854775807) (hcap : n ≤ c) (hcm : c ≤ 9223372036854775807) (hl : Ints w w.heap.size .i64 A zs) :
    Calls Try.prog 14 #[.slice A n c] w fun e w' => e = .returned (adjV (adjG (okZ (fun j => zs.getD j 0)) (scZ (fun j => zs.getD j 0)) n)) ∧ Below w.heap.size w w' := by
  generalize hr : adjG (okZ (fun j => zs.getD j 0)) (scZ (fun j => zs.getD j 0)) n = r
  by_cases h0 : n = 0
  · have hR : r = (((0, 0), (0, 0)), 18) := by rw [← hr]; unfold adjG; rw [if_pos h0]
    have HR := hide hR
    subst h0
    clear hR hr
    go_enter Try.func14, Try.ntmps14
    go_wp2_with fail
    go_step3
    go_wp2_with fail
    refine code_world fun W hW => ?_
    have bo : Blk W w.heap.size 35 #[.int .i64 0, .int .i64 0] := by rw [hW]; exact (Blk.new _ _ _).alloc _
    have ba : Blk W (w.heap.size + 1) 45 #[.int .i64 0, .int .i64 0] := by rw [hW]; exact blk_new_at (by simp)
    have BW : Below w.heap.size w W := by rw [hW]; exact ((Below.refl _ _).alloc (Nat.le_refl _) _).alloc (by simp) _
    clear hW
    have Hbo := hide bo
    have Hba := hide ba
    have HB := hide BW
    obtain ⟨a0, a1⟩ := ba.c2
    have lto := bo.lt
    have lta := ba.lt
    clear bo ba BW
    apply wp_region_F (w0 := W) [[], [], [0], [0, 1, 2], [0, 1, 2, 3]] [true, true, false, false, false] [false, false, false, false, true] [⟨2, none, [], []⟩, ⟨3, none, [], []⟩] [(2, w.heap.size), (3, (w.heap.size+1))] [3] (fun ixq y => match ixq with | 2 => undef | 3 => undef | _ => undef) (fun ixq x F wq => match ixq with | 2 => F w.heap.size ∧ Blk wq w.heap.size 35 #[.int .i64 0, .int .i64 0] | 3 => F (w.heap.size+1) ∧ Blk wq (w.heap.size+1) 45 #[.int .i64 0, .int .i64 0] | _ => True) (fun a x => ((a).put (none) (undef)).put (none) (undef)) (by kernel_rfl) (by kernel_rfl) (by kernel_rfl) (fun _ => rfl) [] (by kernel_rfl) (fills_lt2 (by omega) (by omega)) (fills_ne2 (by omega))
    · intro x D hD
      have hne := hD.some
      have k0 := liftS hD a0 (by exact early_one (by first | assumption | omega) (by omega))
      have k1 := liftS hD a1 (by exact early_one (by first | assumption | omega) (by omega))
      simp only [takeOps, Act.put, List.setIfInBounds_toArray, List.set_cons_succ, List.set_cons_zero]
      repeat (go_big_quiet_step (fail))
      exact wpQuiet_nil rfl
    · intro x D hD
      have hne := hD.some
      simp only [takeOps, Act.put, List.setIfInBounds_toArray, List.set_cons_succ, List.set_cons_zero]
      repeat (go_big_quiet_step (fail))
      exact wpQuiet_nil rfl
    · exact fun _ h => absurd h (by simp)
    · refine ⟨?_, ?_, trivial⟩
      · exact obl_fill 35 35 2 15 w.heap.size _ (fun x => #[.int .i64 0, .int .i64 0]) (by kernel_rfl) (fun _ => rfl) (fun _ => rfl) Hbo.out (eb_fill2 (by omega)).1 (by simp [wrF]) (fun _ => by kernel_rfl) (fun _ => rfl) (fun _ => by simp [Value.oneCell']) (fun _ => rfl) (fun _ _ _ _ h1 h2 => ⟨h1, h2⟩)
      · exact obl_fill 45 45 3 16 (w.heap.size+1) _ (fun x => #[.int .i64 0, .int .i64 0]) (by kernel_rfl) (fun _ => rfl) (fun _ => rfl) Hba.out (eb_fill2 (by omega)).2 (by simp [wrF]) (fun _ => by kernel_rfl) (fun _ => rfl) (fun _ => by simp [Value.oneCell']) (fun _ => rfl) (fun _ _ _ _ h1 h2 => ⟨h1, h2⟩)
    · refine ⟨?_, ?_, trivial⟩
      · exact owe_fill w.heap.size 35 (fun x => #[.int .i64 0, .int .i64 0]) (fun _ _ _ => rfl) (fun _ _ _ => rfl)
      · exact owe_fill (w.heap.size+1) 45 (fun x => #[.int .i64 0, .int .i64 0]) (fun _ _ _ => rfl) (fun _ _ _ => rfl)
    intro xr wr2 F hKr hlv1
    obtain ⟨fct2, fct3, -⟩ := hlv1
    replace fct2 : (F 2) w.heap.size ∧ Blk wr2 w.heap.size 35 #[.int .i64 0, .int .i64 0] := fct2 rfl
    replace fct3 : (F 3) (w.heap.size+1) ∧ Blk wr2 (w.heap.size+1) 45 #[.int .i64 0, .int .i64 0] := fct3 rfl
    have hbr := below_kept HB.out HB.out.size hKr (by simp)
    have bo2 := fct2.2
    have ba2 := fct3.2
    obtain ⟨e0, e1⟩ := bo2.c2
    obtain ⟨v0, v1⟩ := ba2.c2
    have HBr := hide hbr
    clear hbr hKr fct2 fct3 bo2 ba2
    go_wp2
    rw [Exit.noGoto_ret]
    refine bodyPost_ret (v := adjV r) (by rw [HR.out]; simp [adjV, results, Try.results14, go_sem, e0, e1, v0, v1]) rfl ⟨rfl, HBr.out⟩
  have hn0 : ((n : Int) == 0) = false := beq_eq_false_iff_ne.2 (by omega)
  by_cases h1 : (100 : Int) < n
  · have hR : r = (((0, 0), (0, 0)), 9) := by rw [← hr]; unfold adjG; rw [if_neg h0, if_pos (by omega)]
    have HR := hide hR
    clear hR hr
    go_enter Try.func14, Try.ntmps14
    go_wp2_with fail
    go_step3
    go_wp2_with fail
    refine code_world fun W hW => ?_
    have bo : Blk W w.heap.size 35 #[.int .i64 0, .int .i64 0] := by rw [hW]; exact (Blk.new _ _ _).alloc _
    have ba : Blk W (w.heap.size + 1) 45 #[.int .i64 0, .int .i64 0] := by rw [hW]; exact blk_new_at (by simp)
    have BW : Below w.heap.size w W := by rw [hW]; exact ((Below.refl _ _).alloc (Nat.le_refl _) _).alloc (by simp) _
    clear hW
    have Hbo := hide bo
    have Hba := hide ba
    have HB := hide BW
    obtain ⟨a0, a1⟩ := ba.c2
    have lto := bo.lt
    have lta := ba.lt
    clear bo ba BW
    apply wp_region_F (w0 := W) [[], [], [0], [0, 1, 2], [0, 1, 2, 3]] [true, true, false, false, false] [false, false, false, false, true] [⟨2, none, [], []⟩, ⟨3, none, [], []⟩] [(2, w.heap.size), (3, (w.heap.size+1))] [3] (fun ixq y => match ixq with | 2 => undef | 3 => undef | _ => undef) (fun ixq x F wq => match ixq with | 2 => F w.heap.size ∧ Blk wq w.heap.size 35 #[.int .i64 0, .int .i64 0] | 3 => F (w.heap.size+1) ∧ Blk wq (w.heap.size+1) 45 #[.int .i64 0, .int .i64 0] | _ => True) (fun a x => ((a).put (none) (undef)).put (none) (undef)) (by kernel_rfl) (by kernel_rfl) (by kernel_rfl) (fun _ => rfl) [] (by kernel_rfl) (fills_lt2 (by omega) (by omega)) (fills_ne2 (by omega))
    · intro x D hD
      have hne := hD.some
      have k0 := liftS hD a0 (by exact early_one (by first | assumption | omega) (by omega))
      have k1 := liftS hD a1 (by exact early_one (by first | assumption | omega) (by omega))
      simp only [takeOps, Act.put, List.setIfInBounds_toArray, List.set_cons_succ, List.set_cons_zero]
      repeat (go_big_quiet_step (fail))
      exact wpQuiet_nil rfl
    · intro x D hD
      have hne := hD.some
      simp only [takeOps, Act.put, List.setIfInBounds_toArray, List.set_cons_succ, List.set_cons_zero]
      repeat (go_big_quiet_step (fail))
      exact wpQuiet_nil rfl
    · exact fun _ h => absurd h (by simp)
    · refine ⟨?_, ?_, trivial⟩
      · exact obl_fill 35 35 2 21 w.heap.size _ (fun x => #[.int .i64 0, .int .i64 0]) (by kernel_rfl) (fun _ => rfl) (fun _ => rfl) Hbo.out (eb_fill2 (by omega)).1 (by simp [wrF]) (fun _ => by kernel_rfl) (fun _ => rfl) (fun _ => by simp [Value.oneCell']) (fun _ => rfl) (fun _ _ _ _ h1 h2 => ⟨h1, h2⟩)
      · exact obl_fill 45 45 3 22 (w.heap.size+1) _ (fun x => #[.int .i64 0, .int .i64 0]) (by kernel_rfl) (fun _ => rfl) (fun _ => rfl) Hba.out (eb_fill2 (by omega)).2 (by simp [wrF]) (fun _ => by kernel_rfl) (fun _ => rfl) (fun _ => by simp [Value.oneCell']) (fun _ => rfl) (fun _ _ _ _ h1 h2 => ⟨h1, h2⟩)
    · refine ⟨?_, ?_, trivial⟩
      · exact owe_fill w.heap.size 35 (fun x => #[.int .i64 0, .int .i64 0]) (fun _ _ _ => rfl) (fun _ _ _ => rfl)
      · exact owe_fill (w.heap.size+1) 45 (fun x => #[.int .i64 0, .int .i64 0]) (fun _ _ _ => rfl) (fun _ _ _ => rfl)
    intro xr wr2 F hKr hlv2
    obtain ⟨fct2, fct3, -⟩ := hlv2
    replace fct2 : (F 2) w.heap.size ∧ Blk wr2 w.heap.size 35 #[.int .i64 0, .int .i64 0] := fct2 rfl
    replace fct3 : (F 3) (w.heap.size+1) ∧ Blk wr2 (w.heap.size+1) 45 #[.int .i64 0, .int .i64 0] := fct3 rfl
    have hbr := below_kept HB.out HB.out.size hKr (by simp)
    have bo2 := fct2.2
    have ba2 := fct3.2
    obtain ⟨e0, e1⟩ := bo2.c2
    obtain ⟨v0, v1⟩ := ba2.c2
    have HBr := hide hbr
    clear hbr hKr fct2 fct3 bo2 ba2
    go_wp2
    rw [Exit.noGoto_ret]
    refine bodyPost_ret (v := adjV r) (by rw [HR.out]; simp [adjV, results, Try.results14, go_sem, e0, e1, v0, v1]) rfl ⟨rfl, HBr.out⟩
  have hR : r = if ((List.range n).all (okZ (fun j => zs.getD j 0))) = false then (((0, 0), (0, 0)), 3)
      else if (meetG (scZ (fun j => zs.getD j 0)) (1, 100000) n).1 ≤ (meetG (scZ (fun j => zs.getD j 0)) (1, 100000) n).2 then ((meetG (scZ (fun j => zs.getD j 0)) (1, 100000) n, (0, 0)), 0) else (((0, 0), atOfR (findFR (conf (scZ (fun j => zs.getD j 0))) n 0 n)), 14) := by
    rw [← hr]; unfold adjG; rw [if_neg h0, if_neg (by omega)]
  have hmeet := fun (W : World) (hok : ∀ k, k < n → okZ (fun j => zs.getD j 0) k = true) (hl : Ints W W.heap.size .i64 A zs) => meet_any 1 100000 A n c zs W hz hmax hok hl
  have hcs : ∃ b off, A = some ⟨b, off, none⟩ ∧ b < w.heap.size ∧ ∀ k, k < n → w.cell? ⟨b, off + k * 4, none⟩ = some (.int .i64 ((fun j => zs.getD j 0) (k * 4))) ∧ w.cell? ⟨b, off + k * 4 + 1, none⟩ = some (.int .i64 ((fun j => zs.getD j 0) (k * 4 + 1))) ∧ w.cell? ⟨b, off + k * 4 + 2, none⟩ = some (.int .i64 ((fun j => zs.getD j 0) (k * 4 + 2))) ∧ w.cell? ⟨b, off + k * 4 + 3, none⟩ = some (.int .i64 ((fun j => zs.getD j 0) (k * 4 + 3))) := hl.pt4 hz (by omega)
  have Hl := hide hl
  have Hz := hide hz
  generalize (fun j => zs.getD j 0) = z at *
  have HR := hide hR
  have Hmeet := hide hmeet
  obtain ⟨b, off, rfl, hb, hc⟩ := hcs
  have Hc := hide hc
  clear hR hr hmeet hc hl hz
  go_enter Try.func14, Try.ntmps14
  go_wp2_with fail
  go_step3
  go_wp2_with fail
  go_loopw [25] (fun i wr => ∃ k : Nat, k ≤ n ∧ i = .int .i64 k ∧ Below w.heap.size w wr ∧ Blk wr w.heap.size 35 #[.int .i64 0, .int .i64 0] ∧ Blk wr (w.heap.size + 1) 45 #[.int .i64 0, .int .i64 0] ∧ ∀ j, j < k → okZ z j = true)
    (fun i _ => n - (intOf i).toNat)
  case atStart => exact ⟨0, by omega, rfl, ((Below.refl _ _).alloc (Nat.le_refl _) _).alloc (by simp) _, (Blk.new _ _ _).alloc _, blk_new_at (by simp), fun j hj => by omega⟩
  case round =>
    obtain ⟨k, hk, rfl, hbw, hbo, hba, hall⟩ := hrel
    have HB := hide hbw
    have Hbo := hide hbo
    have Hba := hide hba
    have Hall := hide hall
    have hsz := hbw.size
    clear hbw hbo hba hall
    by_cases hlt : k < n
    · obtain ⟨c0, c1, c2, c3⟩ := Hc.out k hlt
      rw [← HB.out.cell hb] at c0 c1 c2 c3
      have hk2 : okZ z k = (ins (z (k * 4)) (z (k * 4 + 1)) 2147483648 && okG (z (k * 4 + 2)) (z (k * 4 + 3))) := rfl
      have Hk2 := hide hk2
      clear hk2
      generalize z (k * 4) = z0 at *
      generalize z (k * 4 + 1) = z1 at *
      generalize z (k * 4 + 2) = z2 at *
      generalize z (k * 4 + 3) = z3 at *
      by_cases g1 : ins z0 z1 2147483648 = true
      · by_cases g2 : okG z2 z3 = true
        · go_wp2_with fail
          refine at_world fun W hW => ?_
          have br : Blk W wr.heap.size 58 #[.int .i64 z0, .int .i64 z1, .int .i64 z2, .int .i64 z3] := by rw [hW]; exact Blk.new _ _ _
          have LW : Later wr W := by rw [hW]; exact (Below.refl _ _).alloc (Nat.le_refl _) _
          clear hW c0 c1 c2 c3
          refine (inside_anyR _ _ _ _).mono ?_
          rintro e w1 ⟨rfl, hb1⟩
          have L1 := LW.trans hb1
          replace HB := hide (onward HB.out L1)
          replace Hbo := hide (blk_later Hbo.out L1)
          replace Hba := hide (blk_later Hba.out L1)
          have Hbr := hide (blk_later br hb1)
          clear L1 LW br hb1
          obtain ⟨y0, y1, y2, y3⟩ := Hbr.out.c4
          have ltr := Hbr.out.lt
          go_wp2_with fail
          refine (valid_any _ _ _).mono ?_
          rintro e w2 ⟨rfl, hb2⟩
          replace HB := hide (onward HB.out hb2)
          replace Hbo := hide (blk_later Hbo.out hb2)
          replace Hba := hide (blk_later Hba.out hb2)
          clear hb2 y0 y1 y2 y3 ltr Hbr
          have Hk3 := hide (show okZ z k = true by rw [Hk2.out, g1, g2]; rfl)
          go_wp2
          go_roundw
          case rel => exact ⟨k + 1, by omega, by go_num, HB.out, Hbo.out, Hba.out, fun j hj => by
            rcases Nat.lt_or_ge j k with h | h
            · exact Hall.out j h
            · obtain rfl : j = k := by omega
              exact Hk3.out⟩
          case measure => simp [intOf] <;> omega
        · have g3 : okG z2 z3 = false := by simpa using g2
          clear g2
          go_wp2_with fail
          refine at_world fun W hW => ?_
          have br : Blk W wr.heap.size 58 #[.int .i64 z0, .int .i64 z1, .int .i64 z2, .int .i64 z3] := by rw [hW]; exact Blk.new _ _ _
          have LW : Later wr W := by rw [hW]; exact (Below.refl _ _).alloc (Nat.le_refl _) _
          clear hW c0 c1 c2 c3
          refine (inside_anyR _ _ _ _).mono ?_
          rintro e w1 ⟨rfl, hb1⟩
          have L1 := LW.trans hb1
          replace HB := hide (onward HB.out L1)
          replace Hbo := hide (blk_later Hbo.out L1)
          replace Hba := hide (blk_later Hba.out L1)
          have Hbr := hide (blk_later br hb1)
          clear L1 LW br hb1
          obtain ⟨y0, y1, y2, y3⟩ := Hbr.out.c4
          have ltr := Hbr.out.lt
          go_wp2_with fail
          refine (valid_any _ _ _).mono ?_
          rintro e w2 ⟨rfl, hb2⟩
          replace HB := hide (onward HB.out hb2)
          replace Hbo := hide (blk_later Hbo.out hb2)
          replace Hba := hide (blk_later Hba.out hb2)
          clear hb2 y0 y1 y2 y3 ltr Hbr
          have hbad : ((List.range n).all (okZ z)) = false := List.all_eq_false.2 ⟨k, List.mem_range.2 hlt, by rw [Hk2.out]; simp [g3]⟩
          have hr := HR.out
          rw [if_pos hbad] at hr
          have HR2 := hide hr
          clear hr HR hbad Hc Hmeet Hall Hk2 Hl Hz
          obtain ⟨a0, a1⟩ := Hba.out.c2
          have lto := Hbo.out.lt
          have lta := Hba.out.lt
          go_wp2_with fail
          apply wp_region_F (w0 := w2) [[], [], [0], [0, 1, 2], [0, 1, 2, 3]] [true, true, false, false, false] [false, false, false, false, true] [⟨2, none, [], []⟩, ⟨3, none, [], []⟩] [(2, w.heap.size), (3, (w.heap.size+1))] [3] (fun ixq y => match ixq with | 2 => undef | 3 => undef | _ => undef) (fun ixq x F wq => match ixq with | 2 => F w.heap.size ∧ Blk wq w.heap.size 35 #[.int .i64 0, .int .i64 0] | 3 => F (w.heap.size+1) ∧ Blk wq (w.heap.size+1) 45 #[.int .i64 0, .int .i64 0] | _ => True) (fun a x => ((a).put (none) (undef)).put (none) (undef)) (by kernel_rfl) (by kernel_rfl) (by kernel_rfl) (fun _ => rfl) [] (by kernel_rfl) (fills_lt2 (by omega) (by omega)) (fills_ne2 (by omega))
          · intro x D hD
            have hne := hD.some
            have k0 := liftS hD a0 (by exact early_one (by first | assumption | omega) (by omega))
            have k1 := liftS hD a1 (by exact early_one (by first | assumption | omega) (by omega))
            simp only [takeOps, Act.put, List.setIfInBounds_toArray, List.set_cons_succ, List.set_cons_zero]
            repeat (go_big_quiet_step (fail))
            exact wpQuiet_nil rfl
          · intro x D hD
            have hne := hD.some
            simp only [takeOps, Act.put, List.setIfInBounds_toArray, List.set_cons_succ, List.set_cons_zero]
            repeat (go_big_quiet_step (fail))
            exact wpQuiet_nil rfl
          · exact fun _ h => absurd h (by simp)
          · refine ⟨?_, ?_, trivial⟩
            · exact obl_fill 35 35 2 39 w.heap.size _ (fun x => #[.int .i64 0, .int .i64 0]) (by kernel_rfl) (fun _ => rfl) (fun _ => rfl) Hbo.out (eb_fill2 (by omega)).1 (by simp [wrF]) (fun _ => by kernel_rfl) (fun _ => rfl) (fun _ => by simp [Value.oneCell']) (fun _ => rfl) (fun _ _ _ _ h1 h2 => ⟨h1, h2⟩)
            · exact obl_fill 45 45 3 40 (w.heap.size+1) _ (fun x => #[.int .i64 0, .int .i64 0]) (by kernel_rfl) (fun _ => rfl) (fun _ => rfl) Hba.out (eb_fill2 (by omega)).2 (by simp [wrF]) (fun _ => by kernel_rfl) (fun _ => rfl) (fun _ => by simp [Value.oneCell']) (fun _ => rfl) (fun _ _ _ _ h1 h2 => ⟨h1, h2⟩)
          · refine ⟨?_, ?_, trivial⟩
            · exact owe_fill w.heap.size 35 (fun x => #[.int .i64 0, .int .i64 0]) (fun _ _ _ => rfl) (fun _ _ _ => rfl)
            · exact owe_fill (w.heap.size+1) 45 (fun x => #[.int .i64 0, .int .i64 0]) (fun _ _ _ => rfl) (fun _ _ _ => rfl)
          intro xr wr2 F hKr hlv3
          obtain ⟨fct2, fct3, -⟩ := hlv3
          replace fct2 : (F 2) w.heap.size ∧ Blk wr2 w.heap.size 35 #[.int .i64 0, .int .i64 0] := fct2 rfl
          replace fct3 : (F 3) (w.heap.size+1) ∧ Blk wr2 (w.heap.size+1) 45 #[.int .i64 0, .int .i64 0] := fct3 rfl
          have hbr := below_kept HB.out HB.out.size hKr (by simp)
          have bo2 := fct2.2
          have ba2 := fct3.2
          obtain ⟨e0, e1⟩ := bo2.c2
          obtain ⟨v0, v1⟩ := ba2.c2
          have HBr := hide hbr
          clear hbr hKr fct2 fct3 bo2 ba2
          go_wp2
          rw [Exit.noGoto_ret]
          refine bodyPost_ret (v := adjV r) (by rw [HR2.out]; simp [adjV, results, Try.results14, go_sem, e0, e1, v0, v1]) rfl ⟨rfl, HBr.out⟩
      · have g3 : ins z0 z1 2147483648 = false := by simpa using g1
        clear g1
        go_wp2_with fail
        refine at_world fun W hW => ?_
        have br : Blk W wr.heap.size 58 #[.int .i64 z0, .int .i64 z1, .int .i64 z2, .int .i64 z3] := by rw [hW]; exact Blk.new _ _ _
        have LW : Later wr W := by rw [hW]; exact (Below.refl _ _).alloc (Nat.le_refl _) _
        clear hW c0 c1 c2 c3
        refine (inside_anyR _ _ _ _).mono ?_
        rintro e w1 ⟨rfl, hb1⟩
        have L1 := LW.trans hb1
        replace HB := hide (onward HB.out L1)
        replace Hbo := hide (blk_later Hbo.out L1)
        replace Hba := hide (blk_later Hba.out L1)
        have Hbr := hide (blk_later br hb1)
        clear L1 LW br hb1
        have hbad : ((List.range n).all (okZ z)) = false := List.all_eq_false.2 ⟨k, List.mem_range.2 hlt, by rw [Hk2.out]; simp [g3]⟩
        have hr := HR.out
        rw [if_pos hbad] at hr
        have HR2 := hide hr
        clear hr HR hbad Hc Hmeet Hall Hk2 Hl Hz
        obtain ⟨a0, a1⟩ := Hba.out.c2
        have lto := Hbo.out.lt
        have lta := Hba.out.lt
        go_wp2_with fail
        apply wp_region_F (w0 := w1) [[], [], [0], [0, 1, 2], [0, 1, 2, 3]] [true, true, false, false, false] [false, false, false, false, true] [⟨2, none, [], []⟩, ⟨3, none, [], []⟩] [(2, w.heap.size), (3, (w.heap.size+1))] [3] (fun ixq y => match ixq with | 2 => undef | 3 => undef | _ => undef) (fun ixq x F wq => match ixq with | 2 => F w.heap.size ∧ Blk wq w.heap.size 35 #[.int .i64 0, .int .i64 0] | 3 => F (w.heap.size+1) ∧ Blk wq (w.heap.size+1) 45 #[.int .i64 0, .int .i64 0] | _ => True) (fun a x => ((a).put (none) (undef)).put (none) (undef)) (by kernel_rfl) (by kernel_rfl) (by kernel_rfl) (fun _ => rfl) [] (by kernel_rfl) (fills_lt2 (by omega) (by omega)) (fills_ne2 (by omega))
        · intro x D hD
          have hne := hD.some
          have k0 := liftS hD a0 (by exact early_one (by first | assumption | omega) (by omega))
          have k1 := liftS hD a1 (by exact early_one (by first | assumption | omega) (by omega))
          simp only [takeOps, Act.put, List.setIfInBounds_toArray, List.set_cons_succ, List.set_cons_zero]
          repeat (go_big_quiet_step (fail))
          exact wpQuiet_nil rfl
        · intro x D hD
          have hne := hD.some
          simp only [takeOps, Act.put, List.setIfInBounds_toArray, List.set_cons_succ, List.set_cons_zero]
          repeat (go_big_quiet_step (fail))
          exact wpQuiet_nil rfl
        · exact fun _ h => absurd h (by simp)
        · refine ⟨?_, ?_, trivial⟩
          · exact obl_fill 35 35 2 39 w.heap.size _ (fun x => #[.int .i64 0, .int .i64 0]) (by kernel_rfl) (fun _ => rfl) (fun _ => rfl) Hbo.out (eb_fill2 (by omega)).1 (by simp [wrF]) (fun _ => by kernel_rfl) (fun _ => rfl) (fun _ => by simp [Value.oneCell']) (fun _ => rfl) (fun _ _ _ _ h1 h2 => ⟨h1, h2⟩)
          · exact obl_fill 45 45 3 40 (w.heap.size+1) _ (fun x => #[.int .i64 0, .int .i64 0]) (by kernel_rfl) (fun _ => rfl) (fun _ => rfl) Hba.out (eb_fill2 (by omega)).2 (by simp [wrF]) (fun _ => by kernel_rfl) (fun _ => rfl) (fun _ => by simp [Value.oneCell']) (fun _ => rfl) (fun _ _ _ _ h1 h2 => ⟨h1, h2⟩)
        · refine ⟨?_, ?_, trivial⟩
          · exact owe_fill w.heap.size 35 (fun x => #[.int .i64 0, .int .i64 0]) (fun _ _ _ => rfl) (fun _ _ _ => rfl)
          · exact owe_fill (w.heap.size+1) 45 (fun x => #[.int .i64 0, .int .i64 0]) (fun _ _ _ => rfl) (fun _ _ _ => rfl)
        intro xr wr2 F hKr hlv4
        obtain ⟨fct2, fct3, -⟩ := hlv4
        replace fct2 : (F 2) w.heap.size ∧ Blk wr2 w.heap.size 35 #[.int .i64 0, .int .i64 0] := fct2 rfl
        replace fct3 : (F 3) (w.heap.size+1) ∧ Blk wr2 (w.heap.size+1) 45 #[.int .i64 0, .int .i64 0] := fct3 rfl
        have hbr := below_kept HB.out HB.out.size hKr (by simp)
        have bo2 := fct2.2
        have ba2 := fct3.2
        obtain ⟨e0, e1⟩ := bo2.c2
        obtain ⟨v0, v1⟩ := ba2.c2
        have HBr := hide hbr
        clear hbr hKr fct2 fct3 bo2 ba2
        go_wp2
        rw [Exit.noGoto_ret]
        refine bodyPost_ret (v := adjV r) (by rw [HR2.out]; simp [adjV, results, Try.results14, go_sem, e0, e1, v0, v1]) rfl ⟨rfl, HBr.out⟩
    · obtain rfl : k = n := by omega
      have hal : ((List.range k).all (okZ z)) = true := List.all_eq_true.2 fun j hj => Hall.out j (List.mem_range.1 hj)
      have hr := HR.out
      rw [if_neg (by rw [hal]; simp)] at hr
      have HR2 := hide hr
      have HM := hide (Hmeet.out wr Hall.out ((Hl.out.below HB.out).more hsz))
      clear hal hr HR Hmeet
      have ltb : w.heap.size + 1 < wr.heap.size := Hba.out.lt
      go_wp2_with fail
      refine HM.out.mono ?_
      rintro e w1 ⟨rfl, hb1⟩
      replace HB := hide (onward HB.out hb1)
      replace Hbo := hide (blk_later Hbo.out hb1)
      replace Hba := hide (blk_later Hba.out hb1)
      unfold meetK
      generalize hM : meetG (scZ z) (1, 100000) k = m at *
      obtain ⟨m1, m2⟩ := m
      simp only at HR2
      have ltb1 : w.heap.size + 1 < w1.heap.size := Hba.out.lt
      clear hb1 hM HM ltb
      unfold spanV
      simp only
      by_cases hle : m1 ≤ m2
      · have hr := HR2.out
        rw [if_pos hle] at hr
        have HR3 := hide hr
        clear hr HR2 Hall Hc Hl Hz
        go_wp2_with fail
        refine code_world fun W hW => ?_
        have b7 : Blk W w1.heap.size 35 #[.int .i64 m1, .int .i64 m2] := by rw [hW]; exact Blk.new _ _ _
        have LW : Later w1 W := by rw [hW]; exact (Below.refl _ _).alloc (Nat.le_refl _) _
        clear hW
        replace HB := hide (onward HB.out LW)
        replace Hbo := hide (blk_later Hbo.out LW)
        replace Hba := hide (blk_later Hba.out LW)
        obtain ⟨a0, a1⟩ := Hba.out.c2
        obtain ⟨d0, d1⟩ := b7.c2
        have lto := Hbo.out.lt
        have lta := Hba.out.lt
        have lt7 := b7.lt
        clear LW b7
        apply wp_region_F (w0 := W) [[], [], [0], [0, 1, 2], [0, 1, 2, 3]] [true, true, false, false, false] [false, false, false, false, true] [⟨2, none, [], []⟩, ⟨3, none, [], []⟩] [(2, w.heap.size), (3, (w.heap.size+1))] [3] (fun ixq y => match ixq with | 2 => undef | 3 => undef | _ => undef) (fun ixq x F wq => match ixq with | 2 => F w.heap.size ∧ Blk wq w.heap.size 35 #[.int .i64 m1, .int .i64 m2] | 3 => F (w.heap.size+1) ∧ Blk wq (w.heap.size+1) 45 #[.int .i64 0, .int .i64 0] | _ => True) (fun a x => ((a).put (none) (undef)).put (none) (undef)) (by kernel_rfl) (by kernel_rfl) (by kernel_rfl) (fun _ => rfl) [] (by kernel_rfl) (fills_lt2 (by omega) (by omega)) (fills_ne2 (by omega))
        · intro x D hD
          have hne := hD.some
          have k0 := liftS hD a0 (by exact early_one (by first | assumption | omega) (by omega))
          have k1 := liftS hD a1 (by exact early_one (by first | assumption | omega) (by omega))
          have k2 := liftS hD d0 (by exact early_one (by first | assumption | omega) (by omega))
          have k3 := liftS hD d1 (by exact early_one (by first | assumption | omega) (by omega))
          simp only [takeOps, Act.put, List.setIfInBounds_toArray, List.set_cons_succ, List.set_cons_zero]
          repeat (go_big_quiet_step (fail))
          exact wpQuiet_nil rfl
        · intro x D hD
          have hne := hD.some
          have k2 := liftS hD d0 (by exact ⟨by first | assumption | omega, free2 (by omega) (by omega)⟩)
          have k3 := liftS hD d1 (by exact ⟨by first | assumption | omega, free2 (by omega) (by omega)⟩)
          simp only [takeOps, Act.put, List.setIfInBounds_toArray, List.set_cons_succ, List.set_cons_zero]
          repeat (go_big_quiet_step (fail))
          exact wpQuiet_nil rfl
        · exact fun _ h => absurd h (by simp)
        · refine ⟨?_, ?_, trivial⟩
          · exact obl_fill 35 35 2 50 w.heap.size _ (fun x => #[.int .i64 m1, .int .i64 m2]) (by kernel_rfl) (fun _ => rfl) (fun _ => rfl) Hbo.out (eb_fill2 (by omega)).1 (by simp [wrF]) (fun _ => by kernel_rfl) (fun _ => rfl) (fun _ => by simp [Value.oneCell']) (fun _ => rfl) (fun _ _ _ _ h1 h2 => ⟨h1, h2⟩)
          · exact obl_fill 45 45 3 51 (w.heap.size+1) _ (fun x => #[.int .i64 0, .int .i64 0]) (by kernel_rfl) (fun _ => rfl) (fun _ => rfl) Hba.out (eb_fill2 (by omega)).2 (by simp [wrF]) (fun _ => by kernel_rfl) (fun _ => rfl) (fun _ => by simp [Value.oneCell']) (fun _ => rfl) (fun _ _ _ _ h1 h2 => ⟨h1, h2⟩)
        · refine ⟨?_, ?_, trivial⟩
          · exact owe_fill w.heap.size 35 (fun x => #[.int .i64 m1, .int .i64 m2]) (fun _ _ _ => rfl) (fun _ _ _ => rfl)
          · exact owe_fill (w.heap.size+1) 45 (fun x => #[.int .i64 0, .int .i64 0]) (fun _ _ _ => rfl) (fun _ _ _ => rfl)
        intro xr wr2 F hKr hlv5
        obtain ⟨fct2, fct3, -⟩ := hlv5
        replace fct2 : (F 2) w.heap.size ∧ Blk wr2 w.heap.size 35 #[.int .i64 m1, .int .i64 m2] := fct2 rfl
        replace fct3 : (F 3) (w.heap.size+1) ∧ Blk wr2 (w.heap.size+1) 45 #[.int .i64 0, .int .i64 0] := fct3 rfl
        have hbr := below_kept HB.out HB.out.size hKr (by simp)
        have bo2 := fct2.2
        have ba2 := fct3.2
        obtain ⟨e0, e1⟩ := bo2.c2
        obtain ⟨v0, v1⟩ := ba2.c2
        have HBr := hide hbr
        clear hbr hKr fct2 fct3 bo2 ba2
        go_wp2
        rw [Exit.noGoto_ret]
        refine bodyPost_ret (v := adjV r) (by rw [HR3.out]; simp [adjV, results, Try.results14, go_sem, e0, e1, v0, v1]) rfl ⟨rfl, HBr.out⟩
      · have hr := HR2.out
        rw [if_neg hle] at hr
        have HR3 := hide hr
        clear hr HR2
        have hle2 : decide (m1 ≤ m2) = false := decide_eq_false hle
        go_wp2_with fail
        go_step3
        go_wp2_with fail
        go_loopw [54] (fun i wr' => ∃ k' : Nat, k' ≤ k ∧ i = .int .i64 k' ∧ Below w.heap.size w wr' ∧ Blk wr' w.heap.size 35 #[.int .i64 0, .int .i64 0] ∧ Blk wr' (w.heap.size + 1) 45 #[.int .i64 0, .int .i64 0] ∧ findFR (conf (scZ z)) k k' (k - k') = findFR (conf (scZ z)) k 0 k)
          (fun i _ => k - (intOf i).toNat)
        case atStart => exact ⟨0, by omega, rfl, HB.out.alloc (by omega) _, Hbo.out.alloc _, Hba.out.alloc _, rfl⟩
        case round =>
          obtain ⟨i, hi, rfl, hbw, hbo, hba, hfi⟩ := hrel
          have HB2 := hide hbw
          have Hbo2 := hide hbo
          have Hba2 := hide hba
          have Hfi := hide hfi
          have hsz2 := hbw.size
          have ltb2 : w.heap.size + 1 < wr.heap.size := hba.lt
          clear hbw hbo hba hfi
          by_cases hik : i < k
          · go_wp2_with fail
            go_loopw [9] (fun jj wr' => ∃ j : Nat, i ≤ j ∧ j ≤ k ∧ jj = .int .i64 j ∧ Below w.heap.size w wr' ∧ Blk wr' w.heap.size 35 #[.int .i64 0, .int .i64 0] ∧ Blk wr' (w.heap.size + 1) 45 #[.int .i64 0, .int .i64 0] ∧ rowFR (conf (scZ z)) i j (k - j) = rowFR (conf (scZ z)) i i (k - i))
              (fun jj _ => k - (intOf jj).toNat)
            case atStart => exact ⟨i, by omega, by omega, rfl, HB2.out, Hbo2.out, Hba2.out, rfl⟩
            case round =>
              obtain ⟨j, hij, hjk, rfl, hbw, hbo, hba, hro⟩ := hrel
              have HB3 := hide hbw
              have Hbo3 := hide hbo
              have Hba3 := hide hba
              have Hro := hide hro
              have hsz3 := hbw.size
              have hbr3 : b < wr.heap.size := by omega
              have ltb3 : w.heap.size + 1 < wr.heap.size := hba.lt
              clear hbw hbo hba hro
              by_cases hjn : j < k
              · obtain ⟨s1, s2, hs12⟩ : ∃ s1 s2, scZ z i = (s1, s2) := ⟨_, _, rfl⟩
                have hsi : ∀ W, Calls Try.prog 35 #[.agg #[.int .i64 (z (i * 4)), .int .i64 (z (i * 4 + 1)), .int .i64 (z (i * 4 + 2)), .int .i64 (z (i * 4 + 3))]] W fun e w' => e = .returned (.agg #[.int .i64 s1, .int .i64 s2]) ∧ Below W.heap.size W w' := fun W => by
                  have := scales_any (z (i * 4)) (z (i * 4 + 1)) (z (i * 4 + 2)) (z (i * 4 + 3)) W (Hall.out i hik)
                  have e1 : scS (z (i * 4)) (z (i * 4 + 1)) (z (i * 4 + 2)) (z (i * 4 + 3)) = (s1, s2) := hs12
                  rw [e1] at this
                  exact this
                obtain ⟨q1, q2, hq12⟩ : ∃ q1 q2, meetS (s1, s2) (scZ z j) = (q1, q2) := ⟨_, _, rfl⟩
                have hme : ∀ W, Ints W W.heap.size .i64 (some ⟨b, off + j * 4, none⟩) [z (j * 4), z (j * 4 + 1), z (j * 4 + 2), z (j * 4 + 3)] → Calls Try.prog 34 #[.agg #[.int .i64 s1, .int .i64 s2], .slice (some ⟨b, off + j * 4, none⟩) 1 (c - j), .func (.func 35) #[] #[]] W fun e w' => e = .returned (.agg #[.int .i64 q1, .int .i64 q2]) ∧ Below W.heap.size W w' := fun W hI => by
                  have := meet_any s1 s2 _ 1 (c - j) [z (j * 4), z (j * 4 + 1), z (j * 4 + 2), z (j * 4 + 3)] W rfl (by decide) (fun q hq => by
                    obtain rfl : q = 0 := by omega
                    exact Hall.out j hjn) hI
                  have e1 : meetK (fun x => [z (j * 4), z (j * 4 + 1), z (j * 4 + 2), z (j * 4 + 3)].getD x 0) (s1, s2) 1 = (q1, q2) := hq12
                  rw [e1] at this
                  exact this
                have Hsi := hide hsi
                have Hme := hide hme
                have Hs12 := hide hs12
                have Hq12 := hide hq12
                obtain ⟨p0, p1, p2, p3⟩ := Hc.out i (by omega)
                obtain ⟨d0, d1, d2, d3⟩ := Hc.out j hjn
                rw [← HB3.out.cell hb] at p0 p1 p2 p3 d0 d1 d2 d3
                have hI : Ints wr wr.heap.size .i64 (some ⟨b, off + j * 4, none⟩) [z (j * 4), z (j * 4 + 1), z (j * 4 + 2), z (j * 4 + 3)] := fun _ => ⟨b, off + j * 4, rfl, hbr3, fun q hq => by
                  have : q = 0 ∨ q = 1 ∨ q = 2 ∨ q = 3 := by simp at hq; omega
                  rcases this with rfl | rfl | rfl | rfl
                  · exact d0
                  · exact d1
                  · exact d2
                  · exact d3⟩
                have HI := hide hI
                have hjc : (j : Int) + 1 ≤ c := by omega
                have hjc0 : (0 : Int) ≤ j := by omega
                clear hsi hme hs12 hq12 d0 d1 d2 d3 hI
                go_wp2_with fail
                apply wp_region_L (w0 := wr) [[], [], [], [], [], [], [], [], [], [], [], [], [11]] [true, true, true, true, true, true, true, true, true, true, true, false, false] [⟨11, none, [], []⟩, ⟨12, some 11, [11], [11]⟩] (fun ixq y => match ixq with | 11 => .pointer (y 0).1 | 12 => undef | _ => undef) (fun ixq x F wq => match ixq with | 11 => PtrF wq F wr.heap.size (x 11 0).1 35 #[.int .i64 0, .int .i64 0] | 12 => PtrF wq F wr.heap.size (x 11 0).1 35 #[.int .i64 q1, .int .i64 q2] | _ => True) (fun a x => ((a).put (some 10) (.pointer ((x 11) 0).1)).put (none) (undef)) (by kernel_rfl) (by kernel_rfl) (fun _ => rfl) [68, 74] (by kernel_rfl)
                · intro x D hD
                  have hne := hD.some
                  have k0 := liftB hD p0 (by first | assumption | omega)
                  have k1 := liftB hD p1 (by first | assumption | omega)
                  have k2 := liftB hD p2 (by first | assumption | omega)
                  have k3 := liftB hD p3 (by first | assumption | omega)
                  simp only [takeOps, Act.put, List.setIfInBounds_toArray, List.set_cons_succ, List.set_cons_zero]
                  repeat (go_big_quiet_step ((first | (go_at_call 35; exact calls_later hD _ (Hsi.out _)) | (go_at_call 34; exact calls_later hD _ (Hme.out _ ((HI.out.below (kb hD _)).more (kb hD _).size))))))
                  exact wpQuiet_nil rfl
                · intro d hd x x'
                  simp only [List.mem_cons, List.not_mem_nil, or_false] at hd
                  rcases hd with rfl | rfl
                  all_goals rfl
                · refine ⟨?_, ?_, trivial⟩
                  · exact obl_alloc 35 10 (.agg #[.int .i64 0, .int .i64 0]) (by kernel_rfl) (by kernel_rfl) (fun _ => rfl) (fun _ _ _ h => h)
                  · refine obl_store 35 10 74 11 #[.int .i64 0, .int .i64 0] (fun x => #[.int .i64 q1, .int .i64 q2]) (by kernel_rfl) rfl (by simp) (fun _ _ _ h => h) (fun _ => rfl) (fun _ => rfl) (fun _ => by kernel_rfl) (fun _ => rfl) (fun _ => by simp [Value.oneCell']) (fun _ => rfl) (by decide) (fun _ _ _ _ h => h)
                · refine ⟨?_, ?_, trivial⟩
                  · exact owe_ptr 11 _ _ (fun x => #[.int .i64 0, .int .i64 0]) (fun _ _ _ => rfl) (by simp) (fun _ _ _ => rfl)
                  · exact owe_ptr 11 _ _ (fun x => #[.int .i64 q1, .int .i64 q2]) (fun _ _ _ => rfl) (by simp) (fun _ _ _ => rfl)
                intro xx w3 F hL3 hlv6
                obtain ⟨-, fct12, -⟩ := hlv6
                replace fct12 : PtrF w3 (F 12) wr.heap.size (xx 11 0).1 35 #[.int .i64 q1, .int .i64 q2] := fct12 rfl
                obtain ⟨g, hgx, hge, -, hbg⟩ := fct12
                rw [hgx]
                have HB4 := hide (onward HB3.out hL3)
                have Hbo4 := hide (blk_later Hbo3.out hL3)
                have Hba4 := hide (blk_later Hba3.out hL3)
                have Hbg := hide hbg
                obtain ⟨x0, x1⟩ := hbg.c2
                have ltg := hbg.lt
                have ltb4 : w.heap.size + 1 < w3.heap.size := Hba4.out.lt
                clear hgx hbg hL3 p0 p1 p2 p3 Hsi Hme HI
                by_cases hcf : q2 < q1
                · have hcf2 : conf (scZ z) i j = true := by
                    unfold conf
                    rw [Hs12.out, Hq12.out]
                    exact decide_eq_true hcf
                  have hrow := row_hitR (cf := conf (scZ z)) hjn hcf2
                  rw [Hro.out] at hrow
                  have hfd := find_hitR (cf := conf (scZ z)) hik hrow
                  rw [Hfi.out] at hfd
                  have hr := HR3.out
                  rw [hfd] at hr
                  have HR4 := hide (show r = (((0, 0), ((i : Int), (j : Int))), 14) from hr)
                  have hc3 : decide (q2 < q1) = true := decide_eq_true hcf
                  clear hcf2 hrow hfd hr HR3
                  obtain ⟨a0, a1⟩ := Hba4.out.c2
                  have f0 := Hba4.out.frozen 0
                  have f1 := Hba4.out.frozen 1
                  go_wp2_with fail
                  refine code_world fun W hW => ?_
                  have hba5 : Blk W (w.heap.size + 1) 45 #[.int .i64 (i : Int), .int .i64 (j : Int)] := by rw [hW]; exact blk_eq ((Hba4.out.set_ 0 (.int .i64 (i : Int))).set_ 1 (.int .i64 (j : Int))) (by simp)
                  have hbo5 : Blk W w.heap.size 35 #[.int .i64 0, .int .i64 0] := by rw [hW]; exact (Hbo4.out.far (by simp) _).far (by simp) _
                  have hb5 : Below w.heap.size w W := by
                    rw [hW]
                    repeat (first | exact HB4.out | (refine Below.setCell ?_ (by first | omega | (simp; done) | (simp; omega)) _) | (refine Below.alloc ?_ (by first | omega | (simp; done) | (simp; omega)) _) | (refine below_drewN ?_ _))
                  clear hW a0 a1 f0 f1 x0 x1 HB
                  have Hbo := hide hbo5
                  have Hba := hide hba5
                  have HB := hide hb5
                  obtain ⟨a0, a1⟩ := hba5.c2
                  have lto := hbo5.lt
                  have lta := hba5.lt
                  clear hba5 hbo5 hb5
                  apply wp_region_F (w0 := W) [[], [], [0], [0, 1, 2], [0, 1, 2, 3]] [true, true, false, false, false] [false, false, false, false, true] [⟨2, none, [], []⟩, ⟨3, none, [], []⟩] [(2, w.heap.size), (3, (w.heap.size+1))] [3] (fun ixq y => match ixq with | 2 => undef | 3 => undef | _ => undef) (fun ixq x F wq => match ixq with | 2 => F w.heap.size ∧ Blk wq w.heap.size 35 #[.int .i64 0, .int .i64 0] | 3 => F (w.heap.size+1) ∧ Blk wq (w.heap.size+1) 45 #[.int .i64 (i : Int), .int .i64 (j : Int)] | _ => True) (fun a x => ((a).put (none) (undef)).put (none) (undef)) (by kernel_rfl) (by kernel_rfl) (by kernel_rfl) (fun _ => rfl) [] (by kernel_rfl) (fills_lt2 (by omega) (by omega)) (fills_ne2 (by omega))
                  · intro x D hD
                    have hne := hD.some
                    have k0 := liftS hD a0 (by exact early_one (by first | assumption | omega) (by omega))
                    have k1 := liftS hD a1 (by exact early_one (by first | assumption | omega) (by omega))
                    simp only [takeOps, Act.put, List.setIfInBounds_toArray, List.set_cons_succ, List.set_cons_zero]
                    repeat (go_big_quiet_step (fail))
                    exact wpQuiet_nil rfl
                  · intro x D hD
                    have hne := hD.some
                    simp only [takeOps, Act.put, List.setIfInBounds_toArray, List.set_cons_succ, List.set_cons_zero]
                    repeat (go_big_quiet_step (fail))
                    exact wpQuiet_nil rfl
                  · exact fun _ h => absurd h (by simp)
                  · refine ⟨?_, ?_, trivial⟩
                    · exact obl_fill 35 35 2 84 w.heap.size _ (fun x => #[.int .i64 0, .int .i64 0]) (by kernel_rfl) (fun _ => rfl) (fun _ => rfl) Hbo.out (eb_fill2 (by omega)).1 (by simp [wrF]) (fun _ => by kernel_rfl) (fun _ => rfl) (fun _ => by simp [Value.oneCell']) (fun _ => rfl) (fun _ _ _ _ h1 h2 => ⟨h1, h2⟩)
                    · exact obl_fill 45 45 3 85 (w.heap.size+1) _ (fun x => #[.int .i64 (i : Int), .int .i64 (j : Int)]) (by kernel_rfl) (fun _ => rfl) (fun _ => rfl) Hba.out (eb_fill2 (by omega)).2 (by simp [wrF]) (fun _ => by kernel_rfl) (fun _ => rfl) (fun _ => by simp [Value.oneCell']) (fun _ => rfl) (fun _ _ _ _ h1 h2 => ⟨h1, h2⟩)
                  · refine ⟨?_, ?_, trivial⟩
                    · exact owe_fill w.heap.size 35 (fun x => #[.int .i64 0, .int .i64 0]) (fun _ _ _ => rfl) (fun _ _ _ => rfl)
                    · exact owe_fill (w.heap.size+1) 45 (fun x => #[.int .i64 (i : Int), .int .i64 (j : Int)]) (fun _ _ _ => rfl) (fun _ _ _ => rfl)
                  intro xr wr2 F hKr hlv7
                  obtain ⟨fct2, fct3, -⟩ := hlv7
                  replace fct2 : (F 2) w.heap.size ∧ Blk wr2 w.heap.size 35 #[.int .i64 0, .int .i64 0] := fct2 rfl
                  replace fct3 : (F 3) (w.heap.size+1) ∧ Blk wr2 (w.heap.size+1) 45 #[.int .i64 (i : Int), .int .i64 (j : Int)] := fct3 rfl
                  have hbr := below_kept HB.out HB.out.size hKr (by simp)
                  have bo2 := fct2.2
                  have ba2 := fct3.2
                  obtain ⟨e0, e1⟩ := bo2.c2
                  obtain ⟨v0, v1⟩ := ba2.c2
                  have HBr := hide hbr
                  clear hbr hKr fct2 fct3 bo2 ba2
                  go_wp2
                  rw [Exit.noGoto_ret]
                  refine bodyPost_ret (v := adjV r) (by rw [HR4.out]; simp [adjV, results, Try.results14, go_sem, e0, e1, v0, v1]) rfl ⟨rfl, HBr.out⟩
                · have hcf2 : conf (scZ z) i j = false := by
                    unfold conf
                    rw [Hs12.out, Hq12.out]
                    exact decide_eq_false hcf
                  have Hmi := hide (row_missR (cf := conf (scZ z)) hjn hcf2)
                  clear hcf2
                  have hc3 : decide (q2 < q1) = false := decide_eq_false hcf
                  go_wp2
                  go_roundw
                  case rel => exact ⟨j + 1, by omega, by omega, by go_num, HB4.out, Hbo4.out, Hba4.out, by rw [← Hmi.out, Hro.out]⟩
                  case measure => simp [intOf] <;> omega
              · obtain rfl : j = k := by omega
                have hro := Hro.out
                rw [Nat.sub_self, rowFR] at hro
                have Hmi := hide (find_missR (cf := conf (scZ z)) hik hro.symm)
                clear hro
                go_wp2
                go_roundw
                case rel => exact ⟨i + 1, by omega, by go_num, HB3.out, Hbo3.out, Hba3.out, by rw [← Hmi.out, Hfi.out]⟩
                case measure => simp [intOf] <;> omega
          · obtain rfl : i = k := by omega
            have hfi := Hfi.out
            rw [Nat.sub_self, findFR] at hfi
            have hr := HR3.out
            rw [← hfi] at hr
            have HR4 := hide (show r = (((0, 0), (0, 0)), 14) from hr)
            clear hr hfi HR3
            have HB := HB2
            have Hbo := Hbo2
            have Hba := Hba2
            obtain ⟨a0, a1⟩ := Hba.out.c2
            have lto := Hbo.out.lt
            have lta := Hba.out.lt
            go_wp2_with fail
            apply wp_region_F (w0 := wr) [[], [], [0], [0, 1, 2], [0, 1, 2, 3]] [true, true, false, false, false] [false, false, false, false, true] [⟨2, none, [], []⟩, ⟨3, none, [], []⟩] [(2, w.heap.size), (3, (w.heap.size+1))] [3] (fun ixq y => match ixq with | 2 => undef | 3 => undef | _ => undef) (fun ixq x F wq => match ixq with | 2 => F w.heap.size ∧ Blk wq w.heap.size 35 #[.int .i64 0, .int .i64 0] | 3 => F (w.heap.size+1) ∧ Blk wq (w.heap.size+1) 45 #[.int .i64 0, .int .i64 0] | _ => True) (fun a x => ((a).put (none) (undef)).put (none) (undef)) (by kernel_rfl) (by kernel_rfl) (by kernel_rfl) (fun _ => rfl) [] (by kernel_rfl) (fills_lt2 (by omega) (by omega)) (fills_ne2 (by omega))
            · intro x D hD
              have hne := hD.some
              have k0 := liftS hD a0 (by exact early_one (by first | assumption | omega) (by omega))
              have k1 := liftS hD a1 (by exact early_one (by first | assumption | omega) (by omega))
              simp only [takeOps, Act.put, List.setIfInBounds_toArray, List.set_cons_succ, List.set_cons_zero]
              repeat (go_big_quiet_step (fail))
              exact wpQuiet_nil rfl
            · intro x D hD
              have hne := hD.some
              simp only [takeOps, Act.put, List.setIfInBounds_toArray, List.set_cons_succ, List.set_cons_zero]
              repeat (go_big_quiet_step (fail))
              exact wpQuiet_nil rfl
            · exact fun _ h => absurd h (by simp)
            · refine ⟨?_, ?_, trivial⟩
              · exact obl_fill 35 35 2 84 w.heap.size _ (fun x => #[.int .i64 0, .int .i64 0]) (by kernel_rfl) (fun _ => rfl) (fun _ => rfl) Hbo.out (eb_fill2 (by omega)).1 (by simp [wrF]) (fun _ => by kernel_rfl) (fun _ => rfl) (fun _ => by simp [Value.oneCell']) (fun _ => rfl) (fun _ _ _ _ h1 h2 => ⟨h1, h2⟩)
              · exact obl_fill 45 45 3 85 (w.heap.size+1) _ (fun x => #[.int .i64 0, .int .i64 0]) (by kernel_rfl) (fun _ => rfl) (fun _ => rfl) Hba.out (eb_fill2 (by omega)).2 (by simp [wrF]) (fun _ => by kernel_rfl) (fun _ => rfl) (fun _ => by simp [Value.oneCell']) (fun _ => rfl) (fun _ _ _ _ h1 h2 => ⟨h1, h2⟩)
            · refine ⟨?_, ?_, trivial⟩
              · exact owe_fill w.heap.size 35 (fun x => #[.int .i64 0, .int .i64 0]) (fun _ _ _ => rfl) (fun _ _ _ => rfl)
              · exact owe_fill (w.heap.size+1) 45 (fun x => #[.int .i64 0, .int .i64 0]) (fun _ _ _ => rfl) (fun _ _ _ => rfl)
            intro xr wr2 F hKr hlv8
            obtain ⟨fct2, fct3, -⟩ := hlv8
            replace fct2 : (F 2) w.heap.size ∧ Blk wr2 w.heap.size 35 #[.int .i64 0, .int .i64 0] := fct2 rfl
            replace fct3 : (F 3) (w.heap.size+1) ∧ Blk wr2 (w.heap.size+1) 45 #[.int .i64 0, .int .i64 0] := fct3 rfl
            have hbr := below_kept HB.out HB.out.size hKr (by simp)
            have bo2 := fct2.2
            have ba2 := fct3.2
            obtain ⟨e0, e1⟩ := bo2.c2
            obtain ⟨v0, v1⟩ := ba2.c2
            have HBr := hide hbr
            clear hbr hKr fct2 fct3 bo2 ba2
            go_wp2
            rw [Exit.noGoto_ret]
            refine bodyPost_ret (v := adjV r) (by rw [HR4.out]; simp [adjV, results, Try.results14, go_sem, e0, e1, v0, v1]) rfl ⟨rfl, HBr.out⟩
end Go.Proofs.Ytjkelpelmljanaa
