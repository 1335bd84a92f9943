/-
  radomeref05.Adjust: the contract.
-/
import Derived.Test.YtmglgahagbfbkaaMeet
import Derived.Test.YtmglgahagbfbkaaScaleRef
import Derived.Test.YtmglgahagbfbkaaModel
namespace Go.Proofs.Ytmglgahagbfbkaa
open Go.RowKit

set_option maxHeartbeats 4000000 in
set_option maxRecDepth 100000 in
theorem RefAdjust_any (A : Option Addr) (n c : Nat) (zs : List Int) (w : World) (hz : zs.length = n * 4) (hmax : n ≤ 9223372036854775807) (hl : Ints w w.heap.size .i64 A zs) :
    Calls Try.prog 32 #[.slice A n c] w fun e w' => e = .returned (adjV (adjG (okZ (fun j => zs.getD j 0)) (scY (fun j => zs.getD j 0)) n)) ∧ Below w.heap.size w w' := by
  generalize hr : adjG (okZ (fun j => zs.getD j 0)) (scY (fun j => zs.getD j 0)) n = r
  by_cases h0 : n = 0
  · have hR : r = (((0, 0), (0, 0)), 18) := by rw [← hr]; unfold adjG; rw [if_pos h0]
    have HR := hide hR
    subst h0
    clear hR hr
    go_enter Try.func32, Try.ntmps32
    have HB := hide (Below.refl w.heap.size w)
    go_wp2_with fail
    refine code_world fun W hW => ?_
    have bq0 : Blk W w.heap.size 24 #[.int .i64 0, .int .i64 0] := by rw [hW]; exact ((Blk.new _ _ _).alloc _).alloc _
    have bq1 : Blk W (w.heap.size + 1) 72 #[.int .i64 0, .int .i64 0] := by rw [hW]; exact (blk_new_at (by simp)).alloc _
    have bq2 : Blk W (w.heap.size + 2) 72 #[.int .i64 0, .int .i64 0] := by rw [hW]; exact blk_new_at (by simp)
    have LW : Later w W := by rw [hW]; exact ((((Below.refl _ _).alloc (Nat.le_refl _) _).alloc (by simp; try omega) _).alloc (by simp; try omega) _)
    have szW : W.heap.size = w.heap.size + 3 := by rw [hW]; simp
    clear hW
    replace HB := hide (onward HB.out LW)
    have Hbo := hide bq0
    have Hba := hide bq1
    have Hbt := hide bq2
    clear bq0 bq1 bq2 LW szW
    obtain ⟨v0, v1⟩ := Hbt.out.c2
    have ltv := Hbt.out.lt
    have lto := Hbo.out.lt
    have lta := Hba.out.lt
    apply wp_region_F (w0 := W) [[], [], [0], [0, 1, 2], [0, 1, 2, 3]] [true, false, false, false, false] [false, true, false, false, true] [⟨2, none, [], []⟩, ⟨3, none, [], []⟩] [(2, w.heap.size), (3, (w.heap.size+1))] [2, 3] (fun ixq y => match ixq with | 2 => undef | 3 => undef | _ => undef) (fun ixq x F wq => match ixq with | 2 => F w.heap.size ∧ Blk wq w.heap.size 24 #[.int .i64 0, .int .i64 0] | 3 => F (w.heap.size+1) ∧ Blk wq (w.heap.size+1) 72 #[.int .i64 0, .int .i64 0] | _ => True) (fun a x => a) (by kernel_rfl) (by kernel_rfl) (by kernel_rfl) (fun _ => rfl) [] (by kernel_rfl) (fills_lt2 (by omega) (by omega)) (fills_ne2 (by omega))
    · intro x D hD
      have hne := hD.some
      simp only [takeOps, Act.put, List.setIfInBounds_toArray, List.set_cons_succ, List.set_cons_zero]
      repeat (go_big_quiet_step (fail))
      exact wpQuiet_nil rfl
    · intro x D hD
      have hne := hD.some
      have k0 := liftS hD v0 (by exact ⟨by first | assumption | omega, free2 (by omega) (by omega)⟩)
      have k1 := liftS hD v1 (by exact ⟨by first | assumption | omega, free2 (by omega) (by omega)⟩)
      simp only [takeOps, Act.put, List.setIfInBounds_toArray, List.set_cons_succ, List.set_cons_zero]
      repeat (go_big_quiet_step (fail))
      exact wpQuiet_nil rfl
    · exact fun _ h => absurd h (by simp)
    · refine ⟨?_, ?_, trivial⟩
      · exact obl_fill 24 24 2 20 w.heap.size _ (fun x => #[.int .i64 0, .int .i64 0]) (by kernel_rfl) (fun _ => rfl) (fun _ => rfl) Hbo.out (eb_fill2 (by omega)).1 (by simp [wrF]) (fun _ => by kernel_rfl) (fun _ => rfl) (fun _ => by simp [Value.oneCell']) (fun _ => rfl) (fun _ _ _ _ h1 h2 => ⟨h1, h2⟩)
      · exact obl_fill 72 72 3 21 (w.heap.size+1) _ (fun x => #[.int .i64 0, .int .i64 0]) (by kernel_rfl) (fun _ => rfl) (fun _ => rfl) Hba.out (eb_fill2 (by omega)).2 (by simp [wrF]) (fun _ => by kernel_rfl) (fun _ => rfl) (fun _ => by simp [Value.oneCell']) (fun _ => rfl) (fun _ _ _ _ h1 h2 => ⟨h1, h2⟩)
    · refine ⟨?_, ?_, trivial⟩
      · exact owe_fill w.heap.size 24 (fun x => #[.int .i64 0, .int .i64 0]) (fun _ _ _ => rfl) (fun _ _ _ => rfl)
      · exact owe_fill (w.heap.size+1) 72 (fun x => #[.int .i64 0, .int .i64 0]) (fun _ _ _ => rfl) (fun _ _ _ => rfl)
    intro xr wr2 F hKr hlv1
    obtain ⟨fct2, fct3, -⟩ := hlv1
    replace fct2 : (F 2) w.heap.size ∧ Blk wr2 w.heap.size 24 #[.int .i64 0, .int .i64 0] := fct2 rfl
    replace fct3 : (F 3) (w.heap.size+1) ∧ Blk wr2 (w.heap.size+1) 72 #[.int .i64 0, .int .i64 0] := fct3 rfl
    have hbr := below_kept HB.out HB.out.size hKr (by simp)
    have bo2 := fct2.2
    have ba2 := fct3.2
    obtain ⟨e0, e1⟩ := bo2.c2
    obtain ⟨u0, u1⟩ := ba2.c2
    have HBr := hide hbr
    clear hbr hKr fct2 fct3 bo2 ba2
    go_wp2
    refine bodyPost_ret (v := adjV r) (by rw [HR.out]; simp [adjV, results, Try.results32, go_sem, e0, e1, u0, u1]) rfl ⟨rfl, HBr.out⟩
  have hn0 : ((n : Int) == 0) = false := beq_eq_false_iff_ne.2 (by omega)
  by_cases h1 : (100 : Int) < n
  · have hR : r = (((0, 0), (0, 0)), 9) := by rw [← hr]; unfold adjG; rw [if_neg h0, if_pos (by omega)]
    have HR := hide hR
    clear hR hr
    go_enter Try.func32, Try.ntmps32
    have HB := hide (Below.refl w.heap.size w)
    go_wp2_with fail
    refine code_world fun W hW => ?_
    have bq0 : Blk W w.heap.size 24 #[.int .i64 0, .int .i64 0] := by rw [hW]; exact ((Blk.new _ _ _).alloc _).alloc _
    have bq1 : Blk W (w.heap.size + 1) 72 #[.int .i64 0, .int .i64 0] := by rw [hW]; exact (blk_new_at (by simp)).alloc _
    have bq2 : Blk W (w.heap.size + 2) 72 #[.int .i64 0, .int .i64 0] := by rw [hW]; exact blk_new_at (by simp)
    have LW : Later w W := by rw [hW]; exact ((((Below.refl _ _).alloc (Nat.le_refl _) _).alloc (by simp; try omega) _).alloc (by simp; try omega) _)
    have szW : W.heap.size = w.heap.size + 3 := by rw [hW]; simp
    clear hW
    replace HB := hide (onward HB.out LW)
    have Hbo := hide bq0
    have Hba := hide bq1
    have Hbt := hide bq2
    clear bq0 bq1 bq2 LW szW
    obtain ⟨v0, v1⟩ := Hbt.out.c2
    have ltv := Hbt.out.lt
    have lto := Hbo.out.lt
    have lta := Hba.out.lt
    apply wp_region_F (w0 := W) [[], [], [0], [0, 1, 2], [0, 1, 2, 3]] [true, false, false, false, false] [false, true, false, false, true] [⟨2, none, [], []⟩, ⟨3, none, [], []⟩] [(2, w.heap.size), (3, (w.heap.size+1))] [2, 3] (fun ixq y => match ixq with | 2 => undef | 3 => undef | _ => undef) (fun ixq x F wq => match ixq with | 2 => F w.heap.size ∧ Blk wq w.heap.size 24 #[.int .i64 0, .int .i64 0] | 3 => F (w.heap.size+1) ∧ Blk wq (w.heap.size+1) 72 #[.int .i64 0, .int .i64 0] | _ => True) (fun a x => a) (by kernel_rfl) (by kernel_rfl) (by kernel_rfl) (fun _ => rfl) [] (by kernel_rfl) (fills_lt2 (by omega) (by omega)) (fills_ne2 (by omega))
    · intro x D hD
      have hne := hD.some
      simp only [takeOps, Act.put, List.setIfInBounds_toArray, List.set_cons_succ, List.set_cons_zero]
      repeat (go_big_quiet_step (fail))
      exact wpQuiet_nil rfl
    · intro x D hD
      have hne := hD.some
      have k0 := liftS hD v0 (by exact ⟨by first | assumption | omega, free2 (by omega) (by omega)⟩)
      have k1 := liftS hD v1 (by exact ⟨by first | assumption | omega, free2 (by omega) (by omega)⟩)
      simp only [takeOps, Act.put, List.setIfInBounds_toArray, List.set_cons_succ, List.set_cons_zero]
      repeat (go_big_quiet_step (fail))
      exact wpQuiet_nil rfl
    · exact fun _ h => absurd h (by simp)
    · refine ⟨?_, ?_, trivial⟩
      · exact obl_fill 24 24 2 25 w.heap.size _ (fun x => #[.int .i64 0, .int .i64 0]) (by kernel_rfl) (fun _ => rfl) (fun _ => rfl) Hbo.out (eb_fill2 (by omega)).1 (by simp [wrF]) (fun _ => by kernel_rfl) (fun _ => rfl) (fun _ => by simp [Value.oneCell']) (fun _ => rfl) (fun _ _ _ _ h1 h2 => ⟨h1, h2⟩)
      · exact obl_fill 72 72 3 26 (w.heap.size+1) _ (fun x => #[.int .i64 0, .int .i64 0]) (by kernel_rfl) (fun _ => rfl) (fun _ => rfl) Hba.out (eb_fill2 (by omega)).2 (by simp [wrF]) (fun _ => by kernel_rfl) (fun _ => rfl) (fun _ => by simp [Value.oneCell']) (fun _ => rfl) (fun _ _ _ _ h1 h2 => ⟨h1, h2⟩)
    · refine ⟨?_, ?_, trivial⟩
      · exact owe_fill w.heap.size 24 (fun x => #[.int .i64 0, .int .i64 0]) (fun _ _ _ => rfl) (fun _ _ _ => rfl)
      · exact owe_fill (w.heap.size+1) 72 (fun x => #[.int .i64 0, .int .i64 0]) (fun _ _ _ => rfl) (fun _ _ _ => rfl)
    intro xr wr2 F hKr hlv2
    obtain ⟨fct2, fct3, -⟩ := hlv2
    replace fct2 : (F 2) w.heap.size ∧ Blk wr2 w.heap.size 24 #[.int .i64 0, .int .i64 0] := fct2 rfl
    replace fct3 : (F 3) (w.heap.size+1) ∧ Blk wr2 (w.heap.size+1) 72 #[.int .i64 0, .int .i64 0] := fct3 rfl
    have hbr := below_kept HB.out HB.out.size hKr (by simp)
    have bo2 := fct2.2
    have ba2 := fct3.2
    obtain ⟨e0, e1⟩ := bo2.c2
    obtain ⟨u0, u1⟩ := ba2.c2
    have HBr := hide hbr
    clear hbr hKr fct2 fct3 bo2 ba2
    go_wp2
    refine bodyPost_ret (v := adjV r) (by rw [HR.out]; simp [adjV, results, Try.results32, go_sem, e0, e1, u0, u1]) rfl ⟨rfl, HBr.out⟩
  have hR : r = if ((List.range n).all (okZ (fun j => zs.getD j 0))) = false then (((0, 0), (0, 0)), 3)
      else if (meetG (scY (fun j => zs.getD j 0)) (1, 100000) n).1 ≤ (meetG (scY (fun j => zs.getD j 0)) (1, 100000) n).2 then ((meetG (scY (fun j => zs.getD j 0)) (1, 100000) n, (0, 0)), 0) else (((0, 0), atOf (findF (conf (scY (fun j => zs.getD j 0))) n 0 n)), 14) := by
    rw [← hr]; unfold adjG; rw [if_neg h0, if_neg (by omega)]
  have hcs : ∃ b off, A = some ⟨b, off, none⟩ ∧ b < w.heap.size ∧ ∀ k, k < n → w.cell? ⟨b, off + k * 4, none⟩ = some (.int .i64 ((fun j => zs.getD j 0) (k * 4))) ∧ w.cell? ⟨b, off + k * 4 + 1, none⟩ = some (.int .i64 ((fun j => zs.getD j 0) (k * 4 + 1))) ∧ w.cell? ⟨b, off + k * 4 + 2, none⟩ = some (.int .i64 ((fun j => zs.getD j 0) (k * 4 + 2))) ∧ w.cell? ⟨b, off + k * 4 + 3, none⟩ = some (.int .i64 ((fun j => zs.getD j 0) (k * 4 + 3))) := hl.pt4 hz (by omega)
  generalize (fun j => zs.getD j 0) = z at *
  have HR := hide hR
  obtain ⟨b, off, rfl, hb, hc⟩ := hcs
  have Hc := hide hc
  clear hR hr hc hl hz
  go_enter Try.func32, Try.ntmps32
  go_wp2_with fail
  go_loopw [6] (fun i wr => ∃ k : Nat, k ≤ n ∧ i = .int .i64 k ∧ Below w.heap.size w wr ∧ Blk wr w.heap.size 24 #[.int .i64 0, .int .i64 0] ∧ Blk wr (w.heap.size + 1) 72 #[.int .i64 0, .int .i64 0] ∧ Blk wr (w.heap.size + 2) 72 #[.int .i64 0, .int .i64 0] ∧ ∀ j, j < k → okZ z j = true)
    (fun i _ => n - (intOf i).toNat)
  case atStart => exact ⟨0, by omega, rfl, (((Below.refl _ _).alloc (Nat.le_refl _) _).alloc (by simp) _).alloc (by simp; omega) _, ((Blk.new _ _ _).alloc _).alloc _, (blk_new_at (by simp)).alloc _, blk_new_at (by simp), fun j hj => by omega⟩
  case round =>
    obtain ⟨k, hk, rfl, hbw, hbo, hba, hbt, hall⟩ := hrel
    have hsz := hbw.size
    have lto := hbo.lt
    have lta := hba.lt
    have ltt := hbt.lt
    have HB := hide hbw
    have Hbo := hide hbo
    have Hba := hide hba
    have Hbt := hide hbt
    have Hall := hide hall
    clear hbw hbo hba hbt hall
    by_cases hlt : k < n
    · obtain ⟨c0, c1, c2, c3⟩ := Hc.out k hlt
      have hk2 : okZ z k = (ins (z (k * 4)) (z (k * 4 + 1)) 2147483648 && okG (z (k * 4 + 2)) (z (k * 4 + 3))) := rfl
      have Hk2 := hide hk2
      clear hk2
      have Hcs := hide (And.intro c2 c3)
      rw [← HB.out.cell hb] at c0 c1
      clear c2 c3
      generalize z (k * 4) = z0 at *
      generalize z (k * 4 + 1) = z1 at *
      generalize z (k * 4 + 2) = z2 at *
      generalize z (k * 4 + 3) = z3 at *
      by_cases g1 : ins z0 z1 2147483648 = true
      · go_wp2_with fail
        refine (Valid_any _ _ _ _).mono ?_
        rintro e w1 ⟨rfl, hb⟩
        replace HB := hide (onward HB.out hb)
        replace Hbo := hide (blk_later Hbo.out hb)
        replace Hba := hide (blk_later Hba.out hb)
        replace Hbt := hide (blk_later Hbt.out hb)
        clear hb
        clear c0 c1 lto lta ltt
        have lto := Hbo.out.lt
        have lta := Hba.out.lt
        have ltt := Hbt.out.lt
        obtain ⟨c2, c3⟩ := Hcs.out
        rw [← HB.out.cell hb] at c2 c3
        by_cases g2 : okG z2 z3 = true
        · have hfr : fellR z2 z3 = (fellS z2 z3, 0) := by simp [fellR, g2]
          have Hk3 := hide (show okZ z k = true by rw [Hk2.out, g1, g2]; rfl)
          have Hf := hide hfr
          clear hfr
          go_wp2_with fail
          refine (RefFell_any z2 z3 _).mono ?_
          rintro e w2 ⟨rfl, hb⟩
          replace HB := hide (onward HB.out hb)
          replace Hbo := hide (blk_later Hbo.out hb)
          replace Hba := hide (blk_later Hba.out hb)
          replace Hbt := hide (blk_later Hbt.out hb)
          clear hb
          rw [Hf.out]
          generalize fellS z2 z3 = ff
          obtain ⟨f1, f2⟩ := ff
          unfold spanE
          simp only
          clear c2 c3
          go_wp2
          go_roundw
          case rel => exact ⟨k + 1, by omega, by go_num, HB.out.alloc HB.out.size _, Hbo.out.alloc _, Hba.out.alloc _, Hbt.out.alloc _, fun j hj => by
            rcases Nat.lt_or_ge j k with h | h
            · exact Hall.out j h
            · obtain rfl : j = k := by omega
              exact Hk3.out⟩
          case measure => simp [intOf] <;> omega
        · have g3 : okG z2 z3 = false := by simpa using g2
          have hfr : fellR z2 z3 = ((0, 0), 3) := by simp [fellR, g3]
          have Hf := hide hfr
          clear hfr g2
          have hbad : ((List.range n).all (okZ z)) = false := List.all_eq_false.2 ⟨k, List.mem_range.2 hlt, by rw [Hk2.out]; simp [g3]⟩
          have hr := HR.out
          rw [if_pos hbad] at hr
          have HR2 := hide hr
          clear hr HR hbad Hc Hall Hk2
          go_wp2_with fail
          refine (RefFell_any z2 z3 _).mono ?_
          rintro e w2 ⟨rfl, hb⟩
          replace HB := hide (onward HB.out hb)
          replace Hbo := hide (blk_later Hbo.out hb)
          replace Hba := hide (blk_later Hba.out hb)
          replace Hbt := hide (blk_later Hbt.out hb)
          clear hb
          rw [Hf.out]
          unfold spanE
          simp only
          clear c2 c3 lto lta ltt
          go_wp2_with fail
          refine code_world fun W hW => ?_
          have LW : Later w2 W := by rw [hW]; exact ((Below.refl _ _).alloc (Nat.le_refl _) _)
          have szW : W.heap.size = w2.heap.size + 1 := by rw [hW]; simp
          clear hW
          replace HB := hide (onward HB.out LW)
          replace Hbo := hide (blk_later Hbo.out LW)
          replace Hba := hide (blk_later Hba.out LW)
          replace Hbt := hide (blk_later Hbt.out LW)
          clear LW szW
          obtain ⟨v0, v1⟩ := Hbt.out.c2
          have ltv := Hbt.out.lt
          have lto := Hbo.out.lt
          have lta := Hba.out.lt
          apply wp_region_F (w0 := W) [[], [], [], [0], [0, 1, 3], [0, 1, 2, 3, 4]] [true, false, false, false, false, false] [false, true, true, false, false, true] [⟨3, none, [], []⟩, ⟨4, none, [], []⟩] [(3, w.heap.size), (4, (w.heap.size+1))] [3, 4] (fun ixq y => match ixq with | 3 => undef | 4 => undef | _ => undef) (fun ixq x F wq => match ixq with | 3 => F w.heap.size ∧ Blk wq w.heap.size 24 #[.int .i64 0, .int .i64 0] | 4 => F (w.heap.size+1) ∧ Blk wq (w.heap.size+1) 72 #[.int .i64 0, .int .i64 0] | _ => True) (fun a x => a) (by kernel_rfl) (by kernel_rfl) (by kernel_rfl) (fun _ => rfl) [] (by kernel_rfl) (fills_lt2 (by omega) (by omega)) (fills_ne2 (by omega))
          · intro x D hD
            have hne := hD.some
            simp only [takeOps, Act.put, List.setIfInBounds_toArray, List.set_cons_succ, List.set_cons_zero]
            repeat (go_big_quiet_step (fail))
            exact wpQuiet_nil rfl
          · intro x D hD
            have hne := hD.some
            have k0 := liftS hD v0 (by exact ⟨by first | assumption | omega, free2 (by omega) (by omega)⟩)
            have k1 := liftS hD v1 (by exact ⟨by first | assumption | omega, free2 (by omega) (by omega)⟩)
            simp only [takeOps, Act.put, List.setIfInBounds_toArray, List.set_cons_succ, List.set_cons_zero]
            repeat (go_big_quiet_step (fail))
            exact wpQuiet_nil rfl
          · exact fun _ h => absurd h (by simp)
          · refine ⟨?_, ?_, trivial⟩
            · exact obl_fill 24 24 2 53 w.heap.size _ (fun x => #[.int .i64 0, .int .i64 0]) (by kernel_rfl) (fun _ => rfl) (fun _ => rfl) Hbo.out (eb_fill2 (by omega)).1 (by simp [wrF]) (fun _ => by kernel_rfl) (fun _ => rfl) (fun _ => by simp [Value.oneCell']) (fun _ => rfl) (fun _ _ _ _ h1 h2 => ⟨h1, h2⟩)
            · exact obl_fill 72 72 3 54 (w.heap.size+1) _ (fun x => #[.int .i64 0, .int .i64 0]) (by kernel_rfl) (fun _ => rfl) (fun _ => rfl) Hba.out (eb_fill2 (by omega)).2 (by simp [wrF]) (fun _ => by kernel_rfl) (fun _ => rfl) (fun _ => by simp [Value.oneCell']) (fun _ => rfl) (fun _ _ _ _ h1 h2 => ⟨h1, h2⟩)
          · refine ⟨?_, ?_, trivial⟩
            · exact owe_fill w.heap.size 24 (fun x => #[.int .i64 0, .int .i64 0]) (fun _ _ _ => rfl) (fun _ _ _ => rfl)
            · exact owe_fill (w.heap.size+1) 72 (fun x => #[.int .i64 0, .int .i64 0]) (fun _ _ _ => rfl) (fun _ _ _ => rfl)
          intro xr wr2 F hKr hlv3
          obtain ⟨fct3, fct4, -⟩ := hlv3
          replace fct3 : (F 3) w.heap.size ∧ Blk wr2 w.heap.size 24 #[.int .i64 0, .int .i64 0] := fct3 rfl
          replace fct4 : (F 4) (w.heap.size+1) ∧ Blk wr2 (w.heap.size+1) 72 #[.int .i64 0, .int .i64 0] := fct4 rfl
          have hbr := below_kept HB.out HB.out.size hKr (by simp)
          have bo2 := fct3.2
          have ba2 := fct4.2
          obtain ⟨e0, e1⟩ := bo2.c2
          obtain ⟨u0, u1⟩ := ba2.c2
          have HBr := hide hbr
          clear hbr hKr fct3 fct4 bo2 ba2
          go_wp2
          refine bodyPost_ret (v := adjV r) (by rw [HR2.out]; simp [adjV, results, Try.results32, go_sem, e0, e1, u0, u1]) rfl ⟨rfl, HBr.out⟩
      · have g3 : ins z0 z1 2147483648 = false := by simpa using g1
        clear g1
        go_wp2_with fail
        refine (Valid_any _ _ _ _).mono ?_
        rintro e w1 ⟨rfl, hb⟩
        replace HB := hide (onward HB.out hb)
        replace Hbo := hide (blk_later Hbo.out hb)
        replace Hba := hide (blk_later Hba.out hb)
        replace Hbt := hide (blk_later Hbt.out hb)
        clear hb
        clear c0 c1 lto lta ltt
        have lto := Hbo.out.lt
        have lta := Hba.out.lt
        have ltt := Hbt.out.lt
        have hbad : ((List.range n).all (okZ z)) = false := List.all_eq_false.2 ⟨k, List.mem_range.2 hlt, by rw [Hk2.out]; simp [g3]⟩
        have hr := HR.out
        rw [if_pos hbad] at hr
        have HR2 := hide hr
        clear hr HR hbad Hc Hall Hk2
        go_wp2_with fail
        obtain ⟨v0, v1⟩ := Hbt.out.c2
        have ltv := Hbt.out.lt
        apply wp_region_F (w0 := w1) [[], [], [0], [0, 1, 2], [0, 1, 2, 3]] [true, false, false, false, false] [false, true, false, false, true] [⟨2, none, [], []⟩, ⟨3, none, [], []⟩] [(2, w.heap.size), (3, (w.heap.size+1))] [2, 3] (fun ixq y => match ixq with | 2 => undef | 3 => undef | _ => undef) (fun ixq x F wq => match ixq with | 2 => F w.heap.size ∧ Blk wq w.heap.size 24 #[.int .i64 0, .int .i64 0] | 3 => F (w.heap.size+1) ∧ Blk wq (w.heap.size+1) 72 #[.int .i64 0, .int .i64 0] | _ => True) (fun a x => a) (by kernel_rfl) (by kernel_rfl) (by kernel_rfl) (fun _ => rfl) [] (by kernel_rfl) (fills_lt2 (by omega) (by omega)) (fills_ne2 (by omega))
        · intro x D hD
          have hne := hD.some
          simp only [takeOps, Act.put, List.setIfInBounds_toArray, List.set_cons_succ, List.set_cons_zero]
          repeat (go_big_quiet_step (fail))
          exact wpQuiet_nil rfl
        · intro x D hD
          have hne := hD.some
          have k0 := liftS hD v0 (by exact ⟨by first | assumption | omega, free2 (by omega) (by omega)⟩)
          have k1 := liftS hD v1 (by exact ⟨by first | assumption | omega, free2 (by omega) (by omega)⟩)
          simp only [takeOps, Act.put, List.setIfInBounds_toArray, List.set_cons_succ, List.set_cons_zero]
          repeat (go_big_quiet_step (fail))
          exact wpQuiet_nil rfl
        · exact fun _ h => absurd h (by simp)
        · refine ⟨?_, ?_, trivial⟩
          · exact obl_fill 24 24 2 40 w.heap.size _ (fun x => #[.int .i64 0, .int .i64 0]) (by kernel_rfl) (fun _ => rfl) (fun _ => rfl) Hbo.out (eb_fill2 (by omega)).1 (by simp [wrF]) (fun _ => by kernel_rfl) (fun _ => rfl) (fun _ => by simp [Value.oneCell']) (fun _ => rfl) (fun _ _ _ _ h1 h2 => ⟨h1, h2⟩)
          · exact obl_fill 72 72 3 41 (w.heap.size+1) _ (fun x => #[.int .i64 0, .int .i64 0]) (by kernel_rfl) (fun _ => rfl) (fun _ => rfl) Hba.out (eb_fill2 (by omega)).2 (by simp [wrF]) (fun _ => by kernel_rfl) (fun _ => rfl) (fun _ => by simp [Value.oneCell']) (fun _ => rfl) (fun _ _ _ _ h1 h2 => ⟨h1, h2⟩)
        · refine ⟨?_, ?_, trivial⟩
          · exact owe_fill w.heap.size 24 (fun x => #[.int .i64 0, .int .i64 0]) (fun _ _ _ => rfl) (fun _ _ _ => rfl)
          · exact owe_fill (w.heap.size+1) 72 (fun x => #[.int .i64 0, .int .i64 0]) (fun _ _ _ => rfl) (fun _ _ _ => rfl)
        intro xr wr2 F hKr hlv4
        obtain ⟨fct2, fct3, -⟩ := hlv4
        replace fct2 : (F 2) w.heap.size ∧ Blk wr2 w.heap.size 24 #[.int .i64 0, .int .i64 0] := fct2 rfl
        replace fct3 : (F 3) (w.heap.size+1) ∧ Blk wr2 (w.heap.size+1) 72 #[.int .i64 0, .int .i64 0] := fct3 rfl
        have hbr := below_kept HB.out HB.out.size hKr (by simp)
        have bo2 := fct2.2
        have ba2 := fct3.2
        obtain ⟨e0, e1⟩ := bo2.c2
        obtain ⟨u0, u1⟩ := ba2.c2
        have HBr := hide hbr
        clear hbr hKr fct2 fct3 bo2 ba2
        go_wp2
        refine bodyPost_ret (v := adjV r) (by rw [HR2.out]; simp [adjV, results, Try.results32, go_sem, e0, e1, u0, u1]) rfl ⟨rfl, HBr.out⟩
    · obtain rfl : k = n := by omega
      have hal : ((List.range k).all (okZ z)) = true := List.all_eq_true.2 fun j hj => Hall.out j (List.mem_range.1 hj)
      have hr := HR.out
      rw [if_neg (by rw [hal]; simp)] at hr
      have HR2 := hide hr
      clear hal hr HR
      obtain ⟨wo, rfl⟩ : ∃ wo : World, wo = wr := ⟨_, rfl⟩
      have hq9 := Hbt.out.lt
      go_wp2_with fail
      go_loopw [10] (fun i wr' => ∃ k' : Nat, k' ≤ k ∧ i = .int .i64 k' ∧ Below w.heap.size w wr' ∧ Blk wr' w.heap.size 24 #[.int .i64 0, .int .i64 0] ∧ Blk wr' (w.heap.size + 1) 72 #[.int .i64 0, .int .i64 0] ∧ Blk wr' (w.heap.size + 2) 72 #[.int .i64 0, .int .i64 0] ∧ Blk wr' wo.heap.size 24 #[.int .i64 (meetG (scY z) (1, 100000) k').1, .int .i64 (meetG (scY z) (1, 100000) k').2])
        (fun i _ => k - (intOf i).toNat)
      case atStart => exact ⟨0, by omega, rfl, HB.out.alloc HB.out.size _, Hbo.out.alloc _, Hba.out.alloc _, Hbt.out.alloc _, Blk.new _ _ _⟩
      case round =>
        generalize hg9 : wo.heap.size = g9 at *
        clear hg9 Hbo Hba Hbt HB
        obtain ⟨i, hi, rfl, hbw, hbo, hba, hbt, hb9⟩ := hrel
        have hszw := hbw.size
        have ltq := hb9.lt
        have HB := hide hbw
        have Hbo := hide hbo
        have Hba := hide hba
        have Hbt := hide hbt
        have Hb9 := hide hb9
        clear hbw hbo hba hbt hb9
        by_cases hik : i < k
        · obtain ⟨s1, s2, hs12⟩ : ∃ s1 s2, scY z i = (s1, s2) := ⟨_, _, rfl⟩
          have hsi : ∀ W, Calls Try.prog 59 #[.agg #[.int .i64 (z (i * 4)), .int .i64 (z (i * 4 + 1)), .int .i64 (z (i * 4 + 2)), .int .i64 (z (i * 4 + 3))]] W fun e w' => e = .returned (.agg #[.int .i64 s1, .int .i64 s2]) ∧ Below W.heap.size W w' := fun W => by
            have := refScales_any (z (i * 4)) (z (i * 4 + 1)) (z (i * 4 + 2)) (z (i * 4 + 3)) W (Hall.out i hik)
            have e1 : scR (z (i * 4)) (z (i * 4 + 1)) (z (i * 4 + 2)) (z (i * 4 + 3)) = (s1, s2) := hs12
            rw [e1] at this
            exact this
          have hmg : meetG (scY z) (1, 100000) (i + 1) = meetS (meetG (scY z) (1, 100000) i) (s1, s2) := by rw [← hs12]; rfl
          have Hsi := hide hsi
          have Hmg := hide hmg
          obtain ⟨p0, p1, p2, p3⟩ := Hc.out i hik
          rw [← HB.out.cell hb] at p0 p1 p2 p3
          clear hsi hs12 hmg
          generalize meetG (scY z) (1, 100000) i = m at *
          obtain ⟨m1, m2⟩ := m
          simp only at Hb9
          obtain ⟨mx, emx⟩ : ∃ mx, (if m1 < s1 then s1 else m1) = mx := ⟨_, rfl⟩
          obtain ⟨mn, emn⟩ : ∃ mn, (if s2 < m2 then s2 else m2) = mn := ⟨_, rfl⟩
          have hmg := Hmg.out
          unfold meetS at hmg
          rw [(max_if m1 s1).trans emx, (min_if m2 s2).trans emn] at hmg
          have Hmg2 := hide hmg
          clear hmg Hmg
          go_wp2_with fail
          refine (Hsi.out _).mono ?_
          rintro e w1 ⟨rfl, hb⟩
          replace HB := hide (onward HB.out hb)
          replace Hbo := hide (blk_later Hbo.out hb)
          replace Hba := hide (blk_later Hba.out hb)
          replace Hbt := hide (blk_later Hbt.out hb)
          replace Hb9 := hide (blk_later Hb9.out hb)
          clear hb
          clear p0 p1 p2 p3 Hsi ltq lto lta ltt
          have lt9 : g9 < w1.heap.size := Hb9.out.lt
          go_wp2_with fail
          refine code_world fun W2 hW => ?_
          have bq0 : Blk W2 w1.heap.size 24 #[.int .i64 s1, .int .i64 s2] := by rw [hW]; exact Blk.new _ _ _
          have LW : Later w1 W2 := by rw [hW]; exact ((Below.refl _ _).alloc (Nat.le_refl _) _)
          have szW : W2.heap.size = w1.heap.size + 1 := by rw [hW]; simp
          clear hW
          replace HB := hide (onward HB.out LW)
          replace Hbo := hide (blk_later Hbo.out LW)
          replace Hba := hide (blk_later Hba.out LW)
          replace Hbt := hide (blk_later Hbt.out LW)
          replace Hb9 := hide (blk_later Hb9.out LW)
          have Hb11 := hide bq0
          clear bq0 LW szW
          obtain ⟨q0, q1⟩ := Hb9.out.c2
          have ltq := Hb9.out.lt
          obtain ⟨s0, s1⟩ := Hb11.out.c2
          have lts := Hb11.out.lt
          apply wp_region_F (w0 := W2) [[], [0], [], [2], [0, 1, 2, 3], [], [5], [], [7], [5, 6, 7, 8], [0, 1, 2, 3, 4, 5, 6], [0, 1, 2, 3, 4, 5, 6, 10], [0, 1, 2, 3, 4, 5, 6, 7, 8, 9, 10, 11], [0, 1, 2, 3, 4, 5, 6, 7, 8, 9, 10, 11, 12]] [true, true, true, true, true, true, true, false, false, false, true, false, false, false] [false, false, false, false, false, false, false, true, true, true, false, false, true, false] [⟨11, none, [], []⟩, ⟨13, some 11, [11], []⟩] [(11, g9)] [11] (fun ixq y => match ixq with | 11 => undef | 13 => undef | _ => undef) (fun ixq x F wq => match ixq with | 11 => F g9 ∧ Blk wq g9 24 #[.int .i64 mx, .int .i64 m2] | 13 => F g9 ∧ Blk wq g9 24 #[.int .i64 mx, .int .i64 mn] | _ => True) (fun a x => a) (by kernel_rfl) (by kernel_rfl) (by kernel_rfl) (fun _ => rfl) [] (by kernel_rfl) (fills_lt1 (by omega)) fills_ne1
          · intro x D hD
            have hne := hD.some
            have k0 := liftS hD q0 (by exact early_all (by first | assumption | omega) (by rfl))
            have k1 := liftS hD q1 (by exact early_all (by first | assumption | omega) (by rfl))
            have k2 := liftS hD s0 (by exact early_all (by first | assumption | omega) (by rfl))
            simp only [takeOps, Act.put, List.setIfInBounds_toArray, List.set_cons_succ, List.set_cons_zero]
            repeat (go_big_quiet_step (fail))
            exact wpQuiet_nil rfl
          · intro x D hD
            have hne := hD.some
            have k3 := liftS hD s1 (by exact ⟨by first | assumption | omega, free1 (by omega)⟩)
            simp only [takeOps, Act.put, List.setIfInBounds_toArray, List.set_cons_succ, List.set_cons_zero]
            repeat (go_big_quiet_step (fail))
            exact wpQuiet_nil rfl
          · exact fun _ h => absurd h (by simp)
          · refine ⟨?_, ?_, trivial⟩
            · exact obl_set 3 24 78 72 g9 0 _ (mx) #[.int .i64 mx, .int .i64 m2] (by kernel_rfl) (fun _ => rfl) (fun _ => rfl) Hb9.out eb_fill1 (by simp [wrF]) (by kernel_rfl) (by simp) (by simp) (fun _ => rfl) (fun _ _ _ _ h1 h2 => ⟨h1, h2⟩)
            · exact obl_set_more 3 24 79 77 11 g9 1 _ (mn) #[.int .i64 mx, .int .i64 mn] (by kernel_rfl) rfl (by simp) (fun _ _ _ h => h) (fun _ => rfl) (fun _ => rfl) (by kernel_rfl) (by simp) (by simp) (fun _ => rfl) (fun _ _ _ _ h1 h2 => ⟨h1, h2⟩)
          · refine ⟨?_, ?_, trivial⟩
            · exact owe_fill g9 24 (fun x => #[.int .i64 mx, .int .i64 m2]) (fun _ _ _ => rfl) (fun _ _ _ => rfl)
            · exact owe_fill g9 24 (fun x => #[.int .i64 mx, .int .i64 mn]) (fun _ _ _ => rfl) (fun _ _ _ => rfl)
          intro xx w3 F hK hlv5
          obtain ⟨-, fct13, -⟩ := hlv5
          replace fct13 : (F 13) g9 ∧ Blk w3 g9 24 #[.int .i64 mx, .int .i64 mn] := fct13 rfl
          have hgr := grown_kept hK
          replace HB := hide (below_grown HB.out hgr HB.out.size (fun q hq => by simp at hq; omega))
          replace Hbo := hide (blk_grown Hbo.out hgr (by simp; omega))
          replace Hba := hide (blk_grown Hba.out hgr (by simp; omega))
          replace Hbt := hide (blk_grown Hbt.out hgr (by simp; omega))
          replace Hb9 := hide fct13.2
          replace Hb11 := hide (blk_grown Hb11.out hgr (by simp; omega))
          clear hgr hK fct13 q0 q1 ltq s0 s1 lts
          go_wp2
          go_roundw
          case rel => exact ⟨i + 1, by omega, by go_num, HB.out, Hbo.out, Hba.out, Hbt.out, by rw [Hmg2.out]; exact Hb9.out⟩
          case measure => simp [intOf] <;> omega
        · obtain rfl : k = i := by omega
          generalize hM : meetG (scY z) (1, 100000) k = m at *
          obtain ⟨m1, m2⟩ := m
          simp only at Hb9 HR2
          clear hM ltq lto lta ltt
          obtain ⟨q0, q1⟩ := Hb9.out.c2
          have ltq := Hb9.out.lt
          by_cases hle : m1 ≤ m2
          · have hr := HR2.out
            rw [if_pos hle] at hr
            have HR3 := hide hr
            clear hr HR2 Hall Hc
            have lto := Hbo.out.lt
            have lta := Hba.out.lt
            obtain ⟨v0, v1⟩ := Hbt.out.c2
            have ltv := Hbt.out.lt
            go_wp2_with fail
            apply wp_region_F (w0 := wr) [[], [], [0], [0, 1, 2], [0, 1, 2, 3]] [true, false, false, false, false] [false, true, false, false, true] [⟨2, none, [], []⟩, ⟨3, none, [], []⟩] [(2, w.heap.size), (3, (w.heap.size+1))] [2, 3] (fun ixq y => match ixq with | 2 => undef | 3 => undef | _ => undef) (fun ixq x F wq => match ixq with | 2 => F w.heap.size ∧ Blk wq w.heap.size 24 #[.int .i64 m1, .int .i64 m2] | 3 => F (w.heap.size+1) ∧ Blk wq (w.heap.size+1) 72 #[.int .i64 0, .int .i64 0] | _ => True) (fun a x => a) (by kernel_rfl) (by kernel_rfl) (by kernel_rfl) (fun _ => rfl) [] (by kernel_rfl) (fills_lt2 (by omega) (by omega)) (fills_ne2 (by omega))
            · intro x D hD
              have hne := hD.some
              have k2 := liftS hD q0 (by exact early_all (by first | assumption | omega) (by rfl))
              have k3 := liftS hD q1 (by exact early_all (by first | assumption | omega) (by rfl))
              simp only [takeOps, Act.put, List.setIfInBounds_toArray, List.set_cons_succ, List.set_cons_zero]
              repeat (go_big_quiet_step (fail))
              exact wpQuiet_nil rfl
            · intro x D hD
              have hne := hD.some
              have k0 := liftS hD v0 (by exact ⟨by first | assumption | omega, free2 (by omega) (by omega)⟩)
              have k1 := liftS hD v1 (by exact ⟨by first | assumption | omega, free2 (by omega) (by omega)⟩)
              simp only [takeOps, Act.put, List.setIfInBounds_toArray, List.set_cons_succ, List.set_cons_zero]
              repeat (go_big_quiet_step (fail))
              exact wpQuiet_nil rfl
            · exact fun _ h => absurd h (by simp)
            · refine ⟨?_, ?_, trivial⟩
              · exact obl_fill 24 24 2 85 w.heap.size _ (fun x => #[.int .i64 m1, .int .i64 m2]) (by kernel_rfl) (fun _ => rfl) (fun _ => rfl) Hbo.out (eb_fill2 (by omega)).1 (by simp [wrF]) (fun _ => by kernel_rfl) (fun _ => rfl) (fun _ => by simp [Value.oneCell']) (fun _ => rfl) (fun _ _ _ _ h1 h2 => ⟨h1, h2⟩)
              · exact obl_fill 72 72 3 86 (w.heap.size+1) _ (fun x => #[.int .i64 0, .int .i64 0]) (by kernel_rfl) (fun _ => rfl) (fun _ => rfl) Hba.out (eb_fill2 (by omega)).2 (by simp [wrF]) (fun _ => by kernel_rfl) (fun _ => rfl) (fun _ => by simp [Value.oneCell']) (fun _ => rfl) (fun _ _ _ _ h1 h2 => ⟨h1, h2⟩)
            · refine ⟨?_, ?_, trivial⟩
              · exact owe_fill w.heap.size 24 (fun x => #[.int .i64 m1, .int .i64 m2]) (fun _ _ _ => rfl) (fun _ _ _ => rfl)
              · exact owe_fill (w.heap.size+1) 72 (fun x => #[.int .i64 0, .int .i64 0]) (fun _ _ _ => rfl) (fun _ _ _ => rfl)
            intro xr wr2 F hKr hlv6
            obtain ⟨fct2, fct3, -⟩ := hlv6
            replace fct2 : (F 2) w.heap.size ∧ Blk wr2 w.heap.size 24 #[.int .i64 m1, .int .i64 m2] := fct2 rfl
            replace fct3 : (F 3) (w.heap.size+1) ∧ Blk wr2 (w.heap.size+1) 72 #[.int .i64 0, .int .i64 0] := fct3 rfl
            have hbr := below_kept HB.out HB.out.size hKr (by simp)
            have bo2 := fct2.2
            have ba2 := fct3.2
            obtain ⟨e0, e1⟩ := bo2.c2
            obtain ⟨u0, u1⟩ := ba2.c2
            have HBr := hide hbr
            clear hbr hKr fct2 fct3 bo2 ba2
            go_wp2
            refine bodyPost_ret (v := adjV r) (by rw [HR3.out]; simp [adjV, results, Try.results32, go_sem, e0, e1, u0, u1]) rfl ⟨rfl, HBr.out⟩
          · have hr := HR2.out
            rw [if_neg hle] at hr
            have HR3 := hide hr
            clear hr HR2
            have hle2 : decide (m1 ≤ m2) = false := decide_eq_false hle
            go_wp2_with fail
            clear Hb9
            clear q0 q1 ltq
            clear hle2 hle hszw hq9
            go_loopw [12] (fun i wr' => ∃ k' : Nat, k' ≤ k ∧ i = .int .i64 k' ∧ Below w.heap.size w wr' ∧ Blk wr' w.heap.size 24 #[.int .i64 0, .int .i64 0] ∧ Blk wr' (w.heap.size + 1) 72 #[.int .i64 0, .int .i64 0] ∧ Blk wr' (w.heap.size + 2) 72 #[.int .i64 0, .int .i64 0] ∧ findF (conf (scY z)) k k' (k - k') = findF (conf (scY z)) k 0 k)
              (fun i _ => k - (intOf i).toNat)
            case atStart => exact ⟨0, by omega, rfl, HB.out, Hbo.out, Hba.out, Hbt.out, rfl⟩
            case round =>
              clear HB Hbo Hba Hbt
              obtain ⟨i, hi, rfl, hbw, hbo, hba, hbt, hfi⟩ := hrel
              have HB := hide hbw
              have Hbo := hide hbo
              have Hba := hide hba
              have Hbt := hide hbt
              have Hfi := hide hfi
              clear hbw hbo hba hbt hfi
              by_cases hik : i < k
              · go_wp2_with fail
                go_loopw [13] (fun jj wr' => ∃ j : Nat, i ≤ j ∧ j ≤ k ∧ jj = .int .i64 j ∧ Below w.heap.size w wr' ∧ Blk wr' w.heap.size 24 #[.int .i64 0, .int .i64 0] ∧ Blk wr' (w.heap.size + 1) 72 #[.int .i64 0, .int .i64 0] ∧ Blk wr' (w.heap.size + 2) 72 #[.int .i64 0, .int .i64 0] ∧ rowF (conf (scY z)) i j (k - j) = rowF (conf (scY z)) i i (k - i))
                  (fun jj _ => k - (intOf jj).toNat)
                case atStart => exact ⟨i, by omega, by omega, rfl, HB.out, Hbo.out, Hba.out, Hbt.out, rfl⟩
                case round =>
                  clear HB Hbo Hba Hbt
                  obtain ⟨j, hij, hjk, rfl, hbw, hbo, hba, hbt, hro⟩ := hrel
                  have hbr3 : b < wr.heap.size := by have := hbw.size; omega
                  have HB := hide hbw
                  have Hbo := hide hbo
                  have Hba := hide hba
                  have Hbt := hide hbt
                  have Hro := hide hro
                  clear hbw hbo hba hbt hro
                  by_cases hjn : j < k
                  · obtain ⟨s1, s2, hs12⟩ : ∃ s1 s2, scY z i = (s1, s2) := ⟨_, _, rfl⟩
                    obtain ⟨y1, y2, hy12⟩ : ∃ s1 s2, scY z j = (s1, s2) := ⟨_, _, rfl⟩
                    have hsi : ∀ W, Calls Try.prog 59 #[.agg #[.int .i64 (z (i * 4)), .int .i64 (z (i * 4 + 1)), .int .i64 (z (i * 4 + 2)), .int .i64 (z (i * 4 + 3))]] W fun e w' => e = .returned (.agg #[.int .i64 s1, .int .i64 s2]) ∧ Below W.heap.size W w' := fun W => by
                      have := refScales_any (z (i * 4)) (z (i * 4 + 1)) (z (i * 4 + 2)) (z (i * 4 + 3)) W (Hall.out i hik)
                      have e1 : scR (z (i * 4)) (z (i * 4 + 1)) (z (i * 4 + 2)) (z (i * 4 + 3)) = (s1, s2) := hs12
                      rw [e1] at this
                      exact this
                    have hsj : ∀ W, Calls Try.prog 59 #[.agg #[.int .i64 (z (j * 4)), .int .i64 (z (j * 4 + 1)), .int .i64 (z (j * 4 + 2)), .int .i64 (z (j * 4 + 3))]] W fun e w' => e = .returned (.agg #[.int .i64 y1, .int .i64 y2]) ∧ Below W.heap.size W w' := fun W => by
                      have := refScales_any (z (j * 4)) (z (j * 4 + 1)) (z (j * 4 + 2)) (z (j * 4 + 3)) W (Hall.out j hjn)
                      have e1 : scR (z (j * 4)) (z (j * 4 + 1)) (z (j * 4 + 2)) (z (j * 4 + 3)) = (y1, y2) := hy12
                      rw [e1] at this
                      exact this
                    obtain ⟨mx, emx⟩ : ∃ mx, (if s1 < y1 then y1 else s1) = mx := ⟨_, rfl⟩
                    obtain ⟨mn, emn⟩ : ∃ mn, (if y2 < s2 then y2 else s2) = mn := ⟨_, rfl⟩
                    have hcf : conf (scY z) i j = decide (mn < mx) := by
                      unfold conf meetS
                      rw [hs12, hy12]
                      simp only
                      rw [(max_if s1 y1).trans emx, (min_if s2 y2).trans emn]
                    have Hsi := hide hsi
                    have Hsj := hide hsj
                    have Hcf := hide hcf
                    obtain ⟨p0, p1, p2, p3⟩ := Hc.out i (by omega)
                    obtain ⟨d0, d1, d2, d3⟩ := Hc.out j hjn
                    rw [← HB.out.cell hb] at p0 p1 p2 p3 d0 d1 d2 d3
                    clear hsi hsj hs12 hy12 hcf
                    generalize z (i * 4) = zi0 at *
                    generalize z (i * 4 + 1) = zi1 at *
                    generalize z (i * 4 + 2) = zi2 at *
                    generalize z (i * 4 + 3) = zi3 at *
                    generalize z (j * 4) = zj0 at *
                    generalize z (j * 4 + 1) = zj1 at *
                    generalize z (j * 4 + 2) = zj2 at *
                    generalize z (j * 4 + 3) = zj3 at *
                    go_wp2_with fail
                    apply wp_region_L (w0 := wr) [[], [], [], [], [], [], [], [], [], [], [], [], [10, 11], [10, 11, 12]] [true, true, true, true, true, true, true, true, true, true, false, false, false, false] [⟨10, none, [], []⟩, ⟨11, none, [], []⟩, ⟨12, some 10, [10], [10]⟩, ⟨13, some 11, [11], [11]⟩] (fun ixq y => match ixq with | 10 => .pointer (y 0).1 | 11 => .pointer (y 0).1 | 12 => undef | 13 => undef | _ => undef) (fun ixq x F wq => match ixq with | 10 => PtrF wq F wr.heap.size (x 10 0).1 24 #[.int .i64 0, .int .i64 0] | 11 => PtrF wq F wr.heap.size (x 11 0).1 24 #[.int .i64 0, .int .i64 0] | 12 => PtrF wq F wr.heap.size (x 10 0).1 24 #[.int .i64 s1, .int .i64 s2] | 13 => PtrF wq F wr.heap.size (x 11 0).1 24 #[.int .i64 y1, .int .i64 y2] | _ => True) (fun a x => ((a).put (some 14) (.pointer ((x 10) 0).1)).put (some 15) (.pointer ((x 11) 0).1)) (by kernel_rfl) (by kernel_rfl) (fun _ => rfl) [104, 109] (by kernel_rfl)
                    · intro x D hD
                      have hne := hD.some
                      have k0 := liftB hD p0 (by first | assumption | omega)
                      have k1 := liftB hD p1 (by first | assumption | omega)
                      have k2 := liftB hD p2 (by first | assumption | omega)
                      have k3 := liftB hD p3 (by first | assumption | omega)
                      have l0 := liftB hD d0 (by first | assumption | omega)
                      have l1 := liftB hD d1 (by first | assumption | omega)
                      have l2 := liftB hD d2 (by first | assumption | omega)
                      have l3 := liftB hD d3 (by first | assumption | omega)
                      simp only [takeOps, Act.put, List.setIfInBounds_toArray, List.set_cons_succ, List.set_cons_zero]
                      repeat (go_big_quiet_step ((go_at_call 59; first | (with_reducible exact calls_later hD _ (Hsi.out _)) | (with_reducible exact calls_later hD _ (Hsj.out _)))))
                      exact wpQuiet_nil rfl
                    · intro d hd x x'
                      simp only [List.mem_cons, List.not_mem_nil, or_false] at hd
                      rcases hd with rfl | rfl
                      all_goals rfl
                    · refine ⟨?_, ?_, ?_, ?_, trivial⟩
                      · exact obl_alloc 24 14 (.agg #[.int .i64 0, .int .i64 0]) (by kernel_rfl) (by kernel_rfl) (fun _ => rfl) (fun _ _ _ h => h)
                      · exact obl_alloc 24 15 (.agg #[.int .i64 0, .int .i64 0]) (by kernel_rfl) (by kernel_rfl) (fun _ => rfl) (fun _ _ _ h => h)
                      · refine obl_store 24 14 104 10 #[.int .i64 0, .int .i64 0] (fun x => #[.int .i64 s1, .int .i64 s2]) (by kernel_rfl) rfl (by simp) (fun _ _ _ h => h) (fun _ => rfl) (fun _ => rfl) (fun _ => by kernel_rfl) (fun _ => rfl) (fun _ => by simp [Value.oneCell']) (fun _ => rfl) (by decide) (fun _ _ _ _ h => h)
                      · refine obl_store 24 15 109 11 #[.int .i64 0, .int .i64 0] (fun x => #[.int .i64 y1, .int .i64 y2]) (by kernel_rfl) rfl (by simp) (fun _ _ _ h => h) (fun _ => rfl) (fun _ => rfl) (fun _ => by kernel_rfl) (fun _ => rfl) (fun _ => by simp [Value.oneCell']) (fun _ => rfl) (by decide) (fun _ _ _ _ h => h)
                    · refine ⟨?_, ?_, ?_, ?_, trivial⟩
                      · exact owe_ptr 10 _ _ (fun x => #[.int .i64 0, .int .i64 0]) (fun _ _ _ => rfl) (by simp) (fun _ _ _ => rfl)
                      · exact owe_ptr 11 _ _ (fun x => #[.int .i64 0, .int .i64 0]) (fun _ _ _ => rfl) (by simp) (fun _ _ _ => rfl)
                      · exact owe_ptr 10 _ _ (fun x => #[.int .i64 s1, .int .i64 s2]) (fun _ _ _ => rfl) (by simp) (fun _ _ _ => rfl)
                      · exact owe_ptr 11 _ _ (fun x => #[.int .i64 y1, .int .i64 y2]) (fun _ _ _ => rfl) (by simp) (fun _ _ _ => rfl)
                    intro xx w3 F hL3 hlv7
                    obtain ⟨-, -, fct12, fct13, -⟩ := hlv7
                    replace fct12 : PtrF w3 (F 12) wr.heap.size (xx 10 0).1 24 #[.int .i64 s1, .int .i64 s2] := fct12 rfl
                    replace fct13 : PtrF w3 (F 13) wr.heap.size (xx 11 0).1 24 #[.int .i64 y1, .int .i64 y2] := fct13 rfl
                    obtain ⟨g, hgx, hge, -, hbg⟩ := fct12
                    obtain ⟨g', hgx', hge', -, hbg'⟩ := fct13
                    rw [hgx, hgx']
                    clear p0 p1 p2 p3 d0 d1 d2 d3 Hsi Hsj hgx hgx'
                    replace HB := hide (onward HB.out hL3)
                    replace Hbo := hide (blk_later Hbo.out hL3)
                    replace Hba := hide (blk_later Hba.out hL3)
                    replace Hbt := hide (blk_later Hbt.out hL3)
                    clear hL3
                    have Hbg := hide hbg
                    have Hbg' := hide hbg'
                    clear hbg hbg'
                    obtain ⟨x0, x1⟩ := Hbg.out.c2
                    have ltx := Hbg.out.lt
                    obtain ⟨y0, y1⟩ := Hbg'.out.c2
                    have lty := Hbg'.out.lt
                    by_cases hlt2 : mn < mx
                    · have hcf2 : conf (scY z) i j = true := by rw [Hcf.out]; exact decide_eq_true hlt2
                      have hrow := row_hit (cf := conf (scY z)) hjn hcf2
                      rw [Hro.out] at hrow
                      have hfd := find_hit (cf := conf (scY z)) hik hrow
                      rw [Hfi.out] at hfd
                      have hr := HR3.out
                      rw [hfd] at hr
                      have HR4 := hide (show r = (((0, 0), ((i : Int), (j : Int))), 14) from hr)
                      have hc3 : decide (mn < mx) = true := decide_eq_true hlt2
                      clear hcf2 hrow hfd hr HR3
                      obtain ⟨e0, e1⟩ := Hbo.out.c2
                      have lte := Hbo.out.lt
                      have fe0 := Hbo.out.frozen 0
                      have fe1 := Hbo.out.frozen 1
                      obtain ⟨a0, a1⟩ := Hba.out.c2
                      have lta := Hba.out.lt
                      have fa0 := Hba.out.frozen 0
                      have fa1 := Hba.out.frozen 1
                      go_wp2
                      refine bodyPost_ret (v := adjV r) (by rw [HR4.out]; simp [adjV, results, Try.results32, go_sem, e0, e1, fe0, fe1, a0, a1, fa0, fa1, lte, lta]) rfl ⟨rfl, ?_⟩
                      repeat (first | exact HB.out | (refine Below.setCell ?_ (by first | omega | (simp; done) | (simp; omega)) _) | (refine Below.alloc ?_ (by first | omega | (simp; done) | (simp; omega)) _) | (refine below_drewN ?_ _))
                    · have hcf2 : conf (scY z) i j = false := by rw [Hcf.out]; exact decide_eq_false hlt2
                      have Hmi := hide (row_miss (cf := conf (scY z)) hjn hcf2)
                      clear hcf2
                      have hc3 : decide (mn < mx) = false := decide_eq_false hlt2
                      go_wp2
                      go_roundw
                      case rel => exact ⟨j + 1, by omega, by omega, by go_num, HB.out, Hbo.out, Hba.out, Hbt.out, by rw [← Hmi.out, Hro.out]⟩
                      case measure => simp [intOf] <;> omega
                  · obtain rfl : j = k := by omega
                    have hro := Hro.out
                    rw [Nat.sub_self, rowF] at hro
                    have Hmi := hide (find_miss (cf := conf (scY z)) hik hro.symm)
                    clear hro
                    go_wp2
                    go_roundw
                    case rel => exact ⟨i + 1, by omega, by go_num, HB.out, Hbo.out, Hba.out, Hbt.out, by rw [← Hmi.out, Hfi.out]⟩
                    case measure => simp [intOf] <;> omega
              · obtain rfl : i = k := by omega
                have hfi := Hfi.out
                rw [Nat.sub_self, findF] at hfi
                have hr := HR3.out
                rw [← hfi] at hr
                have HR4 := hide (show r = (((0, 0), (0, 0)), 14) from hr)
                clear hr hfi HR3
                have lto := Hbo.out.lt
                have lta := Hba.out.lt
                obtain ⟨v0, v1⟩ := Hbt.out.c2
                have ltv := Hbt.out.lt
                go_wp2_with fail
                apply wp_region_F (w0 := wr) [[], [], [0], [0, 1, 2], [0, 1, 2, 3]] [true, false, false, false, false] [false, true, false, false, true] [⟨2, none, [], []⟩, ⟨3, none, [], []⟩] [(2, w.heap.size), (3, (w.heap.size+1))] [2, 3] (fun ixq y => match ixq with | 2 => undef | 3 => undef | _ => undef) (fun ixq x F wq => match ixq with | 2 => F w.heap.size ∧ Blk wq w.heap.size 24 #[.int .i64 0, .int .i64 0] | 3 => F (w.heap.size+1) ∧ Blk wq (w.heap.size+1) 72 #[.int .i64 0, .int .i64 0] | _ => True) (fun a x => a) (by kernel_rfl) (by kernel_rfl) (by kernel_rfl) (fun _ => rfl) [] (by kernel_rfl) (fills_lt2 (by omega) (by omega)) (fills_ne2 (by omega))
                · intro x D hD
                  have hne := hD.some
                  simp only [takeOps, Act.put, List.setIfInBounds_toArray, List.set_cons_succ, List.set_cons_zero]
                  repeat (go_big_quiet_step (fail))
                  exact wpQuiet_nil rfl
                · intro x D hD
                  have hne := hD.some
                  have k0 := liftS hD v0 (by exact ⟨by first | assumption | omega, free2 (by omega) (by omega)⟩)
                  have k1 := liftS hD v1 (by exact ⟨by first | assumption | omega, free2 (by omega) (by omega)⟩)
                  simp only [takeOps, Act.put, List.setIfInBounds_toArray, List.set_cons_succ, List.set_cons_zero]
                  repeat (go_big_quiet_step (fail))
                  exact wpQuiet_nil rfl
                · exact fun _ h => absurd h (by simp)
                · refine ⟨?_, ?_, trivial⟩
                  · exact obl_fill 24 24 2 125 w.heap.size _ (fun x => #[.int .i64 0, .int .i64 0]) (by kernel_rfl) (fun _ => rfl) (fun _ => rfl) Hbo.out (eb_fill2 (by omega)).1 (by simp [wrF]) (fun _ => by kernel_rfl) (fun _ => rfl) (fun _ => by simp [Value.oneCell']) (fun _ => rfl) (fun _ _ _ _ h1 h2 => ⟨h1, h2⟩)
                  · exact obl_fill 72 72 3 126 (w.heap.size+1) _ (fun x => #[.int .i64 0, .int .i64 0]) (by kernel_rfl) (fun _ => rfl) (fun _ => rfl) Hba.out (eb_fill2 (by omega)).2 (by simp [wrF]) (fun _ => by kernel_rfl) (fun _ => rfl) (fun _ => by simp [Value.oneCell']) (fun _ => rfl) (fun _ _ _ _ h1 h2 => ⟨h1, h2⟩)
                · refine ⟨?_, ?_, trivial⟩
                  · exact owe_fill w.heap.size 24 (fun x => #[.int .i64 0, .int .i64 0]) (fun _ _ _ => rfl) (fun _ _ _ => rfl)
                  · exact owe_fill (w.heap.size+1) 72 (fun x => #[.int .i64 0, .int .i64 0]) (fun _ _ _ => rfl) (fun _ _ _ => rfl)
                intro xr wr2 F hKr hlv8
                obtain ⟨fct2, fct3, -⟩ := hlv8
                replace fct2 : (F 2) w.heap.size ∧ Blk wr2 w.heap.size 24 #[.int .i64 0, .int .i64 0] := fct2 rfl
                replace fct3 : (F 3) (w.heap.size+1) ∧ Blk wr2 (w.heap.size+1) 72 #[.int .i64 0, .int .i64 0] := fct3 rfl
                have hbr := below_kept HB.out HB.out.size hKr (by simp)
                have bo2 := fct2.2
                have ba2 := fct3.2
                obtain ⟨e0, e1⟩ := bo2.c2
                obtain ⟨u0, u1⟩ := ba2.c2
                have HBr := hide hbr
                clear hbr hKr fct2 fct3 bo2 ba2
                go_wp2
                refine bodyPost_ret (v := adjV r) (by rw [HR4.out]; simp [adjV, results, Try.results32, go_sem, e0, e1, u0, u1]) rfl ⟨rfl, HBr.out⟩
end Go.Proofs.Ytmglgahagbfbkaa
