/-
  rain's value of a table at a power, found by a closure over the points: the same values as the reference's.
  CheckTable: the contract, for every slice of points.
  The reference's CheckTable: the contract, for every slice of points.
  The reference's value of a table at a power: the contract, for every valid table.
  Value: rain's and the reference's: one contract for both.
  Models; no program in sight.
  What is left of a region behind its quiet operations: one element is appended to a row of the call's own.
  Single steps of a region: an operation that lays one new block, a call.
-/
import Derived.Test.YtepgpihobmjbdaaGreatSearch
import Derived.Test.YtepgpihobmjbdaaGreatDivs
import Derived.Handy
import Derived.BigQuiet
set_option linter.unusedSimpArgs false
set_option linter.unusedVariables false
namespace Go.Proofs.YtepgpihobmjbdaaGreat
open Go.RowKit

theorem pzero2 : (Tryz.prog.info? 85).map (·.zero) = some (some (.agg #[.int .i64 0, .int .i64 0])) := by kernel_rfl
theorem psize2 : (Tryz.prog.info? 85).map (·.size) = some 2 := by kernel_rfl

/-- A function that rounds: which one, and what it gives. -/
structure Rounds (f : FuncId) (rd : Int → Int → Int) : Prop where
  call : ∀ (a b : Int) (w : World), 0 ≤ a → 1 ≤ b → a ≤ 4611686018427387903 → b ≤ 4611686018427387903 → Calls Tryz.prog f #[.int .i64 a, .int .i64 b] w fun e w' => e = .returned (.int .i64 (rd a b)) ∧ w = w'
  lo : ∀ a b : Int, 0 ≤ a → 1 ≤ b → 0 ≤ rd a b
  hi : ∀ a b : Int, 0 ≤ a → 1 ≤ b → rd a b ≤ a + b
theorem rounds_down : Rounds 36 (· / ·) := ⟨fun a b w h1 h2 h3 h4 => down_any a b w h1 h2 h3 h4, fun a b h1 h2 => Int.ediv_nonneg h1 (by omega), fun a b h1 h2 => by have := Int.ediv_le_self b h1; omega⟩
theorem rounds_up : Rounds 37 cdiv := ⟨fun a b w h1 h2 h3 h4 => up_any a b w h1 h2 h3 h4, fun a b h1 h2 => by rw [cdiv_eq (by omega)]; exact Int.ediv_nonneg (by omega) (by omega),
  fun a b h1 h2 => by rw [cdiv_eq (by omega)]; have := Int.ediv_le_self (a := a + b - 1) b (by omega); omega⟩

/-- What the closure gives: one end of the value. -/
def endOf (rd : Int → Int → Int) (l : List (Int × Int)) (z : Int) (v : Int) : Prop :=
  (∀ i, i < l.length → (l.getD i P0).1 = z → v = (l.getD i P0).2) ∧ (∀ i, i + 1 = l.length → (l.getD i P0).1 ≤ z → v = (l.getD i P0).2) ∧
  (∀ i, i + 1 < l.length → (l.getD i P0).1 ≤ z → z < (l.getD (i + 1) P0).1 → (l.getD i P0).1 ≠ z → v = (l.getD i P0).2 + rd (((l.getD (i + 1) P0).2 - (l.getD i P0).2) * (z - (l.getD i P0).1)) ((l.getD (i + 1) P0).1 - (l.getD i P0).1))
theorem end_down {l : List (Int × Int)} {most : Int} (hT : Tab l most) (z : Int) : endOf (· / ·) l z (valGo z l).1 :=
  ⟨fun i hi h => by rw [val_hit hT hi h], fun i hi h => by rw [val_end hT hi h], fun i hi h h2 _ => by rw [val_mid hT hi h h2]⟩
theorem end_up {l : List (Int × Int)} {most : Int} (hT : Tab l most) (z : Int) : endOf cdiv l z (valGo z l).2 :=
  ⟨fun i hi h => by rw [val_hit hT hi h], fun i hi h => by rw [val_end hT hi h], fun i hi h h2 _ => by rw [val_mid hT hi h h2]⟩

set_option maxHeartbeats 1000000 in
theorem worth1_down (A : Option Addr) (n c : Nat) (l : List (Int × Int)) (most z v : Int) (g : Nat) (w : World) (hn : l.length = n) (hT : Tab l most) (hmost : most ≤ 1073741824) (hz0 : 0 ≤ z) (hz : z ≤ 1073741824) (hl : Ints w w.heap.size .i64 A (flat2 l))
    (hg : Blk w g 22 #[.slice A n c]) (hv : endOf (· / ·) l z v) :
    Calls Tryz.prog 61 #[.int .i64 z, .func (.func 36) #[] #[], .pointer (some ⟨g, 0, none⟩)] w fun e w' => e = .returned (.int .i64 v) ∧ Below w.heap.size w w' := by
  have HT := hide hT
  have hlen := hT.len
  obtain ⟨b, off, hA, hb, hc⟩ := hl.pt (by omega)
  have Hc := hide hc
  have Hv := hide hv
  have HR := hide rounds_down
  have hS := search_any A n c l most z w hn hT hz0 hz hl
  have Hn := hide hn
  rw [hn] at hlen
  have hgc : w.cell? ⟨g, 0, none⟩ = some (.slice A n c) := hg.c 0 rfl
  have hglt := hg.lt
  subst hA
  clear hc hl hT hv hn
  go_enter Tryz.func61, Tryz.ntmps61
  go_wp2_with fail
  refine hS.mono ?_
  rintro e w1 ⟨i, hin, hlo, hhi, rfl, hb1⟩
  have hc1 : w1.cell? ⟨g, 0, none⟩ = some (.slice (some ⟨b, off, none⟩) n c) := (hb1.cell hglt).trans hgc
  have Hlo := hide hlo
  have Hhi := hide hhi
  have HB1 := hide hb1
  have hsz := hb1.size
  clear hlo hhi hb1 hgc hg hS
  by_cases h1 : i < n
  · by_cases h2 : (l.getD i P0).1 = z
    · have hd : decide (i < n ∧ (l.getD i P0).1 = z) = true := decide_eq_true ⟨h1, h2⟩
      rw [hd]
      have hc := Hc.out i (by have := Hn.out; omega)
      have hv := Hv.out.1 i (by have := Hn.out; omega) h2
      rw [← hv] at hc
      have hc2 := hc.2
      rw [← HB1.out.cell hb] at hc2
      clear hc hv hd h2
      go_wp2
      go_ret
      exact ⟨rfl, HB1.out⟩
    · have hd : decide (i < n ∧ (l.getD i P0).1 = z) = false := decide_eq_false fun h => h2 h.2
      rw [hd]
      have hge := Hhi.out i (by omega) h1
      have hi0 : i ≠ 0 := by rintro rfl; have := HT.out.z0; omega
      obtain ⟨j, rfl⟩ : ∃ j, i = j + 1 := ⟨i - 1, by omega⟩
      have hlt := Hlo.out j (by omega)
      have hv := Hv.out.2.2 j (by have := Hn.out; omega) (by omega) (by omega) (by omega)
      have hc := Hc.out j (by have := Hn.out; omega)
      have hd := Hc.out (j + 1) (by have := Hn.out; omega)
      have hr1 := HT.out.rng j (by have := Hn.out; omega)
      have hr2 := HT.out.rng (j + 1) (by have := Hn.out; omega)
      have hm := HT.out.mono j (by have := Hn.out; omega)
      clear hi0
      generalize (l.getD j P0).1 = z1 at *
      generalize (l.getD j P0).2 = r1 at *
      generalize (l.getD (j + 1) P0).1 = z2 at *
      generalize (l.getD (j + 1) P0).2 = r2 at *
      have Hv := hide hv
      clear hv h2
      obtain ⟨hc0, hc2⟩ := hc
      obtain ⟨hd0, hd2⟩ := hd
      rw [← HB1.out.cell hb] at hc0 hc2 hd0 hd2
      have q0 : (((j : Int) + 1) == (n : Int)) = false := beq_eq_false_iff_ne.2 (by omega)
      go_wp2_with fail
      refine wp_region_R (fun k => k < w1.heap.size) 13 (by kernel_rfl) ?_
      apply anyR_peel (fuel := 4) 13 [true, true, true, true, true, true, true, true, true, false, false, false, false] #[true, true, true, true, true, true, true, true, true, false, false, false, false] (by kernel_rfl) rfl (fun j hj => decide_eq_true hj) (fun k hk => by first | exact hk | omega | (simp at hk ⊢; omega))
      · intro D hD
        have hne := hD.some
        have g0 := liftB hD hc1 (by omega)
        have c0 := liftB hD hc0 (by omega)
        have c2 := liftB hD hc2 (by omega)
        have d0 := liftB hD hd0 (by omega)
        have d2 := liftB hD hd2 (by omega)
        simp only [takeOps]
        repeat (go_big_quiet_step (fail))
        exact wpQuiet_nil rfl
      refine anyR_pair (f := 0) 9 10 11 12 _ _ 8 9 38 42 _ _ #[.int .i64 z1, .int .i64 r1] #[.int .i64 z2, .int .i64 r2] (by kernel_rfl) rfl pzero2 psize2 rfl pzero2 psize2 rfl (by exact of_decide_eq_true rfl) (by exact of_decide_eq_true rfl) rfl rfl (one2 _ _) (one2 _ _) (fun k hk => hk) ?_
      intro g1 g2 w2 hg1 hg2 hne hb2 hbk1 hbk2
      simp only [Act.put, List.setIfInBounds_toArray, List.set_cons_succ, List.set_cons_zero]
      have HB2 := hide (onward HB1.out hb2)
      obtain ⟨c0, c1⟩ := hbk1.c2
      obtain ⟨d0, d1⟩ := hbk2.c2
      have hg1' := hbk1.lt
      have hg2' := hbk2.lt
      clear hbk1 hbk2 hc0 hc2 hd0 hd2 hb2 hc1
      have hp1 := mul_bd (a := r2 - r1) (b := z - z1) (A := 1073741824) (B := 1073741824) (by omega) (by omega) (by omega) (by omega)
      have q2 : (r2 - r1) * (z - z1) ≤ 4611686018427387903 := by omega
      have q3 : 0 ≤ (r2 - r1) * (z - z1) / (z2 - z1) := HR.out.lo ((r2 - r1) * (z - z1)) (z2 - z1) hp1.1 (by omega)
      have q4 : (r2 - r1) * (z - z1) / (z2 - z1) ≤ (r2 - r1) * (z - z1) + (z2 - z1) := HR.out.hi ((r2 - r1) * (z - z1)) (z2 - z1) hp1.1 (by omega)
      have q5 := hp1.1
      clear hp1
      go_wp2_with fail
      go_quiet ((go_at_call 36; exact quiet_left (down_any _ _ _ q5 (by omega) q2 (by omega))))
      go_wp2
      go_ret
      exact ⟨(ret_int Hv.out).symm, below_drewN HB2.out _⟩
  · obtain rfl : i = n := by omega
    obtain ⟨j, rfl⟩ : ∃ j, i = j + 1 := ⟨i - 1, by omega⟩
    have hd : decide (j + 1 < j + 1 ∧ (l.getD (j + 1) P0).1 = z) = false := decide_eq_false fun h => by omega
    rw [hd]
    have hlt := Hlo.out j (by omega)
    have hv := Hv.out.2.1 j (by have := Hn.out; omega) (by omega)
    have hc := Hc.out j (by have := Hn.out; omega)
    rw [← hv] at hc
    have hc2 := hc.2
    rw [← HB1.out.cell hb] at hc2
    clear hc hv hd
    go_wp2
    go_ret
    exact ⟨rfl, HB1.out⟩

set_option maxHeartbeats 1000000 in
theorem worth1_up (A : Option Addr) (n c : Nat) (l : List (Int × Int)) (most z v : Int) (g : Nat) (w : World) (hn : l.length = n) (hT : Tab l most) (hmost : most ≤ 1073741824) (hz0 : 0 ≤ z) (hz : z ≤ 1073741824) (hl : Ints w w.heap.size .i64 A (flat2 l))
    (hg : Blk w g 22 #[.slice A n c]) (hv : endOf cdiv l z v) :
    Calls Tryz.prog 61 #[.int .i64 z, .func (.func 37) #[] #[], .pointer (some ⟨g, 0, none⟩)] w fun e w' => e = .returned (.int .i64 v) ∧ Below w.heap.size w w' := by
  have HT := hide hT
  have hlen := hT.len
  obtain ⟨b, off, hA, hb, hc⟩ := hl.pt (by omega)
  have Hc := hide hc
  have Hv := hide hv
  have HR := hide rounds_up
  have hS := search_any A n c l most z w hn hT hz0 hz hl
  have Hn := hide hn
  rw [hn] at hlen
  have hgc : w.cell? ⟨g, 0, none⟩ = some (.slice A n c) := hg.c 0 rfl
  have hglt := hg.lt
  subst hA
  clear hc hl hT hv hn
  go_enter Tryz.func61, Tryz.ntmps61
  go_wp2_with fail
  refine hS.mono ?_
  rintro e w1 ⟨i, hin, hlo, hhi, rfl, hb1⟩
  have hc1 : w1.cell? ⟨g, 0, none⟩ = some (.slice (some ⟨b, off, none⟩) n c) := (hb1.cell hglt).trans hgc
  have Hlo := hide hlo
  have Hhi := hide hhi
  have HB1 := hide hb1
  have hsz := hb1.size
  clear hlo hhi hb1 hgc hg hS
  by_cases h1 : i < n
  · by_cases h2 : (l.getD i P0).1 = z
    · have hd : decide (i < n ∧ (l.getD i P0).1 = z) = true := decide_eq_true ⟨h1, h2⟩
      rw [hd]
      have hc := Hc.out i (by have := Hn.out; omega)
      have hv := Hv.out.1 i (by have := Hn.out; omega) h2
      rw [← hv] at hc
      have hc2 := hc.2
      rw [← HB1.out.cell hb] at hc2
      clear hc hv hd h2
      go_wp2
      go_ret
      exact ⟨rfl, HB1.out⟩
    · have hd : decide (i < n ∧ (l.getD i P0).1 = z) = false := decide_eq_false fun h => h2 h.2
      rw [hd]
      have hge := Hhi.out i (by omega) h1
      have hi0 : i ≠ 0 := by rintro rfl; have := HT.out.z0; omega
      obtain ⟨j, rfl⟩ : ∃ j, i = j + 1 := ⟨i - 1, by omega⟩
      have hlt := Hlo.out j (by omega)
      have hv := Hv.out.2.2 j (by have := Hn.out; omega) (by omega) (by omega) (by omega)
      have hc := Hc.out j (by have := Hn.out; omega)
      have hd := Hc.out (j + 1) (by have := Hn.out; omega)
      have hr1 := HT.out.rng j (by have := Hn.out; omega)
      have hr2 := HT.out.rng (j + 1) (by have := Hn.out; omega)
      have hm := HT.out.mono j (by have := Hn.out; omega)
      clear hi0
      generalize (l.getD j P0).1 = z1 at *
      generalize (l.getD j P0).2 = r1 at *
      generalize (l.getD (j + 1) P0).1 = z2 at *
      generalize (l.getD (j + 1) P0).2 = r2 at *
      have Hv := hide hv
      clear hv h2
      obtain ⟨hc0, hc2⟩ := hc
      obtain ⟨hd0, hd2⟩ := hd
      rw [← HB1.out.cell hb] at hc0 hc2 hd0 hd2
      have q0 : (((j : Int) + 1) == (n : Int)) = false := beq_eq_false_iff_ne.2 (by omega)
      go_wp2_with fail
      refine wp_region_R (fun k => k < w1.heap.size) 13 (by kernel_rfl) ?_
      apply anyR_peel (fuel := 4) 13 [true, true, true, true, true, true, true, true, true, false, false, false, false] #[true, true, true, true, true, true, true, true, true, false, false, false, false] (by kernel_rfl) rfl (fun j hj => decide_eq_true hj) (fun k hk => by first | exact hk | omega | (simp at hk ⊢; omega))
      · intro D hD
        have hne := hD.some
        have g0 := liftB hD hc1 (by omega)
        have c0 := liftB hD hc0 (by omega)
        have c2 := liftB hD hc2 (by omega)
        have d0 := liftB hD hd0 (by omega)
        have d2 := liftB hD hd2 (by omega)
        simp only [takeOps]
        repeat (go_big_quiet_step (fail))
        exact wpQuiet_nil rfl
      refine anyR_pair (f := 0) 9 10 11 12 _ _ 8 9 38 42 _ _ #[.int .i64 z1, .int .i64 r1] #[.int .i64 z2, .int .i64 r2] (by kernel_rfl) rfl pzero2 psize2 rfl pzero2 psize2 rfl (by exact of_decide_eq_true rfl) (by exact of_decide_eq_true rfl) rfl rfl (one2 _ _) (one2 _ _) (fun k hk => hk) ?_
      intro g1 g2 w2 hg1 hg2 hne hb2 hbk1 hbk2
      simp only [Act.put, List.setIfInBounds_toArray, List.set_cons_succ, List.set_cons_zero]
      have HB2 := hide (onward HB1.out hb2)
      obtain ⟨c0, c1⟩ := hbk1.c2
      obtain ⟨d0, d1⟩ := hbk2.c2
      have hg1' := hbk1.lt
      have hg2' := hbk2.lt
      clear hbk1 hbk2 hc0 hc2 hd0 hd2 hb2 hc1
      have hp1 := mul_bd (a := r2 - r1) (b := z - z1) (A := 1073741824) (B := 1073741824) (by omega) (by omega) (by omega) (by omega)
      have q2 : (r2 - r1) * (z - z1) ≤ 4611686018427387903 := by omega
      have q3 : 0 ≤ cdiv ((r2 - r1) * (z - z1)) (z2 - z1) := HR.out.lo ((r2 - r1) * (z - z1)) (z2 - z1) hp1.1 (by omega)
      have q4 : cdiv ((r2 - r1) * (z - z1)) (z2 - z1) ≤ (r2 - r1) * (z - z1) + (z2 - z1) := HR.out.hi ((r2 - r1) * (z - z1)) (z2 - z1) hp1.1 (by omega)
      have q5 := hp1.1
      clear hp1
      go_wp2_with fail
      go_quiet ((go_at_call 37; exact quiet_left (up_any _ _ _ q5 (by omega) q2 (by omega))))
      go_wp2
      go_ret
      exact ⟨(ret_int Hv.out).symm, below_drewN HB2.out _⟩
  · obtain rfl : i = n := by omega
    obtain ⟨j, rfl⟩ : ∃ j, i = j + 1 := ⟨i - 1, by omega⟩
    have hd : decide (j + 1 < j + 1 ∧ (l.getD (j + 1) P0).1 = z) = false := decide_eq_false fun h => by omega
    rw [hd]
    have hlt := Hlo.out j (by omega)
    have hv := Hv.out.2.1 j (by have := Hn.out; omega) (by omega)
    have hc := Hc.out j (by have := Hn.out; omega)
    rw [← hv] at hc
    have hc2 := hc.2
    rw [← HB1.out.cell hb] at hc2
    clear hc hv hd
    go_wp2
    go_ret
    exact ⟨rfl, HB1.out⟩

/-- The closure over a table. -/
theorem worth_any (A : Option Addr) (n c : Nat) (w : World) :
    Calls Tryz.prog 35 #[.slice A n c] w fun e w' => e = .returned (.func (.func 61) #[] #[.pointer (some ⟨w.heap.size, 0, none⟩)]) ∧ w.alloc (.cells #[.slice A n c] 22) = w' := by
  have hmf : ∀ (fn : Fn) (first cap : Array Value) (w : World), (Instr.makeFunc fn first cap).run Tryz.prog w = .ok (.func fn first cap) w := fun _ _ _ _ => rfl
  go_enter Tryz.func35, Tryz.ntmps35
  go_wp2
  go_ret
  exact ⟨rfl, rfl⟩
end Go.Proofs.YtepgpihobmjbdaaGreat
namespace Go.Proofs.YtepgpihobmjbdaaGreat
open Go.RowKit

set_option maxHeartbeats 400000 in
theorem CheckTable_any (A : Option Addr) (n c : Nat) (l : List (Int × Int)) (most : Int) (w : World) (hn : l.length = n) (hmax : n ≤ 9223372036854775807) (hl : Ints w w.heap.size .i64 A (flat2 l)) :
    Calls Tryz.prog 33 #[.slice A n c, .int .i64 most] w fun e w' => e = .returned (.int .i64 (chk l most)) ∧ Below w.heap.size w w' := by
  by_cases h2 : (n : Int) < 2
  · have hs : chk l most = 18 := by unfold chk; rw [if_pos (by omega)]
    have Hs := hide hs
    clear hs
    clear hn
    go_enter Tryz.func33, Tryz.ntmps33
    go_wp2
    go_ret
    exact ⟨(ret_int Hs.out).symm, Below.refl _ _⟩
  by_cases h3 : (32 : Int) < n
  · have hs : chk l most = 9 := by unfold chk; rw [if_neg (by omega), if_pos (by omega)]
    have Hs := hide hs
    clear hs
    clear hn
    go_enter Tryz.func33, Tryz.ntmps33
    go_wp2
    go_ret
    exact ⟨(ret_int Hs.out).symm, Below.refl _ _⟩
  have hs : chk l most = chkGo most 0 (-1) 0 l := by unfold chk; rw [if_neg (by omega), if_neg (by omega)]
  have Hs := hide hs
  clear hs
  obtain ⟨b, off, rfl, hb, hc⟩ := hl.pt (by omega)
  have Hc := hide hc
  clear hc hl
  have Hn := hide hn
  clear hn
  go_enter Tryz.func33, Tryz.ntmps33
  go_wp2_with fail
  go_loopw [19] (fun i wr => ∃ (k : Nat) (bz br : Int), k ≤ n ∧ i = .int .i64 k ∧ Below w.heap.size w wr ∧ w.heap.size < wr.heap.size ∧ Blk wr w.heap.size 85 #[.int .i64 bz, .int .i64 br] ∧ chkGo most k bz br (l.drop k) = chkGo most 0 (-1) 0 l)
    (fun i _ => n - (intOf i).toNat)
  case atStart => exact ⟨0, -1, 0, by omega, rfl, (Below.refl _ _).alloc (Nat.le_refl _) _, by simp, Blk.new _ _ _, rfl⟩
  case round =>
    obtain ⟨k, bz, br, hk, rfl, hbw, hsz, hbl, hg⟩ := hrel
    have Hg := hide hg
    have Hb := hide hbl
    have b0 := hbl.cell 0
    have b1 := hbl.cell 1
    have f0 := hbl.frozen 0
    have f1 := hbl.frozen 1
    clear hg hbl
    simp only [List.getElem?_toArray, List.getElem?_cons_zero, List.getElem?_cons_succ] at b0 b1
    by_cases hlt : k < n
    · have hc := Hc.out k (by have := Hn.out; omega)
      have hd := chkGo_drop most k bz br l k (by have := Hn.out; omega)
      rw [Hg.out] at hd
      generalize (l.getD k (0, 0)).1 = z at hc hd
      generalize (l.getD k (0, 0)).2 = r at hc hd
      have Hd := hide hd
      clear hd
      obtain ⟨hc0, hc1⟩ := hc
      rw [← hbw.cell hb] at hc0 hc1
      have Hbw := hide hbw
      clear hbw
      by_cases hw1 : win z 0 1073741824 = true
      · by_cases hw2 : win r 0 most = true
        · go_wp2_with (first | (go_at_call 34; refine (within_any _ _ _ _).mono ?_; rintro e w' ⟨rfl, rfl⟩))
          all_goals first
            | (go_ret
               have hd := Hd.out
               rw [if_neg (by simp [hw1, hw2]), if_pos (by omega)] at hd
               exact ⟨(ret_int (Hs.out.trans hd)).symm, Hbw.out.alloc (by omega) _⟩)
            | (go_roundw
               case rel =>
                 have hd := Hd.out
                 rw [if_neg (by simp [hw1, hw2]), if_neg (by omega)] at hd
                 exact ⟨k + 1, z, r, by omega, by go_num, ((Hbw.out.setCell (by simp) _).setCell (by simp) _).alloc (by simp; omega) _, by simp; omega, (((Hb.out.set_ 0 _).set_ 1 _).alloc _), hd.symm⟩
               case measure => simp [intOf]; omega)
        · have hw3 : win r 0 most = false := by simpa using hw2
          go_wp2_with (first | (go_at_call 34; refine (within_any _ _ _ _).mono ?_; rintro e w' ⟨rfl, rfl⟩))
          go_ret
          have hd := Hd.out
          rw [if_pos (by simp [hw3])] at hd
          exact ⟨(ret_int (Hs.out.trans hd)).symm, Hbw.out.alloc (by omega) _⟩
      · have hw3 : win z 0 1073741824 = false := by simpa using hw1
        go_wp2_with (first | (go_at_call 34; refine (within_any _ _ _ _).mono ?_; rintro e w' ⟨rfl, rfl⟩))
        go_ret
        have hd := Hd.out
        rw [if_pos (by simp [hw3])] at hd
        exact ⟨(ret_int (Hs.out.trans hd)).symm, Hbw.out.alloc (by omega) _⟩
    · have hz := Hg.out
      rw [chkGo_end _ _ _ _ _ _ (by have := Hn.out; omega)] at hz
      have Hz := hide hz
      clear hz
      go_wp2
      go_ret
      exact ⟨(ret_int (Hs.out.trans Hz.out.symm)).symm, hbw⟩
end Go.Proofs.YtepgpihobmjbdaaGreat
namespace Go.Proofs.YtepgpihobmjbdaaGreat
open Go.RowKit

set_option maxHeartbeats 800000 in
theorem RefCheckTable_any (A : Option Addr) (n c : Nat) (l : List (Int × Int)) (most : Int) (w : World) (hn : l.length = n) (hmax : n ≤ 9223372036854775807) (hl : Ints w w.heap.size .i64 A (flat2 l)) :
    Calls Tryz.prog 74 #[.slice A n c, .int .i64 most] w fun e w' => e = .returned (.int .i64 (chk l most)) ∧ Below w.heap.size w w' := by
  by_cases h2 : (n : Int) < 2
  · have hs : chk l most = 18 := by unfold chk; rw [if_pos (by omega)]
    have Hs := hide hs
    clear hs
    clear hn
    go_enter Tryz.func74, Tryz.ntmps74
    go_wp2
    go_ret
    exact ⟨(ret_int Hs.out).symm, Below.refl _ _⟩
  by_cases h3 : (32 : Int) < n
  · have hs : chk l most = 9 := by unfold chk; rw [if_neg (by omega), if_pos (by omega)]
    have Hs := hide hs
    clear hs
    clear hn
    go_enter Tryz.func74, Tryz.ntmps74
    go_wp2
    go_ret
    exact ⟨(ret_int Hs.out).symm, Below.refl _ _⟩
  have hs : chk l most = chkGo most 0 (-1) 0 l := by unfold chk; rw [if_neg (by omega), if_neg (by omega)]
  have Hs := hide hs
  clear hs
  obtain ⟨b, off, rfl, hb, hc⟩ := hl.pt (by omega)
  have Hc := hide hc
  clear hc hl
  have Hn := hide hn
  clear hn
  go_enter Tryz.func74, Tryz.ntmps74
  go_wp2_with fail
  go_loopw [5] (fun i wr => ∃ (k m : Nat), k ≤ n ∧ i = .int .i64 k ∧ wr = w.drewN m ∧ chkGo most k (pz l k) (pr l k) (l.drop k) = chkGo most 0 (-1) 0 l)
    (fun i _ => n - (intOf i).toNat)
  case atStart => exact ⟨0, 0, by omega, rfl, rfl, rfl⟩
  case round =>
    obtain ⟨k, m, hk, rfl, rfl, hg⟩ := hrel
    have Hg := hide hg
    clear hg
    by_cases hlt : k < n
    · have hc := Hc.out k (by have := Hn.out; omega)
      have hd := chkGo_drop most k (pz l k) (pr l k) l k (by have := Hn.out; omega)
      rw [Hg.out] at hd
      have hz1 : pz l (k + 1) = (l.getD k (0, 0)).1 := by simp [pz]
      have hr1 : pr l (k + 1) = (l.getD k (0, 0)).2 := by simp [pr]
      generalize (l.getD k (0, 0)).1 = z at hc hd hz1
      generalize (l.getD k (0, 0)).2 = r at hc hd hr1
      have Hz1 := hide hz1
      have Hr1 := hide hr1
      clear hz1 hr1
      obtain ⟨hc0, hc1⟩ := hc
      by_cases hw1 : win z 0 1073741824 = true
      · by_cases hw2 : win r 0 most = true
        · have hb1 := win_iff.1 hw1
          have hb2 := win_iff.1 hw2
          rw [if_neg (by simp [hw1, hw2])] at hd
          by_cases h0 : k = 0
          · subst h0
            simp only [Nat.zero_mul, Nat.add_zero] at hc0 hc1
            have hd' : chkGo most 0 (-1) 0 l = if z ≠ 0 then 12 else chkGo most (0 + 1) z r (l.drop (0 + 1)) := by
              have e1 : pz l 0 = -1 := rfl
              have e2 : pr l 0 = 0 := rfl
              rw [hd, e1, e2]
              by_cases hz : z = 0
              · rw [if_neg (by omega), if_neg (by omega)]
              · rw [if_pos (by omega), if_pos hz]
            have Hd := hide hd'
            clear hd hd'
            by_cases hz : z = 0
            · subst hz
              go_wp2_with (first | (go_at_call 52; refine (In_any _ _ _ _).mono ?_; rintro e w' ⟨rfl, rfl⟩))
              go_quiet (fail)
              go_wp2
              go_roundw
              case rel => exact ⟨1, _, by omega, rfl, rfl, by rw [Hz1.out, Hr1.out, Hd.out, if_neg (by omega)]⟩
              case measure => simp [intOf]; omega
            · have hz1 : (z != 0) = true := by simp [bne, hz]
              clear hz
              go_wp2_with (first | (go_at_call 52; refine (In_any _ _ _ _).mono ?_; rintro e w' ⟨rfl, rfl⟩))
              go_quiet (fail)
              go_wp2
              go_ret
              exact ⟨(ret_int (by rw [Hs.out, Hd.out, if_pos (by simpa using hz1)])).symm, below_drewN (below_drewN (Below.refl _ _) _) _⟩
          · obtain ⟨j, rfl⟩ : ∃ j, k = j + 1 := ⟨k - 1, by omega⟩
            have hp := Hc.out j (by have := Hn.out; omega)
            have e1 : pz l (j + 1) = (l.getD j (0, 0)).1 := by simp [pz]
            have e2 : pr l (j + 1) = (l.getD j (0, 0)).2 := by simp [pr]
            rw [e1, e2] at hd
            clear e1 e2 h0
            generalize (l.getD j (0, 0)).1 = z0 at hp hd
            generalize (l.getD j (0, 0)).2 = r0 at hp hd
            obtain ⟨hp0, hp1⟩ := hp
            have Hd := hide hd
            clear hd
            have q0 : (((j : Int) + 1) == 0) = false := beq_eq_false_iff_ne.2 (by omega)
            have q1 : decide (0 < (j : Int) + 1) = true := decide_eq_true (by omega)
            by_cases hz : z ≤ z0
            · have q2 : decide (z ≤ z0) = true := by simpa using hz
              go_wp2_with (first | (go_at_call 52; refine (In_any _ _ _ _).mono ?_; rintro e w' ⟨rfl, rfl⟩))
              go_quiet (fail)
              go_wp2
              go_ret
              exact ⟨(ret_int (by rw [Hs.out, Hd.out, if_pos (by omega)])).symm, below_drewN (below_drewN (Below.refl _ _) _) _⟩
            · have q2 : decide (z ≤ z0) = false := by simpa using hz
              by_cases hr : r < r0
              · go_wp2_with (first | (go_at_call 52; refine (In_any _ _ _ _).mono ?_; rintro e w' ⟨rfl, rfl⟩))
                go_quiet (fail)
                go_wp2
                go_ret
                exact ⟨(ret_int (by rw [Hs.out, Hd.out, if_pos (by omega)])).symm, below_drewN (below_drewN (Below.refl _ _) _) _⟩
              · go_wp2_with (first | (go_at_call 52; refine (In_any _ _ _ _).mono ?_; rintro e w' ⟨rfl, rfl⟩))
                go_quiet (fail)
                go_wp2
                go_roundw
                case rel => exact ⟨j + 1 + 1, _, by omega, by go_num, rfl, by rw [Hz1.out, Hr1.out, Hd.out, if_neg (by omega)]⟩
                case measure => simp [intOf]; omega
        · have hw3 : win r 0 most = false := by simpa using hw2
          rw [if_pos (by simp [hw3])] at hd
          have Hd := hide hd
          clear hd
          go_wp2_with (first | (go_at_call 52; refine (In_any _ _ _ _).mono ?_; rintro e w' ⟨rfl, rfl⟩))
          go_ret
          exact ⟨(ret_int (by rw [Hs.out, Hd.out])).symm, below_drewN (Below.refl _ _) _⟩
      · have hw3 : win z 0 1073741824 = false := by simpa using hw1
        rw [if_pos (by simp [hw3])] at hd
        have Hd := hide hd
        clear hd
        go_wp2_with (first | (go_at_call 52; refine (In_any _ _ _ _).mono ?_; rintro e w' ⟨rfl, rfl⟩))
        go_ret
        exact ⟨(ret_int (by rw [Hs.out, Hd.out])).symm, below_drewN (Below.refl _ _) _⟩
    · have hz := Hg.out
      rw [chkGo_end _ _ _ _ _ _ (by have := Hn.out; omega)] at hz
      have Hz := hide hz
      clear hz
      go_wp2
      go_ret
      exact ⟨(ret_int (Hs.out.trans Hz.out.symm)).symm, below_drewN (Below.refl _ _) _⟩
end Go.Proofs.YtepgpihobmjbdaaGreat
namespace Go.Proofs.YtepgpihobmjbdaaGreat
open Go.RowKit

theorem zero2 : (Tryz.prog.info? 109).map (·.zero) = some (some (.agg #[.int .i64 0, .int .i64 0])) := by kernel_rfl
theorem size2 : (Tryz.prog.info? 109).map (·.size) = some 2 := by kernel_rfl
theorem sizeSpan : (Tryz.prog.info? 24).map (·.size) = some 2 := by kernel_rfl

set_option maxHeartbeats 800000 in
theorem value_any (A : Option Addr) (n c : Nat) (l : List (Int × Int)) (most z : Int) (w : World) (hn : l.length = n) (hT : Tab l most) (hmost : most ≤ 1073741824) (hz0 : 0 ≤ z) (hz : z ≤ 1073741824) (hl : Ints w w.heap.size .i64 A (flat2 l)) :
    Calls Tryz.prog 28 #[.slice A n c, .int .i64 z] w fun e w' => e = .returned (.agg #[.int .i64 (valGo z l).1, .int .i64 (valGo z l).2]) ∧ Below w.heap.size w w' := by
  obtain ⟨hlen1, hlen2⟩ := hT.len
  obtain ⟨b, off, rfl, hb, hc⟩ := hl.pt (by omega)
  have Hc := hide hc
  have HT := hide hT
  clear hc hl hT
  have Hn := hide hn
  rw [hn] at hlen1 hlen2
  clear hn
  go_enter Tryz.func28, Tryz.ntmps28
  go_wp2_with fail
  go_loopw [5] (fun i wr => ∃ k : Nat, k + 1 ≤ n ∧ i = .int .i64 k ∧ Below w.heap.size w wr ∧ Blk wr w.heap.size 24 #[.int .i64 0, .int .i64 0] ∧ (k = 0 ∨ (l.getD k P0).1 ≤ z) ∧ valGo z (l.drop k) = valGo z l)
    (fun i _ => n - (intOf i).toNat)
  case atStart => exact ⟨0, by omega, rfl, (Below.refl _ _).alloc (Nat.le_refl _) _, Blk.new _ _ _, .inl rfl, rfl⟩
  case round =>
    obtain ⟨k, hk, rfl, hbw, hbl, hkz, hg⟩ := hrel
    have hsz := hbl.lt
    have Hbl := hide hbl
    have Hg := hide hg
    have Hbw := hide hbw
    by_cases hlt : k + 1 < n
    · have hc := Hc.out k (by have := Hn.out; omega)
      have hd := Hc.out (k + 1) (by have := Hn.out; omega)
      have hr1 := HT.out.rng k (by have := Hn.out; omega)
      have hr2 := HT.out.rng (k + 1) (by have := Hn.out; omega)
      have hm := HT.out.mono k (by have := Hn.out; omega)
      have hv := val_drop z (l := l) (k := k) (by have := Hn.out; omega)
      have hk0 : (l.getD k P0).1 ≤ z := by
        rcases hkz with h | h
        · subst h; rw [HT.out.z0]; exact hz0
        · exact h
      rw [hg] at hv
      generalize hK : valGo z (l.drop (k + 1)) = K at hv
      have HK := hide hK
      clear hg hbl hK hkz
      generalize (l.getD k P0).1 = z1 at *
      generalize (l.getD k P0).2 = r1 at *
      generalize hz2 : (l.getD (k + 1) P0).1 = z2 at *
      generalize (l.getD (k + 1) P0).2 = r2 at *
      have Hz2 := hide hz2
      have Hv := hide hv
      clear hz2 hv
      obtain ⟨hc0, hc1⟩ := hc
      obtain ⟨hd0, hd1⟩ := hd
      rw [← hbw.cell hb] at hc0 hc1 hd0 hd1
      clear hbw
      go_wp2_with fail
      refine wp_region_R (fun k => k < wr.heap.size) 13 (by kernel_rfl) ?_
      apply anyR_peel (fuel := 4) 13 [true, true, true, true, true, true, true, true, true, false, false, false, false] #[true, true, true, true, true, true, true, true, true, false, false, false, false] (by kernel_rfl) rfl (fun j hj => decide_eq_true hj) (fun k hk => by first | exact hk | omega | (simp at hk ⊢; omega))
      · intro D hD
        have hne := hD.some
        have c0 := liftB hD hc0 (by omega)
        have c1 := liftB hD hc1 (by omega)
        have d0 := liftB hD hd0 (by omega)
        have d1 := liftB hD hd1 (by omega)
        simp only [takeOps]
        repeat (go_big_quiet_step (fail))
        exact wpQuiet_nil rfl
      refine anyR_pair (f := 0) 9 10 11 12 _ _ 6 7 21 26 _ _ #[.int .i64 z1, .int .i64 r1] #[.int .i64 z2, .int .i64 r2] (by kernel_rfl) rfl zero2 size2 rfl zero2 size2 rfl (by exact of_decide_eq_true rfl) (by exact of_decide_eq_true rfl) rfl rfl (one2 _ _) (one2 _ _) (fun k hk => hk) ?_
      intro g1 g2 w1 hg1 hg2 hne hb1 hbk1 hbk2
      simp only [Act.put, List.setIfInBounds_toArray, List.set_cons_succ, List.set_cons_zero]
      have hs1 := hb1.size
      have B1 := below_later' (Hbw.out) hb1 (by omega)
      have Bl1 := hide (blk_later Hbl.out hb1)
      have HB1 := hide B1
      clear B1 hb1 hc0 hc1 hd0 hd1
      obtain ⟨c0, c1⟩ := hbk1.c2
      obtain ⟨d0, d1⟩ := hbk2.c2
      have hg1' := hbk1.lt
      have hg2' := hbk2.lt
      clear hbk1 hbk2
      have hp1 := mul_bd (a := r2 - r1) (b := z - z1) (A := 1073741824) (B := 1073741824) (by omega) (by omega) (by omega) (by omega)
      by_cases hzz : z < z2
      · go_wp2_with fail
        go_quiet (fail)
        go_wp2_with fail
        have q1 : (r2 - r1) * (z - z1) ≤ 4611686018427387903 := by omega
        have q2 : -4611686018427387903 ≤ (r2 - r1) * (z - z1) := by omega
        have q3 : 0 ≤ (r2 - r1) * (z - z1) / (z2 - z1) := Int.ediv_nonneg (by omega) (by omega)
        have q4 : (r2 - r1) * (z - z1) / (z2 - z1) ≤ (r2 - r1) * (z - z1) := Int.ediv_le_self _ (by omega)
        have q5 : 0 ≤ cdiv ((r2 - r1) * (z - z1)) (z2 - z1) := by rw [cdiv_eq (by omega)]; exact Int.ediv_nonneg (by omega) (by omega)
        have q6 : cdiv ((r2 - r1) * (z - z1)) (z2 - z1) ≤ (r2 - r1) * (z - z1) + (z2 - z1) - 1 := by rw [cdiv_eq (by omega)]; exact Int.ediv_le_self _ (by omega)
        refine wp_region_R (fun k => k < w1.heap.size) 13 (by kernel_rfl) ?_
        apply anyR_peel (fuel := 1) 13 [true, true, true, true, true, true, true, true, true, true, true, true, true, false] #[true, true, true, true, true, true, true, true, true, true, true, true, true, false] (by kernel_rfl) rfl (fun j hj => decide_eq_true hj) (fun k hk => by first | exact hk | omega | (simp at hk ⊢; omega))
        · intro D hD
          have hne := hD.some
          have c0 := liftB hD c0 (by omega)
          have c1 := liftB hD c1 (by omega)
          have d0 := liftB hD d0 (by omega)
          have d1 := liftB hD d1 (by omega)
          simp only [takeOps]
          repeat (go_big_quiet_step ((first | (go_at_call 26; exact calls_same _ (Down_any _ _ _ (by omega) (by omega) (by omega) (by omega))) | (go_at_call 27; exact calls_same _ (Up_any _ _ _ (by omega) (by omega) (by omega) (by omega))))))
          exact wpQuiet_nil rfl
        refine anyR_fill (f := 0) 13 _ 24 4 58 w.heap.size #[.int .i64 0, .int .i64 0] #[_, _] (by kernel_rfl) rfl rfl rfl Bl1.out sizeSpan rfl (one2 _ _) (by simp) ?_
        intro w2 hgr hbk
        obtain ⟨e0, e1⟩ := hbk.c2
        have hv := Hv.out
        rw [if_pos hzz] at hv
        have Hv2 := hide hv
        clear hv
        go_wp2
        refine bodyPost_ret (v := .agg #[.int .i64 (r1 + (r2 - r1) * (z - z1) / (z2 - z1)), .int .i64 (r1 + cdiv ((r2 - r1) * (z - z1)) (z2 - z1))]) (by simp [results, Tryz.results28, go_sem, e0, e1]) rfl ⟨?_, ?_⟩
        · rw [Hv2.out]
        · exact (below_drewN HB1.out nq).grown hgr (by have := HB1.out.size; simpa using this) (fun k hk => by simp at hk; omega)
      · have hv := Hv.out
        rw [if_neg hzz] at hv
        have Hv2 := hide hv
        clear hv
        go_wp2
        go_roundw
        case rel => exact ⟨k + 1, by omega, by go_num, HB1.out, Bl1.out, .inr (by rw [Hz2.out]; omega), HK.out.trans Hv2.out.symm⟩
        case measure => simp [intOf]; omega
    · obtain rfl : n = k + 1 := by omega
      have hc := Hc.out k (by have := Hn.out; omega)
      have hv := val_last z (l := l) (k := k) (by have := Hn.out; omega)
      rw [hg] at hv
      have Hv := hide hv
      clear hg hbl hv hkz
      generalize (l.getD k P0).1 = z1 at *
      generalize (l.getD k P0).2 = r1 at *
      obtain ⟨hc0, hc1⟩ := hc
      rw [← hbw.cell hb] at hc1
      clear hc0 hbw
      obtain ⟨e0, e1⟩ := Hbl.out.c2
      have f0 := Hbl.out.frozen 0
      have f1 := Hbl.out.frozen 1
      go_wp2
      refine bodyPost_ret (v := .agg #[.int .i64 r1, .int .i64 r1]) (by simp [results, Tryz.results28, go_sem, e0, e1]) rfl ⟨?_, ?_⟩
      · rw [Hv.out]
      · exact (Hbw.out.setCell (by simp) _).setCell (by simp) _
end Go.Proofs.YtepgpihobmjbdaaGreat
namespace Go.Proofs.YtepgpihobmjbdaaGreat
open Go.RowKit

/-- What Value returns. -/
def valueR (l : List (Int × Int)) (z : Int) : (Int × Int) × Int := if chk l 1073741824 ≠ 0 then ((0, 0), chk l 1073741824) else if win z 0 1073741824 = false then ((0, 0), 3) else (valGo z l, 0)
def spanV (s : Int × Int) : Value := .agg #[.int .i64 s.1, .int .i64 s.2]
def spanE (s : (Int × Int) × Int) : Value := .tuple #[.agg #[.int .i64 s.1.1, .int .i64 s.1.2], .int .i64 s.2]

set_option maxHeartbeats 800000 in
theorem Value_any (A : Option Addr) (n c : Nat) (l : List (Int × Int)) (z : Int) (w : World) (hn : l.length = n) (hmax : n ≤ 9223372036854775807) (hl : Ints w w.heap.size .i64 A (flat2 l)) :
    Calls Tryz.prog 13 #[.slice A n c, .int .i64 z] w fun e w' => e = .returned (spanE (valueR l z)) ∧ Below w.heap.size w w' := by
  have hb0 : Below w.heap.size w (w.alloc (.cells #[.int .i64 0, .int .i64 0] 24)) := (Below.refl _ _).alloc (Nat.le_refl _) _
  have hchk := CheckTable_any A n c l 1073741824 (w.alloc (.cells #[.int .i64 0, .int .i64 0] 24)) hn hmax ((hl.below hb0).more (by simp))
  by_cases h1 : chk l 1073741824 = 0
  · have hT := tab_of h1
    have HT := hide hT
    by_cases h2 : win z 0 1073741824 = true
    · have hz := win_iff.1 h2
      have hR : valueR l z = (valGo z l, 0) := by simp [valueR, h1, h2]
      have HR := hide hR
      have H1 := hide h1
      have Hl := hide hl
      have Hn := hide hn
      have Hb0 := hide hb0
      rw [h1] at hchk
      clear hR h1 hl hT hn hb0
      go_enter Tryz.func13, Tryz.ntmps13
      go_wp2_with fail
      refine hchk.mono ?_
      rintro e w1 ⟨rfl, hb1⟩
      clear hchk
      have hB1 := Hb0.out.trans (hb1.mono (by simp))
      have HB1 := hide hB1
      have hbk : Blk w1 w.heap.size 24 #[.int .i64 0, .int .i64 0] := (Blk.new w _ _).below hb1 (by simp)
      have Hbk := hide hbk
      clear hb1 hB1 hbk
      go_wp2_with (first | (go_at_call 34; refine (within_any _ _ _ _).mono ?_; rintro e w' ⟨rfl, rfl⟩) | (go_at_call 35; refine (worth_any _ _ _ _).mono ?_; rintro e w' ⟨rfl, rfl⟩))
      have hs1 := HB1.out.size
      have bw : Below w.heap.size w (w1.alloc (.cells #[.slice A n c] 22)) := HB1.out.alloc hs1 _
      refine (worth1_down A n c l 1073741824 z (valGo z l).1 w1.heap.size _ Hn.out HT.out (Int.le_refl _) hz.1 hz.2 ((Hl.out.below bw).more (by simp; omega)) (Blk.new _ _ _) (end_down HT.out z)).mono ?_
      rintro e w2 ⟨rfl, hb2⟩
      have bw2 := bw.trans (hb2.mono (by simp; omega))
      have bk2 : Blk w2 w1.heap.size 22 #[.slice A n c] := (Blk.new w1 _ _).below hb2 (by simp)
      have hbk2 : Blk w2 w.heap.size 24 #[.int .i64 0, .int .i64 0] := (Hbk.out.alloc _).below hb2 (by have := Hbk.out.lt; simp; omega)
      have Hbk2 := hide hbk2
      clear hb2 bw hbk2
      go_wp2_with fail
      refine (worth1_up A n c l 1073741824 z (valGo z l).2 w1.heap.size _ Hn.out HT.out (Int.le_refl _) hz.1 hz.2 ((Hl.out.below bw2).more bw2.size) bk2 (end_up HT.out z)).mono ?_
      rintro e w3 ⟨rfl, hb3⟩
      have hbk3 := Hbk2.out.below hb3 Hbk2.out.lt
      have HB3 := hide (onward bw2 hb3)
      obtain ⟨e0, e1⟩ := hbk3.c2
      have f0 := hbk3.frozen 0
      have f1 := hbk3.frozen 1
      clear hb3 bw2 bk2 hbk3
      go_wp2
      refine bodyPost_ret (v := spanE (valueR l z)) (by rw [HR.out]; simp [spanE, results, Tryz.results13, go_sem, e0, e1]) rfl ⟨rfl, ?_⟩
      exact (HB3.out.setCell (by simp) _).setCell (by simp) _
    · have h3 : win z 0 1073741824 = false := by simpa using h2
      have hR : valueR l z = ((0, 0), 3) := by simp [valueR, h1, h3]
      have HR := hide hR
      have Hb0 := hide hb0
      rw [h1] at hchk
      clear hR h1 hl hT HT hn hb0 h2
      go_enter Tryz.func13, Tryz.ntmps13
      go_wp2_with fail
      refine hchk.mono ?_
      rintro e w1 ⟨rfl, hb1⟩
      clear hchk
      have HB1 := hide (Hb0.out.trans (hb1.mono (by simp)))
      have hbk : Blk w1 w.heap.size 24 #[.int .i64 0, .int .i64 0] := (Blk.new w _ _).below hb1 (by simp)
      obtain ⟨e0, e1⟩ := hbk.c2
      have f0 := hbk.frozen 0
      have f1 := hbk.frozen 1
      clear hb1 hbk
      go_wp2_with (first | (go_at_call 34; refine (within_any _ _ _ _).mono ?_; rintro e w' ⟨rfl, rfl⟩))
      refine bodyPost_ret (v := spanE (valueR l z)) (by rw [HR.out]; simp [spanE, results, Tryz.results13, go_sem, e0, e1]) rfl ⟨rfl, ?_⟩
      exact (HB1.out.setCell (by simp) _).setCell (by simp) _
  · have hR : valueR l z = ((0, 0), chk l 1073741824) := by simp [valueR, h1]
    have HR := hide hR
    have Hb0 := hide hb0
    have h3 : (chk l 1073741824 != 0) = true := by simpa [bne] using h1
    clear hR h1 hl hn hb0
    generalize chk l 1073741824 = ck at *
    go_enter Tryz.func13, Tryz.ntmps13
    go_wp2_with fail
    refine hchk.mono ?_
    rintro e w1 ⟨rfl, hb1⟩
    clear hchk
    have HB1 := hide (Hb0.out.trans (hb1.mono (by simp)))
    have hbk : Blk w1 w.heap.size 24 #[.int .i64 0, .int .i64 0] := (Blk.new w _ _).below hb1 (by simp)
    obtain ⟨e0, e1⟩ := hbk.c2
    have f0 := hbk.frozen 0
    have f1 := hbk.frozen 1
    clear hb1 hbk
    go_wp2
    refine bodyPost_ret (v := spanE (valueR l z)) (by rw [HR.out]; simp [spanE, results, Tryz.results13, go_sem, e0, e1]) rfl ⟨rfl, ?_⟩
    exact (HB1.out.setCell (by simp) _).setCell (by simp) _

end Go.Proofs.YtepgpihobmjbdaaGreat
namespace Go.Proofs.YtepgpihobmjbdaaGreat
/-- What CheckModel returns. -/
def chkModel (l m : List (Int × Int)) (melt inn above : Int × Int) : Int :=
  if chk l 32768 ≠ 0 then chk l 32768 else if chk m 1000000 ≠ 0 then chk m 1000000 else if (ins melt.1 melt.2 20000 && ins inn.1 inn.2 100000 && ins above.1 above.2 100000) = false then 3 else 0
end Go.Proofs.YtepgpihobmjbdaaGreat
namespace Go.Proofs.YtepgpihobmjbdaaGreat
open Go Go.RowKit

theorem own_later {w w' : World} {base : Nat} {e : TypeId} {size n : Nat} {v : Value} {xs : List Value} (h : w.ownsRow base e size v n xs) (hl : Later w w') : w'.ownsRow base e size v n xs := by
  refine ⟨h.1, ?_⟩
  rcases h.2 with h0 | ⟨g, cap, cur, hv, hb, hg, r⟩
  · exact .inl h0
  · refine .inr ⟨g, cap, cur, hv, hb, ?_, r⟩
    have hlt : g < w.heap.size := (Array.getElem?_eq_some_iff.1 hg).1
    rw [hl.block g hlt]; exact hg

theorem kb {D : World → Prop} {B : Nat} {w : World} (hD : Good (fun k => k < B) w D) (x : Of D) : Below B w x.val := by
  have h := hD.low _ x.ok
  exact ⟨h.os, h.tape, h.output, h.size, h.block⟩
section
variable {P : Program} {md : Region.Mode} {ops : Array Oper} {S : Nat → Prop} {E : Nat → Bool}

theorem opR_of {i : Nat} {o : Oper} (h : ops[i]? = some o) (hg : o.guard = none) {K : Act → World → Prop} {a : Act} {w : World} (hk : uponR P S (E i) o a w K ((execOp a.eval o).run P w)) : opR P ops S E i K a w := by
  unfold opR
  simp only [h, Region.wanted, hg, if_true]
  exact hk

theorem opR_build1 {i : Nat} {oi : Oper} {t e : TypeId} {p x : Tmp} {cells : Array Value} (h : ops[i]? = some oi) (hop : oi.op = .buildSlice t 1 #[(0, .tmp x)]) (hd : oi.dst = some p) (hg : oi.guard = none) {K : Act → World → Prop} {a : Act} {w : World}
    (hrun : (Instr.buildSlice t 1 #[(0, a.tmps.getD x undef)]).run P w = .ok (.slice (some ⟨w.heap.size, 0, none⟩) 1 1) (w.alloc (.cells cells e))) (hS : ∀ k, S k → k < w.heap.size)
    (hK : K (a.put (some p) (.slice (some ⟨w.heap.size, 0, none⟩) 1 1)) (w.alloc (.cells cells e))) : opR P ops S E i K a w := by
  refine opR_of h hg ?_
  have e1 : (execOp a.eval oi).run P w = .ok (.value (.slice (some ⟨w.heap.size, 0, none⟩) 1 1)) (w.alloc (.cells cells e)) := by
    simp only [execOp, hop, List.map_toArray, List.map_cons, List.map_nil, Act.eval, Sem.run_bind, hrun, Result.andThen_ok, Sem.run_pure]
  rw [e1]
  exact ⟨fun _ => kept_alloc _ hS, by rw [hd]; exact hK⟩

theorem opR_append {i : Nat} {oi : Oper} {t : TypeId} {s p q : Tmp} (h : ops[i]? = some oi) (hop : oi.op = .call { callee := .builtin .append, args := #[.tmp s, .tmp p], argTypes := #[t, t] }) (hd : oi.dst = some q) (hg : oi.guard = none) {K : Act → World → Prop} {a : Act} {w : World}
    (base : Nat) (e : TypeId) (i0 : TypeInfo) (z : Value) (size bytes : Nat) (ht : P.underlying t = some (.slice e)) (hi : P.info? e = some i0) (hz : i0.zero = some z)
    (hsize : i0.size = size) (hby : i0.bytes = bytes) (hzs : z.cells.size = size) (hsz : 0 < size)
    (v : Value) (n : Nat) (xs : List Value) (hs : a.tmps.getD s undef = v) (hown : w.ownsRow base e size v n xs)
    (ad : Addr) (m c : Nat) (news : List Value) (hx : a.tmps.getD p undef = .slice (some ad) m c) (hl : news.length = m * size) (hnews : ∀ j u, news[j]? = some u → w.cell? (ad.add j) = some u) (h1 : ∀ u ∈ news, u.oneCell' = true)
    (h63 : n + m ≤ maxLen) (hbytes : (n + m) * bytes ≤ 140737488355328) (hbase : base ≤ w.heap.size) (hE : E i = true → ∀ g, v.ownBlock = some g → ¬ S g) (hS : ∀ k, S k → k < w.heap.size)
    (hK : ∀ v' w', w'.ownsRow base e size v' (n + m) (xs ++ news) → w.grownBy w' v.ownBlock → K (a.put (some q) v') w') : opR P ops S E i K a w := by
  refine opR_of h hg ?_
  obtain ⟨v', w', hrun, h2, h3, _⟩ := run_append_own (P := P) w base t oi.type e i0 z size bytes ht hi hz hsize hby hzs hsz v n xs hown ad m c news hl hnews h1 h63 hbytes hbase
  have e1 : (execOp a.eval oi).run P w = .ok (.value v') w' := by
    simp only [execOp, hop, resolve, invoke, builtin, Sem.run_bind, Sem.run_pure, Result.andThen_ok, List.map_toArray, List.map_cons, List.map_nil, Act.eval, hs, hx, hrun]
  rw [e1]
  exact ⟨fun he => ⟨h3.os, h3.tape, h3.output, h3.size, fun k hk => h3.block k (hS k hk) fun e2 => hE he k e2.symm hk⟩, by rw [hd]; exact hK v' w' h2 h3⟩

theorem opR_assign {i : Nat} {oi : Oper} {q r : Tmp} (h : ops[i]? = some oi) (hop : oi.op = .assign (.tmp q)) (hd : oi.dst = some r) (hg : oi.guard = none) {K : Act → World → Prop} {a : Act} {w : World} (hK : K (a.put (some r) (a.tmps.getD q undef)) w) : opR P ops S E i K a w := by
  refine opR_of h hg ?_
  have e1 : (execOp a.eval oi).run P w = .ok (.value (a.tmps.getD q undef)) w := by
    simp only [execOp, hop, Act.eval, Sem.run_pure]
  rw [e1]
  exact ⟨fun _ => Kept.refl _ _, by rw [hd]; exact hK⟩

def pushB (md : Region.Mode) (ops : Array Oper) (l0 : Array Bool) (i k m : Nat) : Bool :=
  Region.ready md ops l0 == [i] && Region.ready md ops (l0.setIfInBounds i true) == [k] && Region.ready md ops ((l0.setIfInBounds i true).setIfInBounds k true) == [m] &&
  (Region.ready md ops (((l0.setIfInBounds i true).setIfInBounds k true).setIfInBounds m true)).isEmpty

/-- 'out = append(out, x)', x a struct: what is left of it. -/
theorem anyR_push {Q : Act → World → Prop} {f nn : Nat} {l0 : Array Bool} {a : Act} {w : World} (i k m : Nat) (t e : TypeId) (s p q r x : Tmp) (hb : pushB md ops l0 i k m = true) (hps : p ≠ s) {oi ok om : Oper} (hi' : ops[i]? = some oi) (hio : oi.op = .buildSlice t 1 #[(0, .tmp x)]) (hid : oi.dst = some p) (hig : oi.guard = none)
    (hk' : ops[k]? = some ok) (hko : ok.op = .call { callee := .builtin .append, args := #[.tmp s, .tmp p], argTypes := #[t, t] }) (hkd : ok.dst = some q) (hkg : ok.guard = none) (hm' : ops[m]? = some om) (hmo : om.op = .assign (.tmp q)) (hmd : om.dst = some r) (hmg : om.guard = none) (hn : nn = f + 3)
    (base : Nat) (i0 : TypeInfo) (z : Value) (size bytes : Nat) (ht : P.underlying t = some (.slice e)) (hi : P.info? e = some i0) (hz : i0.zero = some z) (hsize : i0.size = size) (hby : i0.bytes = bytes) (hzs : z.cells.size = size) (hsz : 0 < size)
    (cells : Array Value) (hrun : ∀ w, (Instr.buildSlice t 1 #[(0, a.tmps.getD x undef)]).run P w = .ok (.slice (some ⟨w.heap.size, 0, none⟩) 1 1) (w.alloc (.cells cells e))) (hc : cells.size = size) (h1 : cells.all (·.oneCell') = true)
    (v : Value) (n : Nat) (xs : List Value) (hs : a.tmps.getD s undef = v) (hp : p < a.tmps.size) (hq : q < a.tmps.size) (hown : w.ownsRow base e size v n xs) (h63 : n + 1 ≤ maxLen) (hbytes : (n + 1) * bytes ≤ 140737488355328) (hbase : base ≤ w.heap.size)
    (hE : E k = true → ∀ g, v.ownBlock = some g → ¬ S g) (hS : ∀ k, S k → k < w.heap.size)
    (h : ∀ g v' w', w'.ownsRow base e size v' (n + 1) (xs ++ cells.toList) → w.grownBy w' v.ownBlock → Q (((a.put (some p) (.slice (some ⟨g, 0, none⟩) 1 1)).put (some q) v').put (some r) v') w') : anyR P md ops S E Q nn l0 a w := by
  subst hn
  simp only [pushB, Bool.and_eq_true, beq_iff_eq, List.isEmpty_iff] at hb
  obtain ⟨⟨⟨r1, r2⟩, r3⟩, r4⟩ := hb
  have upS : ∀ w' : World, w.heap.size ≤ w'.heap.size → ∀ k, S k → k < w'.heap.size := fun w' hw k hk => Nat.lt_of_lt_of_le (hS k hk) hw
  refine anyR_one i _ r1 (beq_self_eq_true _) fun w1 l1 => opR_build1 hi' hio hid hig (hrun w1) (upS _ l1.size) ?_
  refine anyR_one k _ r2 (beq_self_eq_true _) fun w2 l2 => ?_
  have hsz2 := l2.size
  simp only [World.size_alloc] at hsz2
  have hsz1 := l1.size
  have hbk := blk_later (Blk.new w1 e cells) l2
  have hown2 : w2.ownsRow base e size v n xs := own_later ((own_later hown l1).alloc _) l2
  have grow2 : w.grownBy w2 v.ownBlock := later_grown (grown_later l1 (World.grownBy_alloc w1 _ _)) l2
  refine opR_append hk' hko hkd hkg base e i0 z size bytes ht hi hz hsize hby hzs hsz v n xs (by rw [getD_put_ne hps]; exact hs) hown2 ⟨w1.heap.size, 0, none⟩ 1 1 cells.toList (getD_put hp) (by simp [hc]) (fun j u hu => ?_)
    (fun u hu => (Array.all_eq_true_iff_forall_mem.1 h1) u (by simpa using hu)) h63 hbytes (by omega) hE (upS _ (by omega)) fun v' w' hown' hg' => ?_
  · have := hbk.cell j
    rw [show (⟨w1.heap.size, 0, none⟩ : Addr).add j = ⟨w1.heap.size, j, none⟩ by unfold Addr.add; split <;> simp_all]
    rw [this]; simpa using hu
  · refine anyR_one m _ r3 (beq_self_eq_true _) fun w3 l3 => opR_assign hm' hmo hmd hmg ?_
    refine anyR_done r4 fun w4 l4 => ?_
    rw [getD_put (by rw [size_put']; exact hq)]
    have g' : w.grownBy w' v.ownBlock := ⟨hg'.os.trans grow2.os, hg'.tape.trans grow2.tape, hg'.output.trans grow2.output, Nat.le_trans grow2.size hg'.size, fun i hi hne => (hg'.block i (Nat.lt_of_lt_of_le hi grow2.size) hne).trans (grow2.block i hi hne)⟩
    exact h _ _ _ (own_later hown' (l3.trans l4)) (later_grown g' (l3.trans l4))

/-- A store into some cells of a block that is known whole. -/
theorem exec_store_at {o : Oper} {t t' : TypeId} {p x : Operand} {g off : Nat} {old cells : Array Value} (h : o.op = .store t p x) {e : Operand → Value} {w : World} (hp : e p = .pointer (some ⟨g, off, none⟩)) (hx : e x = .agg cells)
    (hg : Blk w g t' old) (hi : (P.info? t).map (·.size) = some cells.size) (ho : off + cells.size ≤ old.size) (h1 : cells.all (·.oneCell') = true) :
    (execOp e o).run P w = .ok .skip (w.setRow g (old.toList.take off ++ cells.toList ++ old.toList.drop (off + cells.size)).toArray) := by
  have := run_storeCells_at (P := P) g off t' cells.toList 0 old w hg (by simp; omega) (fun v hv => (Array.all_eq_true_iff_forall_mem.1 h1) v (by simpa using hv))
  simp at this
  cases hq : P.info? t with
  | none => simp [hq] at hi
  | some i =>
    have hs : i.size = cells.size := by simpa [hq] using hi
    simp [execOp, h, hp, hx, go_sem, sizeOf, typeInfo, hq, hs, this]
/-- Some cells of a block are filled, behind all else. -/
theorem anyR_fill_at {Q : Act → World → Prop} {f n : Nat} {listed : Array Bool} {a : Act} {w : World} (i : Nat) (t t' : TypeId) (p x : Tmp) (g off : Nat) (old cells new : Array Value) (hb : rem0B md ops listed i t p x = true) (hn : n = f + 1)
    (hp : a.tmps.getD p undef = .pointer (some ⟨g, off, none⟩)) (hx : a.tmps.getD x undef = .agg cells) (hg : Blk w g t' old) (hi : (P.info? t).map (·.size) = some cells.size) (ho : off + cells.size ≤ old.size) (h1 : cells.all (·.oneCell') = true)
    (hnew : (old.toList.take off ++ cells.toList ++ old.toList.drop (off + cells.size)).toArray = new) (hE : E i = true → ¬ S g)
    (h : ∀ w', w.grownBy w' (some g) → Blk w' g t' new → Q a w') : anyR P md ops S E Q n listed a w := by
  subst hn
  subst hnew
  simp only [rem0B, Bool.and_eq_true, beq_iff_eq, List.isEmpty_iff] at hb
  obtain ⟨⟨r1, r2⟩, hs⟩ := hb
  refine anyR_one i _ r1 (beq_self_eq_true _) fun w1 h1' => ?_
  unfold isStore at hs
  split at hs
  · rename_i t1 p1 x1 ty pos aft heq
    simp only [Bool.and_eq_true, beq_iff_eq] at hs
    obtain ⟨⟨rfl, rfl⟩, rfl⟩ := hs
    refine opR_of heq rfl ?_
    rw [exec_store_at (P := P) (o := ⟨none, .store t1 (.tmp p1) (.tmp x1), ty, pos, aft, none⟩) rfl (e := a.eval) (w := w1) hp hx (blk_later hg h1') hi ho h1]
    refine ⟨fun he => kept_setRow (hE he), ?_⟩
    exact anyR_done r2 fun w2 h2 => h w2 (later_grown (grown_later h1' (grown_setRow w1 g _)) h2) (blk_later (blk_setRow (blk_later hg h1')) h2)
  · cases hs
end
theorem own_ne {w : World} {base g : Nat} {e t : TypeId} {size n : Nat} {v : Value} {xs : List Value} {cs : Array Value} (h : w.ownsRow base e size v n xs) (hg : Blk w g t cs) (hne : e ≠ t) : v.ownBlock ≠ some g := by
  rcases h.2 with ⟨rfl, _⟩ | ⟨g', cap, cur, rfl, _, hh, _⟩
  · simp [Value.ownBlock]
  · intro he
    have : g' = g := by simpa [Value.ownBlock] using he
    subst this
    unfold Blk at hg
    rw [hg] at hh
    injection hh with hh
    injection hh with _ ht
    exact hne ht.symm
theorem blk_grown {w w' : World} {g : Nat} {t : TypeId} {cs : Array Value} {row : Option Nat} (h : Blk w g t cs) (hg : w.grownBy w' row) (hne : row ≠ some g) : Blk w' g t cs := (hg.block g h.lt (Ne.symm hne)).trans h
theorem below_grown {B : Nat} {a w w' : World} {row : Option Nat} (h : Below B a w) (hg : w.grownBy w' row) (hB : B ≤ w.heap.size) (hr : ∀ k, row = some k → B ≤ k) : Below B a w' := h.grown hg hB hr
theorem own_grown {w w' : World} {base : Nat} {e : TypeId} {size n : Nat} {v : Value} {xs : List Value} {row : Option Nat} (h : w.ownsRow base e size v n xs) (hg : w.grownBy w' row) (hne : v.ownBlock ≠ row) : w'.ownsRow base e size v n xs := h.kept hg (.inr hne)
end Go.Proofs.YtepgpihobmjbdaaGreat
namespace Go.Proofs.YtepgpihobmjbdaaGreat
open Go Go.RowKit
/-- The world at a call, under a name. -/
theorem at_world {P : Program} {f : FuncId} {args : Array Value} {w : World} {R : Ending → World → Prop} (h : ∀ W, W = w → Calls P f args W R) : Calls P f args w R := h w rfl
theorem code_world {P : Program} {c : Code} {Q : Exit → Act → World → Prop} {a : Act} {w : World} (h : ∀ W, W = w → c.wp P Q a W) : c.wp P Q a w := h w rfl
theorem own_form {w : World} {base : Nat} {e : TypeId} {size n : Nat} {v : Value} {xs : List Value} (h : w.ownsRow base e size v n xs) (hn : 0 < n) : ∃ g cap, v = .slice (some ⟨g, 0, none⟩) n cap := by
  rcases h.2 with ⟨_, h0⟩ | ⟨g, cap, _, hv, _⟩
  · omega
  · exact ⟨g, cap, hv⟩
section
variable {P : Program} {md : Region.Mode} {ops : Array Oper} {S : Nat → Prop} {E : Nat → Bool}

/-- The one operation that can come up lays a new block. -/
theorem anyR_new {Q : Act → World → Prop} {f n : Nat} {listed : Array Bool} {a : Act} {w : World} (i : Nat) (after : Array Bool) (hr : Region.ready md ops listed = [i]) (he : (listed.setIfInBounds i true == after) = true) (hn : n = f + 1)
    {oi : Oper} (h : ops[i]? = some oi) {p : Tmp} (hd : oi.dst = some p) (hw : Region.wanted oi (yielded ops a.tmps) = true) (t : TypeId) (cells : Array Value) (v : Nat → Value)
    (hrun : ∀ w, (execOp a.eval oi).run P w = .ok (.value (v w.heap.size)) (w.alloc (.cells cells t))) (hS : ∀ k, S k → k < w.heap.size)
    (hK : ∀ w1, Later w w1 → anyR P md ops S E Q f after (a.put (some p) (v w1.heap.size)) (w1.alloc (.cells cells t))) : anyR P md ops S E Q n listed a w := by
  subst hn
  refine anyR_one i after hr he fun w1 l1 => ?_
  unfold opR
  simp only [h, hw, if_true, hrun, uponR]
  exact ⟨fun _ => kept_alloc _ (fun k hk => Nat.lt_of_lt_of_le (hS k hk) l1.size), by rw [hd]; exact hK w1 l1⟩

/-- The one operation that can come up is a call that leaves old memory alone. -/
theorem anyR_call {Q : Act → World → Prop} {f n : Nat} {listed : Array Bool} {a : Act} {w : World} (i : Nat) (after : Array Bool) (hr : Region.ready md ops listed = [i]) (he : (listed.setIfInBounds i true == after) = true) (hn : n = f + 1)
    {oi : Oper} (h : ops[i]? = some oi) {p : Tmp} (hd : oi.dst = some p) (hw : Region.wanted oi (yielded ops a.tmps) = true) (g : FuncId) (args : Array Value)
    (hrun : ∀ w, (execOp a.eval oi).run P w = .ok (.enter g args) w) (hS : ∀ k, S k → k < w.heap.size) (R : Value → World → World → Prop)
    (hc : ∀ w1, Later w w1 → Calls P g args w1 fun e w2 => ∃ v, e = .returned v ∧ Below w1.heap.size w1 w2 ∧ R v w1 w2)
    (hK : ∀ v w1 w2, Later w w1 → Later w w2 → R v w1 w2 → anyR P md ops S E Q f after (a.put (some p) v) w2) : anyR P md ops S E Q n listed a w := by
  subst hn
  refine anyR_one i after hr he fun w1 l1 => ?_
  unfold opR
  simp only [h, hw, if_true, hrun, uponR]
  refine (hc w1 l1).mono ?_
  rintro e w2 ⟨v, rfl, hb, hR⟩
  exact ⟨v, rfl, fun _ => Kept.of_later (fun k hk => Nat.lt_of_lt_of_le (hS k hk) l1.size) hb, by rw [hd]; exact hK v w1 w2 l1 (l1.trans hb) hR⟩

/-- More blocks are kept: for what is still to come. -/
theorem anyR_sub {S' : Nat → Prop} {Q : Act → World → Prop} (hs : ∀ k, S k → S' k) : ∀ {f : Nat} {listed : Array Bool} {a : Act} {w : World}, anyR P md ops S' E Q f listed a w → anyR P md ops S E Q f listed a w
  | 0, _, _, _, h => h
  | f + 1, listed, a, w, h => ⟨h.1, fun i hi w1 l1 => by
    have hh := h.2 i hi w1 l1
    have kk : ∀ w', Kept S' w1 w' → Kept S w1 w' := fun w' k => ⟨k.os, k.tape, k.output, k.size, fun b hb => k.block b (hs b hb)⟩
    unfold opR at *
    split
    · rename_i ho; simp only [ho] at hh; exact anyR_sub hs hh
    · rename_i o ho
      simp only [ho] at hh
      split
      · rename_i hw
        simp only [hw, if_true] at hh
        generalize (execOp a.eval o).run P w1 = r at *
        cases r with
        | ok n w' =>
          cases n <;> simp only [uponR] at hh ⊢
          case value u => exact ⟨fun he => kk _ (hh.1 he), anyR_sub hs hh.2⟩
          case skip => exact ⟨fun he => kk _ (hh.1 he), anyR_sub hs hh.2⟩
          case enter f args => exact hh.mono fun e w'' ⟨v, he, hb, hk⟩ => ⟨v, he, fun h1 => kk _ (hb h1), anyR_sub hs hk⟩
        | halt x w' => simp only [uponR] at hh
      · rename_i hw; simp only [hw] at hh; exact anyR_sub hs hh⟩
end
end Go.Proofs.YtepgpihobmjbdaaGreat
