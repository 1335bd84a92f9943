/-
  rain's value of a table at a power, found by a closure over the points: the same values as the reference's.
-/
import Derived.Test.YtmglgahagbfbkaaSearch
namespace Go.Proofs.Ytmglgahagbfbkaa
open Go.RowKit

theorem pzero2 : (Try.prog.info? 94).map (·.zero) = some (some (.agg #[.int .i64 0, .int .i64 0])) := by kernel_rfl
theorem psize2 : (Try.prog.info? 94).map (·.size) = some 2 := by kernel_rfl

/-- A function that rounds: which one, and what it gives. -/
structure Rounds (f : FuncId) (rd : Int → Int → Int) : Prop where
  call : ∀ (a b : Int) (w : World), 0 ≤ a → 1 ≤ b → a ≤ 4611686018427387903 → b ≤ 4611686018427387903 → Calls Try.prog f #[.int .i64 a, .int .i64 b] w fun e w' => e = .returned (.int .i64 (rd a b)) ∧ w = w'
  lo : ∀ a b : Int, 0 ≤ a → 1 ≤ b → 0 ≤ rd a b
  hi : ∀ a b : Int, 0 ≤ a → 1 ≤ b → rd a b ≤ a + b
theorem rounds_down : Rounds 48 (· / ·) := ⟨fun a b w h1 h2 h3 h4 => down_any a b w h1 h2 h3 h4, fun a b h1 h2 => Int.ediv_nonneg h1 (by omega), fun a b h1 h2 => by have := Int.ediv_le_self b h1; omega⟩
theorem rounds_up : Rounds 49 cdiv := ⟨fun a b w h1 h2 h3 h4 => up_any a b w h1 h2 h3 h4, fun a b h1 h2 => by rw [cdiv_eq (by omega)]; exact Int.ediv_nonneg (by omega) (by omega),
  fun a b h1 h2 => by rw [cdiv_eq (by omega)]; have := Int.ediv_le_self (a := a + b - 1) b (by omega); omega⟩

/-- What the closure gives: one end of the value. -/
def endOf (rd : Int → Int → Int) (l : List (Int × Int)) (z : Int) (v : Int) : Prop :=
  (∀ i, i < l.length → (l.getD i P0).1 = z → v = (l.getD i P0).2) ∧ (∀ i, i + 1 = l.length → (l.getD i P0).1 ≤ z → v = (l.getD i P0).2) ∧
  (∀ i, i + 1 < l.length → (l.getD i P0).1 ≤ z → z < (l.getD (i + 1) P0).1 → (l.getD i P0).1 ≠ z → v = (l.getD i P0).2 + rd (((l.getD (i + 1) P0).2 - (l.getD i P0).2) * (z - (l.getD i P0).1)) ((l.getD (i + 1) P0).1 - (l.getD i P0).1))
theorem end_down {l : List (Int × Int)} {most : Int} (hT : Tab l most) (z : Int) : endOf (· / ·) l z (valGo z l).1 :=
  ⟨fun i hi h => by rw [val_hit hT hi h], fun i hi h => by rw [val_end hT hi h], fun i hi h h2 _ => by rw [val_mid hT hi h h2]⟩
theorem end_up {l : List (Int × Int)} {most : Int} (hT : Tab l most) (z : Int) : endOf cdiv l z (valGo z l).2 :=
  ⟨fun i hi h => by rw [val_hit hT hi h], fun i hi h => by rw [val_end hT hi h], fun i hi h h2 _ => by rw [val_mid hT hi h h2]⟩

set_option maxHeartbeats 1000000 in
theorem worth1_down (A : Option Addr) (n c : Nat) (l : List (Int × Int)) (most z v : Int) (g : Nat) (w : World) (hn : l.length = n) (hT : Tab l most) (hmost : most ≤ 1073741824) (hz0 : 0 ≤ z) (hz : z ≤ 1073741824) (hl : Ints w w.heap.size .i64 A (flat2 l))
    (hg : Blk w g 22 #[.slice A n c]) (hv : endOf (· / ·) l z v) :
    Calls Try.prog 67 #[.int .i64 z, .func (.func 48) #[] #[], .pointer (some ⟨g, 0, none⟩)] w fun e w' => e = .returned (.int .i64 v) ∧ Below w.heap.size w w' := by
  have HT := hide hT
  have hlen := hT.len
  obtain ⟨b, off, hA, hb, hc⟩ := hl.pt (by omega)
  have Hc := hide hc
  have Hv := hide hv
  have HR := hide rounds_down
  have hS := search_any A n c l most z w hn hT hz0 hz hl
  have Hn := hide hn
  rw [hn] at hlen
  have hgc : w.cell? ⟨g, 0, none⟩ = some (.slice A n c) := hg.c 0 rfl
  have hglt := hg.lt
  subst hA
  clear hc hl hT hv hn
  go_enter Try.func67, Try.ntmps67
  go_wp2_with fail
  refine hS.mono ?_
  rintro e w1 ⟨i, hin, hlo, hhi, rfl, hb1⟩
  have hc1 : w1.cell? ⟨g, 0, none⟩ = some (.slice (some ⟨b, off, none⟩) n c) := (hb1.cell hglt).trans hgc
  have Hlo := hide hlo
  have Hhi := hide hhi
  have HB1 := hide hb1
  have hsz := hb1.size
  clear hlo hhi hb1 hgc hg hS
  by_cases h1 : i < n
  · by_cases h2 : (l.getD i P0).1 = z
    · have hd : decide (i < n ∧ (l.getD i P0).1 = z) = true := decide_eq_true ⟨h1, h2⟩
      rw [hd]
      have hc := Hc.out i (by have := Hn.out; omega)
      have hv := Hv.out.1 i (by have := Hn.out; omega) h2
      rw [← hv] at hc
      have hc2 := hc.2
      rw [← HB1.out.cell hb] at hc2
      clear hc hv hd h2
      go_wp2
      go_ret
      exact ⟨rfl, HB1.out⟩
    · have hd : decide (i < n ∧ (l.getD i P0).1 = z) = false := decide_eq_false fun h => h2 h.2
      rw [hd]
      have hge := Hhi.out i (by omega) h1
      have hi0 : i ≠ 0 := by rintro rfl; have := HT.out.z0; omega
      obtain ⟨j, rfl⟩ : ∃ j, i = j + 1 := ⟨i - 1, by omega⟩
      have hlt := Hlo.out j (by omega)
      have hv := Hv.out.2.2 j (by have := Hn.out; omega) (by omega) (by omega) (by omega)
      have hc := Hc.out j (by have := Hn.out; omega)
      have hd := Hc.out (j + 1) (by have := Hn.out; omega)
      have hr1 := HT.out.rng j (by have := Hn.out; omega)
      have hr2 := HT.out.rng (j + 1) (by have := Hn.out; omega)
      have hm := HT.out.mono j (by have := Hn.out; omega)
      clear hi0
      generalize (l.getD j P0).1 = z1 at *
      generalize (l.getD j P0).2 = r1 at *
      generalize (l.getD (j + 1) P0).1 = z2 at *
      generalize (l.getD (j + 1) P0).2 = r2 at *
      have Hv := hide hv
      clear hv h2
      obtain ⟨hc0, hc2⟩ := hc
      obtain ⟨hd0, hd2⟩ := hd
      rw [← HB1.out.cell hb] at hc0 hc2 hd0 hd2
      have q0 : (((j : Int) + 1) == (n : Int)) = false := beq_eq_false_iff_ne.2 (by omega)
      go_wp2_with fail
      refine wp_region_R (fun k => k < w1.heap.size) 13 (by kernel_rfl) ?_
      apply anyR_peel (fuel := 4) 13 [true, true, true, true, true, true, true, true, true, false, false, false, false] #[true, true, true, true, true, true, true, true, true, false, false, false, false] (by kernel_rfl) rfl (fun j hj => decide_eq_true hj) (fun k hk => by first | exact hk | omega | (simp at hk ⊢; omega))
      · intro D hD
        have hne := hD.some
        have g0 := liftB hD hc1 (by omega)
        have c0 := liftB hD hc0 (by omega)
        have c2 := liftB hD hc2 (by omega)
        have d0 := liftB hD hd0 (by omega)
        have d2 := liftB hD hd2 (by omega)
        simp only [takeOps]
        repeat (go_big_quiet_step (fail))
        exact wpQuiet_nil rfl
      refine anyR_pair (f := 0) 9 10 11 12 _ _ 8 9 38 42 _ _ #[.int .i64 z1, .int .i64 r1] #[.int .i64 z2, .int .i64 r2] (by kernel_rfl) rfl pzero2 psize2 rfl pzero2 psize2 rfl (by exact of_decide_eq_true rfl) (by exact of_decide_eq_true rfl) rfl rfl (one2 _ _) (one2 _ _) (fun k hk => hk) ?_
      intro g1 g2 w2 hg1 hg2 hne hb2 hbk1 hbk2
      simp only [Act.put, List.setIfInBounds_toArray, List.set_cons_succ, List.set_cons_zero]
      have HB2 := hide (onward HB1.out hb2)
      obtain ⟨c0, c1⟩ := hbk1.c2
      obtain ⟨d0, d1⟩ := hbk2.c2
      have hg1' := hbk1.lt
      have hg2' := hbk2.lt
      clear hbk1 hbk2 hc0 hc2 hd0 hd2 hb2 hc1
      have hp1 := mul_bd (a := r2 - r1) (b := z - z1) (A := 1073741824) (B := 1073741824) (by omega) (by omega) (by omega) (by omega)
      have q2 : (r2 - r1) * (z - z1) ≤ 4611686018427387903 := by omega
      have q3 : 0 ≤ (r2 - r1) * (z - z1) / (z2 - z1) := HR.out.lo ((r2 - r1) * (z - z1)) (z2 - z1) hp1.1 (by omega)
      have q4 : (r2 - r1) * (z - z1) / (z2 - z1) ≤ (r2 - r1) * (z - z1) + (z2 - z1) := HR.out.hi ((r2 - r1) * (z - z1)) (z2 - z1) hp1.1 (by omega)
      have q5 := hp1.1
      clear hp1
      go_wp2_with fail
      go_quiet ((go_at_call 48; exact quiet_left (down_any _ _ _ q5 (by omega) q2 (by omega))))
      go_wp2
      go_ret
      exact ⟨(ret_int Hv.out).symm, below_drewN HB2.out _⟩
  · obtain rfl : i = n := by omega
    obtain ⟨j, rfl⟩ : ∃ j, i = j + 1 := ⟨i - 1, by omega⟩
    have hd : decide (j + 1 < j + 1 ∧ (l.getD (j + 1) P0).1 = z) = false := decide_eq_false fun h => by omega
    rw [hd]
    have hlt := Hlo.out j (by omega)
    have hv := Hv.out.2.1 j (by have := Hn.out; omega) (by omega)
    have hc := Hc.out j (by have := Hn.out; omega)
    rw [← hv] at hc
    have hc2 := hc.2
    rw [← HB1.out.cell hb] at hc2
    clear hc hv hd
    go_wp2
    go_ret
    exact ⟨rfl, HB1.out⟩

set_option maxHeartbeats 1000000 in
theorem worth1_up (A : Option Addr) (n c : Nat) (l : List (Int × Int)) (most z v : Int) (g : Nat) (w : World) (hn : l.length = n) (hT : Tab l most) (hmost : most ≤ 1073741824) (hz0 : 0 ≤ z) (hz : z ≤ 1073741824) (hl : Ints w w.heap.size .i64 A (flat2 l))
    (hg : Blk w g 22 #[.slice A n c]) (hv : endOf cdiv l z v) :
    Calls Try.prog 67 #[.int .i64 z, .func (.func 49) #[] #[], .pointer (some ⟨g, 0, none⟩)] w fun e w' => e = .returned (.int .i64 v) ∧ Below w.heap.size w w' := by
  have HT := hide hT
  have hlen := hT.len
  obtain ⟨b, off, hA, hb, hc⟩ := hl.pt (by omega)
  have Hc := hide hc
  have Hv := hide hv
  have HR := hide rounds_up
  have hS := search_any A n c l most z w hn hT hz0 hz hl
  have Hn := hide hn
  rw [hn] at hlen
  have hgc : w.cell? ⟨g, 0, none⟩ = some (.slice A n c) := hg.c 0 rfl
  have hglt := hg.lt
  subst hA
  clear hc hl hT hv hn
  go_enter Try.func67, Try.ntmps67
  go_wp2_with fail
  refine hS.mono ?_
  rintro e w1 ⟨i, hin, hlo, hhi, rfl, hb1⟩
  have hc1 : w1.cell? ⟨g, 0, none⟩ = some (.slice (some ⟨b, off, none⟩) n c) := (hb1.cell hglt).trans hgc
  have Hlo := hide hlo
  have Hhi := hide hhi
  have HB1 := hide hb1
  have hsz := hb1.size
  clear hlo hhi hb1 hgc hg hS
  by_cases h1 : i < n
  · by_cases h2 : (l.getD i P0).1 = z
    · have hd : decide (i < n ∧ (l.getD i P0).1 = z) = true := decide_eq_true ⟨h1, h2⟩
      rw [hd]
      have hc := Hc.out i (by have := Hn.out; omega)
      have hv := Hv.out.1 i (by have := Hn.out; omega) h2
      rw [← hv] at hc
      have hc2 := hc.2
      rw [← HB1.out.cell hb] at hc2
      clear hc hv hd h2
      go_wp2
      go_ret
      exact ⟨rfl, HB1.out⟩
    · have hd : decide (i < n ∧ (l.getD i P0).1 = z) = false := decide_eq_false fun h => h2 h.2
      rw [hd]
      have hge := Hhi.out i (by omega) h1
      have hi0 : i ≠ 0 := by rintro rfl; have := HT.out.z0; omega
      obtain ⟨j, rfl⟩ : ∃ j, i = j + 1 := ⟨i - 1, by omega⟩
      have hlt := Hlo.out j (by omega)
      have hv := Hv.out.2.2 j (by have := Hn.out; omega) (by omega) (by omega) (by omega)
      have hc := Hc.out j (by have := Hn.out; omega)
      have hd := Hc.out (j + 1) (by have := Hn.out; omega)
      have hr1 := HT.out.rng j (by have := Hn.out; omega)
      have hr2 := HT.out.rng (j + 1) (by have := Hn.out; omega)
      have hm := HT.out.mono j (by have := Hn.out; omega)
      clear hi0
      generalize (l.getD j P0).1 = z1 at *
      generalize (l.getD j P0).2 = r1 at *
      generalize (l.getD (j + 1) P0).1 = z2 at *
      generalize (l.getD (j + 1) P0).2 = r2 at *
      have Hv := hide hv
      clear hv h2
      obtain ⟨hc0, hc2⟩ := hc
      obtain ⟨hd0, hd2⟩ := hd
      rw [← HB1.out.cell hb] at hc0 hc2 hd0 hd2
      have q0 : (((j : Int) + 1) == (n : Int)) = false := beq_eq_false_iff_ne.2 (by omega)
      go_wp2_with fail
      refine wp_region_R (fun k => k < w1.heap.size) 13 (by kernel_rfl) ?_
      apply anyR_peel (fuel := 4) 13 [true, true, true, true, true, true, true, true, true, false, false, false, false] #[true, true, true, true, true, true, true, true, true, false, false, false, false] (by kernel_rfl) rfl (fun j hj => decide_eq_true hj) (fun k hk => by first | exact hk | omega | (simp at hk ⊢; omega))
      · intro D hD
        have hne := hD.some
        have g0 := liftB hD hc1 (by omega)
        have c0 := liftB hD hc0 (by omega)
        have c2 := liftB hD hc2 (by omega)
        have d0 := liftB hD hd0 (by omega)
        have d2 := liftB hD hd2 (by omega)
        simp only [takeOps]
        repeat (go_big_quiet_step (fail))
        exact wpQuiet_nil rfl
      refine anyR_pair (f := 0) 9 10 11 12 _ _ 8 9 38 42 _ _ #[.int .i64 z1, .int .i64 r1] #[.int .i64 z2, .int .i64 r2] (by kernel_rfl) rfl pzero2 psize2 rfl pzero2 psize2 rfl (by exact of_decide_eq_true rfl) (by exact of_decide_eq_true rfl) rfl rfl (one2 _ _) (one2 _ _) (fun k hk => hk) ?_
      intro g1 g2 w2 hg1 hg2 hne hb2 hbk1 hbk2
      simp only [Act.put, List.setIfInBounds_toArray, List.set_cons_succ, List.set_cons_zero]
      have HB2 := hide (onward HB1.out hb2)
      obtain ⟨c0, c1⟩ := hbk1.c2
      obtain ⟨d0, d1⟩ := hbk2.c2
      have hg1' := hbk1.lt
      have hg2' := hbk2.lt
      clear hbk1 hbk2 hc0 hc2 hd0 hd2 hb2 hc1
      have hp1 := mul_bd (a := r2 - r1) (b := z - z1) (A := 1073741824) (B := 1073741824) (by omega) (by omega) (by omega) (by omega)
      have q2 : (r2 - r1) * (z - z1) ≤ 4611686018427387903 := by omega
      have q3 : 0 ≤ cdiv ((r2 - r1) * (z - z1)) (z2 - z1) := HR.out.lo ((r2 - r1) * (z - z1)) (z2 - z1) hp1.1 (by omega)
      have q4 : cdiv ((r2 - r1) * (z - z1)) (z2 - z1) ≤ (r2 - r1) * (z - z1) + (z2 - z1) := HR.out.hi ((r2 - r1) * (z - z1)) (z2 - z1) hp1.1 (by omega)
      have q5 := hp1.1
      clear hp1
      go_wp2_with fail
      go_quiet ((go_at_call 49; exact quiet_left (up_any _ _ _ q5 (by omega) q2 (by omega))))
      go_wp2
      go_ret
      exact ⟨(ret_int Hv.out).symm, below_drewN HB2.out _⟩
  · obtain rfl : i = n := by omega
    obtain ⟨j, rfl⟩ : ∃ j, i = j + 1 := ⟨i - 1, by omega⟩
    have hd : decide (j + 1 < j + 1 ∧ (l.getD (j + 1) P0).1 = z) = false := decide_eq_false fun h => by omega
    rw [hd]
    have hlt := Hlo.out j (by omega)
    have hv := Hv.out.2.1 j (by have := Hn.out; omega) (by omega)
    have hc := Hc.out j (by have := Hn.out; omega)
    rw [← hv] at hc
    have hc2 := hc.2
    rw [← HB1.out.cell hb] at hc2
    clear hc hv hd
    go_wp2
    go_ret
    exact ⟨rfl, HB1.out⟩

/-- The closure over a table. -/
theorem worth_any (A : Option Addr) (n c : Nat) (w : World) :
    Calls Try.prog 47 #[.slice A n c] w fun e w' => e = .returned (.func (.func 67) #[] #[.pointer (some ⟨w.heap.size, 0, none⟩)]) ∧ w.alloc (.cells #[.slice A n c] 22) = w' := by
  have hmf : ∀ (fn : Fn) (first cap : Array Value) (w : World), (Instr.makeFunc fn first cap).run Try.prog w = .ok (.func fn first cap) w := fun _ _ _ _ => rfl
  go_enter Try.func47, Try.ntmps47
  go_wp2
  go_ret
  exact ⟨rfl, rfl⟩
end Go.Proofs.Ytmglgahagbfbkaa
