/-
  slices.BinarySearchFunc over a table, with rain's comparison: the first point whose power is not below the one that is asked for.
  rain's value of a table at a power, found by a closure over the points: the same values as the reference's.
  The reference's value of a table at a power: the contract, for every valid table.
  Value: rain's and the reference's: one contract for both.
  Models: rain's check and the reference's; what the law hands the reference.
  What the law hands the reference: the same points in new memory, the same model.
  The law's small functions: whether two lists of spans are equal, a span with one number, the tables of the examples.
  Gauges: rain's contracts and the reference's.
-/
import Derived.Test.YtepgpihobmjbdaaRtTable
import Derived.Test.YtepgpihobmjbdaaBeam2Math
import Derived.Test.YtepgpihobmjbdaaRegW
import Derived.Handy
import Derived.Test.YtepgpihobmjbdaaRtTableRef
import Derived.Test.YtepgpihobmjbdaaLoopsOf
import Derived.BigQuiet
set_option linter.unusedSimpArgs false
set_option linter.unusedVariables false
section
namespace Go.Proofs.Ytepgpihobmjbdaa
open Go.RowKit
theorem cmp_any (z r t : Int) (w : World) (h1 : 0 ≤ z) (h2 : z ≤ 1073741824) (h3 : 0 ≤ t) (h4 : t ≤ 1073741824) :
  Calls Try.prog 56 #[.agg #[.int .i64 z, .int .i64 r], .int .i64 t] w fun e w' => e = .returned (.int .i64 (z - t)) ∧ Below w.heap.size w w' := by
 go_enter Try.func56, Try.ntmps56
 go_wp2
 go_ret
 exact ⟨rfl, (Below.refl _ _).alloc (Nat.le_refl _) _⟩
def SearchPost (l : List (Int × Int)) (n : Nat) (z : Int) (w : World) (e : Ending) (w' : World) : Prop :=
 ∃ i : Nat, i ≤ n ∧ (∀ k, k < i → (l.getD k P0).1 < z) ∧ (∀ k, i ≤ k → k < n → z ≤ (l.getD k P0).1) ∧ e = .returned (.tuple #[.int .i64 i, .bool (decide (i < n ∧ (l.getD i P0).1 = z))]) ∧ Below w.heap.size w w'
set_option maxHeartbeats 800000 in
theorem search_any (A : Option Addr) (n c : Nat) (l : List (Int × Int)) (most z : Int) (w : World) (hn : l.length = n) (hT : Tab l most) (hz0 : 0 ≤ z) (hz : z ≤ 1073741824) (hl : Ints w w.heap.size .i64 A (flat2 l)) :
  Calls Try.prog 55 #[.slice A n c, .int .i64 z, .func (.func 56) #[] #[]] w (SearchPost l n z w) := by
 obtain ⟨hlen1, hlen2⟩ := hT.len
 obtain ⟨b, off, rfl, hb, hc⟩ := hl.pt (by omega)
 have Hc := hide hc
 have HT := hide hT
 clear hc hl hT
 have Hn := hide hn
 rw [hn] at hlen1 hlen2
 clear hn
 go_enter Try.func55, Try.ntmps55
 go_wp2_with fail
 go_loopw [9, 10] (fun i j wr => ∃ p q : Nat, p ≤ q ∧ q ≤ n ∧ i = .int .i64 p ∧ j = .int .i64 q ∧ Below w.heap.size w wr ∧ (∀ k, k < p → (l.getD k P0).1 < z) ∧ (∀ k, q ≤ k → k < n → z ≤ (l.getD k P0).1))
  (fun i j _ => (intOf j).toNat - (intOf i).toNat)
 case atStart => exact ⟨0, n, by omega, by omega, rfl, rfl, Below.refl _ _, fun k hk => by omega, fun k h1 h2 => by omega⟩
 case round =>
  obtain ⟨p, q, hpq, hqn, rfl, rfl, hbw, hlo, hhi⟩ := hrel
  have Hlo := hide hlo
  have Hhi := hide hhi
  have Hbw := hide hbw
  clear hlo hhi
  by_cases hlt : p < q
  ·
   have hm : (p + q) / 2 < n := by omega
   have hc := Hc.out ((p + q) / 2) (by have := Hn.out; omega)
   have hr := HT.out.rng ((p + q) / 2) (by have := Hn.out; omega)
   have up : ∀ k, k ≤ (p + q) / 2 → (l.getD k P0).1 ≤ (l.getD ((p + q) / 2) P0).1 := fun k hk => tab_le HT.out hk (by have := Hn.out; omega)
   have dn : ∀ k, (p + q) / 2 ≤ k → k < n → (l.getD ((p + q) / 2) P0).1 ≤ (l.getD k P0).1 := fun k hk hk2 => tab_le HT.out hk (by have := Hn.out; omega)
   have Up := hide up
   have Dn := hide dn
   clear up dn
   generalize hze : (l.getD ((p + q) / 2) P0).1 = ze at *
   generalize (l.getD ((p + q) / 2) P0).2 = re at *
   have Hze := hide hze
   clear hze
   obtain ⟨hc0, hc1⟩ := hc
   rw [← hbw.cell hb] at hc0 hc1
   clear hbw
   go_wp2_with (first | (go_at_call 56; refine (cmp_any _ _ _ _ (by omega) (by omega) hz0 hz).mono ?_; rintro e w1 ⟨rfl, hb1⟩))
   ·
    go_roundw
    case rel =>
     exact ⟨(p + q) / 2 + 1, q, by omega, hqn, by go_num, rfl, onward Hbw.out hb1, fun k hk => by have := Up.out k (by omega); omega, Hhi.out⟩
    case measure => simp [intOf]; omega
   ·
    go_roundw
    case rel =>
     exact ⟨p, (p + q) / 2, by omega, by omega, rfl, by go_num, onward Hbw.out hb1, Hlo.out, fun k hk hk2 => by have := Dn.out k hk hk2; omega⟩
    case measure => simp [intOf]; omega
  ·
   obtain rfl : p = q := by omega
   by_cases hpn : p < n
   ·
    have hc := Hc.out p (by have := Hn.out; omega)
    have hr := HT.out.rng p (by have := Hn.out; omega)
    have hge := Hhi.out p (by omega) hpn
    have fin : ∀ w1 : World, Later wr w1 → SearchPost l n z w (.returned (.tuple #[.int .i64 p, .bool ((l.getD p P0).1 - z == 0)])) w1 := fun w1 h1 =>
     ⟨p, by omega, Hlo.out, Hhi.out, by
      have e : ((l.getD p P0).1 - z == 0) = decide (p < n ∧ (l.getD p P0).1 = z) := by
       rw [Bool.eq_iff_iff]; simp; omega
      rw [e], onward Hbw.out h1⟩
    have Fin := hide fin
    clear fin
    generalize (l.getD p P0).1 = ze at *
    generalize (l.getD p P0).2 = re at *
    obtain ⟨hc0, hc1⟩ := hc
    rw [← hbw.cell hb] at hc0 hc1
    clear hbw
    go_wp2_with (first | (go_at_call 56; refine (cmp_any _ _ _ _ (by omega) (by omega) hz0 hz).mono ?_; rintro e w1 ⟨rfl, hb1⟩))
    go_ret2
    exact Fin.out w1 hb1
   ·
    have fin : SearchPost l n z w (.returned (.tuple #[.int .i64 p, .bool false])) wr :=
     ⟨p, by omega, Hlo.out, Hhi.out, by
      have e : false = decide (p < n ∧ (l.getD p P0).1 = z) := by simp; omega
      rw [← e], Hbw.out⟩
    have Fin := hide fin
    clear fin hbw
    go_wp2_with fail
    go_ret2
    exact Fin.out
end Go.Proofs.Ytepgpihobmjbdaa
end
section
namespace Go.Proofs.Ytepgpihobmjbdaa
open Go.RowKit
theorem pzero2 : (Try.prog.info? 94).map (·.zero) = some (some (.agg #[.int .i64 0, .int .i64 0])) := by kernel_rfl
theorem psize2 : (Try.prog.info? 94).map (·.size) = some 2 := by kernel_rfl
structure Rounds (f : FuncId) (rd : Int → Int → Int) : Prop where
 call : ∀ (a b : Int) (w : World), 0 ≤ a → 1 ≤ b → a ≤ 4611686018427387903 → b ≤ 4611686018427387903 → Calls Try.prog f #[.int .i64 a, .int .i64 b] w fun e w' => e = .returned (.int .i64 (rd a b)) ∧ w = w'
 lo : ∀ a b : Int, 0 ≤ a → 1 ≤ b → 0 ≤ rd a b
 hi : ∀ a b : Int, 0 ≤ a → 1 ≤ b → rd a b ≤ a + b
theorem rounds_down : Rounds 30 (· / ·) := ⟨fun a b w h1 h2 h3 h4 => down_any a b w h1 h2 h3 h4, fun a b h1 h2 => Int.ediv_nonneg h1 (by omega), fun a b h1 h2 => by have := Int.ediv_le_self b h1; omega⟩
theorem rounds_up : Rounds 31 cdiv := ⟨fun a b w h1 h2 h3 h4 => up_any a b w h1 h2 h3 h4, fun a b h1 h2 => by rw [cdiv_eq (by omega)]; exact Int.ediv_nonneg (by omega) (by omega),
 fun a b h1 h2 => by rw [cdiv_eq (by omega)]; have := Int.ediv_le_self (a := a + b - 1) b (by omega); omega⟩
def endOf (rd : Int → Int → Int) (l : List (Int × Int)) (z : Int) (v : Int) : Prop :=
 (∀ i, i < l.length → (l.getD i P0).1 = z → v = (l.getD i P0).2) ∧ (∀ i, i + 1 = l.length → (l.getD i P0).1 ≤ z → v = (l.getD i P0).2) ∧
 (∀ i, i + 1 < l.length → (l.getD i P0).1 ≤ z → z < (l.getD (i + 1) P0).1 → (l.getD i P0).1 ≠ z → v = (l.getD i P0).2 + rd (((l.getD (i + 1) P0).2 - (l.getD i P0).2) * (z - (l.getD i P0).1)) ((l.getD (i + 1) P0).1 - (l.getD i P0).1))
theorem end_down {l : List (Int × Int)} {most : Int} (hT : Tab l most) (z : Int) : endOf (· / ·) l z (valGo z l).1 :=
 ⟨fun i hi h => by rw [val_hit hT hi h], fun i hi h => by rw [val_end hT hi h], fun i hi h h2 _ => by rw [val_mid hT hi h h2]⟩
theorem end_up {l : List (Int × Int)} {most : Int} (hT : Tab l most) (z : Int) : endOf cdiv l z (valGo z l).2 :=
 ⟨fun i hi h => by rw [val_hit hT hi h], fun i hi h => by rw [val_end hT hi h], fun i hi h h2 _ => by rw [val_mid hT hi h h2]⟩
set_option maxHeartbeats 1000000 in
theorem worth1_down (A : Option Addr) (n c : Nat) (l : List (Int × Int)) (most z v : Int) (g : Nat) (w : World) (hn : l.length = n) (hT : Tab l most) (hmost : most ≤ 1073741824) (hz0 : 0 ≤ z) (hz : z ≤ 1073741824) (hl : Ints w w.heap.size .i64 A (flat2 l))
  (hg : Blk w g 22 #[.slice A n c]) (hv : endOf (· / ·) l z v) :
  Calls Try.prog 54 #[.int .i64 z, .func (.func 30) #[] #[], .pointer (some ⟨g, 0, none⟩)] w fun e w' => e = .returned (.int .i64 v) ∧ Below w.heap.size w w' := by
 have HT := hide hT
 have hlen := hT.len
 obtain ⟨b, off, hA, hb, hc⟩ := hl.pt (by omega)
 have Hc := hide hc
 have Hv := hide hv
 have HR := hide rounds_down
 have hS := search_any A n c l most z w hn hT hz0 hz hl
 have Hn := hide hn
 rw [hn] at hlen
 have hgc : w.cell? ⟨g, 0, none⟩ = some (.slice A n c) := hg.c 0 rfl
 have hglt := hg.lt
 subst hA
 clear hc hl hT hv hn
 go_enter Try.func54, Try.ntmps54
 go_wp2_with fail
 refine hS.mono ?_
 rintro e w1 ⟨i, hin, hlo, hhi, rfl, hb1⟩
 have hc1 : w1.cell? ⟨g, 0, none⟩ = some (.slice (some ⟨b, off, none⟩) n c) := (hb1.cell hglt).trans hgc
 have Hlo := hide hlo
 have Hhi := hide hhi
 have HB1 := hide hb1
 have hsz := hb1.size
 clear hlo hhi hb1 hgc hg hS
 by_cases h1 : i < n
 ·
  by_cases h2 : (l.getD i P0).1 = z
  ·
   have hd : decide (i < n ∧ (l.getD i P0).1 = z) = true := decide_eq_true ⟨h1, h2⟩
   rw [hd]
   have hc := Hc.out i (by have := Hn.out; omega)
   have hv := Hv.out.1 i (by have := Hn.out; omega) h2
   rw [← hv] at hc
   have hc2 := hc.2
   rw [← HB1.out.cell hb] at hc2
   clear hc hv hd h2
   go_wp2
   go_ret
   exact ⟨rfl, HB1.out⟩
  ·
   have hd : decide (i < n ∧ (l.getD i P0).1 = z) = false := decide_eq_false fun h => h2 h.2
   rw [hd]
   have hge := Hhi.out i (by omega) h1
   have hi0 : i ≠ 0 := by rintro rfl; have := HT.out.z0; omega
   obtain ⟨j, rfl⟩ : ∃ j, i = j + 1 := ⟨i - 1, by omega⟩
   have hlt := Hlo.out j (by omega)
   have hv := Hv.out.2.2 j (by have := Hn.out; omega) (by omega) (by omega) (by omega)
   have hc := Hc.out j (by have := Hn.out; omega)
   have hd := Hc.out (j + 1) (by have := Hn.out; omega)
   have hr1 := HT.out.rng j (by have := Hn.out; omega)
   have hr2 := HT.out.rng (j + 1) (by have := Hn.out; omega)
   have hm := HT.out.mono j (by have := Hn.out; omega)
   clear hi0
   generalize (l.getD j P0).1 = z1 at *
   generalize (l.getD j P0).2 = r1 at *
   generalize (l.getD (j + 1) P0).1 = z2 at *
   generalize (l.getD (j + 1) P0).2 = r2 at *
   have Hv := hide hv
   clear hv h2
   obtain ⟨hc0, hc2⟩ := hc
   obtain ⟨hd0, hd2⟩ := hd
   rw [← HB1.out.cell hb] at hc0 hc2 hd0 hd2
   have q0 : (((j : Int) + 1) == (n : Int)) = false := beq_eq_false_iff_ne.2 (by omega)
   go_wp2_with fail
   refine wp_region_R (fun k => k < w1.heap.size) 13 (by kernel_rfl) ?_
   apply anyR_peel (fuel := 4) 13 [true, true, true, true, true, true, true, true, true, false, false, false, false] #[true, true, true, true, true, true, true, true, true, false, false, false, false] (by kernel_rfl) rfl (fun j hj => decide_eq_true hj) (fun k hk => by first | exact hk | omega | (simp at hk ⊢; omega))
   ·
    intro D hD
    have hne := hD.some
    have g0 := liftB hD hc1 (by omega)
    have c0 := liftB hD hc0 (by omega)
    have c2 := liftB hD hc2 (by omega)
    have d0 := liftB hD hd0 (by omega)
    have d2 := liftB hD hd2 (by omega)
    simp only [takeOps]
    repeat (go_big_quiet_step (fail))
    exact wpQuiet_nil rfl
   refine anyR_pair (f := 0) 9 10 11 12 _ _ 8 9 38 42 _ _ #[.int .i64 z1, .int .i64 r1] #[.int .i64 z2, .int .i64 r2] (by kernel_rfl) rfl pzero2 psize2 rfl pzero2 psize2 rfl (by exact of_decide_eq_true rfl) (by exact of_decide_eq_true rfl) rfl rfl (one2 _ _) (one2 _ _) (fun k hk => hk) ?_
   intro g1 g2 w2 hg1 hg2 hne hb2 hbk1 hbk2
   simp only [Act.put, List.setIfInBounds_toArray, List.set_cons_succ, List.set_cons_zero]
   have HB2 := hide (onward HB1.out hb2)
   obtain ⟨c0, c1⟩ := hbk1.c2
   obtain ⟨d0, d1⟩ := hbk2.c2
   have hg1' := hbk1.lt
   have hg2' := hbk2.lt
   clear hbk1 hbk2 hc0 hc2 hd0 hd2 hb2 hc1
   have hp1 := mul_bd (a := r2 - r1) (b := z - z1) (A := 1073741824) (B := 1073741824) (by omega) (by omega) (by omega) (by omega)
   have q2 : (r2 - r1) * (z - z1) ≤ 4611686018427387903 := by omega
   have q3 : 0 ≤ (r2 - r1) * (z - z1) / (z2 - z1) := HR.out.lo ((r2 - r1) * (z - z1)) (z2 - z1) hp1.1 (by omega)
   have q4 : (r2 - r1) * (z - z1) / (z2 - z1) ≤ (r2 - r1) * (z - z1) + (z2 - z1) := HR.out.hi ((r2 - r1) * (z - z1)) (z2 - z1) hp1.1 (by omega)
   have q5 := hp1.1
   clear hp1
   go_wp2_with fail
   go_quiet ((go_at_call 30; exact quiet_left (down_any _ _ _ q5 (by omega) q2 (by omega))))
   go_wp2
   go_ret
   exact ⟨(ret_int Hv.out).symm, below_drewN HB2.out _⟩
 ·
  obtain rfl : i = n := by omega
  obtain ⟨j, rfl⟩ : ∃ j, i = j + 1 := ⟨i - 1, by omega⟩
  have hd : decide (j + 1 < j + 1 ∧ (l.getD (j + 1) P0).1 = z) = false := decide_eq_false fun h => by omega
  rw [hd]
  have hlt := Hlo.out j (by omega)
  have hv := Hv.out.2.1 j (by have := Hn.out; omega) (by omega)
  have hc := Hc.out j (by have := Hn.out; omega)
  rw [← hv] at hc
  have hc2 := hc.2
  rw [← HB1.out.cell hb] at hc2
  clear hc hv hd
  go_wp2
  go_ret
  exact ⟨rfl, HB1.out⟩
set_option maxHeartbeats 1000000 in
theorem worth1_up (A : Option Addr) (n c : Nat) (l : List (Int × Int)) (most z v : Int) (g : Nat) (w : World) (hn : l.length = n) (hT : Tab l most) (hmost : most ≤ 1073741824) (hz0 : 0 ≤ z) (hz : z ≤ 1073741824) (hl : Ints w w.heap.size .i64 A (flat2 l))
  (hg : Blk w g 22 #[.slice A n c]) (hv : endOf cdiv l z v) :
  Calls Try.prog 54 #[.int .i64 z, .func (.func 31) #[] #[], .pointer (some ⟨g, 0, none⟩)] w fun e w' => e = .returned (.int .i64 v) ∧ Below w.heap.size w w' := by
 have HT := hide hT
 have hlen := hT.len
 obtain ⟨b, off, hA, hb, hc⟩ := hl.pt (by omega)
 have Hc := hide hc
 have Hv := hide hv
 have HR := hide rounds_up
 have hS := search_any A n c l most z w hn hT hz0 hz hl
 have Hn := hide hn
 rw [hn] at hlen
 have hgc : w.cell? ⟨g, 0, none⟩ = some (.slice A n c) := hg.c 0 rfl
 have hglt := hg.lt
 subst hA
 clear hc hl hT hv hn
 go_enter Try.func54, Try.ntmps54
 go_wp2_with fail
 refine hS.mono ?_
 rintro e w1 ⟨i, hin, hlo, hhi, rfl, hb1⟩
 have hc1 : w1.cell? ⟨g, 0, none⟩ = some (.slice (some ⟨b, off, none⟩) n c) := (hb1.cell hglt).trans hgc
 have Hlo := hide hlo
 have Hhi := hide hhi
 have HB1 := hide hb1
 have hsz := hb1.size
 clear hlo hhi hb1 hgc hg hS
 by_cases h1 : i < n
 ·
  by_cases h2 : (l.getD i P0).1 = z
  ·
   have hd : decide (i < n ∧ (l.getD i P0).1 = z) = true := decide_eq_true ⟨h1, h2⟩
   rw [hd]
   have hc := Hc.out i (by have := Hn.out; omega)
   have hv := Hv.out.1 i (by have := Hn.out; omega) h2
   rw [← hv] at hc
   have hc2 := hc.2
   rw [← HB1.out.cell hb] at hc2
   clear hc hv hd h2
   go_wp2
   go_ret
   exact ⟨rfl, HB1.out⟩
  ·
   have hd : decide (i < n ∧ (l.getD i P0).1 = z) = false := decide_eq_false fun h => h2 h.2
   rw [hd]
   have hge := Hhi.out i (by omega) h1
   have hi0 : i ≠ 0 := by rintro rfl; have := HT.out.z0; omega
   obtain ⟨j, rfl⟩ : ∃ j, i = j + 1 := ⟨i - 1, by omega⟩
   have hlt := Hlo.out j (by omega)
   have hv := Hv.out.2.2 j (by have := Hn.out; omega) (by omega) (by omega) (by omega)
   have hc := Hc.out j (by have := Hn.out; omega)
   have hd := Hc.out (j + 1) (by have := Hn.out; omega)
   have hr1 := HT.out.rng j (by have := Hn.out; omega)
   have hr2 := HT.out.rng (j + 1) (by have := Hn.out; omega)
   have hm := HT.out.mono j (by have := Hn.out; omega)
   clear hi0
   generalize (l.getD j P0).1 = z1 at *
   generalize (l.getD j P0).2 = r1 at *
   generalize (l.getD (j + 1) P0).1 = z2 at *
   generalize (l.getD (j + 1) P0).2 = r2 at *
   have Hv := hide hv
   clear hv h2
   obtain ⟨hc0, hc2⟩ := hc
   obtain ⟨hd0, hd2⟩ := hd
   rw [← HB1.out.cell hb] at hc0 hc2 hd0 hd2
   have q0 : (((j : Int) + 1) == (n : Int)) = false := beq_eq_false_iff_ne.2 (by omega)
   go_wp2_with fail
   refine wp_region_R (fun k => k < w1.heap.size) 13 (by kernel_rfl) ?_
   apply anyR_peel (fuel := 4) 13 [true, true, true, true, true, true, true, true, true, false, false, false, false] #[true, true, true, true, true, true, true, true, true, false, false, false, false] (by kernel_rfl) rfl (fun j hj => decide_eq_true hj) (fun k hk => by first | exact hk | omega | (simp at hk ⊢; omega))
   ·
    intro D hD
    have hne := hD.some
    have g0 := liftB hD hc1 (by omega)
    have c0 := liftB hD hc0 (by omega)
    have c2 := liftB hD hc2 (by omega)
    have d0 := liftB hD hd0 (by omega)
    have d2 := liftB hD hd2 (by omega)
    simp only [takeOps]
    repeat (go_big_quiet_step (fail))
    exact wpQuiet_nil rfl
   refine anyR_pair (f := 0) 9 10 11 12 _ _ 8 9 38 42 _ _ #[.int .i64 z1, .int .i64 r1] #[.int .i64 z2, .int .i64 r2] (by kernel_rfl) rfl pzero2 psize2 rfl pzero2 psize2 rfl (by exact of_decide_eq_true rfl) (by exact of_decide_eq_true rfl) rfl rfl (one2 _ _) (one2 _ _) (fun k hk => hk) ?_
   intro g1 g2 w2 hg1 hg2 hne hb2 hbk1 hbk2
   simp only [Act.put, List.setIfInBounds_toArray, List.set_cons_succ, List.set_cons_zero]
   have HB2 := hide (onward HB1.out hb2)
   obtain ⟨c0, c1⟩ := hbk1.c2
   obtain ⟨d0, d1⟩ := hbk2.c2
   have hg1' := hbk1.lt
   have hg2' := hbk2.lt
   clear hbk1 hbk2 hc0 hc2 hd0 hd2 hb2 hc1
   have hp1 := mul_bd (a := r2 - r1) (b := z - z1) (A := 1073741824) (B := 1073741824) (by omega) (by omega) (by omega) (by omega)
   have q2 : (r2 - r1) * (z - z1) ≤ 4611686018427387903 := by omega
   have q3 : 0 ≤ cdiv ((r2 - r1) * (z - z1)) (z2 - z1) := HR.out.lo ((r2 - r1) * (z - z1)) (z2 - z1) hp1.1 (by omega)
   have q4 : cdiv ((r2 - r1) * (z - z1)) (z2 - z1) ≤ (r2 - r1) * (z - z1) + (z2 - z1) := HR.out.hi ((r2 - r1) * (z - z1)) (z2 - z1) hp1.1 (by omega)
   have q5 := hp1.1
   clear hp1
   go_wp2_with fail
   go_quiet ((go_at_call 31; exact quiet_left (up_any _ _ _ q5 (by omega) q2 (by omega))))
   go_wp2
   go_ret
   exact ⟨(ret_int Hv.out).symm, below_drewN HB2.out _⟩
 ·
  obtain rfl : i = n := by omega
  obtain ⟨j, rfl⟩ : ∃ j, i = j + 1 := ⟨i - 1, by omega⟩
  have hd : decide (j + 1 < j + 1 ∧ (l.getD (j + 1) P0).1 = z) = false := decide_eq_false fun h => by omega
  rw [hd]
  have hlt := Hlo.out j (by omega)
  have hv := Hv.out.2.1 j (by have := Hn.out; omega) (by omega)
  have hc := Hc.out j (by have := Hn.out; omega)
  rw [← hv] at hc
  have hc2 := hc.2
  rw [← HB1.out.cell hb] at hc2
  clear hc hv hd
  go_wp2
  go_ret
  exact ⟨rfl, HB1.out⟩
theorem worth_any (A : Option Addr) (n c : Nat) (w : World) :
  Calls Try.prog 40 #[.slice A n c] w fun e w' => e = .returned (.func (.func 54) #[] #[.pointer (some ⟨w.heap.size, 0, none⟩)]) ∧ w.alloc (.cells #[.slice A n c] 22) = w' := by
 have hmf : ∀ (fn : Fn) (first cap : Array Value) (w : World), (Instr.makeFunc fn first cap).run Try.prog w = .ok (.func fn first cap) w := fun _ _ _ _ => rfl
 go_enter Try.func40, Try.ntmps40
 go_wp2
 go_ret
 exact ⟨rfl, rfl⟩
end Go.Proofs.Ytepgpihobmjbdaa
end
section
namespace Go.Proofs.Ytepgpihobmjbdaa
open Go.RowKit
end Go.Proofs.Ytepgpihobmjbdaa
end
section
namespace Go.Proofs.Ytepgpihobmjbdaa
open Go.RowKit
def valueR (l : List (Int × Int)) (z : Int) : (Int × Int) × Int := if chk l 1073741824 ≠ 0 then ((0, 0), chk l 1073741824) else if win z 0 1073741824 = false then ((0, 0), 3) else (valGo z l, 0)
def spanV (s : Int × Int) : Value := .agg #[.int .i64 s.1, .int .i64 s.2]
def spanE (s : (Int × Int) × Int) : Value := .tuple #[.agg #[.int .i64 s.1.1, .int .i64 s.1.2], .int .i64 s.2]
set_option maxHeartbeats 800000 in
theorem Value_any (A : Option Addr) (n c : Nat) (l : List (Int × Int)) (z : Int) (w : World) (hn : l.length = n) (hmax : n ≤ 9223372036854775807) (hl : Ints w w.heap.size .i64 A (flat2 l)) :
  Calls Try.prog 14 #[.slice A n c, .int .i64 z] w fun e w' => e = .returned (spanE (valueR l z)) ∧ Below w.heap.size w w' := by
 have hb0 : Below w.heap.size w (w.alloc (.cells #[.int .i64 0, .int .i64 0] 24)) := (Below.refl _ _).alloc (Nat.le_refl _) _
 have hchk := CheckTable_any A n c l 1073741824 (w.alloc (.cells #[.int .i64 0, .int .i64 0] 24)) hn hmax ((hl.below hb0).more (by simp))
 by_cases h1 : chk l 1073741824 = 0
 ·
  have hT := tab_of h1
  have HT := hide hT
  by_cases h2 : win z 0 1073741824 = true
  ·
   have hz := win_iff.1 h2
   have hR : valueR l z = (valGo z l, 0) := by simp [valueR, h1, h2]
   have HR := hide hR
   have H1 := hide h1
   have Hl := hide hl
   have Hn := hide hn
   have Hb0 := hide hb0
   rw [h1] at hchk
   clear hR h1 hl hT hn hb0
   go_enter Try.func14, Try.ntmps14
   go_wp2_with fail
   refine hchk.mono ?_
   rintro e w1 ⟨rfl, hb1⟩
   clear hchk
   have hB1 := Hb0.out.trans (hb1.mono (by simp))
   have HB1 := hide hB1
   have hbk : Blk w1 w.heap.size 24 #[.int .i64 0, .int .i64 0] := (Blk.new w _ _).below hb1 (by simp)
   have Hbk := hide hbk
   clear hb1 hB1 hbk
   go_wp2_with (first | (go_at_call 29; refine (within_any _ _ _ _).mono ?_; rintro e w' ⟨rfl, rfl⟩) | (go_at_call 40; refine (worth_any _ _ _ _).mono ?_; rintro e w' ⟨rfl, rfl⟩))
   have hs1 := HB1.out.size
   have bw : Below w.heap.size w (w1.alloc (.cells #[.slice A n c] 22)) := HB1.out.alloc hs1 _
   refine (worth1_down A n c l 1073741824 z (valGo z l).1 w1.heap.size _ Hn.out HT.out (Int.le_refl _) hz.1 hz.2 ((Hl.out.below bw).more (by simp; omega)) (Blk.new _ _ _) (end_down HT.out z)).mono ?_
   rintro e w2 ⟨rfl, hb2⟩
   have bw2 := bw.trans (hb2.mono (by simp; omega))
   have bk2 : Blk w2 w1.heap.size 22 #[.slice A n c] := (Blk.new w1 _ _).below hb2 (by simp)
   have hbk2 : Blk w2 w.heap.size 24 #[.int .i64 0, .int .i64 0] := (Hbk.out.alloc _).below hb2 (by have := Hbk.out.lt; simp; omega)
   have Hbk2 := hide hbk2
   clear hb2 bw hbk2
   go_wp2_with fail
   refine (worth1_up A n c l 1073741824 z (valGo z l).2 w1.heap.size _ Hn.out HT.out (Int.le_refl _) hz.1 hz.2 ((Hl.out.below bw2).more bw2.size) bk2 (end_up HT.out z)).mono ?_
   rintro e w3 ⟨rfl, hb3⟩
   have hbk3 := Hbk2.out.below hb3 Hbk2.out.lt
   have HB3 := hide (onward bw2 hb3)
   obtain ⟨e0, e1⟩ := hbk3.c2
   have f0 := hbk3.frozen 0
   have f1 := hbk3.frozen 1
   clear hb3 bw2 bk2 hbk3
   go_wp2
   refine bodyPost_ret (v := spanE (valueR l z)) (by rw [HR.out]; simp [spanE, results, Try.results14, go_sem, e0, e1]) rfl ⟨rfl, ?_⟩
   exact (HB3.out.setCell (by simp) _).setCell (by simp) _
  ·
   have h3 : win z 0 1073741824 = false := by simpa using h2
   have hR : valueR l z = ((0, 0), 3) := by simp [valueR, h1, h3]
   have HR := hide hR
   have Hb0 := hide hb0
   rw [h1] at hchk
   clear hR h1 hl hT HT hn hb0 h2
   go_enter Try.func14, Try.ntmps14
   go_wp2_with fail
   refine hchk.mono ?_
   rintro e w1 ⟨rfl, hb1⟩
   clear hchk
   have HB1 := hide (Hb0.out.trans (hb1.mono (by simp)))
   have hbk : Blk w1 w.heap.size 24 #[.int .i64 0, .int .i64 0] := (Blk.new w _ _).below hb1 (by simp)
   obtain ⟨e0, e1⟩ := hbk.c2
   have f0 := hbk.frozen 0
   have f1 := hbk.frozen 1
   clear hb1 hbk
   go_wp2_with (first | (go_at_call 29; refine (within_any _ _ _ _).mono ?_; rintro e w' ⟨rfl, rfl⟩))
   refine bodyPost_ret (v := spanE (valueR l z)) (by rw [HR.out]; simp [spanE, results, Try.results14, go_sem, e0, e1]) rfl ⟨rfl, ?_⟩
   exact (HB1.out.setCell (by simp) _).setCell (by simp) _
 ·
  have hR : valueR l z = ((0, 0), chk l 1073741824) := by simp [valueR, h1]
  have HR := hide hR
  have Hb0 := hide hb0
  have h3 : (chk l 1073741824 != 0) = true := by simpa [bne] using h1
  clear hR h1 hl hn hb0
  generalize chk l 1073741824 = ck at *
  go_enter Try.func14, Try.ntmps14
  go_wp2_with fail
  refine hchk.mono ?_
  rintro e w1 ⟨rfl, hb1⟩
  clear hchk
  have HB1 := hide (Hb0.out.trans (hb1.mono (by simp)))
  have hbk : Blk w1 w.heap.size 24 #[.int .i64 0, .int .i64 0] := (Blk.new w _ _).below hb1 (by simp)
  obtain ⟨e0, e1⟩ := hbk.c2
  have f0 := hbk.frozen 0
  have f1 := hbk.frozen 1
  clear hb1 hbk
  go_wp2
  refine bodyPost_ret (v := spanE (valueR l z)) (by rw [HR.out]; simp [spanE, results, Try.results14, go_sem, e0, e1]) rfl ⟨rfl, ?_⟩
  exact (HB1.out.setCell (by simp) _).setCell (by simp) _
end Go.Proofs.Ytepgpihobmjbdaa
end
section
namespace Go.Proofs.Ytepgpihobmjbdaa
open Go.RowKit
theorem Blk.c8 {w : World} {g : Nat} {t : TypeId} {u0 u1 u2 u3 u4 u5 u6 u7 : Value} (h : Blk w g t #[u0, u1, u2, u3, u4, u5, u6, u7]) : w.cell? ⟨g, 0, none⟩ = some u0 ∧ w.cell? ⟨g, 1, none⟩ = some u1 ∧ w.cell? ⟨g, 2, none⟩ = some u2 ∧ w.cell? ⟨g, 3, none⟩ = some u3 ∧
  w.cell? ⟨g, 4, none⟩ = some u4 ∧ w.cell? ⟨g, 5, none⟩ = some u5 ∧ w.cell? ⟨g, 6, none⟩ = some u6 ∧ w.cell? ⟨g, 7, none⟩ = some u7 :=
 ⟨h.c 0 rfl, h.c 1 rfl, h.c 2 rfl, h.c 3 rfl, h.c 4 rfl, h.c 5 rfl, h.c 6 rfl, h.c 7 rfl⟩
def mdlV (A : Option Addr) (n c : Nat) (A' : Option Addr) (n' c' : Nat) (melt inn above : Int × Int) : Value :=
 .agg #[.slice A n c, .slice A' n' c', .int .i64 melt.1, .int .i64 melt.2, .int .i64 inn.1, .int .i64 inn.2, .int .i64 above.1, .int .i64 above.2]
set_option maxHeartbeats 1000000 in
theorem CheckModel_any (A : Option Addr) (n c : Nat) (l : List (Int × Int)) (A' : Option Addr) (n' c' : Nat) (m : List (Int × Int)) (melt inn above : Int × Int) (w : World) (hn : l.length = n) (hmax : n ≤ 9223372036854775807) (hn' : m.length = n') (hmax' : n' ≤ 9223372036854775807)
  (hl : Ints w w.heap.size .i64 A (flat2 l)) (hm : Ints w w.heap.size .i64 A' (flat2 m)) :
  Calls Try.prog 4 #[mdlV A n c A' n' c' melt inn above] w fun e w' => e = .returned (.int .i64 (chkModel l m melt inn above)) ∧ Below w.heap.size w w' := by
 obtain ⟨a0, a1⟩ := melt
 obtain ⟨b0, b1⟩ := inn
 obtain ⟨c0, c1⟩ := above
 have hbx := fun X : Array Value => ((Below.refl w.heap.size w).alloc (Nat.le_refl _) (.cells X 26))
 have h1 := fun X : Array Value => CheckTable_any A n c l 32768 (w.alloc (.cells X 26)) hn hmax ((hl.below (hbx X)).more (by simp))
 have h2 := fun (X : Array Value) (w1 : World) (hb : Below (w.alloc (.cells X 26)).heap.size (w.alloc (.cells X 26)) w1) => CheckTable_any A' n' c' m 1000000 w1 hn' hmax' ((hm.below ((hbx X).trans (hb.mono (by simp)))).more (by have := hb.size; simp at this; omega))
 have Hbx := hide hbx
 have H1 := hide h1
 have H2 := hide h2
 clear h1 h2 hbx hl hm hn hn'
 have hR : chkModel l m (a0, a1) (b0, b1) (c0, c1) = if chk l 32768 ≠ 0 then chk l 32768 else if chk m 1000000 ≠ 0 then chk m 1000000 else if (ins a0 a1 20000 && ins b0 b1 100000 && ins c0 c1 100000) = false then 3 else 0 := rfl
 generalize chk l 32768 = k1 at *
 generalize chk m 1000000 = k2 at *
 unfold mdlV
 simp only
 by_cases g1 : k1 = 0
 ·
  subst g1
  go_enter Try.func4, Try.ntmps4
  go_wp2_with fail
  refine (H1.out _).mono ?_
  rintro e w1 ⟨rfl, hb1⟩
  have b1 := (Blk.new w 26 #[.slice A n c, .slice A' n' c', .int .i64 a0, .int .i64 a1, .int .i64 b0, .int .i64 b1, .int .i64 c0, .int .i64 c1]).below hb1 (by simp)
  have HB1 := hide ((Hbx.out _).trans (hb1.mono (by simp)))
  have hc1 := H2.out _ w1 hb1
  have HC := hide b1
  obtain ⟨x0, x1, x2, x3, x4, x5, x6, x7⟩ := b1.c8
  clear hb1 b1
  go_wp2_with fail
  refine hc1.mono ?_
  rintro e w2 ⟨rfl, hb2⟩
  have b2 := HC.out.below hb2 HC.out.lt
  have HB2 := hide (onward HB1.out hb2)
  have HC2 := hide b2
  clear hb2 hc1 x0 x1 x2 x3 x4 x5 x6 x7
  obtain ⟨x0, x1, x2, x3, x4, x5, x6, x7⟩ := b2.c8
  clear b2
  by_cases g2 : k2 = 0
  ·
   subst g2
   rw [if_neg (by simp), if_neg (by simp)] at hR
   have HR := hide hR
   clear hR
   go_wp2_with fail
   refine (inside_any _ _ _ _).mono ?_
   rintro e w3 ⟨rfl, hb3⟩
   have b3 := HC2.out.below hb3 HC2.out.lt
   have HB3 := hide (onward HB2.out hb3)
   have HC3 := hide b3
   clear hb3 x0 x1 x2 x3 x4 x5 x6 x7
   obtain ⟨x0, x1, x2, x3, x4, x5, x6, x7⟩ := b3.c8
   clear b3
   by_cases i1 : ins a0 a1 20000 = true
   ·
    go_wp2_with fail
    refine (inside_any _ _ _ _).mono ?_
    rintro e w4 ⟨rfl, hb4⟩
    have b4 := HC3.out.below hb4 HC3.out.lt
    have HB4 := hide (onward HB3.out hb4)
    have HC4 := hide b4
    clear hb4 x0 x1 x2 x3 x4 x5 x6 x7
    obtain ⟨x0, x1, x2, x3, x4, x5, x6, x7⟩ := b4.c8
    clear b4
    by_cases i2 : ins b0 b1 100000 = true
    ·
     go_wp2_with fail
     refine (inside_any _ _ _ _).mono ?_
     rintro e w5 ⟨rfl, hb5⟩
     have HB5 := hide (onward HB4.out hb5)
     clear hb5 x0 x1 x2 x3 x4 x5 x6 x7
     by_cases i3 : ins c0 c1 100000 = true
     ·
      have hr := HR.out
      rw [i1, i2, i3, if_neg (by simp)] at hr
      have HR2 := hide hr
      clear hr
      go_wp2
      go_ret
      exact ⟨(ret_int HR2.out).symm, HB5.out⟩
     ·
      have j3 : ins c0 c1 100000 = false := by simpa using i3
      clear i3
      have hr := HR.out
      rw [j3, if_pos (by simp)] at hr
      have HR2 := hide hr
      clear hr
      go_wp2
      go_ret
      exact ⟨(ret_int HR2.out).symm, HB5.out⟩
    ·
     have j2 : ins b0 b1 100000 = false := by simpa using i2
     clear i2
     have hr := HR.out
     rw [j2, if_pos (by simp)] at hr
     have HR2 := hide hr
     clear hr
     go_wp2
     go_ret
     exact ⟨(ret_int HR2.out).symm, HB4.out⟩
   ·
    have j1 : ins a0 a1 20000 = false := by simpa using i1
    clear i1
    have hr := HR.out
    rw [j1, if_pos (by simp)] at hr
    have HR2 := hide hr
    clear hr
    go_wp2
    go_ret
    exact ⟨(ret_int HR2.out).symm, HB3.out⟩
  ·
   have g2' : (k2 != 0) = true := by simpa [bne] using g2
   rw [if_neg (by simp), if_pos g2] at hR
   have HR := hide hR
   clear hR g2
   go_wp2
   go_ret
   exact ⟨(ret_int HR.out).symm, HB2.out⟩
 ·
  have g1' : (k1 != 0) = true := by simpa [bne] using g1
  have g1'' : (k1 == 0) = false := by simpa using g1
  rw [if_pos g1] at hR
  have HR := hide hR
  clear hR g1
  go_enter Try.func4, Try.ntmps4
  go_wp2_with fail
  refine (H1.out _).mono ?_
  rintro e w1 ⟨rfl, hb1⟩
  have HB := hide ((Hbx.out _).trans (hb1.mono (by simp)))
  clear hb1
  go_wp2
  go_ret
  exact ⟨(ret_int HR.out).symm, HB.out⟩
end Go.Proofs.Ytepgpihobmjbdaa
end
section
namespace Go.Proofs.Ytepgpihobmjbdaa
open Go.RowKit
theorem new_cells (w : World) (t : TypeId) (l : List Value) (j : Nat) (u : Value) (h : l[j]? = some u) : (w.alloc (.cells ⟨l⟩ t)).cell? ((⟨w.heap.size, 0, none⟩ : Addr).add j) = some u := by
 rw [show (⟨w.heap.size, 0, none⟩ : Addr).add j = ⟨w.heap.size, j, none⟩ by unfold Addr.add; split <;> simp_all]
 rw [(Blk.new w t ⟨l⟩).cell j]; simpa using h
end Go.Proofs.Ytepgpihobmjbdaa
end
section
namespace Go.Proofs.Ytepgpihobmjbdaa
open Go.RowKit
theorem point_any (n : Int) (w : World) :
  Calls Try.prog 22 #[.int .i64 n] w fun e w' => e = .returned (.agg #[.int .i64 n, .int .i64 n]) ∧ Below w.heap.size w w' := by
 go_enter Try.func22, Try.ntmps22
 go_wp2
 refine bodyPost_ret (v := .agg #[.int .i64 n, .int .i64 n]) (by simp [results, Try.results22, go_sem]) rfl ⟨rfl, ?_⟩
 exact (Below.refl _ _).alloc (Nat.le_refl _) _
theorem T_any (w : World) :
  Calls Try.prog 19 #[] w fun e w' => e = .returned (.slice (some ⟨w.heap.size, 0, none⟩) 3 3) ∧ w.alloc (.cells #[.int .i64 0, .int .i64 0, .int .i64 100, .int .i64 10, .int .i64 200, .int .i64 110] 94) = w' := by
 go_enter Try.func19, Try.ntmps19
 go_wp2
 go_ret
 exact ⟨rfl, rfl⟩
theorem L_any (w : World) :
  Calls Try.prog 20 #[] w fun e w' => e = .returned (.slice (some ⟨w.heap.size, 0, none⟩) 2 2) ∧ w.alloc (.cells #[.int .i64 0, .int .i64 0, .int .i64 1000, .int .i64 32768] 94) = w' := by
 go_enter Try.func20, Try.ntmps20
 go_wp2
 go_ret
 exact ⟨rfl, rfl⟩
theorem ext_getD {l m : List (Int × Int)} (h : l.length = m.length) (hh : ∀ j, j < l.length → l.getD j (0, 0) = m.getD j (0, 0)) : l = m := by
 apply List.ext_getElem h
 intro j h1 h2
 have := hh j h1
 simpa [List.getD, h1, h2] using this
set_option maxHeartbeats 800000 in
theorem same_any (A : Option Addr) (n c : Nat) (l : List (Int × Int)) (A' : Option Addr) (n' c' : Nat) (m : List (Int × Int)) (w : World) (hn : l.length = n) (hmax : n ≤ 9223372036854775807) (hn' : m.length = n') (hmax' : n' ≤ 9223372036854775807)
  (hl : Ints w w.heap.size .i64 A (flat2 l)) (hm : Ints w w.heap.size .i64 A' (flat2 m)) :
  Calls Try.prog 23 #[.slice A n c, .slice A' n' c'] w fun e w' => e = .returned (.bool (decide (l = m))) ∧ Below w.heap.size w w' := by
 by_cases hnn : n = n'
 ·
  subst hnn
  have Hl := hide hl
  have Hm := hide hm
  have Hn := hide hn
  have Hn' := hide hn'
  have hq : ((n : Int) != n) = false := by simp
  clear hl hm hn hn'
  go_enter Try.func23, Try.ntmps23
  go_wp2_with fail
  go_loopw [5] (fun i wr => ∃ k q : Nat, k ≤ n ∧ i = .int .i64 k ∧ wr = w.drewN q ∧ (∀ j, j < k → l.getD j (0, 0) = m.getD j (0, 0))) (fun i _ => n - (intOf i).toNat)
  case atStart => exact ⟨0, 0, by omega, rfl, rfl, fun j hj => by omega⟩
  case round =>
   obtain ⟨k, q, hk, rfl, rfl, hall⟩ := hrel
   have Hall := hide hall
   clear hall hq
   by_cases hlt : k < n
   ·
    obtain ⟨b, off, rfl, hb, hc⟩ := Hl.out.pt (by have := Hn.out; omega)
    obtain ⟨b', off', rfl, hb', hc'⟩ := Hm.out.pt (by have := Hn'.out; omega)
    obtain ⟨p0, p1⟩ := hc k (by have := Hn.out; omega)
    obtain ⟨q0, q1⟩ := hc' k (by have := Hn'.out; omega)
    have hne : l.getD k (0, 0) ≠ m.getD k (0, 0) → ¬ l = m := fun h e => h (by rw [e])
    have hst : l.getD k (0, 0) = m.getD k (0, 0) → ∀ j, j < k + 1 → l.getD j (0, 0) = m.getD j (0, 0) := fun h j hj => by
     rcases Nat.lt_or_ge j k with h1 | h1
     · exact Hall.out j h1
     ·
      obtain rfl : j = k := by omega
      exact h
    clear hc hc'
    generalize l.getD k (0, 0) = x at *
    generalize m.getD k (0, 0) = y at *
    obtain ⟨x0, x1⟩ := x
    obtain ⟨y0, y1⟩ := y
    simp only at p0 p1 q0 q1
    have Hne := hide hne
    have Hst := hide hst
    clear hne hst
    by_cases he : x0 = y0 ∧ x1 = y1
    ·
     obtain ⟨rfl, rfl⟩ := he
     go_wp2_with fail
     go_quiet (fail)
     go_wp2
     go_roundw
     case rel => exact ⟨k + 1, _, by omega, by go_num, rfl, Hst.out trivial⟩
     case measure => simp [intOf]; omega
    ·
     have hn2 := Hne.out (by simp; omega)
     have Hn2 := hide hn2
     clear hn2
     by_cases h0 : x0 = y0
     ·
      subst h0
      have h1 : (x1 == y1) = false := beq_eq_false_iff_ne.2 (fun e => he ⟨rfl, e⟩)
      clear he
      go_wp2_with fail
      go_quiet (fail)
      go_wp2
      go_ret
      exact ⟨ret_bool (decide_eq_false Hn2.out).symm, below_drewN (below_drewN (Below.refl _ _) _) _⟩
     ·
      have h1 : (x0 == y0) = false := beq_eq_false_iff_ne.2 h0
      clear he h0
      go_wp2_with fail
      go_quiet (fail)
      go_wp2
      go_ret
      exact ⟨ret_bool (decide_eq_false Hn2.out).symm, below_drewN (below_drewN (Below.refl _ _) _) _⟩
   ·
    have hlm : l = m := ext_getD (by rw [Hn.out, Hn'.out]) (fun j hj => Hall.out j (by have := Hn.out; omega))
    have Hlm := hide hlm
    clear hlm
    go_wp2
    go_ret
    exact ⟨ret_bool (decide_eq_true Hlm.out).symm, below_drewN (Below.refl _ _) _⟩
 ·
  have hlm : ¬ l = m := fun e => hnn (by rw [← hn, ← hn', e])
  have Hlm := hide hlm
  have hq : ((n : Int) != n') = true := by simp; omega
  clear hlm hl hm hn hn' hnn
  go_enter Try.func23, Try.ntmps23
  go_wp2
  go_ret
  exact ⟨ret_bool (decide_eq_false Hlm.out).symm, Below.refl _ _⟩
end Go.Proofs.Ytepgpihobmjbdaa
end
section
namespace Go.Proofs.Ytepgpihobmjbdaa
open Go.RowKit
theorem valid_any (t s : Int) (w : World) :
  Calls Try.prog 44 #[.agg #[.int .i64 t, .int .i64 s]] w fun e w' => e = .returned (.bool (okG t s)) ∧ Below w.heap.size w w' := by
 by_cases h1 : win t 0 1000000 = true
 ·
  have hE : okG t s = win s 1 10000 := by simp [okG, h1]
  have HE := hide hE
  clear hE
  go_enter Try.func44, Try.ntmps44
  go_wp2_with (go_at_call 29; refine (within_any _ _ _ _).mono ?_; rintro e w' ⟨rfl, rfl⟩)
  go_ret
  exact ⟨(ret_bool HE.out).symm, (Below.refl _ _).alloc (Nat.le_refl _) _⟩
 ·
  have h2 : win t 0 1000000 = false := by simpa using h1
  have hE : okG t s = false := by simp [okG, h2]
  have HE := hide hE
  clear hE h1
  go_enter Try.func44, Try.ntmps44
  go_wp2_with (go_at_call 29; refine (within_any _ _ _ _).mono ?_; rintro e w' ⟨rfl, rfl⟩)
  go_ret
  exact ⟨(ret_bool HE.out).symm, (Below.refl _ _).alloc (Nat.le_refl _) _⟩
theorem fell_any (t s : Int) (w : World) (h : okG t s = true) :
  Calls Try.prog 45 #[.agg #[.int .i64 t, .int .i64 s]] w fun e w' => e = .returned (spanV (fellS t s)) ∧ Below w.heap.size w w' := by
 obtain ⟨a1, a2, a3, a4, a5, a6, a7, a8⟩ := gauge_bd h
 clear h
 go_enter Try.func45, Try.ntmps45
 go_wp2
 all_goals
  refine bodyPost_ret (v := spanV (fellS t s)) (by simp [spanV, fellS, results, Try.results45, go_sem] <;> omega) rfl ⟨rfl, ?_⟩
  exact ((Below.refl _ _).alloc (Nat.le_refl _) _).alloc (by simp) _
set_option maxHeartbeats 400000 in
theorem Fell_any (t s : Int) (w : World) :
  Calls Try.prog 21 #[.agg #[.int .i64 t, .int .i64 s]] w fun e w' => e = .returned (spanE (fellR t s)) ∧ Below w.heap.size w w' := by
 by_cases h1 : okG t s = true
 ·
  have hR : fellR t s = (fellS t s, 0) := by simp [fellR, h1]
  have HR := hide hR
  have hf := fun W => fell_any t s W h1
  clear hR
  go_enter Try.func21, Try.ntmps21
  go_wp2_with fail
  refine (valid_any _ _ _).mono ?_
  rintro e w1 ⟨rfl, hb1⟩
  have b1 : Blk w1 w.heap.size 67 #[.int .i64 t, .int .i64 s] := (((Blk.new w _ _).alloc _).below hb1 (by simp; omega))
  have r1 : Blk w1 (w.heap.size + 1) 24 #[.int .i64 0, .int .i64 0] := (blk_new_at (by simp)).below hb1 (by simp)
  have B1 : Below w.heap.size w w1 := (((Below.refl _ _).alloc (Nat.le_refl _) _).alloc (by simp) _).trans (hb1.mono (by simp; omega))
  obtain ⟨c0, c1⟩ := b1.c2
  have HB1 := hide B1
  have R1 := hide r1
  clear b1 r1 B1 hb1
  go_wp2_with fail
  refine (hf _).mono ?_
  rintro e w2 ⟨rfl, hb2⟩
  have r2 := R1.out.below hb2 R1.out.lt
  have HB2 := hide (onward HB1.out hb2)
  obtain ⟨e0, e1⟩ := r2.c2
  have f0 := r2.frozen 0
  have f1 := r2.frozen 1
  clear hb2 r2 hf c0 c1
  unfold spanV
  go_wp2
  refine bodyPost_ret (v := spanE (fellR t s)) (by rw [HR.out]; simp [spanE, results, Try.results21, go_sem, e0, e1]) rfl ⟨rfl, ?_⟩
  exact (HB2.out.setCell (by simp) _).setCell (by simp) _
 ·
  have h2 : okG t s = false := by simpa using h1
  have hR : fellR t s = ((0, 0), 3) := by simp [fellR, h2]
  have HR := hide hR
  clear hR h1
  go_enter Try.func21, Try.ntmps21
  go_wp2_with fail
  refine (valid_any _ _ _).mono ?_
  rintro e w1 ⟨rfl, hb1⟩
  have r1 : Blk w1 (w.heap.size + 1) 24 #[.int .i64 0, .int .i64 0] := (blk_new_at (by simp)).below hb1 (by simp)
  have B1 : Below w.heap.size w w1 := (((Below.refl _ _).alloc (Nat.le_refl _) _).alloc (by simp) _).trans (hb1.mono (by simp; omega))
  obtain ⟨e0, e1⟩ := r1.c2
  have f0 := r1.frozen 0
  have f1 := r1.frozen 1
  have HB1 := hide B1
  clear r1 B1 hb1
  go_wp2
  refine bodyPost_ret (v := spanE (fellR t s)) (by rw [HR.out]; simp [spanE, results, Try.results21, go_sem, e0, e1]) rfl ⟨rfl, ?_⟩
  exact (HB1.out.setCell (by simp) _).setCell (by simp) _
end Go.Proofs.Ytepgpihobmjbdaa
end
