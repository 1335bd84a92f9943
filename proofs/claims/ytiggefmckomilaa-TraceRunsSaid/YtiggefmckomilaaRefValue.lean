/-
  The reference's book: the gain of a radar at a time.
  The reference's book: the value of a standard at a time.
-/
import Derived.Test.YtiggefmckomilaaRefGL
import Derived.Test.YtiggefmckomilaaRefTests
set_option linter.unusedSimpArgs false
set_option linter.unusedVariables false
namespace Go.Proofs.Ytiggefmckomilaa
open Go Go.RowKit

set_option maxHeartbeats 8000000 in
set_option maxRecDepth 100000 in
theorem rGain_any (l : List Ent) (p c : Nat) (A : Option Addr) (n : ByteArray) (time : Int) (w : World) (hb : RefR l p A c w) :
    Calls Try.prog 81 #[ptrB p, .string n, .int .i64 time] w fun e w' => e = .returned (gainV (gainE l n time)) ∧ Below w.heap.size w w' := by
  have hgood := hb.good
  have hdr := fun W (hW : Below w.heap.size w W) => rdrift_any l p c A n W (hb.later hW)
  have hin := fun W => rIn_any time 0 4294967296 W
  have hts := fun W (hW : Below w.heap.size w W) => rtests_any l p c A W (hb.later hW)
  have hR : gainE l n time = match driftT l n with
    | none => ((0, 0), (0, 0), 4)
    | some d => if inR time 0 4294967296 = false then ((0, 0), (0, 0), 3) else gainQ (cntQ l n d time (testsT l).length) := rfl
  generalize gainE l n time = r at *
  have hN5 := tests_le hb.good
  have HBk := hide hb
  unfold ptrB at *
  have Hdr := hide hdr
  have Hin := hide hin
  have Hts := hide hts
  have Hgood := hide hgood
  clear hdr hin hts hgood
  clear hb
  cases hd : driftT l n with
  | none =>
    rw [hd] at hR
    simp only at hR
    subst hR
    unfold driftV at Hdr
    simp only [hd] at Hdr
    go_enter Try.func81, Try.ntmps81
    have HM := hide (Mem.start w)
    go_wp2_with fail
    refine at_world fun W hW => ?_
    have HMn := Mem.to (Mem.allocAt (Mem.allocAt (Mem.allocAt HM.out w.heap.size rfl #[.int .i64 0, .int .i64 0] 23) (w.heap.size + 1) (by simp) #[.int .i64 0, .int .i64 0] 52) (w.heap.size + 2) (by simp) #[.int .i64 0, .int .i64 0] 52) hW
    have LW : Later w W := by rw [hW]; exact ((((Below.refl _ _).alloc (Nat.le_refl _) _).alloc (by simp; try omega) _).alloc (by simp; try omega) _)
    have szW : W.heap.size = w.heap.size + 3 := by rw [hW]; simp
    clear hW
    replace HM := hide HMn
    clear HMn LW
    clear szW
    refine (Hdr.out _ HM.out.below).mono ?_
    rintro e w1 ⟨rfl, hb⟩
    replace HM := hide (HM.out.later hb)
    clear hb
    go_wp2_with fail
    have HB := hide HM.out.below
    have Hbo := hide (Mem.blk_ HM.out 2 rfl)
    have Hba := hide (Mem.blk_ HM.out 1 rfl)
    have Hbt := hide (Mem.blk_ HM.out 0 rfl)
    have lto := Hbo.out.lt
    have lta := Hba.out.lt
    obtain ⟨v0, v1⟩ := Hbt.out.c2
    have ltv := Hbt.out.lt
    apply wp_region_F (w0 := w1) [[], [], [0], [0, 1, 2], [0, 1, 2, 3]] [true, false, false, false, false] [false, true, false, false, true] [⟨2, none, [], []⟩, ⟨3, none, [], []⟩] [(2, w.heap.size), (3, (w.heap.size+1))] [2, 3] (fun ixq y => match ixq with | 2 => undef | 3 => undef | _ => undef) (fun ixq x F wq => match ixq with | 2 => F w.heap.size ∧ Blk wq w.heap.size 23 #[.int .i64 0, .int .i64 0] | 3 => F (w.heap.size+1) ∧ Blk wq (w.heap.size+1) 52 #[.int .i64 0, .int .i64 0] | _ => True) (fun a x => ((a).put (none) (undef)).put (none) (undef)) (by kernel_rfl) (by kernel_rfl) (by kernel_rfl) (fun _ => rfl) [] (by kernel_rfl) (fills_lt2 (by omega) (by omega)) (fills_ne2 (by omega))
    · intro x D hD
      have hne := hD.some
      simp only [takeOps, Act.put, List.setIfInBounds_toArray, List.set_cons_succ, List.set_cons_zero]
      repeat (go_big_quiet_step (fail))
      exact wpQuiet_nil rfl
    · intro x D hD
      have hne := hD.some
      have k0 := liftS hD v0 (by exact ⟨by first | assumption | omega, free2 (by omega) (by omega)⟩)
      have k1 := liftS hD v1 (by exact ⟨by first | assumption | omega, free2 (by omega) (by omega)⟩)
      simp only [takeOps, Act.put, List.setIfInBounds_toArray, List.set_cons_succ, List.set_cons_zero]
      repeat (go_big_quiet_step (fail))
      exact wpQuiet_nil rfl
    · exact fun _ h => absurd h (by simp)
    · refine ⟨?_, ?_, trivial⟩
      · exact obl_fill 23 23 6 31 w.heap.size _ (fun x => #[.int .i64 0, .int .i64 0]) (by kernel_rfl) (fun _ => rfl) (fun _ => rfl) Hbo.out (eb_fill2 (by omega)).1 (by simp [wrF]) (fun _ => by kernel_rfl) (fun _ => rfl) (fun _ => by simp [Value.oneCell']) (fun _ => rfl) (fun _ _ _ _ h1 h2 => ⟨h1, h2⟩)
      · exact obl_fill 52 52 7 32 (w.heap.size+1) _ (fun x => #[.int .i64 0, .int .i64 0]) (by kernel_rfl) (fun _ => rfl) (fun _ => rfl) Hba.out (eb_fill2 (by omega)).2 (by simp [wrF]) (fun _ => by kernel_rfl) (fun _ => rfl) (fun _ => by simp [Value.oneCell']) (fun _ => rfl) (fun _ _ _ _ h1 h2 => ⟨h1, h2⟩)
    · refine ⟨?_, ?_, trivial⟩
      · exact owe_fill w.heap.size 23 (fun x => #[.int .i64 0, .int .i64 0]) (fun _ _ _ => rfl) (fun _ _ _ => rfl)
      · exact owe_fill (w.heap.size+1) 52 (fun x => #[.int .i64 0, .int .i64 0]) (fun _ _ _ => rfl) (fun _ _ _ => rfl)
    intro xr wr2 F hKr hlv1
    obtain ⟨fct2, fct3, -⟩ := hlv1
    replace fct2 : (F 2) w.heap.size ∧ Blk wr2 w.heap.size 23 #[.int .i64 0, .int .i64 0] := fct2 rfl
    replace fct3 : (F 3) (w.heap.size+1) ∧ Blk wr2 (w.heap.size+1) 52 #[.int .i64 0, .int .i64 0] := fct3 rfl
    have hbr := below_kept HB.out HB.out.size hKr (by simp)
    have bo2 := fct2.2
    have ba2 := fct3.2
    obtain ⟨e0, e1⟩ := bo2.c2
    obtain ⟨u0, u1⟩ := ba2.c2
    have lte := bo2.lt
    have ltu := ba2.lt
    have HBr := hide hbr
    clear hbr hKr fct2 fct3 bo2 ba2
    go_wp2
    refine bodyPost_ret (v := gainV ((0, 0), (0, 0), 4)) (by simp [gainV, results, Try.results81, go_sem, e0, e1, u0, u1, lte, ltu]) rfl ⟨rfl, HBr.out⟩
  | some d =>
    rw [hd] at hR
    simp only at hR
    unfold driftV at Hdr
    simp only [hd] at Hdr
    cases hi : inR time 0 4294967296 with
    | false =>
      rw [if_pos hi] at hR
      rw [hi] at Hin
      subst hR
      go_enter Try.func81, Try.ntmps81
      have HM := hide (Mem.start w)
      go_wp2_with fail
      refine at_world fun W hW => ?_
      have HMn := Mem.to (Mem.allocAt (Mem.allocAt (Mem.allocAt HM.out w.heap.size rfl #[.int .i64 0, .int .i64 0] 23) (w.heap.size + 1) (by simp) #[.int .i64 0, .int .i64 0] 52) (w.heap.size + 2) (by simp) #[.int .i64 0, .int .i64 0] 52) hW
      have LW : Later w W := by rw [hW]; exact ((((Below.refl _ _).alloc (Nat.le_refl _) _).alloc (by simp; try omega) _).alloc (by simp; try omega) _)
      have szW : W.heap.size = w.heap.size + 3 := by rw [hW]; simp
      clear hW
      replace HM := hide HMn
      clear HMn LW
      clear szW
      refine (Hdr.out _ HM.out.below).mono ?_
      rintro e w1 ⟨rfl, hb⟩
      replace HM := hide (HM.out.later hb)
      clear hb
      go_wp2_with fail
      refine (Hin.out _).mono ?_
      rintro e w' ⟨rfl, rfl⟩
      go_wp2_with fail
      have HB := hide HM.out.below
      have Hbo := hide (Mem.blk_ HM.out 2 rfl)
      have Hba := hide (Mem.blk_ HM.out 1 rfl)
      have Hbt := hide (Mem.blk_ HM.out 0 rfl)
      have lto := Hbo.out.lt
      have lta := Hba.out.lt
      obtain ⟨v0, v1⟩ := Hbt.out.c2
      have ltv := Hbt.out.lt
      apply wp_region_F (w0 := w1) [[], [], [0], [0, 1, 2], [0, 1, 2, 3]] [true, false, false, false, false] [false, true, false, false, true] [⟨2, none, [], []⟩, ⟨3, none, [], []⟩] [(2, w.heap.size), (3, (w.heap.size+1))] [2, 3] (fun ixq y => match ixq with | 2 => undef | 3 => undef | _ => undef) (fun ixq x F wq => match ixq with | 2 => F w.heap.size ∧ Blk wq w.heap.size 23 #[.int .i64 0, .int .i64 0] | 3 => F (w.heap.size+1) ∧ Blk wq (w.heap.size+1) 52 #[.int .i64 0, .int .i64 0] | _ => True) (fun a x => ((a).put (none) (undef)).put (none) (undef)) (by kernel_rfl) (by kernel_rfl) (by kernel_rfl) (fun _ => rfl) [] (by kernel_rfl) (fills_lt2 (by omega) (by omega)) (fills_ne2 (by omega))
      · intro x D hD
        have hne := hD.some
        simp only [takeOps, Act.put, List.setIfInBounds_toArray, List.set_cons_succ, List.set_cons_zero]
        repeat (go_big_quiet_step (fail))
        exact wpQuiet_nil rfl
      · intro x D hD
        have hne := hD.some
        have k0 := liftS hD v0 (by exact ⟨by first | assumption | omega, free2 (by omega) (by omega)⟩)
        have k1 := liftS hD v1 (by exact ⟨by first | assumption | omega, free2 (by omega) (by omega)⟩)
        simp only [takeOps, Act.put, List.setIfInBounds_toArray, List.set_cons_succ, List.set_cons_zero]
        repeat (go_big_quiet_step (fail))
        exact wpQuiet_nil rfl
      · exact fun _ h => absurd h (by simp)
      · refine ⟨?_, ?_, trivial⟩
        · exact obl_fill 23 23 6 36 w.heap.size _ (fun x => #[.int .i64 0, .int .i64 0]) (by kernel_rfl) (fun _ => rfl) (fun _ => rfl) Hbo.out (eb_fill2 (by omega)).1 (by simp [wrF]) (fun _ => by kernel_rfl) (fun _ => rfl) (fun _ => by simp [Value.oneCell']) (fun _ => rfl) (fun _ _ _ _ h1 h2 => ⟨h1, h2⟩)
        · exact obl_fill 52 52 7 37 (w.heap.size+1) _ (fun x => #[.int .i64 0, .int .i64 0]) (by kernel_rfl) (fun _ => rfl) (fun _ => rfl) Hba.out (eb_fill2 (by omega)).2 (by simp [wrF]) (fun _ => by kernel_rfl) (fun _ => rfl) (fun _ => by simp [Value.oneCell']) (fun _ => rfl) (fun _ _ _ _ h1 h2 => ⟨h1, h2⟩)
      · refine ⟨?_, ?_, trivial⟩
        · exact owe_fill w.heap.size 23 (fun x => #[.int .i64 0, .int .i64 0]) (fun _ _ _ => rfl) (fun _ _ _ => rfl)
        · exact owe_fill (w.heap.size+1) 52 (fun x => #[.int .i64 0, .int .i64 0]) (fun _ _ _ => rfl) (fun _ _ _ => rfl)
      intro xr wr2 F hKr hlv2
      obtain ⟨fct2, fct3, -⟩ := hlv2
      replace fct2 : (F 2) w.heap.size ∧ Blk wr2 w.heap.size 23 #[.int .i64 0, .int .i64 0] := fct2 rfl
      replace fct3 : (F 3) (w.heap.size+1) ∧ Blk wr2 (w.heap.size+1) 52 #[.int .i64 0, .int .i64 0] := fct3 rfl
      have hbr := below_kept HB.out HB.out.size hKr (by simp)
      have bo2 := fct2.2
      have ba2 := fct3.2
      obtain ⟨e0, e1⟩ := bo2.c2
      obtain ⟨u0, u1⟩ := ba2.c2
      have lte := bo2.lt
      have ltu := ba2.lt
      have HBr := hide hbr
      clear hbr hKr fct2 fct3 bo2 ba2
      go_wp2
      refine bodyPost_ret (v := gainV ((0, 0), (0, 0), 3)) (by simp [gainV, results, Try.results81, go_sem, e0, e1, u0, u1, lte, ltu]) rfl ⟨rfl, HBr.out⟩
    | true =>
      rw [if_neg (by rw [hi]; decide)] at hR
      rw [hi] at Hin
      obtain ⟨t0, t1⟩ := inR_iff.1 hi
      obtain ⟨d0, d1⟩ := drift_bd Hgood.out hd
      obtain ⟨N, hN⟩ : ∃ N, (testsT l).length = N := ⟨_, rfl⟩
      rw [hN] at hR hN5
      have HN := hide hN
      have HR := hide hR
      have Hd := hide hd
      clear hR hd hi hN
      go_enter Try.func81, Try.ntmps81
      have HM := hide (Mem.start w)
      go_wp2_with fail
      refine at_world fun W hW => ?_
      have HMn := Mem.to (Mem.allocAt (Mem.allocAt (Mem.allocAt HM.out w.heap.size rfl #[.int .i64 0, .int .i64 0] 23) (w.heap.size + 1) (by simp) #[.int .i64 0, .int .i64 0] 52) (w.heap.size + 2) (by simp) #[.int .i64 0, .int .i64 0] 52) hW
      have LW : Later w W := by rw [hW]; exact ((((Below.refl _ _).alloc (Nat.le_refl _) _).alloc (by simp; try omega) _).alloc (by simp; try omega) _)
      have szW : W.heap.size = w.heap.size + 3 := by rw [hW]; simp
      clear hW
      replace HM := hide HMn
      clear HMn LW
      clear szW
      refine (Hdr.out _ HM.out.below).mono ?_
      rintro e w1 ⟨rfl, hb⟩
      replace HM := hide (HM.out.later hb)
      clear hb
      go_wp2_with fail
      refine (Hin.out _).mono ?_
      rintro e w' ⟨rfl, rfl⟩
      go_wp2_with fail
      refine (Hts.out _ HM.out.below).mono ?_
      rintro e w2 ⟨v, rfl, hM2⟩
      have hMj := Mem.lowRow (Mem.joinL HM.out hM2) 0 rfl HM.out.size
      clear HM hM2
      rw [HN.out] at hMj
      have HM := hide hMj
      clear hMj
      obtain ⟨At, ct, rfl⟩ := own_shape2 (Mem.row_ HM.out 0 rfl)
      have HM1 := hide (HM.out.nilRow w.heap.size 3 1)
      clear HM
      have HM := HM1
      clear HM1 Hts Hdr Hin
      go_wp2_with fail
      refine rgl1 l p c A n d time At ct N _ w HBk.out HN.out HM.out ?_
      clear HM
      intro kv14 kv40 kv41 kv42 kv43 kv44 kv45 kv46 kv47 kv48 kv49 kv50 kv51 kv52 kv53 kv54 kv55 kv56 kv57 kv58 kv59 kv60 kv61 kv62 kv63 kv64 kv65 kv66
      intro vq w3 hM
      have HM := hide hM
      clear hM
      obtain ⟨q, hq⟩ : ∃ q, cntQ l n d time N = q := ⟨_, rfl⟩
      have hsle : ∀ y ∈ q, y.2.1 ≤ y.2.2 := by rw [← hq]; exact cnt_le2 Hgood.out d0 d1 t0 t1
      have hql : q.length ≤ N := by rw [← hq]; exact selN_length _ _ _ _ _ _
      have hat := fun i (hi : i < q.length) => cnt_at (l := l) (n := n) (d := d) (time := time) (k := N) (i := i) Hgood.out (by rw [hq]; exact hi)
      rw [hq] at hat
      rw [hq] at HM HR
      have hga := fun t (ht : TestIn l t) (hr : t.radar = n) W (hW : Below w.heap.size w W) => rgain_any l p c A t d time W (HBk.out.later hW) ht (by rw [hr]; exact Hd.out) t0 t1
      have hrl : (testsT l).reverse.length = N := by rw [List.length_reverse]; exact HN.out
      have hgt := fun i (hi : i < q.length) => numV_get (q := q) (i := i) hi
      have hG1 := fun p => gainQ_conf (q := q) (p := p)
      have hG2 := gainQ_none (q := q)
      obtain ⟨K, hK⟩ : ∃ K, q.length = K := ⟨_, rfl⟩
      rw [hK] at HM hat hql hG1 hG2
      simp only [hK] at hgt
      obtain ⟨Aq, cq, rfl⟩ := own_shape2 (Mem.row_ HM.out 0 rfl)
      have Hat := hide hat
      have Hga := hide hga
      have Hrl := hide hrl
      have Hgt := hide hgt
      have Hsle := hide hsle
      have HG1 := hide hG1
      have HG2 := hide hG2
      have Hq := hide hq
      have HK := hide hK
      clear hat hga hrl hgt hsle hG1 hG2 hq hK
      have hKb : (K : Int) ≤ 512 := by omega
      by_cases hK0 : K = 0
      · have hk0 : ((K : Int) == 0) = true := beq_iff_eq.2 (by omega)
        have hr := HR.out
        rw [gainQ_empty (by rw [HK.out]; exact hK0)] at hr
        clear HR
        subst hr
        go_wp2_with fail
        have HB := hide HM.out.below
        have Hbo := hide (Mem.blk_ HM.out 4 rfl)
        have Hba := hide (Mem.blk_ HM.out 3 rfl)
        have Hbt := hide (Mem.blk_ HM.out 2 rfl)
        have lto := Hbo.out.lt
        have lta := Hba.out.lt
        obtain ⟨v0, v1⟩ := Hbt.out.c2
        have ltv := Hbt.out.lt
        apply wp_region_F (w0 := w3) [[], [], [0], [0, 1, 2], [0, 1, 2, 3]] [true, false, false, false, false] [false, true, false, false, true] [⟨2, none, [], []⟩, ⟨3, none, [], []⟩] [(2, w.heap.size), (3, (w.heap.size+1))] [2, 3] (fun ixq y => match ixq with | 2 => undef | 3 => undef | _ => undef) (fun ixq x F wq => match ixq with | 2 => F w.heap.size ∧ Blk wq w.heap.size 23 #[.int .i64 0, .int .i64 0] | 3 => F (w.heap.size+1) ∧ Blk wq (w.heap.size+1) 52 #[.int .i64 0, .int .i64 0] | _ => True) (fun a x => ((a).put (none) (undef)).put (none) (undef)) (by kernel_rfl) (by kernel_rfl) (by kernel_rfl) (fun _ => rfl) [] (by kernel_rfl) (fills_lt2 (by omega) (by omega)) (fills_ne2 (by omega))
        · intro x D hD
          have hne := hD.some
          simp only [takeOps, Act.put, List.setIfInBounds_toArray, List.set_cons_succ, List.set_cons_zero]
          repeat (go_big_quiet_step (fail))
          exact wpQuiet_nil rfl
        · intro x D hD
          have hne := hD.some
          have k0 := liftS hD v0 (by exact ⟨by first | assumption | omega, free2 (by omega) (by omega)⟩)
          have k1 := liftS hD v1 (by exact ⟨by first | assumption | omega, free2 (by omega) (by omega)⟩)
          simp only [takeOps, Act.put, List.setIfInBounds_toArray, List.set_cons_succ, List.set_cons_zero]
          repeat (go_big_quiet_step (fail))
          exact wpQuiet_nil rfl
        · exact fun _ h => absurd h (by simp)
        · refine ⟨?_, ?_, trivial⟩
          · exact obl_fill 23 23 6 70 w.heap.size _ (fun x => #[.int .i64 0, .int .i64 0]) (by kernel_rfl) (fun _ => rfl) (fun _ => rfl) Hbo.out (eb_fill2 (by omega)).1 (by simp [wrF]) (fun _ => by kernel_rfl) (fun _ => rfl) (fun _ => by simp [Value.oneCell']) (fun _ => rfl) (fun _ _ _ _ h1 h2 => ⟨h1, h2⟩)
          · exact obl_fill 52 52 7 71 (w.heap.size+1) _ (fun x => #[.int .i64 0, .int .i64 0]) (by kernel_rfl) (fun _ => rfl) (fun _ => rfl) Hba.out (eb_fill2 (by omega)).2 (by simp [wrF]) (fun _ => by kernel_rfl) (fun _ => rfl) (fun _ => by simp [Value.oneCell']) (fun _ => rfl) (fun _ _ _ _ h1 h2 => ⟨h1, h2⟩)
        · refine ⟨?_, ?_, trivial⟩
          · exact owe_fill w.heap.size 23 (fun x => #[.int .i64 0, .int .i64 0]) (fun _ _ _ => rfl) (fun _ _ _ => rfl)
          · exact owe_fill (w.heap.size+1) 52 (fun x => #[.int .i64 0, .int .i64 0]) (fun _ _ _ => rfl) (fun _ _ _ => rfl)
        intro xr wr2 F hKr hlv3
        obtain ⟨fct2, fct3, -⟩ := hlv3
        replace fct2 : (F 2) w.heap.size ∧ Blk wr2 w.heap.size 23 #[.int .i64 0, .int .i64 0] := fct2 rfl
        replace fct3 : (F 3) (w.heap.size+1) ∧ Blk wr2 (w.heap.size+1) 52 #[.int .i64 0, .int .i64 0] := fct3 rfl
        have hbr := below_kept HB.out HB.out.size hKr (by simp)
        have bo2 := fct2.2
        have ba2 := fct3.2
        obtain ⟨e0, e1⟩ := bo2.c2
        obtain ⟨u0, u1⟩ := ba2.c2
        have lte := bo2.lt
        have ltu := ba2.lt
        have HBr := hide hbr
        clear hbr hKr fct2 fct3 bo2 ba2
        go_wp2
        refine bodyPost_ret (v := gainV ((0, 0), (0, 0), 18)) (by simp [gainV, results, Try.results81, go_sem, e0, e1, u0, u1, lte, ltu]) rfl ⟨rfl, HBr.out⟩
      · have hk0 : ((K : Int) == 0) = false := beq_eq_false_iff_ne.2 (by omega)
        go_wp2_with fail
        go_loopw [15] (fun i wr' => ∃ k' : Nat, k' ≤ K ∧ i = .int .i64 k' ∧ Mem w [.row w.heap.size 3 1 (.slice Aq K cq) K (numV q), .row w.heap.size 87 5 (.slice At N ct) N (rtsRow l), .blk (w.heap.size + 2) 52 #[.int .i64 0, .int .i64 0], .blk (w.heap.size + 1) 52 #[.int .i64 0, .int .i64 0], .blk w.heap.size 23 #[.int .i64 0, .int .i64 0]] wr' ∧ findF (offQ q) K k' (K - k') = findF (offQ q) K 0 K) (fun i _ => K - (intOf i).toNat)
        case atStart => exact ⟨0, by omega, rfl, HM.out, by rw [Nat.sub_zero]⟩
        case round =>
          obtain ⟨i, hi, rfl, hM, hfi⟩ := hrel
          clear HM
          have HM := hide hM
          clear hM
          have Hfi := hide hfi
          clear hfi
          by_cases hik : i < K
          · have hik2 : (i : Int) < K := by omega
            go_wp2_with fail
            go_loopw [16] (fun jj wr' => ∃ j : Nat, i + 1 ≤ j ∧ j ≤ K ∧ jj = .int .i64 j ∧ Mem w [.row w.heap.size 3 1 (.slice Aq K cq) K (numV q), .row w.heap.size 87 5 (.slice At N ct) N (rtsRow l), .blk (w.heap.size + 2) 52 #[.int .i64 0, .int .i64 0], .blk (w.heap.size + 1) 52 #[.int .i64 0, .int .i64 0], .blk w.heap.size 23 #[.int .i64 0, .int .i64 0]] wr' ∧ rowF (offQ q) i j (K - j) = rowF (offQ q) i (i + 1) (K - (i + 1))) (fun jj _ => K - (intOf jj).toNat)
            case atStart => exact ⟨i + 1, by omega, by omega, by go_num, HM.out, rfl⟩
            case round =>
              obtain ⟨j, hij, hjk, rfl, hM, hro⟩ := hrel
              clear HM
              have HM := hide hM
              clear hM
              have Hro := hide hro
              clear hro
              by_cases hjn : j < K
              · have hjn2 : (j : Int) < K := by omega
                obtain ⟨t, ht, hin, hr, hsp⟩ := Hat.out i hik
                obtain ⟨t', ht', hin', hr', hsp'⟩ := Hat.out j hjn
                have hgi := Hgt.out i hik
                have hgj := Hgt.out j hjn
                have hg := Hga.out t hin hr
                rw [← hsp] at hg
                have hg' := Hga.out t' hin' hr'
                rw [← hsp'] at hg'
                have hof : offQ q i j = decide (min (q.getD i (0, (0, 0))).2.2 (q.getD j (0, (0, 0))).2.2 < max (q.getD i (0, (0, 0))).2.1 (q.getD j (0, (0, 0))).2.1) := off_max (Hsle.out _ (getD_mem (by rw [HK.out]; exact hik))) (Hsle.out _ (getD_mem (by rw [HK.out]; exact hjn)))
                have hr3 : findF (offQ q) K 0 K = some (i, j) → r = ((0, 0), (((q.getD i (0, (0, 0))).1 : Int), ((q.getD j (0, (0, 0))).1 : Int)), 14) := fun h => by rw [HR.out, HG1.out (i, j) h]
                obtain ⟨⟨ti, ⟨s1, s2⟩⟩, hy⟩ : ∃ y, q.getD i (0, (0, 0)) = y := ⟨_, rfl⟩
                obtain ⟨⟨tj, ⟨y1, y2⟩⟩, hy'⟩ : ∃ y, q.getD j (0, (0, 0)) = y := ⟨_, rfl⟩
                rw [hy] at hgi hg ht hof hr3
                rw [hy'] at hgj hg' ht' hof hr3
                simp only at hgi hg ht hof hr3 hgj hg' ht'
                have hti : ti < N := by have := (List.getElem?_eq_some_iff.1 ht).1; rw [Hrl.out] at this; exact this
                have htj : tj < N := by have := (List.getElem?_eq_some_iff.1 ht').1; rw [Hrl.out] at this; exact this
                have hti2 : (ti : Int) < N := by omega
                have htj2 : (tj : Int) < N := by omega
                obtain ⟨b, cur, hA, -, hbk, -, -, hcc⟩ := row_blk (Mem.row_ HM.out 1 rfl) (by omega)
                have p0 := hbk.c (ti * 5) (hcc (ti * 5) _ (rts_at ht 0 _ rfl))
                have p1 := hbk.c (ti * 5 + 1) (hcc (ti * 5 + 1) _ (rts_at ht 1 _ rfl))
                have p2 := hbk.c (ti * 5 + 2) (hcc (ti * 5 + 2) _ (rts_at ht 2 _ rfl))
                have p3 := hbk.c (ti * 5 + 3) (hcc (ti * 5 + 3) _ (rts_at ht 3 _ rfl))
                have p4 := hbk.c (ti * 5 + 4) (hcc (ti * 5 + 4) _ (rts_at ht 4 _ rfl))
                have m0 := hbk.c (tj * 5) (hcc (tj * 5) _ (rts_at ht' 0 _ rfl))
                have m1 := hbk.c (tj * 5 + 1) (hcc (tj * 5 + 1) _ (rts_at ht' 1 _ rfl))
                have m2 := hbk.c (tj * 5 + 2) (hcc (tj * 5 + 2) _ (rts_at ht' 2 _ rfl))
                have m3 := hbk.c (tj * 5 + 3) (hcc (tj * 5 + 3) _ (rts_at ht' 3 _ rfl))
                have m4 := hbk.c (tj * 5 + 4) (hcc (tj * 5 + 4) _ (rts_at ht' 4 _ rfl))
                have ltp := hbk.lt
                obtain ⟨b2, cur2, hA2, -, hbk2, -, -, hcc2⟩ := row_blk (Mem.row_ HM.out 0 rfl) (by omega)
                have z0 := hbk2.c i (hcc2 i _ hgi)
                have z1 := hbk2.c j (hcc2 j _ hgj)
                have ltz := hbk2.lt
                have hg2 := hcc2 i _ hgi
                have hg3 := hcc2 j _ hgj
                clear hbk hcc hcc2 ht ht' hgi hgj hy hy' hsp hsp' hin hin' hr hr'
                subst hA
                subst hA2
                obtain ⟨mx, emx⟩ : ∃ mx, (if s1 < y1 then y1 else s1) = mx := ⟨_, rfl⟩
                obtain ⟨mn, emn⟩ : ∃ mn, (if y2 < s2 then y2 else s2) = mn := ⟨_, rfl⟩
                have hof2 : offQ q i j = decide (mn < mx) := by rw [hof, ← emx, ← emn, Int.max_def, Int.min_def]; refine decide_eq_decide.2 ?_; (split <;> split <;> split <;> split <;> omega)
                clear hof
                unfold ptrB tstV at hg hg'
                obtain ⟨tr, tn, tt, tl, th⟩ := t
                obtain ⟨ur, un, ut, ul, uh⟩ := t'
                simp only at hg hg' p0 p1 p2 p3 p4 m0 m1 m2 m3 m4
                have Hg := hide hg
                have Hg' := hide hg'
                have Hof := hide hof2
                have Hr3 := hide hr3
                have Hbk2 := hide hbk2
                have Hcg2 := hide hg2
                have Hcg3 := hide hg3
                clear hg hg' hof2 hr3 hbk2 hg2 hg3
                go_wp2_with fail
                apply wp_region_L (w0 := wr) [[], [], [], [], [], [], [], [], [], [], [], [], [], [], [], [], [], [], [], [], [], [], [20, 21], [20, 21, 22]] [true, true, true, true, true, true, true, true, true, true, true, true, true, true, true, true, true, true, true, true, false, false, false, false] [⟨20, none, [], []⟩, ⟨21, none, [], []⟩, ⟨22, some 20, [20], [20]⟩, ⟨23, some 21, [21], [21]⟩] (fun ixq y => match ixq with | 20 => .pointer (y 0).1 | 21 => .pointer (y 0).1 | 22 => undef | 23 => undef | _ => undef) (fun ixq x F wq => match ixq with | 20 => PtrF wq F wr.heap.size (x 20 0).1 23 #[.int .i64 0, .int .i64 0] | 21 => PtrF wq F wr.heap.size (x 21 0).1 23 #[.int .i64 0, .int .i64 0] | 22 => PtrF wq F wr.heap.size (x 20 0).1 23 #[.int .i64 s1, .int .i64 s2] | 23 => PtrF wq F wr.heap.size (x 21 0).1 23 #[.int .i64 y1, .int .i64 y2] | _ => True) (fun a x => ((((a).put (some 17) (.pointer ((x 20) 0).1)).put (some 18) (.pointer ((x 21) 0).1)).put (none) (undef)).put (none) (undef)) (by kernel_rfl) (by kernel_rfl) (fun _ => rfl) [95, 105] (by kernel_rfl)
                · intro x D hD
                  have hne := hD.some
                  have k0 := liftB hD p0 (by first | assumption | omega)
                  have k1 := liftB hD p1 (by first | assumption | omega)
                  have k2 := liftB hD p2 (by first | assumption | omega)
                  have k3 := liftB hD p3 (by first | assumption | omega)
                  have k4 := liftB hD p4 (by first | assumption | omega)
                  have j0 := liftB hD m0 (by first | assumption | omega)
                  have j1 := liftB hD m1 (by first | assumption | omega)
                  have j2 := liftB hD m2 (by first | assumption | omega)
                  have j3 := liftB hD m3 (by first | assumption | omega)
                  have j4 := liftB hD m4 (by first | assumption | omega)
                  have i0 := liftB hD z0 (by first | assumption | omega)
                  have i1 := liftB hD z1 (by first | assumption | omega)
                  simp only [takeOps, Act.put, List.setIfInBounds_toArray, List.set_cons_succ, List.set_cons_zero]
                  repeat (go_big_quiet_step ((go_at_call 95; first | (with_reducible exact calls_later hD _ (Hg.out _ (onward HM.out.below (kb hD _)))) | (with_reducible exact calls_later hD _ (Hg'.out _ (onward HM.out.below (kb hD _)))))))
                  exact wpQuiet_nil rfl
                · intro d hd x x'
                  simp only [List.mem_cons, List.not_mem_nil, or_false] at hd
                  rcases hd with rfl | rfl
                  all_goals rfl
                · refine ⟨?_, ?_, ?_, ?_, trivial⟩
                  · exact obl_alloc 23 17 (.agg #[.int .i64 0, .int .i64 0]) (by kernel_rfl) (by kernel_rfl) (fun _ => rfl) (fun _ _ _ h => h)
                  · exact obl_alloc 23 18 (.agg #[.int .i64 0, .int .i64 0]) (by kernel_rfl) (by kernel_rfl) (fun _ => rfl) (fun _ _ _ h => h)
                  · refine obl_store 23 17 95 20 #[.int .i64 0, .int .i64 0] (fun x => #[.int .i64 s1, .int .i64 s2]) (by kernel_rfl) rfl (by simp) (fun _ _ _ h => h) (fun _ => rfl) (fun _ => rfl) (fun _ => by kernel_rfl) (fun _ => rfl) (fun _ => by simp [Value.oneCell']) (fun _ => rfl) (by decide) (fun _ _ _ _ h => h)
                  · refine obl_store 23 18 105 21 #[.int .i64 0, .int .i64 0] (fun x => #[.int .i64 y1, .int .i64 y2]) (by kernel_rfl) rfl (by simp) (fun _ _ _ h => h) (fun _ => rfl) (fun _ => rfl) (fun _ => by kernel_rfl) (fun _ => rfl) (fun _ => by simp [Value.oneCell']) (fun _ => rfl) (by decide) (fun _ _ _ _ h => h)
                · refine ⟨?_, ?_, ?_, ?_, trivial⟩
                  · exact owe_ptr 20 _ _ (fun x => #[.int .i64 0, .int .i64 0]) (fun _ _ _ => rfl) (by simp) (fun _ _ _ => rfl)
                  · exact owe_ptr 21 _ _ (fun x => #[.int .i64 0, .int .i64 0]) (fun _ _ _ => rfl) (by simp) (fun _ _ _ => rfl)
                  · exact owe_ptr 20 _ _ (fun x => #[.int .i64 s1, .int .i64 s2]) (fun _ _ _ => rfl) (by simp) (fun _ _ _ => rfl)
                  · exact owe_ptr 21 _ _ (fun x => #[.int .i64 y1, .int .i64 y2]) (fun _ _ _ => rfl) (by simp) (fun _ _ _ => rfl)
                intro xx w5 F hL5 hlv4
                obtain ⟨-, -, fct22, fct23, -⟩ := hlv4
                replace fct22 : PtrF w5 (F 22) wr.heap.size (xx 20 0).1 23 #[.int .i64 s1, .int .i64 s2] := fct22 rfl
                replace fct23 : PtrF w5 (F 23) wr.heap.size (xx 21 0).1 23 #[.int .i64 y1, .int .i64 y2] := fct23 rfl
                obtain ⟨gx, hgx, hge, -, hbg⟩ := fct22
                obtain ⟨gy, hgy, hgf, -, hbh⟩ := fct23
                rw [hgx, hgy]
                clear p0 p1 p2 p3 p4 m0 m1 m2 m3 m4 z0 z1 ltp ltz Hg Hg' hgx hgy hge hgf
                have Hbk3 := hide (blk_later Hbk2.out hL5)
                replace HM := hide (HM.out.later hL5)
                clear hL5
                have Hbg := hide hbg
                have Hbh := hide hbh
                clear hbg hbh
                obtain ⟨x0, x1⟩ := Hbg.out.c2
                have ltx := Hbg.out.lt
                obtain ⟨y0, y1⟩ := Hbh.out.c2
                have lty := Hbh.out.lt
                by_cases hlt2 : mn < mx
                · have hcf2 : offQ q i j = true := by rw [Hof.out]; exact decide_eq_true hlt2
                  have hrow := row_hit (cf := offQ q) hjn hcf2
                  rw [Hro.out] at hrow
                  have hfd := find_hit (cf := offQ q) hik hrow
                  rw [Hfi.out] at hfd
                  have hr := Hr3.out hfd
                  have hc3 : decide (mn < mx) = true := decide_eq_true hlt2
                  clear hcf2 hrow hfd HR Hr3
                  subst hr
                  have z0 := Hbk3.out.c i Hcg2.out
                  have z1 := Hbk3.out.c j Hcg3.out
                  have ltz := Hbk3.out.lt
                  have hn6 : b2 ≠ w.heap.size := fun e => HM.out.apart 0 4 rfl rfl (by decide) b2 (optL_iff.2 rfl) (List.mem_singleton.2 e)
                  have hn7 : b2 ≠ w.heap.size + 1 := fun e => HM.out.apart 0 3 rfl rfl (by decide) b2 (optL_iff.2 rfl) (List.mem_singleton.2 e)
                  go_wp2_with fail
                  clear x0 x1 ltx y0 y1 lty
                  have HB := hide HM.out.below
                  have Hbo := hide (Mem.blk_ HM.out 4 rfl)
                  have Hba := hide (Mem.blk_ HM.out 3 rfl)
                  have Hbt := hide (Mem.blk_ HM.out 2 rfl)
                  have lto := Hbo.out.lt
                  have lta := Hba.out.lt
                  obtain ⟨v0, v1⟩ := Hbt.out.c2
                  have ltv := Hbt.out.lt
                  apply wp_region_F (w0 := w5) [[], [], [], [1, 2], [1, 2, 3], [], [], [5, 6], [5, 6, 7], [1, 2, 3, 4, 5, 6, 7, 8], [0], [0, 1, 2, 3, 4, 5, 6, 7, 8, 9, 10], [0, 1, 2, 3, 4, 5, 6, 7, 8, 9, 10, 11]] [true, false, false, false, false, false, false, false, false, false, false, false, false] [false, true, true, true, true, true, true, true, true, true, false, false, true] [⟨10, none, [], []⟩, ⟨11, none, [], []⟩] [(10, w.heap.size), (11, (w.heap.size+1))] [10, 11] (fun ixq y => match ixq with | 10 => undef | 11 => undef | _ => undef) (fun ixq x F wq => match ixq with | 10 => F w.heap.size ∧ Blk wq w.heap.size 23 #[.int .i64 0, .int .i64 0] | 11 => F (w.heap.size+1) ∧ Blk wq (w.heap.size+1) 52 #[.int .i64 ti, .int .i64 tj] | _ => True) (fun a x => ((a).put (none) (undef)).put (none) (undef)) (by kernel_rfl) (by kernel_rfl) (by kernel_rfl) (fun _ => rfl) [] (by kernel_rfl) (fills_lt2 (by omega) (by omega)) (fills_ne2 (by omega))
                  · intro x D hD
                    have hne := hD.some
                    have k0 := liftS hD z0 (by exact early_all (by first | assumption | omega) (by rfl))
                    have k1 := liftS hD z1 (by exact early_all (by first | assumption | omega) (by rfl))
                    simp only [takeOps, Act.put, List.setIfInBounds_toArray, List.set_cons_succ, List.set_cons_zero]
                    repeat (go_big_quiet_step (fail))
                    exact wpQuiet_nil rfl
                  · intro x D hD
                    have hne := hD.some
                    have k0 := liftS hD z0 (by exact ⟨by first | assumption | omega, free2 (by omega) (by omega)⟩)
                    have k1 := liftS hD z1 (by exact ⟨by first | assumption | omega, free2 (by omega) (by omega)⟩)
                    simp only [takeOps, Act.put, List.setIfInBounds_toArray, List.set_cons_succ, List.set_cons_zero]
                    repeat (go_big_quiet_step (fail))
                    exact wpQuiet_nil rfl
                  · exact fun _ h => absurd h (by simp)
                  · refine ⟨?_, ?_, trivial⟩
                    · exact obl_fill 23 23 6 117 w.heap.size _ (fun x => #[.int .i64 0, .int .i64 0]) (by kernel_rfl) (fun _ => rfl) (fun _ => rfl) Hbo.out (eb_fill2 (by omega)).1 (by simp [wrF]) (fun _ => by kernel_rfl) (fun _ => rfl) (fun _ => by simp [Value.oneCell']) (fun _ => rfl) (fun _ _ _ _ h1 h2 => ⟨h1, h2⟩)
                    · exact obl_fill 52 52 7 126 (w.heap.size+1) _ (fun x => #[.int .i64 ti, .int .i64 tj]) (by kernel_rfl) (fun _ => rfl) (fun _ => rfl) Hba.out (eb_fill2 (by omega)).2 (by simp [wrF]) (fun _ => by kernel_rfl) (fun _ => rfl) (fun _ => by simp [Value.oneCell']) (fun _ => rfl) (fun _ _ _ _ h1 h2 => ⟨h1, h2⟩)
                  · refine ⟨?_, ?_, trivial⟩
                    · exact owe_fill w.heap.size 23 (fun x => #[.int .i64 0, .int .i64 0]) (fun _ _ _ => rfl) (fun _ _ _ => rfl)
                    · exact owe_fill (w.heap.size+1) 52 (fun x => #[.int .i64 ti, .int .i64 tj]) (fun _ _ _ => rfl) (fun _ _ _ => rfl)
                  intro xr wr2 F hKr hlv5
                  obtain ⟨fct10, fct11, -⟩ := hlv5
                  replace fct10 : (F 10) w.heap.size ∧ Blk wr2 w.heap.size 23 #[.int .i64 0, .int .i64 0] := fct10 rfl
                  replace fct11 : (F 11) (w.heap.size+1) ∧ Blk wr2 (w.heap.size+1) 52 #[.int .i64 ti, .int .i64 tj] := fct11 rfl
                  have hbr := below_kept HB.out HB.out.size hKr (by simp)
                  have bo2 := fct10.2
                  have ba2 := fct11.2
                  obtain ⟨e0, e1⟩ := bo2.c2
                  obtain ⟨u0, u1⟩ := ba2.c2
                  have lte := bo2.lt
                  have ltu := ba2.lt
                  have HBr := hide hbr
                  clear hbr hKr fct10 fct11 bo2 ba2
                  go_wp2
                  refine bodyPost_ret (v := gainV ((0, 0), ((ti : Int), (tj : Int)), 14)) (by simp [gainV, results, Try.results81, go_sem, e0, e1, u0, u1, lte, ltu]) rfl ⟨rfl, HBr.out⟩
                · have hcf2 : offQ q i j = false := by rw [Hof.out]; exact decide_eq_false hlt2
                  have Hmi := hide (row_miss (cf := offQ q) hjn hcf2)
                  clear hcf2
                  have hc3 : decide (mn < mx) = false := decide_eq_false hlt2
                  go_wp2_with fail
                  go_roundw
                  case rel => exact ⟨j + 1, by omega, by omega, by go_num, HM.out, by rw [← Hmi.out, Hro.out]⟩
                  case measure => simp [intOf] <;> omega
              · obtain rfl : j = K := by omega
                have hro := Hro.out
                rw [Nat.sub_self, rowF] at hro
                have Hmi := hide (find_miss (cf := offQ q) hik hro.symm)
                clear hro
                go_wp2_with fail
                go_roundw
                case rel => exact ⟨i + 1, by omega, by go_num, HM.out, by rw [← Hmi.out, Hfi.out]⟩
                case measure => simp [intOf] <;> omega
          · obtain rfl : i = K := by omega
            have hfi := Hfi.out
            rw [Nat.sub_self, findF] at hfi
            have hr := HR.out
            rw [HG2.out hK0 Hsle.out hfi.symm] at hr
            have Hr2 := hide hr
            clear hr hfi HR Hfi
            obtain ⟨t, ht, hin, hr, hsp⟩ := Hat.out 0 (by omega)
            have hgi := Hgt.out 0 (by omega)
            have hg := Hga.out t hin hr
            rw [← hsp] at hg
            have hm0 : meetQ q 0 = (q.getD 0 (0, (0, 0))).2 := rfl
            obtain ⟨⟨ti, ⟨s1, s2⟩⟩, hy⟩ : ∃ y, q.getD 0 (0, (0, 0)) = y := ⟨_, rfl⟩
            rw [hy] at hgi hg ht hm0
            simp only at hgi hg ht hm0
            have hti : ti < N := by have := (List.getElem?_eq_some_iff.1 ht).1; rw [Hrl.out] at this; exact this
            have hti2 : (ti : Int) < N := by omega
            obtain ⟨b, cur, hA, -, hbk, -, -, hcc⟩ := row_blk (Mem.row_ HM.out 1 rfl) (by omega)
            have p0 := hbk.c (ti * 5) (hcc (ti * 5) _ (rts_at ht 0 _ rfl))
            have p1 := hbk.c (ti * 5 + 1) (hcc (ti * 5 + 1) _ (rts_at ht 1 _ rfl))
            have p2 := hbk.c (ti * 5 + 2) (hcc (ti * 5 + 2) _ (rts_at ht 2 _ rfl))
            have p3 := hbk.c (ti * 5 + 3) (hcc (ti * 5 + 3) _ (rts_at ht 3 _ rfl))
            have p4 := hbk.c (ti * 5 + 4) (hcc (ti * 5 + 4) _ (rts_at ht 4 _ rfl))
            have ltp := hbk.lt
            obtain ⟨b2, cur2, hA2, -, hbk2, -, -, hcc2⟩ := row_blk (Mem.row_ HM.out 0 rfl) (by omega)
            have z0 := hbk2.c 0 (hcc2 0 _ hgi)
            have ltz := hbk2.lt
            clear hbk hcc hcc2 hbk2 ht hgi hy hsp hin hr
            subst hA
            subst hA2
            unfold ptrB tstV at hg
            obtain ⟨tr, tn, tt, tl, th⟩ := t
            simp only at hg p0 p1 p2 p3 p4
            have Hg := hide hg
            have Hm0 := hide hm0
            clear hg hm0
            have hkk : ¬ ((i : Int) < i) := by omega
            have hki : (0 : Int) < i := by omega
            go_wp2_with fail
            refine (Hg.out _ HM.out.below).mono ?_
            rintro e w5 ⟨rfl, hb⟩
            replace HM := hide (HM.out.later hb)
            clear hb
            clear p0 p1 p2 p3 p4 ltp z0 ltz Hg
            go_wp2_with fail
            refine code_world fun W6 hW => ?_
            have HMn := Mem.to (Mem.allocAt HM.out w5.heap.size rfl #[.int .i64 s1, .int .i64 s2] 23) hW
            have LW : Later w5 W6 := by rw [hW]; exact ((Below.refl _ _).alloc (Nat.le_refl _) _)
            have szW : W6.heap.size = w5.heap.size + 1 := by rw [hW]; simp
            clear hW
            replace HM := hide HMn
            clear HMn LW
            obtain ⟨go, hgo⟩ : ∃ go, w5.heap.size = go := ⟨_, rfl⟩
            rw [hgo] at HM szW ⊢
            clear szW hgo
            have hM1 := HM.out
            rw [show s1 = (meetQ q 0).1 by rw [Hm0.out], show s2 = (meetQ q 0).2 by rw [Hm0.out]] at hM1
            clear HM
            refine rgl4 l p c A n d time Hd.out t0 t1 _ _ ct cq N go q i HK.out Hq.out.symm _ w HBk.out HN.out hM1 ?_
            clear hM1
            intro kv20 kv21 kv136 kv137 kv138 kv139 kv140 kv141 kv142 kv143 kv144 kv145 kv146 kv147 kv148 kv149 kv150 kv151 kv152 kv153 kv154 kv155 kv156 kv157 kv158 kv159 kv160 kv161 kv162 kv163
            intro w7 hM
            have HM := hide hM
            clear hM
            obtain ⟨m, hm⟩ : ∃ m, meetQ q i = m := ⟨_, rfl⟩
            rw [hm] at HM Hr2
            obtain ⟨m1, m2⟩ := m
            simp only at HM
            have hr := Hr2.out
            subst hr
            have hn6 : go ≠ w.heap.size := Mem.ne HM.out 0 5 rfl rfl (by decide)
            have hn7 : go ≠ w.heap.size + 1 := Mem.ne HM.out 0 4 rfl rfl (by decide)
            have bq := Mem.blk_ HM.out 0 rfl
            obtain ⟨q0, q1⟩ := bq.c2
            have ltq := bq.lt
            clear bq
            go_wp2_with fail
            have HB := hide HM.out.below
            have Hbo := hide (Mem.blk_ HM.out 5 rfl)
            have Hba := hide (Mem.blk_ HM.out 4 rfl)
            have Hbt := hide (Mem.blk_ HM.out 3 rfl)
            have lto := Hbo.out.lt
            have lta := Hba.out.lt
            obtain ⟨v0, v1⟩ := Hbt.out.c2
            have ltv := Hbt.out.lt
            apply wp_region_F (w0 := w7) [[], [], [0], [0, 1, 2], [0, 1, 2, 3]] [true, false, false, false, false] [false, true, false, false, true] [⟨2, none, [], []⟩, ⟨3, none, [], []⟩] [(2, w.heap.size), (3, (w.heap.size+1))] [2, 3] (fun ixq y => match ixq with | 2 => undef | 3 => undef | _ => undef) (fun ixq x F wq => match ixq with | 2 => F w.heap.size ∧ Blk wq w.heap.size 23 #[.int .i64 m1, .int .i64 m2] | 3 => F (w.heap.size+1) ∧ Blk wq (w.heap.size+1) 52 #[.int .i64 0, .int .i64 0] | _ => True) (fun a x => ((a).put (none) (undef)).put (none) (undef)) (by kernel_rfl) (by kernel_rfl) (by kernel_rfl) (fun _ => rfl) [] (by kernel_rfl) (fills_lt2 (by omega) (by omega)) (fills_ne2 (by omega))
            · intro x D hD
              have hne := hD.some
              have k2 := liftS hD q0 (by exact early_all (by first | assumption | omega) (by rfl))
              have k3 := liftS hD q1 (by exact early_all (by first | assumption | omega) (by rfl))
              simp only [takeOps, Act.put, List.setIfInBounds_toArray, List.set_cons_succ, List.set_cons_zero]
              repeat (go_big_quiet_step (fail))
              exact wpQuiet_nil rfl
            · intro x D hD
              have hne := hD.some
              have k0 := liftS hD v0 (by exact ⟨by first | assumption | omega, free2 (by omega) (by omega)⟩)
              have k1 := liftS hD v1 (by exact ⟨by first | assumption | omega, free2 (by omega) (by omega)⟩)
              have k2 := liftS hD q0 (by exact ⟨by first | assumption | omega, free2 (by omega) (by omega)⟩)
              have k3 := liftS hD q1 (by exact ⟨by first | assumption | omega, free2 (by omega) (by omega)⟩)
              simp only [takeOps, Act.put, List.setIfInBounds_toArray, List.set_cons_succ, List.set_cons_zero]
              repeat (go_big_quiet_step (fail))
              exact wpQuiet_nil rfl
            · exact fun _ h => absurd h (by simp)
            · refine ⟨?_, ?_, trivial⟩
              · exact obl_fill 23 23 6 164 w.heap.size _ (fun x => #[.int .i64 m1, .int .i64 m2]) (by kernel_rfl) (fun _ => rfl) (fun _ => rfl) Hbo.out (eb_fill2 (by omega)).1 (by simp [wrF]) (fun _ => by kernel_rfl) (fun _ => rfl) (fun _ => by simp [Value.oneCell']) (fun _ => rfl) (fun _ _ _ _ h1 h2 => ⟨h1, h2⟩)
              · exact obl_fill 52 52 7 165 (w.heap.size+1) _ (fun x => #[.int .i64 0, .int .i64 0]) (by kernel_rfl) (fun _ => rfl) (fun _ => rfl) Hba.out (eb_fill2 (by omega)).2 (by simp [wrF]) (fun _ => by kernel_rfl) (fun _ => rfl) (fun _ => by simp [Value.oneCell']) (fun _ => rfl) (fun _ _ _ _ h1 h2 => ⟨h1, h2⟩)
            · refine ⟨?_, ?_, trivial⟩
              · exact owe_fill w.heap.size 23 (fun x => #[.int .i64 m1, .int .i64 m2]) (fun _ _ _ => rfl) (fun _ _ _ => rfl)
              · exact owe_fill (w.heap.size+1) 52 (fun x => #[.int .i64 0, .int .i64 0]) (fun _ _ _ => rfl) (fun _ _ _ => rfl)
            intro xr wr2 F hKr hlv6
            obtain ⟨fct2, fct3, -⟩ := hlv6
            replace fct2 : (F 2) w.heap.size ∧ Blk wr2 w.heap.size 23 #[.int .i64 m1, .int .i64 m2] := fct2 rfl
            replace fct3 : (F 3) (w.heap.size+1) ∧ Blk wr2 (w.heap.size+1) 52 #[.int .i64 0, .int .i64 0] := fct3 rfl
            have hbr := below_kept HB.out HB.out.size hKr (by simp)
            have bo2 := fct2.2
            have ba2 := fct3.2
            obtain ⟨e0, e1⟩ := bo2.c2
            obtain ⟨u0, u1⟩ := ba2.c2
            have lte := bo2.lt
            have ltu := ba2.lt
            have HBr := hide hbr
            clear hbr hKr fct2 fct3 bo2 ba2
            go_wp2
            refine bodyPost_ret (v := gainV ((m1, m2), (0, 0), 0)) (by simp [gainV, results, Try.results81, go_sem, e0, e1, u0, u1, lte, ltu]) rfl ⟨rfl, HBr.out⟩
end Go.Proofs.Ytiggefmckomilaa
namespace Go.Proofs.Ytiggefmckomilaa
open Go Go.RowKit

set_option maxHeartbeats 4000000 in
set_option maxRecDepth 100000 in
theorem rValue_any (l : List Ent) (p c : Nat) (A : Option Addr) (n : ByteArray) (t : Int) (w : World) (hb : RefR l p A c w) :
    Calls Try.prog 33 #[ptrB p, .string n, .int .i64 t] w fun e w' => e = .returned (spanE (valueE l n t)) ∧ Below w.heap.size w w' := by
  have hsc := fun W (hW : Below w.heap.size w W) => rstandard_any l p c A n W (hb.later hW)
  have hE : valueE l n t = match stdT l n with | none => ((0, 0), 4) | some s => if (voidT l n || !inR t s.time s.stop) = true then ((0, 0), 22) else (valueT l s t, 0) := rfl
  generalize valueE l n t = R at *
  have HB := hide (Below.refl w.heap.size w)
  unfold ptrB spanE
  cases hs : stdT l n with
  | none =>
    rw [hs] at hE
    subst hE
    unfold standardV at hsc
    simp only [hs] at hsc
    unfold stdV std0 ptrB at hsc
    have Hsc := hide hsc
    clear hsc
    go_enter Try.func33, Try.ntmps33
    go_wp2_with fail
    refine at_world fun W hW => ?_
    have bq0 : Blk W w.heap.size 23 #[.int .i64 0, .int .i64 0] := by rw [hW]; exact Blk.new _ _ _
    have LW : Later w W := by rw [hW]; exact ((Below.refl _ _).alloc (Nat.le_refl _) _)
    have szW : W.heap.size = w.heap.size + 1 := by rw [hW]; simp
    clear hW
    replace HB := hide (onward HB.out LW)
    have Ho := hide bq0
    clear bq0 LW szW
    refine (Hsc.out _ HB.out).mono ?_
    rintro e w2 ⟨rfl, hb⟩
    replace HB := hide (onward HB.out hb)
    replace Ho := hide (blk_later Ho.out hb)
    clear hb
    obtain ⟨o0, o1⟩ := Ho.out.c2
    have lto := Ho.out.lt
    have fo0 := Ho.out.frozen 0
    have fo1 := Ho.out.frozen 1
    go_wp2
    refine ret_world fun W9 hW => ?_
    have hb2 : Blk W9 w.heap.size 23 #[.int .i64 0, .int .i64 0] := by
      rw [hW]
      exact (((Ho.out.set_ 0 (.int .i64 0)).set_ 1 (.int .i64 0)).alloc _)
    have hB2 : Below w.heap.size w W9 := by
      rw [hW]
      exact (((HB.out.setCell (Nat.le_refl _) _).setCell (Nat.le_refl _) _).alloc (by simp; exact HB.out.size) _)
    clear hW o0 o1 lto fo0 fo1
    obtain ⟨o0, o1⟩ := hb2.c2
    have lto := hb2.lt
    refine bodyPost_ret (v := .tuple #[.agg #[.int .i64 0, .int .i64 0], .int .i64 4]) (by simp [results, Try.results33, go_sem, o0, o1, lto]) rfl ⟨rfl, hB2⟩
  | some s =>
    rw [hs] at hE
    simp only at hE
    have hvo := fun W (hW : Below w.heap.size w W) => rvoid_any l p c A n W (hb.later hW) ⟨s, hs⟩
    have hin := fun W => rIn_any t s.time s.stop W
    have hva := fun (t0 : 0 ≤ t) (t1 : t ≤ 4294967296) W (hW : Below w.heap.size w W) => rvalue_any (n := n) t W (hb.later hW) hs t0 t1
    obtain ⟨ho, -, -⟩ := good_std hb.good hs
    have ht1 := ho.t0
    have ht2 := ho.t2
    unfold standardV at hsc
    simp only [hs] at hsc
    obtain ⟨sn, sp, slo, shi, stm, sst, sdr⟩ := s
    unfold stdV ptrB at *
    simp only at *
    have Hsc := hide hsc
    clear hsc hb hs ho
    cases hv : voidT l n with
    | true =>
      rw [hv, Bool.true_or, if_pos rfl] at hE
      subst hE
      rw [hv] at hvo
      have Hvo := hide hvo
      clear hvo hva hin hv
      go_enter Try.func33, Try.ntmps33
      go_wp2_with fail
      refine at_world fun W hW => ?_
      have bq0 : Blk W w.heap.size 23 #[.int .i64 0, .int .i64 0] := by rw [hW]; exact Blk.new _ _ _
      have LW : Later w W := by rw [hW]; exact ((Below.refl _ _).alloc (Nat.le_refl _) _)
      have szW : W.heap.size = w.heap.size + 1 := by rw [hW]; simp
      clear hW
      replace HB := hide (onward HB.out LW)
      have Ho := hide bq0
      clear bq0 LW szW
      refine (Hsc.out _ HB.out).mono ?_
      rintro e w2 ⟨rfl, hb⟩
      replace HB := hide (onward HB.out hb)
      replace Ho := hide (blk_later Ho.out hb)
      clear hb
      go_wp2_with fail
      refine at_world fun W3 hW => ?_
      have bq0 : Blk W3 w2.heap.size 67 #[.string sn, .string sp, .int .i64 slo, .int .i64 shi, .int .i64 stm, .int .i64 sst, .int .i64 sdr] := by rw [hW]; exact Blk.new _ _ _
      have LW : Later w2 W3 := by rw [hW]; exact ((Below.refl _ _).alloc (Nat.le_refl _) _)
      have szW : W3.heap.size = w2.heap.size + 1 := by rw [hW]; simp
      clear hW
      replace HB := hide (onward HB.out LW)
      replace Ho := hide (blk_later Ho.out LW)
      have Hq := hide bq0
      clear bq0 LW szW
      refine (Hvo.out _ HB.out).mono ?_
      rintro e w4 ⟨rfl, hb⟩
      replace HB := hide (onward HB.out hb)
      replace Ho := hide (blk_later Ho.out hb)
      replace Hq := hide (blk_later Hq.out hb)
      clear hb
      obtain ⟨o0, o1⟩ := Ho.out.c2
      have lto := Ho.out.lt
      have fo0 := Ho.out.frozen 0
      have fo1 := Ho.out.frozen 1
      go_wp2
      refine ret_world fun W9 hW => ?_
      have hb2 : Blk W9 w.heap.size 23 #[.int .i64 0, .int .i64 0] := by
        rw [hW]
        exact ((Ho.out.set_ 0 (.int .i64 0)).set_ 1 (.int .i64 0))
      have hB2 : Below w.heap.size w W9 := by
        rw [hW]
        exact ((HB.out.setCell (Nat.le_refl _) _).setCell (Nat.le_refl _) _)
      clear hW o0 o1 lto fo0 fo1
      obtain ⟨o0, o1⟩ := hb2.c2
      have lto := hb2.lt
      refine bodyPost_ret (v := .tuple #[.agg #[.int .i64 0, .int .i64 0], .int .i64 22]) (by simp [results, Try.results33, go_sem, o0, o1, lto]) rfl ⟨rfl, hB2⟩
    | false =>
      rw [hv, Bool.false_or] at hE
      rw [hv] at hvo
      have Hvo := hide hvo
      clear hvo hv
      cases hi : inR t stm sst with
      | false =>
        rw [hi, if_pos (show (!false) = true from rfl)] at hE
        subst hE
        rw [hi] at hin
        have Hin := hide hin
        clear hin hva hi
        go_enter Try.func33, Try.ntmps33
        go_wp2_with fail
        refine at_world fun W hW => ?_
        have bq0 : Blk W w.heap.size 23 #[.int .i64 0, .int .i64 0] := by rw [hW]; exact Blk.new _ _ _
        have LW : Later w W := by rw [hW]; exact ((Below.refl _ _).alloc (Nat.le_refl _) _)
        have szW : W.heap.size = w.heap.size + 1 := by rw [hW]; simp
        clear hW
        replace HB := hide (onward HB.out LW)
        have Ho := hide bq0
        clear bq0 LW szW
        refine (Hsc.out _ HB.out).mono ?_
        rintro e w2 ⟨rfl, hb⟩
        replace HB := hide (onward HB.out hb)
        replace Ho := hide (blk_later Ho.out hb)
        clear hb
        go_wp2_with fail
        refine at_world fun W3 hW => ?_
        have bq0 : Blk W3 w2.heap.size 67 #[.string sn, .string sp, .int .i64 slo, .int .i64 shi, .int .i64 stm, .int .i64 sst, .int .i64 sdr] := by rw [hW]; exact Blk.new _ _ _
        have LW : Later w2 W3 := by rw [hW]; exact ((Below.refl _ _).alloc (Nat.le_refl _) _)
        have szW : W3.heap.size = w2.heap.size + 1 := by rw [hW]; simp
        clear hW
        replace HB := hide (onward HB.out LW)
        replace Ho := hide (blk_later Ho.out LW)
        have Hq := hide bq0
        clear bq0 LW szW
        refine (Hvo.out _ HB.out).mono ?_
        rintro e w4 ⟨rfl, hb⟩
        replace HB := hide (onward HB.out hb)
        replace Ho := hide (blk_later Ho.out hb)
        replace Hq := hide (blk_later Hq.out hb)
        clear hb
        obtain ⟨q0, q1, q2, q3, q4, q5, q6⟩ := Hq.out.c7
        have ltq := Hq.out.lt
        go_wp2_with fail
        refine (Hin.out _).mono ?_
        rintro e w' ⟨rfl, rfl⟩
        clear q0 q1 q2 q3 q4 q5 q6 ltq
        obtain ⟨o0, o1⟩ := Ho.out.c2
        have lto := Ho.out.lt
        have fo0 := Ho.out.frozen 0
        have fo1 := Ho.out.frozen 1
        go_wp2
        refine ret_world fun W9 hW => ?_
        have hb2 : Blk W9 w.heap.size 23 #[.int .i64 0, .int .i64 0] := by
          rw [hW]
          exact ((Ho.out.set_ 0 (.int .i64 0)).set_ 1 (.int .i64 0))
        have hB2 : Below w.heap.size w W9 := by
          rw [hW]
          exact ((HB.out.setCell (Nat.le_refl _) _).setCell (Nat.le_refl _) _)
        clear hW o0 o1 lto fo0 fo1
        obtain ⟨o0, o1⟩ := hb2.c2
        have lto := hb2.lt
        refine bodyPost_ret (v := .tuple #[.agg #[.int .i64 0, .int .i64 0], .int .i64 22]) (by simp [results, Try.results33, go_sem, o0, o1, lto]) rfl ⟨rfl, hB2⟩
      | true =>
        rw [hi, if_neg (show ¬ (!true) = true by decide)] at hE
        rw [hi] at hin
        obtain ⟨k1, k2⟩ := inR_iff.1 hi
        have hva := hva (by omega) (by omega)
        generalize valueT l ⟨sn, sp, slo, shi, stm, sst, sdr⟩ t = v at *
        obtain ⟨v1, v2⟩ := v
        simp only at hva
        subst hE
        have Hin := hide hin
        have Hva := hide hva
        clear hin hva hi
        go_enter Try.func33, Try.ntmps33
        go_wp2_with fail
        refine at_world fun W hW => ?_
        have bq0 : Blk W w.heap.size 23 #[.int .i64 0, .int .i64 0] := by rw [hW]; exact Blk.new _ _ _
        have LW : Later w W := by rw [hW]; exact ((Below.refl _ _).alloc (Nat.le_refl _) _)
        have szW : W.heap.size = w.heap.size + 1 := by rw [hW]; simp
        clear hW
        replace HB := hide (onward HB.out LW)
        have Ho := hide bq0
        clear bq0 LW szW
        refine (Hsc.out _ HB.out).mono ?_
        rintro e w2 ⟨rfl, hb⟩
        replace HB := hide (onward HB.out hb)
        replace Ho := hide (blk_later Ho.out hb)
        clear hb
        go_wp2_with fail
        refine at_world fun W3 hW => ?_
        have bq0 : Blk W3 w2.heap.size 67 #[.string sn, .string sp, .int .i64 slo, .int .i64 shi, .int .i64 stm, .int .i64 sst, .int .i64 sdr] := by rw [hW]; exact Blk.new _ _ _
        have LW : Later w2 W3 := by rw [hW]; exact ((Below.refl _ _).alloc (Nat.le_refl _) _)
        have szW : W3.heap.size = w2.heap.size + 1 := by rw [hW]; simp
        clear hW
        replace HB := hide (onward HB.out LW)
        replace Ho := hide (blk_later Ho.out LW)
        have Hq := hide bq0
        clear bq0 LW szW
        refine (Hvo.out _ HB.out).mono ?_
        rintro e w4 ⟨rfl, hb⟩
        replace HB := hide (onward HB.out hb)
        replace Ho := hide (blk_later Ho.out hb)
        replace Hq := hide (blk_later Hq.out hb)
        clear hb
        obtain ⟨q0, q1, q2, q3, q4, q5, q6⟩ := Hq.out.c7
        have ltq := Hq.out.lt
        go_wp2_with fail
        refine (Hin.out _).mono ?_
        rintro e w' ⟨rfl, rfl⟩
        go_wp2_with fail
        clear q0 q1 q2 q3 q4 q5 q6 ltq
        refine (Hva.out _ HB.out).mono ?_
        rintro e w5 ⟨rfl, hb⟩
        replace HB := hide (onward HB.out hb)
        replace Ho := hide (blk_later Ho.out hb)
        replace Hq := hide (blk_later Hq.out hb)
        clear hb
        obtain ⟨o0, o1⟩ := Ho.out.c2
        have lto := Ho.out.lt
        have fo0 := Ho.out.frozen 0
        have fo1 := Ho.out.frozen 1
        go_wp2
        refine ret_world fun W9 hW => ?_
        have hb2 : Blk W9 w.heap.size 23 #[.int .i64 v1, .int .i64 v2] := by
          rw [hW]
          exact ((Ho.out.set_ 0 (.int .i64 v1)).set_ 1 (.int .i64 v2))
        have hB2 : Below w.heap.size w W9 := by
          rw [hW]
          exact ((HB.out.setCell (Nat.le_refl _) _).setCell (Nat.le_refl _) _)
        clear hW o0 o1 lto fo0 fo1
        obtain ⟨o0, o1⟩ := hb2.c2
        have lto := hb2.lt
        refine bodyPost_ret (v := .tuple #[.agg #[.int .i64 v1, .int .i64 v2], .int .i64 0]) (by simp [results, Try.results33, go_sem, o0, o1, lto]) rfl ⟨rfl, hB2⟩
end Go.Proofs.Ytiggefmckomilaa
