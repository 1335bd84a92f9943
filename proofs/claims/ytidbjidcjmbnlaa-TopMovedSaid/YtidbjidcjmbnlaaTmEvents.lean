/-
  The events between two maps.
-/
import Derived.Test.YtidbjidcjmbnlaaTmEvS
import Derived.Test.YtidbjidcjmbnlaaTmRep
import Derived.Test.YtidbjidcjmbnlaaRegK
import Derived.Test.YtidbjidcjmbnlaaRegC
set_option linter.unusedSimpArgs false
set_option linter.unusedVariables false
namespace Go.Proofs.Ytidbjidcjmbnlaa
open Go Go.RowKit
attribute [local go_sem] Oper.semAt_some

theorem Mem.newMapAt {κ : Type} [DecidableEq κ] {w0 W : World} {ts : List Th} (h : Mem w0 ts W) (P : Program) (k : TypeId) (lit : κ → Lit) (ok : κ → Prop) (g : Nat) (hg : g = W.heap.size) : Mem w0 (thK P k lit ok g (fun _ => none) 0 :: ts) (W.alloc (.map #[] 0)) := by
  subst hg
  exact h.newMap P k lit ok
def EvJ (W H : Nat) (r : Int) (f0 f1 : Nat → Int) (w : World) (b : Nat) (T : List Th) (p v u cb : Nat) (wr : World) : Prop :=
  ∃ m L d c, Forest m L d ∧ OkM m ∧ c ≤ cb ∧ JoinI W H r f0 f1 L p v u ∧ Mem w (thK Try.prog 142 ndL okNd b (fV m) c :: T) wr
/-- What is answered. -/
def EventsPost (W H : Nat) (r : Int) (K0 K1 : Nat) (f0 f1 : Nat → Int) (w : World) (e : Ending) (w' : World) : Prop :=
  ∃ v E L, e = .returned v ∧ Mem w (.row w.heap.size 106 3 v E.length (evCells E) :: (E.map (thF w.heap.size) ++ E.map (thT w.heap.size))) w' ∧ EvI L K0 K1 (E.map Evm.e) ∧ NearE W H r f0 f1 L ∧ (∀ x ∈ E, x.k = kindZ x.e.2.1.length x.e.2.2.length) ∧ E.length ≤ K0 + K1
set_option maxHeartbeats 4000000 in
set_option maxRecDepth 100000 in
theorem events_any (gx gy gs : Int) (W H N r K0 K1 bo0 bo1 g0 g1 : Nat) (f0 f1 : Nat → Int) (w : World) (hW : 1 ≤ W) (hH : 1 ≤ H) (hW8 : W ≤ 8) (hH8 : H ≤ 8) (hN : N = W * H) (hr : r ≤ 8) (hK0 : K0 ≤ 64) (hK1 : K1 ≤ 64)
    (hf0 : ∀ p, p < N → f0 p = -1 ∨ (0 ≤ f0 p ∧ f0 p < K0)) (hf1 : ∀ p, p < N → f1 p = -1 ∨ (0 ≤ f1 p ∧ f1 p < K1)) (hg0 : Blk w g0 3 (cellsF f0 N)) (hg1 : Blk w g1 3 (cellsF f1 N)) :
    Calls Try.prog 31 #[.agg #[.int .i64 gx, .int .i64 gy, .int .i64 gs, .int .i64 (W : Nat), .int .i64 (H : Nat), .slice (some ⟨bo0, 0, none⟩) K0 K0, .slice (some ⟨g0, 0, none⟩) N N], .agg #[.int .i64 gx, .int .i64 gy, .int .i64 gs, .int .i64 (W : Nat), .int .i64 (H : Nat), .slice (some ⟨bo1, 0, none⟩) K1 K1, .slice (some ⟨g1, 0, none⟩) N N], .int .i64 (r : Nat)] w (EventsPost W H r K0 K1 f0 f1 w) := by
  have hN1 : 1 ≤ N := by rw [hN]; exact Nat.mul_pos hW hH
  have hN2 : N ≤ 64 := by rw [hN]; exact Nat.mul_le_mul hW8 hH8
  have hG0 := fun V (hB : Below w.heap.size w V) => blk_belowN hg0 hB hg0.lt
  have hG1 := fun V (hB : Below w.heap.size w V) => blk_belowN hg1 hB hg1.lt
  have hW2 : (W : Int) ≤ 8 := by omega
  have hH2 : (H : Int) ≤ 8 := by omega
  have hW1 : (1 : Int) ≤ W := by omega
  have hH1 : (1 : Int) ≤ H := by omega
  have hW0 : ¬ (W : Int) = 0 := by omega
  have hr2 : (r : Int) ≤ 8 := by omega
  have hr0 : (0 : Int) ≤ r := by omega
  have hN3 : (N : Int) ≤ 64 := by omega
  obtain ⟨PP, hPP⟩ : ∃ PP, EventsPost W H r K0 K1 f0 f1 w = PP := ⟨_, rfl⟩
  rw [hPP]
  have HG0 := hide hG0
  have HG1 := hide hG1
  have HN := hide hN
  have HF0 := hide hf0
  have HF1 := hide hf1
  have HPP := hide hPP
  clear hG0 hG1 hN hf0 hf1 hPP
  clear hg0 hg1
  go_enter Try.func31, Try.ntmps31
  have HM := hide (Mem.start w)
  have hmm := @run_makeMap Try.prog
  go_upto_region 2 with fail
  clear hmm
  refine code_world fun w1 hw1 => ?_
  have hM1 := Mem.to ((((HM.out.allocAt w.heap.size rfl #[.int .i64 gx, .int .i64 gy, .int .i64 gs, .int .i64 (W : Nat), .int .i64 (H : Nat), .slice (some ⟨bo0, 0, none⟩) K0 K0, .slice (some ⟨g0, 0, none⟩) N N] 102).allocAt (w.heap.size + 1) (by simp) #[.int .i64 gx, .int .i64 gy, .int .i64 gs, .int .i64 (W : Nat), .int .i64 (H : Nat), .slice (some ⟨bo1, 0, none⟩) K1 K1, .slice (some ⟨g1, 0, none⟩) N N] 102).newMapAt Try.prog 142 ndL okNd (w.heap.size + 2) (by simp)).allocAt (w.heap.size + 3) (by simp) #[.map (some (w.heap.size + 2))] 139) hw1
  obtain ⟨pA, hpA⟩ : ∃ q, w.heap.size = q := ⟨_, rfl⟩
  obtain ⟨pB, hpB⟩ : ∃ q, pA + 1 = q := ⟨_, rfl⟩
  obtain ⟨mB, hmB⟩ : ∃ q, pB + 1 = q := ⟨_, rfl⟩
  obtain ⟨pS, hpS⟩ : ∃ q, mB + 1 = q := ⟨_, rfl⟩
  rw [show w.heap.size + 3 = pS by omega, show w.heap.size + 2 = mB by omega, show w.heap.size + 1 = pB by omega, hpA] at hM1
  simp only [hpA, hpB, hmB, hpS]
  have HPA := hide hpA
  clear hpA hpB hmB hpS HM hw1
  obtain ⟨T, hT⟩ : ∃ T : List Th, [.blk pS 139 #[.map (some mB)], .blk pB 102 #[.int .i64 gx, .int .i64 gy, .int .i64 gs, .int .i64 (W : Nat), .int .i64 (H : Nat), .slice (some ⟨bo1, 0, none⟩) K1 K1, .slice (some ⟨g1, 0, none⟩) N N], .blk pA 102 #[.int .i64 gx, .int .i64 gy, .int .i64 gs, .int .i64 (W : Nat), .int .i64 (H : Nat), .slice (some ⟨bo0, 0, none⟩) K0 K0, .slice (some ⟨g0, 0, none⟩) N N]] = T := ⟨_, rfl⟩
  have HJ0 := hide (show EvJ W H r f0 f1 w mB T 0 0 0 (64 * 0) w1 from ⟨fun _ => none, id, fun _ => 0, 0, forest_none, fun x y h => (by cases h), Nat.le_refl _, joinI_nil, (by rw [← hT]; exact hM1.perm (List.Perm.swap _ _ _))⟩)
  have HT := hide hT
  have HM := hide hM1
  clear hT hM1
  have a6 := (HM.out.blk_ 3 rfl).c 6 rfl
  have lta := (HM.out.blk_ 3 rfl).lt
  go_wp2_with fail
  clear a6 lta HM
  go_loopw [29] (fun u wr => ∃ p : Nat, p ≤ N ∧ u = .int .i64 (p : Nat) ∧ Hid (EvJ W H r f0 f1 w mB T p 0 0 (64 * p) wr)) (fun u _ => N - (intOf u).toNat)
  case atStart => exact ⟨0, Nat.zero_le _, rfl, HJ0⟩
  case round =>
    obtain ⟨p, hpN, rfl, HJ⟩ := hrel
    clear HJ0
    by_cases hlt : p < N
    · skip
      have hlt2 : (p : Int) < N := by omega
      obtain ⟨m, L, d, c, hF, hm, hc, hj, hM⟩ := HJ.out
      have p0 := (HG0.out wr hM.below).c p (cellsF_at hlt)
      have ltg := (HG0.out wr hM.below).lt
      by_cases h0 : f0 p < 0
      · have HJ1 := hide (show EvJ W H r f0 f1 w mB T (p + 1) 0 0 (64 * (p + 1)) wr from ⟨m, L, d, c, hF, hm, by omega, hj.none h0, hM⟩)
        clear hF hm hc hj hM HJ
        go_wp2_with fail
        go_roundw
        case rel => exact ⟨p + 1, hlt, by go_num, HJ1⟩
        case measure => simp [intOf] <;> omega
      · rw [← HT.out] at hM
        have hi : f0 p = ((f0 p).toNat : Int) := by omega
        obtain ⟨i, hie⟩ : ∃ i, (f0 p).toNat = i := ⟨_, rfl⟩
        rw [hie] at hi
        rw [hi] at p0
        have hiK : i < K0 := by
          rcases HF0.out p hlt with h1 | ⟨-, h1⟩ <;> omega
        have hi0 : ¬ (i : Int) < 0 := by omega
        have a3 := (hM.blk_ 3 rfl).c 3 rfl
        have lta := (hM.blk_ 3 rfl).lt
        have HF := hide hF
        have HMm := hide hm
        have HC := hide hc
        have HJI := hide hj
        have HM := hide hM
        have HIE := hide hie
        have HI := hide hi
        clear hF hm hc hj hM hie hi
        clear h0
        go_wp2_with fail
        go_quiet (fail)
        have hL9 : Below wr.heap.size wr (wr.drewN nq) := below_drewN (Below.refl _ _) nq
        replace HM := hide (HM.out.later hL9)
        clear hL9 p0 ltg a3 lta
        have hx0 : (p : Int) % (W : Int) = ((p % W : Nat) : Int) := rfl
        have hy0 : wrap64 ((p : Int) / (W : Int)) = ((p / W : Nat) : Int) := by
          have h1 : (p : Int) / (W : Int) = ((p / W : Nat) : Int) := rfl
          have h2 : p / W ≤ p := Nat.div_le_self _ _
          rw [h1]
          generalize p / W = z at *
          exact IntWalk.wrap64_in _ (by omega)
        simp only [hx0, hy0]
        obtain ⟨x, hx⟩ : ∃ x, p % W = x := ⟨_, rfl⟩
        obtain ⟨y, hy⟩ : ∃ y, p / W = y := ⟨_, rfl⟩
        have hxW : x < W := by rw [← hx]; exact Nat.mod_lt _ (by omega)
        have hyH : y < H := by rw [← hy]; exact Nat.div_lt_of_lt_mul (by rw [← HN.out]; exact hlt)
        rw [hx, hy]
        clear hx0 hy0
        have HX := hide hx
        have HY := hide hy
        clear hx hy
        generalize (wr.drewN nq : World) = wq at *
        obtain ⟨v0, hv0⟩ : ∃ v : Nat, (v : Int) = max 0 ((y : Int) - r) := ⟨(max 0 ((y : Int) - r)).toNat, by omega⟩
        obtain ⟨vm, hvm⟩ : ∃ v : Int, v = min ((H : Int) - 1) ((y : Int) + r) := ⟨_, rfl⟩
        obtain ⟨u0, hu0⟩ : ∃ v : Nat, (v : Int) = max 0 ((x : Int) - r) := ⟨(max 0 ((x : Int) - r)).toNat, by omega⟩
        obtain ⟨um, hum⟩ : ∃ v : Int, v = min ((W : Int) - 1) ((x : Int) + r) := ⟨_, rfl⟩
        have HV0 := hide hv0
        have HVM := hide hvm
        have HU0 := hide hu0
        have HUM := hide hum
        have hv0H : v0 ≤ H := by omega
        have hu0W : u0 ≤ W := by omega
        have hvm2 : vm ≤ (H : Int) - 1 := by omega
        have hum2 : um ≤ (W : Int) - 1 := by omega
        have e1 : max (0 : Int) ((y : Int) - r) = v0 := hv0.symm
        have e2 : (if (0 : Int) < (y : Int) - r then (y : Int) - r else 0) = v0 := by split <;> omega
        have e3 : (if (r : Int) < (y : Int) then (y : Int) - r else 0) = v0 := by split <;> omega
        have e4 : min ((H : Int) - 1) ((y : Int) + r) = vm := hvm.symm
        have e5 : (if (y : Int) + r < (H : Int) - 1 then (y : Int) + r else (H : Int) - 1) = vm := by split <;> omega
        have e6 : max (0 : Int) ((x : Int) - r) = u0 := hu0.symm
        have e7 : (if (0 : Int) < (x : Int) - r then (x : Int) - r else 0) = u0 := by split <;> omega
        have e8 : (if (r : Int) < (x : Int) then (x : Int) - r else 0) = u0 := by split <;> omega
        have e9 : min ((W : Int) - 1) ((x : Int) + r) = um := hum.symm
        have e10 : (if (x : Int) + r < (W : Int) - 1 then (x : Int) + r else (W : Int) - 1) = um := by split <;> omega
        clear hv0 hvm hu0 hum
        have hx7 : (x : Int) ≤ 7 := by omega
        have hy7 : (y : Int) ≤ 7 := by omega
        have HJ2 := hide (show EvJ W H r f0 f1 w mB T p v0 0 (64 * p + 8 * v0) wq from ⟨m, L, d, c, HF.out, HMm.out, by have := HC.out; omega, HJI.out.row (by rw [HV0.out, HY.out]), by rw [← HT.out]; exact HM.out⟩)
        clear HF HMm HC HJI HM
        go_wp2_with fail
        go_loopw [12] (fun z wr => ∃ v : Nat, v ≤ H ∧ z = .int .i64 (v : Nat) ∧ Hid (EvJ W H r f0 f1 w mB T p v 0 (64 * p + 8 * v) wr)) (fun z _ => H - (intOf z).toNat)
        case atStart => exact ⟨v0, hv0H, rfl, HJ2⟩
        case round =>
          obtain ⟨v, hvH, rfl, HJ3⟩ := hrel
          clear HJ2
          obtain ⟨m, L, d, c, hF, hm, hc, hj, hM⟩ := HJ3.out
          rw [← HT.out] at hM
          have a4 := (hM.blk_ 3 rfl).c 4 rfl
          have lta := (hM.blk_ 3 rfl).lt
          by_cases hle : (v : Int) ≤ vm
          · have hvH2 : v < H := by omega
            have hv7 : (v : Int) ≤ 7 := by omega
            obtain ⟨vw, hvw⟩ : ∃ q, v * W = q := ⟨_, rfl⟩
            have hvwI : (v : Int) * (W : Int) = vw := by rw [← hvw]; push_cast; rfl
            have hvwN : ∀ u, u < W → vw + u < N := fun u hu => by rw [← hvw, HN.out]; exact (pix_make hu hvH2).1
            have hvw64 : vw < N := by have := hvwN 0 (by omega); omega
            have HJ4 := hide (show EvJ W H r f0 f1 w mB T p v u0 (64 * p + 8 * v + u0) wr from ⟨m, L, d, c, hF, hm, by omega, hj.col (by rw [HU0.out, HX.out]), by rw [← HT.out]; exact hM⟩)
            have HVWN := hide hvwN
            have HVW := hide hvw
            clear hvwN hvw
            clear hF hm hc hj hM HJ3
            go_wp2_with fail
            clear a4 lta
            go_loopw [13] (fun z wr => ∃ u : Nat, u ≤ W ∧ z = .int .i64 (u : Nat) ∧ Hid (EvJ W H r f0 f1 w mB T p v u (64 * p + 8 * v + u) wr)) (fun z _ => W - (intOf z).toNat)
            case atStart => exact ⟨u0, hu0W, rfl, HJ4⟩
            case round =>
              obtain ⟨u, huW, rfl, HJ5⟩ := hrel
              clear HJ4
              obtain ⟨m, L, d, c, hF, hm, hc, hj, hM⟩ := HJ5.out
              rw [← HT.out] at hM
              have a3 := (hM.blk_ 3 rfl).c 3 rfl
              have lta := (hM.blk_ 3 rfl).lt
              by_cases hle2 : (u : Int) ≤ um
              · have huW2 : u < W := by omega
                have hu7 : (u : Int) ≤ 7 := by omega
                have hqN := HVWN.out u huW2
                have hqI : ((vw + u : Nat) : Int) = (vw : Int) + u := by push_cast; rfl
                have hqN2 : (vw : Int) + u < N := by omega
                have hqNat : ((vw : Int) + (u : Int)).toNat = vw + u := by omega
                have q0 := (HG1.out wr hM.below).c (vw + u) (cellsF_at hqN)
                have ltq := (HG1.out wr hM.below).lt
                have b6 := (hM.blk_ 2 rfl).c 6 rfl
                have ltb := (hM.blk_ 2 rfl).lt
                have hvw0 : (0 : Int) ≤ vw := by omega
                have hvw6 : (vw : Int) ≤ 64 := by omega
                by_cases hj1 : f1 (vw + u) < 0
                · have HJ6 := hide (show EvJ W H r f0 f1 w mB T p v (u + 1) (64 * p + 8 * v + (u + 1)) wr from ⟨m, L, d, c, hF, hm, by omega, hj.skip (by rw [HVW.out]; exact hj1), by rw [← HT.out]; exact hM⟩)
                  have hj2 : ¬ 0 ≤ f1 (vw + u) := by omega
                  clear hF hm hc hj hM HJ5
                  go_wp2_with fail
                  go_roundw
                  case rel => exact ⟨u + 1, huW2, by go_num, HJ6⟩
                  case measure => simp [intOf] <;> omega
                · have hjj : f1 (vw + u) = ((f1 (vw + u)).toNat : Int) := by omega
                  obtain ⟨j, hje⟩ : ∃ i, (f1 (vw + u)).toNat = i := ⟨_, rfl⟩
                  rw [hje] at hjj
                  have hjK : j < K1 := by
                    rcases HF1.out _ hqN with h1 | ⟨-, h1⟩ <;> omega
                  rw [hjj] at q0
                  have hj3 : (0 : Int) ≤ j := by omega
                  have s0 := (hM.blk_ 1 rfl).c 0 rfl
                  have lts := (hM.blk_ 1 rfl).lt
                  have hjo := join_any m L d mB c (false, i) (true, j) w wr _ hF (show i ≤ 1000000 by omega) (show j ≤ 1000000 by omega) hm (by omega) hM
                  unfold ndV at hjo
                  dsimp only at hjo
                  have HJO := hide hjo
                  have HJI := hide hj
                  have HC := hide hc
                  clear hF hm hc hj hM HJ5 hjo
                  go_wp2_with fail
                  refine HJO.out.mono ?_
                  rintro e w2 ⟨rfl, m2, d2, c2, hF2, hm2, hc2, hM2⟩
                  have hadd := HJI.out.add
                  rw [HVW.out, hje, HIE.out] at hadd
                  have HJ6 := hide (show EvJ W H r f0 f1 w mB T p v (u + 1) (64 * p + 8 * v + (u + 1)) w2 from ⟨m2, joinL L (false, i) (true, j), d2, c2, hF2, hm2, by have := HC.out; omega, hadd, by rw [← HT.out]; exact hM2⟩)
                  clear HJO HJI HC hF2 hm2 hc2 hM2 hadd
                  go_wp2_with fail
                  go_roundw
                  case rel => exact ⟨u + 1, huW2, by go_num, HJ6⟩
                  case measure => simp [intOf] <;> omega
              · have HJ6 := hide (show EvJ W H r f0 f1 w mB T p (v + 1) 0 (64 * p + 8 * (v + 1)) wr from ⟨m, L, d, c, hF, hm, by omega, hj.endCol (by omega) (by rw [HX.out]; have := HUM.out; omega), by rw [← HT.out]; exact hM⟩)
                clear hF hm hc hj hM HJ5
                go_wp2_with fail
                go_roundw
                case rel => exact ⟨v + 1, hvH2, by go_num, HJ6⟩
                case measure => simp [intOf] <;> omega
          · have HJ6 := hide (show EvJ W H r f0 f1 w mB T (p + 1) 0 0 (64 * (p + 1)) wr from ⟨m, L, d, c, hF, hm, by omega, hj.endRow (by rw [HY.out]; have := HVM.out; omega), by rw [← HT.out]; exact hM⟩)
            clear hF hm hc hj hM HJ3
            go_wp2_with fail
            go_roundw
            case rel => exact ⟨p + 1, hlt, by go_num, HJ6⟩
            case measure => simp [intOf] <;> omega
    · obtain rfl : p = N := by omega
      have hpp : ¬ ((p : Int) < p) := by omega
      obtain ⟨m, L, d, c, hF, hm, hc, hj, hM⟩ := HJ.out
      have hnear : NearE W H r f0 f1 L := JoinI.near (by rw [← HN.out]; exact hj)
      rw [← HT.out] at hM
      have HM := hide hM
      have a1 := (HM.out.blk_ 3 rfl).c 5 rfl
      have lta := (HM.out.blk_ 3 rfl).lt
      have HF := hide hF
      have HMm := hide hm
      have HNR := hide hnear
      clear hF hm hnear
      clear hc hj hM HJ
      have hmm := @run_makeMap Try.prog
      go_upto_region 20 with fail
      clear hmm
      refine code_world fun w2 hw2 => ?_
      have hM2 := Mem.to (((HM.out.newMapAt Try.prog 142 ndL okNd wr.heap.size rfl).allocAt (wr.heap.size + 1) (by simp) #[.map (some wr.heap.size)] 143).allocAt (wr.heap.size + 2) (by simp) #[.slice none 0 0] 49) hw2
      clear hw2 a1 lta HM
      obtain ⟨mC, hmC⟩ : ∃ q, wr.heap.size = q := ⟨_, rfl⟩
      obtain ⟨pC, hpC⟩ : ∃ q, mC + 1 = q := ⟨_, rfl⟩
      obtain ⟨pD, hpD⟩ : ∃ q, pC + 1 = q := ⟨_, rfl⟩
      rw [show wr.heap.size + 2 = pD by omega, show wr.heap.size + 1 = pC by omega, hmC] at hM2
      simp only [hmC, hpC, hpD]
      clear hmC hpC hpD
      obtain ⟨R, hR⟩ : ∃ T : List Th, [.blk pB 102 #[.int .i64 gx, .int .i64 gy, .int .i64 gs, .int .i64 (W : Nat), .int .i64 (H : Nat), .slice (some ⟨bo1, 0, none⟩) K1 K1, .slice (some ⟨g1, 0, none⟩) p p], .blk pA 102 #[.int .i64 gx, .int .i64 gy, .int .i64 gs, .int .i64 (W : Nat), .int .i64 (H : Nat), .slice (some ⟨bo0, 0, none⟩) K0 K0, .slice (some ⟨g0, 0, none⟩) p p]] = T := ⟨_, rfl⟩
      have HPB := hide (show pA ≤ w.heap.size from by rw [HPA.out]; exact Nat.le_refl _)
      have HE0 := hide (show EvS L mB c pS pC mC pD pA m w R 0 0 w2 from ⟨[], 0, .slice none 0 0, evI_nil L, fun x hx => absurd hx List.not_mem_nil, Nat.le_refl _, Nat.le_refl _, by rw [← hR]; exact (hM2.nilRow pA 106 3).perm (perm6 _ _ _ _ _ _ _)⟩)
      have HR := hide hR
      have HM := hide hM2
      clear hR hM2
      have a5 := (HM.out.blk_ 6 rfl).c 5 rfl
      have lta := (HM.out.blk_ 6 rfl).lt
      go_wp2_with fail
      clear a5 lta HM
      go_loopw [103] (fun u wr => ∃ i : Nat, i ≤ K0 ∧ u = .int .i64 (i : Nat) ∧ Hid (EvS L mB c pS pC mC pD pA m w R i 0 wr)) (fun u _ => K0 - (intOf u).toNat)
      case atStart => exact ⟨0, Nat.zero_le _, rfl, HE0⟩
      case round =>
        obtain ⟨i, hiK, rfl, HE⟩ := hrel
        clear HE0
        obtain ⟨E, c2, v, hI, hk, hl, hc2, hM⟩ := HE.out
        by_cases hlt : i < K0
        · have hlt2 : (i : Int) < K0 := by omega
          have hkl : (keysE E).length = E.length := by unfold keysE; rw [List.length_map]
          have hfe := (find_ev m L d mB c pS pC mC c2 pD pA v (keysE E) (evCells E) (false, i) w wr _ HF.out (show i ≤ 1000000 by omega) HMm.out HPB.out (by omega) (by omega) hM).mono (fun e w' h => FindPost.found HPB.out h)
          unfold ndV at hfe
          dsimp only at hfe
          have HFE := hide hfe
          have HI0 := hide hI
          have HK0 := hide hk
          have HL0 := hide hl
          clear hfe hI hk hl
          clear hc2 hM hkl HE
          go_wp2_with fail
          refine HFE.out.mono ?_
          rintro e w3 hf
          obtain ⟨g, k, c3, cap, E', x, rfl, hx, hl', hnx, hM3, hback⟩ := foundF i hf HI0.out HK0.out HL0.out
          obtain ⟨xk, xf, xt, xe⟩ := x
          unfold thO at hM3
          obtain ⟨n, hn⟩ : ∃ n, E'.length = n := ⟨_, rfl⟩
          have hkn := (List.getElem?_eq_some_iff.1 hx).1
          rw [hn] at hM3 hl' hkn
          obtain ⟨nx, hnxe⟩ : ∃ n, xe.2.1.length = n := ⟨_, rfl⟩
          dsimp only at hnx
          unfold thF at hM3
          dsimp only at hM3
          rw [hnxe] at hM3 hnx
          obtain ⟨Af, cf, rfl⟩ := own_shape2 (hM3.row_ 0 rfl)
          have HM := hide hM3
          have HBK := hide hback
          have HNe := hide hn
          have HNX := hide hnxe
          have HXE := hide hx
          clear hM3 hback hn hnxe hx
          clear HFE HI0 HK0 HL0 hf
          obtain ⟨g', cur, e9, -, hb9, -, -, hc9⟩ := row_blk (HM.out.row_ 6 rfl) (by omega)
          have e8 : g = g' := congrArg (fun o : Option Addr => (o.getD ⟨0, 0, none⟩).block) e9
          subst e8
          have f0 := hb9.c (k * 3 + 1) (hc9 (k * 3 + 1) _ (evCells_get HXE.out).2.1)
          have ltg := hb9.lt
          clear hb9 hc9 e9
          obtain ⟨i0, hi0, hy0, hy1, hy2⟩ := info_parts intInfoT
          have Hi := hide hi0
          have Hz0 := hide hy0
          have Hz1 := hide hy1
          have Hz2 := hide hy2
          clear hi0 hy0 hy1 hy2
          have hbaseM : pA ≤ w3.heap.size := Nat.le_trans HPB.out HM.out.size
          have hownM := Mem.row_ HM.out 0 rfl
          
          go_wp2_with (at_builtin; refine wpList_append_own_at _ rfl (.tmp 114) (.tmp 116) _ rfl _ 3 i0 _ 1 8 Try.underlying33 Hi.out Hz0.out Hz1.out Hz2.out rfl (by decide) _ nx (numsV xe.2.1) rfl (hownM.alloc _) ⟨w3.heap.size, 0, none⟩ 1 1 [.int .i64 (i : Nat)] rfl rfl ?q1c1 (by intro u hu; simp only [List.mem_cons, List.not_mem_nil, or_false] at hu; rcases hu with rfl <;> rfl) ?q1c3 ?q1c4 ?q1c5 ?_)
          try case q1c1 => exact new_cellsQ w3 _ [.int .i64 (i : Nat)]
          case q1c3 => unfold maxLen; omega
          case q1c4 => omega
          case q1c5 => first | omega | (simp; omega)
          intro vA wA hown2 hgr2 _ hat2
          have HMn := HM.out.grow 0 rfl _ hgr2 hown2 hat2
          replace HM := hide HMn
          clear HMn hown2 hgr2 hat2 hownM hbaseM
          clear f0 ltg
          obtain ⟨A7, c7, rfl⟩ := own_shape2 (HM.out.row_ 0 rfl)
          obtain ⟨g', cur, e9, -, hb9, -, -, hc9⟩ := row_blk (HM.out.row_ 6 rfl) (by omega)
          have e8 : g = g' := congrArg (fun o : Option Addr => (o.getD ⟨0, 0, none⟩).block) e9
          subst e8
          have f0 := hb9.c (k * 3 + 1) (hc9 (k * 3 + 1) _ (evCells_get HXE.out).2.1)
          have ff0 := hb9.frozen (k * 3 + 1)
          have ltg := hb9.lt
          clear hb9 hc9 e9
          have hM9 := HM.out.setRow 6 rfl (k * 3 + 1) (.slice A7 (nx + 1) c7)
          simp only [List.set_cons_zero, List.set_cons_succ] at hM9
          have HE9 := hide (HBK.out (.slice A7 (nx + 1) c7) _ (by
            unfold thO thF
            dsimp only
            rw [HNe.out, show (xe.2.1 ++ [i]).length = nx + 1 by rw [List.length_append, HNX.out]; rfl, show numsV (xe.2.1 ++ [i]) = numsV xe.2.1 ++ [.int .i64 (i : Nat)] by unfold numsV; rw [List.map_append]; rfl]
            exact hM9))
          clear hM9 HM HBK
          go_wp2_with fail
          go_roundw
          case rel => exact ⟨i + 1, hlt, by go_num, HE9⟩
          case measure => simp [intOf] <;> omega
        · have hii : i = K0 := by omega
          have hnlt : ¬ ((i : Int) < K0) := by omega
          have HE5 := hide (show EvS L mB c pS pC mC pD pA m w R K0 0 wr from by rw [← hii]; exact HE.out)
          have hMR := HE.out.rest
          rw [← HR.out] at hMR
          have a5 := (hMR.blk_ 0 rfl).c 5 rfl
          have lta := (hMR.blk_ 0 rfl).lt
          clear hI hk hl hc2 hM hMR HE
          go_wp2_with fail
          clear a5 lta hii hnlt
          have HE0 := HE5
          clear HE5
          go_loopw [124] (fun u wr => ∃ i : Nat, i ≤ K1 ∧ u = .int .i64 (i : Nat) ∧ Hid (EvS L mB c pS pC mC pD pA m w R K0 i wr)) (fun u _ => K1 - (intOf u).toNat)
          case atStart => exact ⟨0, Nat.zero_le _, rfl, HE0⟩
          case round =>
            obtain ⟨i, hiK, rfl, HE⟩ := hrel
            clear HE0
            obtain ⟨E, c2, v, hI, hk, hl, hc2, hM⟩ := HE.out
            by_cases hlt : i < K1
            · have hlt2 : (i : Int) < K1 := by omega
              have hkl : (keysE E).length = E.length := by unfold keysE; rw [List.length_map]
              have hfe := (find_ev m L d mB c pS pC mC c2 pD pA v (keysE E) (evCells E) (true, i) w wr _ HF.out (show i ≤ 1000000 by omega) HMm.out HPB.out (by omega) (by omega) hM).mono (fun e w' h => FindPost.found HPB.out h)
              unfold ndV at hfe
              dsimp only at hfe
              have HFE := hide hfe
              have HI0 := hide hI
              have HK0 := hide hk
              have HL0 := hide hl
              clear hfe hI hk hl
              clear hc2 hM hkl HE
              go_wp2_with fail
              refine HFE.out.mono ?_
              rintro e w3 hf
              obtain ⟨g, k, c3, cap, E', x, rfl, hx, hl', hnx, hM3, hback⟩ := foundT K0 i hf HI0.out HK0.out HL0.out
              obtain ⟨xk, xf, xt, xe⟩ := x
              unfold thO at hM3
              obtain ⟨n, hn⟩ : ∃ n, E'.length = n := ⟨_, rfl⟩
              have hkn := (List.getElem?_eq_some_iff.1 hx).1
              rw [hn] at hM3 hl' hkn
              obtain ⟨nx, hnxe⟩ : ∃ n, xe.2.2.length = n := ⟨_, rfl⟩
              dsimp only at hnx
              unfold thT at hM3
              dsimp only at hM3
              rw [hnxe] at hM3 hnx
              obtain ⟨Af, cf, rfl⟩ := own_shape2 (hM3.row_ 0 rfl)
              have HM := hide hM3
              have HBK := hide hback
              have HNe := hide hn
              have HNX := hide hnxe
              have HXE := hide hx
              clear hM3 hback hn hnxe hx
              clear HFE HI0 HK0 HL0 hf
              obtain ⟨g', cur, e9, -, hb9, -, -, hc9⟩ := row_blk (HM.out.row_ 6 rfl) (by omega)
              have e8 : g = g' := congrArg (fun o : Option Addr => (o.getD ⟨0, 0, none⟩).block) e9
              subst e8
              have f0 := hb9.c (k * 3 + 2) (hc9 (k * 3 + 2) _ (evCells_get HXE.out).2.2)
              have ltg := hb9.lt
              clear hb9 hc9 e9
              obtain ⟨i0, hi0, hy0, hy1, hy2⟩ := info_parts intInfoT
              have Hi := hide hi0
              have Hz0 := hide hy0
              have Hz1 := hide hy1
              have Hz2 := hide hy2
              clear hi0 hy0 hy1 hy2
              have hbaseM : pA ≤ w3.heap.size := Nat.le_trans HPB.out HM.out.size
              have hownM := Mem.row_ HM.out 0 rfl
              
              go_wp2_with (at_builtin; refine wpList_append_own_at _ rfl (.tmp 135) (.tmp 137) _ rfl _ 3 i0 _ 1 8 Try.underlying33 Hi.out Hz0.out Hz1.out Hz2.out rfl (by decide) _ nx (numsV xe.2.2) rfl (hownM.alloc _) ⟨w3.heap.size, 0, none⟩ 1 1 [.int .i64 (i : Nat)] rfl rfl ?q2c1 (by intro u hu; simp only [List.mem_cons, List.not_mem_nil, or_false] at hu; rcases hu with rfl <;> rfl) ?q2c3 ?q2c4 ?q2c5 ?_)
              try case q2c1 => exact new_cellsQ w3 _ [.int .i64 (i : Nat)]
              case q2c3 => unfold maxLen; omega
              case q2c4 => omega
              case q2c5 => first | omega | (simp; omega)
              intro vA wA hown2 hgr2 _ hat2
              have HMn := HM.out.grow 0 rfl _ hgr2 hown2 hat2
              replace HM := hide HMn
              clear HMn hown2 hgr2 hat2 hownM hbaseM
              clear f0 ltg
              obtain ⟨A7, c7, rfl⟩ := own_shape2 (HM.out.row_ 0 rfl)
              obtain ⟨g', cur, e9, -, hb9, -, -, hc9⟩ := row_blk (HM.out.row_ 6 rfl) (by omega)
              have e8 : g = g' := congrArg (fun o : Option Addr => (o.getD ⟨0, 0, none⟩).block) e9
              subst e8
              have f0 := hb9.c (k * 3 + 2) (hc9 (k * 3 + 2) _ (evCells_get HXE.out).2.2)
              have ff0 := hb9.frozen (k * 3 + 2)
              have ltg := hb9.lt
              clear hb9 hc9 e9
              have hM9 := HM.out.setRow 6 rfl (k * 3 + 2) (.slice A7 (nx + 1) c7)
              simp only [List.set_cons_zero, List.set_cons_succ] at hM9
              have HE9 := hide (HBK.out (.slice A7 (nx + 1) c7) _ (by
                unfold thO thT
                dsimp only
                rw [HNe.out, show (xe.2.2 ++ [i]).length = nx + 1 by rw [List.length_append, HNX.out]; rfl, show numsV (xe.2.2 ++ [i]) = numsV xe.2.2 ++ [.int .i64 (i : Nat)] by unfold numsV; rw [List.map_append]; rfl]
                exact hM9))
              clear hM9 HM HBK
              go_wp2_with fail
              go_roundw
              case rel => exact ⟨i + 1, hlt, by go_num, HE9⟩
              case measure => simp [intOf] <;> omega
            · have hii : i = K1 := by omega
              have hnlt : ¬ ((i : Int) < K1) := by omega
              obtain ⟨E, c2, v, hI, hk, hl, hc2, hM⟩ := HE.out
              unfold thE at hM
              rw [hii] at hI hl
              have hkl : (keysE E).length = E.length := by unfold keysE; rw [List.length_map]
              rw [hkl] at hM
              obtain ⟨n, hn⟩ : ∃ n, E.length = n := ⟨_, rfl⟩
              have hM6 := hM.sub (.cons _ (.cons _ (.cons _ (.cons _ (.cons_cons _ (.cons_cons _ (List.Sublist.append (List.Sublist.refl _) (List.sublist_append_left _ R))))))))
              rw [hn] at hM6 hl
              obtain ⟨Ao, co, rfl⟩ := own_shape2 (hM6.row_ 1 rfl)
              have hK6 := hide (show EvK L K0 K1 pD pA n (.slice Ao n co) w 0 wr from ⟨E, hn, hI, fun q x hq => absurd hq (Nat.not_lt_zero _), hM6⟩)
              have o0 := (hM6.blk_ 0 rfl).c 0 rfl
              have lto := (hM6.blk_ 0 rfl).lt
              have hn64 : n ≤ 128 := by omega
              have HL := hide hl
              clear hI hk hl hc2 hM hM6 HE hkl hn hii
              go_wp2_with fail
              clear o0 lto
              go_loopw [144] (fun u wr => ∃ k : Nat, k ≤ n ∧ u = .int .i64 (k : Nat) ∧ Hid (EvK L K0 K1 pD pA n (.slice Ao n co) w k wr)) (fun u _ => n - (intOf u).toNat)
              case atStart => exact ⟨0, Nat.zero_le _, rfl, hK6⟩
              case round =>
                obtain ⟨k, hkn, rfl, HK⟩ := hrel
                clear hK6
                obtain ⟨E, hn, hI, hkd, hM⟩ := HK.out
                by_cases hlt : k < n
                · have hlt2 : (k : Int) < n := by omega
                  obtain ⟨x, hx⟩ : ∃ x, E[k]? = some x := ⟨_, List.getElem?_eq_getElem (by omega)⟩
                  obtain ⟨xk, xf, xt, xe⟩ := x
                  have hxm := List.mem_of_getElem? hx
                  have hrf : wr.ownsRow pA 3 1 xf xe.2.1.length (numsV xe.2.1) := hM.all (thF pA ⟨xk, xf, xt, xe⟩) (List.mem_cons_of_mem _ (List.mem_cons_of_mem _ (List.mem_append_left _ (List.mem_map_of_mem hxm))))
                  have hrt : wr.ownsRow pA 3 1 xt xe.2.2.length (numsV xe.2.2) := hM.all (thT pA ⟨xk, xf, xt, xe⟩) (List.mem_cons_of_mem _ (List.mem_cons_of_mem _ (List.mem_append_right _ (List.mem_map_of_mem hxm))))
                  obtain ⟨Af, cf, rfl⟩ := own_shape2 hrf
                  obtain ⟨At, ct, rfl⟩ := own_shape2 hrt
                  have hlf : xe.2.1.length ≤ K0 := by
                    rw [hI.fr xe (List.mem_map_of_mem hxm)]
                    exact Nat.le_trans (List.length_filter_le _ _) (by simp)
                  have hlt3 : xe.2.2.length ≤ K1 := by
                    rw [hI.to xe (List.mem_map_of_mem hxm)]
                    exact Nat.le_trans (List.length_filter_le _ _) (by simp)
                  obtain ⟨na, hna⟩ : ∃ q, xe.2.1.length = q := ⟨_, rfl⟩
                  obtain ⟨nb, hnb⟩ : ∃ q, xe.2.2.length = q := ⟨_, rfl⟩
                  rw [hna] at hlf
                  rw [hnb] at hlt3
                  simp only [hna, hnb] at hx
                  have hKI := hide (fun V => kind_any na nb V)
                  obtain ⟨g, cur, rfl, -, hb9, -, -, hc9⟩ := row_blk (hM.row_ 1 rfl) (by omega)
                  have f0 := hb9.c (k * 3) (hc9 (k * 3) _ (evCells_get hx).1)
                  have f1 := hb9.c (k * 3 + 1) (hc9 (k * 3 + 1) _ (evCells_get hx).2.1)
                  have f2 := hb9.c (k * 3 + 2) (hc9 (k * 3 + 2) _ (evCells_get hx).2.2)
                  have ltg := hb9.lt
                  have HXE := hide hx
                  have HI0 := hide hI
                  have HKD := hide hkd
                  have HNe := hide hn
                  have HM := hide hM
                  have HNA := hide hna
                  have HNB := hide hnb
                  clear hx hI hkd hn hM hna hnb
                  clear hb9 hc9 hrf hrt HK hxm
                  go_wp2_with fail
                  refine code_world fun w2 hW => ?_
                  have HMn := Mem.to (Mem.allocAt HM.out wr.heap.size rfl #[.int .i64 xk, .slice Af na cf, .slice At nb ct] 106) hW
                  have LW : Later wr w2 := by rw [hW]; exact ((Below.refl _ _).alloc (Nat.le_refl _) _)
                  have szW : w2.heap.size = wr.heap.size + 1 := by rw [hW]; simp
                  clear hW
                  replace HM := hide HMn
                  clear HMn LW
                  clear szW f0 f1 f2 ltg
                  have be : Blk w2 wr.heap.size 106 #[.int .i64 xk, .slice Af na cf, .slice At nb ct] := HM.out.get 0 rfl
                  have lte := be.lt
                  have e0 := be.c 0 rfl
                  have e1 := be.c 1 rfl
                  have e2 := be.c 2 rfl
                  have bo : Blk w2 pD 49 #[.slice (some ⟨g, 0, none⟩) n co] := HM.out.get 1 rfl
                  have lto := bo.lt
                  have o0 := bo.c 0 rfl
                  refine wp_region_cut 11 (by kernel_rfl) (by simp only [List.take_succ_cons, List.take_zero]; exact rfl) (by simp only [List.drop_succ_cons, List.drop_zero]; exact rfl) (by kernel_rfl) ?_
                  apply any_region_J (w0 := w2) [[], [], [], [], [], [], [], [], [], [], []] [true, true, true, true, true, true, true, true, true, true, true] [] (fun ixq y => match ixq with  | _ => undef) (fun ixq x F wq => match ixq with  | _ => True) (fun a x => a) (by kernel_rfl) (fun _ => rfl) [157] (by kernel_rfl)
                  · intro x D hD
                    have hne := hD.some
                    have k0 := liftB hD e1 (by first | assumption | omega)
                    have k1 := liftB hD e2 (by first | assumption | omega)
                    have k2 := liftB hD o0 (by first | assumption | omega)
                    simp only [takeOps, Act.put, List.setIfInBounds_toArray, List.set_cons_succ, List.set_cons_zero]
                    repeat (go_big_quiet_step ((go_at_call 60; exact calls_later hD _ (hKI.out _))))
                    exact wpQuiet_nil rfl
                  · intro d hd x x'
                    simp only [List.mem_cons, List.not_mem_nil, or_false] at hd
                    rcases hd with rfl
                    all_goals rfl
                  · exact trivial
                  · exact trivial
                  intro xx w3 F hL hlv1 hap1
                  clear hap1
                  clear hlv1
                  refine ⟨rfl, ?_⟩
                  replace HM := hide (HM.out.later hL)
                  clear hL be lte e0 e1 e2 bo lto o0
                  obtain ⟨g', cur', e9, -, hb9, -, -, hc9⟩ := row_blk (HM.out.row_ 2 rfl) (by omega)
                  have e8 : g = g' := congrArg (fun o : Option Addr => (o.getD ⟨0, 0, none⟩).block) e9
                  subst e8
                  have f0 := hb9.c (k * 3) (hc9 (k * 3) _ (evCells_get HXE.out).1)
                  have ff0 := hb9.frozen (k * 3)
                  have ltg := hb9.lt
                  clear hb9 hc9 e9
                  go_upto_region 36 with fail
                  refine code_world fun w4 hw4 => ?_
                  have hM4 := (Mem.to (HM.out.setRow 2 rfl (k * 3) (.int .i64 (kindZ na nb))) hw4).tail
                  simp only [List.set_cons_zero, List.set_cons_succ] at hM4
                  have hK7 := hide (show EvK L K0 K1 pD pA n (.slice (some ⟨g, 0, none⟩) n co) w (k + 1) w4 from by
                    refine ⟨E.set k ⟨kindZ na nb, .slice Af na cf, .slice At nb ct, xe⟩, by rw [List.length_set]; exact HNe.out, ?_, fun q x hq hqx => ?_, ?_⟩
                    · rw [mapS_set (f := Evm.e) (y := ⟨kindZ na nb, .slice Af na cf, .slice At nb ct, xe⟩) HXE.out rfl]
                      exact HI0.out
                    · by_cases e : k = q
                      · subst e
                        rw [List.getElem?_set_self (List.getElem?_eq_some_iff.1 HXE.out).1] at hqx
                        have := Option.some.inj hqx
                        subst this
                        dsimp only
                        rw [HNA.out, HNB.out]
                      · rw [List.getElem?_set_ne e] at hqx
                        exact HKD.out q x (by omega) hqx
                    · rw [mapS_set (f := thF pA) (y := ⟨kindZ na nb, .slice Af na cf, .slice At nb ct, xe⟩) HXE.out rfl, mapS_set (f := thT pA) (y := ⟨kindZ na nb, .slice Af na cf, .slice At nb ct, xe⟩) HXE.out rfl]
                      have he := evCells_setK (kindZ na nb) HXE.out
                      rw [he] at hM4
                      exact hM4)
                  clear HM hM4 hw4 f0 ff0 ltg
                  go_wp2_with fail
                  go_roundw
                  case rel => exact ⟨k + 1, hlt, by go_num, hK7⟩
                  case measure => simp [intOf] <;> omega
                · have hkk : k = n := by omega
                  have hnlt : ¬ ((k : Int) < n) := by omega
                  have o0 := (hM.blk_ 0 rfl).c 0 rfl
                  have lto := (hM.blk_ 0 rfl).lt
                  have HM := hide (hM.drop 0 rfl)
                  have HKD := hide (fun x (h : x ∈ E) => (List.mem_iff_getElem?.1 h).elim fun q hq => hkd q x (by have := (List.getElem?_eq_some_iff.1 hq).1; omega) hq)
                  have HI0 := hide hI
                  have HNe := hide hn
                  clear hI hn
                  clear hM HK hkd
                  go_wp2
                  rw [← HPP.out]
                  refine ⟨.slice Ao n co, E, L, rfl, ?_, HI0.out, HNR.out, HKD.out, by rw [HNe.out]; have := HL.out; omega⟩
                  rw [HNe.out, HPA.out]
                  exact HM.out
end Go.Proofs.Ytidbjidcjmbnlaa
