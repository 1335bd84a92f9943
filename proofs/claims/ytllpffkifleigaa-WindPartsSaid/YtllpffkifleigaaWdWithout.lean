/-
  Whether the sights of a set, and the sights but those of a set, leave no wind: the searches' questions.
  Front: where sights divide into two parts, each of which agrees.
  Blame and Without: sights that are in conflict, and sights without which the others agree.
  The law's small functions: spans, sights, lists of numbers, the chapter's examples as they lie in memory.
  Without: sights without which the others agree.
-/
import Derived.Test.YtllpffkifleigaaWdCheck
import Derived.Test.YtllpffkifleigaaWdFirst
import Derived.Test.YtllpffkifleigaaRegJ
import Derived.Test.YtllpffkifleigaaWdAgree
import Derived.Test.YtllpffkifleigaaRegionCell
import Derived.Test.YtllpffkifleigaaFewMath
set_option linter.unusedSimpArgs false
set_option linter.unusedVariables false
section
namespace Go.Proofs.Ytllpffkifleigaa
open Go Go.RowKit

theorem empty_empN {l : List Sgt} {w : Int} : decide ((narL skyL l w).length = 0) = empB l w := by
  unfold empB
  cases narL skyL l w <;> rfl
theorem narrow_next (pre : List Sgt) (s : Sgt) (A : Option Addr) (c : Nat) (w : World) (hlen : pre.length ≤ 400) (hp : ∀ s ∈ pre, SgtOk s) (hs : SgtOk s) (ha : AreaAt w w.heap.size A (narL skyL pre 0)) :
    Calls Try.prog 74 #[.agg #[.slice A (narL skyL pre 0).length c], sgC s, .int .i64 0] w (AreaPost w (narL skyL (pre ++ [s]) 0)) := by
  rw [narL_app]
  exact narrow_any A (narL skyL pre 0) c s 0 w (by have := narL_len (l := pre) (w := 0); omega) (nar_ok _ 0) ha (nar_allok hp (by omega) (by omega)) hs (by omega) (by omega)
theorem blk_far2 {W : World} {g g' : Nat} {t t' : TypeId} {cs cs' : Array Value} (h : Blk W g t cs) (h' : Blk W g' t' cs') (ht : t ≠ t') (o : Nat) (v : Value) : Blk (W.setCell ⟨g', o, none⟩ v) g t cs := h.far (p := ⟨g', o, none⟩) (fun e => by
  have e' : g = g' := e
  subst e'
  have h1 : W.heap[g]? = some (.cells cs t (0, 0)) := h
  have h2 : W.heap[g]? = some (.cells cs' t' (0, 0)) := h'
  rw [h1] at h2
  injection h2 with h2
  injection h2 with _ h2 _
  exact ht h2) v
theorem pick_take {l : List Sgt} {t : List Nat} {k : Nat} (h : k < t.length) : pick l (t.take (k + 1)) = pick l (t.take k) ++ [l.getD (t.getD k 0) sg0] := by
  have e : t.getD k 0 = t[k] := by rw [List.getD_eq_getElem?_getD, List.getElem?_eq_getElem h]; rfl
  unfold pick
  rw [List.take_add_one, List.getElem?_eq_getElem h, List.map_append, e]
  rfl
theorem pick_ok {l : List Sgt} {t : List Nat} (hl : ∀ s ∈ l, SgtOk s) (ht : IsSet l.length 0 t) (k : Nat) : ∀ s ∈ pick l (t.take k), SgtOk s := fun s hs => by
  obtain ⟨i, hi, rfl⟩ := mem_pick.1 hs
  exact hl _ (getD_mem (ht.mem (List.mem_of_mem_take hi)).2)
set_option maxHeartbeats 1000000 in
set_option maxRecDepth 100000 in
theorem blame1_any (A0 : Option Addr) (l : List Sgt) (cl bl : Nat) (A : Option Addr) (t : List Nat) (c : Nat) (w : World) (hlen : l.length ≤ 360) (hl : ∀ s ∈ l, SgtOk s) (hBl : Blk w bl 25 #[.slice A0 l.length cl]) (hs : SgtsAt w w.heap.size A0 l)
    (ht : IsSet l.length 0 t) (htl : t.length ≤ 3) (hset : SetM w A t) :
    Calls Try.prog 73 #[.slice A t.length c, .pointer (some ⟨bl, 0, none⟩)] w fun e w' => e = .returned (.bool (empB (pick l t) 0)) ∧ Below w.heap.size w w' := by
  have hN := fun k (hk : k < t.length) (W : World) (A' : Option Addr) (c' : Nat) (hA : AreaH W A' (narL skyL (pick l (t.take k)) 0)) =>
    narrow_next (pick l (t.take k)) (l.getD (t.getD k 0) sg0) A' c' W (by unfold pick; simp; omega) (pick_ok hl ht k) (hl _ (getD_mem (ht.mem (by rw [List.getD_eq_getElem?_getD, List.getElem?_eq_getElem hk]; exact List.getElem_mem hk)).2)) hA
  have hti : ∀ k, k < t.length → t.getD k 0 < l.length := fun k hk => (ht.mem (by rw [List.getD_eq_getElem?_getD, List.getElem?_eq_getElem hk]; exact List.getElem_mem hk)).2
  have hE : empB (pick l t) 0 = decide ((narL skyL (pick l (t.take t.length)) 0).length = 0) := by rw [show decide ((narL skyL (pick l (t.take t.length)) 0).length = 0) = empB (pick l (t.take t.length)) 0 from empty_empN, List.take_length]
  have h00 : skyL = narL skyL (pick l (t.take 0)) 0 := by rw [List.take_zero]; rfl
  rw [hE]
  unfold sgC at hN
  obtain ⟨n, hn⟩ : ∃ n, t.length = n := ⟨_, rfl⟩
  obtain ⟨K, hK⟩ : ∃ K : Nat → List Bd, K = fun k => narL skyL (pick l (t.take k)) 0 := ⟨_, rfl⟩
  have hKe : ∀ k, narL skyL (pick l (t.take k)) 0 = K k := fun k => by rw [hK]
  have hKs : ∀ k, k < t.length → narL skyL (pick l (t.take k) ++ [l.getD (t.getD k 0) sg0]) 0 = K (k + 1) := fun k hk => by rw [← pick_take hk, hK]
  simp only [hKe] at *
  have hsc : SgtsAt w w.heap.size A0 l := hs
  have hst := hset
  unfold SgtsAt at hsc
  unfold SetM at hst
  rw [hn] at hN hKs hst htl hti ⊢
  have hm2 : (n : Int) ≤ 3 := by omega
  obtain ⟨L, hL⟩ : ∃ n, l.length = n := ⟨_, rfl⟩
  rw [hL] at hBl hsc hti hlen
  have hsky := sky_any
  have HN := hide hN
  have HKS := hide hKs
  have HSC := hide hsc
  have HST := hide hst
  have HTI := hide hti
  have H00 := hide h00
  have HSKY := hide hsky
  have HBL := hide hBl
  clear hN hKs hsc hst hti h00 hsky hBl
  clear hs hK hKe hE hset hl ht hn
  go_enter Try.func73, Try.ntmps73
  have HM := hide (Mem.start w)
  go_wp2_with fail
  refine (HSKY.out _).mono ?_
  rintro e w3 ⟨A1, c1, rfl, hA1, hb⟩
  replace HM := hide (HM.out.later hb)
  replace HBL := hide (blk_later HBL.out hb)
  clear hb
  have HA := hide (show AreaH w3 A1 skyL from hA1)
  clear hA1
  go_wp2_with fail
  refine code_world fun w4 hW => ?_
  have HMn := Mem.to (Mem.allocAt HM.out w3.heap.size rfl #[.slice A1 4 c1] 128) hW
  have LW : Later w3 w4 := by rw [hW]; exact ((Below.refl _ _).alloc (Nat.le_refl _) _)
  have szW : w4.heap.size = w3.heap.size + 1 := by rw [hW]; simp
  clear hW
  replace HA := hide (HA.out.later LW)
  replace HBL := hide (blk_later HBL.out LW)
  replace HM := hide HMn
  clear HMn LW
  clear szW
  generalize hga : w3.heap.size = ga at HM ⊢
  rw [H00.out] at HA
  have HK0 := hide (show 4 = (K 0).length by rw [← H00.out]; rfl)
  go_wp2_with fail
  go_loopw [10] (fun i wr => ∃ (k : Nat) (A' : Option Addr) (c' : Nat), k ≤ n ∧ i = .int .i64 k ∧ AreaH wr A' (K k) ∧ Blk wr bl 25 #[.slice A0 L cl] ∧ Mem w [.blk ga 128 #[.slice A' (K k).length c']] wr) (fun i _ => n - (intOf i).toNat)
  case atStart => exact ⟨0, A1, c1, by omega, rfl, HA.out, HBL.out, by rw [← HK0.out]; exact HM.out⟩
  case round =>
    obtain ⟨k, A', c', hk, rfl, hA, hbl, hM⟩ := hrel
    clear HM HA HBL
    have HM := hide hM
    have HA := hide hA
    have HBL := hide hbl
    clear hM hA hbl
    by_cases hlt : k < n
    · have hlt2 : (k : Int) < n := by omega
      obtain ⟨bs, cs, rfl, hbs, hcs⟩ := HST.out (by omega)
      have hts := hcs k hlt
      have hbs2 := blk_belowN hbs HM.out.below hbs.lt
      have t0 := hbs2.c k hts
      have ltt := hbs2.lt
      have htk := HTI.out k hlt
      obtain ⟨b, off, rfl, hb0, hc⟩ := HSC.out (by omega)
      have hc1 := hc _ htk
      have c1' := HN.out k hlt
      have hs1 := HKS.out k hlt
      obtain ⟨tk, htk0⟩ : ∃ x, t.getD k 0 = x := ⟨_, rfl⟩
      rw [htk0] at hc1 c1' hs1 t0 htk
      have htk2 : (tk : Int) < L := by omega
      obtain ⟨X, hX⟩ : ∃ X, l.getD tk sg0 = X := ⟨_, rfl⟩
      rw [hX] at hc1 c1' hs1
      rw [← HM.out.below.cell hb0, ← HM.out.below.cell hb0, ← HM.out.below.cell hb0, ← HM.out.below.cell hb0, ← HM.out.below.cell hb0] at hc1
      have ltb : b < wr.heap.size := Nat.lt_of_lt_of_le hb0 HM.out.size
      obtain ⟨sx, sy, sl, slo, shi⟩ := X
      obtain ⟨q0, q1, q2, q3, q4⟩ := hc1
      simp only at q0 q1 q2 q3 q4 c1'
      rw [hs1] at c1'
      obtain ⟨Y, hY⟩ : ∃ Y, K k = Y := ⟨_, rfl⟩
      rw [hY] at HA HM c1'
      obtain ⟨nk, hnk⟩ : ∃ n, Y.length = n := ⟨_, rfl⟩
      rw [hnk] at HM c1'
      have C1 := hide c1'
      clear c1'
      clear hc hX hs1 hcs hts hbs htk0 hbs2
      have bz : Blk wr ga 128 #[.slice A' nk c'] := HM.out.get 0 rfl
      have ltz := bz.lt
      have z0 := bz.c 0 rfl
      have y0 := HBL.out.c 0 rfl
      have lty := HBL.out.lt
      go_wp2_with fail
      refine wp_region_cut 5 (by kernel_rfl) (by simp only [List.take_succ_cons, List.take_zero]; exact rfl) (by simp only [List.drop_succ_cons, List.drop_zero]; exact rfl) (by kernel_rfl) ?_
      apply any_region_J (w0 := wr) [[], [], [], [], []] [true, true, true, true, true] [] (fun ixq y => match ixq with  | _ => undef) (fun ixq x F wq => match ixq with  | _ => True) (fun a x => a) (by kernel_rfl) (fun _ => rfl) [] (by kernel_rfl)
      · intro x D hD
        have hne := hD.some
        have k0 := liftB hD z0 (by first | assumption | omega)
        have k1 := liftB hD y0 (by first | assumption | omega)
        have k2 := liftB hD q0 (by first | assumption | omega)
        have k3 := liftB hD q1 (by first | assumption | omega)
        have k4 := liftB hD q2 (by first | assumption | omega)
        have k5 := liftB hD q3 (by first | assumption | omega)
        have k6 := liftB hD q4 (by first | assumption | omega)
        simp only [takeOps, Act.put, List.setIfInBounds_toArray, List.set_cons_succ, List.set_cons_zero]
        repeat (go_big_quiet_step (fail))
        exact wpQuiet_nil rfl
      · exact fun _ h => absurd h (by simp)
      · exact trivial
      · exact trivial
      intro xx w5 F hL hlv1 hap1
      clear hap1
      clear hlv1
      refine ⟨rfl, ?_⟩
      clear q0 q1 q2 q3 q4 ltb t0 ltt
      replace HM := hide (HM.out.later hL)
      replace HA := hide (HA.out.later hL)
      replace HBL := hide (blk_later HBL.out hL)
      clear hL bz ltz z0 y0 lty
      go_wp2_with fail
      refine (C1.out _ A' c' HA.out).mono ?_
      rintro e w6 ⟨A2, c2, rfl, hA2, hb⟩
      replace HM := hide (HM.out.later hb)
      replace HA := hide (HA.out.later hb)
      replace HBL := hide (blk_later HBL.out hb)
      clear hb
      clear HA
      have HA2 := hide (show AreaH w6 A2 (K (k + 1)) from hA2)
      clear hA2
      have bz : Blk w6 ga 128 #[.slice A' nk c'] := HM.out.get 0 rfl
      have ltz := bz.lt
      have z0 := bz.c 0 rfl
      have fz0 := bz.frozen 0
      have hbl := blk_far2 HBL.out (HM.out.get 0 rfl) (by decide) 0 (.slice A2 (K (k + 1)).length c2)
      have HBL2 := hide hbl
      clear hbl
      go_wp2_with fail
      go_roundw
      case rel => exact ⟨k + 1, A2, c2, hlt, by go_num, HA2.out.set (HM.out.get 0 rfl) 0 _, HBL2.out, HM.out.set_ 0 rfl 0 (.slice A2 (K (k + 1)).length c2) rfl⟩
      case measure => simp [intOf] <;> omega
    · obtain rfl : k = n := by omega
      have hkk : ¬ ((k : Int) < k) := by omega
      obtain ⟨nk, hnk⟩ : ∃ m, (K k).length = m := ⟨_, rfl⟩
      rw [hnk] at HM
      have Hnk := hide hnk
      clear hnk
      have bz : Blk wr ga 128 #[.slice A' nk c'] := HM.out.get 0 rfl
      have ltz := bz.lt
      have z0 := bz.c 0 rfl
      go_wp2_with fail
      refine (empty_any A' nk c' _).mono ?_
      rintro e w5 ⟨rfl, hb⟩
      replace HM := hide (HM.out.later hb)
      replace HA := hide (HA.out.later hb)
      replace HBL := hide (blk_later HBL.out hb)
      clear hb bz ltz z0
      go_wp2
      go_ret
      exact ⟨by rw [Hnk.out]; rfl, HM.out.below⟩
theorem contains_any (A : Option Addr) (t : List Nat) (c : Nat) (i : Nat) (w : World) (hs : SetM w A t) (hn : t.length ≤ 400) :
    Calls Try.prog 79 #[.slice A t.length c, .int .i64 (i : Nat)] w fun e w' => e = .returned (.bool (t.contains i)) ∧ w' = w := by
  by_cases h0 : t.length = 0
  · have ht : t = [] := List.eq_nil_of_length_eq_zero h0
    subst ht
    exact Try.slices_Contains_int_empty A c i w
  · obtain ⟨b, cs, rfl, hb, hc⟩ := hs (by omega)
    refine (Try.slices_Contains_int b 0 t.length c (List.map (fun j : Nat => (j : Int)) t) i w (by simp) (by omega) (fun j hj => ?_)).mono ?_
    · have hj' : j < t.length := by simpa using hj
      rw [Nat.zero_add, List.getD_eq_getElem?_getD, List.getElem?_map, List.getElem?_eq_getElem hj']
      have := hc j hj'
      rw [List.getD_eq_getElem?_getD, List.getElem?_eq_getElem hj'] at this
      exact hb.c j this
    · rintro e w' ⟨rfl, hw⟩
      refine ⟨?_, hw⟩
      rw [List.take_of_length_le (by simp)]
      congr 2
      rw [Bool.eq_iff_iff, List.contains_iff_mem, List.contains_iff_mem, List.mem_map]
      exact ⟨fun ⟨a, h, e⟩ => by rwa [show a = i by omega] at h, fun h => ⟨i, h, rfl⟩⟩
theorem selN_succ {l : List Sgt} {p : Nat → Bool} (i : Nat) : selN l p (i + 1) = if p i = true then selN l p i ++ [l.getD i sg0] else selN l p i := by
  rw [selN]
  cases p i <;> simp
theorem selN_ok {l : List Sgt} {p : Nat → Bool} (hl : ∀ s ∈ l, SgtOk s) {k : Nat} (hk : k ≤ l.length) : ∀ s ∈ selN l p k, SgtOk s := fun s hs => by
  obtain ⟨i, hi, -, rfl⟩ := mem_selN.1 hs
  exact hl _ (getD_mem (by omega))
theorem selN_len {l : List Sgt} {p : Nat → Bool} : ∀ k, (selN l p k).length ≤ k
  | 0 => Nat.le_refl _
  | k + 1 => by
    have := selN_len (l := l) (p := p) k
    rw [selN_succ]
    split <;> simp <;> omega
set_option maxHeartbeats 1000000 in
set_option maxRecDepth 100000 in
theorem without1_any (A0 : Option Addr) (l : List Sgt) (cl bl : Nat) (A : Option Addr) (t : List Nat) (c : Nat) (w : World) (hlen : l.length ≤ 360) (hl : ∀ s ∈ l, SgtOk s) (hBl : Blk w bl 25 #[.slice A0 l.length cl]) (hs : SgtsAt w w.heap.size A0 l)
    (htl : t.length ≤ 3) (hset : SetM w A t) :
    Calls Try.prog 78 #[.slice A t.length c, .pointer (some ⟨bl, 0, none⟩)] w fun e w' => e = .returned (.bool (!empB (outR l t) 0)) ∧ Below w.heap.size w w' := by
  have hN := fun k (hk : k < l.length) (W : World) (A' : Option Addr) (c' : Nat) (hA : AreaH W A' (narL skyL (selN l (fun i => !t.contains i) k) 0)) =>
    narrow_next (selN l (fun i => !t.contains i) k) (l.getD k sg0) A' c' W (by have := selN_len (l := l) (p := fun i => !t.contains i) k; omega) (selN_ok hl (by omega)) (hl _ (getD_mem hk)) hA
  have hC := fun k (W : World) (hb : Below w.heap.size w W) => contains_any A t c k W (hset.later hb) (by omega)
  have hE : (!empB (outR l t) 0) = !decide ((narL skyL (selN l (fun i => !t.contains i) l.length) 0).length = 0) := by rw [empty_empN]; rfl
  have h00 : skyL = narL skyL (selN l (fun i => !t.contains i) 0) 0 := rfl
  rw [hE]
  unfold sgC at hN
  obtain ⟨n, hn⟩ : ∃ n, l.length = n := ⟨_, rfl⟩
  obtain ⟨K, hK⟩ : ∃ K : Nat → List Bd, K = fun k => narL skyL (selN l (fun i => !t.contains i) k) 0 := ⟨_, rfl⟩
  have hKe : ∀ k, narL skyL (selN l (fun i => !t.contains i) k) 0 = K k := fun k => by rw [hK]
  have hKt : ∀ k, t.contains k = true → K (k + 1) = K k := fun k h => by rw [hK]; simp only; rw [selN_succ, if_neg (by simp only [h]; decide)]
  have hKf : ∀ k, t.contains k = false → narL skyL (selN l (fun i => !t.contains i) k ++ [l.getD k sg0]) 0 = K (k + 1) := fun k h => by rw [hK]; simp only; rw [selN_succ, if_pos (by simp only [h]; decide)]
  simp only [hKe] at *
  have hsc : SgtsAt w w.heap.size A0 l := hs
  unfold SgtsAt at hsc
  rw [hn] at hN hsc hBl hlen ⊢
  have hm2 : (n : Int) ≤ 360 := by omega
  have hsky := sky_any
  have HN := hide hN
  have HKT := hide hKt
  have HKF := hide hKf
  have HSC := hide hsc
  have HC := hide hC
  have H00 := hide h00
  have HSKY := hide hsky
  have HBL := hide hBl
  clear hN hKt hKf hsc hC h00 hsky hBl
  clear hs hK hKe hE hset hl hn
  generalize t.length = tn at *
  go_enter Try.func78, Try.ntmps78
  have HM := hide (Mem.start w)
  go_wp2_with fail
  refine (HSKY.out _).mono ?_
  rintro e w3 ⟨A1, c1, rfl, hA1, hb⟩
  replace HM := hide (HM.out.later hb)
  replace HBL := hide (blk_later HBL.out hb)
  clear hb
  have HA := hide (show AreaH w3 A1 skyL from hA1)
  clear hA1
  go_upto_region 2 with fail
  refine code_world fun w4 hW => ?_
  have HMn := Mem.to (Mem.allocAt HM.out w3.heap.size rfl #[.slice A1 4 c1] 128) hW
  have LW : Later w3 w4 := by rw [hW]; exact ((Below.refl _ _).alloc (Nat.le_refl _) _)
  have szW : w4.heap.size = w3.heap.size + 1 := by rw [hW]; simp
  clear hW
  replace HA := hide (HA.out.later LW)
  replace HBL := hide (blk_later HBL.out LW)
  replace HM := hide HMn
  clear HMn LW
  clear szW
  generalize hga : w3.heap.size = ga at HM ⊢
  rw [H00.out] at HA
  have HK0 := hide (show 4 = (K 0).length by rw [← H00.out]; rfl)
  have y0 := HBL.out.c 0 rfl
  have lty := HBL.out.lt
  go_wp2_with fail
  clear y0 lty
  go_loopw [10] (fun i wr => ∃ (k : Nat) (A' : Option Addr) (c' : Nat), k ≤ n ∧ i = .int .i64 k ∧ AreaH wr A' (K k) ∧ Mem w [.blk ga 128 #[.slice A' (K k).length c']] wr) (fun i _ => n - (intOf i).toNat)
  case atStart => exact ⟨0, A1, c1, by omega, rfl, HA.out, by rw [← HK0.out]; exact HM.out⟩
  case round =>
    obtain ⟨k, A', c', hk, rfl, hA, hM⟩ := hrel
    clear HM HA HBL
    have HM := hide hM
    have HA := hide hA
    clear hM hA
    by_cases hlt : k < n
    · have hlt2 : (k : Int) < n := by omega
      obtain ⟨b, off, rfl, hb0, hc⟩ := HSC.out (by omega)
      have hc1 := hc _ hlt
      have c1' := HN.out k hlt
      have hct := HC.out k
      have h1 := HKT.out k
      have h2 := HKF.out k
      obtain ⟨r, hr⟩ : ∃ x, t.contains k = x := ⟨_, rfl⟩
      rw [hr] at h1 h2
      simp only [hr] at hct
      obtain ⟨X, hX⟩ : ∃ X, l.getD k sg0 = X := ⟨_, rfl⟩
      rw [hX] at hc1 c1' h2
      rw [← HM.out.below.cell hb0, ← HM.out.below.cell hb0, ← HM.out.below.cell hb0, ← HM.out.below.cell hb0, ← HM.out.below.cell hb0] at hc1
      have ltb : b < wr.heap.size := Nat.lt_of_lt_of_le hb0 HM.out.size
      obtain ⟨sx, sy, sl, slo, shi⟩ := X
      obtain ⟨q0, q1, q2, q3, q4⟩ := hc1
      simp only at q0 q1 q2 q3 q4 c1'
      obtain ⟨nk, hnk⟩ : ∃ n, (K k).length = n := ⟨_, rfl⟩
      rw [hnk] at HM c1'
      have Hnk := hide hnk
      have C1 := hide c1'
      have HCT := hide hct
      have H1 := hide h1
      have H2 := hide h2
      clear c1' hct h1 h2
      clear hc hX hnk hr
      go_wp2_with fail
      refine at_world fun w1 hW => ?_
      have HMn := Mem.to (Mem.allocAt HM.out wr.heap.size rfl #[.int .i64 sx, .int .i64 sy, .int .i64 sl, .int .i64 slo, .int .i64 shi] 71) hW
      have LW : Later wr w1 := by rw [hW]; exact ((Below.refl _ _).alloc (Nat.le_refl _) _)
      have szW : w1.heap.size = wr.heap.size + 1 := by rw [hW]; simp
      clear hW
      replace HA := hide (HA.out.later LW)
      replace HM := hide HMn
      clear HMn LW
      clear szW q0 q1 q2 q3 q4 ltb
      generalize hgx : wr.heap.size = gx at HM ⊢
      refine (HCT.out _ HM.out.below).mono ?_
      rintro e w' ⟨rfl, hww⟩
      obtain rfl : w1 = w' := hww.symm
      cases r with
      | true =>
        have hkk := H1.out rfl
        go_wp2_with fail
        go_roundw
        case rel => exact ⟨k + 1, A', c', hlt, by go_num, by rw [hkk]; exact HA.out, by rw [hkk, Hnk.out]; exact HM.out.tail⟩
        case measure => simp [intOf] <;> omega
      | false =>
        have hkk := H2.out rfl
        rw [hkk] at C1
        have bz : Blk w1 ga 128 #[.slice A' nk c'] := HM.out.get 1 rfl
        have ltz := bz.lt
        have z0 := bz.c 0 rfl
        have bx : Blk w1 gx 71 #[.int .i64 sx, .int .i64 sy, .int .i64 sl, .int .i64 slo, .int .i64 shi] := HM.out.get 0 rfl
        have ltx := bx.lt
        have x0 := bx.c 0 rfl
        have x1 := bx.c 1 rfl
        have x2 := bx.c 2 rfl
        have x3 := bx.c 3 rfl
        have x4 := bx.c 4 rfl
        go_wp2_with fail
        refine (C1.out _ A' c' HA.out).mono ?_
        rintro e w6 ⟨A2, c2, rfl, hA2, hb⟩
        replace HM := hide (HM.out.later hb)
        replace HA := hide (HA.out.later hb)
        clear hb bz ltz z0 bx ltx x0 x1 x2 x3 x4
        clear HA
        have HA2 := hide (show AreaH w6 A2 (K (k + 1)) from hA2)
        clear hA2
        have bz : Blk w6 ga 128 #[.slice A' nk c'] := HM.out.get 1 rfl
        have ltz := bz.lt
        have z0 := bz.c 0 rfl
        have fz0 := bz.frozen 0
        go_wp2_with fail
        go_roundw
        case rel => exact ⟨k + 1, A2, c2, hlt, by go_num, HA2.out.set (HM.out.get 1 rfl) 0 _, (HM.out.set_ 1 rfl 0 (.slice A2 (K (k + 1)).length c2) rfl).tail⟩
        case measure => simp [intOf] <;> omega
    · obtain rfl : k = n := by omega
      have hkk : ¬ ((k : Int) < k) := by omega
      obtain ⟨nk, hnk⟩ : ∃ m, (K k).length = m := ⟨_, rfl⟩
      rw [hnk] at HM
      have Hnk := hide hnk
      clear hnk
      have bz : Blk wr ga 128 #[.slice A' nk c'] := HM.out.get 0 rfl
      have ltz := bz.lt
      have z0 := bz.c 0 rfl
      go_wp2_with fail
      refine (empty_any A' nk c' _).mono ?_
      rintro e w5 ⟨rfl, hb⟩
      replace HM := hide (HM.out.later hb)
      replace HA := hide (HA.out.later hb)
      clear hb bz ltz z0
      go_wp2
      go_ret
      exact ⟨by rw [Hnk.out]; rfl, HM.out.below⟩
end Go.Proofs.Ytllpffkifleigaa
end
section
namespace Go.Proofs.Ytllpffkifleigaa
open Go Go.RowKit

def SgtsH (w : World) (A : Option Addr) (l : List Sgt) : Prop := SgtsAt w w.heap.size A l
theorem SgtsH.later {w w' : World} {A : Option Addr} {l : List Sgt} (h : SgtsH w A l) (hb : Below w.heap.size w w') : SgtsH w' A l := SgtsAt.below h hb
def frI (l : List Sgt) (i k : Nat) : List Bd := narL skyL (slc l i k) 0
def frB (l : List Sgt) (i : Nat) : List Bd := narL skyL (l.take i) 0
def frO (l : List Sgt) (i j : Nat) : List Bd := narL skyL (l.take i ++ l.drop j) 0
theorem isE {L : List Bd} : L.isEmpty = decide (L.length = 0) := by cases L <;> rfl
theorem fr_prog {l : List Sgt} {i j : Nat} : frontB l i j = (!decide ((frI l i j).length = 0) && !decide ((frO l i j).length = 0)) := by
  rw [front_prog, ← narL_app, isE, isE]
  rfl
theorem fr_more {l : List Sgt} {i j k : Nat} (h : (frI l i j).length = 0) (hk : j ≤ k) : frontB l i k = false := slc_more (j := j) (by unfold empB; rw [isE]; exact decide_eq_true h) hk
theorem slc_ok {l : List Sgt} (hl : ∀ s ∈ l, SgtOk s) (i k : Nat) : ∀ s ∈ slc l i k, SgtOk s := fun s hs => hl s (List.mem_of_mem_take (List.mem_of_mem_drop hs))
theorem take_ok {l : List Sgt} (hl : ∀ s ∈ l, SgtOk s) (i : Nat) : ∀ s ∈ l.take i, SgtOk s := fun s hs => hl s (List.mem_of_mem_take hs)
theorem drop_ok {l : List Sgt} (hl : ∀ s ∈ l, SgtOk s) (i : Nat) : ∀ s ∈ l.drop i, SgtOk s := fun s hs => hl s (List.mem_of_mem_drop hs)
theorem slc_len (l : List Sgt) (i k : Nat) : (slc l i k).length ≤ l.length := by unfold slc; rw [List.length_drop, List.length_take]; omega
theorem take_snoc {l : List Sgt} {i : Nat} (h : i < l.length) : l.take (i + 1) = l.take i ++ [l.getD i sg0] := by
  rw [List.take_add_one, List.getElem?_eq_getElem h, List.getD_eq_getElem?_getD, List.getElem?_eq_getElem h]
  rfl
theorem frI_next {l : List Sgt} (hl1 : l.length ≤ 360) (hl : ∀ s ∈ l, SgtOk s) {i k : Nat} (hi : i ≤ k) (hk : k < l.length) (A : Option Addr) (c : Nat) (W : World) (ha : AreaH W A (frI l i k)) :
    Calls Try.prog 74 #[.agg #[.slice A (frI l i k).length c], sgC (l.getD k sg0), .int .i64 0] W (AreaPost W (frI l i (k + 1))) := by
  unfold frI at *
  rw [slc_succ hi hk]
  exact narrow_next (slc l i k) _ A c W (by have := slc_len l i k; omega) (slc_ok hl i k) (hl _ (getD_mem hk)) ha
theorem frB_next {l : List Sgt} (hl1 : l.length ≤ 360) (hl : ∀ s ∈ l, SgtOk s) {i : Nat} (hk : i < l.length) (A : Option Addr) (c : Nat) (W : World) (ha : AreaH W A (frB l i)) :
    Calls Try.prog 74 #[.agg #[.slice A (frB l i).length c], sgC (l.getD i sg0), .int .i64 0] W (AreaPost W (frB l (i + 1))) := by
  unfold frB at *
  rw [take_snoc hk]
  exact narrow_next (l.take i) _ A c W (by rw [List.length_take]; omega) (take_ok hl i) (hl _ (getD_mem hk)) ha
theorem drop_at {w : World} {B b off : Nat} {l : List Sgt} {k : Nat} (hb : b < B) (hc : ∀ i, i < l.length →
  w.cell? ⟨b, off + i * 5, none⟩ = some (.int .i64 (l.getD i sg0).x) ∧ w.cell? ⟨b, off + i * 5 + 1, none⟩ = some (.int .i64 (l.getD i sg0).y) ∧ w.cell? ⟨b, off + i * 5 + 2, none⟩ = some (.int .i64 (l.getD i sg0).l) ∧
  w.cell? ⟨b, off + i * 5 + 3, none⟩ = some (.int .i64 (l.getD i sg0).lo) ∧ w.cell? ⟨b, off + i * 5 + 4, none⟩ = some (.int .i64 (l.getD i sg0).hi)) : SgtsAt w B (some ⟨b, off + k * 5, none⟩) (l.drop k) := fun hn => by
  refine ⟨b, off + k * 5, rfl, hb, fun i hi => ?_⟩
  rw [List.length_drop] at hi
  have := hc (k + i) (by omega)
  rw [show off + (k + i) * 5 = off + k * 5 + i * 5 by omega] at this
  rw [show (l.drop k).getD i sg0 = l.getD (k + i) sg0 by rw [List.getD_eq_getElem?_getD, List.getElem?_drop, List.getD_eq_getElem?_getD]]
  exact this
theorem frO_any {l : List Sgt} (hl1 : l.length ≤ 360) (hl : ∀ s ∈ l, SgtOk s) {i j : Nat} (hij : i ≤ j) (A : Option Addr) (c : Nat) (B : Option Addr) (cl : Nat) (W : World) (ha : AreaH W A (frB l i)) (hs : SgtsAt W W.heap.size B (l.drop j)) :
    Calls Try.prog 62 #[.agg #[.slice A (frB l i).length c], .slice B (l.length - j) cl, .int .i64 0] W (AreaPost W (frO l i j)) := by
  have := narrowed_any A c (l.take i) B (l.drop j) cl 0 W (by rw [List.length_take, List.length_drop]; omega) (take_ok hl i) (drop_ok hl j) (by omega) (by omega) ha hs
  rw [List.length_drop] at this
  exact this
set_option maxHeartbeats 1000000 in
set_option maxRecDepth 100000 in
theorem Front_any (A : Option Addr) (l : List Sgt) (c : Nat) (w : World) (hmax : l.length ≤ maxLen) (hcap : l.length ≤ c) (hA : SgtsAt w w.heap.size A l) (hI : AllI l) :
    Calls Try.prog 28 #[.slice A l.length c] w fun e w' => e = .returned (.tuple #[.int .i64 ((frontA l).1 : Nat), .int .i64 ((frontA l).2 : Nat), .int .i64 (frontE l)]) ∧ Below w.heap.size w w' := by
  have hL := fun (W : World) (hW : Below w.heap.size w W) => listed_any A l c W hmax (hA.below hW) hI
  have hAa : frontA l = if frontE l = 0 then (frontS l).getD (0, 0) else (0, 0) := rfl
  have z0 : ((0 : Nat) : Int) = 0 := rfl
  rw [hAa]
  by_cases he : listE l = 0
  · obtain ⟨hl1, hl2⟩ := listE_ok.1 he
    have hE1 : frontE l = if 64 < l.length then 9 else if agrB l 0 = true then 4 else if (frontS l).isSome = true then 0 else 14 := by unfold frontE; rw [if_neg (by rw [he]; simp)]
    simp only [he] at hL
    rw [hE1]
    by_cases h64 : 64 < l.length
    · have h642 : (64 : Int) < (l.length : Int) := by omega
      rw [if_pos h64, if_neg (by omega)]
      simp only [z0]
      generalize l.length = n at *
      have HL := hide hL
      clear hL
      clear hA hI hE1 he hl2 hAa
      go_enter Try.func28, Try.ntmps28
      have HM := hide (Mem.start w)
      go_wp2_with fail
      refine (HL.out _ HM.out.below).mono ?_
      rintro e w1 ⟨rfl, hb⟩
      replace HM := hide (HM.out.later hb)
      clear hb
      go_wp2
      exact bodyPost_ret (v := .tuple #[.int .i64 0, .int .i64 0, .int .i64 9]) (by simp [results, Try.results28, go_sem]) rfl ⟨rfl, HM.out.below⟩
    · have h642 : ¬ (64 : Int) < (l.length : Int) := by omega
      rw [if_neg h64]
      have hN := fun (W : World) (hW : Below w.heap.size w W) (A1 : Option Addr) (c1 : Nat) (ha : AreaH W A1 skyL) => sights_any A l c 0 W hl1 hl2 (by omega) (by omega) (hA.below hW) A1 c1 ha
      have hE := fun (W : World) (A' : Option Addr) (c' : Nat) => empty_any A' (narL skyL l 0).length c' W
      simp only [empty_emp] at hE
      have hemp := empB_eq l 0
      have hNI := fun i k (hi : i ≤ k) (hk : k < l.length) => frI_next hl1 hl2 hi hk
      have hNB := fun i (hk : i < l.length) => frB_next hl1 hl2 hk
      have hO := fun i j (hij : i ≤ j) => frO_any hl1 hl2 hij
      obtain ⟨b, hb⟩ : ∃ b, agrB l 0 = b := ⟨_, rfl⟩
      rw [hb] at hemp ⊢
      simp only [hemp] at hE
      obtain ⟨n, hn⟩ : ∃ n, l.length = n := ⟨_, rfl⟩
      have hsc : SgtsAt w w.heap.size A l := hA
      unfold SgtsAt at hsc
      rw [hn] at hL hN hl1 hNI hNB hO hsc hcap hmax h64 h642 ⊢
      have HL := hide hL
      have HN := hide hN
      have HE := hide hE
      have HNI := hide hNI
      have HNB := hide hNB
      have HO := hide hO
      have HSC := hide hsc
      have Hn := hide hn
      clear hL hN hE hNI hNB hO hsc hn
      clear hA hI hE1 he hl2 hAa hemp hb
      cases b with
      | true =>
        simp only [if_true]
        rw [if_neg (by omega)]
        simp only [z0]
        go_enter Try.func28, Try.ntmps28
        have HM := hide (Mem.start w)
        go_wp2_with fail
        refine (HL.out _ HM.out.below).mono ?_
        rintro e w1 ⟨rfl, hb⟩
        replace HM := hide (HM.out.later hb)
        clear hb
        go_wp2_with fail
        refine (sky_any _).mono ?_
        rintro e w3 ⟨A1, c1, rfl, hA1, hb⟩
        replace HM := hide (HM.out.later hb)
        clear hb
        have HA1 := hide hA1
        clear hA1
        go_wp2_with fail
        refine (HN.out _ HM.out.below A1 c1 HA1.out).mono ?_
        rintro e w4 ⟨A2, c2, rfl, hA2, hb⟩
        replace HM := hide (HM.out.later hb)
        clear hb
        clear hA2 HA1
        go_wp2_with fail
        refine (HE.out _ A2 c2).mono ?_
        rintro e w5 ⟨rfl, hb⟩
        replace HM := hide (HM.out.later hb)
        clear hb
        go_wp2
        exact bodyPost_ret (v := .tuple #[.int .i64 0, .int .i64 0, .int .i64 4]) (by simp [results, Try.results28, go_sem]) rfl ⟨rfl, HM.out.below⟩
      | false =>
        simp only [Bool.false_eq_true, if_false]
        have h00 : skyL = frB l 0 := rfl
        have h01 : ∀ i, skyL = frI l i i := fun i => by unfold frI; rw [slc_nil]; rfl
        have hfin := front_none (l := l)
        have hsome := fun i j => front_some (l := l) (i := i) (j := j)
        have hprog := fun i j => fr_prog (l := l) (i := i) (j := j)
        have hmore := fun i j k => fr_more (l := l) (i := i) (j := j) (k := k)
        rw [Hn.out] at hfin hsome
        obtain ⟨FS, hFS⟩ : ∃ x, frontS l = x := ⟨_, rfl⟩
        rw [hFS] at hfin hsome ⊢
        have H00 := hide h00
        have H01 := hide h01
        have HFIN := hide hfin
        have HSOME := hide hsome
        have HPROG := hide hprog
        have HMORE := hide hmore
        clear h00 h01 hfin hsome hprog hmore
        clear hFS
        go_enter Try.func28, Try.ntmps28
        have HM := hide (Mem.start w)
        go_wp2_with fail
        refine (HL.out _ HM.out.below).mono ?_
        rintro e w1 ⟨rfl, hb⟩
        replace HM := hide (HM.out.later hb)
        clear hb
        go_wp2_with fail
        refine (sky_any _).mono ?_
        rintro e w3 ⟨A1, c1, rfl, hA1, hb⟩
        replace HM := hide (HM.out.later hb)
        clear hb
        have HA1 := hide hA1
        clear hA1
        go_wp2_with fail
        refine (HN.out _ HM.out.below A1 c1 HA1.out).mono ?_
        rintro e w4 ⟨A2, c2, rfl, hA2, hb⟩
        replace HM := hide (HM.out.later hb)
        clear hb
        clear hA2 HA1
        go_wp2_with fail
        refine (HE.out _ A2 c2).mono ?_
        rintro e w5 ⟨rfl, hb⟩
        replace HM := hide (HM.out.later hb)
        clear hb
        go_wp2_with fail
        refine (sky_any _).mono ?_
        rintro e w6 ⟨A3, c3, rfl, hA3, hb⟩
        replace HM := hide (HM.out.later hb)
        clear hb
        have HA := hide (show AreaH w6 A3 skyL from hA3)
        clear hA3
        go_upto_region 9 with fail
        refine code_world fun w7 hW => ?_
        have HMn := Mem.to (Mem.allocAt HM.out w6.heap.size rfl #[.slice A3 4 c3] 128) hW
        have LW : Later w6 w7 := by rw [hW]; exact ((Below.refl _ _).alloc (Nat.le_refl _) _)
        have szW : w7.heap.size = w6.heap.size + 1 := by rw [hW]; simp
        clear hW
        replace HA := hide (HA.out.later LW)
        replace HM := hide HMn
        clear HMn LW
        clear szW
        generalize hgb : w6.heap.size = gb at HM ⊢
        rw [H00.out] at HA
        have HK0 := hide (show 4 = (frB l 0).length by rw [← H00.out]; rfl)
        go_wp2_with fail
        go_loopw [28] (fun i wr => ∃ (k : Nat) (A' : Option Addr) (c' : Nat), k ≤ n ∧ i = .int .i64 k ∧ AreaH wr A' (frB l k) ∧ Mem w [.blk gb 128 #[.slice A' (frB l k).length c']] wr ∧ (∀ i' j', i' < j' → j' ≤ n → i' < k → frontB l i' j' = false)) (fun i _ => n - (intOf i).toNat)
        case atStart => exact ⟨0, A3, c3, by omega, rfl, HA.out, by rw [← HK0.out]; exact HM.out, fun _ _ _ _ h => absurd h (Nat.not_lt_zero _)⟩
        case round =>
          obtain ⟨i, A', c', hi, rfl, hA, hM, hno⟩ := hrel
          clear HM HA HK0
          have HM := hide hM
          have HA := hide hA
          have HNO := hide hno
          clear hM hA hno
          by_cases hlt : i < n
          · have hlt2 : (i : Int) < n := by omega
            obtain ⟨nb, hnb⟩ : ∃ m, (frB l i).length = m := ⟨_, rfl⟩
            have Hnb := hide hnb
            rw [hnb] at HM
            clear hnb
            go_wp2_with fail
            refine (sky_any _).mono ?_
            rintro e w8 ⟨A4, c4, rfl, hA4, hb⟩
            replace HM := hide (HM.out.later hb)
            replace HA := hide (HA.out.later hb)
            clear hb
            have HI := hide (show AreaH w8 A4 skyL from hA4)
            clear hA4
            go_upto_region 13 with fail
            refine code_world fun w9 hW => ?_
            have HMn := Mem.to (Mem.allocAt HM.out w8.heap.size rfl #[.slice A4 4 c4] 128) hW
            have LW : Later w8 w9 := by rw [hW]; exact ((Below.refl _ _).alloc (Nat.le_refl _) _)
            have szW : w9.heap.size = w8.heap.size + 1 := by rw [hW]; simp
            clear hW
            replace HA := hide (HA.out.later LW)
            replace HI := hide (HI.out.later LW)
            replace HM := hide HMn
            clear HMn LW
            clear szW
            generalize hgi : w8.heap.size = gi at HM ⊢
            rw [H01.out i] at HI
            have HK1 := hide (show 4 = (frI l i i).length by rw [← H01.out i]; rfl)
            go_wp2_with fail
            go_loopw [9] (fun u wr => ∃ (k : Nat) (A'' : Option Addr) (c'' : Nat), i ≤ k ∧ k ≤ n ∧ u = .int .i64 k ∧ AreaH wr A' (frB l i) ∧ AreaH wr A'' (frI l i k) ∧ Mem w [.blk gi 128 #[.slice A'' (frI l i k).length c''], .blk gb 128 #[.slice A' nb c']] wr ∧ (∀ j', i < j' → j' ≤ k → frontB l i j' = false)) (fun u _ => n - (intOf u).toNat)
            case atStart => exact ⟨i, A4, c4, Nat.le_refl _, hi, rfl, HA.out, HI.out, by rw [← HK1.out]; exact HM.out, fun j' h1 h2 => by omega⟩
            case round =>
              obtain ⟨k, A'', c'', hik, hkn, rfl, hA, hI, hM, hnk⟩ := hrel
              clear HM HA HI HK1
              have HM := hide hM
              have HA := hide hA
              have HI := hide hI
              have HNK := hide hnk
              clear hM hA hI hnk
              obtain ⟨ni, hni⟩ : ∃ m, (frI l i k).length = m := ⟨_, rfl⟩
              have Hni := hide hni
              rw [hni] at HM
              clear hni
              by_cases hlk : k < n
              · have hlk2 : (k : Int) < n := by omega
                obtain ⟨b, off, rfl, hb0, hc⟩ := HSC.out (by omega)
                have hc1 := hc _ hlk
                have c1' := HNI.out i k hik hlk
                rw [Hni.out] at c1'
                obtain ⟨X, hX⟩ : ∃ X, l.getD k sg0 = X := ⟨_, rfl⟩
                rw [hX] at hc1 c1'
                unfold sgC at c1'
                rw [← HM.out.below.cell hb0, ← HM.out.below.cell hb0, ← HM.out.below.cell hb0, ← HM.out.below.cell hb0, ← HM.out.below.cell hb0] at hc1
                have ltb : b < wr.heap.size := Nat.lt_of_lt_of_le hb0 HM.out.size
                obtain ⟨sx, sy, sl, slo, shi⟩ := X
                obtain ⟨q0, q1, q2, q3, q4⟩ := hc1
                simp only at q0 q1 q2 q3 q4 c1'
                have C1 := hide c1'
                have HC0 := hide hc
                clear c1' hc
                clear hX
                have bz : Blk wr gi 128 #[.slice A'' ni c''] := HM.out.get 0 rfl
                have ltz := bz.lt
                have z0 := bz.c 0 rfl
                go_wp2_with fail
                refine wp_region_cut 5 (by kernel_rfl) (by simp only [List.take_succ_cons, List.take_zero]; exact rfl) (by simp only [List.drop_succ_cons, List.drop_zero]; exact rfl) (by kernel_rfl) ?_
                apply any_region_J (w0 := wr) [[], [], [], [], []] [true, true, true, true, true] [] (fun ixq y => match ixq with  | _ => undef) (fun ixq x F wq => match ixq with  | _ => True) (fun a x => a) (by kernel_rfl) (fun _ => rfl) [] (by kernel_rfl)
                · intro x D hD
                  have hne := hD.some
                  have k0 := liftB hD z0 (by first | assumption | omega)
                  have k2 := liftB hD q0 (by first | assumption | omega)
                  have k3 := liftB hD q1 (by first | assumption | omega)
                  have k4 := liftB hD q2 (by first | assumption | omega)
                  have k5 := liftB hD q3 (by first | assumption | omega)
                  have k6 := liftB hD q4 (by first | assumption | omega)
                  simp only [takeOps, Act.put, List.setIfInBounds_toArray, List.set_cons_succ, List.set_cons_zero]
                  repeat (go_big_quiet_step (fail))
                  exact wpQuiet_nil rfl
                · exact fun _ h => absurd h (by simp)
                · exact trivial
                · exact trivial
                intro xx w5 F hL hlv1 hap1
                clear hap1
                clear hlv1
                refine ⟨rfl, ?_⟩
                clear q0 q1 q2 q3 q4 ltb
                replace HM := hide (HM.out.later hL)
                replace HA := hide (HA.out.later hL)
                replace HI := hide (HI.out.later hL)
                clear hL bz ltz z0
                go_wp2_with fail
                refine (C1.out A'' c'' _ HI.out).mono ?_
                rintro e w6 ⟨A2, c2, rfl, hA2, hb⟩
                replace HM := hide (HM.out.later hb)
                replace HA := hide (HA.out.later hb)
                replace HI := hide (HI.out.later hb)
                clear hb
                clear HI
                have HI2 := hide (show AreaH w6 A2 (frI l i (k + 1)) from hA2)
                clear hA2 C1 Hni
                obtain ⟨n2, hn2⟩ : ∃ m, (frI l i (k + 1)).length = m := ⟨_, rfl⟩
                have Hn2 := hide hn2
                rw [hn2]
                clear hn2
                have bz : Blk w6 gi 128 #[.slice A'' ni c''] := HM.out.get 0 rfl
                have ltz := bz.lt
                have z0 := bz.c 0 rfl
                have fz0 := bz.frozen 0
                have HM2 := hide (HM.out.set_ 0 rfl 0 (.slice A2 n2 c2) rfl)
                have HA2 := hide (HA.out.set (HM.out.get 0 rfl) 0 (.slice A2 n2 c2))
                have HI3 := hide (HI2.out.set (HM.out.get 0 rfl) 0 (.slice A2 n2 c2))
                clear HM HA HI2
                go_upto_region 17 with fail
                refine code_world fun w7 hW => ?_
                rw [← hW] at HM2 HA2 HI3
                clear hW bz ltz z0 fz0
                have HM := HM2
                have HA := HA2
                have HI := HI3
                clear HM2 HA2 HI3
                have bx : Blk w7 gi 128 #[.slice A2 n2 c2] := HM.out.get 0 rfl
                have ltx := bx.lt
                have x0 := bx.c 0 rfl
                go_wp2_with fail
                refine (empty_any A2 n2 c2 _).mono ?_
                rintro e w8 ⟨rfl, hb⟩
                replace HM := hide (HM.out.later hb)
                replace HA := hide (HA.out.later hb)
                replace HI := hide (HI.out.later hb)
                clear hb bx ltx x0
                by_cases he0 : n2 = 0
                · have hed : decide (n2 = 0) = true := decide_eq_true he0
                  rw [hed]
                  have HNF := hide (fun j' (h1 : i < j') (h2 : j' ≤ n) => if h3 : j' ≤ k then HNK.out j' h1 h3 else HMORE.out i (k + 1) j' (by rw [Hn2.out]; exact he0) (by omega))
                  subst he0
                  clear Hn2 HNK
                  go_wp2_with fail
                  have hc := HC0.out
                  have hc1 := hc _ hlt
                  have c1' := HNB.out i hlt
                  rw [Hnb.out] at c1'
                  obtain ⟨X, hX⟩ : ∃ X, l.getD i sg0 = X := ⟨_, rfl⟩
                  rw [hX] at hc1 c1'
                  unfold sgC at c1'
                  rw [← HM.out.below.cell hb0, ← HM.out.below.cell hb0, ← HM.out.below.cell hb0, ← HM.out.below.cell hb0, ← HM.out.below.cell hb0] at hc1
                  have ltb : b < w8.heap.size := Nat.lt_of_lt_of_le hb0 HM.out.size
                  obtain ⟨sx, sy, sl, slo, shi⟩ := X
                  obtain ⟨q0, q1, q2, q3, q4⟩ := hc1
                  simp only at q0 q1 q2 q3 q4 c1'
                  have C1 := hide c1'
                  clear c1'
                  clear hc hX
                  have bz : Blk w8 gb 128 #[.slice A' nb c'] := HM.out.get 1 rfl
                  have ltz := bz.lt
                  have z0 := bz.c 0 rfl
                  refine wp_region_cut 5 (by kernel_rfl) (by simp only [List.take_succ_cons, List.take_zero]; exact rfl) (by simp only [List.drop_succ_cons, List.drop_zero]; exact rfl) (by kernel_rfl) ?_
                  apply any_region_J (w0 := w8) [[], [], [], [], []] [true, true, true, true, true] [] (fun ixq y => match ixq with  | _ => undef) (fun ixq x F wq => match ixq with  | _ => True) (fun a x => a) (by kernel_rfl) (fun _ => rfl) [] (by kernel_rfl)
                  · intro x D hD
                    have hne := hD.some
                    have k0 := liftB hD z0 (by first | assumption | omega)
                    have k2 := liftB hD q0 (by first | assumption | omega)
                    have k3 := liftB hD q1 (by first | assumption | omega)
                    have k4 := liftB hD q2 (by first | assumption | omega)
                    have k5 := liftB hD q3 (by first | assumption | omega)
                    have k6 := liftB hD q4 (by first | assumption | omega)
                    simp only [takeOps, Act.put, List.setIfInBounds_toArray, List.set_cons_succ, List.set_cons_zero]
                    repeat (go_big_quiet_step (fail))
                    exact wpQuiet_nil rfl
                  · exact fun _ h => absurd h (by simp)
                  · exact trivial
                  · exact trivial
                  intro xx w5 F hL hlv2 hap2
                  clear hap2
                  clear hlv2
                  refine ⟨rfl, ?_⟩
                  clear q0 q1 q2 q3 q4 ltb
                  replace HM := hide (HM.out.later hL)
                  replace HA := hide (HA.out.later hL)
                  replace HI := hide (HI.out.later hL)
                  clear hL bz ltz z0
                  go_wp2_with fail
                  refine (C1.out A' c' _ HA.out).mono ?_
                  rintro e w6 ⟨A2, c2, rfl, hA2, hb⟩
                  replace HM := hide (HM.out.later hb)
                  replace HA := hide (HA.out.later hb)
                  replace HI := hide (HI.out.later hb)
                  clear hb
                  clear HA
                  have HA2 := hide (show AreaH w6 A2 (frB l (i + 1)) from hA2)
                  clear hA2
                  have bz : Blk w6 gb 128 #[.slice A' nb c'] := HM.out.get 1 rfl
                  have ltz := bz.lt
                  have z0 := bz.c 0 rfl
                  have fz0 := bz.frozen 0
                  go_wp2_with fail
                  go_roundw
                  case rel => exact ⟨i + 1, A2, c2, hlt, by go_num, HA2.out.set (HM.out.get 1 rfl) 0 _, (HM.out.set_ 1 rfl 0 (.slice A2 (frB l (i + 1)).length c2) rfl).tail, fun i' j' h1 h2 h3 => by
                    by_cases e : i' < i
                    · exact HNO.out i' j' h1 h2 e
                    · have e2 : i' = i := by omega
                      subst e2
                      exact HNF.out j' h1 h2⟩
                  case measure => simp [intOf] <;> omega
                · have hed : decide (n2 = 0) = false := decide_eq_false he0
                  rw [hed]
                  obtain ⟨Asl, hAsl⟩ : ∃ x : Option Addr, (if c = k + 1 then some (⟨b, off, none⟩ : Addr) else some ⟨b, off + (k + 1) * 5, none⟩) = x := ⟨_, rfl⟩
                  have hsl : SgtsH w8 Asl (l.drop (k + 1)) := by
                    have h8 : SgtsAt w8 w8.heap.size (some ⟨b, off + (k + 1) * 5, none⟩) (l.drop (k + 1)) := (drop_at (w := w) (B := w.heap.size) hb0 (by rw [Hn.out]; exact HC0.out)).below HM.out.below
                    rw [← hAsl]
                    split
                    · intro hlen
                      rw [List.length_drop, Hn.out] at hlen
                      omega
                    · exact h8
                  have HSL := hide hsl
                  clear hsl
                  have hkc1 : (k : Int) + 1 ≤ n := by omega
                  have hkc2 : (n : Int) ≤ c := by omega
                  have ho := HO.out i (k + 1) (by omega) A' c' Asl
                  rw [Hnb.out] at ho
                  have HO2 := hide ho
                  clear ho
                  have bz : Blk w8 gb 128 #[.slice A' nb c'] := HM.out.get 1 rfl
                  have ltz := bz.lt
                  have z0 := bz.c 0 rfl
                  go_wp2_with fail
                  refine wp_region_cut 5 (by kernel_rfl) (by simp only [List.take_succ_cons, List.take_zero]; exact rfl) (by simp only [List.drop_succ_cons, List.drop_zero]; exact rfl) (by kernel_rfl) ?_
                  apply any_region_J (w0 := w8) [[], [], [], [], []] [true, true, true, true, true] [] (fun ixq y => match ixq with  | _ => undef) (fun ixq x F wq => match ixq with  | _ => True) (fun a x => a) (by kernel_rfl) (fun _ => rfl) [] (by kernel_rfl)
                  · intro x D hD
                    have hne := hD.some
                    have k0 := liftB hD z0 (by first | assumption | omega)
                    simp only [takeOps, Act.put, List.setIfInBounds_toArray, List.set_cons_succ, List.set_cons_zero]
                    repeat (go_big_quiet_step (fail))
                    exact wpQuiet_nil rfl
                  · exact fun _ h => absurd h (by simp)
                  · exact trivial
                  · exact trivial
                  intro xx w9 F hL hlv3 hap3
                  clear hap3
                  clear hlv3
                  refine ⟨rfl, ?_⟩
                  replace HM := hide (HM.out.later hL)
                  replace HA := hide (HA.out.later hL)
                  replace HI := hide (HI.out.later hL)
                  replace HSL := hide (HSL.out.later hL)
                  clear hL bz ltz z0
                  go_wp2_with fail
                  refine (HO2.out _ _ HA.out HSL.out).mono ?_
                  rintro e w10 ⟨A5, c5, rfl, hA5, hb⟩
                  replace HM := hide (HM.out.later hb)
                  replace HA := hide (HA.out.later hb)
                  replace HI := hide (HI.out.later hb)
                  replace HSL := hide (HSL.out.later hb)
                  clear hb
                  clear hA5 HO2
                  clear HSL
                  obtain ⟨no, hno⟩ : ∃ m, (frO l i (k + 1)).length = m := ⟨_, rfl⟩
                  have Hno := hide hno
                  rw [hno]
                  clear hno
                  go_wp2_with fail
                  refine (empty_any A5 no c5 _).mono ?_
                  rintro e w11 ⟨rfl, hb⟩
                  replace HM := hide (HM.out.later hb)
                  replace HA := hide (HA.out.later hb)
                  replace HI := hide (HI.out.later hb)
                  clear hb
                  by_cases ho0 : no = 0
                  · have hod : decide (no = 0) = true := decide_eq_true ho0
                    rw [hod]
                    clear hAsl
                    go_wp2_with fail
                    go_roundw
                    case rel => exact ⟨k + 1, A2, c2, by omega, hlk, by go_num, HA.out, HI.out, by rw [Hn2.out]; exact HM.out, fun j' h1 h2 => by
                      by_cases e : j' ≤ k
                      · exact HNK.out j' h1 e
                      · have e2 : j' = k + 1 := by omega
                        subst e2
                        rw [HPROG.out, Hno.out, hod]
                        simp⟩
                    case measure => simp [intOf] <;> omega
                  · have hod : decide (no = 0) = false := decide_eq_false ho0
                    rw [hod]
                    have hfs := HSOME.out i (k + 1) (by omega) hlk (by rw [HPROG.out, Hno.out, hod, Hn2.out, hed]; rfl) HNO.out (fun j' h1 h2 => HNK.out j' h1 (by omega))
                    subst hfs
                    clear hAsl
                    go_wp2
                    exact bodyPost_ret (v := .tuple #[.int .i64 (i : Nat), .int .i64 ((k : Nat) + 1 : Int), .int .i64 0]) (by simp [results, Try.results28, go_sem]) rfl ⟨by rfl, HM.out.below⟩
              · obtain rfl : k = n := by omega
                have hkk : ¬ ((k : Int) < k) := by omega
                have HNF := HNK
                go_wp2_with fail
                obtain ⟨b, off, rfl, hb0, hc⟩ := HSC.out (by omega)
                have hc1 := hc _ hlt
                have c1' := HNB.out i hlt
                rw [Hnb.out] at c1'
                obtain ⟨X, hX⟩ : ∃ X, l.getD i sg0 = X := ⟨_, rfl⟩
                rw [hX] at hc1 c1'
                unfold sgC at c1'
                rw [← HM.out.below.cell hb0, ← HM.out.below.cell hb0, ← HM.out.below.cell hb0, ← HM.out.below.cell hb0, ← HM.out.below.cell hb0] at hc1
                have ltb : b < wr.heap.size := Nat.lt_of_lt_of_le hb0 HM.out.size
                obtain ⟨sx, sy, sl, slo, shi⟩ := X
                obtain ⟨q0, q1, q2, q3, q4⟩ := hc1
                simp only at q0 q1 q2 q3 q4 c1'
                have C1 := hide c1'
                clear c1'
                clear hc hX
                have bz : Blk wr gb 128 #[.slice A' nb c'] := HM.out.get 1 rfl
                have ltz := bz.lt
                have z0 := bz.c 0 rfl
                refine wp_region_cut 5 (by kernel_rfl) (by simp only [List.take_succ_cons, List.take_zero]; exact rfl) (by simp only [List.drop_succ_cons, List.drop_zero]; exact rfl) (by kernel_rfl) ?_
                apply any_region_J (w0 := wr) [[], [], [], [], []] [true, true, true, true, true] [] (fun ixq y => match ixq with  | _ => undef) (fun ixq x F wq => match ixq with  | _ => True) (fun a x => a) (by kernel_rfl) (fun _ => rfl) [] (by kernel_rfl)
                · intro x D hD
                  have hne := hD.some
                  have k0 := liftB hD z0 (by first | assumption | omega)
                  have k2 := liftB hD q0 (by first | assumption | omega)
                  have k3 := liftB hD q1 (by first | assumption | omega)
                  have k4 := liftB hD q2 (by first | assumption | omega)
                  have k5 := liftB hD q3 (by first | assumption | omega)
                  have k6 := liftB hD q4 (by first | assumption | omega)
                  simp only [takeOps, Act.put, List.setIfInBounds_toArray, List.set_cons_succ, List.set_cons_zero]
                  repeat (go_big_quiet_step (fail))
                  exact wpQuiet_nil rfl
                · exact fun _ h => absurd h (by simp)
                · exact trivial
                · exact trivial
                intro xx w5 F hL hlv4 hap4
                clear hap4
                clear hlv4
                refine ⟨rfl, ?_⟩
                clear q0 q1 q2 q3 q4 ltb
                replace HM := hide (HM.out.later hL)
                replace HA := hide (HA.out.later hL)
                replace HI := hide (HI.out.later hL)
                clear hL bz ltz z0
                go_wp2_with fail
                refine (C1.out A' c' _ HA.out).mono ?_
                rintro e w6 ⟨A2, c2, rfl, hA2, hb⟩
                replace HM := hide (HM.out.later hb)
                replace HA := hide (HA.out.later hb)
                replace HI := hide (HI.out.later hb)
                clear hb
                clear HA
                have HA2 := hide (show AreaH w6 A2 (frB l (i + 1)) from hA2)
                clear hA2
                have bz : Blk w6 gb 128 #[.slice A' nb c'] := HM.out.get 1 rfl
                have ltz := bz.lt
                have z0 := bz.c 0 rfl
                have fz0 := bz.frozen 0
                go_wp2_with fail
                go_roundw
                case rel => exact ⟨i + 1, A2, c2, hlt, by go_num, HA2.out.set (HM.out.get 1 rfl) 0 _, (HM.out.set_ 1 rfl 0 (.slice A2 (frB l (i + 1)).length c2) rfl).tail, fun i' j' h1 h2 h3 => by
                  by_cases e : i' < i
                  · exact HNO.out i' j' h1 h2 e
                  · have e2 : i' = i := by omega
                    subst e2
                    exact HNF.out j' h1 h2⟩
                case measure => simp [intOf] <;> omega
          · obtain rfl : i = n := by omega
            have hkk : ¬ ((i : Int) < i) := by omega
            have hf := HFIN.out fun i' j' h1 h2 => HNO.out i' j' h1 h2 (by omega)
            subst hf
            go_wp2
            exact bodyPost_ret (v := .tuple #[.int .i64 0, .int .i64 0, .int .i64 14]) (by simp [results, Try.results28, go_sem]) rfl ⟨by rfl, HM.out.below⟩
  · have hS : frontE l = listE l := by unfold frontE; rw [if_pos he]
    rw [hS, if_neg he]
    simp only [z0]
    obtain ⟨e0, hee⟩ : ∃ e, listE l = e := ⟨_, rfl⟩
    have hd : (e0 != 0) = true := by rw [hee] at he; simp [he]
    rw [hee] at he ⊢
    simp only [hee] at hL
    generalize l.length = n at *
    have HL := hide hL
    clear hL
    clear hA hI hee hS hAa
    go_enter Try.func28, Try.ntmps28
    have HM := hide (Mem.start w)
    go_wp2_with fail
    refine (HL.out _ HM.out.below).mono ?_
    rintro e w1 ⟨rfl, hb⟩
    replace HM := hide (HM.out.later hb)
    clear hb
    go_wp2
    exact bodyPost_ret (v := .tuple #[.int .i64 0, .int .i64 0, .int .i64 e0]) (by simp [results, Try.results28, go_sem]) rfl ⟨rfl, HM.out.below⟩
end Go.Proofs.Ytllpffkifleigaa
end
section
namespace Go.Proofs.Ytllpffkifleigaa
open Go Go.RowKit

/-- An area in blocks of F. -/
def AreaF (w : World) (F : Nat → Prop) (A : Option Addr) (L : List Bd) : Prop := 0 < L.length → ∃ b off, A = some ⟨b, off, none⟩ ∧ F b ∧ b < w.heap.size ∧ ∀ i, i < L.length → w.cell? ⟨b, off + i * 3, none⟩ = some (.int .i64 (L.getD i bd0).a) ∧ w.cell? ⟨b, off + i * 3 + 1, none⟩ = some (.int .i64 (L.getD i bd0).b) ∧ w.cell? ⟨b, off + i * 3 + 2, none⟩ = some (.int .i64 (L.getD i bd0).c)
theorem AreaF.stab {w w' : World} {F : Nat → Prop} {A : Option Addr} {L : List Bd} (h : AreaF w F A L) (hs : w.heap.size ≤ w'.heap.size) (hk : ∀ k, F k → w'.heap[k]? = w.heap[k]?) : AreaF w' F A L := fun hn => by
  obtain ⟨b, off, e, hF, hl, hc⟩ := h hn
  refine ⟨b, off, e, hF, by omega, fun i hi => ?_⟩
  rw [cell_same (hk b hF), cell_same (hk b hF), cell_same (hk b hF)]
  exact hc i hi
theorem AreaF.at_ {w : World} {F : Nat → Prop} {A : Option Addr} {L : List Bd} (h : AreaF w F A L) : AreaH w A L := fun hn => by
  obtain ⟨b, off, e, -, hl, hc⟩ := h hn
  exact ⟨b, off, e, hl, hc⟩
theorem owe_area {R : Nat → (Nat → Par) → (Nat → Prop) → World → Prop} {s : St} (j : Nat) (L : List Bd) (hR : ∀ (x : Nat → Par) (F : Nat → Prop) (w : World), R s.i x F w = AreaF w F (x j 0).1 L) (hj : j = s.i ∨ j ∈ s.dep) : Owes R s :=
  ⟨fun x F w w' h hs hk => by rw [hR] at *; exact h.stab hs hk, fun x x' F w hx h => by rw [hR] at *; rw [← hx j hj]; exact h⟩
theorem ret_area {w : World} {g n : Nat} {t : TypeId} {cs : Array Value} {L : List Bd} (h : Blk w g t cs) (hq : cs.toList = bdsV L) (hg : n ≤ g) : AreaF w (fun k => n ≤ k ∧ k < w.heap.size) (some ⟨g, 0, none⟩) L := fun hn => by
  obtain ⟨b, off, e, hl, hc⟩ := area_blk h hq hn
  injection e with e
  injection e with e1 e2 _
  subst e1
  exact ⟨g, off, by rw [e2], ⟨hg, hl⟩, hl, hc⟩
set_option maxHeartbeats 1000000 in
set_option maxRecDepth 100000 in
theorem sky_new (w : World) : Calls Try.prog 61 #[] w fun e w' => ∃ A c, e = .returned (.agg #[.slice A 4 c]) ∧ AreaF w' (fun k => w.heap.size ≤ k ∧ k < w'.heap.size) A skyL ∧ Below w.heap.size w w' := by
  go_enter Try.func61, Try.ntmps61
  go_wp2
  refine bodyPost_ret (v := .agg #[.slice (some ⟨w.heap.size + 1, 0, none⟩) 4 4]) (by simp [results, Try.results61, go_sem]) rfl ?_
  refine ⟨_, 4, rfl, ?_, ?_⟩
  · exact ret_area (blk_new_at (by simp)) rfl (by omega)
  · repeat (first | exact Below.refl _ _ | (refine Below.setCell ?_ (by first | omega | (simp; done) | (simp; omega)) _) | (refine Below.alloc ?_ (by first | omega | (simp; done) | (simp; omega)) _) | (refine below_drewN ?_ _))
/-- A set and an error. -/
def SetPost (w : World) (t : List Nat) (ev : Int) (e : Ending) (w' : World) : Prop := ∃ A c, e = .returned (.tuple #[.slice A t.length c, .int .i64 ev]) ∧ Below w.heap.size w w' ∧ SetM w' A t
set_option maxHeartbeats 1000000 in
set_option maxRecDepth 100000 in
theorem Blame_any (A : Option Addr) (l : List Sgt) (c : Nat) (w : World) (hmax : l.length ≤ maxLen) (hA : SgtsAt w w.heap.size A l) (hI : AllI l) :
    Calls Try.prog 21 #[.slice A l.length c] w (SetPost w (blameA l) (blameE l)) := by
  have hL := fun (W : World) (hW : Below w.heap.size w W) => listed_any A l c W hmax (hA.below hW) hI
  by_cases he : listE l = 0
  · obtain ⟨hl1, hl2⟩ := listE_ok.1 he
    have hN := fun (W : World) (hW : Below w.heap.size w W) (A1 : Option Addr) (c1 : Nat) (ha : AreaH W A1 skyL) => sights_any A l c 0 W hl1 hl2 (by omega) (by omega) (hA.below hW) A1 c1 ha
    have hE := fun (W : World) (A' : Option Addr) (c' : Nat) => empty_any A' (narL skyL l 0).length c' W
    simp only [empty_emp] at hE
    have hF := fun (bl : Nat) (W : World) (hW : Below w.heap.size w W) (hb : Blk W bl 25 #[.slice A l.length c]) => firstBlame_any (fun s => empB (pick l s) 0) l.length 1 3 bl W hl1 (by omega) (by omega)
      (fun W' A' t c' hW' hs ht htl => blame1_any A l c bl A' t c' W' hl1 hl2 (blk_later hb hW') (hA.below (onward hW hW')) ht htl hs)
    have hEa : blameE l = if agrB l 0 = true then 4 else 0 := by unfold blameE; rw [if_neg (by rw [he]; simp)]
    have hemp := empB_eq l 0
    simp only [he] at hL
    have hAa : blameA l = if blameE l = 0 then (blameP l).getD [] else [] := rfl
    have hfa : fstA (fun s => empB (pick l s) 0) l.length 1 3 = (blameP l).getD [] := rfl
    have hfb : fstB (fun s => empB (pick l s) 0) l.length 1 3 = (blameP l).isSome := rfl
    have e1 : ((1 : Nat) : Int) = 1 := rfl
    have e3 : ((3 : Nat) : Int) = 3 := rfl
    unfold FirstPost at hF
    rw [hfa, hfb] at hF
    simp only [e1, e3] at hF
    rw [hAa, hEa]
    have hbn := fun h => blame_none (l := l) h
    obtain ⟨b, hb⟩ : ∃ b, agrB l 0 = b := ⟨_, rfl⟩
    rw [hb] at hemp hbn ⊢
    simp only [hemp] at hE
    obtain ⟨n, hn⟩ : ∃ n, l.length = n := ⟨_, rfl⟩
    rw [hn] at hL hN hF hl1
    have hln : (n : Int) ≤ 360 := by omega
    generalize blameP l = bp at *
    have HL := hide hL
    have HN := hide hN
    have HE := hide hE
    have HF := hide hF
    clear hL hN hE hF
    clear hA hI hAa hfa hfb hEa hemp hb hl2 he e1 e3
    cases b with
    | true =>
      simp only [if_true]
      clear hbn HF
      go_enter Try.func21, Try.ntmps21
      have HM := hide (Mem.start w)
      go_wp2_with fail
      refine at_world fun W hW => ?_
      have HMn := Mem.to (Mem.allocAt HM.out w.heap.size rfl #[.slice A n c] 25) hW
      have LW : Later w W := by rw [hW]; exact ((Below.refl _ _).alloc (Nat.le_refl _) _)
      have szW : W.heap.size = w.heap.size + 1 := by rw [hW]; simp
      clear hW
      replace HM := hide HMn
      clear HMn LW
      clear szW
      generalize hg0 : w.heap.size = gl at HM ⊢
      refine (HL.out _ HM.out.below).mono ?_
      rintro e w1 ⟨rfl, hb⟩
      replace HM := hide (HM.out.later hb)
      clear hb
      go_wp2_with fail
      have bz : Blk w1 gl 25 #[.slice A n c] := HM.out.get 0 rfl
      have ltz := bz.lt
      have z0 := bz.c 0 rfl
      go_wp2_with fail
      refine wp_region_cut 2 (by kernel_rfl) (by simp only [List.take_succ_cons, List.take_zero]; exact rfl) (by simp only [List.drop_succ_cons, List.drop_zero]; exact rfl) (by kernel_rfl) ?_
      apply any_region_J (w0 := w1) [[], []] [false, true] [⟨0, none, [], []⟩] (fun ixq y => match ixq with | 0 => .agg #[.slice (y 0).1 4 (y 0).2] | _ => undef) (fun ixq x F wq => match ixq with | 0 => AreaF wq F (x 0 0).1 skyL | _ => True) (fun a x => (a).put (some 12) (.agg #[.slice ((x 0) 0).1 4 ((x 0) 0).2])) (by kernel_rfl) (fun _ => rfl) [] (by kernel_rfl)
      · intro x D hD
        have hne := hD.some
        have k1 := liftB hD z0 (by first | assumption | omega)
        simp only [takeOps, Act.put, List.setIfInBounds_toArray, List.set_cons_succ, List.set_cons_zero]
        repeat (go_big_quiet_step (fail))
        exact wpQuiet_nil rfl
      · exact fun _ h => absurd h (by simp)
      · refine ⟨?_, trivial⟩
        · refine obl_callL rfl (fun _ => by kernel_rfl) 61 (fun x => #[]) (fun x w => by kernel_rfl) ?_
          intro x w F hL hN
          refine (sky_new w).mono ?_
          rintro e w' ⟨A1, c1, rfl, ha, hb⟩
          exact ⟨fun _ => (A1, c1), rfl, hb, ha⟩
      · refine ⟨?_, trivial⟩
        · exact owe_area 0 skyL (fun _ _ _ => rfl) (by simp)
      intro xx w3 F hL hlv1 hap1
      clear hap1
      obtain ⟨fct0, -⟩ := hlv1
      replace fct0 : AreaF w3 (F 0) (xx 0 0).1 skyL := fct0 rfl
      refine ⟨rfl, ?_⟩
      replace HM := hide (HM.out.later hL)
      clear hL bz ltz z0
      have HA1 := hide (AreaF.at_ fct0)
      clear fct0
      generalize (xx 0 0).1 = A1 at *
      generalize (xx 0 0).2 = c1 at *
      go_wp2_with fail
      refine (HN.out _ HM.out.below A1 c1 HA1.out).mono ?_
      rintro e w4 ⟨A2, c2, rfl, hA2, hb⟩
      replace HM := hide (HM.out.later hb)
      replace HA1 := hide (HA1.out.later hb)
      clear hb
      clear HA1
      clear hA2
      go_wp2_with fail
      refine (HE.out _ A2 c2).mono ?_
      rintro e w5 ⟨rfl, hb⟩
      replace HM := hide (HM.out.later hb)
      clear hb
      go_wp2
      refine bodyPost_ret (v := .tuple #[.slice none 0 0, .int .i64 4]) (by simp [results, Try.results21, go_sem]) rfl ⟨none, 0, rfl, by first | exact HM.out.below | (rw [← hg0]; exact HM.out.below), fun h => by simp at h⟩
    | false =>
      obtain ⟨t, rfl, -, ht1, ht2, -⟩ := hbn rfl
      clear hbn
      have hgt : (some t).getD [] = t := rfl
      have hgs : (some t).isSome = true := rfl
      rw [hgt, hgs] at HF
      simp only [Bool.false_eq_true, if_false, if_true, hgt]
      clear hgt hgs
      go_enter Try.func21, Try.ntmps21
      have HM := hide (Mem.start w)
      go_wp2_with fail
      refine at_world fun W hW => ?_
      have HMn := Mem.to (Mem.allocAt HM.out w.heap.size rfl #[.slice A n c] 25) hW
      have LW : Later w W := by rw [hW]; exact ((Below.refl _ _).alloc (Nat.le_refl _) _)
      have szW : W.heap.size = w.heap.size + 1 := by rw [hW]; simp
      clear hW
      replace HM := hide HMn
      clear HMn LW
      clear szW
      generalize hg0 : w.heap.size = gl at HM ⊢
      refine (HL.out _ HM.out.below).mono ?_
      rintro e w1 ⟨rfl, hb⟩
      replace HM := hide (HM.out.later hb)
      clear hb
      go_wp2_with fail
      have bz : Blk w1 gl 25 #[.slice A n c] := HM.out.get 0 rfl
      have ltz := bz.lt
      have z0 := bz.c 0 rfl
      go_wp2_with fail
      refine wp_region_cut 2 (by kernel_rfl) (by simp only [List.take_succ_cons, List.take_zero]; exact rfl) (by simp only [List.drop_succ_cons, List.drop_zero]; exact rfl) (by kernel_rfl) ?_
      apply any_region_J (w0 := w1) [[], []] [false, true] [⟨0, none, [], []⟩] (fun ixq y => match ixq with | 0 => .agg #[.slice (y 0).1 4 (y 0).2] | _ => undef) (fun ixq x F wq => match ixq with | 0 => AreaF wq F (x 0 0).1 skyL | _ => True) (fun a x => (a).put (some 12) (.agg #[.slice ((x 0) 0).1 4 ((x 0) 0).2])) (by kernel_rfl) (fun _ => rfl) [] (by kernel_rfl)
      · intro x D hD
        have hne := hD.some
        have k1 := liftB hD z0 (by first | assumption | omega)
        simp only [takeOps, Act.put, List.setIfInBounds_toArray, List.set_cons_succ, List.set_cons_zero]
        repeat (go_big_quiet_step (fail))
        exact wpQuiet_nil rfl
      · exact fun _ h => absurd h (by simp)
      · refine ⟨?_, trivial⟩
        · refine obl_callL rfl (fun _ => by kernel_rfl) 61 (fun x => #[]) (fun x w => by kernel_rfl) ?_
          intro x w F hL hN
          refine (sky_new w).mono ?_
          rintro e w' ⟨A1, c1, rfl, ha, hb⟩
          exact ⟨fun _ => (A1, c1), rfl, hb, ha⟩
      · refine ⟨?_, trivial⟩
        · exact owe_area 0 skyL (fun _ _ _ => rfl) (by simp)
      intro xx w3 F hL hlv2 hap2
      clear hap2
      obtain ⟨fct0, -⟩ := hlv2
      replace fct0 : AreaF w3 (F 0) (xx 0 0).1 skyL := fct0 rfl
      refine ⟨rfl, ?_⟩
      replace HM := hide (HM.out.later hL)
      clear hL bz ltz z0
      have HA1 := hide (AreaF.at_ fct0)
      clear fct0
      generalize (xx 0 0).1 = A1 at *
      generalize (xx 0 0).2 = c1 at *
      go_wp2_with fail
      refine (HN.out _ HM.out.below A1 c1 HA1.out).mono ?_
      rintro e w4 ⟨A2, c2, rfl, hA2, hb⟩
      replace HM := hide (HM.out.later hb)
      replace HA1 := hide (HA1.out.later hb)
      clear hb
      clear HA1
      clear hA2
      go_wp2_with fail
      refine (HE.out _ A2 c2).mono ?_
      rintro e w5 ⟨rfl, hb⟩
      replace HM := hide (HM.out.later hb)
      clear hb
      have bz : Blk w5 gl 25 #[.slice A n c] := HM.out.get 0 rfl
      have ltz := bz.lt
      have z0 := bz.c 0 rfl
      go_wp2_with fail
      refine (HF.out gl _ HM.out.below (HM.out.get 0 rfl)).mono ?_
      rintro e w6 ⟨A3, c3, rfl, hb, hset⟩
      replace HM := hide (HM.out.later hb)
      clear hb bz ltz z0
      go_wp2
      refine bodyPost_ret (v := .tuple #[.slice A3 t.length c3, .int .i64 0]) (by simp [results, Try.results21, go_sem]) rfl ⟨A3, c3, rfl, by first | exact HM.out.below | (rw [← hg0]; exact HM.out.below), hset⟩
  · have hS : blameE l = listE l := by unfold blameE; rw [if_pos he]
    have hq : blameA l = [] := by unfold blameA; rw [hS, if_neg he]
    rw [hS, hq]
    obtain ⟨e0, hee⟩ : ∃ e, listE l = e := ⟨_, rfl⟩
    have hd : (e0 != 0) = true := by rw [hee] at he; simp [he]
    rw [hee] at he ⊢
    simp only [hee] at hL
    generalize l.length = n at *
    have HL := hide hL
    clear hL
    clear hA hI hee hS hq
    go_enter Try.func21, Try.ntmps21
    have HM := hide (Mem.start w)
    go_wp2_with fail
    refine at_world fun W hW => ?_
    have HMn := Mem.to (Mem.allocAt HM.out w.heap.size rfl #[.slice A n c] 25) hW
    have LW : Later w W := by rw [hW]; exact ((Below.refl _ _).alloc (Nat.le_refl _) _)
    have szW : W.heap.size = w.heap.size + 1 := by rw [hW]; simp
    clear hW
    replace HM := hide HMn
    clear HMn LW
    clear szW
    generalize hg0 : w.heap.size = gl at HM ⊢
    refine (HL.out _ HM.out.below).mono ?_
    rintro e w1 ⟨rfl, hb⟩
    replace HM := hide (HM.out.later hb)
    clear hb
    go_wp2
    refine bodyPost_ret (v := .tuple #[.slice none 0 0, .int .i64 e0]) (by simp [results, Try.results21, go_sem]) rfl ⟨none, 0, rfl, by first | exact HM.out.below | (rw [← hg0]; exact HM.out.below), fun h => by simp at h⟩
end Go.Proofs.Ytllpffkifleigaa
end
section
namespace Go.Proofs.Ytllpffkifleigaa
open Go Go.RowKit

/-- Sights, cell by cell. -/
def sgsV (L : List Sgt) : List Value := L.flatMap fun s => [.int .i64 s.x, .int .i64 s.y, .int .i64 s.l, .int .i64 s.lo, .int .i64 s.hi]
theorem sgsV_app (a b : List Sgt) : sgsV (a ++ b) = sgsV a ++ sgsV b := by unfold sgsV; rw [List.flatMap_append]
theorem sgsV_len (L : List Sgt) : (sgsV L).length = L.length * 5 := by
  induction L with
  | nil => rfl
  | cons s L ih =>
    unfold sgsV at *
    rw [List.flatMap_cons, List.length_append, ih, List.length_cons]
    simp
    omega
theorem sgsV_get : ∀ (L : List Sgt) (i : Nat), i < L.length → (sgsV L)[i * 5]? = some (.int .i64 (L.getD i sg0).x) ∧ (sgsV L)[i * 5 + 1]? = some (.int .i64 (L.getD i sg0).y) ∧ (sgsV L)[i * 5 + 2]? = some (.int .i64 (L.getD i sg0).l) ∧ (sgsV L)[i * 5 + 3]? = some (.int .i64 (L.getD i sg0).lo) ∧ (sgsV L)[i * 5 + 4]? = some (.int .i64 (L.getD i sg0).hi)
  | [], i, h => absurd h (by simp)
  | x :: L, 0, _ => ⟨rfl, rfl, rfl, rfl, rfl⟩
  | x :: L, i + 1, h => by
    have := sgsV_get L i (by simpa using h)
    have e : sgsV (x :: L) = [.int .i64 x.x, .int .i64 x.y, .int .i64 x.l, .int .i64 x.lo, .int .i64 x.hi] ++ sgsV L := rfl
    rw [e, show (i + 1) * 5 = i * 5 + 5 by omega]
    exact this
theorem sgts_blk {w : World} {g : Nat} {t : TypeId} {cs : Array Value} {L : List Sgt} (h : Blk w g t cs) (hq : ∀ (i : Nat) (u : Value), (sgsV L)[i]? = some u → cs[i]? = some u) : SgtsH w (some ⟨g, 0, none⟩) L := fun _ => by
  refine ⟨g, 0, rfl, h.lt, fun i hi => ?_⟩
  obtain ⟨c1, c2, c3, c4, c5⟩ := sgsV_get L i hi
  rw [Nat.zero_add]
  exact ⟨h.c _ (hq _ _ c1), h.c _ (hq _ _ c2), h.c _ (hq _ _ c3), h.c _ (hq _ _ c4), h.c _ (hq _ _ c5)⟩
theorem sgts_own {w : World} {base c n : Nat} {A : Option Addr} {L : List Sgt} (hn : L.length = n) (h : w.ownsRow base 71 5 (.slice A n c) n (sgsV L)) : SgtsH w A L := fun hl => by
  obtain ⟨b, cur, rfl, -, hb, -, -, hc⟩ := row_blk h (by omega)
  exact sgts_blk hb hc hl
theorem SgtsH.take {w : World} {A : Option Addr} {L : List Sgt} (h : SgtsH w A L) (k : Nat) : SgtsH w A (L.take k) := fun hn => by
  rw [List.length_take] at hn
  obtain ⟨b, off, e, hl, hc⟩ := h (by omega)
  refine ⟨b, off, e, hl, fun i hi => ?_⟩
  rw [List.length_take] at hi
  have := hc i (by omega)
  rw [show (L.take k).getD i sg0 = L.getD i sg0 by rw [List.getD_eq_getElem?_getD, List.getElem?_take, if_pos (by omega), List.getD_eq_getElem?_getD]]
  exact this
theorem SetM.ints {W : World} {A : Option Addr} {t : List Nat} (h : SetM W A t) : Ints W W.heap.size .i64 A (t.map fun i => ((i : Nat) : Int)) := fun hn => by
  rw [List.length_map] at hn
  obtain ⟨b, cs, rfl, hb, hc⟩ := h hn
  refine ⟨b, 0, rfl, hb.lt, fun j hj => ?_⟩
  rw [List.length_map] at hj
  rw [Nat.zero_add]
  have := hb.c j (hc j hj)
  rw [this]
  simp [List.getD_eq_getElem?_getD, List.getElem?_map, hj]
set_option maxHeartbeats 1000000 in
set_option maxRecDepth 100000 in
theorem span_any (lo hi : Int) (w : World) : Calls Try.prog 40 #[.int .i64 lo, .int .i64 hi] w fun e w' => e = .returned (.agg #[.int .i64 lo, .int .i64 hi]) ∧ Below w.heap.size w w' := by
  go_enter Try.func40, Try.ntmps40
  go_wp2
  refine bodyPost_ret (v := .agg #[.int .i64 lo, .int .i64 hi]) (by simp [results, Try.results40, go_sem]) rfl ⟨rfl, ?_⟩
  repeat (first | exact Below.refl _ _ | (refine Below.setCell ?_ (by first | omega | (simp; done) | (simp; omega)) _) | (refine Below.alloc ?_ (by first | omega | (simp; done) | (simp; omega)) _) | (refine below_drewN ?_ _))
set_option maxHeartbeats 1000000 in
set_option maxRecDepth 100000 in
theorem sight_any (x y l lo hi : Int) (w : World) : Calls Try.prog 39 #[.int .i64 x, .int .i64 y, .int .i64 l, .int .i64 lo, .int .i64 hi] w fun e w' => e = .returned (.agg #[.int .i64 x, .int .i64 y, .int .i64 l, .int .i64 lo, .int .i64 hi]) ∧ Below w.heap.size w w' := by
  go_enter Try.func39, Try.ntmps39
  have HM := hide (Mem.start w)
  go_upto_region 1 with fail
  refine code_world fun W hW => ?_
  have HMn := Mem.to (Mem.allocAt HM.out w.heap.size rfl #[.int .i64 0, .int .i64 0, .int .i64 0, .int .i64 0, .int .i64 0] 71) hW
  have LW : Later w W := by rw [hW]; exact ((Below.refl _ _).alloc (Nat.le_refl _) _)
  have szW : W.heap.size = w.heap.size + 1 := by rw [hW]; simp
  clear hW
  replace HM := hide HMn
  clear HMn LW
  clear szW
  generalize hg0 : w.heap.size = gr at HM ⊢
  go_wp2_with fail
  refine (span_any _ _ _).mono ?_
  rintro e w1 ⟨rfl, hb⟩
  replace HM := hide (HM.out.later hb)
  clear hb
  have bk : Blk w1 gr 71 #[.int .i64 0, .int .i64 0, .int .i64 0, .int .i64 0, .int .i64 0] := HM.out.get 0 rfl
  have ltk := bk.lt
  have k0 := bk.c 0 rfl
  have fk0 := bk.frozen 0
  have k1 := bk.c 1 rfl
  have fk1 := bk.frozen 1
  have k2 := bk.c 2 rfl
  have fk2 := bk.frozen 2
  have k3 := bk.c 3 rfl
  have fk3 := bk.frozen 3
  have k4 := bk.c 4 rfl
  have fk4 := bk.frozen 4
  go_wp2
  have HM1 := hide (((((HM.out.set_ 0 rfl 0 (.int .i64 x) rfl).set_ 0 rfl 1 (.int .i64 y) rfl).set_ 0 rfl 2 (.int .i64 l) rfl).set_ 0 rfl 3 (.int .i64 lo) rfl).set_ 0 rfl 4 (.int .i64 hi) rfl)
  have s0 := (HM1.out.blk_ 0 rfl).c 0 rfl
  have s1 := (HM1.out.blk_ 0 rfl).c 1 rfl
  have s2 := (HM1.out.blk_ 0 rfl).c 2 rfl
  have s3 := (HM1.out.blk_ 0 rfl).c 3 rfl
  have s4 := (HM1.out.blk_ 0 rfl).c 4 rfl
  have lts := (HM1.out.blk_ 0 rfl).lt
  refine ret_world fun W1 hW1 => ?_
  rw [← hW1] at HM1 s0 s1 s2 s3 s4 lts
  exact bodyPost_ret (v := .agg #[.int .i64 x, .int .i64 y, .int .i64 l, .int .i64 lo, .int .i64 hi]) (by simp [results, Try.results39, go_sem, s0, s1, s2, s3, s4, lts]) rfl ⟨rfl, by first | exact HM1.out.below | (rw [← hg0]; exact HM1.out.below)⟩
set_option maxHeartbeats 1000000 in
set_option maxRecDepth 100000 in
theorem example_any (w : World) : Calls Try.prog 55 #[] w fun e w' => ∃ g, e = .returned (.slice (some ⟨g, 0, none⟩) 4 4) ∧ Below w.heap.size w w' ∧ Blk w' g 71 (sgsV ex4).toArray := by
  go_enter Try.func55, Try.ntmps55
  have HM := hide (Mem.start w)
  go_wp2_with fail
  refine (sight_any _ _ _ _ _ _).mono ?_
  rintro e w1 ⟨rfl, hb⟩
  replace HM := hide (HM.out.later hb)
  clear hb
  go_wp2_with fail
  refine (sight_any _ _ _ _ _ _).mono ?_
  rintro e w2 ⟨rfl, hb⟩
  replace HM := hide (HM.out.later hb)
  clear hb
  go_wp2_with fail
  refine (sight_any _ _ _ _ _ _).mono ?_
  rintro e w3 ⟨rfl, hb⟩
  replace HM := hide (HM.out.later hb)
  clear hb
  go_wp2_with fail
  refine (sight_any _ _ _ _ _ _).mono ?_
  rintro e w4 ⟨rfl, hb⟩
  replace HM := hide (HM.out.later hb)
  clear hb
  go_wp2
  refine bodyPost_ret (v := .slice (some ⟨w4.heap.size, 0, none⟩) 4 4) (by simp [results, Try.results55, go_sem]) rfl ⟨w4.heap.size, rfl, ?_, ?_⟩
  · exact HM.out.below.alloc HM.out.below.size _
  · exact blk_new_at rfl
set_option maxHeartbeats 1000000 in
set_option maxRecDepth 100000 in
theorem numbers_any (A B : Option Addr) (n ca cb BB : Nat) (l : List Int) (w : World) (hn : l.length = n) (hmax : n ≤ 9223372036854775807) (hBB : BB ≤ w.heap.size) (ha : Ints w BB .i64 A l) (hb : Ints w BB .i64 B l) :
    Calls Try.prog 23 #[.slice A n ca, .slice B n cb] w fun e w' => e = .returned (.bool true) ∧ Below w.heap.size w w' := by
  have Hn := hide hn
  have Ha := hide ha
  have Hb := hide hb
  clear hn ha hb
  go_enter Try.func23, Try.ntmps23
  go_wp2_with fail
  go_loopw [5] (fun i wr => ∃ k : Nat, k ≤ n ∧ i = .int .i64 k ∧ Below w.heap.size w wr) (fun i _ => n - (intOf i).toNat)
  case atStart => exact ⟨0, by omega, rfl, Below.refl _ _⟩
  case round =>
    obtain ⟨k, hk, rfl, hbw⟩ := hrel
    have HB := hide hbw
    clear hbw
    have hsw := HB.out.size
    by_cases hlt : k < n
    · obtain ⟨b, off, rfl, hb1, hc⟩ := Ha.out (by have := Hn.out; omega)
      obtain ⟨b', off', rfl, hb2, hc'⟩ := Hb.out (by have := Hn.out; omega)
      have p0 := hc k (by have := Hn.out; omega)
      have p1 := hc' k (by have := Hn.out; omega)
      rw [← HB.out.cell (show b < w.heap.size by omega)] at p0
      rw [← HB.out.cell (show b' < w.heap.size by omega)] at p1
      generalize l.getD k 0 = v at p0 p1
      clear hc hc'
      go_wp2_with fail
      go_quiet (fail)
      go_wp2
      go_roundw
      case rel => exact ⟨k + 1, by omega, by go_num, below_drewN HB.out _⟩
      case measure => simp [intOf]; omega
    · obtain rfl : k = n := by omega
      go_wp2
      go_ret
      exact ⟨rfl, HB.out⟩
end Go.Proofs.Ytllpffkifleigaa
end
section
namespace Go.Proofs.Ytllpffkifleigaa
open Go Go.RowKit

set_option maxHeartbeats 1000000 in
set_option maxRecDepth 100000 in
theorem Without_any (A : Option Addr) (l : List Sgt) (c : Nat) (most : Int) (w : World) (hmax : l.length ≤ maxLen) (hA : SgtsAt w w.heap.size A l) (hI : AllI l) :
    Calls Try.prog 26 #[.slice A l.length c, .int .i64 most] w (SetPost w (withoutA l most) (withoutE l most)) := by
  have hL := fun (W : World) (hW : Below w.heap.size w W) => listed_any A l c W hmax (hA.below hW) hI
  by_cases he : listE l = 0
  · obtain ⟨hl1, hl2⟩ := listE_ok.1 he
    have hF := fun (m : Nat) (hm : m ≤ 2) (bl : Nat) (W : World) (hW : Below w.heap.size w W) (hb : Blk W bl 25 #[.slice A l.length c]) => firstWithout_any (fun s => !empB (outR l s) 0) l.length 0 m bl W hl1 (by omega) (by omega)
      (fun W' A' t c' hW' hs ht htl => without1_any A l c bl A' t c' W' hl1 hl2 (blk_later hb hW') (hA.below (onward hW hW')) htl hs)
    have hEa : withoutE l most = if 0 ≤ most ∧ most ≤ 2 then (if (withoutP l most.toNat).isSome = true then 0 else 14) else 3 := by unfold withoutE; rw [if_neg (by rw [he]; simp)]
    simp only [he] at hL
    have hAa : withoutA l most = if withoutE l most = 0 then (withoutP l most.toNat).getD [] else [] := rfl
    have hfa : ∀ m, fstA (fun s => !empB (outR l s) 0) l.length 0 m = (withoutP l m).getD [] := fun m => rfl
    have hfb : ∀ m, fstB (fun s => !empB (outR l s) 0) l.length 0 m = (withoutP l m).isSome := fun m => rfl
    have e1 : ((0 : Nat) : Int) = 0 := rfl
    unfold FirstPost at hF
    simp only [hfa, hfb, e1] at hF
    rw [hAa, hEa]
    obtain ⟨n, hn⟩ : ∃ n, l.length = n := ⟨_, rfl⟩
    rw [hn] at hL hF hl1
    have hln : (n : Int) ≤ 360 := by omega
    have HL := hide hL
    clear hL
    by_cases hm : 0 ≤ most ∧ most ≤ 2
    · rw [if_pos hm]
      obtain ⟨hm1, hm2⟩ := hm
      obtain ⟨m, rfl⟩ : ∃ m : Nat, most = m := ⟨most.toNat, by omega⟩
      have hF2 := hF m (by omega)
      rw [Int.toNat_natCast]
      generalize withoutP l m = bp at *
      have hd1 : decide ((m : Int) < 0) = false := decide_eq_false (by omega)
      have hd2 : decide ((2 : Int) < m) = false := decide_eq_false (by omega)
      clear hA hI hAa hfa hfb hEa hl2 he e1 hF
      have HF := hide hF2
      clear hF2
      cases bp with
      | none =>
        have hgt : (none : Option (List Nat)).getD [] = [] := rfl
        have hgs : (none : Option (List Nat)).isSome = false := rfl
        simp only [hgt, hgs] at HF
        simp only [hgt, hgs, Bool.false_eq_true, if_false]
        rw [if_neg (by omega)]
        clear hgt hgs
        go_enter Try.func26, Try.ntmps26
        have HM := hide (Mem.start w)
        go_wp2_with fail
        refine at_world fun W hW => ?_
        have HMn := Mem.to (Mem.allocAt HM.out w.heap.size rfl #[.slice A n c] 25) hW
        have LW : Later w W := by rw [hW]; exact ((Below.refl _ _).alloc (Nat.le_refl _) _)
        have szW : W.heap.size = w.heap.size + 1 := by rw [hW]; simp
        clear hW
        replace HM := hide HMn
        clear HMn LW
        clear szW
        generalize hg0 : w.heap.size = gl at HM ⊢
        refine (HL.out _ HM.out.below).mono ?_
        rintro e w1 ⟨rfl, hb⟩
        replace HM := hide (HM.out.later hb)
        clear hb
        have bz : Blk w1 gl 25 #[.slice A n c] := HM.out.get 0 rfl
        have ltz := bz.lt
        have z0 := bz.c 0 rfl
        go_wp2_with fail
        refine (HF.out gl _ HM.out.below (HM.out.get 0 rfl)).mono ?_
        rintro e w6 ⟨A3, c3, rfl, hb, hset⟩
        replace HM := hide (HM.out.later hb)
        clear hb bz ltz z0
        go_wp2
        refine bodyPost_ret (v := .tuple #[.slice none 0 0, .int .i64 14]) (by simp [results, Try.results26, go_sem]) rfl ⟨none, 0, rfl, by first | exact HM.out.below | (rw [← hg0]; exact HM.out.below), fun h => by simp at h⟩
      | some t =>
        have hgt : (some t).getD [] = t := rfl
        have hgs : (some t).isSome = true := rfl
        simp only [hgt, hgs] at HF
        simp only [hgt, hgs, if_true]
        clear hgt hgs
        go_enter Try.func26, Try.ntmps26
        have HM := hide (Mem.start w)
        go_wp2_with fail
        refine at_world fun W hW => ?_
        have HMn := Mem.to (Mem.allocAt HM.out w.heap.size rfl #[.slice A n c] 25) hW
        have LW : Later w W := by rw [hW]; exact ((Below.refl _ _).alloc (Nat.le_refl _) _)
        have szW : W.heap.size = w.heap.size + 1 := by rw [hW]; simp
        clear hW
        replace HM := hide HMn
        clear HMn LW
        clear szW
        generalize hg0 : w.heap.size = gl at HM ⊢
        refine (HL.out _ HM.out.below).mono ?_
        rintro e w1 ⟨rfl, hb⟩
        replace HM := hide (HM.out.later hb)
        clear hb
        have bz : Blk w1 gl 25 #[.slice A n c] := HM.out.get 0 rfl
        have ltz := bz.lt
        have z0 := bz.c 0 rfl
        go_wp2_with fail
        refine (HF.out gl _ HM.out.below (HM.out.get 0 rfl)).mono ?_
        rintro e w6 ⟨A3, c3, rfl, hb, hset⟩
        replace HM := hide (HM.out.later hb)
        clear hb bz ltz z0
        go_wp2
        refine bodyPost_ret (v := .tuple #[.slice A3 t.length c3, .int .i64 0]) (by simp [results, Try.results26, go_sem]) rfl ⟨A3, c3, rfl, by first | exact HM.out.below | (rw [← hg0]; exact HM.out.below), hset⟩
    · rw [if_neg hm, if_neg (by omega)]
      clear hA hI hAa hfa hfb hEa hl2 he e1 hF
      by_cases hm1 : most < 0
      · have hd1 : decide (most < 0) = true := decide_eq_true hm1
        go_enter Try.func26, Try.ntmps26
        have HM := hide (Mem.start w)
        go_wp2_with fail
        refine at_world fun W hW => ?_
        have HMn := Mem.to (Mem.allocAt HM.out w.heap.size rfl #[.slice A n c] 25) hW
        have LW : Later w W := by rw [hW]; exact ((Below.refl _ _).alloc (Nat.le_refl _) _)
        have szW : W.heap.size = w.heap.size + 1 := by rw [hW]; simp
        clear hW
        replace HM := hide HMn
        clear HMn LW
        clear szW
        generalize hg0 : w.heap.size = gl at HM ⊢
        refine (HL.out _ HM.out.below).mono ?_
        rintro e w1 ⟨rfl, hb⟩
        replace HM := hide (HM.out.later hb)
        clear hb
        go_wp2
        refine bodyPost_ret (v := .tuple #[.slice none 0 0, .int .i64 3]) (by simp [results, Try.results26, go_sem]) rfl ⟨none, 0, rfl, by first | exact HM.out.below | (rw [← hg0]; exact HM.out.below), fun h => by simp at h⟩
      · have hd1 : decide (most < 0) = false := decide_eq_false hm1
        have hm2 : (2 : Int) < most := by omega
        have hd2 : decide ((2 : Int) < most) = true := decide_eq_true hm2
        go_enter Try.func26, Try.ntmps26
        have HM := hide (Mem.start w)
        go_wp2_with fail
        refine at_world fun W hW => ?_
        have HMn := Mem.to (Mem.allocAt HM.out w.heap.size rfl #[.slice A n c] 25) hW
        have LW : Later w W := by rw [hW]; exact ((Below.refl _ _).alloc (Nat.le_refl _) _)
        have szW : W.heap.size = w.heap.size + 1 := by rw [hW]; simp
        clear hW
        replace HM := hide HMn
        clear HMn LW
        clear szW
        generalize hg0 : w.heap.size = gl at HM ⊢
        refine (HL.out _ HM.out.below).mono ?_
        rintro e w1 ⟨rfl, hb⟩
        replace HM := hide (HM.out.later hb)
        clear hb
        go_wp2
        refine bodyPost_ret (v := .tuple #[.slice none 0 0, .int .i64 3]) (by simp [results, Try.results26, go_sem]) rfl ⟨none, 0, rfl, by first | exact HM.out.below | (rw [← hg0]; exact HM.out.below), fun h => by simp at h⟩
  · have hS : withoutE l most = listE l := by unfold withoutE; rw [if_pos he]
    have hq : withoutA l most = [] := by unfold withoutA; rw [hS, if_neg he]
    rw [hS, hq]
    obtain ⟨e0, hee⟩ : ∃ e, listE l = e := ⟨_, rfl⟩
    have hd : (e0 != 0) = true := by rw [hee] at he; simp [he]
    rw [hee] at he ⊢
    simp only [hee] at hL
    generalize l.length = n at *
    have HL := hide hL
    clear hL
    clear hA hI hee hS hq
    go_enter Try.func26, Try.ntmps26
    have HM := hide (Mem.start w)
    go_wp2_with fail
    refine at_world fun W hW => ?_
    have HMn := Mem.to (Mem.allocAt HM.out w.heap.size rfl #[.slice A n c] 25) hW
    have LW : Later w W := by rw [hW]; exact ((Below.refl _ _).alloc (Nat.le_refl _) _)
    have szW : W.heap.size = w.heap.size + 1 := by rw [hW]; simp
    clear hW
    replace HM := hide HMn
    clear HMn LW
    clear szW
    generalize hg0 : w.heap.size = gl at HM ⊢
    refine (HL.out _ HM.out.below).mono ?_
    rintro e w1 ⟨rfl, hb⟩
    replace HM := hide (HM.out.later hb)
    clear hb
    go_wp2
    refine bodyPost_ret (v := .tuple #[.slice none 0 0, .int .i64 e0]) (by simp [results, Try.results26, go_sem]) rfl ⟨none, 0, rfl, by first | exact HM.out.below | (rw [← hg0]; exact HM.out.below), fun h => by simp at h⟩
end Go.Proofs.Ytllpffkifleigaa
end
