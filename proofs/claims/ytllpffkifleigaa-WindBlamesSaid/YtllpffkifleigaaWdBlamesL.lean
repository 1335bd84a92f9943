/-
  WindBlames: sights that are blamed are in conflict, without any one of them the others agree; the strain is just what is needed.
-/
import Derived.Test.YtllpffkifleigaaWdReachedL
set_option linter.unusedSimpArgs false
set_option linter.unusedVariables false
namespace Go.Proofs.Ytllpffkifleigaa
open Go Go.RowKit

theorem take_snocP {l : List Sgt} {t : List Nat} {k : Nat} (h : k < t.length) : pick l (t.take (k + 1)) = pick l (t.take k) ++ [l.getD (t.getD k 0) sg0] := pick_take h
theorem erase_eq {α : Type} (l : List α) (i : Nat) : l.eraseIdx i = l.take i ++ l.drop (i + 1) := List.eraseIdx_eq_take_drop_succ l i
set_option maxHeartbeats 1000000 in
set_option maxRecDepth 100000 in
theorem Blames_feas (A : Option Addr) (n c : Nat) (L : List Sgt) (u v p q sec : Int) (w : World) (hL : L.length = n) (hmax : n ≤ 10) (hnr : ∀ s ∈ L, Near s) (hf : Feas L 0)
    (hm : Calls Try.prog 33 #[.slice A n c, .int .i16 u, .int .i16 v, .int .i16 p, .int .i16 q, .int .u16 sec] w (RowPost w L)) :
    Calls Try.prog 7 #[.slice A n c, .int .i16 u, .int .i16 v, .int .i16 p, .int .i16 q, .int .u16 sec] w fun e w' => e = .returned (.bool true) ∧ Below w.heap.size w w' := by
  have hle := near_list hnr (by omega)
  have hag := agrB_iff.2 hf
  have hbE : blameE L = 4 := by unfold blameE; rw [if_neg (by rw [hle]; simp), if_pos hag]
  have hbA : blameA L = [] := by unfold blameA; rw [if_neg (by rw [hbE]; simp)]
  obtain ⟨-, -, hz, hw0, -⟩ := strain_facts hnr
  have hs0 : strainP L = 0 := hz.2 hf
  have hsA : strainA L = 0 := by unfold strainA; rw [if_neg (by rw [hle]; simp), hs0]
  rw [hs0] at hw0
  have hB := fun (A' : Option Addr) (c' : Nat) (W : World) (hs : SgtsH W A' L) => Blame_any A' L c' W (by unfold maxLen; omega) hs (near_allI hnr)
  have hS := fun (A' : Option Addr) (c' : Nat) (W : World) (hs : SgtsH W A' L) => Strain_any A' L c' W (by unfold maxLen; omega) hs (near_allI hnr)
  have hG := fun (A' : Option Addr) (c' : Nat) (W : World) (hs : SgtsH W A' L) => agrees_any A' n c' L W hL (by unfold maxLen; omega) hs (near_allI hnr)
  have hW := fun (A' : Option Addr) (c' : Nat) (W : World) (hs : SgtsH W A' L) => wider_any A' n c' L 0 W hL (by omega) hs (near_b hnr) (by omega) (by omega)
  have hV := fun (A' : Option Addr) (c' : Nat) (W : World) (hs : SgtsH W A' (L.map (wideS 0))) => agrees_any A' n c' (L.map (wideS 0)) W (by rw [List.length_map, hL]) (by unfold maxLen; omega) hs (wide_allI hnr)
  rw [decide_eq_true ((near_bnds hnr (by omega)).2 hf)] at hG
  rw [decide_eq_true ((wide_bnds hnr (by omega) (by omega) (by omega)).2 hw0)] at hV
  rw [hbE, hbA] at hB
  rw [hsA, hle] at hS
  rw [hL] at hB hS
  unfold RowPost at hm hW
  have hlw : (L.map (wideS 0)).length = n := by rw [List.length_map, hL]
  rw [hL] at hm
  rw [hlw] at hW
  have hm2 : ¬ (10 : Int) < n := by omega
  have HMX := hide hm
  have HB0 := hide hB
  have HS0 := hide hS
  have HG := hide hG
  have HW0 := hide hW
  have HV := hide hV
  have HLL := hide hL
  have HLW := hide hlw
  clear hm hB hS hG hW hV hL hlw
  clear hnr hf hle hag hbE hbA hz hs0 hsA hw0
  go_enter Try.func7, Try.ntmps7
  have HM := hide (Mem.start w)
  go_wp2_with fail
  refine (HMX.out).mono ?_
  rintro e w1 ⟨A1, c1, rfl, hb, ho⟩
  replace HM := hide (HM.out.later hb)
  clear hb
  have HS := hide (SlS.of_own HLL.out ho).sgts
  clear ho
  go_wp2_with fail
  refine (HB0.out _ _ _ HS.out).mono ?_
  rintro e w2 ⟨A2, c2, rfl, hb, hs2⟩
  replace HM := hide (HM.out.later hb)
  replace HS := hide (HS.out.later hb)
  clear hb
  clear hs2
  go_wp2_with fail
  refine (HS0.out _ _ _ HS.out).mono ?_
  rintro e w3 ⟨rfl, hb⟩
  replace HM := hide (HM.out.later hb)
  replace HS := hide (HS.out.later hb)
  clear hb
  go_wp2_with fail
  refine (HG.out _ _ _ HS.out).mono ?_
  rintro e w4 ⟨rfl, hb⟩
  replace HM := hide (HM.out.later hb)
  replace HS := hide (HS.out.later hb)
  clear hb
  go_wp2_with fail
  refine (HG.out _ _ _ HS.out).mono ?_
  rintro e w5 ⟨rfl, hb⟩
  replace HM := hide (HM.out.later hb)
  replace HS := hide (HS.out.later hb)
  clear hb
  go_wp2_with fail
  refine (HW0.out _ _ _ HS.out).mono ?_
  rintro e w6 ⟨A3, c3, rfl, hb, ho⟩
  replace HM := hide (HM.out.later hb)
  replace HS := hide (HS.out.later hb)
  clear hb
  have HS3 := hide (SlS.of_own HLW.out ho).sgts
  clear ho
  go_wp2_with fail
  refine (HV.out _ _ _ HS3.out).mono ?_
  rintro e w7 ⟨rfl, hb⟩
  replace HM := hide (HM.out.later hb)
  replace HS := hide (HS.out.later hb)
  clear hb
  go_wp2_with fail
  refine (works_any _).mono ?_
  rintro e w8 ⟨rfl, hb⟩
  replace HM := hide (HM.out.later hb)
  replace HS := hide (HS.out.later hb)
  clear hb
  go_wp2
  exact bodyPost_ret (v := .bool true) (by simp [results, Try.results7, go_sem]) rfl ⟨rfl, HM.out.below⟩
set_option maxHeartbeats 4000000 in
set_option maxRecDepth 100000 in
theorem Blames_not (A : Option Addr) (n c : Nat) (L : List Sgt) (u v p q sec : Int) (w : World) (hL : L.length = n) (hmax : n ≤ 10) (hnr : ∀ s ∈ L, Near s) (hf : ¬ Feas L 0)
    (hm : Calls Try.prog 33 #[.slice A n c, .int .i16 u, .int .i16 v, .int .i16 p, .int .i16 q, .int .u16 sec] w (RowPost w L)) :
    Calls Try.prog 7 #[.slice A n c, .int .i16 u, .int .i16 v, .int .i16 p, .int .i16 q, .int .u16 sec] w fun e w' => e = .returned (.bool true) ∧ Below w.heap.size w w' := by
  have hle := near_list hnr (by omega)
  have hag := agrB_no.2 hf
  obtain ⟨t, hP, -, ht1, ht2, hset, hfp⟩ := blame_same hf
  have hbE : blameE L = 0 := by unfold blameE; rw [if_neg (by rw [hle]; simp), if_neg (by rw [hag]; simp)]
  have hbA : blameA L = t := by unfold blameA; rw [if_pos hbE, hP]; rfl
  obtain ⟨hd0, hd1, hz, hw0, hwn⟩ := strain_facts hnr
  have hs0 : strainP L ≠ 0 := fun h => hf (hz.1 h)
  have hsA : strainA L = strainP L := by unfold strainA; rw [if_neg (by rw [hle]; simp)]
  have hwn := hwn (by omega)
  obtain ⟨d, hd⟩ : ∃ d, strainP L = d := ⟨_, rfl⟩
  rw [hd] at hd0 hd1 hw0 hwn hs0 hsA
  have hB := fun (A' : Option Addr) (c' : Nat) (W : World) (hs : SgtsH W A' L) => Blame_any A' L c' W (by unfold maxLen; omega) hs (near_allI hnr)
  have hS := fun (A' : Option Addr) (c' : Nat) (W : World) (hs : SgtsH W A' L) => Strain_any A' L c' W (by unfold maxLen; omega) hs (near_allI hnr)
  have hG := fun (A' : Option Addr) (c' : Nat) (W : World) (hs : SgtsH W A' L) => agrees_any A' n c' L W hL (by unfold maxLen; omega) hs (near_allI hnr)
  have hW := fun (A' : Option Addr) (c' : Nat) (W : World) (hs : SgtsH W A' L) => wider_any A' n c' L d W hL (by omega) hs (near_b hnr) (by omega) (by omega)
  have hV := fun (A' : Option Addr) (c' : Nat) (W : World) (hs : SgtsH W A' (L.map (wideS d))) => agrees_any A' n c' (L.map (wideS d)) W (by rw [List.length_map, hL]) (by unfold maxLen; omega) hs (wide_allI hnr)
  have hX := fun (A' : Option Addr) (c' : Nat) (W : World) (hs : SgtsH W A' L) => wider_any A' n c' L (d - 1) W hL (by omega) hs (near_b hnr) (by omega) (by omega)
  have hY := fun (A' : Option Addr) (c' : Nat) (W : World) (hs : SgtsH W A' (L.map (wideS (d - 1)))) => agrees_any A' n c' (L.map (wideS (d - 1))) W (by rw [List.length_map, hL]) (by unfold maxLen; omega) hs (wide_allI hnr)
  rw [decide_eq_false (fun h => hf ((near_bnds hnr (by omega)).1 h))] at hG
  rw [decide_eq_true ((wide_bnds hnr (by omega) (by omega) (by omega)).2 hw0)] at hV
  rw [decide_eq_false (fun h => hwn ((wide_bnds hnr (by omega) (by omega) (by omega)).1 h))] at hY
  rw [hbE, hbA] at hB
  rw [hsA, hle] at hS
  rw [hL] at hB hS
  unfold RowPost at hm hW hX
  have hlw : ∀ e, (L.map (wideS e)).length = n := fun e => by rw [List.length_map, hL]
  rw [hL] at hm
  rw [hlw] at hW hX
  have hm2 : ¬ (10 : Int) < n := by omega
  obtain ⟨m, hmt⟩ : ∃ m, t.length = m := ⟨_, rfl⟩
  obtain ⟨P, hPk⟩ : ∃ P, pick L t = P := ⟨_, rfl⟩
  have hPn : ∀ s ∈ P, Near s := fun s hs => by rw [← hPk] at hs; exact hnr _ (pick_sub hset hs)
  have hPl : P.length = m := by rw [← hPk, ← hmt]; unfold pick; rw [List.length_map]
  have hti : ∀ k, k < m → t.getD k 0 < n := fun k hk => by
    rw [← hL]
    exact (hset.mem (show t.getD k 0 ∈ t by rw [List.getD_eq_getElem?_getD, List.getElem?_eq_getElem (by omega)]; exact List.getElem_mem (by omega))).2
  have hup : ∀ k, k + 1 < m → t.getD k 0 < t.getD (k + 1) 0 := fun k hk => isSet_up hset (by omega)
  have hsnoc : ∀ k, k < m → sgsV (pick L (t.take (k + 1))) = sgsV (pick L (t.take k)) ++ sgsV [L.getD (t.getD k 0) sg0] := fun k hk => by rw [pick_take (by omega), sgsV_app]
  have hend : sgsV (pick L (t.take m)) = sgsV P := by rw [← hmt, List.take_length, hPk]
  have h0 : sgsV (pick L (t.take 0)) = [] := rfl
  obtain ⟨K, hK⟩ : ∃ K : Nat → List Value, K = fun k => sgsV (pick L (t.take k)) := ⟨_, rfl⟩
  have hKe : ∀ k, sgsV (pick L (t.take k)) = K k := fun k => by rw [hK]
  simp only [hKe] at hsnoc hend h0
  have hQ := fun (A' : Option Addr) (c' : Nat) (W : World) (hs : SgtsH W A' P) => agrees_any A' m c' P W hPl (by unfold maxLen; omega) hs (near_allI hPn)
  rw [decide_eq_false (fun h => hfp (by rw [hPk]; exact (near_bnds hPn (by omega)).1 h))] at hQ
  have hEr : ∀ i, i < m → ∀ (A' : Option Addr) (c' : Nat) (W : World), SgtsH W A' (P.take i ++ P.drop (i + 1)) → Calls Try.prog 34 #[.slice A' (0 + i + (m - (i + 1))) c'] W fun e w' => e = .returned (.bool true) ∧ Below W.heap.size W w' := fun i hi A' c' W hs => by
    have hsub : ∀ s ∈ P.take i ++ P.drop (i + 1), Near s := fun s hs => by
      rcases List.mem_append.1 hs with h | h
      · exact hPn s (List.mem_of_mem_take h)
      · exact hPn s (List.mem_of_mem_drop h)
    have hlen : (P.take i ++ P.drop (i + 1)).length = 0 + i + (m - (i + 1)) := by rw [List.length_append, List.length_take, List.length_drop]; omega
    have hfe : Feas (P.take i ++ P.drop (i + 1)) 0 := by
      rw [← erase_eq, ← hPk]
      exact blame_one hP (by omega)
    have := agrees_any A' (0 + i + (m - (i + 1))) c' _ W hlen (by unfold maxLen; omega) hs (near_allI hsub)
    rw [decide_eq_true ((near_bnds hsub (by omega)).2 hfe)] at this
    exact this
  rw [hmt] at ht1 ht2
  have hm3 : (1 : Int) ≤ m := by omega
  have hm4 : (m : Int) ≤ 3 := by omega
  have hn5 : (n : Int) ≤ 10 := by omega
  have hd2 : 0 < d := by omega
  have hdb : (d == 0) = false := by simp [hs0]
  have hgl : ∀ k, k < m → t.getD k 0 < L.length := fun k hk => by rw [hL]; exact hti k hk
  have HMX := hide hm
  have HB0 := hide hB
  have HS0 := hide hS
  have HG := hide hG
  have HW0 := hide hW
  have HV := hide hV
  have HX0 := hide hX
  have HY := hide hY
  have HLL := hide hL
  have HLW := hide hlw
  have HQ := hide hQ
  have HER := hide hEr
  have HTI := hide hti
  have HUP := hide hup
  have HSN := hide hsnoc
  have HEND := hide hend
  have H00 := hide h0
  have HMT := hide hmt
  have HPL := hide hPl
  clear hm hB hS hG hW hV hX hY hL hlw hQ hEr hti hup hsnoc hend h0 hmt hPl
  clear hnr hf hle hag hbE hbA hz hs0 hsA hw0 hwn hd hP hset hfp hPk hPn hK hKe hgl
  go_enter Try.func7, Try.ntmps7
  have HM := hide (Mem.start w)
  go_wp2_with fail
  refine (HMX.out).mono ?_
  rintro e w1 ⟨A1, c1, rfl, hb, ho⟩
  replace HM := hide (HM.out.later hb)
  clear hb
  have HSl := hide (SlS.of_own HLL.out ho)
  clear ho
  go_wp2_with fail
  refine (HB0.out _ _ _ HSl.out.sgts).mono ?_
  rintro e w2 ⟨A2, c2, rfl, hb, hs2⟩
  replace HM := hide (HM.out.later hb)
  replace HSl := hide (HSl.out.later hb)
  clear hb
  have HSet := hide hs2
  clear hs2
  rw [HMT.out]
  go_wp2_with fail
  refine (HS0.out _ _ _ HSl.out.sgts).mono ?_
  rintro e w3 ⟨rfl, hb⟩
  replace HM := hide (HM.out.later hb)
  replace HSl := hide (HSl.out.later hb)
  replace HSet := hide (HSet.out.later hb)
  clear hb
  go_wp2_with fail
  refine (HG.out _ _ _ HSl.out.sgts).mono ?_
  rintro e w4 ⟨rfl, hb⟩
  replace HM := hide (HM.out.later hb)
  replace HSl := hide (HSl.out.later hb)
  replace HSet := hide (HSet.out.later hb)
  clear hb
  go_wp2_with fail
  refine (HG.out _ _ _ HSl.out.sgts).mono ?_
  rintro e w5 ⟨rfl, hb⟩
  replace HM := hide (HM.out.later hb)
  replace HSl := hide (HSl.out.later hb)
  replace HSet := hide (HSet.out.later hb)
  clear hb
  go_wp2_with fail
  refine (HW0.out _ _ _ HSl.out.sgts).mono ?_
  rintro e w6 ⟨A3, c3, rfl, hb, ho⟩
  replace HM := hide (HM.out.later hb)
  replace HSl := hide (HSl.out.later hb)
  replace HSet := hide (HSet.out.later hb)
  clear hb
  have HS3 := hide (SlS.of_own (HLW.out d) ho).sgts
  clear ho
  go_wp2_with fail
  refine (HV.out _ _ _ HS3.out).mono ?_
  rintro e w7 ⟨rfl, hb⟩
  replace HM := hide (HM.out.later hb)
  replace HSl := hide (HSl.out.later hb)
  replace HSet := hide (HSet.out.later hb)
  clear hb
  clear HS3
  go_wp2_with fail
  refine (HX0.out _ _ _ HSl.out.sgts).mono ?_
  rintro e w8 ⟨A4, c4, rfl, hb, ho⟩
  replace HM := hide (HM.out.later hb)
  replace HSl := hide (HSl.out.later hb)
  replace HSet := hide (HSet.out.later hb)
  clear hb
  have HS4 := hide (SlS.of_own (HLW.out (d - 1)) ho).sgts
  clear ho
  go_wp2_with fail
  refine (HY.out _ _ _ HS4.out).mono ?_
  rintro e w9 ⟨rfl, hb⟩
  replace HM := hide (HM.out.later hb)
  replace HSl := hide (HSl.out.later hb)
  replace HSet := hide (HSet.out.later hb)
  clear hb
  clear HS4
  go_wp2_with fail
  have HB1 := hide HM.out.below
  have hz9 := HM.out.size
  clear HM HB0 HS0 HG HW0 HV HX0 HY HMX HLW
  have HM := hide ((Mem.start w9).nilRow w9.heap.size 71 5)
  go_loopw [18, 107] (fun o i wr => ∃ (k : Nat) (A' : Option Addr) (c' : Nat), k ≤ m ∧ i = .int .i64 k ∧ o = .slice A' k c' ∧ Mem w9 [.row w9.heap.size 71 5 (.slice A' k c') k (K k)] wr) (fun _ i _ => m - (intOf i).toNat)
  case atStart => exact ⟨0, none, 0, by omega, rfl, rfl, by rw [H00.out]; exact HM.out⟩
  case round =>
    obtain ⟨k, A', c', hk, rfl, rfl, hM⟩ := hrel
    clear HM
    have HM := hide hM
    clear hM
    by_cases hlt : k < m
    · have hlt2 : (k : Int) < m := by omega
      obtain ⟨bs, cs, rfl, hbs, hcs⟩ := (HSet.out.later HM.out.below) (by have := HMT.out; omega)
      have t0 := hbs.c k (hcs k (by have := HMT.out; omega))
      have ltt := hbs.lt
      have htk := HTI.out k hlt
      have hsn := HSN.out k hlt
      obtain ⟨tk, htk0⟩ : ∃ x, t.getD k 0 = x := ⟨_, rfl⟩
      have hps := fun k' (e : k = k' + 1) => HUP.out k' (by omega)
      rw [htk0] at t0 htk hsn
      have htk2 : (tk : Int) < n := by omega
      obtain ⟨b, off, rfl, hb0, hc⟩ := (HSl.out.later HM.out.below).sgts (by have := HLL.out; omega)
      have hc1 := hc tk (by have := HLL.out; omega)
      obtain ⟨X, hX⟩ : ∃ X, L.getD tk sg0 = X := ⟨_, rfl⟩
      rw [hX] at hc1 hsn
      obtain ⟨sx, sy, sl, slo, shi⟩ := X
      obtain ⟨q0, q1, q2, q3, q4⟩ := hc1
      simp only at q0 q1 q2 q3 q4
      have hsn2 : K (k + 1) = K k ++ [.int .i64 sx, .int .i64 sy, .int .i64 sl, .int .i64 slo, .int .i64 shi] := hsn
      generalize K k = xs at *
      obtain ⟨i0, hii, hz0, hz1, hz2⟩ := info_parts sightInfo
      have Hi := hide hii
      have Hz0 := hide hz0
      have Hz1 := hide hz1
      have Hz2 := hide hz2
      clear hii hz0 hz1 hz2
      have HSN2 := hide hsn2
      clear hsn2
      clear hc hX hsn
      by_cases hk0 : k = 0
      · have hkd : ¬ ((0 : Int) < (k : Int)) := by omega
        clear hps htk0 hk0
        go_upto_region 18 with fail
        have hownM := Mem.row_ HM.out 0 rfl
        have hbaseM : w9.heap.size ≤ wr.heap.size := HM.out.size
        go_wp2_with (at_builtin; refine wpList_append_own_at _ rfl (.tmp 133) (.tmp 138) _ rfl w9.heap.size 71 i0 _ 5 40 Try.underlying25 Hi.out Hz0.out Hz1.out Hz2.out rfl (by decide) _ k xs rfl (hownM.alloc _) ⟨wr.heap.size, 0, none⟩ 1 1 [.int .i64 sx, .int .i64 sy, .int .i64 sl, .int .i64 slo, .int .i64 shi] rfl rfl ?q1c1 (by intro u hu; simp only [List.mem_cons, List.not_mem_nil, or_false] at hu; rcases hu with rfl | rfl | rfl | rfl | rfl <;> rfl) ?q1c3 ?q1c4 ?q1c5 ?_)
        try case q1c1 => exact new_cellsQ wr _ [.int .i64 sx, .int .i64 sy, .int .i64 sl, .int .i64 slo, .int .i64 shi]
        case q1c3 => unfold maxLen; omega
        case q1c4 => omega
        case q1c5 => first | omega | (simp; omega)
        intro vA w10 hown2 hgr2 _ hat2
        have HMn := HM.out.grow 0 rfl _ hgr2 hown2 hat2
        replace HM := hide HMn
        clear HMn hown2 hgr2 hat2 hownM hbaseM
        obtain ⟨A9, c9, rfl⟩ := own_shape2 (Mem.row_ HM.out 0 rfl)
        go_wp2_with fail
        go_roundw
        case rel => exact ⟨k + 1, A9, c9, by omega, by go_num, rfl, by rw [HSN2.out]; exact HM.out⟩
        case measure => simp [intOf] <;> omega
      · obtain ⟨k', hk'⟩ : ∃ k', k = k' + 1 := ⟨k - 1, by omega⟩
        have hkd : (0 : Int) < (k : Int) := by omega
        have hps2 := hps k' hk'
        rw [← hk'] at hps2
        have t1 := hbs.c k' (hcs k' (by have := HMT.out; omega))
        obtain ⟨tj, htj⟩ : ∃ x, t.getD k' 0 = x := ⟨_, rfl⟩
        rw [htj, htk0] at hps2
        rw [htj] at t1
        have hps3 : ¬ (tk : Int) ≤ tj := by omega
        have hkk1 : (k : Int) - 1 = k' := by omega
        clear hps htk0 htj hk'
        go_upto_region 18 with fail
        have hownM := Mem.row_ HM.out 0 rfl
        have hbaseM : w9.heap.size ≤ wr.heap.size := HM.out.size
        go_wp2_with (at_builtin; refine wpList_append_own_at _ rfl (.tmp 133) (.tmp 138) _ rfl w9.heap.size 71 i0 _ 5 40 Try.underlying25 Hi.out Hz0.out Hz1.out Hz2.out rfl (by decide) _ k xs rfl (hownM.alloc _) ⟨wr.heap.size, 0, none⟩ 1 1 [.int .i64 sx, .int .i64 sy, .int .i64 sl, .int .i64 slo, .int .i64 shi] rfl rfl ?q2c1 (by intro u hu; simp only [List.mem_cons, List.not_mem_nil, or_false] at hu; rcases hu with rfl | rfl | rfl | rfl | rfl <;> rfl) ?q2c3 ?q2c4 ?q2c5 ?_)
        try case q2c1 => exact new_cellsQ wr _ [.int .i64 sx, .int .i64 sy, .int .i64 sl, .int .i64 slo, .int .i64 shi]
        case q2c3 => unfold maxLen; omega
        case q2c4 => omega
        case q2c5 => first | omega | (simp; omega)
        intro vA w10 hown2 hgr2 _ hat2
        have HMn := HM.out.grow 0 rfl _ hgr2 hown2 hat2
        replace HM := hide HMn
        clear HMn hown2 hgr2 hat2 hownM hbaseM
        obtain ⟨A9, c9, rfl⟩ := own_shape2 (Mem.row_ HM.out 0 rfl)
        go_wp2_with fail
        go_roundw
        case rel => exact ⟨k + 1, A9, c9, by omega, by go_num, rfl, by rw [HSN2.out]; exact HM.out⟩
        case measure => simp [intOf] <;> omega
    · obtain rfl : k = m := by omega
      have hkk : ¬ ((k : Int) < k) := by omega
      have ho := HM.out.row_ 0 rfl
      rw [HEND.out] at ho
      have HSp := hide (SlS.of_own HPL.out ho)
      have HB2 := hide (HB1.out.trans (HM.out.below.mono hz9))
      have hzr := HB2.out.size
      clear ho HM HSet HSl HTI HUP HSN HEND H00
      generalize wr = wx at *
      obtain ⟨bb, oo, rfl, hbb⟩ := HSp.out.some (by have := HPL.out; omega)
      have hkc : k ≤ c' := by have := HSp.out.1; have := HPL.out; omega
      have hcm : c' ≤ maxLen := HSp.out.2.1
      go_wp2_with fail
      go_loopw [143] (fun i wr => ∃ j : Nat, j ≤ k ∧ i = .int .i64 j ∧ Below wx.heap.size wx wr) (fun i _ => k - (intOf i).toNat)
      case atStart => exact ⟨0, Nat.zero_le _, rfl, Below.refl _ _⟩
      case round =>
        obtain ⟨j, hj, rfl, hbj⟩ := hrel
        have HBJ := hide hbj
        have HSq := hide (HSp.out.later hbj)
        clear hbj
        by_cases hjl : j < k
        · have hjl2 : (j : Int) < k := by omega
          obtain ⟨Asl, hAsl⟩ : ∃ x : Option Addr, (if c' = j + 1 then some (⟨bb, oo, none⟩ : Addr) else some ⟨bb, oo + (j + 1) * 5, none⟩) = x := ⟨_, rfl⟩
          have l1 : (P.take j).length = j := by rw [List.length_take, HPL.out]; omega
          have l2 : (P.drop (j + 1)).length = k - (j + 1) := by rw [List.length_drop, HPL.out]
          have hsr1 := fun (S : Nat → Prop) (W : World) (hk : Kept S wr W) hS => (HSq.out.take j).srcK hk hS
          have hsr2 := fun (S : Nat → Prop) (W : World) (hk : Kept S wr W) hS => (HSq.out.drop (j + 1) (by rw [HPL.out]; omega)).srcK hk hS
          rw [l1] at hsr1
          rw [l2, hAsl] at hsr2
          have hle1 : (sgsV (P.take j)).length = j * 5 := by rw [sgsV_len, l1]
          have hle2 : (sgsV (P.drop (j + 1))).length = (k - (j + 1)) * 5 := by rw [sgsV_len, l2]
          have hon1 := sgsV_oneC (P.take j)
          have hon2 := sgsV_oneC (P.drop (j + 1))
          have her := HER.out j hjl
          have hvs : (#[] : Array Value).toList ++ sgsV (P.take j) ++ sgsV (P.drop (j + 1)) = sgsV (P.take j ++ P.drop (j + 1)) := by rw [sgsV_app]; rfl
          have hll : (P.take j ++ P.drop (j + 1)).length = 0 + j + (k - (j + 1)) := by rw [List.length_append, l1, l2]; omega
          have hj1 : (j : Int) + 1 ≤ k := by omega
          have hj2 : (j : Int) ≤ c' := by omega
          have hj3 : (k : Int) ≤ c' := by omega
          have hj4 : (c' : Int) ≤ 9223372036854775807 := by unfold maxLen at hcm; omega
          obtain ⟨i0, hii, hz0, hz1, hz2⟩ := info_parts sightInfo
          have Hi := hide hii
          have Hz0 := hide hz0
          have Hz1 := hide hz1
          have Hz2 := hide hz2
          clear hii hz0 hz1 hz2
          have HSR1 := hide hsr1
          have HSR2 := hide hsr2
          have HLE1 := hide hle1
          have HLE2 := hide hle2
          have HON1 := hide hon1
          have HON2 := hide hon2
          have HER2 := hide her
          have HVS := hide hvs
          have HLL2 := hide hll
          clear hsr1 hsr2 hle1 hle2 hon1 hon2 her hvs hll
          clear l1 l2
          go_wp2_with fail
          apply wp_region_L (w0 := wr) [[], [], [], [], [0], [], [], [], [], [0, 4], [0, 4, 9], [0, 4, 9, 10]] [false, true, true, true, false, true, true, true, true, false, false, true] [⟨0, none, [], []⟩, ⟨4, some 0, [0], []⟩, ⟨9, some 4, [4], []⟩, ⟨10, none, [9], []⟩] (fun ixq y => match ixq with | 0 => .slice (y 0).1 0 0 | 4 => .slice (y 0).1 (0 + j) (y 0).2 | 9 => .slice (y 0).1 ((0+j) + (k-(j+1))) (y 0).2 | 10 => .bool true | _ => undef) (fun ixq x F wq => match ixq with | 0 => OwnF wq F wr.heap.size 71 5 (.slice (x 0 0).1 0 0) 0 #[].toList | 4 => OwnF wq F wr.heap.size 71 5 (.slice (x 4 0).1 (0 + j) (x 4 0).2) (0 + j) ((#[] : Array Value).toList ++ sgsV (P.take j)) | 9 => OwnF wq F wr.heap.size 71 5 (.slice (x 9 0).1 ((0+j) + (k-(j+1))) (x 9 0).2) ((0+j) + (k-(j+1))) ((#[] : Array Value).toList ++ sgsV (P.take j) ++ sgsV (P.drop (j + 1))) | 10 => True | _ => True) (fun a x => ((((a).put (some 146) (.slice ((x 0) 0).1 0 0)).put (some 150) (.slice ((x 4) 0).1 (0 + j) ((x 4) 0).2)).put (some 155) (.slice ((x 9) 0).1 ((0+j) + (k-(j+1))) ((x 9) 0).2)).put (some 156) (.bool true)) (by kernel_rfl) (by kernel_rfl) (fun x => putH_step (some 146) (.slice ((x 0) 0).1 0 0) rfl rfl <| putH_step (some 150) (.slice ((x 4) 0).1 (0 + j) ((x 4) 0).2) rfl rfl <| putH_step (some 155) (.slice ((x 9) 0).1 ((0+j) + (k-(j+1))) ((x 9) 0).2) rfl rfl <| putH_step (some 156) (.bool true) rfl rfl <| putH_end) [] (by kernel_rfl)
          · intro x D hD
            have hne := hD.some
            simp only [takeOps, Act.put, List.setIfInBounds_toArray, List.set_cons_succ, List.set_cons_zero]
            repeat (go_big_quiet_step (fail))
            exact wpQuiet_nil rfl
          · exact fun _ h => absurd h (by simp)
          · refine ⟨?_, ?_, ?_, ?_, trivial⟩
            · exact obl_new rfl (fun _ => by kernel_rfl) 71 (fun x => #[]) gP (fun x w => by kernel_rfl) (fun x w hle => own_new hle rfl (by unfold maxLen; omega))
            · refine obl_appendS 25 146 149 (by kernel_rfl) wr.heap.size 71 i0 _ 5 40 Try.underlying25 Hi.out Hz0.out Hz1.out Hz2.out rfl (by decide) 0 j ((#[] : Array Value).toList) (sgsV (P.take j)) (HLE1.out) (HON1.out) (by unfold maxLen; omega) (by omega) (by first | assumption | omega) (fun x w F hk hn => ?_) (fun _ => rfl) (fun _ _ _ _ h => h)
              have hj := hn 0 (by simp)
              exact ⟨_, _, _, rfl, hj.1, fun g hg => .inr (hj.2 g hg), rfl, HSR1.out _ w hk (fun k hk => ⟨hk, fun _ _ h => h.elim⟩)⟩
            · refine obl_appendS 25 150 154 (by kernel_rfl) wr.heap.size 71 i0 _ 5 40 Try.underlying25 Hi.out Hz0.out Hz1.out Hz2.out rfl (by decide) (0+j) (k-(j+1)) ((#[] : Array Value).toList ++ sgsV (P.take j)) (sgsV (P.drop (j + 1))) (HLE2.out) (HON2.out) (by unfold maxLen; omega) (by omega) (by first | assumption | omega) (fun x w F hk hn => ?_) (fun _ => rfl) (fun _ _ _ _ h => h)
              have hj := hn 4 (by simp)
              exact ⟨_, Asl, _, rfl, hj.1, fun g hg => .inr (hj.2 g hg), rfl, HSR2.out _ w hk (fun k hk => ⟨hk, fun _ _ h => h.elim⟩)⟩
            · refine obl_callL rfl (fun _ => by kernel_rfl) 34 (fun x => #[.slice (x 9 0).1 (0 + j + (k - (j + 1))) (x 9 0).2]) (fun x w => by kernel_rfl) ?_
              intro x w F hL hN
              have n9 := hN 9 (by simp)
              have hs := sgts_own (c := (x 9 0).2) HLL2.out (by rw [← HVS.out]; exact n9.1)
              exact calls_one (y := fun _ => (none, 0)) (HER2.out _ _ w hs) rfl (fun _ => trivial)
          · refine ⟨?_, ?_, ?_, ?_, trivial⟩
            · refine ⟨fun x F wq wq' h hs hk => ?_, fun x x' F wq hx h => ?_⟩
              · have h2 : OwnF wq F wr.heap.size 71 5 (.slice (x 0 0).1 0 0) 0 #[].toList := h
                exact h2.stab hk
              · have h2 : OwnF wq F wr.heap.size 71 5 (.slice (x 0 0).1 0 0) 0 #[].toList := h
                rw [hx 0 (by simp)] at h2
                exact h2
            · exact owe_own 4 wr.heap.size 71 5 (0 + j) ((#[] : Array Value).toList ++ sgsV (P.take j)) rfl (fun _ _ _ => rfl)
            · exact owe_own 9 wr.heap.size 71 5 ((0+j) + (k-(j+1))) ((#[] : Array Value).toList ++ sgsV (P.take j) ++ sgsV (P.drop (j + 1))) rfl (fun _ _ _ => rfl)
            · exact owe_true (fun _ _ _ => trivial)
          intro xx w2 F hL hlv1
          obtain ⟨-, -, fct9, fct10, -⟩ := hlv1
          replace fct9 : OwnF w2 (F 9) wr.heap.size 71 5 (.slice (xx 9 0).1 ((0+j) + (k-(j+1))) (xx 9 0).2) ((0+j) + (k-(j+1))) ((#[] : Array Value).toList ++ sgsV (P.take j) ++ sgsV (P.drop (j + 1))) := fct9 rfl
          clear fct10
          clear fct9
          replace HBJ := hide (onward HBJ.out hL)
          clear hL
          clear hAsl
          go_wp2_with fail
          go_roundw
          case rel => exact ⟨j + 1, hjl, by go_num, HBJ.out⟩
          case measure => simp [intOf] <;> omega
        · obtain rfl : j = k := by omega
          have hjj : ¬ ((j : Int) < j) := by omega
          have HSs := hide HSq.out.sgts
          go_wp2_with fail
          refine (HQ.out _ _ _ HSs.out).mono ?_
          rintro e w2 ⟨rfl, hb⟩
          replace HSs := hide (HSs.out.later hb)
          replace HBJ := hide (onward HBJ.out hb)
          clear hb
          go_wp2_with fail
          refine (works_any _).mono ?_
          rintro e w3 ⟨rfl, hb⟩
          replace HSs := hide (HSs.out.later hb)
          replace HBJ := hide (onward HBJ.out hb)
          clear hb
          go_wp2
          exact bodyPost_ret (v := .bool true) (by simp [results, Try.results7, go_sem]) rfl ⟨rfl, HB2.out.trans (HBJ.out.mono hzr)⟩
set_option maxHeartbeats 1000000 in
set_option maxRecDepth 100000 in
theorem WindBlames_any (A : Option Addr) (n c : Nat) (E : List EyeN) (u v p q sec : Int) (w : World) (hn : E.length = n) (hmax : n ≤ maxLen) (he : ∀ e ∈ E, EyeOk e) (hA : EyesAt w w.heap.size A E) (hu : -32768 ≤ u ∧ u ≤ 32767) (hv : -32768 ≤ v ∧ v ≤ 32767) (hp : -32768 ≤ p ∧ p ≤ 32767) (hq : -32768 ≤ q ∧ q ≤ 32767) (hs : 0 ≤ sec ∧ sec ≤ 65535) :
    Calls Try.prog 7 #[.slice A n c, .int .i16 u, .int .i16 v, .int .i16 p, .int .i16 q, .int .u16 sec] w fun e w' => e = .returned (.bool true) ∧ Below w.heap.size w w' := by
  by_cases h10 : 10 < n
  · have h11 : (10 : Int) < n := by omega
    clear hA he hn
    go_enter Try.func7, Try.ntmps7
    have HM := hide (Mem.start w)
    go_wp2_with fail
    refine (works_any _).mono ?_
    rintro e w2 ⟨rfl, hb⟩
    replace HM := hide (HM.out.later hb)
    clear hb
    go_wp2
    exact bodyPost_ret (v := .bool true) (by simp [results, Try.results7, go_sem]) rfl ⟨rfl, HM.out.below⟩
  · have hm := mixed_any A n c E u v p q sec w hn (by omega) hA he hu hv hp hq hs.1 hs.2
    have hnr := mix_near (B := bitB sec) hn he hu hv hp hq
    by_cases hf : Feas (mixT E u v p q (bitB sec) n) 0
    · exact Blames_feas A n c _ u v p q sec w (mixT_len n) (by omega) hnr hf hm
    · exact Blames_not A n c _ u v p q sec w (mixT_len n) (by omega) hnr hf hm
end Go.Proofs.Ytllpffkifleigaa
