/-
  The reference's book: the gain of a radar, the loop that finds the tests that count.
-/
import Derived.Test.YtiggefmckomilaaRunMath
import Derived.Test.YtiggefmckomilaaRefDep
set_option linter.unusedSimpArgs false
set_option linter.unusedVariables false
namespace Go.Proofs.Ytiggefmckomilaa
open Go Go.RowKit

set_option maxRecDepth 1000000 in
noncomputable def rgl1C : Code := ((loopsOf ((Try.f81.body).getD .skip))[0]?).getD .skip
set_option maxHeartbeats 8000000 in
set_option maxRecDepth 1000000 in
theorem rgl1 {kc2 kc3 kc4 kc5 kc6 kc7 kc8 kc9 kc10 kc11 kc15 kc16 kc17 kc18 kc19 kc20 kc21 kc22 kc23 kc24 kc25 kc26 kc27 kc28 kc29 kc30 kc31 kc32 kc33 kc34 kc35 kc36 kc37 kc38 kc39 ku40 ku41 ku42 ku43 ku44 ku45 ku46 ku47 ku48 ku49 ku50 ku51 ku52 ku53 ku54 ku55 ku56 ku57 ku58 ku59 ku60 ku61 ku62 ku63 ku64 ku65 ku66 kc67 kc68 kc69 kc70 kc71 kc72 kc73 kc74 kc75 kc76 kc77 kc78 kc79 kc80 kc81 kc82 kc83 kc84 kc85 kc86 kc87 kc88 kc89 kc90 kc91 kc92 kc93 kc94 kc95 kc96 kc97 kc98 kc99 kc100 kc101 kc102 kc103 kc104 kc105 kc106 kc107 kc108 kc109 kc110 kc111 kc112 kc113 kc114 kc115 kc116 kc117 kc118 kc119 kc120 kc121 kc122 kc123 kc124 kc125 kc126 kc127 kc128 kc129 kc130 kc131 kc132 kc133 kc134 kc135 kc136 kc137 kc138 kc139 kc140 kc141 kc142 kc143 kc144 kc145 kc146 kc147 kc148 kc149 kc150 kc151 kc152 kc153 kc154 kc155 kc156 kc157 kc158 kc159 kc160 kc161 kc162 kc163 kc164 kc165 : Value} (l : List Ent) (p cb : Nat) (A : Option Addr) (n : ByteArray) (d time : Int) (At : Option Addr) (ct N : Nat) (ts : List Th) (w' : World) (hb : RefR l p A cb w') (hN : (testsT l).length = N) {Q : Exit → Act → World → Prop} {wr : World} (hM : Mem w' (.row w'.heap.size 3 1 (.slice none 0 0) 0 [] :: .row w'.heap.size 87 5 (.slice At N ct) N (rtsRow l) :: ts) wr)
    (hexit : ∀ ⦃kv14 kv40 kv41 kv42 kv43 kv44 kv45 kv46 kv47 kv48 kv49 kv50 kv51 kv52 kv53 kv54 kv55 kv56 kv57 kv58 kv59 kv60 kv61 kv62 kv63 kv64 kv65 kv66 : Value⦄ ⦃v : Value⦄ ⦃w2 : World⦄, Mem w' (.row w'.heap.size 3 1 v (cntQ l n d time N).length (numV (cntQ l n d time N)) :: .row w'.heap.size 87 5 (.slice At N ct) N (rtsRow l) :: ts) w2 → Q (.exit 0) ⟨List.toArray (.pointer (some ⟨p, 0, none⟩) :: .string n :: kc2 :: kc3 :: kc4 :: kc5 :: kc6 :: kc7 :: kc8 :: kc9 :: kc10 :: kc11 :: .slice At N ct :: v :: kv14 :: kc15 :: kc16 :: kc17 :: kc18 :: kc19 :: kc20 :: kc21 :: kc22 :: kc23 :: kc24 :: kc25 :: kc26 :: kc27 :: kc28 :: kc29 :: kc30 :: kc31 :: kc32 :: kc33 :: kc34 :: kc35 :: kc36 :: kc37 :: kc38 :: kc39 :: kv40 :: kv41 :: kv42 :: kv43 :: kv44 :: kv45 :: kv46 :: kv47 :: kv48 :: kv49 :: kv50 :: kv51 :: kv52 :: kv53 :: kv54 :: kv55 :: kv56 :: kv57 :: kv58 :: kv59 :: kv60 :: kv61 :: kv62 :: kv63 :: kv64 :: kv65 :: kv66 :: kc67 :: kc68 :: kc69 :: kc70 :: kc71 :: kc72 :: kc73 :: kc74 :: kc75 :: kc76 :: kc77 :: kc78 :: kc79 :: kc80 :: kc81 :: kc82 :: kc83 :: kc84 :: kc85 :: kc86 :: kc87 :: kc88 :: kc89 :: kc90 :: kc91 :: kc92 :: kc93 :: kc94 :: kc95 :: kc96 :: kc97 :: kc98 :: kc99 :: kc100 :: kc101 :: kc102 :: kc103 :: kc104 :: kc105 :: kc106 :: kc107 :: kc108 :: kc109 :: kc110 :: kc111 :: kc112 :: kc113 :: kc114 :: kc115 :: kc116 :: kc117 :: kc118 :: kc119 :: kc120 :: kc121 :: kc122 :: kc123 :: kc124 :: kc125 :: kc126 :: kc127 :: kc128 :: kc129 :: kc130 :: kc131 :: kc132 :: kc133 :: kc134 :: kc135 :: kc136 :: kc137 :: kc138 :: kc139 :: kc140 :: kc141 :: kc142 :: kc143 :: kc144 :: kc145 :: kc146 :: kc147 :: kc148 :: kc149 :: kc150 :: kc151 :: kc152 :: kc153 :: kc154 :: kc155 :: kc156 :: kc157 :: kc158 :: kc159 :: kc160 :: kc161 :: kc162 :: kc163 :: kc164 :: kc165 :: []), []⟩ w2) :
    Code.wp Try.prog rgl1C Q ⟨List.toArray (.pointer (some ⟨p, 0, none⟩) :: .string n :: kc2 :: kc3 :: kc4 :: kc5 :: kc6 :: kc7 :: kc8 :: kc9 :: kc10 :: kc11 :: .slice At N ct :: .slice none 0 0 :: .int .i64 0 :: kc15 :: kc16 :: kc17 :: kc18 :: kc19 :: kc20 :: kc21 :: kc22 :: kc23 :: kc24 :: kc25 :: kc26 :: kc27 :: kc28 :: kc29 :: kc30 :: kc31 :: kc32 :: kc33 :: kc34 :: kc35 :: kc36 :: kc37 :: kc38 :: kc39 :: ku40 :: ku41 :: ku42 :: ku43 :: ku44 :: ku45 :: ku46 :: ku47 :: ku48 :: ku49 :: ku50 :: ku51 :: ku52 :: ku53 :: ku54 :: ku55 :: ku56 :: ku57 :: ku58 :: ku59 :: ku60 :: ku61 :: ku62 :: ku63 :: ku64 :: ku65 :: ku66 :: kc67 :: kc68 :: kc69 :: kc70 :: kc71 :: kc72 :: kc73 :: kc74 :: kc75 :: kc76 :: kc77 :: kc78 :: kc79 :: kc80 :: kc81 :: kc82 :: kc83 :: kc84 :: kc85 :: kc86 :: kc87 :: kc88 :: kc89 :: kc90 :: kc91 :: kc92 :: kc93 :: kc94 :: kc95 :: kc96 :: kc97 :: kc98 :: kc99 :: kc100 :: kc101 :: kc102 :: kc103 :: kc104 :: kc105 :: kc106 :: kc107 :: kc108 :: kc109 :: kc110 :: kc111 :: kc112 :: kc113 :: kc114 :: kc115 :: kc116 :: kc117 :: kc118 :: kc119 :: kc120 :: kc121 :: kc122 :: kc123 :: kc124 :: kc125 :: kc126 :: kc127 :: kc128 :: kc129 :: kc130 :: kc131 :: kc132 :: kc133 :: kc134 :: kc135 :: kc136 :: kc137 :: kc138 :: kc139 :: kc140 :: kc141 :: kc142 :: kc143 :: kc144 :: kc145 :: kc146 :: kc147 :: kc148 :: kc149 :: kc150 :: kc151 :: kc152 :: kc153 :: kc154 :: kc155 :: kc156 :: kc157 :: kc158 :: kc159 :: kc160 :: kc161 :: kc162 :: kc163 :: kc164 :: kc165 :: []), []⟩ wr := by
  have HX := hide hexit
  clear hexit
  unfold rgl1C
  conv => arg 2; whnf
  have HM := hide hM
  clear hM
  have hgood := hb.good
  have hN5 := tests_le hb.good
  rw [hN] at hN5
  have hvo := fun m (hs : ∃ s, stdT l m = some s) W (hW : Below w'.heap.size w' W) => rvoid_any l p cb A m W (hb.later hW) hs
  obtain ⟨i0, hii, hz0, hz1, hz2⟩ := info_parts intInfo
  have hN2 : (N : Int) ≤ 512 := by omega
  have hrl : (testsT l).reverse.length = N := by rw [List.length_reverse]; exact hN
  have Hvo := hide hvo
  have Hi := hide hii
  have Hz0 := hide hz0
  have Hz1 := hide hz1
  have Hz2 := hide hz2
  have Hgood := hide hgood
  have Hrl := hide hrl
  clear hvo hii hz0 hz1 hz2 hgood hrl
  clear hb hN
  go_loopw [13, 14] (fun v i wr => ∃ k : Nat, k ≤ N ∧ i = .int .i64 k ∧ Mem w' (.row w'.heap.size 3 1 v (cntQ l n d time k).length (numV (cntQ l n d time k)) :: .row w'.heap.size 87 5 (.slice At N ct) N (rtsRow l) :: ts) wr) (fun _ i _ => N - (intOf i).toNat)
  case atStart => exact ⟨0, Nat.zero_le _, rfl, HM.out⟩
  case round =>
    obtain ⟨k, hk, rfl, hM⟩ := hrel
    clear HM
    have HM := hide hM
    clear hM
    by_cases hlt : k < N
    · have hlt2 : (k : Int) < N := by omega
      obtain ⟨t, ht⟩ : ∃ t, (testsT l).reverse[k]? = some t := ⟨_, List.getElem?_eq_getElem (by rw [Hrl.out]; exact hlt)⟩
      have hst := cnt_step (n := n) (d := d) (time := time) Hgood.out ht
      obtain ⟨-, -, -, s, hs, -⟩ := rev_in Hgood.out ht
      have hv := Hvo.out t.std ⟨s, hs⟩
      obtain ⟨b, cur, hA, -, hbk, -, -, hcc⟩ := row_blk (Mem.row_ HM.out 1 rfl) (by omega)
      have y0 := hbk.c (k * 5) (hcc (k * 5) _ (rts_at ht 0 _ rfl))
      have y1 := hbk.c (k * 5 + 1) (hcc (k * 5 + 1) _ (rts_at ht 1 _ rfl))
      have lty := hbk.lt
      have hql := selN_length (testInfo l) n (voidT l) d time k
      rw [show selN (testInfo l) n (voidT l) d time k = cntQ l n d time k from rfl] at hql
      clear hbk hcc ht hs
      subst hA
      obtain ⟨g, hg⟩ : ∃ g, widenS (gainT l t) d t.time time = g := ⟨_, rfl⟩
      rw [hg] at hst
      clear hg
      obtain ⟨tr, tn, tt, tl, th⟩ := t
      simp only at hst hv y0 y1
      have y0m := (HM.out.below)
      by_cases hr : tr = n
      · have he : (tr.toList == n.toList) = true := by rw [hr]; exact beq_self_eq_true _
        cases hvd : voidT l tn with
        | true =>
          rw [if_neg (by rw [hvd]; simp), List.append_nil] at hst
          rw [hvd] at hv
          have HS := hide hst
          have Hv := hide hv
          clear hst hv hr hvd y0m
          go_wp2_with fail
          refine (Hv.out _ HM.out.below).mono ?_
          rintro e w3 ⟨rfl, hb⟩
          replace HM := hide (HM.out.later hb)
          clear hb
          go_wp2_with fail
          go_roundw
          case rel => exact ⟨k + 1, hlt, by go_num, by rw [HS.out]; exact HM.out⟩
          case measure => simp [intOf] <;> omega
        | false =>
          rw [if_pos ⟨hr, hvd⟩] at hst
          have hst2 : numV (cntQ l n d time (k + 1)) = numV (cntQ l n d time k) ++ [.int .i64 (k : Int)] := by rw [hst]; unfold numV; rw [List.map_append]; rfl
          have hst3 : (cntQ l n d time (k + 1)).length = (cntQ l n d time k).length + 1 := by rw [hst, List.length_append]; rfl
          rw [hvd] at hv
          have HS := hide hst2
          have HS3 := hide hst3
          have Hv := hide hv
          clear hst hv hr hvd hst2 hst3 y0m
          obtain ⟨Q, hQ⟩ : ∃ Q, numV (cntQ l n d time k) = Q := ⟨_, rfl⟩
          obtain ⟨M, hM⟩ : ∃ M, (cntQ l n d time k).length = M := ⟨_, rfl⟩
          rw [hQ] at HS HM
          rw [hM] at HS3 HM hql
          clear hQ hM
          go_wp2_with fail
          refine (Hv.out _ HM.out.below).mono ?_
          rintro e w3 ⟨rfl, hb⟩
          replace HM := hide (HM.out.later hb)
          clear hb
          have hownM := Mem.row_ HM.out 0 rfl
          have hbaseM : w'.heap.size ≤ w3.heap.size := HM.out.size
          go_wp2_with (at_builtin; refine wpList_append_own_at _ rfl (.tmp 63) (.tmp 65) _ rfl w'.heap.size 3 i0 _ 1 8 Try.underlying40 Hi.out Hz0.out Hz1.out Hz2.out rfl (by decide) _ M Q rfl (hownM.alloc _) ⟨w3.heap.size, 0, none⟩ 1 1 [.int .i64 k] rfl rfl ?q1c1 (by intro u hu; simp only [List.mem_cons, List.not_mem_nil, or_false] at hu; rcases hu with rfl <;> rfl) ?q1c3 ?q1c4 ?q1c5 ?_)
          try case q1c1 => exact new_cellsQ w3 _ [.int .i64 k]
          case q1c3 => unfold maxLen; omega
          case q1c4 => omega
          case q1c5 => simp; omega
          intro o2 w4 hown2 hgr2 _ hat2
          have HMn := HM.out.grow 0 rfl _ hgr2 hown2 hat2
          replace HM := hide HMn
          clear HMn hown2 hgr2 hat2 hownM hbaseM
          go_wp2_with fail
          go_roundw
          case rel => exact ⟨k + 1, hlt, by go_num, by rw [HS.out, HS3.out]; exact HM.out⟩
          case measure => simp [intOf] <;> omega
      · have he : (tr.toList == n.toList) = false := strNe hr
        rw [if_neg (fun h => hr h.1), List.append_nil] at hst
        have HS := hide hst
        clear hst hv hr y0m
        go_wp2_with fail
        go_roundw
        case rel => exact ⟨k + 1, hlt, by go_num, by rw [HS.out]; exact HM.out⟩
        case measure => simp [intOf] <;> omega
    · obtain rfl : k = N := by omega
      have hkk : ¬ ((k : Int) < k) := by omega
      go_wp2_with fail
      exact HX.out HM.out

set_option maxRecDepth 1000000 in
noncomputable def rgl4C : Code := ((loopsOf ((Try.f81.body).getD .skip))[3]?).getD .skip
set_option maxHeartbeats 8000000 in
set_option maxRecDepth 1000000 in
theorem rgl4 {kc1 kc3 kc4 kc5 kc6 kc7 kc8 kc9 kc10 kc11 kc14 kc15 kc16 kc17 kc18 ku21 kc22 kc23 kc24 kc25 kc26 kc27 kc28 kc29 kc30 kc31 kc32 kc33 kc34 kc35 kc36 kc37 kc38 kc39 kc40 kc41 kc42 kc43 kc44 kc45 kc46 kc47 kc48 kc49 kc50 kc51 kc52 kc53 kc54 kc55 kc56 kc57 kc58 kc59 kc60 kc61 kc62 kc63 kc64 kc65 kc66 kc67 kc68 kc69 kc70 kc71 kc72 kc73 kc74 kc75 kc76 kc77 kc78 kc79 kc80 kc81 kc82 kc83 kc84 kc85 kc86 kc87 kc88 kc89 kc90 kc91 kc92 kc93 kc94 kc95 kc96 kc97 kc98 kc99 kc100 kc101 kc102 kc103 kc104 kc105 kc106 kc107 kc108 kc109 kc110 kc111 kc112 kc113 kc114 kc115 kc116 kc117 kc118 kc119 kc120 kc121 kc122 kc123 kc124 kc125 kc126 kc127 kc128 kc129 kc130 kc131 kc132 kc133 kc134 kc135 ku136 ku137 ku138 ku139 ku140 ku141 ku142 ku143 ku144 ku145 ku146 ku147 ku148 ku149 ku150 ku151 ku152 ku153 ku154 ku155 ku156 ku157 ku158 ku159 ku160 ku161 ku162 ku163 kc164 kc165 : Value} (l : List Ent) (p cb : Nat) (A : Option Addr) (n : ByteArray) (d time : Int) (hd : driftT l n = some d) (t0 : 0 ≤ time) (t1 : time ≤ 4294967296) (At Aq : Option Addr) (ct cq N go : Nat) (q : List (Nat × (Int × Int))) (K : Nat) (hK : q.length = K) (hq : q = cntQ l n d time N) (ts : List Th) (w' : World) (hb : RefR l p A cb w') (hN : (testsT l).length = N) {Q : Exit → Act → World → Prop} {wr : World} (hM : Mem w' (.blk go 23 #[.int .i64 (meetQ q 0).1, .int .i64 (meetQ q 0).2] :: .row w'.heap.size 3 1 (.slice Aq K cq) K (numV q) :: .row w'.heap.size 87 5 (.slice At N ct) N (rtsRow l) :: ts) wr)
    (hexit : ∀ ⦃kv20 kv21 kv136 kv137 kv138 kv139 kv140 kv141 kv142 kv143 kv144 kv145 kv146 kv147 kv148 kv149 kv150 kv151 kv152 kv153 kv154 kv155 kv156 kv157 kv158 kv159 kv160 kv161 kv162 kv163 : Value⦄  ⦃w2 : World⦄, Mem w' (.blk go 23 #[.int .i64 (meetQ q K).1, .int .i64 (meetQ q K).2] :: .row w'.heap.size 3 1 (.slice Aq K cq) K (numV q) :: .row w'.heap.size 87 5 (.slice At N ct) N (rtsRow l) :: ts) w2 → Q (.exit 6) ⟨List.toArray (.pointer (some ⟨p, 0, none⟩) :: kc1 :: .int .i64 time :: kc3 :: kc4 :: kc5 :: kc6 :: kc7 :: kc8 :: kc9 :: kc10 :: kc11 :: .slice At N ct :: .slice Aq K cq :: kc14 :: kc15 :: kc16 :: kc17 :: kc18 :: .pointer (some ⟨go, 0, none⟩) :: kv20 :: kv21 :: kc22 :: kc23 :: kc24 :: kc25 :: kc26 :: kc27 :: kc28 :: kc29 :: kc30 :: kc31 :: kc32 :: kc33 :: kc34 :: kc35 :: kc36 :: kc37 :: kc38 :: kc39 :: kc40 :: kc41 :: kc42 :: kc43 :: kc44 :: kc45 :: kc46 :: kc47 :: kc48 :: kc49 :: kc50 :: kc51 :: kc52 :: kc53 :: kc54 :: kc55 :: kc56 :: kc57 :: kc58 :: kc59 :: kc60 :: kc61 :: kc62 :: kc63 :: kc64 :: kc65 :: kc66 :: kc67 :: kc68 :: kc69 :: kc70 :: kc71 :: kc72 :: kc73 :: kc74 :: kc75 :: kc76 :: kc77 :: kc78 :: kc79 :: kc80 :: kc81 :: kc82 :: kc83 :: kc84 :: kc85 :: kc86 :: kc87 :: kc88 :: kc89 :: kc90 :: kc91 :: kc92 :: kc93 :: kc94 :: kc95 :: kc96 :: kc97 :: kc98 :: kc99 :: kc100 :: kc101 :: kc102 :: kc103 :: kc104 :: kc105 :: kc106 :: kc107 :: kc108 :: kc109 :: kc110 :: kc111 :: kc112 :: kc113 :: kc114 :: kc115 :: kc116 :: kc117 :: kc118 :: kc119 :: kc120 :: kc121 :: kc122 :: kc123 :: kc124 :: kc125 :: kc126 :: kc127 :: kc128 :: kc129 :: kc130 :: kc131 :: kc132 :: kc133 :: kc134 :: kc135 :: kv136 :: kv137 :: kv138 :: kv139 :: kv140 :: kv141 :: kv142 :: kv143 :: kv144 :: kv145 :: kv146 :: kv147 :: kv148 :: kv149 :: kv150 :: kv151 :: kv152 :: kv153 :: kv154 :: kv155 :: kv156 :: kv157 :: kv158 :: kv159 :: kv160 :: kv161 :: kv162 :: kv163 :: kc164 :: kc165 :: []), []⟩ w2) :
    Code.wp Try.prog rgl4C Q ⟨List.toArray (.pointer (some ⟨p, 0, none⟩) :: kc1 :: .int .i64 time :: kc3 :: kc4 :: kc5 :: kc6 :: kc7 :: kc8 :: kc9 :: kc10 :: kc11 :: .slice At N ct :: .slice Aq K cq :: kc14 :: kc15 :: kc16 :: kc17 :: kc18 :: .pointer (some ⟨go, 0, none⟩) :: .int .i64 0 :: ku21 :: kc22 :: kc23 :: kc24 :: kc25 :: kc26 :: kc27 :: kc28 :: kc29 :: kc30 :: kc31 :: kc32 :: kc33 :: kc34 :: kc35 :: kc36 :: kc37 :: kc38 :: kc39 :: kc40 :: kc41 :: kc42 :: kc43 :: kc44 :: kc45 :: kc46 :: kc47 :: kc48 :: kc49 :: kc50 :: kc51 :: kc52 :: kc53 :: kc54 :: kc55 :: kc56 :: kc57 :: kc58 :: kc59 :: kc60 :: kc61 :: kc62 :: kc63 :: kc64 :: kc65 :: kc66 :: kc67 :: kc68 :: kc69 :: kc70 :: kc71 :: kc72 :: kc73 :: kc74 :: kc75 :: kc76 :: kc77 :: kc78 :: kc79 :: kc80 :: kc81 :: kc82 :: kc83 :: kc84 :: kc85 :: kc86 :: kc87 :: kc88 :: kc89 :: kc90 :: kc91 :: kc92 :: kc93 :: kc94 :: kc95 :: kc96 :: kc97 :: kc98 :: kc99 :: kc100 :: kc101 :: kc102 :: kc103 :: kc104 :: kc105 :: kc106 :: kc107 :: kc108 :: kc109 :: kc110 :: kc111 :: kc112 :: kc113 :: kc114 :: kc115 :: kc116 :: kc117 :: kc118 :: kc119 :: kc120 :: kc121 :: kc122 :: kc123 :: kc124 :: kc125 :: kc126 :: kc127 :: kc128 :: kc129 :: kc130 :: kc131 :: kc132 :: kc133 :: kc134 :: kc135 :: ku136 :: ku137 :: ku138 :: ku139 :: ku140 :: ku141 :: ku142 :: ku143 :: ku144 :: ku145 :: ku146 :: ku147 :: ku148 :: ku149 :: ku150 :: ku151 :: ku152 :: ku153 :: ku154 :: ku155 :: ku156 :: ku157 :: ku158 :: ku159 :: ku160 :: ku161 :: ku162 :: ku163 :: kc164 :: kc165 :: []), []⟩ wr := by
  have HX := hide hexit
  clear hexit
  unfold rgl4C
  conv => arg 2; whnf
  have HM := hide hM
  clear hM
  have hgood := hb.good
  have hN5 := tests_le hb.good
  rw [hN] at hN5
  have hga := fun t (ht : TestIn l t) (hr : t.radar = n) W (hW : Below w'.heap.size w' W) => rgain_any l p cb A t d time W (hb.later hW) ht (by rw [hr]; exact hd) t0 t1
  have hN2 : (N : Int) ≤ 512 := by omega
  have hrl : (testsT l).reverse.length = N := by rw [List.length_reverse]; exact hN
  have hat := fun i (hi : i < q.length) => cnt_at (l := l) (n := n) (d := d) (time := time) (k := N) (i := i) hb.good (by rw [← hq]; exact hi)
  rw [← hq] at hat
  have hql : q.length ≤ N := by rw [hq]; exact selN_length _ _ _ _ _ _
  rw [hK] at hat hql
  have hgt := fun i (hi : i < K) => numV_get (q := q) (i := i) (by rw [hK]; exact hi)
  have Hga := hide hga
  have Hgood := hide hgood
  have Hrl := hide hrl
  have Hat := hide hat
  have Hgt := hide hgt
  clear hga hgood hrl hat hgt
  clear hb hN hq hd hK
  go_loopw [20] (fun i wr => ∃ k : Nat, k ≤ K ∧ i = .int .i64 k ∧ Mem w' (.blk go 23 #[.int .i64 (meetQ q k).1, .int .i64 (meetQ q k).2] :: .row w'.heap.size 3 1 (.slice Aq K cq) K (numV q) :: .row w'.heap.size 87 5 (.slice At N ct) N (rtsRow l) :: ts) wr) (fun i _ => K - (intOf i).toNat)
  case atStart => exact ⟨0, Nat.zero_le _, rfl, HM.out⟩
  case round =>
    obtain ⟨k, hk, rfl, hM⟩ := hrel
    clear HM
    have HM := hide hM
    clear hM
    by_cases hlt : k < K
    · have hlt2 : (k : Int) < K := by omega
      obtain ⟨t, ht, hin, hr, hsp⟩ := Hat.out k hlt
      have hgk := Hgt.out k hlt
      have hg := Hga.out t hin hr
      rw [← hsp] at hg
      have hms : meetQ q (k + 1) = (max (meetQ q k).1 (q.getD k (0, (0, 0))).2.1, min (meetQ q k).2 (q.getD k (0, (0, 0))).2.2) := rfl
      obtain ⟨⟨tk, ⟨s1, s2⟩⟩, hy⟩ : ∃ y, q.getD k (0, (0, 0)) = y := ⟨_, rfl⟩
      rw [hy] at hms hgk hg ht
      simp only at hms hgk hg ht
      have htk : tk < N := by have := (List.getElem?_eq_some_iff.1 ht).1; rw [Hrl.out] at this; exact this
      have htk2 : (tk : Int) < N := by omega
      obtain ⟨b, cur, hA, -, hbk, -, -, hcc⟩ := row_blk (Mem.row_ HM.out 2 rfl) (by omega)
      have y0 := hbk.c (tk * 5) (hcc (tk * 5) _ (rts_at ht 0 _ rfl))
      have y1 := hbk.c (tk * 5 + 1) (hcc (tk * 5 + 1) _ (rts_at ht 1 _ rfl))
      have y2 := hbk.c (tk * 5 + 2) (hcc (tk * 5 + 2) _ (rts_at ht 2 _ rfl))
      have y3 := hbk.c (tk * 5 + 3) (hcc (tk * 5 + 3) _ (rts_at ht 3 _ rfl))
      have y4 := hbk.c (tk * 5 + 4) (hcc (tk * 5 + 4) _ (rts_at ht 4 _ rfl))
      have lty := hbk.lt
      obtain ⟨b2, cur2, hA2, -, hbk2, -, -, hcc2⟩ := row_blk (Mem.row_ HM.out 1 rfl) (by omega)
      have z0 := hbk2.c k (hcc2 k _ hgk)
      have ltz := hbk2.lt
      clear hbk hcc hbk2 hcc2 ht hgk hy hsp hin hr
      subst hA
      subst hA2
      obtain ⟨m, hm⟩ : ∃ m, meetQ q k = m := ⟨_, rfl⟩
      rw [hm] at HM hms
      clear hm
      obtain ⟨m1, m2⟩ := m
      obtain ⟨mx, emx⟩ : ∃ mx, (if m1 < s1 then s1 else m1) = mx := ⟨_, rfl⟩
      obtain ⟨mn, emn⟩ : ∃ mn, (if s2 < m2 then s2 else m2) = mn := ⟨_, rfl⟩
      have hms2 : meetQ q (k + 1) = (mx, mn) := by rw [hms, ← emx, ← emn, Int.max_def, Int.min_def]; simp only; congr 1 <;> (split <;> split <;> omega)
      have emx2 : max m1 s1 = mx := by rw [← emx]; split <;> omega
      have emn2 : min m2 s2 = mn := by rw [← emn]; split <;> omega
      clear hms
      unfold ptrB tstV at hg
      obtain ⟨tr, tn, tt, tl, th⟩ := t
      simp only at hg HM y0 y1 y2 y3 y4
      have Hg := hide hg
      have Hms := hide hms2
      clear hg hms2
      go_wp2_with fail
      refine (Hg.out _ HM.out.below).mono ?_
      rintro e w1 ⟨rfl, hb⟩
      replace HM := hide (HM.out.later hb)
      clear hb
      clear y0 y1 y2 y3 y4 lty z0 ltz Hg
      go_wp2_with fail
      refine code_world fun W2 hW => ?_
      have HMn := Mem.to (Mem.allocAt HM.out w1.heap.size rfl #[.int .i64 s1, .int .i64 s2] 23) hW
      have LW : Later w1 W2 := by rw [hW]; exact ((Below.refl _ _).alloc (Nat.le_refl _) _)
      have szW : W2.heap.size = w1.heap.size + 1 := by rw [hW]; simp
      clear hW
      replace HM := hide HMn
      clear HMn LW
      obtain ⟨gs, hgs⟩ : ∃ gs, w1.heap.size = gs := ⟨_, rfl⟩
      rw [hgs] at HM szW ⊢
      clear szW hgs
      have hne := Mem.ne HM.out 0 1 rfl rfl (by decide)
      have bq : Blk W2 go 23 #[.int .i64 m1, .int .i64 m2] := HM.out.get 1 rfl
      have ltq := bq.lt
      have q0 := bq.c 0 rfl
      have q1 := bq.c 1 rfl
      have bs : Blk W2 gs 23 #[.int .i64 s1, .int .i64 s2] := HM.out.get 0 rfl
      have lts := bs.lt
      have s0 := bs.c 0 rfl
      have s1 := bs.c 1 rfl
      have Hq9 := hide bq
      apply wp_region_F (w0 := W2) [[], [0], [], [2], [0, 1, 2, 3], [], [5], [], [7], [5, 6, 7, 8], [0, 1, 2, 3, 4, 5, 6], [0, 1, 2, 3, 4, 5, 6, 10], [0, 1, 2, 3, 4, 5, 6, 7, 8, 9, 10, 11], [0, 1, 2, 3, 4, 5, 6, 7, 8, 9, 10, 11, 12]] [true, true, true, true, true, true, true, false, false, false, true, false, false, false] [false, false, false, false, false, false, false, true, true, true, false, false, true, false] [⟨11, none, [], []⟩, ⟨13, some 11, [11], []⟩] [(11, go)] [11] (fun ixq y => match ixq with | 11 => undef | 13 => undef | _ => undef) (fun ixq x F wq => match ixq with | 11 => F go ∧ Blk wq go 23 #[.int .i64 mx, .int .i64 m2] | 13 => F go ∧ Blk wq go 23 #[.int .i64 mx, .int .i64 mn] | _ => True) (fun a x => ((a).put (none) (undef)).put (none) (undef)) (by kernel_rfl) (by kernel_rfl) (by kernel_rfl) (fun _ => rfl) [] (by kernel_rfl) (fills_lt1 (by omega)) fills_ne1
      · intro x D hD
        have hne := hD.some
        have k0 := liftS hD q0 (by exact early_all (by first | assumption | omega) (by rfl))
        have k1 := liftS hD q1 (by exact early_all (by first | assumption | omega) (by rfl))
        have k2 := liftS hD s0 (by exact early_all (by first | assumption | omega) (by rfl))
        simp only [takeOps, Act.put, List.setIfInBounds_toArray, List.set_cons_succ, List.set_cons_zero]
        repeat (go_big_quiet_step (fail))
        exact wpQuiet_nil rfl
      · intro x D hD
        have hne := hD.some
        have k3 := liftS hD s1 (by exact ⟨by first | assumption | omega, free1 (by omega)⟩)
        simp only [takeOps, Act.put, List.setIfInBounds_toArray, List.set_cons_succ, List.set_cons_zero]
        repeat (go_big_quiet_step (fail))
        exact wpQuiet_nil rfl
      · exact fun _ h => absurd h (by simp)
      · refine ⟨?_, ?_, trivial⟩
        · exact obl_set 3 23 162 156 go 0 _ (mx) #[.int .i64 mx, .int .i64 m2] (by kernel_rfl) (fun _ => rfl) (fun _ => rfl) Hq9.out eb_fill1 (by simp [wrF]) (by kernel_rfl) (by simp) (by simp) (fun _ => rfl) (fun _ _ _ _ h1 h2 => ⟨h1, h2⟩)
        · exact obl_set_more 3 23 163 161 11 go 1 _ (mn) #[.int .i64 mx, .int .i64 mn] (by kernel_rfl) rfl (by simp) (fun _ _ _ h => h) (fun _ => rfl) (fun _ => rfl) (by kernel_rfl) (by simp) (by simp) (fun _ => rfl) (fun _ _ _ _ h1 h2 => ⟨h1, h2⟩)
      · refine ⟨?_, ?_, trivial⟩
        · exact owe_fill go 23 (fun x => #[.int .i64 mx, .int .i64 m2]) (fun _ _ _ => rfl) (fun _ _ _ => rfl)
        · exact owe_fill go 23 (fun x => #[.int .i64 mx, .int .i64 mn]) (fun _ _ _ => rfl) (fun _ _ _ => rfl)
      intro xx w3 F hK hlv1
      obtain ⟨-, fct13, -⟩ := hlv1
      replace fct13 : (F 13) go ∧ Blk w3 go 23 #[.int .i64 mx, .int .i64 mn] := fct13 rfl
      clear bq ltq q0 q1 bs lts s0 s1
      have HM1 := hide (HM.out.filled 1 rfl hK (by simp) fct13.2)
      clear HM hK Hq9 hne
      have HM := HM1
      clear HM1
      go_wp2_with fail
      go_roundw
      case rel => exact ⟨k + 1, hlt, by go_num, by rw [Hms.out]; exact HM.out.tail⟩
      case measure => simp [intOf] <;> omega
    · obtain rfl : k = K := by omega
      have hkk : ¬ ((k : Int) < k) := by omega
      go_wp2_with fail
      exact HX.out HM.out
end Go.Proofs.Ytiggefmckomilaa
