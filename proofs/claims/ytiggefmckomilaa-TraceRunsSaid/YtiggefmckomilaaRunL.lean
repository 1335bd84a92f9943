/-
  The law TraceRuns: its loop.
-/
import Derived.Test.YtiggefmckomilaaRefDep
import Derived.Test.YtiggefmckomilaaRefTurn
import Derived.Test.YtiggefmckomilaaRunMath
import Derived.Test.YtiggefmckomilaaRegC
import Derived.Deep.Cut
set_option linter.unusedSimpArgs false
set_option linter.unusedVariables false
namespace Go.Proofs.Ytiggefmckomilaa
open Go Go.RowKit

theorem RMem.stabK {w0 W ww : World} {l : List Ent} {pr : Nat} {v : Value} (hr : RMem w0 l pr v [] W) (hk : ∀ k ∈ pr :: optL v, ww.heap[k]? = W.heap[k]?) (hB : Below w0.heap.size w0 ww) : RMem w0 l pr v [] ww :=
  rmem_of hr.good ((hk pr (List.mem_cons_self ..)).trans (Mem.blk_ hr.mem 0 rfl)) (own_stabT (Mem.row_ hr.mem 1 rfl) fun g hg => hk g (List.mem_cons_of_mem _ (optL_mem hg))) hr.tr.1 (fun k hk => (hr.tr.2 k hk).1) hB
theorem TB.later {base p : Nat} {l : List Ent} {F : Nat → Prop} {w w' : World} (h : TB base l p F w) (hb : Below w.heap.size w w') : TB base l p F w' := by
  obtain ⟨L, h1, h2⟩ := h
  exact ⟨L, h1.later hb, h2⟩
theorem kind8 (k : Int) : (k.tmod 8 + 8).tmod 8 = k % 8 ∧ -7 ≤ k.tmod 8 ∧ k.tmod 8 ≤ 7 := by
  rcases Int.le_total 0 k with h | h
  · rw [Int.tmod_eq_emod_of_nonneg h, Int.tmod_eq_emod_of_nonneg (by omega)]; omega
  · have e : k.tmod 8 = -((-k).tmod 8) := by rw [Int.neg_tmod]; omega
    rw [e, Int.tmod_eq_emod_of_nonneg (a := -k) (by omega), Int.tmod_eq_emod_of_nonneg (by omega)]; omega
set_option maxRecDepth 1000000 in
noncomputable def rnlC : Code := ((loopsOf ((Try.f11.body).getD .skip))[0]?).getD .skip
set_option maxHeartbeats 8000000 in
set_option maxRecDepth 1000000 in
theorem rnl {kc1 ku6 ku7 ku8 ku9 ku10 ku11 ku12 ku13 ku14 ku15 kc16 kc17 kc18 kc19 kc20 kc21 ku22 ku23 ku24 ku25 ku26 ku27 ku28 ku29 ku30 ku31 ku32 ku33 ku34 ku35 ku36 ku37 ku38 ku39 ku40 ku41 ku42 ku43 ku44 ku45 ku46 ku47 ku48 ku49 ku50 ku51 ku52 ku53 ku54 ku55 ku56 ku57 ku58 ku59 ku60 ku61 ku62 ku63 ku64 ku65 ku66 ku67 ku68 ku69 ku70 ku71 ku72 ku73 ku74 ku75 ku76 ku77 ku78 ku79 ku80 ku81 ku82 ku83 ku84 ku85 ku86 ku87 ku88 ku89 ku90 ku91 ku92 ku93 ku94 ku95 ku96 ku97 ku98 ku99 ku100 ku101 ku102 ku103 ku104 ku105 ku106 ku107 ku108 ku109 ku110 ku111 ku112 ku113 ku114 ku115 ku116 ku117 ku118 ku119 ku120 ku121 ku122 ku123 ku124 ku125 ku126 ku127 ku128 ku129 ku130 ku131 ku132 ku133 ku134 ku135 ku136 ku137 ku138 ku139 ku140 ku141 ku142 ku143 ku144 ku145 ku146 ku147 ku148 ku149 ku150 ku151 ku152 ku153 ku154 ku155 ku156 ku157 ku158 ku159 ku160 ku161 ku162 ku163 ku164 ku165 ku166 ku167 ku168 ku169 ku170 ku171 ku172 ku173 ku174 ku175 ku176 ku177 ku178 ku179 ku180 ku181 ku182 ku183 ku184 ku185 ku186 kc187 : Value} (ac : Nat → ActR) (A : Option Addr) (n c : Nat) (w0 : World) (hrow : Rows_ w0 w0.heap.size A n 8 (fun i => actL (ac i))) (hok : ∀ i, ActOk (ac i)) (hn60 : n ≤ 60) (p pr : Nat) (L : Lay) (v : Value) {Q : Exit → Act → World → Prop} {wr : World} (hR : RMem w0 [] pr v [.book [] p L] wr)
    (hexit : ∀ ⦃kv2 kv3 kv4 kv6 kv7 kv8 kv9 kv10 kv11 kv12 kv13 kv14 kv15 kv22 kv23 kv24 kv25 kv26 kv27 kv28 kv29 kv30 kv31 kv32 kv33 kv34 kv35 kv36 kv37 kv38 kv39 kv40 kv41 kv42 kv43 kv44 kv45 kv46 kv47 kv48 kv49 kv50 kv51 kv52 kv53 kv54 kv55 kv56 kv57 kv58 kv59 kv60 kv61 kv62 kv63 kv64 kv65 kv66 kv67 kv68 kv69 kv70 kv71 kv72 kv73 kv74 kv75 kv76 kv77 kv78 kv79 kv80 kv81 kv82 kv83 kv84 kv85 kv86 kv87 kv88 kv89 kv90 kv91 kv92 kv93 kv94 kv95 kv96 kv97 kv98 kv99 kv100 kv101 kv102 kv103 kv104 kv105 kv106 kv107 kv108 kv109 kv110 kv111 kv112 kv113 kv114 kv115 kv116 kv117 kv118 kv119 kv120 kv121 kv122 kv123 kv124 kv125 kv126 kv127 kv128 kv129 kv130 kv131 kv132 kv133 kv134 kv135 kv136 kv137 kv138 kv139 kv140 kv141 kv142 kv143 kv144 kv145 kv146 kv147 kv148 kv149 kv150 kv151 kv152 kv153 kv154 kv155 kv156 kv157 kv158 kv159 kv160 kv161 kv162 kv163 kv164 kv165 kv166 kv167 kv168 kv169 kv170 kv171 kv172 kv173 kv174 kv175 kv176 kv177 kv178 kv179 kv180 kv181 kv182 kv183 kv184 kv185 kv186 : Value⦄  ⦃w2 : World⦄, Below w0.heap.size w0 w2 → Q (.exit 0) ⟨List.toArray (.slice A n c :: kc1 :: kv2 :: kv3 :: kv4 :: .int .i64 (n : Int) :: kv6 :: kv7 :: kv8 :: kv9 :: kv10 :: kv11 :: kv12 :: kv13 :: kv14 :: kv15 :: kc16 :: kc17 :: kc18 :: kc19 :: kc20 :: kc21 :: kv22 :: kv23 :: kv24 :: kv25 :: kv26 :: kv27 :: kv28 :: kv29 :: kv30 :: kv31 :: kv32 :: kv33 :: kv34 :: kv35 :: kv36 :: kv37 :: kv38 :: kv39 :: kv40 :: kv41 :: kv42 :: kv43 :: kv44 :: kv45 :: kv46 :: kv47 :: kv48 :: kv49 :: kv50 :: kv51 :: kv52 :: kv53 :: kv54 :: kv55 :: kv56 :: kv57 :: kv58 :: kv59 :: kv60 :: kv61 :: kv62 :: kv63 :: kv64 :: kv65 :: kv66 :: kv67 :: kv68 :: kv69 :: kv70 :: kv71 :: kv72 :: kv73 :: kv74 :: kv75 :: kv76 :: kv77 :: kv78 :: kv79 :: kv80 :: kv81 :: kv82 :: kv83 :: kv84 :: kv85 :: kv86 :: kv87 :: kv88 :: kv89 :: kv90 :: kv91 :: kv92 :: kv93 :: kv94 :: kv95 :: kv96 :: kv97 :: kv98 :: kv99 :: kv100 :: kv101 :: kv102 :: kv103 :: kv104 :: kv105 :: kv106 :: kv107 :: kv108 :: kv109 :: kv110 :: kv111 :: kv112 :: kv113 :: kv114 :: kv115 :: kv116 :: kv117 :: kv118 :: kv119 :: kv120 :: kv121 :: kv122 :: kv123 :: kv124 :: kv125 :: kv126 :: kv127 :: kv128 :: kv129 :: kv130 :: kv131 :: kv132 :: kv133 :: kv134 :: kv135 :: kv136 :: kv137 :: kv138 :: kv139 :: kv140 :: kv141 :: kv142 :: kv143 :: kv144 :: kv145 :: kv146 :: kv147 :: kv148 :: kv149 :: kv150 :: kv151 :: kv152 :: kv153 :: kv154 :: kv155 :: kv156 :: kv157 :: kv158 :: kv159 :: kv160 :: kv161 :: kv162 :: kv163 :: kv164 :: kv165 :: kv166 :: kv167 :: kv168 :: kv169 :: kv170 :: kv171 :: kv172 :: kv173 :: kv174 :: kv175 :: kv176 :: kv177 :: kv178 :: kv179 :: kv180 :: kv181 :: kv182 :: kv183 :: kv184 :: kv185 :: kv186 :: kc187 :: []), []⟩ w2) :
    Code.wp Try.prog rnlC Q ⟨List.toArray (.slice A n c :: kc1 :: .bool false :: .pointer (some ⟨p, 0, none⟩) :: .pointer (some ⟨pr, 0, none⟩) :: .int .i64 0 :: ku6 :: ku7 :: ku8 :: ku9 :: ku10 :: ku11 :: ku12 :: ku13 :: ku14 :: ku15 :: kc16 :: kc17 :: kc18 :: kc19 :: kc20 :: kc21 :: ku22 :: ku23 :: ku24 :: ku25 :: ku26 :: ku27 :: ku28 :: ku29 :: ku30 :: ku31 :: ku32 :: ku33 :: ku34 :: ku35 :: ku36 :: ku37 :: ku38 :: ku39 :: ku40 :: ku41 :: ku42 :: ku43 :: ku44 :: ku45 :: ku46 :: ku47 :: ku48 :: ku49 :: ku50 :: ku51 :: ku52 :: ku53 :: ku54 :: ku55 :: ku56 :: ku57 :: ku58 :: ku59 :: ku60 :: ku61 :: ku62 :: ku63 :: ku64 :: ku65 :: ku66 :: ku67 :: ku68 :: ku69 :: ku70 :: ku71 :: ku72 :: ku73 :: ku74 :: ku75 :: ku76 :: ku77 :: ku78 :: ku79 :: ku80 :: ku81 :: ku82 :: ku83 :: ku84 :: ku85 :: ku86 :: ku87 :: ku88 :: ku89 :: ku90 :: ku91 :: ku92 :: ku93 :: ku94 :: ku95 :: ku96 :: ku97 :: ku98 :: ku99 :: ku100 :: ku101 :: ku102 :: ku103 :: ku104 :: ku105 :: ku106 :: ku107 :: ku108 :: ku109 :: ku110 :: ku111 :: ku112 :: ku113 :: ku114 :: ku115 :: ku116 :: ku117 :: ku118 :: ku119 :: ku120 :: ku121 :: ku122 :: ku123 :: ku124 :: ku125 :: ku126 :: ku127 :: ku128 :: ku129 :: ku130 :: ku131 :: ku132 :: ku133 :: ku134 :: ku135 :: ku136 :: ku137 :: ku138 :: ku139 :: ku140 :: ku141 :: ku142 :: ku143 :: ku144 :: ku145 :: ku146 :: ku147 :: ku148 :: ku149 :: ku150 :: ku151 :: ku152 :: ku153 :: ku154 :: ku155 :: ku156 :: ku157 :: ku158 :: ku159 :: ku160 :: ku161 :: ku162 :: ku163 :: ku164 :: ku165 :: ku166 :: ku167 :: ku168 :: ku169 :: ku170 :: ku171 :: ku172 :: ku173 :: ku174 :: ku175 :: ku176 :: ku177 :: ku178 :: ku179 :: ku180 :: ku181 :: ku182 :: ku183 :: ku184 :: ku185 :: ku186 :: kc187 :: []), []⟩ wr := by
  have HX := hide hexit
  clear hexit
  unfold rnlC
  conv => arg 2; whnf
  have HR := hide hR
  have Hrow := hide hrow
  have Hok := hide hok
  clear hrow hok
  clear hR
  go_loopw [3, 4, 5] (fun bv rv i wr2 => ∃ (ii : Nat) (l : List Ent) (L : Lay) (p pr : Nat) (v : Value), ii ≤ n ∧ bv = .pointer (some ⟨p, 0, none⟩) ∧ rv = .pointer (some ⟨pr, 0, none⟩) ∧ i = .int .i64 ii ∧ RMem w0 l pr v [.book l p L] wr2) (fun _ _ i _ => n - (intOf i).toNat)
  case atStart => exact ⟨0, [], L, p, pr, v, by omega, rfl, rfl, rfl, HR.out⟩
  case round =>
    clear HR
    clear L p pr v
    obtain ⟨i, l, L, p, pr, v, hin, rfl, rfl, rfl, hR⟩ := hrel
    have HR := hide hR
    clear hR
    by_cases hi2 : i < n
    · have hi3 : (i : Int) < n := by omega
      obtain ⟨b, off, hA, hltb, hc⟩ := Hrow.out (by omega)
      have hak := Hok.out i
      obtain ⟨aa, haa⟩ : ∃ x, ac i = x := ⟨_, rfl⟩
      rw [haa] at hak
      have hc' := fun j u hj => hc i hi2 j u hj
      simp only [haa] at hc'
      obtain ⟨ka, nm, pa, lo, hi, tm, un, na⟩ := aa
      obtain ⟨hk0, hk1, hnm, hpa⟩ := hak
      simp only at hk0 hk1 hnm hpa
      have q0 := hc' 0 (.int .i64 ka) rfl
      have q1 := hc' 1 (.string nm) rfl
      have q2 := hc' 2 (.string pa) rfl
      have q3 := hc' 3 (.int .i64 lo) rfl
      have q4 := hc' 4 (.int .i64 hi) rfl
      have q5 := hc' 5 (.int .i64 tm) rfl
      have q6 := hc' 6 (.int .i64 un) rfl
      have q7 := hc' 7 (.int .i64 na) rfl
      rw [Nat.add_zero] at q0
      rw [← HR.out.mem.below.cell hltb] at q0 q1 q2 q3 q4 q5 q6 q7
      have ltq : b < wr.heap.size := Nat.lt_of_lt_of_le hltb HR.out.mem.size
      obtain ⟨hrb, hbk, hlo, hap⟩ := HR.out.apartB
      have htr := hrb.tr
      have hAl := BookR.lt hbk
      obtain ⟨hkk, hkt1, hkt2⟩ := kind8 ka
      obtain ⟨kt, hkt⟩ : ∃ kt : Int, ka.tmod 8 = kt := ⟨_, rfl⟩
      rw [hkt] at hkk hkt1 hkt2
      obtain ⟨kq, hkq⟩ : ∃ kq : Int, ka % 8 = kq := ⟨_, rfl⟩
      rw [hkq] at hkk
      have hkqb : 0 ≤ kq ∧ kq ≤ 7 := by omega
      have HR0 := hide HR.out
      clear hc hc' haa
      subst hA
      have HRB := hide hrb
      have HBK := hide hbk
      have HLO := hide hlo
      have HAP := hide hap
      have HTR := hide htr
      have HAL := hide hAl
      have HNM := hide hnm
      have HPA := hide hpa
      have HKQ := hide hkq
      clear hrb hbk hlo hap htr hAl hnm hpa hkq
      obtain ⟨ns, hns⟩ : ∃ ns : Nat, nm.size = ns := ⟨_, rfl⟩
      obtain ⟨ps, hps⟩ : ∃ ps : Nat, pa.size = ps := ⟨_, rfl⟩
      by_cases h1 : (40 : Int) < ns
      · have hd1 : decide ((40 : Int) < ns) = true := decide_eq_true h1
        go_wp2_with fail
        go_roundw
        case rel => exact ⟨i + 1, l, L, p, pr, v, by omega, rfl, rfl, by go_num, HR.out.later (Below.alloc (Below.refl _ _) (Nat.le_refl _) _)⟩
        case measure => simp [intOf] <;> omega
      by_cases h2 : (40 : Int) < ps
      · have hd1 : decide ((40 : Int) < ns) = false := decide_eq_false h1
        have hd2 : decide ((40 : Int) < ps) = true := decide_eq_true h2
        go_wp2_with fail
        go_roundw
        case rel => exact ⟨i + 1, l, L, p, pr, v, by omega, rfl, rfl, by go_num, HR.out.later (Below.alloc (Below.refl _ _) (Nat.le_refl _) _)⟩
        case measure => simp [intOf] <;> omega
      have hd1 : decide ((40 : Int) < ns) = false := decide_eq_false h1
      have hd2 : decide ((40 : Int) < ps) = false := decide_eq_false h2
      go_upto_region 12 with fail
      clear q0 q1 q2 q3 q4 q5 q6 q7 ltq
      refine code_world fun W hW => ?_
      have bq0 : Blk W wr.heap.size 59 #[.int .i64 ka, .string nm, .string pa, .int .i64 lo, .int .i64 hi, .int .i64 tm, .int .i64 un, .int .i64 na] := by rw [hW]; exact Blk.new _ _ _
      have LW : Later wr W := by rw [hW]; exact ((Below.refl _ _).alloc (Nat.le_refl _) _)
      have szW : W.heap.size = wr.heap.size + 1 := by rw [hW]; simp
      clear hW
      replace HR := hide (HR.out.later LW)
      have Hx := hide bq0
      clear bq0 LW szW
      have hXlt := Hx.out.lt
      have HXlt := hide hXlt
      clear hXlt
      have h7 : kq = 0 ∨ kq = 1 ∨ kq = 2 ∨ kq = 3 ∨ kq = 4 ∨ kq = 5 ∨ kq = 6 ∨ kq = 7 := by omega
      rcases h7 with rfl | rfl | rfl | rfl | rfl | rfl | rfl | rfl
      · have hcase : True := trivial
        obtain ⟨ev, hev⟩ : ∃ ev, radarE l nm na = ev := ⟨_, rfl⟩
        have hvv : (ev == ev) = true := beq_self_eq_true ev
        obtain ⟨hrb, hbk, hlo, hap⟩ := HR.out.apartB
        have hA9 : ∀ k, k ∈ L.all p → k < W.heap.size := BookR.lt hbk
        have hB9 : ∀ k, k ∈ pr :: optL v → k < W.heap.size := fun k hk => (hrb.tr.2 k hk).2
        have hlo2 : ∀ k, k ∈ pr :: optL v → w0.heap.size ≤ k := fun k hk => (hrb.tr.2 k hk).1
        have hB6 : ∀ k, k ∈ pr :: optL v → k + 1 < W.heap.size := fun k hk => by have := (HTR.out.2 k hk).2; have := HXlt.out; omega
        have hXF : wr.heap.size < W.heap.size ∧ ∀ q, ¬ wrS 5 11 (fun k => k ∈ L.all p) (fun k => k ∈ pr :: optL v) q wr.heap.size := ⟨HXlt.out, wrS_out (fun h => by have := HAL.out _ h; omega) (fun h => by have := (HTR.out.2 _ h).2; omega)⟩
        clear HRB HBK HLO HAP
        have HRB := hide hrb
        have HBK := hide hbk
        have HLO := hide hlo
        have HAP := hide hap
        have HA9 := hide hA9
        have HB9 := hide hB9
        have HLO2 := hide hlo2
        have HB6 := hide hB6
        have HXF := hide hXF
        have HEV := hide hev
        clear hrb hbk hlo hap hA9 hB9 hlo2 hB6 hXF hev
        obtain ⟨x0, x1, x2, x3, x4, x5, x6, x7⟩ := Hx.out.c8
        have ltx := Hx.out.lt
        go_wp2_with fail
        apply wp_region_W (w0 := W) (wrS 5 11 (fun k => k ∈ L.all p) (fun k => k ∈ pr :: optL v)) [[], [], [], [], [], [], [], [], [], [], [], [5], [5, 11], [5, 11]] [true, true, true, true, true, false, true, true, true, true, true, false, true, true] [⟨5, none, [], []⟩, ⟨11, none, [], []⟩] (fun ixq y => match ixq with | 5 => .int .i64 ev | 11 => .int .i64 ev | _ => undef) (fun ixq x F wq => match ixq with | 5 => TB w0.heap.size (if ev = 0 then .radar nm na :: l else l) p F wq | 11 => TR w0.heap.size (if ev = 0 then .radar nm na :: l else l) pr F wq | _ => True) (fun a x => ((a).put (some 54) (.int .i64 ev)).put (some 60) (.int .i64 ev)) (by kernel_rfl) (by kernel_rfl) (fun _ => rfl) [] (by kernel_rfl) (wrS_low HA9.out HB9.out) (wrS_ap HAP.out)
        · intro x D hD
          have hne := hD.some
          have k1 := liftS hD x1 (HXF.out)
          have k7 := liftS hD x7 (HXF.out)
          simp only [takeOps, Act.put, List.setIfInBounds_toArray, List.set_cons_succ, List.set_cons_zero]
          repeat (go_big_quiet_step (fail))
          exact wpQuiet_nil rfl
        · exact fun _ h => absurd h (by simp)
        · refine ⟨?_, ?_, trivial⟩
          · refine obl_turn rfl (fun _ => by kernel_rfl) 17 (fun x => #[.pointer (some ⟨p, 0, none⟩), .string nm, .int .i64 na]) (fun x w => by kernel_rfl) ?_
            intro x w F hL hN
            have hb2 := keepB (i := 5) HBK.out hL (fun k hk => hk) HAP.out
            have hc2 := Radar_any l p L nm na w hb2 HNM.out
            rw [HEV.out] at hc2
            unfold ptrB at hc2
            try (unfold stdC at hc2; simp only at hc2)
            try (unfold stdV at hc2; simp only at hc2)
            exact turnB hc2 HLO.out (Nat.le_trans HR.out.mem.size hL.size) (fun k hk => .inl ⟨rfl, hk⟩)
          · refine obl_turn rfl (fun _ => by kernel_rfl) 31 (fun x => #[.pointer (some ⟨pr, 0, none⟩), .string nm, .int .i64 na]) (fun x w => by kernel_rfl) ?_
            intro x w F hL hN
            have hr2 := keepR (i := 5) HRB.out hL (fun k hk => hk) HAP.out HLO.out HLO2.out
            refine turnR hr2 (fun k hk => by have := HB6.out k hk; have := hL.size; omega) (fun ts h => ?_) (fun k hk => .inr ⟨rfl, hk⟩)
            have hc2 := rRadar_any w0 l pr v ts nm na w h HNM.out
            rw [HEV.out] at hc2
            unfold ptrB at hc2
            try (unfold stdC at hc2; simp only at hc2)
            try (unfold stdV at hc2; simp only at hc2)
            exact hc2
        · refine ⟨?_, ?_, trivial⟩
          · exact ⟨fun x F w w' h hs hk => TB.stab h hk, fun x x' F w hx h => h⟩
          · exact ⟨fun x F w w' h hs hk => TR.stab h hk, fun x x' F w hx h => h⟩
        intro xx w5 F hK hlv1 hap1
        have apart5_11 : ∀ k, F 5 k → ¬ F 11 k := hap1 _ (List.mem_iff_getElem?.2 ⟨0, rfl⟩) _ (List.mem_iff_getElem?.2 ⟨1, rfl⟩) (by decide) (by intro t ht; simp only [List.mem_cons, List.not_mem_nil, or_false] at ht; rcases ht with rfl | rfl <;> simp) (by intro t ht; simp only [List.mem_cons, List.not_mem_nil, or_false] at ht; rcases ht with rfl | rfl <;> simp)
        clear hap1
        obtain ⟨fct5, fct11, -⟩ := hlv1
        replace fct5 : TB w0.heap.size (if ev = 0 then .radar nm na :: l else l) p (F 5) w5 := fct5 rfl
        replace fct11 : TR w0.heap.size (if ev = 0 then .radar nm na :: l else l) pr (F 11) w5 := fct11 rfl
        clear x0 x1 x2 x3 x4 x5 x6 x7 ltx
        have hB5 : Below w0.heap.size w0 w5 := belowS HR.out.mem.below hK (fun k hk => ⟨by have := HR.out.mem.size; omega, wrS_out (fun h => by have := HLO.out _ h; omega) (fun h => by have := HLO2.out _ h; omega)⟩)
        obtain ⟨L5, v5, hR5⟩ := join_BR hB5 fct5 fct11 apart5_11
        have hx5 : Blk w5 wr.heap.size 59 #[.int .i64 ka, .string nm, .string pa, .int .i64 lo, .int .i64 hi, .int .i64 tm, .int .i64 un, .int .i64 na] := (hK.block _ HXF.out).trans Hx.out
        obtain ⟨l5, hl5⟩ : ∃ x, (if ev = 0 then .radar nm na :: l else l) = x := ⟨_, rfl⟩
        rw [hl5] at hR5
        clear HR Hx hB5 hK fct5 fct11 apart5_11 hl5 HRB HBK HLO HAP HA9 HB9 HLO2 HB6 HXF
        have HR := hide hR5
        have Hx := hide hx5
        clear hR5 hx5
        obtain ⟨Aq, cq, rfl⟩ := HR.out.shape
        have ca := asks_any l5 p pr cq L5 Aq ⟨ka, nm, pa, lo, hi, tm, un, na⟩ w5 (Mem.book_ HR.out.mem 2 rfl) HR.out.ref HNM.out
        unfold ptrB actA actV at ca
        simp only at ca
        obtain ⟨x0, x1, x2, x3, x4, x5, x6, x7⟩ := Hx.out.c8
        have ltx := Hx.out.lt
        go_wp2_with fail
        refine (ca).mono ?_
        rintro e w9 ⟨rfl, hb⟩
        replace HR := hide (HR.out.later hb)
        replace Hx := hide (blk_later Hx.out hb)
        clear hb x0 x1 x2 x3 x4 x5 x6 x7 ltx
        clear ca
        go_wp2_with fail
        go_roundw
        case rel => exact ⟨i + 1, l5, L5, p, pr, _, hi2, rfl, rfl, by go_num, HR.out⟩
        case measure => simp [intOf] <;> omega
      · have hstd := fun W => actStd_any ka nm pa lo hi tm un na W
        unfold actV at hstd
        have HSTD := hide hstd
        clear hstd
        obtain ⟨ev, hev⟩ : ∃ ev, defineE l ⟨nm, pa, lo, hi, tm, un, na⟩ = ev := ⟨_, rfl⟩
        have hvv : (ev == ev) = true := beq_self_eq_true ev
        obtain ⟨hrb, hbk, hlo, hap⟩ := HR.out.apartB
        have hA9 : ∀ k, k ∈ L.all p → k < W.heap.size := BookR.lt hbk
        have hB9 : ∀ k, k ∈ pr :: optL v → k < W.heap.size := fun k hk => (hrb.tr.2 k hk).2
        have hlo2 : ∀ k, k ∈ pr :: optL v → w0.heap.size ≤ k := fun k hk => (hrb.tr.2 k hk).1
        have hB6 : ∀ k, k ∈ pr :: optL v → k + 1 < W.heap.size := fun k hk => by have := (HTR.out.2 k hk).2; have := HXlt.out; omega
        have hXF : wr.heap.size < W.heap.size ∧ ∀ q, ¬ wrS 3 7 (fun k => k ∈ L.all p) (fun k => k ∈ pr :: optL v) q wr.heap.size := ⟨HXlt.out, wrS_out (fun h => by have := HAL.out _ h; omega) (fun h => by have := (HTR.out.2 _ h).2; omega)⟩
        clear HRB HBK HLO HAP
        have HRB := hide hrb
        have HBK := hide hbk
        have HLO := hide hlo
        have HAP := hide hap
        have HA9 := hide hA9
        have HB9 := hide hB9
        have HLO2 := hide hlo2
        have HB6 := hide hB6
        have HXF := hide hXF
        have HEV := hide hev
        clear hrb hbk hlo hap hA9 hB9 hlo2 hB6 hXF hev
        obtain ⟨x0, x1, x2, x3, x4, x5, x6, x7⟩ := Hx.out.c8
        have ltx := Hx.out.lt
        go_wp2_with fail
        apply wp_region_W (w0 := W) (wrS 3 7 (fun k => k ∈ L.all p) (fun k => k ∈ pr :: optL v)) [[], [], [], [], [], [], [3], [3], [3, 7], [3, 7]] [true, true, true, false, true, true, true, false, true, true] [⟨3, none, [], []⟩, ⟨7, none, [], []⟩] (fun ixq y => match ixq with | 3 => .int .i64 ev | 7 => .int .i64 ev | _ => undef) (fun ixq x F wq => match ixq with | 3 => TB w0.heap.size (if ev = 0 then .define ⟨nm, pa, lo, hi, tm, un, na⟩ :: l else l) p F wq | 7 => TR w0.heap.size (if ev = 0 then .define ⟨nm, pa, lo, hi, tm, un, na⟩ :: l else l) pr F wq | _ => True) (fun a x => ((a).put (some 66) (.int .i64 ev)).put (some 70) (.int .i64 ev)) (by kernel_rfl) (by kernel_rfl) (fun _ => rfl) [65, 69] (by kernel_rfl) (wrS_low HA9.out HB9.out) (wrS_ap HAP.out)
        · intro x D hD
          have hne := hD.some
          have k0 := liftS hD x0 (HXF.out)
          have k1 := liftS hD x1 (HXF.out)
          have k2 := liftS hD x2 (HXF.out)
          have k3 := liftS hD x3 (HXF.out)
          have k4 := liftS hD x4 (HXF.out)
          have k5 := liftS hD x5 (HXF.out)
          have k6 := liftS hD x6 (HXF.out)
          have k7 := liftS hD x7 (HXF.out)
          simp only [takeOps, Act.put, List.setIfInBounds_toArray, List.set_cons_succ, List.set_cons_zero]
          repeat (go_big_quiet_step ((go_at_call 45; exact calls_later hD _ (HSTD.out _))))
          exact wpQuiet_nil rfl
        · intro d hd x x'
          simp only [List.mem_cons, List.not_mem_nil, or_false] at hd
          rcases hd with rfl | rfl
          all_goals rfl
        · refine ⟨?_, ?_, trivial⟩
          · refine obl_turn rfl (fun _ => by kernel_rfl) 21 (fun x => #[.pointer (some ⟨p, 0, none⟩), .agg #[.string nm, .string pa, .int .i64 lo, .int .i64 hi, .int .i64 tm, .int .i64 un, .int .i64 na]]) (fun x w => by kernel_rfl) ?_
            intro x w F hL hN
            have hb2 := keepB (i := 3) HBK.out hL (fun k hk => hk) HAP.out
            have hc2 := Define_any l p L ⟨nm, pa, lo, hi, tm, un, na⟩ w hb2 HNM.out HPA.out
            rw [HEV.out] at hc2
            unfold ptrB at hc2
            try (unfold stdC at hc2; simp only at hc2)
            try (unfold stdV at hc2; simp only at hc2)
            exact turnB hc2 HLO.out (Nat.le_trans HR.out.mem.size hL.size) (fun k hk => .inl ⟨rfl, hk⟩)
          · refine obl_turn rfl (fun _ => by kernel_rfl) 32 (fun x => #[.pointer (some ⟨pr, 0, none⟩), .agg #[.string nm, .string pa, .int .i64 lo, .int .i64 hi, .int .i64 tm, .int .i64 un, .int .i64 na]]) (fun x w => by kernel_rfl) ?_
            intro x w F hL hN
            have hr2 := keepR (i := 3) HRB.out hL (fun k hk => hk) HAP.out HLO.out HLO2.out
            refine turnR hr2 (fun k hk => by have := HB6.out k hk; have := hL.size; omega) (fun ts h => ?_) (fun k hk => .inr ⟨rfl, hk⟩)
            have hc2 := rDefine_any w0 l pr v ts ⟨nm, pa, lo, hi, tm, un, na⟩ w h HNM.out
            rw [HEV.out] at hc2
            unfold ptrB at hc2
            try (unfold stdC at hc2; simp only at hc2)
            try (unfold stdV at hc2; simp only at hc2)
            exact hc2
        · refine ⟨?_, ?_, trivial⟩
          · exact ⟨fun x F w w' h hs hk => TB.stab h hk, fun x x' F w hx h => h⟩
          · exact ⟨fun x F w w' h hs hk => TR.stab h hk, fun x x' F w hx h => h⟩
        intro xx w5 F hK hlv2 hap2
        have apart3_7 : ∀ k, F 3 k → ¬ F 7 k := hap2 _ (List.mem_iff_getElem?.2 ⟨0, rfl⟩) _ (List.mem_iff_getElem?.2 ⟨1, rfl⟩) (by decide) (by intro t ht; simp only [List.mem_cons, List.not_mem_nil, or_false] at ht; rcases ht with rfl | rfl <;> simp) (by intro t ht; simp only [List.mem_cons, List.not_mem_nil, or_false] at ht; rcases ht with rfl | rfl <;> simp)
        clear hap2
        obtain ⟨fct3, fct7, -⟩ := hlv2
        replace fct3 : TB w0.heap.size (if ev = 0 then .define ⟨nm, pa, lo, hi, tm, un, na⟩ :: l else l) p (F 3) w5 := fct3 rfl
        replace fct7 : TR w0.heap.size (if ev = 0 then .define ⟨nm, pa, lo, hi, tm, un, na⟩ :: l else l) pr (F 7) w5 := fct7 rfl
        clear x0 x1 x2 x3 x4 x5 x6 x7 ltx
        have hB5 : Below w0.heap.size w0 w5 := belowS HR.out.mem.below hK (fun k hk => ⟨by have := HR.out.mem.size; omega, wrS_out (fun h => by have := HLO.out _ h; omega) (fun h => by have := HLO2.out _ h; omega)⟩)
        obtain ⟨L5, v5, hR5⟩ := join_BR hB5 fct3 fct7 apart3_7
        have hx5 : Blk w5 wr.heap.size 59 #[.int .i64 ka, .string nm, .string pa, .int .i64 lo, .int .i64 hi, .int .i64 tm, .int .i64 un, .int .i64 na] := (hK.block _ HXF.out).trans Hx.out
        obtain ⟨l5, hl5⟩ : ∃ x, (if ev = 0 then .define ⟨nm, pa, lo, hi, tm, un, na⟩ :: l else l) = x := ⟨_, rfl⟩
        rw [hl5] at hR5
        clear HR Hx hB5 hK fct3 fct7 apart3_7 hl5 HRB HBK HLO HAP HA9 HB9 HLO2 HB6 HXF
        have HR := hide hR5
        have Hx := hide hx5
        clear hR5 hx5
        obtain ⟨Aq, cq, rfl⟩ := HR.out.shape
        have ca := asks_any l5 p pr cq L5 Aq ⟨ka, nm, pa, lo, hi, tm, un, na⟩ w5 (Mem.book_ HR.out.mem 2 rfl) HR.out.ref HNM.out
        unfold ptrB actA actV at ca
        simp only at ca
        obtain ⟨x0, x1, x2, x3, x4, x5, x6, x7⟩ := Hx.out.c8
        have ltx := Hx.out.lt
        go_wp2_with fail
        refine (ca).mono ?_
        rintro e w9 ⟨rfl, hb⟩
        replace HR := hide (HR.out.later hb)
        replace Hx := hide (blk_later Hx.out hb)
        clear hb x0 x1 x2 x3 x4 x5 x6 x7 ltx
        clear ca
        go_wp2_with fail
        go_roundw
        case rel => exact ⟨i + 1, l5, L5, p, pr, _, hi2, rfl, rfl, by go_num, HR.out⟩
        case measure => simp [intOf] <;> omega
      · have htst := fun W => actTest_any ka nm pa lo hi tm un na W
        unfold actV at htst
        obtain ⟨ev, hev⟩ : ∃ ev, testE l ⟨nm, pa, tm, lo, hi⟩ = ev := ⟨_, rfl⟩
        obtain ⟨nt, hnt⟩ : ∃ nt, testN l ev = nt := ⟨_, rfl⟩
        have hvv : (ev == ev) = true := beq_self_eq_true ev
        have hvn : (nt == nt) = true := beq_self_eq_true nt
        obtain ⟨hrb, hbk, hlo, hap⟩ := HR.out.apartB
        have hA9 : ∀ k, k ∈ L.all p → k < wr.heap.size := HAL.out
        have hB9 : ∀ k, k ∈ pr :: optL v → k < wr.heap.size := fun k hk => (HTR.out.2 k hk).2
        clear HRB HBK HLO HAP
        have HTST := hide htst
        have HLO := hide hlo
        have HAP := hide hap
        have HA9 := hide hA9
        have HB9 := hide hB9
        have HEV := hide hev
        have HNT := hide hnt
        have HRB := hide hrb
        have HBK := hide hbk
        clear htst hlo hap hA9 hB9 hev hnt hrb hbk
        obtain ⟨x0, x1, x2, x3, x4, x5, x6, x7⟩ := Hx.out.c8
        have ltx := Hx.out.lt
        go_wp2_with fail
        refine (HTST.out _).mono ?_
        rintro e w2 ⟨rfl, hb⟩
        replace HR := hide (HR.out.later hb)
        replace HRB := hide (HRB.out.later hb)
        replace HBK := hide (HBK.out.later hb)
        replace Hx := hide (blk_later Hx.out hb)
        clear hb x0 x1 x2 x3 x4 x5 x6 x7 ltx
        go_wp2_with fail
        have hws2 := Hx.out.lt
        have c3 := Test_any l p L nm pa tm lo hi w2 HBK.out HNM.out HPA.out
        rw [HEV.out, show (if ev = 0 then ((testsT l).length : Int) else 0) = testN l ev from rfl, HNT.out] at c3
        unfold ptrB at c3
        refine (turnB (S := fun k => k ∈ L.all p) c3 HLO.out HR.out.mem.size (fun k hk => hk)).mono ?_
        clear c3
        rintro e w3 ⟨-, G3, rfl, hK3, hG3, hT3⟩
        have hB3 : Below w0.heap.size w0 w3 := belowS HR.out.mem.below hK3 (fun k hk => ⟨by have := HR.out.mem.size; omega, fun h => by rcases h with h | h; exact absurd (HLO.out k h) (by omega); exact h⟩)
        have hr3 := HRB.out.stabK (fun k hk => hK3.block k ⟨by have := HB9.out k hk; omega, fun h => by rcases h with h | h; exact HAP.out k h hk; exact h⟩) hB3
        have hx3 : Blk w3 wr.heap.size 59 #[.int .i64 ka, .string nm, .string pa, .int .i64 lo, .int .i64 hi, .int .i64 tm, .int .i64 un, .int .i64 na] := (hK3.block _ ⟨hws2, fun h => by rcases h with h | h; exact absurd (HA9.out _ h) (by omega); exact h⟩).trans Hx.out
        have hsz3 := hK3.size
        clear HR HRB HBK Hx hK3 hB3
        have hG3' : ∀ k, G3 k → k < w3.heap.size ∧ ¬ k ∈ pr :: optL v := fun k hk => ⟨(hG3 k hk).1, fun hm => by
          rcases (hG3 k hk).2 with h | h | h
          · have := HB9.out k hm; omega
          · exact HAP.out k h hm
          · exact h⟩
        clear hG3
        have hws3 : wr.heap.size < w3.heap.size := by omega
        clear hws2 hsz3
        have hz3 : w3.heap.size ≤ w3.heap.size := Nat.le_refl _
        have HRB := hide hr3
        have Hx := hide hx3
        have HT3 := hide hT3
        have HG3 := hide hG3'
        have HZ := hide hz3
        clear hr3 hx3 hT3 hG3' hz3
        obtain ⟨x0, x1, x2, x3, x4, x5, x6, x7⟩ := Hx.out.c8
        have ltx := Hx.out.lt
        go_wp2_with fail
        refine (HTST.out _).mono ?_
        rintro e w4 ⟨rfl, hb⟩
        replace HRB := hide (HRB.out.later hb)
        replace HT3 := hide (HT3.out.later hb)
        replace HZ := hide (Nat.le_trans HZ.out (Below.size hb))
        replace Hx := hide (blk_later Hx.out hb)
        clear hb x0 x1 x2 x3 x4 x5 x6 x7 ltx
        go_wp2_with fail
        have hws4 := Hx.out.lt
        have c4 := fun ts (h : RMem w0 l pr v ts w4) => rTest_any w0 l pr v ts ⟨nm, pa, tm, lo, hi⟩ w4 h
        rw [HEV.out, HNT.out] at c4
        unfold ptrB tstV at c4
        simp only at c4
        refine (turnR (S := fun k => k ∈ pr :: optL v) HRB.out (fun k hk => by have := HB9.out k hk; omega) c4 (fun k hk => hk)).mono ?_
        clear c4
        rintro e w5 ⟨-, G5, rfl, hK5, hG5, hT5⟩
        have hB5 : Below w0.heap.size w0 w5 := belowS HRB.out.mem.below hK5 (fun k hk => ⟨by have := HRB.out.mem.size; omega, fun h => by rcases h with h | h; exact absurd (HTR.out.2 k h).1 (by omega); exact h⟩)
        have hT3 := HT3.out.stab (w' := w5) (fun k hk => hK5.block k ⟨by have := (HG3.out k hk).1; have := HZ.out; omega, fun h => by rcases h with h | h; exact (HG3.out k hk).2 h; exact h⟩)
        have hx5 : Blk w5 wr.heap.size 59 #[.int .i64 ka, .string nm, .string pa, .int .i64 lo, .int .i64 hi, .int .i64 tm, .int .i64 un, .int .i64 na] := (hK5.block _ ⟨hws4, fun h => by rcases h with h | h; exact absurd (HB9.out _ h) (by omega); exact h⟩).trans Hx.out
        obtain ⟨L5, v5, hR5⟩ := join_BR hB5 hT3 hT5 (fun k h3 h5 => by
          rcases (hG5 k h5).2 with h | h | h
          · have := (HG3.out k h3).1; have := HZ.out; omega
          · exact (HG3.out k h3).2 h
          · exact h)
        obtain ⟨l5, hl5⟩ : ∃ x, (if ev = 0 then .test ⟨nm, pa, tm, lo, hi⟩ :: l else l) = x := ⟨_, rfl⟩
        rw [hl5] at hR5
        clear HRB Hx HT3 HZ hB5 hT3 hT5 hK5 hG5 hl5
        have HR := hide hR5
        have Hx := hide hx5
        clear hR5 hx5
        obtain ⟨Aq, cq, rfl⟩ := HR.out.shape
        have ca := asks_any l5 p pr cq L5 Aq ⟨ka, nm, pa, lo, hi, tm, un, na⟩ w5 (Mem.book_ HR.out.mem 2 rfl) HR.out.ref HNM.out
        unfold ptrB actA actV at ca
        simp only at ca
        obtain ⟨x0, x1, x2, x3, x4, x5, x6, x7⟩ := Hx.out.c8
        have ltx := Hx.out.lt
        go_wp2_with fail
        refine (ca).mono ?_
        rintro e w9 ⟨rfl, hb⟩
        replace HR := hide (HR.out.later hb)
        replace Hx := hide (blk_later Hx.out hb)
        clear hb x0 x1 x2 x3 x4 x5 x6 x7 ltx
        clear ca
        go_wp2_with fail
        go_roundw
        case rel => exact ⟨i + 1, l5, L5, p, pr, _, hi2, rfl, rfl, by go_num, HR.out⟩
        case measure => simp [intOf] <;> omega
      · have hcase : True := trivial
        obtain ⟨ev, hev⟩ : ∃ ev, turnE l nm true = ev := ⟨_, rfl⟩
        have hvv : (ev == ev) = true := beq_self_eq_true ev
        obtain ⟨hrb, hbk, hlo, hap⟩ := HR.out.apartB
        have hA9 : ∀ k, k ∈ L.all p → k < W.heap.size := BookR.lt hbk
        have hB9 : ∀ k, k ∈ pr :: optL v → k < W.heap.size := fun k hk => (hrb.tr.2 k hk).2
        have hlo2 : ∀ k, k ∈ pr :: optL v → w0.heap.size ≤ k := fun k hk => (hrb.tr.2 k hk).1
        have hB6 : ∀ k, k ∈ pr :: optL v → k + 1 < W.heap.size := fun k hk => by have := (HTR.out.2 k hk).2; have := HXlt.out; omega
        have hXF : wr.heap.size < W.heap.size ∧ ∀ q, ¬ wrS 3 7 (fun k => k ∈ L.all p) (fun k => k ∈ pr :: optL v) q wr.heap.size := ⟨HXlt.out, wrS_out (fun h => by have := HAL.out _ h; omega) (fun h => by have := (HTR.out.2 _ h).2; omega)⟩
        clear HRB HBK HLO HAP
        have HRB := hide hrb
        have HBK := hide hbk
        have HLO := hide hlo
        have HAP := hide hap
        have HA9 := hide hA9
        have HB9 := hide hB9
        have HLO2 := hide hlo2
        have HB6 := hide hB6
        have HXF := hide hXF
        have HEV := hide hev
        clear hrb hbk hlo hap hA9 hB9 hlo2 hB6 hXF hev
        obtain ⟨x0, x1, x2, x3, x4, x5, x6, x7⟩ := Hx.out.c8
        have ltx := Hx.out.lt
        go_wp2_with fail
        apply wp_region_W (w0 := W) (wrS 3 7 (fun k => k ∈ L.all p) (fun k => k ∈ pr :: optL v)) [[], [], [], [], [], [], [], [3], [3, 7], [3, 7]] [true, true, true, false, true, true, true, false, true, true] [⟨3, none, [], []⟩, ⟨7, none, [], []⟩] (fun ixq y => match ixq with | 3 => .int .i64 ev | 7 => .int .i64 ev | _ => undef) (fun ixq x F wq => match ixq with | 3 => TB w0.heap.size (if ev = 0 then .turn nm true :: l else l) p F wq | 7 => TR w0.heap.size (if ev = 0 then .turn nm true :: l else l) pr F wq | _ => True) (fun a x => ((a).put (some 92) (.int .i64 ev)).put (some 96) (.int .i64 ev)) (by kernel_rfl) (by kernel_rfl) (fun _ => rfl) [] (by kernel_rfl) (wrS_low HA9.out HB9.out) (wrS_ap HAP.out)
        · intro x D hD
          have hne := hD.some
          have k1 := liftS hD x1 (HXF.out)
          simp only [takeOps, Act.put, List.setIfInBounds_toArray, List.set_cons_succ, List.set_cons_zero]
          repeat (go_big_quiet_step (fail))
          exact wpQuiet_nil rfl
        · exact fun _ h => absurd h (by simp)
        · refine ⟨?_, ?_, trivial⟩
          · refine obl_turn rfl (fun _ => by kernel_rfl) 35 (fun x => #[.pointer (some ⟨p, 0, none⟩), .string nm]) (fun x w => by kernel_rfl) ?_
            intro x w F hL hN
            have hb2 := keepB (i := 3) HBK.out hL (fun k hk => hk) HAP.out
            have hc2 := Withdraw_any l p L nm w hb2 HNM.out
            rw [HEV.out] at hc2
            unfold ptrB at hc2
            try (unfold stdC at hc2; simp only at hc2)
            try (unfold stdV at hc2; simp only at hc2)
            exact turnB hc2 HLO.out (Nat.le_trans HR.out.mem.size hL.size) (fun k hk => .inl ⟨rfl, hk⟩)
          · refine obl_turn rfl (fun _ => by kernel_rfl) 48 (fun x => #[.pointer (some ⟨pr, 0, none⟩), .string nm]) (fun x w => by kernel_rfl) ?_
            intro x w F hL hN
            have hr2 := keepR (i := 3) HRB.out hL (fun k hk => hk) HAP.out HLO.out HLO2.out
            refine turnR hr2 (fun k hk => by have := HB6.out k hk; have := hL.size; omega) (fun ts h => ?_) (fun k hk => .inr ⟨rfl, hk⟩)
            have hc2 := rWithdraw_any w0 l pr v ts nm w h
            rw [HEV.out] at hc2
            unfold ptrB at hc2
            try (unfold stdC at hc2; simp only at hc2)
            try (unfold stdV at hc2; simp only at hc2)
            exact hc2
        · refine ⟨?_, ?_, trivial⟩
          · exact ⟨fun x F w w' h hs hk => TB.stab h hk, fun x x' F w hx h => h⟩
          · exact ⟨fun x F w w' h hs hk => TR.stab h hk, fun x x' F w hx h => h⟩
        intro xx w5 F hK hlv3 hap3
        have apart3_7 : ∀ k, F 3 k → ¬ F 7 k := hap3 _ (List.mem_iff_getElem?.2 ⟨0, rfl⟩) _ (List.mem_iff_getElem?.2 ⟨1, rfl⟩) (by decide) (by intro t ht; simp only [List.mem_cons, List.not_mem_nil, or_false] at ht; rcases ht with rfl | rfl <;> simp) (by intro t ht; simp only [List.mem_cons, List.not_mem_nil, or_false] at ht; rcases ht with rfl | rfl <;> simp)
        clear hap3
        obtain ⟨fct3, fct7, -⟩ := hlv3
        replace fct3 : TB w0.heap.size (if ev = 0 then .turn nm true :: l else l) p (F 3) w5 := fct3 rfl
        replace fct7 : TR w0.heap.size (if ev = 0 then .turn nm true :: l else l) pr (F 7) w5 := fct7 rfl
        clear x0 x1 x2 x3 x4 x5 x6 x7 ltx
        have hB5 : Below w0.heap.size w0 w5 := belowS HR.out.mem.below hK (fun k hk => ⟨by have := HR.out.mem.size; omega, wrS_out (fun h => by have := HLO.out _ h; omega) (fun h => by have := HLO2.out _ h; omega)⟩)
        obtain ⟨L5, v5, hR5⟩ := join_BR hB5 fct3 fct7 apart3_7
        have hx5 : Blk w5 wr.heap.size 59 #[.int .i64 ka, .string nm, .string pa, .int .i64 lo, .int .i64 hi, .int .i64 tm, .int .i64 un, .int .i64 na] := (hK.block _ HXF.out).trans Hx.out
        obtain ⟨l5, hl5⟩ : ∃ x, (if ev = 0 then .turn nm true :: l else l) = x := ⟨_, rfl⟩
        rw [hl5] at hR5
        clear HR Hx hB5 hK fct3 fct7 apart3_7 hl5 HRB HBK HLO HAP HA9 HB9 HLO2 HB6 HXF
        have HR := hide hR5
        have Hx := hide hx5
        clear hR5 hx5
        obtain ⟨Aq, cq, rfl⟩ := HR.out.shape
        have ca := asks_any l5 p pr cq L5 Aq ⟨ka, nm, pa, lo, hi, tm, un, na⟩ w5 (Mem.book_ HR.out.mem 2 rfl) HR.out.ref HNM.out
        unfold ptrB actA actV at ca
        simp only at ca
        obtain ⟨x0, x1, x2, x3, x4, x5, x6, x7⟩ := Hx.out.c8
        have ltx := Hx.out.lt
        go_wp2_with fail
        refine (ca).mono ?_
        rintro e w9 ⟨rfl, hb⟩
        replace HR := hide (HR.out.later hb)
        replace Hx := hide (blk_later Hx.out hb)
        clear hb x0 x1 x2 x3 x4 x5 x6 x7 ltx
        clear ca
        go_wp2_with fail
        go_roundw
        case rel => exact ⟨i + 1, l5, L5, p, pr, _, hi2, rfl, rfl, by go_num, HR.out⟩
        case measure => simp [intOf] <;> omega
      · have hcase : True := trivial
        obtain ⟨ev, hev⟩ : ∃ ev, turnE l nm false = ev := ⟨_, rfl⟩
        have hvv : (ev == ev) = true := beq_self_eq_true ev
        obtain ⟨hrb, hbk, hlo, hap⟩ := HR.out.apartB
        have hA9 : ∀ k, k ∈ L.all p → k < W.heap.size := BookR.lt hbk
        have hB9 : ∀ k, k ∈ pr :: optL v → k < W.heap.size := fun k hk => (hrb.tr.2 k hk).2
        have hlo2 : ∀ k, k ∈ pr :: optL v → w0.heap.size ≤ k := fun k hk => (hrb.tr.2 k hk).1
        have hB6 : ∀ k, k ∈ pr :: optL v → k + 1 < W.heap.size := fun k hk => by have := (HTR.out.2 k hk).2; have := HXlt.out; omega
        have hXF : wr.heap.size < W.heap.size ∧ ∀ q, ¬ wrS 3 7 (fun k => k ∈ L.all p) (fun k => k ∈ pr :: optL v) q wr.heap.size := ⟨HXlt.out, wrS_out (fun h => by have := HAL.out _ h; omega) (fun h => by have := (HTR.out.2 _ h).2; omega)⟩
        clear HRB HBK HLO HAP
        have HRB := hide hrb
        have HBK := hide hbk
        have HLO := hide hlo
        have HAP := hide hap
        have HA9 := hide hA9
        have HB9 := hide hB9
        have HLO2 := hide hlo2
        have HB6 := hide hB6
        have HXF := hide hXF
        have HEV := hide hev
        clear hrb hbk hlo hap hA9 hB9 hlo2 hB6 hXF hev
        obtain ⟨x0, x1, x2, x3, x4, x5, x6, x7⟩ := Hx.out.c8
        have ltx := Hx.out.lt
        go_wp2_with fail
        apply wp_region_W (w0 := W) (wrS 3 7 (fun k => k ∈ L.all p) (fun k => k ∈ pr :: optL v)) [[], [], [], [], [], [], [], [3], [3, 7], [3, 7]] [true, true, true, false, true, true, true, false, true, true] [⟨3, none, [], []⟩, ⟨7, none, [], []⟩] (fun ixq y => match ixq with | 3 => .int .i64 ev | 7 => .int .i64 ev | _ => undef) (fun ixq x F wq => match ixq with | 3 => TB w0.heap.size (if ev = 0 then .turn nm false :: l else l) p F wq | 7 => TR w0.heap.size (if ev = 0 then .turn nm false :: l else l) pr F wq | _ => True) (fun a x => ((a).put (some 102) (.int .i64 ev)).put (some 106) (.int .i64 ev)) (by kernel_rfl) (by kernel_rfl) (fun _ => rfl) [] (by kernel_rfl) (wrS_low HA9.out HB9.out) (wrS_ap HAP.out)
        · intro x D hD
          have hne := hD.some
          have k1 := liftS hD x1 (HXF.out)
          simp only [takeOps, Act.put, List.setIfInBounds_toArray, List.set_cons_succ, List.set_cons_zero]
          repeat (go_big_quiet_step (fail))
          exact wpQuiet_nil rfl
        · exact fun _ h => absurd h (by simp)
        · refine ⟨?_, ?_, trivial⟩
          · refine obl_turn rfl (fun _ => by kernel_rfl) 36 (fun x => #[.pointer (some ⟨p, 0, none⟩), .string nm]) (fun x w => by kernel_rfl) ?_
            intro x w F hL hN
            have hb2 := keepB (i := 3) HBK.out hL (fun k hk => hk) HAP.out
            have hc2 := Reinstate_any l p L nm w hb2 HNM.out
            rw [HEV.out] at hc2
            unfold ptrB at hc2
            try (unfold stdC at hc2; simp only at hc2)
            try (unfold stdV at hc2; simp only at hc2)
            exact turnB hc2 HLO.out (Nat.le_trans HR.out.mem.size hL.size) (fun k hk => .inl ⟨rfl, hk⟩)
          · refine obl_turn rfl (fun _ => by kernel_rfl) 49 (fun x => #[.pointer (some ⟨pr, 0, none⟩), .string nm]) (fun x w => by kernel_rfl) ?_
            intro x w F hL hN
            have hr2 := keepR (i := 3) HRB.out hL (fun k hk => hk) HAP.out HLO.out HLO2.out
            refine turnR hr2 (fun k hk => by have := HB6.out k hk; have := hL.size; omega) (fun ts h => ?_) (fun k hk => .inr ⟨rfl, hk⟩)
            have hc2 := rReinstate_any w0 l pr v ts nm w h
            rw [HEV.out] at hc2
            unfold ptrB at hc2
            try (unfold stdC at hc2; simp only at hc2)
            try (unfold stdV at hc2; simp only at hc2)
            exact hc2
        · refine ⟨?_, ?_, trivial⟩
          · exact ⟨fun x F w w' h hs hk => TB.stab h hk, fun x x' F w hx h => h⟩
          · exact ⟨fun x F w w' h hs hk => TR.stab h hk, fun x x' F w hx h => h⟩
        intro xx w5 F hK hlv4 hap4
        have apart3_7 : ∀ k, F 3 k → ¬ F 7 k := hap4 _ (List.mem_iff_getElem?.2 ⟨0, rfl⟩) _ (List.mem_iff_getElem?.2 ⟨1, rfl⟩) (by decide) (by intro t ht; simp only [List.mem_cons, List.not_mem_nil, or_false] at ht; rcases ht with rfl | rfl <;> simp) (by intro t ht; simp only [List.mem_cons, List.not_mem_nil, or_false] at ht; rcases ht with rfl | rfl <;> simp)
        clear hap4
        obtain ⟨fct3, fct7, -⟩ := hlv4
        replace fct3 : TB w0.heap.size (if ev = 0 then .turn nm false :: l else l) p (F 3) w5 := fct3 rfl
        replace fct7 : TR w0.heap.size (if ev = 0 then .turn nm false :: l else l) pr (F 7) w5 := fct7 rfl
        clear x0 x1 x2 x3 x4 x5 x6 x7 ltx
        have hB5 : Below w0.heap.size w0 w5 := belowS HR.out.mem.below hK (fun k hk => ⟨by have := HR.out.mem.size; omega, wrS_out (fun h => by have := HLO.out _ h; omega) (fun h => by have := HLO2.out _ h; omega)⟩)
        obtain ⟨L5, v5, hR5⟩ := join_BR hB5 fct3 fct7 apart3_7
        have hx5 : Blk w5 wr.heap.size 59 #[.int .i64 ka, .string nm, .string pa, .int .i64 lo, .int .i64 hi, .int .i64 tm, .int .i64 un, .int .i64 na] := (hK.block _ HXF.out).trans Hx.out
        obtain ⟨l5, hl5⟩ : ∃ x, (if ev = 0 then .turn nm false :: l else l) = x := ⟨_, rfl⟩
        rw [hl5] at hR5
        clear HR Hx hB5 hK fct3 fct7 apart3_7 hl5 HRB HBK HLO HAP HA9 HB9 HLO2 HB6 HXF
        have HR := hide hR5
        have Hx := hide hx5
        clear hR5 hx5
        obtain ⟨Aq, cq, rfl⟩ := HR.out.shape
        have ca := asks_any l5 p pr cq L5 Aq ⟨ka, nm, pa, lo, hi, tm, un, na⟩ w5 (Mem.book_ HR.out.mem 2 rfl) HR.out.ref HNM.out
        unfold ptrB actA actV at ca
        simp only at ca
        obtain ⟨x0, x1, x2, x3, x4, x5, x6, x7⟩ := Hx.out.c8
        have ltx := Hx.out.lt
        go_wp2_with fail
        refine (ca).mono ?_
        rintro e w9 ⟨rfl, hb⟩
        replace HR := hide (HR.out.later hb)
        replace Hx := hide (blk_later Hx.out hb)
        clear hb x0 x1 x2 x3 x4 x5 x6 x7 ltx
        clear ca
        go_wp2_with fail
        go_roundw
        case rel => exact ⟨i + 1, l5, L5, p, pr, _, hi2, rfl, rfl, by go_num, HR.out⟩
        case measure => simp [intOf] <;> omega
      · obtain ⟨-, hbk, -, -⟩ := HR.out.apartB
        have cb := Back_any l p L na W hbk
        have cr := fun w2 (h : Below W.heap.size W w2) => rBack_any w0 l pr v [.book l p L] na w2 (HR.out.later h)
        unfold ptrB at cb cr
        obtain ⟨u2, hu2⟩ : ∃ u2, un.tmod 2 = u2 := ⟨_, rfl⟩
        clear HRB HBK HLO HAP
        have hws := Hx.out.lt
        by_cases hi9 : 0 ≤ na ∧ na ≤ (l.length : Int)
        · delta BackPost at cb
          delta RBackPost at cr
          simp only [if_pos hi9] at cb cr
          obtain ⟨l2, hl2⟩ : ∃ x, l.drop (l.length - na.toNat) = x := ⟨_, rfl⟩
          simp only [hl2] at cb cr
          unfold ptrB at cb cr
          have HCR := hide cr
          have HBK := hide hbk
          clear cr hbk
          obtain ⟨x0, x1, x2, x3, x4, x5, x6, x7⟩ := Hx.out.c8
          have ltx := Hx.out.lt
          go_wp2_with fail
          refine cb.mono ?_
          clear cb
          rintro e w2 ⟨q, rfl, Lq, hbq, hBq, hLq⟩
          have cr2 := HCR.out w2 hBq
          have hlt2 := BookR.lt hbq
          have hWs := HR.out.mem.size
          clear HCR
          replace HR := hide (HR.out.later hBq)
          replace Hx := hide (blk_later Hx.out hBq)
          clear hBq x0 x1 x2 x3 x4 x5 x6 x7 ltx
          have HBQ := hide hbq
          have HLQ := hide hLq
          have HLT2 := hide hlt2
          clear hbq hLq hlt2
          obtain ⟨x0, x1, x2, x3, x4, x5, x6, x7⟩ := Hx.out.c8
          have ltx := Hx.out.lt
          go_wp2_with fail
          refine cr2.mono ?_
          clear cr2
          rintro e w3 ⟨q2, v2, rfl, hR2⟩
          have hB3 := hR2.mem.below
          have hw2s := HR.out.mem.size
          replace HR := hide (HR.out.later hB3)
          replace HBQ := hide (HBQ.out.later hB3)
          replace Hx := hide (blk_later Hx.out hB3)
          clear hB3 x0 x1 x2 x3 x4 x5 x6 x7 ltx
          have hTB : TB w0.heap.size l2 q (fun k => k < w2.heap.size) w3 := ⟨Lq, HBQ.out, fun k hk => ⟨HLT2.out k hk, Nat.le_trans hWs (HLQ.out k hk)⟩⟩
          have hTR : TR w0.heap.size l2 q2 (fun k => w2.heap.size ≤ k) w3 := ⟨v2, Mem.blk_ hR2.mem 0 rfl, own_mono (Mem.row_ hR2.mem 1 rfl) hw2s, hR2.tr.1, hR2.good, fun k hk => ⟨(hR2.tr.2 k hk).1, Nat.le_trans hw2s (hR2.tr.2 k hk).1⟩⟩
          obtain ⟨L3, v3, hR3⟩ := join_BR HR.out.mem.below hTB hTR (fun k h1 h2 => by omega)
          clear hTB hTR hR2 HLT2 HLQ hWs hw2s HBQ
          have HR3 := hide hR3
          clear hR3
          obtain ⟨Aq, cq, rfl⟩ := HR3.out.shape
          have ca := asks_any l2 q q2 cq L3 Aq ⟨ka, nm, pa, lo, hi, tm, un, na⟩ w3 (Mem.book_ HR3.out.mem 2 rfl) HR3.out.ref HNM.out
          unfold ptrB actA actV at ca
          simp only at ca
          obtain ⟨x0, x1, x2, x3, x4, x5, x6, x7⟩ := Hx.out.c8
          have ltx := Hx.out.lt
          go_wp2_with fail
          refine (ca).mono ?_
          rintro e w4 ⟨rfl, hb⟩
          replace HR := hide (HR.out.later hb)
          replace HR3 := hide (HR3.out.later hb)
          replace Hx := hide (blk_later Hx.out hb)
          clear hb x0 x1 x2 x3 x4 x5 x6 x7 ltx
          clear ca
          by_cases hu : u2 = 0
          · have hud : (u2 == 0) = true := by rw [hu]; rfl
            clear HR
            have HR := HR3
            clear HR3
            have ca := asks_any l2 q q2 cq L3 Aq ⟨ka, nm, pa, lo, hi, tm, un, na⟩ w4 (Mem.book_ HR.out.mem 2 rfl) HR.out.ref HNM.out
            unfold ptrB actA actV at ca
            simp only at ca
            obtain ⟨x0, x1, x2, x3, x4, x5, x6, x7⟩ := Hx.out.c8
            have ltx := Hx.out.lt
            go_wp2_with fail
            refine (ca).mono ?_
            rintro e w9 ⟨rfl, hb⟩
            replace HR := hide (HR.out.later hb)
            replace Hx := hide (blk_later Hx.out hb)
            clear hb x0 x1 x2 x3 x4 x5 x6 x7 ltx
            clear ca
            go_wp2_with fail
            go_roundw
            case rel => exact ⟨i + 1, l2, L3, q, q2, _, hi2, rfl, rfl, by go_num, HR.out⟩
            case measure => simp [intOf] <;> omega
          · have hud : (u2 == 0) = false := beq_eq_false_iff_ne.2 hu
            clear HR3
            obtain ⟨Aq, cq, rfl⟩ := HR.out.shape
            have ca := asks_any l p pr cq L Aq ⟨ka, nm, pa, lo, hi, tm, un, na⟩ w4 (Mem.book_ HR.out.mem 2 rfl) HR.out.ref HNM.out
            unfold ptrB actA actV at ca
            simp only at ca
            obtain ⟨x0, x1, x2, x3, x4, x5, x6, x7⟩ := Hx.out.c8
            have ltx := Hx.out.lt
            go_wp2_with fail
            refine (ca).mono ?_
            rintro e w9 ⟨rfl, hb⟩
            replace HR := hide (HR.out.later hb)
            replace Hx := hide (blk_later Hx.out hb)
            clear hb x0 x1 x2 x3 x4 x5 x6 x7 ltx
            clear ca
            go_wp2_with fail
            go_roundw
            case rel => exact ⟨i + 1, l, L, p, pr, _, hi2, rfl, rfl, by go_num, HR.out⟩
            case measure => simp [intOf] <;> omega
        · delta BackPost at cb
          delta RBackPost at cr
          simp only [if_neg hi9] at cb cr
          have HCR := hide cr
          have HBK := hide hbk
          clear cr hbk
          obtain ⟨x0, x1, x2, x3, x4, x5, x6, x7⟩ := Hx.out.c8
          have ltx := Hx.out.lt
          go_wp2_with fail
          refine cb.mono ?_
          clear cb
          rintro e w2 ⟨rfl, hBq⟩
          have cr2 := HCR.out w2 hBq
          clear HCR
          replace HR := hide (HR.out.later hBq)
          replace Hx := hide (blk_later Hx.out hBq)
          clear hBq x0 x1 x2 x3 x4 x5 x6 x7 ltx
          obtain ⟨x0, x1, x2, x3, x4, x5, x6, x7⟩ := Hx.out.c8
          have ltx := Hx.out.lt
          go_wp2_with fail
          refine (cr2).mono ?_
          rintro e w3 ⟨rfl, hb⟩
          replace HR := hide (HR.out.later hb)
          replace Hx := hide (blk_later Hx.out hb)
          clear hb x0 x1 x2 x3 x4 x5 x6 x7 ltx
          clear cr2
          obtain ⟨Aq, cq, rfl⟩ := HR.out.shape
          have ca := asks_any l p pr cq L Aq ⟨ka, nm, pa, lo, hi, tm, un, na⟩ w3 (Mem.book_ HR.out.mem 2 rfl) HR.out.ref HNM.out
          unfold ptrB actA actV at ca
          simp only at ca
          obtain ⟨x0, x1, x2, x3, x4, x5, x6, x7⟩ := Hx.out.c8
          have ltx := Hx.out.lt
          go_wp2_with fail
          refine (ca).mono ?_
          rintro e w9 ⟨rfl, hb⟩
          replace HR := hide (HR.out.later hb)
          replace Hx := hide (blk_later Hx.out hb)
          clear hb x0 x1 x2 x3 x4 x5 x6 x7 ltx
          clear ca
          go_wp2_with fail
          go_roundw
          case rel => exact ⟨i + 1, l, L, p, pr, _, hi2, rfl, rfl, by go_num, HR.out⟩
          case measure => simp [intOf] <;> omega
      · obtain ⟨Aq, cq, rfl⟩ := HR.out.shape
        obtain ⟨hrb, hbk, hlo, hap⟩ := HR.out.apartB
        have cc := Copy_any l p L W hbk
        unfold ptrB at cc
        obtain ⟨ev, hev⟩ : ∃ ev, turnE l nm true = ev := ⟨_, rfl⟩
        have hvv : (ev == ev) = true := beq_self_eq_true ev
        clear HRB HBK HLO HAP
        have hws := Hx.out.lt
        have hw0 := HR.out.mem.size
        have HRB := hide hrb
        have HBK := hide hbk
        have HLO := hide hlo
        have HAP := hide hap
        have HEV := hide hev
        clear hrb hbk hlo hap hev
        go_wp2_with fail
        refine cc.mono ?_
        clear cc
        rintro e w2 ⟨q, rfl, Lq, hbq, hBq, hLq⟩
        have hA9 : ∀ k, k ∈ Lq.all q → k < w2.heap.size := BookR.lt hbq
        have hWs2 := hBq.size
        replace HR := hide (HR.out.later hBq)
        replace HRB := hide (HRB.out.later hBq)
        replace HBK := hide (HBK.out.later hBq)
        replace Hx := hide (blk_later Hx.out hBq)
        clear hBq
        have hXF : wr.heap.size < w2.heap.size ∧ ∀ i, ¬ (i = 13 ∧ wr.heap.size ∈ Lq.all q) := ⟨by omega, fun i h => by have := hLq _ h.2; omega⟩
        have hRF : ∀ k, k < wr.heap.size → k < w2.heap.size ∧ ∀ i, ¬ (i = 13 ∧ k ∈ Lq.all q) := fun k hk => ⟨by omega, fun i h => by have := hLq _ h.2; omega⟩
        have hw02 : w0.heap.size ≤ wr.heap.size := HR0.out.mem.size
        have HBQ := hide hbq
        have HA9 := hide hA9
        have HLQ := hide hLq
        have HXF := hide hXF
        have HRF := hide hRF
        clear hbq hA9 hLq hXF hRF
        obtain ⟨x0, x1, x2, x3, x4, x5, x6, x7⟩ := Hx.out.c8
        have ltx := Hx.out.lt
        go_wp2_with fail
        apply wp_region_W (w0 := w2) (fun i k => i = 13 ∧ k ∈ Lq.all q) [[], [], [], [], [], [], [], [6], [6], [6], [6], [6], [6], [6], [6], [6, 13], [6], [6], [6, 13, 15], [6, 13, 15, 18], [6, 13, 15, 18]] [true, true, true, true, true, true, false, true, true, true, true, true, true, false, true, false, true, true, false, true, true] [⟨6, none, [], []⟩, ⟨13, none, [], []⟩, ⟨15, none, [], []⟩, ⟨18, some 15, [15], []⟩] (fun ixq y => match ixq with | 6 => .bool true | 13 => .int .i64 ev | 15 => .pointer (y 0).1 | 18 => .int .i64 ev | _ => undef) (fun ixq x F wq => match ixq with | 6 => True | 13 => True | 15 => ∃ g, (x 15 0).1 = some ⟨g, 0, none⟩ ∧ TC w0.heap.size l g F wq | 18 => True | _ => True) (fun a x => ((((a).put (some 157) (.bool true)).put (some 164) (.int .i64 ev)).put (some 166) (.pointer ((x 15) 0).1)).put (some 169) (.int .i64 ev)) (by kernel_rfl) (by kernel_rfl) (fun _ => rfl) [] (by kernel_rfl) (fun i k h => HA9.out k h.2) (fun i j hij k h1 h2 => hij (h1.1.trans h2.1.symm))
        · intro x D hD
          have hne := hD.some
          have k0 := liftS hD x0 (HXF.out)
          have k1 := liftS hD x1 (HXF.out)
          have k2 := liftS hD x2 (HXF.out)
          have k3 := liftS hD x3 (HXF.out)
          have k4 := liftS hD x4 (HXF.out)
          have k5 := liftS hD x5 (HXF.out)
          have k6 := liftS hD x6 (HXF.out)
          have k7 := liftS hD x7 (HXF.out)
          simp only [takeOps, Act.put, List.setIfInBounds_toArray, List.set_cons_succ, List.set_cons_zero]
          repeat (go_big_quiet_step (fail))
          exact wpQuiet_nil rfl
        · exact fun _ h => absurd h (by simp)
        · refine ⟨?_, ?_, ?_, ?_, trivial⟩
          · refine obl_turnA rfl (fun _ => by kernel_rfl) 51 (fun x => #[.pointer (some ⟨q, 0, none⟩), .pointer (some ⟨pr, 0, none⟩), .agg #[.int .i64 ka, .string nm, .string pa, .int .i64 lo, .int .i64 hi, .int .i64 tm, .int .i64 un, .int .i64 na]]) (fun x w => by kernel_rfl) ?_
            intro x w F hL hN
            have hb6 := BookR.stab HBQ.out (fun k hk => hL.block k ⟨HA9.out k hk, fun j hj hn h => by obtain ⟨rfl, -⟩ := h; exact hn (by decide)⟩)
            have hr6 := HRB.out.stabK (fun k hk => hL.block k ⟨(HRF.out k (HTR.out.2 k hk).2).1, fun j hj hn h => (HRF.out k (HTR.out.2 k hk).2).2 j h⟩) (belowS HRB.out.mem.below hL (fun k hk => ⟨(HRF.out k (by omega)).1, fun j hj hn h => (HRF.out k (by omega)).2 j h⟩))
            have c6 := asks_any l q pr cq Lq Aq ⟨ka, nm, pa, lo, hi, tm, un, na⟩ w hb6 hr6.ref HNM.out
            unfold ptrB actA actV at c6
            simp only at c6
            exact turnN c6
          · refine obl_turn rfl (fun _ => by kernel_rfl) 35 (fun x => #[.pointer (some ⟨q, 0, none⟩), .string nm]) (fun x w => by kernel_rfl) ?_
            intro x w F hL hN
            have hb6 := BookR.stab HBQ.out (fun k hk => hL.block k ⟨HA9.out k hk, fun j hj h => hj h.1⟩)
            have c6 := Withdraw_any l q Lq nm w hb6 HNM.out
            rw [HEV.out] at c6
            unfold ptrB at c6
            refine (turnB (base := 0) (S := fun k => 13 = 13 ∧ k ∈ Lq.all q) c6 (fun k hk => Nat.zero_le _) (Nat.zero_le _) (fun k hk => ⟨rfl, hk⟩)).mono ?_
            rintro e w' ⟨y, G, g1, g2, g3, -⟩
            exact ⟨y, G, g1, g2, g3, trivial⟩
          · refine obl_turn rfl (fun _ => by kernel_rfl) 52 (fun x => #[.pointer (some ⟨pr, 0, none⟩)]) (fun x w => by kernel_rfl) ?_
            intro x w F hL hN
            have hr6 := HRB.out.stabK (fun k hk => hL.block k ⟨(HRF.out k (HTR.out.2 k hk).2).1, fun j hj h => (HRF.out k (HTR.out.2 k hk).2).2 j h⟩) (belowS HRB.out.mem.below hL (fun k hk => ⟨(HRF.out k (by omega)).1, fun j hj h => (HRF.out k (by omega)).2 j h⟩))
            have c6 := rCopy_any w0 l pr _ [] w hr6
            unfold ptrB at c6
            refine c6.mono ?_
            rintro e w' ⟨g, v', rfl, hR2, hz⟩
            have hb2 := hR2.mem.below
            have hw9 := hr6.mem.size
            have ht2 := hR2.tr
            refine ⟨fun _ => (some ⟨g, 0, none⟩, 0), fun k => k ∈ g :: optL v', rfl, ⟨hb2.os, hb2.tape, hb2.output, hb2.size, fun k hk => hb2.block k hk.1⟩, fun k hk => ⟨(ht2.2 k hk).2, .inl (ht2.2 k hk).1⟩, g, by simp [upd], v', fun k hk => ?_, Mem.blk_ hR2.mem 0 rfl, own_mono (Mem.row_ hR2.mem 1 rfl) hw9, ht2.1, hR2.good, fun k hk => ⟨hk, Nat.le_trans hw9 (ht2.2 k hk).1⟩⟩
            have g1 := (ht2.2 k (List.mem_cons_of_mem _ hk)).2
            have g2 : k ≠ g := fun e => ht2.1 (e ▸ hk)
            omega
          · refine obl_turn rfl (fun _ => by kernel_rfl) 48 (fun x => #[.pointer (x 15 0).1, .string nm]) (fun x w => by kernel_rfl) ?_
            intro x w F hL hN
            have n15 := hN 15 (by simp)
            obtain ⟨hF, g, hg, v', g0, g1, g2, g3, g4, g5⟩ := n15
            have hbw : Below w0.heap.size w0 w := belowS HRB.out.mem.below hL (fun k hk => ⟨(HRF.out k (by omega)).1, fun j hj h => (HRF.out k (by omega)).2 j h⟩)
            have hr9 : RMem w0 l g v' [] w := rmem_of g4 g1 g2 g3 (fun k hk => (g5 k hk).2) hbw
            have hgl := g1.lt
            rw [hg]
            refine (turnR2 (S := fun k => F 15 k) (V := .int .i64 ev) (l' := if ev = 0 then .turn nm true :: l else l) hr9 (fun k hk => by have := g0 k hk; omega) (fun ts h => ?_) (fun k hk => (g5 k hk).1)).mono ?_
            · have c6 := rWithdraw_any w0 l g v' ts nm w h
              rw [HEV.out] at c6
              unfold ptrB at c6
              exact c6
            · rintro e w' ⟨y, G, f1, f2, f3, -⟩
              refine ⟨y, fun _ => False, f1, ⟨f2.os, f2.tape, f2.output, f2.size, fun k hk => f2.block k ⟨hk.1, fun h => by rcases h with h | h; exact hk.2 (.inr h); exact h⟩⟩, fun k hk => absurd hk id, trivial⟩
        · refine ⟨?_, ?_, ?_, ?_, trivial⟩
          · exact owe_true (fun _ _ _ => trivial)
          · exact owe_true (fun _ _ _ => trivial)
          · exact ⟨fun x F w w' h hs hk => by obtain ⟨g, g1, g2⟩ := h; exact ⟨g, g1, TC.stab g2 hk⟩, fun x x' F w hx h => by obtain ⟨g, g1, g2⟩ := h; exact ⟨g, by rw [← hx 15 (by simp)]; exact g1, g2⟩⟩
          · exact owe_true (fun _ _ _ => trivial)
        intro xx w5 F hK hlv5 hap5
        clear hap5
        obtain ⟨fct6, fct13, -, fct18, -⟩ := hlv5
        clear fct6
        clear fct13
        clear fct18
        clear x0 x1 x2 x3 x4 x5 x6 x7 ltx
        have hB5 : Below w0.heap.size w0 w5 := belowS HR.out.mem.below hK (fun k hk => HRF.out k (by omega))
        have hTB : TB w0.heap.size l p (fun k => k ∈ L.all p) w5 := TB.stab (w := w2) ⟨L, HBK.out, fun k hk => ⟨hk, HLO.out k hk⟩⟩ (fun k hk => hK.block k (HRF.out k (HAL.out k hk)))
        have hTR : TR w0.heap.size l pr (fun k => k ∈ pr :: optL (.slice Aq l.length cq)) w5 := TR.stab (w := w2) ⟨_, Mem.blk_ HRB.out.mem 0 rfl, Mem.row_ HRB.out.mem 1 rfl, HRB.out.tr.1, HRB.out.good, fun k hk => ⟨hk, (HRB.out.tr.2 k hk).1⟩⟩ (fun k hk => hK.block k (HRF.out k (HTR.out.2 k hk).2))
        obtain ⟨L5, v5, hR5⟩ := join_BR hB5 hTB hTR HAP.out
        have hx5 : Blk w5 wr.heap.size 59 #[.int .i64 ka, .string nm, .string pa, .int .i64 lo, .int .i64 hi, .int .i64 tm, .int .i64 un, .int .i64 na] := (hK.block _ HXF.out).trans Hx.out
        clear HR Hx HRB HBK hB5 hTB hTR hK HBQ HA9 HLQ HXF HRF
        have HR := hide hR5
        have Hx := hide hx5
        clear hR5 hx5
        obtain ⟨Aq, cq, rfl⟩ := HR.out.shape
        have ca := asks_any l p pr cq L5 Aq ⟨ka, nm, pa, lo, hi, tm, un, na⟩ w5 (Mem.book_ HR.out.mem 2 rfl) HR.out.ref HNM.out
        unfold ptrB actA actV at ca
        simp only at ca
        obtain ⟨x0, x1, x2, x3, x4, x5, x6, x7⟩ := Hx.out.c8
        have ltx := Hx.out.lt
        go_wp2_with fail
        refine (ca).mono ?_
        rintro e w9 ⟨rfl, hb⟩
        replace HR := hide (HR.out.later hb)
        replace Hx := hide (blk_later Hx.out hb)
        clear hb x0 x1 x2 x3 x4 x5 x6 x7 ltx
        clear ca
        go_wp2_with fail
        go_roundw
        case rel => exact ⟨i + 1, l, L5, p, pr, _, hi2, rfl, rfl, by go_num, HR.out⟩
        case measure => simp [intOf] <;> omega
      · have hcase : True := trivial
        obtain ⟨Aq, cq, rfl⟩ := HR.out.shape
        have ca := asks_any l p pr cq L Aq ⟨ka, nm, pa, lo, hi, tm, un, na⟩ W (Mem.book_ HR.out.mem 2 rfl) HR.out.ref HNM.out
        unfold ptrB actA actV at ca
        simp only at ca
        obtain ⟨x0, x1, x2, x3, x4, x5, x6, x7⟩ := Hx.out.c8
        have ltx := Hx.out.lt
        go_wp2_with fail
        refine (ca).mono ?_
        rintro e w9 ⟨rfl, hb⟩
        replace HR := hide (HR.out.later hb)
        replace Hx := hide (blk_later Hx.out hb)
        clear hb x0 x1 x2 x3 x4 x5 x6 x7 ltx
        clear ca
        go_wp2_with fail
        go_roundw
        case rel => exact ⟨i + 1, l, L, p, pr, _, hi2, rfl, rfl, by go_num, HR.out⟩
        case measure => simp [intOf] <;> omega
    · have hie : i = n := by omega
      subst hie
      have hi3 : ¬ ((i : Int) < i) := by omega
      go_wp2_with fail
      exact HX.out HR.out.mem.below
end Go.Proofs.Ytiggefmckomilaa
