/-
  The law TraceFull: its third loop.
  The law TraceFull: the walk.
  What is true of a chain of standards and of a radar, in plain words; no program in sight.
  Levels: from one to the next; the book of the levels; its answers.
  The book of the levels: what it answers.
  The book of the levels: values, and that each level is entered.
  Tests of a radar against the levels: its gain in truth lies within what is said; corrected powers too.
  The tests of the law, and what the book says behind each.
  Each test is entered; the gain behind it holds the truth.
-/
import Derived.Test.YtiggefmckomilaaFuL2
import Derived.Test.YtiggefmckomilaaActF
import Derived.Test.YtiggefmckomilaaTraceWorks
import Derived.Test.YtiggefmckomilaaWords
import Derived.Test.YtiggefmckomilaaRegT
import Derived.Test.YtiggefmckomilaaTracePush
import Derived.Test.YtiggefmckomilaaRefStd
set_option linter.unusedSimpArgs false
set_option linter.unusedVariables false
namespace Go.Proofs.Ytiggefmckomilaa
open Go Go.RowKit

set_option maxRecDepth 1000000 in
noncomputable def ful3C : Code := ((loopsOf ((Try.f6.body).getD .skip))[2]?).getD .skip
set_option maxHeartbeats 8000000 in
set_option maxRecDepth 1000000 in
theorem ful3 {kc0 kc2 kc4 kc5 kc6 kc7 ku8 kc10 kc11 kc12 kc13 kc14 kc15 kc16 kc17 kc18 kc19 kc20 ku22 ku23 kc24 kc25 kc26 kc27 kc28 kc29 kc30 kc31 kc32 kc33 kc34 kc35 kc36 kc37 kc38 kc39 kc40 kc41 kc42 kc43 kc44 kc45 kc46 kc47 kc48 kc49 kc50 kc51 kc52 kc53 kc54 kc55 kc56 kc57 kc58 kc59 kc60 kc61 kc62 kc63 kc64 kc65 kc66 kc67 kc68 kc69 kc70 kc71 kc72 kc73 kc74 kc75 kc76 kc77 kc78 kc79 kc80 kc81 kc82 kc83 kc84 kc85 kc86 kc87 kc88 kc89 kc90 kc91 kc92 kc93 kc94 kc95 kc96 kc97 kc98 kc99 kc100 kc101 kc102 kc103 kc104 kc105 kc106 kc107 kc108 kc109 kc110 kc111 kc112 kc113 kc114 kc115 kc116 kc117 kc118 kc119 kc120 kc121 ku122 ku123 ku124 ku125 ku126 ku127 ku128 ku129 ku130 ku131 ku132 ku133 ku134 ku135 ku136 ku137 ku138 ku139 ku140 ku141 ku142 ku143 ku144 ku145 ku146 ku147 ku148 ku149 ku150 ku151 ku152 ku153 ku154 ku155 ku156 ku157 ku158 ku159 ku160 ku161 kc162 kc163 kc164 kc165 kc166 kc167 kc168 kc169 kc170 kc171 kc172 kc173 kc174 kc175 kc176 : Value} (sa tu : Int) (h0 : 0 ≤ sa) (h255 : sa ≤ 255) (m : Nat) (hm : sa.tmod 71 = (m : Int)) (hm71 : m ≤ 70) (t0 : 0 ≤ tu) (t1 : tu ≤ 65535) (mt : Nat) (hmt : tu.tmod 2101 = (mt : Int)) (hmtb : mt ≤ 2100) (base : List Ent) (hbl : base.length ≤ 2000) (hwd : wdT base ⟨#[97, 97]⟩ = false) (hst : 0 < m → ∃ s, stdT base ⟨#[97, 97]⟩ = some s) (p : Nat) (L : Lay) (w' : World) {Q : Exit → Act → World → Prop} {wr : World} (hR : Mem w' [.book base p L] wr)
    (hexit : ∀ ⦃kv8 kv21 kv22 kv23 kv122 kv123 kv124 kv125 kv126 kv127 kv128 kv129 kv130 kv131 kv132 kv133 kv134 kv135 kv136 kv137 kv138 kv139 kv140 kv141 kv142 kv143 kv144 kv145 kv146 kv147 kv148 kv149 kv150 kv151 kv152 kv153 kv154 kv155 kv156 kv157 kv158 kv159 kv160 kv161 : Value⦄ ⦃L : Lay⦄ ⦃b : List Ent⦄ ⦃w2 : World⦄, Mem w' [.book b p L] w2 → Q (.exit 4) ⟨List.toArray (kc0 :: .int .u8 sa :: kc2 :: .int .u16 tu :: kc4 :: kc5 :: kc6 :: kc7 :: kv8 :: .pointer (some ⟨p, 0, none⟩) :: kc10 :: kc11 :: kc12 :: kc13 :: kc14 :: kc15 :: kc16 :: kc17 :: kc18 :: kc19 :: kc20 :: kv21 :: kv22 :: kv23 :: kc24 :: kc25 :: kc26 :: kc27 :: kc28 :: kc29 :: kc30 :: kc31 :: kc32 :: kc33 :: kc34 :: kc35 :: kc36 :: kc37 :: kc38 :: kc39 :: kc40 :: kc41 :: kc42 :: kc43 :: kc44 :: kc45 :: kc46 :: kc47 :: kc48 :: kc49 :: kc50 :: kc51 :: kc52 :: kc53 :: kc54 :: kc55 :: kc56 :: kc57 :: kc58 :: kc59 :: kc60 :: kc61 :: kc62 :: kc63 :: kc64 :: kc65 :: kc66 :: kc67 :: kc68 :: kc69 :: kc70 :: kc71 :: kc72 :: kc73 :: kc74 :: kc75 :: kc76 :: kc77 :: kc78 :: kc79 :: kc80 :: kc81 :: kc82 :: kc83 :: kc84 :: kc85 :: kc86 :: kc87 :: kc88 :: kc89 :: kc90 :: kc91 :: kc92 :: kc93 :: kc94 :: kc95 :: kc96 :: kc97 :: kc98 :: kc99 :: kc100 :: kc101 :: kc102 :: kc103 :: kc104 :: kc105 :: kc106 :: kc107 :: kc108 :: kc109 :: kc110 :: kc111 :: kc112 :: kc113 :: kc114 :: kc115 :: kc116 :: kc117 :: kc118 :: kc119 :: kc120 :: kc121 :: kv122 :: kv123 :: kv124 :: kv125 :: kv126 :: kv127 :: kv128 :: kv129 :: kv130 :: kv131 :: kv132 :: kv133 :: kv134 :: kv135 :: kv136 :: kv137 :: kv138 :: kv139 :: kv140 :: kv141 :: kv142 :: kv143 :: kv144 :: kv145 :: kv146 :: kv147 :: kv148 :: kv149 :: kv150 :: kv151 :: kv152 :: kv153 :: kv154 :: kv155 :: kv156 :: kv157 :: kv158 :: kv159 :: kv160 :: kv161 :: kc162 :: kc163 :: kc164 :: kc165 :: kc166 :: kc167 :: kc168 :: kc169 :: kc170 :: kc171 :: kc172 :: kc173 :: kc174 :: kc175 :: kc176 :: []), []⟩ w2) :
    Code.wp Try.prog ful3C Q ⟨List.toArray (kc0 :: .int .u8 sa :: kc2 :: .int .u16 tu :: kc4 :: kc5 :: kc6 :: kc7 :: ku8 :: .pointer (some ⟨p, 0, none⟩) :: kc10 :: kc11 :: kc12 :: kc13 :: kc14 :: kc15 :: kc16 :: kc17 :: kc18 :: kc19 :: kc20 :: .int .i64 0 :: ku22 :: ku23 :: kc24 :: kc25 :: kc26 :: kc27 :: kc28 :: kc29 :: kc30 :: kc31 :: kc32 :: kc33 :: kc34 :: kc35 :: kc36 :: kc37 :: kc38 :: kc39 :: kc40 :: kc41 :: kc42 :: kc43 :: kc44 :: kc45 :: kc46 :: kc47 :: kc48 :: kc49 :: kc50 :: kc51 :: kc52 :: kc53 :: kc54 :: kc55 :: kc56 :: kc57 :: kc58 :: kc59 :: kc60 :: kc61 :: kc62 :: kc63 :: kc64 :: kc65 :: kc66 :: kc67 :: kc68 :: kc69 :: kc70 :: kc71 :: kc72 :: kc73 :: kc74 :: kc75 :: kc76 :: kc77 :: kc78 :: kc79 :: kc80 :: kc81 :: kc82 :: kc83 :: kc84 :: kc85 :: kc86 :: kc87 :: kc88 :: kc89 :: kc90 :: kc91 :: kc92 :: kc93 :: kc94 :: kc95 :: kc96 :: kc97 :: kc98 :: kc99 :: kc100 :: kc101 :: kc102 :: kc103 :: kc104 :: kc105 :: kc106 :: kc107 :: kc108 :: kc109 :: kc110 :: kc111 :: kc112 :: kc113 :: kc114 :: kc115 :: kc116 :: kc117 :: kc118 :: kc119 :: kc120 :: kc121 :: ku122 :: ku123 :: ku124 :: ku125 :: ku126 :: ku127 :: ku128 :: ku129 :: ku130 :: ku131 :: ku132 :: ku133 :: ku134 :: ku135 :: ku136 :: ku137 :: ku138 :: ku139 :: ku140 :: ku141 :: ku142 :: ku143 :: ku144 :: ku145 :: ku146 :: ku147 :: ku148 :: ku149 :: ku150 :: ku151 :: ku152 :: ku153 :: ku154 :: ku155 :: ku156 :: ku157 :: ku158 :: ku159 :: ku160 :: ku161 :: kc162 :: kc163 :: kc164 :: kc165 :: kc166 :: kc167 :: kc168 :: kc169 :: kc170 :: kc171 :: kc172 :: kc173 :: kc174 :: kc175 :: kc176 :: []), []⟩ wr := by
  have HX := hide hexit
  clear hexit
  unfold ful3C
  conv => arg 2; whnf
  have HM := hide hR
  clear hR
  go_loopw [21] (fun s wr => ∃ (i : Nat) (L : Lay), i ≤ mt ∧ s = .int .i64 i ∧ Mem w' [.book (turB base i) p L] wr) (fun s _ => mt - (intOf s).toNat)
  case atStart => exact ⟨0, L, Nat.zero_le _, rfl, HM.out⟩
  case round =>
    obtain ⟨i, L1, hi, rfl, hM⟩ := hrel
    clear HM
    have HM := hide hM
    clear hM
    by_cases hlt : i < mt
    · have hlt2 : (i : Int) < mt := by omega
      have hS : turB base (i + 1) = if (turB base i).length < 2000 then .turn ⟨#[97, 97]⟩ (decide (i % 2 = 0)) :: turB base i else turB base i := rfl
      have hok := fun h => turB_ok base hbl hwd (hst h) i
      have hln : (turB base i).length ≤ 2000 := by rw [turB_len base hbl]; omega
      obtain ⟨B, hB⟩ : ∃ B, turB base i = B := ⟨_, rfl⟩
      rw [hB] at hok hS hln HM
      clear hB
      obtain ⟨nz, hnz⟩ : ∃ nz : Int, (B.length : Int) = nz := ⟨_, rfl⟩
      have hnb : 0 ≤ nz ∧ nz ≤ 2000 := by omega
      have c1 := fun W (h : Mem w' [.book B p L1] W) => Entries_any B p L1 W (Mem.book_ h 0 rfl)
      rw [hnz] at c1
      unfold ptrB at c1
      have Hen := hide c1
      have HS := hide hS
      have Hok := hide hok
      clear hS hok
      clear c1 hwd hst hbl
      go_wp2_with fail
      refine (Hen.out _ HM.out).mono ?_
      rintro e w1 ⟨rfl, hb⟩
      replace HM := hide (HM.out.later hb)
      clear hb
      by_cases hn0 : 0 < nz
      · by_cases hm0 : 0 < m
        · have hm0' : (0 : Int) < m := by omega
          have hok := Hok.out hm0
          have hS := HS.out
          clear Hok HS
          have hsz : (⟨#[97, 97]⟩ : ByteArray).size ≤ maxLen := by show 2 ≤ maxLen; decide
          by_cases h2 : i % 2 = 0
          · have hq : (i : Int).tmod 2 = 0 := by rw [Int.tmod_eq_emod_of_nonneg (by omega)]; omega
            rw [decide_eq_true h2] at hok hS
            by_cases hroom : B.length < 2000
            · have hr : nz < 2000 := by omega
              go_wp2_with fail
              refine (Hen.out _ HM.out).mono ?_
              rintro e w2 ⟨rfl, hb⟩
              replace HM := hide (HM.out.later hb)
              clear hb
              have HSS := hide hS
              clear hS
              go_wp2_with fail
              have c3 := Withdraw_any B p L1 ⟨#[97, 97]⟩ w2 (Mem.book_ HM.out 0 rfl) hsz
              rw [hok, if_pos hroom] at c3
              clear hok
              unfold ptrB at c3
              refine c3.mono ?_
              clear c3
              rintro e w4 ⟨rfl, hp⟩
              obtain ⟨L2, HMn⟩ := HM.out.enter 0 rfl hp
              replace HM := hide HMn
              clear HMn hp
              rw [if_pos rfl] at HM
              go_wp2_with fail
              go_roundw
              case rel => exact ⟨i + 1, L2, hlt, by go_num, by rw [HSS.out, if_pos hroom]; exact HM.out⟩
              case measure => simp [intOf] <;> omega
            · have hr : ¬ nz < 2000 := by omega
              have hrx : 2000 ≤ nz := by omega
              go_wp2_with fail
              refine (Hen.out _ HM.out).mono ?_
              rintro e w2 ⟨rfl, hb⟩
              replace HM := hide (HM.out.later hb)
              clear hb
              have HSS := hide hS
              clear hS
              go_wp2_with fail
              have c3 := Withdraw_any B p L1 ⟨#[97, 97]⟩ w2 (Mem.book_ HM.out 0 rfl) hsz
              rw [hok, if_neg hroom] at c3
              clear hok
              unfold ptrB at c3
              refine c3.mono ?_
              clear c3
              rintro e w4 ⟨rfl, hp⟩
              obtain ⟨L2, HMn⟩ := HM.out.enter 0 rfl hp
              replace HM := hide HMn
              clear HMn hp
              rw [if_neg (show ¬ (13 : Int) = 0 by decide)] at HM
              go_wp2_with fail
              go_roundw
              case rel => exact ⟨i + 1, L2, hlt, by go_num, by rw [HSS.out, if_neg hroom]; exact HM.out⟩
              case measure => simp [intOf] <;> omega
          · have hq : (i : Int).tmod 2 = 1 := by rw [Int.tmod_eq_emod_of_nonneg (by omega)]; omega
            rw [decide_eq_false h2] at hok hS
            by_cases hroom : B.length < 2000
            · have hr : nz < 2000 := by omega
              go_wp2_with fail
              refine (Hen.out _ HM.out).mono ?_
              rintro e w2 ⟨rfl, hb⟩
              replace HM := hide (HM.out.later hb)
              clear hb
              have HSS := hide hS
              clear hS
              go_wp2_with fail
              have c3 := Reinstate_any B p L1 ⟨#[97, 97]⟩ w2 (Mem.book_ HM.out 0 rfl) hsz
              rw [hok, if_pos hroom] at c3
              clear hok
              unfold ptrB at c3
              refine c3.mono ?_
              clear c3
              rintro e w4 ⟨rfl, hp⟩
              obtain ⟨L2, HMn⟩ := HM.out.enter 0 rfl hp
              replace HM := hide HMn
              clear HMn hp
              rw [if_pos rfl] at HM
              go_wp2_with fail
              go_roundw
              case rel => exact ⟨i + 1, L2, hlt, by go_num, by rw [HSS.out, if_pos hroom]; exact HM.out⟩
              case measure => simp [intOf] <;> omega
            · have hr : ¬ nz < 2000 := by omega
              have hrx : 2000 ≤ nz := by omega
              go_wp2_with fail
              refine (Hen.out _ HM.out).mono ?_
              rintro e w2 ⟨rfl, hb⟩
              replace HM := hide (HM.out.later hb)
              clear hb
              have HSS := hide hS
              clear hS
              go_wp2_with fail
              have c3 := Reinstate_any B p L1 ⟨#[97, 97]⟩ w2 (Mem.book_ HM.out 0 rfl) hsz
              rw [hok, if_neg hroom] at c3
              clear hok
              unfold ptrB at c3
              refine c3.mono ?_
              clear c3
              rintro e w4 ⟨rfl, hp⟩
              obtain ⟨L2, HMn⟩ := HM.out.enter 0 rfl hp
              replace HM := hide HMn
              clear HMn hp
              rw [if_neg (show ¬ (13 : Int) = 0 by decide)] at HM
              go_wp2_with fail
              go_roundw
              case rel => exact ⟨i + 1, L2, hlt, by go_num, by rw [HSS.out, if_neg hroom]; exact HM.out⟩
              case measure => simp [intOf] <;> omega
        · obtain rfl : m = 0 := by omega
          go_wp2_with fail
          exact HX.out HM.out
      · obtain rfl : nz = 0 := by omega
        go_wp2_with fail
        exact HX.out HM.out
    · have hlt2 : ¬ (i : Int) < mt := by omega
      have hlt3 : (mt : Int) ≤ i := by omega
      go_wp2_with fail
      exact HX.out HM.out
end Go.Proofs.Ytiggefmckomilaa
namespace Go.Proofs.Ytiggefmckomilaa
open Go Go.RowKit

theorem full_radar {b : List Ent} (h : 2000 ≤ b.length) : radarE b ⟨#[]⟩ (-1) = 13 := by unfold radarE; rw [if_pos h]
theorem full_define {b : List Ent} (s : Std) (h : 2000 ≤ b.length) : defineE b s = 13 := by unfold defineE; rw [if_pos h]
set_option maxHeartbeats 8000000 in
set_option maxRecDepth 100000 in
theorem TraceFull_any (ra sa tu : Int) (ch : Bool) (w : World) (r0 : 0 ≤ ra) (r1 : ra ≤ 255) (s0 : 0 ≤ sa) (s1 : sa ≤ 255) (t0 : 0 ≤ tu) (t1 : tu ≤ 65535) :
    Calls Try.prog 6 #[.int .u8 ra, .int .u8 sa, .bool ch, .int .u16 tu] w fun e w' => e = .returned (.bool true) ∧ Below w.heap.size w w' := by
  obtain ⟨m, hm⟩ : ∃ m : Nat, ra.tmod 41 = (m : Int) := ⟨(ra.tmod 41).toNat, by rw [Int.tmod_eq_emod_of_nonneg r0]; omega⟩
  have hm40 : m ≤ 40 := by rw [Int.tmod_eq_emod_of_nonneg r0] at hm; omega
  obtain ⟨ms, hms⟩ : ∃ m : Nat, sa.tmod 71 = (m : Int) := ⟨(sa.tmod 71).toNat, by rw [Int.tmod_eq_emod_of_nonneg s0]; omega⟩
  have hms70 : ms ≤ 70 := by rw [Int.tmod_eq_emod_of_nonneg s0] at hms; omega
  obtain ⟨mt, hmt⟩ : ∃ m : Nat, tu.tmod 2101 = (m : Int) := ⟨(tu.tmod 2101).toNat, by rw [Int.tmod_eq_emod_of_nonneg t0]; omega⟩
  have hmtb : mt ≤ 2100 := by rw [Int.tmod_eq_emod_of_nonneg t0] at hmt; omega
  have hbl : (stdB ch (radB m) ms).length ≤ 2000 := by rw [stdB_len, radB_len]; omega
  go_enter Try.func6, Try.ntmps6
  have HM := hide (Mem.start w)
  go_wp2_with fail
  refine (New_any _).mono ?_
  rintro e w1 ⟨p, L, rfl, hb, hB, hL⟩
  have HM1 := hide (HM.out.add (t := .book [] p L) hB hb hL)
  clear HM hb hB hL
  have HM := HM1
  clear HM1
  unfold ptrB
  go_wp2_with fail
  refine (rNew_any _).mono ?_
  rintro e w2 ⟨rfl, hw2⟩
  have HR := hide (rmem_new HM.out)
  rw [← hw2] at HR
  clear HM hw2
  have HM := HR
  clear HR
  unfold ptrB
  obtain ⟨pr, hpr⟩ : ∃ pr, w1.heap.size = pr := ⟨_, rfl⟩
  rw [hpr] at HM ⊢
  clear hpr
  go_wp2_with fail
  refine ful1 ra r0 r1 m hm hm40 p pr L _ w HM.out ?_
  clear HM
  intro kv8 kv12 kv26 kv27 kv28 kv29 kv30 kv31 kv32 kv33 kv34 kv35 kv36 kv37 kv38 kv39 kv40 kv41 kv42 kv43 kv44 kv45 kv46 kv47 kv48 kv49 kv50 kv51 kv52 kv53 kv54 kv55 kv56 kv57 kv58 kv59
  intro L1 v1 w3 hM
  have HM := hide hM
  clear hM
  go_wp2_with fail
  refine ful2 sa s0 s1 ms hms hms70 ch m (by omega) p pr L1 v1 w HM.out ?_
  clear HM
  intro kv8 kv13 kv15 kv16 kv17 kv18 kv19 kv20 kv60 kv61 kv62 kv63 kv64 kv65 kv66 kv67 kv68 kv69 kv70 kv71 kv72 kv73 kv74 kv75 kv76 kv77 kv78 kv79 kv80 kv81 kv82 kv83 kv84 kv85 kv86 kv87 kv88 kv89 kv90 kv91 kv92 kv93 kv94 kv95 kv96 kv97 kv98 kv99 kv100 kv101 kv102 kv103 kv104 kv105 kv106 kv107 kv108 kv109 kv110 kv111 kv112 kv113 kv114 kv115 kv116 kv117 kv118 kv119 kv120 kv121
  intro L2 v2 w4 hM
  have HM := hide ((hM.mem.drop 0 rfl).drop 0 rfl)
  clear hM
  go_wp2_with fail
  refine ful3 sa tu s0 s1 ms hms hms70 t0 t1 mt hmt hmtb _ hbl (stdB_wd ch m ms _) (fun h => stdB_aa ch m (by omega) ms h (by omega)) p L2 w HM.out ?_
  clear HM
  intro kv8 kv21 kv22 kv23 kv122 kv123 kv124 kv125 kv126 kv127 kv128 kv129 kv130 kv131 kv132 kv133 kv134 kv135 kv136 kv137 kv138 kv139 kv140 kv141 kv142 kv143 kv144 kv145 kv146 kv147 kv148 kv149 kv150 kv151 kv152 kv153 kv154 kv155 kv156 kv157 kv158 kv159 kv160 kv161
  intro L3 b w5 hM
  have HM := hide hM
  clear hM
  obtain ⟨nz, hnz⟩ : ∃ nz : Int, (b.length : Int) = nz := ⟨_, rfl⟩
  have c1 := Entries_any b p L3 w5 (Mem.book_ HM.out 0 rfl)
  rw [hnz] at c1
  have hln := good_len (Mem.book_ HM.out 0 rfl).good
  have hnb : 0 ≤ nz ∧ nz ≤ 2000 := by omega
  unfold ptrB at c1
  go_wp2_with fail
  refine (c1).mono ?_
  rintro e w6 ⟨rfl, hb⟩
  replace HM := hide (HM.out.later hb)
  clear hb
  clear c1
  by_cases hf : 2000 ≤ nz
  · have c2 := Radar_any b p L3 ⟨#[]⟩ (-1) w6 (Mem.book_ HM.out 0 rfl) (by show 0 ≤ maxLen; decide)
    rw [full_radar (by omega)] at c2
    unfold ptrB at c2
    go_wp2_with fail
    refine c2.mono ?_
    clear c2
    rintro e w7 ⟨rfl, hp⟩
    obtain ⟨L4, HMn⟩ := HM.out.enter 0 rfl hp
    replace HM := hide HMn
    clear HMn hp
    rw [if_neg (show ¬ (13 : Int) = 0 by decide)] at HM
    have c3 := Define_any b p L4 ⟨⟨#[]⟩, ⟨#[]⟩, 0, 0, 0, 0, 0⟩ w7 (Mem.book_ HM.out 0 rfl) (by show 0 ≤ maxLen; decide) (by show 0 ≤ maxLen; decide)
    rw [full_define _ (by omega)] at c3
    unfold ptrB stdC at c3
    go_wp2_with fail
    refine c3.mono ?_
    clear c3
    rintro e w8 ⟨rfl, hp⟩
    obtain ⟨L5, HMn⟩ := HM.out.enter 0 rfl hp
    replace HM := hide HMn
    clear HMn hp
    rw [if_neg (show ¬ (13 : Int) = 0 by decide)] at HM
    go_wp2_with fail
    refine (works_any _).mono ?_
    rintro e w9 ⟨rfl, hb⟩
    replace HM := hide (HM.out.later hb)
    clear hb
    go_wp2
    go_ret
    exact ⟨rfl, HM.out.below⟩
  · go_wp2_with fail
    refine (works_any _).mono ?_
    rintro e w7 ⟨rfl, hb⟩
    replace HM := hide (HM.out.later hb)
    clear hb
    go_wp2
    go_ret
    exact ⟨rfl, HM.out.below⟩
end Go.Proofs.Ytiggefmckomilaa
namespace Go.Proofs.Ytiggefmckomilaa

/-- Whole days: what a span is widened by is just the drift times the days. -/
theorem upD_days {d k : Int} : upD (d * (k * 86400)) 86400 = d * k := by
  unfold upD
  rw [show d * (k * 86400) + 86400 - 1 = 86399 + 86400 * (d * k) by grind, Int.add_mul_ediv_left _ _ (by omega)]
  omega
theorem widen_days {m : Int × Int} {d a b : Int} (h : a ≤ b) : widenS m d (a * 86400) (b * 86400) = (max 1 (m.1 - d * (b - a)), m.2 + d * (b - a)) := by
  unfold widenS
  rw [show max (b * 86400 - a * 86400) (a * 86400 - b * 86400) = (b - a) * 86400 by omega, upD_days]
theorem turn_le {tr dr dd den : Int} (h1 : -dr ≤ tr) (h2 : tr ≤ dr) (hd : 0 ≤ dd) (hden : 0 ≤ den) : -(dr * dd * den) ≤ tr * dd * den ∧ tr * dd * den ≤ dr * dd * den := by
  have a := Int.mul_nonneg (Int.mul_nonneg (show 0 ≤ dr - tr by omega) hd) hden
  have b := Int.mul_nonneg (Int.mul_nonneg (show 0 ≤ dr + tr by omega) hd) hden
  have e1 : (dr - tr) * dd * den = dr * dd * den - tr * dd * den := by grind
  have e2 : (dr + tr) * dd * den = dr * dd * den + tr * dd * den := by grind
  omega
/-- A number between the ends of a span lies between those of the widened span, having changed within the drift. -/
theorem wid_truth {m1 m2 den num dr tr dd : Int} (hd : 0 ≤ dd) (hden : 0 < den) (h1 : m1 * den ≤ num) (h2 : num ≤ m2 * den) (t1 : -dr ≤ tr) (t2 : tr ≤ dr) (hpos : den ≤ num + tr * dd * den) :
    max 1 (m1 - dr * dd) * den ≤ num + tr * dd * den ∧ num + tr * dd * den ≤ (m2 + dr * dd) * den := by
  obtain ⟨a, b⟩ := turn_le t1 t2 hd (Int.le_of_lt hden)
  have e1 : (m1 - dr * dd) * den = m1 * den - dr * dd * den := by grind
  have e2 : (m2 + dr * dd) * den = m2 * den + dr * dd * den := by grind
  refine ⟨?_, by omega⟩
  rcases Int.le_total 1 (m1 - dr * dd) with h | h
  · rw [Int.max_eq_right h]; omega
  · rw [Int.max_eq_left h]; omega
theorem scl_truth {a1 a2 lo hi r den num : Int} (hden : 0 < den) (h0 : 0 ≤ lo) (hl : lo ≤ r) (hh : r ≤ hi) (ha : 0 ≤ a1) (ha2 : 0 ≤ a2) (h1 : a1 * den ≤ num) (h2 : num ≤ a2 * den) (hpos : den * 1000 ≤ num * r) :
    max 1 (a1 * lo / 1000) * (den * 1000) ≤ num * r ∧ num * r ≤ upD (a2 * hi) 1000 * (den * 1000) := by
  have hr : 0 ≤ r := by omega
  have hnum : 0 ≤ num := Int.le_trans (Int.mul_nonneg ha (Int.le_of_lt hden)) h1
  constructor
  · have b1 : a1 * lo / 1000 * 1000 ≤ a1 * lo := Int.ediv_mul_le _ (by omega)
    have b2 : a1 * lo / 1000 * 1000 * den ≤ a1 * lo * den := Int.mul_le_mul_of_nonneg_right b1 (Int.le_of_lt hden)
    have b3 : a1 * den * lo ≤ num * r := Int.mul_le_mul h1 hl h0 hnum
    have e1 : a1 * lo / 1000 * (den * 1000) = a1 * lo / 1000 * 1000 * den := by grind
    have e2 : a1 * lo * den = a1 * den * lo := by grind
    rcases Int.le_total 1 (a1 * lo / 1000) with h | h
    · rw [Int.max_eq_right h]; omega
    · rw [Int.max_eq_left h]; omega
  · obtain ⟨-, -, c, -⟩ := upD_bd (a := a2 * hi) (b := 1000) (Int.mul_nonneg ha2 (by omega)) (by omega)
    have b2 : a2 * hi * den ≤ 1000 * upD (a2 * hi) 1000 * den := Int.mul_le_mul_of_nonneg_right c (Int.le_of_lt hden)
    have b3 : num * r ≤ a2 * den * hi := Int.mul_le_mul h2 hh hr (Int.mul_nonneg ha2 (Int.le_of_lt hden))
    have e1 : upD (a2 * hi) 1000 * (den * 1000) = 1000 * upD (a2 * hi) 1000 * den := by grind
    have e2 : a2 * hi * den = a2 * den * hi := by grind
    omega

/-! ### Levels -/
structure Lv where
  v : Int
  l : Int
  m : Int
  t : Int
  s : Int
  d : Int
structure LvOk (x : Lv) : Prop where
  v0 : 0 ≤ x.v
  v1 : x.v ≤ 4294967295
  l0 : 0 ≤ x.l
  l1 : x.l ≤ 65535
  m0 : 0 ≤ x.m
  m1 : x.m ≤ 65535
  t0 : 0 ≤ x.t
  t1 : x.t ≤ 255
  s0 : 0 ≤ x.s
  s1 : x.s ≤ 255
  d0 : 0 ≤ x.d
  d1 : x.d ≤ 255
def trn (x : Lv) : Int := x.t % 11 - 5
def dys (x : Lv) : Int := x.d % 50
def drf (x : Lv) : Int := max (trn x) (-(trn x)) + x.s
def rat (x : Lv) : Int := 500 + x.v % 1001
theorem trn_bd (x : Lv) : -5 ≤ trn x ∧ trn x ≤ 5 := by unfold trn; omega
theorem dys_bd (x : Lv) : 0 ≤ dys x ∧ dys x ≤ 49 := by unfold dys; omega
theorem drf_bd {x : Lv} (h : LvOk x) : 0 ≤ drf x ∧ drf x ≤ 260 ∧ -(drf x) ≤ trn x ∧ trn x ≤ drf x := by
  have := trn_bd x
  have := h.s0
  have := h.s1
  unfold drf
  omega
theorem rat_bd (x : Lv) : 500 ≤ rat x ∧ rat x ≤ 1500 := by unfold rat; omega

section
variable (lv : Nat → Lv)
def dayN : Nat → Int
  | 0 => 0
  | k + 1 => dayN k + dys (lv (k + 1))
def denN : Nat → Int
  | 0 => 1
  | k + 1 => denN k * 1000
def numN : Nat → Int
  | 0 => 10000 + (lv 0).v % 900000
  | k + 1 => (numN k + trn (lv k) * dys (lv (k + 1)) * denN k) * rat (lv (k + 1))
def loN : Nat → Int
  | 0 => max 1 (10000 + (lv 0).v % 900000 - (lv 0).l)
  | k + 1 => max 1 (rat (lv (k + 1)) - (lv (k + 1)).l % 500)
def hiN : Nat → Int
  | 0 => min 1000000 (10000 + (lv 0).v % 900000 + (lv 0).m)
  | k + 1 => rat (lv (k + 1)) + (lv (k + 1)).m % 500
/-- The span of a level when it was made. -/
def madeN : Nat → Int × Int
  | 0 => (loN lv 0, hiN lv 0)
  | k + 1 => scaledS (max 1 ((madeN k).1 - drf (lv k) * dys (lv (k + 1))), (madeN k).2 + drf (lv k) * dys (lv (k + 1))) (loN lv (k + 1), hiN lv (k + 1))
structure Held (k : Nat) (L U B : Int) : Prop where
  one : 1 ≤ (madeN lv k).1
  lo : (madeN lv k).1 * denN k ≤ numN lv k
  hi : numN lv k ≤ (madeN lv k).2 * denN k
  low : L * denN k ≤ numN lv k
  up : numN lv k ≤ U * denN k
  le : (madeN lv k).1 ≤ (madeN lv k).2
  most : (madeN lv k).2 ≤ B
theorem den_pos : ∀ k, 0 < denN k
  | 0 => by decide
  | k + 1 => by rw [denN]; have := den_pos k; omega
theorem held0 (h : LvOk (lv 0)) : Held lv 0 10000 909999 1000000 := by
  obtain ⟨h1, h2, h3, h4, h5, h6, -⟩ := h
  constructor <;> simp only [madeN, loN, hiN, denN, numN, Int.mul_one] <;> omega
/-- What is left of a level after some days. -/
theorem Held.after {k : Nat} {L U B dd : Int} (h : Held lv k L U B) (hx : LvOk (lv k)) (d0 : 0 ≤ dd) (d1 : dd ≤ 49) (hL : 246 ≤ L) :
    max 1 ((madeN lv k).1 - drf (lv k) * dd) * denN k ≤ numN lv k + trn (lv k) * dd * denN k ∧ numN lv k + trn (lv k) * dd * denN k ≤ ((madeN lv k).2 + drf (lv k) * dd) * denN k ∧
    (L - 245) * denN k ≤ numN lv k + trn (lv k) * dd * denN k ∧ numN lv k + trn (lv k) * dd * denN k ≤ (U + 245) * denN k := by
  have hden := den_pos k
  obtain ⟨f0, f1, f2, f3⟩ := drf_bd hx
  obtain ⟨t1, t2⟩ := trn_bd (lv k)
  have q : -245 ≤ trn (lv k) * dd ∧ trn (lv k) * dd ≤ 245 := by
    obtain ⟨a, b⟩ := turn_le (den := 1) t1 t2 d0 (by omega)
    rw [Int.mul_one, Int.mul_one] at a b
    omega
  have p1 := Int.mul_le_mul_of_nonneg_right q.1 (Int.le_of_lt hden)
  have p2 := Int.mul_le_mul_of_nonneg_right q.2 (Int.le_of_lt hden)
  have e1 : (L - 245) * denN k = L * denN k - 245 * denN k := by grind
  have e2 : (U + 245) * denN k = U * denN k + 245 * denN k := by grind
  have e3 : -245 * denN k = -(245 * denN k) := by grind
  have h1 := h.low
  have h2 := h.up
  have hl : 246 * denN k ≤ L * denN k := Int.mul_le_mul_of_nonneg_right hL (Int.le_of_lt hden)
  have hpos : denN k ≤ numN lv k + trn (lv k) * dd * denN k := by omega
  obtain ⟨a, b⟩ := wid_truth d0 hden h.lo h.hi f2 f3 hpos
  exact ⟨a, b, by omega, by omega⟩
end
end Go.Proofs.Ytiggefmckomilaa
namespace Go.Proofs.Ytiggefmckomilaa

section
variable (lv : Nat → Lv)
theorem lo_bd (k : Nat) : 1 ≤ loN lv (k + 1) ∧ loN lv (k + 1) ≤ rat (lv (k + 1)) ∧ rat (lv (k + 1)) ≤ hiN lv (k + 1) ∧ hiN lv (k + 1) ≤ 1999 := by
  have := rat_bd (lv (k + 1))
  simp only [loN, hiN]
  omega
theorem Held.next {k : Nat} {L U B L' U' B' : Int} (h : Held lv k L U B) (hx : LvOk (lv k)) (hL1 : 1 ≤ L') (hL : 1000 * L' ≤ (L - 245) * 500) (hU0 : 0 ≤ U) (hU : (U + 245) * 1500 ≤ 1000 * U') (hB0 : B ≤ 10000000000) (hB : (B + 12740) * 1999 ≤ 1000 * B') :
    Held lv (k + 1) L' U' B' := by
  obtain ⟨r1, r2⟩ := rat_bd (lv (k + 1))
  obtain ⟨l1, l2, l3, l4⟩ := lo_bd lv k
  obtain ⟨d0, d1⟩ := dys_bd (lv (k + 1))
  obtain ⟨f0, f1, f2, f3⟩ := drf_bd hx
  have hden := den_pos k
  obtain ⟨a, b, c, e⟩ := h.after lv hx d0 d1 (by omega)
  obtain ⟨x0, x1⟩ := mul_bdT (D := 260) (M := 49) f0 f1 d0 d1
  have o1 := h.one
  have o2 := h.le
  have o3 := h.most
  have en : numN lv (k + 1) = (numN lv k + trn (lv k) * dys (lv (k + 1)) * denN k) * rat (lv (k + 1)) := rfl
  have ed : denN (k + 1) = denN k * 1000 := rfl
  have em : madeN lv (k + 1) = scaledS (max 1 ((madeN lv k).1 - drf (lv k) * dys (lv (k + 1))), (madeN lv k).2 + drf (lv k) * dys (lv (k + 1))) (loN lv (k + 1), hiN lv (k + 1)) := rfl
  generalize drf (lv k) * dys (lv (k + 1)) = x at *
  generalize numN lv k + trn (lv k) * dys (lv (k + 1)) * denN k = num at *
  generalize rat (lv (k + 1)) = r at *
  generalize loN lv (k + 1) = lo at *
  generalize hiN lv (k + 1) = hi at *
  obtain ⟨a1, ha1⟩ : ∃ a1, max 1 ((madeN lv k).1 - x) = a1 := ⟨_, rfl⟩
  obtain ⟨a2, ha2⟩ : ∃ a2, (madeN lv k).2 + x = a2 := ⟨_, rfl⟩
  rw [ha1] at a em
  rw [ha2] at b em
  have g1 : 1 ≤ a1 := by omega
  have g2 : a1 ≤ a2 := by omega
  have hnum : 0 ≤ num := Int.le_trans (Int.mul_nonneg (show 0 ≤ a1 by omega) (Int.le_of_lt hden)) a
  have p1 : (L - 245) * denN k * 500 ≤ num * r := Int.mul_le_mul c r1 (by omega) hnum
  have p2 : num * r ≤ (U + 245) * denN k * 1500 := Int.mul_le_mul e r2 (by omega) (Int.mul_nonneg (by omega) (Int.le_of_lt hden))
  have q1 : 1000 * L' * denN k ≤ (L - 245) * 500 * denN k := Int.mul_le_mul_of_nonneg_right hL (Int.le_of_lt hden)
  have q2 : (U + 245) * 1500 * denN k ≤ 1000 * U' * denN k := Int.mul_le_mul_of_nonneg_right hU (Int.le_of_lt hden)
  have q3 : 1 * denN k ≤ L' * denN k := Int.mul_le_mul_of_nonneg_right hL1 (Int.le_of_lt hden)
  have z1 : (L - 245) * denN k * 500 = (L - 245) * 500 * denN k := by grind
  have z2 : (U + 245) * denN k * 1500 = (U + 245) * 1500 * denN k := by grind
  have z3 : 1000 * L' * denN k = L' * (denN k * 1000) := by grind
  have z4 : 1000 * U' * denN k = U' * (denN k * 1000) := by grind
  have z5 : L' * (denN k * 1000) = L' * denN k * 1000 := by grind
  have hpos : denN k * 1000 ≤ num * r := by omega
  obtain ⟨s1, s2⟩ := scl_truth hden (show 0 ≤ lo by omega) l2 l3 (show 0 ≤ a1 by omega) (show 0 ≤ a2 by omega) a b hpos
  obtain ⟨t1, t2, -, t3, t4, t5⟩ := scaledS_bd (s := (a1, a2)) (t := (lo, hi)) (by simp only; omega) (by simp only; omega) (by simp only; omega) (by simp only; omega) (by simp only; omega) (by simp only; omega)
  simp only at t3 t4 t5
  have w1 : a2 * hi ≤ (B + 12740) * 1999 := Int.mul_le_mul (by omega) l4 (by omega) (by omega)
  obtain ⟨-, -, -, w2⟩ := upD_bd (a := a2 * hi) (b := 1000) (by omega) (by omega)
  rw [← em] at t1 t2
  refine ⟨t1, ?_, ?_, ?_, ?_, t2, ?_⟩
  · rw [em, en, ed]; exact s1
  · rw [em, en, ed]; exact s2
  · rw [en, ed]; omega
  · rw [en, ed]; omega
  · rw [em]
    show upD (a2 * hi) 1000 ≤ B'
    omega
/-- The three levels. -/
theorem held_all (h : ∀ k, LvOk (lv k)) : Held lv 0 10000 909999 1000000 ∧ Held lv 1 4877 1365366 2024468 ∧ Held lv 2 2316 2048417 4072379 := by
  have h0 := held0 lv (h 0)
  have h1 := h0.next lv (h 0) (L' := 4877) (U' := 1365366) (B' := 2024468) (by decide) (by decide) (by decide) (by decide) (by decide) (by decide)
  exact ⟨h0, h1, h1.next lv (h 1) (by decide) (by decide) (by decide) (by decide) (by decide) (by decide)⟩
/-- A level, of the three. -/
theorem held_k (h : ∀ k, LvOk (lv k)) {k : Nat} (hk : k < 3) : Held lv k 2316 2048417 4072379 := by
  obtain ⟨h0, h1, h2⟩ := held_all lv h
  have weak : ∀ (j : Nat) (L U B : Int), 2316 ≤ L → U ≤ 2048417 → B ≤ 4072379 → Held lv j L U B → Held lv j 2316 2048417 4072379 := fun j _ _ _ hL hU hB h => by
    obtain ⟨a, b, c, d, e, f, g⟩ := h
    have hden := Int.le_of_lt (den_pos j)
    exact ⟨a, b, c, Int.le_trans (Int.mul_le_mul_of_nonneg_right hL hden) d, Int.le_trans e (Int.mul_le_mul_of_nonneg_right hU hden), f, Int.le_trans g hB⟩
  match k, hk with
  | 0, _ => exact weak _ _ _ _ (by decide) (by decide) (by decide) h0
  | 1, _ => exact weak _ _ _ _ (by decide) (by decide) (by decide) h1
  | 2, _ => exact h2
end
end Go.Proofs.Ytiggefmckomilaa
namespace Go.Proofs.Ytiggefmckomilaa

def nmN (k : Nat) : ByteArray := ⟨#[UInt8.ofNat (97 + k)]⟩
def parN : Nat → ByteArray
  | 0 => ⟨#[]⟩
  | k + 1 => nmN k
theorem nm_ne (i j : Nat) (hi : i < 3) (hj : j < 3) (h : i ≠ j) : nmN i ≠ nmN j := by
  have : (i = 0 ∨ i = 1 ∨ i = 2) ∧ (j = 0 ∨ j = 1 ∨ j = 2) := by omega
  rcases this with ⟨rfl | rfl | rfl, rfl | rfl | rfl⟩ <;> first | (exact absurd rfl h) | decide +kernel
theorem nm_par (k : Nat) : nmN k ≠ ByteArray.empty := by
  intro h
  have h2 : (nmN k).size = 0 := by rw [h]; rfl
  have h3 : (nmN k).size = 1 := rfl
  omega
theorem nm_ok (k : Nat) (hk : k < 3) : nameB (nmN k) = true := by
  have : k = 0 ∨ k = 1 ∨ k = 2 := by omega
  rcases this with rfl | rfl | rfl <;> decide +kernel

section
variable (lv : Nat → Lv)
def stdN (k : Nat) : Std := ⟨nmN k, parN k, loN lv k, hiN lv k, dayN lv k * 86400, 4294967296, drf (lv k)⟩
def bookL (dr : Int) : Nat → List Ent
  | 0 => [.radar ⟨#[114]⟩ dr]
  | k + 1 => .define (stdN lv k) :: bookL dr k
theorem bookL_len (dr : Int) : ∀ k, (bookL lv dr k).length = k + 1
  | 0 => rfl
  | k + 1 => by rw [bookL, List.length_cons, bookL_len dr k]
theorem bookL_stds (dr : Int) : ∀ k, (stdsT (bookL lv dr k)).length = k
  | 0 => rfl
  | k + 1 => by rw [bookL, stdsT, List.length_cons, bookL_stds dr k]
theorem bookL_std (dr : Int) : ∀ K, K ≤ 3 → ∀ k, k < K → stdT (bookL lv dr K) (nmN k) = some (stdN lv k)
  | K + 1, hK, k, hk => by
    rw [bookL, stdT]
    by_cases h : k = K
    · subst h
      exact if_pos rfl
    · rw [if_neg (show ¬ (stdN lv K).name = nmN k from fun e => nm_ne K k (by omega) (by omega) (by omega) e)]
      exact bookL_std dr K (by omega) k (by omega)
theorem bookL_fresh (dr : Int) : ∀ K, K ≤ 3 → ∀ k, k < 3 → K ≤ k → stdT (bookL lv dr K) (nmN k) = none
  | 0, _, _, _, _ => rfl
  | K + 1, hK, k, hk3, hk => by
    rw [bookL, stdT, if_neg (show ¬ (stdN lv K).name = nmN k from fun e => nm_ne K k (by omega) (by omega) (by omega) e)]
    exact bookL_fresh dr K (by omega) k hk3 (by omega)
theorem bookL_wd (dr : Int) : ∀ K n, wdT (bookL lv dr K) n = false
  | 0, _ => rfl
  | K + 1, n => by rw [bookL, wdT]; exact bookL_wd dr K n; all_goals (intro _ _ h; cases h)
theorem bookL_void (dr : Int) (K : Nat) (n : ByteArray) : voidT (bookL lv dr K) n = false := by
  unfold voidT
  exact List.any_eq_false.2 fun m _ => by rw [bookL_wd]; simp
theorem bookL_drift (dr : Int) : ∀ K, driftT (bookL lv dr K) ⟨#[114]⟩ = some dr
  | 0 => rfl
  | K + 1 => by rw [bookL, driftT]; exact bookL_drift dr K; all_goals (intro _ _ h; cases h)
theorem day_bd : ∀ k, 0 ≤ dayN lv k ∧ dayN lv k ≤ 49 * k
  | 0 => by simp [dayN]
  | k + 1 => by
    have := day_bd k
    have := dys_bd (lv (k + 1))
    rw [dayN]
    omega
theorem bookL_made (dr : Int) : ∀ K, K ≤ 3 → ∀ k, k < K → madeT (bookL lv dr K) (nmN k) = madeN lv k
  | K + 1, hK, k, hk => by
    rw [bookL, madeT]
    by_cases h : k = K
    · subst h
      rw [if_pos (show (stdN lv k).name = nmN k from rfl)]
      cases k with
      | zero => exact if_pos rfl
      | succ j =>
        have hp : (stdN lv (j + 1)).par = nmN j := rfl
        rw [hp, if_neg (nm_par j), bookL_std lv dr (j + 1) (by omega) j (by omega), bookL_made dr (j + 1) (by omega) j (by omega)]
        show scaledS (widenS (madeN lv j) (drf (lv j)) (dayN lv j * 86400) (dayN lv (j + 1) * 86400)) (loN lv (j + 1), hiN lv (j + 1)) = _
        have hd := dys_bd (lv (j + 1))
        rw [widen_days (by rw [dayN]; omega), madeN, dayN, show dayN lv j + dys (lv (j + 1)) - dayN lv j = dys (lv (j + 1)) by omega]
    · rw [if_neg (show ¬ (stdN lv K).name = nmN k from fun e => nm_ne K k (by omega) (by omega) (by omega) e)]
      exact bookL_made dr K (by omega) k (by omega)
end
end Go.Proofs.Ytiggefmckomilaa
namespace Go.Proofs.Ytiggefmckomilaa

section
variable (lv : Nat → Lv)
/-- A level's span, some days behind its making. -/
def spanN (k : Nat) (d : Int) : Int × Int := (max 1 ((madeN lv k).1 - drf (lv k) * d), (madeN lv k).2 + drf (lv k) * d)
theorem valueT_k {l : List Ent} {k : Nat} {d : Int} (hm : madeT l (nmN k) = madeN lv k) (h : 0 ≤ d) : valueT l (stdN lv k) ((dayN lv k + d) * 86400) = spanN lv k d := by
  show widenS (madeT l (nmN k)) (drf (lv k)) (dayN lv k * 86400) ((dayN lv k + d) * 86400) = _
  rw [hm, widen_days (by omega), show dayN lv k + d - dayN lv k = d by omega]
  rfl
theorem in_time {k : Nat} {d : Int} (hk : k < 3) (h : 0 ≤ d) (h2 : d ≤ 49) : inR ((dayN lv k + d) * 86400) (stdN lv k).time (stdN lv k).stop = true := by
  have := day_bd lv k
  exact inR_iff.2 ⟨by show dayN lv k * 86400 ≤ _; omega, by show _ ≤ (4294967296 : Int); omega⟩
theorem bookL_value (dr : Int) {K k : Nat} {d : Int} (hK : K ≤ 3) (hk : k < K) (h : 0 ≤ d) (h2 : d ≤ 49) : valueE (bookL lv dr K) (nmN k) ((dayN lv k + d) * 86400) = (spanN lv k d, 0) := by
  unfold valueE
  rw [bookL_std lv dr K hK k hk]
  simp only
  rw [bookL_void, in_time lv (by omega) h h2, if_neg (by simp), valueT_k lv (bookL_made lv dr K hK k hk) h]
theorem bookL_define (dr : Int) (hlv : ∀ k, LvOk (lv k)) {k : Nat} (hk : k < 3) : defineE (bookL lv dr k) (stdN lv k) = 0 := by
  have hd := day_bd lv k
  obtain ⟨f0, f1, -, -⟩ := drf_bd (hlv k)
  have hin : inR (stdN lv k).time 0 (stdN lv k).stop = true := inR_iff.2 ⟨by show 0 ≤ dayN lv k * 86400; omega, by show dayN lv k * 86400 ≤ 4294967296; omega⟩
  have hdr : inR (stdN lv k).drift 0 1000000 = true := inR_iff.2 ⟨f0, by show drf (lv k) ≤ _; omega⟩
  have hst : decide ((stdN lv k).stop ≤ 4294967296) = true := rfl
  have hS : inS (stdN lv k).lo (stdN lv k).hi 1 (if (stdN lv k).par = ByteArray.empty then 1000000 else 100000) = true := by
    refine inS_iff.2 ?_
    show 1 ≤ loN lv k ∧ loN lv k ≤ hiN lv k ∧ hiN lv k ≤ if parN k = ByteArray.empty then 1000000 else 100000
    cases k with
    | zero =>
      obtain ⟨h1, h2, h3, h4, h5, h6, -⟩ := hlv 0
      rw [if_pos (show parN 0 = ByteArray.empty from rfl)]
      simp only [loN, hiN]
      omega
    | succ j =>
      obtain ⟨a, b, c, d⟩ := lo_bd lv j
      rw [if_neg (show ¬ parN (j + 1) = ByteArray.empty from nm_par j)]
      omega
  unfold defineE
  rw [if_neg (by rw [bookL_len]; omega), if_neg (by rw [show (stdN lv k).name = nmN k from rfl, nm_ok k hk]; simp), if_neg (by rw [show (stdN lv k).name = nmN k from rfl, bookL_fresh lv dr k (by omega) k hk (Nat.le_refl _)]; simp),
    if_neg (by rw [bookL_stds]; omega), if_neg (by rw [hS, hin, hst, hdr]; simp)]
  cases k with
  | zero => exact if_pos rfl
  | succ j =>
    have hp : (stdN lv (j + 1)).par = nmN j := rfl
    have hdd := dys_bd (lv (j + 1))
    have ht : (stdN lv (j + 1)).time = (dayN lv j + dys (lv (j + 1))) * 86400 := rfl
    rw [hp, if_neg (nm_par j), bookL_std lv dr (j + 1) (by omega) j (by omega)]
    simp only
    rw [bookL_void, ht, in_time lv (by omega) hdd.1 hdd.2, if_neg (by simp), valueT_k lv (bookL_made lv dr (j + 1) (by omega) j (by omega)) hdd.1]
    have hh := (held_k lv hlv hk).most
    have e : (scaledS (spanN lv j (dys (lv (j + 1)))) ((stdN lv (j + 1)).lo, (stdN lv (j + 1)).hi)) = madeN lv (j + 1) := rfl
    rw [e, if_neg (by omega)]
/-- What is true of a level lies within its span. -/
theorem span_truth (hlv : ∀ k, LvOk (lv k)) {k : Nat} {d : Int} (hk : k < 3) (h : 0 ≤ d) (h2 : d ≤ 49) :
    1 ≤ (spanN lv k d).1 ∧ (spanN lv k d).1 ≤ (spanN lv k d).2 ∧ (spanN lv k d).2 ≤ 4085119 ∧ (spanN lv k d).1 * denN k ≤ numN lv k + trn (lv k) * d * denN k ∧ numN lv k + trn (lv k) * d * denN k ≤ (spanN lv k d).2 * denN k ∧
    2071 * denN k ≤ numN lv k + trn (lv k) * d * denN k ∧ numN lv k + trn (lv k) * d * denN k ≤ 2048662 * denN k := by
  have hh := held_k lv hlv hk
  obtain ⟨a, b, c, e⟩ := hh.after lv (hlv k) h h2 (by decide)
  obtain ⟨f0, f1, -, -⟩ := drf_bd (hlv k)
  obtain ⟨x0, x1⟩ := mul_bdT (D := 260) (M := 49) f0 f1 h h2
  have o1 := hh.one
  have o2 := hh.le
  have o3 := hh.most
  unfold spanN
  simp only
  exact ⟨by omega, by omega, by omega, a, b, c, e⟩
end
end Go.Proofs.Ytiggefmckomilaa
namespace Go.Proofs.Ytiggefmckomilaa

theorem upD_ge {a b G : Int} (ha : 0 ≤ a) (hb : 1 ≤ b) (h : G * b ≤ a) : G ≤ upD a b := by
  obtain ⟨-, -, c, -⟩ := upD_bd ha hb
  have e : b * upD a b = upD a b * b := Int.mul_comm _ _
  have : G * b ≤ upD a b * b := by omega
  exact Int.le_of_mul_le_mul_right this (by omega)
theorem div_le_of {a b G : Int} (hb : 1 ≤ b) (h : a ≤ G * b) : a / b ≤ G := by
  have := Int.ediv_le_ediv (c := b) (by omega) h
  rwa [Int.mul_ediv_cancel _ (by omega)] at this
/-- A reading holds value times gain, in thousandths: so what follows from it holds the gain. -/
theorem gain_truth {den val G lo hi v1 v2 : Int} (hden : 0 < den) (hG : 0 ≤ G) (h1 : v1 * den ≤ val) (h2 : val ≤ v2 * den) (hv1 : 1 ≤ v1) (hv2 : 1 ≤ v2) (h0 : 0 ≤ hi) (hl : lo * (den * 1000) ≤ val * G) (hh : val * G ≤ hi * (den * 1000)) :
    1000 * lo / v2 ≤ G ∧ G ≤ upD (1000 * hi) v1 := by
  have a1 : v1 * den * G ≤ val * G := Int.mul_le_mul_of_nonneg_right h1 hG
  have a2 : val * G ≤ v2 * den * G := Int.mul_le_mul_of_nonneg_right h2 hG
  have e1 : v1 * den * G = G * v1 * den := by grind
  have e2 : v2 * den * G = G * v2 * den := by grind
  have e3 : lo * (den * 1000) = 1000 * lo * den := by grind
  have e4 : hi * (den * 1000) = 1000 * hi * den := by grind
  refine ⟨div_le_of hv2 (Int.le_of_mul_le_mul_right (a := den) (by omega) hden), upD_ge (by omega) hv1 (Int.le_of_mul_le_mul_right (a := den) (by omega) hden)⟩
/-- A gain that changes within a drift, some days before or behind a test. -/
theorem widen_any_days {m : Int × Int} {d a b : Int} : widenS m d (a * 86400) (b * 86400) = (max 1 (m.1 - d * max (b - a) (a - b)), m.2 + d * max (b - a) (a - b)) := by
  unfold widenS
  rw [show max (b * 86400 - a * 86400) (a * 86400 - b * 86400) = max (b - a) (a - b) * 86400 by omega, upD_days]
theorem turn_abs {by_ dr x : Int} (h1 : -dr ≤ by_) (h2 : by_ ≤ dr) : -(dr * max x (-x)) ≤ by_ * x ∧ by_ * x ≤ dr * max x (-x) := by
  rcases Int.le_total 0 x with h | h
  · obtain ⟨a, b⟩ := turn_le (den := 1) h1 h2 h (by omega)
    rw [show max x (-x) = x by omega]
    omega
  · obtain ⟨a, b⟩ := turn_le (den := 1) (dd := -x) h1 h2 (by omega) (by omega)
    rw [show max x (-x) = -x by omega]
    have e : by_ * -x = -(by_ * x) := Int.mul_neg _ _
    omega
theorem wid_gain {m : Int × Int} {g by_ dr a b : Int} (h1 : -dr ≤ by_) (h2 : by_ ≤ dr) (l : m.1 ≤ g + by_ * a) (h : g + by_ * a ≤ m.2) (one : 1 ≤ g + by_ * b) :
    (widenS m dr (a * 86400) (b * 86400)).1 ≤ g + by_ * b ∧ g + by_ * b ≤ (widenS m dr (a * 86400) (b * 86400)).2 := by
  rw [widen_any_days]
  obtain ⟨x, y⟩ := turn_abs (x := b - a) h1 h2
  rw [show -(b - a) = a - b by omega] at x y
  have e : by_ * (b - a) = by_ * b - by_ * a := Int.mul_sub _ _ _
  simp only
  omega
/-- What spans have in common holds what each one holds. -/
theorem meet_holds {q : List (Nat × (Int × Int))} {G : Int} (h0 : q.length ≠ 0) (h : ∀ i, i < q.length → 1 ≤ (q.getD i (0, (0, 0))).2.1 ∧ (q.getD i (0, (0, 0))).2.1 ≤ G ∧ G ≤ (q.getD i (0, (0, 0))).2.2) :
    ∀ k, k ≤ q.length → 1 ≤ (meetQ q k).1 ∧ (meetQ q k).1 ≤ G ∧ G ≤ (meetQ q k).2
  | 0, _ => h 0 (by omega)
  | k + 1, hk => by
    have h1 := meet_holds h0 h k (by omega)
    have h2 := h k (by omega)
    rw [meetQ]
    simp only
    omega
theorem selN_mem (T : List (Tst × (Int × Int))) (n : ByteArray) (vd : ByteArray → Bool) (d time : Int) : ∀ i, ∀ y ∈ selN T n vd d time i, ∃ x ∈ T, y.2 = widenS x.2 d x.1.time time
  | 0, y, h => by cases h
  | i + 1, y, h => by
    rw [selN] at h
    rcases List.mem_append.1 h with h | h
    · exact selN_mem T n vd d time i y h
    · split at h
      · rename_i x hx
        split at h
        · simp only [List.mem_singleton] at h
          exact ⟨x, List.mem_of_getElem? hx, by rw [h]⟩
        · cases h
      · cases h
theorem selN_some (T : List (Tst × (Int × Int))) (n : ByteArray) (vd : ByteArray → Bool) (d time : Int) {i : Nat} {x : Tst × (Int × Int)} (hx : T[i]? = some x) (hr : x.1.radar = n) (hv : vd x.1.std = false) : (selN T n vd d time (i + 1)).length ≠ 0 := by
  rw [selN, hx]
  simp only [hr, hv, and_self, if_true, List.length_append, List.length_singleton]
  omega
theorem gainQ_holds {q : List (Nat × (Int × Int))} {G : Int} (h0 : q.length ≠ 0) (h : ∀ y ∈ q, 1 ≤ y.2.1 ∧ y.2.1 ≤ G ∧ G ≤ y.2.2) : ∃ s : Int × Int, gainQ q = (s, (0, 0), 0) ∧ 1 ≤ s.1 ∧ s.1 ≤ G ∧ G ≤ s.2 := by
  have hh := meet_holds (q := q) (G := G) h0 (fun i hi => h _ (by simp [List.getD, List.getElem?_eq_getElem hi])) q.length (Nat.le_refl _)
  exact ⟨meetQ q q.length, gainQ_meet h0 (by omega), hh⟩
/-- A power in truth lies where it is corrected to be. -/
theorem correct_holds {p G : Int} {s : Int × Int} (hp : 0 ≤ p) (hp2 : p ≤ 134217727) (hG : 1 ≤ G) (hG2 : G ≤ 8000) (s1 : 1 ≤ s.1) (s2 : s.1 ≤ G) (s3 : G ≤ s.2) (s4 : s.2 ≤ 1000000) :
    ∃ c : Int × Int, correctR (p * G / 1000, (p * G + 999) / 1000) s = (c, 0) ∧ c.1 ≤ p ∧ p ≤ c.2 := by
  obtain ⟨m0, m1⟩ := mul_bdT (D := 134217727) (M := 8000) hp hp2 (show 0 ≤ G by omega) hG2
  have g1 : p * G ≤ p * s.2 := Int.mul_le_mul_of_nonneg_left s3 hp
  have g2 : p * s.1 ≤ p * G := Int.mul_le_mul_of_nonneg_left s2 hp
  have k1 : inS (p * G / 1000) ((p * G + 999) / 1000) 0 1073741824 = true := inS_iff.2 ⟨by omega, by omega, by omega⟩
  have k2 : inS s.1 s.2 1 1000000 = true := inS_iff.2 ⟨s1, by omega, s4⟩
  refine ⟨_, by unfold correctR; rw [if_pos (by simp only [k1, k2]; rfl)], ?_, ?_⟩
  · have := div_le_of (a := 1000 * (p * G / 1000)) (b := s.2) (G := p) (by omega) (by omega)
    simp only
    omega
  · have := upD_ge (a := 1000 * ((p * G + 999) / 1000)) (b := s.1) (G := p) (by omega) s1 (by omega)
    simp only
    omega
end Go.Proofs.Ytiggefmckomilaa
namespace Go.Proofs.Ytiggefmckomilaa

structure Pb where
  k : Int
  d : Int
  s : Int
def lvl (x : Pb) : Nat := (x.k % 3).toNat
def dayP (x : Pb) : Int := x.d % 50
section
variable (lv : Nat → Lv) (g by_ dr : Int) (pb : Nat → Pb)
/-- The gain on a day, and value times gain. -/
def valP (x : Pb) : Int := numN lv (lvl x) + trn (lv (lvl x)) * dayP x * denN (lvl x)
def gainP (x : Pb) : Int := g + by_ * (dayN lv (lvl x) + dayP x)
def prodP (x : Pb) : Int := valP lv x * gainP lv g by_ x
def tstN (x : Pb) : Tst := ⟨⟨#[114]⟩, nmN (lvl x), (dayN lv (lvl x) + dayP x) * 86400, max 1 (prodP lv g by_ x / (denN (lvl x) * 1000) - x.s), (prodP lv g by_ x + denN (lvl x) * 1000 - 1) / (denN (lvl x) * 1000) + x.s⟩
def bookP : Nat → List Ent
  | 0 => bookL lv dr 3
  | i + 1 => .test (tstN lv g by_ (pb i)) :: bookP i
structure GainOk : Prop where
  g0 : 3000 ≤ g
  g1 : g ≤ 4999
  b0 : -9 ≤ by_
  b1 : by_ ≤ 9
  d0 : -dr ≤ by_
  d1 : by_ ≤ dr
  r0 : 0 ≤ dr
  r1 : dr ≤ 1000000
theorem lvl_lt (x : Pb) : lvl x < 3 := by unfold lvl; omega
theorem dayP_bd (x : Pb) : 0 ≤ dayP x ∧ dayP x ≤ 49 := by unfold dayP; omega
theorem bookP_len (i : Nat) : (bookP lv g by_ dr pb i).length = i + 4 := by
  induction i with
  | zero => rfl
  | succ i ih => rw [bookP, List.length_cons, ih]
theorem bookP_tests (i : Nat) : (testsT (bookP lv g by_ dr pb i)).length = i := by
  induction i with
  | zero => rfl
  | succ i ih => rw [bookP, testsT, List.length_cons, ih]
theorem bookP_std (i : Nat) (n : ByteArray) : stdT (bookP lv g by_ dr pb i) n = stdT (bookL lv dr 3) n := by
  induction i with
  | zero => rfl
  | succ i ih => rw [bookP, stdT]; exact ih; all_goals (intro _ h; cases h)
theorem bookP_made (i : Nat) (n : ByteArray) : madeT (bookP lv g by_ dr pb i) n = madeT (bookL lv dr 3) n := by
  induction i with
  | zero => rfl
  | succ i ih => rw [bookP, madeT]; exact ih; all_goals (intro _ h; cases h)
theorem bookP_wd (i : Nat) (n : ByteArray) : wdT (bookP lv g by_ dr pb i) n = false := by
  induction i with
  | zero => exact bookL_wd lv dr 3 n
  | succ i ih => rw [bookP, wdT]; exact ih; all_goals (intro _ _ h; cases h)
theorem bookP_void (i : Nat) (n : ByteArray) : voidT (bookP lv g by_ dr pb i) n = false := by
  unfold voidT
  exact List.any_eq_false.2 fun m _ => by rw [bookP_wd]; simp
theorem bookP_drift (i : Nat) : driftT (bookP lv g by_ dr pb i) ⟨#[114]⟩ = some dr := by
  induction i with
  | zero => exact bookL_drift lv dr 3
  | succ i ih => rw [bookP, driftT]; exact ih; all_goals (intro _ _ h; cases h)
variable {g by_ dr}
theorem gain_bd (hg : GainOk g by_ dr) {t : Int} (h0 : 0 ≤ t) (h1 : t ≤ 200) : 1200 ≤ g + by_ * t ∧ g + by_ * t ≤ 6799 := by
  have a := hg.g0
  have b := hg.g1
  obtain ⟨c, d⟩ := turn_le (den := 1) (dr := 9) hg.b0 hg.b1 h0 (by omega)
  omega
/-- What is measured. -/
theorem prod_bd (hlv : ∀ k, LvOk (lv k)) (hg : GainOk g by_ dr) (x : Pb) : denN (lvl x) * 1000 ≤ prodP lv g by_ x ∧ prodP lv g by_ x ≤ 14000000 * (denN (lvl x) * 1000) := by
  have hk := lvl_lt x
  obtain ⟨d0, d1⟩ := dayP_bd x
  have hd := day_bd lv (lvl x)
  obtain ⟨-, -, -, -, -, a, b⟩ := span_truth lv hlv hk d0 d1
  obtain ⟨c, e⟩ := gain_bd hg (t := dayN lv (lvl x) + dayP x) (by omega) (by omega)
  have hden := den_pos (lvl x)
  have p1 : 2071 * denN (lvl x) * 1200 ≤ prodP lv g by_ x := Int.mul_le_mul a c (by omega) (by unfold valP; omega)
  have p2 : prodP lv g by_ x ≤ 2048662 * denN (lvl x) * 6799 := Int.mul_le_mul b e (by unfold gainP at *; omega) (by omega)
  omega
theorem test_ok (hlv : ∀ k, LvOk (lv k)) (hg : GainOk g by_ dr) (x : Pb) (hs : 0 ≤ x.s) (hs2 : x.s ≤ 65535) :
    inS (tstN lv g by_ x).lo (tstN lv g by_ x).hi 1 1000000000 = true ∧ (tstN lv g by_ x).lo * (denN (lvl x) * 1000) ≤ prodP lv g by_ x ∧ prodP lv g by_ x ≤ (tstN lv g by_ x).hi * (denN (lvl x) * 1000) ∧ 0 ≤ (tstN lv g by_ x).hi := by
  obtain ⟨a, b⟩ := prod_bd lv hlv hg x
  have hden := den_pos (lvl x)
  show inS (max 1 (prodP lv g by_ x / (denN (lvl x) * 1000) - x.s)) ((prodP lv g by_ x + denN (lvl x) * 1000 - 1) / (denN (lvl x) * 1000) + x.s) 1 1000000000 = true ∧ max 1 (prodP lv g by_ x / (denN (lvl x) * 1000) - x.s) * (denN (lvl x) * 1000) ≤ prodP lv g by_ x ∧ prodP lv g by_ x ≤ ((prodP lv g by_ x + denN (lvl x) * 1000 - 1) / (denN (lvl x) * 1000) + x.s) * (denN (lvl x) * 1000) ∧ 0 ≤ (prodP lv g by_ x + denN (lvl x) * 1000 - 1) / (denN (lvl x) * 1000) + x.s
  generalize prodP lv g by_ x = n at *
  obtain ⟨D, hD⟩ : ∃ D, denN (lvl x) * 1000 = D := ⟨_, rfl⟩
  rw [hD] at a b ⊢
  have hD0 : 0 < D := by omega
  obtain ⟨u1, u2, u3, u4⟩ := upD_bd (a := n) (b := D) (by omega) (by omega)
  obtain ⟨v1, v2, v3⟩ := div_bd (a := n) (b := D) (by omega) (by omega)
  have e : (n + D - 1) / D = upD n D := rfl
  rw [e]
  have w : upD n D ≤ 14000000 + 1 := by
    have h1 : upD n D * D ≤ (14000000 + 1) * D := by
      have := Int.mul_comm D (upD n D)
      omega
    exact Int.le_of_mul_le_mul_right h1 hD0
  have y : n / D ≤ upD n D := by unfold upD; exact Int.ediv_le_ediv hD0 (by omega)
  have one : 1 ≤ upD n D := upD_ge (by omega) (by omega) (by omega)
  have z1 : (n / D - x.s) * D ≤ n := by
    have : (n / D - x.s) * D ≤ n / D * D := Int.mul_le_mul_of_nonneg_right (by omega) (Int.le_of_lt hD0)
    have := Int.mul_comm D (n / D)
    omega
  have z2 : n ≤ (upD n D + x.s) * D := by
    have : upD n D * D ≤ (upD n D + x.s) * D := Int.mul_le_mul_of_nonneg_right (by omega) (Int.le_of_lt hD0)
    have := Int.mul_comm D (upD n D)
    omega
  refine ⟨inS_iff.2 ⟨by omega, by omega, by omega⟩, ?_, z2, by omega⟩
  rcases Int.le_total 1 (n / D - x.s) with h | h
  · rw [Int.max_eq_right h]; exact z1
  · rw [Int.max_eq_left h]; omega
end
end Go.Proofs.Ytiggefmckomilaa
namespace Go.Proofs.Ytiggefmckomilaa

section
variable (lv : Nat → Lv) {g by_ dr : Int} (pb : Nat → Pb)
theorem time_ok (x : Pb) : inR (tstN lv g by_ x).time 0 4294967296 = true ∧ inR (tstN lv g by_ x).time (stdN lv (lvl x)).time (stdN lv (lvl x)).stop = true := by
  obtain ⟨d0, d1⟩ := dayP_bd x
  have hd := day_bd lv (lvl x)
  have hk := lvl_lt x
  exact ⟨inR_iff.2 ⟨by show 0 ≤ (dayN lv (lvl x) + dayP x) * 86400; omega, by show (dayN lv (lvl x) + dayP x) * 86400 ≤ 4294967296; omega⟩, in_time lv hk d0 d1⟩
theorem bookP_test (hlv : ∀ k, LvOk (lv k)) (hg : GainOk g by_ dr) {i : Nat} (hi : i < 30) (x : Pb) (hs : 0 ≤ x.s) (hs2 : x.s ≤ 65535) : testE (bookP lv g by_ dr pb i) (tstN lv g by_ x) = 0 := by
  have hk := lvl_lt x
  obtain ⟨a, b⟩ := time_ok lv (g := g) (by_ := by_) x
  have c := (test_ok lv hlv hg x hs hs2).1
  unfold testE
  rw [if_neg (by rw [bookP_len]; omega), show (tstN lv g by_ x).radar = ⟨#[114]⟩ from rfl, show (tstN lv g by_ x).std = nmN (lvl x) from rfl, bookP_drift, bookP_std, bookL_std lv dr 3 (Nat.le_refl _) _ hk]
  simp only
  rw [if_neg (by rw [bookP_tests]; omega), a, c, if_neg (by simp), bookP_void, b, if_neg (by simp)]
theorem gainT_truth (hlv : ∀ k, LvOk (lv k)) (hg : GainOk g by_ dr) (i : Nat) (x : Pb) (hs : 0 ≤ x.s) (hs2 : x.s ≤ 65535) :
    1 ≤ (gainT (bookP lv g by_ dr pb i) (tstN lv g by_ x)).1 ∧ (gainT (bookP lv g by_ dr pb i) (tstN lv g by_ x)).1 ≤ gainP lv g by_ x ∧ gainP lv g by_ x ≤ (gainT (bookP lv g by_ dr pb i) (tstN lv g by_ x)).2 := by
  have hk := lvl_lt x
  obtain ⟨d0, d1⟩ := dayP_bd x
  have hd := day_bd lv (lvl x)
  obtain ⟨-, l, h, h0⟩ := test_ok lv hlv hg x hs hs2
  obtain ⟨v1, v2, -, v3, v4, -, -⟩ := span_truth lv hlv hk d0 d1
  obtain ⟨c, -⟩ := gain_bd hg (t := dayN lv (lvl x) + dayP x) (by omega) (by omega)
  have hG : 1200 ≤ gainP lv g by_ x := c
  have hv : valueT (bookP lv g by_ dr pb i) (stdN lv (lvl x)) (tstN lv g by_ x).time = spanN lv (lvl x) (dayP x) := valueT_k lv (by rw [bookP_made]; exact bookL_made lv dr 3 (Nat.le_refl _) _ hk) d0
  have e : gainT (bookP lv g by_ dr pb i) (tstN lv g by_ x) = (max 1 (1000 * (tstN lv g by_ x).lo / (spanN lv (lvl x) (dayP x)).2), upD (1000 * (tstN lv g by_ x).hi) (spanN lv (lvl x) (dayP x)).1) := by
    unfold gainT
    rw [show (tstN lv g by_ x).std = nmN (lvl x) from rfl, bookP_std, bookL_std lv dr 3 (Nat.le_refl _) _ hk]
    simp only
    rw [hv]
  obtain ⟨a, b⟩ := gain_truth (den_pos (lvl x)) (show 0 ≤ gainP lv g by_ x by omega) v3 v4 v1 (by omega) h0 l h
  rw [e]
  simp only
  omega
theorem info_mem (i : Nat) : ∀ y ∈ testInfo (bookP lv g by_ dr pb i), ∃ j, j < i ∧ y = (tstN lv g by_ (pb j), gainT (bookP lv g by_ dr pb j) (tstN lv g by_ (pb j))) := by
  induction i with
  | zero => intro y hy; cases hy
  | succ i ih =>
    intro y hy
    rw [bookP, testInfo] at hy
    rcases List.mem_append.1 hy with hy | hy
    · obtain ⟨j, h1, h2⟩ := ih y hy
      exact ⟨j, by omega, h2⟩
    · exact ⟨i, by omega, by simpa using hy⟩
theorem gainE_truth (hlv : ∀ k, LvOk (lv k)) (hg : GainOk g by_ dr) (hpb : ∀ i, 0 ≤ (pb i).s ∧ (pb i).s ≤ 65535) (i : Nat) {now : Int} (h0 : 0 ≤ now) (h1 : now ≤ 149) :
    ∃ s : Int × Int, gainE (bookP lv g by_ dr pb (i + 1)) ⟨#[114]⟩ (now * 86400) = (s, (0, 0), 0) ∧ 1 ≤ s.1 ∧ s.1 ≤ g + by_ * now ∧ g + by_ * now ≤ s.2 := by
  obtain ⟨c, -⟩ := gain_bd hg (t := now) h0 (by omega)
  unfold gainE
  rw [bookP_drift]
  simp only
  rw [if_neg (by rw [inR_iff.2 ⟨by omega, by omega⟩]; simp), bookP_tests]
  refine gainQ_holds ?_ ?_
  · have hx : (testInfo (bookP lv g by_ dr pb (i + 1)))[i]? = some (tstN lv g by_ (pb i), gainT (bookP lv g by_ dr pb i) (tstN lv g by_ (pb i))) := by
      rw [bookP, testInfo, List.getElem?_append_right (by rw [testInfo_length, bookP_tests]; exact Nat.le_refl _), testInfo_length, bookP_tests, Nat.sub_self]
      rfl
    exact selN_some _ _ _ _ _ hx rfl (bookP_void lv g by_ dr pb (i + 1) _)
  · intro y hy
    obtain ⟨x, hx, e⟩ := selN_mem _ _ _ _ _ _ y hy
    obtain ⟨j, -, rfl⟩ := info_mem lv pb (i + 1) x hx
    obtain ⟨a1, a2, a3⟩ := gainT_truth lv pb hlv hg j (pb j) (hpb j).1 (hpb j).2
    have ht : (tstN lv g by_ (pb j)).time = (dayN lv (lvl (pb j)) + dayP (pb j)) * 86400 := rfl
    obtain ⟨b1, b2⟩ := wid_gain (m := gainT (bookP lv g by_ dr pb j) (tstN lv g by_ (pb j))) (g := g) (by_ := by_) (dr := dr) (a := dayN lv (lvl (pb j)) + dayP (pb j)) (b := now) hg.d0 hg.d1 a2 a3 (by omega)
    rw [e]
    simp only
    rw [ht]
    refine ⟨?_, b1, b2⟩
    rw [widen_any_days]
    simp only
    omega
end
end Go.Proofs.Ytiggefmckomilaa
