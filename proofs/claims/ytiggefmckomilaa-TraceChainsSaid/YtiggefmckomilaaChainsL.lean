/-
  The law TraceChains: its third loop.
  The law TraceChains: its seventh loop.
  The law TraceChains: its sixth loop.
  The law TraceChains returns true.
-/
import Derived.Test.YtiggefmckomilaaChL5
set_option linter.unusedSimpArgs false
set_option linter.unusedVariables false
namespace Go.Proofs.Ytiggefmckomilaa
open Go Go.RowKit

set_option maxRecDepth 1000000 in
noncomputable def chl3C : Code := ((loopsOf ((Try.f9.body).getD .skip))[2]?).getD .skip
set_option maxHeartbeats 8000000 in
set_option maxRecDepth 1000000 in
theorem chl3 {kc0 kc1 kc2 kc3 ku4 kc7 kc8 kc9 kc10 kc11 kc14 ku16 ku17 ku18 ku19 ku20 ku21 ku22 ku23 kc24 kc25 kc26 kc27 kc28 kc29 kc30 kc31 kc32 kc33 kc34 kc35 kc36 kc37 kc38 kc39 kc40 kc41 kc42 kc43 kc44 kc45 kc46 kc47 kc48 kc49 kc50 kc51 kc52 kc53 kc54 kc55 kc56 kc57 kc58 kc59 kc60 kc61 kc62 kc63 kc64 kc65 kc66 kc67 kc68 kc69 kc70 kc71 kc72 kc73 kc74 kc75 kc76 kc77 kc78 kc79 kc80 kc81 kc82 kc83 kc84 kc85 kc86 kc87 kc88 kc89 kc90 kc91 kc92 kc93 kc94 kc95 kc96 kc97 kc98 kc99 kc100 kc101 kc102 kc103 kc104 kc105 kc106 kc107 kc108 kc109 kc110 kc111 kc112 kc113 kc114 kc115 kc116 kc117 kc118 kc119 kc120 kc121 kc122 kc123 kc124 kc125 kc126 kc127 kc128 kc129 kc130 ku131 ku132 ku133 ku134 ku135 ku136 ku137 ku138 ku139 ku140 ku141 ku142 ku143 ku144 ku145 ku146 ku147 ku148 ku149 ku150 ku151 ku152 ku153 ku154 ku155 ku156 ku157 ku158 ku159 ku160 ku161 ku162 ku163 ku164 ku165 ku166 ku167 ku168 ku169 ku170 ku171 ku172 ku173 ku174 ku175 ku176 ku177 ku178 ku179 ku180 ku181 ku182 ku183 ku184 ku185 ku186 ku187 ku188 ku189 ku190 ku191 ku192 ku193 ku194 ku195 ku196 ku197 ku198 ku199 ku200 ku201 ku202 ku203 ku204 ku205 ku206 ku207 ku208 ku209 ku210 ku211 ku212 ku213 ku214 ku215 ku216 ku217 ku218 ku219 ku220 ku221 kc222 kc223 kc224 kc225 kc226 kc227 kc228 kc229 kc230 kc231 kc232 kc233 kc234 kc235 kc236 kc237 kc238 kc239 kc240 kc241 kc242 kc243 kc244 kc245 kc246 kc247 kc248 kc249 kc250 kc251 kc252 kc253 kc254 kc255 kc256 kc257 kc258 kc259 kc260 kc261 kc262 kc263 kc264 kc265 kc266 kc267 kc268 kc269 kc270 kc271 kc272 kc273 kc274 kc275 kc276 kc277 kc278 kc279 kc280 kc281 kc282 : Value} (B : List Ent) (SS : List ActR) (C : List ByteArray) (y p base bS cs bC c1 : Nat) (curC : Array Value) (L1 : Lay) (X1 X2 : Th) (w' : World) (hds : ∀ a ∈ SS, stdT B a.nm = some (stdOf a) ∧ a.nm.size ≤ maxLen) (hcs : ∀ (i : Nat) (m : ByteArray), C[i]? = some m → curC[i]? = some (.string m)) (hcn : ∀ (j : Nat) (s : Std), C[j]? = some s.name → stdT B s.name = some s → (s.par = ByteArray.empty → j + 1 = C.length) ∧ (s.par ≠ ByteArray.empty → C[j + 1]? = some s.par)) (hmi : ∀ z, metN (depT B (depN B z (stdsT B).length) (testsT B).length) y (depT B (depN B z (stdsT B).length) (testsT B).length).length = memB C z) (hcl : C.length ≤ 1000) (hBl : B.length ≤ 1000) (hsl : SS.length ≤ 1000) (hyl : y < 1000) {Q : Exit → Act → World → Prop} {wr : World} (hM : Mem w' [.blk bC 9 curC, X1, X2, .row base 59 8 (.slice (some ⟨bS, 0, none⟩) SS.length cs) SS.length (actsV SS), .book B p L1] wr)
    (hexit : ∀ ⦃kv4 kv16 kv17 kv18 kv19 kv20 kv21 kv22 kv23 kv131 kv132 kv133 kv134 kv135 kv136 kv137 kv138 kv139 kv140 kv141 kv142 kv143 kv144 kv145 kv146 kv147 kv148 kv149 kv150 kv151 kv152 kv153 kv154 kv155 kv156 kv157 kv158 kv159 kv160 kv161 kv162 kv163 kv164 kv165 kv166 kv167 kv168 kv169 kv170 kv171 kv172 kv173 kv174 kv175 kv176 kv177 kv178 kv179 kv180 kv181 kv182 kv183 kv184 kv185 kv186 kv187 kv188 kv189 kv190 kv191 kv192 kv193 kv194 kv195 kv196 kv197 kv198 kv199 kv200 kv201 kv202 kv203 kv204 kv205 kv206 kv207 kv208 kv209 kv210 kv211 kv212 kv213 kv214 kv215 kv216 kv217 kv218 kv219 kv220 kv221 : Value⦄  ⦃w2 : World⦄, Mem w' [.blk bC 9 curC, X1, X2, .row base 59 8 (.slice (some ⟨bS, 0, none⟩) SS.length cs) SS.length (actsV SS), .book B p L1] w2 → Q (.exit 4) ⟨List.toArray (kc0 :: kc1 :: kc2 :: kc3 :: kv4 :: .pointer (some ⟨p, 0, none⟩) :: .slice (some ⟨bS, 0, none⟩) SS.length cs :: kc7 :: kc8 :: kc9 :: kc10 :: kc11 :: .int .i64 (y : Int) :: .slice (some ⟨bC, 0, none⟩) C.length c1 :: kc14 :: .int .i64 (SS.length : Int) :: kv16 :: kv17 :: kv18 :: kv19 :: kv20 :: kv21 :: kv22 :: kv23 :: kc24 :: kc25 :: kc26 :: kc27 :: kc28 :: kc29 :: kc30 :: kc31 :: kc32 :: kc33 :: kc34 :: kc35 :: kc36 :: kc37 :: kc38 :: kc39 :: kc40 :: kc41 :: kc42 :: kc43 :: kc44 :: kc45 :: kc46 :: kc47 :: kc48 :: kc49 :: kc50 :: kc51 :: kc52 :: kc53 :: kc54 :: kc55 :: kc56 :: kc57 :: kc58 :: kc59 :: kc60 :: kc61 :: kc62 :: kc63 :: kc64 :: kc65 :: kc66 :: kc67 :: kc68 :: kc69 :: kc70 :: kc71 :: kc72 :: kc73 :: kc74 :: kc75 :: kc76 :: kc77 :: kc78 :: kc79 :: kc80 :: kc81 :: kc82 :: kc83 :: kc84 :: kc85 :: kc86 :: kc87 :: kc88 :: kc89 :: kc90 :: kc91 :: kc92 :: kc93 :: kc94 :: kc95 :: kc96 :: kc97 :: kc98 :: kc99 :: kc100 :: kc101 :: kc102 :: kc103 :: kc104 :: kc105 :: kc106 :: kc107 :: kc108 :: kc109 :: kc110 :: kc111 :: kc112 :: kc113 :: kc114 :: kc115 :: kc116 :: kc117 :: kc118 :: kc119 :: kc120 :: kc121 :: kc122 :: kc123 :: kc124 :: kc125 :: kc126 :: kc127 :: kc128 :: kc129 :: kc130 :: kv131 :: kv132 :: kv133 :: kv134 :: kv135 :: kv136 :: kv137 :: kv138 :: kv139 :: kv140 :: kv141 :: kv142 :: kv143 :: kv144 :: kv145 :: kv146 :: kv147 :: kv148 :: kv149 :: kv150 :: kv151 :: kv152 :: kv153 :: kv154 :: kv155 :: kv156 :: kv157 :: kv158 :: kv159 :: kv160 :: kv161 :: kv162 :: kv163 :: kv164 :: kv165 :: kv166 :: kv167 :: kv168 :: kv169 :: kv170 :: kv171 :: kv172 :: kv173 :: kv174 :: kv175 :: kv176 :: kv177 :: kv178 :: kv179 :: kv180 :: kv181 :: kv182 :: kv183 :: kv184 :: kv185 :: kv186 :: kv187 :: kv188 :: kv189 :: kv190 :: kv191 :: kv192 :: kv193 :: kv194 :: kv195 :: kv196 :: kv197 :: kv198 :: kv199 :: kv200 :: kv201 :: kv202 :: kv203 :: kv204 :: kv205 :: kv206 :: kv207 :: kv208 :: kv209 :: kv210 :: kv211 :: kv212 :: kv213 :: kv214 :: kv215 :: kv216 :: kv217 :: kv218 :: kv219 :: kv220 :: kv221 :: kc222 :: kc223 :: kc224 :: kc225 :: kc226 :: kc227 :: kc228 :: kc229 :: kc230 :: kc231 :: kc232 :: kc233 :: kc234 :: kc235 :: kc236 :: kc237 :: kc238 :: kc239 :: kc240 :: kc241 :: kc242 :: kc243 :: kc244 :: kc245 :: kc246 :: kc247 :: kc248 :: kc249 :: kc250 :: kc251 :: kc252 :: kc253 :: kc254 :: kc255 :: kc256 :: kc257 :: kc258 :: kc259 :: kc260 :: kc261 :: kc262 :: kc263 :: kc264 :: kc265 :: kc266 :: kc267 :: kc268 :: kc269 :: kc270 :: kc271 :: kc272 :: kc273 :: kc274 :: kc275 :: kc276 :: kc277 :: kc278 :: kc279 :: kc280 :: kc281 :: kc282 :: []), []⟩ w2) :
    Code.wp Try.prog chl3C Q ⟨List.toArray (kc0 :: kc1 :: kc2 :: kc3 :: ku4 :: .pointer (some ⟨p, 0, none⟩) :: .slice (some ⟨bS, 0, none⟩) SS.length cs :: kc7 :: kc8 :: kc9 :: kc10 :: kc11 :: .int .i64 (y : Int) :: .slice (some ⟨bC, 0, none⟩) C.length c1 :: kc14 :: .int .i64 0 :: ku16 :: ku17 :: ku18 :: ku19 :: ku20 :: ku21 :: ku22 :: ku23 :: kc24 :: kc25 :: kc26 :: kc27 :: kc28 :: kc29 :: kc30 :: kc31 :: kc32 :: kc33 :: kc34 :: kc35 :: kc36 :: kc37 :: kc38 :: kc39 :: kc40 :: kc41 :: kc42 :: kc43 :: kc44 :: kc45 :: kc46 :: kc47 :: kc48 :: kc49 :: kc50 :: kc51 :: kc52 :: kc53 :: kc54 :: kc55 :: kc56 :: kc57 :: kc58 :: kc59 :: kc60 :: kc61 :: kc62 :: kc63 :: kc64 :: kc65 :: kc66 :: kc67 :: kc68 :: kc69 :: kc70 :: kc71 :: kc72 :: kc73 :: kc74 :: kc75 :: kc76 :: kc77 :: kc78 :: kc79 :: kc80 :: kc81 :: kc82 :: kc83 :: kc84 :: kc85 :: kc86 :: kc87 :: kc88 :: kc89 :: kc90 :: kc91 :: kc92 :: kc93 :: kc94 :: kc95 :: kc96 :: kc97 :: kc98 :: kc99 :: kc100 :: kc101 :: kc102 :: kc103 :: kc104 :: kc105 :: kc106 :: kc107 :: kc108 :: kc109 :: kc110 :: kc111 :: kc112 :: kc113 :: kc114 :: kc115 :: kc116 :: kc117 :: kc118 :: kc119 :: kc120 :: kc121 :: kc122 :: kc123 :: kc124 :: kc125 :: kc126 :: kc127 :: kc128 :: kc129 :: kc130 :: ku131 :: ku132 :: ku133 :: ku134 :: ku135 :: ku136 :: ku137 :: ku138 :: ku139 :: ku140 :: ku141 :: ku142 :: ku143 :: ku144 :: ku145 :: ku146 :: ku147 :: ku148 :: ku149 :: ku150 :: ku151 :: ku152 :: ku153 :: ku154 :: ku155 :: ku156 :: ku157 :: ku158 :: ku159 :: ku160 :: ku161 :: ku162 :: ku163 :: ku164 :: ku165 :: ku166 :: ku167 :: ku168 :: ku169 :: ku170 :: ku171 :: ku172 :: ku173 :: ku174 :: ku175 :: ku176 :: ku177 :: ku178 :: ku179 :: ku180 :: ku181 :: ku182 :: ku183 :: ku184 :: ku185 :: ku186 :: ku187 :: ku188 :: ku189 :: ku190 :: ku191 :: ku192 :: ku193 :: ku194 :: ku195 :: ku196 :: ku197 :: ku198 :: ku199 :: ku200 :: ku201 :: ku202 :: ku203 :: ku204 :: ku205 :: ku206 :: ku207 :: ku208 :: ku209 :: ku210 :: ku211 :: ku212 :: ku213 :: ku214 :: ku215 :: ku216 :: ku217 :: ku218 :: ku219 :: ku220 :: ku221 :: kc222 :: kc223 :: kc224 :: kc225 :: kc226 :: kc227 :: kc228 :: kc229 :: kc230 :: kc231 :: kc232 :: kc233 :: kc234 :: kc235 :: kc236 :: kc237 :: kc238 :: kc239 :: kc240 :: kc241 :: kc242 :: kc243 :: kc244 :: kc245 :: kc246 :: kc247 :: kc248 :: kc249 :: kc250 :: kc251 :: kc252 :: kc253 :: kc254 :: kc255 :: kc256 :: kc257 :: kc258 :: kc259 :: kc260 :: kc261 :: kc262 :: kc263 :: kc264 :: kc265 :: kc266 :: kc267 :: kc268 :: kc269 :: kc270 :: kc271 :: kc272 :: kc273 :: kc274 :: kc275 :: kc276 :: kc277 :: kc278 :: kc279 :: kc280 :: kc281 :: kc282 :: []), []⟩ wr := by
  have HX := hide hexit
  clear hexit
  unfold chl3C
  conv => arg 2; whnf
  have HM := hide hM
  have Hds := hide hds
  have Hcs := hide hcs
  have Hcn := hide hcn
  have Hmi := hide hmi
  clear hds hcs hcn hmi
  clear hM
  go_loopw [15] (fun i wr => ∃ z : Nat, z ≤ SS.length ∧ i = .int .i64 z ∧ Mem w' [.blk bC 9 curC, X1, X2, .row base 59 8 (.slice (some ⟨bS, 0, none⟩) SS.length cs) SS.length (actsV SS), .book B p L1] wr) (fun i _ => SS.length - (intOf i).toNat)
  case atStart => exact ⟨0, Nat.zero_le _, rfl, HM.out⟩
  case round =>
    obtain ⟨z, hzm, rfl, hM⟩ := hrel
    clear HM
    have HM := hide hM
    clear hM
    by_cases hz : z < SS.length
    · have hz' : (z : Int) < SS.length := by omega
      obtain ⟨s, hs⟩ : ∃ s, SS[z]? = some s := ⟨_, List.getElem?_eq_getElem hz⟩
      obtain ⟨hsn, hsm⟩ := Hds.out s (List.mem_of_getElem? hs)
      obtain ⟨bS', hA, ltS, q0, q1, q2, q3, q4, q5, q6, q7⟩ := row_acts (Mem.row_ HM.out 3 rfl) rfl hs
      cases hA
      have Hsn := hide hsn
      clear hs hsn
      go_wp2_with fail
      refine code_world fun w6 hW => ?_
      have HMn := Mem.to (Mem.allocAt HM.out wr.heap.size rfl #[.int .i64 s.k, .string s.nm, .string s.pr, .int .i64 s.lo, .int .i64 s.hi, .int .i64 s.tm, .int .i64 s.un, .int .i64 s.n] 59) hW
      have LW : Later wr w6 := by rw [hW]; exact ((Below.refl _ _).alloc (Nat.le_refl _) _)
      have szW : w6.heap.size = wr.heap.size + 1 := by rw [hW]; simp
      clear hW
      replace HM := hide HMn
      clear HMn LW
      generalize hgA : wr.heap.size = gA at HM ⊢
      clear q0 q1 q2 q3 q4 q5 q6 q7 ltS
      refine chl4 C s gA bC c1 curC w' (X1 :: X2 :: .row base 59 8 (.slice (some ⟨bS, 0, none⟩) SS.length cs) SS.length (actsV SS) :: .book B p L1 :: []) Hcs.out (fun j h => Hcn.out j (stdOf s) h Hsn.out) hcl HM.out ?_
      clear HM
      intro kv4 kv141 kv142 kv143 kv144 kv145 kv146 kv147 kv148 kv149 kv150 kv151 kv152 kv153 kv154 kv155 kv156 kv157 kv158 kv159 kv160 kv161 kv162 kv163 kv164 kv165 kv166 kv167 kv168 kv169 kv170 kv171 kv172 kv173 kv174 kv175 kv176 kv177
      intro w7 hM
      have HM := hide (hM : Mem w' [.blk gA 59 #[.int .i64 s.k, .string s.nm, .string s.pr, .int .i64 s.lo, .int .i64 s.hi, .int .i64 s.tm, .int .i64 s.un, .int .i64 s.n], .blk bC 9 curC, X1, X2, .row base 59 8 (.slice (some ⟨bS, 0, none⟩) SS.length cs) SS.length (actsV SS), .book B p L1] w7)
      clear hM
      have hmi := Hmi.out s.nm
      obtain ⟨inb, hinb⟩ : ∃ b, memB C s.nm = b := ⟨_, rfl⟩
      rw [hinb] at hmi ⊢
      clear hinb
      have hv := Depends_any B p L1 s.nm w7 (Mem.book_ HM.out 5 rfl) hsm
      have hdA : dependA B s.nm = (depN B s.nm (stdsT B).length, depT B (depN B s.nm (stdsT B).length) (testsT B).length, 0) := by unfold dependA; rw [Hsn.out]
      rw [hdA] at hv
      clear hdA
      have hsrt := fun j a b h1 h2 => depT_next (l := B) (q := depN B s.nm (stdsT B).length) (k := (testsT B).length) (j := j) (a := a) (b := b) h1 h2
      have hTl : (depT B (depN B s.nm (stdsT B).length) (testsT B).length).length ≤ (testsT B).length := depT_len
      have hTl2 := tests_le_len (l := B)
      generalize depN B s.nm (stdsT B).length = R at *
      obtain ⟨T, hT⟩ : ∃ T, depT B R (testsT B).length = T := ⟨_, rfl⟩
      rw [hT] at hv hmi hsrt hTl
      clear hT
      have Hmi2 := hide hmi
      have Hsrt := hide hsrt
      clear hmi hsrt
      have bz : Blk w7 gA 59 #[.int .i64 s.k, .string s.nm, .string s.pr, .int .i64 s.lo, .int .i64 s.hi, .int .i64 s.tm, .int .i64 s.un, .int .i64 s.n] := HM.out.get 0 rfl
      have ltz := bz.lt
      have z0 := bz.c 0 rfl
      have z1 := bz.c 1 rfl
      have z2 := bz.c 2 rfl
      unfold ptrB at hv
      go_wp2_with fail
      refine hv.mono ?_
      clear hv
      rintro e w8 ⟨v1, v2, rfl, hM⟩
      clear bz ltz z0 z1 z2
      have HM1 := hide (((HM.out.join hM).drop 1 rfl).drop 1 rfl)
      clear HM hM
      have HM := HM1
      clear HM1
      generalize hgB : w7.heap.size = gB at HM ⊢
      obtain ⟨A2, c2, rfl⟩ := own_shape2 (Mem.row_ HM.out 0 rfl)
      go_wp2_with fail
      refine chl5 y T A2 c2 gB w' [.blk bC 9 curC, X1, X2, .row base 59 8 (.slice (some ⟨bS, 0, none⟩) SS.length cs) SS.length (actsV SS), .book B p L1] Hsrt.out (by omega) hyl HM.out ?_
      clear HM
      intro kv4 kv186 kv187 kv188 kv189 kv190 kv191 kv192 kv193 kv194 kv195 kv196 kv197 kv198 kv199 kv200 kv201 kv202 kv203 kv204 kv205 kv206 kv207 kv208 kv209 kv210 kv211 kv212 kv213 kv214
      intro w9 hM
      have HM := hide hM
      clear hM
      rw [Hmi2.out]
      go_wp2_with fail
      go_roundw
      case rel => exact ⟨z + 1, hz, by go_num, HM.out.tail⟩
      case measure => simp [intOf] <;> omega
    · obtain rfl : z = SS.length := by omega
      have hzz : ¬ ((SS.length : Int) < SS.length) := by omega
      go_wp2_with fail
      exact HX.out HM.out
end Go.Proofs.Ytiggefmckomilaa
namespace Go.Proofs.Ytiggefmckomilaa
open Go Go.RowKit

set_option maxRecDepth 1000000 in
noncomputable def chl7C : Code := ((loopsOf ((Try.f9.body).getD .skip))[6]?).getD .skip
set_option maxHeartbeats 8000000 in
set_option maxRecDepth 1000000 in
theorem chl7 {kc0 kc1 kc2 kc3 kc4 kc5 kc6 kc7 kc8 kc9 kc11 kc12 kc13 kc14 kc15 kc16 kc17 kc18 kc19 kc20 kc21 kc22 kc23 kc24 kc25 kc27 kc30 kc31 kc32 kc33 kc34 kc35 kc36 kc37 kc38 kc39 kc40 kc41 kc42 kc43 kc44 kc45 kc46 kc47 kc48 kc49 kc50 kc51 kc52 kc53 kc54 kc55 kc56 kc57 kc58 kc59 kc60 kc61 kc62 kc63 kc64 kc65 kc66 kc67 kc68 kc69 kc70 kc71 kc72 kc73 kc74 kc75 kc76 kc77 kc78 kc79 kc80 kc81 kc82 kc83 kc84 kc85 kc86 kc87 kc88 kc89 kc90 kc91 kc92 kc93 kc94 kc95 kc96 kc97 kc98 kc99 kc100 kc101 kc102 kc103 kc104 kc105 kc106 kc107 kc108 kc109 kc110 kc111 kc112 kc113 kc114 kc115 kc116 kc117 kc118 kc119 kc120 kc121 kc122 kc123 kc124 kc125 kc126 kc127 kc128 kc129 kc130 kc131 kc132 kc133 kc134 kc135 kc136 kc137 kc138 kc139 kc140 kc141 kc142 kc143 kc144 kc145 kc146 kc147 kc148 kc149 kc150 kc151 kc152 kc153 kc154 kc155 kc156 kc157 kc158 kc159 kc160 kc161 kc162 kc163 kc164 kc165 kc166 kc167 kc168 kc169 kc170 kc171 kc172 kc173 kc174 kc175 kc176 kc177 kc178 kc179 kc180 kc181 kc182 kc183 kc184 kc185 kc186 kc187 kc188 kc189 kc190 kc191 kc192 kc193 kc194 kc195 kc196 kc197 kc198 kc199 kc200 kc201 kc202 kc203 kc204 kc205 kc206 kc207 kc208 kc209 kc210 kc211 kc212 kc213 kc214 kc215 kc216 kc217 kc218 kc219 kc220 kc221 kc222 kc223 kc224 kc225 kc226 kc227 kc228 kc229 kc230 kc231 kc232 kc233 ku234 ku235 ku236 ku237 ku238 ku239 ku240 ku241 ku242 ku243 ku244 ku245 ku246 ku247 ku248 kc249 kc250 kc251 kc252 kc253 kc254 kc255 kc256 kc257 kc258 kc259 kc260 kc261 kc262 kc263 kc264 kc265 kc266 kc267 kc268 kc269 kc270 kc271 kc272 kc273 kc274 kc275 kc276 kc277 kc278 kc279 kc280 kc281 kc282 : Value} (C : List ByteArray) (x : ByteArray) (bO c1 : Nat) (curO : Array Value) (w' : World) (ts : List Th) (hcs : ∀ (i : Nat) (m : ByteArray), C[i]? = some m → curO[i]? = some (.string m)) (hcl : C.length ≤ 1000) {Q : Exit → Act → World → Prop} {wr : World} (hM : Mem w' (.blk bO 9 curO :: ts) wr)
    (hexit : ∀ ⦃kv234 kv235 kv236 kv237 kv238 kv239 kv240 kv241 kv242 kv243 kv244 kv245 kv246 kv247 kv248 : Value⦄  ⦃w2 : World⦄, Mem w' (.blk bO 9 curO :: ts) w2 → Q (.exit 12) ⟨List.toArray (kc0 :: kc1 :: kc2 :: kc3 :: kc4 :: kc5 :: kc6 :: kc7 :: kc8 :: kc9 :: .string x :: kc11 :: kc12 :: kc13 :: kc14 :: kc15 :: kc16 :: kc17 :: kc18 :: kc19 :: kc20 :: kc21 :: kc22 :: kc23 :: kc24 :: kc25 :: .slice (some ⟨bO, 0, none⟩) C.length c1 :: kc27 :: .bool (memB C x) :: .int .i64 (C.length : Int) :: kc30 :: kc31 :: kc32 :: kc33 :: kc34 :: kc35 :: kc36 :: kc37 :: kc38 :: kc39 :: kc40 :: kc41 :: kc42 :: kc43 :: kc44 :: kc45 :: kc46 :: kc47 :: kc48 :: kc49 :: kc50 :: kc51 :: kc52 :: kc53 :: kc54 :: kc55 :: kc56 :: kc57 :: kc58 :: kc59 :: kc60 :: kc61 :: kc62 :: kc63 :: kc64 :: kc65 :: kc66 :: kc67 :: kc68 :: kc69 :: kc70 :: kc71 :: kc72 :: kc73 :: kc74 :: kc75 :: kc76 :: kc77 :: kc78 :: kc79 :: kc80 :: kc81 :: kc82 :: kc83 :: kc84 :: kc85 :: kc86 :: kc87 :: kc88 :: kc89 :: kc90 :: kc91 :: kc92 :: kc93 :: kc94 :: kc95 :: kc96 :: kc97 :: kc98 :: kc99 :: kc100 :: kc101 :: kc102 :: kc103 :: kc104 :: kc105 :: kc106 :: kc107 :: kc108 :: kc109 :: kc110 :: kc111 :: kc112 :: kc113 :: kc114 :: kc115 :: kc116 :: kc117 :: kc118 :: kc119 :: kc120 :: kc121 :: kc122 :: kc123 :: kc124 :: kc125 :: kc126 :: kc127 :: kc128 :: kc129 :: kc130 :: kc131 :: kc132 :: kc133 :: kc134 :: kc135 :: kc136 :: kc137 :: kc138 :: kc139 :: kc140 :: kc141 :: kc142 :: kc143 :: kc144 :: kc145 :: kc146 :: kc147 :: kc148 :: kc149 :: kc150 :: kc151 :: kc152 :: kc153 :: kc154 :: kc155 :: kc156 :: kc157 :: kc158 :: kc159 :: kc160 :: kc161 :: kc162 :: kc163 :: kc164 :: kc165 :: kc166 :: kc167 :: kc168 :: kc169 :: kc170 :: kc171 :: kc172 :: kc173 :: kc174 :: kc175 :: kc176 :: kc177 :: kc178 :: kc179 :: kc180 :: kc181 :: kc182 :: kc183 :: kc184 :: kc185 :: kc186 :: kc187 :: kc188 :: kc189 :: kc190 :: kc191 :: kc192 :: kc193 :: kc194 :: kc195 :: kc196 :: kc197 :: kc198 :: kc199 :: kc200 :: kc201 :: kc202 :: kc203 :: kc204 :: kc205 :: kc206 :: kc207 :: kc208 :: kc209 :: kc210 :: kc211 :: kc212 :: kc213 :: kc214 :: kc215 :: kc216 :: kc217 :: kc218 :: kc219 :: kc220 :: kc221 :: kc222 :: kc223 :: kc224 :: kc225 :: kc226 :: kc227 :: kc228 :: kc229 :: kc230 :: kc231 :: kc232 :: kc233 :: kv234 :: kv235 :: kv236 :: kv237 :: kv238 :: kv239 :: kv240 :: kv241 :: kv242 :: kv243 :: kv244 :: kv245 :: kv246 :: kv247 :: kv248 :: kc249 :: kc250 :: kc251 :: kc252 :: kc253 :: kc254 :: kc255 :: kc256 :: kc257 :: kc258 :: kc259 :: kc260 :: kc261 :: kc262 :: kc263 :: kc264 :: kc265 :: kc266 :: kc267 :: kc268 :: kc269 :: kc270 :: kc271 :: kc272 :: kc273 :: kc274 :: kc275 :: kc276 :: kc277 :: kc278 :: kc279 :: kc280 :: kc281 :: kc282 :: []), []⟩ w2) :
    Code.wp Try.prog chl7C Q ⟨List.toArray (kc0 :: kc1 :: kc2 :: kc3 :: kc4 :: kc5 :: kc6 :: kc7 :: kc8 :: kc9 :: .string x :: kc11 :: kc12 :: kc13 :: kc14 :: kc15 :: kc16 :: kc17 :: kc18 :: kc19 :: kc20 :: kc21 :: kc22 :: kc23 :: kc24 :: kc25 :: .slice (some ⟨bO, 0, none⟩) C.length c1 :: kc27 :: .bool false :: .int .i64 0 :: kc30 :: kc31 :: kc32 :: kc33 :: kc34 :: kc35 :: kc36 :: kc37 :: kc38 :: kc39 :: kc40 :: kc41 :: kc42 :: kc43 :: kc44 :: kc45 :: kc46 :: kc47 :: kc48 :: kc49 :: kc50 :: kc51 :: kc52 :: kc53 :: kc54 :: kc55 :: kc56 :: kc57 :: kc58 :: kc59 :: kc60 :: kc61 :: kc62 :: kc63 :: kc64 :: kc65 :: kc66 :: kc67 :: kc68 :: kc69 :: kc70 :: kc71 :: kc72 :: kc73 :: kc74 :: kc75 :: kc76 :: kc77 :: kc78 :: kc79 :: kc80 :: kc81 :: kc82 :: kc83 :: kc84 :: kc85 :: kc86 :: kc87 :: kc88 :: kc89 :: kc90 :: kc91 :: kc92 :: kc93 :: kc94 :: kc95 :: kc96 :: kc97 :: kc98 :: kc99 :: kc100 :: kc101 :: kc102 :: kc103 :: kc104 :: kc105 :: kc106 :: kc107 :: kc108 :: kc109 :: kc110 :: kc111 :: kc112 :: kc113 :: kc114 :: kc115 :: kc116 :: kc117 :: kc118 :: kc119 :: kc120 :: kc121 :: kc122 :: kc123 :: kc124 :: kc125 :: kc126 :: kc127 :: kc128 :: kc129 :: kc130 :: kc131 :: kc132 :: kc133 :: kc134 :: kc135 :: kc136 :: kc137 :: kc138 :: kc139 :: kc140 :: kc141 :: kc142 :: kc143 :: kc144 :: kc145 :: kc146 :: kc147 :: kc148 :: kc149 :: kc150 :: kc151 :: kc152 :: kc153 :: kc154 :: kc155 :: kc156 :: kc157 :: kc158 :: kc159 :: kc160 :: kc161 :: kc162 :: kc163 :: kc164 :: kc165 :: kc166 :: kc167 :: kc168 :: kc169 :: kc170 :: kc171 :: kc172 :: kc173 :: kc174 :: kc175 :: kc176 :: kc177 :: kc178 :: kc179 :: kc180 :: kc181 :: kc182 :: kc183 :: kc184 :: kc185 :: kc186 :: kc187 :: kc188 :: kc189 :: kc190 :: kc191 :: kc192 :: kc193 :: kc194 :: kc195 :: kc196 :: kc197 :: kc198 :: kc199 :: kc200 :: kc201 :: kc202 :: kc203 :: kc204 :: kc205 :: kc206 :: kc207 :: kc208 :: kc209 :: kc210 :: kc211 :: kc212 :: kc213 :: kc214 :: kc215 :: kc216 :: kc217 :: kc218 :: kc219 :: kc220 :: kc221 :: kc222 :: kc223 :: kc224 :: kc225 :: kc226 :: kc227 :: kc228 :: kc229 :: kc230 :: kc231 :: kc232 :: kc233 :: ku234 :: ku235 :: ku236 :: ku237 :: ku238 :: ku239 :: ku240 :: ku241 :: ku242 :: ku243 :: ku244 :: ku245 :: ku246 :: ku247 :: ku248 :: kc249 :: kc250 :: kc251 :: kc252 :: kc253 :: kc254 :: kc255 :: kc256 :: kc257 :: kc258 :: kc259 :: kc260 :: kc261 :: kc262 :: kc263 :: kc264 :: kc265 :: kc266 :: kc267 :: kc268 :: kc269 :: kc270 :: kc271 :: kc272 :: kc273 :: kc274 :: kc275 :: kc276 :: kc277 :: kc278 :: kc279 :: kc280 :: kc281 :: kc282 :: []), []⟩ wr := by
  have HX := hide hexit
  clear hexit
  unfold chl7C
  conv => arg 2; whnf
  have HM := hide hM
  have Hcs := hide hcs
  clear hM hcs
  go_loopw [28, 29] (fun o i wr => ∃ j : Nat, j ≤ C.length ∧ i = .int .i64 j ∧ o = .bool (memB (C.take j) x) ∧ Mem w' (.blk bO 9 curO :: ts) wr) (fun _ i _ => C.length - (intOf i).toNat)
  case atStart => exact ⟨0, Nat.zero_le _, rfl, by rw [List.take_zero]; rfl, HM.out⟩
  case round =>
    obtain ⟨j, hjm, rfl, rfl, hM⟩ := hrel
    clear HM
    have HM := hide hM
    clear hM
    by_cases hj : j < C.length
    · have hj' : (j : Int) < C.length := by omega
      obtain ⟨m, hm⟩ : ∃ m, C[j]? = some m := ⟨_, List.getElem?_eq_getElem hj⟩
      have hmt := memB_take (x := x) hm
      obtain ⟨o1, ho1⟩ : ∃ o1, memB (C.take j) x = o1 := ⟨_, rfl⟩
      rw [ho1] at hmt ⊢
      clear ho1
      have y0 := (Mem.blk_ HM.out 0 rfl).c j (Hcs.out j _ hm)
      have lty := (Mem.blk_ HM.out 0 rfl).lt
      by_cases hme : m = x
      · subst hme
        rw [show decide (m = m) = true from decide_eq_true rfl, Bool.or_true] at hmt
        have heq : (m.toList == m.toList) = true := beq_self_eq_true _
        have Hmt := hide hmt
        clear hmt hm
        cases o1 with
        | true =>
          go_wp2_with fail
          go_roundw
          case rel => exact ⟨j + 1, hj, by go_num, by rw [Hmt.out], HM.out⟩
          case measure => simp [intOf] <;> omega
        | false =>
          go_wp2_with fail
          go_roundw
          case rel => exact ⟨j + 1, hj, by go_num, by rw [Hmt.out], HM.out⟩
          case measure => simp [intOf] <;> omega
      · rw [decide_eq_false hme, Bool.or_false] at hmt
        have heq : (m.toList == x.toList) = false := toList_bne hme
        have Hmt := hide hmt
        clear hmt hm
        cases o1 with
        | true =>
          go_wp2_with fail
          go_roundw
          case rel => exact ⟨j + 1, hj, by go_num, by rw [Hmt.out], HM.out⟩
          case measure => simp [intOf] <;> omega
        | false =>
          go_wp2_with fail
          go_roundw
          case rel => exact ⟨j + 1, hj, by go_num, by rw [Hmt.out], HM.out⟩
          case measure => simp [intOf] <;> omega
    · obtain rfl : j = C.length := by omega
      have hjj : ¬ ((C.length : Int) < C.length) := by omega
      rw [List.take_length]
      go_wp2_with fail
      exact HX.out HM.out
end Go.Proofs.Ytiggefmckomilaa
namespace Go.Proofs.Ytiggefmckomilaa
open Go Go.RowKit

set_option maxRecDepth 1000000 in
noncomputable def chl6C : Code := ((loopsOf ((Try.f9.body).getD .skip))[5]?).getD .skip
set_option maxHeartbeats 8000000 in
set_option maxRecDepth 1000000 in
theorem chl6 {kc0 kc1 kc2 kc3 kc4 kc6 kc8 kc9 kc11 kc13 kc14 kc15 kc16 kc17 kc18 kc19 kc20 kc21 kc22 kc23 ku26 ku27 ku28 ku29 kc30 kc31 kc32 kc33 kc34 kc35 kc36 kc37 kc38 kc39 kc40 kc41 kc42 kc43 kc44 kc45 kc46 kc47 kc48 kc49 kc50 kc51 kc52 kc53 kc54 kc55 kc56 kc57 kc58 kc59 kc60 kc61 kc62 kc63 kc64 kc65 kc66 kc67 kc68 kc69 kc70 kc71 kc72 kc73 kc74 kc75 kc76 kc77 kc78 kc79 kc80 kc81 kc82 kc83 kc84 kc85 kc86 kc87 kc88 kc89 kc90 kc91 kc92 kc93 kc94 kc95 kc96 kc97 kc98 kc99 kc100 kc101 kc102 kc103 kc104 kc105 kc106 kc107 kc108 kc109 kc110 kc111 kc112 kc113 kc114 kc115 kc116 kc117 kc118 kc119 kc120 kc121 kc122 kc123 kc124 kc125 kc126 kc127 kc128 kc129 kc130 kc131 kc132 kc133 kc134 kc135 kc136 kc137 kc138 kc139 kc140 kc141 kc142 kc143 kc144 kc145 kc146 kc147 kc148 kc149 kc150 kc151 kc152 kc153 kc154 kc155 kc156 kc157 kc158 kc159 kc160 kc161 kc162 kc163 kc164 kc165 kc166 kc167 kc168 kc169 kc170 kc171 kc172 kc173 kc174 kc175 kc176 kc177 kc178 kc179 kc180 kc181 kc182 kc183 kc184 kc185 kc186 kc187 kc188 kc189 kc190 kc191 kc192 kc193 kc194 kc195 kc196 kc197 kc198 kc199 kc200 kc201 kc202 kc203 kc204 kc205 kc206 kc207 kc208 kc209 kc210 kc211 kc212 kc213 kc214 kc215 kc216 kc217 kc218 kc219 kc220 kc221 ku222 ku223 ku224 ku225 ku226 ku227 ku228 ku229 ku230 ku231 ku232 ku233 ku234 ku235 ku236 ku237 ku238 ku239 ku240 ku241 ku242 ku243 ku244 ku245 ku246 ku247 ku248 ku249 ku250 ku251 ku252 ku253 ku254 ku255 ku256 ku257 ku258 ku259 ku260 ku261 ku262 ku263 ku264 ku265 ku266 kc267 kc268 kc269 kc270 kc271 kc272 kc273 kc274 kc275 kc276 kc277 kc278 kc279 kc280 kc281 kc282 : Value} (B : List Ent) (TS : List ActR) (a : ActR) (x : ByteArray) (y p base bT ct : Nat) (L1 : Lay) (X0 X1 X3 : Th) (w' : World) (hch : ∀ (z : Nat) (t : ActR), TS[z]? = some t → chainA B (z : Int) = (chainT B t.pr, 0) ∧ 0 < (chainT B t.pr).length) (hcl : ∀ n, (chainT B n).length ≤ 1000) (htl : TS.length ≤ 1000) (ha : TS[y]? = some a) (hyl : y < 1000) {Q : Exit → Act → World → Prop} {wr : World} (hM : Mem w' [X0, X1, .row base 59 8 (.slice (some ⟨bT, 0, none⟩) TS.length ct) TS.length (actsV TS), X3, .book B p L1] wr)
    (hexit : ∀ ⦃kv26 kv27 kv28 kv29 kv222 kv223 kv224 kv225 kv226 kv227 kv228 kv229 kv230 kv231 kv232 kv233 kv234 kv235 kv236 kv237 kv238 kv239 kv240 kv241 kv242 kv243 kv244 kv245 kv246 kv247 kv248 kv249 kv250 kv251 kv252 kv253 kv254 kv255 kv256 kv257 kv258 kv259 kv260 kv261 kv262 kv263 kv264 kv265 kv266 : Value⦄  ⦃w2 : World⦄, Mem w' [X0, X1, .row base 59 8 (.slice (some ⟨bT, 0, none⟩) TS.length ct) TS.length (actsV TS), X3, .book B p L1] w2 → Q (.exit 10) ⟨List.toArray (kc0 :: kc1 :: kc2 :: kc3 :: kc4 :: .pointer (some ⟨p, 0, none⟩) :: kc6 :: .slice (some ⟨bT, 0, none⟩) TS.length ct :: kc8 :: kc9 :: .string x :: kc11 :: .int .i64 (y : Int) :: kc13 :: kc14 :: kc15 :: kc16 :: kc17 :: kc18 :: kc19 :: kc20 :: kc21 :: kc22 :: kc23 :: .bool (leftB B TS a.nm x TS.length) :: .int .i64 (TS.length : Int) :: kv26 :: kv27 :: kv28 :: kv29 :: kc30 :: kc31 :: kc32 :: kc33 :: kc34 :: kc35 :: kc36 :: kc37 :: kc38 :: kc39 :: kc40 :: kc41 :: kc42 :: kc43 :: kc44 :: kc45 :: kc46 :: kc47 :: kc48 :: kc49 :: kc50 :: kc51 :: kc52 :: kc53 :: kc54 :: kc55 :: kc56 :: kc57 :: kc58 :: kc59 :: kc60 :: kc61 :: kc62 :: kc63 :: kc64 :: kc65 :: kc66 :: kc67 :: kc68 :: kc69 :: kc70 :: kc71 :: kc72 :: kc73 :: kc74 :: kc75 :: kc76 :: kc77 :: kc78 :: kc79 :: kc80 :: kc81 :: kc82 :: kc83 :: kc84 :: kc85 :: kc86 :: kc87 :: kc88 :: kc89 :: kc90 :: kc91 :: kc92 :: kc93 :: kc94 :: kc95 :: kc96 :: kc97 :: kc98 :: kc99 :: kc100 :: kc101 :: kc102 :: kc103 :: kc104 :: kc105 :: kc106 :: kc107 :: kc108 :: kc109 :: kc110 :: kc111 :: kc112 :: kc113 :: kc114 :: kc115 :: kc116 :: kc117 :: kc118 :: kc119 :: kc120 :: kc121 :: kc122 :: kc123 :: kc124 :: kc125 :: kc126 :: kc127 :: kc128 :: kc129 :: kc130 :: kc131 :: kc132 :: kc133 :: kc134 :: kc135 :: kc136 :: kc137 :: kc138 :: kc139 :: kc140 :: kc141 :: kc142 :: kc143 :: kc144 :: kc145 :: kc146 :: kc147 :: kc148 :: kc149 :: kc150 :: kc151 :: kc152 :: kc153 :: kc154 :: kc155 :: kc156 :: kc157 :: kc158 :: kc159 :: kc160 :: kc161 :: kc162 :: kc163 :: kc164 :: kc165 :: kc166 :: kc167 :: kc168 :: kc169 :: kc170 :: kc171 :: kc172 :: kc173 :: kc174 :: kc175 :: kc176 :: kc177 :: kc178 :: kc179 :: kc180 :: kc181 :: kc182 :: kc183 :: kc184 :: kc185 :: kc186 :: kc187 :: kc188 :: kc189 :: kc190 :: kc191 :: kc192 :: kc193 :: kc194 :: kc195 :: kc196 :: kc197 :: kc198 :: kc199 :: kc200 :: kc201 :: kc202 :: kc203 :: kc204 :: kc205 :: kc206 :: kc207 :: kc208 :: kc209 :: kc210 :: kc211 :: kc212 :: kc213 :: kc214 :: kc215 :: kc216 :: kc217 :: kc218 :: kc219 :: kc220 :: kc221 :: kv222 :: kv223 :: kv224 :: kv225 :: kv226 :: kv227 :: kv228 :: kv229 :: kv230 :: kv231 :: kv232 :: kv233 :: kv234 :: kv235 :: kv236 :: kv237 :: kv238 :: kv239 :: kv240 :: kv241 :: kv242 :: kv243 :: kv244 :: kv245 :: kv246 :: kv247 :: kv248 :: kv249 :: kv250 :: kv251 :: kv252 :: kv253 :: kv254 :: kv255 :: kv256 :: kv257 :: kv258 :: kv259 :: kv260 :: kv261 :: kv262 :: kv263 :: kv264 :: kv265 :: kv266 :: kc267 :: kc268 :: kc269 :: kc270 :: kc271 :: kc272 :: kc273 :: kc274 :: kc275 :: kc276 :: kc277 :: kc278 :: kc279 :: kc280 :: kc281 :: kc282 :: []), []⟩ w2) :
    Code.wp Try.prog chl6C Q ⟨List.toArray (kc0 :: kc1 :: kc2 :: kc3 :: kc4 :: .pointer (some ⟨p, 0, none⟩) :: kc6 :: .slice (some ⟨bT, 0, none⟩) TS.length ct :: kc8 :: kc9 :: .string x :: kc11 :: .int .i64 (y : Int) :: kc13 :: kc14 :: kc15 :: kc16 :: kc17 :: kc18 :: kc19 :: kc20 :: kc21 :: kc22 :: kc23 :: .bool false :: .int .i64 0 :: ku26 :: ku27 :: ku28 :: ku29 :: kc30 :: kc31 :: kc32 :: kc33 :: kc34 :: kc35 :: kc36 :: kc37 :: kc38 :: kc39 :: kc40 :: kc41 :: kc42 :: kc43 :: kc44 :: kc45 :: kc46 :: kc47 :: kc48 :: kc49 :: kc50 :: kc51 :: kc52 :: kc53 :: kc54 :: kc55 :: kc56 :: kc57 :: kc58 :: kc59 :: kc60 :: kc61 :: kc62 :: kc63 :: kc64 :: kc65 :: kc66 :: kc67 :: kc68 :: kc69 :: kc70 :: kc71 :: kc72 :: kc73 :: kc74 :: kc75 :: kc76 :: kc77 :: kc78 :: kc79 :: kc80 :: kc81 :: kc82 :: kc83 :: kc84 :: kc85 :: kc86 :: kc87 :: kc88 :: kc89 :: kc90 :: kc91 :: kc92 :: kc93 :: kc94 :: kc95 :: kc96 :: kc97 :: kc98 :: kc99 :: kc100 :: kc101 :: kc102 :: kc103 :: kc104 :: kc105 :: kc106 :: kc107 :: kc108 :: kc109 :: kc110 :: kc111 :: kc112 :: kc113 :: kc114 :: kc115 :: kc116 :: kc117 :: kc118 :: kc119 :: kc120 :: kc121 :: kc122 :: kc123 :: kc124 :: kc125 :: kc126 :: kc127 :: kc128 :: kc129 :: kc130 :: kc131 :: kc132 :: kc133 :: kc134 :: kc135 :: kc136 :: kc137 :: kc138 :: kc139 :: kc140 :: kc141 :: kc142 :: kc143 :: kc144 :: kc145 :: kc146 :: kc147 :: kc148 :: kc149 :: kc150 :: kc151 :: kc152 :: kc153 :: kc154 :: kc155 :: kc156 :: kc157 :: kc158 :: kc159 :: kc160 :: kc161 :: kc162 :: kc163 :: kc164 :: kc165 :: kc166 :: kc167 :: kc168 :: kc169 :: kc170 :: kc171 :: kc172 :: kc173 :: kc174 :: kc175 :: kc176 :: kc177 :: kc178 :: kc179 :: kc180 :: kc181 :: kc182 :: kc183 :: kc184 :: kc185 :: kc186 :: kc187 :: kc188 :: kc189 :: kc190 :: kc191 :: kc192 :: kc193 :: kc194 :: kc195 :: kc196 :: kc197 :: kc198 :: kc199 :: kc200 :: kc201 :: kc202 :: kc203 :: kc204 :: kc205 :: kc206 :: kc207 :: kc208 :: kc209 :: kc210 :: kc211 :: kc212 :: kc213 :: kc214 :: kc215 :: kc216 :: kc217 :: kc218 :: kc219 :: kc220 :: kc221 :: ku222 :: ku223 :: ku224 :: ku225 :: ku226 :: ku227 :: ku228 :: ku229 :: ku230 :: ku231 :: ku232 :: ku233 :: ku234 :: ku235 :: ku236 :: ku237 :: ku238 :: ku239 :: ku240 :: ku241 :: ku242 :: ku243 :: ku244 :: ku245 :: ku246 :: ku247 :: ku248 :: ku249 :: ku250 :: ku251 :: ku252 :: ku253 :: ku254 :: ku255 :: ku256 :: ku257 :: ku258 :: ku259 :: ku260 :: ku261 :: ku262 :: ku263 :: ku264 :: ku265 :: ku266 :: kc267 :: kc268 :: kc269 :: kc270 :: kc271 :: kc272 :: kc273 :: kc274 :: kc275 :: kc276 :: kc277 :: kc278 :: kc279 :: kc280 :: kc281 :: kc282 :: []), []⟩ wr := by
  have HX := hide hexit
  clear hexit
  unfold chl6C
  conv => arg 2; whnf
  have HM := hide hM
  have Hch := hide hch
  have hyT := (List.getElem?_eq_some_iff.1 ha).1
  have hyT2 : (y : Int) < TS.length := by omega
  have Ha := hide ha
  have Hcl := hide hcl
  clear hM hch ha hcl
  go_loopw [24, 25] (fun o i wr => ∃ z : Nat, z ≤ TS.length ∧ i = .int .i64 z ∧ o = .bool (leftB B TS a.nm x z) ∧ Mem w' [X0, X1, .row base 59 8 (.slice (some ⟨bT, 0, none⟩) TS.length ct) TS.length (actsV TS), X3, .book B p L1] wr) (fun _ i _ => TS.length - (intOf i).toNat)
  case atStart => exact ⟨0, Nat.zero_le _, rfl, by unfold leftB; rw [List.take_zero]; rfl, HM.out⟩
  case round =>
    obtain ⟨z, hzm, rfl, rfl, hM⟩ := hrel
    clear HM
    have HM := hide hM
    clear hM
    by_cases hz : z < TS.length
    · have hz' : (z : Int) < TS.length := by omega
      obtain ⟨t, ht⟩ : ∃ t, TS[z]? = some t := ⟨_, List.getElem?_eq_getElem hz⟩
      have hls := leftB_succ (B := B) (nm := a.nm) (x := x) ht
      obtain ⟨hc1, hc2⟩ := Hch.out z t ht
      have hc3 := Hcl.out t.pr
      have Ht := hide ht
      clear ht
      obtain ⟨C, hC⟩ : ∃ C, chainT B t.pr = C := ⟨_, rfl⟩
      rw [hC] at hls hc1 hc2 hc3
      clear hC
      obtain ⟨lf, hlf⟩ : ∃ lf, leftB B TS a.nm x z = lf := ⟨_, rfl⟩
      rw [hlf] at hls ⊢
      clear hlf
      have Hls := hide hls
      clear hls
      have hct := chain_call (Mem.book_ HM.out 4 rfl) hc1 hc2
      clear hc1
      unfold ptrB at hct
      go_wp2_with fail
      refine hct.mono ?_
      clear hct
      rintro e w4 ⟨bO, c1, curO, rfl, hb1, hbO, hbl, hcs⟩
      have HM1 := hide (HM.out.add (t := .blk bO 9 curO) hb1 hbO (fun k hk => by rw [List.mem_singleton.1 hk]; exact hbl))
      clear HM hb1 hbO hbl
      have HM := HM1
      clear HM1
      have Hcs := hide hcs
      clear hcs
      go_wp2_with fail
      refine chl7 C x bO c1 curO w' [X0, X1, .row base 59 8 (.slice (some ⟨bT, 0, none⟩) TS.length ct) TS.length (actsV TS), X3, .book B p L1] Hcs.out hc3 HM.out ?_
      clear HM
      intro kv234 kv235 kv236 kv237 kv238 kv239 kv240 kv241 kv242 kv243 kv244 kv245 kv246 kv247 kv248
      intro w5 hM
      have HM := hide hM
      clear hM
      obtain ⟨vd, hvd⟩ : ∃ vd, memB C x = vd := ⟨_, rfl⟩
      rw [hvd] at Hls ⊢
      clear hvd
      obtain ⟨bT', hA, ltT, q0, q1, q2, q3, q4, q5, q6, q7⟩ := row_acts (Mem.row_ HM.out 3 rfl) rfl Ht.out
      cases hA
      clear q0 q2 q3 q4 q5 q6 q7
      obtain ⟨bT'', hA, -, q0, p1, q2, q3, q4, q5, q6, q7⟩ := row_acts (Mem.row_ HM.out 3 rfl) rfl Ha.out
      cases hA
      clear q0 q2 q3 q4 q5 q6 q7
      cases lf with
      | true =>
        go_wp2_with fail
        go_quiet (fail)
        have hL : Below w5.heap.size w5 (w5.drewN nq) := below_drewN (Below.refl _ _) _
        generalize (w5.drewN nq : World) = w6 at hL ⊢
        clear q1 p1 ltT
        replace HM := hide (HM.out.later hL)
        clear hL
        go_wp2_with fail
        go_roundw
        case rel => exact ⟨z + 1, hz, by go_num, by rw [Hls.out]; rfl, HM.out.tail⟩
        case measure => simp [intOf] <;> omega
      | false =>
        by_cases hn : t.nm = a.nm
        · have heq : (t.nm.toList == a.nm.toList) = true := by rw [hn]; exact beq_self_eq_true _
          cases vd with
          | true =>
            go_wp2_with fail
            go_quiet (fail)
            have hL : Below w5.heap.size w5 (w5.drewN nq) := below_drewN (Below.refl _ _) _
            generalize (w5.drewN nq : World) = w6 at hL ⊢
            clear q1 p1 ltT
            replace HM := hide (HM.out.later hL)
            clear hL
            go_wp2_with fail
            go_roundw
            case rel => exact ⟨z + 1, hz, by go_num, by rw [Hls.out]; simp [hn], HM.out.tail⟩
            case measure => simp [intOf] <;> omega
          | false =>
            go_wp2_with fail
            go_quiet (fail)
            have hL : Below w5.heap.size w5 (w5.drewN nq) := below_drewN (Below.refl _ _) _
            generalize (w5.drewN nq : World) = w6 at hL ⊢
            clear q1 p1 ltT
            replace HM := hide (HM.out.later hL)
            clear hL
            go_wp2_with fail
            go_roundw
            case rel => exact ⟨z + 1, hz, by go_num, by rw [Hls.out]; simp [hn], HM.out.tail⟩
            case measure => simp [intOf] <;> omega
        · have heq : (t.nm.toList == a.nm.toList) = false := toList_bne hn
          go_wp2_with fail
          go_quiet (fail)
          have hL : Below w5.heap.size w5 (w5.drewN nq) := below_drewN (Below.refl _ _) _
          generalize (w5.drewN nq : World) = w6 at hL ⊢
          clear q1 p1 ltT
          replace HM := hide (HM.out.later hL)
          clear hL
          go_wp2_with fail
          go_roundw
          case rel => exact ⟨z + 1, hz, by go_num, by rw [Hls.out]; simp [hn], HM.out.tail⟩
          case measure => simp [intOf] <;> omega
    · obtain rfl : z = TS.length := by omega
      have hjj : ¬ ((TS.length : Int) < TS.length) := by omega
      go_wp2_with fail
      exact HX.out HM.out
end Go.Proofs.Ytiggefmckomilaa
namespace Go.Proofs.Ytiggefmckomilaa
open Go Go.RowKit

set_option maxHeartbeats 8000000 in
set_option maxRecDepth 100000 in
theorem TraceChains_any (ac : Nat → ActR) (A : Option Addr) (n c : Nat) (ou : Int) (w : World) (hrow : Rows_ w w.heap.size A n 8 (fun i => actL (ac i))) (hok : ∀ i, ActOk (ac i)) (hn : n ≤ maxLen) (h0 : 0 ≤ ou) (h255 : ou ≤ 255) :
    Calls Try.prog 9 #[.slice A n c, .int .u8 ou] w fun e w' => e = .returned (.bool true) ∧ Below w.heap.size w w' := by
  have hn63 : (n : Int) ≤ 9223372036854775807 := by unfold maxLen at hn; omega
  have hsm := small_any ac A n c 40 w hrow hok hn (by decide)
  obtain ⟨sb, hsb⟩ : ∃ b, smallB ac n 40 = b := ⟨_, rfl⟩
  rw [hsb] at hsm
  rw [show (((40 : Nat) : Int)) = 40 from rfl] at hsm
  cases sb with
  | false =>
    go_enter Try.func9, Try.ntmps9
    have HB := hide (Below.refl w.heap.size w)
    go_wp2_with fail
    refine hsm.mono ?_
    rintro e w' ⟨rfl, rfl⟩
    go_wp2_with fail
    refine (works_any _).mono ?_
    rintro e w2 ⟨rfl, hb⟩
    replace HB := hide (onward HB.out hb)
    clear hb
    go_wp2
    go_ret
    exact ⟨rfl, HB.out⟩
  | true =>
    have hn40 := (smallB_iff.1 hsb).1
    have Hrow := hide hrow
    have Hok := hide hok
    clear hrow hok
    clear hsb
    go_enter Try.func9, Try.ntmps9
    have HM := hide (Mem.start w)
    go_wp2_with fail
    refine hsm.mono ?_
    rintro e w' ⟨rfl, rfl⟩
    clear hsm
    go_wp2_with fail
    refine (New_any _).mono ?_
    rintro e w1 ⟨p, L, rfl, hb, hB, hL⟩
    have HM1 := hide (((HM.out.add (t := .book [] p L) hB hb hL).nilRow w'.heap.size 59 8).nilRow w'.heap.size 59 8)
    clear HM hb hB hL
    have HM := HM1
    clear HM1
    unfold ptrB
    go_wp2_with fail
    refine chl1 ac A n c p L w' Hrow.out Hok.out hn40 HM.out ?_
    clear HM
    intro kv9 kv35 kv36 kv37 kv38 kv39 kv40 kv41 kv42 kv43 kv44 kv45 kv46 kv47 kv48 kv49 kv50 kv51 kv52 kv53 kv54 kv55 kv56 kv57 kv58 kv59 kv60 kv61 kv62 kv63 kv64 kv65 kv66 kv67 kv68 kv69 kv70 kv71 kv72 kv73 kv74 kv75 kv76 kv77
    intro sv tv L1 wr hM
    have HM := hide hM
    clear hM
    obtain ⟨At, ct, rfl⟩ := own_shape2 (Mem.row_ HM.out 0 rfl)
    obtain ⟨As, cs, rfl⟩ := own_shape2 (Mem.row_ HM.out 1 rfl)
    obtain ⟨g1, g2, g3, g4, -, -, g7, -, -, -⟩ := ordI ac n (by omega)
    have hdl := def_len ac n
    have hds := fun a h => def_std (ac := ac) (k := n) g1 a h
    have hdo : ∀ a ∈ defA ac n, ActOk a := fun a ha => by obtain ⟨z, rfl⟩ := def_mem ha; exact Hok.out z
    have hto : ∀ a ∈ tstA ac n, ActOk a := fun a ha => by obtain ⟨z, rfl⟩ := tst_mem ha; exact Hok.out z
    have hwd := g3.wd
    obtain ⟨B, hB⟩ : ∃ B, ordB ac n = B := ⟨_, rfl⟩
    obtain ⟨TS, hTS⟩ : ∃ TS, tstA ac n = TS := ⟨_, rfl⟩
    obtain ⟨SS, hSS⟩ : ∃ SS, defA ac n = SS := ⟨_, rfl⟩
    rw [hB] at g1 g2 g4 hds hwd HM
    rw [hTS] at g4 g7 hto HM ⊢
    rw [hSS] at hdl hds hdo HM ⊢
    clear g3 hB hTS hSS
    have Hg := hide g1
    have Ht := hide g4
    have Hds := hide hds
    have Hdo := hide hdo
    have Hto := hide hto
    have Hwd := hide hwd
    clear g1 g4 hds hdo hto hwd
    by_cases hm0 : SS.length = 0
    · have hm0' : (SS.length : Int) = 0 := by omega
      go_wp2_with fail
      refine (works_any _).mono ?_
      rintro e w2 ⟨rfl, hb⟩
      replace HM := hide (HM.out.later hb)
      clear hb
      go_wp2
      go_ret
      exact ⟨rfl, HM.out.below⟩
    · have hmi : ¬ (SS.length : Int) = 0 := by omega
      have hmi2 : decide ((SS.length : Int) = 0) = false := decide_eq_false hmi
      obtain ⟨y, hy⟩ : ∃ y : Int, ou.tmod (SS.length : Int) = y := ⟨_, rfl⟩
      have hyb : 0 ≤ y ∧ y < SS.length := by
        rw [← hy, Int.tmod_eq_emod_of_nonneg h0]
        exact ⟨Int.emod_nonneg _ hmi, Int.emod_lt_of_pos _ (by omega)⟩
      obtain ⟨j, rfl⟩ : ∃ j : Nat, y = (j : Int) := ⟨y.toNat, by omega⟩
      obtain ⟨sx, hx⟩ : ∃ x, SS[j]? = some x := ⟨_, List.getElem?_eq_getElem (by omega)⟩
      have hxm := (Hdo.out sx (List.mem_of_getElem? hx)).nm
      have hsx := Hds.out sx (List.mem_of_getElem? hx)
      obtain ⟨bS, hA, ltS, q0, q1, q2, q3, q4, q5, q6, q7⟩ := row_acts (Mem.row_ HM.out 1 rfl) rfl hx
      subst hA
      obtain ⟨x, hxn⟩ : ∃ x, sx.nm = x := ⟨_, rfl⟩
      rw [hxn] at q1 hxm hsx
      clear q0 q2 q3 q4 q5 q6 q7 hx hxn
      go_wp2_with fail
      clear q1 ltS
      have hcp := Copy_any B p L1 wr (Mem.book_ HM.out 2 rfl)
      unfold ptrB at hcp
      refine hcp.mono ?_
      clear hcp
      rintro e w2 ⟨q, rfl, Lq, hbq, hBq, hLq⟩
      have HM1 := hide (HM.out.add (t := .book B q Lq) hBq hbq hLq)
      clear HM hbq hBq hLq
      have HM := HM1
      clear HM1
      go_wp2_with fail
      have c2 := Withdraw_any B q Lq x w2 (Mem.book_ HM.out 0 rfl) hxm
      rw [show turnE B x true = 0 by
        unfold turnE
        rw [if_neg (by omega), hsx, Hwd.out]
        rfl] at c2
      unfold ptrB at c2
      refine c2.mono ?_
      clear c2 hsx
      rintro e w3 ⟨rfl, hp⟩
      obtain ⟨Lc, HMn⟩ := HM.out.enter 0 rfl hp
      replace HM := hide HMn
      clear HMn hp
      rw [if_pos rfl] at HM
      go_wp2_with fail
      go_loopw [12] (fun i wr => ∃ y : Nat, y ≤ TS.length ∧ i = .int .i64 y ∧ Mem w' [.book (.turn x true :: B) q Lc, .row w'.heap.size 59 8 (.slice At TS.length ct) TS.length (actsV TS), .row w'.heap.size 59 8 (.slice (some ⟨bS, 0, none⟩) SS.length cs) SS.length (actsV SS), .book B p L1] wr) (fun i _ => TS.length - (intOf i).toNat)
      case atStart => exact ⟨0, Nat.zero_le _, rfl, HM.out⟩
      case round =>
        obtain ⟨y, hym, rfl, hM⟩ := hrel
        clear HM
        have HM := hide hM
        clear hM
        by_cases hyl : y < TS.length
        · have hyl' : (y : Int) < TS.length := by omega
          obtain ⟨a, ha⟩ : ∃ a, TS[y]? = some a := ⟨_, List.getElem?_eq_getElem hyl⟩
          obtain ⟨hch, hin, htin⟩ := chain_test Hg.out Ht.out ha
          obtain ⟨⟨d0, hd0⟩, -, -, s0, hs0, -⟩ := htin
          have hao := (Hto.out a (List.mem_of_getElem? ha)).nm
          have hge := gain_empty (x := x) (nm := a.nm) Hg.out Hwd.out Ht.out ⟨d0, hd0⟩
          have hcd := fun j m h => chainDrop (n := a.pr) Hg.out ⟨s0, hs0⟩ j m h
          have hcn := fun (j : Nat) (s : Std) h1 h2 => chainNext (n := a.pr) (j := j) (s := s) Hg.out ⟨s0, hs0⟩ h1 h2
          have hmi3 := fun z => met_in (x := z) Hg.out hin
          have hcl : (chainT B a.pr).length ≤ B.length := chainLen
          have hc0 : (chainT B a.pr)[0]? = some a.pr := by rw [chain_step Hg.out (show stdT B a.pr = some s0 from hs0)]; rfl
          have hpr : (tstOf a).std = a.pr := rfl
          rw [hpr] at hmi3
          obtain ⟨C, hC⟩ : ∃ C, chainT B a.pr = C := ⟨_, rfl⟩
          rw [hC] at hch hcd hcn hmi3 hcl hc0
          have hc1 : 0 < C.length := (List.getElem?_eq_some_iff.1 hc0).1
          have Ha := hide ha
          clear hd0 hs0 hC hin hpr ha
          have hct := chain_call (Mem.book_ HM.out 3 rfl) hch hc1
          clear hch
          have Hge := hide hge
          have Hcd := hide hcd
          have Hcn := hide hcn
          have Hmi := hide hmi3
          clear hge hcd hcn hmi3
          unfold ptrB at hct
          go_wp2_with fail
          refine hct.mono ?_
          clear hct
          rintro e w4 ⟨bC, c1, curC, rfl, hb1, hbC, hbl, hcs⟩
          have HM1 := hide (HM.out.add (t := .blk bC 9 curC) hb1 hbC (fun k hk => by rw [List.mem_singleton.1 hk]; exact hbl))
          clear HM hb1 hbC hbl
          have HM := HM1
          clear HM1
          have hcz : ¬ (C.length : Int) = 0 := by omega
          have hcz2 : decide ((C.length : Int) = 0) = false := decide_eq_false hcz
          have hcz3 : ¬ C = [] := fun e => by rw [e] at hc1; cases hc1
          have y0 := (Mem.blk_ HM.out 0 rfl).c 0 (hcs 0 _ hc0)
          have lty := (Mem.blk_ HM.out 0 rfl).lt
          have Hcs := hide hcs
          clear hcs
          obtain ⟨bT, hA, ltT, q0, q1, q2, q3, q4, q5, q6, q7⟩ := row_acts (Mem.row_ HM.out 2 rfl) rfl Ha.out
          subst hA
          clear q0 q1 q3 q4 q5 q6 q7
          have heq : (a.pr.toList == a.pr.toList) = true := beq_self_eq_true _
          go_wp2_with fail
          go_quiet (fail)
          have hL : Below w4.heap.size w4 (w4.drewN nq) := below_drewN (Below.refl _ _) _
          generalize (w4.drewN nq : World) = w5 at hL ⊢
          clear y0 lty q2 ltT heq
          replace HM := hide (HM.out.later hL)
          clear hL
          go_wp2_with fail
          have hch : ∀ (z : Nat) (t : ActR), TS[z]? = some t → chainA B (z : Int) = (chainT B t.pr, 0) ∧ 0 < (chainT B t.pr).length := fun z t hz => by
            obtain ⟨k1, -, k3⟩ := chain_test Hg.out Ht.out hz
            obtain ⟨-, -, -, s1, hs1, -⟩ := k3
            exact ⟨k1, by rw [chain_step Hg.out (show stdT B t.pr = some s1 from hs1)]; simp⟩
          refine chl3 B SS C y p w'.heap.size bS cs bC c1 curC L1 _ _ w' (fun a ha => ⟨Hds.out a ha, (Hdo.out a ha).nm⟩) Hcs.out Hcn.out Hmi.out (by omega) (by omega) (by omega) (by omega) HM.out ?_
          clear HM
          intro kv4 kv16 kv17 kv18 kv19 kv20 kv21 kv22 kv23 kv131 kv132 kv133 kv134 kv135 kv136 kv137 kv138 kv139 kv140 kv141 kv142 kv143 kv144 kv145 kv146 kv147 kv148 kv149 kv150 kv151 kv152 kv153 kv154 kv155 kv156 kv157 kv158 kv159 kv160 kv161 kv162 kv163 kv164 kv165 kv166 kv167 kv168 kv169 kv170 kv171 kv172 kv173 kv174 kv175 kv176 kv177 kv178 kv179 kv180 kv181 kv182 kv183 kv184 kv185 kv186 kv187 kv188 kv189 kv190 kv191 kv192 kv193 kv194 kv195 kv196 kv197 kv198 kv199 kv200 kv201 kv202 kv203 kv204 kv205 kv206 kv207 kv208 kv209 kv210 kv211 kv212 kv213 kv214 kv215 kv216 kv217 kv218 kv219 kv220 kv221
          intro w6 hM
          have HM := hide hM
          clear hM
          go_wp2_with fail
          refine chl6 B TS a x y p w'.heap.size bT ct L1 _ _ _ w' hch (fun n => Nat.le_trans chainLen (by omega)) (by omega) Ha.out (by omega) HM.out ?_
          clear HM hch
          intro kv26 kv27 kv28 kv29 kv222 kv223 kv224 kv225 kv226 kv227 kv228 kv229 kv230 kv231 kv232 kv233 kv234 kv235 kv236 kv237 kv238 kv239 kv240 kv241 kv242 kv243 kv244 kv245 kv246 kv247 kv248 kv249 kv250 kv251 kv252 kv253 kv254 kv255 kv256 kv257 kv258 kv259 kv260 kv261 kv262 kv263 kv264 kv265 kv266
          intro w7 hM
          have HM := hide hM
          clear hM
          have hge := Hge.out
          obtain ⟨lf, hlf⟩ : ∃ lf, leftB B TS a.nm x TS.length = lf := ⟨_, rfl⟩
          rw [hlf] at hge ⊢
          clear hlf
          have hgc := Gain_any (.turn x true :: B) q Lc a.nm 0 w7 (Mem.book_ HM.out 1 rfl) hao
          obtain ⟨G, hG⟩ : ∃ G, gainE (.turn x true :: B) a.nm 0 = G := ⟨_, rfl⟩
          rw [hG] at hge hgc
          clear hG
          obtain ⟨⟨ga, gb⟩, ⟨gi, gj⟩, ge⟩ := G
          simp only at hge
          unfold gainV ptrB at hgc
          obtain ⟨bT', hA, ltT, q0, q1, q2, q3, q4, q5, q6, q7⟩ := row_acts (Mem.row_ HM.out 2 rfl) rfl Ha.out
          cases hA
          clear q0 q2 q3 q4 q5 q6 q7
          go_wp2_with fail
          refine (hgc).mono ?_
          rintro e w8 ⟨rfl, hb⟩
          replace HM := hide (HM.out.later hb)
          clear hb
          clear hgc q1 ltT
          cases lf with
          | true =>
            have hg0 : ¬ ge = 18 := by simpa using hge
            clear hge
            go_wp2_with fail
            go_roundw
            case rel => exact ⟨y + 1, hyl, by go_num, HM.out.tail⟩
            case measure => simp [intOf] <;> omega
          | false =>
            have hg0 : ge = 18 := by simpa using hge
            subst hg0
            clear hge
            go_wp2_with fail
            go_roundw
            case rel => exact ⟨y + 1, hyl, by go_num, HM.out.tail⟩
            case measure => simp [intOf] <;> omega
        · obtain rfl : y = TS.length := by omega
          go_wp2_with fail
          refine (works_any _).mono ?_
          rintro e w9 ⟨rfl, hb⟩
          replace HM := hide (HM.out.later hb)
          clear hb
          go_wp2
          go_ret
          exact ⟨rfl, HM.out.below⟩
end Go.Proofs.Ytiggefmckomilaa
