/-
  The law TopGauged: its first loop (the readings).
-/
import Derived.Test.YtjkelpelmljanaaGauDefs
import Derived.Deep.Cut
import Derived.BigQuiet
set_option linter.unusedSimpArgs false
set_option linter.unusedVariables false
namespace Go.Proofs.Ytjkelpelmljanaa
open Go Go.RowKit

set_option maxRecDepth 1000000 in
noncomputable def gl1C : Code := ((loopsOf ((Try.f3.body).getD .skip))[0]?).getD .skip
set_option maxHeartbeats 8000000 in
set_option maxRecDepth 1000000 in
theorem gl1 {kc0 ku2 kc4 kc7 kc8 kc9 ku14 ku15 ku16 ku17 ku18 ku19 ku20 ku21 ku22 ku23 kc24 kc25 kc26 kc27 kc28 kc29 kc30 kc31 kc32 kc33 kc34 kc35 kc36 kc37 kc38 kc39 kc40 kc41 kc42 kc43 kc44 kc45 kc46 kc47 kc48 kc49 kc50 kc51 kc52 kc53 kc54 kc55 kc56 kc57 kc58 kc59 kc60 kc61 kc62 kc63 kc64 kc65 kc66 kc67 kc68 kc69 kc70 kc71 kc72 kc73 kc74 kc75 kc76 kc77 kc78 kc79 kc80 kc81 kc82 kc83 kc84 kc85 kc86 kc87 kc88 kc89 kc90 kc91 kc92 kc93 kc94 kc95 kc96 kc97 kc98 kc99 kc100 kc101 kc102 kc103 kc104 kc105 kc106 kc107 kc108 kc109 kc110 kc111 kc112 kc113 kc114 kc115 kc116 kc117 kc118 kc119 kc120 kc121 kc122 kc123 kc124 kc125 kc126 kc127 kc128 kc129 kc130 ku131 ku132 ku133 ku134 ku135 ku136 ku137 ku138 ku139 ku140 ku141 ku142 ku143 ku144 ku145 ku146 ku147 ku148 ku149 ku150 ku151 ku152 ku153 ku154 ku155 ku156 ku157 ku158 ku159 ku160 ku161 ku162 ku163 ku164 ku165 ku166 ku167 ku168 ku169 ku170 ku171 ku172 ku173 ku174 ku175 ku176 ku177 ku178 ku179 ku180 ku181 ku182 ku183 ku184 ku185 ku186 ku187 ku188 ku189 ku190 ku191 ku192 ku193 ku194 ku195 ku196 ku197 ku198 ku199 ku200 ku201 ku202 ku203 ku204 ku205 ku206 ku207 ku208 ku209 ku210 ku211 ku212 ku213 ku214 ku215 ku216 ku217 ku218 ku219 ku220 ku221 ku222 ku223 ku224 ku225 ku226 ku227 ku228 ku229 ku230 ku231 ku232 ku233 ku234 ku235 ku236 ku237 ku238 ku239 ku240 ku241 ku242 ku243 ku244 ku245 ku246 ku247 ku248 ku249 ku250 ku251 ku252 ku253 ku254 ku255 ku256 ku257 ku258 ku259 ku260 ku261 ku262 ku263 ku264 ku265 ku266 ku267 ku268 ku269 ku270 ku271 kc272 kc273 kc274 kc275 kc276 kc277 kc278 kc279 kc280 kc281 kc282 kc283 kc284 kc285 kc286 kc287 kc288 kc289 kc290 kc291 kc292 kc293 kc294 kc295 kc296 kc297 kc298 kc299 kc300 kc301 kc302 kc303 kc304 kc305 kc306 kc307 kc308 kc309 kc310 kc311 kc312 kc313 kc314 kc315 kc316 kc317 kc318 kc319 kc320 kc321 kc322 kc323 kc324 kc325 kc326 kc327 kc328 kc329 kc330 kc331 kc332 kc333 kc334 kc335 kc336 kc337 kc338 kc339 kc340 kc341 kc342 kc343 kc344 kc345 kc346 kc347 kc348 kc349 kc350 kc351 kc352 : Value} (x : Gd) (hx : GdOk x) (pace : Int) (hp0 : 1 ≤ pace) (hp1 : pace ≤ 600) (zp : List Int) (l : List (Int × Int)) (hc : chk l 1000000 = 0) (a : GArg) (w : World) (hI : Ints w w.heap.size .u32 a.Ap zp) (hzb : ∀ k, 0 ≤ zp.getD k 0 ∧ zp.getD k 0 ≤ 4294967295) (hz : zp.length = a.np) (hn6 : a.np ≤ 6) (hl : Ints w w.heap.size .i64 a.Ar (flat2 l)) (hln : l.length = a.nr) (hnr : a.nr ≤ 9223372036854775807) (p g0 gS : Nat) (L : Lay) (sc : Array Value) {Q : Exit → Act → World → Prop} {wr : World} (hM : Mem w [.row w.heap.size 52 3 (.slice none 0 0) 0 [], .blk gS 37 sc, .book (bkG x) p L, .blk g0 28 (gcells a)] wr)
    (hexit : ∀ ⦃kv2 kv14 kv15 kv16 kv17 kv18 kv19 kv20 kv21 kv22 kv23 kv131 kv132 kv133 kv134 kv135 kv136 kv137 kv138 kv139 kv140 kv141 kv142 kv143 kv144 kv145 kv146 kv147 kv148 kv149 kv150 kv151 kv152 kv153 kv154 kv155 kv156 kv157 kv158 kv159 kv160 kv161 kv162 kv163 kv164 kv165 kv166 kv167 kv168 kv169 kv170 kv171 kv172 kv173 kv174 kv175 kv176 kv177 kv178 kv179 kv180 kv181 kv182 kv183 kv184 kv185 kv186 kv187 kv188 kv189 kv190 kv191 kv192 kv193 kv194 kv195 kv196 kv197 kv198 kv199 kv200 kv201 kv202 kv203 kv204 kv205 kv206 kv207 kv208 kv209 kv210 kv211 kv212 kv213 kv214 kv215 kv216 kv217 kv218 kv219 kv220 kv221 kv222 kv223 kv224 kv225 kv226 kv227 kv228 kv229 kv230 kv231 kv232 kv233 kv234 kv235 kv236 kv237 kv238 kv239 kv240 kv241 kv242 kv243 kv244 kv245 kv246 kv247 kv248 kv249 kv250 kv251 kv252 kv253 kv254 kv255 kv256 kv257 kv258 kv259 kv260 kv261 kv262 kv263 kv264 kv265 kv266 kv267 kv268 kv269 kv270 kv271 : Value⦄ ⦃rv : Value⦄ ⦃w2 : World⦄, RdOk pace (fG x pace zp l) (tG zp l) a.np ∧ Mem w [.row w.heap.size 52 3 rv a.np ((rdG pace (fG x pace zp l) a.np).map (Value.int .i64)), .blk gS 37 sc, .book (bkG x) p L, .blk g0 28 (gcells a)] w2 → Q (.exit 0) ⟨List.toArray (kc0 :: .pointer (some ⟨g0, 0, none⟩) :: kv2 :: .int .i64 x.g :: kc4 :: .int .i64 pace :: ptrB p :: kc7 :: kc8 :: kc9 :: rv :: .int .i64 (leG pace (tG zp l) a.np) :: .int .i64 (moG pace (tG zp l) a.np) :: .int .i64 (a.np : Int) :: kv14 :: kv15 :: kv16 :: kv17 :: kv18 :: kv19 :: kv20 :: kv21 :: kv22 :: kv23 :: kc24 :: kc25 :: kc26 :: kc27 :: kc28 :: kc29 :: kc30 :: kc31 :: kc32 :: kc33 :: kc34 :: kc35 :: kc36 :: kc37 :: kc38 :: kc39 :: kc40 :: kc41 :: kc42 :: kc43 :: kc44 :: kc45 :: kc46 :: kc47 :: kc48 :: kc49 :: kc50 :: kc51 :: kc52 :: kc53 :: kc54 :: kc55 :: kc56 :: kc57 :: kc58 :: kc59 :: kc60 :: kc61 :: kc62 :: kc63 :: kc64 :: kc65 :: kc66 :: kc67 :: kc68 :: kc69 :: kc70 :: kc71 :: kc72 :: kc73 :: kc74 :: kc75 :: kc76 :: kc77 :: kc78 :: kc79 :: kc80 :: kc81 :: kc82 :: kc83 :: kc84 :: kc85 :: kc86 :: kc87 :: kc88 :: kc89 :: kc90 :: kc91 :: kc92 :: kc93 :: kc94 :: kc95 :: kc96 :: kc97 :: kc98 :: kc99 :: kc100 :: kc101 :: kc102 :: kc103 :: kc104 :: kc105 :: kc106 :: kc107 :: kc108 :: kc109 :: kc110 :: kc111 :: kc112 :: kc113 :: kc114 :: kc115 :: kc116 :: kc117 :: kc118 :: kc119 :: kc120 :: kc121 :: kc122 :: kc123 :: kc124 :: kc125 :: kc126 :: kc127 :: kc128 :: kc129 :: kc130 :: kv131 :: kv132 :: kv133 :: kv134 :: kv135 :: kv136 :: kv137 :: kv138 :: kv139 :: kv140 :: kv141 :: kv142 :: kv143 :: kv144 :: kv145 :: kv146 :: kv147 :: kv148 :: kv149 :: kv150 :: kv151 :: kv152 :: kv153 :: kv154 :: kv155 :: kv156 :: kv157 :: kv158 :: kv159 :: kv160 :: kv161 :: kv162 :: kv163 :: kv164 :: kv165 :: kv166 :: kv167 :: kv168 :: kv169 :: kv170 :: kv171 :: kv172 :: kv173 :: kv174 :: kv175 :: kv176 :: kv177 :: kv178 :: kv179 :: kv180 :: kv181 :: kv182 :: kv183 :: kv184 :: kv185 :: kv186 :: kv187 :: kv188 :: kv189 :: kv190 :: kv191 :: kv192 :: kv193 :: kv194 :: kv195 :: kv196 :: kv197 :: kv198 :: kv199 :: kv200 :: kv201 :: kv202 :: kv203 :: kv204 :: kv205 :: kv206 :: kv207 :: kv208 :: kv209 :: kv210 :: kv211 :: kv212 :: kv213 :: kv214 :: kv215 :: kv216 :: kv217 :: kv218 :: kv219 :: kv220 :: kv221 :: kv222 :: kv223 :: kv224 :: kv225 :: kv226 :: kv227 :: kv228 :: kv229 :: kv230 :: kv231 :: kv232 :: kv233 :: kv234 :: kv235 :: kv236 :: kv237 :: kv238 :: kv239 :: kv240 :: kv241 :: kv242 :: kv243 :: kv244 :: kv245 :: kv246 :: kv247 :: kv248 :: kv249 :: kv250 :: kv251 :: kv252 :: kv253 :: kv254 :: kv255 :: kv256 :: kv257 :: kv258 :: kv259 :: kv260 :: kv261 :: kv262 :: kv263 :: kv264 :: kv265 :: kv266 :: kv267 :: kv268 :: kv269 :: kv270 :: kv271 :: kc272 :: kc273 :: kc274 :: kc275 :: kc276 :: kc277 :: kc278 :: kc279 :: kc280 :: kc281 :: kc282 :: kc283 :: kc284 :: kc285 :: kc286 :: kc287 :: kc288 :: kc289 :: kc290 :: kc291 :: kc292 :: kc293 :: kc294 :: kc295 :: kc296 :: kc297 :: kc298 :: kc299 :: kc300 :: kc301 :: kc302 :: kc303 :: kc304 :: kc305 :: kc306 :: kc307 :: kc308 :: kc309 :: kc310 :: kc311 :: kc312 :: kc313 :: kc314 :: kc315 :: kc316 :: kc317 :: kc318 :: kc319 :: kc320 :: kc321 :: kc322 :: kc323 :: kc324 :: kc325 :: kc326 :: kc327 :: kc328 :: kc329 :: kc330 :: kc331 :: kc332 :: kc333 :: kc334 :: kc335 :: kc336 :: kc337 :: kc338 :: kc339 :: kc340 :: kc341 :: kc342 :: kc343 :: kc344 :: kc345 :: kc346 :: kc347 :: kc348 :: kc349 :: kc350 :: kc351 :: kc352 :: []), []⟩ w2)
    (hret : ∀ ⦃ra : Act⦄ ⦃w2 : World⦄, (results Try.f3 ra.tmps).run Try.prog w2 = .ok (.bool true) w2 → ra.defers = [] → (Below w.heap.size w w2) → Q .ret ra w2) :
    Code.wp Try.prog gl1C Q ⟨List.toArray (kc0 :: .pointer (some ⟨g0, 0, none⟩) :: ku2 :: .int .i64 x.g :: kc4 :: .int .i64 pace :: ptrB p :: kc7 :: kc8 :: kc9 :: .slice none 0 0 :: .int .i64 0 :: .int .i64 0 :: .int .i64 0 :: ku14 :: ku15 :: ku16 :: ku17 :: ku18 :: ku19 :: ku20 :: ku21 :: ku22 :: ku23 :: kc24 :: kc25 :: kc26 :: kc27 :: kc28 :: kc29 :: kc30 :: kc31 :: kc32 :: kc33 :: kc34 :: kc35 :: kc36 :: kc37 :: kc38 :: kc39 :: kc40 :: kc41 :: kc42 :: kc43 :: kc44 :: kc45 :: kc46 :: kc47 :: kc48 :: kc49 :: kc50 :: kc51 :: kc52 :: kc53 :: kc54 :: kc55 :: kc56 :: kc57 :: kc58 :: kc59 :: kc60 :: kc61 :: kc62 :: kc63 :: kc64 :: kc65 :: kc66 :: kc67 :: kc68 :: kc69 :: kc70 :: kc71 :: kc72 :: kc73 :: kc74 :: kc75 :: kc76 :: kc77 :: kc78 :: kc79 :: kc80 :: kc81 :: kc82 :: kc83 :: kc84 :: kc85 :: kc86 :: kc87 :: kc88 :: kc89 :: kc90 :: kc91 :: kc92 :: kc93 :: kc94 :: kc95 :: kc96 :: kc97 :: kc98 :: kc99 :: kc100 :: kc101 :: kc102 :: kc103 :: kc104 :: kc105 :: kc106 :: kc107 :: kc108 :: kc109 :: kc110 :: kc111 :: kc112 :: kc113 :: kc114 :: kc115 :: kc116 :: kc117 :: kc118 :: kc119 :: kc120 :: kc121 :: kc122 :: kc123 :: kc124 :: kc125 :: kc126 :: kc127 :: kc128 :: kc129 :: kc130 :: ku131 :: ku132 :: ku133 :: ku134 :: ku135 :: ku136 :: ku137 :: ku138 :: ku139 :: ku140 :: ku141 :: ku142 :: ku143 :: ku144 :: ku145 :: ku146 :: ku147 :: ku148 :: ku149 :: ku150 :: ku151 :: ku152 :: ku153 :: ku154 :: ku155 :: ku156 :: ku157 :: ku158 :: ku159 :: ku160 :: ku161 :: ku162 :: ku163 :: ku164 :: ku165 :: ku166 :: ku167 :: ku168 :: ku169 :: ku170 :: ku171 :: ku172 :: ku173 :: ku174 :: ku175 :: ku176 :: ku177 :: ku178 :: ku179 :: ku180 :: ku181 :: ku182 :: ku183 :: ku184 :: ku185 :: ku186 :: ku187 :: ku188 :: ku189 :: ku190 :: ku191 :: ku192 :: ku193 :: ku194 :: ku195 :: ku196 :: ku197 :: ku198 :: ku199 :: ku200 :: ku201 :: ku202 :: ku203 :: ku204 :: ku205 :: ku206 :: ku207 :: ku208 :: ku209 :: ku210 :: ku211 :: ku212 :: ku213 :: ku214 :: ku215 :: ku216 :: ku217 :: ku218 :: ku219 :: ku220 :: ku221 :: ku222 :: ku223 :: ku224 :: ku225 :: ku226 :: ku227 :: ku228 :: ku229 :: ku230 :: ku231 :: ku232 :: ku233 :: ku234 :: ku235 :: ku236 :: ku237 :: ku238 :: ku239 :: ku240 :: ku241 :: ku242 :: ku243 :: ku244 :: ku245 :: ku246 :: ku247 :: ku248 :: ku249 :: ku250 :: ku251 :: ku252 :: ku253 :: ku254 :: ku255 :: ku256 :: ku257 :: ku258 :: ku259 :: ku260 :: ku261 :: ku262 :: ku263 :: ku264 :: ku265 :: ku266 :: ku267 :: ku268 :: ku269 :: ku270 :: ku271 :: kc272 :: kc273 :: kc274 :: kc275 :: kc276 :: kc277 :: kc278 :: kc279 :: kc280 :: kc281 :: kc282 :: kc283 :: kc284 :: kc285 :: kc286 :: kc287 :: kc288 :: kc289 :: kc290 :: kc291 :: kc292 :: kc293 :: kc294 :: kc295 :: kc296 :: kc297 :: kc298 :: kc299 :: kc300 :: kc301 :: kc302 :: kc303 :: kc304 :: kc305 :: kc306 :: kc307 :: kc308 :: kc309 :: kc310 :: kc311 :: kc312 :: kc313 :: kc314 :: kc315 :: kc316 :: kc317 :: kc318 :: kc319 :: kc320 :: kc321 :: kc322 :: kc323 :: kc324 :: kc325 :: kc326 :: kc327 :: kc328 :: kc329 :: kc330 :: kc331 :: kc332 :: kc333 :: kc334 :: kc335 :: kc336 :: kc337 :: kc338 :: kc339 :: kc340 :: kc341 :: kc342 :: kc343 :: kc344 :: kc345 :: kc346 :: kc347 :: kc348 :: kc349 :: kc350 :: kc351 :: kc352 :: []), []⟩ wr := by
  have HX := hide hexit
  clear hexit
  unfold gl1C
  conv => arg 2; whnf
  have HM := hide hM
  have HR := hide hret
  obtain ⟨i0, hii, hz0, hz1, hz2⟩ := info_parts rdInfo
  have hT := tab_of hc
  have Hx := hide hx
  have Hc := hide hc
  have HI := hide hI
  have Hz := hide hz
  have Hl := hide hl
  have HT := hide hT
  have Hi := hide hii
  have Hz0 := hide hz0
  have Hz1 := hide hz1
  have Hz2 := hide hz2
  have Hzb := hide hzb
  clear hx hc hI hz hl hT hii hz0 hz1 hz2 hzb
  clear hM hret
  have hg0 := Hx.out.g0
  have hg1 := Hx.out.g1
  go_loopw [10, 11, 12, 13] (fun r lo hi i wr2 => ∃ ii : Nat, ii ≤ a.np ∧ RdOk pace (fG x pace zp l) (tG zp l) ii ∧ lo = .int .i64 (leG pace (tG zp l) ii) ∧ hi = .int .i64 (moG pace (tG zp l) ii) ∧ i = .int .i64 ii ∧ Mem w [.row w.heap.size 52 3 r ii ((rdG pace (fG x pace zp l) ii).map (Value.int .i64)), .blk gS 37 sc, .book (bkG x) p L, .blk g0 28 (gcells a)] wr2) (fun _ _ _ i _ => a.np - (intOf i).toNat)
  case atStart => exact ⟨0, by omega, RdOk.zero hp0 hp1 _ _, rfl, rfl, rfl, HM.out⟩
  case round =>
    obtain ⟨i, hin, hrd, rfl, rfl, rfl, hM⟩ := hrel
    clear HM
    have HM := hide hM
    clear hM
    have bX := Mem.blk_ HM.out 3 rfl
    have ltX := bX.lt
    have x0 : wr.cell? ⟨g0, 0, none⟩ = some (.slice a.Ap a.np a.cp) := bX.c 0 rfl
    have x8 : wr.cell? ⟨g0, 8, none⟩ = some (.slice a.Ar a.nr a.cr) := bX.c 8 rfl
    by_cases hi2 : i < a.np
    · have hi3 : (i : Int) < a.np := by omega
      obtain ⟨bP, oP, hA, hbP, hcP⟩ := HI.out (by have := Hz.out; omega)
      have p0 := hcP i (by have := Hz.out; omega)
      rw [← HM.out.below.cell hbP] at p0
      have hltP : bP < wr.heap.size := Nat.lt_of_lt_of_le hbP HM.out.size
      rw [hA] at x0
      have hz0' := Hzb.out i
      obtain ⟨zi, hzi⟩ : ∃ zi : Int, zp.getD i 0 = zi := ⟨_, rfl⟩
      rw [hzi] at hz0' p0
      have hpt : zi.tmod 1048576 = zi % 1048576 := Int.tmod_eq_emod_of_nonneg hz0'.1
      obtain ⟨pp, hpp⟩ : ∃ pp : Int, zi % 1048576 = pp := ⟨_, rfl⟩
      rw [hpp] at hpt
      have hppb : 0 ≤ pp ∧ pp ≤ 1048575 := by omega
      obtain ⟨sg, hsg, sg1, sg2, sg3, hrest⟩ := step_G (x := x) (pace := pace) (zp := zp) (l := l) (k := i) Hx.out HT.out Hc.out hp0 hp1 (by omega)
      rw [show pwG zp i = pp by unfold pwG; rw [hzi, hpp]] at hrest
      have hle := le_bd hrd i (Nat.le_refl _)
      obtain ⟨le0, hle0⟩ : ∃ le0 : Int, leG pace (tG zp l) i = le0 := ⟨_, rfl⟩
      obtain ⟨mo0, hmo0⟩ : ∃ mo0 : Int, moG pace (tG zp l) i = mo0 := ⟨_, rfl⟩
      rw [hle0, hmo0] at hle
      rw [hle0, hmo0]
      have hnl := Hz.out
      obtain ⟨tm, htm⟩ : ∃ tm : Int, (i : Int) * pace = tm := ⟨_, rfl⟩
      have htm0 : 0 ≤ tm := by rw [← htm]; exact Int.mul_nonneg (by omega) (by omega)
      have htm1 : tm ≤ 6 * 600 := by rw [← htm]; exact Int.mul_le_mul (by omega) hp1 (by omega) (by omega)
      rw [htm] at hsg
      obtain ⟨M, hM⟩ : ∃ M : Int, pp * x.g = M := ⟨_, rfl⟩
      obtain ⟨hM0, hM1⟩ := mul_bdT (D := 1048575) (M := 4999) hppb.1 hppb.2 (show 0 ≤ x.g by omega) hg1
      rw [hM] at hM0 hM1 hrest
      have hMt : M.tdiv 1000 = M / 1000 := tdiv_pos hM0
      have hMt2 : (M + 999).tdiv 1000 = (M + 999) / 1000 := tdiv_pos (by omega)
      obtain ⟨ga, gb⟩ := sg
      simp only at sg1 sg2 sg3 hrest
      have hg2 : decide (x.g < ga) = false := decide_eq_false (by omega)
      have hg3 : decide (gb < x.g) = false := decide_eq_false (by omega)
      have hi1 : decide ((i : Int) < 0) = false := decide_eq_false (by omega)
      have Hrd := hide hrd
      have Hrest := hide hrest
      have Hsg := hide hsg
      have Hle0 := hide hle0
      have Hmo0 := hide hmo0
      have Hpp := hide hpp
      have Hzi := hide hzi
      have HA := hide hA
      clear hrd hrest hsg hle0 hmo0 hpp hzi hA
      clear hcP hnl
      go_wp2_with fail
      clear x0 p0
      have c4 := Gain_any (bkG x) p L ⟨#[114]⟩ tm wr (Mem.book_ HM.out 2 rfl) (by decide)
      rw [Hsg.out] at c4
      unfold gainV at c4
      simp only at c4
      refine (c4).mono ?_
      rintro e w24 ⟨rfl, hb⟩
      replace HM := hide (HM.out.later hb)
      clear hb
      clear c4
      by_cases hmx : gb ≤ 1000000
      · have hd3 : decide (1000000 < gb) = false := decide_eq_false (by omega)
        obtain ⟨c, lo, hi, is, hcr, hc1, hc2, hv1, hv2, hv3, hm1, hm2, hf, ht, b1, b2, b3, b4, b5⟩ := Hrest.out hmx
        obtain ⟨ca, cb⟩ := c
        obtain ⟨la, lb⟩ := lo
        obtain ⟨ha, hb⟩ := hi
        obtain ⟨sa, sb⟩ := is
        simp only at hc1 hc2 hm1 hm2 b1 b2 b3 b4 b5 hv1 hv2 hf
        have hd4 : decide (pp < ca) = false := decide_eq_false (by omega)
        have hd5 : decide (cb < pp) = false := decide_eq_false (by omega)
        have hd6 : decide (sa < la) = false := decide_eq_false (by omega)
        have hd7 : decide (hb < sb) = false := decide_eq_false (by omega)
        have Hcr := hide hcr
        have Hv1 := hide hv1
        have Hv2 := hide hv2
        have Hv3 := hide hv3
        have Hf := hide hf
        have Ht := hide ht
        clear hcr hv1 hv2 hv3 hf ht
        go_wp2_with fail
        refine at_world fun w25 hW => ?_
        have HMn := Mem.to (Mem.allocAt (Mem.allocAt HM.out w24.heap.size rfl #[.int .i64 ga, .int .i64 gb] 35) (w24.heap.size + 1) (by simp) #[.int .i64 0, .int .i64 0] 45) hW
        have LW : Later w24 w25 := by rw [hW]; exact (((Below.refl _ _).alloc (Nat.le_refl _) _).alloc (by simp; try omega) _)
        have szW : w25.heap.size = w24.heap.size + 2 := by rw [hW]; simp
        clear hW
        replace HM := hide HMn
        clear HMn LW
        have c5 := Correct_any (M / 1000) ((M + 999) / 1000) ga gb w25
        rw [Hcr.out] at c5
        unfold corrV at c5
        simp only at c5
        refine (c5).mono ?_
        rintro e w26 ⟨rfl, hb⟩
        replace HM := hide (HM.out.later hb)
        clear hb
        clear c5
        have bX := Mem.blk_ HM.out 5 rfl
        have ltX := bX.lt
        have x8 : w26.cell? ⟨g0, 8, none⟩ = some (.slice a.Ar a.nr a.cr) := bX.c 8 rfl
        go_wp2_with fail
        clear bX ltX x8
        refine at_world fun w27 hW => ?_
        have HMn := Mem.to (Mem.allocAt HM.out w26.heap.size rfl #[.int .i64 ca, .int .i64 cb] 35) hW
        have LW : Later w26 w27 := by rw [hW]; exact ((Below.refl _ _).alloc (Nat.le_refl _) _)
        have szW : w27.heap.size = w26.heap.size + 1 := by rw [hW]; simp
        clear hW
        replace HM := hide HMn
        clear HMn LW
        have c6 := Value_anyR a.Ar a.nr a.cr l ca w27 hln hnr ((Hl.out.below HM.out.below).more HM.out.size)
        rw [Hv1.out] at c6
        unfold spanER at c6
        simp only at c6
        refine (c6).mono ?_
        rintro e w28 ⟨rfl, hb⟩
        replace HM := hide (HM.out.later hb)
        clear hb
        clear c6
        have bz : Blk w28 w26.heap.size 35 #[.int .i64 ca, .int .i64 cb] := HM.out.get 0 rfl
        have ltz := bz.lt
        have z0 := bz.c 0 rfl
        have z1 := bz.c 1 rfl
        have bX := Mem.blk_ HM.out 6 rfl
        have ltX := bX.lt
        have x8 : w28.cell? ⟨g0, 8, none⟩ = some (.slice a.Ar a.nr a.cr) := bX.c 8 rfl
        go_wp2_with fail
        clear bX ltX x8
        refine at_world fun w29 hW => ?_
        have HMn := Mem.to (Mem.allocAt HM.out w28.heap.size rfl #[.int .i64 la, .int .i64 lb] 35) hW
        have LW : Later w28 w29 := by rw [hW]; exact ((Below.refl _ _).alloc (Nat.le_refl _) _)
        have szW : w29.heap.size = w28.heap.size + 1 := by rw [hW]; simp
        clear hW bz ltz z0 z1
        replace HM := hide HMn
        clear HMn LW
        have c6 := Value_anyR a.Ar a.nr a.cr l cb w29 hln hnr ((Hl.out.below HM.out.below).more HM.out.size)
        rw [Hv2.out] at c6
        unfold spanER at c6
        simp only at c6
        refine (c6).mono ?_
        rintro e w30 ⟨rfl, hb⟩
        replace HM := hide (HM.out.later hb)
        clear hb
        clear c6
        have bX := Mem.blk_ HM.out 7 rfl
        have ltX := bX.lt
        have x8 : w30.cell? ⟨g0, 8, none⟩ = some (.slice a.Ar a.nr a.cr) := bX.c 8 rfl
        go_wp2_with fail
        clear bX ltX x8
        refine at_world fun w31 hW => ?_
        have HMn := Mem.to (Mem.allocAt HM.out w30.heap.size rfl #[.int .i64 ha, .int .i64 hb] 35) hW
        have LW : Later w30 w31 := by rw [hW]; exact ((Below.refl _ _).alloc (Nat.le_refl _) _)
        have szW : w31.heap.size = w30.heap.size + 1 := by rw [hW]; simp
        clear hW
        replace HM := hide HMn
        clear HMn LW
        have c6 := Value_anyR a.Ar a.nr a.cr l pp w31 hln hnr ((Hl.out.below HM.out.below).more HM.out.size)
        rw [Hv3.out] at c6
        unfold spanER at c6
        simp only at c6
        refine (c6).mono ?_
        rintro e w32 ⟨rfl, hb⟩
        replace HM := hide (HM.out.later hb)
        clear hb
        clear c6
        have bz : Blk w32 w30.heap.size 35 #[.int .i64 ha, .int .i64 hb] := HM.out.get 0 rfl
        have ltz := bz.lt
        have z0 := bz.c 0 rfl
        have z1 := bz.c 1 rfl
        have bt : Blk w32 w28.heap.size 35 #[.int .i64 la, .int .i64 lb] := HM.out.get 1 rfl
        have ltt := bt.lt
        have t0 := bt.c 0 rfl
        have t1 := bt.c 1 rfl
        go_upto_region 31 with fail
        refine code_world fun w33 hW => ?_
        have HMn := Mem.to (Mem.allocAt HM.out w32.heap.size rfl #[.int .i64 sa, .int .i64 sb] 35) hW
        have LW : Later w32 w33 := by rw [hW]; exact ((Below.refl _ _).alloc (Nat.le_refl _) _)
        have szW : w33.heap.size = w32.heap.size + 1 := by rw [hW]; simp
        clear hW bz ltz z0 z1 bt ltt t0 t1
        replace HM := hide HMn
        clear HMn LW
        have bz : Blk w33 w30.heap.size 35 #[.int .i64 ha, .int .i64 hb] := HM.out.get 1 rfl
        have ltz := bz.lt
        have z0 := bz.c 0 rfl
        have z1 := bz.c 1 rfl
        have bt : Blk w33 w28.heap.size 35 #[.int .i64 la, .int .i64 lb] := HM.out.get 2 rfl
        have ltt := bt.lt
        have t0 := bt.c 0 rfl
        have t1 := bt.c 1 rfl
        clear szW
        have hownM := Mem.row_ HM.out 6 rfl
        have hbaseM : w.heap.size ≤ w33.heap.size := HM.out.size
        go_wp2_with (at_builtin; go_loud (refine wpList_append_own_at _ rfl (.tmp 248) (.tmp 258) _ rfl w.heap.size 52 i0 _ 3 24 Try.underlying44 Hi.out Hz0.out Hz1.out Hz2.out rfl (by decide) _ i ((rdG pace (fG x pace zp l) i).map (Value.int .i64)) rfl (hownM.alloc _) ⟨w33.heap.size, 0, none⟩ 1 1 [.int .i64 tm, .int .i64 la, .int .i64 hb] rfl rfl ?q1c1 (by intro u hu; simp only [List.mem_cons, List.not_mem_nil, or_false] at hu; rcases hu with rfl | rfl | rfl <;> rfl) ?q1c3 ?q1c4 ?q1c5 ?_))
        try case q1c1 => exact new_cellsQ w33 _ [.int .i64 tm, .int .i64 la, .int .i64 hb]
        case q1c3 => unfold maxLen; omega
        case q1c4 => omega
        case q1c5 => simp; omega
        intro tv w34 hown2 hgr2 _ hat2
        have HMn := HM.out.grow 6 rfl _ hgr2 hown2 hat2
        replace HM := hide HMn
        clear HMn hown2 hgr2 hat2 hownM hbaseM
        clear bz ltz z0 z1 bt ltt t0 t1
        have bz : Blk w34 w32.heap.size 35 #[.int .i64 sa, .int .i64 sb] := HM.out.get 0 rfl
        have ltz := bz.lt
        have z0 := bz.c 0 rfl
        have z1 := bz.c 1 rfl
        obtain ⟨y1, hy1⟩ : ∃ y1 : Int, sa * pace = y1 := ⟨_, rfl⟩
        obtain ⟨y2, hy2⟩ : ∃ y2 : Int, sb * pace = y2 := ⟨_, rfl⟩
        have hyb1 := mul_bdT (D := 1000000) (M := 600) b2 (by omega) (show 0 ≤ pace by omega) hp1
        have hyb2 := mul_bdT (D := 1000000) (M := 600) (show 0 ≤ sb by omega) b4 (show 0 ≤ pace by omega) hp1
        rw [hy1] at hyb1
        rw [hy2] at hyb2
        go_wp2_with fail
        go_quiet (fail)
        have hL : Below w34.heap.size w34 (w34.drewN nq) := below_drewN (Below.refl _ _) _
        generalize (w34.drewN nq : World) = w35 at hL ⊢
        replace HM := hide (HM.out.later hL)
        clear hL bz ltz z0 z1
        go_wp2_with fail
        go_roundw
        case rel =>
          have hs := RdOk.succ Hrd.out (by omega) (by rw [Hf.out, Ht.out]; exact ⟨b1, hm1⟩) (by rw [Ht.out]; exact ⟨b2, b3, b4⟩) (by rw [Hf.out, Ht.out]; exact ⟨hm2, b5⟩)
          refine ⟨i + 1, by omega, hs, ?_, ?_, by go_num, ?_⟩
          · rw [leG, Hle0.out, Ht.out, hy1]
          · rw [moG, Hmo0.out, Ht.out, hy2]
          · rw [rdG, List.map_append, Hf.out, htm]
            exact HM.out.tail.tail.tail.tail.tail.tail
        case measure => simp [intOf] <;> omega
      · have hd3 : decide (1000000 < gb) = true := decide_eq_true (by omega)
        go_wp2_with fail
        refine at_world fun w25 hW => ?_
        have HMn := Mem.to (Mem.allocAt (Mem.allocAt HM.out w24.heap.size rfl #[.int .i64 ga, .int .i64 gb] 35) (w24.heap.size + 1) (by simp) #[.int .i64 0, .int .i64 0] 45) hW
        have LW : Later w24 w25 := by rw [hW]; exact (((Below.refl _ _).alloc (Nat.le_refl _) _).alloc (by simp; try omega) _)
        have szW : w25.heap.size = w24.heap.size + 2 := by rw [hW]; simp
        clear hW
        replace HM := hide HMn
        clear HMn LW
        refine (gworks_any _).mono ?_
        rintro e w26 ⟨rfl, hb⟩
        replace HM := hide (HM.out.later hb)
        clear hb
        go_wp2_with fail
        exact HR.out (by simp [results, Try.results3, go_sem]) rfl HM.out.below
    · have hie : i = a.np := by omega
      subst hie
      have hi3 : ¬ ((a.np : Int) < a.np) := by omega
      go_wp2_with fail
      exact HX.out ⟨hrd, HM.out⟩
end Go.Proofs.Ytjkelpelmljanaa
