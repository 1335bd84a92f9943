/-
  The law TraceTruth: its first loop.
-/
import Derived.Test.YtiggefmckomilaaTrL2
set_option linter.unusedSimpArgs false
set_option linter.unusedVariables false
namespace Go.Proofs.Ytiggefmckomilaa
open Go Go.RowKit

set_option maxRecDepth 1000000 in
noncomputable def trl1C : Code := ((loopsOf ((Try.f4.body).getD .skip))[0]?).getD .skip
set_option maxHeartbeats 8000000 in
set_option maxRecDepth 1000000 in
theorem trl1 {kc0 kc1 kc2 kc3 kc4 kc6 kc8 kc9 kc10 kc11 kc12 kc13 ku14 kc17 kc18 ku24 ku25 ku26 ku27 ku28 ku29 ku30 ku31 ku32 ku33 kc34 kc35 kc36 kc37 kc38 kc39 kc40 kc41 kc42 kc43 kc44 kc45 kc46 kc47 kc48 kc49 kc50 kc51 kc52 kc53 kc54 kc55 kc56 kc57 kc58 kc59 kc60 kc61 kc62 kc63 kc64 kc65 kc66 kc67 kc68 kc69 kc70 ku71 ku72 ku73 ku74 ku75 ku76 ku77 ku78 ku79 ku80 ku81 ku82 ku83 ku84 ku85 ku86 ku87 ku88 ku89 ku90 ku91 ku92 ku93 ku94 ku95 ku96 ku97 ku98 ku99 ku100 ku101 ku102 ku103 ku104 ku105 ku106 ku107 ku108 ku109 ku110 ku111 ku112 ku113 ku114 ku115 ku116 ku117 ku118 ku119 ku120 ku121 ku122 ku123 ku124 ku125 ku126 ku127 ku128 ku129 ku130 ku131 ku132 ku133 ku134 ku135 ku136 ku137 ku138 ku139 ku140 ku141 ku142 ku143 ku144 ku145 ku146 ku147 ku148 ku149 ku150 ku151 ku152 ku153 ku154 ku155 ku156 ku157 ku158 ku159 ku160 ku161 ku162 ku163 ku164 ku165 ku166 ku167 ku168 ku169 ku170 ku171 ku172 ku173 ku174 ku175 ku176 ku177 ku178 ku179 ku180 ku181 ku182 ku183 ku184 ku185 ku186 ku187 ku188 ku189 ku190 ku191 ku192 ku193 ku194 ku195 ku196 ku197 ku198 ku199 ku200 ku201 ku202 ku203 ku204 ku205 ku206 ku207 ku208 ku209 ku210 ku211 ku212 ku213 ku214 ku215 ku216 ku217 ku218 ku219 ku220 ku221 ku222 ku223 ku224 ku225 ku226 ku227 ku228 ku229 ku230 ku231 ku232 ku233 ku234 ku235 ku236 ku237 ku238 ku239 ku240 kc241 kc242 kc243 kc244 kc245 kc246 kc247 kc248 kc249 kc250 kc251 kc252 kc253 kc254 kc255 kc256 kc257 kc258 kc259 kc260 kc261 kc262 kc263 kc264 kc265 kc266 kc267 kc268 kc269 kc270 kc271 kc272 kc273 kc274 kc275 kc276 kc277 kc278 kc279 kc280 kc281 kc282 kc283 kc284 kc285 kc286 kc287 kc288 kc289 kc290 kc291 kc292 kc293 kc294 kc295 kc296 kc297 kc298 kc299 kc300 kc301 kc302 kc303 kc304 kc305 kc306 kc307 kc308 kc309 kc310 kc311 kc312 kc313 kc314 kc315 kc316 kc317 kc318 kc319 kc320 kc321 kc322 kc323 kc324 kc325 kc326 kc327 kc328 kc329 kc330 kc331 kc332 kc333 kc334 kc335 kc336 kc337 kc338 kc339 kc340 kc341 kc342 kc343 kc344 kc345 kc346 kc347 kc348 kc349 kc350 kc351 kc352 kc353 kc354 kc355 kc356 kc357 kc358 kc359 kc360 kc361 kc362 kc363 kc364 kc365 kc366 kc367 kc368 kc369 kc370 kc371 kc372 kc373 kc374 kc375 kc376 kc377 kc378 kc379 kc380 kc381 kc382 kc383 kc384 kc385 kc386 kc387 kc388 kc389 kc390 kc391 kc392 kc393 kc394 kc395 kc396 kc397 kc398 kc399 kc400 kc401 kc402 kc403 kc404 kc405 kc406 kc407 kc408 kc409 kc410 kc411 kc412 kc413 kc414 kc415 kc416 kc417 kc418 kc419 kc420 kc421 : Value} (lv : Nat → Lv) (hlv : ∀ k, LvOk (lv k)) (LV : Array Value) (hlc : ∀ (k : Nat), k < 3 → LV[k * 6]? = some (.int .u32 (lv k).v) ∧ LV[k * 6 + 1]? = some (.int .u16 (lv k).l) ∧ LV[k * 6 + 2]? = some (.int .u16 (lv k).m) ∧ LV[k * 6 + 3]? = some (.int .u8 (lv k).t) ∧ LV[k * 6 + 4]? = some (.int .u8 (lv k).s) ∧ LV[k * 6 + 5]? = some (.int .u8 (lv k).d)) (mbs : Int) (ak : Int) (a0 : 0 ≤ ak) (a1 : ak ≤ 255) (p gN g0 : Nat) (L : Lay) (w : World) {Q : Exit → Act → World → Prop} {wr : World} (hM : Mem w [.row w.heap.size 3 1 (.slice none 0 0) 0 [], .row w.heap.size 3 1 (.slice none 0 0) 0 [], .row w.heap.size 3 1 (.slice none 0 0) 0 [], .book (bookL lv mbs 0) p L, .blk gN 9 nmsC, .blk g0 33 LV] wr)
    (hexit : ∀ ⦃kv14 kv22 kv24 kv25 kv26 kv27 kv28 kv29 kv30 kv31 kv32 kv33 kv71 kv72 kv73 kv74 kv75 kv76 kv77 kv78 kv79 kv80 kv81 kv82 kv83 kv84 kv85 kv86 kv87 kv88 kv89 kv90 kv91 kv92 kv93 kv94 kv95 kv96 kv97 kv98 kv99 kv100 kv101 kv102 kv103 kv104 kv105 kv106 kv107 kv108 kv109 kv110 kv111 kv112 kv113 kv114 kv115 kv116 kv117 kv118 kv119 kv120 kv121 kv122 kv123 kv124 kv125 kv126 kv127 kv128 kv129 kv130 kv131 kv132 kv133 kv134 kv135 kv136 kv137 kv138 kv139 kv140 kv141 kv142 kv143 kv144 kv145 kv146 kv147 kv148 kv149 kv150 kv151 kv152 kv153 kv154 kv155 kv156 kv157 kv158 kv159 kv160 kv161 kv162 kv163 kv164 kv165 kv166 kv167 kv168 kv169 kv170 kv171 kv172 kv173 kv174 kv175 kv176 kv177 kv178 kv179 kv180 kv181 kv182 kv183 kv184 kv185 kv186 kv187 kv188 kv189 kv190 kv191 kv192 kv193 kv194 kv195 kv196 kv197 kv198 kv199 kv200 kv201 kv202 kv203 kv204 kv205 kv206 kv207 kv208 kv209 kv210 kv211 kv212 kv213 kv214 kv215 kv216 kv217 kv218 kv219 kv220 kv221 kv222 kv223 kv224 kv225 kv226 kv227 kv228 kv229 kv230 kv231 kv232 kv233 kv234 kv235 kv236 kv237 kv238 kv239 kv240 : Value⦄ ⦃mv nv dv : Value⦄ ⦃L : Lay⦄ ⦃w2 : World⦄, Mem w [.row w.heap.size 3 1 dv 3 (denV 3), .row w.heap.size 3 1 nv 3 (numVN lv 3), .row w.heap.size 3 1 mv 3 (dayV lv 3), .book (bookL lv mbs 3) p L, .blk gN 9 nmsC, .blk g0 33 LV] w2 → Q (.exit 0) ⟨List.toArray (kc0 :: kc1 :: kc2 :: kc3 :: kc4 :: .int .u8 ak :: kc6 :: .pointer (some ⟨g0, 0, none⟩) :: kc8 :: kc9 :: kc10 :: kc11 :: kc12 :: kc13 :: kv14 :: .slice (some ⟨gN, 0, none⟩) 3 3 :: .pointer (some ⟨p, 0, none⟩) :: kc17 :: kc18 :: mv :: nv :: dv :: kv22 :: .int .i64 3 :: kv24 :: kv25 :: kv26 :: kv27 :: kv28 :: kv29 :: kv30 :: kv31 :: kv32 :: kv33 :: kc34 :: kc35 :: kc36 :: kc37 :: kc38 :: kc39 :: kc40 :: kc41 :: kc42 :: kc43 :: kc44 :: kc45 :: kc46 :: kc47 :: kc48 :: kc49 :: kc50 :: kc51 :: kc52 :: kc53 :: kc54 :: kc55 :: kc56 :: kc57 :: kc58 :: kc59 :: kc60 :: kc61 :: kc62 :: kc63 :: kc64 :: kc65 :: kc66 :: kc67 :: kc68 :: kc69 :: kc70 :: kv71 :: kv72 :: kv73 :: kv74 :: kv75 :: kv76 :: kv77 :: kv78 :: kv79 :: kv80 :: kv81 :: kv82 :: kv83 :: kv84 :: kv85 :: kv86 :: kv87 :: kv88 :: kv89 :: kv90 :: kv91 :: kv92 :: kv93 :: kv94 :: kv95 :: kv96 :: kv97 :: kv98 :: kv99 :: kv100 :: kv101 :: kv102 :: kv103 :: kv104 :: kv105 :: kv106 :: kv107 :: kv108 :: kv109 :: kv110 :: kv111 :: kv112 :: kv113 :: kv114 :: kv115 :: kv116 :: kv117 :: kv118 :: kv119 :: kv120 :: kv121 :: kv122 :: kv123 :: kv124 :: kv125 :: kv126 :: kv127 :: kv128 :: kv129 :: kv130 :: kv131 :: kv132 :: kv133 :: kv134 :: kv135 :: kv136 :: kv137 :: kv138 :: kv139 :: kv140 :: kv141 :: kv142 :: kv143 :: kv144 :: kv145 :: kv146 :: kv147 :: kv148 :: kv149 :: kv150 :: kv151 :: kv152 :: kv153 :: kv154 :: kv155 :: kv156 :: kv157 :: kv158 :: kv159 :: kv160 :: kv161 :: kv162 :: kv163 :: kv164 :: kv165 :: kv166 :: kv167 :: kv168 :: kv169 :: kv170 :: kv171 :: kv172 :: kv173 :: kv174 :: kv175 :: kv176 :: kv177 :: kv178 :: kv179 :: kv180 :: kv181 :: kv182 :: kv183 :: kv184 :: kv185 :: kv186 :: kv187 :: kv188 :: kv189 :: kv190 :: kv191 :: kv192 :: kv193 :: kv194 :: kv195 :: kv196 :: kv197 :: kv198 :: kv199 :: kv200 :: kv201 :: kv202 :: kv203 :: kv204 :: kv205 :: kv206 :: kv207 :: kv208 :: kv209 :: kv210 :: kv211 :: kv212 :: kv213 :: kv214 :: kv215 :: kv216 :: kv217 :: kv218 :: kv219 :: kv220 :: kv221 :: kv222 :: kv223 :: kv224 :: kv225 :: kv226 :: kv227 :: kv228 :: kv229 :: kv230 :: kv231 :: kv232 :: kv233 :: kv234 :: kv235 :: kv236 :: kv237 :: kv238 :: kv239 :: kv240 :: kc241 :: kc242 :: kc243 :: kc244 :: kc245 :: kc246 :: kc247 :: kc248 :: kc249 :: kc250 :: kc251 :: kc252 :: kc253 :: kc254 :: kc255 :: kc256 :: kc257 :: kc258 :: kc259 :: kc260 :: kc261 :: kc262 :: kc263 :: kc264 :: kc265 :: kc266 :: kc267 :: kc268 :: kc269 :: kc270 :: kc271 :: kc272 :: kc273 :: kc274 :: kc275 :: kc276 :: kc277 :: kc278 :: kc279 :: kc280 :: kc281 :: kc282 :: kc283 :: kc284 :: kc285 :: kc286 :: kc287 :: kc288 :: kc289 :: kc290 :: kc291 :: kc292 :: kc293 :: kc294 :: kc295 :: kc296 :: kc297 :: kc298 :: kc299 :: kc300 :: kc301 :: kc302 :: kc303 :: kc304 :: kc305 :: kc306 :: kc307 :: kc308 :: kc309 :: kc310 :: kc311 :: kc312 :: kc313 :: kc314 :: kc315 :: kc316 :: kc317 :: kc318 :: kc319 :: kc320 :: kc321 :: kc322 :: kc323 :: kc324 :: kc325 :: kc326 :: kc327 :: kc328 :: kc329 :: kc330 :: kc331 :: kc332 :: kc333 :: kc334 :: kc335 :: kc336 :: kc337 :: kc338 :: kc339 :: kc340 :: kc341 :: kc342 :: kc343 :: kc344 :: kc345 :: kc346 :: kc347 :: kc348 :: kc349 :: kc350 :: kc351 :: kc352 :: kc353 :: kc354 :: kc355 :: kc356 :: kc357 :: kc358 :: kc359 :: kc360 :: kc361 :: kc362 :: kc363 :: kc364 :: kc365 :: kc366 :: kc367 :: kc368 :: kc369 :: kc370 :: kc371 :: kc372 :: kc373 :: kc374 :: kc375 :: kc376 :: kc377 :: kc378 :: kc379 :: kc380 :: kc381 :: kc382 :: kc383 :: kc384 :: kc385 :: kc386 :: kc387 :: kc388 :: kc389 :: kc390 :: kc391 :: kc392 :: kc393 :: kc394 :: kc395 :: kc396 :: kc397 :: kc398 :: kc399 :: kc400 :: kc401 :: kc402 :: kc403 :: kc404 :: kc405 :: kc406 :: kc407 :: kc408 :: kc409 :: kc410 :: kc411 :: kc412 :: kc413 :: kc414 :: kc415 :: kc416 :: kc417 :: kc418 :: kc419 :: kc420 :: kc421 :: []), []⟩ w2) :
    Code.wp Try.prog trl1C Q ⟨List.toArray (kc0 :: kc1 :: kc2 :: kc3 :: kc4 :: .int .u8 ak :: kc6 :: .pointer (some ⟨g0, 0, none⟩) :: kc8 :: kc9 :: kc10 :: kc11 :: kc12 :: kc13 :: ku14 :: .slice (some ⟨gN, 0, none⟩) 3 3 :: .pointer (some ⟨p, 0, none⟩) :: kc17 :: kc18 :: .slice none 0 0 :: .slice none 0 0 :: .slice none 0 0 :: .int .i64 0 :: .int .i64 0 :: ku24 :: ku25 :: ku26 :: ku27 :: ku28 :: ku29 :: ku30 :: ku31 :: ku32 :: ku33 :: kc34 :: kc35 :: kc36 :: kc37 :: kc38 :: kc39 :: kc40 :: kc41 :: kc42 :: kc43 :: kc44 :: kc45 :: kc46 :: kc47 :: kc48 :: kc49 :: kc50 :: kc51 :: kc52 :: kc53 :: kc54 :: kc55 :: kc56 :: kc57 :: kc58 :: kc59 :: kc60 :: kc61 :: kc62 :: kc63 :: kc64 :: kc65 :: kc66 :: kc67 :: kc68 :: kc69 :: kc70 :: ku71 :: ku72 :: ku73 :: ku74 :: ku75 :: ku76 :: ku77 :: ku78 :: ku79 :: ku80 :: ku81 :: ku82 :: ku83 :: ku84 :: ku85 :: ku86 :: ku87 :: ku88 :: ku89 :: ku90 :: ku91 :: ku92 :: ku93 :: ku94 :: ku95 :: ku96 :: ku97 :: ku98 :: ku99 :: ku100 :: ku101 :: ku102 :: ku103 :: ku104 :: ku105 :: ku106 :: ku107 :: ku108 :: ku109 :: ku110 :: ku111 :: ku112 :: ku113 :: ku114 :: ku115 :: ku116 :: ku117 :: ku118 :: ku119 :: ku120 :: ku121 :: ku122 :: ku123 :: ku124 :: ku125 :: ku126 :: ku127 :: ku128 :: ku129 :: ku130 :: ku131 :: ku132 :: ku133 :: ku134 :: ku135 :: ku136 :: ku137 :: ku138 :: ku139 :: ku140 :: ku141 :: ku142 :: ku143 :: ku144 :: ku145 :: ku146 :: ku147 :: ku148 :: ku149 :: ku150 :: ku151 :: ku152 :: ku153 :: ku154 :: ku155 :: ku156 :: ku157 :: ku158 :: ku159 :: ku160 :: ku161 :: ku162 :: ku163 :: ku164 :: ku165 :: ku166 :: ku167 :: ku168 :: ku169 :: ku170 :: ku171 :: ku172 :: ku173 :: ku174 :: ku175 :: ku176 :: ku177 :: ku178 :: ku179 :: ku180 :: ku181 :: ku182 :: ku183 :: ku184 :: ku185 :: ku186 :: ku187 :: ku188 :: ku189 :: ku190 :: ku191 :: ku192 :: ku193 :: ku194 :: ku195 :: ku196 :: ku197 :: ku198 :: ku199 :: ku200 :: ku201 :: ku202 :: ku203 :: ku204 :: ku205 :: ku206 :: ku207 :: ku208 :: ku209 :: ku210 :: ku211 :: ku212 :: ku213 :: ku214 :: ku215 :: ku216 :: ku217 :: ku218 :: ku219 :: ku220 :: ku221 :: ku222 :: ku223 :: ku224 :: ku225 :: ku226 :: ku227 :: ku228 :: ku229 :: ku230 :: ku231 :: ku232 :: ku233 :: ku234 :: ku235 :: ku236 :: ku237 :: ku238 :: ku239 :: ku240 :: kc241 :: kc242 :: kc243 :: kc244 :: kc245 :: kc246 :: kc247 :: kc248 :: kc249 :: kc250 :: kc251 :: kc252 :: kc253 :: kc254 :: kc255 :: kc256 :: kc257 :: kc258 :: kc259 :: kc260 :: kc261 :: kc262 :: kc263 :: kc264 :: kc265 :: kc266 :: kc267 :: kc268 :: kc269 :: kc270 :: kc271 :: kc272 :: kc273 :: kc274 :: kc275 :: kc276 :: kc277 :: kc278 :: kc279 :: kc280 :: kc281 :: kc282 :: kc283 :: kc284 :: kc285 :: kc286 :: kc287 :: kc288 :: kc289 :: kc290 :: kc291 :: kc292 :: kc293 :: kc294 :: kc295 :: kc296 :: kc297 :: kc298 :: kc299 :: kc300 :: kc301 :: kc302 :: kc303 :: kc304 :: kc305 :: kc306 :: kc307 :: kc308 :: kc309 :: kc310 :: kc311 :: kc312 :: kc313 :: kc314 :: kc315 :: kc316 :: kc317 :: kc318 :: kc319 :: kc320 :: kc321 :: kc322 :: kc323 :: kc324 :: kc325 :: kc326 :: kc327 :: kc328 :: kc329 :: kc330 :: kc331 :: kc332 :: kc333 :: kc334 :: kc335 :: kc336 :: kc337 :: kc338 :: kc339 :: kc340 :: kc341 :: kc342 :: kc343 :: kc344 :: kc345 :: kc346 :: kc347 :: kc348 :: kc349 :: kc350 :: kc351 :: kc352 :: kc353 :: kc354 :: kc355 :: kc356 :: kc357 :: kc358 :: kc359 :: kc360 :: kc361 :: kc362 :: kc363 :: kc364 :: kc365 :: kc366 :: kc367 :: kc368 :: kc369 :: kc370 :: kc371 :: kc372 :: kc373 :: kc374 :: kc375 :: kc376 :: kc377 :: kc378 :: kc379 :: kc380 :: kc381 :: kc382 :: kc383 :: kc384 :: kc385 :: kc386 :: kc387 :: kc388 :: kc389 :: kc390 :: kc391 :: kc392 :: kc393 :: kc394 :: kc395 :: kc396 :: kc397 :: kc398 :: kc399 :: kc400 :: kc401 :: kc402 :: kc403 :: kc404 :: kc405 :: kc406 :: kc407 :: kc408 :: kc409 :: kc410 :: kc411 :: kc412 :: kc413 :: kc414 :: kc415 :: kc416 :: kc417 :: kc418 :: kc419 :: kc420 :: kc421 :: []), []⟩ wr := by
  have HX := hide hexit
  clear hexit
  unfold trl1C
  conv => arg 2; whnf
  have HM := hide hM
  have Hlv := hide hlv
  have Hlc := hide hlc
  clear hlv hlc
  clear hM
  go_loopw [19, 20, 21, 22, 23] (fun mv nv dv day k wr => ∃ (kk : Nat) (L : Lay), kk ≤ 3 ∧ k = .int .i64 kk ∧ day = .int .i64 (dyP lv kk) ∧ Mem w [.row w.heap.size 3 1 dv kk (denV kk), .row w.heap.size 3 1 nv kk (numVN lv kk), .row w.heap.size 3 1 mv kk (dayV lv kk), .book (bookL lv mbs kk) p L, .blk gN 9 nmsC, .blk g0 33 LV] wr) (fun _ _ _ _ k _ => 3 - (intOf k).toNat)
  case atStart => exact ⟨0, L, by omega, rfl, rfl, HM.out⟩
  case round =>
    obtain ⟨k, L3, hk3, rfl, rfl, hM⟩ := hrel
    clear HM
    have HM := hide hM
    clear hM
    by_cases hk : k < 3
    · have hkq : True := trivial
      have hok := Hlv.out k
      have hdr := fun W => lvDrift_any (lv k) hok W
      have htn := fun W => lvTurn_any (lv k) hok W
      have hdy := fun W => lvDays_any (lv k) hok W
      have hc := Hlc.out k hk
      have hdb := drf_bd hok
      have htb := trn_bd (lv k)
      have hyb := dys_bd (lv k)
      have hnb := num_bd lv Hlv.out hk
      have hde := den_le hk
      have hde0 := den_pos k
      obtain ⟨x, hx⟩ : ∃ x, lv k = x := ⟨_, rfl⟩
      unfold lvC at hdr htn hdy
      rw [hx] at hdr htn hdy hc hdb htb hyb hok
      obtain ⟨dr, hdrf⟩ : ∃ dr, drf x = dr := ⟨_, rfl⟩
      obtain ⟨tn, htrn⟩ : ∃ tn, trn x = tn := ⟨_, rfl⟩
      obtain ⟨dd, hdys⟩ : ∃ dd, dys x = dd := ⟨_, rfl⟩
      rw [hdrf] at hdr hdb
      rw [htrn] at htn htb hdb
      rw [hdys] at hdy hyb
      obtain ⟨xv, xl, xm, xt, xs, xd⟩ := x
      obtain ⟨v0, v1, l0, l1, m0, m1, t0, t1, s0', s1', d0, d1⟩ := hok
      simp only at v0 v1 l0 l1 m0 m1 t0 t1 s0' s1' d0 d1 hc hdr htn hdy
      obtain ⟨q0, hq0⟩ : ∃ q0 : Int, xv % 900000 = q0 := ⟨_, rfl⟩
      have hq0t : xv.tmod 900000 = q0 := by rw [tmod_pos v0, hq0]
      have hq0b : 0 ≤ q0 ∧ q0 ≤ 899999 := by omega
      obtain ⟨lo0, hlo0⟩ : ∃ lo0 : Int, max 1 (10000 + q0 - xl) = lo0 := ⟨_, rfl⟩
      obtain ⟨hi0, hhi0⟩ : ∃ hi0 : Int, min 1000000 (10000 + q0 + xm) = hi0 := ⟨_, rfl⟩
      have Hdr := hide hdr
      have Htn := hide htn
      have Hdy := hide hdy
      have Hx := hide hx
      have Hdrf := hide hdrf
      have Htrn := hide htrn
      have Hdys := hide hdys
      clear hdr htn hdy hx hdrf htrn hdys
      have bL := Mem.blk_ HM.out 5 rfl
      have bN := Mem.blk_ HM.out 4 rfl
      have c0 := bL.c _ hc.1
      have c1 := bL.c _ hc.2.1
      have c2 := bL.c _ hc.2.2.1
      have c3 := bL.c _ hc.2.2.2.1
      have c4 := bL.c _ hc.2.2.2.2.1
      have c5 := bL.c _ hc.2.2.2.2.2
      have ltL := bL.lt
      clear hc bL bN
      go_wp2_with fail
      refine code_world fun W3 hW => ?_
      have HMn := Mem.to (Mem.allocAt HM.out wr.heap.size rfl #[.int .u32 xv, .int .u16 xl, .int .u16 xm, .int .u8 xt, .int .u8 xs, .int .u8 xd] 32) hW
      have LW : Later wr W3 := by rw [hW]; exact ((Below.refl _ _).alloc (Nat.le_refl _) _)
      have szW : W3.heap.size = wr.heap.size + 1 := by rw [hW]; simp
      clear hW
      replace HM := hide HMn
      clear HMn LW
      clear c0 c1 c2 c3 c4 c5 ltL
      generalize hgx : wr.heap.size = gx at HM ⊢
      have bN := Mem.blk_ HM.out 5 rfl
      have cn := bN.c k (nmsC_at hk)
      have ltn := bN.lt
      have bz : Blk W3 gx 32 #[.int .u32 xv, .int .u16 xl, .int .u16 xm, .int .u8 xt, .int .u8 xs, .int .u8 xd] := HM.out.get 0 rfl
      have ltz := bz.lt
      have z0 := bz.c 0 rfl
      have z1 := bz.c 1 rfl
      have z2 := bz.c 2 rfl
      have z3 := bz.c 3 rfl
      have z4 := bz.c 4 rfl
      have z5 := bz.c 5 rfl
      apply wp_region_L (w0 := W3) [[], [], [], [], [], [], [], [], [], [], [], [], [], [], [], [], [], [], [], [], [], [20]] [true, true, true, true, true, true, true, true, true, true, true, true, true, true, true, true, true, true, true, true, false, false] [⟨20, none, [], []⟩, ⟨21, some 20, [20], [20]⟩] (fun ixq y => match ixq with | 20 => .pointer (y 0).1 | 21 => undef | _ => undef) (fun ixq x F wq => match ixq with | 20 => PtrF wq F W3.heap.size (x 20 0).1 43 #[.string ⟨#[]⟩, .string ⟨#[]⟩, .int .i64 0, .int .i64 0, .int .i64 0, .int .i64 0, .int .i64 0] | 21 => PtrF wq F W3.heap.size (x 20 0).1 43 #[.string (nmN k), .string ⟨#[]⟩, .int .i64 lo0, .int .i64 hi0, .int .i64 0, .int .i64 4294967296, .int .i64 dr] | _ => True) (fun a x => ((a).put (some 27) (.pointer ((x 20) 0).1)).put (none) (undef)) (by kernel_rfl) (by kernel_rfl) (fun _ => rfl) [101] (by kernel_rfl)
      · intro x D hD
        have hne := hD.some
        have k0 := liftB hD z0 (by first | assumption | omega)
        have k1 := liftB hD z1 (by first | assumption | omega)
        have k2 := liftB hD z2 (by first | assumption | omega)
        have k3 := liftB hD z3 (by first | assumption | omega)
        have k4 := liftB hD z4 (by first | assumption | omega)
        have k5 := liftB hD z5 (by first | assumption | omega)
        have kn := liftB hD cn (by first | assumption | omega)
        simp only [takeOps, Act.put, List.setIfInBounds_toArray, List.set_cons_succ, List.set_cons_zero]
        repeat (go_big_quiet_step ((go_at_call 18; exact calls_later hD _ (Hdr.out _))))
        exact wpQuiet_nil rfl
      · intro d hd x x'
        simp only [List.mem_cons, List.not_mem_nil, or_false] at hd
        rcases hd with rfl
        all_goals rfl
      · refine ⟨?_, ?_, trivial⟩
        · exact obl_alloc 43 27 (.agg #[.string ⟨#[]⟩, .string ⟨#[]⟩, .int .i64 0, .int .i64 0, .int .i64 0, .int .i64 0, .int .i64 0]) (by kernel_rfl) (by kernel_rfl) (fun _ => rfl) (fun _ _ _ h => h)
        · refine obl_store 43 27 102 20 #[.string ⟨#[]⟩, .string ⟨#[]⟩, .int .i64 0, .int .i64 0, .int .i64 0, .int .i64 0, .int .i64 0] (fun x => #[.string (nmN k), .string ⟨#[]⟩, .int .i64 lo0, .int .i64 hi0, .int .i64 0, .int .i64 4294967296, .int .i64 dr]) (by kernel_rfl) rfl (by simp) (fun _ _ _ h => h) (fun _ => rfl) (fun _ => rfl) (fun _ => by kernel_rfl) (fun _ => rfl) (fun _ => by simp [Value.oneCell']) (fun _ => rfl) (by decide) (fun _ _ _ _ h => h)
      · refine ⟨?_, ?_, trivial⟩
        · exact owe_ptr 20 _ _ (fun x => #[.string ⟨#[]⟩, .string ⟨#[]⟩, .int .i64 0, .int .i64 0, .int .i64 0, .int .i64 0, .int .i64 0]) (fun _ _ _ => rfl) (by simp) (fun _ _ _ => rfl)
        · exact owe_ptr 20 _ _ (fun x => #[.string (nmN k), .string ⟨#[]⟩, .int .i64 lo0, .int .i64 hi0, .int .i64 0, .int .i64 4294967296, .int .i64 dr]) (fun _ _ _ => rfl) (by simp) (fun _ _ _ => rfl)
      intro xx w4 F hL hlv1
      obtain ⟨-, fct21, -⟩ := hlv1
      replace fct21 : PtrF w4 (F 21) W3.heap.size (xx 20 0).1 43 #[.string (nmN k), .string ⟨#[]⟩, .int .i64 lo0, .int .i64 hi0, .int .i64 0, .int .i64 4294967296, .int .i64 dr] := fct21 rfl
      clear cn bN ltn
      clear bz ltz z0 z1 z2 z3 z4 z5
      obtain ⟨gs, hgs, hge, -, hbg⟩ := fct21
      rw [hgs]
      have HM1 := hide (HM.out.add (t := .blk gs 43 _) hL (show Blk _ _ _ _ from hbg) (fun k hk => by rw [List.mem_singleton.1 hk]; exact hge))
      clear HM hL hbg hge hgs
      have HM := HM1
      clear HM1
      have HXs := hide (show True from trivial)
      cases k with
      | zero =>
        obtain ⟨D1, hD1⟩ : ∃ D1 : Int, dyP lv 0 = D1 := ⟨_, rfl⟩
        rw [hD1]
        have hS : stdN lv 0 = ⟨nmN 0, ⟨#[]⟩, lo0, hi0, D1 * 86400, 4294967296, dr⟩ := by
          rw [← hD1, ← hlo0, ← hhi0, ← Hdrf.out, ← hq0, ← Hx.out]
          simp only [stdN, loN, hiN, Hx.out]
          rfl
        have hDb : 0 ≤ D1 ∧ D1 ≤ 200 := by rw [← hD1]; show (0 : Int) ≤ 0 ∧ (0 : Int) ≤ 200; omega
        have hden : denN 0 = 1 := rfl
        have hday : dayN lv 0 = D1 := by rw [← hD1]; rfl
        obtain ⟨num, hnm⟩ : ∃ num : Int, 10000 + q0 = num := ⟨_, rfl⟩
        have hnum : numN lv 0 = num := by unfold numN; rw [Hx.out, ← hnm, ← hq0]
        have hnmb : 0 ≤ num ∧ num ≤ 2048417000000 := by rw [← hnum]; exact hnb
        have hdenb : 1 ≤ (1 : Int) ∧ (1 : Int) ≤ 1000000 := by omega
        have hst := fun (d : Int) h h2 => span_truth lv Hlv.out (k := 0) (d := d) hk h h2
        rw [hnum, hden, Hx.out, Htrn.out] at hst
        have bs := Mem.blk_ HM.out 0 rfl
        have lts := bs.lt
        have c0 := bs.c 0 rfl
        have c1 := bs.c 1 rfl
        have c2 := bs.c 2 rfl
        have c3 := bs.c 3 rfl
        have c4 := bs.c 4 rfl
        have c5 := bs.c 5 rfl
        have c6 := bs.c 6 rfl
        have f4 := bs.frozen 4
        go_wp2_with fail
        refine at_world fun w8 hW => ?_
        have HM8 := hide (Mem.to (HM.out.set_ 0 rfl 4 _ (cs' := #[.string (nmN 0), .string ⟨#[]⟩, .int .i64 lo0, .int .i64 hi0, .int .i64 (D1 * 86400), .int .i64 4294967296, .int .i64 dr]) rfl) hW)
        clear HM hW bs lts c0 c1 c2 c3 c4 c5 c6 f4
        have HM := HM8
        clear HM8
        have hbk := Mem.book_ HM.out 5 rfl
        have e := bookL_define lv mbs Hlv.out hk
        rw [hS] at e
        have c1 := Define_any (bookL lv mbs 0) p L3 ⟨nmN 0, ⟨#[]⟩, lo0, hi0, D1 * 86400, 4294967296, dr⟩ w8 hbk (by show 1 ≤ maxLen; decide) (by show 0 ≤ maxLen; decide)
        rw [e] at c1
        refine c1.mono ?_
        clear c1 e hbk
        rintro e w9 ⟨rfl, hp⟩
        obtain ⟨L9, HMn⟩ := HM.out.enter 5 rfl hp
        replace HM := hide HMn
        clear HMn hp
        rw [if_pos rfl, show (Ent.define ⟨nmN 0, ⟨#[]⟩, lo0, hi0, D1 * 86400, 4294967296, dr⟩ :: bookL lv mbs 0) = bookL lv mbs (0 + 1) by rw [← hS]; rfl] at HM
        obtain ⟨i0, hii, hz0, hz1, hz2⟩ := info_parts intInfo
        have Hi := hide hii
        have Hz0 := hide hz0
        have Hz1 := hide hz1
        have Hz2 := hide hz2
        clear hii hz0 hz1 hz2
        have hownM := Mem.row_ HM.out 4 rfl
        have hbaseM : w.heap.size ≤ w9.heap.size := HM.out.size
        go_wp2_with (at_builtin; refine wpList_append_own_at _ rfl (.tmp 175) (.tmp 177) _ rfl w.heap.size 3 i0 _ 1 8 Try.underlying40 Hi.out Hz0.out Hz1.out Hz2.out rfl (by decide) _ 0 (dayV lv 0) rfl (hownM.alloc _) ⟨w9.heap.size, 0, none⟩ 1 1 [.int .i64 D1] rfl rfl ?q1c1 (by intro u hu; simp only [List.mem_cons, List.not_mem_nil, or_false] at hu; rcases hu with rfl <;> rfl) ?q1c3 ?q1c4 ?q1c5 ?_)
        try case q1c1 => exact new_cellsQ w9 _ [.int .i64 D1]
        case q1c3 => unfold maxLen; omega
        case q1c4 => omega
        case q1c5 => simp; omega
        intro mv2 w10 hown2 hgr2 _ hat2
        have HMn := HM.out.grow 4 rfl _ hgr2 hown2 hat2
        replace HM := hide HMn
        clear HMn hown2 hgr2 hat2 hownM hbaseM
        have hownM := Mem.row_ HM.out 3 rfl
        have hbaseM : w.heap.size ≤ w10.heap.size := HM.out.size
        go_wp2_with (at_builtin; refine wpList_append_own_at _ rfl (.tmp 179) (.tmp 181) _ rfl w.heap.size 3 i0 _ 1 8 Try.underlying40 Hi.out Hz0.out Hz1.out Hz2.out rfl (by decide) _ 0 (numVN lv 0) rfl (hownM.alloc _) ⟨w10.heap.size, 0, none⟩ 1 1 [.int .i64 num] rfl rfl ?q2c1 (by intro u hu; simp only [List.mem_cons, List.not_mem_nil, or_false] at hu; rcases hu with rfl <;> rfl) ?q2c3 ?q2c4 ?q2c5 ?_)
        try case q2c1 => exact new_cellsQ w10 _ [.int .i64 num]
        case q2c3 => unfold maxLen; omega
        case q2c4 => omega
        case q2c5 => simp; omega
        intro nv2 w11 hown2 hgr2 _ hat2
        have HMn := HM.out.grow 3 rfl _ hgr2 hown2 hat2
        replace HM := hide HMn
        clear HMn hown2 hgr2 hat2 hownM hbaseM
        have hownM := Mem.row_ HM.out 2 rfl
        have hbaseM : w.heap.size ≤ w11.heap.size := HM.out.size
        go_wp2_with (at_builtin; refine wpList_append_own_at _ rfl (.tmp 183) (.tmp 185) _ rfl w.heap.size 3 i0 _ 1 8 Try.underlying40 Hi.out Hz0.out Hz1.out Hz2.out rfl (by decide) _ 0 (denV 0) rfl (hownM.alloc _) ⟨w11.heap.size, 0, none⟩ 1 1 [.int .i64 1] rfl rfl ?q3c1 (by intro u hu; simp only [List.mem_cons, List.not_mem_nil, or_false] at hu; rcases hu with rfl <;> rfl) ?q3c3 ?q3c4 ?q3c5 ?_)
        try case q3c1 => exact new_cellsQ w11 _ [.int .i64 1]
        case q3c3 => unfold maxLen; omega
        case q3c4 => omega
        case q3c5 => simp; omega
        intro dv2 w12 hown2 hgr2 _ hat2
        have HMn := HM.out.grow 2 rfl _ hgr2 hown2 hat2
        replace HM := hide HMn
        clear HMn hown2 hgr2 hat2 hownM hbaseM
        have hr1 : dayV lv 0 ++ [.int .i64 D1] = dayV lv (0 + 1) := by rw [dayV_succ lv (0), hday]
        have hr2 : numVN lv 0 ++ [.int .i64 num] = numVN lv (0 + 1) := by rw [numVN_succ lv (0), hnum]
        have hr3 : denV 0 ++ [.int .i64 1] = denV (0 + 1) := by rw [denV_succ (0), hden]
        rw [hr1, hr2, hr3] at HM
        clear hr1 hr2 hr3
        clear hst
        go_wp2_with fail
        refine trl2 lv Hlv.out mbs 0 hk _ (by first | rfl | omega) num 1 D1 tn xv xl xm xt xs xd ak hnum hden hday (by rw [Hx.out]; exact Htrn.out) Hx.out a0 a1 p gx gN L9 w _ _ _ _ _ HM.out ?_
        clear HM
        intro kv14 kv30 kv31 kv32 kv33 kv187 kv188 kv189 kv190 kv191 kv192 kv193 kv194 kv195 kv196 kv197 kv198 kv199 kv200 kv201 kv202 kv203 kv204 kv205 kv206 kv207 kv208 kv209 kv210 kv211 kv212 kv213 kv214 kv215 kv216 kv217 kv218 kv219 kv220 kv221 kv222 kv223 kv224 kv225 kv226 kv227 kv228 kv229 kv230 kv231 kv232 kv233 kv234 kv235 kv236 kv237 kv238 kv239 kv240
        intro w15 hM
        have HM := hide hM
        clear hM
        go_wp2_with fail
        go_roundw
        case rel => exact ⟨0 + 1, _, by omega, by go_num, by rw [← hday]; rfl, HM.out.tail.tail⟩
        case measure => simp [intOf] <;> omega
      | succ j =>
        obtain ⟨D0, hD0⟩ : ∃ D0 : Int, dayN lv j = D0 := ⟨_, rfl⟩
        rw [show dyP lv (j + 1) = D0 from hD0]
        have hDb := day_bd lv j
        rw [hD0] at hDb
        have hokp := Hlv.out j
        have htp := fun W => lvTurn_any (lv j) hokp W
        have hcp := Hlc.out j (by omega)
        have htpb := trn_bd (lv j)
        unfold lvC at htp
        have hnbp := num_bd lv Hlv.out (k := j) (by omega)
        have hdep := den_le (k := j) (by omega)
        have hdep0 := den_pos j
        obtain ⟨N0, hN0⟩ : ∃ N0, numN lv j = N0 := ⟨_, rfl⟩
        obtain ⟨E0, hE0⟩ : ∃ E0, denN j = E0 := ⟨_, rfl⟩
        obtain ⟨T0, hT0⟩ : ∃ T0, trn (lv j) = T0 := ⟨_, rfl⟩
        rw [hN0] at hnbp
        rw [hE0] at hdep hdep0
        rw [hT0] at htp htpb
        obtain ⟨q1, hq1⟩ : ∃ q1 : Int, xv % 1001 = q1 := ⟨_, rfl⟩
        have hq1t : xv.tmod 1001 = q1 := by rw [tmod_pos v0, hq1]
        have hq1b : 0 ≤ q1 ∧ q1 ≤ 1000 := by omega
        obtain ⟨r0, hr0⟩ : ∃ r0 : Int, 500 + q1 = r0 := ⟨_, rfl⟩
        obtain ⟨D1, hD1⟩ : ∃ D1 : Int, D0 + dd = D1 := ⟨_, rfl⟩
        have hdif : D1 - D0 = dd := by omega
        obtain ⟨y1, hy1⟩ : ∃ y1 : Int, T0 * dd = y1 := ⟨_, rfl⟩
        obtain ⟨y2, hy2⟩ : ∃ y2 : Int, y1 * E0 = y2 := ⟨_, rfl⟩
        obtain ⟨num, hnm⟩ : ∃ num : Int, (N0 + y2) * r0 = num := ⟨_, rfl⟩
        obtain ⟨den, hdn⟩ : ∃ den : Int, E0 * 1000 = den := ⟨_, rfl⟩
        have hnum : numN lv (j + 1) = num := by
          rw [numN, hN0, hT0, hE0, Hx.out, Hdys.out, hy1, hy2]
          unfold rat
          simp only
          rw [hq1, hr0, hnm]
        have hden : denN (j + 1) = den := by rw [denN, hE0, hdn]
        have hday : dayN lv (j + 1) = D1 := by rw [dayN, hD0, Hx.out, Hdys.out, hD1]
        have hyb1 : -245 ≤ y1 ∧ y1 ≤ 245 := by
          obtain ⟨a, b⟩ := turn_le (den := 1) htpb.1 htpb.2 hyb.1 (by omega)
          rw [Int.mul_one] at a b
          omega
        have hyb2 : -245000000 ≤ y2 ∧ y2 ≤ 245000000 := by
          have p1 := Int.mul_le_mul_of_nonneg_right hyb1.1 (Int.le_of_lt hdep0)
          have p2 := Int.mul_le_mul_of_nonneg_right hyb1.2 (Int.le_of_lt hdep0)
          omega
        have hnmb : 0 ≤ num ∧ num ≤ 2048417000000 := by rw [← hnum]; exact hnb
        have hdenb : 1 ≤ den ∧ den ≤ 1000000 := by rw [← hden]; exact ⟨hde0, hde⟩
        have hst := fun (d : Int) h h2 => span_truth lv Hlv.out (k := j + 1) (d := d) hk h h2
        rw [hnum, hden, Hx.out, Htrn.out] at hst
        obtain ⟨Ad, cd', rfl⟩ := own_shape2 (Mem.row_ HM.out 2 rfl)
        obtain ⟨bd, curd, rfl, -, hbd, -, -, hcd⟩ := row_blk (Mem.row_ HM.out 2 rfl) (by omega)
        obtain ⟨An, cn', rfl⟩ := own_shape2 (Mem.row_ HM.out 3 rfl)
        obtain ⟨bn, curn, rfl, -, hbn, -, -, hcn⟩ := row_blk (Mem.row_ HM.out 3 rfl) (by omega)
        obtain ⟨Am, cm', rfl⟩ := own_shape2 (Mem.row_ HM.out 4 rfl)
        obtain ⟨bm, curm, rfl, -, hbm, -, -, hcm⟩ := row_blk (Mem.row_ HM.out 4 rfl) (by omega)
        have hcd := hcd j _ (denV_get (by omega))
        have hcn := hcn j _ (numVN_get lv (by omega))
        have hcm := hcm j _ (dayV_get lv (by omega))
        rw [hE0] at hcd
        rw [hN0] at hcn
        rw [hD0] at hcm
        have Hbd := hide hbd
        have Hbn := hide hbn
        have Hbm := hide hbm
        have Htp := hide htp
        clear hbd hbn hbm htp
        have bz : Blk w4 gx 32 #[.int .u32 xv, .int .u16 xl, .int .u16 xm, .int .u8 xt, .int .u8 xs, .int .u8 xd] := HM.out.get 1 rfl
        have ltz := bz.lt
        have z0 := bz.c 0 rfl
        have z1 := bz.c 1 rfl
        have z2 := bz.c 2 rfl
        have z3 := bz.c 3 rfl
        have z4 := bz.c 4 rfl
        have z5 := bz.c 5 rfl
        have hjn : ((j : Int) + 1) - 1 = j := by omega
        have hj2 : (j : Int) ≤ 1 := by omega
        go_wp2_with fail
        refine (Hdy.out _).mono ?_
        rintro e w5 ⟨rfl, hb⟩
        replace HM := hide (HM.out.later hb)
        replace Hbd := hide (blk_later Hbd.out hb)
        replace Hbn := hide (blk_later Hbn.out hb)
        replace Hbm := hide (blk_later Hbm.out hb)
        clear hb bz ltz z0 z1 z2 z3 z4 z5
        go_wp2_with fail
        have bL := Mem.blk_ HM.out 7 rfl
        have l0' := bL.c _ hcp.1
        have l1' := bL.c _ hcp.2.1
        have l2' := bL.c _ hcp.2.2.1
        have l3' := bL.c _ hcp.2.2.2.1
        have l4' := bL.c _ hcp.2.2.2.2.1
        have l5' := bL.c _ hcp.2.2.2.2.2
        have ltL := bL.lt
        have cd0 := Hbd.out.c _ hcd
        have cn0 := Hbn.out.c _ hcn
        have cm0 := Hbm.out.c _ hcm
        have ltd := Hbd.out.lt
        have ltn := Hbn.out.lt
        have ltm := Hbm.out.lt
        apply wp_region_L (w0 := w5) [[], [], [], [], [], [], [], [], [], [], [], [], [], [], [], [], [], [], [], [], [], [], [], [], [], [], [], [], [], [], [], [], [], [], []] [true, true, true, true, true, true, true, true, true, true, true, true, true, true, true, true, true, true, true, true, true, true, true, true, true, true, true, true, true, true, true, true, true, true, true] [] (fun ixq y => match ixq with  | _ => undef) (fun ixq x F wq => match ixq with  | _ => True) (fun a x => a) (by kernel_rfl) (by kernel_rfl) (fun _ => rfl) [123] (by kernel_rfl)
        · intro x D hD
          have hne := hD.some
          have k0 := liftB hD l0' (by first | assumption | omega)
          have k1 := liftB hD l1' (by first | assumption | omega)
          have k2 := liftB hD l2' (by first | assumption | omega)
          have k3 := liftB hD l3' (by first | assumption | omega)
          have k4 := liftB hD l4' (by first | assumption | omega)
          have k5 := liftB hD l5' (by first | assumption | omega)
          have kd := liftB hD cd0 (by first | assumption | omega)
          have kn := liftB hD cn0 (by first | assumption | omega)
          have km := liftB hD cm0 (by first | assumption | omega)
          simp only [takeOps, Act.put, List.setIfInBounds_toArray, List.set_cons_succ, List.set_cons_zero]
          repeat (go_big_quiet_step ((go_at_call 20; exact calls_later hD _ (Htp.out _))))
          exact wpQuiet_nil rfl
        · intro d hd x x'
          simp only [List.mem_cons, List.not_mem_nil, or_false] at hd
          rcases hd with rfl
          all_goals rfl
        · exact trivial
        · exact trivial
        intro xx w6 F hL hlv2
        clear hlv2
        clear l0' l1' l2' l3' l4' l5' ltL bL
        replace HM := hide (HM.out.later hL)
        replace Hbd := hide (blk_later Hbd.out hL)
        replace Hbn := hide (blk_later Hbn.out hL)
        replace Hbm := hide (blk_later Hbm.out hL)
        clear hL
        obtain ⟨q2, hq2⟩ : ∃ q2 : Int, xl % 500 = q2 := ⟨_, rfl⟩
        have hq2t : xl.tmod 500 = q2 := by rw [tmod_pos l0, hq2]
        obtain ⟨q3, hq3⟩ : ∃ q3 : Int, xm % 500 = q3 := ⟨_, rfl⟩
        have hq3t : xm.tmod 500 = q3 := by rw [tmod_pos m0, hq3]
        have hq23b : 0 ≤ q2 ∧ q2 ≤ 499 ∧ 0 ≤ q3 ∧ q3 ≤ 499 := by omega
        obtain ⟨lo1, hlo1⟩ : ∃ lo1 : Int, max 1 (r0 - q2) = lo1 := ⟨_, rfl⟩
        obtain ⟨hi1, hhi1⟩ : ∃ hi1 : Int, r0 + q3 = hi1 := ⟨_, rfl⟩
        have hS : stdN lv (j + 1) = ⟨nmN (j + 1), nmN j, lo1, hi1, D1 * 86400, 4294967296, dr⟩ := by
          unfold stdN
          rw [hday]
          simp only [loN, hiN, Hx.out, rat, Hdrf.out, hq1, hq2, hq3, hr0, hlo1, hhi1]
          rfl
        clear cd0 cn0 cm0 ltd ltn ltm
        go_wp2_with fail
        have bz : Blk w6 gx 32 #[.int .u32 xv, .int .u16 xl, .int .u16 xm, .int .u8 xt, .int .u8 xs, .int .u8 xd] := HM.out.get 1 rfl
        have ltz := bz.lt
        have z0 := bz.c 0 rfl
        have z1 := bz.c 1 rfl
        have z2 := bz.c 2 rfl
        have z3 := bz.c 3 rfl
        have z4 := bz.c 4 rfl
        have z5 := bz.c 5 rfl
        have bs := Mem.blk_ HM.out 0 rfl
        have bN := Mem.blk_ HM.out 6 rfl
        have cn := bN.c j (nmsC_at (by omega))
        have ltn := bN.lt
        have lts := bs.lt
        have ne1 : gs ≠ gx := Mem.ne HM.out 0 1 rfl rfl (by decide)
        have ne6 : gs ≠ gN := Mem.ne HM.out 0 6 rfl rfl (by decide)
        have hltL3 : ∀ qa ∈ ([(20, gs)] : List (Nat × Nat)), qa.2 < w6.heap.size := by intro qa hq; simp only [List.mem_cons, List.not_mem_nil, or_false] at hq; rcases hq with rfl <;> first | assumption | omega
        have hneL3 : ∀ qa ∈ ([(20, gs)] : List (Nat × Nat)), ((.slice none 0 0) : Value).ownBlock ≠ some qa.2 := by intro qa hq; simp only [List.mem_cons, List.not_mem_nil, or_false] at hq; rcases hq with rfl <;> first | assumption | (simp [Value.ownBlock]; done)
        have hccL3 : ∀ qa ∈ ([(20, gs)] : List (Nat × Nat)), ∀ qb ∈ ([(20, gs)] : List (Nat × Nat)), qa.1 ≠ qb.1 → qa.2 ≠ qb.2 := by intro qa hp qb hq h; simp only [List.mem_cons, List.not_mem_nil, or_false] at hp hq; rcases hp with rfl <;> rcases hq with rfl <;> first | (exact absurd rfl h) | assumption | (exact Ne.symm (by assumption)) | omega
        refine wp_region_cut 21 (by kernel_rfl) (by simp only [List.take_succ_cons, List.take_zero]; exact rfl) (by simp only [List.drop_succ_cons, List.drop_zero]; exact rfl) (by kernel_rfl) ?_
        apply any_region_F (w0 := w6) [[], [], [1], [0, 1, 2], [0, 1, 2, 3], [], [], [6], [6, 7], [6, 7, 8], [5, 6, 7, 8, 9], [5, 6, 7, 8, 9, 10], [], [], [13], [13, 14], [13, 14, 15], [12, 13, 14, 15, 16], [5, 6, 7, 8, 9, 10, 11, 12, 13, 14, 15, 16, 17], [0, 1, 2, 3, 4], [0, 1, 2, 3, 4, 19]] [true, true, true, true, true, false, false, false, false, false, false, false, false, false, false, false, false, false, false, true, false] [false, false, false, false, false, true, true, true, true, true, true, true, true, true, true, true, true, true, true, false, false] [⟨20, none, [], []⟩] (fillL 0 (.slice none 0 0) [(20, gs)]) [20] (fun ixq y => match ixq with | 20 => undef | _ => undef) (fun ixq x F wq => match ixq with | 20 => F gs ∧ Blk wq gs 43 #[.string (nmN (j + 1)), .string (nmN j), .int .i64 lo0, .int .i64 hi0, .int .i64 0, .int .i64 4294967296, .int .i64 dr] | _ => True) (fun a x => (a).put (none) (undef)) (by kernel_rfl) (by kernel_rfl) (fun _ => rfl) [] (by kernel_rfl) (fillL_lt (fun g hg => by simp [Value.ownBlock] at hg) hltL3) (fillL_ne hneL3 hccL3)
        · intro x D hD
          have hne := hD.some
          have kn := liftS hD cn (earlyL (by first | assumption | omega) (by simp [Value.ownBlock]) (by intro q hq e; simp only [List.mem_cons, List.not_mem_nil, or_false] at hq; rcases hq with rfl <;> first | (simp; done) | (exact absurd e (by first | assumption | (exact Ne.symm (by assumption)) | (simp only; omega)))))
          simp only [takeOps, Act.put, List.setIfInBounds_toArray, List.set_cons_succ, List.set_cons_zero]
          repeat (go_big_quiet_step (fail))
          exact wpQuiet_nil rfl
        · intro x D hD
          have hne := hD.some
          have k0 := liftS hD z0 ⟨by first | assumption | omega, freeL (by simp [Value.ownBlock]) (by intro q hq; simp only [List.mem_cons, List.not_mem_nil, or_false] at hq; rcases hq with rfl <;> first | assumption | (exact Ne.symm (by assumption)) | (simp only; omega))⟩
          have k1 := liftS hD z1 ⟨by first | assumption | omega, freeL (by simp [Value.ownBlock]) (by intro q hq; simp only [List.mem_cons, List.not_mem_nil, or_false] at hq; rcases hq with rfl <;> first | assumption | (exact Ne.symm (by assumption)) | (simp only; omega))⟩
          have k2 := liftS hD z2 ⟨by first | assumption | omega, freeL (by simp [Value.ownBlock]) (by intro q hq; simp only [List.mem_cons, List.not_mem_nil, or_false] at hq; rcases hq with rfl <;> first | assumption | (exact Ne.symm (by assumption)) | (simp only; omega))⟩
          have k3 := liftS hD z3 ⟨by first | assumption | omega, freeL (by simp [Value.ownBlock]) (by intro q hq; simp only [List.mem_cons, List.not_mem_nil, or_false] at hq; rcases hq with rfl <;> first | assumption | (exact Ne.symm (by assumption)) | (simp only; omega))⟩
          have k4 := liftS hD z4 ⟨by first | assumption | omega, freeL (by simp [Value.ownBlock]) (by intro q hq; simp only [List.mem_cons, List.not_mem_nil, or_false] at hq; rcases hq with rfl <;> first | assumption | (exact Ne.symm (by assumption)) | (simp only; omega))⟩
          have k5 := liftS hD z5 ⟨by first | assumption | omega, freeL (by simp [Value.ownBlock]) (by intro q hq; simp only [List.mem_cons, List.not_mem_nil, or_false] at hq; rcases hq with rfl <;> first | assumption | (exact Ne.symm (by assumption)) | (simp only; omega))⟩
          simp only [takeOps, Act.put, List.setIfInBounds_toArray, List.set_cons_succ, List.set_cons_zero]
          repeat (go_big_quiet_step (fail))
          exact wpQuiet_nil rfl
        · exact fun _ h => absurd h (by simp)
        · refine ⟨?_, trivial⟩
          · exact obl_setv 9 43 166 151 gs 1 _ (fun x => .string (nmN j)) (fun x => #[.string (nmN (j + 1)), .string (nmN j), .int .i64 lo0, .int .i64 hi0, .int .i64 0, .int .i64 4294967296, .int .i64 dr]) (by kernel_rfl) (fun _ => rfl) (fun _ => rfl) (fun _ => rfl) bs (ebL_cell (by simp) (by first | assumption | (simp [Value.ownBlock]; done)) hccL3) (wrL_cell (by simp)) (by kernel_rfl) (by simp) (fun _ => rfl) (fun _ => rfl) (fun _ _ _ _ h1 h2 => ⟨h1, h2⟩)
        · refine ⟨?_, trivial⟩
          · exact owe_fill gs 43 (fun x => #[.string (nmN (j + 1)), .string (nmN j), .int .i64 lo0, .int .i64 hi0, .int .i64 0, .int .i64 4294967296, .int .i64 dr]) (fun _ _ _ => rfl) (fun _ _ _ => rfl)
        intro xx w7 F hK hlv3 hap3
        clear hap3
        obtain ⟨fct20, -⟩ := hlv3
        replace fct20 : (F 20) gs ∧ Blk w7 gs 43 #[.string (nmN (j + 1)), .string (nmN j), .int .i64 lo0, .int .i64 hi0, .int .i64 0, .int .i64 4294967296, .int .i64 dr] := fct20 rfl
        refine ⟨rfl, ?_⟩
        clear cn ltn bN bs lts
        clear bz ltz z0 z1 z2 z3 z4 z5
        have HM1 := hide (HM.out.filled 0 rfl hK (by simp [mem_fillL, Value.ownBlock]) fct20.2)
        clear HM hK fct20
        have HM := HM1
        clear HM1
        have bs := Mem.blk_ HM.out 0 rfl
        have lts := bs.lt
        have c0 := bs.c 0 rfl
        have c1 := bs.c 1 rfl
        have c2 := bs.c 2 rfl
        have c3 := bs.c 3 rfl
        have c4 := bs.c 4 rfl
        have c5 := bs.c 5 rfl
        have c6 := bs.c 6 rfl
        have f2 := bs.frozen 2
        have f3 := bs.frozen 3
        have f4 := bs.frozen 4
        go_wp2_with fail
        refine at_world fun w8 hW => ?_
        have HM8 := hide (Mem.to (((HM.out.set_ 0 rfl 2 (.int .i64 lo1) rfl).set_ 0 rfl 3 (.int .i64 hi1) rfl).set_ 0 rfl 4 (.int .i64 (D1 * 86400)) (cs' := #[.string (nmN (j + 1)), .string (nmN j), .int .i64 lo1, .int .i64 hi1, .int .i64 (D1 * 86400), .int .i64 4294967296, .int .i64 dr]) rfl) hW)
        clear HM hW bs lts c0 c1 c2 c3 c4 c5 c6 f2 f3 f4
        have HM := HM8
        clear HM8
        have hbk := Mem.book_ HM.out 5 rfl
        have e := bookL_define lv mbs Hlv.out hk
        rw [hS] at e
        have c1 := Define_any (bookL lv mbs (j + 1)) p L3 ⟨nmN (j + 1), (nmN j), lo1, hi1, D1 * 86400, 4294967296, dr⟩ w8 hbk (by show 1 ≤ maxLen; decide) (by show 1 ≤ maxLen; decide)
        rw [e] at c1
        refine c1.mono ?_
        clear c1 e hbk
        rintro e w9 ⟨rfl, hp⟩
        obtain ⟨L9, HMn⟩ := HM.out.enter 5 rfl hp
        replace HM := hide HMn
        clear HMn hp
        rw [if_pos rfl, show (Ent.define ⟨nmN (j + 1), (nmN j), lo1, hi1, D1 * 86400, 4294967296, dr⟩ :: bookL lv mbs (j + 1)) = bookL lv mbs ((j + 1) + 1) by rw [← hS]; rfl] at HM
        obtain ⟨i0, hii, hz0, hz1, hz2⟩ := info_parts intInfo
        have Hi := hide hii
        have Hz0 := hide hz0
        have Hz1 := hide hz1
        have Hz2 := hide hz2
        clear hii hz0 hz1 hz2
        have hownM := Mem.row_ HM.out 4 rfl
        have hbaseM : w.heap.size ≤ w9.heap.size := HM.out.size
        go_wp2_with (at_builtin; refine wpList_append_own_at _ rfl (.tmp 175) (.tmp 177) _ rfl w.heap.size 3 i0 _ 1 8 Try.underlying40 Hi.out Hz0.out Hz1.out Hz2.out rfl (by decide) _ (j + 1) (dayV lv (j + 1)) rfl (hownM.alloc _) ⟨w9.heap.size, 0, none⟩ 1 1 [.int .i64 D1] rfl rfl ?q4c1 (by intro u hu; simp only [List.mem_cons, List.not_mem_nil, or_false] at hu; rcases hu with rfl <;> rfl) ?q4c3 ?q4c4 ?q4c5 ?_)
        try case q4c1 => exact new_cellsQ w9 _ [.int .i64 D1]
        case q4c3 => unfold maxLen; omega
        case q4c4 => omega
        case q4c5 => simp; omega
        intro mv2 w10 hown2 hgr2 _ hat2
        have HMn := HM.out.grow 4 rfl _ hgr2 hown2 hat2
        replace HM := hide HMn
        clear HMn hown2 hgr2 hat2 hownM hbaseM
        have hownM := Mem.row_ HM.out 3 rfl
        have hbaseM : w.heap.size ≤ w10.heap.size := HM.out.size
        go_wp2_with (at_builtin; refine wpList_append_own_at _ rfl (.tmp 179) (.tmp 181) _ rfl w.heap.size 3 i0 _ 1 8 Try.underlying40 Hi.out Hz0.out Hz1.out Hz2.out rfl (by decide) _ (j + 1) (numVN lv (j + 1)) rfl (hownM.alloc _) ⟨w10.heap.size, 0, none⟩ 1 1 [.int .i64 num] rfl rfl ?q5c1 (by intro u hu; simp only [List.mem_cons, List.not_mem_nil, or_false] at hu; rcases hu with rfl <;> rfl) ?q5c3 ?q5c4 ?q5c5 ?_)
        try case q5c1 => exact new_cellsQ w10 _ [.int .i64 num]
        case q5c3 => unfold maxLen; omega
        case q5c4 => omega
        case q5c5 => simp; omega
        intro nv2 w11 hown2 hgr2 _ hat2
        have HMn := HM.out.grow 3 rfl _ hgr2 hown2 hat2
        replace HM := hide HMn
        clear HMn hown2 hgr2 hat2 hownM hbaseM
        have hownM := Mem.row_ HM.out 2 rfl
        have hbaseM : w.heap.size ≤ w11.heap.size := HM.out.size
        go_wp2_with (at_builtin; refine wpList_append_own_at _ rfl (.tmp 183) (.tmp 185) _ rfl w.heap.size 3 i0 _ 1 8 Try.underlying40 Hi.out Hz0.out Hz1.out Hz2.out rfl (by decide) _ (j + 1) (denV (j + 1)) rfl (hownM.alloc _) ⟨w11.heap.size, 0, none⟩ 1 1 [.int .i64 den] rfl rfl ?q6c1 (by intro u hu; simp only [List.mem_cons, List.not_mem_nil, or_false] at hu; rcases hu with rfl <;> rfl) ?q6c3 ?q6c4 ?q6c5 ?_)
        try case q6c1 => exact new_cellsQ w11 _ [.int .i64 den]
        case q6c3 => unfold maxLen; omega
        case q6c4 => omega
        case q6c5 => simp; omega
        intro dv2 w12 hown2 hgr2 _ hat2
        have HMn := HM.out.grow 2 rfl _ hgr2 hown2 hat2
        replace HM := hide HMn
        clear HMn hown2 hgr2 hat2 hownM hbaseM
        have hr1 : dayV lv (j + 1) ++ [.int .i64 D1] = dayV lv ((j + 1) + 1) := by rw [dayV_succ lv ((j + 1)), hday]
        have hr2 : numVN lv (j + 1) ++ [.int .i64 num] = numVN lv ((j + 1) + 1) := by rw [numVN_succ lv ((j + 1)), hnum]
        have hr3 : denV (j + 1) ++ [.int .i64 den] = denV ((j + 1) + 1) := by rw [denV_succ ((j + 1)), hden]
        rw [hr1, hr2, hr3] at HM
        clear hr1 hr2 hr3
        clear hst
        go_wp2_with fail
        refine trl2 lv Hlv.out mbs (j + 1) hk _ (by first | rfl | omega) num den D1 tn xv xl xm xt xs xd ak hnum hden hday (by rw [Hx.out]; exact Htrn.out) Hx.out a0 a1 p gx gN L9 w _ _ _ _ _ HM.out ?_
        clear HM
        intro kv14 kv30 kv31 kv32 kv33 kv187 kv188 kv189 kv190 kv191 kv192 kv193 kv194 kv195 kv196 kv197 kv198 kv199 kv200 kv201 kv202 kv203 kv204 kv205 kv206 kv207 kv208 kv209 kv210 kv211 kv212 kv213 kv214 kv215 kv216 kv217 kv218 kv219 kv220 kv221 kv222 kv223 kv224 kv225 kv226 kv227 kv228 kv229 kv230 kv231 kv232 kv233 kv234 kv235 kv236 kv237 kv238 kv239 kv240
        intro w15 hM
        have HM := hide hM
        clear hM
        go_wp2_with fail
        go_roundw
        case rel => exact ⟨(j + 1) + 1, _, by omega, by go_num, by rw [← hday]; rfl, HM.out.tail.tail⟩
        case measure => simp [intOf] <;> omega
    · have hk3' : k = 3 := by omega
      subst hk3'
      rw [show ((3 : Nat) : Int) = (3 : Int) from rfl]
      go_wp2_with fail
      exact HX.out HM.out
end Go.Proofs.Ytiggefmckomilaa
