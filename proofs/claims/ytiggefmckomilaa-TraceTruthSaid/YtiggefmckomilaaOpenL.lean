/-
  The law TraceTruth: its third loop.
  The law TraceTruth returns true.
  The arguments of the law TraceTruth, opened: levels, probes; bounds of small integers.
-/
import Derived.Test.YtiggefmckomilaaTrL2
import Derived.Test.YtiggefmckomilaaTraceDep
import Derived.Test.YtiggefmckomilaaRegC
import Derived.Test.YtiggefmckomilaaTrL1
import Derived.Test.YtiggefmckomilaaRows
set_option linter.unusedSimpArgs false
set_option linter.unusedVariables false
namespace Go.Proofs.Ytiggefmckomilaa
open Go Go.RowKit

set_option maxRecDepth 1000000 in
noncomputable def trl3C : Code := ((loopsOf ((Try.f4.body).getD .skip))[2]?).getD .skip
set_option maxHeartbeats 8000000 in
set_option maxRecDepth 1000000 in
theorem trl3 {kc0 kc2 kc3 kc4 kc8 kc9 kc10 kc11 kc12 kc13 ku14 kc22 kc23 kc24 kc25 kc26 kc27 kc28 kc29 kc30 kc31 kc32 kc33 ku35 ku36 ku37 ku38 ku39 ku40 ku41 ku42 ku43 ku44 ku45 ku46 ku47 kc48 kc49 kc50 kc51 kc52 kc53 kc54 kc55 kc56 kc57 kc58 kc59 kc60 kc61 kc62 kc63 kc64 kc65 kc66 kc67 kc68 kc69 kc70 kc71 kc72 kc73 kc74 kc75 kc76 kc77 kc78 kc79 kc80 kc81 kc82 kc83 kc84 kc85 kc86 kc87 kc88 kc89 kc90 kc91 kc92 kc93 kc94 kc95 kc96 kc97 kc98 kc99 kc100 kc101 kc102 kc103 kc104 kc105 kc106 kc107 kc108 kc109 kc110 kc111 kc112 kc113 kc114 kc115 kc116 kc117 kc118 kc119 kc120 kc121 kc122 kc123 kc124 kc125 kc126 kc127 kc128 kc129 kc130 kc131 kc132 kc133 kc134 kc135 kc136 kc137 kc138 kc139 kc140 kc141 kc142 kc143 kc144 kc145 kc146 kc147 kc148 kc149 kc150 kc151 kc152 kc153 kc154 kc155 kc156 kc157 kc158 kc159 kc160 kc161 kc162 kc163 kc164 kc165 kc166 kc167 kc168 kc169 kc170 kc171 kc172 kc173 kc174 kc175 kc176 kc177 kc178 kc179 kc180 kc181 kc182 kc183 kc184 kc185 kc186 kc187 kc188 kc189 kc190 kc191 kc192 kc193 kc194 kc195 kc196 kc197 kc198 kc199 kc200 kc201 kc202 kc203 kc204 kc205 kc206 kc207 kc208 kc209 kc210 kc211 kc212 kc213 kc214 kc215 kc216 kc217 kc218 kc219 kc220 kc221 kc222 kc223 kc224 kc225 kc226 kc227 kc228 kc229 kc230 kc231 kc232 kc233 kc234 kc235 kc236 kc237 kc238 kc239 kc240 ku241 ku242 ku243 ku244 ku245 ku246 ku247 ku248 ku249 ku250 ku251 ku252 ku253 ku254 ku255 ku256 ku257 ku258 ku259 ku260 ku261 ku262 ku263 ku264 ku265 ku266 ku267 ku268 ku269 ku270 ku271 ku272 ku273 ku274 ku275 ku276 ku277 ku278 ku279 ku280 ku281 ku282 ku283 ku284 ku285 ku286 ku287 ku288 ku289 ku290 ku291 ku292 ku293 ku294 ku295 ku296 ku297 ku298 ku299 ku300 ku301 ku302 ku303 ku304 ku305 ku306 ku307 ku308 ku309 ku310 ku311 ku312 ku313 ku314 ku315 ku316 ku317 ku318 ku319 ku320 ku321 ku322 ku323 ku324 ku325 ku326 ku327 ku328 ku329 ku330 ku331 ku332 ku333 ku334 ku335 ku336 ku337 ku338 ku339 ku340 ku341 ku342 ku343 ku344 ku345 ku346 ku347 ku348 ku349 ku350 ku351 ku352 ku353 ku354 ku355 ku356 ku357 ku358 ku359 ku360 ku361 ku362 ku363 ku364 ku365 ku366 ku367 ku368 ku369 ku370 ku371 ku372 ku373 ku374 ku375 ku376 ku377 ku378 ku379 ku380 ku381 ku382 ku383 ku384 ku385 ku386 ku387 ku388 ku389 ku390 ku391 ku392 ku393 ku394 ku395 ku396 ku397 ku398 ku399 ku400 ku401 ku402 ku403 ku404 ku405 ku406 ku407 ku408 ku409 ku410 ku411 ku412 ku413 ku414 ku415 ku416 ku417 ku418 ku419 ku420 kc421 : Value} (lv : Nat → Lv) (hlv : ∀ k, LvOk (lv k)) (pb : Nat → Pb) (hpb : ∀ i, PbOk (pb i)) (A : Option Addr) (n c : Nat) (w : World) (hrow : Rows_ w w.heap.size A n 3 (fun i => pbL (pb i))) (hn20 : n ≤ 20) (gm bt mbs ak pw : Int) (hok : GainOk (3000 + gm) bt mbs) (hb9 : -9 ≤ bt ∧ bt ≤ 9) (hgm2 : 0 ≤ gm ∧ gm ≤ 1999) (a0 : 0 ≤ ak) (a1 : ak ≤ 255) (p0 : 0 ≤ pw) (p1 : pw ≤ 4294967295) (LV : Array Value) (hlc : ∀ (k : Nat), k < 3 → LV[k * 6]? = some (.int .u32 (lv k).v) ∧ LV[k * 6 + 1]? = some (.int .u16 (lv k).l) ∧ LV[k * 6 + 2]? = some (.int .u16 (lv k).m) ∧ LV[k * 6 + 3]? = some (.int .u8 (lv k).t) ∧ LV[k * 6 + 4]? = some (.int .u8 (lv k).s) ∧ LV[k * 6 + 5]? = some (.int .u8 (lv k).d)) (p gN g0 bd bn bm cd' cn' cm' : Nat) (curd curn curm : Array Value) (L : Lay) (hcd : ∀ (i : Nat) (v : Value), (denV 3)[i]? = some v → curd[i]? = some v) (hcn : ∀ (i : Nat) (v : Value), (numVN lv 3)[i]? = some v → curn[i]? = some v) (hcm : ∀ (i : Nat) (v : Value), (dayV lv 3)[i]? = some v → curm[i]? = some v) {Q : Exit → Act → World → Prop} {wr : World} (hM : Mem w [.blk bd 3 curd, .blk bn 3 curn, .blk bm 3 curm, .book (bookP lv (3000 + gm) bt mbs pb 0) p L, .blk gN 9 nmsC, .blk g0 33 LV] wr)
    (hexit : ∀ ⦃kv14 kv35 kv36 kv37 kv38 kv39 kv40 kv41 kv42 kv43 kv44 kv45 kv46 kv47 kv241 kv242 kv243 kv244 kv245 kv246 kv247 kv248 kv249 kv250 kv251 kv252 kv253 kv254 kv255 kv256 kv257 kv258 kv259 kv260 kv261 kv262 kv263 kv264 kv265 kv266 kv267 kv268 kv269 kv270 kv271 kv272 kv273 kv274 kv275 kv276 kv277 kv278 kv279 kv280 kv281 kv282 kv283 kv284 kv285 kv286 kv287 kv288 kv289 kv290 kv291 kv292 kv293 kv294 kv295 kv296 kv297 kv298 kv299 kv300 kv301 kv302 kv303 kv304 kv305 kv306 kv307 kv308 kv309 kv310 kv311 kv312 kv313 kv314 kv315 kv316 kv317 kv318 kv319 kv320 kv321 kv322 kv323 kv324 kv325 kv326 kv327 kv328 kv329 kv330 kv331 kv332 kv333 kv334 kv335 kv336 kv337 kv338 kv339 kv340 kv341 kv342 kv343 kv344 kv345 kv346 kv347 kv348 kv349 kv350 kv351 kv352 kv353 kv354 kv355 kv356 kv357 kv358 kv359 kv360 kv361 kv362 kv363 kv364 kv365 kv366 kv367 kv368 kv369 kv370 kv371 kv372 kv373 kv374 kv375 kv376 kv377 kv378 kv379 kv380 kv381 kv382 kv383 kv384 kv385 kv386 kv387 kv388 kv389 kv390 kv391 kv392 kv393 kv394 kv395 kv396 kv397 kv398 kv399 kv400 kv401 kv402 kv403 kv404 kv405 kv406 kv407 kv408 kv409 kv410 kv411 kv412 kv413 kv414 kv415 kv416 kv417 kv418 kv419 kv420 : Value⦄  ⦃w2 : World⦄, Below w.heap.size w w2 → Q (.exit 4) ⟨List.toArray (kc0 :: .slice A n c :: kc2 :: kc3 :: kc4 :: .int .u8 ak :: .int .u32 pw :: .pointer (some ⟨g0, 0, none⟩) :: kc8 :: kc9 :: kc10 :: kc11 :: kc12 :: kc13 :: kv14 :: .slice (some ⟨gN, 0, none⟩) 3 3 :: .pointer (some ⟨p, 0, none⟩) :: .int .i64 (3000 + gm) :: .int .i64 bt :: .slice (some ⟨bm, 0, none⟩) 3 cm' :: .slice (some ⟨bn, 0, none⟩) 3 cn' :: .slice (some ⟨bd, 0, none⟩) 3 cd' :: kc22 :: kc23 :: kc24 :: kc25 :: kc26 :: kc27 :: kc28 :: kc29 :: kc30 :: kc31 :: kc32 :: kc33 :: .int .i64 (n : Int) :: kv35 :: kv36 :: kv37 :: kv38 :: kv39 :: kv40 :: kv41 :: kv42 :: kv43 :: kv44 :: kv45 :: kv46 :: kv47 :: kc48 :: kc49 :: kc50 :: kc51 :: kc52 :: kc53 :: kc54 :: kc55 :: kc56 :: kc57 :: kc58 :: kc59 :: kc60 :: kc61 :: kc62 :: kc63 :: kc64 :: kc65 :: kc66 :: kc67 :: kc68 :: kc69 :: kc70 :: kc71 :: kc72 :: kc73 :: kc74 :: kc75 :: kc76 :: kc77 :: kc78 :: kc79 :: kc80 :: kc81 :: kc82 :: kc83 :: kc84 :: kc85 :: kc86 :: kc87 :: kc88 :: kc89 :: kc90 :: kc91 :: kc92 :: kc93 :: kc94 :: kc95 :: kc96 :: kc97 :: kc98 :: kc99 :: kc100 :: kc101 :: kc102 :: kc103 :: kc104 :: kc105 :: kc106 :: kc107 :: kc108 :: kc109 :: kc110 :: kc111 :: kc112 :: kc113 :: kc114 :: kc115 :: kc116 :: kc117 :: kc118 :: kc119 :: kc120 :: kc121 :: kc122 :: kc123 :: kc124 :: kc125 :: kc126 :: kc127 :: kc128 :: kc129 :: kc130 :: kc131 :: kc132 :: kc133 :: kc134 :: kc135 :: kc136 :: kc137 :: kc138 :: kc139 :: kc140 :: kc141 :: kc142 :: kc143 :: kc144 :: kc145 :: kc146 :: kc147 :: kc148 :: kc149 :: kc150 :: kc151 :: kc152 :: kc153 :: kc154 :: kc155 :: kc156 :: kc157 :: kc158 :: kc159 :: kc160 :: kc161 :: kc162 :: kc163 :: kc164 :: kc165 :: kc166 :: kc167 :: kc168 :: kc169 :: kc170 :: kc171 :: kc172 :: kc173 :: kc174 :: kc175 :: kc176 :: kc177 :: kc178 :: kc179 :: kc180 :: kc181 :: kc182 :: kc183 :: kc184 :: kc185 :: kc186 :: kc187 :: kc188 :: kc189 :: kc190 :: kc191 :: kc192 :: kc193 :: kc194 :: kc195 :: kc196 :: kc197 :: kc198 :: kc199 :: kc200 :: kc201 :: kc202 :: kc203 :: kc204 :: kc205 :: kc206 :: kc207 :: kc208 :: kc209 :: kc210 :: kc211 :: kc212 :: kc213 :: kc214 :: kc215 :: kc216 :: kc217 :: kc218 :: kc219 :: kc220 :: kc221 :: kc222 :: kc223 :: kc224 :: kc225 :: kc226 :: kc227 :: kc228 :: kc229 :: kc230 :: kc231 :: kc232 :: kc233 :: kc234 :: kc235 :: kc236 :: kc237 :: kc238 :: kc239 :: kc240 :: kv241 :: kv242 :: kv243 :: kv244 :: kv245 :: kv246 :: kv247 :: kv248 :: kv249 :: kv250 :: kv251 :: kv252 :: kv253 :: kv254 :: kv255 :: kv256 :: kv257 :: kv258 :: kv259 :: kv260 :: kv261 :: kv262 :: kv263 :: kv264 :: kv265 :: kv266 :: kv267 :: kv268 :: kv269 :: kv270 :: kv271 :: kv272 :: kv273 :: kv274 :: kv275 :: kv276 :: kv277 :: kv278 :: kv279 :: kv280 :: kv281 :: kv282 :: kv283 :: kv284 :: kv285 :: kv286 :: kv287 :: kv288 :: kv289 :: kv290 :: kv291 :: kv292 :: kv293 :: kv294 :: kv295 :: kv296 :: kv297 :: kv298 :: kv299 :: kv300 :: kv301 :: kv302 :: kv303 :: kv304 :: kv305 :: kv306 :: kv307 :: kv308 :: kv309 :: kv310 :: kv311 :: kv312 :: kv313 :: kv314 :: kv315 :: kv316 :: kv317 :: kv318 :: kv319 :: kv320 :: kv321 :: kv322 :: kv323 :: kv324 :: kv325 :: kv326 :: kv327 :: kv328 :: kv329 :: kv330 :: kv331 :: kv332 :: kv333 :: kv334 :: kv335 :: kv336 :: kv337 :: kv338 :: kv339 :: kv340 :: kv341 :: kv342 :: kv343 :: kv344 :: kv345 :: kv346 :: kv347 :: kv348 :: kv349 :: kv350 :: kv351 :: kv352 :: kv353 :: kv354 :: kv355 :: kv356 :: kv357 :: kv358 :: kv359 :: kv360 :: kv361 :: kv362 :: kv363 :: kv364 :: kv365 :: kv366 :: kv367 :: kv368 :: kv369 :: kv370 :: kv371 :: kv372 :: kv373 :: kv374 :: kv375 :: kv376 :: kv377 :: kv378 :: kv379 :: kv380 :: kv381 :: kv382 :: kv383 :: kv384 :: kv385 :: kv386 :: kv387 :: kv388 :: kv389 :: kv390 :: kv391 :: kv392 :: kv393 :: kv394 :: kv395 :: kv396 :: kv397 :: kv398 :: kv399 :: kv400 :: kv401 :: kv402 :: kv403 :: kv404 :: kv405 :: kv406 :: kv407 :: kv408 :: kv409 :: kv410 :: kv411 :: kv412 :: kv413 :: kv414 :: kv415 :: kv416 :: kv417 :: kv418 :: kv419 :: kv420 :: kc421 :: []), []⟩ w2) :
    Code.wp Try.prog trl3C Q ⟨List.toArray (kc0 :: .slice A n c :: kc2 :: kc3 :: kc4 :: .int .u8 ak :: .int .u32 pw :: .pointer (some ⟨g0, 0, none⟩) :: kc8 :: kc9 :: kc10 :: kc11 :: kc12 :: kc13 :: ku14 :: .slice (some ⟨gN, 0, none⟩) 3 3 :: .pointer (some ⟨p, 0, none⟩) :: .int .i64 (3000 + gm) :: .int .i64 bt :: .slice (some ⟨bm, 0, none⟩) 3 cm' :: .slice (some ⟨bn, 0, none⟩) 3 cn' :: .slice (some ⟨bd, 0, none⟩) 3 cd' :: kc22 :: kc23 :: kc24 :: kc25 :: kc26 :: kc27 :: kc28 :: kc29 :: kc30 :: kc31 :: kc32 :: kc33 :: .int .i64 0 :: ku35 :: ku36 :: ku37 :: ku38 :: ku39 :: ku40 :: ku41 :: ku42 :: ku43 :: ku44 :: ku45 :: ku46 :: ku47 :: kc48 :: kc49 :: kc50 :: kc51 :: kc52 :: kc53 :: kc54 :: kc55 :: kc56 :: kc57 :: kc58 :: kc59 :: kc60 :: kc61 :: kc62 :: kc63 :: kc64 :: kc65 :: kc66 :: kc67 :: kc68 :: kc69 :: kc70 :: kc71 :: kc72 :: kc73 :: kc74 :: kc75 :: kc76 :: kc77 :: kc78 :: kc79 :: kc80 :: kc81 :: kc82 :: kc83 :: kc84 :: kc85 :: kc86 :: kc87 :: kc88 :: kc89 :: kc90 :: kc91 :: kc92 :: kc93 :: kc94 :: kc95 :: kc96 :: kc97 :: kc98 :: kc99 :: kc100 :: kc101 :: kc102 :: kc103 :: kc104 :: kc105 :: kc106 :: kc107 :: kc108 :: kc109 :: kc110 :: kc111 :: kc112 :: kc113 :: kc114 :: kc115 :: kc116 :: kc117 :: kc118 :: kc119 :: kc120 :: kc121 :: kc122 :: kc123 :: kc124 :: kc125 :: kc126 :: kc127 :: kc128 :: kc129 :: kc130 :: kc131 :: kc132 :: kc133 :: kc134 :: kc135 :: kc136 :: kc137 :: kc138 :: kc139 :: kc140 :: kc141 :: kc142 :: kc143 :: kc144 :: kc145 :: kc146 :: kc147 :: kc148 :: kc149 :: kc150 :: kc151 :: kc152 :: kc153 :: kc154 :: kc155 :: kc156 :: kc157 :: kc158 :: kc159 :: kc160 :: kc161 :: kc162 :: kc163 :: kc164 :: kc165 :: kc166 :: kc167 :: kc168 :: kc169 :: kc170 :: kc171 :: kc172 :: kc173 :: kc174 :: kc175 :: kc176 :: kc177 :: kc178 :: kc179 :: kc180 :: kc181 :: kc182 :: kc183 :: kc184 :: kc185 :: kc186 :: kc187 :: kc188 :: kc189 :: kc190 :: kc191 :: kc192 :: kc193 :: kc194 :: kc195 :: kc196 :: kc197 :: kc198 :: kc199 :: kc200 :: kc201 :: kc202 :: kc203 :: kc204 :: kc205 :: kc206 :: kc207 :: kc208 :: kc209 :: kc210 :: kc211 :: kc212 :: kc213 :: kc214 :: kc215 :: kc216 :: kc217 :: kc218 :: kc219 :: kc220 :: kc221 :: kc222 :: kc223 :: kc224 :: kc225 :: kc226 :: kc227 :: kc228 :: kc229 :: kc230 :: kc231 :: kc232 :: kc233 :: kc234 :: kc235 :: kc236 :: kc237 :: kc238 :: kc239 :: kc240 :: ku241 :: ku242 :: ku243 :: ku244 :: ku245 :: ku246 :: ku247 :: ku248 :: ku249 :: ku250 :: ku251 :: ku252 :: ku253 :: ku254 :: ku255 :: ku256 :: ku257 :: ku258 :: ku259 :: ku260 :: ku261 :: ku262 :: ku263 :: ku264 :: ku265 :: ku266 :: ku267 :: ku268 :: ku269 :: ku270 :: ku271 :: ku272 :: ku273 :: ku274 :: ku275 :: ku276 :: ku277 :: ku278 :: ku279 :: ku280 :: ku281 :: ku282 :: ku283 :: ku284 :: ku285 :: ku286 :: ku287 :: ku288 :: ku289 :: ku290 :: ku291 :: ku292 :: ku293 :: ku294 :: ku295 :: ku296 :: ku297 :: ku298 :: ku299 :: ku300 :: ku301 :: ku302 :: ku303 :: ku304 :: ku305 :: ku306 :: ku307 :: ku308 :: ku309 :: ku310 :: ku311 :: ku312 :: ku313 :: ku314 :: ku315 :: ku316 :: ku317 :: ku318 :: ku319 :: ku320 :: ku321 :: ku322 :: ku323 :: ku324 :: ku325 :: ku326 :: ku327 :: ku328 :: ku329 :: ku330 :: ku331 :: ku332 :: ku333 :: ku334 :: ku335 :: ku336 :: ku337 :: ku338 :: ku339 :: ku340 :: ku341 :: ku342 :: ku343 :: ku344 :: ku345 :: ku346 :: ku347 :: ku348 :: ku349 :: ku350 :: ku351 :: ku352 :: ku353 :: ku354 :: ku355 :: ku356 :: ku357 :: ku358 :: ku359 :: ku360 :: ku361 :: ku362 :: ku363 :: ku364 :: ku365 :: ku366 :: ku367 :: ku368 :: ku369 :: ku370 :: ku371 :: ku372 :: ku373 :: ku374 :: ku375 :: ku376 :: ku377 :: ku378 :: ku379 :: ku380 :: ku381 :: ku382 :: ku383 :: ku384 :: ku385 :: ku386 :: ku387 :: ku388 :: ku389 :: ku390 :: ku391 :: ku392 :: ku393 :: ku394 :: ku395 :: ku396 :: ku397 :: ku398 :: ku399 :: ku400 :: ku401 :: ku402 :: ku403 :: ku404 :: ku405 :: ku406 :: ku407 :: ku408 :: ku409 :: ku410 :: ku411 :: ku412 :: ku413 :: ku414 :: ku415 :: ku416 :: ku417 :: ku418 :: ku419 :: ku420 :: kc421 :: []), []⟩ wr := by
  have HX := hide hexit
  clear hexit
  unfold trl3C
  conv => arg 2; whnf
  have HM := hide hM
  have Hlv := hide hlv
  have Hlc := hide hlc
  have Hcd := hide hcd
  have Hcn := hide hcn
  have Hcm := hide hcm
  have Hok := hide hok
  have Hrow := hide hrow
  have Hpb := hide hpb
  clear hlv hlc hcd hcn hcm hok hrow hpb
  clear hM
  have hi : ¬ (20 : Int) < n := by omega
  go_loopw [34] (fun i wr2 => ∃ (ii : Nat) (L : Lay), ii ≤ n ∧ i = .int .i64 ii ∧ Mem w [.blk bd 3 curd, .blk bn 3 curn, .blk bm 3 curm, .book (bookP lv (3000 + gm) bt mbs pb ii) p L, .blk gN 9 nmsC, .blk g0 33 LV] wr2) (fun i _ => n - (intOf i).toNat)
  case atStart => exact ⟨0, L, by omega, rfl, HM.out⟩
  case round =>
    obtain ⟨i, L4, hin, rfl, hM⟩ := hrel
    clear HM
    have HM := hide hM
    clear hM
    by_cases hi2 : i < n
    · have hi3 : (i : Int) < n := by omega
      have hPb := Hpb.out i
      obtain ⟨hlt3⟩ : lvl (pb i) < 3 ∧ True := ⟨lvl_lt _, trivial⟩
      have hkk0 : ((pb i).k).tmod 3 = (lvl (pb i) : Nat) := by
        rw [tmod_pos hPb.k0]; unfold lvl; have := hPb.k0; omega
      have hdd0 : ((pb i).d).tmod 50 = dayP (pb i) := by rw [tmod_pos hPb.d0]; rfl
      have hddb := dayP_bd (pb i)
      have hprod := prod_bd lv Hlv.out Hok.out (pb i)
      have htime := day_bd lv (lvl (pb i))
      have hte := bookP_test lv pb Hlv.out Hok.out (i := i) (by omega) (pb i) hPb.s0 hPb.s1
      have hgt := fun (now : Int) h0 h1 => gainE_truth lv pb Hlv.out Hok.out (fun i => ⟨(Hpb.out i).s0, (Hpb.out i).s1⟩) i (now := now) h0 h1
      have htn : tstN lv (3000 + gm) bt (pb i) = ⟨⟨#[114]⟩, nmN (lvl (pb i)), (dayN lv (lvl (pb i)) + dayP (pb i)) * 86400, max 1 (prodP lv (3000 + gm) bt (pb i) / (denN (lvl (pb i)) * 1000) - (pb i).s), (prodP lv (3000 + gm) bt (pb i) + denN (lvl (pb i)) * 1000 - 1) / (denN (lvl (pb i)) * 1000) + (pb i).s⟩ := rfl
      have hpr : prodP lv (3000 + gm) bt (pb i) = (numN lv (lvl (pb i)) + trn (lv (lvl (pb i))) * dayP (pb i) * denN (lvl (pb i))) * (3000 + gm + bt * (dayN lv (lvl (pb i)) + dayP (pb i))) := rfl
      have hbp : bookP lv (3000 + gm) bt mbs pb (i + 1) = .test (tstN lv (3000 + gm) bt (pb i)) :: bookP lv (3000 + gm) bt mbs pb i := rfl
      have hlenT := bookP_tests lv (3000 + gm) bt mbs pb i
      have hlvk := Hlv.out (lvl (pb i))
      have htk := fun W => lvTurn_any (lv (lvl (pb i))) hlvk W
      have hck := Hlc.out (lvl (pb i)) (lvl_lt _)
      have hnmk := nmsC_at (lvl_lt (pb i))
      have htkb := trn_bd (lv (lvl (pb i)))
      have hnbk := num_bd lv Hlv.out (lvl_lt (pb i))
      have hdek := den_le (lvl_lt (pb i))
      have hdek0 := den_pos (lvl (pb i))
      have hcd := Hcd.out (lvl (pb i)) _ (denV_get (lvl_lt _))
      have hcn := Hcn.out (lvl (pb i)) _ (numVN_get lv (lvl_lt _))
      have hcm := Hcm.out (lvl (pb i)) _ (dayV_get lv (lvl_lt _))
      unfold lvC at htk
      obtain ⟨bP, oP, hA, hbP, hcP⟩ := Hrow.out (by omega)
      have p0' := hcP i hi2 0 (.int .u8 (pb i).k) rfl
      have p1' := hcP i hi2 1 (.int .u8 (pb i).d) rfl
      have p2' := hcP i hi2 2 (.int .u16 (pb i).s) rfl
      have P2 := hide p2'
      rw [← HM.out.below.cell hbP] at p0' p1' p2'
      rw [Nat.add_zero] at p0'
      have hltP : bP < wr.heap.size := Nat.lt_of_lt_of_le hbP HM.out.size
      have hPs := hPb.s0
      have hPs1 := hPb.s1
      have hPk := hPb.k0
      have hPk1 := hPb.k1
      have hPd := hPb.d0
      have hPd1 := hPb.d1
      clear hcP
      subst hA
      generalize hkk : lvl (pb i) = kk at *
      generalize hddd : dayP (pb i) = dd at *
      generalize hPP : prodP lv (3000 + gm) bt (pb i) = PP at *
      generalize hNN : numN lv kk = NN at *
      generalize hTT : trn (lv kk) = TT at *
      generalize hDD : denN kk = DD at *
      generalize hYY : dayN lv kk = YY at *
      obtain ⟨y1, hy1⟩ : ∃ y1 : Int, TT * dd = y1 := ⟨_, rfl⟩
      obtain ⟨y2, hy2⟩ : ∃ y2 : Int, y1 * DD = y2 := ⟨_, rfl⟩
      obtain ⟨z1, hz1⟩ : ∃ z1 : Int, bt * (YY + dd) = z1 := ⟨_, rfl⟩
      rw [hy1, hy2, hz1] at hpr
      replace hpr := hpr.symm
      obtain ⟨D1, hD1⟩ : ∃ D1 : Int, DD * 1000 = D1 := ⟨_, rfl⟩
      rw [hD1] at hprod htn
      have hkk3 : kk ≤ 2 := by have := lvl_lt (pb i); omega
      have hyb1 : -245 ≤ y1 ∧ y1 ≤ 245 := by
        obtain ⟨a, b⟩ := turn_le (den := 1) htkb.1 htkb.2 hddb.1 (by omega)
        rw [Int.mul_one] at a b
        omega
      have hyb2 : -245000000 ≤ y2 ∧ y2 ≤ 245000000 := by
        have p1 := Int.mul_le_mul_of_nonneg_right hyb1.1 (Int.le_of_lt hdek0)
        have p2 := Int.mul_le_mul_of_nonneg_right hyb1.2 (Int.le_of_lt hdek0)
        omega
      have hzb1 : -1800 ≤ z1 ∧ z1 ≤ 1800 := by
        obtain ⟨a, b⟩ := turn_le (den := 1) (dr := 9) hb9.1 hb9.2 (show 0 ≤ YY + dd by omega) (by omega)
        rw [Int.mul_one] at a b
        omega
      have hPPb : 1 ≤ PP ∧ PP ≤ 14000000000000000 := by
        have : D1 ≤ 1000000000 := by omega
        have : 1000 ≤ D1 := by omega
        omega
      have hquo := div_bd (a := PP) (b := D1) (by omega) (by omega)
      have hquo2 := div_bd (a := PP + D1 - 1) (b := D1) (by omega) (by omega)
      have hqt : PP.tdiv D1 = PP / D1 := tdiv_pos (by omega)
      have hqt2 : (PP + D1 - 1).tdiv D1 = (PP + D1 - 1) / D1 := tdiv_pos (by omega)
      obtain ⟨Q1, hQ1⟩ : ∃ Q1 : Int, PP / D1 = Q1 := ⟨_, rfl⟩
      obtain ⟨Q2, hQ2⟩ : ∃ Q2 : Int, (PP + D1 - 1) / D1 = Q2 := ⟨_, rfl⟩
      rw [hQ1] at hquo hqt htn
      rw [hQ2] at hquo2 hqt2 htn
      obtain ⟨lo1, hlo1⟩ : ∃ lo1 : Int, max 1 (Q1 - (pb i).s) = lo1 := ⟨_, rfl⟩
      rw [hlo1] at htn
      have Htn := hide htn
      have Hte := hide hte
      have Hgt := hide hgt
      have Hbp := hide hbp
      have HlenT := hide hlenT
      have Htk := hide htk
      have Hkk := hide hkk
      have Hddd := hide hddd
      have HPP := hide hPP
      have HNN := hide hNN
      have HTT := hide hTT
      have HDD := hide hDD
      have HYY := hide hYY
      have Hnmk := hide hnmk
      have Hcd := hide hcd
      have Hcn := hide hcn
      have Hcm := hide hcm
      have Hck := hide hck
      have Hlvk := hide hlvk
      clear htn hte hgt hbp hlenT htk hkk hddd hPP hNN hTT hDD hYY hnmk hcd hcn hcm hck hlvk
      have hYYb : 0 ≤ YY ∧ YY ≤ 98 := by omega
      have hQb1 : 0 ≤ Q1 ∧ Q1 ≤ PP := ⟨hquo.1, hquo.2.1⟩
      have hQb2 : 0 ≤ Q2 ∧ Q2 ≤ PP + D1 - 1 := ⟨hquo2.1, hquo2.2.1⟩
      have hD1b : D1 ≤ 1000000000 := by omega
      clear hPb htime hprod hquo hquo2
      go_wp2_with fail
      clear p0' p1' p2'
      have bL := Mem.blk_ HM.out 5 rfl
      have l0' := bL.c _ Hck.out.1
      have l1' := bL.c _ Hck.out.2.1
      have l2' := bL.c _ Hck.out.2.2.1
      have l3' := bL.c _ Hck.out.2.2.2.1
      have l4' := bL.c _ Hck.out.2.2.2.2.1
      have l5' := bL.c _ Hck.out.2.2.2.2.2
      have ltL := bL.lt
      have bD := Mem.blk_ HM.out 0 rfl
      have bE := Mem.blk_ HM.out 1 rfl
      have bF := Mem.blk_ HM.out 2 rfl
      have bG := Mem.blk_ HM.out 4 rfl
      have cd0 := bD.c _ Hcd.out
      have cn0 := bE.c _ Hcn.out
      have cm0 := bF.c _ Hcm.out
      have cg0 := bG.c _ Hnmk.out
      have ltD := bD.lt
      have ltE := bE.lt
      have ltF := bF.lt
      have ltG := bG.lt
      apply wp_region_L (w0 := wr) [[], [], [], [], [], [], [], [], [], [], [], [], [], [], [], [], [], [], [], [], [], [], [], [], [], [], [], []] [true, true, true, true, true, true, true, true, true, true, true, true, true, true, true, true, true, true, true, true, true, true, true, true, true, true, true, true] [] (fun ixq y => match ixq with  | _ => undef) (fun ixq x F wq => match ixq with  | _ => True) (fun a x => a) (by kernel_rfl) (by kernel_rfl) (fun _ => rfl) [268] (by kernel_rfl)
      · intro x D hD
        have hne := hD.some
        have k0 := liftB hD l0' (by first | assumption | omega)
        have k1 := liftB hD l1' (by first | assumption | omega)
        have k2 := liftB hD l2' (by first | assumption | omega)
        have k3 := liftB hD l3' (by first | assumption | omega)
        have k4 := liftB hD l4' (by first | assumption | omega)
        have k5 := liftB hD l5' (by first | assumption | omega)
        have kd := liftB hD cd0 (by first | assumption | omega)
        have kn := liftB hD cn0 (by first | assumption | omega)
        have km := liftB hD cm0 (by first | assumption | omega)
        simp only [takeOps, Act.put, List.setIfInBounds_toArray, List.set_cons_succ, List.set_cons_zero]
        repeat (go_big_quiet_step ((go_at_call 20; exact calls_later hD _ (Htk.out _))))
        exact wpQuiet_nil rfl
      · intro d hd x x'
        simp only [List.mem_cons, List.not_mem_nil, or_false] at hd
        rcases hd with rfl
        all_goals rfl
      · exact trivial
      · exact trivial
      intro xx w21 F hL hlv1
      clear hlv1
      clear bL l0' l1' l2' l3' l4' l5' ltL bD bE bF bG cd0 cn0 cm0 cg0 ltD ltE ltF ltG
      replace HM := hide (HM.out.later hL)
      clear hL
      have bL := Mem.blk_ HM.out 5 rfl
      have l0' := bL.c _ Hck.out.1
      have l1' := bL.c _ Hck.out.2.1
      have l2' := bL.c _ Hck.out.2.2.1
      have l3' := bL.c _ Hck.out.2.2.2.1
      have l4' := bL.c _ Hck.out.2.2.2.2.1
      have l5' := bL.c _ Hck.out.2.2.2.2.2
      have ltL := bL.lt
      have bD := Mem.blk_ HM.out 0 rfl
      have bE := Mem.blk_ HM.out 1 rfl
      have bF := Mem.blk_ HM.out 2 rfl
      have bG := Mem.blk_ HM.out 4 rfl
      have cd0 := bD.c _ Hcd.out
      have cn0 := bE.c _ Hcn.out
      have cm0 := bF.c _ Hcm.out
      have cg0 := bG.c _ Hnmk.out
      have ltD := bD.lt
      have ltE := bE.lt
      have ltF := bF.lt
      have ltG := bG.lt
      have p2' := P2.out
      rw [← HM.out.below.cell hbP] at p2'
      have hltP2 : bP < w21.heap.size := Nat.lt_of_lt_of_le hbP HM.out.size
      go_wp2_with fail
      refine wp_region_E (fun k => k < w21.heap.size) (fun j => !([28] : List Nat).contains j) (by kernel_rfl) ?_
      apply anyR_peelX (fuel := 6) 28 [true, true, true, true, true, true, true, true, true, true, true, true, true, true, true, true, true, true, true, true, true, true, true, true, true, true, true, true, false, false, false, false, false, false] #[true, true, true, true, true, true, true, true, true, true, true, true, true, true, true, true, true, true, true, true, true, true, true, true, true, true, true, true, false, false, false, false, false, false] (fun j hj => by simp [hj]) (by kernel_rfl) rfl (fun k hk => by first | exact hk | omega)
      · intro D hD
        have hne := hD.some
        have km := liftB hD cm0 (by first | assumption | omega)
        have kg := liftB hD cg0 (by first | assumption | omega)
        simp only [takeOps, Act.put, List.setIfInBounds_toArray, List.set_cons_succ, List.set_cons_zero]
        repeat (go_big_quiet_step (fail))
        exact wpQuiet_nil rfl
      refine anyR_callX (f := 5) 28 #[true, true, true, true, true, true, true, true, true, true, true, true, true, true, true, true, true, true, true, true, true, true, true, true, true, true, true, true, true, false, false, false, false, false] (by kernel_rfl) (by kernel_rfl) rfl rfl rfl rfl 23 #[ptrB p, .agg #[.string ⟨#[114]⟩, .string (nmN kk), .int .i64 ((YY + dd) * 86400), .int .i64 lo1, .int .i64 (Q2 + (pb i).s)]] (fun _ => by kernel_rfl) rfl (fun wXc hlX => ?_)
      clear bL l0' l1' l2' l3' l4' l5' ltL bD bE bF bG cd0 cn0 cm0 cg0 ltD ltE ltF ltG p2' hltP2
      have hsz21 := hlX.size
      replace HM := hide (HM.out.later hlX)
      clear hlX
      have te := Hte.out
      rw [Htn.out] at te
      have c3 := Test_any (bookP lv (3000 + gm) bt mbs pb i) p L4 ⟨#[114]⟩ (nmN kk) ((YY + dd) * 86400) lo1 (Q2 + (pb i).s) wXc (Mem.book_ HM.out 3 rfl) (by decide) (by show 1 ≤ maxLen; decide)
      rw [te, if_pos rfl, HlenT.out] at c3
      refine c3.mono ?_
      clear c3 te
      rintro e w23 ⟨rfl, hp⟩
      refine ⟨_, rfl, ?_⟩
      simp only [Act.put, List.setIfInBounds_toArray, List.set_cons_succ, List.set_cons_zero]
      apply anyR_peelX (fuel := 0) 28 [false, false, false, false, false, false, false, false, false, false, false, false, false, false, false, false, false, false, false, false, false, false, false, false, false, false, false, false, false, true, true, true, true, true] #[true, true, true, true, true, true, true, true, true, true, true, true, true, true, true, true, true, true, true, true, true, true, true, true, true, true, true, true, true, true, true, true, true, true] (fun j hj => by simp [hj]) (by kernel_rfl) rfl (fun k hk => Nat.lt_of_lt_of_le hk (Nat.le_trans hsz21 hp.size))
      · intro D hD
        have hne := hD.some
        simp only [takeOps]
        repeat (go_big_quiet_step (fail))
        exact wpQuiet_nil rfl
      refine anyR_done (by kernel_rfl) (fun wXd hdX => ?_)
      obtain ⟨L5, HMn⟩ := HM.out.enter 3 rfl hp
      replace HM := hide HMn
      clear HMn hp
      rw [if_pos rfl, ← Htn.out, ← Hbp.out] at HM
      replace HM := hide (HM.out.later hdX)
      clear hdX
      obtain ⟨nw, hnw⟩ : ∃ nw : Int, ak % 150 = nw := ⟨_, rfl⟩
      have hnwt : ak.tmod 150 = nw := by rw [tmod_pos a0, hnw]
      have hnwb : 0 ≤ nw ∧ nw ≤ 149 := by omega
      obtain ⟨sg, hsg, sg1, sg2, sg3⟩ := Hgt.out nw hnwb.1 hnwb.2
      obtain ⟨ga, gb⟩ := sg
      simp only at sg1 sg2 sg3
      obtain ⟨zz, hzz⟩ : ∃ zz : Int, bt * nw = zz := ⟨_, rfl⟩
      have hzzb : -1350 ≤ zz ∧ zz ≤ 1350 := by
        obtain ⟨a, b⟩ := turn_le (den := 1) (dr := 9) hb9.1 hb9.2 hnwb.1 (by omega)
        rw [Int.mul_one] at a b
        omega
      rw [hzz] at sg2 sg3
      have heq := eqAt 0 0 0 0
      have hg1 : decide (ga < 1) = false := decide_eq_false (by omega)
      have hg2 : decide (3000 + gm + zz < ga) = false := decide_eq_false (by omega)
      have hg3 : decide (gb < 3000 + gm + zz) = false := decide_eq_false (by omega)
      go_wp2_with fail
      have c4 := Gain_any (bookP lv (3000 + gm) bt mbs pb (i + 1)) p L5 ⟨#[114]⟩ (nw * 86400) wXd (Mem.book_ HM.out 3 rfl) (by decide)
      rw [hsg] at c4
      unfold gainV at c4
      simp only at c4
      refine (c4).mono ?_
      rintro e w24 ⟨rfl, hb⟩
      replace HM := hide (HM.out.later hb)
      clear hb
      clear c4
      obtain ⟨pp, hpp⟩ : ∃ pp : Int, pw % 134217728 = pp := ⟨_, rfl⟩
      have hppt : pw.tmod 134217728 = pp := by rw [tmod_pos p0, hpp]
      have hppb : 0 ≤ pp ∧ pp ≤ 134217727 := by omega
      obtain ⟨G2, hG2⟩ : ∃ G2 : Int, 3000 + gm + zz = G2 := ⟨_, rfl⟩
      obtain ⟨M, hM⟩ : ∃ M : Int, pp * G2 = M := ⟨_, rfl⟩
      obtain ⟨hM0, hM1⟩ := mul_bdT (D := 134217727) (M := 8000) hppb.1 hppb.2 (show 0 ≤ G2 by omega) (show G2 ≤ 8000 by omega)
      rw [hM] at hM0 hM1
      have hMt : M.tdiv 1000 = M / 1000 := tdiv_pos hM0
      have hMt2 : (M + 999).tdiv 1000 = (M + 999) / 1000 := tdiv_pos (by omega)
      go_wp2_with fail
      refine at_world fun w25 hW => ?_
      have HMn := Mem.to (Mem.allocAt (Mem.allocAt HM.out w24.heap.size rfl #[.int .i64 ga, .int .i64 gb] 23) (w24.heap.size + 1) (by simp) #[.int .i64 0, .int .i64 0] 52) hW
      have LW : Later w24 w25 := by rw [hW]; exact (((Below.refl _ _).alloc (Nat.le_refl _) _).alloc (by simp; try omega) _)
      have szW : w25.heap.size = w24.heap.size + 2 := by rw [hW]; simp
      clear hW
      replace HM := hide HMn
      clear HMn LW
      have c5 := Correct_any (M / 1000) ((M + 999) / 1000) ga gb w25
      by_cases hmx : gb ≤ 1000000
      · have hkq : True := trivial
        obtain ⟨cr, hcr, hc1, hc2⟩ := correct_holds (p := pp) (G := G2) (s := (ga, gb)) hppb.1 hppb.2 (by omega) (by omega) sg1 (by simp only; omega) (by simp only; omega) hmx
        obtain ⟨ca, cb⟩ := cr
        rw [hM] at hcr
        rw [hcr] at c5
        unfold corrV at c5
        simp only at c5 hc1 hc2
        have hd1 : decide (pp < ca) = false := decide_eq_false (by omega)
        have hd2 : decide (cb < pp) = false := decide_eq_false (by omega)
        have hd3 : decide (gb ≤ 1000000) = true := decide_eq_true hmx
        refine (c5).mono ?_
        rintro e w26 ⟨rfl, hb⟩
        replace HM := hide (HM.out.later hb)
        clear hb
        clear c5
        have bz : Blk w26 w24.heap.size 23 #[.int .i64 ga, .int .i64 gb] := HM.out.get 1 rfl
        have ltz := bz.lt
        have z0 := bz.c 0 rfl
        have z1 := bz.c 1 rfl
        go_wp2_with fail
        go_roundw
        case rel =>
          refine ⟨i + 1, L5, by omega, by go_num, ?_⟩
          exact (HM.out.alloc _ _).tail.tail.tail
        case measure => simp [intOf] <;> omega
      · have hkq : True := trivial
        obtain ⟨cr, hcr⟩ : ∃ cr, correctR (M / 1000, (M + 999) / 1000) (ga, gb) = cr := ⟨_, rfl⟩
        obtain ⟨⟨ca, cb⟩, ce⟩ := cr
        rw [hcr] at c5
        unfold corrV at c5
        simp only at c5
        have hd3 : decide (gb ≤ 1000000) = false := decide_eq_false hmx
        refine (c5).mono ?_
        rintro e w26 ⟨rfl, hb⟩
        replace HM := hide (HM.out.later hb)
        clear hb
        clear c5
        have bz : Blk w26 w24.heap.size 23 #[.int .i64 ga, .int .i64 gb] := HM.out.get 1 rfl
        have ltz := bz.lt
        have z0 := bz.c 0 rfl
        have z1 := bz.c 1 rfl
        go_wp2_with fail
        go_roundw
        case rel =>
          refine ⟨i + 1, L5, by omega, by go_num, ?_⟩
          exact (HM.out.alloc _ _).tail.tail.tail
        case measure => simp [intOf] <;> omega
    · have hie : i = n := by omega
      subst hie
      go_wp2_with fail
      exact HX.out HM.out.below
end Go.Proofs.Ytiggefmckomilaa
namespace Go.Proofs.Ytiggefmckomilaa
open Go Go.RowKit

set_option maxHeartbeats 8000000 in
set_option maxRecDepth 100000 in
theorem TraceTruth_any (lv : Nat → Lv) (pb : Nat → Pb) (A : Option Addr) (n c : Nat) (gn tu sl ak pw : Int) (w : World) (hlv : ∀ k, LvOk (lv k)) (hpb : ∀ i, PbOk (pb i)) (hrow : Rows_ w w.heap.size A n 3 (fun i => pbL (pb i))) (hn : n ≤ maxLen)
    (g0 : 0 ≤ gn) (g1 : gn ≤ 65535) (b0 : -128 ≤ tu) (b1 : tu ≤ 127) (s0 : 0 ≤ sl) (s1 : sl ≤ 255) (a0 : 0 ≤ ak) (a1 : ak ≤ 255) (p0 : 0 ≤ pw) (p1 : pw ≤ 4294967295) :
    Calls Try.prog 4 #[.agg (lvC3 lv), .slice A n c, .int .u16 gn, .int .i8 tu, .int .u8 sl, .int .u8 ak, .int .u32 pw] w fun e w' => e = .returned (.bool true) ∧ Below w.heap.size w w' := by
  have hn63 : (n : Int) ≤ 9223372036854775807 := by unfold maxLen at hn; omega
  have hlc := fun (k : Nat) (hk : k < 3) => lvC3_at lv hk
  generalize lvC3 lv = LV at *
  by_cases h20 : 20 < n
  · have hi : (20 : Int) < n := by omega
    go_enter Try.func4, Try.ntmps4
    have HB := hide (Below.refl w.heap.size w)
    go_wp2_with fail
    refine at_world fun W hW => ?_
    have LW : Later w W := by rw [hW]; exact ((Below.refl _ _).alloc (Nat.le_refl _) _)
    have szW : W.heap.size = w.heap.size + 1 := by rw [hW]; simp
    clear hW
    replace HB := hide (onward HB.out LW)
    clear LW szW
    refine (works_any _).mono ?_
    rintro e w2 ⟨rfl, hb⟩
    replace HB := hide (onward HB.out hb)
    clear hb
    go_wp2
    go_ret
    exact ⟨rfl, HB.out⟩
  · have hi : ¬ (20 : Int) < n := by omega
    have e1 := tmod_pos (b := 2000) g0
    obtain ⟨bt, hbt⟩ : ∃ bt : Int, tu.tmod 10 = bt := ⟨_, rfl⟩
    obtain ⟨gm, hgm⟩ : ∃ gm : Int, gn % 2000 = gm := ⟨_, rfl⟩
    rw [hgm] at e1
    obtain ⟨mb, hmb⟩ : ∃ mb : Int, max bt (-bt) = mb := ⟨_, rfl⟩
    have hb9 : -9 ≤ bt ∧ bt ≤ 9 := by rw [← hbt]; exact tmod_bd10 tu
    have hgm2 : 0 ≤ gm ∧ gm ≤ 1999 := by omega
    have hmb2 : 0 ≤ mb ∧ mb ≤ 9 := by omega
    have hok : GainOk (3000 + gm) bt (mb + sl) := ⟨by omega, by omega, by omega, by omega, by omega, by omega, by omega, by omega⟩
    have Hlc := hide hlc
    clear hlc
    have Hok := hide hok
    have Hrow := hide hrow
    have Hlv := hide hlv
    have Hpb := hide hpb
    clear hok hrow hlv hpb
    go_enter Try.func4, Try.ntmps4
    have HM := hide (Mem.start w)
    go_wp2_with fail
    refine at_world fun W hW => ?_
    have HMn := Mem.to (Mem.allocAt (Mem.allocAt HM.out w.heap.size rfl LV 33) (w.heap.size + 1) (by simp) #[.string ⟨#[97]⟩, .string ⟨#[98]⟩, .string ⟨#[99]⟩] 9) hW
    have LW : Later w W := by rw [hW]; exact (((Below.refl _ _).alloc (Nat.le_refl _) _).alloc (by simp; try omega) _)
    have szW : W.heap.size = w.heap.size + 2 := by rw [hW]; simp
    clear hW
    replace HM := hide HMn
    clear HMn LW
    refine (New_any _).mono ?_
    rintro e w1 ⟨p, L, rfl, hb, hB, hL⟩
    have HM1 := hide (HM.out.add (t := .book [] p L) hB hb hL)
    clear HM hb hB hL
    have HM := HM1
    clear HM1
    go_wp2_with fail
    have hb := (HM.out.get 0 rfl : BookR [] p L w1)
    have c1 := Radar_any [] p L ⟨#[114]⟩ (mb + sl) w1 hb (by decide)
    rw [show radarE [] ⟨#[114]⟩ (mb + sl) = 0 by
      have hr : inR (mb + sl) 0 1000000 = true := inR_iff.2 ⟨by omega, by omega⟩
      unfold radarE
      rw [hr]
      decide +kernel] at c1
    refine c1.mono ?_
    clear c1 hb
    rintro e w2 ⟨rfl, hp⟩
    obtain ⟨L2, HMn⟩ := HM.out.enter 0 rfl hp
    replace HM := hide HMn
    clear HMn hp
    rw [if_pos rfl] at HM
    have HM2 := hide (((HM.out.nilRow w.heap.size 3 1).nilRow w.heap.size 3 1).nilRow w.heap.size 3 1)
    clear HM
    have HM := HM2
    clear HM2
    go_wp2_with fail
    refine trl1 lv Hlv.out LV Hlc.out (mb + sl) ak a0 a1 p (w.heap.size + 1) w.heap.size L2 w HM.out ?_
    clear HM
    intro kv14 kv22 kv24 kv25 kv26 kv27 kv28 kv29 kv30 kv31 kv32 kv33 kv71 kv72 kv73 kv74 kv75 kv76 kv77 kv78 kv79 kv80 kv81 kv82 kv83 kv84 kv85 kv86 kv87 kv88 kv89 kv90 kv91 kv92 kv93 kv94 kv95 kv96 kv97 kv98 kv99 kv100 kv101 kv102 kv103 kv104 kv105 kv106 kv107 kv108 kv109 kv110 kv111 kv112 kv113 kv114 kv115 kv116 kv117 kv118 kv119 kv120 kv121 kv122 kv123 kv124 kv125 kv126 kv127 kv128 kv129 kv130 kv131 kv132 kv133 kv134 kv135 kv136 kv137 kv138 kv139 kv140 kv141 kv142 kv143 kv144 kv145 kv146 kv147 kv148 kv149 kv150 kv151 kv152 kv153 kv154 kv155 kv156 kv157 kv158 kv159 kv160 kv161 kv162 kv163 kv164 kv165 kv166 kv167 kv168 kv169 kv170 kv171 kv172 kv173 kv174 kv175 kv176 kv177 kv178 kv179 kv180 kv181 kv182 kv183 kv184 kv185 kv186 kv187 kv188 kv189 kv190 kv191 kv192 kv193 kv194 kv195 kv196 kv197 kv198 kv199 kv200 kv201 kv202 kv203 kv204 kv205 kv206 kv207 kv208 kv209 kv210 kv211 kv212 kv213 kv214 kv215 kv216 kv217 kv218 kv219 kv220 kv221 kv222 kv223 kv224 kv225 kv226 kv227 kv228 kv229 kv230 kv231 kv232 kv233 kv234 kv235 kv236 kv237 kv238 kv239 kv240
    intro mv nv dv L3 w5 hM
    have HM := hide hM
    clear hM
    obtain ⟨Ad, cd', rfl⟩ := own_shape2 (Mem.row_ HM.out 0 rfl)
    obtain ⟨bd, curd, rfl, -, hbd, -, -, hcd⟩ := row_blk (Mem.row_ HM.out 0 rfl) (by omega)
    obtain ⟨An, cn', rfl⟩ := own_shape2 (Mem.row_ HM.out 1 rfl)
    obtain ⟨bn, curn, rfl, -, hbn, -, -, hcn⟩ := row_blk (Mem.row_ HM.out 1 rfl) (by omega)
    obtain ⟨Am, cm', rfl⟩ := own_shape2 (Mem.row_ HM.out 2 rfl)
    obtain ⟨bm, curm, rfl, -, hbm, -, -, hcm⟩ := row_blk (Mem.row_ HM.out 2 rfl) (by omega)
    have Hcd := hide hcd
    have Hcn := hide hcn
    have Hcm := hide hcm
    clear hcd hcn hcm
    have HM1 := hide (HM.out.swapRow 0 rfl hbd)
    have HM2 := hide (HM1.out.swapRow 1 rfl hbn)
    have HM3 := hide (HM2.out.swapRow 2 rfl hbm)
    clear hbd hbn hbm HM HM1 HM2
    have HM := HM3
    clear HM3
    go_wp2_with fail
    refine trl3 lv Hlv.out pb Hpb.out A n c w Hrow.out (by omega) gm bt (mb + sl) ak pw Hok.out hb9 hgm2 a0 a1 p0 p1 LV Hlc.out p (w.heap.size + 1) w.heap.size bd bn bm cd' cn' cm' curd curn curm L3 Hcd.out Hcn.out Hcm.out HM.out ?_
    clear HM
    intro kv14 kv35 kv36 kv37 kv38 kv39 kv40 kv41 kv42 kv43 kv44 kv45 kv46 kv47 kv241 kv242 kv243 kv244 kv245 kv246 kv247 kv248 kv249 kv250 kv251 kv252 kv253 kv254 kv255 kv256 kv257 kv258 kv259 kv260 kv261 kv262 kv263 kv264 kv265 kv266 kv267 kv268 kv269 kv270 kv271 kv272 kv273 kv274 kv275 kv276 kv277 kv278 kv279 kv280 kv281 kv282 kv283 kv284 kv285 kv286 kv287 kv288 kv289 kv290 kv291 kv292 kv293 kv294 kv295 kv296 kv297 kv298 kv299 kv300 kv301 kv302 kv303 kv304 kv305 kv306 kv307 kv308 kv309 kv310 kv311 kv312 kv313 kv314 kv315 kv316 kv317 kv318 kv319 kv320 kv321 kv322 kv323 kv324 kv325 kv326 kv327 kv328 kv329 kv330 kv331 kv332 kv333 kv334 kv335 kv336 kv337 kv338 kv339 kv340 kv341 kv342 kv343 kv344 kv345 kv346 kv347 kv348 kv349 kv350 kv351 kv352 kv353 kv354 kv355 kv356 kv357 kv358 kv359 kv360 kv361 kv362 kv363 kv364 kv365 kv366 kv367 kv368 kv369 kv370 kv371 kv372 kv373 kv374 kv375 kv376 kv377 kv378 kv379 kv380 kv381 kv382 kv383 kv384 kv385 kv386 kv387 kv388 kv389 kv390 kv391 kv392 kv393 kv394 kv395 kv396 kv397 kv398 kv399 kv400 kv401 kv402 kv403 kv404 kv405 kv406 kv407 kv408 kv409 kv410 kv411 kv412 kv413 kv414 kv415 kv416 kv417 kv418 kv419 kv420
    intro w6 hB
    have HB := hide hB
    clear hB
    go_wp2_with fail
    refine (works_any _).mono ?_
    rintro e w20 ⟨rfl, hb⟩
    replace HB := hide (onward HB.out hb)
    clear hb
    go_wp2
    go_ret
    exact ⟨rfl, HB.out⟩
end Go.Proofs.Ytiggefmckomilaa
namespace Go.Proofs.Ytiggefmckomilaa
open Go Go.RowKit Go.ChangeShapes Go.WideShapes Go.Deep

theorem wfT_u32 {n : Int} (h : (Lit.int .u32 n).wf = true) : 0 ≤ n ∧ n ≤ 4294967295 := by
  simp only [Lit.wf, Bool.and_eq_true, decide_eq_true_eq] at h
  exact ⟨h.1, h.2⟩
theorem wfT_u16 {n : Int} (h : (Lit.int .u16 n).wf = true) : 0 ≤ n ∧ n ≤ 65535 := by
  simp only [Lit.wf, Bool.and_eq_true, decide_eq_true_eq] at h
  exact ⟨h.1, h.2⟩
theorem wfT_u8 {n : Int} (h : (Lit.int .u8 n).wf = true) : 0 ≤ n ∧ n ≤ 255 := by
  simp only [Lit.wf, Bool.and_eq_true, decide_eq_true_eq] at h
  exact ⟨h.1, h.2⟩
theorem wfT_i8 {n : Int} (h : (Lit.int .i8 n).wf = true) : -128 ≤ n ∧ n ≤ 127 := by
  simp only [Lit.wf, Bool.and_eq_true, decide_eq_true_eq] at h
  exact ⟨h.1, h.2⟩
theorem avU32 : AllV Try.prog 29 1 (fun cs => ∃ z, cs = [.int .u32 z] ∧ (Lit.int .u32 z).wf = true) := allV_int Try.underlying29 (by kernel_rfl)
theorem avU16 : AllV Try.prog 30 1 (fun cs => ∃ z, cs = [.int .u16 z] ∧ (Lit.int .u16 z).wf = true) := allV_int Try.underlying30 (by kernel_rfl)
theorem avU8 : AllV Try.prog 5 1 (fun cs => ∃ z, cs = [.int .u8 z] ∧ (Lit.int .u8 z).wf = true) := allV_int Try.underlying5 (by kernel_rfl)
set_option maxRecDepth 100000 in
theorem avLevel : AllV Try.prog 32 6 (fun cs => ∃ x : Lv, LvOk x ∧ cs = (lvC x).toList) := by
  refine ⟨by kernel_rfl, fun H enc w base spare held n cs y h => ?_⟩
  obtain ⟨hl, hf⟩ := read_structV Try.underlying32 (by kernel_rfl : Try.prog.cellsOf 32 = 6) h
  refine ⟨hl, ?_⟩
  obtain ⟨c0, r0, rfl, h0⟩ := len1 hl
  obtain ⟨c1, r1, rfl, h1⟩ := len1 h0
  obtain ⟨c2, r2, rfl, h2⟩ := len1 h1
  obtain ⟨c3, r3, rfl, h3⟩ := len1 h2
  obtain ⟨c4, r4, rfl, h4⟩ := len1 h3
  obtain ⟨c5, r5, rfl, h5⟩ := len1 h4
  obtain rfl := len0 h5
  obtain ⟨z0, e0, w0⟩ := hf 0 _ 1 _ rfl avU32
  obtain ⟨z1, e1, w1⟩ := hf 1 _ 1 _ rfl avU16
  obtain ⟨z2, e2, w2⟩ := hf 2 _ 1 _ rfl avU16
  obtain ⟨z3, e3, w3⟩ := hf 3 _ 1 _ rfl avU8
  obtain ⟨z4, e4, w4⟩ := hf 4 _ 1 _ rfl avU8
  obtain ⟨z5, e5, w5⟩ := hf 5 _ 1 _ rfl avU8
  simp at e0 e1 e2 e3 e4 e5
  subst e0 e1 e2 e3 e4 e5
  exact ⟨⟨z0, z1, z2, z3, z4, z5⟩, ⟨(wfT_u32 w0).1, (wfT_u32 w0).2, (wfT_u16 w1).1, (wfT_u16 w1).2, (wfT_u16 w2).1, (wfT_u16 w2).2, (wfT_u8 w3).1, (wfT_u8 w3).2, (wfT_u8 w4).1, (wfT_u8 w4).2, (wfT_u8 w5).1, (wfT_u8 w5).2⟩, rfl⟩
set_option maxRecDepth 100000 in
theorem avProbe : AllV Try.prog 47 3 (fun cs => ∃ x : Pb, PbOk x ∧ cs = pbL x) := by
  refine ⟨by kernel_rfl, fun H enc w base spare held n cs y h => ?_⟩
  obtain ⟨hl, hf⟩ := read_structV Try.underlying47 (by kernel_rfl : Try.prog.cellsOf 47 = 3) h
  refine ⟨hl, ?_⟩
  obtain ⟨c0, r0, rfl, h0⟩ := len1 hl
  obtain ⟨c1, r1, rfl, h1⟩ := len1 h0
  obtain ⟨c2, r2, rfl, h2⟩ := len1 h1
  obtain rfl := len0 h2
  obtain ⟨z0, e0, w0⟩ := hf 0 _ 1 _ rfl avU8
  obtain ⟨z1, e1, w1⟩ := hf 1 _ 1 _ rfl avU8
  obtain ⟨z2, e2, w2⟩ := hf 2 _ 1 _ rfl avU16
  simp at e0 e1 e2
  subst e0 e1 e2
  exact ⟨⟨z0, z1, z2⟩, ⟨(wfT_u8 w0).1, (wfT_u8 w0).2, (wfT_u8 w1).1, (wfT_u8 w1).2, (wfT_u16 w2).1, (wfT_u16 w2).2⟩, rfl⟩

section
variable {H : Type} {enc : TypeId × Value → H} {w : World} {base : Nat} {spare : Nat → Bool} {held : Bool}
set_option maxRecDepth 100000 in
theorem open_levels {r : Reach} {b0 : Nat} {v : Value} {d : DataW H} {ps : List MemPlace} (hv : Value.okWide Try.prog w r b0 33 v) (h : DataW.Trod enc Try.prog w base spare held 33 v d ps) :
    ∃ lv : Nat → Lv, v = .agg (lvC3 lv) ∧ ∀ k, LvOk (lv k) := by
  obtain ⟨cs, rfl, hsz⟩ := okWide_array Try.underlying33 hv
  have e18 : Try.prog.cellsOf 33 = 18 := by kernel_rfl
  rw [e18] at hsz
  obtain ⟨fuel, hf⟩ := h
  have g := read_arrayV Try.underlying33 avLevel hf
  simp only [Value.cells] at g
  obtain ⟨x0, k0, e0⟩ := g 0 (by decide)
  obtain ⟨x1, k1, e1⟩ := g 1 (by decide)
  obtain ⟨x2, k2, e2⟩ := g 2 (by decide)
  refine ⟨fun k => match k with | 0 => x0 | 1 => x1 | _ => x2, ?_, fun k => ?_⟩
  · have hl : cs.toList.length = 18 := by simpa using hsz
    have e : cs.toList = (cs.toList.drop 0).take 6 ++ ((cs.toList.drop 6).take 6 ++ (cs.toList.drop 12).take 6) := by
      conv => lhs; rw [← List.take_append_drop 6 cs.toList]
      rw [List.drop_zero]
      congr 1
      conv => lhs; rw [← List.take_append_drop 6 (cs.toList.drop 6)]
      rw [List.drop_drop]
      congr 1
      rw [List.take_of_length_le (by rw [List.length_drop]; omega)]
    have e' : (cs.toList.drop 0).take 6 = (lvC x0).toList := by simpa using e0
    have e1' : (cs.toList.drop 6).take 6 = (lvC x1).toList := by simpa using e1
    have e2' : (cs.toList.drop 12).take 6 = (lvC x2).toList := by simpa using e2
    rw [e', e1', e2'] at e
    have : cs = lvC3 (fun k => match k with | 0 => x0 | 1 => x1 | _ => x2) := Array.toList_inj.1 e
    rw [this]
  · match k with
    | 0 => exact k0
    | 1 => exact k1
    | k + 2 => exact k2
set_option maxRecDepth 100000 in
theorem open_probes {r : Reach} {b0 : Nat} {v : Value} {d : DataW H} {ps : List MemPlace} (hv : Value.okWide Try.prog w r b0 34 v) (h : DataW.Trod enc Try.prog w base spare held 34 v d ps) :
    ∃ (A : Option Addr) (n c : Nat) (pb : Nat → Pb), v = .slice A n c ∧ n ≤ maxLen ∧ Rows_ w w.heap.size A n 3 (fun i => pbL (pb i)) ∧ ∀ i, PbOk (pb i) := by
  obtain ⟨A, n, c, f, h1, h2, h3, h4, h5⟩ := open_slV Try.underlying34 avProbe (by decide) hv h
  have z : PbOk ⟨0, 0, 0⟩ := by constructor <;> decide
  have ex : ∀ i, ∃ x : Pb, PbOk x ∧ (i < n → f i = pbL x) := fun i => by
    by_cases hi : i < n
    · obtain ⟨x, hx, e⟩ := (h4 i hi).2
      exact ⟨x, hx, fun _ => e⟩
    · exact ⟨⟨0, 0, 0⟩, z, fun h => absurd h hi⟩
  refine ⟨A, n, c, fun i => Classical.choose (ex i), h1, Nat.le_trans h2 h3, fun hn => ?_, fun i => (Classical.choose_spec (ex i)).1⟩
  obtain ⟨b, off, e, hl, hc⟩ := h5 hn
  exact ⟨b, off, e, hl, fun i hi j v hv => hc i hi j v (by rw [(Classical.choose_spec (ex i)).2 hi]; exact hv)⟩
end
end Go.Proofs.Ytiggefmckomilaa
