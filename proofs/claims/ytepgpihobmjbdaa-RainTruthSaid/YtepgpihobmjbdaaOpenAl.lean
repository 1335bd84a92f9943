/-
  RainTruth: its third loop (what the rates say of each gate).
  Rates: rain's, and the reference's.
  RainTruth: the rates of the sweep; plain words.
  RainTruth: what the main walk needs, in plain words.
  The law RainTruth returns true: for every model, site, tilt, earth, ground, ray, and whatever is aloft.
  The arguments of RainTruth, opened: a site, and what is aloft.
-/
import Derived.Test.YtepgpihobmjbdaaTruL2
import Derived.Test.YtepgpihobmjbdaaRtRrGauge
import Derived.Test.YtepgpihobmjbdaaRegJ
import Derived.Test.YtepgpihobmjbdaaTruFac
import Derived.Test.YtepgpihobmjbdaaRtRrWorks
import Derived.Test.YtepgpihobmjbdaaRtOpenR
set_option linter.unusedSimpArgs false
set_option linter.unusedVariables false
section
namespace Go.Proofs.Ytepgpihobmjbdaa
open Go Go.RowKit
def kT (f : Nat → Int × Int) (zf : List Int) (j : Nat) : Int := (f j).1 + nthV zf j % ((f j).2 - (f j).1 + 1)
theorem kT_bd {f : Nat → Int × Int} {zf : List Int} {j : Nat} (h : (f j).1 ≤ (f j).2) : (f j).1 ≤ kT f zf j ∧ kT f zf j ≤ (f j).2 := by
 unfold kT
 have h1 := Int.emod_nonneg (nthV zf j) (show (f j).2 - (f j).1 + 1 ≠ 0 by omega)
 have h2 := Int.emod_lt_of_pos (nthV zf j) (show 0 < (f j).2 - (f j).1 + 1 by omega)
 omega
set_option maxRecDepth 1000000 in
noncomputable def tl3C : Code := ((loopsOf ((Try.f3.body).getD .skip))[2]?).getD .skip
set_option maxHeartbeats 8000000 in
set_option maxRecDepth 1000000 in
theorem tl3 {kc0 kc1 kc3 kc4 kc5 kc6 kc9 kc11 kc12 ku14 kc15 kc16 kc17 kc19 kc20 kc21 kc22 kc23 kc24 kc25 kc26 kc27 kc28 ku31 ku32 ku33 ku34 ku35 ku36 ku37 kc38 kc39 kc40 kc41 kc42 kc43 kc44 kc45 kc46 kc47 kc48 kc49 kc50 kc51 kc52 kc53 kc54 kc55 kc56 kc57 kc58 kc59 kc60 kc61 kc62 kc63 kc64 kc65 kc66 kc67 kc68 kc69 kc70 kc71 kc72 kc73 kc74 kc75 kc76 kc77 kc78 kc79 kc80 kc81 kc82 kc83 kc84 kc85 kc86 kc87 kc88 kc89 kc90 kc91 kc92 kc93 kc94 kc95 kc96 kc97 kc98 kc99 kc100 kc101 kc102 kc103 kc104 kc105 kc106 kc107 kc108 kc109 kc110 kc111 kc112 kc113 kc114 kc115 kc116 kc117 kc118 kc119 kc120 kc121 kc122 kc123 kc124 kc125 kc126 kc127 kc128 kc129 kc130 kc131 kc132 kc133 kc134 kc135 kc136 kc137 kc138 kc139 kc140 kc141 kc142 kc143 kc144 kc145 kc146 kc147 kc148 kc149 kc150 kc151 kc152 kc153 kc154 kc155 kc156 kc157 kc158 kc159 kc160 kc161 kc162 kc163 kc164 kc165 kc166 kc167 kc168 kc169 kc170 kc171 kc172 kc173 kc174 kc175 kc176 kc177 kc178 kc179 kc180 kc181 kc182 kc183 kc184 kc185 kc186 kc187 kc188 kc189 kc190 kc191 kc192 kc193 kc194 kc195 kc196 kc197 kc198 kc199 kc200 kc201 kc202 kc203 kc204 kc205 kc206 kc207 kc208 kc209 kc210 kc211 kc212 kc213 kc214 kc215 kc216 kc217 kc218 kc219 kc220 kc221 kc222 kc223 kc224 kc225 kc226 kc227 kc228 kc229 kc230 kc231 kc232 kc233 kc234 kc235 kc236 kc237 kc238 kc239 kc240 kc241 kc242 kc243 ku244 ku245 ku246 ku247 ku248 ku249 ku250 ku251 ku252 ku253 ku254 ku255 ku256 ku257 ku258 ku259 ku260 ku261 ku262 ku263 ku264 ku265 ku266 ku267 ku268 ku269 ku270 ku271 ku272 ku273 ku274 ku275 ku276 ku277 ku278 ku279 ku280 ku281 ku282 ku283 ku284 ku285 ku286 ku287 ku288 ku289 ku290 ku291 ku292 ku293 ku294 ku295 ku296 ku297 ku298 ku299 ku300 ku301 ku302 ku303 ku304 ku305 ku306 ku307 ku308 ku309 ku310 ku311 ku312 ku313 ku314 ku315 ku316 ku317 ku318 ku319 ku320 ku321 ku322 ku323 ku324 ku325 ku326 ku327 ku328 ku329 ku330 ku331 ku332 ku333 ku334 ku335 ku336 ku337 ku338 ku339 ku340 ku341 ku342 ku343 ku344 ku345 ku346 kc347 : Value} (s : ByteArray) (sx sy z r st wd tilt elo ehi : Int) (G : Nat) (A : Option Addr) (nl cl : Nat) (Ar : Option Addr) (nr cr : Nat) (a0 a1 b0 b1 c0 c1 : Int) (Ap : Option Addr) (np cp : Nat) (Ab : Option Addr) (nb cb : Nat) (Af : Option Addr) (nf cf : Nat) (Aw : Option Addr) (nw cw : Nat) (zf pw : List Int) (Ao : Option Addr) (co : Nat) (got : List (Int × Int)) (Ag : Option Addr) (cg : Nat) (bd ff : Nat → Int × Int) (vv : Int → Int × Int) (g7 g8 g10 g13 : Nat) {Q : Exit → Act → World → Prop} {wr : World} (hG : G ≤ 200) (hpw : pw.length = G) (hgot : got.length = G) (hzf : zf.length = nf) (hnf : nf ≤ 9223372036854775807) (hbf : ∀ x ∈ zf, 0 ≤ x ∧ x ≤ 4294967295) (hpz : ∀ j, j < G → 0 ≤ pw.getD j 0 ∧ pw.getD j 0 ≤ 1073741824) (hff : ∀ j, j < G → 0 ≤ (ff j).1 ∧ (ff j).1 ≤ (ff j).2 ∧ (ff j).2 ≤ 100000) (hlaw : ∀ j, j < G → (got.getD j (0, 0)).1 ≤ (vv (min 1073741824 (pw.getD j 0 * kT ff zf j / 1000))).1 ∧ (vv (min 1073741824 ((pw.getD j 0 * kT ff zf j + 999) / 1000))).2 ≤ (got.getD j (0, 0)).2) (hIf : Ints wr wr.heap.size .u32 Af zf) (hIp : Ints wr wr.heap.size .i64 Ao pw) (hIg : Ints wr wr.heap.size .i64 Ag (flat2 got)) (hM7 : Blk wr g7 26 #[.slice A nl cl, .slice Ar nr cr, .int .i64 a0, .int .i64 a1, .int .i64 b0, .int .i64 b1, .int .i64 c0, .int .i64 c1]) (hS : Blk wr g8 28 (siteC s sx sy z r G st wd)) (hE : Blk wr g10 24 #[.int .i64 elo, .int .i64 ehi]) (hX : Blk wr g13 38 (aloftC Ap np cp Ab nb cb Af nf cf Aw nw cw)) (hcb : ∀ (j : Nat) (W : World), j < G → Calls Try.prog 12 #[.agg #[.string s, .int .i64 sx, .int .i64 sy, .int .i64 z, .int .i64 r, .int .i64 (G : Int), .int .i64 st, .int .i64 wd], .int .i64 tilt, .agg #[.int .i64 elo, .int .i64 ehi], .int .i64 j] W fun e w' => e = .returned (.tuple #[.agg #[.int .i64 (bd j).1, .int .i64 (bd j).2], .int .i64 0]) ∧ Below W.heap.size W w') (hcf : ∀ (j : Nat) (W : World), j < G → Below wr.heap.size wr W → Calls Try.prog 13 #[.agg #[.slice A nl cl, .slice Ar nr cr, .int .i64 a0, .int .i64 a1, .int .i64 b0, .int .i64 b1, .int .i64 c0, .int .i64 c1], .agg #[.int .i64 (bd j).1, .int .i64 (bd j).2]] W fun e w' => e = .returned (.tuple #[.agg #[.int .i64 (ff j).1, .int .i64 (ff j).2], .int .i64 0]) ∧ Below W.heap.size W w') (hcv : ∀ (x : Int) (W : World), 0 ≤ x → x ≤ 1073741824 → Below wr.heap.size wr W → Calls Try.prog 14 #[.slice Ar nr cr, .int .i64 x] W fun e w' => e = .returned (.tuple #[.agg #[.int .i64 (vv x).1, .int .i64 (vv x).2], .int .i64 0]) ∧ Below W.heap.size W w')
  (hexit : ∀ ⦃kv14 kv31 kv32 kv33 kv34 kv35 kv36 kv37 kv244 kv245 kv246 kv247 kv248 kv249 kv250 kv251 kv252 kv253 kv254 kv255 kv256 kv257 kv258 kv259 kv260 kv261 kv262 kv263 kv264 kv265 kv266 kv267 kv268 kv269 kv270 kv271 kv272 kv273 kv274 kv275 kv276 kv277 kv278 kv279 kv280 kv281 kv282 kv283 kv284 kv285 kv286 kv287 kv288 kv289 kv290 kv291 kv292 kv293 kv294 kv295 kv296 kv297 kv298 kv299 kv300 kv301 kv302 kv303 kv304 kv305 kv306 kv307 kv308 kv309 kv310 kv311 kv312 kv313 kv314 kv315 kv316 kv317 kv318 kv319 kv320 kv321 kv322 kv323 kv324 kv325 kv326 kv327 kv328 kv329 kv330 kv331 kv332 kv333 kv334 kv335 kv336 kv337 kv338 kv339 kv340 kv341 kv342 kv343 kv344 kv345 kv346 : Value⦄  ⦃w2 : World⦄, Below wr.heap.size wr w2 → Q (.exit 4) ⟨List.toArray (kc0 :: kc1 :: .int .i64 tilt :: kc3 :: kc4 :: kc5 :: kc6 :: .pointer (some ⟨g7, 0, none⟩) :: .pointer (some ⟨g8, 0, none⟩) :: kc9 :: .pointer (some ⟨g10, 0, none⟩) :: kc11 :: kc12 :: .pointer (some ⟨g13, 0, none⟩) :: kv14 :: kc15 :: kc16 :: kc17 :: .slice Ao G co :: kc19 :: kc20 :: kc21 :: kc22 :: kc23 :: kc24 :: kc25 :: kc26 :: kc27 :: kc28 :: .slice Ag G cg :: .int .i64 G :: kv31 :: kv32 :: kv33 :: kv34 :: kv35 :: kv36 :: kv37 :: kc38 :: kc39 :: kc40 :: kc41 :: kc42 :: kc43 :: kc44 :: kc45 :: kc46 :: kc47 :: kc48 :: kc49 :: kc50 :: kc51 :: kc52 :: kc53 :: kc54 :: kc55 :: kc56 :: kc57 :: kc58 :: kc59 :: kc60 :: kc61 :: kc62 :: kc63 :: kc64 :: kc65 :: kc66 :: kc67 :: kc68 :: kc69 :: kc70 :: kc71 :: kc72 :: kc73 :: kc74 :: kc75 :: kc76 :: kc77 :: kc78 :: kc79 :: kc80 :: kc81 :: kc82 :: kc83 :: kc84 :: kc85 :: kc86 :: kc87 :: kc88 :: kc89 :: kc90 :: kc91 :: kc92 :: kc93 :: kc94 :: kc95 :: kc96 :: kc97 :: kc98 :: kc99 :: kc100 :: kc101 :: kc102 :: kc103 :: kc104 :: kc105 :: kc106 :: kc107 :: kc108 :: kc109 :: kc110 :: kc111 :: kc112 :: kc113 :: kc114 :: kc115 :: kc116 :: kc117 :: kc118 :: kc119 :: kc120 :: kc121 :: kc122 :: kc123 :: kc124 :: kc125 :: kc126 :: kc127 :: kc128 :: kc129 :: kc130 :: kc131 :: kc132 :: kc133 :: kc134 :: kc135 :: kc136 :: kc137 :: kc138 :: kc139 :: kc140 :: kc141 :: kc142 :: kc143 :: kc144 :: kc145 :: kc146 :: kc147 :: kc148 :: kc149 :: kc150 :: kc151 :: kc152 :: kc153 :: kc154 :: kc155 :: kc156 :: kc157 :: kc158 :: kc159 :: kc160 :: kc161 :: kc162 :: kc163 :: kc164 :: kc165 :: kc166 :: kc167 :: kc168 :: kc169 :: kc170 :: kc171 :: kc172 :: kc173 :: kc174 :: kc175 :: kc176 :: kc177 :: kc178 :: kc179 :: kc180 :: kc181 :: kc182 :: kc183 :: kc184 :: kc185 :: kc186 :: kc187 :: kc188 :: kc189 :: kc190 :: kc191 :: kc192 :: kc193 :: kc194 :: kc195 :: kc196 :: kc197 :: kc198 :: kc199 :: kc200 :: kc201 :: kc202 :: kc203 :: kc204 :: kc205 :: kc206 :: kc207 :: kc208 :: kc209 :: kc210 :: kc211 :: kc212 :: kc213 :: kc214 :: kc215 :: kc216 :: kc217 :: kc218 :: kc219 :: kc220 :: kc221 :: kc222 :: kc223 :: kc224 :: kc225 :: kc226 :: kc227 :: kc228 :: kc229 :: kc230 :: kc231 :: kc232 :: kc233 :: kc234 :: kc235 :: kc236 :: kc237 :: kc238 :: kc239 :: kc240 :: kc241 :: kc242 :: kc243 :: kv244 :: kv245 :: kv246 :: kv247 :: kv248 :: kv249 :: kv250 :: kv251 :: kv252 :: kv253 :: kv254 :: kv255 :: kv256 :: kv257 :: kv258 :: kv259 :: kv260 :: kv261 :: kv262 :: kv263 :: kv264 :: kv265 :: kv266 :: kv267 :: kv268 :: kv269 :: kv270 :: kv271 :: kv272 :: kv273 :: kv274 :: kv275 :: kv276 :: kv277 :: kv278 :: kv279 :: kv280 :: kv281 :: kv282 :: kv283 :: kv284 :: kv285 :: kv286 :: kv287 :: kv288 :: kv289 :: kv290 :: kv291 :: kv292 :: kv293 :: kv294 :: kv295 :: kv296 :: kv297 :: kv298 :: kv299 :: kv300 :: kv301 :: kv302 :: kv303 :: kv304 :: kv305 :: kv306 :: kv307 :: kv308 :: kv309 :: kv310 :: kv311 :: kv312 :: kv313 :: kv314 :: kv315 :: kv316 :: kv317 :: kv318 :: kv319 :: kv320 :: kv321 :: kv322 :: kv323 :: kv324 :: kv325 :: kv326 :: kv327 :: kv328 :: kv329 :: kv330 :: kv331 :: kv332 :: kv333 :: kv334 :: kv335 :: kv336 :: kv337 :: kv338 :: kv339 :: kv340 :: kv341 :: kv342 :: kv343 :: kv344 :: kv345 :: kv346 :: kc347 :: []), []⟩ w2) :
  Code.wp Try.prog tl3C Q ⟨List.toArray (kc0 :: kc1 :: .int .i64 tilt :: kc3 :: kc4 :: kc5 :: kc6 :: .pointer (some ⟨g7, 0, none⟩) :: .pointer (some ⟨g8, 0, none⟩) :: kc9 :: .pointer (some ⟨g10, 0, none⟩) :: kc11 :: kc12 :: .pointer (some ⟨g13, 0, none⟩) :: ku14 :: kc15 :: kc16 :: kc17 :: .slice Ao G co :: kc19 :: kc20 :: kc21 :: kc22 :: kc23 :: kc24 :: kc25 :: kc26 :: kc27 :: kc28 :: .slice Ag G cg :: .int .i64 0 :: ku31 :: ku32 :: ku33 :: ku34 :: ku35 :: ku36 :: ku37 :: kc38 :: kc39 :: kc40 :: kc41 :: kc42 :: kc43 :: kc44 :: kc45 :: kc46 :: kc47 :: kc48 :: kc49 :: kc50 :: kc51 :: kc52 :: kc53 :: kc54 :: kc55 :: kc56 :: kc57 :: kc58 :: kc59 :: kc60 :: kc61 :: kc62 :: kc63 :: kc64 :: kc65 :: kc66 :: kc67 :: kc68 :: kc69 :: kc70 :: kc71 :: kc72 :: kc73 :: kc74 :: kc75 :: kc76 :: kc77 :: kc78 :: kc79 :: kc80 :: kc81 :: kc82 :: kc83 :: kc84 :: kc85 :: kc86 :: kc87 :: kc88 :: kc89 :: kc90 :: kc91 :: kc92 :: kc93 :: kc94 :: kc95 :: kc96 :: kc97 :: kc98 :: kc99 :: kc100 :: kc101 :: kc102 :: kc103 :: kc104 :: kc105 :: kc106 :: kc107 :: kc108 :: kc109 :: kc110 :: kc111 :: kc112 :: kc113 :: kc114 :: kc115 :: kc116 :: kc117 :: kc118 :: kc119 :: kc120 :: kc121 :: kc122 :: kc123 :: kc124 :: kc125 :: kc126 :: kc127 :: kc128 :: kc129 :: kc130 :: kc131 :: kc132 :: kc133 :: kc134 :: kc135 :: kc136 :: kc137 :: kc138 :: kc139 :: kc140 :: kc141 :: kc142 :: kc143 :: kc144 :: kc145 :: kc146 :: kc147 :: kc148 :: kc149 :: kc150 :: kc151 :: kc152 :: kc153 :: kc154 :: kc155 :: kc156 :: kc157 :: kc158 :: kc159 :: kc160 :: kc161 :: kc162 :: kc163 :: kc164 :: kc165 :: kc166 :: kc167 :: kc168 :: kc169 :: kc170 :: kc171 :: kc172 :: kc173 :: kc174 :: kc175 :: kc176 :: kc177 :: kc178 :: kc179 :: kc180 :: kc181 :: kc182 :: kc183 :: kc184 :: kc185 :: kc186 :: kc187 :: kc188 :: kc189 :: kc190 :: kc191 :: kc192 :: kc193 :: kc194 :: kc195 :: kc196 :: kc197 :: kc198 :: kc199 :: kc200 :: kc201 :: kc202 :: kc203 :: kc204 :: kc205 :: kc206 :: kc207 :: kc208 :: kc209 :: kc210 :: kc211 :: kc212 :: kc213 :: kc214 :: kc215 :: kc216 :: kc217 :: kc218 :: kc219 :: kc220 :: kc221 :: kc222 :: kc223 :: kc224 :: kc225 :: kc226 :: kc227 :: kc228 :: kc229 :: kc230 :: kc231 :: kc232 :: kc233 :: kc234 :: kc235 :: kc236 :: kc237 :: kc238 :: kc239 :: kc240 :: kc241 :: kc242 :: kc243 :: ku244 :: ku245 :: ku246 :: ku247 :: ku248 :: ku249 :: ku250 :: ku251 :: ku252 :: ku253 :: ku254 :: ku255 :: ku256 :: ku257 :: ku258 :: ku259 :: ku260 :: ku261 :: ku262 :: ku263 :: ku264 :: ku265 :: ku266 :: ku267 :: ku268 :: ku269 :: ku270 :: ku271 :: ku272 :: ku273 :: ku274 :: ku275 :: ku276 :: ku277 :: ku278 :: ku279 :: ku280 :: ku281 :: ku282 :: ku283 :: ku284 :: ku285 :: ku286 :: ku287 :: ku288 :: ku289 :: ku290 :: ku291 :: ku292 :: ku293 :: ku294 :: ku295 :: ku296 :: ku297 :: ku298 :: ku299 :: ku300 :: ku301 :: ku302 :: ku303 :: ku304 :: ku305 :: ku306 :: ku307 :: ku308 :: ku309 :: ku310 :: ku311 :: ku312 :: ku313 :: ku314 :: ku315 :: ku316 :: ku317 :: ku318 :: ku319 :: ku320 :: ku321 :: ku322 :: ku323 :: ku324 :: ku325 :: ku326 :: ku327 :: ku328 :: ku329 :: ku330 :: ku331 :: ku332 :: ku333 :: ku334 :: ku335 :: ku336 :: ku337 :: ku338 :: ku339 :: ku340 :: ku341 :: ku342 :: ku343 :: ku344 :: ku345 :: ku346 :: kc347 :: []), []⟩ wr := by
 have HX := hide hexit
 clear hexit
 unfold tl3C
 conv => arg 2; whnf
 unfold siteC at hS
 unfold aloftC at hX
 obtain ⟨w, hw⟩ : ∃ q, q = wr := ⟨_, rfl⟩
 rw [← hw] at hIf hIp hIg hS hX hE hM7 hcf hcv HX
 rw [← hw]
 clear hw
 have Hif := hide hIf
 have Hip := hide hIp
 have Hig := hide hIg
 have HS := hide hS
 have HA := hide hX
 have HE := hide hE
 have HM7 := hide hM7
 have Hbf := hide hbf
 have Hzf := hide hzf
 have Hpw := hide hpw
 have Hgot := hide hgot
 have Hpz := hide hpz
 have Hff := hide hff
 have Hlaw := hide hlaw
 have Hcb := hide hcb
 have Hcf := hide hcf
 have Hcv := hide hcv
 clear hIf hIp hIg hS hX hE hM7 hbf hzf hpw hgot hpz hff hlaw hcb hcf hcv
 go_loopw [30] (fun i wr => ∃ k : Nat, k ≤ G ∧ i = .int .i64 k ∧ Below w.heap.size w wr) (fun i _ => G - (intOf i).toNat)
 case atStart => exact ⟨0, by omega, rfl, Below.refl _ _⟩
 case round =>
  obtain ⟨k, hk, rfl, hL⟩ := hrel
  have hs' := blk_belowN HS.out hL HS.out.lt
  have hx' := blk_belowN HA.out hL HA.out.lt
  have he' := blk_belowN HE.out hL HE.out.lt
  have hm' := blk_belowN HM7.out hL HM7.out.lt
  have Hs := hide hs'
  have Hx := hide hx'
  have He := hide he'
  have Hm := hide hm'
  clear hs' hx' he' hm'
  by_cases hlt : k < G
  ·
   have hlt3 : (k : Int) < G := by omega
   have hsz := hL.size
   have cb := fun W => Hcb.out k W hlt
   have cfk := fun W h => Hcf.out k W hlt h
   obtain ⟨f0, f1, f2⟩ := Hff.out k hlt
   have hkb := kT_bd (zf := zf) f1
   obtain ⟨z0, z1⟩ := Hpz.out k hlt
   obtain ⟨l1, l2⟩ := Hlaw.out k hlt
   have hnv := nthV_bd Hbf.out k
   have hkd : kT ff zf k = (ff k).1 + nthV zf k % ((ff k).2 - (ff k).1 + 1) := rfl
   have cn := fun (W : World) (h : Below w.heap.size w W) => nth_any Af nf cf zf k W Hzf.out hnf (by omega) ((Hif.out.below h).more h.size)
   generalize nthV zf k = nv at *
   obtain ⟨bp, op, hAo, hbp, hcp⟩ := Hip.out (by have := Hpw.out; omega)
   have pp := hcp k (by have := Hpw.out; omega)
   obtain ⟨bg, og, hAg, hbg, hcg⟩ := Hig.out.pt (by have := Hgot.out; omega)
   obtain ⟨pg0, pg1⟩ := hcg k (by have := Hgot.out; omega)
   subst hAo hAg
   generalize pw.getD k 0 = pz at *
   generalize got.getD k (0, 0) = gk at *
   generalize bd k = bk at *
   generalize ff k = fk at *
   obtain ⟨bk1, bk2⟩ := bk
   obtain ⟨fk1, fk2⟩ := fk
   obtain ⟨gk1, gk2⟩ := gk
   simp only at f0 f1 f2 hkb l1 l2 hkd pg0 pg1 cb cfk
   generalize kT ff zf k = kk at *
   have hD0 : ¬ fk2 - fk1 + 1 = 0 := by omega
   have htm : nv.tmod (fk2 - fk1 + 1) = nv % (fk2 - fk1 + 1) := Int.tmod_eq_emod_of_nonneg hnv.1
   have hr0 := Int.emod_nonneg nv hD0
   have hr1 := Int.emod_lt_of_pos nv (show 0 < fk2 - fk1 + 1 by omega)
   generalize nv % (fk2 - fk1 + 1) = rq at *
   have hkd2 : fk1 + rq = kk := hkd.symm
   have hM0 : 0 ≤ pz * kk := Int.mul_nonneg z0 (by omega)
   have hM1 : pz * kk ≤ 1073741824 * 100000 := Int.mul_le_mul z1 (by omega) (by omega) (by omega)
   obtain ⟨M, hMM⟩ : ∃ q, pz * kk = q := ⟨_, rfl⟩
   rw [hMM] at l1 l2 hM0 hM1
   have t1 : M.tdiv 1000 = M / 1000 := Int.tdiv_eq_ediv_of_nonneg hM0
   have t2 : (M + 999).tdiv 1000 = (M + 999) / 1000 := Int.tdiv_eq_ediv_of_nonneg (by omega)
   have x0 : 0 ≤ min 1073741824 (M / 1000) ∧ min 1073741824 (M / 1000) ≤ 1073741824 := by omega
   have x1 : 0 ≤ min 1073741824 ((M + 999) / 1000) ∧ min 1073741824 ((M + 999) / 1000) ≤ 1073741824 := by omega
   have y0 : (if M / 1000 < 1073741824 then M / 1000 else 1073741824) = min 1073741824 (M / 1000) := by split <;> omega
   have y1 : (if (M + 999) / 1000 < 1073741824 then (M + 999) / 1000 else 1073741824) = min 1073741824 ((M + 999) / 1000) := by split <;> omega
   have cv1 := fun W h => Hcv.out (min 1073741824 (M / 1000)) W x0.1 x0.2 h
   have cv2 := fun W h => Hcv.out (min 1073741824 ((M + 999) / 1000)) W x1.1 x1.2 h
   obtain ⟨x, hx⟩ : ∃ q, min 1073741824 (M / 1000) = q := ⟨_, rfl⟩
   obtain ⟨y, hy⟩ : ∃ q, min 1073741824 ((M + 999) / 1000) = q := ⟨_, rfl⟩
   rw [hx] at l1 y0
   rw [hy] at l2 y1
   simp only [hx] at cv1
   simp only [hy] at cv2
   generalize vv x = vx at *
   generalize vv y = vy at *
   obtain ⟨vx1, vx2⟩ := vx
   obtain ⟨vy1, vy2⟩ := vy
   simp only at l1 l2 cv1 cv2
   have hdf : decide (fk2 < fk1) = false := decide_eq_false (by omega)
   have hd1 : decide (vx1 < gk1) = false := decide_eq_false (by omega)
   have hd2 : decide (gk2 < vy2) = false := decide_eq_false (by omega)
   have hP := And.intro pp (And.intro pg0 pg1)
   clear hcp hcg x0 x1 hkd pp pg0 pg1
   have HL := hide hL
   have HP := hide hP
   have Cb := hide cb
   have Cf := hide cfk
   have Cn := hide cn
   have Cv1 := hide cv1
   have Cv2 := hide cv2
   clear hL hP cb cfk cn cv1 cv2
   obtain ⟨x0, x1, x2, x3, x4, x5, x6, x7⟩ := Hs.out.c8
   have ltx := Hs.out.lt
   obtain ⟨e0, e1⟩ := He.out.c2
   have lte := He.out.lt
   go_wp2_with fail
   refine (Cb.out _).mono ?_
   rintro e w3 ⟨rfl, hb⟩
   replace Hs := hide (blk_later Hs.out hb)
   replace Hx := hide (blk_later Hx.out hb)
   replace He := hide (blk_later He.out hb)
   replace Hm := hide (blk_later Hm.out hb)
   replace HL := hide (onward HL.out hb)
   clear hb x0 x1 x2 x3 x4 x5 x6 x7 ltx e0 e1 lte
   obtain ⟨m0, m1, m2, m3, m4, m5, m6, m7⟩ := Hm.out.c8
   have ltm := Hm.out.lt
   go_wp2_with fail
   refine at_world fun w4 hW => ?_
   have bq0 : Blk w4 w3.heap.size 24 #[.int .i64 bk1, .int .i64 bk2] := by rw [hW]; exact Blk.new _ _ _
   have LW : Later w3 w4 := by rw [hW]; exact ((Below.refl _ _).alloc (Nat.le_refl _) _)
   have szW : w4.heap.size = w3.heap.size + 1 := by rw [hW]; simp
   clear hW m0 m1 m2 m3 m4 m5 m6 m7 ltm
   replace Hs := hide (blk_later Hs.out LW)
   replace Hx := hide (blk_later Hx.out LW)
   replace He := hide (blk_later He.out LW)
   replace Hm := hide (blk_later Hm.out LW)
   replace HL := hide (onward HL.out LW)
   have Hb1 := hide bq0
   clear bq0 LW szW
   refine (Cf.out _ HL.out).mono ?_
   rintro e w5 ⟨rfl, hb⟩
   replace Hs := hide (blk_later Hs.out hb)
   replace Hx := hide (blk_later Hx.out hb)
   replace He := hide (blk_later He.out hb)
   replace Hm := hide (blk_later Hm.out hb)
   replace HL := hide (onward HL.out hb)
   replace Hb1 := hide (blk_later Hb1.out hb)
   clear hb
   go_wp2_with fail
   refine code_world fun w6 hW => ?_
   have bq0 : Blk w6 w5.heap.size 24 #[.int .i64 fk1, .int .i64 fk2] := by rw [hW]; exact Blk.new _ _ _
   have LW : Later w5 w6 := by rw [hW]; exact ((Below.refl _ _).alloc (Nat.le_refl _) _)
   have szW : w6.heap.size = w5.heap.size + 1 := by rw [hW]; simp
   clear hW
   replace Hs := hide (blk_later Hs.out LW)
   replace Hx := hide (blk_later Hx.out LW)
   replace He := hide (blk_later He.out LW)
   replace Hm := hide (blk_later Hm.out LW)
   replace HL := hide (onward HL.out LW)
   replace Hb1 := hide (blk_later Hb1.out LW)
   have Hb2 := hide bq0
   clear bq0 LW szW
   obtain ⟨q0, q1⟩ := Hb2.out.c2
   have ltq := Hb2.out.lt
   obtain ⟨h0, h1, h2, h3⟩ := Hx.out.c4
   have lth := Hx.out.lt
   apply wp_region_L (w0 := w6) [[], [], [], [], [], [], [], [], [], [], [], [], [], [], [], []] [true, true, true, true, true, true, true, true, true, true, true, true, true, true, true, true] [] (fun ixq y => match ixq with  | _ => undef) (fun ixq x F wq => match ixq with  | _ => True) (fun a x => a) (by kernel_rfl) (by kernel_rfl) (fun _ => rfl) [282] (by kernel_rfl)
   ·
    intro x D hD
    have hne := hD.some
    have k0 := liftB hD q0 (by first | assumption | omega)
    have k1 := liftB hD q1 (by first | assumption | omega)
    have k2 := liftB hD h2 (by first | assumption | omega)
    simp only [takeOps, Act.put, List.setIfInBounds_toArray, List.set_cons_succ, List.set_cons_zero]
    repeat (go_big_quiet_step ((go_at_call 8; exact calls_later hD _ (Cn.out _ (onward HL.out (kb hD _))))))
    exact wpQuiet_nil rfl
   ·
    intro d hd x x'
    simp only [List.mem_cons, List.not_mem_nil, or_false] at hd
    rcases hd with rfl
    all_goals rfl
   · exact trivial
   · exact trivial
   intro xx w7 F hK hlv1
   clear hlv1
   replace Hs := hide (blk_later Hs.out hK)
   replace Hx := hide (blk_later Hx.out hK)
   replace He := hide (blk_later He.out hK)
   replace Hm := hide (blk_later Hm.out hK)
   replace HL := hide (onward HL.out hK)
   replace Hb1 := hide (blk_later Hb1.out hK)
   replace Hb2 := hide (blk_later Hb2.out hK)
   clear hK q0 q1 ltq h0 h1 h2 h3 lth
   obtain ⟨m0, m1, m2, m3, m4, m5, m6, m7⟩ := Hm.out.c8
   have ltm := Hm.out.lt
   have p := HP.out.1
   rw [← HL.out.cell hbp] at p
   have hbp7 : bp < w7.heap.size := by have := HL.out.size; omega
   go_wp2_with fail
   apply wp_region_L (w0 := w7) [[], [], [], [], [], [], [], [], [], [], [], [], [], [], [], [14], [14, 15]] [true, true, true, true, true, true, true, true, true, true, true, true, true, true, false, false, true] [⟨14, none, [], []⟩, ⟨15, some 14, [14], [14]⟩] (fun ixq y => match ixq with | 14 => .pointer (y 0).1 | 15 => undef | _ => undef) (fun ixq x F wq => match ixq with | 14 => PtrF wq F w7.heap.size (x 14 0).1 24 #[.int .i64 0, .int .i64 0] | 15 => PtrF wq F w7.heap.size (x 14 0).1 24 #[.int .i64 vx1, .int .i64 vx2] | _ => True) (fun a x => ((a).put (some 36) (.pointer ((x 14) 0).1)).put (none) (undef)) (by kernel_rfl) (by kernel_rfl) (fun _ => rfl) [303] (by kernel_rfl)
   ·
    intro x D hD
    have hne := hD.some
    have k0 := liftB hD m1 (by first | assumption | omega)
    have k1 := liftB hD p (by first | assumption | omega)
    simp only [takeOps, Act.put, List.setIfInBounds_toArray, List.set_cons_succ, List.set_cons_zero]
    repeat (go_big_quiet_step ((go_at_call 14; exact calls_later hD _ (Cv1.out _ (onward HL.out (kb hD _))))))
    exact wpQuiet_nil rfl
   ·
    intro d hd x x'
    simp only [List.mem_cons, List.not_mem_nil, or_false] at hd
    rcases hd with rfl
    all_goals rfl
   ·
    refine ⟨?_, ?_, trivial⟩
    · exact obl_alloc 24 36 (.agg #[.int .i64 0, .int .i64 0]) (by kernel_rfl) (by kernel_rfl) (fun _ => rfl) (fun _ _ _ h => h)
    · refine obl_store 24 36 304 14 #[.int .i64 0, .int .i64 0] (fun x => #[.int .i64 vx1, .int .i64 vx2]) (by kernel_rfl) rfl (by simp) (fun _ _ _ h => h) (fun _ => rfl) (fun _ => rfl) (fun _ => by kernel_rfl) (fun _ => rfl) (fun _ => by simp [Value.oneCell']) (fun _ => rfl) (by decide) (fun _ _ _ _ h => h)
   ·
    refine ⟨?_, ?_, trivial⟩
    · exact owe_ptr 14 _ _ (fun x => #[.int .i64 0, .int .i64 0]) (fun _ _ _ => rfl) (by simp) (fun _ _ _ => rfl)
    · exact owe_ptr 14 _ _ (fun x => #[.int .i64 vx1, .int .i64 vx2]) (fun _ _ _ => rfl) (by simp) (fun _ _ _ => rfl)
   intro xx2 w8 F hK hlv2
   obtain ⟨-, fct15, -⟩ := hlv2
   replace fct15 : PtrF w8 (F 15) w7.heap.size (xx2 14 0).1 24 #[.int .i64 vx1, .int .i64 vx2] := fct15 rfl
   obtain ⟨g3, hg3, hge3, -, hb3⟩ := fct15
   rw [hg3]
   clear p hg3
   replace Hs := hide (blk_later Hs.out hK)
   replace Hx := hide (blk_later Hx.out hK)
   replace He := hide (blk_later He.out hK)
   replace Hm := hide (blk_later Hm.out hK)
   replace HL := hide (onward HL.out hK)
   replace Hb1 := hide (blk_later Hb1.out hK)
   replace Hb2 := hide (blk_later Hb2.out hK)
   clear hK m0 m1 m2 m3 m4 m5 m6 m7 ltm
   have Hv1 := hide hb3
   clear hb3
   obtain ⟨m0, m1, m2, m3, m4, m5, m6, m7⟩ := Hm.out.c8
   have ltm := Hm.out.lt
   have p := HP.out.1
   rw [← HL.out.cell hbp] at p
   have hbp8 : bp < w8.heap.size := by have := HL.out.size; omega
   go_wp2_with fail
   apply wp_region_L (w0 := w8) [[], [], [], [], [], [], [], [], [], [], [], [], [], [], [], [], [15], [15, 16]] [true, true, true, true, true, true, true, true, true, true, true, true, true, true, true, false, false, true] [⟨15, none, [], []⟩, ⟨16, some 15, [15], [15]⟩] (fun ixq y => match ixq with | 15 => .pointer (y 0).1 | 16 => undef | _ => undef) (fun ixq x F wq => match ixq with | 15 => PtrF wq F w8.heap.size (x 15 0).1 24 #[.int .i64 0, .int .i64 0] | 16 => PtrF wq F w8.heap.size (x 15 0).1 24 #[.int .i64 vy1, .int .i64 vy2] | _ => True) (fun a x => ((a).put (some 37) (.pointer ((x 15) 0).1)).put (none) (undef)) (by kernel_rfl) (by kernel_rfl) (fun _ => rfl) [318] (by kernel_rfl)
   ·
    intro x D hD
    have hne := hD.some
    have k0 := liftB hD m1 (by first | assumption | omega)
    have k1 := liftB hD p (by first | assumption | omega)
    simp only [takeOps, Act.put, List.setIfInBounds_toArray, List.set_cons_succ, List.set_cons_zero]
    repeat (go_big_quiet_step ((go_at_call 14; exact calls_later hD _ (Cv2.out _ (onward HL.out (kb hD _))))))
    exact wpQuiet_nil rfl
   ·
    intro d hd x x'
    simp only [List.mem_cons, List.not_mem_nil, or_false] at hd
    rcases hd with rfl
    all_goals rfl
   ·
    refine ⟨?_, ?_, trivial⟩
    · exact obl_alloc 24 37 (.agg #[.int .i64 0, .int .i64 0]) (by kernel_rfl) (by kernel_rfl) (fun _ => rfl) (fun _ _ _ h => h)
    · refine obl_store 24 37 319 15 #[.int .i64 0, .int .i64 0] (fun x => #[.int .i64 vy1, .int .i64 vy2]) (by kernel_rfl) rfl (by simp) (fun _ _ _ h => h) (fun _ => rfl) (fun _ => rfl) (fun _ => by kernel_rfl) (fun _ => rfl) (fun _ => by simp [Value.oneCell']) (fun _ => rfl) (by decide) (fun _ _ _ _ h => h)
   ·
    refine ⟨?_, ?_, trivial⟩
    · exact owe_ptr 15 _ _ (fun x => #[.int .i64 0, .int .i64 0]) (fun _ _ _ => rfl) (by simp) (fun _ _ _ => rfl)
    · exact owe_ptr 15 _ _ (fun x => #[.int .i64 vy1, .int .i64 vy2]) (fun _ _ _ => rfl) (by simp) (fun _ _ _ => rfl)
   intro xx3 w9 F hK hlv3
   obtain ⟨-, fct16, -⟩ := hlv3
   replace fct16 : PtrF w9 (F 16) w8.heap.size (xx3 15 0).1 24 #[.int .i64 vy1, .int .i64 vy2] := fct16 rfl
   obtain ⟨g4, hg4, hge4, -, hb4⟩ := fct16
   rw [hg4]
   clear p hg4
   replace Hs := hide (blk_later Hs.out hK)
   replace Hx := hide (blk_later Hx.out hK)
   replace He := hide (blk_later He.out hK)
   replace Hm := hide (blk_later Hm.out hK)
   replace HL := hide (onward HL.out hK)
   replace Hb1 := hide (blk_later Hb1.out hK)
   replace Hb2 := hide (blk_later Hb2.out hK)
   replace Hv1 := hide (blk_later Hv1.out hK)
   clear hK m0 m1 m2 m3 m4 m5 m6 m7 ltm
   have Hv2 := hide hb4
   clear hb4
   obtain ⟨q0, q1⟩ := Hv1.out.c2
   have ltq := Hv1.out.lt
   obtain ⟨h0, h1⟩ := Hv2.out.c2
   have lth := Hv2.out.lt
   have p0 := HP.out.2.1
   have p1 := HP.out.2.2
   rw [← HL.out.cell hbg] at p0 p1
   have hbg9 : bg < w9.heap.size := by have := HL.out.size; omega
   go_wp2_with fail
   go_quiet (fail)
   have hK : Below w9.heap.size w9 (w9.drewN nq) := below_drewN (Below.refl _ _) _
   generalize (w9.drewN nq : World) = w10 at hK ⊢
   clear p0 p1
   replace Hs := hide (blk_later Hs.out hK)
   replace Hx := hide (blk_later Hx.out hK)
   replace He := hide (blk_later He.out hK)
   replace Hm := hide (blk_later Hm.out hK)
   replace HL := hide (onward HL.out hK)
   replace Hb1 := hide (blk_later Hb1.out hK)
   replace Hb2 := hide (blk_later Hb2.out hK)
   replace Hv1 := hide (blk_later Hv1.out hK)
   replace Hv2 := hide (blk_later Hv2.out hK)
   clear hK q0 q1 ltq h0 h1 lth
   go_wp2_with fail
   go_roundw
   case rel => exact ⟨k + 1, by omega, by go_num, HL.out⟩
   case measure => simp [intOf] <;> omega
  ·
   obtain rfl : k = G := by omega
   have hlt3 : ¬ ((k : Int) < k) := by omega
   obtain ⟨x0, x1, x2, x3, x4, x5, x6, x7⟩ := Hs.out.c8
   have ltx := Hs.out.lt
   go_wp2_with fail
   exact HX.out hL
end Go.Proofs.Ytepgpihobmjbdaa
end
section
namespace Go.Proofs.Ytepgpihobmjbdaa
open Go.RowKit
def rateR (e : Int) (l : List (Int × Int)) : List (Int × Int) × Int := if e ≠ 0 then ([], e) else (l, 0)
set_option maxHeartbeats 4000000 in
set_option maxRecDepth 100000 in
theorem Rates_any (s : ByteArray) (sx sy z r g st wd tilt time elo ehi gx gy gs wi hi ray : Int) (l rt gl : List (Int × Int)) (a0 a1 b0 b1 c0 c1 : Int) (n ng : Nat) (rr : Nat → Ray1) (A : Option Addr) (nl cl : Nat) (Ar : Option Addr) (nr cr : Nat) (As : Option Addr) (cs : Nat) (Ag : Option Addr) (cg : Nat) (w : World)
  (hs : s.size ≤ 9223372036854775807) (hn : l.length = nl) (hmax : nl ≤ 9223372036854775807) (hnr : rt.length = nr) (hmaxr : nr ≤ 9223372036854775807) (hng : gl.length = ng) (hmaxg : ng ≤ 9223372036854775807) (hns : n ≤ maxLen)
  (hl : Ints w w.heap.size .i64 A (flat2 l)) (hlr : Ints w w.heap.size .i64 Ar (flat2 rt)) (hlg : Ints w w.heap.size .i64 Ag (flat2Q gl)) (hrs : RaysAt w w.heap.size As n rr) :
  Calls Try.prog 10 #[.agg (mdlC A nl cl Ar nr cr a0 a1 b0 b1 c0 c1), .agg (sweepC s sx sy z r g st wd tilt time As n cs), .agg #[.int .i64 elo, .int .i64 ehi], .agg (fldC gx gy gs wi hi Ag ng cg), .int .i64 ray] w (SpansPost (rateR (allE s sx sy z r g st wd tilt time elo ehi gx gy gs wi hi ray l rt gl a0 a1 b0 b1 c0 c1 n ng rr) (rateL z r g st wd tilt elo ehi gx gy gs wi hi sx sy ray l rt gl a0 a1 b0 b1 c0 c1 rr)) w) := by
 have cC := fun (W : World) (h1 : Ints W W.heap.size .i64 A (flat2 l)) (h2 : Ints W W.heap.size .i64 Ar (flat2 rt)) (h3 : Ints W W.heap.size .i64 Ag (flat2Q gl)) (h4 : RaysAt W W.heap.size As n rr) => checked_any s sx sy z r g st wd tilt time elo ehi gx gy gs wi hi ray l rt gl a0 a1 b0 b1 c0 c1 n ng rr A nl cl Ar nr cr As cs Ag cg W hs hn hmax hnr hmaxr hng hmaxg hns h1 h2 h3 h4
 have cR := fun (h0 : (allE s sx sy z r g st wd tilt time elo ehi gx gy gs wi hi ray l rt gl a0 a1 b0 b1 c0 c1 n ng rr) = 0) (W : World) (h1 : Ints W W.heap.size .i64 A (flat2 l)) (h2 : Ints W W.heap.size .i64 Ar (flat2 rt)) (h3 : Ints W W.heap.size .i64 Ag (flat2Q gl)) (h4 : RaysAt W W.heap.size As n rr) => rates_any s sx sy z r g st wd tilt time elo ehi gx gy gs wi hi ray l rt gl a0 a1 b0 b1 c0 c1 n ng rr A nl cl Ar nr cr As cs Ag cg W hs hn hmax hnr hmaxr hng hmaxg hns h1 h2 h3 h4 h0
 have hlen : (rateL z r g st wd tilt elo ehi gx gy gs wi hi sx sy ray l rt gl a0 a1 b0 b1 c0 c1 rr).length = g.toNat := rayL_length _ _ _ _ _ _ _ _
 generalize (rateL z r g st wd tilt elo ehi gx gy gs wi hi sx sy ray l rt gl a0 a1 b0 b1 c0 c1 rr) = RL at *
 generalize (allE s sx sy z r g st wd tilt time elo ehi gx gy gs wi hi ray l rt gl a0 a1 b0 b1 c0 c1 n ng rr) = E at *
 unfold mdlC sweepC fldC at *
 have CC := hide cC
 have CR := hide cR
 have Hl := hide hl
 have Hlr := hide hlr
 have Hlg := hide hlg
 have Hrs := hide hrs
 have Hlen := hide hlen
 clear cC cR hl hlr hlg hrs hlen
 clear hs hn hmax hnr hmaxr hng hmaxg hns
 by_cases h0 : E = 0
 ·
  subst h0
  have cr := CR.out rfl
  have Cr := hide cr
  clear cr
  clear CR
  rw [show rateR 0 RL = (RL, 0) from rfl]
  go_enter Try.func10, Try.ntmps10
  have HB := hide (Below.refl w.heap.size w)
  go_wp2_with fail
  refine at_world fun W hW => ?_
  have bq0 : Blk W w.heap.size 26 #[.slice A nl cl, .slice Ar nr cr, .int .i64 a0, .int .i64 a1, .int .i64 b0, .int .i64 b1, .int .i64 c0, .int .i64 c1] := by rw [hW]; exact (((Blk.new _ _ _).alloc _).alloc _).alloc _
  have bq1 : Blk W (w.heap.size + 1) 53 #[.string s, .int .i64 sx, .int .i64 sy, .int .i64 z, .int .i64 r, .int .i64 g, .int .i64 st, .int .i64 wd, .int .i64 tilt, .int .i64 time, .slice As n cs] := by rw [hW]; exact ((blk_new_at (by simp)).alloc _).alloc _
  have bq2 : Blk W (w.heap.size + 2) 24 #[.int .i64 elo, .int .i64 ehi] := by rw [hW]; exact (blk_new_at (by simp)).alloc _
  have bq3 : Blk W (w.heap.size + 3) 33 #[.int .i64 gx, .int .i64 gy, .int .i64 gs, .int .i64 wi, .int .i64 hi, .slice Ag ng cg] := by rw [hW]; exact blk_new_at (by simp)
  have LW : Later w W := by rw [hW]; exact (((((Below.refl _ _).alloc (Nat.le_refl _) _).alloc (by simp; try omega) _).alloc (by simp; try omega) _).alloc (by simp; try omega) _)
  have szW : W.heap.size = w.heap.size + 4 := by rw [hW]; simp
  clear hW
  replace HB := hide (onward HB.out LW)
  have Hm := hide bq0
  have Hsw := hide bq1
  have He := hide bq2
  have Hf := hide bq3
  clear bq0 bq1 bq2 bq3 LW szW
  refine (CC.out _ ((Hl.out.below HB.out).more HB.out.size) ((Hlr.out.below HB.out).more HB.out.size) ((Hlg.out.below HB.out).more HB.out.size) ((Hrs.out.below HB.out).more HB.out.size)).mono ?_
  rintro e w1 ⟨rfl, hb⟩
  replace HB := hide (onward HB.out hb)
  replace Hm := hide (blk_later Hm.out hb)
  replace Hsw := hide (blk_later Hsw.out hb)
  replace He := hide (blk_later He.out hb)
  replace Hf := hide (blk_later Hf.out hb)
  clear hb
  obtain ⟨m0, m1, m2, m3, m4, m5, m6, m7⟩ := Hm.out.c8
  have ltm := Hm.out.lt
  have x0 := Hsw.out.c 0 rfl
  have x1 := Hsw.out.c 1 rfl
  have x2 := Hsw.out.c 2 rfl
  have x3 := Hsw.out.c 3 rfl
  have x4 := Hsw.out.c 4 rfl
  have x5 := Hsw.out.c 5 rfl
  have x6 := Hsw.out.c 6 rfl
  have x7 := Hsw.out.c 7 rfl
  have x8 := Hsw.out.c 8 rfl
  have x9 := Hsw.out.c 9 rfl
  have x10 := Hsw.out.c 10 rfl
  have ltx := Hsw.out.lt
  obtain ⟨y0, y1⟩ := He.out.c2
  have lty := He.out.lt
  obtain ⟨f0, f1, f2, f3, f4, f5⟩ := Hf.out.c6
  have ltf := Hf.out.lt
  go_wp2_with fail
  have hsz1 : w.heap.size ≤ w1.heap.size := HB.out.size
  refine (Cr.out _ ((Hl.out.below HB.out).more HB.out.size) ((Hlr.out.below HB.out).more HB.out.size) ((Hlg.out.below HB.out).more HB.out.size) ((Hrs.out.below HB.out).more HB.out.size)).mono ?_
  rintro e w2 ⟨v, rfl, ho, hb⟩
  replace HB := hide (onward HB.out hb)
  replace Hm := hide (blk_later Hm.out hb)
  replace Hsw := hide (blk_later Hsw.out hb)
  replace He := hide (blk_later He.out hb)
  replace Hf := hide (blk_later Hf.out hb)
  clear hb m0 m1 m2 m3 m4 m5 m6 m7 ltm x0 x1 x2 x3 x4 x5 x6 x7 x8 x9 x10 ltx y0 y1 lty f0 f1 f2 f3 f4 f5 ltf
  have ho2 := own_mono ho hsz1
  go_wp2
  go_ret2
  exact ⟨_, rfl, by rw [Hlen.out]; exact ho2, HB.out⟩
 ·
  have hd : (E != 0) = true := by simp [h0]
  rw [show rateR E RL = ([], E) from if_pos h0]
  go_enter Try.func10, Try.ntmps10
  have HB := hide (Below.refl w.heap.size w)
  go_wp2_with fail
  refine at_world fun W hW => ?_
  have bq0 : Blk W w.heap.size 26 #[.slice A nl cl, .slice Ar nr cr, .int .i64 a0, .int .i64 a1, .int .i64 b0, .int .i64 b1, .int .i64 c0, .int .i64 c1] := by rw [hW]; exact (((Blk.new _ _ _).alloc _).alloc _).alloc _
  have bq1 : Blk W (w.heap.size + 1) 53 #[.string s, .int .i64 sx, .int .i64 sy, .int .i64 z, .int .i64 r, .int .i64 g, .int .i64 st, .int .i64 wd, .int .i64 tilt, .int .i64 time, .slice As n cs] := by rw [hW]; exact ((blk_new_at (by simp)).alloc _).alloc _
  have bq2 : Blk W (w.heap.size + 2) 24 #[.int .i64 elo, .int .i64 ehi] := by rw [hW]; exact (blk_new_at (by simp)).alloc _
  have bq3 : Blk W (w.heap.size + 3) 33 #[.int .i64 gx, .int .i64 gy, .int .i64 gs, .int .i64 wi, .int .i64 hi, .slice Ag ng cg] := by rw [hW]; exact blk_new_at (by simp)
  have LW : Later w W := by rw [hW]; exact (((((Below.refl _ _).alloc (Nat.le_refl _) _).alloc (by simp; try omega) _).alloc (by simp; try omega) _).alloc (by simp; try omega) _)
  have szW : W.heap.size = w.heap.size + 4 := by rw [hW]; simp
  clear hW
  replace HB := hide (onward HB.out LW)
  have Hm := hide bq0
  have Hsw := hide bq1
  have He := hide bq2
  have Hf := hide bq3
  clear bq0 bq1 bq2 bq3 LW szW
  refine (CC.out _ ((Hl.out.below HB.out).more HB.out.size) ((Hlr.out.below HB.out).more HB.out.size) ((Hlg.out.below HB.out).more HB.out.size) ((Hrs.out.below HB.out).more HB.out.size)).mono ?_
  rintro e w1 ⟨rfl, hb⟩
  replace HB := hide (onward HB.out hb)
  replace Hm := hide (blk_later Hm.out hb)
  replace Hsw := hide (blk_later Hsw.out hb)
  replace He := hide (blk_later He.out hb)
  replace Hf := hide (blk_later Hf.out hb)
  clear hb
  go_wp2
  go_ret2
  exact spans_nil _ HB.out
end Go.Proofs.Ytepgpihobmjbdaa
end
section
namespace Go.Proofs.Ytepgpihobmjbdaa
open Go Go.RowKit
theorem chkGo_more {m M : Int} (h : m ≤ M) : ∀ (l : List (Int × Int)) (k : Nat) (bz br : Int), chkGo m k bz br l = 0 → chkGo M k bz br l = 0
 | [], _, _, _, _ => rfl
 | p :: t, k, bz, br, h0 => by
  rw [chkGo] at h0 ⊢
  split at h0
  · exact absurd h0 (by omega)
  ·
   rename_i hw
   split at h0
   · exact absurd h0 (by omega)
   ·
    rename_i ho
    have hw' : win p.1 0 1073741824 = true ∧ win p.2 0 M = true := by
     have hh : win p.1 0 1073741824 = true ∧ win p.2 0 m = true := by simpa using hw
     have := win_iff.1 hh.2
     exact ⟨hh.1, win_iff.2 ⟨by omega, by omega⟩⟩
    rw [if_neg (fun hc => hc hw'), if_neg ho]
    exact chkGo_more h t _ _ _ h0
theorem chk_more {m M : Int} (h : m ≤ M) {l : List (Int × Int)} (h0 : chk l m = 0) : chk l M = 0 := by
 unfold chk at h0 ⊢
 split at h0
 · exact absurd h0 (by omega)
 ·
  rename_i h1
  rw [if_neg h1]
  split at h0
  · exact absurd h0 (by omega)
  ·
   rename_i h2
   rw [if_neg h2]
   exact chkGo_more h l _ _ _ h0
theorem firstN_all {f : Nat → Int} : ∀ {n k : Nat}, (∀ i, i < n → f (k + i) = 0) → firstN f k n = 0
 | 0, _, _ => rfl
 | n + 1, k, h => by
  rw [firstN, if_neg (by have := h 0 (by omega); simp at this; omega)]
  refine firstN_all fun i hi => ?_
  have := h (i + 1) (by omega)
  rwa [show k + 1 + i = k + (i + 1) by omega]
def RaysOk (ms : List (Int × Int)) (a : Int) (G : Nat) (R4 : Nat) (rr : Nat → Ray1) : Prop := ∀ i, i < R4 → ((rr i).n : Int) = G ∧ ∀ j, (rr i).e j = eZ ms a i j
theorem sweepE_zero {ms : List (Int × Int)} {a se tilt r : Int} {G R4 : Nat} {rr : Nat → Ray1} (h : RaysOk ms a G R4 rr) (hm : ms.length = G) (hok : ∀ j, j < G → okM (ms.getD j (0, 0)) = true) (hs : se = 0) (ht : 0 ≤ tilt ∧ tilt ≤ 256) (hR : (R4 : Int) = 4 * r) : sweepE se tilt 0 r G R4 rr = 0 := by
 unfold sweepE
 rw [if_neg (by omega), show (win tilt 0 256 && win 0 0 4294967296) = true by rw [win_iff.2 ht]; rfl, if_neg (by simp), if_neg (by omega), shapeB_yes (fun i hi => (h i hi).1), if_neg (by simp)]
 unfold rowsE
 refine firstN_all fun i hi => firstN_all fun j hj => ?_
 rw [Nat.zero_add] at *
 rw [Nat.zero_add, (h i hi).2 j]
 have hj2 : j < G := by have := (h i hi).1; omega
 unfold eZ
 split
 · exact kE_ok (hok j hj2)
 · exact kE_ok (by decide)
theorem powL_ms {ms : List (Int × Int)} {G R4 a : Nat} {rr : Nat → Ray1} (h : RaysOk ms a G R4 rr) (hm : ms.length = G) (ha : a < R4) : powL (rr a) G = ms := by
 refine ext_getD (by rw [powL_length, hm]) fun j hj => ?_
 rw [powL_length] at hj
 rw [powL_get hj, (h a ha).2 j]
 unfold eZ
 rw [if_pos rfl]
 rfl
def ratesT (z st wd tilt elo ehi : Int) (l rt : List (Int × Int)) (a0 a1 b0 b1 c0 c1 : Int) (bl ms : List (Int × Int)) (G : Nat) : List (Int × Int) :=
 rayL l rt (a0, a1) (b0, b1) (c0, c1) (rowL (bandZ z st wd tilt elo ehi) G) (fillsL ms (2 * wd + 1) bl) G
theorem rates_sweep {s : ByteArray} {sx sy z r st wd tilt elo ehi gx gy gs wi hi : Int} {G a R4 : Nat} {l rt gl : List (Int × Int)} {a0 a1 b0 b1 c0 c1 : Int} {ng : Nat} {rr : Nat → Ray1} {ms : List (Int × Int)} (h : RaysOk ms a G R4 rr) (hm : ms.length = G) (hok : ∀ j, j < G → okM (ms.getD j (0, 0)) = true)
  (hmd : chkModel l rt (a0, a1) (b0, b1) (c0, c1) = 0) (hs : siteE (nameB s) sx sy z r G st wd = 0) (ht : 0 ≤ tilt ∧ tilt ≤ 256) (hR : (R4 : Int) = 4 * r) (ha : a < R4) (hb : blockE 0 (fieldE (gridE gx gy gs wi hi) ng wi hi gl 20000) tilt elo ehi a r = 0) :
  allE s sx sy z r G st wd tilt 0 elo ehi gx gy gs wi hi a l rt gl a0 a1 b0 b1 c0 c1 R4 ng rr = 0 ∧
   rateL z r G st wd tilt elo ehi gx gy gs wi hi sx sy a l rt gl a0 a1 b0 b1 c0 c1 rr = ratesT z st wd tilt elo ehi l rt a0 a1 b0 b1 c0 c1 (rowL (rowB gl sx sy r z st wd tilt a elo ehi gx gy gs wi hi) G) ms G := by
 constructor
 ·
  unfold allE readyE
  rw [hmd, if_neg (by simp), sweepE_zero h hm hok hs ht hR, if_neg (by simp), hs]
  exact hb
 ·
  unfold rateL ratesT
  rw [Int.toNat_natCast, Int.toNat_natCast, powL_ms h hm ha]
end Go.Proofs.Ytepgpihobmjbdaa
end
section
namespace Go.Proofs.Ytepgpihobmjbdaa
open Go Go.RowKit
theorem facS_le {a0 a1 b0 b1 c0 c1 x y : Int} (ha : a0 ≤ a1) (hx : x ≤ y) (hb : 0 ≤ b0 ∧ b0 ≤ b1 ∧ b1 ≤ 100000) (hc : 0 ≤ c0 ∧ c0 ≤ c1 ∧ c1 ≤ 100000) : (facS (a0, a1) (b0, b1) (c0, c1) (x, y)).1 ≤ (facS (a0, a1) (b0, b1) (c0, c1) (x, y)).2 := by
 unfold facS
 by_cases m1 : x < a0 <;> by_cases m3 : a1 < y
 all_goals
  by_cases m2 : max x a0 ≤ min y a1
  all_goals
   simp only [met1, met2, met3, meetF, m1, m2, m3, decide_true, decide_false, if_true, if_false, Bool.false_eq_true]
   omega
theorem block_tilt {se fe t elo ehi ray r : Int} (h : blockE se fe t elo ehi ray r = 0) : 0 ≤ t ∧ t ≤ 256 := by
 unfold blockE at h
 split at h
 · rename_i h0; exact absurd h h0
 ·
  split at h
  · rename_i h1; exact absurd h h1
  ·
   split at h
   ·
    rename_i h2
    simp only [Bool.and_eq_true] at h2
    exact winB_iff.1 h2.1.1
   · omega
theorem passR_ok {l : List (Int × Int)} {pw : List Int} (h : chk l 32768 = 0) (hl : pw.length ≤ 200) (hp : ∀ z ∈ pw, 0 ≤ z ∧ z ≤ 1073741824) : passR l pw = (passGo l whole pw, 0) := by
 unfold passR
 rw [h, if_neg (by simp), if_neg (by omega), if_pos]
 rw [List.all_eq_true]
 intro x hx
 exact win_iff.2 (hp x hx)
theorem facR_ok {l m : List (Int × Int)} {a0 a1 b0 b1 c0 c1 x y : Int} (h : chkModel l m (a0, a1) (b0, b1) (c0, c1) = 0) (hx : x ≤ y) : facR l m (a0, a1) (b0, b1) (c0, c1) (x, y) = (facS (a0, a1) (b0, b1) (c0, c1) (x, y), 0) := by
 unfold facR
 rw [h, if_neg (by simp), if_neg (by simp only; omega)]
theorem valueR_ok {l : List (Int × Int)} {z : Int} (h : chk l 1000000 = 0) (h0 : 0 ≤ z) (h1 : z ≤ 1073741824) : valueR l z = (valGo z l, 0) := by
 unfold valueR
 rw [chk_more (by omega : (1000000 : Int) ≤ 1073741824) h, if_neg (by simp), win_iff.2 ⟨h0, h1⟩, if_neg (by simp)]
theorem getD_in {pw : List Int} {j : Nat} (h : ∀ z ∈ pw, 0 ≤ z ∧ z ≤ 1073741824) (hj : j < pw.length) : 0 ≤ pw.getD j 0 ∧ pw.getD j 0 ≤ 1073741824 := by
 simp only [List.getD, List.getElem?_eq_getElem hj, Option.getD_some]
 exact h _ (List.getElem_mem hj)
theorem ratesT_length {z st wd tilt elo ehi : Int} {l rt : List (Int × Int)} {a0 a1 b0 b1 c0 c1 : Int} {bl ms : List (Int × Int)} {G : Nat} : (ratesT z st wd tilt elo ehi l rt a0 a1 b0 b1 c0 c1 bl ms G).length = G := rayL_length _ _ _ _ _ _ _ _
theorem pass_ok {l : List (Int × Int)} {pw : List Int} (hT : Tab l 32768) (hp : ∀ z ∈ pw, 0 ≤ z ∧ z ≤ 1073741824) {j : Nat} (hj : j < pw.length) : okM ((passGo l whole pw).getD j (0, 0)) = true :=
 (back_ok hT pw whole whole whole_psg1 whole_psg1.toPsg (Int.le_refl _) whole_w hp j hj).1
theorem measT_ok {n : Int} {pa bl : List (Int × Int)} {zb zw : List Int} {G j : Nat} (hn : 1 ≤ n) (hj : j < G) (hp : okM (pa.getD j (0, 0)) = true) (hb : 0 ≤ (bl.getD j (0, 0)).1 ∧ (bl.getD j (0, 0)).1 ≤ (bl.getD j (0, 0)).2 ∧ (bl.getD j (0, 0)).2 ≤ n) (hw : ∀ x ∈ zw, 0 ≤ x ∧ x ≤ 65535) : okM ((measT n pa bl zb zw G).getD j (0, 0)) = true := by
 rw [measT_get hj]
 have h1 := leftT_bd (n := n) (bl := bl) (zb := zb) (j := j) hb.2.1
 exact meas_ok hn hp ⟨by omega, by omega⟩ (elT_bd hw (by omega) j).1
theorem truth_law {l rt : List (Int × Int)} (hT : Tab l 32768) (hTr : Tab rt 1000000) {pw : List Int} {G : Nat} (hl : pw.length = G) (hp : ∀ z ∈ pw, 0 ≤ z ∧ z ≤ 1073741824) {wd : Int} (hw0 : 0 ≤ wd ∧ wd ≤ 8) {bl : List (Int × Int)} (hb : ∀ j, j < G → 0 ≤ (bl.getD j (0, 0)).1 ∧ (bl.getD j (0, 0)).1 ≤ (bl.getD j (0, 0)).2 ∧ (bl.getD j (0, 0)).2 ≤ 2 * wd + 1) {zb zw zf : List Int} (hw : ∀ x ∈ zw, 0 ≤ x ∧ x ≤ 65535)
  {z st tilt elo ehi a0 a1 b0 b1 c0 c1 : Int} (hf : ∀ j, j < G → FacOk (facS (a0, a1) (b0, b1) (c0, c1) (bandZ z st wd tilt elo ehi j)) ∧ (facS (a0, a1) (b0, b1) (c0, c1) (bandZ z st wd tilt elo ehi j)).1 ≤ (facS (a0, a1) (b0, b1) (c0, c1) (bandZ z st wd tilt elo ehi j)).2) :
  ∀ j, j < G → ((ratesT z st wd tilt elo ehi l rt a0 a1 b0 b1 c0 c1 bl (measT (2 * wd + 1) (passGo l whole pw) bl zb zw G) G).getD j (0, 0)).1 ≤ (valGo (min 1073741824 (pw.getD j 0 * kT (fun j => facS (a0, a1) (b0, b1) (c0, c1) (bandZ z st wd tilt elo ehi j)) zf j / 1000)) rt).1 ∧
   (valGo (min 1073741824 ((pw.getD j 0 * kT (fun j => facS (a0, a1) (b0, b1) (c0, c1) (bandZ z st wd tilt elo ehi j)) zf j + 999) / 1000)) rt).2 ≤ ((ratesT z st wd tilt elo ehi l rt a0 a1 b0 b1 c0 c1 bl (measT (2 * wd + 1) (passGo l whole pw) bl zb zw G) G).getD j (0, 0)).2 := by
 subst hl
 unfold ratesT
 have hbd : ∀ j, j < pw.length → (rowL (bandZ z st wd tilt elo ehi) pw.length).getD j (0, 0) = bandZ z st wd tilt elo ehi j := fun j hj => rowL_get hj
 exact rain_truth hT hTr hp (n := 2 * wd + 1) ⟨by omega, by omega⟩ (bl := bl) (ms := measT (2 * wd + 1) (passGo l whole pw) bl zb zw pw.length) (bd := rowL (bandZ z st wd tilt elo ehi) pw.length) measT_length hb
  (left := leftT (2 * wd + 1) bl zb) (w := elT zw) (fun j hj => leftT_bd (hb j hj).2.1) (fun j _ => (elT_bd hw (by omega) j).1) (fun j hj => measT_get hj)
  (fun j hj => by rw [hbd j hj]; exact (hf j hj).1) (k := kT (fun j => facS (a0, a1) (b0, b1) (c0, c1) (bandZ z st wd tilt elo ehi j)) zf) (fun j hj => by rw [hbd j hj]; exact kT_bd (f := fun j => facS (a0, a1) (b0, b1) (c0, c1) (bandZ z st wd tilt elo ehi j)) (hf j hj).2)
end Go.Proofs.Ytepgpihobmjbdaa
end
section
namespace Go.Proofs.Ytepgpihobmjbdaa
open Go Go.RowKit
set_option maxHeartbeats 8000000 in
set_option maxRecDepth 100000 in
theorem RainTruth_any (s : ByteArray) (sx sy z r g st wd tilt elo ehi gx gy gs wi hi ray : Int) (l rt gl : List (Int × Int)) (a0 a1 b0 b1 c0 c1 : Int) (ng : Nat) (A : Option Addr) (nl cl : Nat) (Ar : Option Addr) (nr cr : Nat) (Ag : Option Addr) (cg : Nat) (Ap : Option Addr) (np cp : Nat) (Ab : Option Addr) (nb cb : Nat) (Af : Option Addr) (nf cf : Nat) (Aw : Option Addr) (nw cw : Nat) (zp zb zf zw : List Int) (w : World)
  (hs : s.size ≤ 9223372036854775807) (hn : l.length = nl) (hmax : nl ≤ 9223372036854775807) (hnr : rt.length = nr) (hmaxr : nr ≤ 9223372036854775807) (hng : gl.length = ng) (hmaxg : ng ≤ 9223372036854775807)
  (hzp : zp.length = np) (hzb : zb.length = nb) (hzf : zf.length = nf) (hzw : zw.length = nw) (hnp : np ≤ 9223372036854775807) (hnf : nf ≤ 9223372036854775807)
  (hbp : ∀ x ∈ zp, 0 ≤ x ∧ x ≤ 4294967295) (hbb : ∀ x ∈ zb, 0 ≤ x ∧ x ≤ 255) (hbf : ∀ x ∈ zf, 0 ≤ x ∧ x ≤ 4294967295) (hbw : ∀ x ∈ zw, 0 ≤ x ∧ x ≤ 65535) (hray : 0 ≤ ray ∧ ray ≤ 255)
  (hl : Ints w w.heap.size .i64 A (flat2 l)) (hlr : Ints w w.heap.size .i64 Ar (flat2 rt)) (hlg : Ints w w.heap.size .i64 Ag (flat2 gl)) (hIp : Ints w w.heap.size .u32 Ap zp) (hIb : Ints w w.heap.size .u8 Ab zb) (hIf : Ints w w.heap.size .u32 Af zf) (hIw : Ints w w.heap.size .u16 Aw zw) :
  Calls Try.prog 3 #[.agg (mdlC A nl cl Ar nr cr a0 a1 b0 b1 c0 c1), .agg (siteC s sx sy z r g st wd), .int .i64 tilt, .agg #[.int .i64 elo, .int .i64 ehi], .agg (fldC gx gy gs wi hi Ag ng cg), .int .u8 ray, .agg (aloftC Ap np cp Ab nb cb Af nf cf Aw nw cw)] w fun e w' => e = .returned (.bool true) ∧ Below w.heap.size w w' := by
 rw [← flat2Q_eq] at hlg
 have cM := fun (W : World) (h1 : Ints W W.heap.size .i64 A (flat2 l)) (h2 : Ints W W.heap.size .i64 Ar (flat2 rt)) => CheckModel_any A nl cl l Ar nr cr rt (a0, a1) (b0, b1) (c0, c1) W hn hmax hnr hmaxr h1 h2
 have cS := fun (W : World) => CheckSite_any s (nameB s) sx sy z r g st wd W (fun W => Name_any s W hs)
 have cB := fun (a : Int) (W : World) (h1 : Ints W W.heap.size .i64 Ag (flat2Q gl)) => Blocked_any s sx sy z r g st wd tilt elo ehi gx gy gs wi hi Ag ng cg gl a W hs hng hmaxg h1
 unfold mdlV at cM
 simp only at cM
 unfold siteV at cS
 unfold BlockPost siteV fieldV at cB
 unfold mdlC siteC fldC aloftC
 obtain ⟨mE, hmE⟩ : ∃ q, chkModel l rt (a0, a1) (b0, b1) (c0, c1) = q := ⟨_, rfl⟩
 obtain ⟨sE, hsE⟩ : ∃ q, siteE (nameB s) sx sy z r g st wd = q := ⟨_, rfl⟩
 simp only [hmE] at cM
 simp only [hsE] at cS cB
 have CM := hide cM
 have CS := hide cS
 have CB := hide cB
 have Hl := hide hl
 have Hlr := hide hlr
 have Hlg := hide hlg
 have HIp := hide hIp
 have HIb := hide hIb
 have HIf := hide hIf
 have HIw := hide hIw
 have HmE := hide hmE
 have HsE := hide hsE
 have Hn := hide hn
 have Hnr := hide hnr
 have Hng := hide hng
 have Hzp := hide hzp
 have Hzb := hide hzb
 have Hzf := hide hzf
 have Hzw := hide hzw
 have Hbp := hide hbp
 have Hbb := hide hbb
 have Hbf := hide hbf
 have Hbw := hide hbw
 clear cM cS cB hl hlr hlg hIp hIb hIf hIw hmE hsE hn hnr hng hzp hzb hzf hzw hbp hbb hbf hbw
 by_cases g1 : (40 : Int) < nl
 ·
  go_enter Try.func3, Try.ntmps3
  have HB := hide (Below.refl w.heap.size w)
  go_wp2_with fail
  refine at_world fun W hW => ?_
  have bq0 : Blk W w.heap.size 26 #[.slice A nl cl, .slice Ar nr cr, .int .i64 a0, .int .i64 a1, .int .i64 b0, .int .i64 b1, .int .i64 c0, .int .i64 c1] := by rw [hW]; exact ((((Blk.new _ _ _).alloc _).alloc _).alloc _).alloc _
  have bq1 : Blk W (w.heap.size + 1) 28 #[.string s, .int .i64 sx, .int .i64 sy, .int .i64 z, .int .i64 r, .int .i64 g, .int .i64 st, .int .i64 wd] := by rw [hW]; exact (((blk_new_at (by simp)).alloc _).alloc _).alloc _
  have bq2 : Blk W (w.heap.size + 2) 24 #[.int .i64 elo, .int .i64 ehi] := by rw [hW]; exact ((blk_new_at (by simp)).alloc _).alloc _
  have bq3 : Blk W (w.heap.size + 3) 33 #[.int .i64 gx, .int .i64 gy, .int .i64 gs, .int .i64 wi, .int .i64 hi, .slice Ag ng cg] := by rw [hW]; exact (blk_new_at (by simp)).alloc _
  have bq4 : Blk W (w.heap.size + 4) 38 #[.slice Ap np cp, .slice Ab nb cb, .slice Af nf cf, .slice Aw nw cw] := by rw [hW]; exact blk_new_at (by simp)
  have LW : Later w W := by rw [hW]; exact ((((((Below.refl _ _).alloc (Nat.le_refl _) _).alloc (by simp; try omega) _).alloc (by simp; try omega) _).alloc (by simp; try omega) _).alloc (by simp; try omega) _)
  have szW : W.heap.size = w.heap.size + 5 := by rw [hW]; simp
  clear hW
  replace HB := hide (onward HB.out LW)
  have Hm := hide bq0
  have Hs := hide bq1
  have He := hide bq2
  have Hf := hide bq3
  have Hx := hide bq4
  clear bq0 bq1 bq2 bq3 bq4 LW szW
  refine (works_any _).mono ?_
  rintro e w9 ⟨rfl, hb⟩
  replace HB := hide (onward HB.out hb)
  replace Hm := hide (blk_later Hm.out hb)
  replace Hs := hide (blk_later Hs.out hb)
  replace He := hide (blk_later He.out hb)
  replace Hf := hide (blk_later Hf.out hb)
  replace Hx := hide (blk_later Hx.out hb)
  clear hb
  go_wp2
  go_ret
  exact ⟨rfl, HB.out⟩
 by_cases g2 : (40 : Int) < nr
 ·
  go_enter Try.func3, Try.ntmps3
  have HB := hide (Below.refl w.heap.size w)
  go_wp2_with fail
  refine at_world fun W hW => ?_
  have bq0 : Blk W w.heap.size 26 #[.slice A nl cl, .slice Ar nr cr, .int .i64 a0, .int .i64 a1, .int .i64 b0, .int .i64 b1, .int .i64 c0, .int .i64 c1] := by rw [hW]; exact ((((Blk.new _ _ _).alloc _).alloc _).alloc _).alloc _
  have bq1 : Blk W (w.heap.size + 1) 28 #[.string s, .int .i64 sx, .int .i64 sy, .int .i64 z, .int .i64 r, .int .i64 g, .int .i64 st, .int .i64 wd] := by rw [hW]; exact (((blk_new_at (by simp)).alloc _).alloc _).alloc _
  have bq2 : Blk W (w.heap.size + 2) 24 #[.int .i64 elo, .int .i64 ehi] := by rw [hW]; exact ((blk_new_at (by simp)).alloc _).alloc _
  have bq3 : Blk W (w.heap.size + 3) 33 #[.int .i64 gx, .int .i64 gy, .int .i64 gs, .int .i64 wi, .int .i64 hi, .slice Ag ng cg] := by rw [hW]; exact (blk_new_at (by simp)).alloc _
  have bq4 : Blk W (w.heap.size + 4) 38 #[.slice Ap np cp, .slice Ab nb cb, .slice Af nf cf, .slice Aw nw cw] := by rw [hW]; exact blk_new_at (by simp)
  have LW : Later w W := by rw [hW]; exact ((((((Below.refl _ _).alloc (Nat.le_refl _) _).alloc (by simp; try omega) _).alloc (by simp; try omega) _).alloc (by simp; try omega) _).alloc (by simp; try omega) _)
  have szW : W.heap.size = w.heap.size + 5 := by rw [hW]; simp
  clear hW
  replace HB := hide (onward HB.out LW)
  have Hm := hide bq0
  have Hs := hide bq1
  have He := hide bq2
  have Hf := hide bq3
  have Hx := hide bq4
  clear bq0 bq1 bq2 bq3 bq4 LW szW
  refine (works_any _).mono ?_
  rintro e w9 ⟨rfl, hb⟩
  replace HB := hide (onward HB.out hb)
  replace Hm := hide (blk_later Hm.out hb)
  replace Hs := hide (blk_later Hs.out hb)
  replace He := hide (blk_later He.out hb)
  replace Hf := hide (blk_later Hf.out hb)
  replace Hx := hide (blk_later Hx.out hb)
  clear hb
  go_wp2
  go_ret
  exact ⟨rfl, HB.out⟩
 by_cases g3 : (4 : Int) < r
 ·
  go_enter Try.func3, Try.ntmps3
  have HB := hide (Below.refl w.heap.size w)
  go_wp2_with fail
  refine at_world fun W hW => ?_
  have bq0 : Blk W w.heap.size 26 #[.slice A nl cl, .slice Ar nr cr, .int .i64 a0, .int .i64 a1, .int .i64 b0, .int .i64 b1, .int .i64 c0, .int .i64 c1] := by rw [hW]; exact ((((Blk.new _ _ _).alloc _).alloc _).alloc _).alloc _
  have bq1 : Blk W (w.heap.size + 1) 28 #[.string s, .int .i64 sx, .int .i64 sy, .int .i64 z, .int .i64 r, .int .i64 g, .int .i64 st, .int .i64 wd] := by rw [hW]; exact (((blk_new_at (by simp)).alloc _).alloc _).alloc _
  have bq2 : Blk W (w.heap.size + 2) 24 #[.int .i64 elo, .int .i64 ehi] := by rw [hW]; exact ((blk_new_at (by simp)).alloc _).alloc _
  have bq3 : Blk W (w.heap.size + 3) 33 #[.int .i64 gx, .int .i64 gy, .int .i64 gs, .int .i64 wi, .int .i64 hi, .slice Ag ng cg] := by rw [hW]; exact (blk_new_at (by simp)).alloc _
  have bq4 : Blk W (w.heap.size + 4) 38 #[.slice Ap np cp, .slice Ab nb cb, .slice Af nf cf, .slice Aw nw cw] := by rw [hW]; exact blk_new_at (by simp)
  have LW : Later w W := by rw [hW]; exact ((((((Below.refl _ _).alloc (Nat.le_refl _) _).alloc (by simp; try omega) _).alloc (by simp; try omega) _).alloc (by simp; try omega) _).alloc (by simp; try omega) _)
  have szW : W.heap.size = w.heap.size + 5 := by rw [hW]; simp
  clear hW
  replace HB := hide (onward HB.out LW)
  have Hm := hide bq0
  have Hs := hide bq1
  have He := hide bq2
  have Hf := hide bq3
  have Hx := hide bq4
  clear bq0 bq1 bq2 bq3 bq4 LW szW
  refine (works_any _).mono ?_
  rintro e w9 ⟨rfl, hb⟩
  replace HB := hide (onward HB.out hb)
  replace Hm := hide (blk_later Hm.out hb)
  replace Hs := hide (blk_later Hs.out hb)
  replace He := hide (blk_later He.out hb)
  replace Hf := hide (blk_later Hf.out hb)
  replace Hx := hide (blk_later Hx.out hb)
  clear hb
  go_wp2
  go_ret
  exact ⟨rfl, HB.out⟩
 by_cases g4 : (20 : Int) < g
 ·
  go_enter Try.func3, Try.ntmps3
  have HB := hide (Below.refl w.heap.size w)
  go_wp2_with fail
  refine at_world fun W hW => ?_
  have bq0 : Blk W w.heap.size 26 #[.slice A nl cl, .slice Ar nr cr, .int .i64 a0, .int .i64 a1, .int .i64 b0, .int .i64 b1, .int .i64 c0, .int .i64 c1] := by rw [hW]; exact ((((Blk.new _ _ _).alloc _).alloc _).alloc _).alloc _
  have bq1 : Blk W (w.heap.size + 1) 28 #[.string s, .int .i64 sx, .int .i64 sy, .int .i64 z, .int .i64 r, .int .i64 g, .int .i64 st, .int .i64 wd] := by rw [hW]; exact (((blk_new_at (by simp)).alloc _).alloc _).alloc _
  have bq2 : Blk W (w.heap.size + 2) 24 #[.int .i64 elo, .int .i64 ehi] := by rw [hW]; exact ((blk_new_at (by simp)).alloc _).alloc _
  have bq3 : Blk W (w.heap.size + 3) 33 #[.int .i64 gx, .int .i64 gy, .int .i64 gs, .int .i64 wi, .int .i64 hi, .slice Ag ng cg] := by rw [hW]; exact (blk_new_at (by simp)).alloc _
  have bq4 : Blk W (w.heap.size + 4) 38 #[.slice Ap np cp, .slice Ab nb cb, .slice Af nf cf, .slice Aw nw cw] := by rw [hW]; exact blk_new_at (by simp)
  have LW : Later w W := by rw [hW]; exact ((((((Below.refl _ _).alloc (Nat.le_refl _) _).alloc (by simp; try omega) _).alloc (by simp; try omega) _).alloc (by simp; try omega) _).alloc (by simp; try omega) _)
  have szW : W.heap.size = w.heap.size + 5 := by rw [hW]; simp
  clear hW
  replace HB := hide (onward HB.out LW)
  have Hm := hide bq0
  have Hs := hide bq1
  have He := hide bq2
  have Hf := hide bq3
  have Hx := hide bq4
  clear bq0 bq1 bq2 bq3 bq4 LW szW
  refine (works_any _).mono ?_
  rintro e w9 ⟨rfl, hb⟩
  replace HB := hide (onward HB.out hb)
  replace Hm := hide (blk_later Hm.out hb)
  replace Hs := hide (blk_later Hs.out hb)
  replace He := hide (blk_later He.out hb)
  replace Hf := hide (blk_later Hf.out hb)
  replace Hx := hide (blk_later Hx.out hb)
  clear hb
  go_wp2
  go_ret
  exact ⟨rfl, HB.out⟩
 by_cases g5 : (20 : Int) < s.size
 ·
  go_enter Try.func3, Try.ntmps3
  have HB := hide (Below.refl w.heap.size w)
  go_wp2_with fail
  refine at_world fun W hW => ?_
  have bq0 : Blk W w.heap.size 26 #[.slice A nl cl, .slice Ar nr cr, .int .i64 a0, .int .i64 a1, .int .i64 b0, .int .i64 b1, .int .i64 c0, .int .i64 c1] := by rw [hW]; exact ((((Blk.new _ _ _).alloc _).alloc _).alloc _).alloc _
  have bq1 : Blk W (w.heap.size + 1) 28 #[.string s, .int .i64 sx, .int .i64 sy, .int .i64 z, .int .i64 r, .int .i64 g, .int .i64 st, .int .i64 wd] := by rw [hW]; exact (((blk_new_at (by simp)).alloc _).alloc _).alloc _
  have bq2 : Blk W (w.heap.size + 2) 24 #[.int .i64 elo, .int .i64 ehi] := by rw [hW]; exact ((blk_new_at (by simp)).alloc _).alloc _
  have bq3 : Blk W (w.heap.size + 3) 33 #[.int .i64 gx, .int .i64 gy, .int .i64 gs, .int .i64 wi, .int .i64 hi, .slice Ag ng cg] := by rw [hW]; exact (blk_new_at (by simp)).alloc _
  have bq4 : Blk W (w.heap.size + 4) 38 #[.slice Ap np cp, .slice Ab nb cb, .slice Af nf cf, .slice Aw nw cw] := by rw [hW]; exact blk_new_at (by simp)
  have LW : Later w W := by rw [hW]; exact ((((((Below.refl _ _).alloc (Nat.le_refl _) _).alloc (by simp; try omega) _).alloc (by simp; try omega) _).alloc (by simp; try omega) _).alloc (by simp; try omega) _)
  have szW : W.heap.size = w.heap.size + 5 := by rw [hW]; simp
  clear hW
  replace HB := hide (onward HB.out LW)
  have Hm := hide bq0
  have Hs := hide bq1
  have He := hide bq2
  have Hf := hide bq3
  have Hx := hide bq4
  clear bq0 bq1 bq2 bq3 bq4 LW szW
  refine (works_any _).mono ?_
  rintro e w9 ⟨rfl, hb⟩
  replace HB := hide (onward HB.out hb)
  replace Hm := hide (blk_later Hm.out hb)
  replace Hs := hide (blk_later Hs.out hb)
  replace He := hide (blk_later He.out hb)
  replace Hf := hide (blk_later Hf.out hb)
  replace Hx := hide (blk_later Hx.out hb)
  clear hb
  go_wp2
  go_ret
  exact ⟨rfl, HB.out⟩
 by_cases g6 : (100 : Int) < ng
 ·
  go_enter Try.func3, Try.ntmps3
  have HB := hide (Below.refl w.heap.size w)
  go_wp2_with fail
  refine at_world fun W hW => ?_
  have bq0 : Blk W w.heap.size 26 #[.slice A nl cl, .slice Ar nr cr, .int .i64 a0, .int .i64 a1, .int .i64 b0, .int .i64 b1, .int .i64 c0, .int .i64 c1] := by rw [hW]; exact ((((Blk.new _ _ _).alloc _).alloc _).alloc _).alloc _
  have bq1 : Blk W (w.heap.size + 1) 28 #[.string s, .int .i64 sx, .int .i64 sy, .int .i64 z, .int .i64 r, .int .i64 g, .int .i64 st, .int .i64 wd] := by rw [hW]; exact (((blk_new_at (by simp)).alloc _).alloc _).alloc _
  have bq2 : Blk W (w.heap.size + 2) 24 #[.int .i64 elo, .int .i64 ehi] := by rw [hW]; exact ((blk_new_at (by simp)).alloc _).alloc _
  have bq3 : Blk W (w.heap.size + 3) 33 #[.int .i64 gx, .int .i64 gy, .int .i64 gs, .int .i64 wi, .int .i64 hi, .slice Ag ng cg] := by rw [hW]; exact (blk_new_at (by simp)).alloc _
  have bq4 : Blk W (w.heap.size + 4) 38 #[.slice Ap np cp, .slice Ab nb cb, .slice Af nf cf, .slice Aw nw cw] := by rw [hW]; exact blk_new_at (by simp)
  have LW : Later w W := by rw [hW]; exact ((((((Below.refl _ _).alloc (Nat.le_refl _) _).alloc (by simp; try omega) _).alloc (by simp; try omega) _).alloc (by simp; try omega) _).alloc (by simp; try omega) _)
  have szW : W.heap.size = w.heap.size + 5 := by rw [hW]; simp
  clear hW
  replace HB := hide (onward HB.out LW)
  have Hm := hide bq0
  have Hs := hide bq1
  have He := hide bq2
  have Hf := hide bq3
  have Hx := hide bq4
  clear bq0 bq1 bq2 bq3 bq4 LW szW
  refine (works_any _).mono ?_
  rintro e w9 ⟨rfl, hb⟩
  replace HB := hide (onward HB.out hb)
  replace Hm := hide (blk_later Hm.out hb)
  replace Hs := hide (blk_later Hs.out hb)
  replace He := hide (blk_later He.out hb)
  replace Hf := hide (blk_later Hf.out hb)
  replace Hx := hide (blk_later Hx.out hb)
  clear hb
  go_wp2
  go_ret
  exact ⟨rfl, HB.out⟩
 by_cases h1 : mE = 0
 ·
  subst h1
  by_cases h2 : sE = 0
  ·
   subst h2
   have hst := site_all HsE.out
   have hmo := model_ok HmE.out
   obtain ⟨z0, z1, r0, r1, q0, q1, s0, s1, wd0, wd1⟩ := hst
   obtain ⟨t1, t2, mA, mB, mC⟩ := hmo
   obtain ⟨G, rfl⟩ : ∃ G : Nat, g = G := ⟨g.toNat, by omega⟩
   obtain ⟨R4, hR4⟩ : ∃ q : Nat, (q : Int) = 4 * r := ⟨(4 * r).toNat, by omega⟩
   have hra := Int.emod_nonneg ray (show 4 * r ≠ 0 by omega)
   have hrb := Int.emod_lt_of_pos ray (show 0 < 4 * r by omega)
   have hrt : ray.tmod (4 * r) = ray % (4 * r) := Int.tmod_eq_emod_of_nonneg hray.1
   obtain ⟨a, ha⟩ : ∃ q : Nat, ray % (4 * r) = q := ⟨(ray % (4 * r)).toNat, by omega⟩
   rw [ha] at hra hrb hrt
   have cB2 := fun W h1 => CB.out a W h1
   obtain ⟨bE, hbE⟩ : ∃ q, blockE 0 (fieldE (gridE gx gy gs wi hi) ng wi hi gl 20000) tilt elo ehi a r = q := ⟨_, rfl⟩
   simp only [hbE, Int.toNat_natCast] at cB2
   clear CB ha hra
   have HbE := hide hbE
   clear hbE
   have hr40 : ¬ 4 * r = 0 := by omega
   by_cases h3 : bE = 0
   ·
    subst h3
    simp only [if_true] at cB2
    have CB2 := hide cB2
    clear cB2
    obtain ⟨-, kf, ke, kr0, kr1⟩ := block_ok HbE.out
    go_enter Try.func3, Try.ntmps3
    have HB := hide (Below.refl w.heap.size w)
    go_wp2_with fail
    refine at_world fun W hW => ?_
    have bq0 : Blk W w.heap.size 26 #[.slice A nl cl, .slice Ar nr cr, .int .i64 a0, .int .i64 a1, .int .i64 b0, .int .i64 b1, .int .i64 c0, .int .i64 c1] := by rw [hW]; exact ((((Blk.new _ _ _).alloc _).alloc _).alloc _).alloc _
    have bq1 : Blk W (w.heap.size + 1) 28 #[.string s, .int .i64 sx, .int .i64 sy, .int .i64 z, .int .i64 r, .int .i64 (G : Int), .int .i64 st, .int .i64 wd] := by rw [hW]; exact (((blk_new_at (by simp)).alloc _).alloc _).alloc _
    have bq2 : Blk W (w.heap.size + 2) 24 #[.int .i64 elo, .int .i64 ehi] := by rw [hW]; exact ((blk_new_at (by simp)).alloc _).alloc _
    have bq3 : Blk W (w.heap.size + 3) 33 #[.int .i64 gx, .int .i64 gy, .int .i64 gs, .int .i64 wi, .int .i64 hi, .slice Ag ng cg] := by rw [hW]; exact (blk_new_at (by simp)).alloc _
    have bq4 : Blk W (w.heap.size + 4) 38 #[.slice Ap np cp, .slice Ab nb cb, .slice Af nf cf, .slice Aw nw cw] := by rw [hW]; exact blk_new_at (by simp)
    have LW : Later w W := by rw [hW]; exact ((((((Below.refl _ _).alloc (Nat.le_refl _) _).alloc (by simp; try omega) _).alloc (by simp; try omega) _).alloc (by simp; try omega) _).alloc (by simp; try omega) _)
    have szW : W.heap.size = w.heap.size + 5 := by rw [hW]; simp
    clear hW
    replace HB := hide (onward HB.out LW)
    have Hm := hide bq0
    have Hs := hide bq1
    have He := hide bq2
    have Hf := hide bq3
    have Hx := hide bq4
    clear bq0 bq1 bq2 bq3 bq4 LW szW
    refine (CM.out _ ((Hl.out.below HB.out).more HB.out.size) ((Hlr.out.below HB.out).more HB.out.size)).mono ?_
    rintro e w1 ⟨rfl, hb⟩
    replace HB := hide (onward HB.out hb)
    replace Hm := hide (blk_later Hm.out hb)
    replace Hs := hide (blk_later Hs.out hb)
    replace He := hide (blk_later He.out hb)
    replace Hf := hide (blk_later Hf.out hb)
    replace Hx := hide (blk_later Hx.out hb)
    clear hb
    obtain ⟨x0, x1, x2, x3, x4, x5, x6, x7⟩ := Hs.out.c8
    have ltx := Hs.out.lt
    go_wp2_with fail
    refine (CS.out _).mono ?_
    rintro e w2 ⟨rfl, hb⟩
    replace HB := hide (onward HB.out hb)
    replace Hm := hide (blk_later Hm.out hb)
    replace Hs := hide (blk_later Hs.out hb)
    replace He := hide (blk_later He.out hb)
    replace Hf := hide (blk_later Hf.out hb)
    replace Hx := hide (blk_later Hx.out hb)
    clear hb x0 x1 x2 x3 x4 x5 x6 x7 ltx
    obtain ⟨x0, x1, x2, x3, x4, x5, x6, x7⟩ := Hs.out.c8
    have ltx := Hs.out.lt
    obtain ⟨y0, y1⟩ := He.out.c2
    have lty := He.out.lt
    obtain ⟨f0, f1, f2, f3, f4, f5⟩ := Hf.out.c6
    have ltf := Hf.out.lt
    go_wp2_with fail
    refine (CB2.out _ ((Hlg.out.below HB.out).more HB.out.size)).mono ?_
    rintro e w3 ⟨A1, c1', rfl, hb, hi1⟩
    replace HB := hide (onward HB.out hb)
    replace Hm := hide (blk_later Hm.out hb)
    replace Hs := hide (blk_later Hs.out hb)
    replace He := hide (blk_later He.out hb)
    replace Hf := hide (blk_later Hf.out hb)
    replace Hx := hide (blk_later Hx.out hb)
    clear hb x0 x1 x2 x3 x4 x5 x6 x7 ltx y0 y1 lty f0 f1 f2 f3 f4 f5 ltf
    have ht := block_tilt HbE.out
    have HBL := hide (show Ints w3 w3.heap.size .i64 A1 (flat2 (rowL (rowB gl sx sy r z st wd tilt a elo ehi gx gy gs wi hi) G)) by
     have := hi1 trivial
     rw [flat2Q_eq] at this
     exact this)
    clear hi1 CM CS CB2
    have hrow := fun (j : Nat) (hj : j < G) => rowB_ok (sx := sx) (sy := sy) (r := r) (z := z) (ray := (a : Int)) (j := j) Hng.out kf ke ht ⟨s0, s1⟩ ⟨wd0, wd1⟩ (by omega)
    have hband := fun (j : Nat) (hj : j < G) => band_le (z := z) (j := j) ke ht ⟨s0, s1⟩ ⟨wd0, wd1⟩ (by omega)
    have hfac : ∀ j, j < G → FacOk (facS (a0, a1) (b0, b1) (c0, c1) (bandZ z st wd tilt elo ehi j)) ∧ (facS (a0, a1) (b0, b1) (c0, c1) (bandZ z st wd tilt elo ehi j)).1 ≤ (facS (a0, a1) (b0, b1) (c0, c1) (bandZ z st wd tilt elo ehi j)).2 := fun j hj => by
     have h1 := hband j hj
     generalize bandZ z st wd tilt elo ehi j = uv at h1 ⊢
     obtain ⟨u, v⟩ := uv
     exact ⟨facS_ok mA h1 mB mC, facS_le mA h1 mB mC⟩
    obtain ⟨BL, hBL⟩ : ∃ q, rowL (rowB gl sx sy r z st wd tilt a elo ehi gx gy gs wi hi) G = q := ⟨_, rfl⟩
    have hBLn : BL.length = G := by rw [← hBL]; exact rowL_length
    have hBLb : ∀ j, j < G → 0 ≤ (BL.getD j (0, 0)).1 ∧ (BL.getD j (0, 0)).1 ≤ (BL.getD j (0, 0)).2 ∧ (BL.getD j (0, 0)).2 ≤ 2 * wd + 1 := fun j hj => by
     rw [← hBL, rowL_get hj]
     exact hrow j hj
    rw [hBL] at HBL
    have hT := tab_of t1
    have hTr := tab_of t2
    have pwl := pwT_length zp G
    have pwi : ∀ q ∈ pwT zp G, 0 ≤ q ∧ q ≤ 1073741824 := pwT_in
    have HBLe := hide hBL
    have HBLn := hide hBLn
    have HBLb := hide hBLb
    have HT := hide hT
    have HTr := hide hTr
    have Hfac := hide hfac
    have Hband := hide hband
    clear hBL hBLn hBLb hT hTr hfac hband
    clear hrow
    obtain ⟨x0, x1, x2, x3, x4, x5, x6, x7⟩ := Hs.out.c8
    have ltx := Hs.out.lt
    go_wp2_with fail
    clear x0 x1 x2 x3 x4 x5 x6 x7 ltx
    refine tl1 s sx sy z r st wd G Ap np cp Ab nb cb Af nf cf Aw nw cw zp _ _ (by omega) Hzp.out hnp Hbp.out ((HIp.out.below HB.out).more HB.out.size) Hs.out Hx.out ?_
    intro kv104 kv105 kv106 kv107 kv108 kv109 kv110 kv111 kv112 kv113 kv114 kv115 kv116 kv117 kv118
    intro Ao co w5 hx
    obtain ⟨ho, hb5⟩ := hx
    replace HBL := hide ((Ints.below HBL.out hb5).more (Below.size hb5))
    replace HB := hide (onward HB.out hb5)
    replace Hm := hide (blk_later Hm.out hb5)
    replace Hs := hide (blk_later Hs.out hb5)
    replace He := hide (blk_later He.out hb5)
    replace Hf := hide (blk_later Hf.out hb5)
    replace Hx := hide (blk_later Hx.out hb5)
    clear hb5
    generalize pwT zp G = pw at *
    have Ho := hide ho
    clear ho
    obtain ⟨m0, m1, m2, m3, m4, m5, m6, m7⟩ := Hm.out.c8
    have ltm := Hm.out.lt
    go_wp2_with fail
    have cP := Pass_any A nl cl l Ao G co pw w5 Hn.out hmax pwl (by omega) ((Hl.out.below HB.out).more HB.out.size) (Ints.own Ho.out rfl (Nat.le_refl _))
    rw [passR_ok t1 (by omega) pwi] at cP
    unfold SpansPost at cP
    simp only at cP
    have pal : (passGo l whole pw).length = G := by rw [passGo_length]; exact pwl
    have pok : ∀ j, j < G → okM ((passGo l whole pw).getD j (0, 0)) = true := fun j hj => pass_ok HT.out pwi (by omega)
    obtain ⟨pa, hpa⟩ : ∃ q, passGo l whole pw = q := ⟨_, rfl⟩
    rw [hpa] at cP pal pok
    rw [pal] at cP
    refine (cP).mono ?_
    rintro e w6 ⟨v, rfl, ho2, hb⟩
    replace HBL := hide ((Ints.below HBL.out hb).more (Below.size hb))
    replace HB := hide (onward HB.out hb)
    replace Hm := hide (blk_later Hm.out hb)
    replace Hs := hide (blk_later Hs.out hb)
    replace He := hide (blk_later He.out hb)
    replace Hf := hide (blk_later Hf.out hb)
    replace Hx := hide (blk_later Hx.out hb)
    replace Ho := hide (own_later Ho.out hb)
    clear hb m0 m1 m2 m3 m4 m5 m6 m7 ltm
    clear cP
    obtain ⟨Aq, cq, rfl⟩ := own_shape2 ho2
    have Hq := hide ho2
    have HPA := hide hpa
    have Pok := hide pok
    clear ho2 hpa pok
    obtain ⟨x0, x1, x2, x3, x4, x5, x6, x7⟩ := Hs.out.c8
    have ltx := Hs.out.lt
    go_wp2_with fail
    clear x0 x1 x2 x3 x4 x5 x6 x7 ltx
    refine tl2 s sx sy z r st wd (2 * wd + 1) G Ap np cp Ab nb cb Af nf cf Aw nw cw zb zw A1 c1' BL Aq cq pa _ _ (by omega) ⟨by omega, by omega⟩ Hzb.out Hzw.out Hbb.out Hbw.out HBLn.out pal HBLb.out Pok.out ((HIb.out.below HB.out).more HB.out.size) ((HIw.out.below HB.out).more HB.out.size) HBL.out (ints_spans Hq.out) Hs.out Hx.out ?_
    intro kv24 kv25 kv26 kv27 kv28 kv139 kv140 kv141 kv142 kv143 kv144 kv145 kv146 kv147 kv148 kv149 kv150 kv151 kv152 kv153 kv154 kv155 kv156 kv157 kv158 kv159 kv160 kv161 kv162 kv163 kv164 kv165 kv166 kv167 kv168 kv169 kv170 kv171 kv172 kv173 kv174 kv175 kv176 kv177 kv178 kv179 kv180 kv181 kv182 kv183 kv184 kv185 kv186 kv187 kv188 kv189 kv190 kv191 kv192 kv193 kv194 kv195 kv196 kv197 kv198 kv199 kv200 kv201 kv202 kv203 kv204 kv205 kv206 kv207 kv208 kv209 kv210 kv211 kv212 kv213 kv214 kv215 kv216 kv217 kv218 kv219 kv220 kv221
    intro Am cm w7 hx
    obtain ⟨ho3, hb7⟩ := hx
    replace HBL := hide ((Ints.below HBL.out hb7).more (Below.size hb7))
    replace HB := hide (onward HB.out hb7)
    replace Hm := hide (blk_later Hm.out hb7)
    replace Hs := hide (blk_later Hs.out hb7)
    replace He := hide (blk_later He.out hb7)
    replace Hf := hide (blk_later Hf.out hb7)
    replace Hx := hide (blk_later Hx.out hb7)
    replace Ho := hide (own_later Ho.out hb7)
    replace Hq := hide (own_later Hq.out hb7)
    clear hb7
    have Hms := hide ho3
    clear ho3
    have hlaw := truth_law (zf := zf) HT.out HTr.out pwl pwi ⟨wd0, wd1⟩ HBLb.out (zb := zb) Hbw.out Hfac.out
    rw [HPA.out] at hlaw
    have msl : (measT (2 * wd + 1) pa BL zb zw G).length = G := measT_length
    have mso : ∀ j, j < G → okM ((measT (2 * wd + 1) pa BL zb zw G).getD j (0, 0)) = true := fun j hj => measT_ok (by omega) hj (Pok.out j hj) (HBLb.out j hj) Hbw.out
    generalize measT (2 * wd + 1) pa BL zb zw G = ms at *
    have Hlaw := hide hlaw
    have Mso := hide mso
    clear hlaw mso
    obtain ⟨RL, hRL⟩ : ∃ q, ratesT z st wd tilt elo ehi l rt a0 a1 b0 b1 c0 c1 BL ms G = q := ⟨_, rfl⟩
    have hRLn : RL.length = G := by rw [← hRL]; exact ratesT_length
    have hRe : rateR 0 RL = (RL, 0) := rfl
    rw [hRL] at Hlaw
    have haR : a < R4 := by omega
    have HRL := hide hRL
    have HRe := hide hRe
    have HRLn := hide hRLn
    clear hRL hRe hRLn
    go_wp2_with fail
    obtain ⟨m0, m1, m2, m3, m4, m5, m6, m7⟩ := Hm.out.c8
    have ltm := Hm.out.lt
    obtain ⟨x0, x1, x2, x3, x4, x5, x6, x7⟩ := Hs.out.c8
    have ltx := Hs.out.lt
    obtain ⟨y0, y1⟩ := He.out.c2
    have lty := He.out.lt
    obtain ⟨f0, f1, f2, f3, f4, f5⟩ := Hf.out.c6
    have ltf := Hf.out.lt
    apply wp_region_L (w0 := w7) [[], [], [], [], [], [], [], [], [], [5], [5, 9], [5, 9, 10], [5, 9, 10], [5, 9, 10, 11], [5, 9, 10, 11, 12, 13]] [true, true, true, true, true, false, true, true, true, false, false, false, false, false, false] [⟨5, none, [], []⟩, ⟨9, none, [5], []⟩, ⟨10, none, [], [9]⟩, ⟨11, none, [], [10]⟩, ⟨12, none, [], [10]⟩, ⟨13, none, [], [11]⟩, ⟨14, none, [], [12]⟩] (fun ixq y => match ixq with | 5 => .agg #[.string s, .int .i64 sx, .int .i64 sy, .int .i64 z, .int .i64 r, .int .i64 (G : Int), .int .i64 st, .int .i64 wd, .int .i64 tilt, .int .i64 0, .slice (y 0).1 R4 (y 0).2] | 9 => .tuple #[.slice (y 0).1 G (y 0).2, .int .i64 0] | 10 => .tuple #[.slice (y 0).1 G (y 0).2, .int .i64 0] | 11 => .slice (y 0).1 G (y 0).2 | 12 => .int .i64 0 | 13 => .slice (y 0).1 G (y 0).2 | 14 => .int .i64 0 | _ => undef) (fun ixq x F wq => match ixq with | 5 => RaysF wq F (x 5 0).1 R4 (RaysOk ms a G R4) | 9 => OwnF wq F w7.heap.size 24 2 (.slice (x 9 0).1 G (x 9 0).2) G (spanCells RL) | 10 => x 10 = x 9 | 11 => x 11 = x 10 | 12 => x 12 = x 10 | 13 => x 13 = x 11 | 14 => x 14 = x 12 | _ => True) (fun a x => (((((((a).put (some 228) (.agg #[.string s, .int .i64 sx, .int .i64 sy, .int .i64 z, .int .i64 r, .int .i64 (G : Int), .int .i64 st, .int .i64 wd, .int .i64 tilt, .int .i64 0, .slice ((x 5) 0).1 R4 ((x 5) 0).2])).put (some 232) (.tuple #[.slice ((x 9) 0).1 G ((x 9) 0).2, .int .i64 0])).put (some 222) (.tuple #[.slice ((x 10) 0).1 G ((x 10) 0).2, .int .i64 0])).put (some 233) (.slice ((x 11) 0).1 G ((x 11) 0).2)).put (some 234) (.int .i64 0)).put (some 29) (.slice ((x 13) 0).1 G ((x 13) 0).2)).put (some 17) (.int .i64 0)) (by kernel_rfl) (by kernel_rfl) (fun x => putH_step (some 228) (.agg #[.string s, .int .i64 sx, .int .i64 sy, .int .i64 z, .int .i64 r, .int .i64 (G : Int), .int .i64 st, .int .i64 wd, .int .i64 tilt, .int .i64 0, .slice ((x 5) 0).1 R4 ((x 5) 0).2]) rfl rfl <| putH_step (some 232) (.tuple #[.slice ((x 9) 0).1 G ((x 9) 0).2, .int .i64 0]) rfl rfl <| putH_step (some 222) (.tuple #[.slice ((x 10) 0).1 G ((x 10) 0).2, .int .i64 0]) rfl rfl <| putH_step (some 233) (.slice ((x 11) 0).1 G ((x 11) 0).2) rfl rfl <| putH_step (some 234) (.int .i64 0) rfl rfl <| putH_step (some 29) (.slice ((x 13) 0).1 G ((x 13) 0).2) rfl rfl <| putH_step (some 17) (.int .i64 0) rfl rfl <| putH_end) [] (by kernel_rfl)
    ·
     intro x D hD
     have hne := hD.some
     have k0 := liftB hD m0 (by first | assumption | omega)
     have k1 := liftB hD m1 (by first | assumption | omega)
     have k2 := liftB hD m2 (by first | assumption | omega)
     have k3 := liftB hD m3 (by first | assumption | omega)
     have k4 := liftB hD m4 (by first | assumption | omega)
     have k5 := liftB hD m5 (by first | assumption | omega)
     have k6 := liftB hD m6 (by first | assumption | omega)
     have k7 := liftB hD m7 (by first | assumption | omega)
     have j0 := liftB hD x0 (by first | assumption | omega)
     have j1 := liftB hD x1 (by first | assumption | omega)
     have j2 := liftB hD x2 (by first | assumption | omega)
     have j3 := liftB hD x3 (by first | assumption | omega)
     have j4 := liftB hD x4 (by first | assumption | omega)
     have j5 := liftB hD x5 (by first | assumption | omega)
     have j6 := liftB hD x6 (by first | assumption | omega)
     have j7 := liftB hD x7 (by first | assumption | omega)
     have e0 := liftB hD y0 (by first | assumption | omega)
     have e1 := liftB hD y1 (by first | assumption | omega)
     have g0 := liftB hD f0 (by first | assumption | omega)
     have g1 := liftB hD f1 (by first | assumption | omega)
     have g2 := liftB hD f2 (by first | assumption | omega)
     have g3 := liftB hD f3 (by first | assumption | omega)
     have g4 := liftB hD f4 (by first | assumption | omega)
     have g5 := liftB hD f5 (by first | assumption | omega)
     simp only [takeOps, Act.put, List.setIfInBounds_toArray, List.set_cons_succ, List.set_cons_zero]
     repeat (go_big_quiet_step (fail))
     exact wpQuiet_nil rfl
    · exact fun _ h => absurd h (by simp)
    ·
     refine ⟨?_, ?_, ?_, ?_, ?_, ?_, ?_, trivial⟩
     ·
      refine obl_callL rfl (fun _ => by kernel_rfl) 11 (fun x => #[.agg #[.string s, .int .i64 sx, .int .i64 sy, .int .i64 z, .int .i64 r, .int .i64 (G : Int), .int .i64 st, .int .i64 wd], .int .i64 tilt, .int .i64 (a : Int), .slice Am G cm]) (fun x w => by kernel_rfl) ?_
      intro x w F hL hN
      refine (sweep_any s sx sy z r st wd tilt a Am cm G ms R4 w msl (by omega) r0 (by omega) hR4 (((ints_spans Hms.out).below hL).more hL.size)).mono ?_
      rintro e w' ⟨As, cs, rr, rfl, h1, h2, h3⟩
      exact ⟨fun _ => (As, cs), rfl, h3, rr, h2, h1⟩
     ·
      refine obl_callL rfl (fun _ => by kernel_rfl) 10 (fun x => #[.agg #[.slice A nl cl, .slice Ar nr cr, .int .i64 a0, .int .i64 a1, .int .i64 b0, .int .i64 b1, .int .i64 c0, .int .i64 c1], .agg #[.string s, .int .i64 sx, .int .i64 sy, .int .i64 z, .int .i64 r, .int .i64 (G : Int), .int .i64 st, .int .i64 wd, .int .i64 tilt, .int .i64 0, .slice (x 5 0).1 R4 (x 5 0).2], .agg #[.int .i64 elo, .int .i64 ehi], .agg #[.int .i64 gx, .int .i64 gy, .int .i64 gs, .int .i64 wi, .int .i64 hi, .slice Ag ng cg], .int .i64 (a : Int)]) (fun x w => by kernel_rfl) ?_
      intro x w F hL hN
      have n5 := hN 5 (by simp)
      have hB := onward HB.out hL
      obtain ⟨rr, hp, hr⟩ := n5
      obtain ⟨e1, e2⟩ := rates_sweep hp msl Mso.out HmE.out HsE.out ht hR4 haR HbE.out
      have c := Rates_any s sx sy z r G st wd tilt 0 elo ehi gx gy gs wi hi a l rt gl a0 a1 b0 b1 c0 c1 R4 ng rr A nl cl Ar nr cr (x 5 0).1 (x 5 0).2 Ag cg w hs Hn.out hmax Hnr.out hmaxr Hng.out hmaxg (by unfold maxLen; omega) ((Hl.out.below hB).more hB.size) ((Hlr.out.below hB).more hB.size) ((Hlg.out.below hB).more hB.size) hr.at_
      rw [e1, e2, HBLe.out, HRL.out, HRe.out] at c
      refine c.mono ?_
      rintro e w' ⟨v, rfl, ho, hb⟩
      simp only at ho
      rw [HRLn.out] at ho
      obtain ⟨A2, k2, rfl⟩ := own_shape2 ho
      exact ⟨fun _ => (A2, k2), rfl, hb, (OwnF.of ho (Nat.le_refl _)).base hL.size⟩
     · exact obl_pure rfl (fun _ => by kernel_rfl) (fun x => x 9) (fun x w => by kernel_rfl) (fun x w => rfl)
     · exact obl_pure rfl (fun _ => by kernel_rfl) (fun x => x 10) (fun x w => by kernel_rfl) (fun x w => rfl)
     · exact obl_pure rfl (fun _ => by kernel_rfl) (fun x => x 10) (fun x w => by kernel_rfl) (fun x w => rfl)
     · exact obl_pure rfl (fun _ => by kernel_rfl) (fun x => x 11) (fun x w => by kernel_rfl) (fun x w => rfl)
     · exact obl_pure rfl (fun _ => by kernel_rfl) (fun x => x 12) (fun x w => by kernel_rfl) (fun x w => rfl)
    ·
     refine ⟨?_, ?_, ?_, ?_, ?_, ?_, ?_, trivial⟩
     ·
      refine ⟨fun x F wq wq' h hs hk => ?_, fun x x' F wq hx h => ?_⟩
      ·
       have h2 : RaysF wq F (x 5 0).1 R4 (RaysOk ms a G R4) := h
       exact h2.stab hk
      ·
       have h2 : RaysF wq F (x 5 0).1 R4 (RaysOk ms a G R4) := h
       rw [hx 5 (by simp)] at h2
       exact h2
     ·
      refine ⟨fun x F wq wq' h hs hk => ?_, fun x x' F wq hx h => ?_⟩
      ·
       have h2 : OwnF wq F w7.heap.size 24 2 (.slice (x 9 0).1 G (x 9 0).2) G (spanCells RL) := h
       exact h2.stab hk
      ·
       have h2 : OwnF wq F w7.heap.size 24 2 (.slice (x 9 0).1 G (x 9 0).2) G (spanCells RL) := h
       rw [hx 9 (by simp)] at h2
       exact h2
     · exact owe_pure 9 (fun _ _ _ => rfl) (by simp)
     · exact owe_pure 10 (fun _ _ _ => rfl) (by simp)
     · exact owe_pure 10 (fun _ _ _ => rfl) (by simp)
     · exact owe_pure 11 (fun _ _ _ => rfl) (by simp)
     · exact owe_pure 12 (fun _ _ _ => rfl) (by simp)
    intro xx w8 F hK hlv1
    obtain ⟨fct5, fct9, fct10, fct11, fct12, fct13, fct14, -⟩ := hlv1
    replace fct5 : RaysF w8 (F 5) (xx 5 0).1 R4 (RaysOk ms a G R4) := fct5 rfl
    replace fct9 : OwnF w8 (F 9) w7.heap.size 24 2 (.slice (xx 9 0).1 G (xx 9 0).2) G (spanCells RL) := fct9 rfl
    replace fct10 : xx 10 = xx 9 := fct10 rfl
    replace fct11 : xx 11 = xx 10 := fct11 rfl
    replace fct12 : xx 12 = xx 10 := fct12 rfl
    replace fct13 : xx 13 = xx 11 := fct13 rfl
    replace fct14 : xx 14 = xx 12 := fct14 rfl
    have ho4 := fct9.1
    have e13 : xx 13 = xx 9 := fct13.trans (fct11.trans fct10)
    rw [e13]
    clear e13 fct5 fct9 fct10 fct11 fct12 fct13 fct14
    generalize (xx 9 0).1 = A6 at *
    generalize (xx 9 0).2 = c6 at *
    replace HBL := hide ((Ints.below HBL.out hK).more (Below.size hK))
    replace HB := hide (onward HB.out hK)
    replace Hm := hide (blk_later Hm.out hK)
    replace Hs := hide (blk_later Hs.out hK)
    replace He := hide (blk_later He.out hK)
    replace Hf := hide (blk_later Hf.out hK)
    replace Hx := hide (blk_later Hx.out hK)
    replace Ho := hide (own_later Ho.out hK)
    replace Hq := hide (own_later Hq.out hK)
    replace Hms := hide (own_later Hms.out hK)
    clear hK m0 m1 m2 m3 m4 m5 m6 m7 ltm x0 x1 x2 x3 x4 x5 x6 x7 ltx y0 y1 lty f0 f1 f2 f3 f4 f5 ltf
    have Hgt := hide ho4
    clear ho4
    obtain ⟨x0, x1, x2, x3, x4, x5, x6, x7⟩ := Hs.out.c8
    have ltx := Hs.out.lt
    go_wp2_with fail
    clear x0 x1 x2 x3 x4 x5 x6 x7 ltx
    have cbd : ∀ (j : Nat) (W : World), j < G → Calls Try.prog 12 #[.agg #[.string s, .int .i64 sx, .int .i64 sy, .int .i64 z, .int .i64 r, .int .i64 (G : Int), .int .i64 st, .int .i64 wd], .int .i64 tilt, .agg #[.int .i64 elo, .int .i64 ehi], .int .i64 j] W fun e w' => e = .returned (.tuple #[.agg #[.int .i64 (bandZ z st wd tilt elo ehi j).1, .int .i64 (bandZ z st wd tilt elo ehi j).2], .int .i64 0]) ∧ Below W.heap.size W w' := fun j W hj => by
     have h5 := Band_any s sx sy z r G st wd tilt elo ehi j W hs
     rw [HsE.out, band_at ke ht (by omega)] at h5
     exact h5
    have cfc : ∀ (j : Nat) (W : World), j < G → Below w8.heap.size w8 W → Calls Try.prog 13 #[.agg #[.slice A nl cl, .slice Ar nr cr, .int .i64 a0, .int .i64 a1, .int .i64 b0, .int .i64 b1, .int .i64 c0, .int .i64 c1], .agg #[.int .i64 (bandZ z st wd tilt elo ehi j).1, .int .i64 (bandZ z st wd tilt elo ehi j).2]] W fun e w' => e = .returned (.tuple #[.agg #[.int .i64 (facS (a0, a1) (b0, b1) (c0, c1) (bandZ z st wd tilt elo ehi j)).1, .int .i64 (facS (a0, a1) (b0, b1) (c0, c1) (bandZ z st wd tilt elo ehi j)).2], .int .i64 0]) ∧ Below W.heap.size W w' := fun j W hj hB8 => by
     have hB := onward HB.out hB8
     have h5 := Factor_any A nl cl l Ar nr cr rt a0 a1 b0 b1 c0 c1 (bandZ z st wd tilt elo ehi j).1 (bandZ z st wd tilt elo ehi j).2 W Hn.out hmax Hnr.out hmaxr ((Hl.out.below hB).more hB.size) ((Hlr.out.below hB).more hB.size)
     rw [facR_ok HmE.out (Hband.out j hj)] at h5
     exact h5
    have cvl : ∀ (x : Int) (W : World), 0 ≤ x → x ≤ 1073741824 → Below w8.heap.size w8 W → Calls Try.prog 14 #[.slice Ar nr cr, .int .i64 x] W fun e w' => e = .returned (.tuple #[.agg #[.int .i64 (valGo x rt).1, .int .i64 (valGo x rt).2], .int .i64 0]) ∧ Below W.heap.size W w' := fun x W h0 h1 hB8 => by
     have hB := onward HB.out hB8
     have h5 := Value_any Ar nr cr rt x W Hnr.out hmaxr ((Hlr.out.below hB).more hB.size)
     rw [valueR_ok t2 h0 h1] at h5
     exact h5
    refine tl3 s sx sy z r st wd tilt elo ehi G A nl cl Ar nr cr a0 a1 b0 b1 c0 c1 Ap np cp Ab nb cb Af nf cf Aw nw cw zf pw Ao co RL A6 c6 (bandZ z st wd tilt elo ehi) (fun j => facS (a0, a1) (b0, b1) (c0, c1) (bandZ z st wd tilt elo ehi j)) (fun x => valGo x rt) _ _ _ _ (by omega) pwl HRLn.out Hzf.out hnf Hbf.out (fun j hj => getD_in pwi (by omega)) (fun j hj => ⟨(Hfac.out j hj).1.1, (Hfac.out j hj).2, (Hfac.out j hj).1.2.2.2⟩) Hlaw.out ((HIf.out.below HB.out).more HB.out.size) (Ints.own Ho.out rfl (Nat.le_refl _)) (ints_spans Hgt.out) Hm.out Hs.out He.out Hx.out cbd cfc cvl ?_
    clear cbd cfc cvl
    intro kv14 kv31 kv32 kv33 kv34 kv35 kv36 kv37 kv244 kv245 kv246 kv247 kv248 kv249 kv250 kv251 kv252 kv253 kv254 kv255 kv256 kv257 kv258 kv259 kv260 kv261 kv262 kv263 kv264 kv265 kv266 kv267 kv268 kv269 kv270 kv271 kv272 kv273 kv274 kv275 kv276 kv277 kv278 kv279 kv280 kv281 kv282 kv283 kv284 kv285 kv286 kv287 kv288 kv289 kv290 kv291 kv292 kv293 kv294 kv295 kv296 kv297 kv298 kv299 kv300 kv301 kv302 kv303 kv304 kv305 kv306 kv307 kv308 kv309 kv310 kv311 kv312 kv313 kv314 kv315 kv316 kv317 kv318 kv319 kv320 kv321 kv322 kv323 kv324 kv325 kv326 kv327 kv328 kv329 kv330 kv331 kv332 kv333 kv334 kv335 kv336 kv337 kv338 kv339 kv340 kv341 kv342 kv343 kv344 kv345 kv346
    intro w10 hb10
    replace HBL := hide ((Ints.below HBL.out hb10).more (Below.size hb10))
    replace HB := hide (onward HB.out hb10)
    replace Hm := hide (blk_later Hm.out hb10)
    replace Hs := hide (blk_later Hs.out hb10)
    replace He := hide (blk_later He.out hb10)
    replace Hf := hide (blk_later Hf.out hb10)
    replace Hx := hide (blk_later Hx.out hb10)
    replace Ho := hide (own_later Ho.out hb10)
    replace Hq := hide (own_later Hq.out hb10)
    replace Hms := hide (own_later Hms.out hb10)
    replace Hgt := hide (own_later Hgt.out hb10)
    clear hb10
    go_wp2_with fail
    refine (works_any _).mono ?_
    rintro e w9 ⟨rfl, hb⟩
    replace HBL := hide ((Ints.below HBL.out hb).more (Below.size hb))
    replace HB := hide (onward HB.out hb)
    replace Hm := hide (blk_later Hm.out hb)
    replace Hs := hide (blk_later Hs.out hb)
    replace He := hide (blk_later He.out hb)
    replace Hf := hide (blk_later Hf.out hb)
    replace Hx := hide (blk_later Hx.out hb)
    replace Ho := hide (own_later Ho.out hb)
    replace Hq := hide (own_later Hq.out hb)
    replace Hms := hide (own_later Hms.out hb)
    replace Hgt := hide (own_later Hgt.out hb)
    clear hb
    go_wp2
    go_ret
    exact ⟨rfl, HB.out⟩
   ·
    simp only [if_neg h3] at cB2
    have hd : (bE != 0) = true := by simp [h3]
    have CB2 := hide cB2
    clear cB2
    go_enter Try.func3, Try.ntmps3
    have HB := hide (Below.refl w.heap.size w)
    go_wp2_with fail
    refine at_world fun W hW => ?_
    have bq0 : Blk W w.heap.size 26 #[.slice A nl cl, .slice Ar nr cr, .int .i64 a0, .int .i64 a1, .int .i64 b0, .int .i64 b1, .int .i64 c0, .int .i64 c1] := by rw [hW]; exact ((((Blk.new _ _ _).alloc _).alloc _).alloc _).alloc _
    have bq1 : Blk W (w.heap.size + 1) 28 #[.string s, .int .i64 sx, .int .i64 sy, .int .i64 z, .int .i64 r, .int .i64 (G : Int), .int .i64 st, .int .i64 wd] := by rw [hW]; exact (((blk_new_at (by simp)).alloc _).alloc _).alloc _
    have bq2 : Blk W (w.heap.size + 2) 24 #[.int .i64 elo, .int .i64 ehi] := by rw [hW]; exact ((blk_new_at (by simp)).alloc _).alloc _
    have bq3 : Blk W (w.heap.size + 3) 33 #[.int .i64 gx, .int .i64 gy, .int .i64 gs, .int .i64 wi, .int .i64 hi, .slice Ag ng cg] := by rw [hW]; exact (blk_new_at (by simp)).alloc _
    have bq4 : Blk W (w.heap.size + 4) 38 #[.slice Ap np cp, .slice Ab nb cb, .slice Af nf cf, .slice Aw nw cw] := by rw [hW]; exact blk_new_at (by simp)
    have LW : Later w W := by rw [hW]; exact ((((((Below.refl _ _).alloc (Nat.le_refl _) _).alloc (by simp; try omega) _).alloc (by simp; try omega) _).alloc (by simp; try omega) _).alloc (by simp; try omega) _)
    have szW : W.heap.size = w.heap.size + 5 := by rw [hW]; simp
    clear hW
    replace HB := hide (onward HB.out LW)
    have Hm := hide bq0
    have Hs := hide bq1
    have He := hide bq2
    have Hf := hide bq3
    have Hx := hide bq4
    clear bq0 bq1 bq2 bq3 bq4 LW szW
    refine (CM.out _ ((Hl.out.below HB.out).more HB.out.size) ((Hlr.out.below HB.out).more HB.out.size)).mono ?_
    rintro e w1 ⟨rfl, hb⟩
    replace HB := hide (onward HB.out hb)
    replace Hm := hide (blk_later Hm.out hb)
    replace Hs := hide (blk_later Hs.out hb)
    replace He := hide (blk_later He.out hb)
    replace Hf := hide (blk_later Hf.out hb)
    replace Hx := hide (blk_later Hx.out hb)
    clear hb
    obtain ⟨x0, x1, x2, x3, x4, x5, x6, x7⟩ := Hs.out.c8
    have ltx := Hs.out.lt
    go_wp2_with fail
    refine (CS.out _).mono ?_
    rintro e w2 ⟨rfl, hb⟩
    replace HB := hide (onward HB.out hb)
    replace Hm := hide (blk_later Hm.out hb)
    replace Hs := hide (blk_later Hs.out hb)
    replace He := hide (blk_later He.out hb)
    replace Hf := hide (blk_later Hf.out hb)
    replace Hx := hide (blk_later Hx.out hb)
    clear hb x0 x1 x2 x3 x4 x5 x6 x7 ltx
    obtain ⟨x0, x1, x2, x3, x4, x5, x6, x7⟩ := Hs.out.c8
    have ltx := Hs.out.lt
    obtain ⟨y0, y1⟩ := He.out.c2
    have lty := He.out.lt
    obtain ⟨f0, f1, f2, f3, f4, f5⟩ := Hf.out.c6
    have ltf := Hf.out.lt
    go_wp2_with fail
    refine (CB2.out _ ((Hlg.out.below HB.out).more HB.out.size)).mono ?_
    rintro e w3 ⟨A1, c1', rfl, hb, hi1⟩
    replace HB := hide (onward HB.out hb)
    replace Hm := hide (blk_later Hm.out hb)
    replace Hs := hide (blk_later Hs.out hb)
    replace He := hide (blk_later He.out hb)
    replace Hf := hide (blk_later Hf.out hb)
    replace Hx := hide (blk_later Hx.out hb)
    clear hb x0 x1 x2 x3 x4 x5 x6 x7 ltx y0 y1 lty f0 f1 f2 f3 f4 f5 ltf
    clear hi1
    go_wp2_with fail
    refine (works_any _).mono ?_
    rintro e w9 ⟨rfl, hb⟩
    replace HB := hide (onward HB.out hb)
    replace Hm := hide (blk_later Hm.out hb)
    replace Hs := hide (blk_later Hs.out hb)
    replace He := hide (blk_later He.out hb)
    replace Hf := hide (blk_later Hf.out hb)
    replace Hx := hide (blk_later Hx.out hb)
    clear hb
    go_wp2
    go_ret
    exact ⟨rfl, HB.out⟩
  ·
   have hd : (sE != 0) = true := by simp [h2]
   go_enter Try.func3, Try.ntmps3
   have HB := hide (Below.refl w.heap.size w)
   go_wp2_with fail
   refine at_world fun W hW => ?_
   have bq0 : Blk W w.heap.size 26 #[.slice A nl cl, .slice Ar nr cr, .int .i64 a0, .int .i64 a1, .int .i64 b0, .int .i64 b1, .int .i64 c0, .int .i64 c1] := by rw [hW]; exact ((((Blk.new _ _ _).alloc _).alloc _).alloc _).alloc _
   have bq1 : Blk W (w.heap.size + 1) 28 #[.string s, .int .i64 sx, .int .i64 sy, .int .i64 z, .int .i64 r, .int .i64 g, .int .i64 st, .int .i64 wd] := by rw [hW]; exact (((blk_new_at (by simp)).alloc _).alloc _).alloc _
   have bq2 : Blk W (w.heap.size + 2) 24 #[.int .i64 elo, .int .i64 ehi] := by rw [hW]; exact ((blk_new_at (by simp)).alloc _).alloc _
   have bq3 : Blk W (w.heap.size + 3) 33 #[.int .i64 gx, .int .i64 gy, .int .i64 gs, .int .i64 wi, .int .i64 hi, .slice Ag ng cg] := by rw [hW]; exact (blk_new_at (by simp)).alloc _
   have bq4 : Blk W (w.heap.size + 4) 38 #[.slice Ap np cp, .slice Ab nb cb, .slice Af nf cf, .slice Aw nw cw] := by rw [hW]; exact blk_new_at (by simp)
   have LW : Later w W := by rw [hW]; exact ((((((Below.refl _ _).alloc (Nat.le_refl _) _).alloc (by simp; try omega) _).alloc (by simp; try omega) _).alloc (by simp; try omega) _).alloc (by simp; try omega) _)
   have szW : W.heap.size = w.heap.size + 5 := by rw [hW]; simp
   clear hW
   replace HB := hide (onward HB.out LW)
   have Hm := hide bq0
   have Hs := hide bq1
   have He := hide bq2
   have Hf := hide bq3
   have Hx := hide bq4
   clear bq0 bq1 bq2 bq3 bq4 LW szW
   refine (CM.out _ ((Hl.out.below HB.out).more HB.out.size) ((Hlr.out.below HB.out).more HB.out.size)).mono ?_
   rintro e w1 ⟨rfl, hb⟩
   replace HB := hide (onward HB.out hb)
   replace Hm := hide (blk_later Hm.out hb)
   replace Hs := hide (blk_later Hs.out hb)
   replace He := hide (blk_later He.out hb)
   replace Hf := hide (blk_later Hf.out hb)
   replace Hx := hide (blk_later Hx.out hb)
   clear hb
   obtain ⟨x0, x1, x2, x3, x4, x5, x6, x7⟩ := Hs.out.c8
   have ltx := Hs.out.lt
   go_wp2_with fail
   refine (CS.out _).mono ?_
   rintro e w2 ⟨rfl, hb⟩
   replace HB := hide (onward HB.out hb)
   replace Hm := hide (blk_later Hm.out hb)
   replace Hs := hide (blk_later Hs.out hb)
   replace He := hide (blk_later He.out hb)
   replace Hf := hide (blk_later Hf.out hb)
   replace Hx := hide (blk_later Hx.out hb)
   clear hb x0 x1 x2 x3 x4 x5 x6 x7 ltx
   go_wp2_with fail
   refine (works_any _).mono ?_
   rintro e w9 ⟨rfl, hb⟩
   replace HB := hide (onward HB.out hb)
   replace Hm := hide (blk_later Hm.out hb)
   replace Hs := hide (blk_later Hs.out hb)
   replace He := hide (blk_later He.out hb)
   replace Hf := hide (blk_later Hf.out hb)
   replace Hx := hide (blk_later Hx.out hb)
   clear hb
   go_wp2
   go_ret
   exact ⟨rfl, HB.out⟩
 ·
  have hd : (mE != 0) = true := by simp [h1]
  go_enter Try.func3, Try.ntmps3
  have HB := hide (Below.refl w.heap.size w)
  go_wp2_with fail
  refine at_world fun W hW => ?_
  have bq0 : Blk W w.heap.size 26 #[.slice A nl cl, .slice Ar nr cr, .int .i64 a0, .int .i64 a1, .int .i64 b0, .int .i64 b1, .int .i64 c0, .int .i64 c1] := by rw [hW]; exact ((((Blk.new _ _ _).alloc _).alloc _).alloc _).alloc _
  have bq1 : Blk W (w.heap.size + 1) 28 #[.string s, .int .i64 sx, .int .i64 sy, .int .i64 z, .int .i64 r, .int .i64 g, .int .i64 st, .int .i64 wd] := by rw [hW]; exact (((blk_new_at (by simp)).alloc _).alloc _).alloc _
  have bq2 : Blk W (w.heap.size + 2) 24 #[.int .i64 elo, .int .i64 ehi] := by rw [hW]; exact ((blk_new_at (by simp)).alloc _).alloc _
  have bq3 : Blk W (w.heap.size + 3) 33 #[.int .i64 gx, .int .i64 gy, .int .i64 gs, .int .i64 wi, .int .i64 hi, .slice Ag ng cg] := by rw [hW]; exact (blk_new_at (by simp)).alloc _
  have bq4 : Blk W (w.heap.size + 4) 38 #[.slice Ap np cp, .slice Ab nb cb, .slice Af nf cf, .slice Aw nw cw] := by rw [hW]; exact blk_new_at (by simp)
  have LW : Later w W := by rw [hW]; exact ((((((Below.refl _ _).alloc (Nat.le_refl _) _).alloc (by simp; try omega) _).alloc (by simp; try omega) _).alloc (by simp; try omega) _).alloc (by simp; try omega) _)
  have szW : W.heap.size = w.heap.size + 5 := by rw [hW]; simp
  clear hW
  replace HB := hide (onward HB.out LW)
  have Hm := hide bq0
  have Hs := hide bq1
  have He := hide bq2
  have Hf := hide bq3
  have Hx := hide bq4
  clear bq0 bq1 bq2 bq3 bq4 LW szW
  refine (CM.out _ ((Hl.out.below HB.out).more HB.out.size) ((Hlr.out.below HB.out).more HB.out.size)).mono ?_
  rintro e w1 ⟨rfl, hb⟩
  replace HB := hide (onward HB.out hb)
  replace Hm := hide (blk_later Hm.out hb)
  replace Hs := hide (blk_later Hs.out hb)
  replace He := hide (blk_later He.out hb)
  replace Hf := hide (blk_later Hf.out hb)
  replace Hx := hide (blk_later Hx.out hb)
  clear hb
  go_wp2_with fail
  refine (works_any _).mono ?_
  rintro e w9 ⟨rfl, hb⟩
  replace HB := hide (onward HB.out hb)
  replace Hm := hide (blk_later Hm.out hb)
  replace Hs := hide (blk_later Hs.out hb)
  replace He := hide (blk_later He.out hb)
  replace Hf := hide (blk_later Hf.out hb)
  replace Hx := hide (blk_later Hx.out hb)
  clear hb
  go_wp2
  go_ret
  exact ⟨rfl, HB.out⟩
end Go.Proofs.Ytepgpihobmjbdaa
end
section
namespace Go.Proofs.Ytepgpihobmjbdaa
open Go Go.RowKit Go.ChangeShapes Go.WideShapes Go.Deep
section
variable {H : Type} {enc : TypeId × Value → H} {w : World} {base : Nat} {spare : Nat → Bool} {held : Bool}
theorem bU32 {n : Int} (h : (Lit.int .u32 n).wf = true) : 0 ≤ n ∧ n ≤ 4294967295 := by
 simp only [Lit.wf, Bool.and_eq_true, decide_eq_true_eq] at h
 exact ⟨h.1, h.2⟩
theorem bU16 {n : Int} (h : (Lit.int .u16 n).wf = true) : 0 ≤ n ∧ n ≤ 65535 := by
 simp only [Lit.wf, Bool.and_eq_true, decide_eq_true_eq] at h
 exact ⟨h.1, h.2⟩
theorem bU8 {n : Int} (h : (Lit.int .u8 n).wf = true) : 0 ≤ n ∧ n ≤ 255 := by
 simp only [Lit.wf, Bool.and_eq_true, decide_eq_true_eq] at h
 exact ⟨h.1, h.2⟩
theorem aiU32 : AllInts Try.prog 46 .u32 1 := allInts_int Try.underlying46 (by kernel_rfl)
theorem aiU16 : AllInts Try.prog 49 .u16 1 := allInts_int Try.underlying49 (by kernel_rfl)
theorem aiU8 : AllInts Try.prog 5 .u8 1 := allInts_int Try.underlying5 (by kernel_rfl)
set_option maxRecDepth 100000 in
theorem open_site {r : Reach} {b0 : Nat} {v : Value} {d : DataW H} {ps : List MemPlace} (hv : Value.okWide Try.prog w r b0 28 v) (h : DataW.Trod enc Try.prog w base spare held 28 v d ps) :
  ∃ (s : ByteArray) (a1 a2 a3 a4 a5 a6 a7 : Int), v = .agg (siteC s a1 a2 a3 a4 a5 a6 a7) ∧ s.size ≤ maxLen := by
 obtain ⟨cs, rfl, hsz⟩ := okWide_struct Try.underlying28 hv
 obtain ⟨fuel, hf⟩ := h
 simp only [Value.cells] at hf
 obtain ⟨s, a1, a2, a3, a4, a5, a6, a7, k0, ws, -⟩ := read_site hf
 refine ⟨s, a1, a2, a3, a4, a5, a6, a7, ?_, ws⟩
 rw [← Array.toArray_toList (xs := cs), k0]
 rfl
theorem list4 {α : Type} {l : List α} (h : l.length = 4) : ∃ x0 x1 x2 x3, l = [x0, x1, x2, x3] := by
 obtain ⟨x0, l0, rfl, h0⟩ := list1 h
 obtain ⟨x1, l1, rfl, h1⟩ := list1 h0
 obtain ⟨x2, l2, rfl, h2⟩ := list1 h1
 obtain ⟨x3, l3, rfl, h3⟩ := list1 h2
 obtain rfl := List.eq_nil_of_length_eq_zero h3
 exact ⟨x0, x1, x2, x3, rfl⟩
set_option maxRecDepth 100000 in
theorem open_aloft {r : Reach} {b0 : Nat} {v : Value} {d : DataW H} {ps : List MemPlace} (hv : Value.okWide Try.prog w r b0 38 v) (h : DataW.Trod enc Try.prog w base spare held 38 v d ps) :
  ∃ (Ap : Option Addr) (np cp : Nat) (Ab : Option Addr) (nb cb : Nat) (Af : Option Addr) (nf cf : Nat) (Aw : Option Addr) (nw cw : Nat) (zp zb zf zw : List Int), v = .agg (aloftC Ap np cp Ab nb cb Af nf cf Aw nw cw) ∧
   (zp.length = np ∧ zb.length = nb ∧ zf.length = nf ∧ zw.length = nw) ∧ (np ≤ maxLen ∧ nf ≤ maxLen) ∧ ((∀ x ∈ zp, 0 ≤ x ∧ x ≤ 4294967295) ∧ (∀ x ∈ zb, 0 ≤ x ∧ x ≤ 255) ∧ (∀ x ∈ zf, 0 ≤ x ∧ x ≤ 4294967295) ∧ (∀ x ∈ zw, 0 ≤ x ∧ x ≤ 65535)) ∧
   Ints w w.heap.size .u32 Ap zp ∧ Ints w w.heap.size .u8 Ab zb ∧ Ints w w.heap.size .u32 Af zf ∧ Ints w w.heap.size .u16 Aw zw := by
 obtain ⟨cs, rfl, hsz⟩ := okWide_struct Try.underlying38 hv
 obtain ⟨fuel, hf⟩ := h
 simp only [Value.cells] at hf
 obtain ⟨hlen, hg⟩ := read_fieldR Try.underlying38 hf
 have e4 : Try.prog.cellsOf 38 = 4 := by kernel_rfl
 have c1 : Try.prog.cellsOf 34 = 1 := by kernel_rfl
 have c2 : Try.prog.cellsOf 35 = 1 := by kernel_rfl
 have c3 : Try.prog.cellsOf 36 = 1 := by kernel_rfl
 rw [e4] at hlen
 obtain ⟨q0, q1, q2, q3, hq⟩ := list4 hlen
 have hcs : cs = #[q0, q1, q2, q3] := by rw [← Array.toArray_toList (xs := cs), hq]
 subst hcs
 simp only at hg
 obtain ⟨_, _, g0⟩ := hg 0 34 0 1 rfl c1
 obtain ⟨_, _, g1⟩ := hg 1 35 1 1 rfl c2
 obtain ⟨_, _, g2⟩ := hg 2 34 2 1 rfl c1
 obtain ⟨_, _, g3⟩ := hg 3 36 3 1 rfl c3
 simp only [List.drop_zero, List.drop_succ_cons, List.take_succ_cons, List.take_zero] at g0 g1 g2 g3
 obtain ⟨A0, n0, k0, z0, e0, l0, m0, I0, w0⟩ := read_slice Try.underlying34 aiU32 (by decide) g0
 obtain ⟨A1, n1, k1, z1, e1, l1, m1, I1, w1⟩ := read_slice Try.underlying35 aiU8 (by decide) g1
 obtain ⟨A2, n2, k2, z2, e2, l2, m2, I2, w2⟩ := read_slice Try.underlying34 aiU32 (by decide) g2
 obtain ⟨A3, n3, k3, z3, e3, l3, m3, I3, w3⟩ := read_slice Try.underlying36 aiU16 (by decide) g3
 simp at e0 e1 e2 e3
 subst e0 e1 e2 e3
 exact ⟨A0, n0, k0, A1, n1, k1, A2, n2, k2, A3, n3, k3, z0, z1, z2, z3, rfl, ⟨by omega, by omega, by omega, by omega⟩, ⟨m0, m2⟩, ⟨fun x hx => bU32 (w0 x hx), fun x hx => bU8 (w1 x hx), fun x hx => bU32 (w2 x hx), fun x hx => bU16 (w3 x hx)⟩, I0, I1, I2, I3⟩
end
end Go.Proofs.Ytepgpihobmjbdaa
end
