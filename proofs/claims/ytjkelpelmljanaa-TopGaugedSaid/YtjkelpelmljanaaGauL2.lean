/-
  The law TopGauged: its second loop (the pairs).
-/
import Derived.Test.YtjkelpelmljanaaGauDefs
import Derived.Deep.Cut
set_option linter.unusedSimpArgs false
set_option linter.unusedVariables false
namespace Go.Proofs.Ytjkelpelmljanaa
open Go Go.RowKit

def szG (zb : List Int) (k : Nat) : Int := 10 + zb.getD k 0 % 9990
set_option maxRecDepth 1000000 in
noncomputable def gl2C : Code := ((loopsOf ((Try.f3.body).getD .skip))[1]?).getD .skip
set_option maxHeartbeats 8000000 in
set_option maxRecDepth 1000000 in
theorem gl2 {kc0 kc2 kc3 kc4 kc5 kc6 kc7 kc8 kc9 kc10 kc12 kc13 kc14 kc15 kc16 kc17 kc18 kc19 kc20 kc21 kc22 kc23 ku27 kc28 kc29 kc30 kc31 kc32 kc33 kc34 kc35 kc36 kc37 kc38 kc39 kc40 kc41 kc42 kc43 kc44 kc45 kc46 kc47 kc48 kc49 kc50 kc51 kc52 kc53 kc54 kc55 kc56 kc57 kc58 kc59 kc60 kc61 kc62 kc63 kc64 kc65 kc66 kc67 kc68 kc69 kc70 kc71 kc72 kc73 kc74 kc75 kc76 kc77 kc78 kc79 kc80 kc81 kc82 kc83 kc84 kc85 kc86 kc87 kc88 kc89 kc90 kc91 kc92 kc93 kc94 kc95 kc96 kc97 kc98 kc99 kc100 kc101 kc102 kc103 kc104 kc105 kc106 kc107 kc108 kc109 kc110 kc111 kc112 kc113 kc114 kc115 kc116 kc117 kc118 kc119 kc120 kc121 kc122 kc123 kc124 kc125 kc126 kc127 kc128 kc129 kc130 kc131 kc132 kc133 kc134 kc135 kc136 kc137 kc138 kc139 kc140 kc141 kc142 kc143 kc144 kc145 kc146 kc147 kc148 kc149 kc150 kc151 kc152 kc153 kc154 kc155 kc156 kc157 kc158 kc159 kc160 kc161 kc162 kc163 kc164 kc165 kc166 kc167 kc168 kc169 kc170 kc171 kc172 kc173 kc174 kc175 kc176 kc177 kc178 kc179 kc180 kc181 kc182 kc183 kc184 kc185 kc186 kc187 kc188 kc189 kc190 kc191 kc192 kc193 kc194 kc195 kc196 kc197 kc198 kc199 kc200 kc201 kc202 kc203 kc204 kc205 kc206 kc207 kc208 kc209 kc210 kc211 kc212 kc213 kc214 kc215 kc216 kc217 kc218 kc219 kc220 kc221 kc222 kc223 kc224 kc225 kc226 kc227 kc228 kc229 kc230 kc231 kc232 kc233 kc234 kc235 kc236 kc237 kc238 kc239 kc240 kc241 kc242 kc243 kc244 kc245 kc246 kc247 kc248 kc249 kc250 kc251 kc252 kc253 kc254 kc255 kc256 kc257 kc258 kc259 kc260 kc261 kc262 kc263 kc264 kc265 kc266 kc267 kc268 kc269 kc270 kc271 kc272 kc273 kc274 kc275 kc276 kc277 kc278 kc279 kc280 kc281 kc282 kc283 kc284 kc285 kc286 kc287 kc288 kc289 kc290 kc291 kc292 kc293 kc294 kc295 kc296 kc297 kc298 kc299 kc300 kc301 kc302 kc303 kc304 kc305 ku306 ku307 ku308 ku309 ku310 ku311 ku312 ku313 ku314 ku315 ku316 ku317 ku318 ku319 ku320 ku321 ku322 ku323 ku324 ku325 ku326 ku327 ku328 ku329 ku330 ku331 kc332 kc333 kc334 kc335 kc336 kc337 kc338 kc339 kc340 kc341 kc342 kc343 kc344 kc345 kc346 kc347 kc348 kc349 kc350 kc351 kc352 : Value} (S1 S2 le0 : Int) (hle0 : 0 ≤ le0) (hle1 : le0 ≤ 3600000000) (zb : List Int) (hzb : ∀ k, 0 ≤ zb.getD k 0 ∧ zb.getD k 0 ≤ 65535) (a : GArg) (w : World) (hI : Ints w w.heap.size .u16 a.Ab zb) (hz : zb.length = a.nb) (hn5 : a.nb ≤ 5) (g0 gS : Nat) {Q : Exit → Act → World → Prop} {wr : World} (hB : Below w.heap.size w wr) (hbS : Blk wr gS 35 #[.int .i64 S1, .int .i64 S2]) (hbX : Blk wr g0 28 (gcells a))
    (hexit : ∀ ⦃kv27 kv306 kv307 kv308 kv309 kv310 kv311 kv312 kv313 kv314 kv315 kv316 kv317 kv318 kv319 kv320 kv321 kv322 kv323 kv324 kv325 kv326 kv327 kv328 kv329 kv330 kv331 : Value⦄ ⦃rv : Value⦄ ⦃w2 : World⦄, w2.ownsRow w.heap.size 58 4 rv a.nb ((paG (S1, S2) le0 (szG zb) a.nb).map (Value.int .i64)) ∧ Below w.heap.size w w2 → Q (.exit 2) ⟨List.toArray (kc0 :: .pointer (some ⟨g0, 0, none⟩) :: kc2 :: kc3 :: kc4 :: kc5 :: kc6 :: kc7 :: kc8 :: kc9 :: kc10 :: .int .i64 le0 :: kc12 :: kc13 :: kc14 :: kc15 :: kc16 :: kc17 :: kc18 :: kc19 :: kc20 :: kc21 :: kc22 :: kc23 :: .pointer (some ⟨gS, 0, none⟩) :: rv :: .int .i64 (a.nb : Int) :: kv27 :: kc28 :: kc29 :: kc30 :: kc31 :: kc32 :: kc33 :: kc34 :: kc35 :: kc36 :: kc37 :: kc38 :: kc39 :: kc40 :: kc41 :: kc42 :: kc43 :: kc44 :: kc45 :: kc46 :: kc47 :: kc48 :: kc49 :: kc50 :: kc51 :: kc52 :: kc53 :: kc54 :: kc55 :: kc56 :: kc57 :: kc58 :: kc59 :: kc60 :: kc61 :: kc62 :: kc63 :: kc64 :: kc65 :: kc66 :: kc67 :: kc68 :: kc69 :: kc70 :: kc71 :: kc72 :: kc73 :: kc74 :: kc75 :: kc76 :: kc77 :: kc78 :: kc79 :: kc80 :: kc81 :: kc82 :: kc83 :: kc84 :: kc85 :: kc86 :: kc87 :: kc88 :: kc89 :: kc90 :: kc91 :: kc92 :: kc93 :: kc94 :: kc95 :: kc96 :: kc97 :: kc98 :: kc99 :: kc100 :: kc101 :: kc102 :: kc103 :: kc104 :: kc105 :: kc106 :: kc107 :: kc108 :: kc109 :: kc110 :: kc111 :: kc112 :: kc113 :: kc114 :: kc115 :: kc116 :: kc117 :: kc118 :: kc119 :: kc120 :: kc121 :: kc122 :: kc123 :: kc124 :: kc125 :: kc126 :: kc127 :: kc128 :: kc129 :: kc130 :: kc131 :: kc132 :: kc133 :: kc134 :: kc135 :: kc136 :: kc137 :: kc138 :: kc139 :: kc140 :: kc141 :: kc142 :: kc143 :: kc144 :: kc145 :: kc146 :: kc147 :: kc148 :: kc149 :: kc150 :: kc151 :: kc152 :: kc153 :: kc154 :: kc155 :: kc156 :: kc157 :: kc158 :: kc159 :: kc160 :: kc161 :: kc162 :: kc163 :: kc164 :: kc165 :: kc166 :: kc167 :: kc168 :: kc169 :: kc170 :: kc171 :: kc172 :: kc173 :: kc174 :: kc175 :: kc176 :: kc177 :: kc178 :: kc179 :: kc180 :: kc181 :: kc182 :: kc183 :: kc184 :: kc185 :: kc186 :: kc187 :: kc188 :: kc189 :: kc190 :: kc191 :: kc192 :: kc193 :: kc194 :: kc195 :: kc196 :: kc197 :: kc198 :: kc199 :: kc200 :: kc201 :: kc202 :: kc203 :: kc204 :: kc205 :: kc206 :: kc207 :: kc208 :: kc209 :: kc210 :: kc211 :: kc212 :: kc213 :: kc214 :: kc215 :: kc216 :: kc217 :: kc218 :: kc219 :: kc220 :: kc221 :: kc222 :: kc223 :: kc224 :: kc225 :: kc226 :: kc227 :: kc228 :: kc229 :: kc230 :: kc231 :: kc232 :: kc233 :: kc234 :: kc235 :: kc236 :: kc237 :: kc238 :: kc239 :: kc240 :: kc241 :: kc242 :: kc243 :: kc244 :: kc245 :: kc246 :: kc247 :: kc248 :: kc249 :: kc250 :: kc251 :: kc252 :: kc253 :: kc254 :: kc255 :: kc256 :: kc257 :: kc258 :: kc259 :: kc260 :: kc261 :: kc262 :: kc263 :: kc264 :: kc265 :: kc266 :: kc267 :: kc268 :: kc269 :: kc270 :: kc271 :: kc272 :: kc273 :: kc274 :: kc275 :: kc276 :: kc277 :: kc278 :: kc279 :: kc280 :: kc281 :: kc282 :: kc283 :: kc284 :: kc285 :: kc286 :: kc287 :: kc288 :: kc289 :: kc290 :: kc291 :: kc292 :: kc293 :: kc294 :: kc295 :: kc296 :: kc297 :: kc298 :: kc299 :: kc300 :: kc301 :: kc302 :: kc303 :: kc304 :: kc305 :: kv306 :: kv307 :: kv308 :: kv309 :: kv310 :: kv311 :: kv312 :: kv313 :: kv314 :: kv315 :: kv316 :: kv317 :: kv318 :: kv319 :: kv320 :: kv321 :: kv322 :: kv323 :: kv324 :: kv325 :: kv326 :: kv327 :: kv328 :: kv329 :: kv330 :: kv331 :: kc332 :: kc333 :: kc334 :: kc335 :: kc336 :: kc337 :: kc338 :: kc339 :: kc340 :: kc341 :: kc342 :: kc343 :: kc344 :: kc345 :: kc346 :: kc347 :: kc348 :: kc349 :: kc350 :: kc351 :: kc352 :: []), []⟩ w2) :
    Code.wp Try.prog gl2C Q ⟨List.toArray (kc0 :: .pointer (some ⟨g0, 0, none⟩) :: kc2 :: kc3 :: kc4 :: kc5 :: kc6 :: kc7 :: kc8 :: kc9 :: kc10 :: .int .i64 le0 :: kc12 :: kc13 :: kc14 :: kc15 :: kc16 :: kc17 :: kc18 :: kc19 :: kc20 :: kc21 :: kc22 :: kc23 :: .pointer (some ⟨gS, 0, none⟩) :: .slice none 0 0 :: .int .i64 0 :: ku27 :: kc28 :: kc29 :: kc30 :: kc31 :: kc32 :: kc33 :: kc34 :: kc35 :: kc36 :: kc37 :: kc38 :: kc39 :: kc40 :: kc41 :: kc42 :: kc43 :: kc44 :: kc45 :: kc46 :: kc47 :: kc48 :: kc49 :: kc50 :: kc51 :: kc52 :: kc53 :: kc54 :: kc55 :: kc56 :: kc57 :: kc58 :: kc59 :: kc60 :: kc61 :: kc62 :: kc63 :: kc64 :: kc65 :: kc66 :: kc67 :: kc68 :: kc69 :: kc70 :: kc71 :: kc72 :: kc73 :: kc74 :: kc75 :: kc76 :: kc77 :: kc78 :: kc79 :: kc80 :: kc81 :: kc82 :: kc83 :: kc84 :: kc85 :: kc86 :: kc87 :: kc88 :: kc89 :: kc90 :: kc91 :: kc92 :: kc93 :: kc94 :: kc95 :: kc96 :: kc97 :: kc98 :: kc99 :: kc100 :: kc101 :: kc102 :: kc103 :: kc104 :: kc105 :: kc106 :: kc107 :: kc108 :: kc109 :: kc110 :: kc111 :: kc112 :: kc113 :: kc114 :: kc115 :: kc116 :: kc117 :: kc118 :: kc119 :: kc120 :: kc121 :: kc122 :: kc123 :: kc124 :: kc125 :: kc126 :: kc127 :: kc128 :: kc129 :: kc130 :: kc131 :: kc132 :: kc133 :: kc134 :: kc135 :: kc136 :: kc137 :: kc138 :: kc139 :: kc140 :: kc141 :: kc142 :: kc143 :: kc144 :: kc145 :: kc146 :: kc147 :: kc148 :: kc149 :: kc150 :: kc151 :: kc152 :: kc153 :: kc154 :: kc155 :: kc156 :: kc157 :: kc158 :: kc159 :: kc160 :: kc161 :: kc162 :: kc163 :: kc164 :: kc165 :: kc166 :: kc167 :: kc168 :: kc169 :: kc170 :: kc171 :: kc172 :: kc173 :: kc174 :: kc175 :: kc176 :: kc177 :: kc178 :: kc179 :: kc180 :: kc181 :: kc182 :: kc183 :: kc184 :: kc185 :: kc186 :: kc187 :: kc188 :: kc189 :: kc190 :: kc191 :: kc192 :: kc193 :: kc194 :: kc195 :: kc196 :: kc197 :: kc198 :: kc199 :: kc200 :: kc201 :: kc202 :: kc203 :: kc204 :: kc205 :: kc206 :: kc207 :: kc208 :: kc209 :: kc210 :: kc211 :: kc212 :: kc213 :: kc214 :: kc215 :: kc216 :: kc217 :: kc218 :: kc219 :: kc220 :: kc221 :: kc222 :: kc223 :: kc224 :: kc225 :: kc226 :: kc227 :: kc228 :: kc229 :: kc230 :: kc231 :: kc232 :: kc233 :: kc234 :: kc235 :: kc236 :: kc237 :: kc238 :: kc239 :: kc240 :: kc241 :: kc242 :: kc243 :: kc244 :: kc245 :: kc246 :: kc247 :: kc248 :: kc249 :: kc250 :: kc251 :: kc252 :: kc253 :: kc254 :: kc255 :: kc256 :: kc257 :: kc258 :: kc259 :: kc260 :: kc261 :: kc262 :: kc263 :: kc264 :: kc265 :: kc266 :: kc267 :: kc268 :: kc269 :: kc270 :: kc271 :: kc272 :: kc273 :: kc274 :: kc275 :: kc276 :: kc277 :: kc278 :: kc279 :: kc280 :: kc281 :: kc282 :: kc283 :: kc284 :: kc285 :: kc286 :: kc287 :: kc288 :: kc289 :: kc290 :: kc291 :: kc292 :: kc293 :: kc294 :: kc295 :: kc296 :: kc297 :: kc298 :: kc299 :: kc300 :: kc301 :: kc302 :: kc303 :: kc304 :: kc305 :: ku306 :: ku307 :: ku308 :: ku309 :: ku310 :: ku311 :: ku312 :: ku313 :: ku314 :: ku315 :: ku316 :: ku317 :: ku318 :: ku319 :: ku320 :: ku321 :: ku322 :: ku323 :: ku324 :: ku325 :: ku326 :: ku327 :: ku328 :: ku329 :: ku330 :: ku331 :: kc332 :: kc333 :: kc334 :: kc335 :: kc336 :: kc337 :: kc338 :: kc339 :: kc340 :: kc341 :: kc342 :: kc343 :: kc344 :: kc345 :: kc346 :: kc347 :: kc348 :: kc349 :: kc350 :: kc351 :: kc352 :: []), []⟩ wr := by
  have HX := hide hexit
  clear hexit
  unfold gl2C
  conv => arg 2; whnf
  obtain ⟨i0, hii, hz0, hz1, hz2⟩ := info_parts paInfo
  have HI := hide hI
  have Hz := hide hz
  have Hi := hide hii
  have Hz0 := hide hz0
  have Hz1 := hide hz1
  have Hz2 := hide hz2
  have Hzb := hide hzb
  clear hI hz hii hz0 hz1 hz2 hzb
  have HB := hide hB
  have HbS := hide hbS
  have HbX := hide hbX
  clear hB hbS hbX
  go_loopw [25, 26] (fun r i wr2 => ∃ ii : Nat, ii ≤ a.nb ∧ i = .int .i64 ii ∧ wr2.ownsRow w.heap.size 58 4 r ii ((paG (S1, S2) le0 (szG zb) ii).map (Value.int .i64)) ∧ Below w.heap.size w wr2 ∧ Blk wr2 gS 35 #[.int .i64 S1, .int .i64 S2] ∧ Blk wr2 g0 28 (gcells a)) (fun _ i _ => a.nb - (intOf i).toNat)
  case atStart => exact ⟨0, by omega, rfl, World.ownsRow_nil _ _ _ _, HB.out, HbS.out, HbX.out⟩
  case round =>
    obtain ⟨i, hin, rfl, hown, hbw, hbs, hbx⟩ := hrel
    clear HB HbS HbX
    have hsw := hbw.size
    have Hown := hide hown
    have HB := hide hbw
    have HbS := hide hbs
    have HbX := hide hbx
    clear hown hbw hbs hbx
    have bX := HbX.out
    have ltX := bX.lt
    have x10 : wr.cell? ⟨g0, 10, none⟩ = some (.slice a.Ab a.nb a.cb) := bX.c 10 rfl
    by_cases hi2 : i < a.nb
    · have hi3 : (i : Int) < a.nb := by omega
      obtain ⟨bP, oP, hA, hbP, hcP⟩ := HI.out (by have := Hz.out; omega)
      have p0 := hcP i (by have := Hz.out; omega)
      rw [← HB.out.cell hbP] at p0
      have hltP : bP < wr.heap.size := Nat.lt_of_lt_of_le hbP HB.out.size
      rw [hA] at x10
      have hz0' := Hzb.out i
      obtain ⟨zi, hzi⟩ : ∃ zi : Int, zb.getD i 0 = zi := ⟨_, rfl⟩
      rw [hzi] at hz0' p0
      have hpt : zi.tmod 9990 = zi % 9990 := Int.tmod_eq_emod_of_nonneg hz0'.1
      obtain ⟨sz, hsz⟩ : ∃ sz : Int, zi % 9990 = sz := ⟨_, rfl⟩
      rw [hsz] at hpt
      have hsb : 0 ≤ sz ∧ sz ≤ 9989 := by omega
      have hi1 : decide ((i : Int) < 0) = false := decide_eq_false (by omega)
      have q1 : le0.tdiv 360 = le0 / 360 := tdiv_pos hle0
      obtain ⟨qq, hqq⟩ : ∃ qq : Int, le0 / 360 = qq := ⟨_, rfl⟩
      have hqb : 0 ≤ qq ∧ qq ≤ 10000000 := by omega
      rw [hqq] at q1
      obtain ⟨s, hs⟩ : ∃ s : Int, 10 + sz = s := ⟨_, rfl⟩
      have hsb2 : 10 ≤ s ∧ s ≤ 9999 := by omega
      have q2 : qq.tdiv s = qq / s := tdiv_pos hqb.1
      obtain ⟨b0, b1, -, -⟩ := size_bd hle0 hle1 hsb2.1 hsb2.2
      rw [hqq] at b0 b1
      obtain ⟨tq, htq⟩ : ∃ tq : Int, qq / s = tq := ⟨_, rfl⟩
      rw [htq] at q2 b0 b1
      have hsz0 : (s == 0) = false := beq_eq_false_iff_ne.2 (by omega)
      have hsz1 : ¬ s = 0 := by omega
      have hsz2 : ¬ s = -1 := by omega
      have hsG : szG zb i = s := by unfold szG; rw [hzi, hsz, hs]
      have htG : le0 / 360 / s = tq := by rw [hqq, htq]
      have HsG := hide hsG
      have HtG := hide htG
      have Hsz := hide hsz
      have Hzi := hide hzi
      have Hqq := hide hqq
      have Htq := hide htq
      have HA := hide hA
      clear hsG htG hsz hzi hqq htq hA
      clear hcP
      have bS := HbS.out
      have ltS := bS.lt
      have s0 := bS.c 0 rfl
      have s1 := bS.c 1 rfl
      go_wp2_with fail
      clear x10 p0 ltX bX
      refine wp_region_R (fun k => k < wr.heap.size) 10 (by kernel_rfl) ?_
      apply anyR_peel (fuel := 3) 10 [true, true, true, true, true, true, true, true, true, false, false, false] #[true, true, true, true, true, true, true, true, true, false, false, false] (by kernel_rfl) rfl (fun j hj => decide_eq_true hj) (fun k hk => by first | exact hk | omega | (simp at hk ⊢; omega))
      · intro D hD
        have hne := hD.some
        have k0 := liftB hD s0 (by omega)
        have k1 := liftB hD s1 (by omega)
        simp only [takeOps]
        repeat (go_big_quiet_step (fail))
        exact wpQuiet_nil rfl
      refine anyR_push (f := 0) 9 10 11 54 58 321 330 331 25 329 (by kernel_rfl) (by decide) rfl rfl rfl rfl rfl rfl rfl rfl rfl rfl rfl rfl rfl w.heap.size i0 _ 4 32 Try.underlying54 Hi.out Hz0.out Hz1.out Hz2.out rfl (by omega) #[.int .i64 S1, .int .i64 S2, .int .i64 tq, .int .i64 s] (fun _ => by kernel_rfl) rfl (by simp [Value.oneCell']) _ i ((paG (S1, S2) le0 (szG zb) i).map (Value.int .i64)) rfl (by exact of_decide_eq_true rfl) (by exact of_decide_eq_true rfl) Hown.out (by unfold maxLen; omega) (by omega) hsw (fun h => by simp at h) (fun k hk => hk) ?_
      intro g v' w2 hown2 hgr2
      simp only [Act.put, List.setIfInBounds_toArray, List.set_cons_succ, List.set_cons_zero]
      replace HB := hide (below_grown HB.out hgr2 HB.out.size fun k hk => Nat.le_trans (by first | exact Nat.le_refl _ | omega) (Hown.out.lt k hk).1)
      replace HbS := hide (blk_grown HbS.out hgr2 (own_ne Hown.out HbS.out (by decide)))
      replace HbX := hide (blk_grown HbX.out hgr2 (own_ne Hown.out HbX.out (by decide)))
      replace Hown := hide hown2
      clear hown2 hgr2
      go_wp2_with fail
      go_roundw
      case rel =>
        refine ⟨i + 1, by omega, by go_num, ?_, HB.out, HbS.out, HbX.out⟩
        rw [paG, List.map_append, HsG.out, HtG.out]
        exact Hown.out
      case measure => simp [intOf] <;> omega
    · have hie : i = a.nb := by omega
      subst hie
      have hi3 : ¬ ((a.nb : Int) < a.nb) := by omega
      go_wp2_with fail
      exact HX.out ⟨Hown.out, HB.out⟩
end Go.Proofs.Ytjkelpelmljanaa
