/-
  What is true of a sweep that passes all tests.
  The errors of what Rates and Map get: rain's checked.
  Sweeps as arguments, opened: a site, two numbers, and rays of echoes.
-/
import Derived.Test.YtepgpihobmjbdaaTruM
import Derived.Test.YtepgpihobmjbdaaRtRefSweep
import Derived.Test.YtepgpihobmjbdaaOpenV
import Derived.Test.YtepgpihobmjbdaaOpenM
set_option linter.unusedSimpArgs false
set_option linter.unusedVariables false
section
namespace Go.Proofs.Ytepgpihobmjbdaa
open Go.RowKit
theorem oneB_leR {a b : Bool} (h : a = true → b = true) : oneB a ≤ oneB b := by
 unfold oneB
 by_cases ha : a = true
 · rw [if_pos ha, if_pos (h ha)]; exact Int.le_refl _
 · rw [if_neg ha]; split <;> omega
theorem anyB_leR {c c' : Nat → Bool} : ∀ {j : Nat}, (∀ i, i ≤ j → c i = true → c' i = true) → anyB c j = true → anyB c' j = true
 | 0, h, hc => h 0 (Nat.le_refl _) hc
 | j + 1, h, hc => by
  unfold anyB at *
  rw [Bool.or_eq_true] at *
  rcases hc with hc | hc
  · exact .inl (anyB_leR (fun i hi => h i (by omega)) hc)
  · exact .inr (h _ (Nat.le_refl _) hc)
theorem rowsZ_inR {cs cm : Nat → Nat → Bool} {j : Nat} : ∀ n, (∀ k i, k < n → i ≤ j → cs k i = true → cm k i = true) → (rowsZ cs cm n j).1 ≤ (rowsZ cs cm n j).2
 | 0, _ => by simp [rowsZ]
 | n + 1, h => by
  have h1 := rowsZ_inR (j := j) n (fun k i hk hi => h k i (by omega) hi)
  have a := oneB_leR (anyB_leR (c := cs n) (c' := cm n) (j := j) (fun i hi => h n i (by omega) hi))
  unfold rowsZ addT
  simp only
  omega
theorem site_all {nb : Bool} {x y z r g st wd : Int} (h : siteE nb x y z r g st wd = 0) : 0 ≤ z ∧ z ≤ 20000 ∧ 1 ≤ r ∧ r ≤ 90 ∧ 1 ≤ g ∧ g ≤ 200 ∧ 50 ≤ st ∧ st ≤ 2000 ∧ 0 ≤ wd ∧ wd ≤ 8 := by
 unfold siteE at h
 split at h
 · omega
 ·
  split at h
  ·
   rename_i hh
   simp only [Bool.and_eq_true, winB, decide_eq_true_eq] at hh
   omega
  · omega
def rowB (gl : List (Int × Int)) (sx sy r z st wd t ray elo ehi gx gy gs wi hi : Int) : Nat → Int × Int :=
 rowsZ (csB (groundZ gl sx sy r st t ray gx gy gs wi hi) z st elo (t - wd)) (cmB (groundZ gl sx sy r st t ray gx gy gs wi hi) z st ehi (t - wd)) (2 * wd + 1).toNat
theorem rowB_ok {gl : List (Int × Int)} {sx sy r z st wd t ray elo ehi gx gy gs wi hi : Int} {n : Nat} {j : Nat} (hn : gl.length = n) (hfe : fieldE (gridE gx gy gs wi hi) n wi hi gl 20000 = 0) (he : okE elo ehi = true) (ht : 0 ≤ t ∧ t ≤ 256) (hst : 50 ≤ st ∧ st ≤ 2000) (hwd : 0 ≤ wd ∧ wd ≤ 8) (hj : j ≤ 199) :
  0 ≤ (rowB gl sx sy r z st wd t ray elo ehi gx gy gs wi hi j).1 ∧ (rowB gl sx sy r z st wd t ray elo ehi gx gy gs wi hi j).1 ≤ (rowB gl sx sy r z st wd t ray elo ehi gx gy gs wi hi j).2 ∧ (rowB gl sx sy r z st wd t ray elo ehi gx gy gs wi hi j).2 ≤ 2 * wd + 1 := by
 unfold rowB
 have bd := rowsZ_bd (cs := csB (groundZ gl sx sy r st t ray gx gy gs wi hi) z st elo (t - wd)) (cm := cmB (groundZ gl sx sy r st t ray gx gy gs wi hi) z st ehi (t - wd)) (2 * wd + 1).toNat j
 have hc : (((2 * wd + 1).toNat : Nat) : Int) = 2 * wd + 1 := by omega
 rw [hc] at bd
 obtain ⟨e1, e2, e3⟩ := okE_iff he
 refine ⟨bd.1, rowsZ_inR _ ?_, bd.2.2.2⟩
 intro k i hk hik hcs
 have hge : gridE gx gy gs wi hi = 0 ∧ (n : Int) = wi * hi ∧ gl.all (okS 20000) = true := by
  unfold fieldE at hfe
  split at hfe
  · omega
  ·
   rename_i h0
   split at hfe
   · omega
   ·
    rename_i h1
    split at hfe
    · rename_i h2; exact ⟨by omega, by omega, h2⟩
    · omega
 have hgr := gridE_ok hge.1
 obtain ⟨g1, g2, g3⟩ := groundZ_ok (sx := sx) (sy := sy) (ro := r) (st := st) (t := t) (ray := ray) (gx := gx) (gy := gy) (j := i) hn hge.2.1 (by omega : 1 ≤ gs) (by omega) (by omega) (by omega) hge.2.2
 have hm := rise_meet (z := z) (st := st) (gate := i) (a := t - wd + k) (b := t - wd + k) (e := elo) (e' := ehi) (by omega) (Int.le_refl _) (by omega) (by omega) (by omega) (by omega) (by omega) e1 e2
 unfold csB at hcs
 have := of_decide_eq_true hcs
 exact decide_eq_true (by omega)
def bandZ (z st wd t elo ehi : Int) (j : Nat) : Int × Int := (riseD z st j (t - wd) ehi, riseU z st j (t + wd) elo)
theorem band_le {z st wd t elo ehi : Int} {j : Nat} (he : okE elo ehi = true) (ht : 0 ≤ t ∧ t ≤ 256) (hst : 50 ≤ st ∧ st ≤ 2000) (hwd : 0 ≤ wd ∧ wd ≤ 8) (hj : j ≤ 199) : (bandZ z st wd t elo ehi j).1 ≤ (bandZ z st wd t elo ehi j).2 := by
 obtain ⟨e1, e2, e3⟩ := okE_iff he
 exact rise_meet (by omega) (by omega) (by omega) (by omega) (by omega) (by omega) (by omega) e1 e2
theorem band_at {t z g st wd elo ehi : Int} {j : Nat} (he : okE elo ehi = true) (ht : 0 ≤ t ∧ t ≤ 256) (hj : (j : Int) < g) : bandR 0 t j z g st wd elo ehi = (bandZ z st wd t elo ehi j, 0) := by
 unfold bandR
 rw [if_neg (by omega), he, show winB t 0 256 = true from winB_iff.2 ht, show winB (j : Int) 0 (g - 1) = true from winB_iff.2 ⟨by omega, by omega⟩]
 rfl
theorem facS_ok {a0 a1 b0 b1 c0 c1 x y : Int} (ha : a0 ≤ a1) (hx : x ≤ y) (hb : 0 ≤ b0 ∧ b0 ≤ b1 ∧ b1 ≤ 100000) (hc : 0 ≤ c0 ∧ c0 ≤ c1 ∧ c1 ≤ 100000) : FacOk (facS (a0, a1) (b0, b1) (c0, c1) (x, y)) := by
 unfold FacOk facS
 by_cases m1 : x < a0 <;> by_cases m3 : a1 < y
 all_goals
  by_cases m2 : max x a0 ≤ min y a1
  all_goals
   simp only [met1, met2, met3, meetF, m1, m2, m3, decide_true, decide_false, if_true, if_false, Bool.false_eq_true]
   omega
theorem echE_power {x : Ech} (h : echE x = 0) : okM (x.p1, x.p2) = true := by
 unfold echE at h
 have key : spi x.p1 x.p2 0 1073741824 = true := by
  split at h
  ·
   split at h
   · rename_i hh; simp only [Bool.and_eq_true] at hh; exact hh.1
   · omega
  ·
   split at h
   ·
    split at h
    · rename_i hh; simp only [Bool.and_eq_true] at hh; exact hh.1.1
    · omega
   ·
    split at h
    ·
     split at h
     · rename_i hh; simp only [Bool.and_eq_true] at hh; exact hh.1.1
     · omega
    · omega
 unfold spi at key
 simp only [Bool.and_eq_true, decide_eq_true_eq] at key
 exact decide_eq_true (by simp only; omega)
theorem firstN_zero {f : Nat → Int} : ∀ {k n : Nat}, firstN f k n = 0 → ∀ i, i < n → f (k + i) = 0
 | k, 0, _, i, hi => absurd hi (by omega)
 | k, n + 1, h, i, hi => by
  rw [firstN] at h
  split at h
  · rename_i h0; exact absurd h h0
  ·
   rename_i h0
   cases i with
   | zero => simpa using h0
   | succ i => have := firstN_zero h i (by omega); rw [show k + (i + 1) = k + 1 + i by omega]; exact this
theorem sweep_ok {se tilt time r g : Int} {n : Nat} {rr : Nat → Ray1} (h : sweepE se tilt time r g n rr = 0) : se = 0 ∧ (0 ≤ tilt ∧ tilt ≤ 256) ∧ (n : Int) = 4 * r ∧ (∀ i, i < n → ((rr i).n : Int) = g) ∧ ∀ i, i < n → ∀ j, j < (rr i).n → okM (((rr i).e j).p1, ((rr i).e j).p2) = true := by
 unfold sweepE at h
 split at h
 · rename_i h0; exact absurd h h0
 ·
  rename_i h0
  split at h
  · omega
  ·
   rename_i h1
   split at h
   · omega
   ·
    rename_i h2
    split at h
    · omega
    ·
     rename_i h3
     have h1' : (win tilt 0 256 && win time 0 4294967296) = true := by simpa using h1
     have h3' : shapeB n (fun i => (rr i).n) g = true := by simpa using h3
     rw [Bool.and_eq_true] at h1'
     refine ⟨by omega, win_iff.1 h1'.1, by omega, fun i hi => ?_, fun i hi j hj => echE_power ?_⟩
     ·
      have := List.all_eq_true.1 h3' i (List.mem_range.2 hi)
      simpa using this
     ·
      have h5 := firstN_zero h i hi
      rw [Nat.zero_add] at h5
      have := firstN_zero h5 j hj
      rw [Nat.zero_add] at this
      exact this
theorem model_ok {l rt : List (Int × Int)} {a0 a1 b0 b1 c0 c1 : Int} (h : chkModel l rt (a0, a1) (b0, b1) (c0, c1) = 0) : chk l 32768 = 0 ∧ chk rt 1000000 = 0 ∧ a0 ≤ a1 ∧ (0 ≤ b0 ∧ b0 ≤ b1 ∧ b1 ≤ 100000) ∧ (0 ≤ c0 ∧ c0 ≤ c1 ∧ c1 ≤ 100000) := by
 unfold chkModel at h
 split at h
 · rename_i h0; exact absurd h h0
 ·
  rename_i h0
  split at h
  · rename_i h1; exact absurd h h1
  ·
   rename_i h1
   split at h
   · omega
   ·
    rename_i h2
    have h2' : (ins a0 a1 20000 && ins b0 b1 100000 && ins c0 c1 100000) = true := by
     cases hq : (ins a0 a1 20000 && ins b0 b1 100000 && ins c0 c1 100000) with
     | true => rfl
     | false => exact absurd hq h2
    simp only [Bool.and_eq_true, ins, decide_eq_true_eq] at h2'
    omega
theorem block_ok {se fe t elo ehi ray r : Int} (h : blockE se fe t elo ehi ray r = 0) : se = 0 ∧ fe = 0 ∧ okE elo ehi = true ∧ 0 ≤ ray ∧ ray < 4 * r := by
 unfold blockE at h
 split at h
 · rename_i h0; exact absurd h h0
 ·
  rename_i h0
  split at h
  · rename_i h1; exact absurd h h1
  ·
   rename_i h1
   split at h
   ·
    rename_i h2
    simp only [Bool.and_eq_true] at h2
    have := winB_iff.1 h2.2
    exact ⟨by omega, by omega, h2.1.2, by omega, by omega⟩
   · omega
def powL (x : Ray1) (k : Nat) : List (Int × Int) := (List.range k).map fun j => ((x.e j).p1, (x.e j).p2)
theorem powL_length (x : Ray1) (k : Nat) : (powL x k).length = k := by simp [powL]
theorem powL_get {x : Ray1} {k j : Nat} (h : j < k) : (powL x k).getD j (0, 0) = ((x.e j).p1, (x.e j).p2) := by simp [powL, List.getD, h]
theorem powL_succ (x : Ray1) (k : Nat) : powL x (k + 1) = powL x k ++ [((x.e k).p1, (x.e k).p2)] := by simp [powL, List.range_succ]
end Go.Proofs.Ytepgpihobmjbdaa
end
section
namespace Go.Proofs.Ytepgpihobmjbdaa
open Go.RowKit
def readyE (mE swE blE : Int) : Int := if mE ≠ 0 then mE else if swE ≠ 0 then swE else blE
def mdlC (A : Option Addr) (n c : Nat) (Ar : Option Addr) (nr cr : Nat) (a0 a1 b0 b1 c0 c1 : Int) : Array Value := #[.slice A n c, .slice Ar nr cr, .int .i64 a0, .int .i64 a1, .int .i64 b0, .int .i64 b1, .int .i64 c0, .int .i64 c1]
def fldC (gx gy gs wi hi : Int) (Ag : Option Addr) (ng cg : Nat) : Array Value := #[.int .i64 gx, .int .i64 gy, .int .i64 gs, .int .i64 wi, .int .i64 hi, .slice Ag ng cg]
def allE (s : ByteArray) (sx sy z r g st wd tilt time elo ehi gx gy gs wi hi ray : Int) (l rt gl : List (Int × Int)) (a0 a1 b0 b1 c0 c1 : Int) (n ng : Nat) (rr : Nat → Ray1) : Int :=
 readyE (chkModel l rt (a0, a1) (b0, b1) (c0, c1)) (sweepE (siteE (nameB s) sx sy z r g st wd) tilt time r g n rr) (blockE (siteE (nameB s) sx sy z r g st wd) (fieldE (gridE gx gy gs wi hi) ng wi hi gl 20000) tilt elo ehi ray r)
set_option maxHeartbeats 4000000 in
set_option maxRecDepth 100000 in
theorem checked_any (s : ByteArray) (sx sy z r g st wd tilt time elo ehi gx gy gs wi hi ray : Int) (l rt gl : List (Int × Int)) (a0 a1 b0 b1 c0 c1 : Int) (n ng : Nat) (rr : Nat → Ray1) (A : Option Addr) (nl cl : Nat) (Ar : Option Addr) (nr cr : Nat) (As : Option Addr) (cs : Nat) (Ag : Option Addr) (cg : Nat) (w : World)
  (hs : s.size ≤ 9223372036854775807) (hn : l.length = nl) (hmax : nl ≤ 9223372036854775807) (hnr : rt.length = nr) (hmaxr : nr ≤ 9223372036854775807) (hng : gl.length = ng) (hmaxg : ng ≤ 9223372036854775807) (hns : n ≤ maxLen)
  (hl : Ints w w.heap.size .i64 A (flat2 l)) (hlr : Ints w w.heap.size .i64 Ar (flat2 rt)) (hlg : Ints w w.heap.size .i64 Ag (flat2Q gl)) (hrs : RaysAt w w.heap.size As n rr) :
  Calls Try.prog 33 #[.agg (mdlC A nl cl Ar nr cr a0 a1 b0 b1 c0 c1), .agg (sweepC s sx sy z r g st wd tilt time As n cs), .agg #[.int .i64 elo, .int .i64 ehi], .agg (fldC gx gy gs wi hi Ag ng cg), .int .i64 ray] w fun e w' => e = .returned (.int .i64 (allE s sx sy z r g st wd tilt time elo ehi gx gy gs wi hi ray l rt gl a0 a1 b0 b1 c0 c1 n ng rr)) ∧ Below w.heap.size w w' := by
 have cM := fun (W : World) (h1 : Ints W W.heap.size .i64 A (flat2 l)) (h2 : Ints W W.heap.size .i64 Ar (flat2 rt)) => CheckModel_any A nl cl l Ar nr cr rt (a0, a1) (b0, b1) (c0, c1) W hn hmax hnr hmaxr h1 h2
 have cS := fun (W : World) (h1 : RaysAt W W.heap.size As n rr) => CheckSweep_any s sx sy z r g st wd tilt time As n cs rr W hs hns h1
 have cB := fun (W : World) (h1 : Ints W W.heap.size .i64 Ag (flat2Q gl)) => Blocked_any s sx sy z r g st wd tilt elo ehi gx gy gs wi hi Ag ng cg gl ray W hs hng hmaxg h1
 unfold allE readyE
 unfold BlockPost at cB
 unfold mdlV at cM
 unfold siteV fieldV at cB
 unfold sweepC at cS ⊢
 unfold mdlC fldC
 generalize chkModel l rt (a0, a1) (b0, b1) (c0, c1) = mE at *
 generalize blockE (siteE (nameB s) sx sy z r g st wd) (fieldE (gridE gx gy gs wi hi) ng wi hi gl 20000) tilt elo ehi ray r = bE at *
 generalize sweepE (siteE (nameB s) sx sy z r g st wd) tilt time r g n rr = sE at *
 simp only at cM
 obtain ⟨nB, hnB⟩ : ∃ q, (if bE = 0 then g.toNat else 0) = q := ⟨_, rfl⟩
 simp only [hnB] at cB
 clear hnB
 have CM := hide cM
 have CS := hide cS
 have CB := hide cB
 have Hl := hide hl
 have Hlr := hide hlr
 have Hlg := hide hlg
 have Hrs := hide hrs
 clear cM cS cB hl hlr hlg hrs
 clear hn hmax hnr hmaxr hng hmaxg hns hs
 by_cases hm : mE = 0
 ·
  subst hm
  rw [if_neg (by simp)]
  by_cases hsw : sE = 0
  ·
   subst hsw
   rw [if_neg (by simp)]
   go_enter Try.func33, Try.ntmps33
   have HB := hide (Below.refl w.heap.size w)
   go_wp2_with fail
   refine at_world fun W hW => ?_
   have bq0 : Blk W w.heap.size 26 #[.slice A nl cl, .slice Ar nr cr, .int .i64 a0, .int .i64 a1, .int .i64 b0, .int .i64 b1, .int .i64 c0, .int .i64 c1] := by rw [hW]; exact (((Blk.new _ _ _).alloc _).alloc _).alloc _
   have bq1 : Blk W (w.heap.size + 1) 53 #[.string s, .int .i64 sx, .int .i64 sy, .int .i64 z, .int .i64 r, .int .i64 g, .int .i64 st, .int .i64 wd, .int .i64 tilt, .int .i64 time, .slice As n cs] := by rw [hW]; exact ((blk_new_at (by simp)).alloc _).alloc _
   have bq2 : Blk W (w.heap.size + 2) 24 #[.int .i64 elo, .int .i64 ehi] := by rw [hW]; exact (blk_new_at (by simp)).alloc _
   have bq3 : Blk W (w.heap.size + 3) 33 #[.int .i64 gx, .int .i64 gy, .int .i64 gs, .int .i64 wi, .int .i64 hi, .slice Ag ng cg] := by rw [hW]; exact blk_new_at (by simp)
   have LW : Later w W := by rw [hW]; exact (((((Below.refl _ _).alloc (Nat.le_refl _) _).alloc (by simp; try omega) _).alloc (by simp; try omega) _).alloc (by simp; try omega) _)
   have szW : W.heap.size = w.heap.size + 4 := by rw [hW]; simp
   clear hW
   replace HB := hide (onward HB.out LW)
   have Hm := hide bq0
   have Hsw := hide bq1
   have He := hide bq2
   have Hf := hide bq3
   clear bq0 bq1 bq2 bq3 LW szW
   refine (CM.out _ ((Hl.out.below HB.out).more HB.out.size) ((Hlr.out.below HB.out).more HB.out.size)).mono ?_
   rintro e w1 ⟨rfl, hb⟩
   replace HB := hide (onward HB.out hb)
   replace Hm := hide (blk_later Hm.out hb)
   replace Hsw := hide (blk_later Hsw.out hb)
   replace He := hide (blk_later He.out hb)
   replace Hf := hide (blk_later Hf.out hb)
   clear hb
   have x0 := Hsw.out.c 0 rfl
   have x1 := Hsw.out.c 1 rfl
   have x2 := Hsw.out.c 2 rfl
   have x3 := Hsw.out.c 3 rfl
   have x4 := Hsw.out.c 4 rfl
   have x5 := Hsw.out.c 5 rfl
   have x6 := Hsw.out.c 6 rfl
   have x7 := Hsw.out.c 7 rfl
   have x8 := Hsw.out.c 8 rfl
   have x9 := Hsw.out.c 9 rfl
   have x10 := Hsw.out.c 10 rfl
   have ltx := Hsw.out.lt
   go_wp2_with fail
   refine (CS.out _ ((Hrs.out.below HB.out).more HB.out.size)).mono ?_
   rintro e w2 ⟨rfl, hb⟩
   replace HB := hide (onward HB.out hb)
   replace Hm := hide (blk_later Hm.out hb)
   replace Hsw := hide (blk_later Hsw.out hb)
   replace He := hide (blk_later He.out hb)
   replace Hf := hide (blk_later Hf.out hb)
   clear hb x0 x1 x2 x3 x4 x5 x6 x7 x8 x9 x10 ltx
   have x0 := Hsw.out.c 0 rfl
   have x1 := Hsw.out.c 1 rfl
   have x2 := Hsw.out.c 2 rfl
   have x3 := Hsw.out.c 3 rfl
   have x4 := Hsw.out.c 4 rfl
   have x5 := Hsw.out.c 5 rfl
   have x6 := Hsw.out.c 6 rfl
   have x7 := Hsw.out.c 7 rfl
   have x8 := Hsw.out.c 8 rfl
   have x9 := Hsw.out.c 9 rfl
   have x10 := Hsw.out.c 10 rfl
   have ltx := Hsw.out.lt
   obtain ⟨y0, y1⟩ := He.out.c2
   have lty := He.out.lt
   obtain ⟨z0, z1, z2, z3, z4, z5⟩ := Hf.out.c6
   have ltz := Hf.out.lt
   go_wp2_with fail
   refine (CB.out _ ((Hlg.out.below HB.out).more HB.out.size)).mono ?_
   rintro e w3 ⟨A1, c1', rfl, hb, hi1⟩
   replace HB := hide (onward HB.out hb)
   replace Hm := hide (blk_later Hm.out hb)
   replace Hsw := hide (blk_later Hsw.out hb)
   replace He := hide (blk_later He.out hb)
   replace Hf := hide (blk_later Hf.out hb)
   clear hb x0 x1 x2 x3 x4 x5 x6 x7 x8 x9 x10 ltx y0 y1 lty z0 z1 z2 z3 z4 z5 ltz
   clear hi1
   go_wp2
   go_ret
   exact ⟨rfl, HB.out⟩
  ·
   have hd : (sE != 0) = true := by simp [hsw]
   rw [if_pos hsw]
   go_enter Try.func33, Try.ntmps33
   have HB := hide (Below.refl w.heap.size w)
   go_wp2_with fail
   refine at_world fun W hW => ?_
   have bq0 : Blk W w.heap.size 26 #[.slice A nl cl, .slice Ar nr cr, .int .i64 a0, .int .i64 a1, .int .i64 b0, .int .i64 b1, .int .i64 c0, .int .i64 c1] := by rw [hW]; exact (((Blk.new _ _ _).alloc _).alloc _).alloc _
   have bq1 : Blk W (w.heap.size + 1) 53 #[.string s, .int .i64 sx, .int .i64 sy, .int .i64 z, .int .i64 r, .int .i64 g, .int .i64 st, .int .i64 wd, .int .i64 tilt, .int .i64 time, .slice As n cs] := by rw [hW]; exact ((blk_new_at (by simp)).alloc _).alloc _
   have bq2 : Blk W (w.heap.size + 2) 24 #[.int .i64 elo, .int .i64 ehi] := by rw [hW]; exact (blk_new_at (by simp)).alloc _
   have bq3 : Blk W (w.heap.size + 3) 33 #[.int .i64 gx, .int .i64 gy, .int .i64 gs, .int .i64 wi, .int .i64 hi, .slice Ag ng cg] := by rw [hW]; exact blk_new_at (by simp)
   have LW : Later w W := by rw [hW]; exact (((((Below.refl _ _).alloc (Nat.le_refl _) _).alloc (by simp; try omega) _).alloc (by simp; try omega) _).alloc (by simp; try omega) _)
   have szW : W.heap.size = w.heap.size + 4 := by rw [hW]; simp
   clear hW
   replace HB := hide (onward HB.out LW)
   have Hm := hide bq0
   have Hsw := hide bq1
   have He := hide bq2
   have Hf := hide bq3
   clear bq0 bq1 bq2 bq3 LW szW
   refine (CM.out _ ((Hl.out.below HB.out).more HB.out.size) ((Hlr.out.below HB.out).more HB.out.size)).mono ?_
   rintro e w1 ⟨rfl, hb⟩
   replace HB := hide (onward HB.out hb)
   replace Hm := hide (blk_later Hm.out hb)
   replace Hsw := hide (blk_later Hsw.out hb)
   replace He := hide (blk_later He.out hb)
   replace Hf := hide (blk_later Hf.out hb)
   clear hb
   have x0 := Hsw.out.c 0 rfl
   have x1 := Hsw.out.c 1 rfl
   have x2 := Hsw.out.c 2 rfl
   have x3 := Hsw.out.c 3 rfl
   have x4 := Hsw.out.c 4 rfl
   have x5 := Hsw.out.c 5 rfl
   have x6 := Hsw.out.c 6 rfl
   have x7 := Hsw.out.c 7 rfl
   have x8 := Hsw.out.c 8 rfl
   have x9 := Hsw.out.c 9 rfl
   have x10 := Hsw.out.c 10 rfl
   have ltx := Hsw.out.lt
   go_wp2_with fail
   refine (CS.out _ ((Hrs.out.below HB.out).more HB.out.size)).mono ?_
   rintro e w2 ⟨rfl, hb⟩
   replace HB := hide (onward HB.out hb)
   replace Hm := hide (blk_later Hm.out hb)
   replace Hsw := hide (blk_later Hsw.out hb)
   replace He := hide (blk_later He.out hb)
   replace Hf := hide (blk_later Hf.out hb)
   clear hb x0 x1 x2 x3 x4 x5 x6 x7 x8 x9 x10 ltx
   go_wp2
   go_ret
   exact ⟨rfl, HB.out⟩
 ·
  have hd : (mE != 0) = true := by simp [hm]
  rw [if_pos hm]
  go_enter Try.func33, Try.ntmps33
  have HB := hide (Below.refl w.heap.size w)
  go_wp2_with fail
  refine at_world fun W hW => ?_
  have bq0 : Blk W w.heap.size 26 #[.slice A nl cl, .slice Ar nr cr, .int .i64 a0, .int .i64 a1, .int .i64 b0, .int .i64 b1, .int .i64 c0, .int .i64 c1] := by rw [hW]; exact (((Blk.new _ _ _).alloc _).alloc _).alloc _
  have bq1 : Blk W (w.heap.size + 1) 53 #[.string s, .int .i64 sx, .int .i64 sy, .int .i64 z, .int .i64 r, .int .i64 g, .int .i64 st, .int .i64 wd, .int .i64 tilt, .int .i64 time, .slice As n cs] := by rw [hW]; exact ((blk_new_at (by simp)).alloc _).alloc _
  have bq2 : Blk W (w.heap.size + 2) 24 #[.int .i64 elo, .int .i64 ehi] := by rw [hW]; exact (blk_new_at (by simp)).alloc _
  have bq3 : Blk W (w.heap.size + 3) 33 #[.int .i64 gx, .int .i64 gy, .int .i64 gs, .int .i64 wi, .int .i64 hi, .slice Ag ng cg] := by rw [hW]; exact blk_new_at (by simp)
  have LW : Later w W := by rw [hW]; exact (((((Below.refl _ _).alloc (Nat.le_refl _) _).alloc (by simp; try omega) _).alloc (by simp; try omega) _).alloc (by simp; try omega) _)
  have szW : W.heap.size = w.heap.size + 4 := by rw [hW]; simp
  clear hW
  replace HB := hide (onward HB.out LW)
  have Hm := hide bq0
  have Hsw := hide bq1
  have He := hide bq2
  have Hf := hide bq3
  clear bq0 bq1 bq2 bq3 LW szW
  refine (CM.out _ ((Hl.out.below HB.out).more HB.out.size) ((Hlr.out.below HB.out).more HB.out.size)).mono ?_
  rintro e w1 ⟨rfl, hb⟩
  replace HB := hide (onward HB.out hb)
  replace Hm := hide (blk_later Hm.out hb)
  replace Hsw := hide (blk_later Hsw.out hb)
  replace He := hide (blk_later He.out hb)
  replace Hf := hide (blk_later Hf.out hb)
  clear hb
  go_wp2
  go_ret
  exact ⟨rfl, HB.out⟩
end Go.Proofs.Ytepgpihobmjbdaa
end
section
namespace Go.Proofs.Ytepgpihobmjbdaa
open Go Go.RowKit Go.ChangeShapes Go.WideShapes Go.Deep
section
variable {H : Type} {enc : TypeId × Value → H} {w : World} {base : Nat} {spare : Nat → Bool} {held : Bool}
theorem read_fieldR {P : Program} {t : TypeId} {fs : Array Field} {n : Nat} {cs : List Value} {y : DataW H × List MemPlace} (ht : P.underlying t = some (.struct fs)) (h : DataW.trod enc P w base spare held n t cs = some y) :
  cs.length = P.cellsOf t ∧ ∀ (i : Nat) (ft off sz : Nat), (fs[i]?.map fun f => (f.type, f.offset)) = some (ft, off) → P.cellsOf ft = sz → ∃ m z, DataW.trod enc P w base spare held m ft ((cs.drop off).take sz) = some z := by
 obtain ⟨xs, m, _, _, hlen, hxs, hg⟩ := DataW.trod_struct ht h
 refine ⟨hlen, fun i ft off sz hi hsz => ?_⟩
 cases hfi : fs[i]? with
 | none => rw [hfi] at hi; cases hi
 | some f =>
  rw [hfi] at hi
  have e : (f.type, f.offset) = (ft, off) := by simpa using hi
  have h1 := hg i f hfi
  have hil : i < xs.length := by rw [hxs]; exact (Array.getElem?_eq_some_iff.1 hfi).1
  rw [List.getElem?_eq_getElem hil] at h1
  injection e with e1 e2
  subst e1 e2 hsz
  exact ⟨_, _, h1⟩
instance : Inhabited Ech := ⟨⟨0, 0, 0, 0, 0, 0, 0, 0, 0, 0, 0, 0, 0, 0⟩⟩
instance : Inhabited Ray1 := ⟨⟨none, 0, 0, fun _ => default⟩⟩
theorem read_int {n : Nat} {cs : List Value} {y : DataW H × List MemPlace} (h : DataW.trod enc Try.prog w base spare held n 3 cs = some y) : ∃ a : Int, cs = [.int .i64 a] ∧ (Lit.int .i64 a).wf = true := by
 obtain ⟨a, e0, _, wa⟩ := DataW.trod_int Try.underlying3 h
 exact ⟨a, e0, wa⟩
theorem read_site {n : Nat} {cs : List Value} {y : DataW H × List MemPlace} (h : DataW.trod enc Try.prog w base spare held n 28 cs = some y) :
  ∃ (s : ByteArray) (a1 a2 a3 a4 a5 a6 a7 : Int), cs = [.string s, .int .i64 a1, .int .i64 a2, .int .i64 a3, .int .i64 a4, .int .i64 a5, .int .i64 a6, .int .i64 a7] ∧ s.size ≤ maxLen ∧ (Lit.int .i64 a1).wf = true ∧ (Lit.int .i64 a2).wf = true ∧ (Lit.int .i64 a3).wf = true ∧ (Lit.int .i64 a4).wf = true ∧ (Lit.int .i64 a5).wf = true ∧ (Lit.int .i64 a6).wf = true ∧ (Lit.int .i64 a7).wf = true := by
 obtain ⟨hlen, hg⟩ := read_fieldR Try.underlying28 h
 have e8 : Try.prog.cellsOf 28 = 8 := by kernel_rfl
 have e1 : Try.prog.cellsOf 3 = 1 := by kernel_rfl
 have e0 : Try.prog.cellsOf 9 = 1 := by kernel_rfl
 rw [e8] at hlen
 obtain ⟨q0, q1, q2, q3, q4, q5, q6, q7, rfl⟩ := list8 hlen
 obtain ⟨_, _, g0⟩ := hg 0 9 0 1 rfl e0
 obtain ⟨_, _, g1⟩ := hg 1 3 1 1 rfl e1
 obtain ⟨_, _, g2⟩ := hg 2 3 2 1 rfl e1
 obtain ⟨_, _, g3⟩ := hg 3 3 3 1 rfl e1
 obtain ⟨_, _, g4⟩ := hg 4 3 4 1 rfl e1
 obtain ⟨_, _, g5⟩ := hg 5 3 5 1 rfl e1
 obtain ⟨_, _, g6⟩ := hg 6 3 6 1 rfl e1
 obtain ⟨_, _, g7⟩ := hg 7 3 7 1 rfl e1
 simp only [List.drop_zero, List.drop_succ_cons, List.take_succ_cons, List.take_zero] at g0 g1 g2 g3 g4 g5 g6 g7
 obtain ⟨s, k0, _, ws⟩ := DataW.trod_string Try.underlying9 g0
 obtain ⟨a1, k1, w1⟩ := read_int g1
 obtain ⟨a2, k2, w2⟩ := read_int g2
 obtain ⟨a3, k3, w3⟩ := read_int g3
 obtain ⟨a4, k4, w4⟩ := read_int g4
 obtain ⟨a5, k5, w5⟩ := read_int g5
 obtain ⟨a6, k6, w6⟩ := read_int g6
 obtain ⟨a7, k7, w7⟩ := read_int g7
 simp at k0 k1 k2 k3 k4 k5 k6 k7
 subst k0 k1 k2 k3 k4 k5 k6 k7
 exact ⟨s, a1, a2, a3, a4, a5, a6, a7, rfl, ws, w1, w2, w3, w4, w5, w6, w7⟩
theorem aiGridR : AllInts Try.prog 30 .i64 5 := allInts_struct Try.underlying30 (by kernel_rfl) (fun c hc => by
 match c, hc with
 | 0, _ => exact ⟨0, _, 1, rfl, aiInt, by simp, by simp⟩
 | 1, _ => exact ⟨1, _, 1, rfl, aiInt, by simp, by simp⟩
 | 2, _ => exact ⟨2, _, 1, rfl, aiInt, by simp, by simp⟩
 | 3, _ => exact ⟨3, _, 1, rfl, aiInt, by simp, by simp⟩
 | 4, _ => exact ⟨4, _, 1, rfl, aiInt, by simp, by simp⟩)
theorem list5 {α : Type} {l : List α} (h : l.length = 5) : ∃ x0 x1 x2 x3 x4, l = [x0, x1, x2, x3, x4] := by
 obtain ⟨x0, l0, rfl, h0⟩ := list1 h
 obtain ⟨x1, l1, rfl, h1⟩ := list1 h0
 obtain ⟨x2, l2, rfl, h2⟩ := list1 h1
 obtain ⟨x3, l3, rfl, h3⟩ := list1 h2
 obtain ⟨x4, l4, rfl, h4⟩ := list1 h3
 obtain rfl := List.eq_nil_of_length_eq_zero h4
 exact ⟨x0, x1, x2, x3, x4, rfl⟩
set_option maxRecDepth 100000 in
theorem open_field {r : Reach} {b0 : Nat} {v : Value} {d : DataW H} {ps : List MemPlace} (hv : Value.okWide Try.prog w r b0 33 v) (h : DataW.Trod enc Try.prog w base spare held 33 v d ps) :
  ∃ (a0 a1 a2 a3 a4 : Int) (A : Option Addr) (n c : Nat) (l : List (Int × Int)), v = .agg (fldC a0 a1 a2 a3 a4 A n c) ∧ l.length = n ∧ n ≤ maxLen ∧ Ints w w.heap.size .i64 A (flat2 l) := by
 obtain ⟨cs, rfl, hsz⟩ := okWide_struct Try.underlying33 hv
 obtain ⟨fuel, hf⟩ := h
 simp only [Value.cells] at hf
 obtain ⟨hlen, hg⟩ := read_fieldR Try.underlying33 hf
 have e6 : Try.prog.cellsOf 33 = 6 := by kernel_rfl
 have e5 : Try.prog.cellsOf 30 = 5 := by kernel_rfl
 have e1 : Try.prog.cellsOf 31 = 1 := by kernel_rfl
 rw [e6] at hlen
 obtain ⟨q0, L0, hq, hL⟩ := list1 hlen
 obtain ⟨q1, q2, q3, q4, q5, rfl⟩ := list5 hL
 have hcs : cs = #[q0, q1, q2, q3, q4, q5] := by rw [← Array.toArray_toList (xs := cs), hq]
 subst hcs
 simp only at hg
 obtain ⟨_, _, g0⟩ := hg 0 30 0 5 rfl e5
 obtain ⟨_, _, g1⟩ := hg 1 31 5 1 rfl e1
 simp only [List.drop_zero, List.drop_succ_cons, List.take_succ_cons, List.take_zero] at g0 g1
 obtain ⟨zs, k0, k1, -⟩ := aiGridR.2 _ _ _ _ _ _ _ _ _ g0
 obtain ⟨A, len, cap, ys, j0, j1, j2, j3, -⟩ := read_slice Try.underlying31 aiSpan (by decide) g1
 obtain ⟨l, l1, l2⟩ := unflat2 len ys j1
 obtain ⟨a0, a1, a2, a3, a4, rfl⟩ := list5 k1
 simp at k0 j0
 obtain ⟨rfl, rfl, rfl, rfl, rfl⟩ := k0
 subst j0
 exact ⟨a0, a1, a2, a3, a4, A, len, cap, l, rfl, l2, j2, by rw [l1]; exact j3⟩
end
end Go.Proofs.Ytepgpihobmjbdaa
end
