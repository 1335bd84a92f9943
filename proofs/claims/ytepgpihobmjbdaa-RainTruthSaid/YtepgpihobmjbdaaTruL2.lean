/-
  The rates of a ray: rain's rates.
  The functions of RainTruth: nth, kindly.
  RainTruth: a sweep in which one ray has powers.
  RainTruth: its first loop (the powers aloft).
  RainTruth: its second loop (what is measured).
-/
import Derived.Test.YtepgpihobmjbdaaRtOpenR
import Derived.Test.YtepgpihobmjbdaaRegJ
import Derived.Test.YtepgpihobmjbdaaRtRrBands
import Derived.Test.YtepgpihobmjbdaaTruM
import Derived.Test.YtepgpihobmjbdaaMemG
set_option linter.unusedSimpArgs false
set_option linter.unusedVariables false
section
namespace Go.Proofs.Ytepgpihobmjbdaa
open Go.RowKit
def PassF (w : World) (F : Nat → Prop) (base : Nat) (A : Option Addr) (cs : Array Value) : Prop := ∃ g, A = some ⟨g + 1, 0, none⟩ ∧ base ≤ g ∧ F g ∧ F (g + 1) ∧ Blk w g 22 cs ∧ Blk w (g + 1) 81 #[.int .i64 1073741824, .int .i64 1073741824, lossF g]
theorem PassF.stab {w w' : World} {F : Nat → Prop} {base : Nat} {A : Option Addr} {cs : Array Value} (h : PassF w F base A cs) (hk : ∀ k, F k → w'.heap[k]? = w.heap[k]?) : PassF w' F base A cs := by
 obtain ⟨g, h1, h2, h3, h4, h5, h6⟩ := h
 exact ⟨g, h1, h2, h3, h4, (hk g h3).trans h5, (hk _ h4).trans h6⟩
theorem blk_full1 {w : World} {base : Nat} {e : TypeId} {g n : Nat} {cs : Array Value} (h : w.ownsRow base e 1 (.slice (some ⟨g, 0, none⟩) n n) n cs.toList) : Blk w g e cs := by
 obtain ⟨hl, hr | ⟨g', cap, cur, hv, hb, hh, h1, h2, h3, h4⟩⟩ := h
 · cases hr.1
 ·
  injection hv with e1 e2 e3
  injection e1 with e1
  injection e1 with e1 _ _
  subst e1 e3
  rw [List.take_of_length_le (by rw [Array.length_toList, h3]; exact Nat.le_refl _)] at h4
  have : cur = cs := Array.toList_inj.1 h4
  subst this
  exact hh
theorem blk_full4 {w : World} {base : Nat} {e : TypeId} {A : Option Addr} {c : Nat} {cs : Array Value} (h : w.ownsRow base e 1 (.slice A 4 4) 4 cs.toList) : ∃ g, A = some ⟨g, 0, none⟩ ∧ base ≤ g ∧ Blk w g e cs := by
 rcases h.2 with hr | ⟨g', cap, cur, hv, hb, -⟩
 · have := hr.2; omega
 ·
  injection hv with e1 e2 e3
  subst e1
  exact ⟨g', rfl, hb, blk_full1 h⟩
theorem RaysAt.at_ {w : World} {B n k : Nat} {A : Option Addr} {rr : Nat → Ray1} (h : RaysAt w B A n rr) (hk : k < n) : ∃ b off, A = some ⟨b, off, none⟩ ∧ b < B ∧ w.cell? ⟨b, off + k, none⟩ = some (.slice (rr k).A (rr k).n (rr k).c) ∧ Rows_ w B (rr k).A (rr k).n 14 (fun j => (echC ((rr k).e j)).toList) := by
 obtain ⟨b, off, e, hb, hc⟩ := h (by omega)
 exact ⟨b, off, e, hb, (hc k hk).1, (hc k hk).2.2⟩
theorem spanCells_rowL (r : Nat → Int × Int) (k : Nat) : spanCells (rowL r (k + 1)) = spanCells (rowL r k) ++ (#[.int .i64 (r k).1, .int .i64 (r k).2] : Array Value).toList := by
 rw [rowL_succ]
 exact (spanCells_snoc _ _ _).symm
theorem spanCells_powL (x : Ray1) (k : Nat) : spanCells (powL x (k + 1)) = spanCells (powL x k) ++ (#[.int .i64 (x.e k).p1, .int .i64 (x.e k).p2] : Array Value).toList := by
 rw [powL_succ]
 exact (spanCells_snoc _ _ _).symm
theorem ints_spans {w : World} {base n c : Nat} {A : Option Addr} {l : List (Int × Int)} (h : w.ownsRow base 24 2 (.slice A n c) n (spanCells l)) : Ints w w.heap.size .i64 A (flat2 l) := Ints.own h rfl (Nat.le_refl _)
theorem ready_ok {mE sE bE : Int} (h : readyE mE sE bE = 0) : mE = 0 ∧ sE = 0 ∧ bE = 0 := by
 unfold readyE at h
 split at h
 · omega
 · split at h <;> omega
def rateL (z r g st wd tilt elo ehi gx gy gs wi hi sx sy ray : Int) (l rt gl : List (Int × Int)) (a0 a1 b0 b1 c0 c1 : Int) (rr : Nat → Ray1) : List (Int × Int) :=
 rayL l rt (a0, a1) (b0, b1) (c0, c1) (rowL (bandZ z st wd tilt elo ehi) g.toNat) (fillsL (powL (rr ray.toNat) g.toNat) (2 * wd + 1) (rowL (rowB gl sx sy r z st wd tilt ray elo ehi gx gy gs wi hi) g.toNat)) g.toNat
set_option maxHeartbeats 8000000 in
set_option maxRecDepth 100000 in
theorem rates_any (s : ByteArray) (sx sy z r g st wd tilt time elo ehi gx gy gs wi hi ray : Int) (l rt gl : List (Int × Int)) (a0 a1 b0 b1 c0 c1 : Int) (n ng : Nat) (rr : Nat → Ray1) (A : Option Addr) (nl cl : Nat) (Ar : Option Addr) (nr cr : Nat) (As : Option Addr) (cs : Nat) (Ag : Option Addr) (cg : Nat) (w : World)
  (hs : s.size ≤ 9223372036854775807) (hn : l.length = nl) (hmax : nl ≤ 9223372036854775807) (hnr : rt.length = nr) (hmaxr : nr ≤ 9223372036854775807) (hng : gl.length = ng) (hmaxg : ng ≤ 9223372036854775807) (hns : n ≤ maxLen)
  (hl : Ints w w.heap.size .i64 A (flat2 l)) (hlr : Ints w w.heap.size .i64 Ar (flat2 rt)) (hlg : Ints w w.heap.size .i64 Ag (flat2Q gl)) (hrs : RaysAt w w.heap.size As n rr)
  (h0 : allE s sx sy z r g st wd tilt time elo ehi gx gy gs wi hi ray l rt gl a0 a1 b0 b1 c0 c1 n ng rr = 0) :
  Calls Try.prog 34 #[.agg (mdlC A nl cl Ar nr cr a0 a1 b0 b1 c0 c1), .agg (sweepC s sx sy z r g st wd tilt time As n cs), .agg #[.int .i64 elo, .int .i64 ehi], .agg (fldC gx gy gs wi hi Ag ng cg), .int .i64 ray] w fun e w' =>
   ∃ v, e = .returned v ∧ w'.ownsRow w.heap.size 24 2 v g.toNat (spanCells (rateL z r g st wd tilt elo ehi gx gy gs wi hi sx sy ray l rt gl a0 a1 b0 b1 c0 c1 rr)) ∧ Below w.heap.size w w' := by
 have cB := fun (W : World) (h1 : Ints W W.heap.size .i64 Ag (flat2Q gl)) => Blocked2_any s sx sy z r g st wd tilt elo ehi gx gy gs wi hi Ag ng cg gl ray W hs hng hmaxg h1
 have cN := fun (j : Nat) (W : World) => Band_any s sx sy z r g st wd tilt elo ehi j W hs
 obtain ⟨hm, hsw, hbl⟩ := ready_ok h0
 obtain ⟨m1, m2, mA, mB, mC⟩ := model_ok hm
 obtain ⟨e0, ⟨t0, t1⟩, n4, hsh, hpw⟩ := sweep_ok hsw
 rw [hbl] at cB
 simp only [e0] at cN
 obtain ⟨-, kf, ke, kr0, kr1⟩ := block_ok hbl
 obtain ⟨z0, z1, r0, r1, g0, g1, s0, s1, w0, w1⟩ := site_all e0
 obtain ⟨G, rfl⟩ : ∃ G : Nat, g = G := ⟨g.toNat, by omega⟩
 obtain ⟨R, rfl⟩ : ∃ R : Nat, ray = R := ⟨ray.toNat, by omega⟩
 have hRn : R < n := by omega
 have hGR : (rr R).n = G := by have := hsh R hRn; omega
 unfold rateL
 simp only [Int.toNat_natCast] at cB ⊢
 have hrow := fun (j : Nat) (hj : j ≤ 199) => rowB_ok (sx := sx) (sy := sy) (r := r) (z := z) (ray := (R : Int)) (j := j) hng kf ke ⟨t0, t1⟩ ⟨s0, s1⟩ ⟨w0, w1⟩ hj
 have cB2 : ∀ W, Ints W W.heap.size .i64 Ag (flat2Q gl) → Calls Try.prog 7 #[siteV s sx sy z r G st wd, .int .i64 tilt, .agg #[.int .i64 elo, .int .i64 ehi], fieldV gx gy gs wi hi Ag ng cg, .int .i64 R] W fun e w' =>
   ∃ A c, e = .returned (.tuple #[.slice A G c, .int .i64 0]) ∧ Below W.heap.size W w' ∧ Ints w' w'.heap.size .i64 A (flat2 (rowL (rowB gl sx sy r z st wd tilt R elo ehi gx gy gs wi hi) G)) := fun W h => (cB W h).mono (by
  rintro e w' ⟨A1, c1, h1, h2, h3⟩
  exact ⟨A1, c1, by rw [h1]; simp, h2, by have := (h3 rfl).1; rw [flat2Q_eq] at this; exact this⟩)
 have cN2 : ∀ (j : Nat) (W : World), j < G → Calls Try.prog 12 #[siteV s sx sy z r G st wd, .int .i64 tilt, .agg #[.int .i64 elo, .int .i64 ehi], .int .i64 j] W fun e w' => e = .returned (.tuple #[.agg #[.int .i64 (bandZ z st wd tilt elo ehi j).1, .int .i64 (bandZ z st wd tilt elo ehi j).2], .int .i64 0]) ∧ Below W.heap.size W w' := fun j W hj => (cN j W).mono (by
  rintro e w' ⟨h1, h2⟩
  rw [band_at ke ⟨t0, t1⟩ (by omega)] at h1
  exact ⟨h1, h2⟩)
 have hok : ∀ k, k < G → okF ((powL (rr R) G).getD k (0, 0)) (2 * wd + 1) ((rowL (rowB gl sx sy r z st wd tilt R elo ehi gx gy gs wi hi) G).getD k (0, 0)) = true := fun k hk => by
  rw [powL_get hk, rowL_get hk]
  have h1 := hpw R hRn k (by omega)
  obtain ⟨h2, h3, h4⟩ := hrow k (by omega)
  unfold okF
  rw [h1, show win (2 * wd + 1) 1 17 = true from win_iff.2 ⟨by omega, by omega⟩]
  simp only [Bool.true_and]
  exact decide_eq_true ⟨h2, h3, h4⟩
 have hfac : ∀ k, k < G → FacOk (facS (a0, a1) (b0, b1) (c0, c1) ((rowL (bandZ z st wd tilt elo ehi) G).getD k (0, 0))) := fun k hk => by
  rw [rowL_get hk]
  have h1 := band_le (z := z) (j := k) ke ⟨t0, t1⟩ ⟨s0, s1⟩ ⟨w0, w1⟩ (by omega)
  generalize bandZ z st wd tilt elo ehi k = uv at h1 ⊢
  obtain ⟨u, v⟩ := uv
  exact facS_ok mA h1 mB mC
 obtain ⟨BL, hBL⟩ : ∃ q, rowL (rowB gl sx sy r z st wd tilt R elo ehi gx gy gs wi hi) G = q := ⟨_, rfl⟩
 have hBLn : BL.length = G := by rw [← hBL]; exact rowL_length
 simp only [hBL] at cB2 hok ⊢
 unfold siteV fieldV at cB2
 unfold siteV at cN2
 unfold sweepC mdlC fldC
 have hT := tab_of m1
 have hTr := tab_of m2
 obtain ⟨b, off, rfl, hb0, hcell, hech⟩ := hrs.at_ hRn
 rw [hGR] at hcell hech
 have hRi : (R : Int) < n := by omega
 have HT := hide hT
 have HTr := hide hTr
 have Hok := hide hok
 have Hfac := hide hfac
 have CB := hide cB2
 have CN := hide cN2
 have Hl := hide hl
 have Hlr := hide hlr
 have Hlg := hide hlg
 have Hech := hide hech
 have Hcell := hide hcell
 have Hn := hide hn
 have Hnr := hide hnr
 clear hT hTr hok hfac cB2 cN2 hl hlr hlg hech hcell hn hnr
 clear cB cN hrow hpw hsh hrs hBL h0 hm hsw hbl e0 m1 m2 mA mB mC kf hGR
 go_enter Try.func34, Try.ntmps34
 have HB := hide (Below.refl w.heap.size w)
 go_wp2_with fail
 refine at_world fun W hW => ?_
 have bq0 : Blk W w.heap.size 26 #[.slice A nl cl, .slice Ar nr cr, .int .i64 a0, .int .i64 a1, .int .i64 b0, .int .i64 b1, .int .i64 c0, .int .i64 c1] := by rw [hW]; exact (((Blk.new _ _ _).alloc _).alloc _).alloc _
 have bq1 : Blk W (w.heap.size + 1) 53 #[.string s, .int .i64 sx, .int .i64 sy, .int .i64 z, .int .i64 r, .int .i64 (G : Int), .int .i64 st, .int .i64 wd, .int .i64 tilt, .int .i64 time, .slice (some ⟨b, off, none⟩) n cs] := by rw [hW]; exact ((blk_new_at (by simp)).alloc _).alloc _
 have bq2 : Blk W (w.heap.size + 2) 24 #[.int .i64 elo, .int .i64 ehi] := by rw [hW]; exact (blk_new_at (by simp)).alloc _
 have bq3 : Blk W (w.heap.size + 3) 33 #[.int .i64 gx, .int .i64 gy, .int .i64 gs, .int .i64 wi, .int .i64 hi, .slice Ag ng cg] := by rw [hW]; exact blk_new_at (by simp)
 have LW : Later w W := by rw [hW]; exact (((((Below.refl _ _).alloc (Nat.le_refl _) _).alloc (by simp; try omega) _).alloc (by simp; try omega) _).alloc (by simp; try omega) _)
 have szW : W.heap.size = w.heap.size + 4 := by rw [hW]; simp
 clear hW
 replace HB := hide (onward HB.out LW)
 have Hm := hide bq0
 have Hsw := hide bq1
 have He := hide bq2
 have Hf := hide bq3
 clear bq0 bq1 bq2 bq3 LW szW
 refine (CB.out _ ((Hlg.out.below HB.out).more HB.out.size)).mono ?_
 rintro e w1 ⟨A1, c1', rfl, hb, hi1⟩
 replace HB := hide (onward HB.out hb)
 replace Hm := hide (blk_later Hm.out hb)
 replace Hsw := hide (blk_later Hsw.out hb)
 replace He := hide (blk_later He.out hb)
 replace Hf := hide (blk_later Hf.out hb)
 clear hb
 have HBL := hide hi1
 have q := Hcell.out
 rw [← HB.out.cell hb0] at q
 have ltb : b < w1.heap.size := Nat.lt_of_lt_of_le hb0 HB.out.size
 clear hi1
 have x0 := Hsw.out.c 0 rfl
 have x1 := Hsw.out.c 1 rfl
 have x2 := Hsw.out.c 2 rfl
 have x3 := Hsw.out.c 3 rfl
 have x4 := Hsw.out.c 4 rfl
 have x5 := Hsw.out.c 5 rfl
 have x6 := Hsw.out.c 6 rfl
 have x7 := Hsw.out.c 7 rfl
 have x8 := Hsw.out.c 8 rfl
 have x9 := Hsw.out.c 9 rfl
 have x10 := Hsw.out.c 10 rfl
 have ltx := Hsw.out.lt
 go_wp2_with fail
 clear q
 clear x0 x1 x2 x3 x4 x5 x6 x7 x8 x9 x10 ltx
 go_loopw [13, 14, 36] (fun p q i wr => ∃ (k : Nat) (Ap : Option Addr) (cp : Nat) (Aq : Option Addr) (cq : Nat), k ≤ G ∧ i = .int .i64 k ∧ p = .slice Ap k cp ∧ q = .slice Aq k cq ∧ wr.ownsRow w1.heap.size 24 2 (.slice Ap k cp) k (spanCells (powL (rr R) k)) ∧ wr.ownsRow w1.heap.size 24 2 (.slice Aq k cq) k (spanCells (rowL (bandZ z st wd tilt elo ehi) k)) ∧ Apart (.slice Ap k cp) (.slice Aq k cq) ∧ Below w1.heap.size w1 wr) (fun _ _ i _ => G - (intOf i).toNat)
 case atStart => exact ⟨0, none, 0, none, 0, by omega, rfl, rfl, rfl, World.ownsRow_nil _ _ _ _, World.ownsRow_nil _ _ _ _, apart_nil _, Below.refl _ _⟩
 case round =>
  obtain ⟨k, Ap, cp, Aq, cq, hk, rfl, rfl, rfl, hp, hq, hap, hL⟩ := hrel
  have hx := blk_belowN Hsw.out hL Hsw.out.lt
  have hee := blk_belowN He.out hL He.out.lt
  have hmm := blk_belowN Hm.out hL Hm.out.lt
  have hBr := HB.out.trans (Below.mono hL HB.out.size)
  have hIB := HBL.out.below hL
  have hszr := hL.size
  clear Hm Hsw He Hf HB HBL
  by_cases hlt : k < G
  ·
   have hlt3 : (k : Int) < G := by omega
   obtain ⟨b1, off1, hB1, hb1, hc1⟩ := Hech.out (by omega)
   have hsp := spanCells_powL (rr R) k
   have hsr := spanCells_rowL (bandZ z st wd tilt elo ehi) k
   have hc2 := fun i v hv => hc1 k hlt i v hv
   have cn := fun W => CN.out k W hlt
   obtain ⟨ee, hee2⟩ : ∃ q, (rr R).e k = q := ⟨_, rfl⟩
   simp only [hee2] at hc2
   rw [hee2] at hsp
   obtain ⟨u, v, huv⟩ : ∃ u v, bandZ z st wd tilt elo ehi k = (u, v) := ⟨_, _, rfl⟩
   rw [huv] at hsr
   simp only [huv] at cn
   simp only at hsr
   obtain ⟨k0, p1, p2, s1', s2, s3, s4, sp, r1', r2, m1, m2, t1', t2⟩ := ee
   unfold echC at hc2
   simp only at hsp
   have q0 := hc2 0 (.int .i64 k0) rfl
   have q1 := hc2 1 (.int .i64 p1) rfl
   have q2 := hc2 2 (.int .i64 p2) rfl
   have q3 := hc2 3 (.int .i64 s1') rfl
   have q4 := hc2 4 (.int .i64 s2) rfl
   have q5 := hc2 5 (.int .i64 s3) rfl
   have q6 := hc2 6 (.int .i64 s4) rfl
   have q7 := hc2 7 (.int .i64 sp) rfl
   have q8 := hc2 8 (.int .i64 r1') rfl
   have q9 := hc2 9 (.int .i64 r2) rfl
   have q10 := hc2 10 (.int .i64 m1) rfl
   have q11 := hc2 11 (.int .i64 m2) rfl
   have q12 := hc2 12 (.int .i64 t1') rfl
   have q13 := hc2 13 (.int .i64 t2) rfl
   rw [Nat.add_zero] at q0
   rw [← hBr.cell hb1] at q0 q1 q2 q3 q4 q5 q6 q7 q8 q9 q10 q11 q12 q13
   have ltb1 : b1 < wr.heap.size := Nat.lt_of_lt_of_le hb1 hBr.size
   obtain ⟨Ar', hAr'⟩ : ∃ q, (rr R).A = q := ⟨_, rfl⟩
   obtain ⟨cr', hcr'⟩ : ∃ q, (rr R).c = q := ⟨_, rfl⟩
   rw [hAr'] at hB1
   simp only [hAr', hcr']
   subst hB1
   have hp0 := own_high_ne hp (Nat.le_refl _)
   have hq0 := own_high_ne hq (Nat.le_refl _)
   have Hp := hide hp
   have Hq := hide hq
   have Hap := hide hap
   have HL := hide hL
   have Hx := hide hx
   have He := hide hee
   have Hm := hide hmm
   have Hsp := hide hsp
   have Hsr := hide hsr
   have Cn := hide cn
   clear hp hq hap hL hx hee hmm hsp hsr cn
   clear hc1 hc2 hIB hee2 huv
   have x0 := Hx.out.c 0 rfl
   have x1 := Hx.out.c 1 rfl
   have x2 := Hx.out.c 2 rfl
   have x3 := Hx.out.c 3 rfl
   have x4 := Hx.out.c 4 rfl
   have x5 := Hx.out.c 5 rfl
   have x6 := Hx.out.c 6 rfl
   have x7 := Hx.out.c 7 rfl
   have x8 := Hx.out.c 8 rfl
   have x9 := Hx.out.c 9 rfl
   have x10 := Hx.out.c 10 rfl
   have ltx := Hx.out.lt
   obtain ⟨y0, y1⟩ := He.out.c2
   have lty := He.out.lt
   go_wp2_with fail
   clear q0 q1 q2 q3 q4 q5 q6 q7 q8 q9 q10 q11 q12 q13
   refine at_world fun W2 hW => ?_
   have bq0 : Blk W2 wr.heap.size 88 #[.int .i64 k0, .int .i64 p1, .int .i64 p2, .int .i64 s1', .int .i64 s2, .int .i64 s3, .int .i64 s4, .int .i64 sp, .int .i64 r1', .int .i64 r2, .int .i64 m1, .int .i64 m2, .int .i64 t1', .int .i64 t2] := by rw [hW]; exact Blk.new _ _ _
   have LW : Later wr W2 := by rw [hW]; exact ((Below.refl _ _).alloc (Nat.le_refl _) _)
   have szW : W2.heap.size = wr.heap.size + 1 := by rw [hW]; simp
   clear hW x0 x1 x2 x3 x4 x5 x6 x7 x8 x9 x10 ltx y0 y1 lty
   replace Hp := hide (own_later Hp.out LW)
   replace Hq := hide (own_later Hq.out LW)
   replace HL := hide (onward HL.out LW)
   replace Hx := hide (blk_later Hx.out LW)
   replace He := hide (blk_later He.out LW)
   replace Hm := hide (blk_later Hm.out LW)
   have Hec := hide bq0
   clear bq0 LW szW
   refine (Cn.out _).mono ?_
   rintro e w3 ⟨rfl, hb⟩
   replace Hp := hide (own_later Hp.out hb)
   replace Hq := hide (own_later Hq.out hb)
   replace HL := hide (onward HL.out hb)
   replace Hx := hide (blk_later Hx.out hb)
   replace He := hide (blk_later He.out hb)
   replace Hm := hide (blk_later Hm.out hb)
   replace Hec := hide (blk_later Hec.out hb)
   clear hb
   clear Hx He Hm
   have hp1 := own_high_ne Hp.out (Nat.le_refl _)
   have hq1 := own_high_ne Hq.out (Nat.le_refl _)
   go_wp2_with fail
   refine code_world fun w4 hW => ?_
   have bq0 : Blk w4 w3.heap.size 24 #[.int .i64 u, .int .i64 v] := by rw [hW]; exact Blk.new _ _ _
   have LW : Later w3 w4 := by rw [hW]; exact ((Below.refl _ _).alloc (Nat.le_refl _) _)
   have szW : w4.heap.size = w3.heap.size + 1 := by rw [hW]; simp
   clear hW
   replace Hp := hide (own_later Hp.out LW)
   replace Hq := hide (own_later Hq.out LW)
   replace HL := hide (onward HL.out LW)
   replace Hec := hide (blk_later Hec.out LW)
   have Hbn := hide bq0
   clear bq0 LW szW
   obtain ⟨i0, hii, hz0, hz1, hz2⟩ := info_parts spanInfo
   obtain ⟨i1, hii1, hz10, hz11, hz12⟩ := info_parts spanInfo
   have Hi := hide hii
   have Hz0 := hide hz0
   have Hz1 := hide hz1
   have Hz2 := hide hz2
   have Hi1 := hide hii1
   have Hz10 := hide hz10
   have Hz11 := hide hz11
   have Hz12 := hide hz12
   clear hii hz0 hz1 hz2 hii1 hz10 hz11 hz12
   have Hp1 := hide hp1
   have hW14 : w1.heap.size ≤ w4.heap.size := HL.out.size
   have d1 := Hec.out.c 1 rfl
   have d2 := Hec.out.c 2 rfl
   have ltd := Hec.out.lt
   obtain ⟨n0, n1⟩ := Hbn.out.c2
   have ltn := Hbn.out.lt
   have hltL1 : ∀ qa ∈ ((ownFill 8 (.slice Aq k cq)) : List (Nat × Nat)), qa.2 < w4.heap.size := fun qa hq => (Hq.out.lt _ (mem_ownFill.1 hq).2).2
   have hneL1 : ∀ qa ∈ ((ownFill 8 (.slice Aq k cq)) : List (Nat × Nat)), ((.slice Ap k cp) : Value).ownBlock ≠ some qa.2 := fun qa hq => apart_ne Hap.out (mem_ownFill.1 hq).2
   have hccL1 : ∀ qa ∈ ((ownFill 8 (.slice Aq k cq)) : List (Nat × Nat)), ∀ qb ∈ ((ownFill 8 (.slice Aq k cq)) : List (Nat × Nat)), qa.1 ≠ qb.1 → qa.2 ≠ qb.2 := fun qa ha qb hb h => absurd ((mem_ownFill.1 ha).1.trans (mem_ownFill.1 hb).1.symm) h
   refine wp_region_cut 9 (by kernel_rfl) (by simp only [List.take_succ_cons, List.take_zero]; exact rfl) (by simp only [List.drop_succ_cons, List.drop_zero]; exact rfl) (by kernel_rfl) ?_
   apply any_region_F (w0 := w4) [[], [], [], [], [3], [], [], [], [3, 4, 7]] [true, true, true, false, false, true, true, false, false] [false, false, false, false, false, false, false, false, false] [⟨3, none, [], []⟩, ⟨4, none, [3], []⟩, ⟨7, none, [], []⟩, ⟨8, none, [7], []⟩] (fillL 4 (.slice Ap k cp) (ownFill 8 (.slice Aq k cq))) [] (fun ixq y => match ixq with | 3 => .slice (y 0).1 1 1 | 4 => .slice (y 0).1 (k + 1) (y 0).2 | 7 => .slice (y 0).1 1 1 | 8 => .slice (y 0).1 (k + 1) (y 0).2 | _ => undef) (fun ixq x F wq => match ixq with | 3 => OwnF wq F w4.heap.size 24 2 (.slice (x 3 0).1 1 1) 1 #[.int .i64 p1, .int .i64 p2].toList | 4 => OwnF wq F w1.heap.size 24 2 (.slice (x 4 0).1 (k + 1) (x 4 0).2) (k + 1) ((spanCells (powL (rr R) k)) ++ (#[.int .i64 p1, .int .i64 p2] : Array Value).toList) ∧ FreshOr w4.heap.size (.slice Ap k cp) (.slice (x 4 0).1 (k + 1) (x 4 0).2) | 7 => OwnF wq F w4.heap.size 24 2 (.slice (x 7 0).1 1 1) 1 #[.int .i64 u, .int .i64 v].toList | 8 => OwnF wq F w1.heap.size 24 2 (.slice (x 8 0).1 (k + 1) (x 8 0).2) (k + 1) ((spanCells (rowL (bandZ z st wd tilt elo ehi) k)) ++ (#[.int .i64 u, .int .i64 v] : Array Value).toList) ∧ FreshOr w4.heap.size (.slice Aq k cq) (.slice (x 8 0).1 (k + 1) (x 8 0).2) | _ => True) (fun a x => ((((a).put (some 54) (.slice ((x 3) 0).1 1 1)).put (some 55) (.slice ((x 4) 0).1 (k + 1) ((x 4) 0).2)).put (some 58) (.slice ((x 7) 0).1 1 1)).put (some 59) (.slice ((x 8) 0).1 (k + 1) ((x 8) 0).2)) (by kernel_rfl) (by kernel_rfl) (fun _ => rfl) [] (by kernel_rfl) (fillL_lt (fun g hg => (Hp.out.lt g hg).2) hltL1) (fillL_ne hneL1 hccL1)
   ·
    intro x D hD
    have hne := hD.some
    have k1 := liftS hD d1 (earlyL (by first | assumption | omega) hp0 (fun q hq e => absurd ((mem_ownFill.1 hq).2.trans (congrArg some e)) hq0))
    have k2 := liftS hD d2 (earlyL (by first | assumption | omega) hp0 (fun q hq e => absurd ((mem_ownFill.1 hq).2.trans (congrArg some e)) hq0))
    have k3 := liftS hD n0 (earlyL (by first | assumption | omega) hp1 (fun q hq e => absurd ((mem_ownFill.1 hq).2.trans (congrArg some e)) hq1))
    have k4 := liftS hD n1 (earlyL (by first | assumption | omega) hp1 (fun q hq e => absurd ((mem_ownFill.1 hq).2.trans (congrArg some e)) hq1))
    simp only [takeOps, Act.put, List.setIfInBounds_toArray, List.set_cons_succ, List.set_cons_zero]
    repeat (go_big_quiet_step (fail))
    exact wpQuiet_nil rfl
   · exact fun x D hD => wpQuiet_nil rfl
   · exact fun _ h => absurd h (by simp)
   ·
    refine ⟨?_, ?_, ?_, ?_, trivial⟩
    · exact obl_new rfl (fun _ => by kernel_rfl) 24 (fun x => #[.int .i64 p1, .int .i64 p2]) gP (fun x w => by kernel_rfl) (fun x w hle => own_new hle rfl (by unfold maxLen; omega))
    ·
     refine obl_pushQ 31 51 54 (by kernel_rfl) w1.heap.size 24 i0 _ 2 16 Try.underlying31 Hi.out Hz0.out Hz1.out Hz2.out rfl (by decide) (.slice Ap k cp) k 1 ((spanCells (powL (rr R) k))) (#[.int .i64 p1, .int .i64 p2] : Array Value).toList (by first | rfl | (simp; done) | (simp; omega)) (by simp [Value.oneCell']) (by unfold maxLen; omega) (by omega) (by first | assumption | omega) (fun x w F hk hn => ?_) (fun _ => rfl) (fun _ _ _ _ h1 h2 => ⟨h1, h2⟩)
     have hj : OwnF w (F 3) w4.heap.size 24 2 (.slice (x 3 0).1 1 1) 1 (#[.int .i64 p1, .int .i64 p2] : Array Value).toList := hn 3 (by simp)
     obtain ⟨ad, hA, hc⟩ := news_own hj (by decide)
     exact ⟨ad, 1, rfl, row_thenL Hp.out hneL1 hk, wrL_row, (show Value.slice (x 3 0).1 1 1 = _ by rw [hA]), hc⟩
    · exact obl_new rfl (fun _ => by kernel_rfl) 24 (fun x => #[.int .i64 u, .int .i64 v]) gP (fun x w => by kernel_rfl) (fun x w hle => own_new hle rfl (by unfold maxLen; omega))
    ·
     refine obl_pushQ 31 56 58 (by kernel_rfl) w1.heap.size 24 i1 _ 2 16 Try.underlying31 Hi1.out Hz10.out Hz11.out Hz12.out rfl (by decide) (.slice Aq k cq) k 1 ((spanCells (rowL (bandZ z st wd tilt elo ehi) k))) (#[.int .i64 u, .int .i64 v] : Array Value).toList (by first | rfl | (simp; done) | (simp; omega)) (by simp [Value.oneCell']) (by unfold maxLen; omega) (by omega) (by first | assumption | omega) (fun x w F hk hn => ?_) (fun _ => rfl) (fun _ _ _ _ h1 h2 => ⟨h1, h2⟩)
     have hj : OwnF w (F 7) w4.heap.size 24 2 (.slice (x 7 0).1 1 1) 1 (#[.int .i64 u, .int .i64 v] : Array Value).toList := hn 7 (by simp)
     obtain ⟨ad, hA, hc⟩ := news_own hj (by decide)
     exact ⟨ad, 1, rfl, row_thenC Hq.out Hap.out hk, wrL_own, (show Value.slice (x 7 0).1 1 1 = _ by rw [hA]), hc⟩
   ·
    refine ⟨?_, ?_, ?_, ?_, trivial⟩
    ·
     refine ⟨fun x F wq wq' h hs hk => ?_, fun x x' F wq hx h => ?_⟩
     ·
      have h2 : OwnF wq F w4.heap.size 24 2 (.slice (x 3 0).1 1 1) 1 #[.int .i64 p1, .int .i64 p2].toList := h
      exact h2.stab hk
     ·
      have h2 : OwnF wq F w4.heap.size 24 2 (.slice (x 3 0).1 1 1) 1 #[.int .i64 p1, .int .i64 p2].toList := h
      rw [hx 3 (by simp)] at h2
      exact h2
    · exact owe_pushQ 4 _ w1.heap.size (.slice Ap k cp) 24 2 (k + 1) ((spanCells (powL (rr R) k)) ++ (#[.int .i64 p1, .int .i64 p2] : Array Value).toList) rfl (fun _ _ _ => rfl)
    ·
     refine ⟨fun x F wq wq' h hs hk => ?_, fun x x' F wq hx h => ?_⟩
     ·
      have h2 : OwnF wq F w4.heap.size 24 2 (.slice (x 7 0).1 1 1) 1 #[.int .i64 u, .int .i64 v].toList := h
      exact h2.stab hk
     ·
      have h2 : OwnF wq F w4.heap.size 24 2 (.slice (x 7 0).1 1 1) 1 #[.int .i64 u, .int .i64 v].toList := h
      rw [hx 7 (by simp)] at h2
      exact h2
    · exact owe_pushQ 8 _ w1.heap.size (.slice Aq k cq) 24 2 (k + 1) ((spanCells (rowL (bandZ z st wd tilt elo ehi) k)) ++ (#[.int .i64 u, .int .i64 v] : Array Value).toList) rfl (fun _ _ _ => rfl)
   intro xx w5 F hK hlv1 hap1
   have apart4_8 : ∀ k, F 4 k → ¬ F 8 k := hap1 _ (List.mem_iff_getElem?.2 ⟨1, rfl⟩) _ (List.mem_iff_getElem?.2 ⟨3, rfl⟩) (by decide) (by intro t ht; simp only [List.mem_cons, List.not_mem_nil, or_false] at ht; rcases ht with rfl | rfl | rfl | rfl <;> simp) (by intro t ht; simp only [List.mem_cons, List.not_mem_nil, or_false] at ht; rcases ht with rfl | rfl | rfl | rfl <;> simp)
   clear hap1
   obtain ⟨-, fct4, -, fct8, -⟩ := hlv1
   replace fct4 : OwnF w5 (F 4) w1.heap.size 24 2 (.slice (xx 4 0).1 (k + 1) (xx 4 0).2) (k + 1) ((spanCells (powL (rr R) k)) ++ (#[.int .i64 p1, .int .i64 p2] : Array Value).toList) ∧ FreshOr w4.heap.size (.slice Ap k cp) (.slice (xx 4 0).1 (k + 1) (xx 4 0).2) := fct4 rfl
   replace fct8 : OwnF w5 (F 8) w1.heap.size 24 2 (.slice (xx 8 0).1 (k + 1) (xx 8 0).2) (k + 1) ((spanCells (rowL (bandZ z st wd tilt elo ehi) k)) ++ (#[.int .i64 u, .int .i64 v] : Array Value).toList) ∧ FreshOr w4.heap.size (.slice Aq k cq) (.slice (xx 8 0).1 (k + 1) (xx 8 0).2) := fct8 rfl
   refine ⟨rfl, ?_⟩
   have hb5 := below_two hK hW14 (fun g hg => (Hp.out.lt g hg).1) (fun g hg => (Hq.out.lt g hg).1)
   have HL5 := hide (HL.out.trans hb5)
   have Hap5 := hide (apart_two apart4_8 fct4.1.2 fct8.1.2)
   have Hp5 := hide fct4.1.1
   have Hq5 := hide fct8.1.1
   clear hK fct4 fct8 apart4_8 hb5
   go_wp2_with fail
   go_roundw
   case rel => exact ⟨k + 1, _, _, _, _, by omega, by go_num, rfl, rfl, by rw [Hsp.out]; exact Hp5.out, by rw [Hsr.out]; exact Hq5.out, Hap5.out, HL5.out⟩
   case measure => simp [intOf] <;> omega
  ·
   obtain rfl : k = G := by omega
   have hlt3 : ¬ ((k : Int) < k) := by omega
   have hI1 := (Hl.out.below hBr).more hBr.size
   have hI2 := (Hlr.out.below hBr).more hBr.size
   have hI3 := ints_spans hp
   have hI4 := hIB.more hszr
   have hI5 := ints_spans hq
   have HL := hide hL
   have Hx := hide hx
   have Hm := hide hmm
   have HBr := hide hBr
   have HI1 := hide hI1
   have HI2 := hide hI2
   have HI3 := hide hI3
   have HI4 := hide hI4
   have HI5 := hide hI5
   clear hL hx hmm hBr hI1 hI2 hI3 hI4 hI5
   clear hp hq hap hee hIB
   have x0 := Hx.out.c 0 rfl
   have x1 := Hx.out.c 1 rfl
   have x2 := Hx.out.c 2 rfl
   have x3 := Hx.out.c 3 rfl
   have x4 := Hx.out.c 4 rfl
   have x5 := Hx.out.c 5 rfl
   have x6 := Hx.out.c 6 rfl
   have x7 := Hx.out.c 7 rfl
   have x8 := Hx.out.c 8 rfl
   have x9 := Hx.out.c 9 rfl
   have x10 := Hx.out.c 10 rfl
   have ltx := Hx.out.lt
   obtain ⟨m0, m1, m2, m3, m4, m5, m6, m7⟩ := Hm.out.c8
   have ltm := Hm.out.lt
   go_wp2_with fail
   refine wp_region_cut 23 (by kernel_rfl) (by simp only [List.take_succ_cons, List.take_zero]; exact rfl) (by simp only [List.drop_succ_cons, List.drop_zero]; exact rfl) (by kernel_rfl) ?_
   apply any_region_J (w0 := wr) [[], [], [], [], [], [], [], [], [], [], [], [10], [], [], [], [], [], [], [10], [10, 18], [10, 18], [10, 11, 18, 20], []] [true, true, true, true, true, true, true, true, true, true, false, false, true, true, true, true, true, true, false, true, false, false, true] [⟨10, none, [], []⟩, ⟨11, none, [], [10]⟩, ⟨18, none, [], []⟩, ⟨20, none, [], [18]⟩, ⟨21, none, [], [11, 20]⟩] (fun ixq y => match ixq with | 10 => .pointer (y 0).1 | 11 => .iface 76 (.pointer (y 0).1) | 18 => .func (.func 54) #[] #[.pointer (y 0).1] | 20 => .iface 110 (.agg #[.func (.func 54) #[] #[.pointer (y 0).1]]) | 21 => .slice (y 0).1 4 4 | _ => undef) (fun ixq x F wq => match ixq with | 10 => PassF wq F wr.heap.size (x 10 0).1 #[.slice A nl cl] | 11 => x 11 = x 10 | 18 => PtrF wq F wr.heap.size (x 18 0).1 22 #[.slice Ar nr cr] | 20 => x 20 = x 18 | 21 => OwnF wq F wr.heap.size 130 1 (.slice (x 21 0).1 4 4) 4 #[.iface 106 (.agg #[.int .i64 (2 * wd + 1), .slice A1 k c1']), .iface 76 (.pointer (x 11 0).1), .iface 108 (.agg #[.slice A nl cl, .slice Ar nr cr, .int .i64 a0, .int .i64 a1, .int .i64 b0, .int .i64 b1, .int .i64 c0, .int .i64 c1, .slice Aq k cq]), .iface 110 (.agg #[.func (.func 54) #[] #[.pointer (x 20 0).1]])].toList | _ => True) (fun a x => (((((a).put (some 71) (.pointer ((x 10) 0).1)).put (some 72) (.iface 76 (.pointer ((x 11) 0).1))).put (some 79) (.func (.func 54) #[] #[.pointer ((x 18) 0).1])).put (some 81) (.iface 110 (.agg #[.func (.func 54) #[] #[.pointer ((x 20) 0).1]]))).put (some 82) (.slice ((x 21) 0).1 4 4)) (by kernel_rfl) (fun _ => rfl) [68, 76] (by kernel_rfl)
   ·
    intro x D hD
    have hne := hD.some
    have k0 := liftB hD x7 (by first | assumption | omega)
    have k1 := liftB hD m0 (by first | assumption | omega)
    have k2 := liftB hD m1 (by first | assumption | omega)
    have k3 := liftB hD m2 (by first | assumption | omega)
    have k4 := liftB hD m3 (by first | assumption | omega)
    have k5 := liftB hD m4 (by first | assumption | omega)
    have k6 := liftB hD m5 (by first | assumption | omega)
    have k7 := liftB hD m6 (by first | assumption | omega)
    have k8 := liftB hD m7 (by first | assumption | omega)
    simp only [takeOps, Act.put, List.setIfInBounds_toArray, List.set_cons_succ, List.set_cons_zero]
    repeat (go_big_quiet_step (fail))
    exact wpQuiet_nil rfl
   ·
    intro d hd x x'
    simp only [List.mem_cons, List.not_mem_nil, or_false] at hd
    rcases hd with rfl | rfl
    all_goals rfl
   ·
    refine ⟨?_, ?_, ?_, ?_, ?_, trivial⟩
    ·
     refine obl_callL rfl (fun _ => by kernel_rfl) 28 (fun x => #[.slice A nl cl]) (fun x w => by kernel_rfl) ?_
     intro x w F hL hN
     refine (passing_any A nl cl w).mono ?_
     rintro e w' ⟨rfl, rfl⟩
     exact ⟨gP (w.heap.size + 1), rfl, ((Below.refl _ _).alloc (Nat.le_refl _) _).alloc (by simp) _, ⟨w.heap.size, rfl, hL.size, ⟨Nat.le_refl _, by simp; omega⟩, ⟨by omega, by simp⟩, (Blk.new _ _ _).alloc _, blk_new_at (by simp)⟩⟩
    · exact obl_pure rfl (fun _ => by kernel_rfl) (fun x => x 10) (fun x w => by kernel_rfl) (fun x w => rfl)
    ·
     refine obl_callL rfl (fun _ => by kernel_rfl) 40 (fun x => #[.slice Ar nr cr]) (fun x w => by kernel_rfl) ?_
     intro x w F hL hN
     refine (worth_any Ar nr cr w).mono ?_
     rintro e w' ⟨rfl, rfl⟩
     exact ⟨gP w.heap.size, rfl, (Below.refl _ _).alloc (Nat.le_refl _) _, ⟨w.heap.size, rfl, hL.size, ⟨Nat.le_refl _, by simp⟩, Blk.new _ _ _⟩⟩
    · exact obl_pure rfl (fun _ => by kernel_rfl) (fun x => x 18) (fun x w => by kernel_rfl) (fun x w => rfl)
    · exact obl_new rfl (fun _ => by kernel_rfl) 130 (fun x => #[.iface 106 (.agg #[.int .i64 (2 * wd + 1), .slice A1 k c1']), .iface 76 (.pointer (x 11 0).1), .iface 108 (.agg #[.slice A nl cl, .slice Ar nr cr, .int .i64 a0, .int .i64 a1, .int .i64 b0, .int .i64 b1, .int .i64 c0, .int .i64 c1, .slice Aq k cq]), .iface 110 (.agg #[.func (.func 54) #[] #[.pointer (x 20 0).1]])]) gP (fun x w => by kernel_rfl) (fun x w hle => own_new hle rfl (by unfold maxLen; omega))
   ·
    refine ⟨?_, ?_, ?_, ?_, ?_, trivial⟩
    ·
     refine ⟨fun x F wq wq' h hs hk => ?_, fun x x' F wq hx h => ?_⟩
     ·
      have h2 : PassF wq F wr.heap.size (x 10 0).1 #[.slice A nl cl] := h
      exact h2.stab hk
     ·
      have h2 : PassF wq F wr.heap.size (x 10 0).1 #[.slice A nl cl] := h
      rw [hx 10 (by simp)] at h2
      exact h2
    · exact owe_pure 10 (fun _ _ _ => rfl) (by simp)
    ·
     refine ⟨fun x F wq wq' h hs hk => ?_, fun x x' F wq hx h => ?_⟩
     ·
      have h2 : PtrF wq F wr.heap.size (x 18 0).1 22 #[.slice Ar nr cr] := h
      exact h2.stab hk
     ·
      have h2 : PtrF wq F wr.heap.size (x 18 0).1 22 #[.slice Ar nr cr] := h
      rw [hx 18 (by simp)] at h2
      exact h2
    · exact owe_pure 18 (fun _ _ _ => rfl) (by simp)
    ·
     refine ⟨fun x F wq wq' h hs hk => ?_, fun x x' F wq hx h => ?_⟩
     ·
      have h2 : OwnF wq F wr.heap.size 130 1 (.slice (x 21 0).1 4 4) 4 #[.iface 106 (.agg #[.int .i64 (2 * wd + 1), .slice A1 k c1']), .iface 76 (.pointer (x 11 0).1), .iface 108 (.agg #[.slice A nl cl, .slice Ar nr cr, .int .i64 a0, .int .i64 a1, .int .i64 b0, .int .i64 b1, .int .i64 c0, .int .i64 c1, .slice Aq k cq]), .iface 110 (.agg #[.func (.func 54) #[] #[.pointer (x 20 0).1]])].toList := h
      exact h2.stab hk
     ·
      have h2 : OwnF wq F wr.heap.size 130 1 (.slice (x 21 0).1 4 4) 4 #[.iface 106 (.agg #[.int .i64 (2 * wd + 1), .slice A1 k c1']), .iface 76 (.pointer (x 11 0).1), .iface 108 (.agg #[.slice A nl cl, .slice Ar nr cr, .int .i64 a0, .int .i64 a1, .int .i64 b0, .int .i64 b1, .int .i64 c0, .int .i64 c1, .slice Aq k cq]), .iface 110 (.agg #[.func (.func 54) #[] #[.pointer (x 20 0).1]])].toList := h
      rw [hx 21 (by simp), hx 11 (by simp), hx 20 (by simp)] at h2
      exact h2
   intro xx w5 F hL5 hlv2 hap2
   clear hap2
   obtain ⟨fct10, fct11, fct18, fct20, fct21, -⟩ := hlv2
   replace fct10 : PassF w5 (F 10) wr.heap.size (xx 10 0).1 #[.slice A nl cl] := fct10 rfl
   replace fct11 : xx 11 = xx 10 := fct11 rfl
   replace fct18 : PtrF w5 (F 18) wr.heap.size (xx 18 0).1 22 #[.slice Ar nr cr] := fct18 rfl
   replace fct20 : xx 20 = xx 18 := fct20 rfl
   replace fct21 : OwnF w5 (F 21) wr.heap.size 130 1 (.slice (xx 21 0).1 4 4) 4 #[.iface 106 (.agg #[.int .i64 (2 * wd + 1), .slice A1 k c1']), .iface 76 (.pointer (xx 11 0).1), .iface 108 (.agg #[.slice A nl cl, .slice Ar nr cr, .int .i64 a0, .int .i64 a1, .int .i64 b0, .int .i64 b1, .int .i64 c0, .int .i64 c1, .slice Aq k cq]), .iface 110 (.agg #[.func (.func 54) #[] #[.pointer (xx 20 0).1]])].toList := fct21 rfl
   refine ⟨rfl, ?_⟩
   obtain ⟨gl0, hA, hge, -, -, hb10, hb10'⟩ := fct10
   obtain ⟨g2, hA2, hge2, -, hb18⟩ := fct18
   rw [fct11, hA, fct20, hA2] at fct21
   obtain ⟨gp, hA3, hgep, hb21⟩ := blk_full4 (c := 4) fct21.1
   rw [hA3]
   have hne1 : g2 ≠ gl0 + 1 := fun e => by subst e; have := hb18.symm.trans hb10'; simp at this
   have hne2 : gp ≠ gl0 + 1 := fun e => by subst e; have := hb21.symm.trans hb10'; simp at this
   have hx5 := blk_later Hx.out hL5
   have cA := all4_any A nl cl l Ar nr cr rt Ap k cp (powL (rr R) k) (2 * wd + 1) A1 k c1' BL Aq k cq (rowL (bandZ z st wd tilt elo ehi) k) a0 a1 b0 b1 c0 c1 wr.heap.size (gl0 + 1) gl0 g2 gp w5 Hn.out Hnr.out (powL_length _ _) hBLn rowL_length (Nat.le_refl _) (Nat.le_refl _) (by omega) HT.out HTr.out Hok.out Hfac.out
    (HI1.out.below hL5) (HI2.out.below hL5) (HI3.out.below hL5) (HI4.out.below hL5) (HI5.out.below hL5) hb10' hb10 hb18 hb21 ⟨hge, by omega, hge2, hgep⟩ ⟨by omega, hne1, hne2⟩
   have HL5 := hide (HBr.out.trans (Below.mono hL5 HBr.out.size))
   have hsz5 : w.heap.size ≤ w5.heap.size := HL5.out.size
   have CA := hide cA
   clear fct11 fct20 fct21 hA hA2 hA3 hb10 hb10' hb18 hb21 hx5 cA hL5
   clear x0 x1 x2 x3 x4 x5 x6 x7 x8 x9 x10 ltx m0 m1 m2 m3 m4 m5 m6 m7 ltm
   go_wp2_with fail
   refine CA.out.mono ?_
   rintro e w6 ⟨v, rfl, ho, hb6⟩
   go_wp2
   go_ret
   exact ⟨_, rfl, own_mono ho hsz5, HL5.out.trans (Below.mono hb6 (HBr.out.size))⟩
end Go.Proofs.Ytepgpihobmjbdaa
end
section
namespace Go.Proofs.Ytepgpihobmjbdaa
open Go Go.RowKit
set_option maxHeartbeats 1000000 in
theorem nth_any (A : Option Addr) (n c : Nat) (zs : List Int) (i : Nat) (w : World) (hn : zs.length = n) (hmax : n ≤ 9223372036854775807) (hi : i ≤ 1000000) (hl : Ints w w.heap.size .u32 A zs) :
  Calls Try.prog 8 #[.slice A n c, .int .i64 i] w fun e w' => e = .returned (.int .u32 (nthV zs i)) ∧ Below w.heap.size w w' := by
 by_cases h0 : n = 0
 ·
  have e : nthV zs i = 0 := by unfold nthV; rw [if_pos (by omega)]
  rw [e]
  subst h0
  clear hl e
  go_enter Try.func8, Try.ntmps8
  go_wp2
  go_ret
  exact ⟨rfl, Below.refl _ _⟩
 ·
  obtain ⟨b, off, rfl, hb, hc⟩ := hl (by omega)
  have hlt : i % n < n := Nat.mod_lt _ (by omega)
  have e : nthV zs i = zs.getD (i % n) 0 := by unfold nthV; rw [if_neg (by omega), hn]
  have p := hc (i % n) (by omega)
  have hm : ((i : Int) % (n : Int)) = ((i % n : Nat) : Int) := (Int.natCast_emod i n).symm
  rw [e]
  generalize zs.getD (i % n) 0 = v at *
  generalize i % n = q at *
  have hn0 : (n : Int) ≠ 0 := by omega
  have hn1 : ((n : Int) == 0) = false := by simpa using hn0
  have hn2 : (0 : Int) < n := by omega
  have hq : (q : Int) < n := by omega
  clear hl hc e
  go_enter Try.func8, Try.ntmps8
  go_wp2
  go_ret
  exact ⟨rfl, Below.refl _ _⟩
def kE (p : Int × Int) : Ech := ⟨if p.1 = 0 then 1 else 3, p.1, p.2, 0, 0, 0, 0, 0, 0, 0, 0, 0, 0, 0⟩
theorem kE_ok {p : Int × Int} (h : okM p = true) : echE (kE p) = 0 := by
 obtain ⟨a, b, c⟩ := okM_iff h
 have key : spi p.1 p.2 0 1073741824 = true := spi_iff.2 ⟨a, b, c⟩
 unfold kE echE
 by_cases h0 : p.1 = 0
 ·
  simp only [h0, if_true]
  rw [h0] at key
  simp [key, quietB]
 ·
  simp only [if_neg h0]
  have h1 : 1 ≤ p.1 := by omega
  simp [midE, h1, spi, win, turnB]
  exact ⟨a, b, c⟩
set_option maxHeartbeats 1000000 in
set_option maxRecDepth 100000 in
theorem kindly_any (p1 p2 : Int) (w : World) : Calls Try.prog 35 #[.agg #[.int .i64 p1, .int .i64 p2]] w fun e w' => e = .returned (.agg (echC (kE (p1, p2)))) ∧ Below w.heap.size w w' := by
 unfold kE
 simp only
 by_cases h0 : p1 = 0
 ·
  have hd : ((p1 : Int) == 0) = true := by simp [h0]
  rw [if_pos h0]
  unfold echC
  simp only
  subst h0
  go_enter Try.func35, Try.ntmps35
  go_wp2
  refine ret_world fun W5 hW => ?_
  have hq5 : Blk W5 (w.heap.size + 1) 88 #[.int .i64 1, .int .i64 0, .int .i64 p2, .int .i64 0, .int .i64 0, .int .i64 0, .int .i64 0, .int .i64 0, .int .i64 0, .int .i64 0, .int .i64 0, .int .i64 0, .int .i64 0, .int .i64 0] := by rw [hW]; exact blk_new_at (by simp)
  have hB5 : Below w.heap.size w W5 := by rw [hW]; exact ((Below.refl _ _).alloc (Nat.le_refl _) _).alloc (by simp) _
  clear hW
  have c0 := hq5.c 0 rfl
  have c1 := hq5.c 1 rfl
  have c2 := hq5.c 2 rfl
  have c3 := hq5.c 3 rfl
  have c4 := hq5.c 4 rfl
  have c5 := hq5.c 5 rfl
  have c6 := hq5.c 6 rfl
  have c7 := hq5.c 7 rfl
  have c8 := hq5.c 8 rfl
  have c9 := hq5.c 9 rfl
  have c10 := hq5.c 10 rfl
  have c11 := hq5.c 11 rfl
  have c12 := hq5.c 12 rfl
  have c13 := hq5.c 13 rfl
  exact bodyPost_ret (v := .agg #[.int .i64 1, .int .i64 0, .int .i64 p2, .int .i64 0, .int .i64 0, .int .i64 0, .int .i64 0, .int .i64 0, .int .i64 0, .int .i64 0, .int .i64 0, .int .i64 0, .int .i64 0, .int .i64 0]) (by simp [results, Try.results35, go_sem, c0, c1, c2, c3, c4, c5, c6, c7, c8, c9, c10, c11, c12, c13]) rfl ⟨rfl, hB5⟩
 ·
  have hd : ((p1 : Int) == 0) = false := by simp [h0]
  rw [if_neg h0]
  unfold echC
  simp only
  go_enter Try.func35, Try.ntmps35
  go_wp2
  refine ret_world fun W5 hW => ?_
  have hq5 : Blk W5 (w.heap.size + 1) 88 #[.int .i64 3, .int .i64 p1, .int .i64 p2, .int .i64 0, .int .i64 0, .int .i64 0, .int .i64 0, .int .i64 0, .int .i64 0, .int .i64 0, .int .i64 0, .int .i64 0, .int .i64 0, .int .i64 0] := by rw [hW]; exact blk_new_at (by simp)
  have hB5 : Below w.heap.size w W5 := by rw [hW]; exact ((Below.refl _ _).alloc (Nat.le_refl _) _).alloc (by simp) _
  clear hW
  have c0 := hq5.c 0 rfl
  have c1 := hq5.c 1 rfl
  have c2 := hq5.c 2 rfl
  have c3 := hq5.c 3 rfl
  have c4 := hq5.c 4 rfl
  have c5 := hq5.c 5 rfl
  have c6 := hq5.c 6 rfl
  have c7 := hq5.c 7 rfl
  have c8 := hq5.c 8 rfl
  have c9 := hq5.c 9 rfl
  have c10 := hq5.c 10 rfl
  have c11 := hq5.c 11 rfl
  have c12 := hq5.c 12 rfl
  have c13 := hq5.c 13 rfl
  exact bodyPost_ret (v := .agg #[.int .i64 3, .int .i64 p1, .int .i64 p2, .int .i64 0, .int .i64 0, .int .i64 0, .int .i64 0, .int .i64 0, .int .i64 0, .int .i64 0, .int .i64 0, .int .i64 0, .int .i64 0, .int .i64 0]) (by simp [results, Try.results35, go_sem, c0, c1, c2, c3, c4, c5, c6, c7, c8, c9, c10, c11, c12, c13]) rfl ⟨rfl, hB5⟩
end Go.Proofs.Ytepgpihobmjbdaa
end
section
namespace Go.Proofs.Ytepgpihobmjbdaa
open Go Go.RowKit
def rayC (e : Nat → Ech) (n : Nat) : List Value := (List.range n).flatMap fun j => (echC (e j)).toList
theorem rayC_succ (e : Nat → Ech) (n : Nat) : rayC e (n + 1) = rayC e n ++ (echC (e n)).toList := by simp [rayC, List.range_succ]
theorem flat_get (f : Nat → List Value) (sz : Nat) (hs : ∀ i, (f i).length = sz) : ∀ n i j v, i < n → (f i)[j]? = some v → ((List.range n).flatMap f)[i * sz + j]? = some v
 | 0, i, _, _, hi, _ => absurd hi (by omega)
 | n + 1, i, j, v, hi, hv => by
  have hlen : ∀ m, ((List.range m).flatMap f).length = m * sz := fun m => by
   induction m with
   | zero => simp
   | succ m ih => rw [List.range_succ, List.flatMap_append, List.length_append, ih, Nat.succ_mul]; simp [hs]
  have hj : j < sz := by rw [← hs i]; exact (List.getElem?_eq_some_iff.1 hv).1
  rw [List.range_succ, List.flatMap_append]
  rcases Nat.lt_or_ge i n with h | h
  ·
   have hlt : i * sz + j < n * sz := by
    have : (i + 1) * sz ≤ n * sz := Nat.mul_le_mul_right _ h
    rw [Nat.succ_mul] at this
    omega
   rw [List.getElem?_append_left (by rw [hlen]; exact hlt)]
   exact flat_get f sz hs n i j v h hv
  ·
   obtain rfl : i = n := by omega
   rw [List.getElem?_append_right (by rw [hlen]; omega), hlen]
   simpa using hv
theorem rayC_get (e : Nat → Ech) {n i j : Nat} {v : Value} (hi : i < n) (hv : (echC (e i)).toList[j]? = some v) : (rayC e n)[i * 14 + j]? = some v := flat_get (fun j => (echC (e j)).toList) 14 (fun _ => rfl) n i j v hi hv
def KnownE (f : Nat → Nat → Ech) (base G : Nat) (xs : List Value) (ents : List Th) : Prop :=
 ∀ R, R < xs.length → ∃ (A : Option Addr) (c : Nat), xs[R]? = some (.slice A G c) ∧ Th.row base 88 14 (.slice A G c) G (rayC (f R) G) ∈ ents
theorem KnownE.snoc {f : Nat → Nat → Ech} {base G c : Nat} {A : Option Addr} {xs : List Value} {ents : List Th} (h : KnownE f base G xs ents) : KnownE f base G (xs ++ [.slice A G c]) (.row base 88 14 (.slice A G c) G (rayC (f xs.length) G) :: ents) := fun R hR => by
 rcases Nat.lt_or_ge R xs.length with h1 | h1
 ·
  obtain ⟨A', c', h2, h3⟩ := h R h1
  exact ⟨A', c', by rw [List.getElem?_append_left h1]; exact h2, List.mem_cons_of_mem _ h3⟩
 ·
  obtain rfl : R = xs.length := by simp at hR; omega
  exact ⟨A, c, by simp, List.mem_cons_self⟩
def RaysP (Q : Nat → Prop) (w : World) (A : Option Addr) (n : Nat) (rr : Nat → Ray1) : Prop :=
 0 < n → ∃ b off, A = some ⟨b, off, none⟩ ∧ Q b ∧ ∀ i, i < n → w.cell? ⟨b, off + i, none⟩ = some (.slice (rr i).A (rr i).n (rr i).c) ∧ (rr i).n ≤ maxLen ∧
  (0 < (rr i).n → ∃ b' off', (rr i).A = some ⟨b', off', none⟩ ∧ Q b' ∧ ∀ j, j < (rr i).n → ∀ t v, ((echC ((rr i).e j)).toList)[t]? = some v → w.cell? ⟨b', off' + j * 14 + t, none⟩ = some v)
theorem RaysP.at_ {Q : Nat → Prop} {w : World} {A : Option Addr} {n : Nat} {rr : Nat → Ray1} (h : RaysP Q w A n rr) : RaysAt w w.heap.size A n rr := fun hn => by
 obtain ⟨b, off, e1, -, h2⟩ := h hn
 refine ⟨b, off, e1, World.block_lt_of_cell? w _ (h2 0 hn).1, fun i hi => ⟨(h2 i hi).1, (h2 i hi).2.1, fun hg => ?_⟩⟩
 obtain ⟨b', off', e2, -, h4⟩ := (h2 i hi).2.2 hg
 exact ⟨b', off', e2, World.block_lt_of_cell? w _ (h4 0 hg 0 _ rfl), h4⟩
theorem RaysP.stab {Q : Nat → Prop} {w w' : World} {A : Option Addr} {n : Nat} {rr : Nat → Ray1} (h : RaysP Q w A n rr) (hk : ∀ k, Q k → w'.heap[k]? = w.heap[k]?) : RaysP Q w' A n rr := fun hn => by
 obtain ⟨b, off, e1, hq, h2⟩ := h hn
 refine ⟨b, off, e1, hq, fun i hi => ⟨(World.cell?_of_block (w := w) (hk b hq)).trans (h2 i hi).1, (h2 i hi).2.1, fun hg => ?_⟩⟩
 obtain ⟨b', off', e2, hq', h4⟩ := (h2 i hi).2.2 hg
 exact ⟨b', off', e2, hq', fun j hj t v hv => (World.cell?_of_block (w := w) (hk b' hq')).trans (h4 j hj t v hv)⟩
theorem RaysP.mono {Q Q' : Nat → Prop} {w : World} {A : Option Addr} {n : Nat} {rr : Nat → Ray1} (h : RaysP Q w A n rr) (hq : ∀ k, Q k → Q' k) : RaysP Q' w A n rr := fun hn => by
 obtain ⟨b, off, e1, h1, h2⟩ := h hn
 refine ⟨b, off, e1, hq b h1, fun i hi => ⟨(h2 i hi).1, (h2 i hi).2.1, fun hg => ?_⟩⟩
 obtain ⟨b', off', e2, h3, h4⟩ := (h2 i hi).2.2 hg
 exact ⟨b', off', e2, hq b' h3, h4⟩
def RaysF (w : World) (F : Nat → Prop) (A : Option Addr) (n : Nat) (PP : (Nat → Ray1) → Prop) : Prop := ∃ rr, PP rr ∧ RaysP F w A n rr
theorem RaysF.stab {w w' : World} {F : Nat → Prop} {A : Option Addr} {n : Nat} {PP : (Nat → Ray1) → Prop} (h : RaysF w F A n PP) (hk : ∀ k, F k → w'.heap[k]? = w.heap[k]?) : RaysF w' F A n PP := by
 obtain ⟨rr, h1, h2⟩ := h
 exact ⟨rr, h1, h2.stab hk⟩
instance : Inhabited Ech := ⟨⟨0, 0, 0, 0, 0, 0, 0, 0, 0, 0, 0, 0, 0, 0⟩⟩
instance : Inhabited Ray1 := ⟨⟨none, 0, 0, fun _ => default⟩⟩
theorem rays_of {W w0 : World} {ts ents : List Th} {base n G co : Nat} {Ao : Option Addr} {xs : List Value} {f : Nat → Nat → Ech} (hM : Mem w0 ts W) (hrow : World.ownsRow W base 85 1 (.slice Ao n co) n xs) (hxs : xs.length = n) (hK : KnownE f base G xs ents) (hsub : ∀ t ∈ ents, t ∈ ts) (hG : G ≤ maxLen) :
  ∃ rr : Nat → Ray1, RaysP (fun q => base ≤ q ∧ q < W.heap.size) W Ao n rr ∧ ∀ i, i < n → (rr i).n = G ∧ ∀ j, (rr i).e j = f i j := by
 obtain ⟨rr, hr⟩ := Go.Deep.choose_lt (n := n) (α := Ray1) (p := fun R r => xs[R]? = some (.slice r.A r.n r.c) ∧ r.n = G ∧ (∀ j, r.e j = f R j) ∧ Th.row base 88 14 (.slice r.A G r.c) G (rayC (f R) G) ∈ ents) (fun R hR => by
  obtain ⟨A, c, h1, h2⟩ := hK R (by omega)
  exact ⟨⟨A, G, c, f R⟩, h1, rfl, fun _ => rfl, h2⟩)
 refine ⟨rr, fun hn => ?_, fun i hi => ⟨(hr i hi).2.1, (hr i hi).2.2.1⟩⟩
 obtain ⟨b, cur, rfl, hbb, hb, -, -, hc⟩ := row_blk hrow hn
 refine ⟨b, 0, rfl, ⟨hbb, hb.lt⟩, fun i hi => ?_⟩
 obtain ⟨h1, h2, h3, h4⟩ := hr i hi
 refine ⟨by rw [Nat.zero_add]; exact (hb.cell i).trans (hc i _ h1), by rw [h2]; exact hG, fun hg => ?_⟩
 rw [h2] at hg ⊢
 have hrw : World.ownsRow W base 88 14 (.slice (rr i).A G (rr i).c) G (rayC (f i) G) := hM.all _ (hsub _ h4)
 obtain ⟨b', cur', e1, hbb', hb', -, -, hc'⟩ := row_blk hrw hg
 refine ⟨b', 0, e1, ⟨hbb', hb'.lt⟩, fun j hj t v hv => ?_⟩
 rw [Nat.zero_add]
 simp only [h3 j] at hv
 exact (hb'.cell _).trans (hc' _ v (rayC_get (f i) hj hv))
theorem echoInfo : (Try.prog.info? 88).map (fun i => (i.zero, i.size, i.bytes)) = some (some (.agg #[.int .i64 0, .int .i64 0, .int .i64 0, .int .i64 0, .int .i64 0, .int .i64 0, .int .i64 0, .int .i64 0, .int .i64 0, .int .i64 0, .int .i64 0, .int .i64 0, .int .i64 0, .int .i64 0]), 14, 112) := by kernel_rfl
theorem echosInfo : (Try.prog.info? 85).map (fun i => (i.zero, i.size, i.bytes)) = some (some (.slice none 0 0), 1, 24) := by kernel_rfl
def eZ (ms : List (Int × Int)) (a : Int) (i j : Nat) : Ech := if (i : Int) = a then kE (ms.getD j (0, 0)) else kE (0, 0)
def SweepPost (s : ByteArray) (sx sy z r G st wd tilt a : Int) (ms : List (Int × Int)) (R4 : Nat) (w : World) (e : Ending) (w' : World) : Prop :=
 ∃ (As : Option Addr) (cs : Nat) (rr : Nat → Ray1), e = .returned (.agg (sweepC s sx sy z r G st wd tilt 0 As R4 cs)) ∧ RaysP (fun q => w.heap.size ≤ q ∧ q < w'.heap.size) w' As R4 rr ∧ (∀ i, i < R4 → ((rr i).n : Int) = G ∧ ∀ j, (rr i).e j = eZ ms a i j) ∧ Below w.heap.size w w'
set_option maxHeartbeats 8000000 in
set_option maxRecDepth 100000 in
theorem sweep_any (s : ByteArray) (sx sy z r st wd tilt a : Int) (A : Option Addr) (c G : Nat) (ms : List (Int × Int)) (R4 : Nat) (w : World) (hm : ms.length = G) (hG : G ≤ 200) (hr0 : 1 ≤ r) (hr1 : r ≤ 90) (hR4 : (R4 : Int) = 4 * r) (hl : Ints w w.heap.size .i64 A (flat2 ms)) :
  Calls Try.prog 11 #[.agg #[.string s, .int .i64 sx, .int .i64 sy, .int .i64 z, .int .i64 r, .int .i64 (G : Int), .int .i64 st, .int .i64 wd], .int .i64 tilt, .int .i64 a, .slice A G c] w (SweepPost s sx sy z r G st wd tilt a ms R4 w) := by
 have Hl := hide hl
 have Hm := hide hm
 clear hl hm
 go_enter Try.func11, Try.ntmps11
 have HM := hide (Mem.start w)
 go_wp2_with fail
 refine code_world fun W hW => ?_
 have HMn := Mem.to (Mem.allocAt (Mem.allocAt (Mem.allocAt HM.out w.heap.size rfl #[.string s, .int .i64 sx, .int .i64 sy, .int .i64 z, .int .i64 r, .int .i64 (G : Int), .int .i64 st, .int .i64 wd] 28) (w.heap.size + 1) (by simp) #[.string ⟨#[]⟩, .int .i64 0, .int .i64 0, .int .i64 0, .int .i64 0, .int .i64 0, .int .i64 0, .int .i64 0, .int .i64 0, .int .i64 0, .slice none 0 0] 53) (w.heap.size + 2) (by simp) #[.string s, .int .i64 sx, .int .i64 sy, .int .i64 z, .int .i64 r, .int .i64 (G : Int), .int .i64 st, .int .i64 wd, .int .i64 tilt, .int .i64 0, .slice none 0 0] 53) hW
 have LW : Later w W := by rw [hW]; exact ((((Below.refl _ _).alloc (Nat.le_refl _) _).alloc (by simp; try omega) _).alloc (by simp; try omega) _)
 have szW : W.heap.size = w.heap.size + 3 := by rw [hW]; simp
 clear hW
 replace HM := hide HMn
 clear HMn LW
 clear szW
 have HM0 := hide (HM.out.nilRow w.heap.size 85 1)
 clear HM
 go_loopw [10] (fun i wr => ∃ (k : Nat) (Ao : Option Addr) (co : Nat) (xs : List Value) (ents : List Th), k ≤ R4 ∧ i = .int .i64 k ∧ xs.length = k ∧ KnownE (eZ ms a) w.heap.size G xs ents ∧ Mem w (.row w.heap.size 85 1 (.slice Ao k co) k xs :: .blk (w.heap.size + 2) 53 #[.string s, .int .i64 sx, .int .i64 sy, .int .i64 z, .int .i64 r, .int .i64 (G : Int), .int .i64 st, .int .i64 wd, .int .i64 tilt, .int .i64 0, .slice Ao k co] :: .blk (w.heap.size + 1) 53 #[.string ⟨#[]⟩, .int .i64 0, .int .i64 0, .int .i64 0, .int .i64 0, .int .i64 0, .int .i64 0, .int .i64 0, .int .i64 0, .int .i64 0, .slice none 0 0] :: .blk w.heap.size 28 #[.string s, .int .i64 sx, .int .i64 sy, .int .i64 z, .int .i64 r, .int .i64 (G : Int), .int .i64 st, .int .i64 wd] :: ents) wr) (fun i _ => R4 - (intOf i).toNat)
 case atStart => exact ⟨0, none, 0, [], [], by omega, rfl, rfl, (fun R h => absurd h (by simp)), HM0.out⟩
 case round =>
  obtain ⟨k, Ao, co, xs, ents, hk, rfl, hxs, hK, hM⟩ := hrel
  clear HM0
  have HM := hide hM
  have HK := hide hK
  have Hxs := hide hxs
  clear hM hK hxs
  by_cases hlt : k < R4
  ·
   have hlt3 : (k : Int) < 4 * r := by omega
   have bx : Blk wr w.heap.size 28 #[.string s, .int .i64 sx, .int .i64 sy, .int .i64 z, .int .i64 r, .int .i64 (G : Int), .int .i64 st, .int .i64 wd] := HM.out.get 3 rfl
   have ltx := bx.lt
   have x0 := bx.c 0 rfl
   have x1 := bx.c 1 rfl
   have x2 := bx.c 2 rfl
   have x3 := bx.c 3 rfl
   have x4 := bx.c 4 rfl
   have x5 := bx.c 5 rfl
   have x6 := bx.c 6 rfl
   have x7 := bx.c 7 rfl
   go_wp2_with fail
   clear bx ltx x0 x1 x2 x3 x4 x5 x6 x7
   have HMi := hide (HM.out.nilRow w.heap.size 88 14)
   clear HM
   go_loopw [11, 12] (fun o j wr => ∃ (q : Nat) (Ai : Option Addr) (ci : Nat), q ≤ G ∧ j = .int .i64 q ∧ o = .slice Ai q ci ∧ Mem w (.row w.heap.size 88 14 (.slice Ai q ci) q (rayC (eZ ms a k) q) :: .row w.heap.size 85 1 (.slice Ao k co) k xs :: .blk (w.heap.size + 2) 53 #[.string s, .int .i64 sx, .int .i64 sy, .int .i64 z, .int .i64 r, .int .i64 (G : Int), .int .i64 st, .int .i64 wd, .int .i64 tilt, .int .i64 0, .slice Ao k co] :: .blk (w.heap.size + 1) 53 #[.string ⟨#[]⟩, .int .i64 0, .int .i64 0, .int .i64 0, .int .i64 0, .int .i64 0, .int .i64 0, .int .i64 0, .int .i64 0, .int .i64 0, .slice none 0 0] :: .blk w.heap.size 28 #[.string s, .int .i64 sx, .int .i64 sy, .int .i64 z, .int .i64 r, .int .i64 (G : Int), .int .i64 st, .int .i64 wd] :: ents) wr) (fun _ j _ => G - (intOf j).toNat)
   case atStart => exact ⟨0, none, 0, by omega, rfl, rfl, HMi.out⟩
   case round =>
    obtain ⟨q, Ai, ci, hq, rfl, rfl, hM⟩ := hrel
    clear HMi
    have HM := hide hM
    clear hM
    by_cases hlq : q < G
    ·
     have hlq3 : (q : Int) < G := by omega
     obtain ⟨i0, hii, hz0, hz1, hz2⟩ := info_parts echoInfo
     have Hi := hide hii
     have Hz0 := hide hz0
     have Hz1 := hide hz1
     have Hz2 := hide hz2
     clear hii hz0 hz1 hz2
     have hsp := rayC_succ (eZ ms a k) q
     have bx : Blk wr w.heap.size 28 #[.string s, .int .i64 sx, .int .i64 sy, .int .i64 z, .int .i64 r, .int .i64 (G : Int), .int .i64 st, .int .i64 wd] := HM.out.get 4 rfl
     have ltx := bx.lt
     have x0 := bx.c 0 rfl
     have x1 := bx.c 1 rfl
     have x2 := bx.c 2 rfl
     have x3 := bx.c 3 rfl
     have x4 := bx.c 4 rfl
     have x5 := bx.c 5 rfl
     have x6 := bx.c 6 rfl
     have x7 := bx.c 7 rfl
     by_cases ha : (k : Int) = a
     ·
      subst ha
      obtain ⟨b, off, rfl, hb, hc⟩ := Hl.out.pt (by have := Hm.out; omega)
      obtain ⟨p0, p1⟩ := hc q (by have := Hm.out; omega)
      rw [show eZ ms (k : Int) k q = kE (ms.getD q (0, 0)) from if_pos rfl] at hsp
      rw [← HM.out.below.cell hb] at p0 p1
      have hbr : b < wr.heap.size := by have := HM.out.size; omega
      generalize ms.getD q (0, 0) = m at *
      obtain ⟨m1, m2⟩ := m
      simp only at p0 p1
      have ck := fun W => kindly_any m1 m2 W
      unfold kE at ck hsp
      simp only at ck hsp
      generalize (if m1 = 0 then (1 : Int) else 3) = kk at *
      unfold echC at ck hsp
      simp only at ck hsp
      have Ck := hide ck
      clear ck hc
      have Hsp := hide hsp
      clear hsp
      go_wp2_with fail
      clear p0 p1
      refine (Ck.out _).mono ?_
      rintro e w6 ⟨rfl, hb⟩
      replace HM := hide (HM.out.later hb)
      clear hb bx ltx x0 x1 x2 x3 x4 x5 x6 x7
      have hownM := Mem.row_ HM.out 0 rfl
      have hbaseM : w.heap.size ≤ w6.heap.size := HM.out.size
      go_wp2_with (at_builtin; refine wpList_append_own_at _ rfl (.tmp 32) (.tmp 38) _ rfl w.heap.size 88 i0 _ 14 112 Try.underlying85 Hi.out Hz0.out Hz1.out Hz2.out rfl (by decide) _ q (rayC (eZ ms (k : Int) k) q) rfl (hownM.alloc _) ⟨w6.heap.size, 0, none⟩ 1 1 [.int .i64 kk, .int .i64 m1, .int .i64 m2, .int .i64 0, .int .i64 0, .int .i64 0, .int .i64 0, .int .i64 0, .int .i64 0, .int .i64 0, .int .i64 0, .int .i64 0, .int .i64 0, .int .i64 0] rfl rfl ?q1c1 (by intro u hu; simp only [List.mem_cons, List.not_mem_nil, or_false] at hu; rcases hu with rfl | rfl | rfl | rfl | rfl | rfl | rfl | rfl | rfl | rfl | rfl | rfl | rfl | rfl <;> rfl) ?q1c3 ?q1c4 ?q1c5 ?_)
      try case q1c1 => exact new_cellsQ w6 _ [.int .i64 kk, .int .i64 m1, .int .i64 m2, .int .i64 0, .int .i64 0, .int .i64 0, .int .i64 0, .int .i64 0, .int .i64 0, .int .i64 0, .int .i64 0, .int .i64 0, .int .i64 0, .int .i64 0]
      case q1c3 => unfold maxLen; omega
      case q1c4 => omega
      case q1c5 => first | omega | (simp; omega)
      intro vA w9 hown2 hgr2 _ hat2
      have HMn := HM.out.grow 0 rfl _ hgr2 hown2 hat2
      replace HM := hide HMn
      clear HMn hown2 hgr2 hat2 hownM hbaseM
      obtain ⟨A9, c9, rfl⟩ := own_shape2 (Mem.row_ HM.out 0 rfl)
      go_wp2_with fail
      go_roundw
      case rel => exact ⟨q + 1, A9, c9, by omega, by go_num, rfl, by rw [Hsp.out]; exact HM.out⟩
      case measure => simp [intOf] <;> omega
     ·
      rw [show eZ ms a k q = kE (0, 0) from if_neg ha] at hsp
      unfold kE echC at hsp
      simp only [if_true] at hsp
      have had : ((k : Int) == a) = false := by simp [ha]
      have Hsp := hide hsp
      clear hsp
      go_upto_region 11 with fail
      clear bx ltx x0 x1 x2 x3 x4 x5 x6 x7
      have hownM := Mem.row_ HM.out 0 rfl
      have hbaseM : w.heap.size ≤ wr.heap.size := HM.out.size
      go_wp2_with (at_builtin; refine wpList_append_own_at _ rfl (.tmp 40) (.tmp 42) _ rfl w.heap.size 88 i0 _ 14 112 Try.underlying85 Hi.out Hz0.out Hz1.out Hz2.out rfl (by decide) _ q (rayC (eZ ms a k) q) rfl (hownM.alloc _) ⟨wr.heap.size, 0, none⟩ 1 1 [.int .i64 1, .int .i64 0, .int .i64 0, .int .i64 0, .int .i64 0, .int .i64 0, .int .i64 0, .int .i64 0, .int .i64 0, .int .i64 0, .int .i64 0, .int .i64 0, .int .i64 0, .int .i64 0] rfl rfl ?q2c1 (by intro u hu; simp only [List.mem_cons, List.not_mem_nil, or_false] at hu; rcases hu with rfl | rfl | rfl | rfl | rfl | rfl | rfl | rfl | rfl | rfl | rfl | rfl | rfl | rfl <;> rfl) ?q2c3 ?q2c4 ?q2c5 ?_)
      try case q2c1 => exact new_cellsQ wr _ [.int .i64 1, .int .i64 0, .int .i64 0, .int .i64 0, .int .i64 0, .int .i64 0, .int .i64 0, .int .i64 0, .int .i64 0, .int .i64 0, .int .i64 0, .int .i64 0, .int .i64 0, .int .i64 0]
      case q2c3 => unfold maxLen; omega
      case q2c4 => omega
      case q2c5 => first | omega | (simp; omega)
      intro vA w9 hown2 hgr2 _ hat2
      have HMn := HM.out.grow 0 rfl _ hgr2 hown2 hat2
      replace HM := hide HMn
      clear HMn hown2 hgr2 hat2 hownM hbaseM
      obtain ⟨A9, c9, rfl⟩ := own_shape2 (Mem.row_ HM.out 0 rfl)
      go_wp2_with fail
      go_roundw
      case rel => exact ⟨q + 1, A9, c9, by omega, by go_num, rfl, by rw [Hsp.out]; exact HM.out⟩
      case measure => simp [intOf] <;> omega
    ·
     obtain rfl : q = G := by omega
     have hlq3 : ¬ ((q : Int) < q) := by omega
     obtain ⟨i0, hii, hz0, hz1, hz2⟩ := info_parts echosInfo
     have Hi := hide hii
     have Hz0 := hide hz0
     have Hz1 := hide hz1
     have Hz2 := hide hz2
     clear hii hz0 hz1 hz2
     have bx : Blk wr w.heap.size 28 #[.string s, .int .i64 sx, .int .i64 sy, .int .i64 z, .int .i64 r, .int .i64 (q : Int), .int .i64 st, .int .i64 wd] := HM.out.get 4 rfl
     have ltx := bx.lt
     have x0 := bx.c 0 rfl
     have x1 := bx.c 1 rfl
     have x2 := bx.c 2 rfl
     have x3 := bx.c 3 rfl
     have x4 := bx.c 4 rfl
     have x5 := bx.c 5 rfl
     have x6 := bx.c 6 rfl
     have x7 := bx.c 7 rfl
     go_upto_region 12 with fail
     clear bx ltx x0 x1 x2 x3 x4 x5 x6 x7
     have bo : Blk wr (w.heap.size + 2) 53 #[.string s, .int .i64 sx, .int .i64 sy, .int .i64 z, .int .i64 r, .int .i64 (q : Int), .int .i64 st, .int .i64 wd, .int .i64 tilt, .int .i64 0, .slice Ao k co] := HM.out.get 2 rfl
     have lto := bo.lt
     have o0 := bo.c 0 rfl
     have fo0 := bo.frozen 0
     have o1 := bo.c 1 rfl
     have fo1 := bo.frozen 1
     have o2 := bo.c 2 rfl
     have fo2 := bo.frozen 2
     have o3 := bo.c 3 rfl
     have fo3 := bo.frozen 3
     have o4 := bo.c 4 rfl
     have fo4 := bo.frozen 4
     have o5 := bo.c 5 rfl
     have fo5 := bo.frozen 5
     have o6 := bo.c 6 rfl
     have fo6 := bo.frozen 6
     have o7 := bo.c 7 rfl
     have fo7 := bo.frozen 7
     have o8 := bo.c 8 rfl
     have fo8 := bo.frozen 8
     have o9 := bo.c 9 rfl
     have fo9 := bo.frozen 9
     have o10 := bo.c 10 rfl
     have fo10 := bo.frozen 10
     have hownM := Mem.row_ HM.out 1 rfl
     have hbaseM : w.heap.size ≤ wr.heap.size := HM.out.size
     go_wp2_with (at_builtin; refine wpList_append_own_at _ rfl (.tmp 45) (.tmp 47) _ rfl w.heap.size 85 i0 _ 1 24 Try.underlying51 Hi.out Hz0.out Hz1.out Hz2.out rfl (by decide) _ k xs rfl (hownM.alloc _) ⟨wr.heap.size, 0, none⟩ 1 1 [.slice Ai q ci] rfl rfl ?q3c1 (by intro u hu; simp only [List.mem_cons, List.not_mem_nil, or_false] at hu; rcases hu with rfl <;> rfl) ?q3c3 ?q3c4 ?q3c5 ?_)
     try case q3c1 => exact new_cellsQ wr _ [.slice Ai q ci]
     case q3c3 => unfold maxLen; omega
     case q3c4 => omega
     case q3c5 => first | omega | (simp; omega)
     intro vA w9 hown2 hgr2 _ hat2
     have HMn := HM.out.grow 1 rfl _ hgr2 hown2 hat2
     replace HM := hide HMn
     clear HMn hown2 hgr2 hat2 hownM hbaseM
     clear bo lto o0 fo0 o1 fo1 o2 fo2 o3 fo3 o4 fo4 o5 fo5 o6 fo6 o7 fo7 o8 fo8 o9 fo9 o10 fo10
     obtain ⟨A9, c9, rfl⟩ := own_shape2 (Mem.row_ HM.out 1 rfl)
     have bo : Blk w9 (w.heap.size + 2) 53 #[.string s, .int .i64 sx, .int .i64 sy, .int .i64 z, .int .i64 r, .int .i64 (q : Int), .int .i64 st, .int .i64 wd, .int .i64 tilt, .int .i64 0, .slice Ao k co] := HM.out.get 2 rfl
     have lto := bo.lt
     have o0 := bo.c 0 rfl
     have fo0 := bo.frozen 0
     have o1 := bo.c 1 rfl
     have fo1 := bo.frozen 1
     have o2 := bo.c 2 rfl
     have fo2 := bo.frozen 2
     have o3 := bo.c 3 rfl
     have fo3 := bo.frozen 3
     have o4 := bo.c 4 rfl
     have fo4 := bo.frozen 4
     have o5 := bo.c 5 rfl
     have fo5 := bo.frozen 5
     have o6 := bo.c 6 rfl
     have fo6 := bo.frozen 6
     have o7 := bo.c 7 rfl
     have fo7 := bo.frozen 7
     have o8 := bo.c 8 rfl
     have fo8 := bo.frozen 8
     have o9 := bo.c 9 rfl
     have fo9 := bo.frozen 9
     have o10 := bo.c 10 rfl
     have fo10 := bo.frozen 10
     go_wp2_with fail
     go_roundw
     case rel =>
      have hK2 := KnownE.snoc (A := Ai) (c := ci) HK.out
      rw [Hxs.out] at hK2
      exact ⟨k + 1, A9, c9, xs ++ [.slice Ai q ci], .row w.heap.size 88 14 (.slice Ai q ci) q (rayC (eZ ms a k) q) :: ents, by omega, by go_num, by simp [Hxs.out], hK2, (show Mem w (_ :: _ :: _ :: _ :: _ :: ents) _ from HM.out.set_ 2 rfl 10 (.slice A9 (k + 1) c9) rfl).perm (List.perm_middle (l₁ := [_, _, _, _])).symm⟩
     case measure => simp [intOf] <;> omega
  ·
   obtain rfl : k = R4 := by omega
   have hlt3 : ¬ ((k : Int) < 4 * r) := by omega
   have bx : Blk wr w.heap.size 28 #[.string s, .int .i64 sx, .int .i64 sy, .int .i64 z, .int .i64 r, .int .i64 (G : Int), .int .i64 st, .int .i64 wd] := HM.out.get 3 rfl
   have ltx := bx.lt
   have x0 := bx.c 0 rfl
   have x1 := bx.c 1 rfl
   have x2 := bx.c 2 rfl
   have x3 := bx.c 3 rfl
   have x4 := bx.c 4 rfl
   have x5 := bx.c 5 rfl
   have x6 := bx.c 6 rfl
   have x7 := bx.c 7 rfl
   have bo : Blk wr (w.heap.size + 2) 53 #[.string s, .int .i64 sx, .int .i64 sy, .int .i64 z, .int .i64 r, .int .i64 (G : Int), .int .i64 st, .int .i64 wd, .int .i64 tilt, .int .i64 0, .slice Ao k co] := HM.out.get 1 rfl
   have lto := bo.lt
   have o0 := bo.c 0 rfl
   have fo0 := bo.frozen 0
   have o1 := bo.c 1 rfl
   have fo1 := bo.frozen 1
   have o2 := bo.c 2 rfl
   have fo2 := bo.frozen 2
   have o3 := bo.c 3 rfl
   have fo3 := bo.frozen 3
   have o4 := bo.c 4 rfl
   have fo4 := bo.frozen 4
   have o5 := bo.c 5 rfl
   have fo5 := bo.frozen 5
   have o6 := bo.c 6 rfl
   have fo6 := bo.frozen 6
   have o7 := bo.c 7 rfl
   have fo7 := bo.frozen 7
   have o8 := bo.c 8 rfl
   have fo8 := bo.frozen 8
   have o9 := bo.c 9 rfl
   have fo9 := bo.frozen 9
   have o10 := bo.c 10 rfl
   have fo10 := bo.frozen 10
   have bp : Blk wr (w.heap.size + 1) 53 #[.string ⟨#[]⟩, .int .i64 0, .int .i64 0, .int .i64 0, .int .i64 0, .int .i64 0, .int .i64 0, .int .i64 0, .int .i64 0, .int .i64 0, .slice none 0 0] := HM.out.get 2 rfl
   have ltp := bp.lt
   have p0 := bp.c 0 rfl
   have fp0 := bp.frozen 0
   have p1 := bp.c 1 rfl
   have fp1 := bp.frozen 1
   have p2 := bp.c 2 rfl
   have fp2 := bp.frozen 2
   have p3 := bp.c 3 rfl
   have fp3 := bp.frozen 3
   have p4 := bp.c 4 rfl
   have fp4 := bp.frozen 4
   have p5 := bp.c 5 rfl
   have fp5 := bp.frozen 5
   have p6 := bp.c 6 rfl
   have fp6 := bp.frozen 6
   have p7 := bp.c 7 rfl
   have fp7 := bp.frozen 7
   have p8 := bp.c 8 rfl
   have fp8 := bp.frozen 8
   have p9 := bp.c 9 rfl
   have fp9 := bp.frozen 9
   have p10 := bp.c 10 rfl
   have fp10 := bp.frozen 10
   go_wp2
   refine ret_world fun W5 hW => ?_
   have HM5 := HM.out
   replace HM5 := HM5.set_ 2 rfl 0 (.string s) (cs' := #[.string s, .int .i64 0, .int .i64 0, .int .i64 0, .int .i64 0, .int .i64 0, .int .i64 0, .int .i64 0, .int .i64 0, .int .i64 0, .slice none 0 0]) rfl
   replace HM5 := HM5.set_ 2 rfl 1 (.int .i64 sx) (cs' := #[.string s, .int .i64 sx, .int .i64 0, .int .i64 0, .int .i64 0, .int .i64 0, .int .i64 0, .int .i64 0, .int .i64 0, .int .i64 0, .slice none 0 0]) rfl
   replace HM5 := HM5.set_ 2 rfl 2 (.int .i64 sy) (cs' := #[.string s, .int .i64 sx, .int .i64 sy, .int .i64 0, .int .i64 0, .int .i64 0, .int .i64 0, .int .i64 0, .int .i64 0, .int .i64 0, .slice none 0 0]) rfl
   replace HM5 := HM5.set_ 2 rfl 3 (.int .i64 z) (cs' := #[.string s, .int .i64 sx, .int .i64 sy, .int .i64 z, .int .i64 0, .int .i64 0, .int .i64 0, .int .i64 0, .int .i64 0, .int .i64 0, .slice none 0 0]) rfl
   replace HM5 := HM5.set_ 2 rfl 4 (.int .i64 r) (cs' := #[.string s, .int .i64 sx, .int .i64 sy, .int .i64 z, .int .i64 r, .int .i64 0, .int .i64 0, .int .i64 0, .int .i64 0, .int .i64 0, .slice none 0 0]) rfl
   replace HM5 := HM5.set_ 2 rfl 5 (.int .i64 (G : Int)) (cs' := #[.string s, .int .i64 sx, .int .i64 sy, .int .i64 z, .int .i64 r, .int .i64 (G : Int), .int .i64 0, .int .i64 0, .int .i64 0, .int .i64 0, .slice none 0 0]) rfl
   replace HM5 := HM5.set_ 2 rfl 6 (.int .i64 st) (cs' := #[.string s, .int .i64 sx, .int .i64 sy, .int .i64 z, .int .i64 r, .int .i64 (G : Int), .int .i64 st, .int .i64 0, .int .i64 0, .int .i64 0, .slice none 0 0]) rfl
   replace HM5 := HM5.set_ 2 rfl 7 (.int .i64 wd) (cs' := #[.string s, .int .i64 sx, .int .i64 sy, .int .i64 z, .int .i64 r, .int .i64 (G : Int), .int .i64 st, .int .i64 wd, .int .i64 0, .int .i64 0, .slice none 0 0]) rfl
   replace HM5 := HM5.set_ 2 rfl 8 (.int .i64 tilt) (cs' := #[.string s, .int .i64 sx, .int .i64 sy, .int .i64 z, .int .i64 r, .int .i64 (G : Int), .int .i64 st, .int .i64 wd, .int .i64 tilt, .int .i64 0, .slice none 0 0]) rfl
   replace HM5 := HM5.set_ 2 rfl 9 (.int .i64 0) (cs' := #[.string s, .int .i64 sx, .int .i64 sy, .int .i64 z, .int .i64 r, .int .i64 (G : Int), .int .i64 st, .int .i64 wd, .int .i64 tilt, .int .i64 0, .slice none 0 0]) rfl
   replace HM5 := HM5.set_ 2 rfl 10 (.slice Ao k co) (cs' := #[.string s, .int .i64 sx, .int .i64 sy, .int .i64 z, .int .i64 r, .int .i64 (G : Int), .int .i64 st, .int .i64 wd, .int .i64 tilt, .int .i64 0, .slice Ao k co]) rfl
   replace HM5 := HM5.to hW
   obtain ⟨rr, h1, h2⟩ := rays_of HM5 (HM5.row_ 0 rfl) Hxs.out HK.out (fun t ht => List.mem_cons_of_mem _ (List.mem_cons_of_mem _ (List.mem_cons_of_mem _ (List.mem_cons_of_mem _ ht)))) (by unfold maxLen; omega)
   have hb5 := HM5.below
   have hq5 : Blk W5 (w.heap.size + 1) 53 (sweepC s sx sy z r G st wd tilt 0 Ao k co) := HM5.blk_ 2 rfl
   unfold sweepC at hq5
   clear hW HM5
   have c0 := hq5.c 0 rfl
   have c1 := hq5.c 1 rfl
   have c2 := hq5.c 2 rfl
   have c3 := hq5.c 3 rfl
   have c4 := hq5.c 4 rfl
   have c5 := hq5.c 5 rfl
   have c6 := hq5.c 6 rfl
   have c7 := hq5.c 7 rfl
   have c8 := hq5.c 8 rfl
   have c9 := hq5.c 9 rfl
   have c10 := hq5.c 10 rfl
   exact bodyPost_ret (v := .agg #[.string s, .int .i64 sx, .int .i64 sy, .int .i64 z, .int .i64 r, .int .i64 (G : Int), .int .i64 st, .int .i64 wd, .int .i64 tilt, .int .i64 0, .slice Ao k co]) (by simp [results, Try.results11, go_sem, c0, c1, c2, c3, c4, c5, c6, c7, c8, c9, c10]) rfl ⟨Ao, co, rr, rfl, h1, fun i hi => ⟨by rw [(h2 i hi).1], (h2 i hi).2⟩, hb5⟩
end Go.Proofs.Ytepgpihobmjbdaa
end
section
namespace Go.Proofs.Ytepgpihobmjbdaa
open Go Go.RowKit
def pwT (zp : List Int) (G : Nat) : List Int := (List.range G).map fun j => nthV zp j % 1073741825
theorem pwT_length (zp : List Int) (G : Nat) : (pwT zp G).length = G := by simp [pwT]
theorem pwT_succ (zp : List Int) (k : Nat) : (pwT zp (k + 1)).map (Value.int .i64) = (pwT zp k).map (Value.int .i64) ++ [.int .i64 (nthV zp k % 1073741825)] := by simp [pwT, List.range_succ]
theorem pwT_in {zp : List Int} {G : Nat} : ∀ z ∈ pwT zp G, 0 ≤ z ∧ z ≤ 1073741824 := fun z hz => by
 obtain ⟨j, -, rfl⟩ := List.mem_map.1 hz
 have h1 := Int.emod_nonneg (nthV zp j) (show (1073741825 : Int) ≠ 0 by omega)
 have h2 := Int.emod_lt_of_pos (nthV zp j) (show (0 : Int) < 1073741825 by omega)
 omega
theorem intInfo : (Try.prog.info? 3).map (fun i => (i.zero, i.size, i.bytes)) = some (some (.int .i64 0), 1, 8) := by kernel_rfl
def siteC (s : ByteArray) (sx sy z r g st wd : Int) : Array Value := #[.string s, .int .i64 sx, .int .i64 sy, .int .i64 z, .int .i64 r, .int .i64 g, .int .i64 st, .int .i64 wd]
def aloftC (Ap : Option Addr) (np cp : Nat) (Ab : Option Addr) (nb cb : Nat) (Af : Option Addr) (nf cf : Nat) (Aw : Option Addr) (nw cw : Nat) : Array Value := #[.slice Ap np cp, .slice Ab nb cb, .slice Af nf cf, .slice Aw nw cw]
set_option maxRecDepth 1000000 in
noncomputable def tl1C : Code := ((loopsOf ((Try.f3.body).getD .skip))[0]?).getD .skip
set_option maxHeartbeats 8000000 in
set_option maxRecDepth 1000000 in
theorem tl1 {kc0 kc1 kc2 kc3 kc4 kc5 kc6 kc7 kc9 kc10 kc11 kc12 kc14 kc15 kc16 kc17 kc20 kc21 kc22 kc23 kc24 kc25 kc26 kc27 kc28 kc29 kc30 kc31 kc32 kc33 kc34 kc35 kc36 kc37 kc38 kc39 kc40 kc41 kc42 kc43 kc44 kc45 kc46 kc47 kc48 kc49 kc50 kc51 kc52 kc53 kc54 kc55 kc56 kc57 kc58 kc59 kc60 kc61 kc62 kc63 kc64 kc65 kc66 kc67 kc68 kc69 kc70 kc71 kc72 kc73 kc74 kc75 kc76 kc77 kc78 kc79 kc80 kc81 kc82 kc83 kc84 kc85 kc86 kc87 kc88 kc89 kc90 kc91 kc92 kc93 kc94 kc95 kc96 kc97 kc98 kc99 kc100 kc101 kc102 kc103 ku104 ku105 ku106 ku107 ku108 ku109 ku110 ku111 ku112 ku113 ku114 ku115 ku116 ku117 ku118 kc119 kc120 kc121 kc122 kc123 kc124 kc125 kc126 kc127 kc128 kc129 kc130 kc131 kc132 kc133 kc134 kc135 kc136 kc137 kc138 kc139 kc140 kc141 kc142 kc143 kc144 kc145 kc146 kc147 kc148 kc149 kc150 kc151 kc152 kc153 kc154 kc155 kc156 kc157 kc158 kc159 kc160 kc161 kc162 kc163 kc164 kc165 kc166 kc167 kc168 kc169 kc170 kc171 kc172 kc173 kc174 kc175 kc176 kc177 kc178 kc179 kc180 kc181 kc182 kc183 kc184 kc185 kc186 kc187 kc188 kc189 kc190 kc191 kc192 kc193 kc194 kc195 kc196 kc197 kc198 kc199 kc200 kc201 kc202 kc203 kc204 kc205 kc206 kc207 kc208 kc209 kc210 kc211 kc212 kc213 kc214 kc215 kc216 kc217 kc218 kc219 kc220 kc221 kc222 kc223 kc224 kc225 kc226 kc227 kc228 kc229 kc230 kc231 kc232 kc233 kc234 kc235 kc236 kc237 kc238 kc239 kc240 kc241 kc242 kc243 kc244 kc245 kc246 kc247 kc248 kc249 kc250 kc251 kc252 kc253 kc254 kc255 kc256 kc257 kc258 kc259 kc260 kc261 kc262 kc263 kc264 kc265 kc266 kc267 kc268 kc269 kc270 kc271 kc272 kc273 kc274 kc275 kc276 kc277 kc278 kc279 kc280 kc281 kc282 kc283 kc284 kc285 kc286 kc287 kc288 kc289 kc290 kc291 kc292 kc293 kc294 kc295 kc296 kc297 kc298 kc299 kc300 kc301 kc302 kc303 kc304 kc305 kc306 kc307 kc308 kc309 kc310 kc311 kc312 kc313 kc314 kc315 kc316 kc317 kc318 kc319 kc320 kc321 kc322 kc323 kc324 kc325 kc326 kc327 kc328 kc329 kc330 kc331 kc332 kc333 kc334 kc335 kc336 kc337 kc338 kc339 kc340 kc341 kc342 kc343 kc344 kc345 kc346 kc347 : Value} (s : ByteArray) (sx sy z r st wd : Int) (G : Nat) (Ap : Option Addr) (np cp : Nat) (Ab : Option Addr) (nb cb : Nat) (Af : Option Addr) (nf cf : Nat) (Aw : Option Addr) (nw cw : Nat) (zp : List Int) (g8 g13 : Nat) {Q : Exit → Act → World → Prop} {wr : World} (hG : G ≤ 200) (hzp : zp.length = np) (hnp : np ≤ 9223372036854775807) (hbp : ∀ x ∈ zp, 0 ≤ x ∧ x ≤ 4294967295) (hp : Ints wr wr.heap.size .u32 Ap zp) (hS : Blk wr g8 28 (siteC s sx sy z r G st wd)) (hX : Blk wr g13 38 (aloftC Ap np cp Ab nb cb Af nf cf Aw nw cw))
  (hexit : ∀ ⦃kv104 kv105 kv106 kv107 kv108 kv109 kv110 kv111 kv112 kv113 kv114 kv115 kv116 kv117 kv118 : Value⦄ ⦃Ao : Option Addr⦄ ⦃co : Nat⦄ ⦃w2 : World⦄, World.ownsRow w2 wr.heap.size 3 1 (.slice Ao G co) G ((pwT zp G).map (Value.int .i64)) ∧ Below wr.heap.size wr w2 → Q (.exit 0) ⟨List.toArray (kc0 :: kc1 :: kc2 :: kc3 :: kc4 :: kc5 :: kc6 :: kc7 :: .pointer (some ⟨g8, 0, none⟩) :: kc9 :: kc10 :: kc11 :: kc12 :: .pointer (some ⟨g13, 0, none⟩) :: kc14 :: kc15 :: kc16 :: kc17 :: .slice Ao G co :: .int .i64 G :: kc20 :: kc21 :: kc22 :: kc23 :: kc24 :: kc25 :: kc26 :: kc27 :: kc28 :: kc29 :: kc30 :: kc31 :: kc32 :: kc33 :: kc34 :: kc35 :: kc36 :: kc37 :: kc38 :: kc39 :: kc40 :: kc41 :: kc42 :: kc43 :: kc44 :: kc45 :: kc46 :: kc47 :: kc48 :: kc49 :: kc50 :: kc51 :: kc52 :: kc53 :: kc54 :: kc55 :: kc56 :: kc57 :: kc58 :: kc59 :: kc60 :: kc61 :: kc62 :: kc63 :: kc64 :: kc65 :: kc66 :: kc67 :: kc68 :: kc69 :: kc70 :: kc71 :: kc72 :: kc73 :: kc74 :: kc75 :: kc76 :: kc77 :: kc78 :: kc79 :: kc80 :: kc81 :: kc82 :: kc83 :: kc84 :: kc85 :: kc86 :: kc87 :: kc88 :: kc89 :: kc90 :: kc91 :: kc92 :: kc93 :: kc94 :: kc95 :: kc96 :: kc97 :: kc98 :: kc99 :: kc100 :: kc101 :: kc102 :: kc103 :: kv104 :: kv105 :: kv106 :: kv107 :: kv108 :: kv109 :: kv110 :: kv111 :: kv112 :: kv113 :: kv114 :: kv115 :: kv116 :: kv117 :: kv118 :: kc119 :: kc120 :: kc121 :: kc122 :: kc123 :: kc124 :: kc125 :: kc126 :: kc127 :: kc128 :: kc129 :: kc130 :: kc131 :: kc132 :: kc133 :: kc134 :: kc135 :: kc136 :: kc137 :: kc138 :: kc139 :: kc140 :: kc141 :: kc142 :: kc143 :: kc144 :: kc145 :: kc146 :: kc147 :: kc148 :: kc149 :: kc150 :: kc151 :: kc152 :: kc153 :: kc154 :: kc155 :: kc156 :: kc157 :: kc158 :: kc159 :: kc160 :: kc161 :: kc162 :: kc163 :: kc164 :: kc165 :: kc166 :: kc167 :: kc168 :: kc169 :: kc170 :: kc171 :: kc172 :: kc173 :: kc174 :: kc175 :: kc176 :: kc177 :: kc178 :: kc179 :: kc180 :: kc181 :: kc182 :: kc183 :: kc184 :: kc185 :: kc186 :: kc187 :: kc188 :: kc189 :: kc190 :: kc191 :: kc192 :: kc193 :: kc194 :: kc195 :: kc196 :: kc197 :: kc198 :: kc199 :: kc200 :: kc201 :: kc202 :: kc203 :: kc204 :: kc205 :: kc206 :: kc207 :: kc208 :: kc209 :: kc210 :: kc211 :: kc212 :: kc213 :: kc214 :: kc215 :: kc216 :: kc217 :: kc218 :: kc219 :: kc220 :: kc221 :: kc222 :: kc223 :: kc224 :: kc225 :: kc226 :: kc227 :: kc228 :: kc229 :: kc230 :: kc231 :: kc232 :: kc233 :: kc234 :: kc235 :: kc236 :: kc237 :: kc238 :: kc239 :: kc240 :: kc241 :: kc242 :: kc243 :: kc244 :: kc245 :: kc246 :: kc247 :: kc248 :: kc249 :: kc250 :: kc251 :: kc252 :: kc253 :: kc254 :: kc255 :: kc256 :: kc257 :: kc258 :: kc259 :: kc260 :: kc261 :: kc262 :: kc263 :: kc264 :: kc265 :: kc266 :: kc267 :: kc268 :: kc269 :: kc270 :: kc271 :: kc272 :: kc273 :: kc274 :: kc275 :: kc276 :: kc277 :: kc278 :: kc279 :: kc280 :: kc281 :: kc282 :: kc283 :: kc284 :: kc285 :: kc286 :: kc287 :: kc288 :: kc289 :: kc290 :: kc291 :: kc292 :: kc293 :: kc294 :: kc295 :: kc296 :: kc297 :: kc298 :: kc299 :: kc300 :: kc301 :: kc302 :: kc303 :: kc304 :: kc305 :: kc306 :: kc307 :: kc308 :: kc309 :: kc310 :: kc311 :: kc312 :: kc313 :: kc314 :: kc315 :: kc316 :: kc317 :: kc318 :: kc319 :: kc320 :: kc321 :: kc322 :: kc323 :: kc324 :: kc325 :: kc326 :: kc327 :: kc328 :: kc329 :: kc330 :: kc331 :: kc332 :: kc333 :: kc334 :: kc335 :: kc336 :: kc337 :: kc338 :: kc339 :: kc340 :: kc341 :: kc342 :: kc343 :: kc344 :: kc345 :: kc346 :: kc347 :: []), []⟩ w2) :
  Code.wp Try.prog tl1C Q ⟨List.toArray (kc0 :: kc1 :: kc2 :: kc3 :: kc4 :: kc5 :: kc6 :: kc7 :: .pointer (some ⟨g8, 0, none⟩) :: kc9 :: kc10 :: kc11 :: kc12 :: .pointer (some ⟨g13, 0, none⟩) :: kc14 :: kc15 :: kc16 :: kc17 :: .slice none 0 0 :: .int .i64 0 :: kc20 :: kc21 :: kc22 :: kc23 :: kc24 :: kc25 :: kc26 :: kc27 :: kc28 :: kc29 :: kc30 :: kc31 :: kc32 :: kc33 :: kc34 :: kc35 :: kc36 :: kc37 :: kc38 :: kc39 :: kc40 :: kc41 :: kc42 :: kc43 :: kc44 :: kc45 :: kc46 :: kc47 :: kc48 :: kc49 :: kc50 :: kc51 :: kc52 :: kc53 :: kc54 :: kc55 :: kc56 :: kc57 :: kc58 :: kc59 :: kc60 :: kc61 :: kc62 :: kc63 :: kc64 :: kc65 :: kc66 :: kc67 :: kc68 :: kc69 :: kc70 :: kc71 :: kc72 :: kc73 :: kc74 :: kc75 :: kc76 :: kc77 :: kc78 :: kc79 :: kc80 :: kc81 :: kc82 :: kc83 :: kc84 :: kc85 :: kc86 :: kc87 :: kc88 :: kc89 :: kc90 :: kc91 :: kc92 :: kc93 :: kc94 :: kc95 :: kc96 :: kc97 :: kc98 :: kc99 :: kc100 :: kc101 :: kc102 :: kc103 :: ku104 :: ku105 :: ku106 :: ku107 :: ku108 :: ku109 :: ku110 :: ku111 :: ku112 :: ku113 :: ku114 :: ku115 :: ku116 :: ku117 :: ku118 :: kc119 :: kc120 :: kc121 :: kc122 :: kc123 :: kc124 :: kc125 :: kc126 :: kc127 :: kc128 :: kc129 :: kc130 :: kc131 :: kc132 :: kc133 :: kc134 :: kc135 :: kc136 :: kc137 :: kc138 :: kc139 :: kc140 :: kc141 :: kc142 :: kc143 :: kc144 :: kc145 :: kc146 :: kc147 :: kc148 :: kc149 :: kc150 :: kc151 :: kc152 :: kc153 :: kc154 :: kc155 :: kc156 :: kc157 :: kc158 :: kc159 :: kc160 :: kc161 :: kc162 :: kc163 :: kc164 :: kc165 :: kc166 :: kc167 :: kc168 :: kc169 :: kc170 :: kc171 :: kc172 :: kc173 :: kc174 :: kc175 :: kc176 :: kc177 :: kc178 :: kc179 :: kc180 :: kc181 :: kc182 :: kc183 :: kc184 :: kc185 :: kc186 :: kc187 :: kc188 :: kc189 :: kc190 :: kc191 :: kc192 :: kc193 :: kc194 :: kc195 :: kc196 :: kc197 :: kc198 :: kc199 :: kc200 :: kc201 :: kc202 :: kc203 :: kc204 :: kc205 :: kc206 :: kc207 :: kc208 :: kc209 :: kc210 :: kc211 :: kc212 :: kc213 :: kc214 :: kc215 :: kc216 :: kc217 :: kc218 :: kc219 :: kc220 :: kc221 :: kc222 :: kc223 :: kc224 :: kc225 :: kc226 :: kc227 :: kc228 :: kc229 :: kc230 :: kc231 :: kc232 :: kc233 :: kc234 :: kc235 :: kc236 :: kc237 :: kc238 :: kc239 :: kc240 :: kc241 :: kc242 :: kc243 :: kc244 :: kc245 :: kc246 :: kc247 :: kc248 :: kc249 :: kc250 :: kc251 :: kc252 :: kc253 :: kc254 :: kc255 :: kc256 :: kc257 :: kc258 :: kc259 :: kc260 :: kc261 :: kc262 :: kc263 :: kc264 :: kc265 :: kc266 :: kc267 :: kc268 :: kc269 :: kc270 :: kc271 :: kc272 :: kc273 :: kc274 :: kc275 :: kc276 :: kc277 :: kc278 :: kc279 :: kc280 :: kc281 :: kc282 :: kc283 :: kc284 :: kc285 :: kc286 :: kc287 :: kc288 :: kc289 :: kc290 :: kc291 :: kc292 :: kc293 :: kc294 :: kc295 :: kc296 :: kc297 :: kc298 :: kc299 :: kc300 :: kc301 :: kc302 :: kc303 :: kc304 :: kc305 :: kc306 :: kc307 :: kc308 :: kc309 :: kc310 :: kc311 :: kc312 :: kc313 :: kc314 :: kc315 :: kc316 :: kc317 :: kc318 :: kc319 :: kc320 :: kc321 :: kc322 :: kc323 :: kc324 :: kc325 :: kc326 :: kc327 :: kc328 :: kc329 :: kc330 :: kc331 :: kc332 :: kc333 :: kc334 :: kc335 :: kc336 :: kc337 :: kc338 :: kc339 :: kc340 :: kc341 :: kc342 :: kc343 :: kc344 :: kc345 :: kc346 :: kc347 :: []), []⟩ wr := by
 have HX := hide hexit
 clear hexit
 unfold tl1C
 conv => arg 2; whnf
 unfold siteC at hS
 unfold aloftC at hX
 obtain ⟨i0, hii, hz0, hz1, hz2⟩ := info_parts intInfo
 obtain ⟨w, hw⟩ : ∃ q, q = wr := ⟨_, rfl⟩
 rw [← hw] at hp hS hX HX
 rw [← hw]
 clear hw
 have Hp := hide hp
 have HS := hide hS
 have HA := hide hX
 have Hbp := hide hbp
 have Hzp := hide hzp
 have Hi := hide hii
 have Hz0 := hide hz0
 have Hz1 := hide hz1
 have Hz2 := hide hz2
 clear hp hS hX hbp hzp hii hz0 hz1 hz2
 go_loopw [18, 19] (fun o i wr => ∃ (k : Nat) (Ao : Option Addr) (co : Nat), k ≤ G ∧ i = .int .i64 k ∧ o = .slice Ao k co ∧ Mem w [.row w.heap.size 3 1 (.slice Ao k co) k ((pwT zp k).map (Value.int .i64))] wr) (fun _ i _ => G - (intOf i).toNat)
 case atStart => exact ⟨0, none, 0, by omega, rfl, rfl, (Mem.start w).nilRow _ _ _⟩
 case round =>
  obtain ⟨k, Ao, co, hk, rfl, rfl, hM⟩ := hrel
  have hL := hM.below
  have hs' := blk_belowN HS.out hL HS.out.lt
  have hx' := blk_belowN HA.out hL HA.out.lt
  have Hs := hide hs'
  have Hx := hide hx'
  clear hs' hx'
  by_cases hlt : k < G
  ·
   have hlt3 : (k : Int) < G := by omega
   have hsz := hL.size
   have cn := fun (W : World) (h : Below wr.heap.size wr W) => nth_any Ap np cp zp k W Hzp.out hnp (by omega) ((Hp.out.below (hL.trans (h.mono hsz))).more (Nat.le_trans hsz h.size))
   have hb := nthV_bd Hbp.out k
   have hsp := pwT_succ zp k
   generalize nthV zp k = v at *
   have htm : v.tmod 1073741825 = v % 1073741825 := Int.tmod_eq_emod_of_nonneg hb.1
   have h1 := Int.emod_nonneg v (show (1073741825 : Int) ≠ 0 by omega)
   have h2 := Int.emod_lt_of_pos v (show (0 : Int) < 1073741825 by omega)
   obtain ⟨q, hq⟩ : ∃ q, v % 1073741825 = q := ⟨_, rfl⟩
   rw [hq] at hsp htm h1 h2
   have cn2 := cn wr (Below.refl _ _)
   have HM := hide hM
   have Hsp := hide hsp
   have Cn := hide cn2
   clear hM hsp cn2
   clear cn hq
   obtain ⟨x0, x1, x2, x3, x4, x5, x6, x7⟩ := Hs.out.c8
   have ltx := Hs.out.lt
   obtain ⟨y0, y1, y2, y3⟩ := Hx.out.c4
   have lty := Hx.out.lt
   go_wp2_with fail
   refine (Cn.out).mono ?_
   rintro e w5 ⟨rfl, hb⟩
   replace HM := hide (HM.out.later hb)
   replace Hs := hide (blk_later Hs.out hb)
   replace Hx := hide (blk_later Hx.out hb)
   clear hb x0 x1 x2 x3 x4 x5 x6 x7 ltx y0 y1 y2 y3 lty
   have hownM := Mem.row_ HM.out 0 rfl
   have hbaseM : w.heap.size ≤ w5.heap.size := HM.out.size
   go_wp2_with (at_builtin; refine wpList_append_own_at _ rfl (.tmp 110) (.tmp 117) _ rfl w.heap.size 3 i0 _ 1 8 Try.underlying45 Hi.out Hz0.out Hz1.out Hz2.out rfl (by decide) _ k ((pwT zp k).map (Value.int .i64)) rfl (hownM.alloc _) ⟨w5.heap.size, 0, none⟩ 1 1 [.int .i64 q] rfl rfl ?q1c1 (by intro u hu; simp only [List.mem_cons, List.not_mem_nil, or_false] at hu; rcases hu with rfl <;> rfl) ?q1c3 ?q1c4 ?q1c5 ?_)
   try case q1c1 => exact new_cellsQ w5 _ [.int .i64 q]
   case q1c3 => unfold maxLen; omega
   case q1c4 => omega
   case q1c5 => first | omega | (simp; omega)
   intro vA w9 hown2 hgr2 _ hat2
   have HMn := HM.out.grow 0 rfl _ hgr2 hown2 hat2
   replace HM := hide HMn
   clear HMn hown2 hgr2 hat2 hownM hbaseM
   obtain ⟨A9, c9, rfl⟩ := own_shape2 (Mem.row_ HM.out 0 rfl)
   go_wp2_with fail
   go_roundw
   case rel => exact ⟨k + 1, A9, c9, by omega, by go_num, rfl, by rw [Hsp.out]; exact HM.out⟩
   case measure => simp [intOf] <;> omega
  ·
   obtain rfl : k = G := by omega
   have hlt3 : ¬ ((k : Int) < k) := by omega
   obtain ⟨x0, x1, x2, x3, x4, x5, x6, x7⟩ := Hs.out.c8
   have ltx := Hs.out.lt
   go_wp2_with fail
   exact HX.out ⟨hM.row_ 0 rfl, hL⟩
end Go.Proofs.Ytepgpihobmjbdaa
end
section
namespace Go.Proofs.Ytepgpihobmjbdaa
open Go Go.RowKit
def elT (z : List Int) (j : Nat) : Int := if j < z.length then z.getD j 0 else 0
def leftT (n : Int) (bl : List (Int × Int)) (zb : List Int) (j : Nat) : Int := n - ((bl.getD j (0, 0)).1 + elT zb j % ((bl.getD j (0, 0)).2 - (bl.getD j (0, 0)).1 + 1))
def measT (n : Int) (pa bl : List (Int × Int)) (zb zw : List Int) (k : Nat) : List (Int × Int) := (List.range k).map fun j => measZ n (pa.getD j (0, 0)) (leftT n bl zb j) (elT zw j)
theorem measT_length {n : Int} {pa bl : List (Int × Int)} {zb zw : List Int} {k : Nat} : (measT n pa bl zb zw k).length = k := by simp [measT]
theorem measT_get {n : Int} {pa bl : List (Int × Int)} {zb zw : List Int} {k j : Nat} (h : j < k) : (measT n pa bl zb zw k).getD j (0, 0) = measZ n (pa.getD j (0, 0)) (leftT n bl zb j) (elT zw j) := by simp [measT, List.getD, h]
theorem measT_succ (n : Int) (pa bl : List (Int × Int)) (zb zw : List Int) (k : Nat) : spanCells (measT n pa bl zb zw (k + 1)) = spanCells (measT n pa bl zb zw k) ++ (#[.int .i64 (measZ n (pa.getD k (0, 0)) (leftT n bl zb k) (elT zw k)).1, .int .i64 (measZ n (pa.getD k (0, 0)) (leftT n bl zb k) (elT zw k)).2] : Array Value).toList := by
 rw [spanCells_snoc]
 simp [measT, List.range_succ]
theorem elT_bd {z : List Int} {M : Int} (h : ∀ x ∈ z, 0 ≤ x ∧ x ≤ M) (hM : 0 ≤ M) (j : Nat) : 0 ≤ elT z j ∧ elT z j ≤ M := by
 unfold elT
 split
 ·
  rename_i hj
  simp only [List.getD, List.getElem?_eq_getElem hj, Option.getD_some]
  exact h _ (List.getElem_mem hj)
 · omega
theorem leftT_bd {n : Int} {bl : List (Int × Int)} {zb : List Int} {j : Nat} (h : (bl.getD j (0, 0)).1 ≤ (bl.getD j (0, 0)).2) : n - (bl.getD j (0, 0)).2 ≤ leftT n bl zb j ∧ leftT n bl zb j ≤ n - (bl.getD j (0, 0)).1 := by
 unfold leftT
 have h1 := Int.emod_nonneg (elT zb j) (show (bl.getD j (0, 0)).2 - (bl.getD j (0, 0)).1 + 1 ≠ 0 by omega)
 have h2 := Int.emod_lt_of_pos (elT zb j) (show 0 < (bl.getD j (0, 0)).2 - (bl.getD j (0, 0)).1 + 1 by omega)
 omega
set_option maxRecDepth 1000000 in
noncomputable def tl2C : Code := ((loopsOf ((Try.f3.body).getD .skip))[1]?).getD .skip
set_option maxHeartbeats 8000000 in
set_option maxRecDepth 1000000 in
theorem tl2 {kc0 kc1 kc2 kc3 kc4 kc5 kc6 kc7 kc9 kc10 kc11 kc12 kc14 kc15 kc17 kc18 kc19 ku24 ku25 ku26 ku27 ku28 kc29 kc30 kc31 kc32 kc33 kc34 kc35 kc36 kc37 kc38 kc39 kc40 kc41 kc42 kc43 kc44 kc45 kc46 kc47 kc48 kc49 kc50 kc51 kc52 kc53 kc54 kc55 kc56 kc57 kc58 kc59 kc60 kc61 kc62 kc63 kc64 kc65 kc66 kc67 kc68 kc69 kc70 kc71 kc72 kc73 kc74 kc75 kc76 kc77 kc78 kc79 kc80 kc81 kc82 kc83 kc84 kc85 kc86 kc87 kc88 kc89 kc90 kc91 kc92 kc93 kc94 kc95 kc96 kc97 kc98 kc99 kc100 kc101 kc102 kc103 kc104 kc105 kc106 kc107 kc108 kc109 kc110 kc111 kc112 kc113 kc114 kc115 kc116 kc117 kc118 kc119 kc120 kc121 kc122 kc123 kc124 kc125 kc126 kc127 kc128 kc129 kc130 kc131 kc132 kc133 kc134 kc135 kc136 kc137 kc138 ku139 ku140 ku141 ku142 ku143 ku144 ku145 ku146 ku147 ku148 ku149 ku150 ku151 ku152 ku153 ku154 ku155 ku156 ku157 ku158 ku159 ku160 ku161 ku162 ku163 ku164 ku165 ku166 ku167 ku168 ku169 ku170 ku171 ku172 ku173 ku174 ku175 ku176 ku177 ku178 ku179 ku180 ku181 ku182 ku183 ku184 ku185 ku186 ku187 ku188 ku189 ku190 ku191 ku192 ku193 ku194 ku195 ku196 ku197 ku198 ku199 ku200 ku201 ku202 ku203 ku204 ku205 ku206 ku207 ku208 ku209 ku210 ku211 ku212 ku213 ku214 ku215 ku216 ku217 ku218 ku219 ku220 ku221 kc222 kc223 kc224 kc225 kc226 kc227 kc228 kc229 kc230 kc231 kc232 kc233 kc234 kc235 kc236 kc237 kc238 kc239 kc240 kc241 kc242 kc243 kc244 kc245 kc246 kc247 kc248 kc249 kc250 kc251 kc252 kc253 kc254 kc255 kc256 kc257 kc258 kc259 kc260 kc261 kc262 kc263 kc264 kc265 kc266 kc267 kc268 kc269 kc270 kc271 kc272 kc273 kc274 kc275 kc276 kc277 kc278 kc279 kc280 kc281 kc282 kc283 kc284 kc285 kc286 kc287 kc288 kc289 kc290 kc291 kc292 kc293 kc294 kc295 kc296 kc297 kc298 kc299 kc300 kc301 kc302 kc303 kc304 kc305 kc306 kc307 kc308 kc309 kc310 kc311 kc312 kc313 kc314 kc315 kc316 kc317 kc318 kc319 kc320 kc321 kc322 kc323 kc324 kc325 kc326 kc327 kc328 kc329 kc330 kc331 kc332 kc333 kc334 kc335 kc336 kc337 kc338 kc339 kc340 kc341 kc342 kc343 kc344 kc345 kc346 kc347 : Value} (s : ByteArray) (sx sy z r st wd n : Int) (G : Nat) (Ap : Option Addr) (np cp : Nat) (Ab : Option Addr) (nb cb : Nat) (Af : Option Addr) (nf cf : Nat) (Aw : Option Addr) (nw cw : Nat) (zb zw : List Int) (Al : Option Addr) (cl : Nat) (bl : List (Int × Int)) (Aq : Option Addr) (cq : Nat) (pa : List (Int × Int)) (g8 g13 : Nat) {Q : Exit → Act → World → Prop} {wr : World} (hG : G ≤ 200) (hn : 1 ≤ n ∧ n ≤ 17) (hzb : zb.length = nb) (hzw : zw.length = nw) (hbb : ∀ x ∈ zb, 0 ≤ x ∧ x ≤ 255) (hbw : ∀ x ∈ zw, 0 ≤ x ∧ x ≤ 65535) (hbl : bl.length = G) (hpa : pa.length = G) (hb : ∀ j, j < G → 0 ≤ (bl.getD j (0, 0)).1 ∧ (bl.getD j (0, 0)).1 ≤ (bl.getD j (0, 0)).2 ∧ (bl.getD j (0, 0)).2 ≤ n) (hok : ∀ j, j < G → okM (pa.getD j (0, 0)) = true) (hIb : Ints wr wr.heap.size .u8 Ab zb) (hIw : Ints wr wr.heap.size .u16 Aw zw) (hIl : Ints wr wr.heap.size .i64 Al (flat2 bl)) (hIq : Ints wr wr.heap.size .i64 Aq (flat2 pa)) (hS : Blk wr g8 28 (siteC s sx sy z r G st wd)) (hX : Blk wr g13 38 (aloftC Ap np cp Ab nb cb Af nf cf Aw nw cw))
  (hexit : ∀ ⦃kv24 kv25 kv26 kv27 kv28 kv139 kv140 kv141 kv142 kv143 kv144 kv145 kv146 kv147 kv148 kv149 kv150 kv151 kv152 kv153 kv154 kv155 kv156 kv157 kv158 kv159 kv160 kv161 kv162 kv163 kv164 kv165 kv166 kv167 kv168 kv169 kv170 kv171 kv172 kv173 kv174 kv175 kv176 kv177 kv178 kv179 kv180 kv181 kv182 kv183 kv184 kv185 kv186 kv187 kv188 kv189 kv190 kv191 kv192 kv193 kv194 kv195 kv196 kv197 kv198 kv199 kv200 kv201 kv202 kv203 kv204 kv205 kv206 kv207 kv208 kv209 kv210 kv211 kv212 kv213 kv214 kv215 kv216 kv217 kv218 kv219 kv220 kv221 : Value⦄ ⦃Ao : Option Addr⦄ ⦃co : Nat⦄ ⦃w2 : World⦄, World.ownsRow w2 wr.heap.size 24 2 (.slice Ao G co) G (spanCells (measT n pa bl zb zw G)) ∧ Below wr.heap.size wr w2 → Q (.exit 2) ⟨List.toArray (kc0 :: kc1 :: kc2 :: kc3 :: kc4 :: kc5 :: kc6 :: kc7 :: .pointer (some ⟨g8, 0, none⟩) :: kc9 :: kc10 :: kc11 :: kc12 :: .pointer (some ⟨g13, 0, none⟩) :: kc14 :: kc15 :: .slice Al G cl :: kc17 :: kc18 :: kc19 :: .slice Aq G cq :: .int .i64 n :: .slice Ao G co :: .int .i64 G :: kv24 :: kv25 :: kv26 :: kv27 :: kv28 :: kc29 :: kc30 :: kc31 :: kc32 :: kc33 :: kc34 :: kc35 :: kc36 :: kc37 :: kc38 :: kc39 :: kc40 :: kc41 :: kc42 :: kc43 :: kc44 :: kc45 :: kc46 :: kc47 :: kc48 :: kc49 :: kc50 :: kc51 :: kc52 :: kc53 :: kc54 :: kc55 :: kc56 :: kc57 :: kc58 :: kc59 :: kc60 :: kc61 :: kc62 :: kc63 :: kc64 :: kc65 :: kc66 :: kc67 :: kc68 :: kc69 :: kc70 :: kc71 :: kc72 :: kc73 :: kc74 :: kc75 :: kc76 :: kc77 :: kc78 :: kc79 :: kc80 :: kc81 :: kc82 :: kc83 :: kc84 :: kc85 :: kc86 :: kc87 :: kc88 :: kc89 :: kc90 :: kc91 :: kc92 :: kc93 :: kc94 :: kc95 :: kc96 :: kc97 :: kc98 :: kc99 :: kc100 :: kc101 :: kc102 :: kc103 :: kc104 :: kc105 :: kc106 :: kc107 :: kc108 :: kc109 :: kc110 :: kc111 :: kc112 :: kc113 :: kc114 :: kc115 :: kc116 :: kc117 :: kc118 :: kc119 :: kc120 :: kc121 :: kc122 :: kc123 :: kc124 :: kc125 :: kc126 :: kc127 :: kc128 :: kc129 :: kc130 :: kc131 :: kc132 :: kc133 :: kc134 :: kc135 :: kc136 :: kc137 :: kc138 :: kv139 :: kv140 :: kv141 :: kv142 :: kv143 :: kv144 :: kv145 :: kv146 :: kv147 :: kv148 :: kv149 :: kv150 :: kv151 :: kv152 :: kv153 :: kv154 :: kv155 :: kv156 :: kv157 :: kv158 :: kv159 :: kv160 :: kv161 :: kv162 :: kv163 :: kv164 :: kv165 :: kv166 :: kv167 :: kv168 :: kv169 :: kv170 :: kv171 :: kv172 :: kv173 :: kv174 :: kv175 :: kv176 :: kv177 :: kv178 :: kv179 :: kv180 :: kv181 :: kv182 :: kv183 :: kv184 :: kv185 :: kv186 :: kv187 :: kv188 :: kv189 :: kv190 :: kv191 :: kv192 :: kv193 :: kv194 :: kv195 :: kv196 :: kv197 :: kv198 :: kv199 :: kv200 :: kv201 :: kv202 :: kv203 :: kv204 :: kv205 :: kv206 :: kv207 :: kv208 :: kv209 :: kv210 :: kv211 :: kv212 :: kv213 :: kv214 :: kv215 :: kv216 :: kv217 :: kv218 :: kv219 :: kv220 :: kv221 :: kc222 :: kc223 :: kc224 :: kc225 :: kc226 :: kc227 :: kc228 :: kc229 :: kc230 :: kc231 :: kc232 :: kc233 :: kc234 :: kc235 :: kc236 :: kc237 :: kc238 :: kc239 :: kc240 :: kc241 :: kc242 :: kc243 :: kc244 :: kc245 :: kc246 :: kc247 :: kc248 :: kc249 :: kc250 :: kc251 :: kc252 :: kc253 :: kc254 :: kc255 :: kc256 :: kc257 :: kc258 :: kc259 :: kc260 :: kc261 :: kc262 :: kc263 :: kc264 :: kc265 :: kc266 :: kc267 :: kc268 :: kc269 :: kc270 :: kc271 :: kc272 :: kc273 :: kc274 :: kc275 :: kc276 :: kc277 :: kc278 :: kc279 :: kc280 :: kc281 :: kc282 :: kc283 :: kc284 :: kc285 :: kc286 :: kc287 :: kc288 :: kc289 :: kc290 :: kc291 :: kc292 :: kc293 :: kc294 :: kc295 :: kc296 :: kc297 :: kc298 :: kc299 :: kc300 :: kc301 :: kc302 :: kc303 :: kc304 :: kc305 :: kc306 :: kc307 :: kc308 :: kc309 :: kc310 :: kc311 :: kc312 :: kc313 :: kc314 :: kc315 :: kc316 :: kc317 :: kc318 :: kc319 :: kc320 :: kc321 :: kc322 :: kc323 :: kc324 :: kc325 :: kc326 :: kc327 :: kc328 :: kc329 :: kc330 :: kc331 :: kc332 :: kc333 :: kc334 :: kc335 :: kc336 :: kc337 :: kc338 :: kc339 :: kc340 :: kc341 :: kc342 :: kc343 :: kc344 :: kc345 :: kc346 :: kc347 :: []), []⟩ w2) :
  Code.wp Try.prog tl2C Q ⟨List.toArray (kc0 :: kc1 :: kc2 :: kc3 :: kc4 :: kc5 :: kc6 :: kc7 :: .pointer (some ⟨g8, 0, none⟩) :: kc9 :: kc10 :: kc11 :: kc12 :: .pointer (some ⟨g13, 0, none⟩) :: kc14 :: kc15 :: .slice Al G cl :: kc17 :: kc18 :: kc19 :: .slice Aq G cq :: .int .i64 n :: .slice none 0 0 :: .int .i64 0 :: ku24 :: ku25 :: ku26 :: ku27 :: ku28 :: kc29 :: kc30 :: kc31 :: kc32 :: kc33 :: kc34 :: kc35 :: kc36 :: kc37 :: kc38 :: kc39 :: kc40 :: kc41 :: kc42 :: kc43 :: kc44 :: kc45 :: kc46 :: kc47 :: kc48 :: kc49 :: kc50 :: kc51 :: kc52 :: kc53 :: kc54 :: kc55 :: kc56 :: kc57 :: kc58 :: kc59 :: kc60 :: kc61 :: kc62 :: kc63 :: kc64 :: kc65 :: kc66 :: kc67 :: kc68 :: kc69 :: kc70 :: kc71 :: kc72 :: kc73 :: kc74 :: kc75 :: kc76 :: kc77 :: kc78 :: kc79 :: kc80 :: kc81 :: kc82 :: kc83 :: kc84 :: kc85 :: kc86 :: kc87 :: kc88 :: kc89 :: kc90 :: kc91 :: kc92 :: kc93 :: kc94 :: kc95 :: kc96 :: kc97 :: kc98 :: kc99 :: kc100 :: kc101 :: kc102 :: kc103 :: kc104 :: kc105 :: kc106 :: kc107 :: kc108 :: kc109 :: kc110 :: kc111 :: kc112 :: kc113 :: kc114 :: kc115 :: kc116 :: kc117 :: kc118 :: kc119 :: kc120 :: kc121 :: kc122 :: kc123 :: kc124 :: kc125 :: kc126 :: kc127 :: kc128 :: kc129 :: kc130 :: kc131 :: kc132 :: kc133 :: kc134 :: kc135 :: kc136 :: kc137 :: kc138 :: ku139 :: ku140 :: ku141 :: ku142 :: ku143 :: ku144 :: ku145 :: ku146 :: ku147 :: ku148 :: ku149 :: ku150 :: ku151 :: ku152 :: ku153 :: ku154 :: ku155 :: ku156 :: ku157 :: ku158 :: ku159 :: ku160 :: ku161 :: ku162 :: ku163 :: ku164 :: ku165 :: ku166 :: ku167 :: ku168 :: ku169 :: ku170 :: ku171 :: ku172 :: ku173 :: ku174 :: ku175 :: ku176 :: ku177 :: ku178 :: ku179 :: ku180 :: ku181 :: ku182 :: ku183 :: ku184 :: ku185 :: ku186 :: ku187 :: ku188 :: ku189 :: ku190 :: ku191 :: ku192 :: ku193 :: ku194 :: ku195 :: ku196 :: ku197 :: ku198 :: ku199 :: ku200 :: ku201 :: ku202 :: ku203 :: ku204 :: ku205 :: ku206 :: ku207 :: ku208 :: ku209 :: ku210 :: ku211 :: ku212 :: ku213 :: ku214 :: ku215 :: ku216 :: ku217 :: ku218 :: ku219 :: ku220 :: ku221 :: kc222 :: kc223 :: kc224 :: kc225 :: kc226 :: kc227 :: kc228 :: kc229 :: kc230 :: kc231 :: kc232 :: kc233 :: kc234 :: kc235 :: kc236 :: kc237 :: kc238 :: kc239 :: kc240 :: kc241 :: kc242 :: kc243 :: kc244 :: kc245 :: kc246 :: kc247 :: kc248 :: kc249 :: kc250 :: kc251 :: kc252 :: kc253 :: kc254 :: kc255 :: kc256 :: kc257 :: kc258 :: kc259 :: kc260 :: kc261 :: kc262 :: kc263 :: kc264 :: kc265 :: kc266 :: kc267 :: kc268 :: kc269 :: kc270 :: kc271 :: kc272 :: kc273 :: kc274 :: kc275 :: kc276 :: kc277 :: kc278 :: kc279 :: kc280 :: kc281 :: kc282 :: kc283 :: kc284 :: kc285 :: kc286 :: kc287 :: kc288 :: kc289 :: kc290 :: kc291 :: kc292 :: kc293 :: kc294 :: kc295 :: kc296 :: kc297 :: kc298 :: kc299 :: kc300 :: kc301 :: kc302 :: kc303 :: kc304 :: kc305 :: kc306 :: kc307 :: kc308 :: kc309 :: kc310 :: kc311 :: kc312 :: kc313 :: kc314 :: kc315 :: kc316 :: kc317 :: kc318 :: kc319 :: kc320 :: kc321 :: kc322 :: kc323 :: kc324 :: kc325 :: kc326 :: kc327 :: kc328 :: kc329 :: kc330 :: kc331 :: kc332 :: kc333 :: kc334 :: kc335 :: kc336 :: kc337 :: kc338 :: kc339 :: kc340 :: kc341 :: kc342 :: kc343 :: kc344 :: kc345 :: kc346 :: kc347 :: []), []⟩ wr := by
 have HX := hide hexit
 clear hexit
 unfold tl2C
 conv => arg 2; whnf
 unfold siteC at hS
 unfold aloftC at hX
 obtain ⟨i0, hii, hz0, hz1, hz2⟩ := info_parts spanInfo
 obtain ⟨w, hw⟩ : ∃ q, q = wr := ⟨_, rfl⟩
 rw [← hw] at hIb hIw hIl hIq hS hX HX
 rw [← hw]
 clear hw
 have Hib := hide hIb
 have Hiw := hide hIw
 have Hil := hide hIl
 have Hiq := hide hIq
 have HS := hide hS
 have HA := hide hX
 have Hbb := hide hbb
 have Hbw := hide hbw
 have Hzb := hide hzb
 have Hzw := hide hzw
 have Hbl := hide hbl
 have Hpa := hide hpa
 have Hb := hide hb
 have Hok := hide hok
 have Hi := hide hii
 have Hz0 := hide hz0
 have Hz1 := hide hz1
 have Hz2 := hide hz2
 clear hIb hIw hIl hIq hS hX hbb hbw hzb hzw hbl hpa hb hok hii hz0 hz1 hz2
 go_loopw [22, 23] (fun o i wr => ∃ (k : Nat) (Ao : Option Addr) (co : Nat), k ≤ G ∧ i = .int .i64 k ∧ o = .slice Ao k co ∧ Mem w [.row w.heap.size 24 2 (.slice Ao k co) k (spanCells (measT n pa bl zb zw k))] wr) (fun _ i _ => G - (intOf i).toNat)
 case atStart => exact ⟨0, none, 0, by omega, rfl, rfl, (Mem.start w).nilRow _ _ _⟩
 case round =>
  obtain ⟨k, Ao, co, hk, rfl, rfl, hM⟩ := hrel
  have hL := hM.below
  have hs' := blk_belowN HS.out hL HS.out.lt
  have hx' := blk_belowN HA.out hL HA.out.lt
  have Hs := hide hs'
  have Hx := hide hx'
  clear hs' hx'
  by_cases hlt : k < G
  ·
   have hlt3 : (k : Int) < G := by omega
   have hsz := hL.size
   have hsp := measT_succ n pa bl zb zw k
   obtain ⟨b0, b1, b2⟩ := Hb.out k hlt
   have hlb := leftT_bd (n := n) (bl := bl) (zb := zb) (j := k) b1
   have hbz := elT_bd Hbb.out (by omega) k
   have hwz := elT_bd Hbw.out (by omega) k
   have hkm := Hok.out k hlt
   obtain ⟨d1, d2, d3, m1, m2, m3, m4⟩ := meas_bd hn.1 hkm (left := leftT n bl zb k) ⟨by omega, by omega⟩
   obtain ⟨o1, o2, o3⟩ := okM_iff hkm
   obtain ⟨bx, ox, rfl, hbx, hcx⟩ := Hil.out.pt (by have := Hbl.out; omega)
   obtain ⟨p0, p1⟩ := hcx k (by have := Hbl.out; omega)
   obtain ⟨by', oy, rfl, hby, hcy⟩ := Hiq.out.pt (by have := Hpa.out; omega)
   obtain ⟨q0, q1⟩ := hcy k (by have := Hpa.out; omega)
   rw [← hL.cell hbx] at p0 p1
   rw [← hL.cell hby] at q0 q1
   have hbx2 : bx < wr.heap.size := by omega
   have hby2 : by' < wr.heap.size := by omega
   have hle : elT zb k = if k < zb.length then zb.getD k 0 else 0 := rfl
   have hlw : elT zw k = if k < zw.length then zw.getD k 0 else 0 := rfl
   have hlf : leftT n bl zb k = n - ((bl.getD k (0, 0)).1 + elT zb k % ((bl.getD k (0, 0)).2 - (bl.getD k (0, 0)).1 + 1)) := rfl
   rw [Hzb.out] at hle
   rw [Hzw.out] at hlw
   generalize bl.getD k (0, 0) = bk at *
   generalize pa.getD k (0, 0) = pk at *
   obtain ⟨bk1, bk2⟩ := bk
   obtain ⟨pk1, pk2⟩ := pk
   simp only at b0 b1 b2 hlb d1 d2 d3 m1 m2 m3 m4 o1 o2 o3 p0 p1 q0 q1 hlf
   generalize leftT n bl zb k = L at *
   unfold measZ at hsp
   simp only at hsp
   generalize elT zb k = ev at *
   generalize elT zw k = wv at *
   have hD0 : ¬ bk2 - bk1 + 1 = 0 := by omega
   have hDp : 0 < bk2 - bk1 + 1 := by omega
   have htm : ev.tmod (bk2 - bk1 + 1) = ev % (bk2 - bk1 + 1) := Int.tmod_eq_emod_of_nonneg hbz.1
   have hr0 := Int.emod_nonneg ev hD0
   have hr1 := Int.emod_lt_of_pos ev hDp
   generalize ev % (bk2 - bk1 + 1) = rq at *
   have hn0 : ¬ n = 0 := by omega
   have hL0 : 0 ≤ L := by omega
   have hL1 : L ≤ 17 := by omega
   have hM1 : pk1 * L ≤ 1073741824 * 17 := Int.mul_le_mul (by omega) hL1 hL0 (by omega)
   have hM2 : pk2 * L ≤ 1073741824 * 17 := Int.mul_le_mul (by omega) hL1 hL0 (by omega)
   have t1 : (pk1 * L).tdiv n = pk1 * L / n := Int.tdiv_eq_ediv_of_nonneg m1
   have t2 : (pk2 * L + n - 1).tdiv n = (pk2 * L + n - 1) / n := Int.tdiv_eq_ediv_of_nonneg (by omega)
   have d4 : (pk2 * L + n - 1) / n ≤ 1073741824 * 17 + 16 := Int.le_trans (Int.ediv_le_self _ (by omega)) (by omega)
   obtain ⟨M1, hMM1⟩ : ∃ q, pk1 * L = q := ⟨_, rfl⟩
   obtain ⟨M2, hMM2⟩ : ∃ q, pk2 * L = q := ⟨_, rfl⟩
   rw [hMM1] at t1 hsp d1 d2 d3 hM1 m1
   rw [hMM2] at t2 hsp d3 d4 hM2 m2
   clear m3 m4 hkm
   generalize M1 / n = lo at *
   generalize (M2 + n - 1) / n = hh at *
   obtain ⟨v1, hv1⟩ : ∃ q, max 0 (lo - wv) = q := ⟨_, rfl⟩
   obtain ⟨v2, hv2⟩ : ∃ q, min 1073741824 (hh + wv) = q := ⟨_, rfl⟩
   have hv1a : (if 0 < lo - wv then lo - wv else 0) = v1 := by rw [← hv1]; split <;> omega
   have hv1b : (if wv < lo then lo - wv else 0) = v1 := by rw [← hv1]; split <;> omega
   have hv2a : (if hh + wv < 1073741824 then hh + wv else 1073741824) = v2 := by rw [← hv2]; split <;> omega
   rw [hv1, hv2] at hsp
   have hP := And.intro p0 (And.intro p1 (And.intro q0 q1))
   have hlf2 : n - (bk1 + rq) = L := hlf.symm
   have hnn := hn
   clear hcx hcy hlf hn
   have HM := hide hM
   have Hsp := hide hsp
   have HP := hide hP
   clear hM hsp hP
   clear p0 p1 q0 q1 hL
   by_cases hjb : k < nb
   ·
    rw [if_pos hjb] at hle
    have hjb3 : (k : Int) < nb := by omega
    obtain ⟨be, oe, rfl, hbe, hce⟩ := Hib.out (by have := Hzb.out; omega)
    have pe := hce k (by have := Hzb.out; omega)
    rw [← hle] at pe
    rw [← HM.out.below.cell hbe] at pe
    have hbe2 : be < wr.heap.size := by omega
    clear hce hle
    by_cases hjw : k < nw
    ·
     rw [if_pos hjw] at hlw
     have hjw3 : (k : Int) < nw := by omega
     obtain ⟨bf, of, rfl, hbf, hcf⟩ := Hiw.out (by have := Hzw.out; omega)
     have pf := hcf k (by have := Hzw.out; omega)
     rw [← hlw] at pf
     rw [← HM.out.below.cell hbf] at pf
     have hbf2 : bf < wr.heap.size := by omega
     clear hcf hlw
     obtain ⟨x0, x1, x2, x3, x4, x5, x6, x7⟩ := Hs.out.c8
     have ltx := Hs.out.lt
     obtain ⟨y0, y1, y2, y3⟩ := Hx.out.c4
     have lty := Hx.out.lt
     go_upto_region 27 with fail
     clear x0 x1 x2 x3 x4 x5 x6 x7 ltx y0 y1 y2 y3 lty
     obtain ⟨p0, p1, q0, q1⟩ := HP.out
     apply wp_region_L (w0 := wr) [[], [], [], [], [], [], [], [], [], [], [], [], [], [], [], [], [], [], [], [], [], [], []] [true, true, true, true, true, true, true, true, true, true, true, true, true, true, true, true, true, true, true, true, true, true, true] [] (fun ixq y => match ixq with  | _ => undef) (fun ixq x F wq => match ixq with  | _ => True) (fun a x => a) (by kernel_rfl) (by kernel_rfl) (fun _ => rfl) [] (by kernel_rfl)
     ·
      intro x D hD
      have hne := hD.some
      have k0 := liftB hD p0 (by first | assumption | omega)
      have k1 := liftB hD p1 (by first | assumption | omega)
      simp only [takeOps, Act.put, List.setIfInBounds_toArray, List.set_cons_succ, List.set_cons_zero]
      repeat (go_big_quiet_step (fail))
      exact wpQuiet_nil rfl
     · exact fun _ h => absurd h (by simp)
     · exact trivial
     · exact trivial
     intro xx w5 F hK hlv1
     clear hlv1
     have hby5 : by' < w5.heap.size := Nat.lt_of_lt_of_le hby2 hK.size
     clear p0 p1
     rw [← hK.cell hby2] at q0 q1
     replace HM := hide (HM.out.later hK)
     replace Hs := hide (blk_later Hs.out hK)
     replace Hx := hide (blk_later Hx.out hK)
     clear hK
     go_wp2_with fail
     apply wp_region_L (w0 := w5) [[], [], [], [], [], [], [], [], [], [], [], [], [], [], [], [], [], [], [], [], [], [], []] [true, true, true, true, true, true, true, true, true, true, true, true, true, true, true, true, true, true, true, true, true, true, true] [] (fun ixq y => match ixq with  | _ => undef) (fun ixq x F wq => match ixq with  | _ => True) (fun a x => a) (by kernel_rfl) (by kernel_rfl) (fun _ => rfl) [] (by kernel_rfl)
     ·
      intro x D hD
      have hne := hD.some
      have k0 := liftB hD q0 (by first | assumption | omega)
      have k1 := liftB hD q1 (by first | assumption | omega)
      simp only [takeOps, Act.put, List.setIfInBounds_toArray, List.set_cons_succ, List.set_cons_zero]
      repeat (go_big_quiet_step (fail))
      exact wpQuiet_nil rfl
     · exact fun _ h => absurd h (by simp)
     · exact trivial
     · exact trivial
     intro xx2 w6 F hK hlv2
     clear hlv2
     clear q0 q1
     replace HM := hide (HM.out.later hK)
     replace Hs := hide (blk_later Hs.out hK)
     replace Hx := hide (blk_later Hx.out hK)
     clear hK
     have hownM := Mem.row_ HM.out 0 rfl
     have hbaseM : w.heap.size ≤ w6.heap.size := HM.out.size
     go_wp2_with (at_builtin; refine wpList_append_own_at _ rfl (.tmp 210) (.tmp 220) _ rfl w.heap.size 24 i0 _ 2 16 Try.underlying31 Hi.out Hz0.out Hz1.out Hz2.out rfl (by decide) _ k (spanCells (measT n pa bl zb zw k)) rfl (hownM.alloc _) ⟨w6.heap.size, 0, none⟩ 1 1 [.int .i64 v1, .int .i64 v2] rfl rfl ?q1c1 (by intro u hu; simp only [List.mem_cons, List.not_mem_nil, or_false] at hu; rcases hu with rfl | rfl <;> rfl) ?q1c3 ?q1c4 ?q1c5 ?_)
     try case q1c1 => exact new_cellsQ w6 _ [.int .i64 v1, .int .i64 v2]
     case q1c3 => unfold maxLen; omega
     case q1c4 => omega
     case q1c5 => first | omega | (simp; omega)
     intro vA w9 hown2 hgr2 _ hat2
     have HMn := HM.out.grow 0 rfl _ hgr2 hown2 hat2
     replace HM := hide HMn
     clear HMn hown2 hgr2 hat2 hownM hbaseM
     obtain ⟨A9, c9, rfl⟩ := own_shape2 (Mem.row_ HM.out 0 rfl)
     go_wp2_with fail
     go_roundw
     case rel => exact ⟨k + 1, A9, c9, by omega, by go_num, rfl, by rw [Hsp.out]; exact HM.out⟩
     case measure => simp [intOf] <;> omega
    ·
     rw [if_neg hjw] at hlw
     have hjw3 : ¬ ((k : Int) < nw) := by omega
     subst hlw
     have hv1c : max 0 lo = v1 := by rw [← hv1]; omega
     have hv1d : (if 0 < lo then lo else 0) = v1 := by rw [← hv1]; split <;> omega
     have hv2c : min 1073741824 hh = v2 := by rw [← hv2]; omega
     have hv2d : (if hh < 1073741824 then hh else 1073741824) = v2 := by rw [← hv2]; split <;> omega
     clear hv1 hv1a hv1b hv2 hv2a
     obtain ⟨x0, x1, x2, x3, x4, x5, x6, x7⟩ := Hs.out.c8
     have ltx := Hs.out.lt
     obtain ⟨y0, y1, y2, y3⟩ := Hx.out.c4
     have lty := Hx.out.lt
     go_upto_region 27 with fail
     clear x0 x1 x2 x3 x4 x5 x6 x7 ltx y0 y1 y2 y3 lty
     obtain ⟨p0, p1, q0, q1⟩ := HP.out
     apply wp_region_L (w0 := wr) [[], [], [], [], [], [], [], [], [], [], [], [], [], [], [], [], [], [], [], [], [], [], []] [true, true, true, true, true, true, true, true, true, true, true, true, true, true, true, true, true, true, true, true, true, true, true] [] (fun ixq y => match ixq with  | _ => undef) (fun ixq x F wq => match ixq with  | _ => True) (fun a x => a) (by kernel_rfl) (by kernel_rfl) (fun _ => rfl) [] (by kernel_rfl)
     ·
      intro x D hD
      have hne := hD.some
      have k0 := liftB hD p0 (by first | assumption | omega)
      have k1 := liftB hD p1 (by first | assumption | omega)
      simp only [takeOps, Act.put, List.setIfInBounds_toArray, List.set_cons_succ, List.set_cons_zero]
      repeat (go_big_quiet_step (fail))
      exact wpQuiet_nil rfl
     · exact fun _ h => absurd h (by simp)
     · exact trivial
     · exact trivial
     intro xx w5 F hK hlv3
     clear hlv3
     have hby5 : by' < w5.heap.size := Nat.lt_of_lt_of_le hby2 hK.size
     clear p0 p1
     rw [← hK.cell hby2] at q0 q1
     replace HM := hide (HM.out.later hK)
     replace Hs := hide (blk_later Hs.out hK)
     replace Hx := hide (blk_later Hx.out hK)
     clear hK
     go_wp2_with fail
     apply wp_region_L (w0 := w5) [[], [], [], [], [], [], [], [], [], [], [], [], [], [], [], [], [], [], [], [], [], [], []] [true, true, true, true, true, true, true, true, true, true, true, true, true, true, true, true, true, true, true, true, true, true, true] [] (fun ixq y => match ixq with  | _ => undef) (fun ixq x F wq => match ixq with  | _ => True) (fun a x => a) (by kernel_rfl) (by kernel_rfl) (fun _ => rfl) [] (by kernel_rfl)
     ·
      intro x D hD
      have hne := hD.some
      have k0 := liftB hD q0 (by first | assumption | omega)
      have k1 := liftB hD q1 (by first | assumption | omega)
      simp only [takeOps, Act.put, List.setIfInBounds_toArray, List.set_cons_succ, List.set_cons_zero]
      repeat (go_big_quiet_step (fail))
      exact wpQuiet_nil rfl
     · exact fun _ h => absurd h (by simp)
     · exact trivial
     · exact trivial
     intro xx2 w6 F hK hlv4
     clear hlv4
     clear q0 q1
     replace HM := hide (HM.out.later hK)
     replace Hs := hide (blk_later Hs.out hK)
     replace Hx := hide (blk_later Hx.out hK)
     clear hK
     have hownM := Mem.row_ HM.out 0 rfl
     have hbaseM : w.heap.size ≤ w6.heap.size := HM.out.size
     go_wp2_with (at_builtin; refine wpList_append_own_at _ rfl (.tmp 210) (.tmp 220) _ rfl w.heap.size 24 i0 _ 2 16 Try.underlying31 Hi.out Hz0.out Hz1.out Hz2.out rfl (by decide) _ k (spanCells (measT n pa bl zb zw k)) rfl (hownM.alloc _) ⟨w6.heap.size, 0, none⟩ 1 1 [.int .i64 v1, .int .i64 v2] rfl rfl ?q2c1 (by intro u hu; simp only [List.mem_cons, List.not_mem_nil, or_false] at hu; rcases hu with rfl | rfl <;> rfl) ?q2c3 ?q2c4 ?q2c5 ?_)
     try case q2c1 => exact new_cellsQ w6 _ [.int .i64 v1, .int .i64 v2]
     case q2c3 => unfold maxLen; omega
     case q2c4 => omega
     case q2c5 => first | omega | (simp; omega)
     intro vA w9 hown2 hgr2 _ hat2
     have HMn := HM.out.grow 0 rfl _ hgr2 hown2 hat2
     replace HM := hide HMn
     clear HMn hown2 hgr2 hat2 hownM hbaseM
     obtain ⟨A9, c9, rfl⟩ := own_shape2 (Mem.row_ HM.out 0 rfl)
     go_wp2_with fail
     go_roundw
     case rel => exact ⟨k + 1, A9, c9, by omega, by go_num, rfl, by rw [Hsp.out]; exact HM.out⟩
     case measure => simp [intOf] <;> omega
   ·
    rw [if_neg hjb] at hle
    have hjb3 : ¬ ((k : Int) < nb) := by omega
    subst hle
    have hrq : rq = 0 := by rw [← htm]; simp
    subst hrq
    have hlf3 : n - bk1 = L := by omega
    clear htm hlf2
    by_cases hjw : k < nw
    ·
     rw [if_pos hjw] at hlw
     have hjw3 : (k : Int) < nw := by omega
     obtain ⟨bf, of, rfl, hbf, hcf⟩ := Hiw.out (by have := Hzw.out; omega)
     have pf := hcf k (by have := Hzw.out; omega)
     rw [← hlw] at pf
     rw [← HM.out.below.cell hbf] at pf
     have hbf2 : bf < wr.heap.size := by omega
     clear hcf hlw
     obtain ⟨x0, x1, x2, x3, x4, x5, x6, x7⟩ := Hs.out.c8
     have ltx := Hs.out.lt
     obtain ⟨y0, y1, y2, y3⟩ := Hx.out.c4
     have lty := Hx.out.lt
     go_upto_region 27 with fail
     clear x0 x1 x2 x3 x4 x5 x6 x7 ltx y0 y1 y2 y3 lty
     obtain ⟨p0, p1, q0, q1⟩ := HP.out
     apply wp_region_L (w0 := wr) [[], [], [], [], [], [], [], [], [], [], [], [], [], [], [], [], [], [], [], [], [], [], []] [true, true, true, true, true, true, true, true, true, true, true, true, true, true, true, true, true, true, true, true, true, true, true] [] (fun ixq y => match ixq with  | _ => undef) (fun ixq x F wq => match ixq with  | _ => True) (fun a x => a) (by kernel_rfl) (by kernel_rfl) (fun _ => rfl) [] (by kernel_rfl)
     ·
      intro x D hD
      have hne := hD.some
      have k0 := liftB hD p0 (by first | assumption | omega)
      have k1 := liftB hD p1 (by first | assumption | omega)
      simp only [takeOps, Act.put, List.setIfInBounds_toArray, List.set_cons_succ, List.set_cons_zero]
      repeat (go_big_quiet_step (fail))
      exact wpQuiet_nil rfl
     · exact fun _ h => absurd h (by simp)
     · exact trivial
     · exact trivial
     intro xx w5 F hK hlv5
     clear hlv5
     have hby5 : by' < w5.heap.size := Nat.lt_of_lt_of_le hby2 hK.size
     clear p0 p1
     rw [← hK.cell hby2] at q0 q1
     replace HM := hide (HM.out.later hK)
     replace Hs := hide (blk_later Hs.out hK)
     replace Hx := hide (blk_later Hx.out hK)
     clear hK
     go_wp2_with fail
     apply wp_region_L (w0 := w5) [[], [], [], [], [], [], [], [], [], [], [], [], [], [], [], [], [], [], [], [], [], [], []] [true, true, true, true, true, true, true, true, true, true, true, true, true, true, true, true, true, true, true, true, true, true, true] [] (fun ixq y => match ixq with  | _ => undef) (fun ixq x F wq => match ixq with  | _ => True) (fun a x => a) (by kernel_rfl) (by kernel_rfl) (fun _ => rfl) [] (by kernel_rfl)
     ·
      intro x D hD
      have hne := hD.some
      have k0 := liftB hD q0 (by first | assumption | omega)
      have k1 := liftB hD q1 (by first | assumption | omega)
      simp only [takeOps, Act.put, List.setIfInBounds_toArray, List.set_cons_succ, List.set_cons_zero]
      repeat (go_big_quiet_step (fail))
      exact wpQuiet_nil rfl
     · exact fun _ h => absurd h (by simp)
     · exact trivial
     · exact trivial
     intro xx2 w6 F hK hlv6
     clear hlv6
     clear q0 q1
     replace HM := hide (HM.out.later hK)
     replace Hs := hide (blk_later Hs.out hK)
     replace Hx := hide (blk_later Hx.out hK)
     clear hK
     have hownM := Mem.row_ HM.out 0 rfl
     have hbaseM : w.heap.size ≤ w6.heap.size := HM.out.size
     go_wp2_with (at_builtin; refine wpList_append_own_at _ rfl (.tmp 210) (.tmp 220) _ rfl w.heap.size 24 i0 _ 2 16 Try.underlying31 Hi.out Hz0.out Hz1.out Hz2.out rfl (by decide) _ k (spanCells (measT n pa bl zb zw k)) rfl (hownM.alloc _) ⟨w6.heap.size, 0, none⟩ 1 1 [.int .i64 v1, .int .i64 v2] rfl rfl ?q3c1 (by intro u hu; simp only [List.mem_cons, List.not_mem_nil, or_false] at hu; rcases hu with rfl | rfl <;> rfl) ?q3c3 ?q3c4 ?q3c5 ?_)
     try case q3c1 => exact new_cellsQ w6 _ [.int .i64 v1, .int .i64 v2]
     case q3c3 => unfold maxLen; omega
     case q3c4 => omega
     case q3c5 => first | omega | (simp; omega)
     intro vA w9 hown2 hgr2 _ hat2
     have HMn := HM.out.grow 0 rfl _ hgr2 hown2 hat2
     replace HM := hide HMn
     clear HMn hown2 hgr2 hat2 hownM hbaseM
     obtain ⟨A9, c9, rfl⟩ := own_shape2 (Mem.row_ HM.out 0 rfl)
     go_wp2_with fail
     go_roundw
     case rel => exact ⟨k + 1, A9, c9, by omega, by go_num, rfl, by rw [Hsp.out]; exact HM.out⟩
     case measure => simp [intOf] <;> omega
    ·
     rw [if_neg hjw] at hlw
     have hjw3 : ¬ ((k : Int) < nw) := by omega
     subst hlw
     have hv1c : max 0 lo = v1 := by rw [← hv1]; omega
     have hv1d : (if 0 < lo then lo else 0) = v1 := by rw [← hv1]; split <;> omega
     have hv2c : min 1073741824 hh = v2 := by rw [← hv2]; omega
     have hv2d : (if hh < 1073741824 then hh else 1073741824) = v2 := by rw [← hv2]; split <;> omega
     clear hv1 hv1a hv1b hv2 hv2a
     obtain ⟨x0, x1, x2, x3, x4, x5, x6, x7⟩ := Hs.out.c8
     have ltx := Hs.out.lt
     obtain ⟨y0, y1, y2, y3⟩ := Hx.out.c4
     have lty := Hx.out.lt
     go_upto_region 27 with fail
     clear x0 x1 x2 x3 x4 x5 x6 x7 ltx y0 y1 y2 y3 lty
     obtain ⟨p0, p1, q0, q1⟩ := HP.out
     apply wp_region_L (w0 := wr) [[], [], [], [], [], [], [], [], [], [], [], [], [], [], [], [], [], [], [], [], [], [], []] [true, true, true, true, true, true, true, true, true, true, true, true, true, true, true, true, true, true, true, true, true, true, true] [] (fun ixq y => match ixq with  | _ => undef) (fun ixq x F wq => match ixq with  | _ => True) (fun a x => a) (by kernel_rfl) (by kernel_rfl) (fun _ => rfl) [] (by kernel_rfl)
     ·
      intro x D hD
      have hne := hD.some
      have k0 := liftB hD p0 (by first | assumption | omega)
      have k1 := liftB hD p1 (by first | assumption | omega)
      simp only [takeOps, Act.put, List.setIfInBounds_toArray, List.set_cons_succ, List.set_cons_zero]
      repeat (go_big_quiet_step (fail))
      exact wpQuiet_nil rfl
     · exact fun _ h => absurd h (by simp)
     · exact trivial
     · exact trivial
     intro xx w5 F hK hlv7
     clear hlv7
     have hby5 : by' < w5.heap.size := Nat.lt_of_lt_of_le hby2 hK.size
     clear p0 p1
     rw [← hK.cell hby2] at q0 q1
     replace HM := hide (HM.out.later hK)
     replace Hs := hide (blk_later Hs.out hK)
     replace Hx := hide (blk_later Hx.out hK)
     clear hK
     go_wp2_with fail
     apply wp_region_L (w0 := w5) [[], [], [], [], [], [], [], [], [], [], [], [], [], [], [], [], [], [], [], [], [], [], []] [true, true, true, true, true, true, true, true, true, true, true, true, true, true, true, true, true, true, true, true, true, true, true] [] (fun ixq y => match ixq with  | _ => undef) (fun ixq x F wq => match ixq with  | _ => True) (fun a x => a) (by kernel_rfl) (by kernel_rfl) (fun _ => rfl) [] (by kernel_rfl)
     ·
      intro x D hD
      have hne := hD.some
      have k0 := liftB hD q0 (by first | assumption | omega)
      have k1 := liftB hD q1 (by first | assumption | omega)
      simp only [takeOps, Act.put, List.setIfInBounds_toArray, List.set_cons_succ, List.set_cons_zero]
      repeat (go_big_quiet_step (fail))
      exact wpQuiet_nil rfl
     · exact fun _ h => absurd h (by simp)
     · exact trivial
     · exact trivial
     intro xx2 w6 F hK hlv8
     clear hlv8
     clear q0 q1
     replace HM := hide (HM.out.later hK)
     replace Hs := hide (blk_later Hs.out hK)
     replace Hx := hide (blk_later Hx.out hK)
     clear hK
     have hownM := Mem.row_ HM.out 0 rfl
     have hbaseM : w.heap.size ≤ w6.heap.size := HM.out.size
     go_wp2_with (at_builtin; refine wpList_append_own_at _ rfl (.tmp 210) (.tmp 220) _ rfl w.heap.size 24 i0 _ 2 16 Try.underlying31 Hi.out Hz0.out Hz1.out Hz2.out rfl (by decide) _ k (spanCells (measT n pa bl zb zw k)) rfl (hownM.alloc _) ⟨w6.heap.size, 0, none⟩ 1 1 [.int .i64 v1, .int .i64 v2] rfl rfl ?q4c1 (by intro u hu; simp only [List.mem_cons, List.not_mem_nil, or_false] at hu; rcases hu with rfl | rfl <;> rfl) ?q4c3 ?q4c4 ?q4c5 ?_)
     try case q4c1 => exact new_cellsQ w6 _ [.int .i64 v1, .int .i64 v2]
     case q4c3 => unfold maxLen; omega
     case q4c4 => omega
     case q4c5 => first | omega | (simp; omega)
     intro vA w9 hown2 hgr2 _ hat2
     have HMn := HM.out.grow 0 rfl _ hgr2 hown2 hat2
     replace HM := hide HMn
     clear HMn hown2 hgr2 hat2 hownM hbaseM
     obtain ⟨A9, c9, rfl⟩ := own_shape2 (Mem.row_ HM.out 0 rfl)
     go_wp2_with fail
     go_roundw
     case rel => exact ⟨k + 1, A9, c9, by omega, by go_num, rfl, by rw [Hsp.out]; exact HM.out⟩
     case measure => simp [intOf] <;> omega
  ·
   obtain rfl : k = G := by omega
   have hlt3 : ¬ ((k : Int) < k) := by omega
   obtain ⟨x0, x1, x2, x3, x4, x5, x6, x7⟩ := Hs.out.c8
   have ltx := Hs.out.lt
   go_wp2_with fail
   exact HX.out ⟨hM.row_ 0 rfl, hL⟩
end Go.Proofs.Ytepgpihobmjbdaa
end
