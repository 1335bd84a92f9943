/-
  The rates of a ray: rain's rates.
  Rates: rain's, and the reference's.
  The reference's Rates.
  The law RainRays returns true: for every model, sweep, earth, ground and ray.
-/
import Derived.Test.YtepgpihobmjbdaaGreatOpenR
import Derived.Test.YtepgpihobmjbdaaGreatRegJ
import Derived.Test.YtepgpihobmjbdaaGreatRrRefView
import Derived.Test.YtepgpihobmjbdaaGreatRrRefBlocked
import Derived.Test.YtepgpihobmjbdaaGreatRrZoneRef
import Derived.Test.YtepgpihobmjbdaaGreatRrRefRest
import Derived.Test.YtepgpihobmjbdaaGreatRrWorks
import Derived.Test.YtepgpihobmjbdaaGreatRrGauge
set_option linter.unusedSimpArgs false
set_option linter.unusedVariables false
section
namespace Go.Proofs.YtepgpihobmjbdaaGreat
open Go.RowKit
def PassF (w : World) (F : Nat → Prop) (base : Nat) (A : Option Addr) (cs : Array Value) : Prop := ∃ g, A = some ⟨g + 1, 0, none⟩ ∧ base ≤ g ∧ F g ∧ F (g + 1) ∧ Blk w g 22 cs ∧ Blk w (g + 1) 89 #[.int .i64 1073741824, .int .i64 1073741824, lossF g]
theorem PassF.stab {w w' : World} {F : Nat → Prop} {base : Nat} {A : Option Addr} {cs : Array Value} (h : PassF w F base A cs) (hk : ∀ k, F k → w'.heap[k]? = w.heap[k]?) : PassF w' F base A cs := by
 obtain ⟨g, h1, h2, h3, h4, h5, h6⟩ := h
 exact ⟨g, h1, h2, h3, h4, (hk g h3).trans h5, (hk _ h4).trans h6⟩
theorem blk_full1 {w : World} {base : Nat} {e : TypeId} {g n : Nat} {cs : Array Value} (h : w.ownsRow base e 1 (.slice (some ⟨g, 0, none⟩) n n) n cs.toList) : Blk w g e cs := by
 obtain ⟨hl, hr | ⟨g', cap, cur, hv, hb, hh, h1, h2, h3, h4⟩⟩ := h
 · cases hr.1
 ·
  injection hv with e1 e2 e3
  injection e1 with e1
  injection e1 with e1 _ _
  subst e1 e3
  rw [List.take_of_length_le (by rw [Array.length_toList, h3]; exact Nat.le_refl _)] at h4
  have : cur = cs := Array.toList_inj.1 h4
  subst this
  exact hh
theorem blk_full4 {w : World} {base : Nat} {e : TypeId} {A : Option Addr} {c : Nat} {cs : Array Value} (h : w.ownsRow base e 1 (.slice A 4 4) 4 cs.toList) : ∃ g, A = some ⟨g, 0, none⟩ ∧ base ≤ g ∧ Blk w g e cs := by
 rcases h.2 with hr | ⟨g', cap, cur, hv, hb, -⟩
 · have := hr.2; omega
 ·
  injection hv with e1 e2 e3
  subst e1
  exact ⟨g', rfl, hb, blk_full1 h⟩
theorem RaysAt.at_ {w : World} {B n k : Nat} {A : Option Addr} {rr : Nat → Ray1} (h : RaysAt w B A n rr) (hk : k < n) : ∃ b off, A = some ⟨b, off, none⟩ ∧ b < B ∧ w.cell? ⟨b, off + k, none⟩ = some (.slice (rr k).A (rr k).n (rr k).c) ∧ Rows_ w B (rr k).A (rr k).n 14 (fun j => (echC ((rr k).e j)).toList) := by
 obtain ⟨b, off, e, hb, hc⟩ := h (by omega)
 exact ⟨b, off, e, hb, (hc k hk).1, (hc k hk).2.2⟩
theorem spanCells_rowL (r : Nat → Int × Int) (k : Nat) : spanCells (rowL r (k + 1)) = spanCells (rowL r k) ++ (#[.int .i64 (r k).1, .int .i64 (r k).2] : Array Value).toList := by
 rw [rowL_succ]
 exact (spanCells_snoc _ _ _).symm
theorem spanCells_powL (x : Ray1) (k : Nat) : spanCells (powL x (k + 1)) = spanCells (powL x k) ++ (#[.int .i64 (x.e k).p1, .int .i64 (x.e k).p2] : Array Value).toList := by
 rw [powL_succ]
 exact (spanCells_snoc _ _ _).symm
theorem ints_spans {w : World} {base n c : Nat} {A : Option Addr} {l : List (Int × Int)} (h : w.ownsRow base 24 2 (.slice A n c) n (spanCells l)) : Ints w w.heap.size .i64 A (flat2 l) := Ints.own h rfl (Nat.le_refl _)
theorem ready_ok {mE sE bE : Int} (h : readyE mE sE bE = 0) : mE = 0 ∧ sE = 0 ∧ bE = 0 := by
 unfold readyE at h
 split at h
 · omega
 · split at h <;> omega
def rateL (z r g st wd tilt elo ehi gx gy gs wi hi sx sy ray : Int) (l rt gl : List (Int × Int)) (a0 a1 b0 b1 c0 c1 : Int) (rr : Nat → Ray1) : List (Int × Int) :=
 rayL l rt (a0, a1) (b0, b1) (c0, c1) (rowL (bandZ z st wd tilt elo ehi) g.toNat) (fillsL (powL (rr ray.toNat) g.toNat) (2 * wd + 1) (rowL (rowB gl sx sy r z st wd tilt ray elo ehi gx gy gs wi hi) g.toNat)) g.toNat
set_option maxHeartbeats 8000000 in
set_option maxRecDepth 100000 in
theorem rates_any (s : ByteArray) (sx sy z r g st wd tilt time elo ehi gx gy gs wi hi ray : Int) (l rt gl : List (Int × Int)) (a0 a1 b0 b1 c0 c1 : Int) (n ng : Nat) (rr : Nat → Ray1) (A : Option Addr) (nl cl : Nat) (Ar : Option Addr) (nr cr : Nat) (As : Option Addr) (cs : Nat) (Ag : Option Addr) (cg : Nat) (w : World)
  (hs : s.size ≤ 9223372036854775807) (hn : l.length = nl) (hmax : nl ≤ 9223372036854775807) (hnr : rt.length = nr) (hmaxr : nr ≤ 9223372036854775807) (hng : gl.length = ng) (hmaxg : ng ≤ 9223372036854775807) (hns : n ≤ maxLen)
  (hl : Ints w w.heap.size .i64 A (flat2 l)) (hlr : Ints w w.heap.size .i64 Ar (flat2 rt)) (hlg : Ints w w.heap.size .i64 Ag (flat2Q gl)) (hrs : RaysAt w w.heap.size As n rr)
  (h0 : allE s sx sy z r g st wd tilt time elo ehi gx gy gs wi hi ray l rt gl a0 a1 b0 b1 c0 c1 n ng rr = 0) :
  Calls Tryz.prog 20 #[.agg (mdlC A nl cl Ar nr cr a0 a1 b0 b1 c0 c1), .agg (sweepC s sx sy z r g st wd tilt time As n cs), .agg #[.int .i64 elo, .int .i64 ehi], .agg (fldC gx gy gs wi hi Ag ng cg), .int .i64 ray] w fun e w' =>
   ∃ v, e = .returned v ∧ w'.ownsRow w.heap.size 24 2 v g.toNat (spanCells (rateL z r g st wd tilt elo ehi gx gy gs wi hi sx sy ray l rt gl a0 a1 b0 b1 c0 c1 rr)) ∧ Below w.heap.size w w' := by
 have cB := fun (W : World) (h1 : Ints W W.heap.size .i64 Ag (flat2Q gl)) => Blocked2_any s sx sy z r g st wd tilt elo ehi gx gy gs wi hi Ag ng cg gl ray W hs hng hmaxg h1
 have cN := fun (j : Nat) (W : World) => Band_any s sx sy z r g st wd tilt elo ehi j W hs
 obtain ⟨hm, hsw, hbl⟩ := ready_ok h0
 obtain ⟨m1, m2, mA, mB, mC⟩ := model_ok hm
 obtain ⟨e0, ⟨t0, t1⟩, n4, hsh, hpw⟩ := sweep_ok hsw
 rw [hbl] at cB
 simp only [e0] at cN
 obtain ⟨-, kf, ke, kr0, kr1⟩ := block_ok hbl
 obtain ⟨z0, z1, r0, r1, g0, g1, s0, s1, w0, w1⟩ := site_all e0
 obtain ⟨G, rfl⟩ : ∃ G : Nat, g = G := ⟨g.toNat, by omega⟩
 obtain ⟨R, rfl⟩ : ∃ R : Nat, ray = R := ⟨ray.toNat, by omega⟩
 have hRn : R < n := by omega
 have hGR : (rr R).n = G := by have := hsh R hRn; omega
 unfold rateL
 simp only [Int.toNat_natCast] at cB ⊢
 have hrow := fun (j : Nat) (hj : j ≤ 199) => rowB_ok (sx := sx) (sy := sy) (r := r) (z := z) (ray := (R : Int)) (j := j) hng kf ke ⟨t0, t1⟩ ⟨s0, s1⟩ ⟨w0, w1⟩ hj
 have cB2 : ∀ W, Ints W W.heap.size .i64 Ag (flat2Q gl) → Calls Tryz.prog 44 #[siteV s sx sy z r G st wd, .int .i64 tilt, .agg #[.int .i64 elo, .int .i64 ehi], fieldV gx gy gs wi hi Ag ng cg, .int .i64 R] W fun e w' =>
   ∃ A c, e = .returned (.tuple #[.slice A G c, .int .i64 0]) ∧ Below W.heap.size W w' ∧ Ints w' w'.heap.size .i64 A (flat2 (rowL (rowB gl sx sy r z st wd tilt R elo ehi gx gy gs wi hi) G)) := fun W h => (cB W h).mono (by
  rintro e w' ⟨A1, c1, h1, h2, h3⟩
  exact ⟨A1, c1, by rw [h1]; simp, h2, by have := (h3 rfl).1; rw [flat2Q_eq] at this; exact this⟩)
 have cN2 : ∀ (j : Nat) (W : World), j < G → Calls Tryz.prog 45 #[siteV s sx sy z r G st wd, .int .i64 tilt, .agg #[.int .i64 elo, .int .i64 ehi], .int .i64 j] W fun e w' => e = .returned (.tuple #[.agg #[.int .i64 (bandZ z st wd tilt elo ehi j).1, .int .i64 (bandZ z st wd tilt elo ehi j).2], .int .i64 0]) ∧ Below W.heap.size W w' := fun j W hj => (cN j W).mono (by
  rintro e w' ⟨h1, h2⟩
  rw [band_at ke ⟨t0, t1⟩ (by omega)] at h1
  exact ⟨h1, h2⟩)
 have hok : ∀ k, k < G → okF ((powL (rr R) G).getD k (0, 0)) (2 * wd + 1) ((rowL (rowB gl sx sy r z st wd tilt R elo ehi gx gy gs wi hi) G).getD k (0, 0)) = true := fun k hk => by
  rw [powL_get hk, rowL_get hk]
  have h1 := hpw R hRn k (by omega)
  obtain ⟨h2, h3, h4⟩ := hrow k (by omega)
  unfold okF
  rw [h1, show win (2 * wd + 1) 1 17 = true from win_iff.2 ⟨by omega, by omega⟩]
  simp only [Bool.true_and]
  exact decide_eq_true ⟨h2, h3, h4⟩
 have hfac : ∀ k, k < G → FacOk (facS (a0, a1) (b0, b1) (c0, c1) ((rowL (bandZ z st wd tilt elo ehi) G).getD k (0, 0))) := fun k hk => by
  rw [rowL_get hk]
  have h1 := band_le (z := z) (j := k) ke ⟨t0, t1⟩ ⟨s0, s1⟩ ⟨w0, w1⟩ (by omega)
  generalize bandZ z st wd tilt elo ehi k = uv at h1 ⊢
  obtain ⟨u, v⟩ := uv
  exact facS_ok mA h1 mB mC
 obtain ⟨BL, hBL⟩ : ∃ q, rowL (rowB gl sx sy r z st wd tilt R elo ehi gx gy gs wi hi) G = q := ⟨_, rfl⟩
 have hBLn : BL.length = G := by rw [← hBL]; exact rowL_length
 simp only [hBL] at cB2 hok ⊢
 unfold siteV fieldV at cB2
 unfold siteV at cN2
 unfold sweepC mdlC fldC
 have hT := tab_of m1
 have hTr := tab_of m2
 obtain ⟨b, off, rfl, hb0, hcell, hech⟩ := hrs.at_ hRn
 rw [hGR] at hcell hech
 have hRi : (R : Int) < n := by omega
 have HT := hide hT
 have HTr := hide hTr
 have Hok := hide hok
 have Hfac := hide hfac
 have CB := hide cB2
 have CN := hide cN2
 have Hl := hide hl
 have Hlr := hide hlr
 have Hlg := hide hlg
 have Hech := hide hech
 have Hcell := hide hcell
 have Hn := hide hn
 have Hnr := hide hnr
 clear hT hTr hok hfac cB2 cN2 hl hlr hlg hech hcell hn hnr
 clear cB cN hrow hpw hsh hrs hBL h0 hm hsw hbl e0 m1 m2 mA mB mC kf hGR
 go_enter Tryz.func20, Tryz.ntmps20
 have HB := hide (Below.refl w.heap.size w)
 go_wp2_with fail
 refine at_world fun W hW => ?_
 have bq0 : Blk W w.heap.size 26 #[.slice A nl cl, .slice Ar nr cr, .int .i64 a0, .int .i64 a1, .int .i64 b0, .int .i64 b1, .int .i64 c0, .int .i64 c1] := by rw [hW]; exact (((Blk.new _ _ _).alloc _).alloc _).alloc _
 have bq1 : Blk W (w.heap.size + 1) 31 #[.string s, .int .i64 sx, .int .i64 sy, .int .i64 z, .int .i64 r, .int .i64 (G : Int), .int .i64 st, .int .i64 wd, .int .i64 tilt, .int .i64 time, .slice (some ⟨b, off, none⟩) n cs] := by rw [hW]; exact ((blk_new_at (by simp)).alloc _).alloc _
 have bq2 : Blk W (w.heap.size + 2) 24 #[.int .i64 elo, .int .i64 ehi] := by rw [hW]; exact (blk_new_at (by simp)).alloc _
 have bq3 : Blk W (w.heap.size + 3) 36 #[.int .i64 gx, .int .i64 gy, .int .i64 gs, .int .i64 wi, .int .i64 hi, .slice Ag ng cg] := by rw [hW]; exact blk_new_at (by simp)
 have LW : Later w W := by rw [hW]; exact (((((Below.refl _ _).alloc (Nat.le_refl _) _).alloc (by simp; try omega) _).alloc (by simp; try omega) _).alloc (by simp; try omega) _)
 have szW : W.heap.size = w.heap.size + 4 := by rw [hW]; simp
 clear hW
 replace HB := hide (onward HB.out LW)
 have Hm := hide bq0
 have Hsw := hide bq1
 have He := hide bq2
 have Hf := hide bq3
 clear bq0 bq1 bq2 bq3 LW szW
 refine (CB.out _ ((Hlg.out.below HB.out).more HB.out.size)).mono ?_
 rintro e w1 ⟨A1, c1', rfl, hb, hi1⟩
 replace HB := hide (onward HB.out hb)
 replace Hm := hide (blk_later Hm.out hb)
 replace Hsw := hide (blk_later Hsw.out hb)
 replace He := hide (blk_later He.out hb)
 replace Hf := hide (blk_later Hf.out hb)
 clear hb
 have HBL := hide hi1
 have q := Hcell.out
 rw [← HB.out.cell hb0] at q
 have ltb : b < w1.heap.size := Nat.lt_of_lt_of_le hb0 HB.out.size
 clear hi1
 have x0 := Hsw.out.c 0 rfl
 have x1 := Hsw.out.c 1 rfl
 have x2 := Hsw.out.c 2 rfl
 have x3 := Hsw.out.c 3 rfl
 have x4 := Hsw.out.c 4 rfl
 have x5 := Hsw.out.c 5 rfl
 have x6 := Hsw.out.c 6 rfl
 have x7 := Hsw.out.c 7 rfl
 have x8 := Hsw.out.c 8 rfl
 have x9 := Hsw.out.c 9 rfl
 have x10 := Hsw.out.c 10 rfl
 have ltx := Hsw.out.lt
 go_wp2_with fail
 clear q
 clear x0 x1 x2 x3 x4 x5 x6 x7 x8 x9 x10 ltx
 go_loopw [13, 14, 36] (fun p q i wr => ∃ (k : Nat) (Ap : Option Addr) (cp : Nat) (Aq : Option Addr) (cq : Nat), k ≤ G ∧ i = .int .i64 k ∧ p = .slice Ap k cp ∧ q = .slice Aq k cq ∧ wr.ownsRow w1.heap.size 24 2 (.slice Ap k cp) k (spanCells (powL (rr R) k)) ∧ wr.ownsRow w1.heap.size 24 2 (.slice Aq k cq) k (spanCells (rowL (bandZ z st wd tilt elo ehi) k)) ∧ Apart (.slice Ap k cp) (.slice Aq k cq) ∧ Below w1.heap.size w1 wr) (fun _ _ i _ => G - (intOf i).toNat)
 case atStart => exact ⟨0, none, 0, none, 0, by omega, rfl, rfl, rfl, World.ownsRow_nil _ _ _ _, World.ownsRow_nil _ _ _ _, apart_nil _, Below.refl _ _⟩
 case round =>
  obtain ⟨k, Ap, cp, Aq, cq, hk, rfl, rfl, rfl, hp, hq, hap, hL⟩ := hrel
  have hx := blk_belowN Hsw.out hL Hsw.out.lt
  have hee := blk_belowN He.out hL He.out.lt
  have hmm := blk_belowN Hm.out hL Hm.out.lt
  have hBr := HB.out.trans (Below.mono hL HB.out.size)
  have hIB := HBL.out.below hL
  have hszr := hL.size
  clear Hm Hsw He Hf HB HBL
  by_cases hlt : k < G
  ·
   have hlt3 : (k : Int) < G := by omega
   obtain ⟨b1, off1, hB1, hb1, hc1⟩ := Hech.out (by omega)
   have hsp := spanCells_powL (rr R) k
   have hsr := spanCells_rowL (bandZ z st wd tilt elo ehi) k
   have hc2 := fun i v hv => hc1 k hlt i v hv
   have cn := fun W => CN.out k W hlt
   obtain ⟨ee, hee2⟩ : ∃ q, (rr R).e k = q := ⟨_, rfl⟩
   simp only [hee2] at hc2
   rw [hee2] at hsp
   obtain ⟨u, v, huv⟩ : ∃ u v, bandZ z st wd tilt elo ehi k = (u, v) := ⟨_, _, rfl⟩
   rw [huv] at hsr
   simp only [huv] at cn
   simp only at hsr
   obtain ⟨k0, p1, p2, s1', s2, s3, s4, sp, r1', r2, m1, m2, t1', t2⟩ := ee
   unfold echC at hc2
   simp only at hsp
   have q0 := hc2 0 (.int .i64 k0) rfl
   have q1 := hc2 1 (.int .i64 p1) rfl
   have q2 := hc2 2 (.int .i64 p2) rfl
   have q3 := hc2 3 (.int .i64 s1') rfl
   have q4 := hc2 4 (.int .i64 s2) rfl
   have q5 := hc2 5 (.int .i64 s3) rfl
   have q6 := hc2 6 (.int .i64 s4) rfl
   have q7 := hc2 7 (.int .i64 sp) rfl
   have q8 := hc2 8 (.int .i64 r1') rfl
   have q9 := hc2 9 (.int .i64 r2) rfl
   have q10 := hc2 10 (.int .i64 m1) rfl
   have q11 := hc2 11 (.int .i64 m2) rfl
   have q12 := hc2 12 (.int .i64 t1') rfl
   have q13 := hc2 13 (.int .i64 t2) rfl
   rw [Nat.add_zero] at q0
   rw [← hBr.cell hb1] at q0 q1 q2 q3 q4 q5 q6 q7 q8 q9 q10 q11 q12 q13
   have ltb1 : b1 < wr.heap.size := Nat.lt_of_lt_of_le hb1 hBr.size
   obtain ⟨Ar', hAr'⟩ : ∃ q, (rr R).A = q := ⟨_, rfl⟩
   obtain ⟨cr', hcr'⟩ : ∃ q, (rr R).c = q := ⟨_, rfl⟩
   rw [hAr'] at hB1
   simp only [hAr', hcr']
   subst hB1
   have hp0 := own_high_ne hp (Nat.le_refl _)
   have hq0 := own_high_ne hq (Nat.le_refl _)
   have Hp := hide hp
   have Hq := hide hq
   have Hap := hide hap
   have HL := hide hL
   have Hx := hide hx
   have He := hide hee
   have Hm := hide hmm
   have Hsp := hide hsp
   have Hsr := hide hsr
   have Cn := hide cn
   clear hp hq hap hL hx hee hmm hsp hsr cn
   clear hc1 hc2 hIB hee2 huv
   have x0 := Hx.out.c 0 rfl
   have x1 := Hx.out.c 1 rfl
   have x2 := Hx.out.c 2 rfl
   have x3 := Hx.out.c 3 rfl
   have x4 := Hx.out.c 4 rfl
   have x5 := Hx.out.c 5 rfl
   have x6 := Hx.out.c 6 rfl
   have x7 := Hx.out.c 7 rfl
   have x8 := Hx.out.c 8 rfl
   have x9 := Hx.out.c 9 rfl
   have x10 := Hx.out.c 10 rfl
   have ltx := Hx.out.lt
   obtain ⟨y0, y1⟩ := He.out.c2
   have lty := He.out.lt
   go_wp2_with fail
   clear q0 q1 q2 q3 q4 q5 q6 q7 q8 q9 q10 q11 q12 q13
   refine at_world fun W2 hW => ?_
   have bq0 : Blk W2 wr.heap.size 68 #[.int .i64 k0, .int .i64 p1, .int .i64 p2, .int .i64 s1', .int .i64 s2, .int .i64 s3, .int .i64 s4, .int .i64 sp, .int .i64 r1', .int .i64 r2, .int .i64 m1, .int .i64 m2, .int .i64 t1', .int .i64 t2] := by rw [hW]; exact Blk.new _ _ _
   have LW : Later wr W2 := by rw [hW]; exact ((Below.refl _ _).alloc (Nat.le_refl _) _)
   have szW : W2.heap.size = wr.heap.size + 1 := by rw [hW]; simp
   clear hW x0 x1 x2 x3 x4 x5 x6 x7 x8 x9 x10 ltx y0 y1 lty
   replace Hp := hide (own_later Hp.out LW)
   replace Hq := hide (own_later Hq.out LW)
   replace HL := hide (onward HL.out LW)
   replace Hx := hide (blk_later Hx.out LW)
   replace He := hide (blk_later He.out LW)
   replace Hm := hide (blk_later Hm.out LW)
   have Hec := hide bq0
   clear bq0 LW szW
   refine (Cn.out _).mono ?_
   rintro e w3 ⟨rfl, hb⟩
   replace Hp := hide (own_later Hp.out hb)
   replace Hq := hide (own_later Hq.out hb)
   replace HL := hide (onward HL.out hb)
   replace Hx := hide (blk_later Hx.out hb)
   replace He := hide (blk_later He.out hb)
   replace Hm := hide (blk_later Hm.out hb)
   replace Hec := hide (blk_later Hec.out hb)
   clear hb
   clear Hx He Hm
   have hp1 := own_high_ne Hp.out (Nat.le_refl _)
   have hq1 := own_high_ne Hq.out (Nat.le_refl _)
   go_wp2_with fail
   refine code_world fun w4 hW => ?_
   have bq0 : Blk w4 w3.heap.size 24 #[.int .i64 u, .int .i64 v] := by rw [hW]; exact Blk.new _ _ _
   have LW : Later w3 w4 := by rw [hW]; exact ((Below.refl _ _).alloc (Nat.le_refl _) _)
   have szW : w4.heap.size = w3.heap.size + 1 := by rw [hW]; simp
   clear hW
   replace Hp := hide (own_later Hp.out LW)
   replace Hq := hide (own_later Hq.out LW)
   replace HL := hide (onward HL.out LW)
   replace Hec := hide (blk_later Hec.out LW)
   have Hbn := hide bq0
   clear bq0 LW szW
   obtain ⟨i0, hii, hz0, hz1, hz2⟩ := info_parts spanInfo
   obtain ⟨i1, hii1, hz10, hz11, hz12⟩ := info_parts spanInfo
   have Hi := hide hii
   have Hz0 := hide hz0
   have Hz1 := hide hz1
   have Hz2 := hide hz2
   have Hi1 := hide hii1
   have Hz10 := hide hz10
   have Hz11 := hide hz11
   have Hz12 := hide hz12
   clear hii hz0 hz1 hz2 hii1 hz10 hz11 hz12
   have Hp1 := hide hp1
   have hW14 : w1.heap.size ≤ w4.heap.size := HL.out.size
   have d1 := Hec.out.c 1 rfl
   have d2 := Hec.out.c 2 rfl
   have ltd := Hec.out.lt
   obtain ⟨n0, n1⟩ := Hbn.out.c2
   have ltn := Hbn.out.lt
   have hltL1 : ∀ qa ∈ ((ownFill 8 (.slice Aq k cq)) : List (Nat × Nat)), qa.2 < w4.heap.size := fun qa hq => (Hq.out.lt _ (mem_ownFill.1 hq).2).2
   have hneL1 : ∀ qa ∈ ((ownFill 8 (.slice Aq k cq)) : List (Nat × Nat)), ((.slice Ap k cp) : Value).ownBlock ≠ some qa.2 := fun qa hq => apart_ne Hap.out (mem_ownFill.1 hq).2
   have hccL1 : ∀ qa ∈ ((ownFill 8 (.slice Aq k cq)) : List (Nat × Nat)), ∀ qb ∈ ((ownFill 8 (.slice Aq k cq)) : List (Nat × Nat)), qa.1 ≠ qb.1 → qa.2 ≠ qb.2 := fun qa ha qb hb h => absurd ((mem_ownFill.1 ha).1.trans (mem_ownFill.1 hb).1.symm) h
   refine wp_region_cut 9 (by kernel_rfl) (by simp only [List.take_succ_cons, List.take_zero]; exact rfl) (by simp only [List.drop_succ_cons, List.drop_zero]; exact rfl) (by kernel_rfl) ?_
   apply any_region_F (w0 := w4) [[], [], [], [], [3], [], [], [], [3, 4, 7]] [true, true, true, false, false, true, true, false, false] [false, false, false, false, false, false, false, false, false] [⟨3, none, [], []⟩, ⟨4, none, [3], []⟩, ⟨7, none, [], []⟩, ⟨8, none, [7], []⟩] (fillL 4 (.slice Ap k cp) (ownFill 8 (.slice Aq k cq))) [] (fun ixq y => match ixq with | 3 => .slice (y 0).1 1 1 | 4 => .slice (y 0).1 (k + 1) (y 0).2 | 7 => .slice (y 0).1 1 1 | 8 => .slice (y 0).1 (k + 1) (y 0).2 | _ => undef) (fun ixq x F wq => match ixq with | 3 => OwnF wq F w4.heap.size 24 2 (.slice (x 3 0).1 1 1) 1 #[.int .i64 p1, .int .i64 p2].toList | 4 => OwnF wq F w1.heap.size 24 2 (.slice (x 4 0).1 (k + 1) (x 4 0).2) (k + 1) ((spanCells (powL (rr R) k)) ++ (#[.int .i64 p1, .int .i64 p2] : Array Value).toList) ∧ FreshOr w4.heap.size (.slice Ap k cp) (.slice (x 4 0).1 (k + 1) (x 4 0).2) | 7 => OwnF wq F w4.heap.size 24 2 (.slice (x 7 0).1 1 1) 1 #[.int .i64 u, .int .i64 v].toList | 8 => OwnF wq F w1.heap.size 24 2 (.slice (x 8 0).1 (k + 1) (x 8 0).2) (k + 1) ((spanCells (rowL (bandZ z st wd tilt elo ehi) k)) ++ (#[.int .i64 u, .int .i64 v] : Array Value).toList) ∧ FreshOr w4.heap.size (.slice Aq k cq) (.slice (x 8 0).1 (k + 1) (x 8 0).2) | _ => True) (fun a x => ((((a).put (some 54) (.slice ((x 3) 0).1 1 1)).put (some 55) (.slice ((x 4) 0).1 (k + 1) ((x 4) 0).2)).put (some 58) (.slice ((x 7) 0).1 1 1)).put (some 59) (.slice ((x 8) 0).1 (k + 1) ((x 8) 0).2)) (by kernel_rfl) (by kernel_rfl) (fun _ => rfl) [] (by kernel_rfl) (fillL_lt (fun g hg => (Hp.out.lt g hg).2) hltL1) (fillL_ne hneL1 hccL1)
   ·
    intro x D hD
    have hne := hD.some
    have k1 := liftS hD d1 (earlyL (by first | assumption | omega) hp0 (fun q hq e => absurd ((mem_ownFill.1 hq).2.trans (congrArg some e)) hq0))
    have k2 := liftS hD d2 (earlyL (by first | assumption | omega) hp0 (fun q hq e => absurd ((mem_ownFill.1 hq).2.trans (congrArg some e)) hq0))
    have k3 := liftS hD n0 (earlyL (by first | assumption | omega) hp1 (fun q hq e => absurd ((mem_ownFill.1 hq).2.trans (congrArg some e)) hq1))
    have k4 := liftS hD n1 (earlyL (by first | assumption | omega) hp1 (fun q hq e => absurd ((mem_ownFill.1 hq).2.trans (congrArg some e)) hq1))
    simp only [takeOps, Act.put, List.setIfInBounds_toArray, List.set_cons_succ, List.set_cons_zero]
    repeat (go_big_quiet_step (fail))
    exact wpQuiet_nil rfl
   · exact fun x D hD => wpQuiet_nil rfl
   · exact fun _ h => absurd h (by simp)
   ·
    refine ⟨?_, ?_, ?_, ?_, trivial⟩
    · exact obl_new rfl (fun _ => by kernel_rfl) 24 (fun x => #[.int .i64 p1, .int .i64 p2]) gP (fun x w => by kernel_rfl) (fun x w hle => own_new hle rfl (by unfold maxLen; omega))
    ·
     refine obl_pushQ 34 51 54 (by kernel_rfl) w1.heap.size 24 i0 _ 2 16 Tryz.underlying34 Hi.out Hz0.out Hz1.out Hz2.out rfl (by decide) (.slice Ap k cp) k 1 ((spanCells (powL (rr R) k))) (#[.int .i64 p1, .int .i64 p2] : Array Value).toList (by first | rfl | (simp; done) | (simp; omega)) (by simp [Value.oneCell']) (by unfold maxLen; omega) (by omega) (by first | assumption | omega) (fun x w F hk hn => ?_) (fun _ => rfl) (fun _ _ _ _ h1 h2 => ⟨h1, h2⟩)
     have hj : OwnF w (F 3) w4.heap.size 24 2 (.slice (x 3 0).1 1 1) 1 (#[.int .i64 p1, .int .i64 p2] : Array Value).toList := hn 3 (by simp)
     obtain ⟨ad, hA, hc⟩ := news_own hj (by decide)
     exact ⟨ad, 1, rfl, row_thenL Hp.out hneL1 hk, wrL_row, (show Value.slice (x 3 0).1 1 1 = _ by rw [hA]), hc⟩
    · exact obl_new rfl (fun _ => by kernel_rfl) 24 (fun x => #[.int .i64 u, .int .i64 v]) gP (fun x w => by kernel_rfl) (fun x w hle => own_new hle rfl (by unfold maxLen; omega))
    ·
     refine obl_pushQ 34 56 58 (by kernel_rfl) w1.heap.size 24 i1 _ 2 16 Tryz.underlying34 Hi1.out Hz10.out Hz11.out Hz12.out rfl (by decide) (.slice Aq k cq) k 1 ((spanCells (rowL (bandZ z st wd tilt elo ehi) k))) (#[.int .i64 u, .int .i64 v] : Array Value).toList (by first | rfl | (simp; done) | (simp; omega)) (by simp [Value.oneCell']) (by unfold maxLen; omega) (by omega) (by first | assumption | omega) (fun x w F hk hn => ?_) (fun _ => rfl) (fun _ _ _ _ h1 h2 => ⟨h1, h2⟩)
     have hj : OwnF w (F 7) w4.heap.size 24 2 (.slice (x 7 0).1 1 1) 1 (#[.int .i64 u, .int .i64 v] : Array Value).toList := hn 7 (by simp)
     obtain ⟨ad, hA, hc⟩ := news_own hj (by decide)
     exact ⟨ad, 1, rfl, row_thenC Hq.out Hap.out hk, wrL_own, (show Value.slice (x 7 0).1 1 1 = _ by rw [hA]), hc⟩
   ·
    refine ⟨?_, ?_, ?_, ?_, trivial⟩
    ·
     refine ⟨fun x F wq wq' h hs hk => ?_, fun x x' F wq hx h => ?_⟩
     ·
      have h2 : OwnF wq F w4.heap.size 24 2 (.slice (x 3 0).1 1 1) 1 #[.int .i64 p1, .int .i64 p2].toList := h
      exact h2.stab hk
     ·
      have h2 : OwnF wq F w4.heap.size 24 2 (.slice (x 3 0).1 1 1) 1 #[.int .i64 p1, .int .i64 p2].toList := h
      rw [hx 3 (by simp)] at h2
      exact h2
    · exact owe_pushQ 4 _ w1.heap.size (.slice Ap k cp) 24 2 (k + 1) ((spanCells (powL (rr R) k)) ++ (#[.int .i64 p1, .int .i64 p2] : Array Value).toList) rfl (fun _ _ _ => rfl)
    ·
     refine ⟨fun x F wq wq' h hs hk => ?_, fun x x' F wq hx h => ?_⟩
     ·
      have h2 : OwnF wq F w4.heap.size 24 2 (.slice (x 7 0).1 1 1) 1 #[.int .i64 u, .int .i64 v].toList := h
      exact h2.stab hk
     ·
      have h2 : OwnF wq F w4.heap.size 24 2 (.slice (x 7 0).1 1 1) 1 #[.int .i64 u, .int .i64 v].toList := h
      rw [hx 7 (by simp)] at h2
      exact h2
    · exact owe_pushQ 8 _ w1.heap.size (.slice Aq k cq) 24 2 (k + 1) ((spanCells (rowL (bandZ z st wd tilt elo ehi) k)) ++ (#[.int .i64 u, .int .i64 v] : Array Value).toList) rfl (fun _ _ _ => rfl)
   intro xx w5 F hK hlv1 hap1
   have apart4_8 : ∀ k, F 4 k → ¬ F 8 k := hap1 _ (List.mem_iff_getElem?.2 ⟨1, rfl⟩) _ (List.mem_iff_getElem?.2 ⟨3, rfl⟩) (by decide) (by intro t ht; simp only [List.mem_cons, List.not_mem_nil, or_false] at ht; rcases ht with rfl | rfl | rfl | rfl <;> simp) (by intro t ht; simp only [List.mem_cons, List.not_mem_nil, or_false] at ht; rcases ht with rfl | rfl | rfl | rfl <;> simp)
   clear hap1
   obtain ⟨-, fct4, -, fct8, -⟩ := hlv1
   replace fct4 : OwnF w5 (F 4) w1.heap.size 24 2 (.slice (xx 4 0).1 (k + 1) (xx 4 0).2) (k + 1) ((spanCells (powL (rr R) k)) ++ (#[.int .i64 p1, .int .i64 p2] : Array Value).toList) ∧ FreshOr w4.heap.size (.slice Ap k cp) (.slice (xx 4 0).1 (k + 1) (xx 4 0).2) := fct4 rfl
   replace fct8 : OwnF w5 (F 8) w1.heap.size 24 2 (.slice (xx 8 0).1 (k + 1) (xx 8 0).2) (k + 1) ((spanCells (rowL (bandZ z st wd tilt elo ehi) k)) ++ (#[.int .i64 u, .int .i64 v] : Array Value).toList) ∧ FreshOr w4.heap.size (.slice Aq k cq) (.slice (xx 8 0).1 (k + 1) (xx 8 0).2) := fct8 rfl
   refine ⟨rfl, ?_⟩
   have hb5 := below_two hK hW14 (fun g hg => (Hp.out.lt g hg).1) (fun g hg => (Hq.out.lt g hg).1)
   have HL5 := hide (HL.out.trans hb5)
   have Hap5 := hide (apart_two apart4_8 fct4.1.2 fct8.1.2)
   have Hp5 := hide fct4.1.1
   have Hq5 := hide fct8.1.1
   clear hK fct4 fct8 apart4_8 hb5
   go_wp2_with fail
   go_roundw
   case rel => exact ⟨k + 1, _, _, _, _, by omega, by go_num, rfl, rfl, by rw [Hsp.out]; exact Hp5.out, by rw [Hsr.out]; exact Hq5.out, Hap5.out, HL5.out⟩
   case measure => simp [intOf] <;> omega
  ·
   obtain rfl : k = G := by omega
   have hlt3 : ¬ ((k : Int) < k) := by omega
   have hI1 := (Hl.out.below hBr).more hBr.size
   have hI2 := (Hlr.out.below hBr).more hBr.size
   have hI3 := ints_spans hp
   have hI4 := hIB.more hszr
   have hI5 := ints_spans hq
   have HL := hide hL
   have Hx := hide hx
   have Hm := hide hmm
   have HBr := hide hBr
   have HI1 := hide hI1
   have HI2 := hide hI2
   have HI3 := hide hI3
   have HI4 := hide hI4
   have HI5 := hide hI5
   clear hL hx hmm hBr hI1 hI2 hI3 hI4 hI5
   clear hp hq hap hee hIB
   have x0 := Hx.out.c 0 rfl
   have x1 := Hx.out.c 1 rfl
   have x2 := Hx.out.c 2 rfl
   have x3 := Hx.out.c 3 rfl
   have x4 := Hx.out.c 4 rfl
   have x5 := Hx.out.c 5 rfl
   have x6 := Hx.out.c 6 rfl
   have x7 := Hx.out.c 7 rfl
   have x8 := Hx.out.c 8 rfl
   have x9 := Hx.out.c 9 rfl
   have x10 := Hx.out.c 10 rfl
   have ltx := Hx.out.lt
   obtain ⟨m0, m1, m2, m3, m4, m5, m6, m7⟩ := Hm.out.c8
   have ltm := Hm.out.lt
   go_wp2_with fail
   refine wp_region_cut 23 (by kernel_rfl) (by simp only [List.take_succ_cons, List.take_zero]; exact rfl) (by simp only [List.drop_succ_cons, List.drop_zero]; exact rfl) (by kernel_rfl) ?_
   apply any_region_J (w0 := wr) [[], [], [], [], [], [], [], [], [], [], [], [10], [], [], [], [], [], [], [10], [10, 18], [10, 18], [10, 11, 18, 20], []] [true, true, true, true, true, true, true, true, true, true, false, false, true, true, true, true, true, true, false, true, false, false, true] [⟨10, none, [], []⟩, ⟨11, none, [], [10]⟩, ⟨18, none, [], []⟩, ⟨20, none, [], [18]⟩, ⟨21, none, [], [11, 20]⟩] (fun ixq y => match ixq with | 10 => .pointer (y 0).1 | 11 => .iface 86 (.pointer (y 0).1) | 18 => .func (.func 61) #[] #[.pointer (y 0).1] | 20 => .iface 100 (.agg #[.func (.func 61) #[] #[.pointer (y 0).1]]) | 21 => .slice (y 0).1 4 4 | _ => undef) (fun ixq x F wq => match ixq with | 10 => PassF wq F wr.heap.size (x 10 0).1 #[.slice A nl cl] | 11 => x 11 = x 10 | 18 => PtrF wq F wr.heap.size (x 18 0).1 22 #[.slice Ar nr cr] | 20 => x 20 = x 18 | 21 => OwnF wq F wr.heap.size 128 1 (.slice (x 21 0).1 4 4) 4 #[.iface 96 (.agg #[.int .i64 (2 * wd + 1), .slice A1 k c1']), .iface 86 (.pointer (x 11 0).1), .iface 98 (.agg #[.slice A nl cl, .slice Ar nr cr, .int .i64 a0, .int .i64 a1, .int .i64 b0, .int .i64 b1, .int .i64 c0, .int .i64 c1, .slice Aq k cq]), .iface 100 (.agg #[.func (.func 61) #[] #[.pointer (x 20 0).1]])].toList | _ => True) (fun a x => (((((a).put (some 71) (.pointer ((x 10) 0).1)).put (some 72) (.iface 86 (.pointer ((x 11) 0).1))).put (some 79) (.func (.func 61) #[] #[.pointer ((x 18) 0).1])).put (some 81) (.iface 100 (.agg #[.func (.func 61) #[] #[.pointer ((x 20) 0).1]]))).put (some 82) (.slice ((x 21) 0).1 4 4)) (by kernel_rfl) (fun _ => rfl) [68, 76] (by kernel_rfl)
   ·
    intro x D hD
    have hne := hD.some
    have k0 := liftB hD x7 (by first | assumption | omega)
    have k1 := liftB hD m0 (by first | assumption | omega)
    have k2 := liftB hD m1 (by first | assumption | omega)
    have k3 := liftB hD m2 (by first | assumption | omega)
    have k4 := liftB hD m3 (by first | assumption | omega)
    have k5 := liftB hD m4 (by first | assumption | omega)
    have k6 := liftB hD m5 (by first | assumption | omega)
    have k7 := liftB hD m6 (by first | assumption | omega)
    have k8 := liftB hD m7 (by first | assumption | omega)
    simp only [takeOps, Act.put, List.setIfInBounds_toArray, List.set_cons_succ, List.set_cons_zero]
    repeat (go_big_quiet_step (fail))
    exact wpQuiet_nil rfl
   ·
    intro d hd x x'
    simp only [List.mem_cons, List.not_mem_nil, or_false] at hd
    rcases hd with rfl | rfl
    all_goals rfl
   ·
    refine ⟨?_, ?_, ?_, ?_, ?_, trivial⟩
    ·
     refine obl_callL rfl (fun _ => by kernel_rfl) 38 (fun x => #[.slice A nl cl]) (fun x w => by kernel_rfl) ?_
     intro x w F hL hN
     refine (passing_any A nl cl w).mono ?_
     rintro e w' ⟨rfl, rfl⟩
     exact ⟨gP (w.heap.size + 1), rfl, ((Below.refl _ _).alloc (Nat.le_refl _) _).alloc (by simp) _, ⟨w.heap.size, rfl, hL.size, ⟨Nat.le_refl _, by simp; omega⟩, ⟨by omega, by simp⟩, (Blk.new _ _ _).alloc _, blk_new_at (by simp)⟩⟩
    · exact obl_pure rfl (fun _ => by kernel_rfl) (fun x => x 10) (fun x w => by kernel_rfl) (fun x w => rfl)
    ·
     refine obl_callL rfl (fun _ => by kernel_rfl) 35 (fun x => #[.slice Ar nr cr]) (fun x w => by kernel_rfl) ?_
     intro x w F hL hN
     refine (worth_any Ar nr cr w).mono ?_
     rintro e w' ⟨rfl, rfl⟩
     exact ⟨gP w.heap.size, rfl, (Below.refl _ _).alloc (Nat.le_refl _) _, ⟨w.heap.size, rfl, hL.size, ⟨Nat.le_refl _, by simp⟩, Blk.new _ _ _⟩⟩
    · exact obl_pure rfl (fun _ => by kernel_rfl) (fun x => x 18) (fun x w => by kernel_rfl) (fun x w => rfl)
    · exact obl_new rfl (fun _ => by kernel_rfl) 128 (fun x => #[.iface 96 (.agg #[.int .i64 (2 * wd + 1), .slice A1 k c1']), .iface 86 (.pointer (x 11 0).1), .iface 98 (.agg #[.slice A nl cl, .slice Ar nr cr, .int .i64 a0, .int .i64 a1, .int .i64 b0, .int .i64 b1, .int .i64 c0, .int .i64 c1, .slice Aq k cq]), .iface 100 (.agg #[.func (.func 61) #[] #[.pointer (x 20 0).1]])]) gP (fun x w => by kernel_rfl) (fun x w hle => own_new hle rfl (by unfold maxLen; omega))
   ·
    refine ⟨?_, ?_, ?_, ?_, ?_, trivial⟩
    ·
     refine ⟨fun x F wq wq' h hs hk => ?_, fun x x' F wq hx h => ?_⟩
     ·
      have h2 : PassF wq F wr.heap.size (x 10 0).1 #[.slice A nl cl] := h
      exact h2.stab hk
     ·
      have h2 : PassF wq F wr.heap.size (x 10 0).1 #[.slice A nl cl] := h
      rw [hx 10 (by simp)] at h2
      exact h2
    · exact owe_pure 10 (fun _ _ _ => rfl) (by simp)
    ·
     refine ⟨fun x F wq wq' h hs hk => ?_, fun x x' F wq hx h => ?_⟩
     ·
      have h2 : PtrF wq F wr.heap.size (x 18 0).1 22 #[.slice Ar nr cr] := h
      exact h2.stab hk
     ·
      have h2 : PtrF wq F wr.heap.size (x 18 0).1 22 #[.slice Ar nr cr] := h
      rw [hx 18 (by simp)] at h2
      exact h2
    · exact owe_pure 18 (fun _ _ _ => rfl) (by simp)
    ·
     refine ⟨fun x F wq wq' h hs hk => ?_, fun x x' F wq hx h => ?_⟩
     ·
      have h2 : OwnF wq F wr.heap.size 128 1 (.slice (x 21 0).1 4 4) 4 #[.iface 96 (.agg #[.int .i64 (2 * wd + 1), .slice A1 k c1']), .iface 86 (.pointer (x 11 0).1), .iface 98 (.agg #[.slice A nl cl, .slice Ar nr cr, .int .i64 a0, .int .i64 a1, .int .i64 b0, .int .i64 b1, .int .i64 c0, .int .i64 c1, .slice Aq k cq]), .iface 100 (.agg #[.func (.func 61) #[] #[.pointer (x 20 0).1]])].toList := h
      exact h2.stab hk
     ·
      have h2 : OwnF wq F wr.heap.size 128 1 (.slice (x 21 0).1 4 4) 4 #[.iface 96 (.agg #[.int .i64 (2 * wd + 1), .slice A1 k c1']), .iface 86 (.pointer (x 11 0).1), .iface 98 (.agg #[.slice A nl cl, .slice Ar nr cr, .int .i64 a0, .int .i64 a1, .int .i64 b0, .int .i64 b1, .int .i64 c0, .int .i64 c1, .slice Aq k cq]), .iface 100 (.agg #[.func (.func 61) #[] #[.pointer (x 20 0).1]])].toList := h
      rw [hx 21 (by simp), hx 11 (by simp), hx 20 (by simp)] at h2
      exact h2
   intro xx w5 F hL5 hlv2 hap2
   clear hap2
   obtain ⟨fct10, fct11, fct18, fct20, fct21, -⟩ := hlv2
   replace fct10 : PassF w5 (F 10) wr.heap.size (xx 10 0).1 #[.slice A nl cl] := fct10 rfl
   replace fct11 : xx 11 = xx 10 := fct11 rfl
   replace fct18 : PtrF w5 (F 18) wr.heap.size (xx 18 0).1 22 #[.slice Ar nr cr] := fct18 rfl
   replace fct20 : xx 20 = xx 18 := fct20 rfl
   replace fct21 : OwnF w5 (F 21) wr.heap.size 128 1 (.slice (xx 21 0).1 4 4) 4 #[.iface 96 (.agg #[.int .i64 (2 * wd + 1), .slice A1 k c1']), .iface 86 (.pointer (xx 11 0).1), .iface 98 (.agg #[.slice A nl cl, .slice Ar nr cr, .int .i64 a0, .int .i64 a1, .int .i64 b0, .int .i64 b1, .int .i64 c0, .int .i64 c1, .slice Aq k cq]), .iface 100 (.agg #[.func (.func 61) #[] #[.pointer (xx 20 0).1]])].toList := fct21 rfl
   refine ⟨rfl, ?_⟩
   obtain ⟨gl0, hA, hge, -, -, hb10, hb10'⟩ := fct10
   obtain ⟨g2, hA2, hge2, -, hb18⟩ := fct18
   rw [fct11, hA, fct20, hA2] at fct21
   obtain ⟨gp, hA3, hgep, hb21⟩ := blk_full4 (c := 4) fct21.1
   rw [hA3]
   have hne1 : g2 ≠ gl0 + 1 := fun e => by subst e; have := hb18.symm.trans hb10'; simp at this
   have hne2 : gp ≠ gl0 + 1 := fun e => by subst e; have := hb21.symm.trans hb10'; simp at this
   have hx5 := blk_later Hx.out hL5
   have cA := all4_any A nl cl l Ar nr cr rt Ap k cp (powL (rr R) k) (2 * wd + 1) A1 k c1' BL Aq k cq (rowL (bandZ z st wd tilt elo ehi) k) a0 a1 b0 b1 c0 c1 wr.heap.size (gl0 + 1) gl0 g2 gp w5 Hn.out Hnr.out (powL_length _ _) hBLn rowL_length (Nat.le_refl _) (Nat.le_refl _) (by omega) HT.out HTr.out Hok.out Hfac.out
    (HI1.out.below hL5) (HI2.out.below hL5) (HI3.out.below hL5) (HI4.out.below hL5) (HI5.out.below hL5) hb10' hb10 hb18 hb21 ⟨hge, by omega, hge2, hgep⟩ ⟨by omega, hne1, hne2⟩
   have HL5 := hide (HBr.out.trans (Below.mono hL5 HBr.out.size))
   have hsz5 : w.heap.size ≤ w5.heap.size := HL5.out.size
   have CA := hide cA
   clear fct11 fct20 fct21 hA hA2 hA3 hb10 hb10' hb18 hb21 hx5 cA hL5
   clear x0 x1 x2 x3 x4 x5 x6 x7 x8 x9 x10 ltx m0 m1 m2 m3 m4 m5 m6 m7 ltm
   go_wp2_with fail
   refine CA.out.mono ?_
   rintro e w6 ⟨v, rfl, ho, hb6⟩
   go_wp2
   go_ret
   exact ⟨_, rfl, own_mono ho hsz5, HL5.out.trans (Below.mono hb6 (HBr.out.size))⟩
end Go.Proofs.YtepgpihobmjbdaaGreat
end
section
namespace Go.Proofs.YtepgpihobmjbdaaGreat
open Go.RowKit
def rateR (e : Int) (l : List (Int × Int)) : List (Int × Int) × Int := if e ≠ 0 then ([], e) else (l, 0)
set_option maxHeartbeats 4000000 in
set_option maxRecDepth 100000 in
theorem ready_any (s : ByteArray) (sx sy z r g st wd tilt time elo ehi gx gy gs wi hi ray : Int) (l rt gl : List (Int × Int)) (a0 a1 b0 b1 c0 c1 : Int) (n ng : Nat) (rr : Nat → Ray1) (A : Option Addr) (nl cl : Nat) (Ar : Option Addr) (nr cr : Nat) (As : Option Addr) (cs : Nat) (Ag : Option Addr) (cg : Nat) (w : World)
  (hs : s.size ≤ 9223372036854775807) (hn : l.length = nl) (hmax : nl ≤ 9223372036854775807) (hnr : rt.length = nr) (hmaxr : nr ≤ 9223372036854775807) (hng : gl.length = ng) (hmaxg : ng ≤ 9223372036854775807) (hns : n ≤ maxLen)
  (hl : Ints w w.heap.size .i64 A (flat2 l)) (hlr : Ints w w.heap.size .i64 Ar (flat2 rt)) (hlg : Ints w w.heap.size .i64 Ag (flat2Q gl)) (hrs : RaysAt w w.heap.size As n rr) :
  Calls Tryz.prog 21 #[.agg (mdlC A nl cl Ar nr cr a0 a1 b0 b1 c0 c1), .agg (sweepC s sx sy z r g st wd tilt time As n cs), .agg #[.int .i64 elo, .int .i64 ehi], .agg (fldC gx gy gs wi hi Ag ng cg), .int .i64 ray] w fun e w' => ∃ A c, e = .returned (.tuple #[.slice A (if (allE s sx sy z r g st wd tilt time elo ehi gx gy gs wi hi ray l rt gl a0 a1 b0 b1 c0 c1 n ng rr) = 0 then g.toNat else 0) c, .int .i64 (allE s sx sy z r g st wd tilt time elo ehi gx gy gs wi hi ray l rt gl a0 a1 b0 b1 c0 c1 n ng rr)]) ∧ Below w.heap.size w w' ∧ ((allE s sx sy z r g st wd tilt time elo ehi gx gy gs wi hi ray l rt gl a0 a1 b0 b1 c0 c1 n ng rr) = 0 → Ints w' w'.heap.size .i64 A (flat2 (rowL (rowB gl sx sy r z st wd tilt ray elo ehi gx gy gs wi hi) g.toNat))) := by
 have cM := fun (W : World) (h1 : Ints W W.heap.size .i64 A (flat2 l)) (h2 : Ints W W.heap.size .i64 Ar (flat2 rt)) => RefCheckModel_any A nl cl l Ar nr cr rt (a0, a1) (b0, b1) (c0, c1) W hn hmax hnr hmaxr h1 h2
 have cS := fun (W : World) (h1 : RaysAt W W.heap.size As n rr) => RefCheckSweep_any s sx sy z r g st wd tilt time As n cs rr W hs hns h1
 have cB := fun (W : World) (h1 : Ints W W.heap.size .i64 Ag (flat2Q gl)) => RefBlocked_any s sx sy z r g st wd tilt elo ehi gx gy gs wi hi Ag ng cg gl ray W hs hng hmaxg h1
 unfold allE
 unfold BlockPost at cB
 unfold mdlV at cM
 unfold siteV fieldV at cB
 unfold sweepC at cS ⊢
 unfold mdlC fldC
 simp only [flat2Q_eq (rowL _ _)] at cB
 change ∀ (W : World) (h1 : Ints W W.heap.size .i64 Ag (flat2Q gl)), Calls _ _ _ W fun e w' => ∃ A c, _ ∧ _ ∧ (_ → Ints w' w'.heap.size .i64 A (flat2 (rowL (rowB gl sx sy r z st wd tilt ray elo ehi gx gy gs wi hi) g.toNat))) at cB
 generalize rowL (rowB gl sx sy r z st wd tilt ray elo ehi gx gy gs wi hi) g.toNat = BL at *
 generalize chkModel l rt (a0, a1) (b0, b1) (c0, c1) = mE at *
 generalize blockE (siteE (nameB s) sx sy z r g st wd) (fieldE (gridE gx gy gs wi hi) ng wi hi gl 20000) tilt elo ehi ray r = bE at *
 generalize sweepE (siteE (nameB s) sx sy z r g st wd) tilt time r g n rr = sE at *
 generalize g.toNat = G at *
 simp only at cM
 obtain ⟨nB, hnB⟩ : ∃ q, (if bE = 0 then G else 0) = q := ⟨_, rfl⟩
 simp only [hnB] at cB
 have CM := hide cM
 have CS := hide cS
 have CB := hide cB
 have Hl := hide hl
 have Hlr := hide hlr
 have Hlg := hide hlg
 have Hrs := hide hrs
 clear cM cS cB hl hlr hlg hrs
 clear hn hmax hnr hmaxr hng hmaxg hns hs
 by_cases hm : mE = 0
 ·
  subst hm
  by_cases hsw : sE = 0
  ·
   subst hsw
   rw [show readyE 0 0 bE = bE by simp [readyE]]
   have HN := hide hnB
   clear hnB
   rw [HN.out]
   go_enter Tryz.func21, Tryz.ntmps21
   have HB := hide (Below.refl w.heap.size w)
   go_wp2_with fail
   refine at_world fun W hW => ?_
   have bq0 : Blk W w.heap.size 45 #[.slice A nl cl, .slice Ar nr cr, .int .i64 a0, .int .i64 a1, .int .i64 b0, .int .i64 b1, .int .i64 c0, .int .i64 c1] := by rw [hW]; exact (((Blk.new _ _ _).alloc _).alloc _).alloc _
   have bq1 : Blk W (w.heap.size + 1) 31 #[.string s, .int .i64 sx, .int .i64 sy, .int .i64 z, .int .i64 r, .int .i64 g, .int .i64 st, .int .i64 wd, .int .i64 tilt, .int .i64 time, .slice As n cs] := by rw [hW]; exact ((blk_new_at (by simp)).alloc _).alloc _
   have bq2 : Blk W (w.heap.size + 2) 24 #[.int .i64 elo, .int .i64 ehi] := by rw [hW]; exact (blk_new_at (by simp)).alloc _
   have bq3 : Blk W (w.heap.size + 3) 36 #[.int .i64 gx, .int .i64 gy, .int .i64 gs, .int .i64 wi, .int .i64 hi, .slice Ag ng cg] := by rw [hW]; exact blk_new_at (by simp)
   have LW : Later w W := by rw [hW]; exact (((((Below.refl _ _).alloc (Nat.le_refl _) _).alloc (by simp; try omega) _).alloc (by simp; try omega) _).alloc (by simp; try omega) _)
   have szW : W.heap.size = w.heap.size + 4 := by rw [hW]; simp
   clear hW
   replace HB := hide (onward HB.out LW)
   have Hm := hide bq0
   have Hsw := hide bq1
   have He := hide bq2
   have Hf := hide bq3
   clear bq0 bq1 bq2 bq3 LW szW
   refine (CM.out _ ((Hl.out.below HB.out).more HB.out.size) ((Hlr.out.below HB.out).more HB.out.size)).mono ?_
   rintro e w1 ⟨rfl, hb⟩
   replace HB := hide (onward HB.out hb)
   replace Hm := hide (blk_later Hm.out hb)
   replace Hsw := hide (blk_later Hsw.out hb)
   replace He := hide (blk_later He.out hb)
   replace Hf := hide (blk_later Hf.out hb)
   clear hb
   have x0 := Hsw.out.c 0 rfl
   have x1 := Hsw.out.c 1 rfl
   have x2 := Hsw.out.c 2 rfl
   have x3 := Hsw.out.c 3 rfl
   have x4 := Hsw.out.c 4 rfl
   have x5 := Hsw.out.c 5 rfl
   have x6 := Hsw.out.c 6 rfl
   have x7 := Hsw.out.c 7 rfl
   have x8 := Hsw.out.c 8 rfl
   have x9 := Hsw.out.c 9 rfl
   have x10 := Hsw.out.c 10 rfl
   have ltx := Hsw.out.lt
   go_wp2_with fail
   refine (CS.out _ ((Hrs.out.below HB.out).more HB.out.size)).mono ?_
   rintro e w2 ⟨rfl, hb⟩
   replace HB := hide (onward HB.out hb)
   replace Hm := hide (blk_later Hm.out hb)
   replace Hsw := hide (blk_later Hsw.out hb)
   replace He := hide (blk_later He.out hb)
   replace Hf := hide (blk_later Hf.out hb)
   clear hb x0 x1 x2 x3 x4 x5 x6 x7 x8 x9 x10 ltx
   have x0 := Hsw.out.c 0 rfl
   have x1 := Hsw.out.c 1 rfl
   have x2 := Hsw.out.c 2 rfl
   have x3 := Hsw.out.c 3 rfl
   have x4 := Hsw.out.c 4 rfl
   have x5 := Hsw.out.c 5 rfl
   have x6 := Hsw.out.c 6 rfl
   have x7 := Hsw.out.c 7 rfl
   have x8 := Hsw.out.c 8 rfl
   have x9 := Hsw.out.c 9 rfl
   have x10 := Hsw.out.c 10 rfl
   have ltx := Hsw.out.lt
   obtain ⟨y0, y1⟩ := He.out.c2
   have lty := He.out.lt
   obtain ⟨f0, f1, f2, f3, f4, f5⟩ := Hf.out.c6
   have ltf := Hf.out.lt
   go_wp2_with fail
   refine (CB.out _ ((Hlg.out.below HB.out).more HB.out.size)).mono ?_
   rintro e w3 ⟨A1, c1', rfl, hb, hi1⟩
   replace HB := hide (onward HB.out hb)
   replace Hm := hide (blk_later Hm.out hb)
   replace Hsw := hide (blk_later Hsw.out hb)
   replace He := hide (blk_later He.out hb)
   replace Hf := hide (blk_later Hf.out hb)
   clear hb x0 x1 x2 x3 x4 x5 x6 x7 x8 x9 x10 ltx y0 y1 lty f0 f1 f2 f3 f4 f5 ltf
   have HI1 := hide hi1
   clear hi1
   go_wp2
   go_ret2
   exact ⟨_, _, rfl, HB.out, HI1.out⟩
  ·
   have hd : (sE != 0) = true := by simp [hsw]
   rw [show readyE 0 sE bE = sE by simp [readyE, hsw], if_neg hsw]
   clear hnB
   go_enter Tryz.func21, Tryz.ntmps21
   have HB := hide (Below.refl w.heap.size w)
   go_wp2_with fail
   refine at_world fun W hW => ?_
   have bq0 : Blk W w.heap.size 45 #[.slice A nl cl, .slice Ar nr cr, .int .i64 a0, .int .i64 a1, .int .i64 b0, .int .i64 b1, .int .i64 c0, .int .i64 c1] := by rw [hW]; exact (((Blk.new _ _ _).alloc _).alloc _).alloc _
   have bq1 : Blk W (w.heap.size + 1) 31 #[.string s, .int .i64 sx, .int .i64 sy, .int .i64 z, .int .i64 r, .int .i64 g, .int .i64 st, .int .i64 wd, .int .i64 tilt, .int .i64 time, .slice As n cs] := by rw [hW]; exact ((blk_new_at (by simp)).alloc _).alloc _
   have bq2 : Blk W (w.heap.size + 2) 24 #[.int .i64 elo, .int .i64 ehi] := by rw [hW]; exact (blk_new_at (by simp)).alloc _
   have bq3 : Blk W (w.heap.size + 3) 36 #[.int .i64 gx, .int .i64 gy, .int .i64 gs, .int .i64 wi, .int .i64 hi, .slice Ag ng cg] := by rw [hW]; exact blk_new_at (by simp)
   have LW : Later w W := by rw [hW]; exact (((((Below.refl _ _).alloc (Nat.le_refl _) _).alloc (by simp; try omega) _).alloc (by simp; try omega) _).alloc (by simp; try omega) _)
   have szW : W.heap.size = w.heap.size + 4 := by rw [hW]; simp
   clear hW
   replace HB := hide (onward HB.out LW)
   have Hm := hide bq0
   have Hsw := hide bq1
   have He := hide bq2
   have Hf := hide bq3
   clear bq0 bq1 bq2 bq3 LW szW
   refine (CM.out _ ((Hl.out.below HB.out).more HB.out.size) ((Hlr.out.below HB.out).more HB.out.size)).mono ?_
   rintro e w1 ⟨rfl, hb⟩
   replace HB := hide (onward HB.out hb)
   replace Hm := hide (blk_later Hm.out hb)
   replace Hsw := hide (blk_later Hsw.out hb)
   replace He := hide (blk_later He.out hb)
   replace Hf := hide (blk_later Hf.out hb)
   clear hb
   have x0 := Hsw.out.c 0 rfl
   have x1 := Hsw.out.c 1 rfl
   have x2 := Hsw.out.c 2 rfl
   have x3 := Hsw.out.c 3 rfl
   have x4 := Hsw.out.c 4 rfl
   have x5 := Hsw.out.c 5 rfl
   have x6 := Hsw.out.c 6 rfl
   have x7 := Hsw.out.c 7 rfl
   have x8 := Hsw.out.c 8 rfl
   have x9 := Hsw.out.c 9 rfl
   have x10 := Hsw.out.c 10 rfl
   have ltx := Hsw.out.lt
   go_wp2_with fail
   refine (CS.out _ ((Hrs.out.below HB.out).more HB.out.size)).mono ?_
   rintro e w2 ⟨rfl, hb⟩
   replace HB := hide (onward HB.out hb)
   replace Hm := hide (blk_later Hm.out hb)
   replace Hsw := hide (blk_later Hsw.out hb)
   replace He := hide (blk_later He.out hb)
   replace Hf := hide (blk_later Hf.out hb)
   clear hb x0 x1 x2 x3 x4 x5 x6 x7 x8 x9 x10 ltx
   go_wp2
   go_ret2
   exact ⟨none, 0, rfl, HB.out, fun h => absurd h hsw⟩
 ·
  have hd : (mE != 0) = true := by simp [hm]
  have hd2 : (mE == 0) = false := by simp [hm]
  rw [show readyE mE sE bE = mE by simp [readyE, hm], if_neg hm]
  clear hnB
  go_enter Tryz.func21, Tryz.ntmps21
  have HB := hide (Below.refl w.heap.size w)
  go_wp2_with fail
  refine at_world fun W hW => ?_
  have bq0 : Blk W w.heap.size 45 #[.slice A nl cl, .slice Ar nr cr, .int .i64 a0, .int .i64 a1, .int .i64 b0, .int .i64 b1, .int .i64 c0, .int .i64 c1] := by rw [hW]; exact (((Blk.new _ _ _).alloc _).alloc _).alloc _
  have bq1 : Blk W (w.heap.size + 1) 31 #[.string s, .int .i64 sx, .int .i64 sy, .int .i64 z, .int .i64 r, .int .i64 g, .int .i64 st, .int .i64 wd, .int .i64 tilt, .int .i64 time, .slice As n cs] := by rw [hW]; exact ((blk_new_at (by simp)).alloc _).alloc _
  have bq2 : Blk W (w.heap.size + 2) 24 #[.int .i64 elo, .int .i64 ehi] := by rw [hW]; exact (blk_new_at (by simp)).alloc _
  have bq3 : Blk W (w.heap.size + 3) 36 #[.int .i64 gx, .int .i64 gy, .int .i64 gs, .int .i64 wi, .int .i64 hi, .slice Ag ng cg] := by rw [hW]; exact blk_new_at (by simp)
  have LW : Later w W := by rw [hW]; exact (((((Below.refl _ _).alloc (Nat.le_refl _) _).alloc (by simp; try omega) _).alloc (by simp; try omega) _).alloc (by simp; try omega) _)
  have szW : W.heap.size = w.heap.size + 4 := by rw [hW]; simp
  clear hW
  replace HB := hide (onward HB.out LW)
  have Hm := hide bq0
  have Hsw := hide bq1
  have He := hide bq2
  have Hf := hide bq3
  clear bq0 bq1 bq2 bq3 LW szW
  refine (CM.out _ ((Hl.out.below HB.out).more HB.out.size) ((Hlr.out.below HB.out).more HB.out.size)).mono ?_
  rintro e w1 ⟨rfl, hb⟩
  replace HB := hide (onward HB.out hb)
  replace Hm := hide (blk_later Hm.out hb)
  replace Hsw := hide (blk_later Hsw.out hb)
  replace He := hide (blk_later He.out hb)
  replace Hf := hide (blk_later Hf.out hb)
  clear hb
  go_wp2
  go_ret2
  exact ⟨none, 0, rfl, HB.out, fun h => absurd h hm⟩
end Go.Proofs.YtepgpihobmjbdaaGreat
end
section
namespace Go.Proofs.YtepgpihobmjbdaaGreat
open Go.RowKit
attribute [local go_sem] fieldSpan0 fieldSpan1
def fillK (ms : List (Int × Int)) (cnt : Int) (bl : List (Int × Int)) (k : Nat) : List (Int × Int) := (List.range k).map fun j => fillS (ms.getD j (0, 0)) cnt (bl.getD j (0, 0))
theorem fillK_succ (ms : List (Int × Int)) (cnt : Int) (bl : List (Int × Int)) (k : Nat) : spanCells (fillK ms cnt bl (k + 1)) = spanCells (fillK ms cnt bl k) ++ (#[.int .i64 (fillS (ms.getD k (0, 0)) cnt (bl.getD k (0, 0))).1, .int .i64 (fillS (ms.getD k (0, 0)) cnt (bl.getD k (0, 0))).2] : Array Value).toList := by
 rw [spanCells_snoc]
 simp [fillK, List.range_succ]
theorem fillK_length (ms : List (Int × Int)) (cnt : Int) (bl : List (Int × Int)) (k : Nat) : (fillK ms cnt bl k).length = k := by simp [fillK]
theorem fillK_get {ms : List (Int × Int)} {cnt : Int} {bl : List (Int × Int)} {k j : Nat} (h : j < k) : (fillK ms cnt bl k).getD j (0, 0) = fillS (ms.getD j (0, 0)) cnt (bl.getD j (0, 0)) := by simp [fillK, List.getD, h]
theorem rayL_next (l rt : List (Int × Int)) (melt inn above : Int × Int) (bd fl : List (Int × Int)) (k : Nat) : spanCells (rayL l rt melt inn above bd fl (k + 1)) = spanCells (rayL l rt melt inn above bd fl k) ++ (#[.int .i64 (rateZ rt (facS melt inn above (bd.getD k (0, 0))) ((restGo l whole fl).getD k (0, 0))).1, .int .i64 (rateZ rt (facS melt inn above (bd.getD k (0, 0))) ((restGo l whole fl).getD k (0, 0))).2] : Array Value).toList := by
 rw [rayL_succ, spanCells_snoc]
theorem restGo_bd {l : List (Int × Int)} (hT : Tab l 32768) : ∀ (ms : List (Int × Int)) (t : Int × Int), Psg1 t → ms.all okM = true → ∀ j, j < ms.length → (0 ≤ ((restGo l t ms).getD j (0, 0)).1 ∧ ((restGo l t ms).getD j (0, 0)).1 ≤ 1073741824) ∧ (0 ≤ ((restGo l t ms).getD j (0, 0)).2 ∧ ((restGo l t ms).getD j (0, 0)).2 ≤ 1073741824)
 | [], _, _, _, j, hj => absurd hj (by simp)
 | m :: ms, t, ht, ha, j, hj => by
  rw [List.all_cons, Bool.and_eq_true] at ha
  have h1 := restOne_bd ht ha.1
  cases j with
  | zero => exact ⟨⟨h1.1, h1.2.1⟩, h1.2.2⟩
  | succ j =>
   have := restGo_bd hT ms (nextT l t (restOne t m)) (nextT_psg1 hT ht h1.1 h1.2.2.1) ha.2 j (by simp at hj; omega)
   exact this
set_option maxHeartbeats 8000000 in
set_option maxRecDepth 100000 in
theorem RefRates_any (s : ByteArray) (sx sy z r g st wd tilt time elo ehi gx gy gs wi hi ray : Int) (l rt gl : List (Int × Int)) (a0 a1 b0 b1 c0 c1 : Int) (n ng : Nat) (rr : Nat → Ray1) (A : Option Addr) (nl cl : Nat) (Ar : Option Addr) (nr cr : Nat) (As : Option Addr) (cs : Nat) (Ag : Option Addr) (cg : Nat) (w : World)
  (hs : s.size ≤ 9223372036854775807) (hn : l.length = nl) (hmax : nl ≤ 9223372036854775807) (hnr : rt.length = nr) (hmaxr : nr ≤ 9223372036854775807) (hng : gl.length = ng) (hmaxg : ng ≤ 9223372036854775807) (hns : n ≤ maxLen)
  (hl : Ints w w.heap.size .i64 A (flat2 l)) (hlr : Ints w w.heap.size .i64 Ar (flat2 rt)) (hlg : Ints w w.heap.size .i64 Ag (flat2Q gl)) (hrs : RaysAt w w.heap.size As n rr) :
  Calls Tryz.prog 8 #[.agg (mdlC A nl cl Ar nr cr a0 a1 b0 b1 c0 c1), .agg (sweepC s sx sy z r g st wd tilt time As n cs), .agg #[.int .i64 elo, .int .i64 ehi], .agg (fldC gx gy gs wi hi Ag ng cg), .int .i64 ray] w (SpansPost (rateR (allE s sx sy z r g st wd tilt time elo ehi gx gy gs wi hi ray l rt gl a0 a1 b0 b1 c0 c1 n ng rr) (rateL z r g st wd tilt elo ehi gx gy gs wi hi sx sy ray l rt gl a0 a1 b0 b1 c0 c1 rr)) w) := by
 have cY := fun (W : World) (h1 : Ints W W.heap.size .i64 A (flat2 l)) (h2 : Ints W W.heap.size .i64 Ar (flat2 rt)) (h3 : Ints W W.heap.size .i64 Ag (flat2Q gl)) (h4 : RaysAt W W.heap.size As n rr) => ready_any s sx sy z r g st wd tilt time elo ehi gx gy gs wi hi ray l rt gl a0 a1 b0 b1 c0 c1 n ng rr A nl cl Ar nr cr As cs Ag cg W hs hn hmax hnr hmaxr hng hmaxg hns h1 h2 h3 h4
 have cN := fun (j : Nat) (W : World) => RefBand_any s sx sy z r g st wd tilt elo ehi j W hs
 by_cases h0 : (allE s sx sy z r g st wd tilt time elo ehi gx gy gs wi hi ray l rt gl a0 a1 b0 b1 c0 c1 n ng rr) = 0
 ·
  obtain ⟨hm, hsw, hbl⟩ := ready_ok h0
  rw [h0] at cY ⊢
  rw [show rateR 0 (rateL z r g st wd tilt elo ehi gx gy gs wi hi sx sy ray l rt gl a0 a1 b0 b1 c0 c1 rr) = ((rateL z r g st wd tilt elo ehi gx gy gs wi hi sx sy ray l rt gl a0 a1 b0 b1 c0 c1 rr), 0) from rfl]
  obtain ⟨m1, m2, mA, mB, mC⟩ := model_ok hm
  obtain ⟨e0, ⟨t0, t1⟩, n4, hsh, hpw⟩ := sweep_ok hsw
  simp only [e0] at cN
  obtain ⟨-, kf, ke, kr0, kr1⟩ := block_ok hbl
  obtain ⟨z0, z1, r0, r1, g0, g1, s0, s1, w0, w1⟩ := site_all e0
  obtain ⟨G, rfl⟩ : ∃ G : Nat, g = G := ⟨g.toNat, by omega⟩
  obtain ⟨R, rfl⟩ : ∃ R : Nat, ray = R := ⟨ray.toNat, by omega⟩
  have hRn : R < n := by omega
  have hGR : (rr R).n = G := by have := hsh R hRn; omega
  have hlen : (rateL z r G st wd tilt elo ehi gx gy gs wi hi sx sy R l rt gl a0 a1 b0 b1 c0 c1 rr).length = G := by unfold rateL; rw [rayL_length]; simp
  unfold rateL at hlen ⊢
  simp only [Int.toNat_natCast] at cY hlen ⊢
  have hrow := fun (j : Nat) (hj : j ≤ 199) => rowB_ok (sx := sx) (sy := sy) (r := r) (z := z) (ray := (R : Int)) (j := j) hng kf ke ⟨t0, t1⟩ ⟨s0, s1⟩ ⟨w0, w1⟩ hj
  have cY2 : ∀ W, Ints W W.heap.size .i64 A (flat2 l) → Ints W W.heap.size .i64 Ar (flat2 rt) → Ints W W.heap.size .i64 Ag (flat2Q gl) → RaysAt W W.heap.size As n rr → Calls Tryz.prog 21 #[.agg (mdlC A nl cl Ar nr cr a0 a1 b0 b1 c0 c1), .agg (sweepC s sx sy z r G st wd tilt time As n cs), .agg #[.int .i64 elo, .int .i64 ehi], .agg (fldC gx gy gs wi hi Ag ng cg), .int .i64 R] W fun e w' =>
    ∃ A c, e = .returned (.tuple #[.slice A G c, .int .i64 0]) ∧ Below W.heap.size W w' ∧ Ints w' w'.heap.size .i64 A (flat2 (rowL (rowB gl sx sy r z st wd tilt R elo ehi gx gy gs wi hi) G)) := fun W i1 i2 i3 i4 => (cY W i1 i2 i3 i4).mono (by
   rintro e w' ⟨A1, c1, h1, h2, h3⟩
   exact ⟨A1, c1, by rw [h1]; simp, h2, by first | exact h3 rfl | exact h3 trivial⟩)
  have cN2 : ∀ (j : Nat) (W : World), j < G → Calls Tryz.prog 24 #[siteV s sx sy z r G st wd, .int .i64 tilt, .agg #[.int .i64 elo, .int .i64 ehi], .int .i64 j] W fun e w' => e = .returned (.tuple #[.agg #[.int .i64 (bandZ z st wd tilt elo ehi j).1, .int .i64 (bandZ z st wd tilt elo ehi j).2], .int .i64 0]) ∧ Below W.heap.size W w' := fun j W hj => (cN j W).mono (by
   rintro e w' ⟨h1, h2⟩
   rw [band_at ke ⟨t0, t1⟩ (by omega)] at h1
   exact ⟨h1, h2⟩)
  have hok : ∀ k, k < G → okF ((powL (rr R) G).getD k (0, 0)) (2 * wd + 1) ((rowL (rowB gl sx sy r z st wd tilt R elo ehi gx gy gs wi hi) G).getD k (0, 0)) = true := fun k hk => by
   rw [powL_get hk, rowL_get hk]
   have h1 := hpw R hRn k (by omega)
   obtain ⟨h2, h3, h4⟩ := hrow k (by omega)
   unfold okF
   rw [h1, show win (2 * wd + 1) 1 17 = true from win_iff.2 ⟨by omega, by omega⟩]
   simp only [Bool.true_and]
   exact decide_eq_true ⟨h2, h3, h4⟩
  have hfac : ∀ k, k < G → (bandZ z st wd tilt elo ehi k).1 ≤ (bandZ z st wd tilt elo ehi k).2 ∧ FacOk (facS (a0, a1) (b0, b1) (c0, c1) (bandZ z st wd tilt elo ehi k)) := fun k hk => by
   have h1 := band_le (z := z) (j := k) ke ⟨t0, t1⟩ ⟨s0, s1⟩ ⟨w0, w1⟩ (by omega)
   generalize bandZ z st wd tilt elo ehi k = uv at h1 ⊢
   obtain ⟨u, v⟩ := uv
   exact ⟨h1, facS_ok mA h1 mB mC⟩
  have hpow : ∀ k, k < G → (powL (rr R) G).getD k (0, 0) = (((rr R).e k).p1, ((rr R).e k).p2) := fun k hk => powL_get hk
  obtain ⟨BL, hBL⟩ : ∃ q, rowL (rowB gl sx sy r z st wd tilt R elo ehi gx gy gs wi hi) G = q := ⟨_, rfl⟩
  have hBLn : BL.length = G := by rw [← hBL]; exact rowL_length
  simp only [hBL] at cY2 hok hlen ⊢
  have hfl : fillsL (powL (rr R) G) (2 * wd + 1) BL = fillK (powL (rr R) G) (2 * wd + 1) BL G := by unfold fillsL fillK; rw [powL_length]
  rw [hfl] at hlen ⊢
  have hal : (fillK (powL (rr R) G) (2 * wd + 1) BL G).all okM = true := all_okM (fun j hj => by
   rw [fillK_length] at hj
   rw [fillK_get hj]
   exact fillS_okM (hok j hj))
  unfold siteV at cN2
  unfold sweepC mdlC fldC at cY2
  unfold sweepC mdlC fldC
  have hT := tab_of m1
  have hTr := tab_of m2
  obtain ⟨b, off, rfl, hb0, hcell, hech⟩ := hrs.at_ hRn
  rw [hGR] at hcell hech
  have hRi : (R : Int) < n := by omega
  have hbc : b0 ≤ 100000 ∧ 0 ≤ b1 ∧ c0 ≤ 100000 ∧ 0 ≤ c1 := ⟨by omega, by omega, by omega, by omega⟩
  have HT := hide hT
  have HTr := hide hTr
  have Hok := hide hok
  have Hfac := hide hfac
  have CY := hide cY2
  have CN := hide cN2
  have Hl := hide hl
  have Hlr := hide hlr
  have Hlg := hide hlg
  have Hech := hide hech
  have Hcell := hide hcell
  have Hn := hide hn
  have Hnr := hide hnr
  have Hpow := hide hpow
  have Hlen := hide hlen
  have Hal := hide hal
  have Hrs := hide hrs
  have Hbc := hide hbc
  clear hT hTr hok hfac cY2 cN2 hl hlr hlg hech hcell hn hnr hpow hlen hal hrs hbc
  clear cY cN hrow hpw hsh hBL h0 hm hsw hbl e0 m1 m2 mB mC kf hGR hfl
  go_enter Tryz.func8, Tryz.ntmps8
  have HB := hide (Below.refl w.heap.size w)
  go_wp2_with fail
  refine at_world fun W hW => ?_
  have bq0 : Blk W w.heap.size 45 #[.slice A nl cl, .slice Ar nr cr, .int .i64 a0, .int .i64 a1, .int .i64 b0, .int .i64 b1, .int .i64 c0, .int .i64 c1] := by rw [hW]; exact (((Blk.new _ _ _).alloc _).alloc _).alloc _
  have bq1 : Blk W (w.heap.size + 1) 31 #[.string s, .int .i64 sx, .int .i64 sy, .int .i64 z, .int .i64 r, .int .i64 (G : Int), .int .i64 st, .int .i64 wd, .int .i64 tilt, .int .i64 time, .slice (some ⟨b, off, none⟩) n cs] := by rw [hW]; exact ((blk_new_at (by simp)).alloc _).alloc _
  have bq2 : Blk W (w.heap.size + 2) 24 #[.int .i64 elo, .int .i64 ehi] := by rw [hW]; exact (blk_new_at (by simp)).alloc _
  have bq3 : Blk W (w.heap.size + 3) 36 #[.int .i64 gx, .int .i64 gy, .int .i64 gs, .int .i64 wi, .int .i64 hi, .slice Ag ng cg] := by rw [hW]; exact blk_new_at (by simp)
  have LW : Later w W := by rw [hW]; exact (((((Below.refl _ _).alloc (Nat.le_refl _) _).alloc (by simp; try omega) _).alloc (by simp; try omega) _).alloc (by simp; try omega) _)
  have szW : W.heap.size = w.heap.size + 4 := by rw [hW]; simp
  clear hW
  replace HB := hide (onward HB.out LW)
  have Hm := hide bq0
  have Hsw := hide bq1
  have He := hide bq2
  have Hf := hide bq3
  clear bq0 bq1 bq2 bq3 LW szW
  refine (CY.out _ ((Hl.out.below HB.out).more HB.out.size) ((Hlr.out.below HB.out).more HB.out.size) ((Hlg.out.below HB.out).more HB.out.size) ((Hrs.out.below HB.out).more HB.out.size)).mono ?_
  rintro e w1 ⟨A1, c1', rfl, hb, hi1⟩
  replace HB := hide (onward HB.out hb)
  replace Hm := hide (blk_later Hm.out hb)
  replace Hsw := hide (blk_later Hsw.out hb)
  replace He := hide (blk_later He.out hb)
  replace Hf := hide (blk_later Hf.out hb)
  clear hb
  have HBL := hide hi1
  have ltb : b < w1.heap.size := Nat.lt_of_lt_of_le hb0 HB.out.size
  have hl1 := (Hl.out.below HB.out).more HB.out.size
  have hlr1 := (Hlr.out.below HB.out).more HB.out.size
  have Hl1 := hide hl1
  have Hlr1 := hide hlr1
  clear hl1 hlr1
  clear hi1
  go_wp2_with fail
  go_loopw [14, 15] (fun o i wr => ∃ k : Nat, k ≤ G ∧ i = .int .i64 k ∧ wr.ownsRow w1.heap.size 24 2 o k (spanCells (fillK (powL (rr R) G) (2 * wd + 1) BL k)) ∧ Below w1.heap.size w1 wr) (fun _ i _ => G - (intOf i).toNat)
  case atStart => exact ⟨0, by omega, rfl, World.ownsRow_nil _ _ _ _, Below.refl _ _⟩
  case round =>
   obtain ⟨k, hk, rfl, hown, hL⟩ := hrel
   have hx := blk_belowN Hsw.out hL Hsw.out.lt
   have hltx := Hsw.out.lt
   have hBr := HB.out.trans (Below.mono hL HB.out.size)
   have hszr := hL.size
   by_cases hlt : k < G
   ·
    have hlt3 : (k : Int) < G := by omega
    clear Hsw Hm He Hf
    obtain ⟨Ao, co, rfl⟩ := own_slice hown
    obtain ⟨b1, off1, hB1, hb1, hc1⟩ := Hech.out (by omega)
    have hsp := fillK_succ (powL (rr R) G) (2 * wd + 1) BL k
    have hokk := Hok.out k hlt
    rw [Hpow.out k hlt] at hsp hokk
    have q := Hcell.out
    rw [← hBr.cell hb0] at q
    have q1 := hc1 k hlt 1 (.int .i64 ((rr R).e k).p1) rfl
    have q2 := hc1 k hlt 2 (.int .i64 ((rr R).e k).p2) rfl
    rw [← hBr.cell hb1] at q1 q2
    have ltb1 : b1 < w1.heap.size := Nat.lt_of_lt_of_le hb1 HB.out.size
    obtain ⟨b2, off2, hB2, hb2, hc2⟩ := HBL.out.pt (by omega)
    obtain ⟨p0, p1⟩ := hc2 k (by omega)
    rw [← hL.cell hb2] at p0 p1
    generalize BL.getD k (0, 0) = bk at *
    generalize ((rr R).e k).p1 = m1 at *
    generalize ((rr R).e k).p2 = m2 at *
    obtain ⟨bk1, bk2⟩ := bk
    simp only at p0 p1
    have hf := fun W => refFill_any m1 m2 (2 * wd + 1) bk1 bk2 W hokk
    obtain ⟨f1, f2, hff⟩ : ∃ a b, fillS (m1, m2) (2 * wd + 1) (bk1, bk2) = (a, b) := ⟨_, _, rfl⟩
    rw [hff] at hsp
    simp only [hff] at hf
    simp only at hsp
    unfold spanV at hf
    simp only at hf
    obtain ⟨Ar', hAr'⟩ : ∃ q, (rr R).A = q := ⟨_, rfl⟩
    obtain ⟨cr', hcr'⟩ : ∃ q, (rr R).c = q := ⟨_, rfl⟩
    rw [hAr'] at hB1
    rw [hAr', hcr'] at q
    subst hB1
    subst hB2
    obtain ⟨i0, hii, hz0, hz1, hz2⟩ := info_parts spanInfo
    have Hown := hide hown
    have HL := hide hL
    have Hx := hide hx
    have Hsp := hide hsp
    have Hff := hide hf
    have Hi := hide hii
    have Hz0 := hide hz0
    have Hz1 := hide hz1
    have Hz2 := hide hz2
    clear hown hL hx hsp hf hii hz0 hz1 hz2
    clear hc1 hc2 hff hokk
    have hb1r : b1 < wr.heap.size := by omega
    have hb2r : b2 < wr.heap.size := by omega
    have hb0r : b < wr.heap.size := by omega
    have x0 := Hx.out.c 0 rfl
    have x1 := Hx.out.c 1 rfl
    have x2 := Hx.out.c 2 rfl
    have x3 := Hx.out.c 3 rfl
    have x4 := Hx.out.c 4 rfl
    have x5 := Hx.out.c 5 rfl
    have x6 := Hx.out.c 6 rfl
    have x7 := Hx.out.c 7 rfl
    have x8 := Hx.out.c 8 rfl
    have x9 := Hx.out.c 9 rfl
    have x10 := Hx.out.c 10 rfl
    have ltx := Hx.out.lt
    go_wp2_with fail
    refine wp_region_cut 22 (by kernel_rfl) (by simp only [List.take_succ_cons, List.take_zero]; exact rfl) (by simp only [List.drop_succ_cons, List.drop_zero]; exact rfl) (by kernel_rfl) ?_
    apply any_region_P (w0 := wr) 21 (.slice Ao k co) [[], [], [], [], [], [], [], [], [], [], [], [], [], [], [], [], [], [], [], [], [], [20]] [true, true, true, true, true, true, true, true, true, true, true, true, true, true, true, true, true, true, true, true, false, false] [⟨20, none, [], []⟩, ⟨21, none, [20], []⟩] (fun ixq y => match ixq with | 20 => .slice (y 0).1 1 1 | 21 => .slice (y 0).1 (k + 1) (y 0).2 | _ => undef) (fun ixq x F wq => match ixq with | 20 => OwnF wq F wr.heap.size 24 2 (.slice (x 20 0).1 1 1) 1 #[.int .i64 f1, .int .i64 f2].toList | 21 => OwnF wq F w1.heap.size 24 2 (.slice (x 21 0).1 (k + 1) (x 21 0).2) (k + 1) ((spanCells (fillK (powL (rr R) G) (2 * wd + 1) BL k)) ++ (#[.int .i64 f1, .int .i64 f2] : Array Value).toList) | _ => True) (fun a x => ((a).put (some 62) (.slice ((x 20) 0).1 1 1)).put (some 63) (.slice ((x 21) 0).1 (k + 1) ((x 21) 0).2)) (by kernel_rfl) (fun _ => rfl) [61] (by kernel_rfl) (fun g hg => (Hown.out.lt g hg).2)
    ·
     intro x D hD
     have hne := hD.some
     have k0 := liftP hD x10 ⟨by first | assumption | omega, own_low_ne Hown.out (by first | assumption | omega)⟩
     have k1 := liftP hD x7 ⟨by first | assumption | omega, own_low_ne Hown.out (by first | assumption | omega)⟩
     have k2 := liftP hD q ⟨by first | assumption | omega, own_low_ne Hown.out (by first | assumption | omega)⟩
     have k3 := liftP hD q1 ⟨by first | assumption | omega, own_low_ne Hown.out (by first | assumption | omega)⟩
     have k4 := liftP hD q2 ⟨by first | assumption | omega, own_low_ne Hown.out (by first | assumption | omega)⟩
     have k5 := liftP hD p0 ⟨by first | assumption | omega, own_low_ne Hown.out (by first | assumption | omega)⟩
     have k6 := liftP hD p1 ⟨by first | assumption | omega, own_low_ne Hown.out (by first | assumption | omega)⟩
     simp only [takeOps, Act.put, List.setIfInBounds_toArray, List.set_cons_succ, List.set_cons_zero]
     repeat (go_big_quiet_step ((go_at_call 22; exact calls_later hD _ (Hff.out _))))
     exact wpQuiet_nil rfl
    ·
     intro d hd x x'
     simp only [List.mem_cons, List.not_mem_nil, or_false] at hd
     rcases hd with rfl
     all_goals rfl
    ·
     refine ⟨?_, ?_, trivial⟩
     · exact obl_new rfl (fun _ => by kernel_rfl) 24 (fun x => #[.int .i64 f1, .int .i64 f2]) gP (fun x w => by kernel_rfl) (fun x w hle => own_new hle rfl (by unfold maxLen; omega))
     ·
      refine obl_append 34 42 62 (by kernel_rfl) w1.heap.size 24 i0 _ 2 16 Tryz.underlying34 Hi.out Hz0.out Hz1.out Hz2.out rfl (by decide) k 1 ((spanCells (fillK (powL (rr R) G) (2 * wd + 1) BL k))) ((#[.int .i64 f1, .int .i64 f2] : Array Value).toList) (by first | rfl | (simp; done) | (simp; omega)) (by simp [Value.oneCell']) (by unfold maxLen; omega) (by omega) (by first | assumption | omega) (fun x w F hk hn => ?_) (fun _ => rfl) (fun _ _ _ _ h => h)
      have hj : OwnF w (F 20) wr.heap.size 24 2 (.slice (x 20 0).1 1 1) 1 (#[.int .i64 f1, .int .i64 f2] : Array Value).toList := hn 20 (by simp)
      obtain ⟨ad, hA, hc⟩ := news_own hj (by decide)
      exact ⟨_, ad, 1, rfl, row_then (s := ⟨21, none, [20], []⟩) Hown.out rfl hk, fun g hg => .inl ⟨rfl, hg⟩, (show Value.slice (x 20 0).1 1 1 = _ by rw [hA]), hc⟩
    ·
     refine ⟨?_, ?_, trivial⟩
     ·
      refine ⟨fun x F wq wq' h hs hk => ?_, fun x x' F wq hx h => ?_⟩
      ·
       have h2 : OwnF wq F wr.heap.size 24 2 (.slice (x 20 0).1 1 1) 1 #[.int .i64 f1, .int .i64 f2].toList := h
       exact h2.stab hk
      ·
       have h2 : OwnF wq F wr.heap.size 24 2 (.slice (x 20 0).1 1 1) 1 #[.int .i64 f1, .int .i64 f2].toList := h
       rw [hx 20 (by simp)] at h2
       exact h2
     · exact owe_own 21 w1.heap.size 24 2 (k + 1) ((spanCells (fillK (powL (rr R) G) (2 * wd + 1) BL k)) ++ (#[.int .i64 f1, .int .i64 f2] : Array Value).toList) rfl (fun _ _ _ => rfl)
    intro xx w5 F hK hlv1 hap1
    clear hap1
    obtain ⟨-, fct21, -⟩ := hlv1
    replace fct21 : OwnF w5 (F 21) w1.heap.size 24 2 (.slice (xx 21 0).1 (k + 1) (xx 21 0).2) (k + 1) ((spanCells (fillK (powL (rr R) G) (2 * wd + 1) BL k)) ++ (#[.int .i64 f1, .int .i64 f2] : Array Value).toList) := fct21 rfl
    refine ⟨rfl, ?_⟩
    have HL5 := hide (below_grown HL.out hK HL.out.size (fun q hq => (Hown.out.lt q hq).1))
    have Ho5 := hide fct21.1
    clear hK fct21 q q1 q2 p0 p1
    clear x0 x1 x2 x3 x4 x5 x6 x7 x8 x9 x10 ltx
    clear Hx
    go_wp2_with fail
    go_roundw
    case rel => exact ⟨k + 1, by omega, by go_num, by rw [Hsp.out]; exact Ho5.out, HL5.out⟩
    case measure => simp [intOf] <;> omega
   ·
    obtain rfl : k = G := by omega
    have hlt3 : ¬ ((k : Int) < k) := by omega
    have hee := blk_belowN He.out hL He.out.lt
    have hmm := blk_belowN Hm.out hL Hm.out.lt
    obtain ⟨A3, c3, rfl⟩ := own_slice hown
    have hI3 := ints_spans hown
    have hI1 := (Hl1.out.below hL).more hszr
    have hI2 := (Hlr1.out.below hL).more hszr
    clear Hsw Hm He Hf HBL
    clear hown
    have HL := hide hL
    have HBr := hide hBr
    have Hx := hide hx
    have He := hide hee
    have Hm := hide hmm
    have HI3 := hide hI3
    have HI1 := hide hI1
    have HI2 := hide hI2
    clear hL hBr hx hee hmm hI3 hI1 hI2
    clear HB
    have x0 := Hx.out.c 0 rfl
    have x1 := Hx.out.c 1 rfl
    have x2 := Hx.out.c 2 rfl
    have x3 := Hx.out.c 3 rfl
    have x4 := Hx.out.c 4 rfl
    have x5 := Hx.out.c 5 rfl
    have x6 := Hx.out.c 6 rfl
    have x7 := Hx.out.c 7 rfl
    have x8 := Hx.out.c 8 rfl
    have x9 := Hx.out.c 9 rfl
    have x10 := Hx.out.c 10 rfl
    have ltx := Hx.out.lt
    obtain ⟨m0, m1, m2, m3, m4, m5, m6, m7⟩ := Hm.out.c8
    have ltm := Hm.out.lt
    go_wp2_with fail
    refine (restore_any A nl cl l A3 k c3 (fillK (powL (rr R) k) (2 * wd + 1) BL k) wr Hn.out (fillK_length _ _ _ _) (by omega) HT.out Hal.out HI1.out HI3.out).mono ?_
    rintro e w2 ⟨v4, rfl, ho, hb⟩
    replace HBr := hide (onward HBr.out hb)
    replace Hx := hide (blk_later Hx.out hb)
    replace He := hide (blk_later He.out hb)
    replace Hm := hide (blk_later Hm.out hb)
    clear hb x0 x1 x2 x3 x4 x5 x6 x7 x8 x9 x10 ltx m0 m1 m2 m3 m4 m5 m6 m7 ltm
    rw [fillK_length] at ho
    obtain ⟨A4, c4, rfl⟩ := own_slice ho
    have hI4 := ints_spans ho
    have hI5 := ((Ints.below Hlr.out HBr.out).more HBr.out.size)
    clear ho
    have HI4 := hide hI4
    have HI5 := hide hI5
    clear hI4 hI5
    go_wp2_with fail
    go_loopw [16, 17] (fun o i wr2 => ∃ j : Nat, j ≤ k ∧ i = .int .i64 j ∧ wr2.ownsRow w2.heap.size 24 2 o j (spanCells (rayL l rt (a0, a1) (b0, b1) (c0, c1) (rowL (bandZ z st wd tilt elo ehi) k) (fillK (powL (rr R) k) (2 * wd + 1) BL k) j)) ∧ Below w2.heap.size w2 wr2) (fun _ i _ => k - (intOf i).toNat)
    case atStart => exact ⟨0, by omega, rfl, World.ownsRow_nil _ _ _ _, Below.refl _ _⟩
    case round =>
     obtain ⟨j, hj, rfl, hown, hL2⟩ := hrel
     have hszr2 := hL2.size
     have hlm2 := Hm.out.lt
     by_cases hlt2 : j < k
     ·
      have hlt4 : (j : Int) < k := by omega
      have hjd : decide (j < k) = true := decide_eq_true hlt2
      have hx := blk_belowN Hx.out hL2 Hx.out.lt
      have hee := blk_belowN He.out hL2 He.out.lt
      have hmm := blk_belowN Hm.out hL2 Hm.out.lt
      clear Hx He Hm HBr
      have hsp := rayL_next l rt (a0, a1) (b0, b1) (c0, c1) (rowL (bandZ z st wd tilt elo ehi) k) (fillK (powL (rr R) k) (2 * wd + 1) BL k) j
      rw [rowL_get hlt2] at hsp
      obtain ⟨hle, hfk⟩ := Hfac.out j hlt2
      have cn := fun W => CN.out j W hlt2
      have hbd := restGo_bd HT.out (fillK (powL (rr R) k) (2 * wd + 1) BL k) whole whole_psg1 Hal.out j (by rw [fillK_length]; exact hlt2)
      obtain ⟨b4, off4, rfl, hb4, hc4⟩ := HI4.out.pt (by rw [restGo_length, fillK_length]; omega)
      obtain ⟨p0, p1⟩ := hc4 j (by rw [restGo_length, fillK_length]; omega)
      have hP4 := And.intro p0 p1
      rw [← hL2.cell hb4] at p0 p1
      generalize (restGo l whole (fillK (powL (rr R) k) (2 * wd + 1) BL k)).getD j (0, 0) = q at *
      obtain ⟨q1, q2⟩ := q
      generalize bandZ z st wd tilt elo ehi j = uv at *
      obtain ⟨u, v⟩ := uv
      simp only at hle p0 p1 hbd cn
      have cf := fun W => refFactor_any A nl cl Ar nr cr a0 a1 b0 b1 c0 c1 u v W mA hle Hbc.out
      obtain ⟨f1, f2, hff⟩ : ∃ a b, facS (a0, a1) (b0, b1) (c0, c1) (u, v) = (a, b) := ⟨_, _, rfl⟩
      rw [hff] at hsp hfk
      simp only [hff] at cf
      unfold spanV at cf
      simp only at cf
      obtain ⟨⟨qa, qb⟩, qc, qd⟩ := hbd
      obtain ⟨la, lb⟩ := layZ_bd hfk (z := (q1, q2)) qa qc
      obtain ⟨f1a, f1b, f2a, f2b⟩ := hfk
      simp only at f1a f1b f2a f2b
      obtain ⟨x1', x2'⟩ := mul_bd (a := q1) (b := f1) (A := 1073741824) (B := 100000) qa qb f1a f1b
      obtain ⟨x3', x4'⟩ := mul_bd (a := q2) (b := f2) (A := 1073741824) (B := 100000) qc qd f2a f2b
      obtain ⟨uu, hu, hdn⟩ : ∃ uu, q1 * f1 / 1000 = uu ∧ ∀ W, Calls Tryz.prog 26 #[.int .i64 (q1 * f1), .int .i64 1000] W fun e w' => e = .returned (.int .i64 uu) ∧ W = w' := ⟨_, rfl, fun W => Down_any _ _ _ (by omega) (by omega) (by omega) (by omega)⟩
      obtain ⟨vv, hv, hup⟩ : ∃ vv, cdiv (q2 * f2) 1000 = vv ∧ ∀ W, Calls Tryz.prog 27 #[.int .i64 (q2 * f2), .int .i64 1000] W fun e w' => e = .returned (.int .i64 vv) ∧ W = w' := ⟨_, rfl, fun W => Up_any _ _ _ (by omega) (by omega) (by omega) (by omega)⟩
      unfold rateZ at hsp
      obtain ⟨y1, y2, hy⟩ : ∃ a b, layZ (f1, f2) (q1, q2) = (a, b) := ⟨_, _, rfl⟩
      have elo1 : (if uu < 1073741824 then uu else 1073741824) = y1 := by
       have h5 : (layZ (f1, f2) (q1, q2)).1 = capI uu := by unfold layZ; rw [hu]
       rw [hy] at h5
       rw [show y1 = capI uu from h5]
       unfold capI
       split <;> omega
      have ehi1 : (if vv < 1073741824 then vv else 1073741824) = y2 := by
       have h5 : (layZ (f1, f2) (q1, q2)).2 = capI vv := by unfold layZ; rw [hv]
       rw [hy] at h5
       rw [show y2 = capI vv from h5]
       unfold capI
       split <;> omega
      have elo2 : min 1073741824 uu = y1 := by rw [← elo1]; split <;> omega
      have ehi2 : min 1073741824 vv = y2 := by rw [← ehi1]; split <;> omega
      rw [hy] at hsp la lb
      simp only at hsp la lb
      have cv1 := fun (W : World) (hI : Ints W W.heap.size .i64 Ar (flat2 rt)) => value_any Ar nr cr rt 1000000 y1 W Hnr.out HTr.out (by decide) la.1 la.2 hI
      have cv2 := fun (W : World) (hI : Ints W W.heap.size .i64 Ar (flat2 rt)) => value_any Ar nr cr rt 1000000 y2 W Hnr.out HTr.out (by decide) lb.1 lb.2 hI
      obtain ⟨v1, v1', hv1⟩ : ∃ a b, valGo y1 rt = (a, b) := ⟨_, _, rfl⟩
      obtain ⟨v2', v2, hv2⟩ : ∃ a b, valGo y2 rt = (a, b) := ⟨_, _, rfl⟩
      rw [hv1, hv2] at hsp
      simp only [hv1] at cv1
      simp only [hv2] at cv2
      simp only at hsp
      have hI6 := HI5.out.below hL2
      obtain ⟨i0, hii, hz0, hz1, hz2⟩ := info_parts spanInfo
      obtain ⟨Ao, co, rfl⟩ := own_slice hown
      simp only at hP4
      have P4 := hide hP4
      have Hown := hide hown
      have HL2 := hide hL2
      have Hx := hide hx
      have He := hide hee
      have Hm := hide hmm
      have Hsp := hide hsp
      have Cn := hide cn
      have Cf := hide cf
      have Hdn := hide hdn
      have Hup := hide hup
      have Cv1 := hide cv1
      have Cv2 := hide cv2
      have Hi := hide hii
      have Hz0 := hide hz0
      have Hz1 := hide hz1
      have Hz2 := hide hz2
      have HI6 := hide hI6
      clear hP4 hown hL2 hx hee hmm hsp cn cf hdn hup cv1 cv2 hii hz0 hz1 hz2 hI6
      clear hc4 hff hu hv hy hv1 hv2 la lb
      have x0 := Hx.out.c 0 rfl
      have x1 := Hx.out.c 1 rfl
      have x2 := Hx.out.c 2 rfl
      have x3 := Hx.out.c 3 rfl
      have x4 := Hx.out.c 4 rfl
      have x5 := Hx.out.c 5 rfl
      have x6 := Hx.out.c 6 rfl
      have x7 := Hx.out.c 7 rfl
      have x8 := Hx.out.c 8 rfl
      have x9 := Hx.out.c 9 rfl
      have x10 := Hx.out.c 10 rfl
      have ltx := Hx.out.lt
      obtain ⟨y0, y1⟩ := He.out.c2
      have lty := He.out.lt
      go_wp2_with fail
      clear p0 p1
      have hb4r0 : b4 < w2.heap.size := hb4
      refine (Cn.out _).mono ?_
      rintro e w3 ⟨rfl, hb⟩
      replace Hown := hide (own_later Hown.out hb)
      replace HL2 := hide (onward HL2.out hb)
      replace Hx := hide (blk_later Hx.out hb)
      replace He := hide (blk_later He.out hb)
      replace Hm := hide (blk_later Hm.out hb)
      clear hb x0 x1 x2 x3 x4 x5 x6 x7 x8 x9 x10 ltx y0 y1 lty
      obtain ⟨m0, m1, m2, m3, m4, m5, m6, m7⟩ := Hm.out.c8
      have ltm := Hm.out.lt
      go_wp2_with fail
      refine at_world fun w4 hW => ?_
      have bq0 : Blk w4 w3.heap.size 24 #[.int .i64 u, .int .i64 v] := by rw [hW]; exact Blk.new _ _ _
      have LW : Later w3 w4 := by rw [hW]; exact ((Below.refl _ _).alloc (Nat.le_refl _) _)
      have szW : w4.heap.size = w3.heap.size + 1 := by rw [hW]; simp
      clear hW m0 m1 m2 m3 m4 m5 m6 m7 ltm
      replace Hown := hide (own_later Hown.out LW)
      replace HL2 := hide (onward HL2.out LW)
      replace Hx := hide (blk_later Hx.out LW)
      replace He := hide (blk_later He.out LW)
      replace Hm := hide (blk_later Hm.out LW)
      have Hbn := hide bq0
      clear bq0 LW szW
      refine (Cf.out _).mono ?_
      rintro e w5 ⟨rfl, hb⟩
      replace Hown := hide (own_later Hown.out hb)
      replace HL2 := hide (onward HL2.out hb)
      replace Hx := hide (blk_later Hx.out hb)
      replace He := hide (blk_later He.out hb)
      replace Hm := hide (blk_later Hm.out hb)
      replace Hbn := hide (blk_later Hbn.out hb)
      clear hb
      go_wp2_with fail
      refine code_world fun w6 hW => ?_
      have bq0 : Blk w6 w5.heap.size 24 #[.int .i64 f1, .int .i64 f2] := by rw [hW]; exact Blk.new _ _ _
      have LW : Later w5 w6 := by rw [hW]; exact ((Below.refl _ _).alloc (Nat.le_refl _) _)
      have szW : w6.heap.size = w5.heap.size + 1 := by rw [hW]; simp
      clear hW
      replace Hown := hide (own_later Hown.out LW)
      replace HL2 := hide (onward HL2.out LW)
      replace Hx := hide (blk_later Hx.out LW)
      replace He := hide (blk_later He.out LW)
      replace Hm := hide (blk_later Hm.out LW)
      replace Hbn := hide (blk_later Hbn.out LW)
      have Hbf := hide bq0
      clear bq0 LW szW
      obtain ⟨p0, p1⟩ := P4.out
      rw [← HL2.out.cell hb4r0] at p0 p1
      have hb4r : b4 < w6.heap.size := by have := HL2.out.size; omega
      obtain ⟨e0, e1⟩ := Hbf.out.c2
      have lte := Hbf.out.lt
      apply wp_region_L (w0 := w6) [[], [], [], [], [], [], [], [], [], [], [], [], [], [], [], [], [], [], [], [], [], []] [true, true, true, true, true, true, true, true, true, true, true, true, true, true, true, true, true, true, true, true, true, true] [] (fun ixq y => match ixq with  | _ => undef) (fun ixq x F wq => match ixq with  | _ => True) (fun a x => a) (by kernel_rfl) (by kernel_rfl) (fun _ => rfl) [95, 105] (by kernel_rfl)
      ·
       intro x D hD
       have hne := hD.some
       have k0 := liftB hD p0 (by first | assumption | omega)
       have k1 := liftB hD p1 (by first | assumption | omega)
       have k2 := liftB hD e0 (by first | assumption | omega)
       have k3 := liftB hD e1 (by first | assumption | omega)
       simp only [takeOps, Act.put, List.setIfInBounds_toArray, List.set_cons_succ, List.set_cons_zero]
       repeat (go_big_quiet_step ((first | (go_at_call 26; exact calls_same _ (Hdn.out _)) | (go_at_call 27; exact calls_same _ (Hup.out _)))))
       exact wpQuiet_nil rfl
      ·
       intro d hd x x'
       simp only [List.mem_cons, List.not_mem_nil, or_false] at hd
       rcases hd with rfl | rfl
       all_goals rfl
      · exact trivial
      · exact trivial
      intro xx w7 F hK hlv2
      clear hlv2
      clear p0 p1 hb4r elo1 ehi1 elo2 ehi2 x1' x2' x3' x4' qa qb qc qd f1a f1b f2a f2b
      replace Hown := hide (own_later Hown.out hK)
      replace HL2 := hide (onward HL2.out hK)
      replace Hx := hide (blk_later Hx.out hK)
      replace He := hide (blk_later He.out hK)
      replace Hm := hide (blk_later Hm.out hK)
      replace Hbn := hide (blk_later Hbn.out hK)
      replace Hbf := hide (blk_later Hbf.out hK)
      clear hK e0 e1 lte
      have hsz7 : w2.heap.size ≤ w7.heap.size := HL2.out.size
      have hI7 := HI5.out.below HL2.out
      have HI7 := hide hI7
      clear hI7
      obtain ⟨m0, m1, m2, m3, m4, m5, m6, m7⟩ := Hm.out.c8
      have ltm := Hm.out.lt
      go_wp2_with fail
      refine wp_region_cut 14 (by kernel_rfl) (by simp only [List.take_succ_cons, List.take_zero]; exact rfl) (by simp only [List.drop_succ_cons, List.drop_zero]; exact rfl) (by kernel_rfl) ?_
      apply any_region_P (w0 := w7) 13 (.slice Ao j co) [[], [], [], [], [], [], [], [], [], [], [], [], [], [12]] [true, true, true, true, true, true, true, true, true, true, true, true, false, false] [⟨12, none, [], []⟩, ⟨13, none, [12], []⟩] (fun ixq y => match ixq with | 12 => .slice (y 0).1 1 1 | 13 => .slice (y 0).1 (j + 1) (y 0).2 | _ => undef) (fun ixq x F wq => match ixq with | 12 => OwnF wq F w7.heap.size 24 2 (.slice (x 12 0).1 1 1) 1 #[.int .i64 v1, .int .i64 v2].toList | 13 => OwnF wq F w2.heap.size 24 2 (.slice (x 13 0).1 (j + 1) (x 13 0).2) (j + 1) ((spanCells (rayL l rt (a0, a1) (b0, b1) (c0, c1) (rowL (bandZ z st wd tilt elo ehi) k) (fillK (powL (rr R) k) (2 * wd + 1) BL k) j)) ++ (#[.int .i64 v1, .int .i64 v2] : Array Value).toList) | _ => True) (fun a x => ((a).put (some 119) (.slice ((x 12) 0).1 1 1)).put (some 120) (.slice ((x 13) 0).1 (j + 1) ((x 13) 0).2)) (by kernel_rfl) (fun _ => rfl) [111, 116] (by kernel_rfl) (fun g hg => (Hown.out.lt g hg).2)
      ·
       intro x D hD
       have hne := hD.some
       have k0 := liftP hD m1 ⟨by first | assumption | omega, own_low_ne Hown.out (by first | assumption | omega)⟩
       have hlow := fun (x : Of D) => kbS (B := w2.heap.size) hD (fun k hk => ⟨Nat.lt_of_lt_of_le hk hsz7, own_low_ne Hown.out hk⟩) x
       simp only [takeOps, Act.put, List.setIfInBounds_toArray, List.set_cons_succ, List.set_cons_zero]
       repeat (go_big_quiet_step ((first | (go_at_call_of 28 (Value.int .i64 y1); exact calls_later hD _ (Cv1.out _ ((HI7.out.below (hlow _)).more (Nat.le_trans hsz7 (hD.low _ (Of.ok _)).size)))) | (go_at_call_of 28 (Value.int .i64 y2); exact calls_later hD _ (Cv2.out _ ((HI7.out.below (hlow _)).more (Nat.le_trans hsz7 (hD.low _ (Of.ok _)).size)))))))
       exact wpQuiet_nil rfl
      ·
       intro d hd x x'
       simp only [List.mem_cons, List.not_mem_nil, or_false] at hd
       rcases hd with rfl | rfl
       all_goals rfl
      ·
       refine ⟨?_, ?_, trivial⟩
       · exact obl_new rfl (fun _ => by kernel_rfl) 24 (fun x => #[.int .i64 v1, .int .i64 v2]) gP (fun x w => by kernel_rfl) (fun x w hle => own_new hle rfl (by unfold maxLen; omega))
       ·
        refine obl_append 34 107 119 (by kernel_rfl) w2.heap.size 24 i0 _ 2 16 Tryz.underlying34 Hi.out Hz0.out Hz1.out Hz2.out rfl (by decide) j 1 ((spanCells (rayL l rt (a0, a1) (b0, b1) (c0, c1) (rowL (bandZ z st wd tilt elo ehi) k) (fillK (powL (rr R) k) (2 * wd + 1) BL k) j))) ((#[.int .i64 v1, .int .i64 v2] : Array Value).toList) (by first | rfl | (simp; done) | (simp; omega)) (by simp [Value.oneCell']) (by unfold maxLen; omega) (by omega) (by first | assumption | omega) (fun x w F hk hn => ?_) (fun _ => rfl) (fun _ _ _ _ h => h)
        have hj : OwnF w (F 12) w7.heap.size 24 2 (.slice (x 12 0).1 1 1) 1 (#[.int .i64 v1, .int .i64 v2] : Array Value).toList := hn 12 (by simp)
        obtain ⟨ad, hA, hc⟩ := news_own hj (by decide)
        exact ⟨_, ad, 1, rfl, row_then (s := ⟨13, none, [12], []⟩) Hown.out rfl hk, fun g hg => .inl ⟨rfl, hg⟩, (show Value.slice (x 12 0).1 1 1 = _ by rw [hA]), hc⟩
      ·
       refine ⟨?_, ?_, trivial⟩
       ·
        refine ⟨fun x F wq wq' h hs hk => ?_, fun x x' F wq hx h => ?_⟩
        ·
         have h2 : OwnF wq F w7.heap.size 24 2 (.slice (x 12 0).1 1 1) 1 #[.int .i64 v1, .int .i64 v2].toList := h
         exact h2.stab hk
        ·
         have h2 : OwnF wq F w7.heap.size 24 2 (.slice (x 12 0).1 1 1) 1 #[.int .i64 v1, .int .i64 v2].toList := h
         rw [hx 12 (by simp)] at h2
         exact h2
       · exact owe_own 13 w2.heap.size 24 2 (j + 1) ((spanCells (rayL l rt (a0, a1) (b0, b1) (c0, c1) (rowL (bandZ z st wd tilt elo ehi) k) (fillK (powL (rr R) k) (2 * wd + 1) BL k) j)) ++ (#[.int .i64 v1, .int .i64 v2] : Array Value).toList) rfl (fun _ _ _ => rfl)
      intro xx2 w8 F hK8 hlv3 hap3
      clear hap3
      obtain ⟨-, fct13, -⟩ := hlv3
      replace fct13 : OwnF w8 (F 13) w2.heap.size 24 2 (.slice (xx2 13 0).1 (j + 1) (xx2 13 0).2) (j + 1) ((spanCells (rayL l rt (a0, a1) (b0, b1) (c0, c1) (rowL (bandZ z st wd tilt elo ehi) k) (fillK (powL (rr R) k) (2 * wd + 1) BL k) j)) ++ (#[.int .i64 v1, .int .i64 v2] : Array Value).toList) := fct13 rfl
      refine ⟨rfl, ?_⟩
      have HL8 := hide (below_grown HL2.out hK8 HL2.out.size (fun q hq => (Hown.out.lt q hq).1))
      have Ho8 := hide fct13.1
      clear hK8 fct13
      clear m0 m1 m2 m3 m4 m5 m6 m7 ltm
      clear Hx He Hm
      go_wp2_with fail
      go_roundw
      case rel => exact ⟨j + 1, by omega, by go_num, by rw [Hsp.out]; exact Ho8.out, HL8.out⟩
      case measure => simp [intOf] <;> omega
     ·
      obtain rfl : j = k := by omega
      have hlt4 : ¬ ((j : Int) < j) := by omega
      have hjd : decide (j < j) = false := decide_eq_false (by omega)
      obtain ⟨A5, c5, rfl⟩ := own_slice hown
      have ho5 := own_mono hown HBr.out.size
      have hb5 := HBr.out.trans (Below.mono hL2 HBr.out.size)
      have Ho5 := hide ho5
      have Hb5 := hide hb5
      clear ho5 hb5
      clear hown hL2 Hx He Hm HBr
      go_wp2
      go_ret2
      exact ⟨_, rfl, by rw [Hlen.out]; exact Ho5.out, Hb5.out⟩
 ·
  have hd : ((allE s sx sy z r g st wd tilt time elo ehi gx gy gs wi hi ray l rt gl a0 a1 b0 b1 c0 c1 n ng rr) != 0) = true := by simp [h0]
  rw [show rateR (allE s sx sy z r g st wd tilt time elo ehi gx gy gs wi hi ray l rt gl a0 a1 b0 b1 c0 c1 n ng rr) (rateL z r g st wd tilt elo ehi gx gy gs wi hi sx sy ray l rt gl a0 a1 b0 b1 c0 c1 rr) = ([], (allE s sx sy z r g st wd tilt time elo ehi gx gy gs wi hi ray l rt gl a0 a1 b0 b1 c0 c1 n ng rr)) from if_pos h0]
  rw [if_neg h0] at cY
  generalize (allE s sx sy z r g st wd tilt time elo ehi gx gy gs wi hi ray l rt gl a0 a1 b0 b1 c0 c1 n ng rr) = E at *
  unfold mdlC sweepC fldC at *
  have CY := hide cY
  have Hl := hide hl
  have Hlr := hide hlr
  have Hlg := hide hlg
  have Hrs := hide hrs
  clear cY hl hlr hlg hrs
  clear hs hn hmax hnr hmaxr hng hmaxg hns cN
  go_enter Tryz.func8, Tryz.ntmps8
  have HB := hide (Below.refl w.heap.size w)
  go_wp2_with fail
  refine at_world fun W hW => ?_
  have bq0 : Blk W w.heap.size 45 #[.slice A nl cl, .slice Ar nr cr, .int .i64 a0, .int .i64 a1, .int .i64 b0, .int .i64 b1, .int .i64 c0, .int .i64 c1] := by rw [hW]; exact (((Blk.new _ _ _).alloc _).alloc _).alloc _
  have bq1 : Blk W (w.heap.size + 1) 31 #[.string s, .int .i64 sx, .int .i64 sy, .int .i64 z, .int .i64 r, .int .i64 g, .int .i64 st, .int .i64 wd, .int .i64 tilt, .int .i64 time, .slice As n cs] := by rw [hW]; exact ((blk_new_at (by simp)).alloc _).alloc _
  have bq2 : Blk W (w.heap.size + 2) 24 #[.int .i64 elo, .int .i64 ehi] := by rw [hW]; exact (blk_new_at (by simp)).alloc _
  have bq3 : Blk W (w.heap.size + 3) 36 #[.int .i64 gx, .int .i64 gy, .int .i64 gs, .int .i64 wi, .int .i64 hi, .slice Ag ng cg] := by rw [hW]; exact blk_new_at (by simp)
  have LW : Later w W := by rw [hW]; exact (((((Below.refl _ _).alloc (Nat.le_refl _) _).alloc (by simp; try omega) _).alloc (by simp; try omega) _).alloc (by simp; try omega) _)
  have szW : W.heap.size = w.heap.size + 4 := by rw [hW]; simp
  clear hW
  replace HB := hide (onward HB.out LW)
  have Hm := hide bq0
  have Hsw := hide bq1
  have He := hide bq2
  have Hf := hide bq3
  clear bq0 bq1 bq2 bq3 LW szW
  refine (CY.out _ ((Hl.out.below HB.out).more HB.out.size) ((Hlr.out.below HB.out).more HB.out.size) ((Hlg.out.below HB.out).more HB.out.size) ((Hrs.out.below HB.out).more HB.out.size)).mono ?_
  rintro e w1 ⟨A1, c1', rfl, hb, hi1⟩
  replace HB := hide (onward HB.out hb)
  replace Hm := hide (blk_later Hm.out hb)
  replace Hsw := hide (blk_later Hsw.out hb)
  replace He := hide (blk_later He.out hb)
  replace Hf := hide (blk_later Hf.out hb)
  clear hb
  clear hi1
  go_wp2
  go_ret2
  exact spans_nil _ HB.out
end Go.Proofs.YtepgpihobmjbdaaGreat
end
section
namespace Go.Proofs.YtepgpihobmjbdaaGreat
open Go.RowKit
end Go.Proofs.YtepgpihobmjbdaaGreat
end
