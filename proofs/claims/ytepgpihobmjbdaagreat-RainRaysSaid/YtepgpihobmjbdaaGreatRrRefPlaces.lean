/-
  The rates of a ray: rain's rates.
  Pixels and places: the reference's.
-/
import Derived.Test.YtepgpihobmjbdaaGreatRegM
import Derived.Test.YtepgpihobmjbdaaGreatRegJ
import Derived.Test.YtepgpihobmjbdaaGreatRrBands
import Derived.Test.YtepgpihobmjbdaaGreatRrPlaces2
set_option linter.unusedSimpArgs false
set_option linter.unusedVariables false
namespace Go.Proofs.YtepgpihobmjbdaaGreat
open Go.RowKit

/-- A passage that a call has made. -/
def PassF (w : World) (F : Nat → Prop) (base : Nat) (A : Option Addr) (cs : Array Value) : Prop := ∃ g, A = some ⟨g + 1, 0, none⟩ ∧ base ≤ g ∧ F g ∧ F (g + 1) ∧ Blk w g 22 cs ∧ Blk w (g + 1) 89 #[.int .i64 1073741824, .int .i64 1073741824, lossF g]
theorem PassF.stab {w w' : World} {F : Nat → Prop} {base : Nat} {A : Option Addr} {cs : Array Value} (h : PassF w F base A cs) (hk : ∀ k, F k → w'.heap[k]? = w.heap[k]?) : PassF w' F base A cs := by
  obtain ⟨g, h1, h2, h3, h4, h5, h6⟩ := h
  exact ⟨g, h1, h2, h3, h4, (hk g h3).trans h5, (hk _ h4).trans h6⟩
theorem blk_full1 {w : World} {base : Nat} {e : TypeId} {g n : Nat} {cs : Array Value} (h : w.ownsRow base e 1 (.slice (some ⟨g, 0, none⟩) n n) n cs.toList) : Blk w g e cs := by
  obtain ⟨hl, hr | ⟨g', cap, cur, hv, hb, hh, h1, h2, h3, h4⟩⟩ := h
  · cases hr.1
  · injection hv with e1 e2 e3
    injection e1 with e1
    injection e1 with e1 _ _
    subst e1 e3
    rw [List.take_of_length_le (by rw [Array.length_toList, h3]; exact Nat.le_refl _)] at h4
    have : cur = cs := Array.toList_inj.1 h4
    subst this
    exact hh
theorem blk_full4 {w : World} {base : Nat} {e : TypeId} {A : Option Addr} {c : Nat} {cs : Array Value} (h : w.ownsRow base e 1 (.slice A 4 4) 4 cs.toList) : ∃ g, A = some ⟨g, 0, none⟩ ∧ base ≤ g ∧ Blk w g e cs := by
  rcases h.2 with hr | ⟨g', cap, cur, hv, hb, -⟩
  · have := hr.2; omega
  · injection hv with e1 e2 e3
    subst e1
    exact ⟨g', rfl, hb, blk_full1 h⟩
theorem RaysAt.at_ {w : World} {B n k : Nat} {A : Option Addr} {rr : Nat → Ray1} (h : RaysAt w B A n rr) (hk : k < n) : ∃ b off, A = some ⟨b, off, none⟩ ∧ b < B ∧ w.cell? ⟨b, off + k, none⟩ = some (.slice (rr k).A (rr k).n (rr k).c) ∧ Rows_ w B (rr k).A (rr k).n 14 (fun j => (echC ((rr k).e j)).toList) := by
  obtain ⟨b, off, e, hb, hc⟩ := h (by omega)
  exact ⟨b, off, e, hb, (hc k hk).1, (hc k hk).2.2⟩
theorem spanCells_rowL (r : Nat → Int × Int) (k : Nat) : spanCells (rowL r (k + 1)) = spanCells (rowL r k) ++ (#[.int .i64 (r k).1, .int .i64 (r k).2] : Array Value).toList := by
  rw [rowL_succ]
  exact (spanCells_snoc _ _ _).symm
theorem spanCells_powL (x : Ray1) (k : Nat) : spanCells (powL x (k + 1)) = spanCells (powL x k) ++ (#[.int .i64 (x.e k).p1, .int .i64 (x.e k).p2] : Array Value).toList := by
  rw [powL_succ]
  exact (spanCells_snoc _ _ _).symm
theorem ints_spans {w : World} {base n c : Nat} {A : Option Addr} {l : List (Int × Int)} (h : w.ownsRow base 24 2 (.slice A n c) n (spanCells l)) : Ints w w.heap.size .i64 A (flat2 l) := Ints.own h rfl (Nat.le_refl _)
theorem ready_ok {mE sE bE : Int} (h : readyE mE sE bE = 0) : mE = 0 ∧ sE = 0 ∧ bE = 0 := by
  unfold readyE at h
  split at h
  · omega
  · split at h <;> omega
theorem spans_len {w : World} {base n c : Nat} {A : Option Addr} {xs : List Value} (h : w.ownsRow base 24 2 (.slice A n c) n xs) : xs.length = n * 2 := h.1
/-- The rates of a ray of a sweep. -/
def rateL (z r g st wd tilt elo ehi gx gy gs wi hi sx sy ray : Int) (l rt gl : List (Int × Int)) (a0 a1 b0 b1 c0 c1 : Int) (rr : Nat → Ray1) : List (Int × Int) :=
  rayL l rt (a0, a1) (b0, b1) (c0, c1) (rowL (bandZ z st wd tilt elo ehi) g.toNat) (fillsL (powL (rr ray.toNat) g.toNat) (2 * wd + 1) (rowL (rowB gl sx sy r z st wd tilt ray elo ehi gx gy gs wi hi) g.toNat)) g.toNat

set_option maxHeartbeats 8000000 in
set_option maxRecDepth 100000 in
theorem rates_any (s : ByteArray) (sx sy z r g st wd tilt time elo ehi gx gy gs wi hi ray : Int) (l rt gl : List (Int × Int)) (a0 a1 b0 b1 c0 c1 : Int) (n ng : Nat) (rr : Nat → Ray1) (A : Option Addr) (nl cl : Nat) (Ar : Option Addr) (nr cr : Nat) (As : Option Addr) (cs : Nat) (Ag : Option Addr) (cg : Nat) (w : World) 
    (hs : s.size ≤ 9223372036854775807) (hn : l.length = nl) (hmax : nl ≤ 9223372036854775807) (hnr : rt.length = nr) (hmaxr : nr ≤ 9223372036854775807) (hng : gl.length = ng) (hmaxg : ng ≤ 9223372036854775807) (hns : n ≤ maxLen)
    (hl : Ints w w.heap.size .i64 A (flat2 l)) (hlr : Ints w w.heap.size .i64 Ar (flat2 rt)) (hlg : Ints w w.heap.size .i64 Ag (flat2Q gl)) (hrs : RaysAt w w.heap.size As n rr)
    (h0 : allE s sx sy z r g st wd tilt time elo ehi gx gy gs wi hi ray l rt gl a0 a1 b0 b1 c0 c1 n ng rr = 0) :
    Calls Tryz.prog 20 #[.agg (mdlC A nl cl Ar nr cr a0 a1 b0 b1 c0 c1), .agg (sweepC s sx sy z r g st wd tilt time As n cs), .agg #[.int .i64 elo, .int .i64 ehi], .agg (fldC gx gy gs wi hi Ag ng cg), .int .i64 ray] w fun e w' =>
      ∃ v, e = .returned v ∧ w'.ownsRow w.heap.size 24 2 v g.toNat (spanCells (rateL z r g st wd tilt elo ehi gx gy gs wi hi sx sy ray l rt gl a0 a1 b0 b1 c0 c1 rr)) ∧ Below w.heap.size w w' := by
  have cB := fun (W : World) (h1 : Ints W W.heap.size .i64 Ag (flat2Q gl)) => Blocked2_any s sx sy z r g st wd tilt elo ehi gx gy gs wi hi Ag ng cg gl ray W hs hng hmaxg h1
  have cN := fun (j : Nat) (W : World) => Band_any s sx sy z r g st wd tilt elo ehi j W hs
  obtain ⟨hm, hsw, hbl⟩ := ready_ok h0
  obtain ⟨m1, m2, mA, mB, mC⟩ := model_ok hm
  obtain ⟨e0, ⟨t0, t1⟩, n4, hsh, hpw⟩ := sweep_ok hsw
  rw [hbl] at cB
  simp only [e0] at cN
  obtain ⟨-, kf, ke, kr0, kr1⟩ := block_ok hbl
  obtain ⟨z0, z1, r0, r1, g0, g1, s0, s1, w0, w1⟩ := site_all e0
  obtain ⟨G, rfl⟩ : ∃ G : Nat, g = G := ⟨g.toNat, by omega⟩
  obtain ⟨R, rfl⟩ : ∃ R : Nat, ray = R := ⟨ray.toNat, by omega⟩
  have hRn : R < n := by omega
  have hGR : (rr R).n = G := by have := hsh R hRn; omega
  unfold rateL
  simp only [Int.toNat_natCast] at cB ⊢
  have hrow := fun (j : Nat) (hj : j ≤ 199) => rowB_ok (sx := sx) (sy := sy) (r := r) (z := z) (ray := (R : Int)) (j := j) hng kf ke ⟨t0, t1⟩ ⟨s0, s1⟩ ⟨w0, w1⟩ hj
  have cB2 : ∀ W, Ints W W.heap.size .i64 Ag (flat2Q gl) → Calls Tryz.prog 44 #[siteV s sx sy z r G st wd, .int .i64 tilt, .agg #[.int .i64 elo, .int .i64 ehi], fieldV gx gy gs wi hi Ag ng cg, .int .i64 R] W fun e w' =>
      ∃ A c, e = .returned (.tuple #[.slice A G c, .int .i64 0]) ∧ Below W.heap.size W w' ∧ Ints w' w'.heap.size .i64 A (flat2 (rowL (rowB gl sx sy r z st wd tilt R elo ehi gx gy gs wi hi) G)) := fun W h => (cB W h).mono (by
    rintro e w' ⟨A1, c1, h1, h2, h3⟩
    exact ⟨A1, c1, by rw [h1]; simp, h2, by have := (h3 rfl).1; rw [flat2Q_eq] at this; exact this⟩)
  have cN2 : ∀ (j : Nat) (W : World), j < G → Calls Tryz.prog 45 #[siteV s sx sy z r G st wd, .int .i64 tilt, .agg #[.int .i64 elo, .int .i64 ehi], .int .i64 j] W fun e w' => e = .returned (.tuple #[.agg #[.int .i64 (bandZ z st wd tilt elo ehi j).1, .int .i64 (bandZ z st wd tilt elo ehi j).2], .int .i64 0]) ∧ Below W.heap.size W w' := fun j W hj => (cN j W).mono (by
    rintro e w' ⟨h1, h2⟩
    rw [band_at ke ⟨t0, t1⟩ (by omega)] at h1
    exact ⟨h1, h2⟩)
  have hok : ∀ k, k < G → okF ((powL (rr R) G).getD k (0, 0)) (2 * wd + 1) ((rowL (rowB gl sx sy r z st wd tilt R elo ehi gx gy gs wi hi) G).getD k (0, 0)) = true := fun k hk => by
    rw [powL_get hk, rowL_get hk]
    have h1 := hpw R hRn k (by omega)
    obtain ⟨h2, h3, h4⟩ := hrow k (by omega)
    unfold okF
    rw [h1, show win (2 * wd + 1) 1 17 = true from win_iff.2 ⟨by omega, by omega⟩]
    simp only [Bool.true_and]
    exact decide_eq_true ⟨h2, h3, h4⟩
  have hfac : ∀ k, k < G → FacOk (facS (a0, a1) (b0, b1) (c0, c1) ((rowL (bandZ z st wd tilt elo ehi) G).getD k (0, 0))) := fun k hk => by
    rw [rowL_get hk]
    have h1 := band_le (z := z) (j := k) ke ⟨t0, t1⟩ ⟨s0, s1⟩ ⟨w0, w1⟩ (by omega)
    generalize bandZ z st wd tilt elo ehi k = uv at h1 ⊢
    obtain ⟨u, v⟩ := uv
    exact facS_ok mA h1 mB mC
  obtain ⟨BL, hBL⟩ : ∃ q, rowL (rowB gl sx sy r z st wd tilt R elo ehi gx gy gs wi hi) G = q := ⟨_, rfl⟩
  have hBLn : BL.length = G := by rw [← hBL]; exact rowL_length
  simp only [hBL] at cB2 hok ⊢
  unfold siteV fieldV at cB2
  unfold siteV at cN2
  unfold sweepC mdlC fldC
  have hT := tab_of m1
  have hTr := tab_of m2
  obtain ⟨b, off, rfl, hb0, hcell, hech⟩ := hrs.at_ hRn
  rw [hGR] at hcell hech
  have hRi : (R : Int) < n := by omega
  have HT := hide hT
  have HTr := hide hTr
  have Hok := hide hok
  have Hfac := hide hfac
  have CB := hide cB2
  have CN := hide cN2
  have Hl := hide hl
  have Hlr := hide hlr
  have Hlg := hide hlg
  have Hech := hide hech
  have Hcell := hide hcell
  have Hn := hide hn
  have Hnr := hide hnr
  clear hT hTr hok hfac cB2 cN2 hl hlr hlg hech hcell hn hnr
  clear cB cN hrow hpw hsh hrs hBL h0 hm hsw hbl e0 m1 m2 mA mB mC kf hGR
  go_enter Tryz.func20, Tryz.ntmps20
  have HB := hide (Below.refl w.heap.size w)
  go_wp2_with fail
  refine at_world fun W hW => ?_
  have bq0 : Blk W w.heap.size 26 #[.slice A nl cl, .slice Ar nr cr, .int .i64 a0, .int .i64 a1, .int .i64 b0, .int .i64 b1, .int .i64 c0, .int .i64 c1] := by rw [hW]; exact (((Blk.new _ _ _).alloc _).alloc _).alloc _
  have bq1 : Blk W (w.heap.size + 1) 31 #[.string s, .int .i64 sx, .int .i64 sy, .int .i64 z, .int .i64 r, .int .i64 (G : Int), .int .i64 st, .int .i64 wd, .int .i64 tilt, .int .i64 time, .slice (some ⟨b, off, none⟩) n cs] := by rw [hW]; exact ((blk_new_at (by simp)).alloc _).alloc _
  have bq2 : Blk W (w.heap.size + 2) 24 #[.int .i64 elo, .int .i64 ehi] := by rw [hW]; exact (blk_new_at (by simp)).alloc _
  have bq3 : Blk W (w.heap.size + 3) 36 #[.int .i64 gx, .int .i64 gy, .int .i64 gs, .int .i64 wi, .int .i64 hi, .slice Ag ng cg] := by rw [hW]; exact blk_new_at (by simp)
  have LW : Later w W := by rw [hW]; exact (((((Below.refl _ _).alloc (Nat.le_refl _) _).alloc (by simp; try omega) _).alloc (by simp; try omega) _).alloc (by simp; try omega) _)
  have szW : W.heap.size = w.heap.size + 4 := by rw [hW]; simp
  clear hW
  replace HB := hide (onward HB.out LW)
  have Hm := hide bq0
  have Hsw := hide bq1
  have He := hide bq2
  have Hf := hide bq3
  clear bq0 bq1 bq2 bq3 LW szW
  refine (CB.out _ ((Hlg.out.below HB.out).more HB.out.size)).mono ?_
  rintro e w1 ⟨A1, c1', rfl, hb, hi1⟩
  replace HB := hide (onward HB.out hb)
  replace Hm := hide (blk_later Hm.out hb)
  replace Hsw := hide (blk_later Hsw.out hb)
  replace He := hide (blk_later He.out hb)
  replace Hf := hide (blk_later Hf.out hb)
  clear hb
  have HBL := hide hi1
  have q := Hcell.out
  rw [← HB.out.cell hb0] at q
  have ltb : b < w1.heap.size := Nat.lt_of_lt_of_le hb0 HB.out.size
  clear hi1
  have x0 := Hsw.out.c 0 rfl
  have x1 := Hsw.out.c 1 rfl
  have x2 := Hsw.out.c 2 rfl
  have x3 := Hsw.out.c 3 rfl
  have x4 := Hsw.out.c 4 rfl
  have x5 := Hsw.out.c 5 rfl
  have x6 := Hsw.out.c 6 rfl
  have x7 := Hsw.out.c 7 rfl
  have x8 := Hsw.out.c 8 rfl
  have x9 := Hsw.out.c 9 rfl
  have x10 := Hsw.out.c 10 rfl
  have ltx := Hsw.out.lt
  go_wp2_with fail
  clear q
  clear x0 x1 x2 x3 x4 x5 x6 x7 x8 x9 x10 ltx
  go_loopw [13, 14, 36] (fun p q i wr => ∃ (k : Nat) (Ap : Option Addr) (cp : Nat) (Aq : Option Addr) (cq : Nat), k ≤ G ∧ i = .int .i64 k ∧ p = .slice Ap k cp ∧ q = .slice Aq k cq ∧ wr.ownsRow w1.heap.size 24 2 (.slice Ap k cp) k (spanCells (powL (rr R) k)) ∧ wr.ownsRow w1.heap.size 24 2 (.slice Aq k cq) k (spanCells (rowL (bandZ z st wd tilt elo ehi) k)) ∧ Apart (.slice Ap k cp) (.slice Aq k cq) ∧ Below w1.heap.size w1 wr) (fun _ _ i _ => G - (intOf i).toNat)
  case atStart => exact ⟨0, none, 0, none, 0, by omega, rfl, rfl, rfl, World.ownsRow_nil _ _ _ _, World.ownsRow_nil _ _ _ _, apart_nil _, Below.refl _ _⟩
  case round =>
    obtain ⟨k, Ap, cp, Aq, cq, hk, rfl, rfl, rfl, hp, hq, hap, hL⟩ := hrel
    have hx := blk_belowN Hsw.out hL Hsw.out.lt
    have hee := blk_belowN He.out hL He.out.lt
    have hmm := blk_belowN Hm.out hL Hm.out.lt
    have hBr := HB.out.trans (Below.mono hL HB.out.size)
    have hIB := HBL.out.below hL
    have hszr := hL.size
    clear Hm Hsw He Hf HB HBL
    by_cases hlt : k < G
    · have hlt3 : (k : Int) < G := by omega
      obtain ⟨b1, off1, hB1, hb1, hc1⟩ := Hech.out (by omega)
      have hsp := spanCells_powL (rr R) k
      have hsr := spanCells_rowL (bandZ z st wd tilt elo ehi) k
      have hc2 := fun i v hv => hc1 k hlt i v hv
      have cn := fun W => CN.out k W hlt
      obtain ⟨ee, hee2⟩ : ∃ q, (rr R).e k = q := ⟨_, rfl⟩
      simp only [hee2] at hc2
      rw [hee2] at hsp
      obtain ⟨u, v, huv⟩ : ∃ u v, bandZ z st wd tilt elo ehi k = (u, v) := ⟨_, _, rfl⟩
      rw [huv] at hsr
      simp only [huv] at cn
      simp only at hsr
      obtain ⟨k0, p1, p2, s1', s2, s3, s4, sp, r1', r2, m1, m2, t1', t2⟩ := ee
      unfold echC at hc2
      simp only at hsp
      have q0 := hc2 0 (.int .i64 k0) rfl
      have q1 := hc2 1 (.int .i64 p1) rfl
      have q2 := hc2 2 (.int .i64 p2) rfl
      have q3 := hc2 3 (.int .i64 s1') rfl
      have q4 := hc2 4 (.int .i64 s2) rfl
      have q5 := hc2 5 (.int .i64 s3) rfl
      have q6 := hc2 6 (.int .i64 s4) rfl
      have q7 := hc2 7 (.int .i64 sp) rfl
      have q8 := hc2 8 (.int .i64 r1') rfl
      have q9 := hc2 9 (.int .i64 r2) rfl
      have q10 := hc2 10 (.int .i64 m1) rfl
      have q11 := hc2 11 (.int .i64 m2) rfl
      have q12 := hc2 12 (.int .i64 t1') rfl
      have q13 := hc2 13 (.int .i64 t2) rfl
      rw [Nat.add_zero] at q0
      rw [← hBr.cell hb1] at q0 q1 q2 q3 q4 q5 q6 q7 q8 q9 q10 q11 q12 q13
      have ltb1 : b1 < wr.heap.size := Nat.lt_of_lt_of_le hb1 hBr.size
      obtain ⟨Ar', hAr'⟩ : ∃ q, (rr R).A = q := ⟨_, rfl⟩
      obtain ⟨cr', hcr'⟩ : ∃ q, (rr R).c = q := ⟨_, rfl⟩
      rw [hAr'] at hB1
      simp only [hAr', hcr']
      subst hB1
      have hp0 := own_high_ne hp (Nat.le_refl _)
      have hq0 := own_high_ne hq (Nat.le_refl _)
      have Hp := hide hp
      have Hq := hide hq
      have Hap := hide hap
      have HL := hide hL
      have Hx := hide hx
      have He := hide hee
      have Hm := hide hmm
      have Hsp := hide hsp
      have Hsr := hide hsr
      have Cn := hide cn
      clear hp hq hap hL hx hee hmm hsp hsr cn
      clear hc1 hc2 hIB hee2 huv
      have x0 := Hx.out.c 0 rfl
      have x1 := Hx.out.c 1 rfl
      have x2 := Hx.out.c 2 rfl
      have x3 := Hx.out.c 3 rfl
      have x4 := Hx.out.c 4 rfl
      have x5 := Hx.out.c 5 rfl
      have x6 := Hx.out.c 6 rfl
      have x7 := Hx.out.c 7 rfl
      have x8 := Hx.out.c 8 rfl
      have x9 := Hx.out.c 9 rfl
      have x10 := Hx.out.c 10 rfl
      have ltx := Hx.out.lt
      obtain ⟨y0, y1⟩ := He.out.c2
      have lty := He.out.lt
      go_wp2_with fail
      clear q0 q1 q2 q3 q4 q5 q6 q7 q8 q9 q10 q11 q12 q13
      refine at_world fun W2 hW => ?_
      have bq0 : Blk W2 wr.heap.size 68 #[.int .i64 k0, .int .i64 p1, .int .i64 p2, .int .i64 s1', .int .i64 s2, .int .i64 s3, .int .i64 s4, .int .i64 sp, .int .i64 r1', .int .i64 r2, .int .i64 m1, .int .i64 m2, .int .i64 t1', .int .i64 t2] := by rw [hW]; exact Blk.new _ _ _
      have LW : Later wr W2 := by rw [hW]; exact ((Below.refl _ _).alloc (Nat.le_refl _) _)
      have szW : W2.heap.size = wr.heap.size + 1 := by rw [hW]; simp
      clear hW x0 x1 x2 x3 x4 x5 x6 x7 x8 x9 x10 ltx y0 y1 lty
      replace Hp := hide (own_later Hp.out LW)
      replace Hq := hide (own_later Hq.out LW)
      replace HL := hide (onward HL.out LW)
      replace Hx := hide (blk_later Hx.out LW)
      replace He := hide (blk_later He.out LW)
      replace Hm := hide (blk_later Hm.out LW)
      have Hec := hide bq0
      clear bq0 LW szW
      refine (Cn.out _).mono ?_
      rintro e w3 ⟨rfl, hb⟩
      replace Hp := hide (own_later Hp.out hb)
      replace Hq := hide (own_later Hq.out hb)
      replace HL := hide (onward HL.out hb)
      replace Hx := hide (blk_later Hx.out hb)
      replace He := hide (blk_later He.out hb)
      replace Hm := hide (blk_later Hm.out hb)
      replace Hec := hide (blk_later Hec.out hb)
      clear hb
      clear Hx He Hm
      have hp1 := own_high_ne Hp.out (Nat.le_refl _)
      have hq1 := own_high_ne Hq.out (Nat.le_refl _)
      go_wp2_with fail
      refine code_world fun w4 hW => ?_
      have bq0 : Blk w4 w3.heap.size 24 #[.int .i64 u, .int .i64 v] := by rw [hW]; exact Blk.new _ _ _
      have LW : Later w3 w4 := by rw [hW]; exact ((Below.refl _ _).alloc (Nat.le_refl _) _)
      have szW : w4.heap.size = w3.heap.size + 1 := by rw [hW]; simp
      clear hW
      replace Hp := hide (own_later Hp.out LW)
      replace Hq := hide (own_later Hq.out LW)
      replace HL := hide (onward HL.out LW)
      replace Hec := hide (blk_later Hec.out LW)
      have Hbn := hide bq0
      clear bq0 LW szW
      obtain ⟨i0, hii, hz0, hz1, hz2⟩ := info_parts spanInfo
      obtain ⟨i1, hii1, hz10, hz11, hz12⟩ := info_parts spanInfo
      have Hi := hide hii
      have Hz0 := hide hz0
      have Hz1 := hide hz1
      have Hz2 := hide hz2
      have Hi1 := hide hii1
      have Hz10 := hide hz10
      have Hz11 := hide hz11
      have Hz12 := hide hz12
      clear hii hz0 hz1 hz2 hii1 hz10 hz11 hz12
      have Hp1 := hide hp1
      have hW14 : w1.heap.size ≤ w4.heap.size := HL.out.size
      have d1 := Hec.out.c 1 rfl
      have d2 := Hec.out.c 2 rfl
      have ltd := Hec.out.lt
      obtain ⟨n0, n1⟩ := Hbn.out.c2
      have ltn := Hbn.out.lt
      have hltL1 : ∀ qa ∈ ((ownFill 8 (.slice Aq k cq)) : List (Nat × Nat)), qa.2 < w4.heap.size := fun qa hq => (Hq.out.lt _ (mem_ownFill.1 hq).2).2
      have hneL1 : ∀ qa ∈ ((ownFill 8 (.slice Aq k cq)) : List (Nat × Nat)), ((.slice Ap k cp) : Value).ownBlock ≠ some qa.2 := fun qa hq => apart_ne Hap.out (mem_ownFill.1 hq).2
      have hccL1 : ∀ qa ∈ ((ownFill 8 (.slice Aq k cq)) : List (Nat × Nat)), ∀ qb ∈ ((ownFill 8 (.slice Aq k cq)) : List (Nat × Nat)), qa.1 ≠ qb.1 → qa.2 ≠ qb.2 := fun qa ha qb hb h => absurd ((mem_ownFill.1 ha).1.trans (mem_ownFill.1 hb).1.symm) h
      refine wp_region_cut 9 (by kernel_rfl) (by simp only [List.take_succ_cons, List.take_zero]; exact rfl) (by simp only [List.drop_succ_cons, List.drop_zero]; exact rfl) (by kernel_rfl) ?_
      apply any_region_F (w0 := w4) [[], [], [], [], [3], [], [], [], [3, 4, 7]] [true, true, true, false, false, true, true, false, false] [false, false, false, false, false, false, false, false, false] [⟨3, none, [], []⟩, ⟨4, none, [3], []⟩, ⟨7, none, [], []⟩, ⟨8, none, [7], []⟩] (fillL 4 (.slice Ap k cp) (ownFill 8 (.slice Aq k cq))) [] (fun ixq y => match ixq with | 3 => .slice (y 0).1 1 1 | 4 => .slice (y 0).1 (k + 1) (y 0).2 | 7 => .slice (y 0).1 1 1 | 8 => .slice (y 0).1 (k + 1) (y 0).2 | _ => undef) (fun ixq x F wq => match ixq with | 3 => OwnF wq F w4.heap.size 24 2 (.slice (x 3 0).1 1 1) 1 #[.int .i64 p1, .int .i64 p2].toList | 4 => OwnF wq F w1.heap.size 24 2 (.slice (x 4 0).1 (k + 1) (x 4 0).2) (k + 1) ((spanCells (powL (rr R) k)) ++ (#[.int .i64 p1, .int .i64 p2] : Array Value).toList) ∧ FreshOr w4.heap.size (.slice Ap k cp) (.slice (x 4 0).1 (k + 1) (x 4 0).2) | 7 => OwnF wq F w4.heap.size 24 2 (.slice (x 7 0).1 1 1) 1 #[.int .i64 u, .int .i64 v].toList | 8 => OwnF wq F w1.heap.size 24 2 (.slice (x 8 0).1 (k + 1) (x 8 0).2) (k + 1) ((spanCells (rowL (bandZ z st wd tilt elo ehi) k)) ++ (#[.int .i64 u, .int .i64 v] : Array Value).toList) ∧ FreshOr w4.heap.size (.slice Aq k cq) (.slice (x 8 0).1 (k + 1) (x 8 0).2) | _ => True) (fun a x => ((((a).put (some 54) (.slice ((x 3) 0).1 1 1)).put (some 55) (.slice ((x 4) 0).1 (k + 1) ((x 4) 0).2)).put (some 58) (.slice ((x 7) 0).1 1 1)).put (some 59) (.slice ((x 8) 0).1 (k + 1) ((x 8) 0).2)) (by kernel_rfl) (by kernel_rfl) (fun _ => rfl) [] (by kernel_rfl) (fillL_lt (fun g hg => (Hp.out.lt g hg).2) hltL1) (fillL_ne hneL1 hccL1)
      · intro x D hD
        have hne := hD.some
        have k1 := liftS hD d1 (earlyL (by first | assumption | omega) hp0 (fun q hq e => absurd ((mem_ownFill.1 hq).2.trans (congrArg some e)) hq0))
        have k2 := liftS hD d2 (earlyL (by first | assumption | omega) hp0 (fun q hq e => absurd ((mem_ownFill.1 hq).2.trans (congrArg some e)) hq0))
        have k3 := liftS hD n0 (earlyL (by first | assumption | omega) hp1 (fun q hq e => absurd ((mem_ownFill.1 hq).2.trans (congrArg some e)) hq1))
        have k4 := liftS hD n1 (earlyL (by first | assumption | omega) hp1 (fun q hq e => absurd ((mem_ownFill.1 hq).2.trans (congrArg some e)) hq1))
        simp only [takeOps, Act.put, List.setIfInBounds_toArray, List.set_cons_succ, List.set_cons_zero]
        repeat (go_big_quiet_step (fail))
        exact wpQuiet_nil rfl
      · exact fun x D hD => wpQuiet_nil rfl
      · exact fun _ h => absurd h (by simp)
      · refine ⟨?_, ?_, ?_, ?_, trivial⟩
        · exact obl_new rfl (fun _ => by kernel_rfl) 24 (fun x => #[.int .i64 p1, .int .i64 p2]) gP (fun x w => by kernel_rfl) (fun x w hle => own_new hle rfl (by unfold maxLen; omega))
        · refine obl_pushQ 34 51 54 (by kernel_rfl) w1.heap.size 24 i0 _ 2 16 Tryz.underlying34 Hi.out Hz0.out Hz1.out Hz2.out rfl (by decide) (.slice Ap k cp) k 1 ((spanCells (powL (rr R) k))) (#[.int .i64 p1, .int .i64 p2] : Array Value).toList (by first | rfl | (simp; done) | (simp; omega)) (by simp [Value.oneCell']) (by unfold maxLen; omega) (by omega) (by first | assumption | omega) (fun x w F hk hn => ?_) (fun _ => rfl) (fun _ _ _ _ h1 h2 => ⟨h1, h2⟩)
          have hj : OwnF w (F 3) w4.heap.size 24 2 (.slice (x 3 0).1 1 1) 1 (#[.int .i64 p1, .int .i64 p2] : Array Value).toList := hn 3 (by simp)
          obtain ⟨ad, hA, hc⟩ := news_own hj (by decide)
          exact ⟨ad, 1, rfl, row_thenL Hp.out hneL1 hk, wrL_row, (show Value.slice (x 3 0).1 1 1 = _ by rw [hA]), hc⟩
        · exact obl_new rfl (fun _ => by kernel_rfl) 24 (fun x => #[.int .i64 u, .int .i64 v]) gP (fun x w => by kernel_rfl) (fun x w hle => own_new hle rfl (by unfold maxLen; omega))
        · refine obl_pushQ 34 56 58 (by kernel_rfl) w1.heap.size 24 i1 _ 2 16 Tryz.underlying34 Hi1.out Hz10.out Hz11.out Hz12.out rfl (by decide) (.slice Aq k cq) k 1 ((spanCells (rowL (bandZ z st wd tilt elo ehi) k))) (#[.int .i64 u, .int .i64 v] : Array Value).toList (by first | rfl | (simp; done) | (simp; omega)) (by simp [Value.oneCell']) (by unfold maxLen; omega) (by omega) (by first | assumption | omega) (fun x w F hk hn => ?_) (fun _ => rfl) (fun _ _ _ _ h1 h2 => ⟨h1, h2⟩)
          have hj : OwnF w (F 7) w4.heap.size 24 2 (.slice (x 7 0).1 1 1) 1 (#[.int .i64 u, .int .i64 v] : Array Value).toList := hn 7 (by simp)
          obtain ⟨ad, hA, hc⟩ := news_own hj (by decide)
          exact ⟨ad, 1, rfl, row_thenC Hq.out Hap.out hk, wrL_own, (show Value.slice (x 7 0).1 1 1 = _ by rw [hA]), hc⟩
      · refine ⟨?_, ?_, ?_, ?_, trivial⟩
        · refine ⟨fun x F wq wq' h hs hk => ?_, fun x x' F wq hx h => ?_⟩
          · have h2 : OwnF wq F w4.heap.size 24 2 (.slice (x 3 0).1 1 1) 1 #[.int .i64 p1, .int .i64 p2].toList := h
            exact h2.stab hk
          · have h2 : OwnF wq F w4.heap.size 24 2 (.slice (x 3 0).1 1 1) 1 #[.int .i64 p1, .int .i64 p2].toList := h
            rw [hx 3 (by simp)] at h2
            exact h2
        · exact owe_pushQ 4 _ w1.heap.size (.slice Ap k cp) 24 2 (k + 1) ((spanCells (powL (rr R) k)) ++ (#[.int .i64 p1, .int .i64 p2] : Array Value).toList) rfl (fun _ _ _ => rfl)
        · refine ⟨fun x F wq wq' h hs hk => ?_, fun x x' F wq hx h => ?_⟩
          · have h2 : OwnF wq F w4.heap.size 24 2 (.slice (x 7 0).1 1 1) 1 #[.int .i64 u, .int .i64 v].toList := h
            exact h2.stab hk
          · have h2 : OwnF wq F w4.heap.size 24 2 (.slice (x 7 0).1 1 1) 1 #[.int .i64 u, .int .i64 v].toList := h
            rw [hx 7 (by simp)] at h2
            exact h2
        · exact owe_pushQ 8 _ w1.heap.size (.slice Aq k cq) 24 2 (k + 1) ((spanCells (rowL (bandZ z st wd tilt elo ehi) k)) ++ (#[.int .i64 u, .int .i64 v] : Array Value).toList) rfl (fun _ _ _ => rfl)
      intro xx w5 F hK hlv1 hap1
      have apart4_8 : ∀ k, F 4 k → ¬ F 8 k := hap1 _ (List.mem_iff_getElem?.2 ⟨1, rfl⟩) _ (List.mem_iff_getElem?.2 ⟨3, rfl⟩) (by decide) (by intro t ht; simp only [List.mem_cons, List.not_mem_nil, or_false] at ht; rcases ht with rfl | rfl | rfl | rfl <;> simp) (by intro t ht; simp only [List.mem_cons, List.not_mem_nil, or_false] at ht; rcases ht with rfl | rfl | rfl | rfl <;> simp)
      clear hap1
      obtain ⟨-, fct4, -, fct8, -⟩ := hlv1
      replace fct4 : OwnF w5 (F 4) w1.heap.size 24 2 (.slice (xx 4 0).1 (k + 1) (xx 4 0).2) (k + 1) ((spanCells (powL (rr R) k)) ++ (#[.int .i64 p1, .int .i64 p2] : Array Value).toList) ∧ FreshOr w4.heap.size (.slice Ap k cp) (.slice (xx 4 0).1 (k + 1) (xx 4 0).2) := fct4 rfl
      replace fct8 : OwnF w5 (F 8) w1.heap.size 24 2 (.slice (xx 8 0).1 (k + 1) (xx 8 0).2) (k + 1) ((spanCells (rowL (bandZ z st wd tilt elo ehi) k)) ++ (#[.int .i64 u, .int .i64 v] : Array Value).toList) ∧ FreshOr w4.heap.size (.slice Aq k cq) (.slice (xx 8 0).1 (k + 1) (xx 8 0).2) := fct8 rfl
      refine ⟨rfl, ?_⟩
      have hb5 := below_two hK hW14 (fun g hg => (Hp.out.lt g hg).1) (fun g hg => (Hq.out.lt g hg).1)
      have HL5 := hide (HL.out.trans hb5)
      have Hap5 := hide (apart_two apart4_8 fct4.1.2 fct8.1.2)
      have Hp5 := hide fct4.1.1
      have Hq5 := hide fct8.1.1
      clear hK fct4 fct8 apart4_8 hb5
      go_wp2_with fail
      go_roundw
      case rel => exact ⟨k + 1, _, _, _, _, by omega, by go_num, rfl, rfl, by rw [Hsp.out]; exact Hp5.out, by rw [Hsr.out]; exact Hq5.out, Hap5.out, HL5.out⟩
      case measure => simp [intOf] <;> omega
    · obtain rfl : k = G := by omega
      have hlt3 : ¬ ((k : Int) < k) := by omega
      have hI1 := (Hl.out.below hBr).more hBr.size
      have hI2 := (Hlr.out.below hBr).more hBr.size
      have hI3 := ints_spans hp
      have hI4 := hIB.more hszr
      have hI5 := ints_spans hq
      have HL := hide hL
      have Hx := hide hx
      have Hm := hide hmm
      have HBr := hide hBr
      have HI1 := hide hI1
      have HI2 := hide hI2
      have HI3 := hide hI3
      have HI4 := hide hI4
      have HI5 := hide hI5
      clear hL hx hmm hBr hI1 hI2 hI3 hI4 hI5
      clear hp hq hap hee hIB
      have x0 := Hx.out.c 0 rfl
      have x1 := Hx.out.c 1 rfl
      have x2 := Hx.out.c 2 rfl
      have x3 := Hx.out.c 3 rfl
      have x4 := Hx.out.c 4 rfl
      have x5 := Hx.out.c 5 rfl
      have x6 := Hx.out.c 6 rfl
      have x7 := Hx.out.c 7 rfl
      have x8 := Hx.out.c 8 rfl
      have x9 := Hx.out.c 9 rfl
      have x10 := Hx.out.c 10 rfl
      have ltx := Hx.out.lt
      obtain ⟨m0, m1, m2, m3, m4, m5, m6, m7⟩ := Hm.out.c8
      have ltm := Hm.out.lt
      go_wp2_with fail
      refine wp_region_cut 23 (by kernel_rfl) (by simp only [List.take_succ_cons, List.take_zero]; exact rfl) (by simp only [List.drop_succ_cons, List.drop_zero]; exact rfl) (by kernel_rfl) ?_
      apply any_region_J (w0 := wr) [[], [], [], [], [], [], [], [], [], [], [], [10], [], [], [], [], [], [], [10], [10, 18], [10, 18], [10, 11, 18, 20], []] [true, true, true, true, true, true, true, true, true, true, false, false, true, true, true, true, true, true, false, true, false, false, true] [⟨10, none, [], []⟩, ⟨11, none, [], [10]⟩, ⟨18, none, [], []⟩, ⟨20, none, [], [18]⟩, ⟨21, none, [], [11, 20]⟩] (fun ixq y => match ixq with | 10 => .pointer (y 0).1 | 11 => .iface 86 (.pointer (y 0).1) | 18 => .func (.func 61) #[] #[.pointer (y 0).1] | 20 => .iface 100 (.agg #[.func (.func 61) #[] #[.pointer (y 0).1]]) | 21 => .slice (y 0).1 4 4 | _ => undef) (fun ixq x F wq => match ixq with | 10 => PassF wq F wr.heap.size (x 10 0).1 #[.slice A nl cl] | 11 => x 11 = x 10 | 18 => PtrF wq F wr.heap.size (x 18 0).1 22 #[.slice Ar nr cr] | 20 => x 20 = x 18 | 21 => OwnF wq F wr.heap.size 128 1 (.slice (x 21 0).1 4 4) 4 #[.iface 96 (.agg #[.int .i64 (2 * wd + 1), .slice A1 k c1']), .iface 86 (.pointer (x 11 0).1), .iface 98 (.agg #[.slice A nl cl, .slice Ar nr cr, .int .i64 a0, .int .i64 a1, .int .i64 b0, .int .i64 b1, .int .i64 c0, .int .i64 c1, .slice Aq k cq]), .iface 100 (.agg #[.func (.func 61) #[] #[.pointer (x 20 0).1]])].toList | _ => True) (fun a x => (((((a).put (some 71) (.pointer ((x 10) 0).1)).put (some 72) (.iface 86 (.pointer ((x 11) 0).1))).put (some 79) (.func (.func 61) #[] #[.pointer ((x 18) 0).1])).put (some 81) (.iface 100 (.agg #[.func (.func 61) #[] #[.pointer ((x 20) 0).1]]))).put (some 82) (.slice ((x 21) 0).1 4 4)) (by kernel_rfl) (fun _ => rfl) [68, 76] (by kernel_rfl)
      · intro x D hD
        have hne := hD.some
        have k0 := liftB hD x7 (by first | assumption | omega)
        have k1 := liftB hD m0 (by first | assumption | omega)
        have k2 := liftB hD m1 (by first | assumption | omega)
        have k3 := liftB hD m2 (by first | assumption | omega)
        have k4 := liftB hD m3 (by first | assumption | omega)
        have k5 := liftB hD m4 (by first | assumption | omega)
        have k6 := liftB hD m5 (by first | assumption | omega)
        have k7 := liftB hD m6 (by first | assumption | omega)
        have k8 := liftB hD m7 (by first | assumption | omega)
        simp only [takeOps, Act.put, List.setIfInBounds_toArray, List.set_cons_succ, List.set_cons_zero]
        repeat (go_big_quiet_step (fail))
        exact wpQuiet_nil rfl
      · intro d hd x x'
        simp only [List.mem_cons, List.not_mem_nil, or_false] at hd
        rcases hd with rfl | rfl
        all_goals rfl
      · refine ⟨?_, ?_, ?_, ?_, ?_, trivial⟩
        · refine obl_callL rfl (fun _ => by kernel_rfl) 38 (fun x => #[.slice A nl cl]) (fun x w => by kernel_rfl) ?_
          intro x w F hL hN
          refine (passing_any A nl cl w).mono ?_
          rintro e w' ⟨rfl, rfl⟩
          exact ⟨gP (w.heap.size + 1), rfl, ((Below.refl _ _).alloc (Nat.le_refl _) _).alloc (by simp) _, ⟨w.heap.size, rfl, hL.size, ⟨Nat.le_refl _, by simp; omega⟩, ⟨by omega, by simp⟩, (Blk.new _ _ _).alloc _, blk_new_at (by simp)⟩⟩
        · exact obl_pure rfl (fun _ => by kernel_rfl) (fun x => x 10) (fun x w => by kernel_rfl) (fun x w => rfl)
        · refine obl_callL rfl (fun _ => by kernel_rfl) 35 (fun x => #[.slice Ar nr cr]) (fun x w => by kernel_rfl) ?_
          intro x w F hL hN
          refine (worth_any Ar nr cr w).mono ?_
          rintro e w' ⟨rfl, rfl⟩
          exact ⟨gP w.heap.size, rfl, (Below.refl _ _).alloc (Nat.le_refl _) _, ⟨w.heap.size, rfl, hL.size, ⟨Nat.le_refl _, by simp⟩, Blk.new _ _ _⟩⟩
        · exact obl_pure rfl (fun _ => by kernel_rfl) (fun x => x 18) (fun x w => by kernel_rfl) (fun x w => rfl)
        · exact obl_new rfl (fun _ => by kernel_rfl) 128 (fun x => #[.iface 96 (.agg #[.int .i64 (2 * wd + 1), .slice A1 k c1']), .iface 86 (.pointer (x 11 0).1), .iface 98 (.agg #[.slice A nl cl, .slice Ar nr cr, .int .i64 a0, .int .i64 a1, .int .i64 b0, .int .i64 b1, .int .i64 c0, .int .i64 c1, .slice Aq k cq]), .iface 100 (.agg #[.func (.func 61) #[] #[.pointer (x 20 0).1]])]) gP (fun x w => by kernel_rfl) (fun x w hle => own_new hle rfl (by unfold maxLen; omega))
      · refine ⟨?_, ?_, ?_, ?_, ?_, trivial⟩
        · refine ⟨fun x F wq wq' h hs hk => ?_, fun x x' F wq hx h => ?_⟩
          · have h2 : PassF wq F wr.heap.size (x 10 0).1 #[.slice A nl cl] := h
            exact h2.stab hk
          · have h2 : PassF wq F wr.heap.size (x 10 0).1 #[.slice A nl cl] := h
            rw [hx 10 (by simp)] at h2
            exact h2
        · exact owe_pure 10 (fun _ _ _ => rfl) (by simp)
        · refine ⟨fun x F wq wq' h hs hk => ?_, fun x x' F wq hx h => ?_⟩
          · have h2 : PtrF wq F wr.heap.size (x 18 0).1 22 #[.slice Ar nr cr] := h
            exact h2.stab hk
          · have h2 : PtrF wq F wr.heap.size (x 18 0).1 22 #[.slice Ar nr cr] := h
            rw [hx 18 (by simp)] at h2
            exact h2
        · exact owe_pure 18 (fun _ _ _ => rfl) (by simp)
        · refine ⟨fun x F wq wq' h hs hk => ?_, fun x x' F wq hx h => ?_⟩
          · have h2 : OwnF wq F wr.heap.size 128 1 (.slice (x 21 0).1 4 4) 4 #[.iface 96 (.agg #[.int .i64 (2 * wd + 1), .slice A1 k c1']), .iface 86 (.pointer (x 11 0).1), .iface 98 (.agg #[.slice A nl cl, .slice Ar nr cr, .int .i64 a0, .int .i64 a1, .int .i64 b0, .int .i64 b1, .int .i64 c0, .int .i64 c1, .slice Aq k cq]), .iface 100 (.agg #[.func (.func 61) #[] #[.pointer (x 20 0).1]])].toList := h
            exact h2.stab hk
          · have h2 : OwnF wq F wr.heap.size 128 1 (.slice (x 21 0).1 4 4) 4 #[.iface 96 (.agg #[.int .i64 (2 * wd + 1), .slice A1 k c1']), .iface 86 (.pointer (x 11 0).1), .iface 98 (.agg #[.slice A nl cl, .slice Ar nr cr, .int .i64 a0, .int .i64 a1, .int .i64 b0, .int .i64 b1, .int .i64 c0, .int .i64 c1, .slice Aq k cq]), .iface 100 (.agg #[.func (.func 61) #[] #[.pointer (x 20 0).1]])].toList := h
            rw [hx 21 (by simp), hx 11 (by simp), hx 20 (by simp)] at h2
            exact h2
      intro xx w5 F hL5 hlv2 hap2
      clear hap2
      obtain ⟨fct10, fct11, fct18, fct20, fct21, -⟩ := hlv2
      replace fct10 : PassF w5 (F 10) wr.heap.size (xx 10 0).1 #[.slice A nl cl] := fct10 rfl
      replace fct11 : xx 11 = xx 10 := fct11 rfl
      replace fct18 : PtrF w5 (F 18) wr.heap.size (xx 18 0).1 22 #[.slice Ar nr cr] := fct18 rfl
      replace fct20 : xx 20 = xx 18 := fct20 rfl
      replace fct21 : OwnF w5 (F 21) wr.heap.size 128 1 (.slice (xx 21 0).1 4 4) 4 #[.iface 96 (.agg #[.int .i64 (2 * wd + 1), .slice A1 k c1']), .iface 86 (.pointer (xx 11 0).1), .iface 98 (.agg #[.slice A nl cl, .slice Ar nr cr, .int .i64 a0, .int .i64 a1, .int .i64 b0, .int .i64 b1, .int .i64 c0, .int .i64 c1, .slice Aq k cq]), .iface 100 (.agg #[.func (.func 61) #[] #[.pointer (xx 20 0).1]])].toList := fct21 rfl
      refine ⟨rfl, ?_⟩
      obtain ⟨gl0, hA, hge, -, -, hb10, hb10'⟩ := fct10
      obtain ⟨g2, hA2, hge2, -, hb18⟩ := fct18
      rw [fct11, hA, fct20, hA2] at fct21
      obtain ⟨gp, hA3, hgep, hb21⟩ := blk_full4 (c := 4) fct21.1
      rw [hA3]
      have hne1 : g2 ≠ gl0 + 1 := fun e => by subst e; have := hb18.symm.trans hb10'; simp at this
      have hne2 : gp ≠ gl0 + 1 := fun e => by subst e; have := hb21.symm.trans hb10'; simp at this
      have hx5 := blk_later Hx.out hL5
      have cA := all4_any A nl cl l Ar nr cr rt Ap k cp (powL (rr R) k) (2 * wd + 1) A1 k c1' BL Aq k cq (rowL (bandZ z st wd tilt elo ehi) k) a0 a1 b0 b1 c0 c1 wr.heap.size (gl0 + 1) gl0 g2 gp w5 Hn.out Hnr.out (powL_length _ _) hBLn rowL_length (Nat.le_refl _) (Nat.le_refl _) (by omega) HT.out HTr.out Hok.out Hfac.out
        (HI1.out.below hL5) (HI2.out.below hL5) (HI3.out.below hL5) (HI4.out.below hL5) (HI5.out.below hL5) hb10' hb10 hb18 hb21 ⟨hge, by omega, hge2, hgep⟩ ⟨by omega, hne1, hne2⟩
      have HL5 := hide (HBr.out.trans (Below.mono hL5 HBr.out.size))
      have hsz5 : w.heap.size ≤ w5.heap.size := HL5.out.size
      have CA := hide cA
      clear fct11 fct20 fct21 hA hA2 hA3 hb10 hb10' hb18 hb21 hx5 cA hL5
      clear x0 x1 x2 x3 x4 x5 x6 x7 x8 x9 x10 ltx m0 m1 m2 m3 m4 m5 m6 m7 ltm
      go_wp2_with fail
      refine CA.out.mono ?_
      rintro e w6 ⟨v, rfl, ho, hb6⟩
      go_wp2
      go_ret
      exact ⟨_, rfl, own_mono ho hsz5, HL5.out.trans (Below.mono hb6 (HBr.out.size))⟩
end Go.Proofs.YtepgpihobmjbdaaGreat
namespace Go.Proofs.YtepgpihobmjbdaaGreat
open Go Go.RowKit

set_option maxHeartbeats 2000000 in
set_option maxRecDepth 100000 in
theorem RefPixel_any (gx gy gs wi hi x y : Int) (w : World) :
    Calls Tryz.prog 97 #[gridV gx gy gs wi hi, .int .i64 x, .int .i64 y] w fun e w' => e = .returned (.tuple #[.int .i64 (pixR (gridE gx gy gs wi hi) gx gy gs wi hi x y).1, .int .i64 (pixR (gridE gx gy gs wi hi) gx gy gs wi hi x y).2]) ∧ Below w.heap.size w w' := by
  have hg := fun W => RefCheckGrid_any gx gy gs wi hi W
  have hR : ∀ ge, gridE gx gy gs wi hi = ge → pixR (gridE gx gy gs wi hi) gx gy gs wi hi x y = if ge ≠ 0 then (0, ge) else if pixZ gx gy gs wi hi x y < 0 then (0, 29) else (pixZ gx gy gs wi hi x y, 0) := fun ge h => by rw [h]; rfl
  obtain ⟨ge, hge⟩ : ∃ ge, gridE gx gy gs wi hi = ge := ⟨_, rfl⟩
  replace hR := hR ge hge
  have hok := fun h : ge = 0 => gridE_ok (hge.trans h)
  generalize pixR (gridE gx gy gs wi hi) gx gy gs wi hi x y = res at *
  rw [hge] at hg
  clear hge
  obtain ⟨ra, rb⟩ := res
  simp only
  unfold gridV at *
  have Hg := hide hg
  clear hg
  by_cases h0 : ge = 0
  · subst h0
    obtain ⟨a1, a2, b1, b2, c1, c2, d1, d2, e1, e2⟩ := hok rfl
    rw [if_neg (by simp)] at hR
    obtain ⟨m1, m2⟩ := mul_bdB (a := wi) (b := gs) (A := 64) (B := 10000) (by omega) d2 (by omega) c2
    obtain ⟨n1, n2⟩ := mul_bdB (a := hi) (b := gs) (A := 64) (B := 10000) (by omega) e2 (by omega) c2
    unfold pixZ at hR
    by_cases g1 : x < gx
    · rw [if_pos (by omega)] at hR
      have hr1 := congrArg Prod.fst hR
      have hr2 := congrArg Prod.snd hR
      simp only at hr1 hr2
      clear hR
      have HR1 := hide hr1
      have HR2 := hide hr2
      clear hr1 hr2
      go_enter Tryz.func97, Tryz.ntmps97
      have HB := hide (Below.refl w.heap.size w)
      go_wp2_with fail
      refine at_world fun W hW => ?_
      have bq0 : Blk W w.heap.size 33 #[.int .i64 gx, .int .i64 gy, .int .i64 gs, .int .i64 wi, .int .i64 hi] := by rw [hW]; exact Blk.new _ _ _
      have LW : Later w W := by rw [hW]; exact ((Below.refl _ _).alloc (Nat.le_refl _) _)
      have szW : W.heap.size = w.heap.size + 1 := by rw [hW]; simp
      clear hW
      replace HB := hide (onward HB.out LW)
      have Hf := hide bq0
      clear bq0 LW szW
      refine (Hg.out _).mono ?_
      rintro e w1 ⟨rfl, hb⟩
      replace HB := hide (onward HB.out hb)
      replace Hf := hide (blk_later Hf.out hb)
      clear hb
      obtain ⟨q0, q1, q2, q3, q4⟩ := Hf.out.c5
      have ltf := Hf.out.lt
      go_wp2
      refine bodyPost_ret (v := .tuple #[.int .i64 ra, .int .i64 rb]) (by rw [HR1.out, HR2.out]; simp [results, Tryz.results97, go_sem]) rfl ⟨rfl, HB.out⟩
    by_cases g2 : gx + wi * gs ≤ x
    · rw [if_pos (by omega)] at hR
      have hr1 := congrArg Prod.fst hR
      have hr2 := congrArg Prod.snd hR
      simp only at hr1 hr2
      clear hR
      have HR1 := hide hr1
      have HR2 := hide hr2
      clear hr1 hr2
      go_enter Tryz.func97, Tryz.ntmps97
      have HB := hide (Below.refl w.heap.size w)
      go_wp2_with fail
      refine at_world fun W hW => ?_
      have bq0 : Blk W w.heap.size 33 #[.int .i64 gx, .int .i64 gy, .int .i64 gs, .int .i64 wi, .int .i64 hi] := by rw [hW]; exact Blk.new _ _ _
      have LW : Later w W := by rw [hW]; exact ((Below.refl _ _).alloc (Nat.le_refl _) _)
      have szW : W.heap.size = w.heap.size + 1 := by rw [hW]; simp
      clear hW
      replace HB := hide (onward HB.out LW)
      have Hf := hide bq0
      clear bq0 LW szW
      refine (Hg.out _).mono ?_
      rintro e w1 ⟨rfl, hb⟩
      replace HB := hide (onward HB.out hb)
      replace Hf := hide (blk_later Hf.out hb)
      clear hb
      obtain ⟨q0, q1, q2, q3, q4⟩ := Hf.out.c5
      have ltf := Hf.out.lt
      go_wp2
      refine bodyPost_ret (v := .tuple #[.int .i64 ra, .int .i64 rb]) (by rw [HR1.out, HR2.out]; simp [results, Tryz.results97, go_sem]) rfl ⟨rfl, HB.out⟩
    by_cases g3 : y < gy
    · rw [if_pos (by omega)] at hR
      have hr1 := congrArg Prod.fst hR
      have hr2 := congrArg Prod.snd hR
      simp only at hr1 hr2
      clear hR
      have HR1 := hide hr1
      have HR2 := hide hr2
      clear hr1 hr2
      go_enter Tryz.func97, Tryz.ntmps97
      have HB := hide (Below.refl w.heap.size w)
      go_wp2_with fail
      refine at_world fun W hW => ?_
      have bq0 : Blk W w.heap.size 33 #[.int .i64 gx, .int .i64 gy, .int .i64 gs, .int .i64 wi, .int .i64 hi] := by rw [hW]; exact Blk.new _ _ _
      have LW : Later w W := by rw [hW]; exact ((Below.refl _ _).alloc (Nat.le_refl _) _)
      have szW : W.heap.size = w.heap.size + 1 := by rw [hW]; simp
      clear hW
      replace HB := hide (onward HB.out LW)
      have Hf := hide bq0
      clear bq0 LW szW
      refine (Hg.out _).mono ?_
      rintro e w1 ⟨rfl, hb⟩
      replace HB := hide (onward HB.out hb)
      replace Hf := hide (blk_later Hf.out hb)
      clear hb
      obtain ⟨q0, q1, q2, q3, q4⟩ := Hf.out.c5
      have ltf := Hf.out.lt
      go_wp2
      refine bodyPost_ret (v := .tuple #[.int .i64 ra, .int .i64 rb]) (by rw [HR1.out, HR2.out]; simp [results, Tryz.results97, go_sem]) rfl ⟨rfl, HB.out⟩
    by_cases g4 : gy + hi * gs ≤ y
    · rw [if_pos (by omega)] at hR
      have hr1 := congrArg Prod.fst hR
      have hr2 := congrArg Prod.snd hR
      simp only at hr1 hr2
      clear hR
      have HR1 := hide hr1
      have HR2 := hide hr2
      clear hr1 hr2
      go_enter Tryz.func97, Tryz.ntmps97
      have HB := hide (Below.refl w.heap.size w)
      go_wp2_with fail
      refine at_world fun W hW => ?_
      have bq0 : Blk W w.heap.size 33 #[.int .i64 gx, .int .i64 gy, .int .i64 gs, .int .i64 wi, .int .i64 hi] := by rw [hW]; exact Blk.new _ _ _
      have LW : Later w W := by rw [hW]; exact ((Below.refl _ _).alloc (Nat.le_refl _) _)
      have szW : W.heap.size = w.heap.size + 1 := by rw [hW]; simp
      clear hW
      replace HB := hide (onward HB.out LW)
      have Hf := hide bq0
      clear bq0 LW szW
      refine (Hg.out _).mono ?_
      rintro e w1 ⟨rfl, hb⟩
      replace HB := hide (onward HB.out hb)
      replace Hf := hide (blk_later Hf.out hb)
      clear hb
      obtain ⟨q0, q1, q2, q3, q4⟩ := Hf.out.c5
      have ltf := Hf.out.lt
      go_wp2
      refine bodyPost_ret (v := .tuple #[.int .i64 ra, .int .i64 rb]) (by rw [HR1.out, HR2.out]; simp [results, Tryz.results97, go_sem]) rfl ⟨rfl, HB.out⟩
    obtain ⟨p1, p2⟩ := pix_bd (gx := gx) (x := x) (wi := wi) c1 (by omega) (by omega)
    obtain ⟨p3, p4⟩ := pix_bd (gx := gy) (x := y) (wi := hi) c1 (by omega) (by omega)
    obtain ⟨r1, r2⟩ := mul_bdB (a := (y - gy) / gs) (b := wi) (A := 64) (B := 64) p3 (by omega) (by omega) d2
    have c3 : gs ≠ 0 := by omega
    have c4 : 0 < gs := by omega
    have hc : ¬ (x < gx ∨ y < gy ∨ gx + wi * gs ≤ x ∨ gy + hi * gs ≤ y) := by omega
    rw [if_neg hc] at hR
    rw [if_neg (by omega)] at hR
    clear hc
    have hr1 := congrArg Prod.fst hR
    have hr2 := congrArg Prod.snd hR
    simp only at hr1 hr2
    clear hR
    have HR1 := hide hr1
    have HR2 := hide hr2
    clear hr1 hr2
    go_enter Tryz.func97, Tryz.ntmps97
    have HB := hide (Below.refl w.heap.size w)
    go_wp2_with fail
    refine at_world fun W hW => ?_
    have bq0 : Blk W w.heap.size 33 #[.int .i64 gx, .int .i64 gy, .int .i64 gs, .int .i64 wi, .int .i64 hi] := by rw [hW]; exact Blk.new _ _ _
    have LW : Later w W := by rw [hW]; exact ((Below.refl _ _).alloc (Nat.le_refl _) _)
    have szW : W.heap.size = w.heap.size + 1 := by rw [hW]; simp
    clear hW
    replace HB := hide (onward HB.out LW)
    have Hf := hide bq0
    clear bq0 LW szW
    refine (Hg.out _).mono ?_
    rintro e w1 ⟨rfl, hb⟩
    replace HB := hide (onward HB.out hb)
    replace Hf := hide (blk_later Hf.out hb)
    clear hb
    obtain ⟨q0, q1, q2, q3, q4⟩ := Hf.out.c5
    have ltf := Hf.out.lt
    go_wp2_with fail
    apply wp_region_L (w0 := w1) [[], [], [], [], [], [], [], [], [], [], [], [], [], [], [], [], [], [], [], []] [true, true, true, true, true, true, true, true, true, true, true, true, true, true, true, true, true, true, true, true] [] (fun ixq y => match ixq with  | _ => undef) (fun ixq x F wq => match ixq with  | _ => True) (fun a x => a) (by kernel_rfl) (by kernel_rfl) (fun _ => rfl) [] (by kernel_rfl)
    · intro x D hD
      have hne := hD.some
      have k0 := liftB hD q0 (by first | assumption | omega)
      have k1 := liftB hD q1 (by first | assumption | omega)
      have k2 := liftB hD q2 (by first | assumption | omega)
      have k3 := liftB hD q3 (by first | assumption | omega)
      simp only [takeOps, Act.put, List.setIfInBounds_toArray, List.set_cons_succ, List.set_cons_zero]
      repeat (go_big_quiet_step (fail))
      exact wpQuiet_nil rfl
    · exact fun _ h => absurd h (by simp)
    · exact trivial
    · exact trivial
    intro xx w2 F hL hlv1
    clear hlv1
    clear q0 q1 q2 q3 q4 ltf
    replace HB := hide (onward HB.out hL)
    replace Hf := hide (blk_later Hf.out hL)
    clear hL
    go_wp2
    refine bodyPost_ret (v := .tuple #[.int .i64 ra, .int .i64 rb]) (by rw [HR1.out, HR2.out]; simp [results, Tryz.results97, go_sem]) rfl ⟨rfl, HB.out⟩
  · rw [if_pos h0] at hR
    have hr1 := congrArg Prod.fst hR
    have hr2 := congrArg Prod.snd hR
    simp only at hr1 hr2
    have h00 : (ge != 0) = true := by simpa [bne] using h0
    clear hR
    have HR1 := hide hr1
    have HR2 := hide hr2
    clear hr1 hr2
    go_enter Tryz.func97, Tryz.ntmps97
    have HB := hide (Below.refl w.heap.size w)
    go_wp2_with fail
    refine at_world fun W hW => ?_
    have bq0 : Blk W w.heap.size 33 #[.int .i64 gx, .int .i64 gy, .int .i64 gs, .int .i64 wi, .int .i64 hi] := by rw [hW]; exact Blk.new _ _ _
    have LW : Later w W := by rw [hW]; exact ((Below.refl _ _).alloc (Nat.le_refl _) _)
    have szW : W.heap.size = w.heap.size + 1 := by rw [hW]; simp
    clear hW
    replace HB := hide (onward HB.out LW)
    have Hf := hide bq0
    clear bq0 LW szW
    refine (Hg.out _).mono ?_
    rintro e w1 ⟨rfl, hb⟩
    replace HB := hide (onward HB.out hb)
    replace Hf := hide (blk_later Hf.out hb)
    clear hb
    obtain ⟨q0, q1, q2, q3, q4⟩ := Hf.out.c5
    have ltf := Hf.out.lt
    go_wp2
    refine bodyPost_ret (v := .tuple #[.int .i64 ra, .int .i64 rb]) (by rw [HR1.out, HR2.out]; simp [results, Tryz.results97, go_sem]) rfl ⟨rfl, HB.out⟩

set_option maxHeartbeats 2000000 in
set_option maxRecDepth 100000 in
theorem RefSector_any (n a X Y : Int) (w : World) (h1 : 1 ≤ n) (h2 : n ≤ 180) (h3 : 0 ≤ a) (h4 : a < 4 * n) (hX : -6000000 ≤ X ∧ X ≤ 6000000) (hY : -6000000 ≤ Y ∧ Y ≤ 6000000) :
    Calls Tryz.prog 87 #[.int .i64 n, .int .i64 a, .int .i64 X, .int .i64 Y] w fun e w' => e = .returned (.bool (sectorB n a X Y)) ∧ w = w' := by
  have hd := fun W => RefDirection_any n a W
  have m0 := Int.emod_nonneg (a + 1) (show 4 * n ≠ 0 by omega)
  have m1 := Int.emod_lt_of_pos (a + 1) (show 0 < 4 * n by omega)
  have hd2 := fun W => RefDirection_any n ((a + 1) % (4 * n)) W
  have ok : ∀ b, 0 ≤ b → b < 4 * n → okD n b = true := fun b b0 b1 => by unfold okD; rw [winB_iff.2 ⟨h1, h2⟩, winB_iff.2 ⟨b0, by omega⟩]; rfl
  unfold dirR at hd hd2
  rw [if_pos (ok a h3 h4)] at hd
  rw [if_pos (ok _ m0 m1)] at hd2
  have bd1 := dirV_bd h1 h2 h3 h4
  have bd2 := dirV_bd h1 h2 m0 m1
  unfold vecE at hd hd2
  unfold sectorB
  obtain ⟨b, hb⟩ : ∃ b, (a + 1) % (4 * n) = b := ⟨_, rfl⟩
  have n0 : 4 * n ≠ 0 := by omega
  have n1 : 0 < 4 * n := by omega
  rw [hb] at hd2 bd2 m0 m1
  rw [hb]
  generalize dirV n a = u at *
  generalize dirV n b = v at *
  obtain ⟨p1, p2, p3⟩ := u
  obtain ⟨r1, r2, r3⟩ := v
  simp only at *
  obtain ⟨⟨u1, u2⟩, ⟨u3, u4⟩, -, -⟩ := bd1
  obtain ⟨⟨v1, v2⟩, ⟨v3, v4⟩, -, -⟩ := bd2
  obtain ⟨k1, k2⟩ := prod_bdQ (A := 64800) (B := 6000000) (by omega) (by omega) ⟨u3, u4⟩ hX
  obtain ⟨k3, k4⟩ := prod_bdQ (A := 64800) (B := 6000000) (by omega) (by omega) ⟨u1, u2⟩ hY
  obtain ⟨k5, k6⟩ := prod_bdQ (A := 6000000) (B := 64800) (by omega) (by omega) hY ⟨v1, v2⟩
  obtain ⟨k7, k8⟩ := prod_bdQ (A := 6000000) (B := 64800) (by omega) (by omega) hX ⟨v3, v4⟩
  clear ok
  by_cases g1 : 0 ≤ p2 * X - p1 * Y <;> by_cases g2 : 0 < Y * r1 - X * r2
  all_goals
    have g3 := g1
    have g4 := g2
    have Hd := hide hd
    have Hd2 := hide hd2
    have G3 := hide g3
    have G4 := hide g4
    clear hd hd2 g3 g4
    go_enter Tryz.func87, Tryz.ntmps87
    go_wp2_with fail
    refine (Hd.out _).mono ?_
    rintro e w' ⟨rfl, rfl⟩
    go_wp2_with fail
    refine (Hd2.out _).mono ?_
    rintro e w' ⟨rfl, rfl⟩
    go_wp2
    go_ret
    refine ⟨?_, rfl⟩
    have a3 := G3.out
    have a4 := G4.out
    simp
    omega
end Go.Proofs.YtepgpihobmjbdaaGreat
