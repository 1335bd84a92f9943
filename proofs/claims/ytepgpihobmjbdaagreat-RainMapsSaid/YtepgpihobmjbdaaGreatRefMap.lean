/-
  The map of a sweep: plain words.
  The map of a sweep: rain's Map.
  The map of a sweep: the reference's Map.
-/
import Derived.Test.YtepgpihobmjbdaaGreatRaysL
import Derived.Test.YtepgpihobmjbdaaGreatRrView
import Derived.Test.YtepgpihobmjbdaaGreatRrRefView
import Derived.Test.YtepgpihobmjbdaaGreatMemG
import Derived.Test.YtepgpihobmjbdaaGreatMapI
import Derived.Lib.SliceRun
set_option linter.unusedSimpArgs false
set_option linter.unusedVariables false
section
namespace Go.Proofs.YtepgpihobmjbdaaGreat
open Go Go.RowKit
def valM (RT : Nat → List (Int × Int)) (g k : Int) : Int × Int := if 0 ≤ k then (RT (k / g).toNat).getD (k % g).toNat (0, 0) else (0, 1000000)
def mapL (RT : Nat → List (Int × Int)) (g : Int) (vw : List Int) (k : Nat) : List (Int × Int) := (vw.take k).map (valM RT g)
theorem mapL_succ {RT : Nat → List (Int × Int)} {g : Int} {vw : List Int} {k : Nat} (hk : k < vw.length) : spanCells (mapL RT g vw (k + 1)) = spanCells (mapL RT g vw k) ++ (#[.int .i64 (valM RT g (vw.getD k 0)).1, .int .i64 (valM RT g (vw.getD k 0)).2] : Array Value).toList := by
 unfold mapL
 rw [List.take_succ_eq_append_getElem hk, List.map_append, List.map_cons, List.map_nil, spanCells_snoc]
 simp [List.getD, hk]
theorem mapL_length {RT : Nat → List (Int × Int)} {g : Int} {vw : List Int} {k : Nat} (hk : k ≤ vw.length) : (mapL RT g vw k).length = k := by simp [mapL]; omega
theorem seen_ray {ro st t g dx dy : Int} (h1 : 1 ≤ ro) (h3 : 1 ≤ g) : seenZ ro st t g dx dy < 0 ∨ (0 ≤ seenZ ro st t g dx dy ∧ 0 ≤ seenZ ro st t g dx dy / g ∧ seenZ ro st t g dx dy / g < 4 * ro ∧ 0 ≤ seenZ ro st t g dx dy % g ∧ seenZ ro st t g dx dy % g < g) := by
 have key : ∀ a b : Int, 0 ≤ a → a < 4 * ro → 0 ≤ b → b < g → (0 ≤ a * g + b ∧ 0 ≤ (a * g + b) / g ∧ (a * g + b) / g < 4 * ro ∧ 0 ≤ (a * g + b) % g ∧ (a * g + b) % g < g) := fun a b a0 a1 b0 b1 => by
  obtain ⟨e1, e2⟩ := row_col (wi := g) (a := a) b0 b1
  rw [e1, e2]
  exact ⟨Int.add_nonneg (Int.mul_nonneg a0 (by omega)) b0, a0, a1, b0, b1⟩
 unfold seenZ findZ
 split
 · exact .inr (by simpa using key 0 0 (by omega) (by omega) (by omega) (by omega))
 ·
  rename_i hz
  split
  · exact .inl (by simp)
  ·
   rename_i hgt
   obtain ⟨r0, r1, -⟩ := ray_spec (n := ro) (X := dx) (Y := dy) h1 hz
   have hg := gate_cases (st := st) (t := t) (g := g) (w := dx * dx + dy * dy)
   exact .inr (by simpa using key _ _ r0 r1 (by omega) (by omega))
theorem view_ray {ro st t g sx sy gx gy gs wi : Int} {n k : Nat} (h1 : 1 ≤ ro) (h3 : 1 ≤ g) (hk : k < n) (v : Int) (hv : (viewL ro st t g sx sy gx gy gs wi n).getD k 0 = v) : v < 0 ∨ (0 ≤ v ∧ 0 ≤ v / g ∧ v / g < 4 * ro ∧ 0 ≤ v % g ∧ v % g < g) := by
 subst hv
 have : (viewL ro st t g sx sy gx gy gs wi n).getD k 0 = viewZ ro st t g sx sy gx gy gs wi k := by simp [viewL, List.getD, hk]
 rw [this]
 exact seen_ray h1 h3
def MapPost (mE ux uy us uw uh : Int) (L : List (Int × Int)) (w : World) (e : Ending) (w' : World) : Prop :=
 ∃ A c, e = .returned (.tuple #[.agg #[.int .i64 ux, .int .i64 uy, .int .i64 us, .int .i64 uw, .int .i64 uh, .slice A L.length c], .int .i64 mE]) ∧ w'.ownsRow w.heap.size 24 2 (.slice A L.length c) L.length (spanCells L) ∧ Below w.heap.size w w'
def orZ (mE a : Int) : Int := if mE = 0 then a else 0
def mapPost (mE ux uy us uw uh : Int) (L : List (Int × Int)) : World → Ending → World → Prop := MapPost mE (orZ mE ux) (orZ mE uy) (orZ mE us) (orZ mE uw) (orZ mE uh) (if mE = 0 then L else [])
theorem mapPost_no {mE ux uy us uw uh : Int} {L : List (Int × Int)} {w w' : World} {e : Ending} (h : mE ≠ 0) (he : e = .returned (.tuple #[.agg #[.int .i64 0, .int .i64 0, .int .i64 0, .int .i64 0, .int .i64 0, .slice none 0 0], .int .i64 mE])) (hb : Below w.heap.size w w') : mapPost mE ux uy us uw uh L w e w' := by
 unfold mapPost MapPost orZ
 simp only [if_neg h]
 exact ⟨none, 0, he, World.ownsRow_nil _ _ _ _, hb⟩
theorem mapPost_yes {ux uy us uw uh : Int} {L : List (Int × Int)} {n c : Nat} {A : Option Addr} {w w' : World} {e : Ending} (hn : L.length = n) (he : e = .returned (.tuple #[.agg #[.int .i64 ux, .int .i64 uy, .int .i64 us, .int .i64 uw, .int .i64 uh, .slice A n c], .int .i64 0])) (ho : w'.ownsRow w.heap.size 24 2 (.slice A n c) n (spanCells L)) (hb : Below w.heap.size w w') : mapPost 0 ux uy us uw uh L w e w' := by
 unfold mapPost MapPost orZ
 subst hn
 exact ⟨A, c, he, ho, hb⟩
def KnownM (RT : Nat → List (Int × Int)) (base G R4 : Nat) (f : Int → Option Value) (ents : List Th) : Prop :=
 ∀ s v, f s = some v → ∃ (R : Nat) (A : Option Addr) (c : Nat), s = R ∧ R < R4 ∧ v = .slice A G c ∧ Th.row base 24 2 (.slice A G c) G (spanCells (RT R)) ∈ ents
theorem KnownM.put {RT : Nat → List (Int × Int)} {base G R4 R c : Nat} {A : Option Addr} {f : Int → Option Value} {ents : List Th} (h : KnownM RT base G R4 f ents) (hR : R < R4) : KnownM RT base G R4 (putI f R (.slice A G c)) (.row base 24 2 (.slice A G c) G (spanCells (RT R)) :: ents) := fun s v hs => by
 unfold putI at hs
 split at hs
 ·
  rename_i e
  exact ⟨R, A, c, e, hR, (Option.some.inj hs).symm, List.mem_cons_self⟩
 ·
  obtain ⟨R', A', c', h1, h2, h3, h4⟩ := h s v hs
  exact ⟨R', A', c', h1, h2, h3, List.mem_cons_of_mem _ h4⟩
end Go.Proofs.YtepgpihobmjbdaaGreat
end
section
namespace Go.Proofs.YtepgpihobmjbdaaGreat
open Go Go.RowKit
def thMap (P : Program) (k : TypeId) (g : Nat) (f : Int → Option Value) (c : Nat) : Th := .one g (fun W => MapI W P k g f c) (fun _ h => h.lt) (fun _ _ h e => h.stab e)
theorem Mem.mapTurn {w0 W W' : World} {ts : List Th} {P : Program} {k : TypeId} {g c c' : Nat} {f f' : Int → Option Value} (h : Mem w0 ts W) (i : Nat) (hi : ts[i]? = some (thMap P k g f c)) (hm : MapI W' P k g f' c') (hg : W.grownBy W' (some g)) : Mem w0 (ts.set i (thMap P k g f' c')) W' :=
 h.step i hi (show MapI _ _ _ _ _ _ from hm) ⟨hg.os, hg.tape, hg.output, hg.size, fun q hq => hg.block q hq.1 (fun e => hq.2 (List.mem_singleton.2 (by first | exact (Option.some.inj e).symm | exact Option.some.inj e)))⟩ (fun q hq => .inl hq)
theorem allE_ray {s : ByteArray} {sx sy z r g st wd tilt time elo ehi gx gy gs wi hi : Int} {l rt gl : List (Int × Int)} {a0 a1 b0 b1 c0 c1 : Int} {n ng : Nat} {rr : Nat → Ray1} (h0 : allE s sx sy z r g st wd tilt time elo ehi gx gy gs wi hi 0 l rt gl a0 a1 b0 b1 c0 c1 n ng rr = 0) {R : Int} (h1 : 0 ≤ R) (h2 : R < 4 * r) :
  allE s sx sy z r g st wd tilt time elo ehi gx gy gs wi hi R l rt gl a0 a1 b0 b1 c0 c1 n ng rr = 0 := by
 obtain ⟨hm, hsw, hbl⟩ := ready_ok h0
 obtain ⟨e0, ⟨t0, t1⟩, -⟩ := sweep_ok hsw
 obtain ⟨-, kf, ke, -, -⟩ := block_ok hbl
 unfold allE readyE
 rw [hm, hsw, if_neg (by simp), if_neg (by simp)]
 unfold blockE
 rw [if_neg (by omega), if_neg (by omega), ke, winB_iff.2 ⟨t0, t1⟩, winB_iff.2 (show (0 : Int) ≤ R ∧ R ≤ 4 * r - 1 by omega)]
 rfl
theorem viewE_of {se ge t : Int} (h1 : se = 0) (h2 : 0 ≤ t ∧ t ≤ 256) : viewE se ge t = ge := by
 unfold viewE
 rw [if_neg (by omega), winB_iff.2 h2]
 by_cases h : ge = 0
 · rw [if_neg (by omega)]; simp [h]
 · rw [if_pos h]
theorem rateL_length {z r g st wd tilt elo ehi gx gy gs wi hi sx sy ray : Int} {l rt gl : List (Int × Int)} {a0 a1 b0 b1 c0 c1 : Int} {rr : Nat → Ray1} : (rateL z r g st wd tilt elo ehi gx gy gs wi hi sx sy ray l rt gl a0 a1 b0 b1 c0 c1 rr).length = g.toNat := by
 unfold rateL; exact rayL_length _ _ _ _ _ _ _ _
def mapE (aE gE : Int) : Int := if aE ≠ 0 then aE else gE
set_option maxHeartbeats 8000000 in
set_option maxRecDepth 100000 in
theorem Map_any (s : ByteArray) (sx sy z r g st wd tilt time elo ehi gx gy gs wi hi ux uy us uw uh : Int) (l rt gl : List (Int × Int)) (a0 a1 b0 b1 c0 c1 : Int) (n ng : Nat) (rr : Nat → Ray1) (A : Option Addr) (nl cl : Nat) (Ar : Option Addr) (nr cr : Nat) (As : Option Addr) (cs : Nat) (Ag : Option Addr) (cg : Nat) (w : World)
  (hs : s.size ≤ 9223372036854775807) (hn : l.length = nl) (hmax : nl ≤ 9223372036854775807) (hnr : rt.length = nr) (hmaxr : nr ≤ 9223372036854775807) (hng : gl.length = ng) (hmaxg : ng ≤ 9223372036854775807) (hns : n ≤ maxLen)
  (hl : Ints w w.heap.size .i64 A (flat2 l)) (hlr : Ints w w.heap.size .i64 Ar (flat2 rt)) (hlg : Ints w w.heap.size .i64 Ag (flat2Q gl)) (hrs : RaysAt w w.heap.size As n rr) :
  Calls Tryz.prog 11 #[.agg (mdlC A nl cl Ar nr cr a0 a1 b0 b1 c0 c1), .agg (sweepC s sx sy z r g st wd tilt time As n cs), .agg #[.int .i64 elo, .int .i64 ehi], .agg (fldC gx gy gs wi hi Ag ng cg), .agg #[.int .i64 ux, .int .i64 uy, .int .i64 us, .int .i64 uw, .int .i64 uh]] w
   (mapPost (mapE (allE s sx sy z r g st wd tilt time elo ehi gx gy gs wi hi 0 l rt gl a0 a1 b0 b1 c0 c1 n ng rr) (gridE ux uy us uw uh)) ux uy us uw uh (mapL (fun R => rateL z r g st wd tilt elo ehi gx gy gs wi hi sx sy R l rt gl a0 a1 b0 b1 c0 c1 rr) g (viewL r st tilt g sx sy ux uy us uw (uw * uh).toNat) (uw * uh).toNat) w) := by
 have cC := fun (W : World) (h1 : Ints W W.heap.size .i64 A (flat2 l)) (h2 : Ints W W.heap.size .i64 Ar (flat2 rt)) (h3 : Ints W W.heap.size .i64 Ag (flat2Q gl)) (h4 : RaysAt W W.heap.size As n rr) => checked_any s sx sy z r g st wd tilt time elo ehi gx gy gs wi hi 0 l rt gl a0 a1 b0 b1 c0 c1 n ng rr A nl cl Ar nr cr As cs Ag cg W hs hn hmax hnr hmaxr hng hmaxg hns h1 h2 h3 h4
 by_cases h0 : allE s sx sy z r g st wd tilt time elo ehi gx gy gs wi hi 0 l rt gl a0 a1 b0 b1 c0 c1 n ng rr = 0
 ·
  have cR := fun (R : Nat) (hR : (R : Int) < 4 * r) (W : World) (h1 : Ints W W.heap.size .i64 A (flat2 l)) (h2 : Ints W W.heap.size .i64 Ar (flat2 rt)) (h3 : Ints W W.heap.size .i64 Ag (flat2Q gl)) (h4 : RaysAt W W.heap.size As n rr) => rates_any s sx sy z r g st wd tilt time elo ehi gx gy gs wi hi R l rt gl a0 a1 b0 b1 c0 c1 n ng rr A nl cl Ar nr cr As cs Ag cg W hs hn hmax hnr hmaxr hng hmaxg hns h1 h2 h3 h4 (allE_ray h0 (by omega) hR)
  have cV := fun (W : World) => View_any s sx sy z r g st wd tilt ux uy us uw uh W hs
  obtain ⟨hm, hsw, hbl⟩ := ready_ok h0
  obtain ⟨e0, ht, -⟩ := sweep_ok hsw
  rw [viewE_of e0 ht] at cV
  obtain ⟨z0, z1, r0, r1, g0, g1, -⟩ := site_all e0
  clear hm hsw hbl e0 ht
  conv at cC => enter [W, h1, h2, h3, h4]; rw [h0]
  rw [h0]
  rw [show mapE 0 (gridE ux uy us uw uh) = gridE ux uy us uw uh from if_neg (by simp)]
  have hrtl := fun R : Nat => rateL_length (z := z) (r := r) (g := g) (st := st) (wd := wd) (tilt := tilt) (elo := elo) (ehi := ehi) (gx := gx) (gy := gy) (gs := gs) (wi := wi) (hi := hi) (sx := sx) (sy := sy) (ray := R) (l := l) (rt := rt) (gl := gl) (a0 := a0) (a1 := a1) (b0 := b0) (b1 := b1) (c0 := c0) (c1 := c1) (rr := rr)
  obtain ⟨RT, hRT⟩ : ∃ q : Nat → List (Int × Int), (fun R : Nat => rateL z r g st wd tilt elo ehi gx gy gs wi hi sx sy R l rt gl a0 a1 b0 b1 c0 c1 rr) = q := ⟨_, rfl⟩
  have hRT2 := fun R : Nat => congrFun hRT R
  rw [hRT]
  simp only [hRT2] at cR hrtl
  clear hRT hRT2
  obtain ⟨G, rfl⟩ : ∃ G : Nat, g = G := ⟨g.toNat, by omega⟩
  simp only [Int.toNat_natCast] at cR hrtl
  unfold ViewPost at cV
  unfold siteV gridV at cV
  unfold mdlC sweepC fldC at *
  by_cases hg : gridE ux uy us uw uh = 0
  ·
   obtain ⟨-, -, -, -, -, -, q1, q2, q3, q4⟩ := gridE_ok hg
   have hgv := fun (k : Nat) (hk : k < (uw * uh).toNat) (v : Int) (hv : (viewL r st tilt G sx sy ux uy us uw (uw * uh).toNat).getD k 0 = v) => view_ray (ro := r) (st := st) (t := tilt) (g := (G : Int)) (sx := sx) (sy := sy) (gx := ux) (gy := uy) (gs := us) (wi := uw) r0 g0 hk v hv
   have hvl : (viewL r st tilt G sx sy ux uy us uw (uw * uh).toNat).length = (uw * uh).toNat := viewL_length
   have hNb : (uw * uh).toNat ≤ 4096 := by
    have := mul_bdB (a := uw) (b := uh) (A := 64) (B := 64) (by omega) q2 (by omega) q4
    omega
   rw [hg] at cV ⊢
   simp only [if_true] at cV
   generalize viewL r st tilt G sx sy ux uy us uw (uw * uh).toNat = vw at *
   generalize (uw * uh).toNat = N at *
   clear h0 hg q1 q2 q3 q4
   have CC := hide cC
   have CR := hide cR
   have CV := hide cV
   have Hl := hide hl
   have Hlr := hide hlr
   have Hlg := hide hlg
   have Hrs := hide hrs
   have Hgv := hide hgv
   have Hvl := hide hvl
   have Hrtl := hide hrtl
   clear cC cR cV hl hlr hlg hrs hgv hvl hrtl
   clear hs hn hmax hnr hmaxr hng hmaxg hns
   obtain ⟨i0, hii, hz0, hz1, hz2⟩ := info_parts spanInfo
   have Hi := hide hii
   have Hz0 := hide hz0
   have Hz1 := hide hz1
   have Hz2 := hide hz2
   clear hii hz0 hz1 hz2
   go_enter Tryz.func11, Tryz.ntmps11
   have HB := hide (Below.refl w.heap.size w)
   go_wp2_with fail
   refine at_world fun W hW => ?_
   have bq0 : Blk W w.heap.size 26 #[.slice A nl cl, .slice Ar nr cr, .int .i64 a0, .int .i64 a1, .int .i64 b0, .int .i64 b1, .int .i64 c0, .int .i64 c1] := by rw [hW]; exact (((((Blk.new _ _ _).alloc _).alloc _).alloc _).alloc _).alloc _
   have bq1 : Blk W (w.heap.size + 1) 31 #[.string s, .int .i64 sx, .int .i64 sy, .int .i64 z, .int .i64 r, .int .i64 (G : Int), .int .i64 st, .int .i64 wd, .int .i64 tilt, .int .i64 time, .slice As n cs] := by rw [hW]; exact ((((blk_new_at (by simp)).alloc _).alloc _).alloc _).alloc _
   have bq2 : Blk W (w.heap.size + 2) 24 #[.int .i64 elo, .int .i64 ehi] := by rw [hW]; exact (((blk_new_at (by simp)).alloc _).alloc _).alloc _
   have bq3 : Blk W (w.heap.size + 3) 36 #[.int .i64 gx, .int .i64 gy, .int .i64 gs, .int .i64 wi, .int .i64 hi, .slice Ag ng cg] := by rw [hW]; exact ((blk_new_at (by simp)).alloc _).alloc _
   have bq4 : Blk W (w.heap.size + 4) 33 #[.int .i64 ux, .int .i64 uy, .int .i64 us, .int .i64 uw, .int .i64 uh] := by rw [hW]; exact (blk_new_at (by simp)).alloc _
   have bq5 : Blk W (w.heap.size + 5) 36 #[.int .i64 0, .int .i64 0, .int .i64 0, .int .i64 0, .int .i64 0, .slice none 0 0] := by rw [hW]; exact blk_new_at (by simp)
   have LW : Later w W := by rw [hW]; exact (((((((Below.refl _ _).alloc (Nat.le_refl _) _).alloc (by simp; try omega) _).alloc (by simp; try omega) _).alloc (by simp; try omega) _).alloc (by simp; try omega) _).alloc (by simp; try omega) _)
   have szW : W.heap.size = w.heap.size + 6 := by rw [hW]; simp
   clear hW
   replace HB := hide (onward HB.out LW)
   have Hm := hide bq0
   have Hsw := hide bq1
   have He := hide bq2
   have Hf := hide bq3
   have Hu := hide bq4
   have Hq := hide bq5
   clear bq0 bq1 bq2 bq3 bq4 bq5 LW szW
   refine (CC.out _ ((Hl.out.below HB.out).more HB.out.size) ((Hlr.out.below HB.out).more HB.out.size) ((Hlg.out.below HB.out).more HB.out.size) ((Hrs.out.below HB.out).more HB.out.size)).mono ?_
   rintro e w1 ⟨rfl, hb⟩
   replace HB := hide (onward HB.out hb)
   replace Hm := hide (blk_later Hm.out hb)
   replace Hsw := hide (blk_later Hsw.out hb)
   replace He := hide (blk_later He.out hb)
   replace Hf := hide (blk_later Hf.out hb)
   replace Hu := hide (blk_later Hu.out hb)
   replace Hq := hide (blk_later Hq.out hb)
   clear hb
   have x0 := Hsw.out.c 0 rfl
   have x1 := Hsw.out.c 1 rfl
   have x2 := Hsw.out.c 2 rfl
   have x3 := Hsw.out.c 3 rfl
   have x4 := Hsw.out.c 4 rfl
   have x5 := Hsw.out.c 5 rfl
   have x6 := Hsw.out.c 6 rfl
   have x7 := Hsw.out.c 7 rfl
   have x8 := Hsw.out.c 8 rfl
   have x9 := Hsw.out.c 9 rfl
   have x10 := Hsw.out.c 10 rfl
   have ltx := Hsw.out.lt
   obtain ⟨u0, u1, u2, u3, u4⟩ := Hu.out.c5
   have ltu := Hu.out.lt
   go_wp2_with fail
   refine (CV.out _).mono ?_
   rintro e w2 ⟨A1, c1', rfl, hb, hi1⟩
   replace HB := hide (onward HB.out hb)
   replace Hm := hide (blk_later Hm.out hb)
   replace Hsw := hide (blk_later Hsw.out hb)
   replace He := hide (blk_later He.out hb)
   replace Hf := hide (blk_later Hf.out hb)
   replace Hu := hide (blk_later Hu.out hb)
   replace Hq := hide (blk_later Hq.out hb)
   clear hb x0 x1 x2 x3 x4 x5 x6 x7 x8 x9 x10 ltx u0 u1 u2 u3 u4 ltu
   have HV := hide (hi1 trivial)
   have hlw := Hq.out.lt
   clear hi1
   have hmm := @run_makeMap Tryz.prog
   obtain ⟨u0, u1, u2, u3, u4⟩ := Hu.out.c5
   have ltu := Hu.out.lt
   go_wp2_with fail
   clear hmm
   refine code_world fun W3 hW => ?_
   have HM3 := hide (((((Mem.start w2).nilRow w2.heap.size 24 2).add (t := thMap Tryz.prog 3 w2.heap.size (fun _ => none) 0) ((Below.refl _ _).alloc (Nat.le_refl _) (.map #[] 0)) (MapI_made w2 Tryz.prog 3) (fun k hk => by rw [List.mem_singleton.1 hk]; exact Nat.le_refl _)).allocAt (w2.heap.size + 1) (by simp) #[.int .i64 ux, .int .i64 uy, .int .i64 us, .int .i64 uw, .int .i64 uh, .slice none 0 0] 36).to hW)
   clear hW u0 u1 u2 u3 u4 ltu
   obtain ⟨R4, hR4⟩ : ∃ q : Nat, (q : Int) = 4 * r := ⟨(4 * r).toNat, by omega⟩
   go_loopw [49] (fun i wr => ∃ (k : Nat) (Ap : Option Addr) (cp : Nat) (f : Int → Option Value) (c : Nat) (ents : List Th), k ≤ N ∧ i = .int .i64 k ∧ c ≤ k ∧ KnownM RT w2.heap.size G R4 f ents ∧ Mem w2 (.blk (w2.heap.size + 1) 36 #[.int .i64 ux, .int .i64 uy, .int .i64 us, .int .i64 uw, .int .i64 uh, .slice Ap k cp] :: thMap Tryz.prog 3 w2.heap.size f c :: .row w2.heap.size 24 2 (.slice Ap k cp) k (spanCells (mapL RT G vw k)) :: ents) wr) (fun i _ => N - (intOf i).toNat)
   case atStart => exact ⟨0, none, 0, fun _ => none, 0, [], by omega, rfl, Nat.le_refl _, (fun s v h => by cases h), HM3.out⟩
   case round =>
    obtain ⟨k, Ap, cp, f, c, ents, hk, rfl, hc, hf, hM⟩ := hrel
    have hL := hM.below
    have hx := blk_belowN Hsw.out hL Hsw.out.lt
    have hm' := blk_belowN Hm.out hL Hm.out.lt
    have he' := blk_belowN He.out hL He.out.lt
    have hf' := blk_belowN Hf.out hL Hf.out.lt
    have HB2 := hide (HB.out.trans (Below.mono hL HB.out.size))
    clear HM3
    by_cases hlt : k < N
    ·
     have hlt3 : (k : Int) < N := by omega
     obtain ⟨bv, ov, rfl, hbv, hcv⟩ := HV.out (by have := Hvl.out; omega)
     have p := hcv k (by have := Hvl.out; omega)
     have hsp := mapL_succ (RT := RT) (g := (G : Int)) (vw := vw) (k := k) (by have := Hvl.out; omega)
     obtain ⟨v, hv⟩ : ∃ v, vw.getD k 0 = v := ⟨_, rfl⟩
     have hgv := Hgv.out k hlt v hv
     rw [hv] at p hsp
     rw [← hL.cell hbv] at p
     have hbv2 : bv < wr.heap.size := by have := hL.size; omega
     have hsz2 : w2.heap.size + 1 < wr.heap.size := (Mem.blk_ hM 0 rfl).lt
     clear hcv hv hL Hsw Hm He Hf HB
     have HM := hide hM
     have Hsw := hide hx
     have Hm := hide hm'
     have He := hide he'
     have Hf := hide hf'
     have Hsp := hide hsp
     have HK := hide hf
     clear hM hx hm' he' hf' hsp hf
     by_cases h0 : 0 ≤ v
     ·
      obtain ⟨-, g3, g4, g5, g6⟩ : 0 ≤ v ∧ 0 ≤ v / G ∧ v / G < 4 * r ∧ 0 ≤ v % G ∧ v % G < G := by omega
      have hsp2 := Hsp.out
      rw [show valM RT G v = (RT (v / G).toNat).getD (v % G).toNat (0, 0) from if_pos h0] at hsp2
      have hq1 : v.tdiv G = v / G := Int.tdiv_eq_ediv_of_nonneg h0
      have hq2 : v.tmod G = v % G := Int.tmod_eq_emod_of_nonneg h0
      generalize v / G = R at *
      generalize v % G = j at *
      obtain ⟨R, rfl⟩ : ∃ q : Nat, R = q := ⟨R.toNat, by omega⟩
      obtain ⟨j, rfl⟩ : ∃ q : Nat, j = q := ⟨j.toNat, by omega⟩
      simp only [Int.toNat_natCast] at hsp2
      have hjl : j < (RT R).length := by rw [Hrtl.out]; omega
      obtain ⟨e1, e2, hee⟩ : ∃ e1 e2, (RT R).getD j (0, 0) = (e1, e2) := ⟨_, _, rfl⟩
      rw [hee] at hsp2
      simp only at hsp2
      have hG0 : ¬ (G : Int) = 0 := by omega
      clear Hsp hgv
      have Hsp := hide hsp2
      have Hee := hide hee
      clear hsp2 hee
      have x0 := Hsw.out.c 0 rfl
      have x1 := Hsw.out.c 1 rfl
      have x2 := Hsw.out.c 2 rfl
      have x3 := Hsw.out.c 3 rfl
      have x4 := Hsw.out.c 4 rfl
      have x5 := Hsw.out.c 5 rfl
      have x6 := Hsw.out.c 6 rfl
      have x7 := Hsw.out.c 7 rfl
      have x8 := Hsw.out.c 8 rfl
      have x9 := Hsw.out.c 9 rfl
      have x10 := Hsw.out.c 10 rfl
      have ltx := Hsw.out.lt
      go_upto_region 14 with fail
      refine code_world fun W4 hW => ?_
      have HMn := Mem.to (Mem.allocAt HM.out wr.heap.size rfl #[.int .i64 0, .int .i64 1000000] 24) hW
      have LW : Later wr W4 := by rw [hW]; exact ((Below.refl _ _).alloc (Nat.le_refl _) _)
      have szW : W4.heap.size = wr.heap.size + 1 := by rw [hW]; simp
      clear hW x0 x1 x2 x3 x4 x5 x6 x7 x8 x9 x10 ltx
      replace Hsw := hide (blk_later Hsw.out LW)
      replace Hm := hide (blk_later Hm.out LW)
      replace He := hide (blk_later He.out LW)
      replace Hf := hide (blk_later Hf.out LW)
      replace HB2 := hide (onward HB2.out LW)
      replace HM := hide HMn
      clear HMn LW
      clear szW
      have x0 := Hsw.out.c 0 rfl
      have x1 := Hsw.out.c 1 rfl
      have x2 := Hsw.out.c 2 rfl
      have x3 := Hsw.out.c 3 rfl
      have x4 := Hsw.out.c 4 rfl
      have x5 := Hsw.out.c 5 rfl
      have x6 := Hsw.out.c 6 rfl
      have x7 := Hsw.out.c 7 rfl
      have x8 := Hsw.out.c 8 rfl
      have x9 := Hsw.out.c 9 rfl
      have x10 := Hsw.out.c 10 rfl
      have ltx := Hsw.out.lt
      apply wp_region_L (w0 := W4) [[], [], [], [], [], [], [], [], [], [], [], []] [true, true, true, true, true, true, true, true, true, true, true, true] [] (fun ixq y => match ixq with  | _ => undef) (fun ixq x F wq => match ixq with  | _ => True) (fun a x => a) (by kernel_rfl) (by kernel_rfl) (fun _ => rfl) [] (by kernel_rfl)
      ·
       intro x D hD
       have hne := hD.some
       have k0 := liftB hD x5 (by first | assumption | omega)
       simp only [takeOps, Act.put, List.setIfInBounds_toArray, List.set_cons_succ, List.set_cons_zero]
       repeat (go_big_quiet_step (fail))
       exact wpQuiet_nil rfl
      · exact fun _ h => absurd h (by simp)
      · exact trivial
      · exact trivial
      intro xx w5 F hK hlv1
      clear hlv1
      replace HM := hide (HM.out.later hK)
      replace Hsw := hide (blk_later Hsw.out hK)
      replace Hm := hide (blk_later Hm.out hK)
      replace He := hide (blk_later He.out hK)
      replace Hf := hide (blk_later Hf.out hK)
      replace HB2 := hide (onward HB2.out hK)
      clear hK x0 x1 x2 x3 x4 x5 x6 x7 x8 x9 x10 ltx
      have hwR : (Lit.int .i64 (R : Int)).wf = true := by
       simp only [Lit.wf, Bool.and_eq_true, decide_eq_true_eq]
       exact ⟨(show (-9223372036854775808 : Int) ≤ R by omega), (show (R : Int) ≤ 9223372036854775807 by omega)⟩
      have Hmap5 := hide (show MapI w5 Tryz.prog 3 w2.heap.size f c from HM.out.get 2 rfl)
      have hnil := fun (W : World) (a : Option Addr) (n c : Nat) => Lib.run_eql_slice_nil (P := Tryz.prog) W 34 24 a n c 0 0 Tryz.underlying34
      cases hfr : f R with
      | none =>
       have hpb : (f R).getD (.slice none 0 0) = .slice none 0 0 := by rw [hfr]; rfl
       have Hpb := hide hpb
       have Hfr := hide hfr
       clear hpb hfr
       obtain ⟨m0, m1, m2, m3, m4, m5, m6, m7⟩ := Hm.out.c8
       have ltm := Hm.out.lt
       have x0 := Hsw.out.c 0 rfl
       have x1 := Hsw.out.c 1 rfl
       have x2 := Hsw.out.c 2 rfl
       have x3 := Hsw.out.c 3 rfl
       have x4 := Hsw.out.c 4 rfl
       have x5 := Hsw.out.c 5 rfl
       have x6 := Hsw.out.c 6 rfl
       have x7 := Hsw.out.c 7 rfl
       have x8 := Hsw.out.c 8 rfl
       have x9 := Hsw.out.c 9 rfl
       have x10 := Hsw.out.c 10 rfl
       have ltx := Hsw.out.lt
       obtain ⟨y0, y1⟩ := He.out.c2
       have lty := He.out.lt
       obtain ⟨q0, q1, q2, q3, q4, q5⟩ := Hf.out.c6
       have ltq := Hf.out.lt
       go_wp2_with (at_lookup; refine wpList_lookI _ rfl _ _ _ rfl 3 34 Tryz.underlying3 Tryz.underlying77 (.slice none 0 0) (by kernel_rfl) w2.heap.size _ _ rfl Hmap5.out (R : Int) rfl hwR (.slice none 0 0) Hpb.out ?_)
       refine (CR.out R (by omega) _ ((Hl.out.below HB2.out).more HB2.out.size) ((Hlr.out.below HB2.out).more HB2.out.size) ((Hlg.out.below HB2.out).more HB2.out.size) ((Hrs.out.below HB2.out).more HB2.out.size)).mono ?_
       rintro e w6 ⟨vR, rfl, ho, hb⟩
       obtain ⟨A6, c6, rfl⟩ := own_shape2 ho
       have HMN := hide (HM.out.add (t := .row w2.heap.size 24 2 (.slice A6 G c6) G (spanCells (RT R))) hb (own_mono ho HM.out.size) (fun k hk => (ho.lt k (optL_iff.1 hk)).1))
       clear HM ho Hmap5
       clear m0 m1 m2 m3 m4 m5 m6 m7 ltm x0 x1 x2 x3 x4 x5 x6 x7 x8 x9 x10 ltx y0 y1 lty q0 q1 q2 q3 q4 q5 ltq
       replace Hsw := hide (blk_later Hsw.out hb)
       replace Hm := hide (blk_later Hm.out hb)
       replace He := hide (blk_later He.out hb)
       replace Hf := hide (blk_later Hf.out hb)
       replace HB2 := hide (onward HB2.out hb)
       clear hb
       have Hmap6 := hide (show MapI w6 Tryz.prog 3 w2.heap.size f c from HMN.out.get 3 rfl)
       go_upto_region 17 with (at_mapUpdate; refine wpList_storeI _ rfl _ _ _ _ rfl 3 34 Tryz.underlying3 Tryz.underlying77 w2.heap.size _ _ rfl Hmap6.out (by unfold maxLen; omega) (R : Int) rfl hwR (.slice A6 G c6) rfl ?_; intro w7 hm7 hg7)
       rw [if_neg (by rw [Hfr.out]; simp)] at hm7
       have HM := hide (show Mem w2 (.blk wr.heap.size 24 #[.int .i64 0, .int .i64 1000000] :: .blk (w2.heap.size + 1) 36 #[.int .i64 ux, .int .i64 uy, .int .i64 us, .int .i64 uw, .int .i64 uh, .slice Ap k cp] :: thMap Tryz.prog 3 w2.heap.size (putI f (R : Int) (.slice A6 G c6)) (c + 1) :: .row w2.heap.size 24 2 (.slice Ap k cp) k (spanCells (mapL RT G vw k)) :: .row w2.heap.size 24 2 (.slice A6 G c6) G (spanCells (RT R)) :: ents) w7 from (HMN.out.mapTurn 3 rfl hm7 hg7).perm (List.perm_middle (l₁ := [_, _, _, _])).symm)
       replace Hsw := hide (blk_grown Hsw.out hg7 (by simp; omega))
       replace HB2 := hide (below_grown HB2.out hg7 HB2.out.size (fun q hq => by simp at hq; omega))
       clear hm7 hg7 HMN Hmap6 Hm He Hf
       have hfr' : (putI f (R : Int) (.slice A6 G c6) (R : Int)).getD (.slice none 0 0) = .slice A6 G c6 := by simp [putI]
       have hK' := KnownM.put (A := A6) (c := c6) HK.out (show R < R4 by omega)
       have hmem : Th.row w2.heap.size 24 2 (.slice A6 G c6) G (spanCells (RT R)) ∈ Th.row w2.heap.size 24 2 (.slice A6 G c6) G (spanCells (RT R)) :: ents := List.mem_cons_self
       obtain ⟨f', hf'⟩ : ∃ q, putI f (R : Int) (.slice A6 G c6) = q := ⟨_, rfl⟩
       obtain ⟨ents', hents⟩ : ∃ q, Th.row w2.heap.size 24 2 (.slice A6 G c6) G (spanCells (RT R)) :: ents = q := ⟨_, rfl⟩
       obtain ⟨c', hc'⟩ : ∃ q, c + 1 = q := ⟨_, rfl⟩
       rw [hf'] at hfr' hK' HM
       rw [hents] at hK' hmem HM
       rw [hc'] at HM
       clear hf' hents
       have hrow : World.ownsRow w7 w2.heap.size 24 2 (.slice A6 G c6) G (spanCells (RT R)) := HM.out.all _ (List.mem_cons_of_mem _ (List.mem_cons_of_mem _ (List.mem_cons_of_mem _ (List.mem_cons_of_mem _ hmem))))
       obtain ⟨b6, cur6, rfl, -⟩ := row_blk hrow (by omega)
       have hrow : World.ownsRow w7 w2.heap.size 24 2 (.slice (some ⟨b6, 0, none⟩) G c6) G (spanCells (RT R)) := HM.out.all _ (List.mem_cons_of_mem _ (List.mem_cons_of_mem _ (List.mem_cons_of_mem _ (List.mem_cons_of_mem _ hmem))))
       have hI := ints_spans hrow
       obtain ⟨b6', o6', hA6, hb6, hc6⟩ := hI.pt (by rw [Hrtl.out]; omega)
       injection hA6 with hA6
       injection hA6 with hA6 hA7
       subst hA6 hA7
       obtain ⟨p0, p1⟩ := hc6 j hjl
       rw [Hee.out] at p0 p1
       simp only [Nat.zero_add] at p0 p1
       have hmap7 : MapI w7 Tryz.prog 3 w2.heap.size f' c' := HM.out.get 2 rfl
       have bt : Blk w7 wr.heap.size 24 #[.int .i64 0, .int .i64 1000000] := HM.out.get 0 rfl
       have ltt := bt.lt
       have t0 := bt.c 0 rfl
       have ft0 := bt.frozen 0
       have t1 := bt.c 1 rfl
       have ft1 := bt.frozen 1
       clear hI hc6 hrow
       have Hmap := hide hmap7
       clear hmap7
       go_upto_region 18 with (at_lookup; refine wpList_lookI _ rfl _ _ _ rfl 3 34 Tryz.underlying3 Tryz.underlying77 (.slice none 0 0) (by kernel_rfl) w2.heap.size _ _ rfl Hmap.out (R : Int) rfl hwR (.slice (some ⟨b6, 0, none⟩) G c6) hfr' ?_)
       refine code_world fun W8 hW => ?_
       have HM8 := hide (((HM.out.set_ 0 rfl 0 (.int .i64 e1) rfl).set_ 0 rfl 1 (.int .i64 e2) rfl).to hW)
       clear hW p0 p1 HM Hmap
       clear bt ltt t0 ft0 t1 ft1
       have bo : Blk W8 (w2.heap.size + 1) 36 #[.int .i64 ux, .int .i64 uy, .int .i64 us, .int .i64 uw, .int .i64 uh, .slice Ap k cp] := HM8.out.get 1 rfl
       have lto := bo.lt
       have o0 := bo.c 0 rfl
       have fo0 := bo.frozen 0
       have o1 := bo.c 1 rfl
       have fo1 := bo.frozen 1
       have o2 := bo.c 2 rfl
       have fo2 := bo.frozen 2
       have o3 := bo.c 3 rfl
       have fo3 := bo.frozen 3
       have o4 := bo.c 4 rfl
       have fo4 := bo.frozen 4
       have o5 := bo.c 5 rfl
       have fo5 := bo.frozen 5
       have bt : Blk W8 wr.heap.size 24 #[.int .i64 e1, .int .i64 e2] := HM8.out.get 0 rfl
       have ltt := bt.lt
       have t0 := bt.c 0 rfl
       have ft0 := bt.frozen 0
       have t1 := bt.c 1 rfl
       have ft1 := bt.frozen 1
       have hownM := Mem.row_ HM8.out 3 rfl
       have hbaseM : w2.heap.size ≤ W8.heap.size := HM8.out.size
       go_wp2_with (at_builtin; refine wpList_append_own_at _ rfl (.tmp 85) (.tmp 87) _ rfl w2.heap.size 24 i0 _ 2 16 Tryz.underlying34 Hi.out Hz0.out Hz1.out Hz2.out rfl (by decide) _ k (spanCells (mapL RT G vw k)) rfl (hownM.alloc _) ⟨W8.heap.size, 0, none⟩ 1 1 [.int .i64 e1, .int .i64 e2] rfl rfl ?q1c1 (by intro u hu; simp only [List.mem_cons, List.not_mem_nil, or_false] at hu; rcases hu with rfl | rfl <;> rfl) ?q1c3 ?q1c4 ?q1c5 ?_)
       try case q1c1 => exact new_cellsQ W8 _ [.int .i64 e1, .int .i64 e2]
       case q1c3 => unfold maxLen; omega
       case q1c4 => omega
       case q1c5 => first | omega | (simp; omega)
       intro vA w9 hown2 hgr2 _ hat2
       have HMn := HM8.out.grow 3 rfl _ hgr2 hown2 hat2
       replace HM8 := hide HMn
       clear HMn hown2 hgr2 hat2 hownM hbaseM
       clear bo lto o0 fo0 o1 fo1 o2 fo2 o3 fo3 o4 fo4 o5 fo5 bt ltt t0 ft0 t1 ft1
       obtain ⟨A9, c9, rfl⟩ := own_shape2 (Mem.row_ HM8.out 3 rfl)
       have bo : Blk w9 (w2.heap.size + 1) 36 #[.int .i64 ux, .int .i64 uy, .int .i64 us, .int .i64 uw, .int .i64 uh, .slice Ap k cp] := HM8.out.get 1 rfl
       have lto := bo.lt
       have o0 := bo.c 0 rfl
       have fo0 := bo.frozen 0
       have o1 := bo.c 1 rfl
       have fo1 := bo.frozen 1
       have o2 := bo.c 2 rfl
       have fo2 := bo.frozen 2
       have o3 := bo.c 3 rfl
       have fo3 := bo.frozen 3
       have o4 := bo.c 4 rfl
       have fo4 := bo.frozen 4
       have o5 := bo.c 5 rfl
       have fo5 := bo.frozen 5
       go_wp2_with fail
       go_roundw
       case rel => exact ⟨k + 1, A9, c9, f', c', ents', by omega, by go_num, by omega, hK', by
        rw [Hsp.out]
        exact (HM8.out.set_ 1 rfl 5 (.slice A9 (k + 1) c9) rfl).drop 0 rfl⟩
       case measure => simp [intOf] <;> omega
      | some v =>
       obtain ⟨R', A6, c6, e1', hR', rfl, hmem⟩ := HK.out _ v hfr
       obtain rfl : R = R' := by omega
       have hfr' : (f (R : Int)).getD (.slice none 0 0) = .slice A6 G c6 := by rw [hfr]; rfl
       have Hfr := hide hfr'
       obtain ⟨b6, cur6, rfl, -⟩ := row_blk (HM.out.all _ (List.mem_cons_of_mem _ (List.mem_cons_of_mem _ (List.mem_cons_of_mem _ (List.mem_cons_of_mem _ hmem))))) (by omega)
       clear hfr hfr' HB2 Hm He Hf
       go_upto_region 17 with (at_lookup; refine wpList_lookI _ rfl _ _ _ rfl 3 34 Tryz.underlying3 Tryz.underlying77 (.slice none 0 0) (by kernel_rfl) w2.heap.size _ _ rfl Hmap5.out (R : Int) rfl hwR (.slice (some ⟨b6, 0, none⟩) G c6) Hfr.out ?_)
       clear Hmap5
       have hfr' := Hfr.out
       have hK' := HK.out
       obtain ⟨f', rfl⟩ : ∃ q, q = f := ⟨_, rfl⟩
       obtain ⟨ents', rfl⟩ : ∃ q, q = ents := ⟨_, rfl⟩
       obtain ⟨c', rfl⟩ : ∃ q, q = c := ⟨_, rfl⟩
       have hrow : World.ownsRow w5 w2.heap.size 24 2 (.slice (some ⟨b6, 0, none⟩) G c6) G (spanCells (RT R)) := HM.out.all _ (List.mem_cons_of_mem _ (List.mem_cons_of_mem _ (List.mem_cons_of_mem _ (List.mem_cons_of_mem _ hmem))))
       have hI := ints_spans hrow
       obtain ⟨b6', o6', hA6, hb6, hc6⟩ := hI.pt (by rw [Hrtl.out]; omega)
       injection hA6 with hA6
       injection hA6 with hA6 hA7
       subst hA6 hA7
       obtain ⟨p0, p1⟩ := hc6 j hjl
       rw [Hee.out] at p0 p1
       simp only [Nat.zero_add] at p0 p1
       have hmap7 : MapI w5 Tryz.prog 3 w2.heap.size f' c' := HM.out.get 2 rfl
       have bt : Blk w5 wr.heap.size 24 #[.int .i64 0, .int .i64 1000000] := HM.out.get 0 rfl
       have ltt := bt.lt
       have t0 := bt.c 0 rfl
       have ft0 := bt.frozen 0
       have t1 := bt.c 1 rfl
       have ft1 := bt.frozen 1
       clear hI hc6 hrow
       have Hmap := hide hmap7
       clear hmap7
       go_upto_region 18 with (at_lookup; refine wpList_lookI _ rfl _ _ _ rfl 3 34 Tryz.underlying3 Tryz.underlying77 (.slice none 0 0) (by kernel_rfl) w2.heap.size _ _ rfl Hmap.out (R : Int) rfl hwR (.slice (some ⟨b6, 0, none⟩) G c6) hfr' ?_)
       refine code_world fun W8 hW => ?_
       have HM8 := hide (((HM.out.set_ 0 rfl 0 (.int .i64 e1) rfl).set_ 0 rfl 1 (.int .i64 e2) rfl).to hW)
       clear hW p0 p1 HM Hmap
       clear bt ltt t0 ft0 t1 ft1
       have bo : Blk W8 (w2.heap.size + 1) 36 #[.int .i64 ux, .int .i64 uy, .int .i64 us, .int .i64 uw, .int .i64 uh, .slice Ap k cp] := HM8.out.get 1 rfl
       have lto := bo.lt
       have o0 := bo.c 0 rfl
       have fo0 := bo.frozen 0
       have o1 := bo.c 1 rfl
       have fo1 := bo.frozen 1
       have o2 := bo.c 2 rfl
       have fo2 := bo.frozen 2
       have o3 := bo.c 3 rfl
       have fo3 := bo.frozen 3
       have o4 := bo.c 4 rfl
       have fo4 := bo.frozen 4
       have o5 := bo.c 5 rfl
       have fo5 := bo.frozen 5
       have bt : Blk W8 wr.heap.size 24 #[.int .i64 e1, .int .i64 e2] := HM8.out.get 0 rfl
       have ltt := bt.lt
       have t0 := bt.c 0 rfl
       have ft0 := bt.frozen 0
       have t1 := bt.c 1 rfl
       have ft1 := bt.frozen 1
       have hownM := Mem.row_ HM8.out 3 rfl
       have hbaseM : w2.heap.size ≤ W8.heap.size := HM8.out.size
       go_wp2_with (at_builtin; refine wpList_append_own_at _ rfl (.tmp 85) (.tmp 87) _ rfl w2.heap.size 24 i0 _ 2 16 Tryz.underlying34 Hi.out Hz0.out Hz1.out Hz2.out rfl (by decide) _ k (spanCells (mapL RT G vw k)) rfl (hownM.alloc _) ⟨W8.heap.size, 0, none⟩ 1 1 [.int .i64 e1, .int .i64 e2] rfl rfl ?q2c1 (by intro u hu; simp only [List.mem_cons, List.not_mem_nil, or_false] at hu; rcases hu with rfl | rfl <;> rfl) ?q2c3 ?q2c4 ?q2c5 ?_)
       try case q2c1 => exact new_cellsQ W8 _ [.int .i64 e1, .int .i64 e2]
       case q2c3 => unfold maxLen; omega
       case q2c4 => omega
       case q2c5 => first | omega | (simp; omega)
       intro vA w9 hown2 hgr2 _ hat2
       have HMn := HM8.out.grow 3 rfl _ hgr2 hown2 hat2
       replace HM8 := hide HMn
       clear HMn hown2 hgr2 hat2 hownM hbaseM
       clear bo lto o0 fo0 o1 fo1 o2 fo2 o3 fo3 o4 fo4 o5 fo5 bt ltt t0 ft0 t1 ft1
       obtain ⟨A9, c9, rfl⟩ := own_shape2 (Mem.row_ HM8.out 3 rfl)
       have bo : Blk w9 (w2.heap.size + 1) 36 #[.int .i64 ux, .int .i64 uy, .int .i64 us, .int .i64 uw, .int .i64 uh, .slice Ap k cp] := HM8.out.get 1 rfl
       have lto := bo.lt
       have o0 := bo.c 0 rfl
       have fo0 := bo.frozen 0
       have o1 := bo.c 1 rfl
       have fo1 := bo.frozen 1
       have o2 := bo.c 2 rfl
       have fo2 := bo.frozen 2
       have o3 := bo.c 3 rfl
       have fo3 := bo.frozen 3
       have o4 := bo.c 4 rfl
       have fo4 := bo.frozen 4
       have o5 := bo.c 5 rfl
       have fo5 := bo.frozen 5
       go_wp2_with fail
       go_roundw
       case rel => exact ⟨k + 1, A9, c9, f', c', ents', by omega, by go_num, by omega, hK', by
        rw [Hsp.out]
        exact (HM8.out.set_ 1 rfl 5 (.slice A9 (k + 1) c9) rfl).drop 0 rfl⟩
       case measure => simp [intOf] <;> omega
     ·
      have hsp2 := Hsp.out
      rw [show valM RT G v = (0, 1000000) from if_neg h0] at hsp2
      simp only at hsp2
      have hK' := HK.out
      clear Hsp hgv HK
      have Hsp := hide hsp2
      clear hsp2
      go_upto_region 18 with fail
      refine code_world fun W8 hW => ?_
      have HMn := Mem.to (Mem.allocAt HM.out wr.heap.size rfl #[.int .i64 0, .int .i64 1000000] 24) hW
      have LW : Later wr W8 := by rw [hW]; exact ((Below.refl _ _).alloc (Nat.le_refl _) _)
      have szW : W8.heap.size = wr.heap.size + 1 := by rw [hW]; simp
      clear hW
      replace Hsw := hide (blk_later Hsw.out LW)
      replace Hm := hide (blk_later Hm.out LW)
      replace He := hide (blk_later He.out LW)
      replace Hf := hide (blk_later Hf.out LW)
      replace HB2 := hide (onward HB2.out LW)
      replace HM := hide HMn
      clear HMn LW
      have HM8 := HM
      clear szW HM
      have bo : Blk W8 (w2.heap.size + 1) 36 #[.int .i64 ux, .int .i64 uy, .int .i64 us, .int .i64 uw, .int .i64 uh, .slice Ap k cp] := HM8.out.get 1 rfl
      have lto := bo.lt
      have o0 := bo.c 0 rfl
      have fo0 := bo.frozen 0
      have o1 := bo.c 1 rfl
      have fo1 := bo.frozen 1
      have o2 := bo.c 2 rfl
      have fo2 := bo.frozen 2
      have o3 := bo.c 3 rfl
      have fo3 := bo.frozen 3
      have o4 := bo.c 4 rfl
      have fo4 := bo.frozen 4
      have o5 := bo.c 5 rfl
      have fo5 := bo.frozen 5
      have bt : Blk W8 wr.heap.size 24 #[.int .i64 0, .int .i64 1000000] := HM8.out.get 0 rfl
      have ltt := bt.lt
      have t0 := bt.c 0 rfl
      have ft0 := bt.frozen 0
      have t1 := bt.c 1 rfl
      have ft1 := bt.frozen 1
      have hownM := Mem.row_ HM8.out 3 rfl
      have hbaseM : w2.heap.size ≤ W8.heap.size := HM8.out.size
      go_wp2_with (at_builtin; refine wpList_append_own_at _ rfl (.tmp 85) (.tmp 87) _ rfl w2.heap.size 24 i0 _ 2 16 Tryz.underlying34 Hi.out Hz0.out Hz1.out Hz2.out rfl (by decide) _ k (spanCells (mapL RT G vw k)) rfl (hownM.alloc _) ⟨W8.heap.size, 0, none⟩ 1 1 [.int .i64 0, .int .i64 1000000] rfl rfl ?q3c1 (by intro u hu; simp only [List.mem_cons, List.not_mem_nil, or_false] at hu; rcases hu with rfl | rfl <;> rfl) ?q3c3 ?q3c4 ?q3c5 ?_)
      try case q3c1 => exact new_cellsQ W8 _ [.int .i64 0, .int .i64 1000000]
      case q3c3 => unfold maxLen; omega
      case q3c4 => omega
      case q3c5 => first | omega | (simp; omega)
      intro vA w9 hown2 hgr2 _ hat2
      have HMn := HM8.out.grow 3 rfl _ hgr2 hown2 hat2
      replace HM8 := hide HMn
      clear HMn hown2 hgr2 hat2 hownM hbaseM
      clear bo lto o0 fo0 o1 fo1 o2 fo2 o3 fo3 o4 fo4 o5 fo5 bt ltt t0 ft0 t1 ft1
      obtain ⟨A9, c9, rfl⟩ := own_shape2 (Mem.row_ HM8.out 3 rfl)
      have bo : Blk w9 (w2.heap.size + 1) 36 #[.int .i64 ux, .int .i64 uy, .int .i64 us, .int .i64 uw, .int .i64 uh, .slice Ap k cp] := HM8.out.get 1 rfl
      have lto := bo.lt
      have o0 := bo.c 0 rfl
      have fo0 := bo.frozen 0
      have o1 := bo.c 1 rfl
      have fo1 := bo.frozen 1
      have o2 := bo.c 2 rfl
      have fo2 := bo.frozen 2
      have o3 := bo.c 3 rfl
      have fo3 := bo.frozen 3
      have o4 := bo.c 4 rfl
      have fo4 := bo.frozen 4
      have o5 := bo.c 5 rfl
      have fo5 := bo.frozen 5
      go_wp2_with fail
      go_roundw
      case rel => exact ⟨k + 1, A9, c9, f, c, ents, by omega, by go_num, by omega, hK', by
       rw [Hsp.out]
       exact (HM8.out.set_ 1 rfl 5 (.slice A9 (k + 1) c9) rfl).drop 0 rfl⟩
      case measure => simp [intOf] <;> omega
    ·
     obtain rfl : k = N := by omega
     have hlt3 : ¬ ((k : Int) < k) := by omega
     have hq' := blk_belowN Hq.out hL Hq.out.lt
     have hLn : (mapL RT G vw k).length = k := mapL_length (by have := Hvl.out; omega)
     have hown : World.ownsRow wr w2.heap.size 24 2 (.slice Ap k cp) k (spanCells (mapL RT G vw k)) := hM.row_ 2 rfl
     have hszq : w.heap.size ≤ w2.heap.size := by omega
     clear Hsw Hm He Hf HB hx hm' he' hf' Hq
     have HM := hide hM
     have Hq := hide hq'
     have Hln := hide hLn
     have Hown := hide hown
     clear hM hq' hLn hown
     have bo : Blk wr (w2.heap.size + 1) 36 #[.int .i64 ux, .int .i64 uy, .int .i64 us, .int .i64 uw, .int .i64 uh, .slice Ap k cp] := HM.out.get 0 rfl
     have lto := bo.lt
     have o0 := bo.c 0 rfl
     have o1 := bo.c 1 rfl
     have o2 := bo.c 2 rfl
     have o3 := bo.c 3 rfl
     have o4 := bo.c 4 rfl
     have o5 := bo.c 5 rfl
     obtain ⟨q0, q1, q2, q3, q4, q5⟩ := Hq.out.c6
     have ltq := Hq.out.lt
     have fq0 := Hq.out.frozen 0
     have fq1 := Hq.out.frozen 1
     have fq2 := Hq.out.frozen 2
     have fq3 := Hq.out.frozen 3
     have fq4 := Hq.out.frozen 4
     have fq5 := Hq.out.frozen 5
     go_wp2
     refine ret_world fun W5 hW => ?_
     have hq5 : Blk W5 (w.heap.size + 1 + 1 + 1 + 1 + 1) 36 #[.int .i64 ux, .int .i64 uy, .int .i64 us, .int .i64 uw, .int .i64 uh, .slice Ap k cp] := by
      rw [hW]
      exact blk_of ((((((Hq.out.set_ 0 _).set_ 1 _).set_ 2 _).set_ 3 _).set_ 4 _).set_ 5 _) rfl
     have hB5 : Below w.heap.size w W5 := by
      have hge : w.heap.size ≤ w.heap.size + 1 + 1 + 1 + 1 + 1 := by omega
      rw [hW]
      exact (((((HB2.out.setCell hge _).setCell hge _).setCell hge _).setCell hge _).setCell hge _).setCell hge _
     have ho5 := own_stabT (w' := W5) Hown.out fun q hq => by
      have hne : q ≠ w.heap.size + 1 + 1 + 1 + 1 + 1 := by have := (Hown.out.lt q hq).1; omega
      rw [hW]
      exact (Below.heap_setCell _ _ _ q hne).trans ((Below.heap_setCell _ _ _ q hne).trans ((Below.heap_setCell _ _ _ q hne).trans ((Below.heap_setCell _ _ _ q hne).trans ((Below.heap_setCell _ _ _ q hne).trans (Below.heap_setCell _ _ _ q hne)))))
     obtain ⟨e0, e1, e2, e3, e4, e5⟩ := hq5.c6
     exact bodyPost_ret (v := .tuple #[.agg #[.int .i64 ux, .int .i64 uy, .int .i64 us, .int .i64 uw, .int .i64 uh, .slice Ap k cp], .int .i64 0]) (by simp [results, Tryz.results11, go_sem, e0, e1, e2, e3, e4, e5]) rfl (mapPost_yes Hln.out rfl (own_mono ho5 hszq) hB5)
  ·
   have hd : (gridE ux uy us uw uh != 0) = true := by simp [hg]
   have hmq := fun w' e => mapPost_no (ux := ux) (uy := uy) (us := us) (uw := uw) (uh := uh) (L := mapL RT G (viewL r st tilt G sx sy ux uy us uw (uw * uh).toNat) (uw * uh).toNat) (w := w) (w' := w') (e := e) hg
   generalize mapPost (gridE ux uy us uw uh) ux uy us uw uh (mapL RT G (viewL r st tilt G sx sy ux uy us uw (uw * uh).toNat) (uw * uh).toNat) = PQ at *
   generalize gridE ux uy us uw uh = gE at *
   simp only [if_neg hg] at cV
   have CC := hide cC
   have CV := hide cV
   have Hl := hide hl
   have Hlr := hide hlr
   have Hlg := hide hlg
   have Hrs := hide hrs
   have Hmq := hide hmq
   clear cC cV hl hlr hlg hrs hmq
   clear cR hs hn hmax hnr hmaxr hng hmaxg hns h0
   go_enter Tryz.func11, Tryz.ntmps11
   have HB := hide (Below.refl w.heap.size w)
   go_wp2_with fail
   refine at_world fun W hW => ?_
   have bq0 : Blk W w.heap.size 26 #[.slice A nl cl, .slice Ar nr cr, .int .i64 a0, .int .i64 a1, .int .i64 b0, .int .i64 b1, .int .i64 c0, .int .i64 c1] := by rw [hW]; exact (((((Blk.new _ _ _).alloc _).alloc _).alloc _).alloc _).alloc _
   have bq1 : Blk W (w.heap.size + 1) 31 #[.string s, .int .i64 sx, .int .i64 sy, .int .i64 z, .int .i64 r, .int .i64 (G : Int), .int .i64 st, .int .i64 wd, .int .i64 tilt, .int .i64 time, .slice As n cs] := by rw [hW]; exact ((((blk_new_at (by simp)).alloc _).alloc _).alloc _).alloc _
   have bq2 : Blk W (w.heap.size + 2) 24 #[.int .i64 elo, .int .i64 ehi] := by rw [hW]; exact (((blk_new_at (by simp)).alloc _).alloc _).alloc _
   have bq3 : Blk W (w.heap.size + 3) 36 #[.int .i64 gx, .int .i64 gy, .int .i64 gs, .int .i64 wi, .int .i64 hi, .slice Ag ng cg] := by rw [hW]; exact ((blk_new_at (by simp)).alloc _).alloc _
   have bq4 : Blk W (w.heap.size + 4) 33 #[.int .i64 ux, .int .i64 uy, .int .i64 us, .int .i64 uw, .int .i64 uh] := by rw [hW]; exact (blk_new_at (by simp)).alloc _
   have bq5 : Blk W (w.heap.size + 5) 36 #[.int .i64 0, .int .i64 0, .int .i64 0, .int .i64 0, .int .i64 0, .slice none 0 0] := by rw [hW]; exact blk_new_at (by simp)
   have LW : Later w W := by rw [hW]; exact (((((((Below.refl _ _).alloc (Nat.le_refl _) _).alloc (by simp; try omega) _).alloc (by simp; try omega) _).alloc (by simp; try omega) _).alloc (by simp; try omega) _).alloc (by simp; try omega) _)
   have szW : W.heap.size = w.heap.size + 6 := by rw [hW]; simp
   clear hW
   replace HB := hide (onward HB.out LW)
   have Hm := hide bq0
   have Hsw := hide bq1
   have He := hide bq2
   have Hf := hide bq3
   have Hu := hide bq4
   have Hq := hide bq5
   clear bq0 bq1 bq2 bq3 bq4 bq5 LW szW
   refine (CC.out _ ((Hl.out.below HB.out).more HB.out.size) ((Hlr.out.below HB.out).more HB.out.size) ((Hlg.out.below HB.out).more HB.out.size) ((Hrs.out.below HB.out).more HB.out.size)).mono ?_
   rintro e w1 ⟨rfl, hb⟩
   replace HB := hide (onward HB.out hb)
   replace Hm := hide (blk_later Hm.out hb)
   replace Hsw := hide (blk_later Hsw.out hb)
   replace He := hide (blk_later He.out hb)
   replace Hf := hide (blk_later Hf.out hb)
   replace Hu := hide (blk_later Hu.out hb)
   replace Hq := hide (blk_later Hq.out hb)
   clear hb
   have x0 := Hsw.out.c 0 rfl
   have x1 := Hsw.out.c 1 rfl
   have x2 := Hsw.out.c 2 rfl
   have x3 := Hsw.out.c 3 rfl
   have x4 := Hsw.out.c 4 rfl
   have x5 := Hsw.out.c 5 rfl
   have x6 := Hsw.out.c 6 rfl
   have x7 := Hsw.out.c 7 rfl
   have x8 := Hsw.out.c 8 rfl
   have x9 := Hsw.out.c 9 rfl
   have x10 := Hsw.out.c 10 rfl
   have ltx := Hsw.out.lt
   obtain ⟨u0, u1, u2, u3, u4⟩ := Hu.out.c5
   have ltu := Hu.out.lt
   go_wp2_with fail
   refine (CV.out _).mono ?_
   rintro e w2 ⟨A1, c1', rfl, hb, hi1⟩
   replace HB := hide (onward HB.out hb)
   replace Hm := hide (blk_later Hm.out hb)
   replace Hsw := hide (blk_later Hsw.out hb)
   replace He := hide (blk_later He.out hb)
   replace Hf := hide (blk_later Hf.out hb)
   replace Hu := hide (blk_later Hu.out hb)
   replace Hq := hide (blk_later Hq.out hb)
   clear hb x0 x1 x2 x3 x4 x5 x6 x7 x8 x9 x10 ltx u0 u1 u2 u3 u4 ltu
   clear hi1
   obtain ⟨q0, q1, q2, q3, q4, q5⟩ := Hq.out.c6
   have ltq := Hq.out.lt
   have fq0 := Hq.out.frozen 0
   have fq1 := Hq.out.frozen 1
   have fq2 := Hq.out.frozen 2
   have fq3 := Hq.out.frozen 3
   have fq4 := Hq.out.frozen 4
   have fq5 := Hq.out.frozen 5
   go_wp2
   refine ret_world fun W5 hW => ?_
   have hq5 : Blk W5 (w.heap.size + 1 + 1 + 1 + 1 + 1) 36 #[.int .i64 0, .int .i64 0, .int .i64 0, .int .i64 0, .int .i64 0, .slice none 0 0] := by
    rw [hW]
    exact blk_of ((((((Hq.out.set_ 0 _).set_ 1 _).set_ 2 _).set_ 3 _).set_ 4 _).set_ 5 _) rfl
   have hB5 : Below w.heap.size w W5 := by
    have hge : w.heap.size ≤ w.heap.size + 1 + 1 + 1 + 1 + 1 := by omega
    rw [hW]
    exact (((((HB.out.setCell hge _).setCell hge _).setCell hge _).setCell hge _).setCell hge _).setCell hge _
   obtain ⟨e0, e1, e2, e3, e4, e5⟩ := hq5.c6
   exact bodyPost_ret (v := .tuple #[.agg #[.int .i64 0, .int .i64 0, .int .i64 0, .int .i64 0, .int .i64 0, .slice none 0 0], .int .i64 gE]) (by simp [results, Tryz.results11, go_sem, e0, e1, e2, e3, e4, e5]) rfl (Hmq.out _ _ rfl hB5)
 ·
  have hd : (allE s sx sy z r g st wd tilt time elo ehi gx gy gs wi hi 0 l rt gl a0 a1 b0 b1 c0 c1 n ng rr != 0) = true := by simp [h0]
  have hmq := fun w' e => mapPost_no (ux := ux) (uy := uy) (us := us) (uw := uw) (uh := uh) (L := mapL (fun R => rateL z r g st wd tilt elo ehi gx gy gs wi hi sx sy R l rt gl a0 a1 b0 b1 c0 c1 rr) g (viewL r st tilt g sx sy ux uy us uw (uw * uh).toNat) (uw * uh).toNat) (w := w) (w' := w') (e := e) h0
  rw [show mapE (allE s sx sy z r g st wd tilt time elo ehi gx gy gs wi hi 0 l rt gl a0 a1 b0 b1 c0 c1 n ng rr) (gridE ux uy us uw uh) = allE s sx sy z r g st wd tilt time elo ehi gx gy gs wi hi 0 l rt gl a0 a1 b0 b1 c0 c1 n ng rr from if_pos h0]
  generalize mapL (fun R => rateL z r g st wd tilt elo ehi gx gy gs wi hi sx sy R l rt gl a0 a1 b0 b1 c0 c1 rr) g (viewL r st tilt g sx sy ux uy us uw (uw * uh).toNat) (uw * uh).toNat = PL at *
  generalize allE s sx sy z r g st wd tilt time elo ehi gx gy gs wi hi 0 l rt gl a0 a1 b0 b1 c0 c1 n ng rr = gE at *
  generalize mapPost gE ux uy us uw uh PL = PQ at *
  unfold mdlC sweepC fldC at *
  have CC := hide cC
  have Hl := hide hl
  have Hlr := hide hlr
  have Hlg := hide hlg
  have Hrs := hide hrs
  have Hmq := hide hmq
  clear cC hl hlr hlg hrs hmq
  clear hs hn hmax hnr hmaxr hng hmaxg hns
  go_enter Tryz.func11, Tryz.ntmps11
  have HB := hide (Below.refl w.heap.size w)
  go_wp2_with fail
  refine at_world fun W hW => ?_
  have bq0 : Blk W w.heap.size 26 #[.slice A nl cl, .slice Ar nr cr, .int .i64 a0, .int .i64 a1, .int .i64 b0, .int .i64 b1, .int .i64 c0, .int .i64 c1] := by rw [hW]; exact (((((Blk.new _ _ _).alloc _).alloc _).alloc _).alloc _).alloc _
  have bq1 : Blk W (w.heap.size + 1) 31 #[.string s, .int .i64 sx, .int .i64 sy, .int .i64 z, .int .i64 r, .int .i64 g, .int .i64 st, .int .i64 wd, .int .i64 tilt, .int .i64 time, .slice As n cs] := by rw [hW]; exact ((((blk_new_at (by simp)).alloc _).alloc _).alloc _).alloc _
  have bq2 : Blk W (w.heap.size + 2) 24 #[.int .i64 elo, .int .i64 ehi] := by rw [hW]; exact (((blk_new_at (by simp)).alloc _).alloc _).alloc _
  have bq3 : Blk W (w.heap.size + 3) 36 #[.int .i64 gx, .int .i64 gy, .int .i64 gs, .int .i64 wi, .int .i64 hi, .slice Ag ng cg] := by rw [hW]; exact ((blk_new_at (by simp)).alloc _).alloc _
  have bq4 : Blk W (w.heap.size + 4) 33 #[.int .i64 ux, .int .i64 uy, .int .i64 us, .int .i64 uw, .int .i64 uh] := by rw [hW]; exact (blk_new_at (by simp)).alloc _
  have bq5 : Blk W (w.heap.size + 5) 36 #[.int .i64 0, .int .i64 0, .int .i64 0, .int .i64 0, .int .i64 0, .slice none 0 0] := by rw [hW]; exact blk_new_at (by simp)
  have LW : Later w W := by rw [hW]; exact (((((((Below.refl _ _).alloc (Nat.le_refl _) _).alloc (by simp; try omega) _).alloc (by simp; try omega) _).alloc (by simp; try omega) _).alloc (by simp; try omega) _).alloc (by simp; try omega) _)
  have szW : W.heap.size = w.heap.size + 6 := by rw [hW]; simp
  clear hW
  replace HB := hide (onward HB.out LW)
  have Hm := hide bq0
  have Hsw := hide bq1
  have He := hide bq2
  have Hf := hide bq3
  have Hu := hide bq4
  have Hq := hide bq5
  clear bq0 bq1 bq2 bq3 bq4 bq5 LW szW
  refine (CC.out _ ((Hl.out.below HB.out).more HB.out.size) ((Hlr.out.below HB.out).more HB.out.size) ((Hlg.out.below HB.out).more HB.out.size) ((Hrs.out.below HB.out).more HB.out.size)).mono ?_
  rintro e w1 ⟨rfl, hb⟩
  replace HB := hide (onward HB.out hb)
  replace Hm := hide (blk_later Hm.out hb)
  replace Hsw := hide (blk_later Hsw.out hb)
  replace He := hide (blk_later He.out hb)
  replace Hf := hide (blk_later Hf.out hb)
  replace Hu := hide (blk_later Hu.out hb)
  replace Hq := hide (blk_later Hq.out hb)
  clear hb
  obtain ⟨q0, q1, q2, q3, q4, q5⟩ := Hq.out.c6
  have ltq := Hq.out.lt
  have fq0 := Hq.out.frozen 0
  have fq1 := Hq.out.frozen 1
  have fq2 := Hq.out.frozen 2
  have fq3 := Hq.out.frozen 3
  have fq4 := Hq.out.frozen 4
  have fq5 := Hq.out.frozen 5
  go_wp2
  refine ret_world fun W5 hW => ?_
  have hq5 : Blk W5 (w.heap.size + 1 + 1 + 1 + 1 + 1) 36 #[.int .i64 0, .int .i64 0, .int .i64 0, .int .i64 0, .int .i64 0, .slice none 0 0] := by
   rw [hW]
   exact blk_of ((((((Hq.out.set_ 0 _).set_ 1 _).set_ 2 _).set_ 3 _).set_ 4 _).set_ 5 _) rfl
  have hB5 : Below w.heap.size w W5 := by
   have hge : w.heap.size ≤ w.heap.size + 1 + 1 + 1 + 1 + 1 := by omega
   rw [hW]
   exact (((((HB.out.setCell hge _).setCell hge _).setCell hge _).setCell hge _).setCell hge _).setCell hge _
  obtain ⟨e0, e1, e2, e3, e4, e5⟩ := hq5.c6
  exact bodyPost_ret (v := .tuple #[.agg #[.int .i64 0, .int .i64 0, .int .i64 0, .int .i64 0, .int .i64 0, .slice none 0 0], .int .i64 gE]) (by simp [results, Tryz.results11, go_sem, e0, e1, e2, e3, e4, e5]) rfl (Hmq.out _ _ rfl hB5)
end Go.Proofs.YtepgpihobmjbdaaGreat
end
section
namespace Go.Proofs.YtepgpihobmjbdaaGreat
open Go Go.RowKit
theorem rowsInfo : (Tryz.prog.info? 34).map (fun i => (i.zero, i.size, i.bytes)) = some (some (.slice none 0 0), 1, 24) := by kernel_rfl
def KnownL (RT : Nat → List (Int × Int)) (base G : Nat) (xs : List Value) (ents : List Th) : Prop :=
 ∀ R, R < xs.length → ∃ (A : Option Addr) (c : Nat), xs[R]? = some (.slice A G c) ∧ Th.row base 24 2 (.slice A G c) G (spanCells (RT R)) ∈ ents
theorem KnownL.snoc {RT : Nat → List (Int × Int)} {base G c : Nat} {A : Option Addr} {xs : List Value} {ents : List Th} (h : KnownL RT base G xs ents) : KnownL RT base G (xs ++ [.slice A G c]) (.row base 24 2 (.slice A G c) G (spanCells (RT xs.length)) :: ents) := fun R hR => by
 rcases Nat.lt_or_ge R xs.length with h1 | h1
 ·
  obtain ⟨A', c', h2, h3⟩ := h R h1
  exact ⟨A', c', by rw [List.getElem?_append_left h1]; exact h2, List.mem_cons_of_mem _ h3⟩
 ·
  obtain rfl : R = xs.length := by simp at hR; omega
  exact ⟨A, c, by simp, List.mem_cons_self⟩
set_option maxHeartbeats 8000000 in
set_option maxRecDepth 100000 in
theorem RefMap_any (s : ByteArray) (sx sy z r g st wd tilt time elo ehi gx gy gs wi hi ux uy us uw uh : Int) (l rt gl : List (Int × Int)) (a0 a1 b0 b1 c0 c1 : Int) (n ng : Nat) (rr : Nat → Ray1) (A : Option Addr) (nl cl : Nat) (Ar : Option Addr) (nr cr : Nat) (As : Option Addr) (cs : Nat) (Ag : Option Addr) (cg : Nat) (w : World)
  (hs : s.size ≤ 9223372036854775807) (hn : l.length = nl) (hmax : nl ≤ 9223372036854775807) (hnr : rt.length = nr) (hmaxr : nr ≤ 9223372036854775807) (hng : gl.length = ng) (hmaxg : ng ≤ 9223372036854775807) (hns : n ≤ maxLen)
  (hl : Ints w w.heap.size .i64 A (flat2 l)) (hlr : Ints w w.heap.size .i64 Ar (flat2 rt)) (hlg : Ints w w.heap.size .i64 Ag (flat2Q gl)) (hrs : RaysAt w w.heap.size As n rr) :
  Calls Tryz.prog 12 #[.agg (mdlC A nl cl Ar nr cr a0 a1 b0 b1 c0 c1), .agg (sweepC s sx sy z r g st wd tilt time As n cs), .agg #[.int .i64 elo, .int .i64 ehi], .agg (fldC gx gy gs wi hi Ag ng cg), .agg #[.int .i64 ux, .int .i64 uy, .int .i64 us, .int .i64 uw, .int .i64 uh]] w
   (mapPost (mapE (allE s sx sy z r g st wd tilt time elo ehi gx gy gs wi hi 0 l rt gl a0 a1 b0 b1 c0 c1 n ng rr) (gridE ux uy us uw uh)) ux uy us uw uh (mapL (fun R => rateL z r g st wd tilt elo ehi gx gy gs wi hi sx sy R l rt gl a0 a1 b0 b1 c0 c1 rr) g (viewL r st tilt g sx sy ux uy us uw (uw * uh).toNat) (uw * uh).toNat) w) := by
 have cY := fun (W : World) (h1 : Ints W W.heap.size .i64 A (flat2 l)) (h2 : Ints W W.heap.size .i64 Ar (flat2 rt)) (h3 : Ints W W.heap.size .i64 Ag (flat2Q gl)) (h4 : RaysAt W W.heap.size As n rr) => ready_any s sx sy z r g st wd tilt time elo ehi gx gy gs wi hi 0 l rt gl a0 a1 b0 b1 c0 c1 n ng rr A nl cl Ar nr cr As cs Ag cg W hs hn hmax hnr hmaxr hng hmaxg hns h1 h2 h3 h4
 have cG := fun (W : World) => RefCheckGrid_any ux uy us uw uh W
 by_cases h0 : allE s sx sy z r g st wd tilt time elo ehi gx gy gs wi hi 0 l rt gl a0 a1 b0 b1 c0 c1 n ng rr = 0
 ·
  have cR := fun (R : Nat) (W : World) (h1 : Ints W W.heap.size .i64 A (flat2 l)) (h2 : Ints W W.heap.size .i64 Ar (flat2 rt)) (h3 : Ints W W.heap.size .i64 Ag (flat2Q gl)) (h4 : RaysAt W W.heap.size As n rr) => RefRates_any s sx sy z r g st wd tilt time elo ehi gx gy gs wi hi R l rt gl a0 a1 b0 b1 c0 c1 n ng rr A nl cl Ar nr cr As cs Ag cg W hs hn hmax hnr hmaxr hng hmaxg hns h1 h2 h3 h4
  have hER := fun (R : Nat) (hR : (R : Int) < 4 * r) => allE_ray h0 (R := R) (by omega) hR
  have cV := fun (W : World) => RefView_any s sx sy z r g st wd tilt ux uy us uw uh W hs
  obtain ⟨hm, hsw, hbl⟩ := ready_ok h0
  obtain ⟨e0, ht, -⟩ := sweep_ok hsw
  rw [viewE_of e0 ht] at cV
  obtain ⟨z0, z1, r0, r1, g0, g1, -⟩ := site_all e0
  clear hm hsw hbl e0 ht
  rw [show mapE (allE s sx sy z r g st wd tilt time elo ehi gx gy gs wi hi 0 l rt gl a0 a1 b0 b1 c0 c1 n ng rr) (gridE ux uy us uw uh) = gridE ux uy us uw uh from by rw [h0]; exact if_neg (by simp)]
  simp only [h0] at cY
  have hrtl := fun R : Nat => rateL_length (z := z) (r := r) (g := g) (st := st) (wd := wd) (tilt := tilt) (elo := elo) (ehi := ehi) (gx := gx) (gy := gy) (gs := gs) (wi := wi) (hi := hi) (sx := sx) (sy := sy) (ray := R) (l := l) (rt := rt) (gl := gl) (a0 := a0) (a1 := a1) (b0 := b0) (b1 := b1) (c0 := c0) (c1 := c1) (rr := rr)
  obtain ⟨RT, hRT⟩ : ∃ q : Nat → List (Int × Int), (fun R : Nat => rateL z r g st wd tilt elo ehi gx gy gs wi hi sx sy R l rt gl a0 a1 b0 b1 c0 c1 rr) = q := ⟨_, rfl⟩
  have hRT2 := fun R : Nat => congrFun hRT R
  rw [hRT]
  simp only [hRT2] at cR hrtl
  clear hRT hRT2
  have cR2 : ∀ (R : Nat) (W : World), (R : Int) < 4 * r → Ints W W.heap.size .i64 A (flat2 l) → Ints W W.heap.size .i64 Ar (flat2 rt) → Ints W W.heap.size .i64 Ag (flat2Q gl) → RaysAt W W.heap.size As n rr → Calls Tryz.prog 8 #[.agg (mdlC A nl cl Ar nr cr a0 a1 b0 b1 c0 c1), .agg (sweepC s sx sy z r g st wd tilt time As n cs), .agg #[.int .i64 elo, .int .i64 ehi], .agg (fldC gx gy gs wi hi Ag ng cg), .int .i64 R] W fun e w' =>
    ∃ v, e = .returned (.tuple #[v, .int .i64 0]) ∧ w'.ownsRow W.heap.size 24 2 v g.toNat (spanCells (RT R)) ∧ Below W.heap.size W w' := fun R W hR i1 i2 i3 i4 => (cR R W i1 i2 i3 i4).mono (by
   rw [hER R hR]
   rintro e w' ⟨v, h1, h2, h3⟩
   have h4 : (rateR 0 (RT R)).1.length = g.toNat := hrtl R
   rw [h4] at h2
   exact ⟨v, h1, h2, h3⟩)
  clear cR hER
  obtain ⟨G, rfl⟩ : ∃ G : Nat, g = G := ⟨g.toNat, by omega⟩
  simp only [Int.toNat_natCast] at cR2 hrtl cY
  unfold ViewPost at cV
  unfold siteV gridV at cV
  unfold gridV at cG
  unfold mdlC sweepC fldC at *
  simp only [if_true] at cY
  by_cases hg : gridE ux uy us uw uh = 0
  ·
   obtain ⟨-, -, -, -, -, -, q1, q2, q3, q4⟩ := gridE_ok hg
   have hgv := fun (k : Nat) (hk : k < (uw * uh).toNat) (v : Int) (hv : (viewL r st tilt G sx sy ux uy us uw (uw * uh).toNat).getD k 0 = v) => view_ray (ro := r) (st := st) (t := tilt) (g := (G : Int)) (sx := sx) (sy := sy) (gx := ux) (gy := uy) (gs := us) (wi := uw) r0 g0 hk v hv
   have hvl : (viewL r st tilt G sx sy ux uy us uw (uw * uh).toNat).length = (uw * uh).toNat := viewL_length
   have hNb : (uw * uh).toNat ≤ 4096 := by
    have := mul_bdB (a := uw) (b := uh) (A := 64) (B := 64) (by omega) q2 (by omega) q4
    omega
   rw [hg] at cV cG ⊢
   simp only [if_true] at cV
   generalize viewL r st tilt G sx sy ux uy us uw (uw * uh).toNat = vw at *
   generalize (uw * uh).toNat = N at *
   clear h0 hg q1 q2 q3 q4
   have CY := hide cY
   have CR := hide cR2
   have CV := hide cV
   have CG := hide cG
   have Hl := hide hl
   have Hlr := hide hlr
   have Hlg := hide hlg
   have Hrs := hide hrs
   have Hgv := hide hgv
   have Hvl := hide hvl
   have Hrtl := hide hrtl
   clear cY cR2 cV cG hl hlr hlg hrs hgv hvl hrtl
   clear hs hn hmax hnr hmaxr hng hmaxg hns
   obtain ⟨i0, hii, hz0, hz1, hz2⟩ := info_parts rowsInfo
   have Hi := hide hii
   have Hz0 := hide hz0
   have Hz1 := hide hz1
   have Hz2 := hide hz2
   clear hii hz0 hz1 hz2
   obtain ⟨R4, hR4⟩ : ∃ q : Nat, (q : Int) = 4 * r := ⟨(4 * r).toNat, by omega⟩
   go_enter Tryz.func12, Tryz.ntmps12
   have HB := hide (Below.refl w.heap.size w)
   go_wp2_with fail
   refine at_world fun W hW => ?_
   have bq0 : Blk W w.heap.size 45 #[.slice A nl cl, .slice Ar nr cr, .int .i64 a0, .int .i64 a1, .int .i64 b0, .int .i64 b1, .int .i64 c0, .int .i64 c1] := by rw [hW]; exact (((((Blk.new _ _ _).alloc _).alloc _).alloc _).alloc _).alloc _
   have bq1 : Blk W (w.heap.size + 1) 31 #[.string s, .int .i64 sx, .int .i64 sy, .int .i64 z, .int .i64 r, .int .i64 (G : Int), .int .i64 st, .int .i64 wd, .int .i64 tilt, .int .i64 time, .slice As n cs] := by rw [hW]; exact ((((blk_new_at (by simp)).alloc _).alloc _).alloc _).alloc _
   have bq2 : Blk W (w.heap.size + 2) 24 #[.int .i64 elo, .int .i64 ehi] := by rw [hW]; exact (((blk_new_at (by simp)).alloc _).alloc _).alloc _
   have bq3 : Blk W (w.heap.size + 3) 36 #[.int .i64 gx, .int .i64 gy, .int .i64 gs, .int .i64 wi, .int .i64 hi, .slice Ag ng cg] := by rw [hW]; exact ((blk_new_at (by simp)).alloc _).alloc _
   have bq4 : Blk W (w.heap.size + 4) 33 #[.int .i64 ux, .int .i64 uy, .int .i64 us, .int .i64 uw, .int .i64 uh] := by rw [hW]; exact (blk_new_at (by simp)).alloc _
   have bq5 : Blk W (w.heap.size + 5) 36 #[.int .i64 0, .int .i64 0, .int .i64 0, .int .i64 0, .int .i64 0, .slice none 0 0] := by rw [hW]; exact blk_new_at (by simp)
   have LW : Later w W := by rw [hW]; exact (((((((Below.refl _ _).alloc (Nat.le_refl _) _).alloc (by simp; try omega) _).alloc (by simp; try omega) _).alloc (by simp; try omega) _).alloc (by simp; try omega) _).alloc (by simp; try omega) _)
   have szW : W.heap.size = w.heap.size + 6 := by rw [hW]; simp
   clear hW
   replace HB := hide (onward HB.out LW)
   have Hm := hide bq0
   have Hsw := hide bq1
   have He := hide bq2
   have Hf := hide bq3
   have Hu := hide bq4
   have Hq := hide bq5
   clear bq0 bq1 bq2 bq3 bq4 bq5 LW szW
   refine (CY.out _ ((Hl.out.below HB.out).more HB.out.size) ((Hlr.out.below HB.out).more HB.out.size) ((Hlg.out.below HB.out).more HB.out.size) ((Hrs.out.below HB.out).more HB.out.size)).mono ?_
   rintro e w1 ⟨A1, c1', rfl, hb, hi1⟩
   replace HB := hide (onward HB.out hb)
   replace Hm := hide (blk_later Hm.out hb)
   replace Hsw := hide (blk_later Hsw.out hb)
   replace He := hide (blk_later He.out hb)
   replace Hf := hide (blk_later Hf.out hb)
   replace Hu := hide (blk_later Hu.out hb)
   replace Hq := hide (blk_later Hq.out hb)
   clear hb
   clear hi1
   obtain ⟨u0, u1, u2, u3, u4⟩ := Hu.out.c5
   have ltu := Hu.out.lt
   go_wp2_with fail
   refine (CG.out _).mono ?_
   rintro e w2 ⟨rfl, hb⟩
   replace HB := hide (onward HB.out hb)
   replace Hm := hide (blk_later Hm.out hb)
   replace Hsw := hide (blk_later Hsw.out hb)
   replace He := hide (blk_later He.out hb)
   replace Hf := hide (blk_later Hf.out hb)
   replace Hu := hide (blk_later Hu.out hb)
   replace Hq := hide (blk_later Hq.out hb)
   clear hb u0 u1 u2 u3 u4 ltu
   go_wp2_with fail
   have hlw := Hq.out.lt
   have HM0 := hide ((Mem.start w2).nilRow w2.heap.size 34 1)
   go_loopw [14, 15] (fun o i wr => ∃ (k : Nat) (Ao : Option Addr) (co : Nat) (xs : List Value) (ents : List Th), k ≤ R4 ∧ i = .int .i64 k ∧ o = .slice Ao k co ∧ xs.length = k ∧ KnownL RT w2.heap.size G xs ents ∧ Mem w2 (.row w2.heap.size 34 1 (.slice Ao k co) k xs :: ents) wr) (fun _ i _ => R4 - (intOf i).toNat)
   case atStart => exact ⟨0, none, 0, [], [], by omega, rfl, rfl, rfl, (fun R h => absurd h (by simp)), HM0.out⟩
   case round =>
    obtain ⟨k, Ao, co, xs, ents, hk, rfl, rfl, hxs, hK, hM⟩ := hrel
    have hL := hM.below
    have hx := blk_belowN Hsw.out hL Hsw.out.lt
    have hm' := blk_belowN Hm.out hL Hm.out.lt
    have he' := blk_belowN He.out hL He.out.lt
    have hf' := blk_belowN Hf.out hL Hf.out.lt
    have HB2 := hide (HB.out.trans (Below.mono hL HB.out.size))
    clear HM0
    by_cases hlt : k < R4
    ·
     have hlt3 : (k : Int) < 4 * r := by omega
     clear hL Hsw Hm He Hf HB Hq Hu
     have HM := hide hM
     have Hsw := hide hx
     have Hm := hide hm'
     have He := hide he'
     have Hf := hide hf'
     have HK := hide hK
     have Hxs := hide hxs
     clear hM hx hm' he' hf' hK hxs
     obtain ⟨m0, m1, m2, m3, m4, m5, m6, m7⟩ := Hm.out.c8
     have ltm := Hm.out.lt
     have x0 := Hsw.out.c 0 rfl
     have x1 := Hsw.out.c 1 rfl
     have x2 := Hsw.out.c 2 rfl
     have x3 := Hsw.out.c 3 rfl
     have x4 := Hsw.out.c 4 rfl
     have x5 := Hsw.out.c 5 rfl
     have x6 := Hsw.out.c 6 rfl
     have x7 := Hsw.out.c 7 rfl
     have x8 := Hsw.out.c 8 rfl
     have x9 := Hsw.out.c 9 rfl
     have x10 := Hsw.out.c 10 rfl
     have ltx := Hsw.out.lt
     obtain ⟨y0, y1⟩ := He.out.c2
     have lty := He.out.lt
     obtain ⟨q0, q1, q2, q3, q4, q5⟩ := Hf.out.c6
     have ltq := Hf.out.lt
     go_wp2_with fail
     refine (CR.out k _ hlt3 ((Hl.out.below HB2.out).more HB2.out.size) ((Hlr.out.below HB2.out).more HB2.out.size) ((Hlg.out.below HB2.out).more HB2.out.size) ((Hrs.out.below HB2.out).more HB2.out.size)).mono ?_
     rintro e w6 ⟨vR, rfl, ho, hb⟩
     obtain ⟨A6, c6, rfl⟩ := own_shape2 ho
     have HMN := hide (HM.out.add (t := .row w2.heap.size 24 2 (.slice A6 G c6) G (spanCells (RT k))) hb (own_mono ho HM.out.size) (fun q hq => (ho.lt q (optL_iff.1 hq)).1))
     clear HM ho hb Hm He Hf Hsw HB2 m0 m1 m2 m3 m4 m5 m6 m7 ltm x0 x1 x2 x3 x4 x5 x6 x7 x8 x9 x10 ltx y0 y1 lty q0 q1 q2 q3 q4 q5 ltq
     have hownM := Mem.row_ HMN.out 1 rfl
     have hbaseM : w2.heap.size ≤ w6.heap.size := HMN.out.size
     go_wp2_with (at_builtin; refine wpList_append_own_at _ rfl (.tmp 56) (.tmp 58) _ rfl w2.heap.size 34 i0 _ 1 24 Tryz.underlying79 Hi.out Hz0.out Hz1.out Hz2.out rfl (by decide) _ k xs rfl (hownM.alloc _) ⟨w6.heap.size, 0, none⟩ 1 1 [.slice A6 G c6] rfl rfl ?q1c1 (by intro u hu; simp only [List.mem_cons, List.not_mem_nil, or_false] at hu; rcases hu with rfl <;> rfl) ?q1c3 ?q1c4 ?q1c5 ?_)
     try case q1c1 => exact new_cellsQ w6 _ [.slice A6 G c6]
     case q1c3 => unfold maxLen; omega
     case q1c4 => omega
     case q1c5 => first | omega | (simp; omega)
     intro vA w9 hown2 hgr2 _ hat2
     have HMn := HMN.out.grow 1 rfl _ hgr2 hown2 hat2
     replace HMN := hide HMn
     clear HMn hown2 hgr2 hat2 hownM hbaseM
     obtain ⟨A9, c9, rfl⟩ := own_shape2 (Mem.row_ HMN.out 1 rfl)
     go_wp2_with fail
     go_roundw
     case rel => exact ⟨k + 1, A9, c9, xs ++ [.slice A6 G c6], .row w2.heap.size 24 2 (.slice A6 G c6) G (spanCells (RT k)) :: ents, by omega, by go_num, rfl, by simp [Hxs.out], by
      have := KnownL.snoc (A := A6) (c := c6) HK.out
      rw [Hxs.out] at this
      exact this, (show Mem w2 (_ :: _ :: ents) w9 from HMN.out).perm (List.Perm.swap _ _ _)⟩
     case measure => simp [intOf] <;> omega
    ·
     obtain rfl : k = R4 := by omega
     have hlt3 : ¬ ((k : Int) < 4 * r) := by omega
     have hq' := blk_belowN Hq.out hL Hq.out.lt
     have hu' := blk_belowN Hu.out hL Hu.out.lt
     clear Hsw Hm He Hf Hq Hu HB hm' he' hf' hL
     have HM := hide hM
     have Hsw := hide hx
     have Hq := hide hq'
     have Hu := hide hu'
     have HK := hide hK
     have Hxs := hide hxs
     clear hM hx hq' hu' hK hxs
     have x0 := Hsw.out.c 0 rfl
     have x1 := Hsw.out.c 1 rfl
     have x2 := Hsw.out.c 2 rfl
     have x3 := Hsw.out.c 3 rfl
     have x4 := Hsw.out.c 4 rfl
     have x5 := Hsw.out.c 5 rfl
     have x6 := Hsw.out.c 6 rfl
     have x7 := Hsw.out.c 7 rfl
     have x8 := Hsw.out.c 8 rfl
     have x9 := Hsw.out.c 9 rfl
     have x10 := Hsw.out.c 10 rfl
     have ltx := Hsw.out.lt
     obtain ⟨u0, u1, u2, u3, u4⟩ := Hu.out.c5
     have ltu := Hu.out.lt
     go_wp2_with fail
     refine (CV.out _).mono ?_
     rintro e w3 ⟨A1, c1', rfl, hb, hi1⟩
     replace HM := hide (HM.out.later hb)
     replace Hsw := hide (blk_later Hsw.out hb)
     replace Hq := hide (blk_later Hq.out hb)
     replace Hu := hide (blk_later Hu.out hb)
     replace HB2 := hide (onward HB2.out hb)
     clear hb x0 x1 x2 x3 x4 x5 x6 x7 x8 x9 x10 ltx u0 u1 u2 u3 u4 ltu
     have HV := hide (hi1 trivial)
     have hlw3 := Hq.out.lt
     have hsz3 : w2.heap.size ≤ w3.heap.size := HM.out.size
     clear hi1
     obtain ⟨bo, cur, rfl, -, hbo, -, -, hcur⟩ := row_blk (HM.out.row_ 0 rfl) (by omega)
     have HMo := HM
     have Hbo := hide hbo
     have Hcur := hide hcur
     clear hbo hcur
     clear HM Hi Hz0 Hz1 Hz2 i0
     obtain ⟨i0, hii, hz0, hz1, hz2⟩ := info_parts spanInfo
     have Hi := hide hii
     have Hz0 := hide hz0
     have Hz1 := hide hz1
     have Hz2 := hide hz2
     clear hii hz0 hz1 hz2
     obtain ⟨u0, u1, u2, u3, u4⟩ := Hu.out.c5
     have ltu := Hu.out.lt
     go_wp2_with fail
     refine code_world fun W3 hW => ?_
     have HM3 := hide ((((Mem.start w3).nilRow w3.heap.size 24 2).allocAt w3.heap.size rfl #[.int .i64 ux, .int .i64 uy, .int .i64 us, .int .i64 uw, .int .i64 uh, .slice none 0 0] 36).to hW)
     clear hW u0 u1 u2 u3 u4 ltu
     go_loopw [21] (fun i wr2 => ∃ (j : Nat) (Ap : Option Addr) (cp : Nat), j ≤ N ∧ i = .int .i64 j ∧ Mem w3 [.blk w3.heap.size 36 #[.int .i64 ux, .int .i64 uy, .int .i64 us, .int .i64 uw, .int .i64 uh, .slice Ap j cp], .row w3.heap.size 24 2 (.slice Ap j cp) j (spanCells (mapL RT G vw j))] wr2) (fun i _ => N - (intOf i).toNat)
     case atStart => exact ⟨0, none, 0, by omega, rfl, HM3.out⟩
     case round =>
      obtain ⟨j, Ap, cp, hj, rfl, hM⟩ := hrel
      have hL := hM.below
      have hx := blk_belowN Hsw.out hL Hsw.out.lt
      have HB3 := hide (HB2.out.trans (Below.mono hL HB2.out.size))
      clear HM3
      by_cases hlt : j < N
      ·
       have hltj : (j : Int) < N := by omega
       obtain ⟨bv, ov, rfl, hbv, hcv⟩ := HV.out (by have := Hvl.out; omega)
       have pv := hcv j (by have := Hvl.out; omega)
       have hsp := mapL_succ (RT := RT) (g := (G : Int)) (vw := vw) (k := j) (by have := Hvl.out; omega)
       obtain ⟨v, hv⟩ : ∃ v, vw.getD j 0 = v := ⟨_, rfl⟩
       have hgv := Hgv.out j hlt v hv
       rw [hv] at pv hsp
       have p := pv
       rw [← hL.cell hbv] at p
       have hsz2 : w3.heap.size < wr.heap.size := (Mem.blk_ hM 0 rfl).lt
       have hbv2 : bv < wr.heap.size := by omega
       clear hcv hv hL Hsw HB2 HB3 Hq Hu
       have HM := hide hM
       have Hsw := hide hx
       have Hsp := hide hsp
       have Pv := hide pv
       clear hM hx hsp pv
       by_cases h0 : 0 ≤ v
       ·
        obtain ⟨-, g3, g4, g5, g6⟩ : 0 ≤ v ∧ 0 ≤ v / G ∧ v / G < 4 * r ∧ 0 ≤ v % G ∧ v % G < G := by omega
        have hsp2 := Hsp.out
        rw [show valM RT G v = (RT (v / G).toNat).getD (v % G).toNat (0, 0) from if_pos h0] at hsp2
        have hq1 : v.tdiv G = v / G := Int.tdiv_eq_ediv_of_nonneg h0
        have hq2 : v.tmod G = v % G := Int.tmod_eq_emod_of_nonneg h0
        generalize v / G = R at *
        generalize v % G = q at *
        obtain ⟨R, rfl⟩ : ∃ q : Nat, R = q := ⟨R.toNat, by omega⟩
        obtain ⟨q, rfl⟩ : ∃ x : Nat, q = x := ⟨q.toNat, by omega⟩
        simp only [Int.toNat_natCast] at hsp2
        have hjl : q < (RT R).length := by rw [Hrtl.out]; omega
        obtain ⟨e1, e2, hee⟩ : ∃ e1 e2, (RT R).getD q (0, 0) = (e1, e2) := ⟨_, _, rfl⟩
        rw [hee] at hsp2
        simp only at hsp2
        have hG0 : ¬ (G : Int) = 0 := by omega
        obtain ⟨A6, c6, hx6, hmem⟩ := HK.out R (by have := Hxs.out; omega)
        have hrow := HMo.out.all _ (List.mem_cons_of_mem _ hmem)
        obtain ⟨b6, cur6, rfl, -⟩ := row_blk hrow (by omega)
        obtain ⟨b6', o6', hA6, hb6, hc6⟩ := (ints_spans hrow).pt (by rw [Hrtl.out]; omega)
        injection hA6 with hA6
        injection hA6 with hA6 hA7
        subst hA6 hA7
        have pc := hc6 q hjl
        have pr := (Hbo.out.cell R).trans (Hcur.out R _ hx6)
        rw [hee] at pc
        simp only [Nat.zero_add] at pc
        have hbol := Hbo.out.lt
        have hRk : (R : Int) < k := by omega
        clear Hsp hgv hrow hc6
        have Hsp := hide hsp2
        have Hee := hide hee
        have Pc := hide pc
        have Pr := hide pr
        clear hsp2 hee pc pr
        have x0 := Hsw.out.c 0 rfl
        have x1 := Hsw.out.c 1 rfl
        have x2 := Hsw.out.c 2 rfl
        have x3 := Hsw.out.c 3 rfl
        have x4 := Hsw.out.c 4 rfl
        have x5 := Hsw.out.c 5 rfl
        have x6 := Hsw.out.c 6 rfl
        have x7 := Hsw.out.c 7 rfl
        have x8 := Hsw.out.c 8 rfl
        have x9 := Hsw.out.c 9 rfl
        have x10 := Hsw.out.c 10 rfl
        have ltx := Hsw.out.lt
        go_upto_region 19 with fail
        refine code_world fun W4 hW => ?_
        have HMn := Mem.to (Mem.allocAt HM.out wr.heap.size rfl #[.int .i64 0, .int .i64 1000000] 24) hW
        have LW : Later wr W4 := by rw [hW]; exact ((Below.refl _ _).alloc (Nat.le_refl _) _)
        have szW : W4.heap.size = wr.heap.size + 1 := by rw [hW]; simp
        clear hW x0 x1 x2 x3 x4 x5 x6 x7 x8 x9 x10 ltx
        replace Hsw := hide (blk_later Hsw.out LW)
        replace HM := hide HMn
        clear HMn LW
        clear szW p
        have hL4 := HM.out.below
        have p := Pv.out
        have p0 := Pc.out.1
        have p1 := Pc.out.2
        have pq := Pr.out
        rw [← hL4.cell hbv] at p
        rw [← hL4.cell hb6] at p0 p1
        rw [← hL4.cell hbol] at pq
        have HVb := hide (Mem.blk_ HM.out 0 rfl)
        have hszW : wr.heap.size < W4.heap.size := HVb.out.lt
        clear hL4
        have x0 := Hsw.out.c 0 rfl
        have x1 := Hsw.out.c 1 rfl
        have x2 := Hsw.out.c 2 rfl
        have x3 := Hsw.out.c 3 rfl
        have x4 := Hsw.out.c 4 rfl
        have x5 := Hsw.out.c 5 rfl
        have x6 := Hsw.out.c 6 rfl
        have x7 := Hsw.out.c 7 rfl
        have x8 := Hsw.out.c 8 rfl
        have x9 := Hsw.out.c 9 rfl
        have x10 := Hsw.out.c 10 rfl
        have ltx := Hsw.out.lt
        apply wp_region_F (w0 := W4) [[], [], [], [1, 2], [1, 2, 3], [], [5], [5, 6], [1, 2, 3, 4, 5, 6, 7], [0, 1, 2, 3, 4, 5, 6, 7, 8], [0, 1, 2, 3, 4, 5, 6, 7, 8, 9], [], [], [11, 12], [11, 12, 13], [], [15], [15, 16], [11, 12, 13, 14, 15, 16, 17], [0, 1, 2, 3, 4, 5, 6, 7, 8, 9, 10, 11, 12, 13, 14, 15, 16, 17, 18], [0, 1, 2, 3, 4, 5, 6, 7, 8, 9, 10, 11, 12, 13, 14, 15, 16, 17, 18, 19], [0, 1, 2, 3, 4, 5, 6, 7, 8, 9, 10, 11, 12, 13, 14, 15, 16, 17, 18, 19, 20]] [true, true, true, true, true, true, true, true, true, true, true, true, true, true, true, true, true, true, true, true, true, false] [false, false, false, false, false, false, false, false, false, false, false, false, false, false, false, false, false, false, false, false, false, false] [⟨21, none, [], []⟩] [(21, wr.heap.size)] [21] (fun ixq y => match ixq with | 21 => undef | _ => undef) (fun ixq x F wq => match ixq with | 21 => F wr.heap.size ∧ Blk wq wr.heap.size 24 #[.int .i64 e1, .int .i64 e2] | _ => True) (fun a x => (a).put (none) (undef)) (by kernel_rfl) (by kernel_rfl) (by kernel_rfl) (fun _ => rfl) [] (by kernel_rfl) (fills_lt1 (by omega)) fills_ne1
        ·
         intro x D hD
         have hne := hD.some
         have k0 := liftS hD p (by exact early_all (by first | assumption | omega) (by rfl))
         have k1 := liftS hD x5 (by exact early_all (by first | assumption | omega) (by rfl))
         have k2 := liftS hD pq (by exact early_all (by first | assumption | omega) (by rfl))
         have k3 := liftS hD p0 (by exact early_all (by first | assumption | omega) (by rfl))
         have k4 := liftS hD p1 (by exact early_all (by first | assumption | omega) (by rfl))
         simp only [takeOps, Act.put, List.setIfInBounds_toArray, List.set_cons_succ, List.set_cons_zero]
         repeat (go_big_quiet_step (fail))
         exact wpQuiet_nil rfl
        · exact fun x D hD => wpQuiet_nil rfl
        · exact fun _ h => absurd h (by simp)
        ·
         refine ⟨?_, trivial⟩
         · exact obl_fill 24 24 22 103 wr.heap.size _ (fun x => #[.int .i64 e1, .int .i64 e2]) (by kernel_rfl) (fun _ => rfl) (fun _ => rfl) HVb.out eb_fill1 (by simp [wrF]) (fun _ => by kernel_rfl) (fun _ => rfl) (fun _ => by simp [Value.oneCell']) (fun _ => rfl) (fun _ _ _ _ h1 h2 => ⟨h1, h2⟩)
        ·
         refine ⟨?_, trivial⟩
         · exact owe_fill wr.heap.size 24 (fun x => #[.int .i64 e1, .int .i64 e2]) (fun _ _ _ => rfl) (fun _ _ _ => rfl)
        intro xx w5 F hK hlv1
        obtain ⟨fct21, -⟩ := hlv1
        replace fct21 : (F 21) wr.heap.size ∧ Blk w5 wr.heap.size 24 #[.int .i64 e1, .int .i64 e2] := fct21 rfl
        have HM8 := hide (HM.out.filled 0 rfl hK (by simp) fct21.2)
        clear HM HVb hK fct21 p p0 p1 pq hszW
        clear x0 x1 x2 x3 x4 x5 x6 x7 x8 x9 x10 ltx
        clear Hsw Pv
        have bo : Blk w5 w3.heap.size 36 #[.int .i64 ux, .int .i64 uy, .int .i64 us, .int .i64 uw, .int .i64 uh, .slice Ap j cp] := HM8.out.get 1 rfl
        have lto := bo.lt
        have o0 := bo.c 0 rfl
        have fo0 := bo.frozen 0
        have o1 := bo.c 1 rfl
        have fo1 := bo.frozen 1
        have o2 := bo.c 2 rfl
        have fo2 := bo.frozen 2
        have o3 := bo.c 3 rfl
        have fo3 := bo.frozen 3
        have o4 := bo.c 4 rfl
        have fo4 := bo.frozen 4
        have o5 := bo.c 5 rfl
        have fo5 := bo.frozen 5
        have bt : Blk w5 wr.heap.size 24 #[.int .i64 e1, .int .i64 e2] := HM8.out.get 0 rfl
        have ltt := bt.lt
        have t0 := bt.c 0 rfl
        have ft0 := bt.frozen 0
        have t1 := bt.c 1 rfl
        have ft1 := bt.frozen 1
        have hownM := Mem.row_ HM8.out 2 rfl
        have hbaseM : w3.heap.size ≤ w5.heap.size := HM8.out.size
        go_wp2_with (at_builtin; refine wpList_append_own_at _ rfl (.tmp 105) (.tmp 107) _ rfl w3.heap.size 24 i0 _ 2 16 Tryz.underlying34 Hi.out Hz0.out Hz1.out Hz2.out rfl (by decide) _ j (spanCells (mapL RT G vw j)) rfl (hownM.alloc _) ⟨w5.heap.size, 0, none⟩ 1 1 [.int .i64 e1, .int .i64 e2] rfl rfl ?q2c1 (by intro u hu; simp only [List.mem_cons, List.not_mem_nil, or_false] at hu; rcases hu with rfl | rfl <;> rfl) ?q2c3 ?q2c4 ?q2c5 ?_)
        try case q2c1 => exact new_cellsQ w5 _ [.int .i64 e1, .int .i64 e2]
        case q2c3 => unfold maxLen; omega
        case q2c4 => omega
        case q2c5 => first | omega | (simp; omega)
        intro vA w9 hown2 hgr2 _ hat2
        have HMn := HM8.out.grow 2 rfl _ hgr2 hown2 hat2
        replace HM8 := hide HMn
        clear HMn hown2 hgr2 hat2 hownM hbaseM
        clear bo lto o0 fo0 o1 fo1 o2 fo2 o3 fo3 o4 fo4 o5 fo5 bt ltt t0 ft0 t1 ft1
        obtain ⟨A9, c9, rfl⟩ := own_shape2 (Mem.row_ HM8.out 2 rfl)
        have bo : Blk w9 w3.heap.size 36 #[.int .i64 ux, .int .i64 uy, .int .i64 us, .int .i64 uw, .int .i64 uh, .slice Ap j cp] := HM8.out.get 1 rfl
        have lto := bo.lt
        have o0 := bo.c 0 rfl
        have fo0 := bo.frozen 0
        have o1 := bo.c 1 rfl
        have fo1 := bo.frozen 1
        have o2 := bo.c 2 rfl
        have fo2 := bo.frozen 2
        have o3 := bo.c 3 rfl
        have fo3 := bo.frozen 3
        have o4 := bo.c 4 rfl
        have fo4 := bo.frozen 4
        have o5 := bo.c 5 rfl
        have fo5 := bo.frozen 5
        go_wp2_with fail
        go_roundw
        case rel => exact ⟨j + 1, A9, c9, by omega, by go_num, by
         rw [Hsp.out]
         exact (HM8.out.set_ 1 rfl 5 (.slice A9 (j + 1) c9) rfl).drop 0 rfl⟩
        case measure => simp [intOf] <;> omega
       ·
        have hsp2 := Hsp.out
        rw [show valM RT G v = (0, 1000000) from if_neg h0] at hsp2
        simp only at hsp2
        clear Hsp hgv Pv
        have Hsp := hide hsp2
        clear hsp2
        go_upto_region 20 with fail
        refine code_world fun W8 hW => ?_
        have HMn := Mem.to (Mem.allocAt HM.out wr.heap.size rfl #[.int .i64 0, .int .i64 1000000] 24) hW
        have LW : Later wr W8 := by rw [hW]; exact ((Below.refl _ _).alloc (Nat.le_refl _) _)
        have szW : W8.heap.size = wr.heap.size + 1 := by rw [hW]; simp
        clear hW
        replace Hsw := hide (blk_later Hsw.out LW)
        replace HM := hide HMn
        clear HMn LW
        have HM8 := HM
        clear szW HM p Hsw
        have bo : Blk W8 w3.heap.size 36 #[.int .i64 ux, .int .i64 uy, .int .i64 us, .int .i64 uw, .int .i64 uh, .slice Ap j cp] := HM8.out.get 1 rfl
        have lto := bo.lt
        have o0 := bo.c 0 rfl
        have fo0 := bo.frozen 0
        have o1 := bo.c 1 rfl
        have fo1 := bo.frozen 1
        have o2 := bo.c 2 rfl
        have fo2 := bo.frozen 2
        have o3 := bo.c 3 rfl
        have fo3 := bo.frozen 3
        have o4 := bo.c 4 rfl
        have fo4 := bo.frozen 4
        have o5 := bo.c 5 rfl
        have fo5 := bo.frozen 5
        have bt : Blk W8 wr.heap.size 24 #[.int .i64 0, .int .i64 1000000] := HM8.out.get 0 rfl
        have ltt := bt.lt
        have t0 := bt.c 0 rfl
        have ft0 := bt.frozen 0
        have t1 := bt.c 1 rfl
        have ft1 := bt.frozen 1
        have hownM := Mem.row_ HM8.out 2 rfl
        have hbaseM : w3.heap.size ≤ W8.heap.size := HM8.out.size
        go_wp2_with (at_builtin; refine wpList_append_own_at _ rfl (.tmp 105) (.tmp 107) _ rfl w3.heap.size 24 i0 _ 2 16 Tryz.underlying34 Hi.out Hz0.out Hz1.out Hz2.out rfl (by decide) _ j (spanCells (mapL RT G vw j)) rfl (hownM.alloc _) ⟨W8.heap.size, 0, none⟩ 1 1 [.int .i64 0, .int .i64 1000000] rfl rfl ?q3c1 (by intro u hu; simp only [List.mem_cons, List.not_mem_nil, or_false] at hu; rcases hu with rfl | rfl <;> rfl) ?q3c3 ?q3c4 ?q3c5 ?_)
        try case q3c1 => exact new_cellsQ W8 _ [.int .i64 0, .int .i64 1000000]
        case q3c3 => unfold maxLen; omega
        case q3c4 => omega
        case q3c5 => first | omega | (simp; omega)
        intro vA w9 hown2 hgr2 _ hat2
        have HMn := HM8.out.grow 2 rfl _ hgr2 hown2 hat2
        replace HM8 := hide HMn
        clear HMn hown2 hgr2 hat2 hownM hbaseM
        clear bo lto o0 fo0 o1 fo1 o2 fo2 o3 fo3 o4 fo4 o5 fo5 bt ltt t0 ft0 t1 ft1
        obtain ⟨A9, c9, rfl⟩ := own_shape2 (Mem.row_ HM8.out 2 rfl)
        have bo : Blk w9 w3.heap.size 36 #[.int .i64 ux, .int .i64 uy, .int .i64 us, .int .i64 uw, .int .i64 uh, .slice Ap j cp] := HM8.out.get 1 rfl
        have lto := bo.lt
        have o0 := bo.c 0 rfl
        have fo0 := bo.frozen 0
        have o1 := bo.c 1 rfl
        have fo1 := bo.frozen 1
        have o2 := bo.c 2 rfl
        have fo2 := bo.frozen 2
        have o3 := bo.c 3 rfl
        have fo3 := bo.frozen 3
        have o4 := bo.c 4 rfl
        have fo4 := bo.frozen 4
        have o5 := bo.c 5 rfl
        have fo5 := bo.frozen 5
        go_wp2_with fail
        go_roundw
        case rel => exact ⟨j + 1, A9, c9, by omega, by go_num, by
         rw [Hsp.out]
         exact (HM8.out.set_ 1 rfl 5 (.slice A9 (j + 1) c9) rfl).drop 0 rfl⟩
        case measure => simp [intOf] <;> omega
      ·
       obtain rfl : j = N := by omega
       have hltj : ¬ ((j : Int) < j) := by omega
       have hq' := blk_belowN Hq.out hL Hq.out.lt
       have hLn : (mapL RT G vw j).length = j := mapL_length (by have := Hvl.out; omega)
       have hown : World.ownsRow wr w3.heap.size 24 2 (.slice Ap j cp) j (spanCells (mapL RT G vw j)) := hM.row_ 1 rfl
       have hszq : w.heap.size ≤ w3.heap.size := by omega
       clear Hsw HB2 hx Hq Hu
       have HM := hide hM
       have Hq := hide hq'
       have Hln := hide hLn
       have Hown := hide hown
       clear hM hq' hLn hown
       have bo : Blk wr w3.heap.size 36 #[.int .i64 ux, .int .i64 uy, .int .i64 us, .int .i64 uw, .int .i64 uh, .slice Ap j cp] := HM.out.get 0 rfl
       have lto := bo.lt
       have o0 := bo.c 0 rfl
       have o1 := bo.c 1 rfl
       have o2 := bo.c 2 rfl
       have o3 := bo.c 3 rfl
       have o4 := bo.c 4 rfl
       have o5 := bo.c 5 rfl
       obtain ⟨q0, q1, q2, q3, q4, q5⟩ := Hq.out.c6
       have ltq := Hq.out.lt
       have fq0 := Hq.out.frozen 0
       have fq1 := Hq.out.frozen 1
       have fq2 := Hq.out.frozen 2
       have fq3 := Hq.out.frozen 3
       have fq4 := Hq.out.frozen 4
       have fq5 := Hq.out.frozen 5
       go_wp2
       refine ret_world fun W5 hW => ?_
       have hq5 : Blk W5 (w.heap.size + 1 + 1 + 1 + 1 + 1) 36 #[.int .i64 ux, .int .i64 uy, .int .i64 us, .int .i64 uw, .int .i64 uh, .slice Ap j cp] := by
        rw [hW]
        exact blk_of ((((((Hq.out.set_ 0 _).set_ 1 _).set_ 2 _).set_ 3 _).set_ 4 _).set_ 5 _) rfl
       have hB5 : Below w.heap.size w W5 := by
        have hge : w.heap.size ≤ w.heap.size + 1 + 1 + 1 + 1 + 1 := by omega
        rw [hW]
        exact (((((HB3.out.setCell hge _).setCell hge _).setCell hge _).setCell hge _).setCell hge _).setCell hge _
       have ho5 := own_stabT (w' := W5) Hown.out fun q hq => by
        have hne : q ≠ w.heap.size + 1 + 1 + 1 + 1 + 1 := by have := (Hown.out.lt q hq).1; omega
        rw [hW]
        exact (Below.heap_setCell _ _ _ q hne).trans ((Below.heap_setCell _ _ _ q hne).trans ((Below.heap_setCell _ _ _ q hne).trans ((Below.heap_setCell _ _ _ q hne).trans ((Below.heap_setCell _ _ _ q hne).trans (Below.heap_setCell _ _ _ q hne)))))
       obtain ⟨e0, e1, e2, e3, e4, e5⟩ := hq5.c6
       exact bodyPost_ret (v := .tuple #[.agg #[.int .i64 ux, .int .i64 uy, .int .i64 us, .int .i64 uw, .int .i64 uh, .slice Ap j cp], .int .i64 0]) (by simp [results, Tryz.results12, go_sem, e0, e1, e2, e3, e4, e5]) rfl (mapPost_yes Hln.out rfl (own_mono ho5 hszq) hB5)
  ·
   have hd : (gridE ux uy us uw uh != 0) = true := by simp [hg]
   have hmq := fun w' e => mapPost_no (ux := ux) (uy := uy) (us := us) (uw := uw) (uh := uh) (L := mapL RT G (viewL r st tilt G sx sy ux uy us uw (uw * uh).toNat) (uw * uh).toNat) (w := w) (w' := w') (e := e) hg
   generalize mapPost (gridE ux uy us uw uh) ux uy us uw uh (mapL RT G (viewL r st tilt G sx sy ux uy us uw (uw * uh).toNat) (uw * uh).toNat) = PQ at *
   generalize gridE ux uy us uw uh = gE at *
   have CY := hide cY
   have CG := hide cG
   have Hl := hide hl
   have Hlr := hide hlr
   have Hlg := hide hlg
   have Hrs := hide hrs
   have Hmq := hide hmq
   clear cY cG hl hlr hlg hrs hmq
   clear cR2 cV hs hn hmax hnr hmaxr hng hmaxg hns h0
   go_enter Tryz.func12, Tryz.ntmps12
   have HB := hide (Below.refl w.heap.size w)
   go_wp2_with fail
   refine at_world fun W hW => ?_
   have bq0 : Blk W w.heap.size 45 #[.slice A nl cl, .slice Ar nr cr, .int .i64 a0, .int .i64 a1, .int .i64 b0, .int .i64 b1, .int .i64 c0, .int .i64 c1] := by rw [hW]; exact (((((Blk.new _ _ _).alloc _).alloc _).alloc _).alloc _).alloc _
   have bq1 : Blk W (w.heap.size + 1) 31 #[.string s, .int .i64 sx, .int .i64 sy, .int .i64 z, .int .i64 r, .int .i64 (G : Int), .int .i64 st, .int .i64 wd, .int .i64 tilt, .int .i64 time, .slice As n cs] := by rw [hW]; exact ((((blk_new_at (by simp)).alloc _).alloc _).alloc _).alloc _
   have bq2 : Blk W (w.heap.size + 2) 24 #[.int .i64 elo, .int .i64 ehi] := by rw [hW]; exact (((blk_new_at (by simp)).alloc _).alloc _).alloc _
   have bq3 : Blk W (w.heap.size + 3) 36 #[.int .i64 gx, .int .i64 gy, .int .i64 gs, .int .i64 wi, .int .i64 hi, .slice Ag ng cg] := by rw [hW]; exact ((blk_new_at (by simp)).alloc _).alloc _
   have bq4 : Blk W (w.heap.size + 4) 33 #[.int .i64 ux, .int .i64 uy, .int .i64 us, .int .i64 uw, .int .i64 uh] := by rw [hW]; exact (blk_new_at (by simp)).alloc _
   have bq5 : Blk W (w.heap.size + 5) 36 #[.int .i64 0, .int .i64 0, .int .i64 0, .int .i64 0, .int .i64 0, .slice none 0 0] := by rw [hW]; exact blk_new_at (by simp)
   have LW : Later w W := by rw [hW]; exact (((((((Below.refl _ _).alloc (Nat.le_refl _) _).alloc (by simp; try omega) _).alloc (by simp; try omega) _).alloc (by simp; try omega) _).alloc (by simp; try omega) _).alloc (by simp; try omega) _)
   have szW : W.heap.size = w.heap.size + 6 := by rw [hW]; simp
   clear hW
   replace HB := hide (onward HB.out LW)
   have Hm := hide bq0
   have Hsw := hide bq1
   have He := hide bq2
   have Hf := hide bq3
   have Hu := hide bq4
   have Hq := hide bq5
   clear bq0 bq1 bq2 bq3 bq4 bq5 LW szW
   refine (CY.out _ ((Hl.out.below HB.out).more HB.out.size) ((Hlr.out.below HB.out).more HB.out.size) ((Hlg.out.below HB.out).more HB.out.size) ((Hrs.out.below HB.out).more HB.out.size)).mono ?_
   rintro e w1 ⟨A1, c1', rfl, hb, hi1⟩
   replace HB := hide (onward HB.out hb)
   replace Hm := hide (blk_later Hm.out hb)
   replace Hsw := hide (blk_later Hsw.out hb)
   replace He := hide (blk_later He.out hb)
   replace Hf := hide (blk_later Hf.out hb)
   replace Hu := hide (blk_later Hu.out hb)
   replace Hq := hide (blk_later Hq.out hb)
   clear hb
   clear hi1
   obtain ⟨u0, u1, u2, u3, u4⟩ := Hu.out.c5
   have ltu := Hu.out.lt
   go_wp2_with fail
   refine (CG.out _).mono ?_
   rintro e w2 ⟨rfl, hb⟩
   replace HB := hide (onward HB.out hb)
   replace Hm := hide (blk_later Hm.out hb)
   replace Hsw := hide (blk_later Hsw.out hb)
   replace He := hide (blk_later He.out hb)
   replace Hf := hide (blk_later Hf.out hb)
   replace Hu := hide (blk_later Hu.out hb)
   replace Hq := hide (blk_later Hq.out hb)
   clear hb u0 u1 u2 u3 u4 ltu
   obtain ⟨q0, q1, q2, q3, q4, q5⟩ := Hq.out.c6
   have ltq := Hq.out.lt
   have fq0 := Hq.out.frozen 0
   have fq1 := Hq.out.frozen 1
   have fq2 := Hq.out.frozen 2
   have fq3 := Hq.out.frozen 3
   have fq4 := Hq.out.frozen 4
   have fq5 := Hq.out.frozen 5
   go_wp2
   refine ret_world fun W5 hW => ?_
   have hq5 : Blk W5 (w.heap.size + 1 + 1 + 1 + 1 + 1) 36 #[.int .i64 0, .int .i64 0, .int .i64 0, .int .i64 0, .int .i64 0, .slice none 0 0] := by
    rw [hW]
    exact blk_of ((((((Hq.out.set_ 0 _).set_ 1 _).set_ 2 _).set_ 3 _).set_ 4 _).set_ 5 _) rfl
   have hB5 : Below w.heap.size w W5 := by
    have hge : w.heap.size ≤ w.heap.size + 1 + 1 + 1 + 1 + 1 := by omega
    rw [hW]
    exact (((((HB.out.setCell hge _).setCell hge _).setCell hge _).setCell hge _).setCell hge _).setCell hge _
   obtain ⟨e0, e1, e2, e3, e4, e5⟩ := hq5.c6
   exact bodyPost_ret (v := .tuple #[.agg #[.int .i64 0, .int .i64 0, .int .i64 0, .int .i64 0, .int .i64 0, .slice none 0 0], .int .i64 gE]) (by simp [results, Tryz.results12, go_sem, e0, e1, e2, e3, e4, e5]) rfl (Hmq.out _ _ rfl hB5)
 ·
  have hd : (allE s sx sy z r g st wd tilt time elo ehi gx gy gs wi hi 0 l rt gl a0 a1 b0 b1 c0 c1 n ng rr != 0) = true := by simp [h0]
  have hd2 : (allE s sx sy z r g st wd tilt time elo ehi gx gy gs wi hi 0 l rt gl a0 a1 b0 b1 c0 c1 n ng rr == 0) = false := by simp [h0]
  have hmq := fun w' e => mapPost_no (ux := ux) (uy := uy) (us := us) (uw := uw) (uh := uh) (L := mapL (fun R => rateL z r g st wd tilt elo ehi gx gy gs wi hi sx sy R l rt gl a0 a1 b0 b1 c0 c1 rr) g (viewL r st tilt g sx sy ux uy us uw (uw * uh).toNat) (uw * uh).toNat) (w := w) (w' := w') (e := e) h0
  rw [show mapE (allE s sx sy z r g st wd tilt time elo ehi gx gy gs wi hi 0 l rt gl a0 a1 b0 b1 c0 c1 n ng rr) (gridE ux uy us uw uh) = allE s sx sy z r g st wd tilt time elo ehi gx gy gs wi hi 0 l rt gl a0 a1 b0 b1 c0 c1 n ng rr from if_pos h0]
  generalize mapL (fun R => rateL z r g st wd tilt elo ehi gx gy gs wi hi sx sy R l rt gl a0 a1 b0 b1 c0 c1 rr) g (viewL r st tilt g sx sy ux uy us uw (uw * uh).toNat) (uw * uh).toNat = PL at *
  simp only [if_neg h0] at cY
  generalize allE s sx sy z r g st wd tilt time elo ehi gx gy gs wi hi 0 l rt gl a0 a1 b0 b1 c0 c1 n ng rr = gE at *
  generalize mapPost gE ux uy us uw uh PL = PQ at *
  unfold mdlC sweepC fldC at *
  have CY := hide cY
  have Hl := hide hl
  have Hlr := hide hlr
  have Hlg := hide hlg
  have Hrs := hide hrs
  have Hmq := hide hmq
  clear cY hl hlr hlg hrs hmq
  clear cG hs hn hmax hnr hmaxr hng hmaxg hns
  go_enter Tryz.func12, Tryz.ntmps12
  have HB := hide (Below.refl w.heap.size w)
  go_wp2_with fail
  refine at_world fun W hW => ?_
  have bq0 : Blk W w.heap.size 45 #[.slice A nl cl, .slice Ar nr cr, .int .i64 a0, .int .i64 a1, .int .i64 b0, .int .i64 b1, .int .i64 c0, .int .i64 c1] := by rw [hW]; exact (((((Blk.new _ _ _).alloc _).alloc _).alloc _).alloc _).alloc _
  have bq1 : Blk W (w.heap.size + 1) 31 #[.string s, .int .i64 sx, .int .i64 sy, .int .i64 z, .int .i64 r, .int .i64 g, .int .i64 st, .int .i64 wd, .int .i64 tilt, .int .i64 time, .slice As n cs] := by rw [hW]; exact ((((blk_new_at (by simp)).alloc _).alloc _).alloc _).alloc _
  have bq2 : Blk W (w.heap.size + 2) 24 #[.int .i64 elo, .int .i64 ehi] := by rw [hW]; exact (((blk_new_at (by simp)).alloc _).alloc _).alloc _
  have bq3 : Blk W (w.heap.size + 3) 36 #[.int .i64 gx, .int .i64 gy, .int .i64 gs, .int .i64 wi, .int .i64 hi, .slice Ag ng cg] := by rw [hW]; exact ((blk_new_at (by simp)).alloc _).alloc _
  have bq4 : Blk W (w.heap.size + 4) 33 #[.int .i64 ux, .int .i64 uy, .int .i64 us, .int .i64 uw, .int .i64 uh] := by rw [hW]; exact (blk_new_at (by simp)).alloc _
  have bq5 : Blk W (w.heap.size + 5) 36 #[.int .i64 0, .int .i64 0, .int .i64 0, .int .i64 0, .int .i64 0, .slice none 0 0] := by rw [hW]; exact blk_new_at (by simp)
  have LW : Later w W := by rw [hW]; exact (((((((Below.refl _ _).alloc (Nat.le_refl _) _).alloc (by simp; try omega) _).alloc (by simp; try omega) _).alloc (by simp; try omega) _).alloc (by simp; try omega) _).alloc (by simp; try omega) _)
  have szW : W.heap.size = w.heap.size + 6 := by rw [hW]; simp
  clear hW
  replace HB := hide (onward HB.out LW)
  have Hm := hide bq0
  have Hsw := hide bq1
  have He := hide bq2
  have Hf := hide bq3
  have Hu := hide bq4
  have Hq := hide bq5
  clear bq0 bq1 bq2 bq3 bq4 bq5 LW szW
  refine (CY.out _ ((Hl.out.below HB.out).more HB.out.size) ((Hlr.out.below HB.out).more HB.out.size) ((Hlg.out.below HB.out).more HB.out.size) ((Hrs.out.below HB.out).more HB.out.size)).mono ?_
  rintro e w1 ⟨A1, c1', rfl, hb, hi1⟩
  replace HB := hide (onward HB.out hb)
  replace Hm := hide (blk_later Hm.out hb)
  replace Hsw := hide (blk_later Hsw.out hb)
  replace He := hide (blk_later He.out hb)
  replace Hf := hide (blk_later Hf.out hb)
  replace Hu := hide (blk_later Hu.out hb)
  replace Hq := hide (blk_later Hq.out hb)
  clear hb
  clear hi1
  obtain ⟨q0, q1, q2, q3, q4, q5⟩ := Hq.out.c6
  have ltq := Hq.out.lt
  have fq0 := Hq.out.frozen 0
  have fq1 := Hq.out.frozen 1
  have fq2 := Hq.out.frozen 2
  have fq3 := Hq.out.frozen 3
  have fq4 := Hq.out.frozen 4
  have fq5 := Hq.out.frozen 5
  go_wp2
  refine ret_world fun W5 hW => ?_
  have hq5 : Blk W5 (w.heap.size + 1 + 1 + 1 + 1 + 1) 36 #[.int .i64 0, .int .i64 0, .int .i64 0, .int .i64 0, .int .i64 0, .slice none 0 0] := by
   rw [hW]
   exact blk_of ((((((Hq.out.set_ 0 _).set_ 1 _).set_ 2 _).set_ 3 _).set_ 4 _).set_ 5 _) rfl
  have hB5 : Below w.heap.size w W5 := by
   have hge : w.heap.size ≤ w.heap.size + 1 + 1 + 1 + 1 + 1 := by omega
   rw [hW]
   exact (((((HB.out.setCell hge _).setCell hge _).setCell hge _).setCell hge _).setCell hge _).setCell hge _
  obtain ⟨e0, e1, e2, e3, e4, e5⟩ := hq5.c6
  exact bodyPost_ret (v := .tuple #[.agg #[.int .i64 0, .int .i64 0, .int .i64 0, .int .i64 0, .int .i64 0, .slice none 0 0], .int .i64 gE]) (by simp [results, Tryz.results12, go_sem, e0, e1, e2, e3, e4, e5]) rfl (Hmq.out _ _ rfl hB5)
end Go.Proofs.YtepgpihobmjbdaaGreat
end
