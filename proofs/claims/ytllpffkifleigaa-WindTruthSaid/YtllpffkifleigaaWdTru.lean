/-
  WindReached: the ends of bounds are reached, and nothing is beyond.
  The law's functions: agrees, inside, wider, mixed, left.
  The law's functions: mixed, left.
  Parts of slices of sights.
  WindFewer: fewer winds, other orders, turned directions.
  WindTruth: what is possible.
  WindTruth: the speed in truth along a ray (the closure).
  WindTruth: the walk.
-/
import Derived.Test.YtllpffkifleigaaWdTruQ
import Derived.Test.YtllpffkifleigaaFewMath
import Derived.Test.YtllpffkifleigaaWdWithout
import Derived.Test.YtllpffkifleigaaWdAgree
import Derived.Test.YtllpffkifleigaaRegG
set_option linter.unusedSimpArgs false
set_option linter.unusedVariables false
section
namespace Go.Proofs.Ytllpffkifleigaa
open Go Go.RowKit

theorem EyesAt.below {w w' : World} {A : Option Addr} {E : List EyeN} (h : EyesAt w w.heap.size A E) (hb : Below w.heap.size w w') : EyesAt w' w'.heap.size A E := fun hn => by
  obtain ⟨b, off, e, hl, hc⟩ := h hn
  refine ⟨b, off, e, Nat.lt_of_lt_of_le hl hb.size, fun i hi => ?_⟩
  obtain ⟨c1, c2, c3, c4⟩ := hc i hi
  exact ⟨(hb.cell hl).trans c1, (hb.cell hl).trans c2, (hb.cell hl).trans c3, (hb.cell hl).trans c4⟩
/-- What Bounds and Along answer of sights that agree. -/
theorem bnds_ok {l : List Sgt} (h : bndsE l = 0) (f : List Pt → Int) : bndB l f = f (cs0 l) := by unfold bndB; rw [if_pos h]
theorem rch_ok {l : List Sgt} (hf : Feas l 0) {x y len : Int} (hl : 0 < len) (hx : -len ≤ x ∧ x ≤ len) (hy : -len ≤ y ∧ y ≤ len) : Rch l x y len (loL x y len 240000 (cs0 l)) (hiL x y len 240000 (cs0 l)) := rch_of hf hl hx hy
theorem along_ok {l : List Sgt} (h : bndsE l = 0) {x y len : Int} (hd : DirOk ⟨x, y, len⟩) : alongE l x y len = 0 ∧ alongL l x y len = loL x y len 240000 (cs0 l) ∧ alongH l x y len = hiL x y len 240000 (cs0 l) := by
  obtain ⟨h1, h2⟩ := bndsE_iff.1 h
  have e : alongE l x y len = 0 := by
    unfold alongE
    rw [if_neg (by rw [listE_ok.2 h1]; simp), if_pos (dirB_iff.2 ⟨hd.l1, hd.l2, hd.x1, hd.x2, hd.y1, hd.y2, hd.sq⟩), if_pos (agrB_iff.2 h2)]
  exact ⟨e, by unfold alongL; rw [if_pos e], by unfold alongH; rw [if_pos e]⟩
theorem near_bnds {l : List Sgt} (hn : ∀ s ∈ l, Near s) (hlen : l.length ≤ 360) : bndsE l = 0 ↔ Feas l 0 := ⟨fun h => (bndsE_iff.1 h).2, fun h => bndsE_iff.2 ⟨⟨hlen, fun s hs => (hn s hs).ok⟩, h⟩⟩
theorem dir_10 : DirOk ⟨1, 0, 1⟩ := ⟨by decide, by decide, by decide, by decide, by decide, by decide, by decide⟩
theorem dir_01 : DirOk ⟨0, 1, 1⟩ := ⟨by decide, by decide, by decide, by decide, by decide, by decide, by decide⟩
set_option maxHeartbeats 1000000 in
set_option maxRecDepth 100000 in
theorem WindReached_any (A : Option Addr) (n c : Nat) (E : List EyeN) (u v ro di : Int) (w : World) (hn : E.length = n) (hmax : n ≤ maxLen) (he : ∀ e ∈ E, EyeOk e) (hA : EyesAt w w.heap.size A E) (hu : -32768 ≤ u ∧ u ≤ 32767) (hv : -32768 ≤ v ∧ v ≤ 32767) (hr : 0 ≤ ro ∧ ro ≤ 255) (hd : 0 ≤ di ∧ di ≤ 255) :
    Calls Try.prog 6 #[.slice A n c, .int .i16 u, .int .i16 v, .int .u8 ro, .int .u8 di] w fun e w' => e = .returned (.bool true) ∧ Below w.heap.size w w' := by
  obtain ⟨u1, u2⟩ := hu
  obtain ⟨v1, v2⟩ := hv
  obtain ⟨r1, r2⟩ := hr
  obtain ⟨d1, d2⟩ := hd
  by_cases h10 : 10 < n
  · have hM := fun W => eyes_many A n c u v W h10
    have HE := hide hM
    clear hM
    clear hA he hn
    go_enter Try.func6, Try.ntmps6
    have HM := hide (Mem.start w)
    go_wp2_with fail
    refine (HE.out _).mono ?_
    rintro e w1 ⟨rfl, hb⟩
    replace HM := hide (HM.out.later hb)
    clear hb
    go_wp2_with fail
    refine (works_any _).mono ?_
    rintro e w2 ⟨rfl, hb⟩
    replace HM := hide (HM.out.later hb)
    clear hb
    go_wp2
    exact bodyPost_ret (v := .bool true) (by simp [results, Try.results6, go_sem]) rfl ⟨rfl, HM.out.below⟩
  · have hM := eyes_any A E c u v w (by omega) hA he ⟨u1, u2⟩ ⟨v1, v2⟩
    have hnr := eyes_near (u := u) (v := v) he ⟨u1, u2⟩ ⟨v1, v2⟩
    have hfe := eyes_feas (u := u) (v := v) he ⟨u1, u2⟩ ⟨v1, v2⟩
    have hll : (E.map (eyeT u v)).length = n := by rw [List.length_map, hn]
    obtain ⟨L, hL⟩ : ∃ L, E.map (eyeT u v) = L := ⟨_, rfl⟩
    rw [hL] at hM hnr hfe hll
    have hok : ∀ s ∈ L, SgtOk s := fun s hs => (hnr s hs).ok
    have hbe := (near_bnds hnr (by omega)).2 hfe
    have dk := dirE_ok r1 d1
    have hD := fun W => Direction_any (roseE ro) (di % (4 * roseE ro)) W
    obtain ⟨k1, k2⟩ := rose_bd r1
    obtain ⟨k3, k4⟩ := rosed_bd r1 d1
    have hdr : dirR (roseE ro) (di % (4 * roseE ro)) = (dirE ro di, 0) := by
      unfold dirR
      rw [if_pos]
      · rfl
      unfold okD
      rw [Bool.and_eq_true]
      exact ⟨winB_iff.2 ⟨by omega, by omega⟩, winB_iff.2 ⟨by omega, by omega⟩⟩
    rw [hdr] at hD
    unfold vecE at hD
    have t1 : ro.tmod 20 = ro % 20 := Int.tmod_eq_emod_of_nonneg r1
    have t2 : ∀ b, di.tmod b = di % b := fun b => Int.tmod_eq_emod_of_nonneg d1
    have hro : roseE ro = 1 + ro % 20 := rfl
    generalize dirE ro di = dv at *
    obtain ⟨dx, dy, dl⟩ := dv
    obtain ⟨a1, a2, a3⟩ := along_ok hbe dk
    obtain ⟨e1, e2, e3, e4, e5, e6, e7⟩ := dk
    simp only at *
    have dk : DirOk ⟨dx, dy, dl⟩ := ⟨e1, e2, e3, e4, e5, e6, e7⟩
    have hB := fun (A' : Option Addr) (c' : Nat) (W : World) (hs : SgtsH W A' L) => Bounds_any A' L c' W (by omega) hs (allI_of_ok hok)
    have hG := fun (A' : Option Addr) (c' : Nat) (W : World) (hs : SgtsH W A' L) => Along_any A' L c' dx dy dl W (by omega) hs (allI_of_ok hok) (by unfold I64; omega) (by unfold I64; omega)
    rw [hbe] at hB
    rw [a1, a2, a3] at hG
    simp only [bnds_ok hbe] at hB
    have R1 := rch_ok hfe (x := 1) (y := 0) (len := 1) (by omega) (by omega) (by omega)
    have R2 := rch_ok hfe (x := 0) (y := 1) (len := 1) (by omega) (by omega) (by omega)
    have R3 := rch_ok hfe (x := dx) (y := dy) (len := dl) (by omega) ⟨e3, e4⟩ ⟨e5, e6⟩
    generalize loL 1 0 1 240000 (cs0 L) = p1 at *
    generalize hiL 1 0 1 240000 (cs0 L) = p2 at *
    generalize loL 0 1 1 240000 (cs0 L) = p3 at *
    generalize hiL 0 1 1 240000 (cs0 L) = p4 at *
    generalize loL dx dy dl 240000 (cs0 L) = p5 at *
    generalize hiL dx dy dl 240000 (cs0 L) = p6 at *
    have g1 := fun (A' : Option Addr) (c' : Nat) (W : World) (hs : SlS W A' c' L) => ends_any A' n c' L 1 0 1 p1 p2 W hll (by omega) hs hok R1 dir_10
    have g2 := fun (A' : Option Addr) (c' : Nat) (W : World) (hs : SlS W A' c' L) => ends_any A' n c' L 0 1 1 p3 p4 W hll (by omega) hs hok R2 dir_01
    have g3 := fun (A' : Option Addr) (c' : Nat) (W : World) (hs : SlS W A' c' L) => ends_any A' n c' L dx dy dl p5 p6 W hll (by omega) hs hok R3 dk
    obtain ⟨rr, hrr⟩ : ∃ r, roseE ro = r := ⟨_, rfl⟩
    rw [hrr] at hD k1 k2 k3 k4 hro
    obtain ⟨rq, hrq⟩ : ∃ r, ro % 20 = r := ⟨_, rfl⟩
    rw [hrq] at t1 hro
    subst hro
    have t5 := t2 (4 * (1 + rq))
    obtain ⟨dq, hdq⟩ : ∃ r, di % (4 * (1 + rq)) = r := ⟨_, rfl⟩
    rw [hdq] at t5 hD k3 k4
    have hlz := hll
    unfold EyesPost at hM
    rw [hn] at hM
    rw [hll] at hM hB hG
    have HE := hide hM
    have HD := hide hD
    have HB0 := hide hB
    have HG := hide hG
    have G1 := hide g1
    have G2 := hide g2
    have G3 := hide g3
    have HLZ := hide hlz
    clear hM hD hB hG g1 g2 g3 hlz
    clear hA he hn hL hok hnr hfe hbe R1 R2 R3 dk t2 a1 a2 a3 e7 hll hdr
    go_enter Try.func6, Try.ntmps6
    have HM := hide (Mem.start w)
    go_wp2_with fail
    refine (HE.out).mono ?_
    rintro e w1 ⟨A1, c1, rfl, hb, ho⟩
    replace HM := hide (HM.out.later hb)
    clear hb
    have HS := hide (SlS.of_own HLZ.out ho)
    clear ho
    go_wp2_with fail
    refine (HB0.out _ _ _ HS.out.sgts).mono ?_
    rintro e w2 ⟨rfl, hb⟩
    replace HM := hide (HM.out.later hb)
    replace HS := hide (HS.out.later hb)
    clear hb
    go_upto_region 5 with fail
    refine code_world fun w3 hW => ?_
    have HMn := Mem.to (Mem.allocAt HM.out w2.heap.size rfl #[.int .i64 p1, .int .i64 p2, .int .i64 p3, .int .i64 p4] 34) hW
    have LW : Later w2 w3 := by rw [hW]; exact ((Below.refl _ _).alloc (Nat.le_refl _) _)
    have szW : w3.heap.size = w2.heap.size + 1 := by rw [hW]; simp
    clear hW
    replace HS := hide (HS.out.later LW)
    replace HM := hide HMn
    clear HMn LW
    clear szW
    generalize hgw : w2.heap.size = gw at HM ⊢
    clear hgw
    go_wp2_with fail
    refine (HD.out _).mono ?_
    rintro e w4 ⟨rfl, hb⟩
    replace HM := hide (HM.out.later hb)
    replace HS := hide (HS.out.later hb)
    clear hb
    go_wp2_with fail
    refine (HG.out _ _ _ HS.out.sgts).mono ?_
    rintro e w5 ⟨rfl, hb⟩
    replace HM := hide (HM.out.later hb)
    replace HS := hide (HS.out.later hb)
    clear hb
    go_upto_region 8 with fail
    refine code_world fun w6 hW => ?_
    have HMn := Mem.to (Mem.allocAt HM.out w5.heap.size rfl #[.int .i64 p5, .int .i64 p6] 32) hW
    have LW : Later w5 w6 := by rw [hW]; exact ((Below.refl _ _).alloc (Nat.le_refl _) _)
    have szW : w6.heap.size = w5.heap.size + 1 := by rw [hW]; simp
    clear hW
    replace HS := hide (HS.out.later LW)
    replace HM := hide HMn
    clear HMn LW
    clear szW
    generalize hga : w5.heap.size = ga at HM ⊢
    clear hga
    have ba : Blk w6 gw 34 #[.int .i64 p1, .int .i64 p2, .int .i64 p3, .int .i64 p4] := HM.out.get 1 rfl
    have lta := ba.lt
    have a0 := ba.c 0 rfl
    have a1 := ba.c 1 rfl
    have a2 := ba.c 2 rfl
    have a3 := ba.c 3 rfl
    go_wp2_with fail
    refine (G1.out _ _ _ HS.out).mono ?_
    rintro e w7 ⟨rfl, hb⟩
    replace HM := hide (HM.out.later hb)
    replace HS := hide (HS.out.later hb)
    clear hb ba lta a0 a1 a2 a3
    have ba : Blk w7 gw 34 #[.int .i64 p1, .int .i64 p2, .int .i64 p3, .int .i64 p4] := HM.out.get 1 rfl
    have lta := ba.lt
    have a0 := ba.c 0 rfl
    have a1 := ba.c 1 rfl
    have a2 := ba.c 2 rfl
    have a3 := ba.c 3 rfl
    go_wp2_with fail
    refine (G2.out _ _ _ HS.out).mono ?_
    rintro e w8 ⟨rfl, hb⟩
    replace HM := hide (HM.out.later hb)
    replace HS := hide (HS.out.later hb)
    clear hb ba lta a0 a1 a2 a3
    have ba : Blk w8 ga 32 #[.int .i64 p5, .int .i64 p6] := HM.out.get 0 rfl
    have lta := ba.lt
    have a0 := ba.c 0 rfl
    have a1 := ba.c 1 rfl
    go_wp2_with fail
    refine (G3.out _ _ _ HS.out).mono ?_
    rintro e w9 ⟨rfl, hb⟩
    replace HM := hide (HM.out.later hb)
    replace HS := hide (HS.out.later hb)
    clear hb ba lta a0 a1
    go_wp2_with fail
    refine (works_any _).mono ?_
    rintro e w10 ⟨rfl, hb⟩
    replace HM := hide (HM.out.later hb)
    replace HS := hide (HS.out.later hb)
    clear hb
    go_wp2
    exact bodyPost_ret (v := .bool true) (by simp [results, Try.results6, go_sem]) rfl ⟨rfl, HM.out.below⟩
end Go.Proofs.Ytllpffkifleigaa
end
section
namespace Go.Proofs.Ytllpffkifleigaa
open Go Go.RowKit

set_option maxHeartbeats 1000000 in
set_option maxRecDepth 100000 in
theorem agrees_any (A : Option Addr) (n c : Nat) (L : List Sgt) (w : World) (hn : L.length = n) (hmax : n ≤ maxLen) (hs : SgtsH w A L) (hI : AllI L) :
    Calls Try.prog 34 #[.slice A n c] w fun e w' => e = .returned (.bool (decide (bndsE L = 0))) ∧ Below w.heap.size w w' := by
  have hB := Bounds_any A L c w (by omega) hs hI
  rw [hn] at hB
  generalize bndB L (loL 1 0 1 240000) = r1 at *
  generalize bndB L (hiL 1 0 1 240000) = r2 at *
  generalize bndB L (loL 0 1 1 240000) = r3 at *
  generalize bndB L (hiL 0 1 1 240000) = r4 at *
  generalize bndsE L = ev at *
  have HB0 := hide hB
  clear hB
  clear hs hI hn
  go_enter Try.func34, Try.ntmps34
  have HM := hide (Mem.start w)
  go_wp2_with fail
  refine (HB0.out).mono ?_
  rintro e w1 ⟨rfl, hb⟩
  replace HM := hide (HM.out.later hb)
  clear hb
  go_upto_region 2 with fail
  refine code_world fun w2 hW => ?_
  have HMn := Mem.to (Mem.allocAt HM.out w1.heap.size rfl #[.int .i64 r1, .int .i64 r2, .int .i64 r3, .int .i64 r4] 34) hW
  have LW : Later w1 w2 := by rw [hW]; exact ((Below.refl _ _).alloc (Nat.le_refl _) _)
  have szW : w2.heap.size = w1.heap.size + 1 := by rw [hW]; simp
  clear hW
  replace HM := hide HMn
  clear HMn LW
  clear szW
  go_wp2
  exact bodyPost_ret (v := .bool (ev == 0)) (by simp [results, Try.results34, go_sem]) rfl ⟨by first | rfl | (congr 2), HM.out.below⟩
set_option maxHeartbeats 1000000 in
set_option maxRecDepth 100000 in
theorem inside_any (a1 a2 b1 b2 : Int) (w : World) (h1 : b1 ≤ a1) (h2 : a2 ≤ b2) (h3 : a1 ≤ a2) :
    Calls Try.prog 37 #[.agg #[.int .i64 a1, .int .i64 a2], .agg #[.int .i64 b1, .int .i64 b2]] w fun e w' => e = .returned (.bool true) ∧ Below w.heap.size w w' := by
  go_enter Try.func37, Try.ntmps37
  have HM := hide (Mem.start w)
  go_upto_region 1 with fail
  refine code_world fun w2 hW => ?_
  have HMn := Mem.to (Mem.allocAt (Mem.allocAt HM.out w.heap.size rfl #[.int .i64 a1, .int .i64 a2] 32) (w.heap.size + 1) (by simp) #[.int .i64 b1, .int .i64 b2] 32) hW
  have LW : Later w w2 := by rw [hW]; exact (((Below.refl _ _).alloc (Nat.le_refl _) _).alloc (by simp; try omega) _)
  have szW : w2.heap.size = w.heap.size + 2 := by rw [hW]; simp
  clear hW
  replace HM := hide HMn
  clear HMn LW
  clear szW
  generalize hg1 : w.heap.size + 1 = gr at HM ⊢
  generalize hg0 : w.heap.size = ge at HM ⊢
  have bc : Blk w2 gr 32 #[.int .i64 b1, .int .i64 b2] := HM.out.get 0 rfl
  have ltc := bc.lt
  have c0 := bc.c 0 rfl
  have c1 := bc.c 1 rfl
  have bd : Blk w2 ge 32 #[.int .i64 a1, .int .i64 a2] := HM.out.get 1 rfl
  have ltd := bd.lt
  have d0 := bd.c 0 rfl
  have d1 := bd.c 1 rfl
  go_wp2
  exact bodyPost_ret (v := .bool true) (by simp [results, Try.results37, go_sem]) rfl ⟨rfl, by first | exact HM.out.below | (rw [← hg0]; exact HM.out.below)⟩
theorem map_snocS {f : Sgt → Sgt} {L : List Sgt} {k : Nat} (h : k < L.length) : (L.take (k + 1)).map f = (L.take k).map f ++ [f (L.getD k sg0)] := map_snoc (d := sg0) h
def RowPost (w : World) (L : List Sgt) (e : Ending) (w' : World) : Prop := ∃ A c, e = .returned (.slice A L.length c) ∧ Below w.heap.size w w' ∧ w'.ownsRow w.heap.size 71 5 (.slice A L.length c) L.length (sgsV L)
set_option maxHeartbeats 1000000 in
set_option maxRecDepth 100000 in
theorem wider_any (A : Option Addr) (n c : Nat) (L : List Sgt) (d : Int) (w : World) (hn : L.length = n) (hmax : n ≤ 300) (hA : SgtsH w A L) (hb : ∀ s ∈ L, -1000000 ≤ s.lo ∧ s.lo ≤ 1000000 ∧ -1000000 ≤ s.hi ∧ s.hi ≤ 1000000) (d1 : -1000000 ≤ d) (d2 : d ≤ 1000000) :
    Calls Try.prog 35 #[.slice A n c, .int .i64 d] w (RowPost w (L.map (wideS d))) := by
  have hs := fun k (hk : k < L.length) => map_snocS (f := wideS d) hk
  have hend : (L.take L.length).map (wideS d) = L.map (wideS d) := by rw [List.take_length]
  have hlen : (L.map (wideS d)).length = n := by rw [List.length_map, hn]
  have hbk := fun k (hk : k < L.length) => hb _ (getD_mem hk)
  unfold RowPost
  rw [hlen, ← hend, hn]
  obtain ⟨K, hK⟩ : ∃ K : Nat → List Sgt, K = fun k => (L.take k).map (wideS d) := ⟨_, rfl⟩
  have hKe : ∀ k, (L.take k).map (wideS d) = K k := fun k => by rw [hK]
  have hK0 : K 0 = [] := by rw [hK]; rfl
  simp only [hKe] at hs ⊢
  have hsc : SgtsAt w w.heap.size A L := hA
  unfold SgtsAt at hsc
  rw [hn] at hs hsc hbk
  have hm2 : (n : Int) ≤ 300 := by omega
  have HS := hide hs
  have HSC := hide hsc
  have HK0 := hide hK0
  have HBK := hide hbk
  clear hs hsc hK0 hbk
  clear hA hb hend hlen hK hKe hn
  go_enter Try.func35, Try.ntmps35
  have HM := hide ((Mem.start w).nilRow w.heap.size 71 5)
  go_wp2_with fail
  go_loopw [5, 10] (fun o i wr => ∃ (k : Nat) (A' : Option Addr) (c' : Nat), k ≤ n ∧ i = .int .i64 k ∧ o = .slice A' k c' ∧ Mem w [.row w.heap.size 71 5 (.slice A' k c') k (sgsV (K k))] wr) (fun _ i _ => n - (intOf i).toNat)
  case atStart => exact ⟨0, none, 0, by omega, rfl, rfl, by rw [HK0.out]; exact HM.out⟩
  case round =>
    obtain ⟨k, A', c', hk, rfl, rfl, hM⟩ := hrel
    clear HM
    have HM := hide hM
    clear hM
    by_cases hlt : k < n
    · have hlt2 : (k : Int) < n := by omega
      obtain ⟨b, off, rfl, hb0, hc⟩ := HSC.out (by omega)
      have hc1 := hc _ hlt
      have hs1 := HS.out k hlt
      have hk1 := HBK.out k hlt
      obtain ⟨X, hX⟩ : ∃ X, L.getD k sg0 = X := ⟨_, rfl⟩
      rw [hX] at hc1 hs1 hk1
      rw [← HM.out.below.cell hb0, ← HM.out.below.cell hb0, ← HM.out.below.cell hb0, ← HM.out.below.cell hb0, ← HM.out.below.cell hb0] at hc1
      have ltb : b < wr.heap.size := Nat.lt_of_lt_of_le hb0 HM.out.size
      obtain ⟨q0, q1, q2, q3, q4⟩ := hc1
      obtain ⟨sx, sy, sl, slo, shi⟩ := X
      simp only at q0 q1 q2 q3 q4 hk1
      obtain ⟨y1, y2, y3, y4⟩ := hk1
      have hs2 : sgsV (K (k + 1)) = sgsV (K k) ++ [.int .i64 sx, .int .i64 sy, .int .i64 sl, .int .i64 (slo - d), .int .i64 (shi + d)] := by rw [hs1, sgsV_app]; rfl
      generalize sgsV (K k) = xs at *
      obtain ⟨i0, hii, hz0, hz1, hz2⟩ := info_parts sightInfo
      have Hi := hide hii
      have Hz0 := hide hz0
      have Hz1 := hide hz1
      have Hz2 := hide hz2
      clear hii hz0 hz1 hz2
      have HS2 := hide hs2
      clear hs2
      clear hc hX hs1
      go_upto_region 5 with fail
      refine code_world fun w1 hW => ?_
      have HMn := Mem.to (Mem.allocAt HM.out wr.heap.size rfl #[.int .i64 sx, .int .i64 sy, .int .i64 sl, .int .i64 slo, .int .i64 shi] 71) hW
      have LW : Later wr w1 := by rw [hW]; exact ((Below.refl _ _).alloc (Nat.le_refl _) _)
      have szW : w1.heap.size = wr.heap.size + 1 := by rw [hW]; simp
      clear hW
      replace HM := hide HMn
      clear HMn LW
      clear szW q0 q1 q2 q3 q4 ltb
      generalize hgx : wr.heap.size = gx at HM ⊢
      have bz : Blk w1 gx 71 #[.int .i64 sx, .int .i64 sy, .int .i64 sl, .int .i64 slo, .int .i64 shi] := HM.out.get 0 rfl
      have ltz := bz.lt
      have z0 := bz.c 0 rfl
      have fz0 := bz.frozen 0
      have z1 := bz.c 1 rfl
      have fz1 := bz.frozen 1
      have z2 := bz.c 2 rfl
      have fz2 := bz.frozen 2
      have z3 := bz.c 3 rfl
      have fz3 := bz.frozen 3
      have z4 := bz.c 4 rfl
      have fz4 := bz.frozen 4
      have HM2 := hide ((HM.out.set_ 0 rfl 3 (.int .i64 (slo - d)) rfl).set_ 0 rfl 4 (.int .i64 (shi + d)) rfl)
      go_upto_region 6 with fail
      refine code_world fun w2 hW => ?_
      rw [← hW] at HM2
      clear hW bz ltz z0 z1 z2 z3 z4 fz0 fz1 fz2 fz3 fz4 HM
      have HM := HM2
      clear HM2
      have bz : Blk w2 gx 71 #[.int .i64 sx, .int .i64 sy, .int .i64 sl, .int .i64 (slo - d), .int .i64 (shi + d)] := HM.out.get 0 rfl
      have ltz := bz.lt
      have z0 := bz.c 0 rfl
      have z1 := bz.c 1 rfl
      have z2 := bz.c 2 rfl
      have z3 := bz.c 3 rfl
      have z4 := bz.c 4 rfl
      have hownM := Mem.row_ HM.out 1 rfl
      have hbaseM : w.heap.size ≤ w2.heap.size := HM.out.size
      go_wp2_with (at_builtin; refine wpList_append_own_at _ rfl (.tmp 28) (.tmp 30) _ rfl w.heap.size 71 i0 _ 5 40 Try.underlying25 Hi.out Hz0.out Hz1.out Hz2.out rfl (by decide) _ k xs rfl (hownM.alloc _) ⟨w2.heap.size, 0, none⟩ 1 1 [.int .i64 sx, .int .i64 sy, .int .i64 sl, .int .i64 (slo - d), .int .i64 (shi + d)] rfl rfl ?q1c1 (by intro u hu; simp only [List.mem_cons, List.not_mem_nil, or_false] at hu; rcases hu with rfl | rfl | rfl | rfl | rfl <;> rfl) ?q1c3 ?q1c4 ?q1c5 ?_)
      try case q1c1 => exact new_cellsQ w2 _ [.int .i64 sx, .int .i64 sy, .int .i64 sl, .int .i64 (slo - d), .int .i64 (shi + d)]
      case q1c3 => unfold maxLen; omega
      case q1c4 => omega
      case q1c5 => first | omega | (simp; omega)
      intro vA w9 hown2 hgr2 _ hat2
      have HMn := HM.out.grow 1 rfl _ hgr2 hown2 hat2
      replace HM := hide HMn
      clear HMn hown2 hgr2 hat2 hownM hbaseM
      clear bz ltz z0 z1 z2 z3 z4
      obtain ⟨A9, c9, rfl⟩ := own_shape2 (Mem.row_ HM.out 1 rfl)
      go_wp2_with fail
      go_roundw
      case rel => exact ⟨k + 1, A9, c9, by omega, by go_num, rfl, by rw [HS2.out]; exact HM.out.tail⟩
      case measure => simp [intOf] <;> omega
    · obtain rfl : k = n := by omega
      have hkk : ¬ ((k : Int) < k) := by omega
      go_wp2
      exact bodyPost_ret (v := .slice A' k c') (by simp [results, Try.results35, go_sem]) rfl ⟨A', c', rfl, HM.out.below, HM.out.row_ 0 rfl⟩
end Go.Proofs.Ytllpffkifleigaa
end
section
namespace Go.Proofs.Ytllpffkifleigaa
open Go Go.RowKit

/-- Sights of two winds. -/
def mixT (E : List EyeN) (u v p q : Int) (B : Nat → Bool) (k : Nat) : List Sgt := (List.range k).map fun i => if B i = true then eyeT p q (E.getD i eye0) else eyeT u v (E.getD i eye0)
theorem mixT_succ {E : List EyeN} {u v p q : Int} {B : Nat → Bool} (k : Nat) : mixT E u v p q B (k + 1) = mixT E u v p q B k ++ [if B k = true then eyeT p q (E.getD k eye0) else eyeT u v (E.getD k eye0)] := by
  unfold mixT
  rw [List.range_succ, List.map_append]
  rfl
theorem mixT_len {E : List EyeN} {u v p q : Int} {B : Nat → Bool} (k : Nat) : (mixT E u v p q B k).length = k := by unfold mixT; rw [List.length_map, List.length_range]
def bitB (sec : Int) (k : Nat) : Bool := bits BinOp.and IntKind.u16 (sec / 2 ^ k) 1 == 1
set_option maxHeartbeats 1000000 in
set_option maxRecDepth 100000 in
theorem mixed_any (A : Option Addr) (n c : Nat) (E : List EyeN) (u v p q sec : Int) (w : World) (hn : E.length = n) (hmax : n ≤ 10) (hA : EyesAt w w.heap.size A E) (he : ∀ e ∈ E, EyeOk e)
    (hu : -32768 ≤ u ∧ u ≤ 32767) (hv : -32768 ≤ v ∧ v ≤ 32767) (hp : -32768 ≤ p ∧ p ≤ 32767) (hq : -32768 ≤ q ∧ q ≤ 32767) (s1 : 0 ≤ sec) (s2 : sec ≤ 65535) :
    Calls Try.prog 33 #[.slice A n c, .int .i16 u, .int .i16 v, .int .i16 p, .int .i16 q, .int .u16 sec] w (RowPost w (mixT E u v p q (bitB sec) n)) := by
  have hlU := fun k (hk : k < E.length) W => eyelook_any (E.getD k eye0) u v W (he _ (getD_memE hk)) hu hv
  have hlP := fun k (hk : k < E.length) W => eyelook_any (E.getD k eye0) p q W (he _ (getD_memE hk)) hp hq
  have hs := fun k => mixT_succ (E := E) (u := u) (v := v) (p := p) (q := q) (B := bitB sec) k
  have hlen := mixT_len (E := E) (u := u) (v := v) (p := p) (q := q) (B := bitB sec) n
  unfold RowPost
  rw [hlen]
  obtain ⟨K, hK⟩ : ∃ K : Nat → List Sgt, K = fun k => mixT E u v p q (bitB sec) k := ⟨_, rfl⟩
  have hKe : ∀ k, mixT E u v p q (bitB sec) k = K k := fun k => by rw [hK]
  have hK0 : K 0 = [] := by rw [hK]; rfl
  simp only [hKe] at hs ⊢
  have hbit : ∀ k, bitB sec k = (bits BinOp.and IntKind.u16 (sec / 2 ^ k) 1 == 1) := fun k => rfl
  obtain ⟨u1, u2⟩ := hu
  obtain ⟨v1, v2⟩ := hv
  obtain ⟨p1, p2⟩ := hp
  obtain ⟨q1, q2⟩ := hq
  have hm2 : (n : Int) ≤ 10 := by omega
  have hsc : EyesAt w w.heap.size A E := hA
  unfold EyesAt at hsc
  unfold eyeC sgC at hlU hlP
  rw [hn] at hsc hlU hlP
  have HSC := hide hsc
  have HLU := hide hlU
  have HLP := hide hlP
  have HS := hide hs
  have HK0 := hide hK0
  have HBIT := hide hbit
  clear hsc hlU hlP hs hK0 hbit
  clear hA he hlen hK hKe hn
  go_enter Try.func33, Try.ntmps33
  have HM := hide ((Mem.start w).nilRow w.heap.size 71 5)
  go_wp2_with fail
  go_loopw [13, 18] (fun o i wr => ∃ (k : Nat) (A' : Option Addr) (c' : Nat), k ≤ n ∧ i = .int .i64 k ∧ o = .slice A' k c' ∧ Mem w [.row w.heap.size 71 5 (.slice A' k c') k (sgsV (K k))] wr) (fun _ i _ => n - (intOf i).toNat)
  case atStart => exact ⟨0, none, 0, by omega, rfl, rfl, by rw [HK0.out]; exact HM.out⟩
  case round =>
    obtain ⟨k, A', c', hk, rfl, rfl, hM⟩ := hrel
    clear HM
    have HM := hide hM
    clear hM
    by_cases hlt : k < n
    · have hlt2 : (k : Int) < n := by omega
      obtain ⟨b, off, rfl, hb0, hc⟩ := HSC.out (by omega)
      have hc1 := hc _ hlt
      have cU := HLU.out k hlt
      have cP := HLP.out k hlt
      have hs1 := HS.out k
      have hbk := HBIT.out k
      obtain ⟨bk, hbk2⟩ : ∃ b, bitB sec k = b := ⟨_, rfl⟩
      rw [hbk2] at hs1 hbk
      have hbk3 := hbk.symm
      obtain ⟨X, hX⟩ : ∃ X, E.getD k eye0 = X := ⟨_, rfl⟩
      rw [hX] at hc1 cU cP hs1
      rw [← HM.out.below.cell hb0, ← HM.out.below.cell hb0, ← HM.out.below.cell hb0, ← HM.out.below.cell hb0] at hc1
      have ltb : b < wr.heap.size := Nat.lt_of_lt_of_le hb0 HM.out.size
      obtain ⟨q0, q1', q2', q3⟩ := hc1
      obtain ⟨i0, hii, hz0, hz1, hz2⟩ := info_parts sightInfo
      have Hi := hide hii
      have Hz0 := hide hz0
      have Hz1 := hide hz1
      have Hz2 := hide hz2
      clear hii hz0 hz1 hz2
      clear hbk hbk2
      cases bk with
      | true =>
        rw [if_pos rfl] at hs1
        obtain ⟨Y, hY⟩ : ∃ Y, eyeT p q X = Y := ⟨_, rfl⟩
        rw [hY] at cP hs1
        obtain ⟨ro, di, le, mo⟩ := X
        obtain ⟨sx, sy, sl, slo, shi⟩ := Y
        simp only at q0 q1' q2' q3 cP
        have hs2 : sgsV (K (k + 1)) = sgsV (K k) ++ [.int .i64 sx, .int .i64 sy, .int .i64 sl, .int .i64 slo, .int .i64 shi] := by rw [hs1, sgsV_app]; rfl
        generalize sgsV (K k) = xs at *
        have C1 := hide cP
        have HS2 := hide hs2
        clear cP hs2
        clear hc hX hY hs1 cU
        go_upto_region 5 with fail
        refine code_world fun w1 hW => ?_
        have HMn := Mem.to (Mem.allocAt HM.out wr.heap.size rfl #[.int .u8 ro, .int .u8 di, .int .u16 le, .int .u16 mo] 77) hW
        have LW : Later wr w1 := by rw [hW]; exact ((Below.refl _ _).alloc (Nat.le_refl _) _)
        have szW : w1.heap.size = wr.heap.size + 1 := by rw [hW]; simp
        clear hW
        replace HM := hide HMn
        clear HMn LW
        clear szW q0 q1' q2' q3 ltb
        generalize hgx : wr.heap.size = gx at HM ⊢
        have bz : Blk w1 gx 77 #[.int .u8 ro, .int .u8 di, .int .u16 le, .int .u16 mo] := HM.out.get 0 rfl
        have ltz := bz.lt
        have z0 := bz.c 0 rfl
        have z1 := bz.c 1 rfl
        have z2 := bz.c 2 rfl
        have z3 := bz.c 3 rfl
        go_wp2_with fail
        refine (C1.out _).mono ?_
        rintro e w6 ⟨rfl, hb⟩
        replace HM := hide (HM.out.later hb)
        clear hb bz ltz z0 z1 z2 z3
        clear hbk3
        have hownM := Mem.row_ HM.out 1 rfl
        have hbaseM : w.heap.size ≤ w6.heap.size := HM.out.size
        go_wp2_with (at_builtin; refine wpList_append_own_at _ rfl (.tmp 28) (.tmp 35) _ rfl w.heap.size 71 i0 _ 5 40 Try.underlying25 Hi.out Hz0.out Hz1.out Hz2.out rfl (by decide) _ k xs rfl (hownM.alloc _) ⟨w6.heap.size, 0, none⟩ 1 1 [.int .i64 sx, .int .i64 sy, .int .i64 sl, .int .i64 slo, .int .i64 shi] rfl rfl ?q1c1 (by intro u hu; simp only [List.mem_cons, List.not_mem_nil, or_false] at hu; rcases hu with rfl | rfl | rfl | rfl | rfl <;> rfl) ?q1c3 ?q1c4 ?q1c5 ?_)
        try case q1c1 => exact new_cellsQ w6 _ [.int .i64 sx, .int .i64 sy, .int .i64 sl, .int .i64 slo, .int .i64 shi]
        case q1c3 => unfold maxLen; omega
        case q1c4 => omega
        case q1c5 => first | omega | (simp; omega)
        intro vA w9 hown2 hgr2 _ hat2
        have HMn := HM.out.grow 1 rfl _ hgr2 hown2 hat2
        replace HM := hide HMn
        clear HMn hown2 hgr2 hat2 hownM hbaseM
        obtain ⟨A9, c9, rfl⟩ := own_shape2 (Mem.row_ HM.out 1 rfl)
        go_wp2_with fail
        go_roundw
        case rel => exact ⟨k + 1, A9, c9, by omega, by go_num, rfl, by rw [HS2.out]; exact HM.out.tail⟩
        case measure => simp [intOf] <;> omega
      | false =>
        rw [if_neg (by simp)] at hs1
        obtain ⟨Y, hY⟩ : ∃ Y, eyeT u v X = Y := ⟨_, rfl⟩
        rw [hY] at cU hs1
        obtain ⟨ro, di, le, mo⟩ := X
        obtain ⟨sx, sy, sl, slo, shi⟩ := Y
        simp only at q0 q1' q2' q3 cU
        have hs2 : sgsV (K (k + 1)) = sgsV (K k) ++ [.int .i64 sx, .int .i64 sy, .int .i64 sl, .int .i64 slo, .int .i64 shi] := by rw [hs1, sgsV_app]; rfl
        generalize sgsV (K k) = xs at *
        have C1 := hide cU
        have HS2 := hide hs2
        clear cU hs2
        clear hc hX hY hs1 cP
        go_upto_region 5 with fail
        refine code_world fun w1 hW => ?_
        have HMn := Mem.to (Mem.allocAt HM.out wr.heap.size rfl #[.int .u8 ro, .int .u8 di, .int .u16 le, .int .u16 mo] 77) hW
        have LW : Later wr w1 := by rw [hW]; exact ((Below.refl _ _).alloc (Nat.le_refl _) _)
        have szW : w1.heap.size = wr.heap.size + 1 := by rw [hW]; simp
        clear hW
        replace HM := hide HMn
        clear HMn LW
        clear szW q0 q1' q2' q3 ltb
        generalize hgx : wr.heap.size = gx at HM ⊢
        have bz : Blk w1 gx 77 #[.int .u8 ro, .int .u8 di, .int .u16 le, .int .u16 mo] := HM.out.get 0 rfl
        have ltz := bz.lt
        have z0 := bz.c 0 rfl
        have z1 := bz.c 1 rfl
        have z2 := bz.c 2 rfl
        have z3 := bz.c 3 rfl
        go_wp2_with fail
        refine (C1.out _).mono ?_
        rintro e w6 ⟨rfl, hb⟩
        replace HM := hide (HM.out.later hb)
        clear hb bz ltz z0 z1 z2 z3
        clear hbk3
        have hownM := Mem.row_ HM.out 1 rfl
        have hbaseM : w.heap.size ≤ w6.heap.size := HM.out.size
        go_wp2_with (at_builtin; refine wpList_append_own_at _ rfl (.tmp 37) (.tmp 44) _ rfl w.heap.size 71 i0 _ 5 40 Try.underlying25 Hi.out Hz0.out Hz1.out Hz2.out rfl (by decide) _ k xs rfl (hownM.alloc _) ⟨w6.heap.size, 0, none⟩ 1 1 [.int .i64 sx, .int .i64 sy, .int .i64 sl, .int .i64 slo, .int .i64 shi] rfl rfl ?q2c1 (by intro u hu; simp only [List.mem_cons, List.not_mem_nil, or_false] at hu; rcases hu with rfl | rfl | rfl | rfl | rfl <;> rfl) ?q2c3 ?q2c4 ?q2c5 ?_)
        try case q2c1 => exact new_cellsQ w6 _ [.int .i64 sx, .int .i64 sy, .int .i64 sl, .int .i64 slo, .int .i64 shi]
        case q2c3 => unfold maxLen; omega
        case q2c4 => omega
        case q2c5 => first | omega | (simp; omega)
        intro vA w9 hown2 hgr2 _ hat2
        have HMn := HM.out.grow 1 rfl _ hgr2 hown2 hat2
        replace HM := hide HMn
        clear HMn hown2 hgr2 hat2 hownM hbaseM
        obtain ⟨A9, c9, rfl⟩ := own_shape2 (Mem.row_ HM.out 1 rfl)
        go_wp2_with fail
        go_roundw
        case rel => exact ⟨k + 1, A9, c9, by omega, by go_num, rfl, by rw [HS2.out]; exact HM.out.tail⟩
        case measure => simp [intOf] <;> omega
    · obtain rfl : k = n := by omega
      have hkk : ¬ ((k : Int) < k) := by omega
      go_wp2
      exact bodyPost_ret (v := .slice A' k c') (by simp [results, Try.results33, go_sem]) rfl ⟨A', c', rfl, HM.out.below, HM.out.row_ 0 rfl⟩
set_option maxHeartbeats 1000000 in
set_option maxRecDepth 100000 in
theorem left_any (A : Option Addr) (n c : Nat) (L : List Sgt) (B : Option Addr) (t : List Nat) (cb : Nat) (w : World) (hn : L.length = n) (hmax : n ≤ 300) (hA : SgtsH w A L) (hB : SetM w B t) (ht : t.length ≤ 300) :
    Calls Try.prog 36 #[.slice A n c, .slice B t.length cb] w fun e w' => ∃ A' c', e = .returned (.slice A' (outR L t).length c') ∧ Below w.heap.size w w' ∧ w'.ownsRow w.heap.size 71 5 (.slice A' (outR L t).length c') (outR L t).length (sgsV (outR L t)) := by
  have hsT := fun k (h : (!t.contains k) = true) => (selN_succ (l := L) (p := fun i => !t.contains i) k).trans (if_pos h)
  have hsF := fun k (h : ¬ (!t.contains k) = true) => (selN_succ (l := L) (p := fun i => !t.contains i) k).trans (if_neg h)
  unfold outR
  rw [hn]
  have hml := fun k => selN_len (l := L) (p := fun i => !t.contains i) k
  obtain ⟨K, hK⟩ : ∃ K : Nat → List Sgt, K = fun k => selN L (fun i => !t.contains i) k := ⟨_, rfl⟩
  have hKe : ∀ k, selN L (fun i => !t.contains i) k = K k := fun k => by rw [hK]
  have hK0 : K 0 = [] := by rw [hK]; rfl
  simp only [hKe] at hsT hsF hml ⊢
  have hct : ∀ i, t.contains i = (t.take t.length).contains i := fun i => by rw [List.take_length]
  have htk : ∀ i j, j < t.length → (t.take (j + 1)).contains i = ((t.take j).contains i || (t.getD j 0 == i)) := fun i j hj => by
    rw [List.take_add_one, List.getElem?_eq_getElem hj, List.getD_eq_getElem?_getD, List.getElem?_eq_getElem hj]
    simp only [Option.toList_some, Option.getD_some, List.contains_append, List.contains_cons, List.contains_nil, Bool.or_false]
    congr 1
    rw [Bool.eq_iff_iff, beq_iff_eq, beq_iff_eq]
    exact eq_comm
  obtain ⟨m, hm⟩ : ∃ m, t.length = m := ⟨_, rfl⟩
  obtain ⟨C, hC⟩ : ∃ C : Nat → Nat → Bool, C = fun j i => (t.take j).contains i := ⟨_, rfl⟩
  have hCe : ∀ j i, (t.take j).contains i = C j i := fun j i => by rw [hC]
  have hC0 : ∀ i, C 0 i = false := fun i => by rw [hC]; rfl
  have hst := hB
  unfold SetM at hst
  have hsc : SgtsAt w w.heap.size A L := hA
  unfold SgtsAt at hsc
  rw [hn] at hsc
  rw [hm] at hst ht htk hct ⊢
  simp only [hCe] at hct htk
  simp only [hct] at hsT hsF
  have hm2 : (n : Int) ≤ 300 := by omega
  have hm3 : (m : Int) ≤ 300 := by omega
  have HST := hide hst
  have HSC := hide hsc
  have HSA := hide hsT
  have HSF := hide hsF
  have HK0 := hide hK0
  have HC0 := hide hC0
  have HTK := hide htk
  have HML := hide hml
  clear hst hsc hsT hsF hK0 hC0 htk hml
  clear hA hB hK hKe hn hm hC hCe hct
  go_enter Try.func36, Try.ntmps36
  have HM := hide ((Mem.start w).nilRow w.heap.size 71 5)
  go_wp2_with fail
  go_loopw [5, 13] (fun o i wr => ∃ (k : Nat) (A' : Option Addr) (c' : Nat), k ≤ n ∧ i = .int .i64 k ∧ o = .slice A' (K k).length c' ∧ Mem w [.row w.heap.size 71 5 (.slice A' (K k).length c') (K k).length (sgsV (K k))] wr) (fun _ i _ => n - (intOf i).toNat)
  case atStart => exact ⟨0, none, 0, by omega, rfl, by rw [HK0.out]; rfl, by rw [HK0.out]; exact HM.out⟩
  case round =>
    obtain ⟨k, A', c', hk, rfl, rfl, hM⟩ := hrel
    clear HM
    have HM := hide hM
    clear hM
    by_cases hlt : k < n
    · have hlt2 : (k : Int) < n := by omega
      obtain ⟨b, off, rfl, hb0, hc⟩ := HSC.out (by omega)
      have hc1 := hc _ hlt
      have hsA := HSA.out k
      have hsF := HSF.out k
      have hml := HML.out k
      have hmk : (((K k).length : Nat) : Int) ≤ 300 := by omega
      obtain ⟨X, hX⟩ : ∃ X, L.getD k sg0 = X := ⟨_, rfl⟩
      rw [hX] at hc1 hsA
      rw [← HM.out.below.cell hb0, ← HM.out.below.cell hb0, ← HM.out.below.cell hb0, ← HM.out.below.cell hb0, ← HM.out.below.cell hb0] at hc1
      have ltb : b < wr.heap.size := Nat.lt_of_lt_of_le hb0 HM.out.size
      obtain ⟨q0, q1, q2, q3, q4⟩ := hc1
      obtain ⟨sx, sy, sl, slo, shi⟩ := X
      simp only at q0 q1 q2 q3 q4
      obtain ⟨nk, hnk⟩ : ∃ m, (K k).length = m := ⟨_, rfl⟩
      obtain ⟨xs, hxs⟩ : ∃ m, sgsV (K k) = m := ⟨_, rfl⟩
      rw [hnk, hxs] at HM
      rw [hnk] at hmk
      rw [hnk]
      have Hnk := hide hnk
      have Hxs := hide hxs
      have HA1 := hide hsA
      have HF1 := hide hsF
      clear hsA hsF
      clear hc hX hml hnk hxs
      go_upto_region 5 with fail
      refine code_world fun w1 hW => ?_
      have HMn := Mem.to (Mem.allocAt HM.out wr.heap.size rfl #[.int .i64 sx, .int .i64 sy, .int .i64 sl, .int .i64 slo, .int .i64 shi] 71) hW
      have LW : Later wr w1 := by rw [hW]; exact ((Below.refl _ _).alloc (Nat.le_refl _) _)
      have szW : w1.heap.size = wr.heap.size + 1 := by rw [hW]; simp
      clear hW
      replace HM := hide HMn
      clear HMn LW
      clear szW q0 q1 q2 q3 q4 ltb
      generalize hgx : wr.heap.size = gx at HM ⊢
      go_wp2_with fail
      go_loopw [8, 20] (fun o i wr => ∃ j : Nat, j ≤ m ∧ i = .int .i64 j ∧ o = .bool (C j k) ∧ wr = w1) (fun _ i _ => m - (intOf i).toNat)
      case atStart => exact ⟨0, Nat.zero_le _, rfl, by rw [HC0.out], rfl⟩
      case round =>
        obtain ⟨j, hj, rfl, rfl, hww⟩ := hrel
        obtain rfl := hww.symm
        by_cases hjl : j < m
        · have hjl2 : (j : Int) < m := by omega
          obtain ⟨bs, cs, rfl, hbs, hcs⟩ := HST.out (by omega)
          have t0 := (blk_belowN hbs HM.out.below hbs.lt).c j (hcs j hjl)
          have ltt := (blk_belowN hbs HM.out.below hbs.lt).lt
          have htj := HTK.out k j hjl
          obtain ⟨tj, htj0⟩ : ∃ x, t.getD j 0 = x := ⟨_, rfl⟩
          rw [htj0] at t0 htj
          obtain ⟨cj, hcj⟩ : ∃ x, C j k = x := ⟨_, rfl⟩
          rw [hcj] at htj ⊢
          have Htj := hide htj
          clear htj htj0 hcj hcs hbs
          cases cj with
          | true =>
            go_wp2_with fail
            go_roundw
            case rel => exact ⟨j + 1, hjl, by go_num, by rw [Htj.out]; rfl, by first | trivial | rfl⟩
            case measure => simp [intOf] <;> omega
          | false =>
            go_wp2_with fail
            go_roundw
            case rel => exact ⟨j + 1, hjl, by go_num, by rw [Htj.out]; simp only [Bool.false_or]; congr 1; rw [Bool.eq_iff_iff, beq_iff_eq, beq_iff_eq]; omega, by first | trivial | rfl⟩
            case measure => simp [intOf] <;> omega
        · obtain rfl : j = m := by omega
          have hjj : ¬ ((j : Int) < j) := by omega
          obtain ⟨cj, hcj⟩ : ∃ x, C j k = x := ⟨_, rfl⟩
          rw [hcj] at HA1 HF1 ⊢
          clear hcj
          cases cj with
          | true =>
            have hkk := HF1.out (by simp)
            go_wp2_with fail
            go_roundw
            case rel => exact ⟨k + 1, A', c', hlt, by go_num, by rw [hkk, Hnk.out], by rw [hkk, Hnk.out, Hxs.out]; exact HM.out.tail⟩
            case measure => simp [intOf] <;> omega
          | false =>
            have hkk := HA1.out (by simp)
            have hln : (K (k + 1)).length = nk + 1 := by rw [hkk, List.length_append, Hnk.out]; rfl
            have hxn : sgsV (K (k + 1)) = xs ++ [.int .i64 sx, .int .i64 sy, .int .i64 sl, .int .i64 slo, .int .i64 shi] := by rw [hkk, sgsV_app, Hxs.out]; rfl
            have HKK := hide hkk
            have HLN := hide hln
            have HXN := hide hxn
            clear hkk hln hxn
            obtain ⟨i0, hii, hz0, hz1, hz2⟩ := info_parts sightInfo
            have Hi := hide hii
            have Hz0 := hide hz0
            have Hz1 := hide hz1
            have Hz2 := hide hz2
            clear hii hz0 hz1 hz2
            go_upto_region 12 with fail
            have bz : Blk w1 gx 71 #[.int .i64 sx, .int .i64 sy, .int .i64 sl, .int .i64 slo, .int .i64 shi] := HM.out.get 0 rfl
            have ltz := bz.lt
            have z0 := bz.c 0 rfl
            have z1 := bz.c 1 rfl
            have z2 := bz.c 2 rfl
            have z3 := bz.c 3 rfl
            have z4 := bz.c 4 rfl
            have hownM := Mem.row_ HM.out 1 rfl
            have hbaseM : w.heap.size ≤ w1.heap.size := HM.out.size
            go_wp2_with (at_builtin; refine wpList_append_own_at _ rfl (.tmp 33) (.tmp 35) _ rfl w.heap.size 71 i0 _ 5 40 Try.underlying25 Hi.out Hz0.out Hz1.out Hz2.out rfl (by decide) _ nk xs rfl (hownM.alloc _) ⟨w1.heap.size, 0, none⟩ 1 1 [.int .i64 sx, .int .i64 sy, .int .i64 sl, .int .i64 slo, .int .i64 shi] rfl rfl ?q3c1 (by intro u hu; simp only [List.mem_cons, List.not_mem_nil, or_false] at hu; rcases hu with rfl | rfl | rfl | rfl | rfl <;> rfl) ?q3c3 ?q3c4 ?q3c5 ?_)
            try case q3c1 => exact new_cellsQ w1 _ [.int .i64 sx, .int .i64 sy, .int .i64 sl, .int .i64 slo, .int .i64 shi]
            case q3c3 => unfold maxLen; omega
            case q3c4 => omega
            case q3c5 => first | omega | (simp; omega)
            intro vA w9 hown2 hgr2 _ hat2
            have HMn := HM.out.grow 1 rfl _ hgr2 hown2 hat2
            replace HM := hide HMn
            clear HMn hown2 hgr2 hat2 hownM hbaseM
            clear bz ltz z0 z1 z2 z3 z4
            obtain ⟨A9, c9, rfl⟩ := own_shape2 (Mem.row_ HM.out 1 rfl)
            go_wp2_with fail
            go_roundw
            case rel => exact ⟨k + 1, A9, c9, hlt, by go_num, by rw [HLN.out], by rw [HLN.out, HXN.out]; exact HM.out.tail⟩
            case measure => simp [intOf] <;> omega
    · obtain rfl : k = n := by omega
      have hkk : ¬ ((k : Int) < k) := by omega
      go_wp2
      exact bodyPost_ret (v := .slice A' (K k).length c') (by simp [results, Try.results36, go_sem]) rfl ⟨A', c', rfl, HM.out.below, HM.out.row_ 0 rfl⟩
end Go.Proofs.Ytllpffkifleigaa
end
section
namespace Go.Proofs.Ytllpffkifleigaa
open Go Go.RowKit

theorem sgsV_take (L : List Sgt) (k j : Nat) (u : Value) (h : (sgsV (L.take k))[j]? = some u) : (sgsV L)[j]? = some u := by
  have e : sgsV L = sgsV (L.take k) ++ sgsV (L.drop k) := by rw [← sgsV_app, List.take_append_drop]
  rw [e, List.getElem?_append_left (List.getElem?_eq_some_iff.1 h).1]
  exact h
theorem sgsV_drop (L : List Sgt) (k j : Nat) (hk : k ≤ L.length) (u : Value) (h : (sgsV (L.drop k))[j]? = some u) : (sgsV L)[k * 5 + j]? = some u := by
  have e : sgsV L = sgsV (L.take k) ++ sgsV (L.drop k) := by rw [← sgsV_app, List.take_append_drop]
  have hl : (sgsV (L.take k)).length = k * 5 := by rw [sgsV_len, List.length_take, Nat.min_eq_left hk]
  rw [e, List.getElem?_append_right (by omega), hl, show k * 5 + j - k * 5 = j by omega]
  exact h
theorem SlS.take {w : World} {A : Option Addr} {c : Nat} {L : List Sgt} (h : SlS w A c L) (k : Nat) : SlS w A c (L.take k) := by
  refine ⟨Nat.le_trans (by rw [List.length_take]; exact Nat.min_le_right _ _) h.1, h.2.1, h.2.2.imp ?_ ?_⟩
  · rintro ⟨e1, e2, e3⟩
    exact ⟨e1, by rw [e2]; simp, e3⟩
  · rintro ⟨b, off, e, hl, hc⟩
    exact ⟨b, off, e, hl, fun j u hu => hc j u (sgsV_take L k j u hu)⟩
theorem SlS.drop {w : World} {b off c : Nat} {L : List Sgt} (h : SlS w (some ⟨b, off, none⟩) c L) (k : Nat) (hk : k ≤ L.length) : SlS w (if c = k then some ⟨b, off, none⟩ else some ⟨b, off + k * 5, none⟩) (c - k) (L.drop k) := by
  obtain ⟨h1, h2, h3⟩ := h
  refine ⟨by rw [List.length_drop]; omega, by omega, .inr ?_⟩
  rcases h3 with ⟨e, -⟩ | ⟨b', off', e, hl, hc⟩
  · cases e
  · injection e with e
    injection e with e1 e2 _
    subst e1 e2
    by_cases hck : c = k
    · rw [if_pos hck]
      refine ⟨b, off, rfl, hl, fun j u hu => ?_⟩
      have : L.drop k = [] := List.drop_eq_nil_of_le (by omega)
      rw [this] at hu
      simp [sgsV] at hu
    · rw [if_neg hck]
      refine ⟨b, off + k * 5, rfl, hl, fun j u hu => ?_⟩
      rw [Nat.add_assoc]
      exact hc _ u (sgsV_drop L k j hk u hu)
/-- A slice that is not empty has an address. -/
theorem SlS.some {w : World} {A : Option Addr} {c : Nat} {L : List Sgt} (h : SlS w A c L) (hn : 0 < L.length) : ∃ b off, A = some ⟨b, off, none⟩ ∧ b < w.heap.size := by
  rcases h.2.2 with ⟨-, e2, -⟩ | ⟨b, off, e, hl, -⟩
  · rw [e2] at hn; simp at hn
  · exact ⟨b, off, e, hl⟩
theorem mix_near {E : List EyeN} {u v p q : Int} {B : Nat → Bool} {n : Nat} (hn : E.length = n) (he : ∀ e ∈ E, EyeOk e) (hu : -32768 ≤ u ∧ u ≤ 32767) (hv : -32768 ≤ v ∧ v ≤ 32767) (hp : -32768 ≤ p ∧ p ≤ 32767) (hq : -32768 ≤ q ∧ q ≤ 32767) : ∀ s ∈ mixT E u v p q B n, Near s := fun s hs => by
  unfold mixT at hs
  obtain ⟨i, hi, rfl⟩ := List.mem_map.1 hs
  have h1 := he _ (getD_memE (d := eye0) (show i < E.length by have := List.mem_range.1 hi; omega))
  split
  · exact eye_ok h1 hp hq
  · exact eye_ok h1 hu hv
theorem near_list {L : List Sgt} (h : ∀ s ∈ L, Near s) (hn : L.length ≤ 360) : listE L = 0 := listE_ok.2 ⟨hn, fun s hs => (h s hs).ok⟩
theorem near_allI {L : List Sgt} (h : ∀ s ∈ L, Near s) : AllI L := allI_of_ok fun s hs => (h s hs).ok
theorem near_b {L : List Sgt} (h : ∀ s ∈ L, Near s) : ∀ s ∈ L, -1000000 ≤ s.lo ∧ s.lo ≤ 1000000 ∧ -1000000 ≤ s.hi ∧ s.hi ≤ 1000000 := fun s hs => by
  have := h s hs
  have := this.a1
  have := (h s hs).a2
  have := (h s hs).a3
  omega
theorem wide_allI {L : List Sgt} {d : Int} (h : ∀ s ∈ L, Near s) : AllI (L.map (wideS d)) := fun s hs => by
  obtain ⟨x, hx, rfl⟩ := List.mem_map.1 hs
  exact near_allI h x hx
theorem wide_bnds {L : List Sgt} {d : Int} (h : ∀ s ∈ L, Near s) (hn : L.length ≤ 360) (h0 : 0 ≤ d) (h1 : d ≤ 200000) : bndsE (L.map (wideS d)) = 0 ↔ Feas (L.map (wideS d)) 0 :=
  ⟨fun h => (bndsE_iff.1 h).2, fun hf => bndsE_iff.2 ⟨⟨by rw [List.length_map]; exact hn, fun s hs => by
    obtain ⟨x, hx, rfl⟩ := List.mem_map.1 hs
    exact near_wide (h x hx) h0 h1⟩, hf⟩⟩
end Go.Proofs.Ytllpffkifleigaa
end
section
namespace Go.Proofs.Ytllpffkifleigaa
open Go Go.RowKit

/-- What Bounds answers of sights of which all is known. -/
theorem few_ans {L : List Sgt} {p1 p2 p3 p4 : Int} (hn : ∀ s ∈ L, Near s) (hl : L.length ≤ 300) (h : Few L p1 p2 p3 p4) (A : Option Addr) (n c : Nat) (hL : L.length = n) (W : World) (hs : SgtsH W A L) :
    Calls Try.prog 17 #[.slice A n c] W fun e w' => e = .returned (.tuple #[.agg #[.int .i64 p1, .int .i64 p2, .int .i64 p3, .int .i64 p4], .int .i64 0]) ∧ Below W.heap.size W w' := by
  have hf : Feas L 0 := by
    obtain ⟨p, hp, -⟩ := h.u.low.some
    exact feas_inn.2 ⟨p, hp⟩
  have hb := (near_bnds hn (by omega)).2 hf
  obtain ⟨e1, e2, e3, e4⟩ := Few.unique (few_of hf) h
  have := Bounds_any A L c W (by unfold maxLen; omega) hs (near_allI hn)
  simp only [bnds_ok hb] at this
  rw [hb, e1, e2, e3, e4, hL] at this
  exact this
theorem along_ans {L : List Sgt} {x y len lo hi : Int} (hn : ∀ s ∈ L, Near s) (hl : L.length ≤ 300) (hd : DirOk ⟨x, y, len⟩) (h : Rch L x y len lo hi) (A : Option Addr) (n c : Nat) (hL : L.length = n) (W : World) (hs : SgtsH W A L) :
    Calls Try.prog 19 #[.slice A n c, .int .i64 x, .int .i64 y, .int .i64 len] W fun e w' => e = .returned (.tuple #[.agg #[.int .i64 lo, .int .i64 hi], .int .i64 0]) ∧ Below W.heap.size W w' := by
  have hf : Feas L 0 := by
    obtain ⟨p, hp, -⟩ := h.low.some
    exact feas_inn.2 ⟨p, hp⟩
  have hb := (near_bnds hn (by omega)).2 hf
  obtain ⟨a1, a2, a3⟩ := along_ok hb hd
  obtain ⟨l1, l2, x1, x2, y1, y2, -⟩ := hd
  simp only at l1 l2 x1 x2 y1 y2
  obtain ⟨e1, e2⟩ := Rch.unique (by omega) (rch_ok hf (by omega) ⟨x1, x2⟩ ⟨y1, y2⟩) h
  have := Along_any A L c x y len W (by unfold maxLen; omega) hs (near_allI hn) (by unfold I64; omega) (by unfold I64; omega)
  rw [a1, a2, a3, e1, e2, hL] at this
  exact this
theorem dir_345 : DirOk ⟨3, 4, 5⟩ := ⟨by decide, by decide, by decide, by decide, by decide, by decide, by decide⟩
theorem dir_4m35 : DirOk ⟨4, -3, 5⟩ := ⟨by decide, by decide, by decide, by decide, by decide, by decide, by decide⟩
theorem round_near {L : List Sgt} {sh : Nat} (h : ∀ s ∈ L, Near s) : ∀ s ∈ roundN L sh L.length, Near s := fun s hs => h s (round_mem.1 hs)
theorem take_near {L : List Sgt} {k : Nat} (h : ∀ s ∈ L, Near s) : ∀ s ∈ L.take k, Near s := fun s hs => h s (List.mem_of_mem_take hs)
/-- All that the law looks at. -/
structure FewI (E : List EyeN) (L : List Sgt) (n : Nat) (u v less : Int) (sh kq : Nat) (p1 p2 p3 p4 q1 q2 q3 q4 t1 t2 t3 t4 s1 s2 : Int) : Prop where
  bL : ∀ (A : Option Addr) (c : Nat) (W : World), SgtsH W A L → Calls Try.prog 17 #[.slice A n c] W fun e w' => e = .returned (.tuple #[.agg #[.int .i64 p1, .int .i64 p2, .int .i64 p3, .int .i64 p4], .int .i64 0]) ∧ Below W.heap.size W w'
  bK : ∀ (A : Option Addr) (c : Nat) (W : World), SgtsH W A (L.take kq) → Calls Try.prog 17 #[.slice A kq c] W fun e w' => e = .returned (.tuple #[.agg #[.int .i64 q1, .int .i64 q2, .int .i64 q3, .int .i64 q4], .int .i64 0]) ∧ Below W.heap.size W w'
  bT : ∀ (A : Option Addr) (c : Nat) (W : World), SgtsH W A ((E.map (tightE less)).map (eyeT u v)) → Calls Try.prog 17 #[.slice A n c] W fun e w' => e = .returned (.tuple #[.agg #[.int .i64 t1, .int .i64 t2, .int .i64 t3, .int .i64 t4], .int .i64 0]) ∧ Below W.heap.size W w'
  bR : ∀ (A : Option Addr) (c : Nat) (W : World), SgtsH W A (roundN L sh n) → Calls Try.prog 17 #[.slice A n c] W fun e w' => e = .returned (.tuple #[.agg #[.int .i64 p1, .int .i64 p2, .int .i64 p3, .int .i64 p4], .int .i64 0]) ∧ Below W.heap.size W w'
  bU : ∀ (A : Option Addr) (c : Nat) (W : World), SgtsH W A (L.map turnS) → Calls Try.prog 17 #[.slice A n c] W fun e w' => e = .returned (.tuple #[.agg #[.int .i64 p3, .int .i64 p4, .int .i64 (-p2), .int .i64 (-p1)], .int .i64 0]) ∧ Below W.heap.size W w'
  aL : ∀ (A : Option Addr) (c : Nat) (W : World), SgtsH W A L → Calls Try.prog 19 #[.slice A n c, .int .i64 3, .int .i64 4, .int .i64 5] W fun e w' => e = .returned (.tuple #[.agg #[.int .i64 s1, .int .i64 s2], .int .i64 0]) ∧ Below W.heap.size W w'
  aU : ∀ (A : Option Addr) (c : Nat) (W : World), SgtsH W A (L.map turnS) → Calls Try.prog 19 #[.slice A n c, .int .i64 4, .int .i64 (-3), .int .i64 5] W fun e w' => e = .returned (.tuple #[.agg #[.int .i64 s1, .int .i64 s2], .int .i64 0]) ∧ Below W.heap.size W w'
  k1 : q1 ≤ p1 ∧ p2 ≤ q2 ∧ p1 ≤ p2
  k2 : q3 ≤ p3 ∧ p4 ≤ q4 ∧ p3 ≤ p4
  t1 : p1 ≤ t1 ∧ t2 ≤ p2 ∧ t1 ≤ t2
  t2 : p3 ≤ t3 ∧ t4 ≤ p4 ∧ t3 ≤ t4
  bd : -400000 ≤ p1 ∧ p1 ≤ 400000 ∧ -400000 ≤ p2 ∧ p2 ≤ 400000
theorem fewI {E : List EyeN} {n : Nat} {u v less : Int} {sh kq : Nat} (hn : E.length = n) (hmax : n ≤ 10) (he : ∀ e ∈ E, EyeOk e) (hu : -32768 ≤ u ∧ u ≤ 32767) (hv : -32768 ≤ v ∧ v ≤ 32767) (hl : 0 ≤ less) (hk : kq ≤ n) :
    ∃ p1 p2 p3 p4 q1 q2 q3 q4 t1 t2 t3 t4 s1 s2, FewI E (E.map (eyeT u v)) n u v less sh kq p1 p2 p3 p4 q1 q2 q3 q4 t1 t2 t3 t4 s1 s2 := by
  have hnr := eyes_near (u := u) (v := v) he hu hv
  have hfe := eyes_feas (u := u) (v := v) he hu hv
  have hnt := eyes_near (u := u) (v := v) (tights_ok he hl) hu hv
  have hft := eyes_feas (u := u) (v := v) (tights_ok he hl) hu hv
  have hti := fun p hp => tight_inn (u := u) (v := v) (p := p) he hl hp
  have hlt : ((E.map (tightE less)).map (eyeT u v)).length = n := by rw [List.length_map, List.length_map, hn]
  have hll : (E.map (eyeT u v)).length = n := by rw [List.length_map, hn]
  obtain ⟨T, hT⟩ : ∃ T, (E.map (tightE less)).map (eyeT u v) = T := ⟨_, rfl⟩
  have hTc : ∀ W A, SgtsH W A ((E.map (tightE less)).map (eyeT u v)) → SgtsH W A T := fun W A h => by rw [← hT]; exact h
  rw [hT] at hnt hft hti hlt
  generalize E.map (eyeT u v) = L at *
  have F := few_of hfe
  have hfk : Feas (L.take kq) 0 := hfe.sub fun s hs => List.mem_of_mem_take hs
  have G := few_of hfk
  have H := few_of hft
  have hkl : (L.take kq).length = kq := by rw [List.length_take, hll]; omega
  have hrl : (roundN L sh n).length = n := by unfold roundN; simp
  have hul : (L.map turnS).length = n := by rw [List.length_map, hll]
  have S := rch_ok hfe (x := 3) (y := 4) (len := 5) (by omega) (by omega) (by omega)
  have hR : Few (roundN L sh n) _ _ _ _ := F.congr fun p => by rw [← hll]; exact inn_same fun s => (round_mem (sh := sh)).symm
  have k := F.inside G fun p hp => inn_sub hp fun s hs => List.mem_of_mem_take hs
  have t := H.inside F hti
  have b1 := F.u.bd (by omega) (by omega) (by omega)
  exact ⟨_, _, _, _, _, _, _, _, _, _, _, _, _, _,
    fun A c W hs => few_ans hnr (by omega) F A n c hll W hs,
    fun A c W hs => few_ans (take_near hnr) (by omega) G A kq c hkl W hs,
    fun A c W hs => few_ans hnt (by omega) H A n c hlt W (hTc W A hs),
    fun A c W hs => few_ans (by rw [← hll]; exact round_near hnr) (by omega) hR A n c hrl W hs,
    fun A c W hs => few_ans (turns_near hnr) (by omega) F.turn A n c hul W hs,
    fun A c W hs => along_ans hnr (by omega) dir_345 S A n c hll W hs,
    fun A c W hs => along_ans (turns_near hnr) (by omega) dir_4m35 (Rch.turn (by simpa using S)) A n c hul W hs,
    k.1, k.2, t.1, t.2, by omega⟩
end Go.Proofs.Ytllpffkifleigaa
end
section
namespace Go.Proofs.Ytllpffkifleigaa
open Go Go.RowKit

set_option maxHeartbeats 2000000 in
set_option maxRecDepth 100000 in
theorem possible_any (A : Option Addr) (n c : Nat) (L : List Sgt) (u v : Int) (w : World) (hL : L.length = n) (hmax : n ≤ 64) (hok : ∀ s ∈ L, SgtOk s) (hag : Agr L u v) (hu : -32768 ≤ u ∧ u ≤ 32767) (hv : -32768 ≤ v ∧ v ≤ 32767) (hSl : SlS w A c L) :
    Calls Try.prog 53 #[.slice A n c, .int .i64 u, .int .i64 v] w fun e w' => e = .returned (.bool true) ∧ Below w.heap.size w w' := by
  have hle : listE L = 0 := listE_ok.2 ⟨by omega, hok⟩
  have hin := agr_inn hag (by omega) (by omega)
  have hf : Feas L 0 := feas_inn.2 ⟨_, hin⟩
  have hgB := agrB_iff.2 hf
  have hAI := allI_of_ok hok
  have hbe : bndsE L = 0 := bndsE_iff.2 ⟨⟨by omega, hok⟩, hf⟩
  have e1 : agreeE L u v = 0 := by unfold agreeE; rw [if_neg (by rw [hle]; simp), if_pos (by unfold winB; rw [decide_eq_true_iff]; omega)]
  have e2 : agreeA L u v = true := by unfold agreeA; rw [e1, agrAll_iff.2 hag]; rfl
  have e3 : blameE L = 4 := by unfold blameE; rw [if_neg (by rw [hle]; simp), if_pos hgB]
  have e4 : blameA L = [] := by unfold blameA; rw [if_neg (by rw [e3]; simp)]
  have e5 : strainA L = 0 := by unfold strainA; rw [if_neg (by rw [hle]; simp), no_strain hok hf]
  have e6 : withoutE L 1 = 0 := by
    unfold withoutE
    rw [if_neg (by rw [hle]; simp), if_pos (by omega), none_out hf]
    rfl
  have e7 : withoutA L 1 = [] := by unfold withoutA; rw [if_pos e6, none_out hf]; rfl
  have e8 : frontE L = 4 := by unfold frontE; rw [if_neg (by rw [hle]; simp), if_neg (by omega), if_pos hgB]
  have e9 : frontA L = (0, 0) := by unfold frontA; rw [if_neg (by rw [e8]; simp)]
  obtain ⟨a1, a2, a3⟩ := along_ok hbe dir_345
  have R1 := (rch_ok hf (x := 1) (y := 0) (len := 1) (by omega) (by omega) (by omega)).within hin
  have R2 := (rch_ok hf (x := 0) (y := 1) (len := 1) (by omega) (by omega) (by omega)).within hin
  have R3 := (rch_ok hf (x := 3) (y := 4) (len := 5) (by omega) (by omega) (by omega)).within hin
  have B1 := (rch_ok hf (x := 3) (y := 4) (len := 5) (by omega) (by omega) (by omega)).bd (by omega) (by omega) (by omega)
  unfold val at R1 R2 R3
  have g1 := fun (W : World) (hs : SgtsH W A L) => Agree_any A L c u v W (by unfold maxLen; omega) hs hAI
  have g2 := fun (W : World) (hs : SgtsH W A L) => Bounds_any A L c W (by unfold maxLen; omega) hs hAI
  have g3 := fun (W : World) (hs : SgtsH W A L) => Along_any A L c 3 4 5 W (by unfold maxLen; omega) hs hAI (by unfold I64; omega) (by unfold I64; omega)
  have g4 := fun (W : World) (hs : SgtsH W A L) => Blame_any A L c W (by unfold maxLen; omega) hs hAI
  have g5 := fun (W : World) (hs : SgtsH W A L) => Strain_any A L c W (by unfold maxLen; omega) hs hAI
  have g6 := fun (W : World) (hs : SgtsH W A L) => Without_any A L c 1 W (by unfold maxLen; omega) hs hAI
  have g7 := fun (W : World) (hs : SgtsH W A L) => Front_any A L c W (by unfold maxLen; omega) hSl.1 hs hAI
  simp only [bnds_ok hbe] at g2
  rw [e1, e2, hL] at g1
  rw [hbe, hL] at g2
  rw [a1, a2, a3, hL] at g3
  rw [e3, e4, hL] at g4
  rw [e5, hle, hL] at g5
  rw [e6, e7, hL] at g6
  rw [e8, e9, hL] at g7
  unfold SetPost at g4 g6
  generalize loL 1 0 1 240000 (cs0 L) = p1 at *
  generalize hiL 1 0 1 240000 (cs0 L) = p2 at *
  generalize loL 0 1 1 240000 (cs0 L) = p3 at *
  generalize hiL 0 1 1 240000 (cs0 L) = p4 at *
  generalize loL 3 4 5 240000 (cs0 L) = p5 at *
  generalize hiL 3 4 5 240000 (cs0 L) = p6 at *
  simp only at R1 R2 R3
  have k1 : p1 ≤ u := by omega
  have k2 : u ≤ p2 := by omega
  have k3 : p3 ≤ v := by omega
  have k4 : v ≤ p4 := by omega
  have k5 : 5 * p5 ≤ 3 * u + 4 * v := by omega
  have k6 : 3 * u + 4 * v ≤ 5 * p6 := by omega
  obtain ⟨b1, b2, b3, b4⟩ := B1
  obtain ⟨u1, u2⟩ := hu
  obtain ⟨v1, v2⟩ := hv
  have G1 := hide g1
  have G2 := hide g2
  have G3 := hide g3
  have G4 := hide g4
  have G5 := hide g5
  have G6 := hide g6
  have G7 := hide g7
  have HS := hide hSl
  clear g1 g2 g3 g4 g5 g6 g7 hSl
  clear hle hin hf hgB hAI hbe e1 e2 e3 e4 e5 e6 e7 e8 e9 a1 a2 a3 R1 R2 R3 hok hag hL
  go_enter Try.func53, Try.ntmps53
  have HM := hide (Mem.start w)
  go_wp2_with fail
  refine (G1.out _ HS.out.sgts).mono ?_
  rintro e w1 ⟨rfl, hb⟩
  replace HM := hide (HM.out.later hb)
  replace HS := hide (HS.out.later hb)
  clear hb
  go_wp2_with fail
  refine (G2.out _ HS.out.sgts).mono ?_
  rintro e w2 ⟨rfl, hb⟩
  replace HM := hide (HM.out.later hb)
  replace HS := hide (HS.out.later hb)
  clear hb
  go_upto_region 3 with fail
  refine code_world fun w3 hW => ?_
  have HMn := Mem.to (Mem.allocAt HM.out w2.heap.size rfl #[.int .i64 p1, .int .i64 p2, .int .i64 p3, .int .i64 p4] 34) hW
  have LW : Later w2 w3 := by rw [hW]; exact ((Below.refl _ _).alloc (Nat.le_refl _) _)
  have szW : w3.heap.size = w2.heap.size + 1 := by rw [hW]; simp
  clear hW
  replace HS := hide (HS.out.later LW)
  replace HM := hide HMn
  clear HMn LW
  clear szW
  generalize hgw : w2.heap.size = gw at HM ⊢
  clear hgw
  go_wp2_with fail
  refine (G3.out _ HS.out.sgts).mono ?_
  rintro e w4 ⟨rfl, hb⟩
  replace HM := hide (HM.out.later hb)
  replace HS := hide (HS.out.later hb)
  clear hb
  go_upto_region 4 with fail
  refine code_world fun w5 hW => ?_
  have HMn := Mem.to (Mem.allocAt HM.out w4.heap.size rfl #[.int .i64 p5, .int .i64 p6] 32) hW
  have LW : Later w4 w5 := by rw [hW]; exact ((Below.refl _ _).alloc (Nat.le_refl _) _)
  have szW : w5.heap.size = w4.heap.size + 1 := by rw [hW]; simp
  clear hW
  replace HS := hide (HS.out.later LW)
  replace HM := hide HMn
  clear HMn LW
  clear szW
  generalize hga : w4.heap.size = ga at HM ⊢
  clear hga
  go_wp2_with fail
  refine (G4.out _ HS.out.sgts).mono ?_
  rintro e w6 ⟨A2, c2, rfl, hb, hs2⟩
  replace HM := hide (HM.out.later hb)
  replace HS := hide (HS.out.later hb)
  clear hb
  clear hs2
  go_wp2_with fail
  refine (G5.out _ HS.out.sgts).mono ?_
  rintro e w7 ⟨rfl, hb⟩
  replace HM := hide (HM.out.later hb)
  replace HS := hide (HS.out.later hb)
  clear hb
  go_wp2_with fail
  refine (G6.out _ HS.out.sgts).mono ?_
  rintro e w8 ⟨A3, c3, rfl, hb, hs2⟩
  replace HM := hide (HM.out.later hb)
  replace HS := hide (HS.out.later hb)
  clear hb
  clear hs2
  go_wp2_with fail
  refine (G7.out _ HS.out.sgts).mono ?_
  rintro e w9 ⟨rfl, hb⟩
  replace HM := hide (HM.out.later hb)
  replace HS := hide (HS.out.later hb)
  clear hb
  go_upto_region 8 with fail
  have ba : Blk w9 ga 32 #[.int .i64 p5, .int .i64 p6] := HM.out.get 0 rfl
  have lta := ba.lt
  have a0 := ba.c 0 rfl
  have a1 := ba.c 1 rfl
  have bd : Blk w9 gw 34 #[.int .i64 p1, .int .i64 p2, .int .i64 p3, .int .i64 p4] := HM.out.get 1 rfl
  have ltd := bd.lt
  have d0 := bd.c 0 rfl
  have d1 := bd.c 1 rfl
  have d2 := bd.c 2 rfl
  have d3 := bd.c 3 rfl
  simp only [List.append]
  go_wp2
  exact bodyPost_ret (v := .bool true) (by simp [results, Try.results53, go_sem]) rfl ⟨rfl, HM.out.below⟩
end Go.Proofs.Ytllpffkifleigaa
end
section
namespace Go.Proofs.Ytllpffkifleigaa
open Go Go.RowKit

set_option maxHeartbeats 1000000 in
set_option maxRecDepth 100000 in
theorem seen_any (s : ByteArray) (x y z r g st wd a t u v w8 le mo : Int) (bt bu bv bw bm bl : Nat) (w : World) (h : TruA r t a u v (w8 * 10) (le % 200) (mo % 200) 0 0) (hle : 0 ≤ le ∧ le ≤ 65535) (hmo : 0 ≤ mo ∧ mo ≤ 65535) (hw8 : -128 ≤ w8 ∧ w8 ≤ 127)
    (ht : Blk w bt 3 #[.int .i64 t]) (hu : Blk w bu 59 #[.int .i16 u]) (hv : Blk w bv 59 #[.int .i16 v]) (hw : Blk w bw 109 #[.int .i8 w8]) (hm : Blk w bm 66 #[.int .u16 mo]) (hl : Blk w bl 66 #[.int .u16 le]) :
    Calls Try.prog 50 #[siteV s x y z r g st wd, .int .i64 a, .pointer (some ⟨bt, 0, none⟩), .pointer (some ⟨bu, 0, none⟩), .pointer (some ⟨bv, 0, none⟩), .pointer (some ⟨bw, 0, none⟩), .pointer (some ⟨bm, 0, none⟩), .pointer (some ⟨bl, 0, none⟩)] w fun e w' =>
      e = .returned (.agg #[.int .i64 (spLo r t a u v (w8 * 10) (mo % 200)), .int .i64 (spHi r t a u v (w8 * 10) (le % 200))]) ∧ Below w.heap.size w w' := by
  have hsb := sp_bd h
  have hnb := numZ_bd h
  obtain ⟨r0, r1, t0, t1, a0, a1, u0, u1, v0, v1, w0, w1, -⟩ := h
  obtain ⟨l0, l1⟩ := hle
  obtain ⟨m0, m1⟩ := hmo
  obtain ⟨w2, w3⟩ := hw8
  obtain ⟨c1, c2, n1, n2, d1, d2⟩ := slant_bd t0 t1
  have dk := dir_ok2 r0 r1 a0 a1
  have hD := fun W => Direction_any (2 * r) (2 * a + 1) W
  have hS := fun W => Slant_any t W
  have hdr : dirR (2 * r) (2 * a + 1) = (dirV (2 * r) (2 * a + 1), 0) := by
    unfold dirR
    rw [if_pos]
    unfold okD
    rw [Bool.and_eq_true]
    exact ⟨winB_iff.2 ⟨by omega, by omega⟩, winB_iff.2 ⟨by omega, by omega⟩⟩
  have hsr : slantR t = (slantV t, 0) := by
    unfold slantR
    rw [if_pos (winB_iff.2 ⟨by omega, by omega⟩)]
  rw [hdr] at hD
  rw [hsr] at hS
  unfold vecE at hD hS
  simp only at hD hS
  unfold siteV spLo spHi
  unfold spLo spHi at hsb
  obtain ⟨-, -, -, -, -, f1, f2, f3, f4⟩ := hsb
  obtain ⟨g1, g2, g3, g4⟩ := hnb
  have t3 : le.tmod 200 = le % 200 := Int.tmod_eq_emod_of_nonneg l0
  have t4 : mo.tmod 200 = mo % 200 := Int.tmod_eq_emod_of_nonneg m0
  have l2 : 0 ≤ le % 200 ∧ le % 200 ≤ 199 := by omega
  have m2 : 0 ≤ mo % 200 ∧ mo % 200 ≤ 199 := by omega
  generalize le % 200 = lq at *
  generalize mo % 200 = mq at *
  have hN : numZ r t a u v (w8 * 10) = (u * (dirV (2 * r) (2 * a + 1)).x + v * (dirV (2 * r) (2 * a + 1)).y) * (slantV t).x + w8 * 10 * (slantV t).y * (dirV (2 * r) (2 * a + 1)).l := rfl
  have hE : denZ r t a = (dirV (2 * r) (2 * a + 1)).l * (slantV t).l := rfl
  generalize numZ r t a u v (w8 * 10) = N at *
  generalize denZ r t a = D at *
  obtain ⟨k1, k2, x1, x2, y1, y2, -⟩ := dk
  generalize (slantV t).x = C at *
  generalize (slantV t).y = S at *
  generalize (slantV t).l = K at *
  generalize (dirV (2 * r) (2 * a + 1)).x = X at *
  generalize (dirV (2 * r) (2 * a + 1)).y = Y at *
  generalize (dirV (2 * r) (2 * a + 1)).l = L at *
  have p1 := abs_mul (X := 32768) (Y := 64800) (show -32768 ≤ u by omega) (by omega) (show -64800 ≤ X by omega) (by omega)
  have p2 := abs_mul (X := 32768) (Y := 64800) (show -32768 ≤ v by omega) (by omega) (show -64800 ≤ Y by omega) (by omega)
  have q1 := abs_mul (x := u * X + v * Y) (y := C) (X := 65536 * 64800) (Y := 262144) (by omega) (by omega) (by omega) c2
  have q2 := abs_mul (x := w8 * 10) (y := S) (X := 1280) (Y := 262144) (by omega) (by omega) (by omega) n2
  have q3 := abs_mul (x := w8 * 10 * S) (y := L) (X := 1280 * 262144) (Y := 64800) (by omega) (by omega) (by omega) k2
  have hL1 : ¬ L < 1 := by omega
  have hK1 : ¬ K < 1 := by omega
  obtain ⟨P, hP⟩ : ∃ P, u * X + v * Y = P := ⟨_, rfl⟩
  have H1 := fun W => ldown_any N D W (by omega) (by omega) (by omega) (by omega)
  have H2 := fun W => ldown_any (-N) D W (by omega) (by omega) (by omega) (by omega)
  generalize N / D = z1 at *
  generalize -N / D = z2 at *
  obtain ⟨p1, p1'⟩ := p1
  obtain ⟨p2, p2'⟩ := p2
  obtain ⟨q1, q1'⟩ := q1
  obtain ⟨q2, q2'⟩ := q2
  obtain ⟨q3, q3'⟩ := q3
  obtain ⟨l2, l3⟩ := l2
  obtain ⟨m2, m3⟩ := m2
  have hE2 := hE.symm
  have hN2 := hN.symm
  clear hN hE hP P
  have HD := hide hD
  have HS := hide hS
  have HA1 := hide H1
  have HA2 := hide H2
  have HBT := hide ht
  have HBU := hide hu
  have HBV := hide hv
  have HBW := hide hw
  have HBM := hide hm
  have HBL := hide hl
  have HN2 := hide hN2
  have HE2 := hide hE2
  clear hD hS H1 H2 ht hu hv hw hm hl hN2 hE2
  clear hdr hsr
  go_enter Try.func50, Try.ntmps50
  have HM := hide (Mem.start w)
  go_upto_region 1 with fail
  refine code_world fun W1 hW => ?_
  have HMn := Mem.to (Mem.allocAt (Mem.allocAt HM.out w.heap.size rfl #[.string s, .int .i64 x, .int .i64 y, .int .i64 z, .int .i64 r, .int .i64 g, .int .i64 st, .int .i64 wd] 83) (w.heap.size + 1) (by simp) #[.int .i64 0, .int .i64 0] 32) hW
  have LW : Later w W1 := by rw [hW]; exact (((Below.refl _ _).alloc (Nat.le_refl _) _).alloc (by simp; try omega) _)
  have szW : W1.heap.size = w.heap.size + 2 := by rw [hW]; simp
  clear hW
  replace HM := hide HMn
  clear HMn LW
  clear szW
  generalize hg1 : w.heap.size + 1 = gr at HM ⊢
  generalize hg0 : w.heap.size = gs at HM ⊢
  have bc : Blk W1 gs 83 #[.string s, .int .i64 x, .int .i64 y, .int .i64 z, .int .i64 r, .int .i64 g, .int .i64 st, .int .i64 wd] := HM.out.get 1 rfl
  have ltc := bc.lt
  have c0 := bc.c 0 rfl
  have c1 := bc.c 1 rfl
  have c2 := bc.c 2 rfl
  have c3 := bc.c 3 rfl
  have c4 := bc.c 4 rfl
  have c5 := bc.c 5 rfl
  have c6 := bc.c 6 rfl
  have c7 := bc.c 7 rfl
  go_wp2_with fail
  refine (HD.out _).mono ?_
  rintro e W2 ⟨rfl, hb⟩
  replace HM := hide (HM.out.later hb)
  clear hb bc ltc c0 c1 c2 c3 c4 c5 c6 c7
  have ct := (blk_belowN HBT.out HM.out.below HBT.out.lt).c 0 rfl
  have ctl := (blk_belowN HBT.out HM.out.below HBT.out.lt).lt
  go_wp2_with fail
  clear ct ctl
  refine (HS.out _).mono ?_
  rintro e W3 ⟨rfl, hb⟩
  replace HM := hide (HM.out.later hb)
  clear hb
  have cu := (blk_belowN HBU.out HM.out.below HBU.out.lt).c 0 rfl
  have cul := (blk_belowN HBU.out HM.out.below HBU.out.lt).lt
  have cv := (blk_belowN HBV.out HM.out.below HBV.out.lt).c 0 rfl
  have cvl := (blk_belowN HBV.out HM.out.below HBV.out.lt).lt
  have cw := (blk_belowN HBW.out HM.out.below HBW.out.lt).c 0 rfl
  have cwl := (blk_belowN HBW.out HM.out.below HBW.out.lt).lt
  go_upto_region 6 with fail
  clear cu cul cv cvl cw cwl
  have cm := (blk_belowN HBM.out HM.out.below HBM.out.lt).c 0 rfl
  have cml := (blk_belowN HBM.out HM.out.below HBM.out.lt).lt
  have cl := (blk_belowN HBL.out HM.out.below HBL.out.lt).c 0 rfl
  have cll := (blk_belowN HBL.out HM.out.below HBL.out.lt).lt
  rw [HN2.out]
  have nb1 : -2000000000000000 ≤ N := by omega
  have nb2 : N ≤ 2000000000000000 := by omega
  have hE3 := HE2.out
  clear q1 q1' q2 q2' q3 q3' p1 p1' p2 p2' g3 g4
  refine wp_region_cut 20 (by kernel_rfl) (by simp only [List.take_succ_cons, List.take_zero]; exact rfl) (by simp only [List.drop_succ_cons, List.drop_zero]; exact rfl) (by kernel_rfl) ?_
  apply any_region_J (w0 := W3) [[], [], [], [], [], [], [], [], [], [], [], [], [], [], [], [], [], [], [], []] [true, true, true, true, true, true, true, true, true, true, true, true, true, true, true, true, true, true, true, true] [] (fun ixq y => match ixq with  | _ => undef) (fun ixq x F wq => match ixq with  | _ => True) (fun a x => a) (by kernel_rfl) (fun _ => rfl) [77, 87] (by kernel_rfl)
  · intro x D hD
    have hne := hD.some
    have k0 := liftB hD cm (by first | assumption | omega)
    have k1 := liftB hD cl (by first | assumption | omega)
    simp only [takeOps, Act.put, List.setIfInBounds_toArray, List.set_cons_succ, List.set_cons_zero]
    repeat (go_big_quiet_step ((go_at_call 52; first | (with_reducible exact calls_later hD _ (HA1.out _)) | (with_reducible exact calls_later hD _ (HA2.out _)))))
    exact wpQuiet_nil rfl
  · intro d hd x x'
    simp only [List.mem_cons, List.not_mem_nil, or_false] at hd
    rcases hd with rfl | rfl
    all_goals rfl
  · exact trivial
  · exact trivial
  intro xx w5 F hL hlv1 hap1
  clear hap1
  clear hlv1
  refine ⟨rfl, ?_⟩
  clear cm cml cl cll
  replace HM := hide (HM.out.later hL)
  clear hL
  go_wp2_with fail
  refine (span_any _ _ _).mono ?_
  rintro e w6 ⟨rfl, hb⟩
  replace HM := hide (HM.out.later hb)
  clear hb
  have bk : Blk w6 gr 32 #[.int .i64 0, .int .i64 0] := HM.out.get 0 rfl
  have ltk := bk.lt
  have k0 := bk.c 0 rfl
  have fk0 := bk.frozen 0
  have k1 := bk.c 1 rfl
  have fk1 := bk.frozen 1
  go_wp2
  have HM1 := hide ((HM.out.set_ 0 rfl 0 (.int .i64 (z1 - mq)) rfl).set_ 0 rfl 1 (.int .i64 (-z2 + lq)) rfl)
  have s0 := (HM1.out.blk_ 0 rfl).c 0 rfl
  have s1 := (HM1.out.blk_ 0 rfl).c 1 rfl
  have lts := (HM1.out.blk_ 0 rfl).lt
  refine ret_world fun V1 hW1 => ?_
  rw [← hW1] at HM1 s0 s1 lts
  exact bodyPost_ret (v := .agg #[.int .i64 (z1 - mq), .int .i64 (-z2 + lq)]) (by simp [results, Try.results50, go_sem, s0, s1, lts]) rfl ⟨rfl, by first | exact HM1.out.below | (rw [← hg0]; exact HM1.out.below)⟩
end Go.Proofs.Ytllpffkifleigaa
end
section
namespace Go.Proofs.Ytllpffkifleigaa
open Go Go.RowKit

set_option maxHeartbeats 4000000 in
set_option maxRecDepth 100000 in
theorem WindTruth_any (A : Option Addr) (n c : Nat) (Z : List Int) (u v w8 ro ti le mo px py : Int) (w : World) (hn : Z.length = n) (hmax : n ≤ maxLen) (hA : Ints w w.heap.size .u8 A Z) (hz : ∀ z ∈ Z, 0 ≤ z ∧ z ≤ 255) (hu : -32768 ≤ u ∧ u ≤ 32767) (hv : -32768 ≤ v ∧ v ≤ 32767) (hw : -128 ≤ w8 ∧ w8 ≤ 127)
    (hro : 0 ≤ ro ∧ ro ≤ 255) (hti : 0 ≤ ti ∧ ti ≤ 255) (hle : 0 ≤ le ∧ le ≤ 65535) (hmo : 0 ≤ mo ∧ mo ≤ 65535) (hx : -32768 ≤ px ∧ px ≤ 32767) (hy : -32768 ≤ py ∧ py ≤ 32767) :
    Calls Try.prog 11 #[.int .i16 u, .int .i16 v, .int .i8 w8, .int .u8 ro, .int .u8 ti, .slice A n c, .int .u16 le, .int .u16 mo, .int .i16 px, .int .i16 py] w fun e w' => e = .returned (.bool true) ∧ Below w.heap.size w w' := by
  by_cases h10 : 10 < n
  · have h10' : (10 : Int) < n := by omega
    clear hA hz hn
    go_enter Try.func11, Try.ntmps11
    have HM := hide (Mem.start w)
    go_upto_region 1 with fail
    refine code_world fun w1 hW => ?_
    have HMn := Mem.to (Mem.allocAt (Mem.allocAt (Mem.allocAt (Mem.allocAt (Mem.allocAt HM.out w.heap.size rfl #[.int .i16 u] 59) (w.heap.size + 1) (by simp) #[.int .i16 v] 59) (w.heap.size + 2) (by simp) #[.int .i8 w8] 109) (w.heap.size + 3) (by simp) #[.int .u16 le] 66) (w.heap.size + 4) (by simp) #[.int .u16 mo] 66) hW
    have LW : Later w w1 := by rw [hW]; exact ((((((Below.refl _ _).alloc (Nat.le_refl _) _).alloc (by simp; try omega) _).alloc (by simp; try omega) _).alloc (by simp; try omega) _).alloc (by simp; try omega) _)
    have szW : w1.heap.size = w.heap.size + 5 := by rw [hW]; simp
    clear hW
    replace HM := hide HMn
    clear HMn LW
    clear szW
    go_wp2_with fail
    refine (works_any _).mono ?_
    rintro e w2 ⟨rfl, hb⟩
    replace HM := hide (HM.out.later hb)
    clear hb
    go_wp2
    exact bodyPost_ret (v := .bool true) (by simp [results, Try.results11, go_sem]) rfl ⟨rfl, HM.out.below⟩
  · obtain ⟨u0, u1⟩ := hu
    obtain ⟨v0, v1⟩ := hv
    obtain ⟨w0, wk⟩ := hw
    have hle' := hle
    have hmo' := hmo
    obtain ⟨le0, le1⟩ := hle
    obtain ⟨mo0, mo1⟩ := hmo
    have r1 : ro.tmod 30 = ro % 30 := Int.tmod_eq_emod_of_nonneg hro.1
    have r2 : ti.tmod 60 = ti % 60 := Int.tmod_eq_emod_of_nonneg hti.1
    have r3 : le.tmod 500 = le % 500 := Int.tmod_eq_emod_of_nonneg le0
    have r4 : mo.tmod 500 = mo % 500 := Int.tmod_eq_emod_of_nonneg mo0
    have rb : 0 ≤ ro % 30 ∧ ro % 30 ≤ 29 := by omega
    have tb : 0 ≤ ti % 60 ∧ ti % 60 ≤ 59 := by omega
    have l5b : 0 ≤ le % 500 ∧ le % 500 ≤ 499 := by omega
    have m5b : 0 ≤ mo % 500 ∧ mo % 500 ≤ 499 := by omega
    have l2b : 0 ≤ le % 200 ∧ le % 200 ≤ 199 := by omega
    have m2b : 0 ≤ mo % 200 ∧ mo % 200 ≤ 199 := by omega
    have hSE := fun (r' a X Y t : Int) (bt bu bv bw bm bl : Nat) (W : World) h => seen_any nameS X Y 0 r' 200 1000 0 a t u v w8 le mo bt bu bv bw bm bl W h hle' hmo' ⟨w0, wk⟩
    obtain ⟨wz, hwz⟩ : ∃ z, w8 * 10 = z := ⟨_, rfl⟩
    rw [hwz] at hSE
    have wz0 : -1280 ≤ wz := by omega
    have wz1 : wz ≤ 1270 := by omega
    generalize le % 500 = l5 at *
    generalize mo % 500 = m5 at *
    generalize le % 200 = l2 at *
    generalize mo % 200 = m2 at *
    obtain ⟨rq, hrq⟩ : ∃ r, ro % 30 = r := ⟨_, rfl⟩
    obtain ⟨t, ht⟩ : ∃ r, ti % 60 = r := ⟨_, rfl⟩
    rw [hrq] at r1 rb
    rw [ht] at r2 tb
    obtain ⟨t0, t1⟩ := tb
    obtain ⟨rb0, rb1⟩ := rb
    obtain ⟨r, hr⟩ : ∃ r, 1 + rq = r := ⟨_, rfl⟩
    have rr0 : 1 ≤ r := by omega
    have rr1 : r ≤ 30 := by omega
    obtain ⟨l50, l51⟩ := l5b
    obtain ⟨m50, m51⟩ := m5b
    have hT : ∀ r', 1 ≤ r' → r' ≤ 30 → ∀ a, 0 ≤ a → a ≤ 4 * r' - 1 → TruA r' t a u v wz l2 m2 l5 m5 := fun r' h1 h2 a a0 a1 => ⟨h1, by omega, t0, by omega, a0, a1, u0, u1, v0, v1, wz0, wz1, l2b.1, l2b.2, m2b.1, m2b.2, l50, l51, m50, m51⟩
    have hS : ∀ (r' a X Y : Int) (bt bu bv bw bm bl : Nat) (W : World), 1 ≤ r' → r' ≤ 30 → 0 ≤ a → a ≤ 4 * r' - 1 → _ := fun r' a X Y bt bu bv bw bm bl W h1 h2 a0 a1 => hSE r' a X Y t bt bu bv bw bm bl W ⟨h1, by omega, t0, by omega, a0, a1, u0, u1, v0, v1, wz0, wz1, l2b.1, l2b.2, m2b.1, m2b.2, by omega, by omega, by omega, by omega⟩
    unfold siteV nameS at hS
    clear hSE l2b m2b
    have hring := fun z => ring_here (z := z) (hT r rr0 rr1) rr0
    obtain ⟨Q, hQ⟩ : ∃ Q, Z.map (ringQ r t u v wz l2 m2) = Q := ⟨_, rfl⟩
    have hQn : Q.length = n := by rw [← hQ, List.length_map, hn]
    have hQl : ∀ q ∈ Q, lookE 0 r t q.a q.lo q.hi (wz - l5) (wz + m5) = 0 := fun q hq => by
      rw [← hQ] at hq
      obtain ⟨z, -, rfl⟩ := List.mem_map.1 hq
      exact (hring z).1
    have hgl : gateE 0 t (wz - l5) (wz + m5) = 0 := by
      unfold gateE
      rw [if_neg (by simp), if_pos]
      refine ⟨winB_iff.2 ⟨t0, by omega⟩, ?_⟩
      unfold spnB
      rw [decide_eq_true_iff]
      omega
    obtain ⟨L1, hL1⟩ : ∃ L, Q.map (ringS r t (wz - l5) (wz + m5)) = L := ⟨_, rfl⟩
    have hL1ok : ∀ s ∈ L1, SgtOk s ∧ Agr1 s u v := fun s hs => by
      rw [← hL1] at hs
      obtain ⟨q, hq, rfl⟩ := List.mem_map.1 hs
      rw [← hQ] at hq
      obtain ⟨z, -, rfl⟩ := List.mem_map.1 hq
      exact (hring z).2
    have hL1n : L1.length = n := by rw [← hL1, List.length_map, hQn]
    have hRing := fun (A' : Option Addr) (c' : Nat) (W : World) (h : RaysAtW W A' Q) => ring_any A' n c' Q nameS 0 0 0 r 200 1000 0 t (wz - l5) (wz + m5) W hQn (by omega) (by show (1 : Nat) ≤ _; omega) (site_here rr0 rr1 (by omega) (by omega) (by omega) (by omega)) hgl hQl h
    rw [hL1] at hRing
    unfold siteV nameS at hRing
    have hkz : ∀ k, k < n → Q.getD k ray0 = ringQ r t u v wz l2 m2 (Z.getD k 0) := fun k hk => by
      rw [← hQ, List.getD_eq_getElem?_getD, List.getElem?_map, List.getD_eq_getElem?_getD, List.getElem?_eq_getElem (by omega)]
      rfl
    have hzk := fun k (hk : k < n) => hz _ (getD_memE (d := (0 : Int)) (show k < Z.length by omega))
    have hsn : ∀ k, k < n → (Q.take (k + 1)).flatMap rayV = (Q.take k).flatMap rayV ++ rayV (Q.getD k ray0) := fun k hk => flat_snoc (by omega)
    have hend : (Q.take n).flatMap rayV = Q.flatMap rayV := by rw [← hQn, List.take_length]
    have h00 : (Q.take 0).flatMap rayV = [] := rfl
    obtain ⟨K, hK⟩ : ∃ K : Nat → List Value, K = fun k => (Q.take k).flatMap rayV := ⟨_, rfl⟩
    have hKe : ∀ k, (Q.take k).flatMap rayV = K k := fun k => by rw [hK]
    simp only [hKe] at hsn hend h00
    have hsc : Ints w w.heap.size .u8 A Z := hA
    unfold Ints at hsc
    rw [hn] at hsc
    have hn10 : (n : Int) ≤ 10 := by omega
    have hn10' : ¬ (10 : Int) < n := by omega
    obtain ⟨x0, x1⟩ := hx
    obtain ⟨y0, y1⟩ := hy
    have h2ok := two_ok (x := px) (y := py) (r := r) x0 x1 y0 y1 rr0 t0 t1 hT
    obtain ⟨K2, hK2⟩ : ∃ K : Nat → List Value, (fun k => ((twoQ px py r t u v wz l2 m2 l5 m5).take k).flatMap seenV) = K := ⟨_, rfl⟩
    have h2k : ∀ k, k < 2 → ∃ X Y R ray slo shi g, TwoK k px py r t u v wz l2 m2 l5 m5 K2 X Y R ray slo shi g := fun k hk => by rw [← hK2]; exact two_here hk x0 x1 y0 y1 rr0 t0 t1
    have h20 : K2 0 = [] := by rw [← hK2]; rfl
    have h22 : K2 2 = (twoQ px py r t u v wz l2 m2 l5 m5).flatMap seenV := by rw [← hK2]; rfl
    obtain ⟨L2, hL2⟩ : ∃ L, (twoQ px py r t u v wz l2 m2 l5 m5).map (placeS 1000 2000) = L := ⟨_, rfl⟩
    have hL2n : L2.length = 2 := by rw [← hL2]; rfl
    have hPlace := fun (A' : Option Addr) (c' : Nat) (W : World) (h : SeensAt W A' (twoQ px py r t u v wz l2 m2 l5 m5)) => place_any A' 2 c' (twoQ px py r t u v wz l2 m2 l5 m5) 1000 2000 W rfl (by omega) h2ok.1 h
    rw [hL2] at hPlace h2ok
    have hL2ok := h2ok.2
    clear h2ok
    have hPs := fun (A' : Option Addr) (c' : Nat) (W : World) (h : SlS W A' c' (L1 ++ L2)) => possible_any A' (0 + n + 2) c' (L1 ++ L2) u v W (by rw [List.length_append, hL1n, hL2n]; omega) (by omega) (fun s hs => (List.mem_append.1 hs).elim (fun h => (hL1ok s h).1) (fun h => (hL2ok s h).1)) (fun s hs => (List.mem_append.1 hs).elim (fun h => (hL1ok s h).2) (fun h => (hL2ok s h).2)) ⟨u0, u1⟩ ⟨v0, v1⟩ h
    obtain ⟨S, hSq⟩ : ∃ S, twoQ px py r t u v wz l2 m2 l5 m5 = S := ⟨_, rfl⟩
    rw [hSq] at hPlace h22
    have hSn : S.length = 2 := by rw [← hSq]; rfl
    have H2K := hide h2k
    have H20 := hide h20
    have H22 := hide h22
    have HL2N := hide hL2n
    have HPL := hide hPlace
    have HPS2 := hide hPs
    have HSN2 := hide hSn
    clear h2k h20 h22 hL2n hPlace hPs hSn
    clear hK2 hL2 hL2ok hSq
    have HS := hide hS
    have HT := hide hT
    have HQN := hide hQn
    have HL1 := hide hL1ok
    have HL1N := hide hL1n
    have HRING := hide hRing
    have HKZ := hide hkz
    have HZK := hide hzk
    have HSN := hide hsn
    have HEND := hide hend
    have H00 := hide h00
    have HSC := hide hsc
    have HWZ := hide hwz
    have HR := hide hr
    clear hS hT hQn hL1ok hL1n hRing hkz hzk hsn hend h00 hsc hwz hr
    clear hring hQ hQl hgl hL1 hK hKe hA hz hn hle' hmo' hrq ht
    go_enter Try.func11, Try.ntmps11
    have HM := hide (Mem.start w)
    go_upto_region 1 with fail
    refine code_world fun w1 hW => ?_
    have HMn := Mem.to (Mem.allocAt (Mem.allocAt (Mem.allocAt (Mem.allocAt (Mem.allocAt HM.out w.heap.size rfl #[.int .i16 u] 59) (w.heap.size + 1) (by simp) #[.int .i16 v] 59) (w.heap.size + 2) (by simp) #[.int .i8 w8] 109) (w.heap.size + 3) (by simp) #[.int .u16 le] 66) (w.heap.size + 4) (by simp) #[.int .u16 mo] 66) hW
    have LW : Later w w1 := by rw [hW]; exact ((((((Below.refl _ _).alloc (Nat.le_refl _) _).alloc (by simp; try omega) _).alloc (by simp; try omega) _).alloc (by simp; try omega) _).alloc (by simp; try omega) _)
    have szW : w1.heap.size = w.heap.size + 5 := by rw [hW]; simp
    clear hW
    replace HM := hide HMn
    clear HMn LW
    clear szW
    generalize hg4 : w.heap.size + 4 = gm at HM ⊢
    generalize hg3 : w.heap.size + 3 = gl at HM ⊢
    generalize hg2 : w.heap.size + 2 = gw at HM ⊢
    generalize hg1 : w.heap.size + 1 = gv at HM ⊢
    generalize hg0 : w.heap.size = gu at HM ⊢
    clear hg1 hg2 hg3 hg4
    have hr5 := HR.out
    go_upto_region 4 with fail
    refine code_world fun w2 hW => ?_
    have HMn := Mem.to (Mem.allocAt HM.out w1.heap.size rfl #[.string ⟨#[115]⟩, .int .i64 0, .int .i64 0, .int .i64 0, .int .i64 r, .int .i64 200, .int .i64 1000, .int .i64 0] 83) hW
    have LW : Later w1 w2 := by rw [hW]; exact ((Below.refl _ _).alloc (Nat.le_refl _) _)
    have szW : w2.heap.size = w1.heap.size + 1 := by rw [hW]; simp
    clear hW
    replace HM := hide HMn
    clear HMn LW
    clear szW
    generalize hgS : w1.heap.size = gS at HM ⊢
    clear hgS
    go_upto_region 5 with fail
    refine code_world fun w3 hW => ?_
    have HMn := Mem.to (Mem.allocAt HM.out w2.heap.size rfl #[.int .i64 t] 3) hW
    have LW : Later w2 w3 := by rw [hW]; exact ((Below.refl _ _).alloc (Nat.le_refl _) _)
    have szW : w3.heap.size = w2.heap.size + 1 := by rw [hW]; simp
    clear hW
    replace HM := hide HMn
    clear HMn LW
    clear szW
    generalize hgt : w2.heap.size = gt at HM ⊢
    clear hgt
    have ba : Blk w3 gm 66 #[.int .u16 mo] := HM.out.get 2 rfl
    have lta := ba.lt
    have a0 := ba.c 0 rfl
    have bd : Blk w3 gl 66 #[.int .u16 le] := HM.out.get 3 rfl
    have ltd := bd.lt
    have d0 := bd.c 0 rfl
    have be : Blk w3 gw 109 #[.int .i8 w8] := HM.out.get 4 rfl
    have lte := be.lt
    have e0 := be.c 0 rfl
    have hwz5 := HWZ.out
    go_wp2_with fail
    refine (span_any _ _ _).mono ?_
    rintro e w4 ⟨rfl, hb⟩
    replace HM := hide (HM.out.later hb)
    clear hb ba lta a0 bd ltd d0 be lte e0
    clear hwz5
    go_upto_region 6 with fail
    refine code_world fun w5 hW => ?_
    have HMn := Mem.to (Mem.allocAt HM.out w4.heap.size rfl #[.int .i64 (wz - l5), .int .i64 (wz + m5)] 32) hW
    have LW : Later w4 w5 := by rw [hW]; exact ((Below.refl _ _).alloc (Nat.le_refl _) _)
    have szW : w5.heap.size = w4.heap.size + 1 := by rw [hW]; simp
    clear hW
    replace HM := hide HMn
    clear HMn LW
    clear szW
    generalize hgp : w4.heap.size = gp at HM ⊢
    clear hgp
    go_wp2_with fail
    have HM2 := hide (HM.out.nilRow gu 95 3)
    clear HM
    have HM := HM2
    clear HM2
    have hr6 := HR.out
    go_loopw [25, 69] (fun o i wr => ∃ (k : Nat) (A' : Option Addr) (c' : Nat), k ≤ n ∧ i = .int .i64 k ∧ o = .slice A' k c' ∧ Mem w [.row gu 95 3 (.slice A' k c') k (K k), .blk gp 32 #[.int .i64 (wz - l5), .int .i64 (wz + m5)], .blk gt 3 #[.int .i64 t], .blk gS 83 #[.string ⟨#[115]⟩, .int .i64 0, .int .i64 0, .int .i64 0, .int .i64 r, .int .i64 200, .int .i64 1000, .int .i64 0], .blk gm 66 #[.int .u16 mo], .blk gl 66 #[.int .u16 le], .blk gw 109 #[.int .i8 w8], .blk gv 59 #[.int .i16 v], .blk gu 59 #[.int .i16 u]] wr) (fun _ i _ => n - (intOf i).toNat)
    case atStart => exact ⟨0, none, 0, by omega, rfl, rfl, by rw [H00.out]; exact HM.out⟩
    case round =>
      obtain ⟨k, A', c', hk, rfl, rfl, hM⟩ := hrel
      clear HM
      have HM := hide hM
      clear hM
      by_cases hlt : k < n
      · have hlt2 : (k : Int) < n := by omega
        obtain ⟨b, off, rfl, hb0, hc⟩ := HSC.out (by omega)
        have hc1 := hc _ hlt
        have hkz := HKZ.out k hlt
        have hzk := HZK.out k hlt
        have hs1 := HSN.out k hlt
        rw [hkz] at hs1
        obtain ⟨z, hzz⟩ : ∃ z, Z.getD k 0 = z := ⟨_, rfl⟩
        rw [hzz] at hc1 hzk hs1
        rw [← HM.out.below.cell hb0] at hc1
        have ltb : b < wr.heap.size := Nat.lt_of_lt_of_le hb0 HM.out.size
        obtain ⟨z0, z1⟩ := hzk
        have hrt : z.tmod (4 * r) = z % (4 * r) := Int.tmod_eq_emod_of_nonneg z0
        have a0 := Int.emod_nonneg z (show 4 * r ≠ 0 by omega)
        have a1 := Int.emod_lt_of_pos z (show 0 < 4 * r by omega)
        unfold ringQ rayV at hs1
        obtain ⟨ra, hra⟩ : ∃ a, z % (4 * r) = a := ⟨_, rfl⟩
        rw [hra] at hrt a0 a1 hs1
        have C1 := HS.out r ra 0 0 gt gu gv gw gm gl
        obtain ⟨slo, hslo⟩ : ∃ s, spLo r t ra u v wz m2 = s := ⟨_, rfl⟩
        obtain ⟨shi, hshi⟩ : ∃ s, spHi r t ra u v wz l2 = s := ⟨_, rfl⟩
        simp only [hslo, hshi] at C1 hs1
        generalize K k = xs at *
        obtain ⟨i0, hii, hz0, hz1, hz2⟩ := info_parts rayInfo
        have Hi := hide hii
        have Hz0 := hide hz0
        have Hz1 := hide hz1
        have Hz2 := hide hz2
        have HC1 := hide C1
        have HS1 := hide hs1
        clear hii hz0 hz1 hz2 C1 hs1
        clear hc hkz hzz hra hslo hshi
        have bd : Blk wr gS 83 #[.string ⟨#[115]⟩, .int .i64 0, .int .i64 0, .int .i64 0, .int .i64 r, .int .i64 200, .int .i64 1000, .int .i64 0] := HM.out.get 3 rfl
        have ltd := bd.lt
        have d0 := bd.c 0 rfl
        have d1 := bd.c 1 rfl
        have d2 := bd.c 2 rfl
        have d3 := bd.c 3 rfl
        have d4 := bd.c 4 rfl
        have d5 := bd.c 5 rfl
        have d6 := bd.c 6 rfl
        have d7 := bd.c 7 rfl
        go_wp2_with fail
        refine (HC1.out _ rr0 rr1 a0 (by omega) (HM.out.get 2 rfl) (HM.out.get 8 rfl) (HM.out.get 7 rfl) (HM.out.get 6 rfl) (HM.out.get 4 rfl) (HM.out.get 5 rfl)).mono ?_
        rintro e w7 ⟨rfl, hb⟩
        replace HM := hide (HM.out.later hb)
        clear hb bd ltd d0 d1 d2 d3 d4 d5 d6 d7
        have hbaseM : gu ≤ w7.heap.size := by rw [← hg0]; exact HM.out.size
        have hownM := Mem.row_ HM.out 0 rfl
        
        go_wp2_with (at_builtin; refine wpList_append_own_at _ rfl (.tmp 79) (.tmp 86) _ rfl _ 95 i0 _ 3 24 Try.underlying93 Hi.out Hz0.out Hz1.out Hz2.out rfl (by decide) _ k xs rfl (hownM.alloc _) ⟨w7.heap.size, 0, none⟩ 1 1 [.int .i64 ra, .int .i64 slo, .int .i64 shi] rfl rfl ?q1c1 (by intro u hu; simp only [List.mem_cons, List.not_mem_nil, or_false] at hu; rcases hu with rfl | rfl | rfl <;> rfl) ?q1c3 ?q1c4 ?q1c5 ?_)
        try case q1c1 => exact new_cellsQ w7 _ [.int .i64 ra, .int .i64 slo, .int .i64 shi]
        case q1c3 => unfold maxLen; omega
        case q1c4 => omega
        case q1c5 => first | omega | (simp; omega)
        intro vA w9 hown2 hgr2 _ hat2
        have HMn := HM.out.grow 0 rfl _ hgr2 hown2 hat2
        replace HM := hide HMn
        clear HMn hown2 hgr2 hat2 hownM hbaseM
        obtain ⟨A9, c9, rfl⟩ := own_shape2 (Mem.row_ HM.out 0 rfl)
        go_wp2_with fail
        go_roundw
        case rel => exact ⟨k + 1, A9, c9, by omega, by go_num, rfl, by rw [HS1.out]; exact HM.out⟩
        case measure => simp [intOf] <;> omega
      · obtain rfl : n = k := by omega
        have hkk : ¬ ((n : Int) < n) := by omega
        have hRA := rays_own HQN.out (by rw [← HEND.out]; exact HM.out.row_ 0 rfl)
        have HM2 := hide HM.out.tail
        clear HM HKZ HZK HSN HEND H00 HSC
        have HM := HM2
        clear HM2
        have HRA := hide hRA
        clear hRA
        have ba : Blk wr gp 32 #[.int .i64 (wz - l5), .int .i64 (wz + m5)] := HM.out.get 0 rfl
        have lta := ba.lt
        have a0 := ba.c 0 rfl
        have a1 := ba.c 1 rfl
        have bd : Blk wr gt 3 #[.int .i64 t] := HM.out.get 1 rfl
        have ltd := bd.lt
        have d0 := bd.c 0 rfl
        have be : Blk wr gS 83 #[.string ⟨#[115]⟩, .int .i64 0, .int .i64 0, .int .i64 0, .int .i64 r, .int .i64 200, .int .i64 1000, .int .i64 0] := HM.out.get 2 rfl
        have lte := be.lt
        have e0 := be.c 0 rfl
        have e1 := be.c 1 rfl
        have e2 := be.c 2 rfl
        have e3 := be.c 3 rfl
        have e4 := be.c 4 rfl
        have e5 := be.c 5 rfl
        have e6 := be.c 6 rfl
        have e7 := be.c 7 rfl
        go_wp2_with fail
        refine (HRING.out _ _ _ HRA.out).mono ?_
        rintro e w7 ⟨A1, c1, rfl, hb, ho⟩
        have HM2 := hide (HM.out.called hb ho)
        clear HM HRA HRING hb ho ba lta a0 a1 bd ltd d0 be lte e0 e1 e2 e3 e4 e5 e6 e7
        have HM := HM2
        clear HM2
        generalize wr.heap.size = bL at HM
        have ba : Blk w7 gv 59 #[.int .i16 v] := HM.out.get 7 rfl
        have lta := ba.lt
        have a0 := ba.c 0 rfl
        have bd : Blk w7 gu 59 #[.int .i16 u] := HM.out.get 8 rfl
        have ltd := bd.lt
        have d0 := bd.c 0 rfl
        go_wp2_with fail
        have hps := possible_any A1 n c1 L1 u v w7 HL1N.out (by omega) (fun s hs => (HL1.out s hs).1) (fun s hs => (HL1.out s hs).2) ⟨u0, u1⟩ ⟨v0, v1⟩ (SlS.of_own HL1N.out (HM.out.row_ 0 rfl))
        have HPS := hide hps
        clear hps
        refine (HPS.out).mono ?_
        rintro e W8 ⟨rfl, hb⟩
        replace HM := hide (HM.out.later hb)
        clear hb ba lta a0 bd ltd d0
        clear HPS
        go_upto_region 19 with fail
        refine code_world fun W9 hW => ?_
        have HMn := Mem.to (Mem.allocAt HM.out W8.heap.size rfl #[.int .i64 px, .int .i64 py, .int .i64 py, .int .i64 (-px)] 115) hW
        have LW : Later W8 W9 := by rw [hW]; exact ((Below.refl _ _).alloc (Nat.le_refl _) _)
        have szW : W9.heap.size = W8.heap.size + 1 := by rw [hW]; simp
        clear hW
        replace HM := hide HMn
        clear HMn LW
        clear szW
        generalize hga : W8.heap.size = ga at HM ⊢
        clear hga
        have HM2 := hide (HM.out.nilRow gu 104 13)
        clear HM
        have HM := HM2
        clear HM2
        go_loopw [31, 128] (fun o i wr => ∃ (k : Nat) (A' : Option Addr) (c' : Nat), k ≤ 2 ∧ i = .int .i64 k ∧ o = .slice A' k c' ∧ Mem w [.row gu 104 13 (.slice A' k c') k (K2 k), .blk ga 115 #[.int .i64 px, .int .i64 py, .int .i64 py, .int .i64 (-px)], .row bL 71 5 (.slice A1 n c1) n (sgsV L1), .blk gp 32 #[.int .i64 (wz - l5), .int .i64 (wz + m5)], .blk gt 3 #[.int .i64 t], .blk gS 83 #[.string ⟨#[115]⟩, .int .i64 0, .int .i64 0, .int .i64 0, .int .i64 r, .int .i64 200, .int .i64 1000, .int .i64 0], .blk gm 66 #[.int .u16 mo], .blk gl 66 #[.int .u16 le], .blk gw 109 #[.int .i8 w8], .blk gv 59 #[.int .i16 v], .blk gu 59 #[.int .i16 u]] wr) (fun _ i _ => 2 - (intOf i).toNat)
        case atStart => exact ⟨0, none, 0, by omega, rfl, rfl, by rw [H20.out]; exact HM.out⟩
        case round =>
          obtain ⟨k, A', c', hk, rfl, rfl, hM⟩ := hrel
          clear HM
          have HM := hide hM
          clear hM
          by_cases hlt : k < 2
          · have hlt2 : (k : Int) < 2 := by omega
            obtain ⟨qx, qy, qr, ray, slo, shi, gg, TK⟩ := H2K.out k hlt
            obtain ⟨cx, cy, qr0, qr1, qrr, ra0, ra1, tlo, thi, tfd, tks⟩ := TK
            have C1 := HS.out qr ray qx qy gt gu gv gw gm gl
            simp only [tlo, thi] at C1
            have cx := (HM.out.blk_ 1 rfl).c _ cx
            have cy := (HM.out.blk_ 1 rfl).c _ cy
            have lta := (HM.out.blk_ 1 rfl).lt
            generalize K2 k = xs at *
            have HC1 := hide C1
            have HFD := hide tfd
            have HKS := hide tks
            have HQR := hide qrr
            clear C1 tfd tks qrr
            clear tlo thi
            go_upto_region 21 with fail
            refine code_world fun wa hW => ?_
            have HMn := Mem.to (Mem.allocAt HM.out wr.heap.size rfl #[.int .i64 qx, .int .i64 qy] 115) hW
            have LW : Later wr wa := by rw [hW]; exact ((Below.refl _ _).alloc (Nat.le_refl _) _)
            have szW : wa.heap.size = wr.heap.size + 1 := by rw [hW]; simp
            clear hW
            replace HM := hide HMn
            clear HMn LW
            clear szW cx cy lta
            generalize hgb : wr.heap.size = gb at HM ⊢
            clear hgb
            have bd : Blk wa gS 83 #[.string ⟨#[115]⟩, .int .i64 0, .int .i64 0, .int .i64 0, .int .i64 r, .int .i64 200, .int .i64 1000, .int .i64 0] := HM.out.get 6 rfl
            have ltd := bd.lt
            have d0 := bd.c 0 rfl
            have d1 := bd.c 1 rfl
            have d2 := bd.c 2 rfl
            have d3 := bd.c 3 rfl
            have d4 := bd.c 4 rfl
            have d5 := bd.c 5 rfl
            have d6 := bd.c 6 rfl
            have d7 := bd.c 7 rfl
            go_upto_region 22 with fail
            refine code_world fun wb hW => ?_
            have HMn := Mem.to (Mem.allocAt HM.out wa.heap.size rfl #[.string ⟨#[115]⟩, .int .i64 0, .int .i64 0, .int .i64 0, .int .i64 r, .int .i64 200, .int .i64 1000, .int .i64 0] 83) hW
            have LW : Later wa wb := by rw [hW]; exact ((Below.refl _ _).alloc (Nat.le_refl _) _)
            have szW : wb.heap.size = wa.heap.size + 1 := by rw [hW]; simp
            clear hW bd ltd d0 d1 d2 d3 d4 d5 d6 d7
            replace HM := hide HMn
            clear HMn LW
            clear szW
            generalize hgo : wa.heap.size = gO at HM ⊢
            clear hgo
            have hne1 := Mem.ne HM.out 0 1 rfl rfl (by decide)
            have hne2 := Mem.ne HM.out 0 7 rfl rfl (by decide)
            have bo : Blk wb gO 83 #[.string ⟨#[115]⟩, .int .i64 0, .int .i64 0, .int .i64 0, .int .i64 r, .int .i64 200, .int .i64 1000, .int .i64 0] := HM.out.get 0 rfl
            have lto := bo.lt
            have o0 := bo.c 0 rfl
            have o1 := bo.c 1 rfl
            have o2 := bo.c 2 rfl
            have o3 := bo.c 3 rfl
            have o4 := bo.c 4 rfl
            have o5 := bo.c 5 rfl
            have o6 := bo.c 6 rfl
            have o7 := bo.c 7 rfl
            have bq : Blk wb gb 115 #[.int .i64 qx, .int .i64 qy] := HM.out.get 1 rfl
            have ltq := bq.lt
            have q0 := bq.c 0 rfl
            have q1 := bq.c 1 rfl
            have bs : Blk wb gS 83 #[.string ⟨#[115]⟩, .int .i64 0, .int .i64 0, .int .i64 0, .int .i64 r, .int .i64 200, .int .i64 1000, .int .i64 0] := HM.out.get 7 rfl
            have lts := bs.lt
            have s0 := bs.c 0 rfl
            have s1 := bs.c 1 rfl
            have s2 := bs.c 2 rfl
            have s3 := bs.c 3 rfl
            have s4 := bs.c 4 rfl
            have s5 := bs.c 5 rfl
            have s6 := bs.c 6 rfl
            have s7 := bs.c 7 rfl
            have HbO := hide bo
            obtain ⟨q29, hq29⟩ : ∃ q, (r + 7 * (k : Int)).tmod 30 = q := ⟨_, rfl⟩
            have hq30 := HQR.out
            rw [hq29] at hq30
            have hq31 : 0 ≤ q29 := by omega
            have hq32 : q29 ≤ 29 := by omega
            apply wp_region_F (w0 := wb) [[], [0], [], [2], [], [4], [], [6], [4, 5, 6, 7], [4, 5, 6, 7, 8], [4, 5, 6, 7, 8, 9], [0, 1], [0, 1, 11], [0, 1, 2, 3, 11, 12], [0, 1, 2, 3, 11, 12, 13], [0, 1, 2, 3, 4, 5, 6, 7, 8, 9, 10, 11, 12, 13, 14], [0, 1, 2, 3, 4, 5, 6, 7, 8, 9, 10, 11, 12, 13, 14, 15]] [true, true, false, false, false, false, false, false, false, false, false, true, false, false, false, false, false] [false, false, true, true, true, true, true, true, true, true, true, false, false, true, false, true, false] [⟨12, none, [], []⟩, ⟨14, some 12, [12], []⟩, ⟨16, some 14, [14], []⟩] [(12, gO)] [12] (fun ixq y => match ixq with | 12 => undef | 14 => undef | 16 => undef | _ => undef) (fun ixq x F wq => match ixq with | 12 => F gO ∧ Blk wq gO 83 #[.string ⟨#[115]⟩, .int .i64 qx, .int .i64 0, .int .i64 0, .int .i64 r, .int .i64 200, .int .i64 1000, .int .i64 0] | 14 => F gO ∧ Blk wq gO 83 #[.string ⟨#[115]⟩, .int .i64 qx, .int .i64 qy, .int .i64 0, .int .i64 r, .int .i64 200, .int .i64 1000, .int .i64 0] | 16 => F gO ∧ Blk wq gO 83 #[.string ⟨#[115]⟩, .int .i64 qx, .int .i64 qy, .int .i64 0, .int .i64 qr, .int .i64 200, .int .i64 1000, .int .i64 0] | _ => True) (fun a x => (((a).put (none) (undef)).put (none) (undef)).put (none) (undef)) (by kernel_rfl) (by kernel_rfl) (by kernel_rfl) (fun _ => rfl) [] (by kernel_rfl) (fills_lt1 (by omega)) fills_ne1
            · intro x D hD
              have hne := hD.some
              have k0 := liftS hD q0 (by exact early_all (by first | assumption | omega) (by rfl))
              simp only [takeOps, Act.put, List.setIfInBounds_toArray, List.set_cons_succ, List.set_cons_zero]
              repeat (go_big_quiet_step (fail))
              exact wpQuiet_nil rfl
            · intro x D hD
              have hne := hD.some
              have k1 := liftS hD q1 (by exact ⟨by first | assumption | omega, free1 (by omega)⟩)
              have k2 := liftS hD s4 (by exact ⟨by first | assumption | omega, free1 (by omega)⟩)
              simp only [takeOps, Act.put, List.setIfInBounds_toArray, List.set_cons_succ, List.set_cons_zero]
              repeat (go_big_quiet_step (fail))
              exact wpQuiet_nil rfl
            · exact fun _ h => absurd h (by simp)
            · refine ⟨?_, ?_, ?_, trivial⟩
              · exact obl_set 3 83 145 135 gO 1 _ (qx) #[.string ⟨#[115]⟩, .int .i64 qx, .int .i64 0, .int .i64 0, .int .i64 r, .int .i64 200, .int .i64 1000, .int .i64 0] (by kernel_rfl) (fun _ => rfl) (fun _ => rfl) HbO.out eb_fill1 (by simp [wrF]) (by kernel_rfl) (by simp) (by simp) (fun _ => rfl) (fun _ _ _ _ h1 h2 => ⟨h1, h2⟩)
              · exact obl_set_more 3 83 146 137 12 gO 2 _ (qy) #[.string ⟨#[115]⟩, .int .i64 qx, .int .i64 qy, .int .i64 0, .int .i64 r, .int .i64 200, .int .i64 1000, .int .i64 0] (by kernel_rfl) rfl (by simp) (fun _ _ _ h => h) (fun _ => rfl) (fun _ => rfl) (by kernel_rfl) (by simp) (by simp) (fun _ => rfl) (fun _ _ _ _ h1 h2 => ⟨h1, h2⟩)
              · exact obl_set_more 3 83 147 144 14 gO 4 _ (qr) #[.string ⟨#[115]⟩, .int .i64 qx, .int .i64 qy, .int .i64 0, .int .i64 qr, .int .i64 200, .int .i64 1000, .int .i64 0] (by kernel_rfl) rfl (by simp) (fun _ _ _ h => h) (fun _ => rfl) (fun _ => rfl) (by kernel_rfl) (by simp) (by simp) (fun _ => rfl) (fun _ _ _ _ h1 h2 => ⟨h1, h2⟩)
            · refine ⟨?_, ?_, ?_, trivial⟩
              · exact owe_fill gO 83 (fun x => #[.string ⟨#[115]⟩, .int .i64 qx, .int .i64 0, .int .i64 0, .int .i64 r, .int .i64 200, .int .i64 1000, .int .i64 0]) (fun _ _ _ => rfl) (fun _ _ _ => rfl)
              · exact owe_fill gO 83 (fun x => #[.string ⟨#[115]⟩, .int .i64 qx, .int .i64 qy, .int .i64 0, .int .i64 r, .int .i64 200, .int .i64 1000, .int .i64 0]) (fun _ _ _ => rfl) (fun _ _ _ => rfl)
              · exact owe_fill gO 83 (fun x => #[.string ⟨#[115]⟩, .int .i64 qx, .int .i64 qy, .int .i64 0, .int .i64 qr, .int .i64 200, .int .i64 1000, .int .i64 0]) (fun _ _ _ => rfl) (fun _ _ _ => rfl)
            intro xx wc F hK hlv1
            obtain ⟨-, -, fct16, -⟩ := hlv1
            replace fct16 : (F 16) gO ∧ Blk wc gO 83 #[.string ⟨#[115]⟩, .int .i64 qx, .int .i64 qy, .int .i64 0, .int .i64 qr, .int .i64 200, .int .i64 1000, .int .i64 0] := fct16 rfl
            have HM2 := hide (HM.out.filled 0 rfl hK (by simp) fct16.2)
            clear HM hK HbO hne1 hne2 fct16 bo lto o0 o1 o2 o3 o4 o5 o6 o7 bq ltq q0 q1 bs lts s0 s1 s2 s3 s4 s5 s6 s7 hq29 hq30 hq31 hq32
            have HM := HM2
            clear HM2
            have bo : Blk wc gO 83 #[.string ⟨#[115]⟩, .int .i64 qx, .int .i64 qy, .int .i64 0, .int .i64 qr, .int .i64 200, .int .i64 1000, .int .i64 0] := HM.out.get 0 rfl
            have lto := bo.lt
            have o0 := bo.c 0 rfl
            have o1 := bo.c 1 rfl
            have o2 := bo.c 2 rfl
            have o3 := bo.c 3 rfl
            have o4 := bo.c 4 rfl
            have o5 := bo.c 5 rfl
            have o6 := bo.c 6 rfl
            have o7 := bo.c 7 rfl
            have bd : Blk wc gt 3 #[.int .i64 t] := HM.out.get 6 rfl
            have ltd := bd.lt
            have d0 := bd.c 0 rfl
            go_wp2_with fail
            refine (HFD.out _).mono ?_
            rintro e wd ⟨rfl, hb⟩
            replace HM := hide (HM.out.later hb)
            clear hb bo lto o0 o1 o2 o3 o4 o5 o6 o7 bd ltd d0
            go_upto_region 26 with fail
            have bo : Blk wd gO 83 #[.string ⟨#[115]⟩, .int .i64 qx, .int .i64 qy, .int .i64 0, .int .i64 qr, .int .i64 200, .int .i64 1000, .int .i64 0] := HM.out.get 0 rfl
            have lto := bo.lt
            have o0 := bo.c 0 rfl
            have o1 := bo.c 1 rfl
            have o2 := bo.c 2 rfl
            have o3 := bo.c 3 rfl
            have o4 := bo.c 4 rfl
            have o5 := bo.c 5 rfl
            have o6 := bo.c 6 rfl
            have o7 := bo.c 7 rfl
            have bd : Blk wd gt 3 #[.int .i64 t] := HM.out.get 6 rfl
            have ltd := bd.lt
            have d0 := bd.c 0 rfl
            have ba : Blk wd gp 32 #[.int .i64 (wz - l5), .int .i64 (wz + m5)] := HM.out.get 5 rfl
            have lta := ba.lt
            have a0 := ba.c 0 rfl
            have a1 := ba.c 1 rfl
            obtain ⟨i0, hii, hz0, hz1, hz2⟩ := info_parts seenInfo
            have Hi := hide hii
            have Hz0 := hide hz0
            have Hz1 := hide hz1
            have Hz2 := hide hz2
            clear hii hz0 hz1 hz2
            refine wp_region_cut 10 (by kernel_rfl) (by simp only [List.take_succ_cons, List.take_zero]; exact rfl) (by simp only [List.drop_succ_cons, List.drop_zero]; exact rfl) (by kernel_rfl) ?_
            apply any_region_J (w0 := wd) [[], [], [], [], [], [], [], [], [6], [6]] [true, true, true, true, true, true, false, true, true, false] [⟨6, none, [], []⟩, ⟨9, none, [], []⟩] (fun ixq y => match ixq with | 6 => .agg #[.int .i64 slo, .int .i64 shi] | 9 => .slice (y 0).1 1 1 | _ => undef) (fun ixq x F wq => match ixq with | 6 => True | 9 => OwnF wq F wd.heap.size 104 13 (.slice (x 9 0).1 1 1) 1 #[.string ⟨#[115]⟩, .int .i64 qx, .int .i64 qy, .int .i64 0, .int .i64 qr, .int .i64 200, .int .i64 1000, .int .i64 0, .int .i64 t, .int .i64 slo, .int .i64 shi, .int .i64 (wz - l5), .int .i64 (wz + m5)].toList | _ => True) (fun a x => ((a).put (some 163) (.agg #[.int .i64 slo, .int .i64 shi])).put (some 166) (.slice ((x 9) 0).1 1 1)) (by kernel_rfl) (fun x => putH_step (some 163) (.agg #[.int .i64 slo, .int .i64 shi]) rfl rfl <| putH_step (some 166) (.slice ((x 9) 0).1 1 1) rfl rfl <| putH_end) [] (by kernel_rfl)
            · intro x D hD
              have hne := hD.some
              have k0 := liftB hD o0 (by first | assumption | omega)
              have k1 := liftB hD o1 (by first | assumption | omega)
              have k2 := liftB hD o2 (by first | assumption | omega)
              have k3 := liftB hD o3 (by first | assumption | omega)
              have k4 := liftB hD o4 (by first | assumption | omega)
              have k5 := liftB hD o5 (by first | assumption | omega)
              have k6 := liftB hD o6 (by first | assumption | omega)
              have k7 := liftB hD o7 (by first | assumption | omega)
              have k8 := liftB hD d0 (by first | assumption | omega)
              have k9 := liftB hD a0 (by first | assumption | omega)
              have k10 := liftB hD a1 (by first | assumption | omega)
              simp only [takeOps, Act.put, List.setIfInBounds_toArray, List.set_cons_succ, List.set_cons_zero]
              repeat (go_big_quiet_step (fail))
              exact wpQuiet_nil rfl
            · exact fun _ h => absurd h (by simp)
            · refine ⟨?_, ?_, trivial⟩
              · refine obl_callL rfl (fun _ => by kernel_rfl) 50 (fun x => #[.agg #[.string ⟨#[115]⟩, .int .i64 qx, .int .i64 qy, .int .i64 0, .int .i64 qr, .int .i64 200, .int .i64 1000, .int .i64 0], .int .i64 ray, .pointer (some ⟨gt, 0, none⟩), .pointer (some ⟨gu, 0, none⟩), .pointer (some ⟨gv, 0, none⟩), .pointer (some ⟨gw, 0, none⟩), .pointer (some ⟨gm, 0, none⟩), .pointer (some ⟨gl, 0, none⟩)]) (fun x w => by kernel_rfl) ?_
                intro x w F hL hN
                have HW := HM.out.later hL
                exact calls_one (y := fun _ => (none, 0)) (HC1.out w qr0 qr1 ra0 ra1 (HW.get 6 rfl) (HW.get 12 rfl) (HW.get 11 rfl) (HW.get 10 rfl) (HW.get 8 rfl) (HW.get 9 rfl)) rfl (fun _ => trivial)
              · exact obl_new rfl (fun _ => by kernel_rfl) 104 (fun x => #[.string ⟨#[115]⟩, .int .i64 qx, .int .i64 qy, .int .i64 0, .int .i64 qr, .int .i64 200, .int .i64 1000, .int .i64 0, .int .i64 t, .int .i64 slo, .int .i64 shi, .int .i64 (wz - l5), .int .i64 (wz + m5)]) gP (fun x w => by kernel_rfl) (fun x w hle => own_new hle rfl (by unfold maxLen; omega))
            · refine ⟨?_, ?_, trivial⟩
              · exact owe_true (fun _ _ _ => trivial)
              · refine ⟨fun x F wq wq' h hs hk => ?_, fun x x' F wq hx h => ?_⟩
                · have h2 : OwnF wq F wd.heap.size 104 13 (.slice (x 9 0).1 1 1) 1 #[.string ⟨#[115]⟩, .int .i64 qx, .int .i64 qy, .int .i64 0, .int .i64 qr, .int .i64 200, .int .i64 1000, .int .i64 0, .int .i64 t, .int .i64 slo, .int .i64 shi, .int .i64 (wz - l5), .int .i64 (wz + m5)].toList := h
                  exact h2.stab hk
                · have h2 : OwnF wq F wd.heap.size 104 13 (.slice (x 9 0).1 1 1) 1 #[.string ⟨#[115]⟩, .int .i64 qx, .int .i64 qy, .int .i64 0, .int .i64 qr, .int .i64 200, .int .i64 1000, .int .i64 0, .int .i64 t, .int .i64 slo, .int .i64 shi, .int .i64 (wz - l5), .int .i64 (wz + m5)].toList := h
                  rw [hx 9 (by simp)] at h2
                  exact h2
            intro xx we F hL hlv2 hap2
            clear hap2
            obtain ⟨fct6, fct9, -⟩ := hlv2
            clear fct6
            replace fct9 : OwnF we (F 9) wd.heap.size 104 13 (.slice (xx 9 0).1 1 1) 1 #[.string ⟨#[115]⟩, .int .i64 qx, .int .i64 qy, .int .i64 0, .int .i64 qr, .int .i64 200, .int .i64 1000, .int .i64 0, .int .i64 t, .int .i64 slo, .int .i64 shi, .int .i64 (wz - l5), .int .i64 (wz + m5)].toList := fct9 rfl
            refine ⟨rfl, ?_⟩
            replace HM := hide (HM.out.later hL)
            clear hL bo lto o0 o1 o2 o3 o4 o5 o6 o7 bd ltd d0 ba lta a0 a1
            obtain ⟨ad, hAd, hcs⟩ := news_own fct9 (by decide)
            rw [hAd]
            have hown := HM.out.row_ 2 rfl
            have hbaseM : gu ≤ we.heap.size := by rw [← hg0]; exact HM.out.size
            clear fct9 hAd
            refine wpList_append_own_at _ rfl (.tmp 157) (.tmp 166) _ rfl gu 104 i0 _ 13 112 Try.underlying102 Hi.out Hz0.out Hz1.out Hz2.out rfl (by decide) _ k xs rfl hown ad 1 1 [.string ⟨#[115]⟩, .int .i64 qx, .int .i64 qy, .int .i64 0, .int .i64 qr, .int .i64 200, .int .i64 1000, .int .i64 0, .int .i64 t, .int .i64 slo, .int .i64 shi, .int .i64 (wz - l5), .int .i64 (wz + m5)] rfl rfl hcs (by intro u hu; simp only [List.mem_cons, List.not_mem_nil, or_false] at hu; rcases hu with rfl | rfl | rfl | rfl | rfl | rfl | rfl | rfl | rfl | rfl | rfl | rfl | rfl <;> rfl) ?c3 ?c4 hbaseM ?_
            case c3 => unfold maxLen; omega
            case c4 => omega
            intro vA wf hown2 hgr2 _ hat2
            have HM2 := hide (HM.out.grown_ 2 rfl hgr2 hown2 hat2)
            clear HM hown2 hgr2 hat2 hown hbaseM hcs
            have HM := HM2
            clear HM2
            obtain ⟨A9, c9, rfl⟩ := own_shape2 (Mem.row_ HM.out 2 rfl)
            go_wp2_with fail
            go_roundw
            case rel => exact ⟨k + 1, A9, c9, by omega, by go_num, rfl, by rw [HKS.out]; exact HM.out.tail.tail⟩
            case measure => simp [intOf] <;> omega
          · obtain rfl : k = 2 := by omega
            have hsO := seens_own HSN2.out (by rw [← H22.out]; exact HM.out.row_ 0 rfl)
            have HSO := hide hsO
            clear hsO
            go_wp2_with fail
            refine (HPL.out _ _ _ HSO.out).mono ?_
            rintro e w2 ⟨A2, c2, rfl, hb, ho⟩
            have HM2 := hide (HM.out.called hb ho)
            have HR1 := hide (SlS.of_own HL1N.out (HM2.out.row_ 3 rfl))
            have HR2 := hide (SlS.of_own HL2N.out (HM2.out.row_ 0 rfl))
            clear HM HSO hb ho
            have HM := HM2
            clear HM2
            go_upto_region 29 with fail
            have ba : Blk w2 gv 59 #[.int .i16 v] := HM.out.get 10 rfl
            have lta := ba.lt
            have a0 := ba.c 0 rfl
            have bd : Blk w2 gu 59 #[.int .i16 u] := HM.out.get 11 rfl
            have ltd := bd.lt
            have d0 := bd.c 0 rfl
            have hsr1 := fun (S : Nat → Prop) (W : World) (hk : Kept S w2 W) hS => HR1.out.srcK hk hS
            have hsr2 := fun (S : Nat → Prop) (W : World) (hk : Kept S w2 W) hS => HR2.out.srcK hk hS
            rw [HL1N.out] at hsr1
            rw [HL2N.out] at hsr2
            have hle1 : (sgsV L1).length = n * 5 := by rw [sgsV_len, HL1N.out]
            have hle2 : (sgsV L2).length = 2 * 5 := by rw [sgsV_len, HL2N.out]
            have hon1 := sgsV_oneC L1
            have hon2 := sgsV_oneC L2
            have hvs : (#[] : Array Value).toList ++ sgsV L1 ++ sgsV L2 = sgsV (L1 ++ L2) := by rw [sgsV_app]; rfl
            have hll : (L1 ++ L2).length = 0 + n + 2 := by rw [List.length_append, HL1N.out, HL2N.out]; omega
            obtain ⟨i0, hii, hz0, hz1, hz2⟩ := info_parts sightInfo
            have Hi := hide hii
            have Hz0 := hide hz0
            have Hz1 := hide hz1
            have Hz2 := hide hz2
            clear hii hz0 hz1 hz2
            have HSR1 := hide hsr1
            have HSR2 := hide hsr2
            have HLE1 := hide hle1
            have HLE2 := hide hle2
            have HON1 := hide hon1
            have HON2 := hide hon2
            have HVS := hide hvs
            have HLL2 := hide hll
            clear hsr1 hsr2 hle1 hle2 hon1 hon2 hvs hll
            have hn10b : n ≤ 10 := by omega
            apply wp_region_L (w0 := w2) [[], [], [], [], [], [], [], [], [], [], [8], [], [8, 10], [], [], [], [], [8, 10, 12], [8, 10, 12, 17], [8, 10, 12, 17], [8, 10, 12, 17], [8, 10, 12, 17], [8, 10, 12, 17]] [true, true, true, true, true, true, true, true, false, true, false, true, false, true, true, true, true, false, true, true, true, true, true] [⟨8, none, [], []⟩, ⟨10, some 8, [8], []⟩, ⟨12, some 10, [10], []⟩, ⟨17, none, [12], []⟩] (fun ixq y => match ixq with | 8 => .slice (y 0).1 0 0 | 10 => .slice (y 0).1 (0 + n) (y 0).2 | 12 => .slice (y 0).1 ((0+n) + 2) (y 0).2 | 17 => .bool true | _ => undef) (fun ixq x F wq => match ixq with | 8 => OwnF wq F w2.heap.size 71 5 (.slice (x 8 0).1 0 0) 0 #[].toList | 10 => OwnF wq F w2.heap.size 71 5 (.slice (x 10 0).1 (0 + n) (x 10 0).2) (0 + n) ((#[] : Array Value).toList ++ sgsV L1) | 12 => OwnF wq F w2.heap.size 71 5 (.slice (x 12 0).1 ((0+n) + 2) (x 12 0).2) ((0+n) + 2) ((#[] : Array Value).toList ++ sgsV L1 ++ sgsV L2) | 17 => True | _ => True) (fun a x => ((((a).put (some 182) (.slice ((x 8) 0).1 0 0)).put (some 184) (.slice ((x 10) 0).1 (0 + n) ((x 10) 0).2)).put (some 186) (.slice ((x 12) 0).1 ((0+n) + 2) ((x 12) 0).2)).put (some 191) (.bool true)) (by kernel_rfl) (by kernel_rfl) (fun x => putH_step (some 182) (.slice ((x 8) 0).1 0 0) rfl rfl <| putH_step (some 184) (.slice ((x 10) 0).1 (0 + n) ((x 10) 0).2) rfl rfl <| putH_step (some 186) (.slice ((x 12) 0).1 ((0+n) + 2) ((x 12) 0).2) rfl rfl <| putH_step (some 191) (.bool true) rfl rfl <| putH_end) [194] (by kernel_rfl)
            · intro x D hD
              have hne := hD.some
              have k0 := liftB hD d0 (by first | assumption | omega)
              have k1 := liftB hD a0 (by first | assumption | omega)
              simp only [takeOps, Act.put, List.setIfInBounds_toArray, List.set_cons_succ, List.set_cons_zero]
              repeat (go_big_quiet_step (((go_at_call 13; with_reducible exact calls_later hD _ (works_any _)))))
              exact wpQuiet_nil rfl
            · intro d hd x x'
              simp only [List.mem_cons, List.not_mem_nil, or_false] at hd
              rcases hd with rfl
              all_goals rfl
            · refine ⟨?_, ?_, ?_, ?_, trivial⟩
              · exact obl_new rfl (fun _ => by kernel_rfl) 71 (fun x => #[]) gP (fun x w => by kernel_rfl) (fun x w hle => own_new hle rfl (by unfold maxLen; omega))
              · refine obl_appendG 25 182 183 (by kernel_rfl) (fun _ => by kernel_rfl) w2.heap.size 71 i0 _ 5 40 Try.underlying25 Hi.out Hz0.out Hz1.out Hz2.out rfl (by decide) 0 n ((#[] : Array Value).toList) (sgsV L1) (HLE1.out) (HON1.out) (by unfold maxLen; omega) (by omega) (by first | assumption | omega) (fun x w F hk hn => ?_) (fun _ => rfl) (fun _ _ _ _ h => h)
                have hj := hn 8 (by simp)
                exact ⟨_, _, _, rfl, hj.1, fun g hg => .inr (hj.2 g hg), rfl, HSR1.out _ w hk (fun k hk => ⟨hk, fun _ _ h => h.elim⟩)⟩
              · refine obl_appendG 25 184 185 (by kernel_rfl) (fun _ => by kernel_rfl) w2.heap.size 71 i0 _ 5 40 Try.underlying25 Hi.out Hz0.out Hz1.out Hz2.out rfl (by decide) (0+n) 2 ((#[] : Array Value).toList ++ sgsV L1) (sgsV L2) (HLE2.out) (HON2.out) (by unfold maxLen; omega) (by omega) (by first | assumption | omega) (fun x w F hk hn => ?_) (fun _ => rfl) (fun _ _ _ _ h => h)
                have hj := hn 10 (by simp)
                exact ⟨_, _, _, rfl, hj.1, fun g hg => .inr (hj.2 g hg), rfl, HSR2.out _ w hk (fun k hk => ⟨hk, fun _ _ h => h.elim⟩)⟩
              · refine obl_callL rfl (fun _ => by kernel_rfl) 53 (fun x => #[.slice (x 12 0).1 (0 + n + 2) (x 12 0).2, .int .i64 u, .int .i64 v]) (fun x w => by kernel_rfl) ?_
                intro x w F hL hN
                have n12 := hN 12 (by simp)
                have hs := SlS.of_own (c := (x 12 0).2) HLL2.out (by rw [← HVS.out]; exact n12.1)
                exact calls_one (y := fun _ => (none, 0)) (HPS2.out _ _ w hs) rfl (fun _ => trivial)
            · refine ⟨?_, ?_, ?_, ?_, trivial⟩
              · refine ⟨fun x F wq wq' h hs hk => ?_, fun x x' F wq hx h => ?_⟩
                · have h2 : OwnF wq F w2.heap.size 71 5 (.slice (x 8 0).1 0 0) 0 #[].toList := h
                  exact h2.stab hk
                · have h2 : OwnF wq F w2.heap.size 71 5 (.slice (x 8 0).1 0 0) 0 #[].toList := h
                  rw [hx 8 (by simp)] at h2
                  exact h2
              · exact owe_own 10 w2.heap.size 71 5 (0 + n) ((#[] : Array Value).toList ++ sgsV L1) rfl (fun _ _ _ => rfl)
              · exact owe_own 12 w2.heap.size 71 5 ((0+n) + 2) ((#[] : Array Value).toList ++ sgsV L1 ++ sgsV L2) rfl (fun _ _ _ => rfl)
              · exact owe_true (fun _ _ _ => trivial)
            intro xx w3 F hL hlv3
            obtain ⟨-, -, fct12, fct17, -⟩ := hlv3
            replace fct12 : OwnF w3 (F 12) w2.heap.size 71 5 (.slice (xx 12 0).1 ((0+n) + 2) (xx 12 0).2) ((0+n) + 2) ((#[] : Array Value).toList ++ sgsV L1 ++ sgsV L2) := fct12 rfl
            clear fct17
            clear fct12
            replace HM := hide (HM.out.later hL)
            clear hL ba lta a0 bd ltd d0
            go_wp2
            exact bodyPost_ret (v := .bool true) (by simp [results, Try.results11, go_sem]) rfl ⟨rfl, by rw [← hg0]; exact HM.out.below⟩
end Go.Proofs.Ytllpffkifleigaa
end
