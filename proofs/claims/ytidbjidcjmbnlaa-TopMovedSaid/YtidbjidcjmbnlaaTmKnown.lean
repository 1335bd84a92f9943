/-
  The state of a pixel at a lead.
  The states of all pixels at a lead.
  Rain that moves evenly: seconds and grid.
  Rain that moves evenly: a map.
  Rain that moves evenly: what is known of a map suits the truth.
-/
import Derived.Test.YtidbjidcjmbnlaaTmCld
import Derived.Test.YtidbjidcjmbnlaaMemR
import Derived.Test.YtidbjidcjmbnlaaTmCount
import Derived.Test.YtidbjidcjmbnlaaTmChgM
set_option linter.unusedSimpArgs false
set_option linter.unusedVariables false
section
namespace Go.Proofs.Ytidbjidcjmbnlaa
open Go Go.RowKit
attribute [local go_sem] Oper.semAt_some

theorem iz_iff {l : List Nat} {z : Int} : z ∈ iz l ↔ okZ (inL l) z = true := by
  unfold iz okZ inL
  rw [List.mem_map, Bool.and_eq_true, decide_eq_true_iff, decide_eq_true_iff]
  constructor
  · rintro ⟨q, hq, rfl⟩
    exact ⟨Int.natCast_nonneg q, hq⟩
  · rintro ⟨h1, h2⟩
    exact ⟨z.toNat, h2, Int.toNat_of_nonneg h1⟩
theorem setF_get {l : List Nat} {z : Int} : (setF l z).getD (.bool false) = .bool (okZ (inL l) z) := by
  unfold setF
  by_cases h : z ∈ iz l
  · rw [if_pos h, iz_iff.1 h]; rfl
  · rw [if_neg h]
    cases e : okZ (inL l) z with
    | false => rfl
    | true => exact absurd (iz_iff.2 e) h
/-- What has been met so far. -/
def aP (sl : List Nat) (l : List Int) : Bool := l.all (okZ (inL sl))
def sP (ml : List Nat) (l : List Int) : Bool := l.any (okZ (inL ml))
def sN (b : Bool) : Int := if b = true then 1 else 0
theorem aP_snoc {sl : List Nat} {l : List Int} {z : Int} : aP sl (l ++ [z]) = (aP sl l && okZ (inL sl) z) := by
  unfold aP
  rw [List.all_append]
  simp
theorem sP_snoc {sl : List Nat} {l : List Int} {z : Int} : sP sl (l ++ [z]) = (sP sl l || okZ (inL sl) z) := by
  unfold sP
  rw [List.any_append]
  simp
theorem wfI {z : Int} (h : -1 ≤ z ∧ z ≤ 1000000) : (Lit.int .i64 z).wf = true := by
  have e1 : IntKind.i64.min = -9223372036854775808 := rfl
  have e2 : IntKind.i64.max = 9223372036854775807 := rfl
  simp [Lit.wf, e1, e2]
  omega
theorem set_look {w : World} {g c : Nat} {l : List Nat} {z : Int} (h : MapK w Try.prog 3 izL okI g (setF l) c) (hz : -1 ≤ z ∧ z ≤ 1000000) : (Instr.lookup 85 (.map (some g)) (.int .i64 z) false).run Try.prog w = .ok (.bool (okZ (inL l) z)) w := by
  have h1 := h.look izKey Try.underlying85 (z := .bool false) (by kernel_rfl) (s := z) (wfI hz)
  rw [setF_get] at h1
  exact h1
theorem ret_worldM {F : Fence} {n : Nat} {P : Program} {fn : Func} {PP : Ending → World → Prop} {e : Exit} {a : Act} {w : World} (h : ∀ V, V = w → bodyPostM F n P fn PP e a V) : bodyPostM F n P fn PP e a w := h w rfl
/-- The variables of at. -/
def tsA (h hr ha hs bs p : Nat) (t : Int) (G : Array Value) (r : Int) (a : Bool) (s : Int) : List Th := [.blk (bs + 2) 3 #[.int .i64 t], .blk (bs + 1) 3 #[.int .i64 (p : Nat)], .blk bs 87 G, .blk hs 92 #[.int .i64 s], .blk ha 4 #[.bool a], .blk hr 92 #[.int .i64 r], .blk h 87 G]
theorem tsA_calm {h hr ha hs bs p B : Nat} {t : Int} {G : Array Value} {r : Int} {a : Bool} {s : Int} : ∀ x ∈ tsA h hr ha hs bs p t G r a s, x.calm B := by
  intro x hx
  unfold tsA at hx
  simp only [List.mem_cons, List.not_mem_nil, or_false] at hx
  rcases hx with rfl | rfl | rfl | rfl | rfl | rfl | rfl <;> trivial
theorem tsA_cell {h hr ha hs bs p : Nat} {t : Int} {G : Array Value} {r : Int} {a : Bool} {s : Int} : ∀ x ∈ tsA h hr ha hs bs p t G r a s, x.cell := by
  intro x hx
  unfold tsA at hx
  simp only [List.mem_cons, List.not_mem_nil, or_false] at hx
  rcases hx with rfl | rfl | rfl | rfl | rfl | rfl | rfl <;> trivial
/-- So far nothing is decided. -/
def AtI (w : World) (B h hr ha hs bs p : Nat) (t : Int) (G : Array Value) (sl ml : List Nat) (l : List Int) (V : World) : Prop := (Mem w (tsA h hr ha hs bs p t G 0 (aP sl l) (sN (sP ml l))) V ∧ B ≤ V.heap.size) ∧ (aP sl l = true ∨ sP ml l = false)
/-- It is decided. -/
def AtX (w : World) (B h hr ha hs bs p : Nat) (t : Int) (G : Array Value) (sl ml : List Nat) (c : Code) (l : List Int) (V : World) : Prop := (Mem w (tsA h hr ha hs bs p t G 1 false 1) V ∧ B ≤ V.heap.size) ∧ c = .ret ∧ aP sl l = false ∧ sP ml l = true
set_option maxHeartbeats 4000000 in
set_option maxRecDepth 100000 in
theorem at_any (gx gy gs : Int) (W H gS gM cS cM p : Nat) (xd xu yd yu t lx rx ly ry : Int) (sl ml : List Nat) (w : World) (hp : p < W * H) (hW : 1 ≤ W) (hW8 : W ≤ 8) (hH8 : H ≤ 8)
    (hlx : -10000 ≤ lx ∧ lx ≤ 10000) (hrx : -10000 ≤ rx ∧ rx ≤ 10000) (hly : -10000 ≤ ly ∧ ly ≤ 10000) (hry : -10000 ≤ ry ∧ ry ≤ 10000)
    (hx : ∀ V, Calls Try.prog 72 #[.agg (shapeC gx gy gs W H gS gM xd xu yd yu), .agg #[.int .i64 xd, .int .i64 xu], .int .i64 t] V fun e w' => e = .returned (.tuple #[.int .i64 lx, .int .i64 rx]) ∧ Below V.heap.size V w')
    (hy : ∀ V, Calls Try.prog 72 #[.agg (shapeC gx gy gs W H gS gM xd xu yd yu), .agg #[.int .i64 yd, .int .i64 yu], .int .i64 t] V fun e w' => e = .returned (.tuple #[.int .i64 ly, .int .i64 ry]) ∧ Below V.heap.size V w')
    (hS : MapK w Try.prog 3 izL okI gS (setF sl) cS) (hM : MapK w Try.prog 3 izL okI gM (setF ml) cM) :
    Calls Try.prog 26 #[.agg (shapeC gx gy gs W H gS gM xd xu yd yu), .int .i64 (p : Nat), .int .i64 t] w fun e w' => e = .returned (.int .i64 ((stateN W H ⟨lx, rx, ly, ry⟩ (inL sl) (inL ml) p : Nat) : Int)) ∧ Below w.heap.size w w' := by
  obtain ⟨PP, hPP⟩ : ∃ PP : Ending → World → Prop, (fun e w' => e = .returned (.int .i64 ((stateN W H ⟨lx, rx, ly, ry⟩ (inL sl) (inL ml) p : Nat) : Int)) ∧ Below w.heap.size w w') = PP := ⟨_, rfl⟩
  rw [hPP]
  have hN2 : W * H ≤ 64 := Nat.mul_le_mul hW8 hH8
  have hsr := fun V => sources_any gx gy gs W H gS gM p xd xu yd yu t V
  have hst := fun S bs bp bt V => sources_stops S gx gy gs W H gS gM p bs bp bt 7 xd xu yd yu t lx rx ly ry V (by omega) hp hW hW8 hH8 hlx hrx hly hry hx hy
  have hSV := fun V (hB : Below w.heap.size w V) => hS.stab (hB.block gS hS.lt)
  have hMV := fun V (hB : Below w.heap.size w V) => hM.stab (hB.block gM hM.lt)
  have hfin := @state_list W H p ⟨lx, rx, ly, ry⟩ (inL sl) (inL ml)
  have hstp : ∀ pre : List Int, pre <+: srcL W H ⟨lx, rx, ly, ry⟩ p → pre.all (okZ (inL sl)) = false → pre.any (okZ (inL ml)) = true → stateN W H ⟨lx, rx, ly, ry⟩ (inL sl) (inL ml) p = 1 := fun pre h h1 h2 => state_stop h h1 h2
  have hmem : ∀ z : Int, z ∈ srcL W H ⟨lx, rx, ly, ry⟩ p → z = -1 ∨ ∃ q : Nat, q < W * H ∧ z = q := fun z h => srcL_mem h
  obtain ⟨c, hc⟩ : ∃ c : Come, ⟨lx, rx, ly, ry⟩ = c := ⟨_, rfl⟩
  rw [hc] at hst hfin hstp hmem hPP
  unfold shapeC at hsr hst ⊢
  have HSR := hide hsr
  have HST := hide hst
  have HSV := hide hSV
  have HMV := hide hMV
  have HPP := hide hPP
  have HFIN := hide hfin
  have HSTP := hide hstp
  have HMEM := hide hmem
  clear hsr hst hSV hMV hPP hfin hstp hmem
  clear hS hM hx hy hlx hrx hly hry hc
  refine (callsIn_wide (n := 8)).1 (callsIn_of_wp_marks Try.func26 rfl trivial (wpIn_wide.2 ?_))
  simp only [Try.ntmps26, List.size_toArray, List.length_cons, List.length_nil, Nat.reduceAdd, Nat.reduceSub, Array.replicate_succ, Array.replicate_zero, List.push_toArray, List.append_toArray, List.nil_append, List.cons_append]
  have HM := hide (Mem.start w)
  go_upto_region 2 with fail
  refine code_world fun W1 hW => ?_
  have HMn := Mem.to (Mem.allocAt (Mem.allocAt (Mem.allocAt (Mem.allocAt HM.out w.heap.size rfl #[.int .i64 gx, .int .i64 gy, .int .i64 gs, .int .i64 (W : Nat), .int .i64 (H : Nat), .map (some gS), .map (some gM), .int .i64 xd, .int .i64 xu, .int .i64 yd, .int .i64 yu, .int .i64 0] 87) (w.heap.size + 1) (by simp) #[.int .i64 0] 92) (w.heap.size + 2) (by simp) #[.bool true] 4) (w.heap.size + 3) (by simp) #[.int .i64 0] 92) hW
  have LW : Later w W1 := by rw [hW]; exact (((((Below.refl _ _).alloc (Nat.le_refl _) _).alloc (by simp; try omega) _).alloc (by simp; try omega) _).alloc (by simp; try omega) _)
  have szW : W1.heap.size = w.heap.size + 4 := by rw [hW]; simp
  clear hW
  replace HM := hide HMn
  clear HMn LW
  clear szW
  obtain ⟨hh, hhh⟩ : ∃ q, w.heap.size = q := ⟨_, rfl⟩
  obtain ⟨kr, hkr⟩ : ∃ q, hh + 1 = q := ⟨_, rfl⟩
  obtain ⟨ka, hka⟩ : ∃ q, kr + 1 = q := ⟨_, rfl⟩
  obtain ⟨ks, hks⟩ : ∃ q, ka + 1 = q := ⟨_, rfl⟩
  rw [show w.heap.size + 3 = ks by omega, show w.heap.size + 2 = ka by omega, show w.heap.size + 1 = kr by omega, hhh] at HM
  simp only [hhh, hkr, hka, hks]
  have hlas : ka < ks := by omega
  clear hkr hka hks
  have ba : Blk W1 hh 87 #[.int .i64 gx, .int .i64 gy, .int .i64 gs, .int .i64 (W : Nat), .int .i64 (H : Nat), .map (some gS), .map (some gM), .int .i64 xd, .int .i64 xu, .int .i64 yd, .int .i64 yu, .int .i64 0] := HM.out.get 3 rfl
  have lta := ba.lt
  have a0 := ba.c 0 rfl
  have a1 := ba.c 1 rfl
  have a2 := ba.c 2 rfl
  have a3 := ba.c 3 rfl
  have a4 := ba.c 4 rfl
  have a5 := ba.c 5 rfl
  have a6 := ba.c 6 rfl
  have a7 := ba.c 7 rfl
  have a8 := ba.c 8 rfl
  have a9 := ba.c 9 rfl
  have a10 := ba.c 10 rfl
  have a11 := ba.c 11 rfl
  go_wp2_with fail
  refine (HSR.out W1).mono ?_
  rintro e w2 ⟨rfl, hm2⟩
  have hj := HM.out.joinL hm2
  have hhb : ks < W1.heap.size := (HM.out.blk_ 0 rfl).lt
  clear HM hm2 a0 a1 a2 a3 a4 a5 a6 a7 a8 a9 a10 a11 lta ba
  obtain ⟨bs, hbs⟩ : ∃ q, W1.heap.size = q := ⟨_, rfl⟩
  rw [hbs] at hj hhb
  simp only [hbs]
  simp only [List.cons_append, List.nil_append] at hj
  have hst := HST.out (fun k => k = bs ∨ k = bs + 1 ∨ k = bs + 2) bs (bs + 1) (bs + 2) w2 (.inl rfl) (.inr (.inl rfl)) (.inr (.inr rfl)) (fun k hk => by
    have h0 := (hj.blk_ 0 rfl).lt
    omega) (hj.blk_ 2 rfl) (hj.blk_ 1 rfl) (hj.blk_ 0 rfl)
  obtain ⟨G, hG⟩ : ∃ G : Array Value, #[.int .i64 gx, .int .i64 gy, .int .i64 gs, .int .i64 (W : Nat), .int .i64 (H : Nat), .map (some gS), .map (some gM), .int .i64 xd, .int .i64 xu, .int .i64 yd, .int .i64 yu, .int .i64 0] = G := ⟨_, rfl⟩
  have g5 : G[5]? = some (.map (some gS)) := by rw [← hG]; rfl
  have g6 : G[6]? = some (.map (some gM)) := by rw [← hG]; rfl
  rw [hG] at hj
  have hI0 : AtI w w2.heap.size hh kr ka ks bs p t G sl ml [] w2 := ⟨⟨hj, Nat.le_refl _⟩, .inl rfl⟩
  have hwz : w.heap.size ≤ w2.heap.size := hj.size
  have hbl : bs + 3 ≤ w2.heap.size := (hj.blk_ 0 rfl).lt
  obtain ⟨II, hII⟩ : ∃ II : List (InS W H c p) → World → Prop, II = (fun pre V => AtI w w2.heap.size hh kr ka ks bs p t G sl ml (pre.map (·.1)) V) := ⟨_, rfl⟩
  obtain ⟨IX, hIX⟩ : ∃ IX : Code → List (InS W H c p) → World → Prop, IX = (fun jc pre V => AtX w w2.heap.size hh kr ka ks bs p t G sl ml jc (pre.map (·.1)) V) := ⟨_, rfl⟩
  have HII := hide hII
  have HIX := hide hIX
  have HSTS := hide hst
  have HI0 := hide hI0
  have HG5 := hide g5
  have HG6 := hide g6
  have HHH := hide hhh
  clear hII hIX hst hI0 g5 g6 hhh
  clear hj hG hbs HST HSR
  go_wp2_with fail
  refine wp_range1 (α := InS W H c p) (p := 14) (d := 9) rfl (enters_of Try.func71 (by kernel_rfl) rfl) (v0 := fun z : InS W H c p => .int .i64 z.1) HSTS.out
    (fun h k => h.trans k) (fun W' lx o' hl => KeptS.putObj (B := w2.heap.size) (fun k hk => by omega) W' lx o' hl) (fun W' => KeptS.refl _ _) (Below.refl _ _)
    II IX
    (by
      rw [HII.out]
      unfold AtI
      exact OwnFrom.and (OwnFrom.and (Mem.ownFrom hwz fun _ => tsA_calm) (fun _ _ _ _ h hg _ => Nat.le_trans h hg.size)) (ownFrom_pure _ _))
    (fun c => by
      rw [HIX.out]
      unfold AtX
      exact OwnFrom.and (OwnFrom.and (Mem.ownFrom hwz fun _ => tsA_calm) (fun _ _ _ _ h hg _ => Nat.le_trans h hg.size)) (ownFrom_pure _ _))
    (fun pre V h => by rw [HII.out] at h; exact h.1.2)
    (by rw [HII.out]; exact HI0.out)
    ?assign ?body ?done ?stop
  case assign =>
    intro lp y V Kk hKk
    gi_wp2
    exact hKk
  case body =>
    intro lp pre y V hi hlen
    rw [HII.out] at hi
    obtain ⟨⟨hM2, hz2⟩, hdec⟩ := hi
    obtain ⟨z, hzm⟩ := y
    have hzb : -1 ≤ z ∧ z ≤ 1000000 := by
      rcases HMEM.out z hzm with rfl | ⟨q, hq, rfl⟩
      · omega
      · omega
    have hSz := set_look (HSV.out V hM2.below) hzb
    unfold tsA at hM2
    obtain ⟨b1, hb1⟩ : ∃ b, okZ (inL sl) z = b := ⟨_, rfl⟩
    obtain ⟨b2, hb2⟩ : ∃ b, okZ (inL ml) z = b := ⟨_, rfl⟩
    rw [hb1] at hSz
    have hA2 := @aP_snoc sl (pre.map (·.1)) z
    have hS2 := @sP_snoc ml (pre.map (·.1)) z
    rw [hb1] at hA2
    rw [hb2] at hS2
    have hmz : (pre ++ [⟨z, hzm⟩] : List (InS W H c p)).map (·.1) = pre.map (·.1) ++ [z] := by rw [List.map_append]; rfl
    rw [← hmz] at hA2 hS2
    clear hmz
    obtain ⟨a, ha⟩ : ∃ a, aP sl (pre.map (·.1)) = a := ⟨_, rfl⟩
    obtain ⟨s, hs⟩ : ∃ s, sP ml (pre.map (·.1)) = s := ⟨_, rfl⟩
    rw [ha] at hA2 hM2 hdec
    rw [hs] at hS2 hM2 hdec
    have HM := hide hM2
    have HA2 := hide hA2
    have HS2 := hide hS2
    have HDEC := hide hdec
    have HB2 := hide hb2
    clear hM2 hA2 hS2 hdec hb2
    clear HI0 HSTS hb1 ha hs
    have HKF := hide (KeepsFrom.refl w2.heap.size V)
    have HKS := hide (KeptS.refl (fun k => k = bs ∨ k = bs + 1 ∨ k = bs + 2) V)
    simp only [List.setIfInBounds_toArray, List.set_cons_succ, List.set_cons_zero]
    have a5 := (HM.out.blk_ 6 rfl).c 5 HG5.out
    have a6 := (HM.out.blk_ 6 rfl).c 6 HG6.out
    have lta := (HM.out.blk_ 6 rfl).lt
    have c0 := (HM.out.blk_ 4 rfl).c 0 rfl
    have ltc := (HM.out.blk_ 4 rfl).lt
    have fc0 := (HM.out.blk_ 4 rfl).frozen 0
    cases a with
    | false =>
      obtain rfl : s = false := by
        rcases HDEC.out with h | h
        · cases h
        · exact h
      rw [show sN false = 0 from rfl] at HM
      cases b2 with
      | false =>
        gi_upto_region 5 with fail
        refine code_worldIn fun V3 hV3 => ?_
        have HM3 := hide (Mem.to (HM.out.set_ 4 rfl 0 (.bool (false)) rfl) hV3)
        have HKF3 := hide (keepf_to hV3 (keepf_set HKF.out _ _))
        have HKS3 := hide (kepts_to hV3 (kepts_set HKS.out (g := ka) (by omega) _ _))
        have hz3 : w2.heap.size ≤ V3.heap.size := by rw [hV3]; simpa using hz2
        clear HM HKF HKS hV3 hSz a5 a6 lta c0 ltc fc0
        simp only [List.set_cons_succ, List.set_cons_zero] at HM3
        have hMz := set_look (HMV.out V3 HM3.out.below) hzb
        rw [HB2.out] at hMz
        have a6 := (HM3.out.blk_ 6 rfl).c 6 HG6.out
        have lta := (HM3.out.blk_ 6 rfl).lt
        have c0 := (HM3.out.blk_ 4 rfl).c 0 rfl
        have ltc := (HM3.out.blk_ 4 rfl).lt
        have d0 := (HM3.out.blk_ 3 rfl).c 0 rfl
        have ltd := (HM3.out.blk_ 3 rfl).lt
        have fd0 := (HM3.out.blk_ 3 rfl).frozen 0
        have e0 := (HM3.out.blk_ 5 rfl).c 0 rfl
        have lte := (HM3.out.blk_ 5 rfl).lt
        have fe0 := (HM3.out.blk_ 5 rfl).frozen 0
        have hca : aP sl ((pre ++ [⟨z, hzm⟩] : List (InS W H c p)).map (·.1)) = false := HA2.out
        have hcs : sP ml ((pre ++ [⟨z, hzm⟩] : List (InS W H c p)).map (·.1)) = (false || false) := HS2.out
        have HCA := hide hca
        have HCS := hide hcs
        clear hca hcs
        clear HA2 HS2
        gi_wp2_with (refine wpListIn_skip (by rfl) (by rfl) ?_)
        refine ⟨HKF3.out, HKS3.out, ?_⟩
        rw [HII.out]
        refine ⟨⟨?_, hz3⟩, .inr HCS.out⟩
        rw [HCA.out, HCS.out]
        unfold tsA
        exact HM3.out
      | true =>
        gi_upto_region 5 with fail
        refine code_worldIn fun V3 hV3 => ?_
        have HM3 := hide (Mem.to (HM.out.set_ 4 rfl 0 (.bool (false)) rfl) hV3)
        have HKF3 := hide (keepf_to hV3 (keepf_set HKF.out _ _))
        have HKS3 := hide (kepts_to hV3 (kepts_set HKS.out (g := ka) (by omega) _ _))
        have hz3 : w2.heap.size ≤ V3.heap.size := by rw [hV3]; simpa using hz2
        clear HM HKF HKS hV3 hSz a5 a6 lta c0 ltc fc0
        simp only [List.set_cons_succ, List.set_cons_zero] at HM3
        have hMz := set_look (HMV.out V3 HM3.out.below) hzb
        rw [HB2.out] at hMz
        have a6 := (HM3.out.blk_ 6 rfl).c 6 HG6.out
        have lta := (HM3.out.blk_ 6 rfl).lt
        have c0 := (HM3.out.blk_ 4 rfl).c 0 rfl
        have ltc := (HM3.out.blk_ 4 rfl).lt
        have d0 := (HM3.out.blk_ 3 rfl).c 0 rfl
        have ltd := (HM3.out.blk_ 3 rfl).lt
        have fd0 := (HM3.out.blk_ 3 rfl).frozen 0
        have e0 := (HM3.out.blk_ 5 rfl).c 0 rfl
        have lte := (HM3.out.blk_ 5 rfl).lt
        have fe0 := (HM3.out.blk_ 5 rfl).frozen 0
        have hca : aP sl ((pre ++ [⟨z, hzm⟩] : List (InS W H c p)).map (·.1)) = false := HA2.out
        have hcs : sP ml ((pre ++ [⟨z, hzm⟩] : List (InS W H c p)).map (·.1)) = (false || true) := HS2.out
        have HCA := hide hca
        have HCS := hide hcs
        clear hca hcs
        clear HA2 HS2
        gi_upto_region 7 with fail
        refine code_worldIn fun V4 hV4 => ?_
        have HM4 := hide (Mem.to (HM3.out.set_ 3 rfl 0 (.int .i64 1) rfl) hV4)
        have HKF4 := hide (keepf_to hV4 (keepf_set HKF3.out _ _))
        have HKS4 := hide (kepts_to hV4 (kepts_set HKS3.out (g := ks) (by omega) _ _))
        have hz4 : w2.heap.size ≤ V4.heap.size := by rw [hV4]; simpa using hz3
        clear HM3 HKF3 HKS3 hV4 hMz a6 lta c0 ltc d0 ltd fd0 e0 lte fe0
        simp only [List.set_cons_succ, List.set_cons_zero] at HM4
        have c0 := (HM4.out.blk_ 4 rfl).c 0 rfl
        have ltc := (HM4.out.blk_ 4 rfl).lt
        have d0 := (HM4.out.blk_ 3 rfl).c 0 rfl
        have ltd := (HM4.out.blk_ 3 rfl).lt
        have e0 := (HM4.out.blk_ 5 rfl).c 0 rfl
        have lte := (HM4.out.blk_ 5 rfl).lt
        have fe0 := (HM4.out.blk_ 5 rfl).frozen 0
        gi_wp2
        refine ⟨keepf_set HKF4.out _ _, ?_⟩
        rw [HIX.out]
        exact ⟨⟨by unfold tsA; exact HM4.out.set_ 5 rfl 0 (.int .i64 1) rfl, by simpa using hz4⟩, rfl, HCA.out, HCS.out⟩
    | true =>
      cases b1 with
      | true =>
        cases s with
        | true =>
          rw [show sN true = 1 from rfl] at HM
          cases b2 with
          | false =>
            gi_upto_region 5 with fail
            refine code_worldIn fun V3 hV3 => ?_
            have HM3 := hide (Mem.to (HM.out.set_ 4 rfl 0 (.bool (true)) rfl) hV3)
            have HKF3 := hide (keepf_to hV3 (keepf_set HKF.out _ _))
            have HKS3 := hide (kepts_to hV3 (kepts_set HKS.out (g := ka) (by omega) _ _))
            have hz3 : w2.heap.size ≤ V3.heap.size := by rw [hV3]; simpa using hz2
            clear HM HKF HKS hV3 hSz a5 a6 lta c0 ltc fc0
            simp only [List.set_cons_succ, List.set_cons_zero] at HM3
            have hMz := set_look (HMV.out V3 HM3.out.below) hzb
            rw [HB2.out] at hMz
            have a6 := (HM3.out.blk_ 6 rfl).c 6 HG6.out
            have lta := (HM3.out.blk_ 6 rfl).lt
            have c0 := (HM3.out.blk_ 4 rfl).c 0 rfl
            have ltc := (HM3.out.blk_ 4 rfl).lt
            have d0 := (HM3.out.blk_ 3 rfl).c 0 rfl
            have ltd := (HM3.out.blk_ 3 rfl).lt
            have fd0 := (HM3.out.blk_ 3 rfl).frozen 0
            have e0 := (HM3.out.blk_ 5 rfl).c 0 rfl
            have lte := (HM3.out.blk_ 5 rfl).lt
            have fe0 := (HM3.out.blk_ 5 rfl).frozen 0
            have hca : aP sl ((pre ++ [⟨z, hzm⟩] : List (InS W H c p)).map (·.1)) = true := HA2.out
            have hcs : sP ml ((pre ++ [⟨z, hzm⟩] : List (InS W H c p)).map (·.1)) = (true || false) := HS2.out
            have HCA := hide hca
            have HCS := hide hcs
            clear hca hcs
            clear HA2 HS2
            gi_wp2_with (refine wpListIn_skip (by rfl) (by rfl) ?_)
            refine ⟨HKF3.out, HKS3.out, ?_⟩
            rw [HII.out]
            refine ⟨⟨?_, hz3⟩, .inl HCA.out⟩
            rw [HCA.out, HCS.out]
            unfold tsA
            exact HM3.out
          | true =>
            gi_upto_region 5 with fail
            refine code_worldIn fun V3 hV3 => ?_
            have HM3 := hide (Mem.to (HM.out.set_ 4 rfl 0 (.bool (true)) rfl) hV3)
            have HKF3 := hide (keepf_to hV3 (keepf_set HKF.out _ _))
            have HKS3 := hide (kepts_to hV3 (kepts_set HKS.out (g := ka) (by omega) _ _))
            have hz3 : w2.heap.size ≤ V3.heap.size := by rw [hV3]; simpa using hz2
            clear HM HKF HKS hV3 hSz a5 a6 lta c0 ltc fc0
            simp only [List.set_cons_succ, List.set_cons_zero] at HM3
            have hMz := set_look (HMV.out V3 HM3.out.below) hzb
            rw [HB2.out] at hMz
            have a6 := (HM3.out.blk_ 6 rfl).c 6 HG6.out
            have lta := (HM3.out.blk_ 6 rfl).lt
            have c0 := (HM3.out.blk_ 4 rfl).c 0 rfl
            have ltc := (HM3.out.blk_ 4 rfl).lt
            have d0 := (HM3.out.blk_ 3 rfl).c 0 rfl
            have ltd := (HM3.out.blk_ 3 rfl).lt
            have fd0 := (HM3.out.blk_ 3 rfl).frozen 0
            have e0 := (HM3.out.blk_ 5 rfl).c 0 rfl
            have lte := (HM3.out.blk_ 5 rfl).lt
            have fe0 := (HM3.out.blk_ 5 rfl).frozen 0
            have hca : aP sl ((pre ++ [⟨z, hzm⟩] : List (InS W H c p)).map (·.1)) = true := HA2.out
            have hcs : sP ml ((pre ++ [⟨z, hzm⟩] : List (InS W H c p)).map (·.1)) = (true || true) := HS2.out
            have HCA := hide hca
            have HCS := hide hcs
            clear hca hcs
            clear HA2 HS2
            gi_upto_region 7 with fail
            refine code_worldIn fun V4 hV4 => ?_
            have HM4 := hide (Mem.to (HM3.out.set_ 3 rfl 0 (.int .i64 1) rfl) hV4)
            have HKF4 := hide (keepf_to hV4 (keepf_set HKF3.out _ _))
            have HKS4 := hide (kepts_to hV4 (kepts_set HKS3.out (g := ks) (by omega) _ _))
            have hz4 : w2.heap.size ≤ V4.heap.size := by rw [hV4]; simpa using hz3
            clear HM3 HKF3 HKS3 hV4 hMz a6 lta c0 ltc d0 ltd fd0 e0 lte fe0
            simp only [List.set_cons_succ, List.set_cons_zero] at HM4
            have c0 := (HM4.out.blk_ 4 rfl).c 0 rfl
            have ltc := (HM4.out.blk_ 4 rfl).lt
            have d0 := (HM4.out.blk_ 3 rfl).c 0 rfl
            have ltd := (HM4.out.blk_ 3 rfl).lt
            have e0 := (HM4.out.blk_ 5 rfl).c 0 rfl
            have lte := (HM4.out.blk_ 5 rfl).lt
            have fe0 := (HM4.out.blk_ 5 rfl).frozen 0
            gi_wp2_with (refine wpListIn_skip (by rfl) (by rfl) ?_)
            refine ⟨HKF4.out, HKS4.out, ?_⟩
            rw [HII.out]
            refine ⟨⟨?_, hz4⟩, .inl HCA.out⟩
            rw [HCA.out, HCS.out]
            unfold tsA
            exact HM4.out
        | false =>
          rw [show sN false = 0 from rfl] at HM
          cases b2 with
          | false =>
            gi_upto_region 5 with fail
            refine code_worldIn fun V3 hV3 => ?_
            have HM3 := hide (Mem.to (HM.out.set_ 4 rfl 0 (.bool (true)) rfl) hV3)
            have HKF3 := hide (keepf_to hV3 (keepf_set HKF.out _ _))
            have HKS3 := hide (kepts_to hV3 (kepts_set HKS.out (g := ka) (by omega) _ _))
            have hz3 : w2.heap.size ≤ V3.heap.size := by rw [hV3]; simpa using hz2
            clear HM HKF HKS hV3 hSz a5 a6 lta c0 ltc fc0
            simp only [List.set_cons_succ, List.set_cons_zero] at HM3
            have hMz := set_look (HMV.out V3 HM3.out.below) hzb
            rw [HB2.out] at hMz
            have a6 := (HM3.out.blk_ 6 rfl).c 6 HG6.out
            have lta := (HM3.out.blk_ 6 rfl).lt
            have c0 := (HM3.out.blk_ 4 rfl).c 0 rfl
            have ltc := (HM3.out.blk_ 4 rfl).lt
            have d0 := (HM3.out.blk_ 3 rfl).c 0 rfl
            have ltd := (HM3.out.blk_ 3 rfl).lt
            have fd0 := (HM3.out.blk_ 3 rfl).frozen 0
            have e0 := (HM3.out.blk_ 5 rfl).c 0 rfl
            have lte := (HM3.out.blk_ 5 rfl).lt
            have fe0 := (HM3.out.blk_ 5 rfl).frozen 0
            have hca : aP sl ((pre ++ [⟨z, hzm⟩] : List (InS W H c p)).map (·.1)) = true := HA2.out
            have hcs : sP ml ((pre ++ [⟨z, hzm⟩] : List (InS W H c p)).map (·.1)) = (false || false) := HS2.out
            have HCA := hide hca
            have HCS := hide hcs
            clear hca hcs
            clear HA2 HS2
            gi_wp2_with (refine wpListIn_skip (by rfl) (by rfl) ?_)
            refine ⟨HKF3.out, HKS3.out, ?_⟩
            rw [HII.out]
            refine ⟨⟨?_, hz3⟩, .inl HCA.out⟩
            rw [HCA.out, HCS.out]
            unfold tsA
            exact HM3.out
          | true =>
            gi_upto_region 5 with fail
            refine code_worldIn fun V3 hV3 => ?_
            have HM3 := hide (Mem.to (HM.out.set_ 4 rfl 0 (.bool (true)) rfl) hV3)
            have HKF3 := hide (keepf_to hV3 (keepf_set HKF.out _ _))
            have HKS3 := hide (kepts_to hV3 (kepts_set HKS.out (g := ka) (by omega) _ _))
            have hz3 : w2.heap.size ≤ V3.heap.size := by rw [hV3]; simpa using hz2
            clear HM HKF HKS hV3 hSz a5 a6 lta c0 ltc fc0
            simp only [List.set_cons_succ, List.set_cons_zero] at HM3
            have hMz := set_look (HMV.out V3 HM3.out.below) hzb
            rw [HB2.out] at hMz
            have a6 := (HM3.out.blk_ 6 rfl).c 6 HG6.out
            have lta := (HM3.out.blk_ 6 rfl).lt
            have c0 := (HM3.out.blk_ 4 rfl).c 0 rfl
            have ltc := (HM3.out.blk_ 4 rfl).lt
            have d0 := (HM3.out.blk_ 3 rfl).c 0 rfl
            have ltd := (HM3.out.blk_ 3 rfl).lt
            have fd0 := (HM3.out.blk_ 3 rfl).frozen 0
            have e0 := (HM3.out.blk_ 5 rfl).c 0 rfl
            have lte := (HM3.out.blk_ 5 rfl).lt
            have fe0 := (HM3.out.blk_ 5 rfl).frozen 0
            have hca : aP sl ((pre ++ [⟨z, hzm⟩] : List (InS W H c p)).map (·.1)) = true := HA2.out
            have hcs : sP ml ((pre ++ [⟨z, hzm⟩] : List (InS W H c p)).map (·.1)) = (false || true) := HS2.out
            have HCA := hide hca
            have HCS := hide hcs
            clear hca hcs
            clear HA2 HS2
            gi_upto_region 7 with fail
            refine code_worldIn fun V4 hV4 => ?_
            have HM4 := hide (Mem.to (HM3.out.set_ 3 rfl 0 (.int .i64 1) rfl) hV4)
            have HKF4 := hide (keepf_to hV4 (keepf_set HKF3.out _ _))
            have HKS4 := hide (kepts_to hV4 (kepts_set HKS3.out (g := ks) (by omega) _ _))
            have hz4 : w2.heap.size ≤ V4.heap.size := by rw [hV4]; simpa using hz3
            clear HM3 HKF3 HKS3 hV4 hMz a6 lta c0 ltc d0 ltd fd0 e0 lte fe0
            simp only [List.set_cons_succ, List.set_cons_zero] at HM4
            have c0 := (HM4.out.blk_ 4 rfl).c 0 rfl
            have ltc := (HM4.out.blk_ 4 rfl).lt
            have d0 := (HM4.out.blk_ 3 rfl).c 0 rfl
            have ltd := (HM4.out.blk_ 3 rfl).lt
            have e0 := (HM4.out.blk_ 5 rfl).c 0 rfl
            have lte := (HM4.out.blk_ 5 rfl).lt
            have fe0 := (HM4.out.blk_ 5 rfl).frozen 0
            gi_wp2_with (refine wpListIn_skip (by rfl) (by rfl) ?_)
            refine ⟨HKF4.out, HKS4.out, ?_⟩
            rw [HII.out]
            refine ⟨⟨?_, hz4⟩, .inl HCA.out⟩
            rw [HCA.out, HCS.out]
            unfold tsA
            exact HM4.out
      | false =>
        cases s with
        | true =>
          rw [show sN true = 1 from rfl] at HM
          cases b2 with
          | false =>
            gi_upto_region 5 with fail
            refine code_worldIn fun V3 hV3 => ?_
            have HM3 := hide (Mem.to (HM.out.set_ 4 rfl 0 (.bool (false)) rfl) hV3)
            have HKF3 := hide (keepf_to hV3 (keepf_set HKF.out _ _))
            have HKS3 := hide (kepts_to hV3 (kepts_set HKS.out (g := ka) (by omega) _ _))
            have hz3 : w2.heap.size ≤ V3.heap.size := by rw [hV3]; simpa using hz2
            clear HM HKF HKS hV3 hSz a5 a6 lta c0 ltc fc0
            simp only [List.set_cons_succ, List.set_cons_zero] at HM3
            have hMz := set_look (HMV.out V3 HM3.out.below) hzb
            rw [HB2.out] at hMz
            have a6 := (HM3.out.blk_ 6 rfl).c 6 HG6.out
            have lta := (HM3.out.blk_ 6 rfl).lt
            have c0 := (HM3.out.blk_ 4 rfl).c 0 rfl
            have ltc := (HM3.out.blk_ 4 rfl).lt
            have d0 := (HM3.out.blk_ 3 rfl).c 0 rfl
            have ltd := (HM3.out.blk_ 3 rfl).lt
            have fd0 := (HM3.out.blk_ 3 rfl).frozen 0
            have e0 := (HM3.out.blk_ 5 rfl).c 0 rfl
            have lte := (HM3.out.blk_ 5 rfl).lt
            have fe0 := (HM3.out.blk_ 5 rfl).frozen 0
            have hca : aP sl ((pre ++ [⟨z, hzm⟩] : List (InS W H c p)).map (·.1)) = false := HA2.out
            have hcs : sP ml ((pre ++ [⟨z, hzm⟩] : List (InS W H c p)).map (·.1)) = (true || false) := HS2.out
            have HCA := hide hca
            have HCS := hide hcs
            clear hca hcs
            clear HA2 HS2
            gi_wp2
            refine ⟨keepf_set HKF3.out _ _, ?_⟩
            rw [HIX.out]
            exact ⟨⟨by unfold tsA; exact HM3.out.set_ 5 rfl 0 (.int .i64 1) rfl, by simpa using hz3⟩, rfl, HCA.out, HCS.out⟩
          | true =>
            gi_upto_region 5 with fail
            refine code_worldIn fun V3 hV3 => ?_
            have HM3 := hide (Mem.to (HM.out.set_ 4 rfl 0 (.bool (false)) rfl) hV3)
            have HKF3 := hide (keepf_to hV3 (keepf_set HKF.out _ _))
            have HKS3 := hide (kepts_to hV3 (kepts_set HKS.out (g := ka) (by omega) _ _))
            have hz3 : w2.heap.size ≤ V3.heap.size := by rw [hV3]; simpa using hz2
            clear HM HKF HKS hV3 hSz a5 a6 lta c0 ltc fc0
            simp only [List.set_cons_succ, List.set_cons_zero] at HM3
            have hMz := set_look (HMV.out V3 HM3.out.below) hzb
            rw [HB2.out] at hMz
            have a6 := (HM3.out.blk_ 6 rfl).c 6 HG6.out
            have lta := (HM3.out.blk_ 6 rfl).lt
            have c0 := (HM3.out.blk_ 4 rfl).c 0 rfl
            have ltc := (HM3.out.blk_ 4 rfl).lt
            have d0 := (HM3.out.blk_ 3 rfl).c 0 rfl
            have ltd := (HM3.out.blk_ 3 rfl).lt
            have fd0 := (HM3.out.blk_ 3 rfl).frozen 0
            have e0 := (HM3.out.blk_ 5 rfl).c 0 rfl
            have lte := (HM3.out.blk_ 5 rfl).lt
            have fe0 := (HM3.out.blk_ 5 rfl).frozen 0
            have hca : aP sl ((pre ++ [⟨z, hzm⟩] : List (InS W H c p)).map (·.1)) = false := HA2.out
            have hcs : sP ml ((pre ++ [⟨z, hzm⟩] : List (InS W H c p)).map (·.1)) = (true || true) := HS2.out
            have HCA := hide hca
            have HCS := hide hcs
            clear hca hcs
            clear HA2 HS2
            gi_upto_region 7 with fail
            refine code_worldIn fun V4 hV4 => ?_
            have HM4 := hide (Mem.to (HM3.out.set_ 3 rfl 0 (.int .i64 1) rfl) hV4)
            have HKF4 := hide (keepf_to hV4 (keepf_set HKF3.out _ _))
            have HKS4 := hide (kepts_to hV4 (kepts_set HKS3.out (g := ks) (by omega) _ _))
            have hz4 : w2.heap.size ≤ V4.heap.size := by rw [hV4]; simpa using hz3
            clear HM3 HKF3 HKS3 hV4 hMz a6 lta c0 ltc d0 ltd fd0 e0 lte fe0
            simp only [List.set_cons_succ, List.set_cons_zero] at HM4
            have c0 := (HM4.out.blk_ 4 rfl).c 0 rfl
            have ltc := (HM4.out.blk_ 4 rfl).lt
            have d0 := (HM4.out.blk_ 3 rfl).c 0 rfl
            have ltd := (HM4.out.blk_ 3 rfl).lt
            have e0 := (HM4.out.blk_ 5 rfl).c 0 rfl
            have lte := (HM4.out.blk_ 5 rfl).lt
            have fe0 := (HM4.out.blk_ 5 rfl).frozen 0
            gi_wp2
            refine ⟨keepf_set HKF4.out _ _, ?_⟩
            rw [HIX.out]
            exact ⟨⟨by unfold tsA; exact HM4.out.set_ 5 rfl 0 (.int .i64 1) rfl, by simpa using hz4⟩, rfl, HCA.out, HCS.out⟩
        | false =>
          rw [show sN false = 0 from rfl] at HM
          cases b2 with
          | false =>
            gi_upto_region 5 with fail
            refine code_worldIn fun V3 hV3 => ?_
            have HM3 := hide (Mem.to (HM.out.set_ 4 rfl 0 (.bool (false)) rfl) hV3)
            have HKF3 := hide (keepf_to hV3 (keepf_set HKF.out _ _))
            have HKS3 := hide (kepts_to hV3 (kepts_set HKS.out (g := ka) (by omega) _ _))
            have hz3 : w2.heap.size ≤ V3.heap.size := by rw [hV3]; simpa using hz2
            clear HM HKF HKS hV3 hSz a5 a6 lta c0 ltc fc0
            simp only [List.set_cons_succ, List.set_cons_zero] at HM3
            have hMz := set_look (HMV.out V3 HM3.out.below) hzb
            rw [HB2.out] at hMz
            have a6 := (HM3.out.blk_ 6 rfl).c 6 HG6.out
            have lta := (HM3.out.blk_ 6 rfl).lt
            have c0 := (HM3.out.blk_ 4 rfl).c 0 rfl
            have ltc := (HM3.out.blk_ 4 rfl).lt
            have d0 := (HM3.out.blk_ 3 rfl).c 0 rfl
            have ltd := (HM3.out.blk_ 3 rfl).lt
            have fd0 := (HM3.out.blk_ 3 rfl).frozen 0
            have e0 := (HM3.out.blk_ 5 rfl).c 0 rfl
            have lte := (HM3.out.blk_ 5 rfl).lt
            have fe0 := (HM3.out.blk_ 5 rfl).frozen 0
            have hca : aP sl ((pre ++ [⟨z, hzm⟩] : List (InS W H c p)).map (·.1)) = false := HA2.out
            have hcs : sP ml ((pre ++ [⟨z, hzm⟩] : List (InS W H c p)).map (·.1)) = (false || false) := HS2.out
            have HCA := hide hca
            have HCS := hide hcs
            clear hca hcs
            clear HA2 HS2
            gi_wp2_with (refine wpListIn_skip (by rfl) (by rfl) ?_)
            refine ⟨HKF3.out, HKS3.out, ?_⟩
            rw [HII.out]
            refine ⟨⟨?_, hz3⟩, .inr HCS.out⟩
            rw [HCA.out, HCS.out]
            unfold tsA
            exact HM3.out
          | true =>
            gi_upto_region 5 with fail
            refine code_worldIn fun V3 hV3 => ?_
            have HM3 := hide (Mem.to (HM.out.set_ 4 rfl 0 (.bool (false)) rfl) hV3)
            have HKF3 := hide (keepf_to hV3 (keepf_set HKF.out _ _))
            have HKS3 := hide (kepts_to hV3 (kepts_set HKS.out (g := ka) (by omega) _ _))
            have hz3 : w2.heap.size ≤ V3.heap.size := by rw [hV3]; simpa using hz2
            clear HM HKF HKS hV3 hSz a5 a6 lta c0 ltc fc0
            simp only [List.set_cons_succ, List.set_cons_zero] at HM3
            have hMz := set_look (HMV.out V3 HM3.out.below) hzb
            rw [HB2.out] at hMz
            have a6 := (HM3.out.blk_ 6 rfl).c 6 HG6.out
            have lta := (HM3.out.blk_ 6 rfl).lt
            have c0 := (HM3.out.blk_ 4 rfl).c 0 rfl
            have ltc := (HM3.out.blk_ 4 rfl).lt
            have d0 := (HM3.out.blk_ 3 rfl).c 0 rfl
            have ltd := (HM3.out.blk_ 3 rfl).lt
            have fd0 := (HM3.out.blk_ 3 rfl).frozen 0
            have e0 := (HM3.out.blk_ 5 rfl).c 0 rfl
            have lte := (HM3.out.blk_ 5 rfl).lt
            have fe0 := (HM3.out.blk_ 5 rfl).frozen 0
            have hca : aP sl ((pre ++ [⟨z, hzm⟩] : List (InS W H c p)).map (·.1)) = false := HA2.out
            have hcs : sP ml ((pre ++ [⟨z, hzm⟩] : List (InS W H c p)).map (·.1)) = (false || true) := HS2.out
            have HCA := hide hca
            have HCS := hide hcs
            clear hca hcs
            clear HA2 HS2
            gi_upto_region 7 with fail
            refine code_worldIn fun V4 hV4 => ?_
            have HM4 := hide (Mem.to (HM3.out.set_ 3 rfl 0 (.int .i64 1) rfl) hV4)
            have HKF4 := hide (keepf_to hV4 (keepf_set HKF3.out _ _))
            have HKS4 := hide (kepts_to hV4 (kepts_set HKS3.out (g := ks) (by omega) _ _))
            have hz4 : w2.heap.size ≤ V4.heap.size := by rw [hV4]; simpa using hz3
            clear HM3 HKF3 HKS3 hV4 hMz a6 lta c0 ltc d0 ltd fd0 e0 lte fe0
            simp only [List.set_cons_succ, List.set_cons_zero] at HM4
            have c0 := (HM4.out.blk_ 4 rfl).c 0 rfl
            have ltc := (HM4.out.blk_ 4 rfl).lt
            have d0 := (HM4.out.blk_ 3 rfl).c 0 rfl
            have ltd := (HM4.out.blk_ 3 rfl).lt
            have e0 := (HM4.out.blk_ 5 rfl).c 0 rfl
            have lte := (HM4.out.blk_ 5 rfl).lt
            have fe0 := (HM4.out.blk_ 5 rfl).frozen 0
            gi_wp2
            refine ⟨keepf_set HKF4.out _ _, ?_⟩
            rw [HIX.out]
            exact ⟨⟨by unfold tsA; exact HM4.out.set_ 5 rfl 0 (.int .i64 1) rfl, by simpa using hz4⟩, rfl, HCA.out, HCS.out⟩
  case done =>
    intro D xs V hD hxs hi hdd
    rw [HII.out] at hi
    obtain ⟨⟨hM2, hz2⟩, hdec⟩ := hi
    have hfin := HFIN.out
    rw [← hxs] at hfin
    unfold aP sP at hdec hM2
    obtain ⟨a, ha⟩ : ∃ a, (xs.map (·.1)).all (okZ (inL sl)) = a := ⟨_, rfl⟩
    obtain ⟨s, hs⟩ : ∃ s, (xs.map (·.1)).any (okZ (inL ml)) = s := ⟨_, rfl⟩
    rw [ha, hs] at hfin hM2 hdec
    have hM3 := hM2.ranged tsA_calm hdd hD hwz
    unfold tsA at hM3
    have HM := hide hM3
    have HF2 := hide hfin
    clear hM3 hfin
    clear hM2 HI0 HSTS ha hs hxs
    have c0 := (HM.out.blk_ 5 rfl).c 0 rfl
    have ltc := (HM.out.blk_ 5 rfl).lt
    have d0 := (HM.out.blk_ 4 rfl).c 0 rfl
    have ltd := (HM.out.blk_ 4 rfl).lt
    have e0 := (HM.out.blk_ 6 rfl).c 0 rfl
    have lte := (HM.out.blk_ 6 rfl).lt
    have fe0 := (HM.out.blk_ 6 rfl).frozen 0
    cases a with
    | true =>
      go_wp2_with fail
      refine ret_worldM fun V9 hV9 => ?_
      have hM9 := Mem.to (HM.out.set_ 6 rfl 0 (.int .i64 2) rfl) hV9
      simp only [List.set_cons_succ, List.set_cons_zero] at hM9
      refine leaves_marks [D] V9 (hM9.marks (by exact List.sublist_append_left [thD D] _)) hM9.size fun w' hbw' hcells => ?_
      have hM4 := hM9.tail.leave (tsA_cell (G := G) (r := 2) (a := true) (s := sN s)) hbw' hcells
      have r0 := (hM4.blk_ 5 rfl).c 0 rfl
      have lr := (hM4.blk_ 5 rfl).lt
      refine ⟨.int .i64 2, by simp [results, Try.results26, go_sem, r0, lr], ?_⟩
      rw [← HPP.out]
      exact ⟨by rw [HF2.out]; rfl, hM4.below⟩
    | false =>
      cases s with
      | true =>
        simp only [sN, if_true] at d0 HM
        go_wp2_with fail
        refine ret_worldM fun V9 hV9 => ?_
        have hM9 := Mem.to (HM.out.set_ 6 rfl 0 (.int .i64 1) rfl) hV9
        simp only [List.set_cons_succ, List.set_cons_zero] at hM9
        refine leaves_marks [D] V9 (hM9.marks (by exact List.sublist_append_left [thD D] _)) hM9.size fun w' hbw' hcells => ?_
        have hM4 := hM9.tail.leave (tsA_cell (G := G) (r := 1) (a := false) (s := 1)) hbw' hcells
        have r0 := (hM4.blk_ 5 rfl).c 0 rfl
        have lr := (hM4.blk_ 5 rfl).lt
        refine ⟨.int .i64 1, by simp [results, Try.results26, go_sem, r0, lr], ?_⟩
        rw [← HPP.out]
        exact ⟨by rw [HF2.out]; rfl, hM4.below⟩
      | false =>
        simp only [sN, Bool.false_eq_true, if_false] at d0 HM
        go_wp2_with fail
        refine ret_worldM fun V9 hV9 => ?_
        have hM9 := Mem.to (HM.out.set_ 6 rfl 0 (.int .i64 0) rfl) hV9
        simp only [List.set_cons_succ, List.set_cons_zero] at hM9
        refine leaves_marks [D] V9 (hM9.marks (by exact List.sublist_append_left [thD D] _)) hM9.size fun w' hbw' hcells => ?_
        have hM4 := hM9.tail.leave (tsA_cell (G := G) (r := 0) (a := false) (s := 0)) hbw' hcells
        have r0 := (hM4.blk_ 5 rfl).c 0 rfl
        have lr := (hM4.blk_ 5 rfl).lt
        refine ⟨.int .i64 0, by simp [results, Try.results26, go_sem, r0, lr], ?_⟩
        rw [← HPP.out]
        exact ⟨by rw [HF2.out]; rfl, hM4.below⟩
  case stop =>
    intro D jc pre V hD hpre hix hdd
    rw [HIX.out] at hix
    obtain ⟨⟨hM2, hz2⟩, rfl, ha, hs⟩ := hix
    have hst := HSTP.out _ hpre ha hs
    have hM3 := hM2.ranged tsA_calm hdd hD hwz
    have HM := hide hM3
    have HF2 := hide hst
    clear hM3 hst
    clear hM2 HI0 HSTS ha hs hpre
    go_wp2
    refine leaves_marks [D] V (HM.out.marks (by exact List.sublist_append_left [thD D] _)) HM.out.size fun w' hbw' hcells => ?_
    have hM4 := HM.out.tail.leave tsA_cell hbw' hcells
    unfold tsA at hM4
    have r0 := (hM4.blk_ 5 rfl).c 0 rfl
    have lr := (hM4.blk_ 5 rfl).lt
    refine ⟨.int .i64 1, by simp [results, Try.results26, go_sem, r0, lr], ?_⟩
    rw [← HPP.out]
    exact ⟨by rw [HF2.out]; rfl, hM4.below⟩
end Go.Proofs.Ytidbjidcjmbnlaa
end
section
namespace Go.Proofs.Ytidbjidcjmbnlaa
open Go Go.RowKit
attribute [local go_sem] Oper.semAt_some

theorem shapeInfo : (Try.prog.info? 87).map (fun i => (i.zero, i.size, i.bytes)) = some (some (.agg #[.int .i64 0, .int .i64 0, .int .i64 0, .int .i64 0, .int .i64 0, .map none, .map none, .int .i64 0, .int .i64 0, .int .i64 0, .int .i64 0, .int .i64 0]), 12, 96) := by kernel_rfl
def AtPost (sts : List Nat) (N : Nat) (w : World) (e : Ending) (w' : World) : Prop := ∃ v, e = .returned (.tuple #[v, .int .i64 0]) ∧ Mem w [.row w.heap.size 3 1 v N (numsV sts)] w'
/-- So many shapes are made. -/
def AtS (gx gy gs : Int) (W H : Nat) (L : List Cld) (w : World) (pG : Nat) (v : Value) (k : Nat) (wr : World) : Prop := ∃ Y : List Shp, Y.map (·.c) = L.take k ∧ ShpsAt wr Y ∧ Mem w [.row w.heap.size 87 12 v k (shpCells gx gy gs W H Y), .blk pG 28 #[.int .i64 gx, .int .i64 gy, .int .i64 gs, .int .i64 (W : Nat), .int .i64 (H : Nat)]] wr
/-- So many states are told. -/
def AtT (gx gy gs : Int) (W H : Nat) (t : Int) (L : List Cld) (Y : List Shp) (w : World) (pG n : Nat) (v u : Value) (p : Nat) (wr : World) : Prop := ShpsAt wr Y ∧ Mem w [.row w.heap.size 3 1 u p (numsV ((List.range p).map (stA W H t L))), .row w.heap.size 87 12 v n (shpCells gx gy gs W H Y), .blk pG 28 #[.int .i64 gx, .int .i64 gy, .int .i64 gs, .int .i64 (W : Nat), .int .i64 (H : Nat)]] wr
theorem nums_next {f : Nat → Nat} {p : Nat} : numsV ((List.range p).map f) ++ [.int .i64 ((f p : Nat) : Int)] = numsV ((List.range (p + 1)).map f) := by
  unfold numsV
  rw [List.range_succ, List.map_append, List.map_append]
  rfl
set_option maxHeartbeats 4000000 in
set_option maxRecDepth 100000 in
theorem At_ok (gx gy gs : Int) (W H N base n cc : Nat) (A : Option Addr) (t : Int) (L : List Cld) (w : World) (hW : 1 ≤ W) (hH : 1 ≤ H) (hW8 : W ≤ 8) (hH8 : H ≤ 8) (hN : W * H = N) (he : gridE gx gy gs W H = 0) (ht : 0 ≤ t ∧ t ≤ 7200) (hn : L.length = n) (hn64 : n ≤ 64)
    (hr : w.ownsRow base 76 7 (.slice A n cc) n (cldCells L)) (hok : ∀ c ∈ L, c.Ok N) (hat : ∀ c ∈ L, CldAt w base c) :
    Calls Try.prog 6 #[.agg #[.int .i64 gx, .int .i64 gy, .int .i64 gs, .int .i64 (W : Nat), .int .i64 (H : Nat)], .slice A n cc, .int .i64 t] w (AtPost ((List.range N).map (stA W H t L)) N w) := by
  have hN64 : N ≤ 64 := by rw [← hN]; exact Nat.mul_le_mul hW8 hH8
  obtain ⟨PP, hPP⟩ : ∃ PP, AtPost ((List.range N).map (stA W H t L)) N w = PP := ⟨_, rfl⟩
  rw [hPP]
  have hcg := fun V => CheckGrid_any gx gy gs W H V
  rw [he] at hcg
  unfold gridV at hcg
  have hrl := fun V (hB : Below w.heap.size w V) => own_belowT hr hB
  have hcc := fun V (hB : Below w.heap.size w V) c (hc : c ∈ L) => CheckCloud_ok gx gy gs W H N base c.As c.Am c.ns c.cs c.nm c.cm c.xd c.xu c.yd c.yu c.sl c.ml V he hN.symm (by omega) (by omega) (by omega) (hok c hc).fx (hok c hc).fy (own_belowT (hat c hc).1 hB) (own_belowT (hat c hc).2 hB) (hok c hc).ns (hok c hc).nm (hok c hc).m0 (hok c hc).mN (hok c hc).mr (hok c hc).sr (hok c hc).sm
  have hbn : ∀ c ∈ L, c.nm ≤ 64 ∧ c.ns ≤ 64 ∧ (∀ p ∈ c.sl, p ≤ 64) ∧ (∀ p ∈ c.ml, p ≤ 64) := fun c hc => by
    have h1 := rise_le (hok c hc).mr (hok c hc).mN
    have h2 := rise_le (hok c hc).sr (fun p hp => (hok c hc).mN p ((hok c hc).sm p hp))
    rw [(hok c hc).nm] at h1
    rw [(hok c hc).ns] at h2
    exact ⟨by omega, by omega, fun p hp => by have := (hok c hc).mN p ((hok c hc).sm p hp); omega, fun p hp => by have := (hok c hc).mN p hp; omega⟩
  have hsh := fun V (hB : Below w.heap.size w V) c (hc : c ∈ L) => shaped_ok gx gy gs W H base c.ns c.cs c.nm c.cm c.As c.Am c.xd c.xu c.yd c.yu c.sl c.ml V (own_belowT (hat c hc).1 hB) (own_belowT (hat c hc).2 hB) (hok c hc).ns (hok c hc).nm (by have := hbn c hc; omega) (by have := hbn c hc; omega) (fun p hp => by have := (hbn c hc).2.2.1 p hp; omega) (fun p hp => by have := (hbn c hc).2.2.2 p hp; omega)
  have hps := fun V (y : Shp) (hy : y.c ∈ L) (hV : ShpAt V y) (p : Nat) (hp : p < N) => at_any gx gy gs W H y.gS y.gM y.cS y.cM p y.c.xd y.c.xu y.c.yd y.c.yu t (comeOf y.c t).lx (comeOf y.c t).rx (comeOf y.c t).ly (comeOf y.c t).ry y.c.sl y.c.ml V (by rw [hN]; exact hp) hW hW8 hH8
    (by have := come_bd (ins_bd (hok _ hy).fx).1 ht; unfold comeOf; dsimp only; omega) (by have := come_bd (ins_bd (hok _ hy).fx).2 ht; unfold comeOf cdiv; dsimp only; omega) (by have := come_bd (ins_bd (hok _ hy).fy).1 ht; unfold comeOf; dsimp only; omega) (by have := come_bd (ins_bd (hok _ hy).fy).2 ht; unfold comeOf cdiv; dsimp only; omega)
    (fun V' => come_ok gx gy gs W H y.gS y.gM y.c.xd y.c.xu y.c.yd y.c.yu y.c.xd y.c.xu t _ _ V' rfl rfl (come_bd (ins_bd (hok _ hy).fx).1 ht) (come_bd (ins_bd (hok _ hy).fx).2 ht) (ins_bd (hok _ hy).fx).1 (ins_bd (hok _ hy).fx).2)
    (fun V' => come_ok gx gy gs W H y.gS y.gM y.c.xd y.c.xu y.c.yd y.c.yu y.c.yd y.c.yu t _ _ V' rfl rfl (come_bd (ins_bd (hok _ hy).fy).1 ht) (come_bd (ins_bd (hok _ hy).fy).2 ht) (ins_bd (hok _ hy).fy).1 (ins_bd (hok _ hy).fy).2)
    hV.1 hV.2
  have hps2 : ∀ V (y : Shp), y.c ∈ L → ShpAt V y → ∀ p, p < N → Calls Try.prog 26 #[.agg (shapeC gx gy gs W H y.gS y.gM y.c.xd y.c.xu y.c.yd y.c.yu), .int .i64 (p : Nat), .int .i64 t] V fun e w' => e = .returned (.int .i64 ((stC W H t p y.c : Nat) : Int)) ∧ Below V.heap.size V w' := hps
  have hwi := fun V => cwithin_any t 0 7200 V
  simp only [winB_ok ht.1 ht.2] at hwi
  have hNI : (W : Int) * (H : Int) = N := by rw [← hN]; push_cast; rfl
  have hn64' : ¬ (64 : Int) < n := by omega
  have hsm := fun (p k : Nat) (c : Cld) (h : L[k]? = some c) => stA_take (W := W) (H := H) (t := t) (p := p) h
  have hs2 := fun p k => stA_le (W := W) (H := H) (t := t) (L := L.take k) (p := p)
  have hc2 := fun p c => stC_le (W := W) (H := H) (t := t) (p := p) (c := c)
  unfold shapeC at hps2
  unfold ShapedPost shapeC cloudC at hsh
  unfold cloudC at hcc
  have HCG := hide hcg
  have HRL := hide hrl
  have HCC := hide hcc
  have HSH := hide hsh
  have HPS := hide hps2
  have HWI := hide hwi
  have HPP := hide hPP
  have HN := hide hn
  have HBN := hide hbn
  have HSM := hide hsm
  have HS2 := hide hs2
  have HC2 := hide hc2
  clear hcg hrl hcc hsh hps2 hwi hPP hn hbn hsm hs2 hc2
  clear hr hok hat he hps hN
  go_enter Try.func6, Try.ntmps6
  have HM := hide (Mem.start w)
  go_upto_region 1 with fail
  refine code_world fun W1 hW => ?_
  have HMn := Mem.to (Mem.allocAt HM.out w.heap.size rfl #[.int .i64 gx, .int .i64 gy, .int .i64 gs, .int .i64 (W : Nat), .int .i64 (H : Nat)] 28) hW
  have LW : Later w W1 := by rw [hW]; exact ((Below.refl _ _).alloc (Nat.le_refl _) _)
  have szW : W1.heap.size = w.heap.size + 1 := by rw [hW]; simp
  clear hW
  replace HM := hide HMn
  clear HMn LW
  clear szW
  obtain ⟨pG, hpG⟩ : ∃ q, w.heap.size = q := ⟨_, rfl⟩
  rw [hpG] at HM
  simp only [hpG]
  clear hpG
  have bg : Blk W1 pG 28 #[.int .i64 gx, .int .i64 gy, .int .i64 gs, .int .i64 (W : Nat), .int .i64 (H : Nat)] := HM.out.get 0 rfl
  have ltg := bg.lt
  have g0 := bg.c 0 rfl
  have g1 := bg.c 1 rfl
  have g2 := bg.c 2 rfl
  have g3 := bg.c 3 rfl
  have g4 := bg.c 4 rfl
  go_wp2_with fail
  refine (HCG.out _).mono ?_
  rintro e w2 ⟨rfl, hb⟩
  replace HM := hide (HM.out.later hb)
  clear hb bg ltg g0 g1 g2 g3 g4
  go_wp2_with fail
  have HS := hide (show AtS gx gy gs W H L w pG (.slice none 0 0) 0 w2 from ⟨[], rfl, fun y hy => absurd hy List.not_mem_nil, HM.out.nilRow w.heap.size 87 12⟩)
  clear HM
  go_loopw [9, 29] (fun v u wr => ∃ k : Nat, k ≤ n ∧ u = .int .i64 (k : Nat) ∧ Hid (AtS gx gy gs W H L w pG v k wr)) (fun _ u _ => n - (intOf u).toNat)
  case atStart => exact ⟨0, Nat.zero_le _, rfl, HS⟩
  case round =>
    clear HS
    obtain ⟨k, hkn, rfl, HS⟩ := hrel
    obtain ⟨Y, hY, hYa, hM⟩ := HS.out
    obtain ⟨Av, cv, rfl⟩ := own_shape2 (hM.row_ 0 rfl)
    have HY := hide hY
    have HYA := hide hYa
    have HM := hide hM
    clear hY hYa hM
    clear HS
    by_cases hlt : k < n
    · have hlt2 : (k : Int) < n := by omega
      obtain ⟨c, hc⟩ : ∃ x, L[k]? = some x := ⟨_, List.getElem?_eq_getElem (by rw [HN.out]; exact hlt)⟩
      have hcL := List.mem_of_getElem? hc
      have hck := fun V hB => HCC.out V hB c hcL
      have hsk := fun V hB => HSH.out V hB c hcL
      obtain ⟨b, cur, hA, -, hb, -, -, hcl⟩ := row_blk (HRL.out wr HM.out.below) (by omega)
      subst hA
      have v0 := hb.c (k * 7 + 0) (hcl _ _ ((cldCells_get hc (by omega)).trans rfl))
      have v1 := hb.c (k * 7 + 1) (hcl _ _ ((cldCells_get hc (by omega)).trans rfl))
      have v2 := hb.c (k * 7 + 2) (hcl _ _ ((cldCells_get hc (by omega)).trans rfl))
      have v3 := hb.c (k * 7 + 3) (hcl _ _ ((cldCells_get hc (by omega)).trans rfl))
      have v4 := hb.c (k * 7 + 4) (hcl _ _ ((cldCells_get hc (by omega)).trans rfl))
      have v5 := hb.c (k * 7 + 5) (hcl _ _ ((cldCells_get hc (by omega)).trans rfl))
      have v6 := hb.c (k * 7 + 6) (hcl _ _ ((cldCells_get hc (by omega)).trans rfl))
      have ltb := hb.lt
      simp only [Nat.add_zero] at v0
      have hbc := HBN.out c hcL
      have HCK := hide hc
      clear hb hcl hc hcL
      have HC0 := hide (show c = c from rfl)
      obtain ⟨As, Am, ns, cs, nm, cm, xd, xu, yd, yu, sl, ml⟩ := c
      dsimp only at v0 v1 v2 v3 v4 v5 v6 hck hsk hbc
      obtain ⟨hb1, hb2, -, -⟩ := hbc
      have hck2 := fun V hB => hck V hB (by omega) (by omega)
      have HCK2 := hide hck2
      have HSK := hide hsk
      clear hck2 hsk
      clear hck HC0
      go_upto_region 10 with fail
      refine code_world fun W3 hW => ?_
      have HMn := Mem.to (Mem.allocAt HM.out wr.heap.size rfl #[.slice As ns cs, .slice Am nm cm, .int .i64 xd, .int .i64 xu, .int .i64 yd, .int .i64 yu, .int .i64 0] 76) hW
      have LW : Later wr W3 := by rw [hW]; exact ((Below.refl _ _).alloc (Nat.le_refl _) _)
      have szW : W3.heap.size = wr.heap.size + 1 := by rw [hW]; simp
      clear hW
      replace HYA := hide (HYA.out.later LW)
      replace HM := hide HMn
      clear HMn LW
      clear szW v0 v1 v2 v3 v4 v5 v6 ltb
      obtain ⟨pC, hpC⟩ : ∃ q, wr.heap.size = q := ⟨_, rfl⟩
      rw [hpC] at HM
      simp only [hpC]
      have bg : Blk W3 pG 28 #[.int .i64 gx, .int .i64 gy, .int .i64 gs, .int .i64 (W : Nat), .int .i64 (H : Nat)] := HM.out.get 2 rfl
      have ltg := bg.lt
      have g0 := bg.c 0 rfl
      have g1 := bg.c 1 rfl
      have g2 := bg.c 2 rfl
      have g3 := bg.c 3 rfl
      have g4 := bg.c 4 rfl
      have bc : Blk W3 pC 76 #[.slice As ns cs, .slice Am nm cm, .int .i64 xd, .int .i64 xu, .int .i64 yd, .int .i64 yu, .int .i64 0] := HM.out.get 0 rfl
      have ltc := bc.lt
      have c0 := bc.c 0 rfl
      have c1 := bc.c 1 rfl
      have c2 := bc.c 2 rfl
      have c3 := bc.c 3 rfl
      have c4 := bc.c 4 rfl
      have c5 := bc.c 5 rfl
      have c6 := bc.c 6 rfl
      go_wp2_with fail
      refine (HCK2.out _ HM.out.below).mono ?_
      rintro e w4 ⟨rfl, hb⟩
      replace HM := hide (HM.out.later hb)
      replace HYA := hide (HYA.out.later hb)
      clear hb bg ltg g0 g1 g2 g3 g4 bc ltc c0 c1 c2 c3 c4 c5 c6
      have bg : Blk w4 pG 28 #[.int .i64 gx, .int .i64 gy, .int .i64 gs, .int .i64 (W : Nat), .int .i64 (H : Nat)] := HM.out.get 2 rfl
      have ltg := bg.lt
      have g0 := bg.c 0 rfl
      have g1 := bg.c 1 rfl
      have g2 := bg.c 2 rfl
      have g3 := bg.c 3 rfl
      have g4 := bg.c 4 rfl
      have bc : Blk w4 pC 76 #[.slice As ns cs, .slice Am nm cm, .int .i64 xd, .int .i64 xu, .int .i64 yd, .int .i64 yu, .int .i64 0] := HM.out.get 0 rfl
      have ltc := bc.lt
      have c0 := bc.c 0 rfl
      have c1 := bc.c 1 rfl
      have c2 := bc.c 2 rfl
      have c3 := bc.c 3 rfl
      have c4 := bc.c 4 rfl
      have c5 := bc.c 5 rfl
      have c6 := bc.c 6 rfl
      go_wp2_with fail
      refine (HSK.out w4 HM.out.below).mono ?_
      rintro e w5 ⟨gS, gM, cS, cM, rfl, hb5, hmS, hmM⟩
      replace HM := hide (HM.out.later hb5)
      have HYS := hide ((HYA.out.later hb5).snoc (y := ⟨⟨As, Am, ns, cs, nm, cm, xd, xu, yd, yu, sl, ml⟩, gS, gM, cS, cM⟩) ⟨hmS, hmM⟩)
      clear hb5 hmS hmM HYA
      obtain ⟨i0, hi0, hz0, hz1, hz2⟩ := info_parts shapeInfo
      have Hi := hide hi0
      have Hz0 := hide hz0
      have Hz1 := hide hz1
      have Hz2 := hide hz2
      clear hi0 hz0 hz1 hz2
      have How := hide (HM.out.row_ 1 rfl)
      go_wp2_with (at_builtin; refine wpList_append_own_at _ rfl (.tmp 39) (.tmp 43) _ rfl w.heap.size 87 i0 _ 12 96 Try.underlying83 Hi.out Hz0.out Hz1.out Hz2.out rfl (by decide) _ _ _ rfl (How.out.alloc _) ⟨w5.heap.size, 0, none⟩ 1 1 [.int .i64 gx, .int .i64 gy, .int .i64 gs, .int .i64 (W : Nat), .int .i64 (H : Nat), .map (some gS), .map (some gM), .int .i64 xd, .int .i64 xu, .int .i64 yd, .int .i64 yu, .int .i64 0] rfl rfl ?c1 ?c2 ?c3 ?c4 ?c5 ?_)
      case c1 => exact new_cellsQ w5 _ [.int .i64 gx, .int .i64 gy, .int .i64 gs, .int .i64 (W : Nat), .int .i64 (H : Nat), .map (some gS), .map (some gM), .int .i64 xd, .int .i64 xu, .int .i64 yd, .int .i64 yu, .int .i64 0]
      case c2 => intro u hu; simp only [List.mem_cons, List.not_mem_nil, or_false] at hu; rcases hu with rfl | rfl | rfl | rfl | rfl | rfl | rfl | rfl | rfl | rfl | rfl | rfl <;> rfl
      case c3 => unfold maxLen; omega
      case c4 => omega
      case c5 => have := HM.out.size; simp; omega
      intro v8 w8 hownA hgrA _ hatA
      obtain ⟨A8, c8, rfl⟩ := own_shape2 hownA
      have hM8 := (HM.out.grow 1 rfl _ hgrA hownA hatA).tail
      have hY8 := HYS.out.grow How.out hgrA
      simp only [List.set_cons_zero, List.set_cons_succ] at hM8
      have HS := hide (show AtS gx gy gs W H L w pG (.slice A8 (k + 1) c8) (k + 1) w8 from ⟨Y ++ [⟨⟨As, Am, ns, cs, nm, cm, xd, xu, yd, yu, sl, ml⟩, gS, gM, cS, cM⟩], by rw [List.map_append, HY.out, List.take_add_one, HCK.out]; rfl, hY8, by rw [shpCells_app]; exact hM8⟩)
      clear HM How hownA hgrA hatA hM8 hY8 HYS g0 g1 g2 g3 g4 ltg bg c0 c1 c2 c3 c4 c5 c6 ltc bc
      go_wp2_with fail
      go_roundw
      case rel => exact ⟨k + 1, hlt, by go_num, HS⟩
      case measure => simp [intOf] <;> omega
    · obtain rfl : n = k := by omega
      have hkk : ¬ ((n : Int) < n) := by omega
      have hYL : Y.map (·.c) = L := by rw [HY.out, List.take_of_length_le (by rw [HN.out]; exact Nat.le_refl _)]
      have hYn : Y.length = n := by rw [← HN.out, ← hYL, List.length_map]
      have HYL := hide hYL
      have HYN := hide hYn
      clear hYL hYn
      clear HY
      go_wp2_with fail
      refine (HWI.out _).mono ?_
      rintro e w3 ⟨rfl, rfl⟩
      have bg : Blk wr pG 28 #[.int .i64 gx, .int .i64 gy, .int .i64 gs, .int .i64 (W : Nat), .int .i64 (H : Nat)] := HM.out.get 1 rfl
      have ltg := bg.lt
      have g0 := bg.c 0 rfl
      have g1 := bg.c 1 rfl
      have g2 := bg.c 2 rfl
      have g3 := bg.c 3 rfl
      have g4 := bg.c 4 rfl
      go_wp2_with fail
      have HT := hide (show AtT gx gy gs W H t L Y w pG n (.slice Av n cv) (.slice none 0 0) 0 wr from ⟨HYA.out, HM.out.nilRow w.heap.size 3 1⟩)
      clear HM HYA g0 g1 g2 g3 g4 ltg bg
      go_loopw [14, 54] (fun v u wr => ∃ p : Nat, p ≤ N ∧ u = .int .i64 (p : Nat) ∧ Hid (AtT gx gy gs W H t L Y w pG n (.slice Av n cv) v p wr)) (fun _ u _ => N - (intOf u).toNat)
      case atStart => exact ⟨0, Nat.zero_le _, rfl, HT⟩
      case round =>
        clear HT
        obtain ⟨p, hpN, rfl, HT⟩ := hrel
        by_cases hlp : p < N
        · have hlp2 : (p : Int) < N := by omega
          obtain ⟨A2, c2, rfl⟩ := own_shape2 (HT.out.2.row_ 0 rfl)
          go_wp2_with fail
          go_loopw [16, 59] (fun s u wr => ∃ j : Nat, j ≤ n ∧ s = .int .i64 ((stA W H t (L.take j) p : Nat) : Int) ∧ u = .int .i64 (j : Nat) ∧ Hid (AtT gx gy gs W H t L Y w pG n (.slice Av n cv) (.slice A2 p c2) p wr)) (fun _ u _ => n - (intOf u).toNat)
          case atStart => exact ⟨0, Nat.zero_le _, rfl, rfl, HT⟩
          case round =>
            clear HT
            obtain ⟨j, hjn, rfl, rfl, HT⟩ := hrel
            obtain ⟨hYa, hM⟩ := HT.out
            have HYA := hide hYa
            have HM := hide hM
            clear hYa hM
            clear HT
            by_cases hlj : j < n
            · have hlj2 : (j : Int) < n := by omega
              obtain ⟨y, hy⟩ : ∃ x, Y[j]? = some x := ⟨_, List.getElem?_eq_getElem (by rw [HYN.out]; exact hlj)⟩
              have hLy : L[j]? = some y.c := by rw [← HYL.out, List.getElem?_map, hy]; rfl
              obtain ⟨b, cur, rfl, -, hb, -, -, hcl⟩ := row_blk (HM.out.row_ 1 rfl) (by omega)
              have v0 := hb.c (j * 12 + 0) (hcl _ _ ((shpCells_get hy (by omega)).trans rfl))
              have v1 := hb.c (j * 12 + 1) (hcl _ _ ((shpCells_get hy (by omega)).trans rfl))
              have v2 := hb.c (j * 12 + 2) (hcl _ _ ((shpCells_get hy (by omega)).trans rfl))
              have v3 := hb.c (j * 12 + 3) (hcl _ _ ((shpCells_get hy (by omega)).trans rfl))
              have v4 := hb.c (j * 12 + 4) (hcl _ _ ((shpCells_get hy (by omega)).trans rfl))
              have v5 := hb.c (j * 12 + 5) (hcl _ _ ((shpCells_get hy (by omega)).trans rfl))
              have v6 := hb.c (j * 12 + 6) (hcl _ _ ((shpCells_get hy (by omega)).trans rfl))
              have v7 := hb.c (j * 12 + 7) (hcl _ _ ((shpCells_get hy (by omega)).trans rfl))
              have v8 := hb.c (j * 12 + 8) (hcl _ _ ((shpCells_get hy (by omega)).trans rfl))
              have v9 := hb.c (j * 12 + 9) (hcl _ _ ((shpCells_get hy (by omega)).trans rfl))
              have v10 := hb.c (j * 12 + 10) (hcl _ _ ((shpCells_get hy (by omega)).trans rfl))
              have v11 := hb.c (j * 12 + 11) (hcl _ _ ((shpCells_get hy (by omega)).trans rfl))
              have ltb := hb.lt
              simp only [Nat.add_zero] at v0
              have hyY := List.mem_of_getElem? hy
              have hyL := List.mem_of_getElem? hLy
              have hmax := HSM.out p j y.c hLy
              have HYIN := hide hyL
              have HMAX := hide hmax
              have HYY := hide hyY
              clear hyL hmax hyY
              clear hb hcl hy hLy
              go_upto_region 26 with fail
              refine code_world fun W3 hW => ?_
              have HMn := Mem.to (Mem.allocAt HM.out wr.heap.size rfl #[.int .i64 gx, .int .i64 gy, .int .i64 gs, .int .i64 (W : Nat), .int .i64 (H : Nat), .map (some y.gS), .map (some y.gM), .int .i64 y.c.xd, .int .i64 y.c.xu, .int .i64 y.c.yd, .int .i64 y.c.yu, .int .i64 0] 87) hW
              have LW : Later wr W3 := by rw [hW]; exact ((Below.refl _ _).alloc (Nat.le_refl _) _)
              have szW : W3.heap.size = wr.heap.size + 1 := by rw [hW]; simp
              clear hW
              replace HYA := hide (HYA.out.later LW)
              replace HM := hide HMn
              clear HMn LW
              clear szW v0 v1 v2 v3 v4 v5 v6 v7 v8 v9 v10 v11 ltb
              obtain ⟨pB, hpB⟩ : ∃ q, wr.heap.size = q := ⟨_, rfl⟩
              rw [hpB] at HM
              simp only [hpB]
              clear hpB
              have bs : Blk W3 pB 87 #[.int .i64 gx, .int .i64 gy, .int .i64 gs, .int .i64 (W : Nat), .int .i64 (H : Nat), .map (some y.gS), .map (some y.gM), .int .i64 y.c.xd, .int .i64 y.c.xu, .int .i64 y.c.yd, .int .i64 y.c.yu, .int .i64 0] := HM.out.get 0 rfl
              have lts := bs.lt
              have s0 := bs.c 0 rfl
              have s1 := bs.c 1 rfl
              have s2 := bs.c 2 rfl
              have s3 := bs.c 3 rfl
              have s4 := bs.c 4 rfl
              have s5 := bs.c 5 rfl
              have s6 := bs.c 6 rfl
              have s7 := bs.c 7 rfl
              have s8 := bs.c 8 rfl
              have s9 := bs.c 9 rfl
              have s10 := bs.c 10 rfl
              have s11 := bs.c 11 rfl
              go_wp2_with fail
              refine (HPS.out _ y HYIN.out (HYA.out y HYY.out) p hlp).mono ?_
              rintro e w4 ⟨rfl, hb⟩
              replace HM := hide (HM.out.later hb)
              replace HYA := hide (HYA.out.later hb)
              clear hb bs lts s0 s1 s2 s3 s4 s5 s6 s7 s8 s9 s10 s11
              go_wp2_with fail
              refine (or_any _ _ _).mono ?_
              rintro e w5 ⟨rfl, rfl⟩
              have HT := hide (show AtT gx gy gs W H t L Y w pG n (.slice (some ⟨b, 0, none⟩) n cv) (.slice A2 p c2) p w4 from ⟨HYA.out, HM.out.tail⟩)
              rw [← HMAX.out]
              clear HM HYA
              go_wp2_with fail
              go_roundw
              case rel => exact ⟨j + 1, hlj, rfl, by go_num, HT⟩
              case measure => simp [intOf] <;> omega
            · obtain rfl : n = j := by omega
              have hkk : ¬ ((n : Int) < n) := by omega
              rw [List.take_of_length_le (by rw [HN.out]; exact Nat.le_refl _)]
              obtain ⟨st, hst⟩ : ∃ q, stA W H t L p = q := ⟨_, rfl⟩
              rw [hst]
              have HST := hide hst
              clear hst
              go_wp2_with fail
              refine (number_any _ _).mono ?_
              rintro e w5 ⟨rfl, rfl⟩
              obtain ⟨i0, hi0, hz0, hz1, hz2⟩ := info_parts intInfoT
              have Hi := hide hi0
              have Hz0 := hide hz0
              have Hz1 := hide hz1
              have Hz2 := hide hz2
              clear hi0 hz0 hz1 hz2
              have How := hide (HM.out.row_ 0 rfl)
              go_wp2_with (at_builtin; refine wpList_append_own_at _ rfl (.tmp 71) (.tmp 74) _ rfl w.heap.size 3 i0 _ 1 8 Try.underlying33 Hi.out Hz0.out Hz1.out Hz2.out rfl (by decide) _ _ _ rfl (How.out.alloc _) ⟨wr.heap.size, 0, none⟩ 1 1 [.int .i64 (st : Nat)] rfl rfl ?c1 ?c2 ?c3 ?c4 ?c5 ?_)
              case c1 => exact new_cellsQ wr _ [.int .i64 (st : Nat)]
              case c2 => intro u hu; simp only [List.mem_cons, List.not_mem_nil, or_false] at hu; rcases hu with rfl; rfl
              case c3 => unfold maxLen; omega
              case c4 => omega
              case c5 => have := HM.out.size; simp; omega
              intro v8 w8 hownA hgrA _ hatA
              obtain ⟨A8, c8, rfl⟩ := own_shape2 hownA
              have hM8 := HM.out.grow 0 rfl _ hgrA hownA hatA
              have hY8 := HYA.out.grow How.out hgrA
              simp only [List.set_cons_zero, List.set_cons_succ] at hM8
              have HT := hide (show AtT gx gy gs W H t L Y w pG n (.slice Av n cv) (.slice A8 (p + 1) c8) (p + 1) w8 from ⟨hY8, by rw [← nums_next, HST.out]; exact hM8⟩)
              clear HM How hownA hgrA hatA hM8 hY8 HYA
              go_wp2_with fail
              go_roundw
              case rel => exact ⟨p + 1, hlp, by go_num, HT⟩
              case measure => simp [intOf] <;> omega
        · obtain rfl : N = p := by omega
          have hkk : ¬ ((N : Int) < N) := by omega
          have hM := HT.out.2
          have HM := hide hM
          clear hM
          clear HT
          go_wp2
          rw [← HPP.out]
          exact ⟨_, rfl, HM.out.sub (List.singleton_sublist.2 List.mem_cons_self)⟩
end Go.Proofs.Ytidbjidcjmbnlaa
end
section
namespace Go.Proofs.Ytidbjidcjmbnlaa
open Go Go.RowKit
attribute [local go_sem] Oper.semAt_some

/-- Rain in truth, as it is given. -/
def movedC (wd hg : Nat) (A : Option Addr) (nA cA : Nat) (xb yb : Nat) (D : Option Addr) (nD cD sec : Nat) : Array Value := #[.int .u8 (wd : Nat), .int .u8 (hg : Nat), .slice A nA cA, .int .u8 (xb : Nat), .int .u8 (yb : Nat), .slice D nD cD, .int .u16 (sec : Nat)]
set_option maxRecDepth 100000 in
theorem movedSeconds_any (wd hg nA cA xb yb nD cD sec : Nat) (A D : Option Addr) (w : World) (h : sec < 65536) :
    Calls Try.prog 7 #[.agg (movedC wd hg A nA cA xb yb D nD cD sec)] w fun e w' => e = .returned (.int .i64 ((100 + sec % 500 : Nat) : Int)) ∧ Below w.heap.size w w' := by
  unfold movedC
  go_enter Try.func7, Try.ntmps7
  have HM := hide (Mem.start w)
  go_upto_region 1 with fail
  refine code_world fun W1 hW => ?_
  have HMn := Mem.to (Mem.allocAt HM.out w.heap.size rfl #[.int .u8 (wd : Nat), .int .u8 (hg : Nat), .slice A nA cA, .int .u8 (xb : Nat), .int .u8 (yb : Nat), .slice D nD cD, .int .u16 (sec : Nat)] 26) hW
  have LW : Later w W1 := by rw [hW]; exact ((Below.refl _ _).alloc (Nat.le_refl _) _)
  have szW : W1.heap.size = w.heap.size + 1 := by rw [hW]; simp
  clear hW
  replace HM := hide HMn
  clear HMn LW
  clear szW
  have a6 := (HM.out.blk_ 0 rfl).c 6 rfl
  have lta := (HM.out.blk_ 0 rfl).lt
  go_wp2
  go_ret
  exact ⟨ret_int (by push_cast; rfl), HM.out.below⟩
set_option maxRecDepth 100000 in
theorem movedGrid_any (wd hg nA cA xb yb nD cD sec : Nat) (A D : Option Addr) (w : World) (h1 : wd < 256) (h2 : hg < 256) :
    Calls Try.prog 4 #[.agg (movedC wd hg A nA cA xb yb D nD cD sec)] w fun e w' => e = .returned (.agg #[.int .i64 0, .int .i64 0, .int .i64 1000, .int .i64 ((1 + wd % 8 : Nat) : Int), .int .i64 ((1 + hg % 8 : Nat) : Int)]) ∧ Below w.heap.size w w' := by
  obtain ⟨PP, hPP⟩ : ∃ PP : Ending → World → Prop, (fun e w' => e = .returned (.agg #[.int .i64 0, .int .i64 0, .int .i64 1000, .int .i64 ((1 + wd % 8 : Nat) : Int), .int .i64 ((1 + hg % 8 : Nat) : Int)]) ∧ Below w.heap.size w w') = PP := ⟨_, rfl⟩
  rw [hPP]
  unfold movedC
  have HPP := hide hPP
  clear hPP
  go_enter Try.func4, Try.ntmps4
  have HM := hide (Mem.start w)
  go_upto_region 1 with fail
  refine code_world fun W1 hW => ?_
  have HMn := Mem.to (Mem.allocAt (Mem.allocAt HM.out w.heap.size rfl #[.int .u8 (wd : Nat), .int .u8 (hg : Nat), .slice A nA cA, .int .u8 (xb : Nat), .int .u8 (yb : Nat), .slice D nD cD, .int .u16 (sec : Nat)] 26) (w.heap.size + 1) (by simp) #[.int .i64 0, .int .i64 0, .int .i64 0, .int .i64 0, .int .i64 0] 28) hW
  have LW : Later w W1 := by rw [hW]; exact (((Below.refl _ _).alloc (Nat.le_refl _) _).alloc (by simp; try omega) _)
  have szW : W1.heap.size = w.heap.size + 2 := by rw [hW]; simp
  clear hW
  replace HM := hide HMn
  clear HMn LW
  clear szW
  have a0 := (HM.out.blk_ 1 rfl).c 0 rfl
  have a1 := (HM.out.blk_ 1 rfl).c 1 rfl
  have lta := (HM.out.blk_ 1 rfl).lt
  have bq : Blk W1 (w.heap.size + 1) 28 #[.int .i64 0, .int .i64 0, .int .i64 0, .int .i64 0, .int .i64 0] := HM.out.get 0 rfl
  have ltq := bq.lt
  have q0 := bq.c 0 rfl
  have fq0 := bq.frozen 0
  have q1 := bq.c 1 rfl
  have fq1 := bq.frozen 1
  have q2 := bq.c 2 rfl
  have fq2 := bq.frozen 2
  have q3 := bq.c 3 rfl
  have fq3 := bq.frozen 3
  have q4 := bq.c 4 rfl
  have fq4 := bq.frozen 4
  go_wp2_with fail
  refine ret_world fun V hV => ?_
  have hM9 := Mem.to (((((HM.out.set_ 0 rfl 0 (.int .i64 0) (cs' := #[.int .i64 0, .int .i64 0, .int .i64 0, .int .i64 0, .int .i64 0]) rfl).set_ 0 rfl 1 (.int .i64 0) (cs' := #[.int .i64 0, .int .i64 0, .int .i64 0, .int .i64 0, .int .i64 0]) rfl).set_ 0 rfl 2 (.int .i64 1000) (cs' := #[.int .i64 0, .int .i64 0, .int .i64 1000, .int .i64 0, .int .i64 0]) rfl).set_ 0 rfl 3 (.int .i64 (1 + (wd : Int) % 8)) (cs' := #[.int .i64 0, .int .i64 0, .int .i64 1000, .int .i64 (1 + (wd : Int) % 8), .int .i64 0]) rfl).set_ 0 rfl 4 (.int .i64 (1 + (hg : Int) % 8)) (cs' := #[.int .i64 0, .int .i64 0, .int .i64 1000, .int .i64 (1 + (wd : Int) % 8), .int .i64 (1 + (hg : Int) % 8)]) rfl) hV
  have hb9 := hM9.blk_ 0 rfl
  have q0 := hb9.c 0 rfl
  have q1 := hb9.c 1 rfl
  have q2 := hb9.c 2 rfl
  have q3 := hb9.c 3 rfl
  have q4 := hb9.c 4 rfl
  rw [← HPP.out]
  refine bodyPost_ret (v := .agg #[.int .i64 0, .int .i64 0, .int .i64 1000, .int .i64 (1 + (wd : Int) % 8), .int .i64 (1 + (hg : Int) % 8)]) (by simp [results, Try.results4, go_sem, q0, q1, q2, q3, q4]) rfl ⟨by push_cast; rfl, hM9.below⟩
/-- A row of yes and no that was given. -/
def Bools (w : World) (B : Nat) (A : Option Addr) (l : List Bool) : Prop := 0 < l.length → ∃ b off, A = some ⟨b, off, none⟩ ∧ b < B ∧ ∀ j x, l[j]? = some x → w.cell? ⟨b, off + j, none⟩ = some (.bool x)
theorem Bools.later {w w' : World} {A : Option Addr} {l : List Bool} (h : Bools w w.heap.size A l) (hB : Below w.heap.size w w') : Bools w' w'.heap.size A l := fun hn => by
  obtain ⟨b, off, e, hb, hc⟩ := h hn
  exact ⟨b, off, e, Nat.lt_of_lt_of_le hb hB.size, fun j x hx => (hB.cell (p := ⟨b, off + j, none⟩) hb).trans (hc j x hx)⟩
def mvdOf (W H xb yb : Nat) (inl : List Bool) : Mvd := ⟨W, H, (xb : Int) % 5 - 2, (yb : Int) % 5 - 2, fun k => inl.getD k false⟩
set_option maxHeartbeats 4000000 in
set_option maxRecDepth 100000 in
theorem movedIn_any (wd hg nA cA xb yb nD cD sec W H p n : Nat) (A D : Option Addr) (gx gy gs : Int) (inl : List Bool) (w : World) (hW : 1 ≤ W) (hH : 1 ≤ H) (hW8 : W ≤ 8) (hH8 : H ≤ 8) (hp : p < W * H) (hn : n ≤ 2) (hxb : xb < 256) (hyb : yb < 256) (hnA : inl.length = nA) (hA64 : nA ≤ 9223372036854775807) (hI : Bools w w.heap.size A inl) :
    Calls Try.prog 10 #[.agg (movedC wd hg A nA cA xb yb D nD cD sec), .agg #[.int .i64 gx, .int .i64 gy, .int .i64 gs, .int .i64 (W : Nat), .int .i64 (H : Nat)], .int .i64 (p : Nat), .int .i64 (n : Nat)] w fun e w' => e = .returned (.bool (truP (mvdOf W H xb yb inl) n p)) ∧ Below w.heap.size w w' := by
  have hN2 : W * H ≤ 64 := Nat.mul_le_mul hW8 hH8
  have hp64 : p < 64 := by omega
  obtain ⟨r, hr⟩ : ∃ r, truP (mvdOf W H xb yb inl) n p = r := ⟨_, rfl⟩
  rw [hr]
  unfold truP truXY mvdOf gridB at hr
  dsimp only at hr
  obtain ⟨mx, hmx⟩ : ∃ q, (xb : Int) % 5 - 2 = q := ⟨_, rfl⟩
  obtain ⟨my, hmy⟩ : ∃ q, (yb : Int) % 5 - 2 = q := ⟨_, rfl⟩
  have hmx2 : -2 ≤ mx ∧ mx ≤ 2 := by omega
  have hmy2 : -2 ≤ my ∧ my ≤ 2 := by omega
  obtain ⟨P, hP⟩ : ∃ q, (n : Int) * mx = q := ⟨_, rfl⟩
  obtain ⟨Q, hQ⟩ : ∃ q, (n : Int) * my = q := ⟨_, rfl⟩
  have hP2 : -4 ≤ P ∧ P ≤ 4 := by
    obtain rfl | rfl | rfl : n = 0 ∨ n = 1 ∨ n = 2 := by omega
    all_goals (rw [← hP]; omega)
  have hQ2 : -4 ≤ Q ∧ Q ≤ 4 := by
    obtain rfl | rfl | rfl : n = 0 ∨ n = 1 ∨ n = 2 := by omega
    all_goals (rw [← hQ]; omega)
  rw [hmx, hmy, hP, hQ] at hr
  have hlI := fun V (hB : Below w.heap.size w V) => hI.later hB
  unfold movedC
  have HR := hide hr
  have HI := hide hlI
  have HP0 := hide hp
  have HNA := hide hnA
  clear hr hlI hp hnA
  clear hI hN2
  go_enter Try.func10, Try.ntmps10
  have HM := hide (Mem.start w)
  go_upto_region 1 with fail
  refine code_world fun W1 hW => ?_
  have HMn := Mem.to (Mem.allocAt (Mem.allocAt HM.out w.heap.size rfl #[.int .u8 (wd : Nat), .int .u8 (hg : Nat), .slice A nA cA, .int .u8 (xb : Nat), .int .u8 (yb : Nat), .slice D nD cD, .int .u16 (sec : Nat)] 26) (w.heap.size + 1) (by simp) #[.int .i64 gx, .int .i64 gy, .int .i64 gs, .int .i64 (W : Nat), .int .i64 (H : Nat)] 28) hW
  have LW : Later w W1 := by rw [hW]; exact (((Below.refl _ _).alloc (Nat.le_refl _) _).alloc (by simp; try omega) _)
  have szW : W1.heap.size = w.heap.size + 2 := by rw [hW]; simp
  clear hW
  replace HM := hide HMn
  clear HMn LW
  clear szW
  obtain ⟨pM, hpM⟩ : ∃ q, w.heap.size = q := ⟨_, rfl⟩
  obtain ⟨pG, hpG⟩ : ∃ q, pM + 1 = q := ⟨_, rfl⟩
  rw [show w.heap.size + 1 = pG by omega, hpM] at HM
  simp only [hpM, hpG]
  clear hpG hpM
  have a2 := (HM.out.blk_ 1 rfl).c 2 rfl
  have a3 := (HM.out.blk_ 1 rfl).c 3 rfl
  have a4 := (HM.out.blk_ 1 rfl).c 4 rfl
  have lta := (HM.out.blk_ 1 rfl).lt
  have g3 := (HM.out.blk_ 0 rfl).c 3 rfl
  have g4 := (HM.out.blk_ 0 rfl).c 4 rfl
  have ltg := (HM.out.blk_ 0 rfl).lt
  go_wp2_with fail
  go_quiet (fail)
  have hL9 : Below W1.heap.size W1 (W1.drewN nq) := below_drewN (Below.refl _ _) nq
  replace HM := hide (HM.out.later hL9)
  clear hL9 a2 a3 a4 lta g3 g4 ltg
  have hx0 : (p : Int) % (W : Int) = ((p % W : Nat) : Int) := rfl
  have hy0 : wrap64 ((p : Int) / (W : Int)) = ((p / W : Nat) : Int) := by
    have h1 : (p : Int) / (W : Int) = ((p / W : Nat) : Int) := rfl
    have h2 : p / W ≤ p := Nat.div_le_self _ _
    rw [h1]
    generalize p / W = z at *
    exact IntWalk.wrap64_in _ (by omega)
  simp only [hx0, hy0]
  obtain ⟨x, hx⟩ : ∃ x, p % W = x := ⟨_, rfl⟩
  obtain ⟨y, hy⟩ : ∃ y, p / W = y := ⟨_, rfl⟩
  have hxW : x < W := by rw [← hx]; exact Nat.mod_lt _ (by omega)
  have hyH : y < H := by rw [← hy]; exact Nat.div_lt_of_lt_mul HP0.out
  have hr2 := HR.out
  rw [hx, hy] at hr2 ⊢
  clear hx0 hy0 hx hy HR
  have e1 : wrap64 ((x : Int) - P) = (x : Int) - P := IntWalk.wrap64_in _ (by omega)
  have e2 : wrap64 ((y : Int) - Q) = (y : Int) - Q := IntWalk.wrap64_in _ (by omega)
  simp only [e1, e2]
  clear e1 e2
  obtain ⟨X, hX⟩ : ∃ X, (x : Int) - P = X := ⟨_, rfl⟩
  obtain ⟨Y, hY⟩ : ∃ X, (y : Int) - Q = X := ⟨_, rfl⟩
  have hX2 : -8 ≤ X ∧ X ≤ 16 := by omega
  have hY2 : -8 ≤ Y ∧ Y ≤ 16 := by omega
  rw [hX, hY] at hr2
  simp only [hX, hY]
  clear hX hY
  have HR := hide hr2
  clear hr2
  generalize (W1.drewN nq : World) = wq at *
  have a2 := (HM.out.blk_ 1 rfl).c 2 rfl
  have lta := (HM.out.blk_ 1 rfl).lt
  have g3 := (HM.out.blk_ 0 rfl).c 3 rfl
  have g4 := (HM.out.blk_ 0 rfl).c 4 rfl
  have ltg := (HM.out.blk_ 0 rfl).lt
  have hout : ∀ (h : ¬ (0 ≤ X ∧ X < W ∧ 0 ≤ Y ∧ Y < H)), r = false := fun h => by
    rw [← HR.out, decide_eq_false h, Bool.false_and]
  have HOUT := hide hout
  clear hout
  by_cases c1 : X < 0
  · have hf := HOUT.out (by omega)
    subst hf
    go_wp2
    go_ret
    exact ⟨rfl, HM.out.below⟩
  by_cases c2 : (W : Int) ≤ X
  · have hf := HOUT.out (by omega)
    subst hf
    have c2' : ¬ X < (W : Int) := by omega
    go_wp2
    go_ret
    exact ⟨rfl, HM.out.below⟩
  have c2' : X < (W : Int) := by omega
  by_cases c3 : Y < 0
  · have hf := HOUT.out (by omega)
    subst hf
    go_wp2
    go_ret
    exact ⟨rfl, HM.out.below⟩
  by_cases c4 : (H : Int) ≤ Y
  · have hf := HOUT.out (by omega)
    subst hf
    have c4' : ¬ Y < (H : Int) := by omega
    go_wp2
    go_ret
    exact ⟨rfl, HM.out.below⟩
  have c4' : Y < (H : Int) := by omega
  obtain ⟨Xn, rfl⟩ := Int.eq_ofNat_of_zero_le (show 0 ≤ X by omega)
  obtain ⟨Yn, rfl⟩ := Int.eq_ofNat_of_zero_le (show 0 ≤ Y by omega)
  have hr3 := HR.out
  rw [decide_eq_true (by omega), Bool.true_and] at hr3
  obtain ⟨v, hv⟩ : ∃ v, Yn * W = v := ⟨_, rfl⟩
  have hvI : (Yn : Int) * (W : Int) = (v : Int) := by rw [← hv]; push_cast; rfl
  have hvb : v ≤ 64 := by
    rw [← hv]
    exact Nat.mul_le_mul (show Yn ≤ 8 by omega) hW8
  rw [hvI, show ((v : Int) + (Xn : Int)).toNat = v + Xn by omega] at hr3
  have hk : (v : Int) + (Xn : Int) = ((v + Xn : Nat) : Int) := by push_cast; rfl
  obtain ⟨k, hk2⟩ : ∃ k, v + Xn = k := ⟨_, rfl⟩
  rw [hk2] at hr3 hk
  have hk100 : (k : Int) ≤ 100 := by omega
  clear hv hk2 HR HOUT
  by_cases c5 : k < nA
  · have c5' : (k : Int) < nA := by omega
    obtain ⟨b, off, rfl, hb, hcell⟩ := HI.out wq HM.out.below (by rw [HNA.out]; omega)
    obtain ⟨z, hz⟩ : ∃ z, inl[k]? = some z := ⟨_, List.getElem?_eq_getElem (by rw [HNA.out]; exact c5)⟩
    have r0 := hcell k z hz
    have hrz : z = r := by rw [← hr3, List.getD_eq_getElem?_getD, hz]; rfl
    subst hrz
    clear hr3 hcell hz
    go_wp2
    go_ret
    exact ⟨rfl, HM.out.below⟩
  · have c5' : ¬ (k : Int) < nA := by omega
    have hf : r = false := by rw [← hr3, List.getD_eq_getElem?_getD, List.getElem?_eq_none (by rw [HNA.out]; omega)]; rfl
    subst hf
    clear hr3
    go_wp2
    go_ret
    exact ⟨rfl, HM.out.below⟩
end Go.Proofs.Ytidbjidcjmbnlaa
end
section
namespace Go.Proofs.Ytidbjidcjmbnlaa
open Go Go.RowKit
attribute [local go_sem] Oper.semAt_some

theorem spanInfoM : (Try.prog.info? 60).map (fun i => (i.zero, i.size, i.bytes)) = some (some (.agg #[.int .i64 0, .int .i64 0]), 2, 16) := by kernel_rfl
/-- The doubt of a pixel. -/
def doubt (dl : List Nat) (b p : Nat) : Nat := if dl.length = 0 then 0 else dl.getD ((b + p) % dl.length) 0 % 4
/-- What is known of a pixel. -/
def knownV (M : Mvd) (dl : List Nat) (n b p : Nat) : Int × Int := if doubt dl b p = 0 then (2, 8) else if truP M n p = true then (5, 9) else (0, 3)
def knownL (M : Mvd) (dl : List Nat) (n b k : Nat) : List (Int × Int) := (List.range k).map (knownV M dl n b)
theorem knownL_next {M : Mvd} {dl : List Nat} {n b k : Nat} {x y : Int} (h : knownV M dl n b k = (x, y)) : knownL M dl n b (k + 1) = knownL M dl n b k ++ [(x, y)] := by
  unfold knownL
  rw [List.range_succ, List.map_append, List.map_singleton, h]
theorem knownL_len {M : Mvd} {dl : List Nat} {n b k : Nat} : (knownL M dl n b k).length = k := by unfold knownL; rw [List.length_map, List.length_range]
def MpS (M : Mvd) (dl : List Nat) (n P2 W H : Nat) (w : World) (pF : Nat) (T : List Th) (k : Nat) (wr : World) : Prop := ∃ A c, Mem w (.row w.heap.size 60 2 (.slice A k c) k ((flat2 (knownL M dl n P2 k)).map (Value.int .i64)) :: .blk pF 41 #[.int .i64 0, .int .i64 0, .int .i64 1000, .int .i64 (W : Nat), .int .i64 (H : Nat), .slice A k c] :: T) wr
def MapPost (l : List (Int × Int)) (gx gy gs : Int) (W H N : Nat) (w : World) (e : Ending) (w' : World) : Prop := ∃ A c, e = .returned (.agg #[.int .i64 gx, .int .i64 gy, .int .i64 gs, .int .i64 (W : Nat), .int .i64 (H : Nat), .slice A N c]) ∧ Mem w [.row w.heap.size 60 2 (.slice A N c) N ((flat2 l).map (Value.int .i64))] w'
set_option maxHeartbeats 4000000 in
set_option maxRecDepth 100000 in
theorem movedMap_any (wd hg nA cA xb yb nD cD sec W H N n : Nat) (A D : Option Addr) (inl : List Bool) (dl : List Nat) (w : World) (hwd : wd < 256) (hhg : hg < 256) (hWe : 1 + wd % 8 = W) (hHe : 1 + hg % 8 = H) (hN : W * H = N) (hn : n ≤ 2) (hxb : xb < 256) (hyb : yb < 256) (hnA : inl.length = nA) (hA64 : nA ≤ 9223372036854775807) (hnD : dl.length = nD) (hD64 : nD ≤ 9223372036854775807) (hI : Bools w w.heap.size A inl) (hDl : Ints w w.heap.size .u8 D (dl.map fun x : Nat => (x : Int))) (hd8 : ∀ x ∈ dl, x < 256) :
    Calls Try.prog 9 #[.agg (movedC wd hg A nA cA xb yb D nD cD sec), .int .i64 (n : Nat)] w (MapPost (knownL (mvdOf W H xb yb inl) dl n (n * W * H) N) 0 0 1000 W H N w) := by
  have hW : 1 ≤ W := by omega
  have hH : 1 ≤ H := by omega
  have hW8 : W ≤ 8 := by omega
  have hH8 : H ≤ 8 := by omega
  have hN64 : N ≤ 64 := by rw [← hN]; exact Nat.mul_le_mul hW8 hH8
  obtain ⟨M, hM0⟩ : ∃ M, mvdOf W H xb yb inl = M := ⟨_, rfl⟩
  rw [hM0]
  have hmi := fun V (hB : Below w.heap.size w V) (p : Nat) (hp : p < N) => movedIn_any wd hg nA cA xb yb nD cD sec W H p n A D 0 0 1000 inl V hW hH hW8 hH8 (by rw [hN]; exact hp) hn hxb hyb hnA hA64 (hI.later hB)
  rw [hM0] at hmi
  have hmg := fun V => movedGrid_any wd hg nA cA xb yb nD cD sec A D V hwd hhg
  rw [hWe, hHe] at hmg
  obtain ⟨P1, hP1⟩ : ∃ q, n * W = q := ⟨_, rfl⟩
  obtain ⟨P2, hP2⟩ : ∃ q, P1 * H = q := ⟨_, rfl⟩
  rw [hP1, hP2]
  have hP1b : P1 ≤ 16 := by rw [← hP1]; exact Nat.mul_le_mul hn hW8
  have hP2b : P2 ≤ 128 := by rw [← hP2]; exact Nat.mul_le_mul hP1b hH8
  have hP1I : (n : Int) * (W : Int) = P1 := by rw [← hP1]; push_cast; rfl
  have hP2I : (P1 : Int) * (H : Int) = P2 := by rw [← hP2]; push_cast; rfl
  have hNI : (W : Int) * (H : Int) = N := by rw [← hN]; push_cast; rfl
  obtain ⟨PP, hPP⟩ : ∃ PP, MapPost (knownL M dl n P2 N) 0 0 1000 W H N w = PP := ⟨_, rfl⟩
  rw [hPP]
  unfold movedC at hmi hmg ⊢
  have hdl := fun V (hB : Below w.heap.size w V) => (hDl.below hB).more hB.size
  have HMI := hide hmi
  have HMG := hide hmg
  have HDL := hide hdl
  have HPP := hide hPP
  have HND := hide hnD
  have HD8 := hide hd8
  clear hmi hmg hdl hPP hnD hd8
  clear hI hDl hnA hM0 hWe hHe hP1 hP2 hN hwd hhg
  go_enter Try.func9, Try.ntmps9
  have HM := hide (Mem.start w)
  go_upto_region 1 with fail
  refine code_world fun W1 hW => ?_
  have HMn := Mem.to (Mem.allocAt (Mem.allocAt HM.out w.heap.size rfl #[.int .u8 (wd : Nat), .int .u8 (hg : Nat), .slice A nA cA, .int .u8 (xb : Nat), .int .u8 (yb : Nat), .slice D nD cD, .int .u16 (sec : Nat)] 26) (w.heap.size + 1) (by simp) #[.int .i64 0, .int .i64 0, .int .i64 0, .int .i64 0, .int .i64 0, .slice none 0 0] 41) hW
  have LW : Later w W1 := by rw [hW]; exact (((Below.refl _ _).alloc (Nat.le_refl _) _).alloc (by simp; try omega) _)
  have szW : W1.heap.size = w.heap.size + 2 := by rw [hW]; simp
  clear hW
  replace HM := hide HMn
  clear HMn LW
  clear szW
  obtain ⟨pM, hpM⟩ : ∃ q, w.heap.size = q := ⟨_, rfl⟩
  obtain ⟨pR, hpR⟩ : ∃ q, pM + 1 = q := ⟨_, rfl⟩
  rw [show w.heap.size + 1 = pR by omega, hpM] at HM
  simp only [hpM, hpR]
  have HPM := hide hpM
  clear hpR hpM
  have ba : Blk W1 pM 26 #[.int .u8 (wd : Nat), .int .u8 (hg : Nat), .slice A nA cA, .int .u8 (xb : Nat), .int .u8 (yb : Nat), .slice D nD cD, .int .u16 (sec : Nat)] := HM.out.get 1 rfl
  have lta := ba.lt
  have a0 := ba.c 0 rfl
  have a1 := ba.c 1 rfl
  have a2 := ba.c 2 rfl
  have a3 := ba.c 3 rfl
  have a4 := ba.c 4 rfl
  have a5 := ba.c 5 rfl
  have a6 := ba.c 6 rfl
  go_wp2_with fail
  refine (HMG.out _).mono ?_
  rintro e w2 ⟨rfl, hb⟩
  replace HM := hide (HM.out.later hb)
  clear hb ba lta a0 a1 a2 a3 a4 a5 a6
  go_upto_region 3 with fail
  refine code_world fun W3 hW => ?_
  have HMn := Mem.to (Mem.allocAt (Mem.allocAt HM.out w2.heap.size rfl #[.int .i64 0, .int .i64 0, .int .i64 1000, .int .i64 (W : Nat), .int .i64 (H : Nat)] 28) (w2.heap.size + 1) (by simp) #[.int .i64 0, .int .i64 0, .int .i64 1000, .int .i64 (W : Nat), .int .i64 (H : Nat), .slice none 0 0] 41) hW
  have LW : Later w2 W3 := by rw [hW]; exact (((Below.refl _ _).alloc (Nat.le_refl _) _).alloc (by simp; try omega) _)
  have szW : W3.heap.size = w2.heap.size + 2 := by rw [hW]; simp
  clear hW
  replace HM := hide HMn
  clear HMn LW
  clear szW
  obtain ⟨pG, hpG⟩ : ∃ q, w2.heap.size = q := ⟨_, rfl⟩
  obtain ⟨pF, hpF⟩ : ∃ q, pG + 1 = q := ⟨_, rfl⟩
  rw [show w2.heap.size + 1 = pF by omega, hpG] at HM
  simp only [hpG, hpF]
  clear hpG hpF
  obtain ⟨T, hT⟩ : ∃ T : List Th, [.blk pG 28 #[.int .i64 0, .int .i64 0, .int .i64 1000, .int .i64 (W : Nat), .int .i64 (H : Nat)], .blk pR 41 #[.int .i64 0, .int .i64 0, .int .i64 0, .int .i64 0, .int .i64 0, .slice none 0 0], .blk pM 26 #[.int .u8 (wd : Nat), .int .u8 (hg : Nat), .slice A nA cA, .int .u8 (xb : Nat), .int .u8 (yb : Nat), .slice D nD cD, .int .u16 (sec : Nat)]] = T := ⟨_, rfl⟩
  have HS := hide (show MpS M dl n P2 W H w pF T 0 W3 from ⟨none, 0, by rw [← hT]; exact HM.out.nilRow w.heap.size 60 2⟩)
  have HT := hide hT
  clear hT HM
  go_wp2_with fail
  go_loopw [7] (fun u wr => ∃ k : Nat, k ≤ N ∧ u = .int .i64 (k : Nat) ∧ Hid (MpS M dl n P2 W H w pF T k wr)) (fun u _ => N - (intOf u).toNat)
  case atStart => exact ⟨0, Nat.zero_le _, rfl, HS⟩
  case round =>
    clear HS
    obtain ⟨k, hkN, rfl, HS⟩ := hrel
    obtain ⟨Av, cv, hM⟩ := HS.out
    clear HS
    rw [← HT.out] at hM
    have HM := hide hM
    clear hM
    have ba : Blk wr pM 26 #[.int .u8 (wd : Nat), .int .u8 (hg : Nat), .slice A nA cA, .int .u8 (xb : Nat), .int .u8 (yb : Nat), .slice D nD cD, .int .u16 (sec : Nat)] := HM.out.get 4 rfl
    have lta := ba.lt
    have a0 := ba.c 0 rfl
    have a1 := ba.c 1 rfl
    have a2 := ba.c 2 rfl
    have a3 := ba.c 3 rfl
    have a4 := ba.c 4 rfl
    have a5 := ba.c 5 rfl
    have a6 := ba.c 6 rfl
    have bg : Blk wr pG 28 #[.int .i64 0, .int .i64 0, .int .i64 1000, .int .i64 (W : Nat), .int .i64 (H : Nat)] := HM.out.get 2 rfl
    have ltg := bg.lt
    have g0 := bg.c 0 rfl
    have g1 := bg.c 1 rfl
    have g2 := bg.c 2 rfl
    have g3 := bg.c 3 rfl
    have g4 := bg.c 4 rfl
    by_cases hlt : k < N
    · have hlt2 : (k : Int) < N := by omega
      have hmik := HMI.out
      by_cases h0 : nD = 0
      · subst h0
        have hz : doubt dl P2 k = 0 := by unfold doubt; rw [if_pos HND.out]
        have HZ := hide hz
        clear hz
        go_wp2_with fail
        refine at_world fun W5 hW => ?_
        have HMn := Mem.to (Mem.allocAt HM.out wr.heap.size rfl #[.int .i64 0, .int .i64 3] 60) hW
        have LW : Later wr W5 := by rw [hW]; exact ((Below.refl _ _).alloc (Nat.le_refl _) _)
        have szW : W5.heap.size = wr.heap.size + 1 := by rw [hW]; simp
        clear hW ba lta a0 a1 a2 a3 a4 a5 a6 bg ltg g0 g1 g2 g3 g4
        replace HM := hide HMn
        clear HMn LW
        clear szW
        obtain ⟨pV, hpV⟩ : ∃ q, wr.heap.size = q := ⟨_, rfl⟩
        rw [hpV] at HM
        simp only [hpV]
        clear hpV
        have hmk := HMI.out W5 HM.out.below k hlt
        cases hr : truP M n k with
        | false =>
          have hkv : knownV M dl n P2 k = (2, 8) := by unfold knownV; rw [HZ.out]; rfl
          rw [hr] at hmk
          have HMK := hide hmk
          clear hmk
          refine HMK.out.mono ?_
          rintro e w6 ⟨rfl, hb6⟩
          replace HM := hide (HM.out.later hb6)
          clear hb6 HMK
          have bb : Blk w6 pV 60 #[.int .i64 0, .int .i64 3] := HM.out.get 0 rfl
          have ltb := bb.lt
          have b0 := bb.c 0 rfl
          have fb0 := bb.frozen 0
          have b1 := bb.c 1 rfl
          have fb1 := bb.frozen 1
          go_upto_region 14 with fail
          refine code_world fun w7 hw7 => ?_
          have HM7 := hide (Mem.to ((HM.out.set_ 0 rfl 0 (.int .i64 2) (cs' := #[.int .i64 2, .int .i64 3]) rfl).set_ 0 rfl 1 (.int .i64 8) (cs' := #[.int .i64 2, .int .i64 8]) rfl) hw7)
          clear HM hw7 b0 b1 fb0 fb1 ltb bb
          have HM := HM7
          clear HM7
          simp only [List.set_cons_zero, List.set_cons_succ] at HM
          have bb : Blk w7 pV 60 #[.int .i64 2, .int .i64 8] := HM.out.get 0 rfl
          have ltb := bb.lt
          have b0 := bb.c 0 rfl
          have b1 := bb.c 1 rfl
          have bf : Blk w7 pF 41 #[.int .i64 0, .int .i64 0, .int .i64 1000, .int .i64 (W : Nat), .int .i64 (H : Nat), .slice Av k cv] := HM.out.get 2 rfl
          have ltf := bf.lt
          have f0 := bf.c 0 rfl
          have f1 := bf.c 1 rfl
          have f2 := bf.c 2 rfl
          have f3 := bf.c 3 rfl
          have f4 := bf.c 4 rfl
          have f5 := bf.c 5 rfl
          obtain ⟨i0, hi0, hz0, hz1, hz2⟩ := info_parts spanInfoM
          have Hi := hide hi0
          have Hz0 := hide hz0
          have Hz1 := hide hz1
          have Hz2 := hide hz2
          clear hi0 hz0 hz1 hz2
          have How := hide (HM.out.row_ 1 rfl)
          go_wp2_with (at_builtin; refine wpList_append_own_at _ rfl (.tmp 56) (.tmp 58) _ rfl w.heap.size 60 i0 _ 2 16 Try.underlying39 Hi.out Hz0.out Hz1.out Hz2.out rfl (by decide) _ _ _ rfl (How.out.alloc _) ⟨w7.heap.size, 0, none⟩ 1 1 [.int .i64 2, .int .i64 8] rfl rfl ?c1 ?c2 ?c3 ?c4 ?c5 ?_)
          case c1 => exact new_cellsM w7 _ [.int .i64 2, .int .i64 8]
          case c2 => intro u hu; simp at hu; rcases hu with rfl | rfl <;> rfl
          case c3 => unfold maxLen; omega
          case c4 => omega
          case c5 => have := HM.out.size; simp; omega
          intro v8 w8 hownA hgrA _ hatA
          obtain ⟨A8, c8, rfl⟩ := own_shape2 hownA
          have HM8 := hide (HM.out.grow 1 rfl _ hgrA hownA hatA)
          clear HM How hownA hgrA hatA
          simp only [List.set_cons_zero, List.set_cons_succ] at HM8
          have HM := HM8
          clear HM8
          have bf : Blk w8 pF 41 #[.int .i64 0, .int .i64 0, .int .i64 1000, .int .i64 (W : Nat), .int .i64 (H : Nat), .slice Av k cv] := HM.out.get 2 rfl
          have ltf := bf.lt
          have f0 := bf.c 0 rfl
          have ff0 := bf.frozen 0
          have f1 := bf.c 1 rfl
          have ff1 := bf.frozen 1
          have f2 := bf.c 2 rfl
          have ff2 := bf.frozen 2
          have f3 := bf.c 3 rfl
          have ff3 := bf.frozen 3
          have f4 := bf.c 4 rfl
          have ff4 := bf.frozen 4
          have f5 := bf.c 5 rfl
          have ff5 := bf.frozen 5
          go_upto_region 5 with fail
          refine code_world fun w9 hw9 => ?_
          have hM9 := (Mem.to (HM.out.set_ 2 rfl 5 (.slice A8 (k + 1) c8) (cs' := #[.int .i64 0, .int .i64 0, .int .i64 1000, .int .i64 (W : Nat), .int .i64 (H : Nat), .slice A8 (k + 1) c8]) rfl) hw9).tail
          simp only [List.set_cons_zero, List.set_cons_succ] at hM9
          have HS := hide (show MpS M dl n P2 W H w pF T (k + 1) w9 from ⟨A8, c8, by rw [knownL_next hkv, ← flatM_snoc, ← HT.out]; exact hM9⟩)
          clear HM hw9 hM9 hkv
          go_wp2_with fail
          go_roundw
          case rel => exact ⟨k + 1, hlt, by go_num, HS⟩
          case measure => simp [intOf] <;> omega
        | true =>
          have hkv : knownV M dl n P2 k = (2, 8) := by unfold knownV; rw [HZ.out]; rfl
          rw [hr] at hmk
          have HMK := hide hmk
          clear hmk
          refine HMK.out.mono ?_
          rintro e w6 ⟨rfl, hb6⟩
          replace HM := hide (HM.out.later hb6)
          clear hb6 HMK
          have bb : Blk w6 pV 60 #[.int .i64 0, .int .i64 3] := HM.out.get 0 rfl
          have ltb := bb.lt
          have b0 := bb.c 0 rfl
          have fb0 := bb.frozen 0
          have b1 := bb.c 1 rfl
          have fb1 := bb.frozen 1
          go_upto_region 14 with fail
          refine code_world fun w7 hw7 => ?_
          have HM7 := hide (Mem.to ((((HM.out.set_ 0 rfl 0 (.int .i64 5) (cs' := #[.int .i64 5, .int .i64 3]) rfl).set_ 0 rfl 1 (.int .i64 9) (cs' := #[.int .i64 5, .int .i64 9]) rfl).set_ 0 rfl 0 (.int .i64 2) (cs' := #[.int .i64 2, .int .i64 9]) rfl).set_ 0 rfl 1 (.int .i64 8) (cs' := #[.int .i64 2, .int .i64 8]) rfl) hw7)
          clear HM hw7 b0 b1 fb0 fb1 ltb bb
          have HM := HM7
          clear HM7
          simp only [List.set_cons_zero, List.set_cons_succ] at HM
          have bb : Blk w7 pV 60 #[.int .i64 2, .int .i64 8] := HM.out.get 0 rfl
          have ltb := bb.lt
          have b0 := bb.c 0 rfl
          have b1 := bb.c 1 rfl
          have bf : Blk w7 pF 41 #[.int .i64 0, .int .i64 0, .int .i64 1000, .int .i64 (W : Nat), .int .i64 (H : Nat), .slice Av k cv] := HM.out.get 2 rfl
          have ltf := bf.lt
          have f0 := bf.c 0 rfl
          have f1 := bf.c 1 rfl
          have f2 := bf.c 2 rfl
          have f3 := bf.c 3 rfl
          have f4 := bf.c 4 rfl
          have f5 := bf.c 5 rfl
          obtain ⟨i0, hi0, hz0, hz1, hz2⟩ := info_parts spanInfoM
          have Hi := hide hi0
          have Hz0 := hide hz0
          have Hz1 := hide hz1
          have Hz2 := hide hz2
          clear hi0 hz0 hz1 hz2
          have How := hide (HM.out.row_ 1 rfl)
          go_wp2_with (at_builtin; refine wpList_append_own_at _ rfl (.tmp 56) (.tmp 58) _ rfl w.heap.size 60 i0 _ 2 16 Try.underlying39 Hi.out Hz0.out Hz1.out Hz2.out rfl (by decide) _ _ _ rfl (How.out.alloc _) ⟨w7.heap.size, 0, none⟩ 1 1 [.int .i64 2, .int .i64 8] rfl rfl ?c1 ?c2 ?c3 ?c4 ?c5 ?_)
          case c1 => exact new_cellsM w7 _ [.int .i64 2, .int .i64 8]
          case c2 => intro u hu; simp at hu; rcases hu with rfl | rfl <;> rfl
          case c3 => unfold maxLen; omega
          case c4 => omega
          case c5 => have := HM.out.size; simp; omega
          intro v8 w8 hownA hgrA _ hatA
          obtain ⟨A8, c8, rfl⟩ := own_shape2 hownA
          have HM8 := hide (HM.out.grow 1 rfl _ hgrA hownA hatA)
          clear HM How hownA hgrA hatA
          simp only [List.set_cons_zero, List.set_cons_succ] at HM8
          have HM := HM8
          clear HM8
          have bf : Blk w8 pF 41 #[.int .i64 0, .int .i64 0, .int .i64 1000, .int .i64 (W : Nat), .int .i64 (H : Nat), .slice Av k cv] := HM.out.get 2 rfl
          have ltf := bf.lt
          have f0 := bf.c 0 rfl
          have ff0 := bf.frozen 0
          have f1 := bf.c 1 rfl
          have ff1 := bf.frozen 1
          have f2 := bf.c 2 rfl
          have ff2 := bf.frozen 2
          have f3 := bf.c 3 rfl
          have ff3 := bf.frozen 3
          have f4 := bf.c 4 rfl
          have ff4 := bf.frozen 4
          have f5 := bf.c 5 rfl
          have ff5 := bf.frozen 5
          go_upto_region 5 with fail
          refine code_world fun w9 hw9 => ?_
          have hM9 := (Mem.to (HM.out.set_ 2 rfl 5 (.slice A8 (k + 1) c8) (cs' := #[.int .i64 0, .int .i64 0, .int .i64 1000, .int .i64 (W : Nat), .int .i64 (H : Nat), .slice A8 (k + 1) c8]) rfl) hw9).tail
          simp only [List.set_cons_zero, List.set_cons_succ] at hM9
          have HS := hide (show MpS M dl n P2 W H w pF T (k + 1) w9 from ⟨A8, c8, by rw [knownL_next hkv, ← flatM_snoc, ← HT.out]; exact hM9⟩)
          clear HM hw9 hM9 hkv
          go_wp2_with fail
          go_roundw
          case rel => exact ⟨k + 1, hlt, by go_num, HS⟩
          case measure => simp [intOf] <;> omega
      · have hD0 : (0 : Int) < nD := by omega
        obtain ⟨q, hq⟩ : ∃ q, (P2 + k) % nD = q := ⟨_, rfl⟩
        have hqD : q < nD := by rw [← hq]; exact Nat.mod_lt _ (by omega)
        have hqI : ((P2 : Int) + (k : Int)) % (nD : Int) = (q : Int) := by rw [← hq]; push_cast; rfl
        obtain ⟨b, off, hDe, hb, hcell⟩ := HDL.out wr HM.out.below (by rw [List.length_map, HND.out]; omega)
        subst hDe
        obtain ⟨z, hz⟩ : ∃ z, dl.getD q 0 = z := ⟨_, rfl⟩
        have hzm : z < 256 := by
          rw [← hz, List.getD_eq_getElem?_getD, List.getElem?_eq_getElem (by rw [HND.out]; exact hqD)]
          exact HD8.out _ (List.getElem_mem _)
        have r0 := hcell q (by rw [List.length_map, HND.out]; exact hqD)
        rw [show (dl.map fun x : Nat => (x : Int)).getD q 0 = (z : Int) by rw [← hz, List.getD_eq_getElem?_getD, List.getD_eq_getElem?_getD, List.getElem?_map, List.getElem?_eq_getElem (by rw [HND.out]; exact hqD)]; rfl] at r0
        obtain ⟨d, hd⟩ : ∃ d, z % 4 = d := ⟨_, rfl⟩
        have hdI : (z : Int) % 4 = (d : Int) := by rw [← hd]; push_cast; rfl
        have hd4 : d < 4 := by omega
        have hdz : doubt dl P2 k = d := by unfold doubt; rw [if_neg (by rw [HND.out]; exact h0), HND.out, hq, hz, hd]
        have HZ := hide hdz
        clear hdz
        clear hcell hq hz hd
        go_wp2_with fail
        go_quiet (fail)
        have hL9 : Below wr.heap.size wr (wr.drewN nq) := below_drewN (Below.refl _ _) nq
        replace HM := hide (HM.out.later hL9)
        clear hL9 r0 hb a0 a1 a2 a3 a4 a5 a6 lta ba g0 g1 g2 g3 g4 ltg bg
        generalize (wr.drewN nq : World) = wq at *
        have ba : Blk wq pM 26 #[.int .u8 (wd : Nat), .int .u8 (hg : Nat), .slice A nA cA, .int .u8 (xb : Nat), .int .u8 (yb : Nat), .slice (some ⟨b, off, none⟩) nD cD, .int .u16 (sec : Nat)] := HM.out.get 4 rfl
        have lta := ba.lt
        have a0 := ba.c 0 rfl
        have a1 := ba.c 1 rfl
        have a2 := ba.c 2 rfl
        have a3 := ba.c 3 rfl
        have a4 := ba.c 4 rfl
        have a5 := ba.c 5 rfl
        have a6 := ba.c 6 rfl
        have bg : Blk wq pG 28 #[.int .i64 0, .int .i64 0, .int .i64 1000, .int .i64 (W : Nat), .int .i64 (H : Nat)] := HM.out.get 2 rfl
        have ltg := bg.lt
        have g0 := bg.c 0 rfl
        have g1 := bg.c 1 rfl
        have g2 := bg.c 2 rfl
        have g3 := bg.c 3 rfl
        have g4 := bg.c 4 rfl
        go_wp2_with fail
        refine at_world fun W5 hW => ?_
        have HMn := Mem.to (Mem.allocAt HM.out wq.heap.size rfl #[.int .i64 0, .int .i64 3] 60) hW
        have LW : Later wq W5 := by rw [hW]; exact ((Below.refl _ _).alloc (Nat.le_refl _) _)
        have szW : W5.heap.size = wq.heap.size + 1 := by rw [hW]; simp
        clear hW ba lta a0 a1 a2 a3 a4 a5 a6 bg ltg g0 g1 g2 g3 g4
        replace HM := hide HMn
        clear HMn LW
        clear szW
        obtain ⟨pV, hpV⟩ : ∃ q, wq.heap.size = q := ⟨_, rfl⟩
        rw [hpV] at HM
        simp only [hpV]
        clear hpV
        have hmk := HMI.out W5 HM.out.below k hlt
        by_cases hd0 : d = 0
        · subst hd0
          cases hr : truP M n k with
          | false =>
            have hkv : knownV M dl n P2 k = (2, 8) := by unfold knownV; rw [HZ.out]; rfl
            rw [hr] at hmk
            have HMK := hide hmk
            clear hmk
            refine HMK.out.mono ?_
            rintro e w6 ⟨rfl, hb6⟩
            replace HM := hide (HM.out.later hb6)
            clear hb6 HMK
            have bb : Blk w6 pV 60 #[.int .i64 0, .int .i64 3] := HM.out.get 0 rfl
            have ltb := bb.lt
            have b0 := bb.c 0 rfl
            have fb0 := bb.frozen 0
            have b1 := bb.c 1 rfl
            have fb1 := bb.frozen 1
            go_upto_region 14 with fail
            refine code_world fun w7 hw7 => ?_
            have HM7 := hide (Mem.to ((HM.out.set_ 0 rfl 0 (.int .i64 2) (cs' := #[.int .i64 2, .int .i64 3]) rfl).set_ 0 rfl 1 (.int .i64 8) (cs' := #[.int .i64 2, .int .i64 8]) rfl) hw7)
            clear HM hw7 b0 b1 fb0 fb1 ltb bb
            have HM := HM7
            clear HM7
            simp only [List.set_cons_zero, List.set_cons_succ] at HM
            have bb : Blk w7 pV 60 #[.int .i64 2, .int .i64 8] := HM.out.get 0 rfl
            have ltb := bb.lt
            have b0 := bb.c 0 rfl
            have b1 := bb.c 1 rfl
            have bf : Blk w7 pF 41 #[.int .i64 0, .int .i64 0, .int .i64 1000, .int .i64 (W : Nat), .int .i64 (H : Nat), .slice Av k cv] := HM.out.get 2 rfl
            have ltf := bf.lt
            have f0 := bf.c 0 rfl
            have f1 := bf.c 1 rfl
            have f2 := bf.c 2 rfl
            have f3 := bf.c 3 rfl
            have f4 := bf.c 4 rfl
            have f5 := bf.c 5 rfl
            obtain ⟨i0, hi0, hz0, hz1, hz2⟩ := info_parts spanInfoM
            have Hi := hide hi0
            have Hz0 := hide hz0
            have Hz1 := hide hz1
            have Hz2 := hide hz2
            clear hi0 hz0 hz1 hz2
            have How := hide (HM.out.row_ 1 rfl)
            go_wp2_with (at_builtin; refine wpList_append_own_at _ rfl (.tmp 56) (.tmp 58) _ rfl w.heap.size 60 i0 _ 2 16 Try.underlying39 Hi.out Hz0.out Hz1.out Hz2.out rfl (by decide) _ _ _ rfl (How.out.alloc _) ⟨w7.heap.size, 0, none⟩ 1 1 [.int .i64 2, .int .i64 8] rfl rfl ?c1 ?c2 ?c3 ?c4 ?c5 ?_)
            case c1 => exact new_cellsM w7 _ [.int .i64 2, .int .i64 8]
            case c2 => intro u hu; simp at hu; rcases hu with rfl | rfl <;> rfl
            case c3 => unfold maxLen; omega
            case c4 => omega
            case c5 => have := HM.out.size; simp; omega
            intro v8 w8 hownA hgrA _ hatA
            obtain ⟨A8, c8, rfl⟩ := own_shape2 hownA
            have HM8 := hide (HM.out.grow 1 rfl _ hgrA hownA hatA)
            clear HM How hownA hgrA hatA
            simp only [List.set_cons_zero, List.set_cons_succ] at HM8
            have HM := HM8
            clear HM8
            have bf : Blk w8 pF 41 #[.int .i64 0, .int .i64 0, .int .i64 1000, .int .i64 (W : Nat), .int .i64 (H : Nat), .slice Av k cv] := HM.out.get 2 rfl
            have ltf := bf.lt
            have f0 := bf.c 0 rfl
            have ff0 := bf.frozen 0
            have f1 := bf.c 1 rfl
            have ff1 := bf.frozen 1
            have f2 := bf.c 2 rfl
            have ff2 := bf.frozen 2
            have f3 := bf.c 3 rfl
            have ff3 := bf.frozen 3
            have f4 := bf.c 4 rfl
            have ff4 := bf.frozen 4
            have f5 := bf.c 5 rfl
            have ff5 := bf.frozen 5
            go_upto_region 5 with fail
            refine code_world fun w9 hw9 => ?_
            have hM9 := (Mem.to (HM.out.set_ 2 rfl 5 (.slice A8 (k + 1) c8) (cs' := #[.int .i64 0, .int .i64 0, .int .i64 1000, .int .i64 (W : Nat), .int .i64 (H : Nat), .slice A8 (k + 1) c8]) rfl) hw9).tail
            simp only [List.set_cons_zero, List.set_cons_succ] at hM9
            have HS := hide (show MpS M dl n P2 W H w pF T (k + 1) w9 from ⟨A8, c8, by rw [knownL_next hkv, ← flatM_snoc, ← HT.out]; exact hM9⟩)
            clear HM hw9 hM9 hkv
            go_wp2_with fail
            go_roundw
            case rel => exact ⟨k + 1, hlt, by go_num, HS⟩
            case measure => simp [intOf] <;> omega
          | true =>
            have hkv : knownV M dl n P2 k = (2, 8) := by unfold knownV; rw [HZ.out]; rfl
            rw [hr] at hmk
            have HMK := hide hmk
            clear hmk
            refine HMK.out.mono ?_
            rintro e w6 ⟨rfl, hb6⟩
            replace HM := hide (HM.out.later hb6)
            clear hb6 HMK
            have bb : Blk w6 pV 60 #[.int .i64 0, .int .i64 3] := HM.out.get 0 rfl
            have ltb := bb.lt
            have b0 := bb.c 0 rfl
            have fb0 := bb.frozen 0
            have b1 := bb.c 1 rfl
            have fb1 := bb.frozen 1
            go_upto_region 14 with fail
            refine code_world fun w7 hw7 => ?_
            have HM7 := hide (Mem.to ((((HM.out.set_ 0 rfl 0 (.int .i64 5) (cs' := #[.int .i64 5, .int .i64 3]) rfl).set_ 0 rfl 1 (.int .i64 9) (cs' := #[.int .i64 5, .int .i64 9]) rfl).set_ 0 rfl 0 (.int .i64 2) (cs' := #[.int .i64 2, .int .i64 9]) rfl).set_ 0 rfl 1 (.int .i64 8) (cs' := #[.int .i64 2, .int .i64 8]) rfl) hw7)
            clear HM hw7 b0 b1 fb0 fb1 ltb bb
            have HM := HM7
            clear HM7
            simp only [List.set_cons_zero, List.set_cons_succ] at HM
            have bb : Blk w7 pV 60 #[.int .i64 2, .int .i64 8] := HM.out.get 0 rfl
            have ltb := bb.lt
            have b0 := bb.c 0 rfl
            have b1 := bb.c 1 rfl
            have bf : Blk w7 pF 41 #[.int .i64 0, .int .i64 0, .int .i64 1000, .int .i64 (W : Nat), .int .i64 (H : Nat), .slice Av k cv] := HM.out.get 2 rfl
            have ltf := bf.lt
            have f0 := bf.c 0 rfl
            have f1 := bf.c 1 rfl
            have f2 := bf.c 2 rfl
            have f3 := bf.c 3 rfl
            have f4 := bf.c 4 rfl
            have f5 := bf.c 5 rfl
            obtain ⟨i0, hi0, hz0, hz1, hz2⟩ := info_parts spanInfoM
            have Hi := hide hi0
            have Hz0 := hide hz0
            have Hz1 := hide hz1
            have Hz2 := hide hz2
            clear hi0 hz0 hz1 hz2
            have How := hide (HM.out.row_ 1 rfl)
            go_wp2_with (at_builtin; refine wpList_append_own_at _ rfl (.tmp 56) (.tmp 58) _ rfl w.heap.size 60 i0 _ 2 16 Try.underlying39 Hi.out Hz0.out Hz1.out Hz2.out rfl (by decide) _ _ _ rfl (How.out.alloc _) ⟨w7.heap.size, 0, none⟩ 1 1 [.int .i64 2, .int .i64 8] rfl rfl ?c1 ?c2 ?c3 ?c4 ?c5 ?_)
            case c1 => exact new_cellsM w7 _ [.int .i64 2, .int .i64 8]
            case c2 => intro u hu; simp at hu; rcases hu with rfl | rfl <;> rfl
            case c3 => unfold maxLen; omega
            case c4 => omega
            case c5 => have := HM.out.size; simp; omega
            intro v8 w8 hownA hgrA _ hatA
            obtain ⟨A8, c8, rfl⟩ := own_shape2 hownA
            have HM8 := hide (HM.out.grow 1 rfl _ hgrA hownA hatA)
            clear HM How hownA hgrA hatA
            simp only [List.set_cons_zero, List.set_cons_succ] at HM8
            have HM := HM8
            clear HM8
            have bf : Blk w8 pF 41 #[.int .i64 0, .int .i64 0, .int .i64 1000, .int .i64 (W : Nat), .int .i64 (H : Nat), .slice Av k cv] := HM.out.get 2 rfl
            have ltf := bf.lt
            have f0 := bf.c 0 rfl
            have ff0 := bf.frozen 0
            have f1 := bf.c 1 rfl
            have ff1 := bf.frozen 1
            have f2 := bf.c 2 rfl
            have ff2 := bf.frozen 2
            have f3 := bf.c 3 rfl
            have ff3 := bf.frozen 3
            have f4 := bf.c 4 rfl
            have ff4 := bf.frozen 4
            have f5 := bf.c 5 rfl
            have ff5 := bf.frozen 5
            go_upto_region 5 with fail
            refine code_world fun w9 hw9 => ?_
            have hM9 := (Mem.to (HM.out.set_ 2 rfl 5 (.slice A8 (k + 1) c8) (cs' := #[.int .i64 0, .int .i64 0, .int .i64 1000, .int .i64 (W : Nat), .int .i64 (H : Nat), .slice A8 (k + 1) c8]) rfl) hw9).tail
            simp only [List.set_cons_zero, List.set_cons_succ] at hM9
            have HS := hide (show MpS M dl n P2 W H w pF T (k + 1) w9 from ⟨A8, c8, by rw [knownL_next hkv, ← flatM_snoc, ← HT.out]; exact hM9⟩)
            clear HM hw9 hM9 hkv
            go_wp2_with fail
            go_roundw
            case rel => exact ⟨k + 1, hlt, by go_num, HS⟩
            case measure => simp [intOf] <;> omega
        · have hd1 : ¬ (d : Int) = 0 := by omega
          cases hr : truP M n k with
          | false =>
            have hkv : knownV M dl n P2 k = (0, 3) := by unfold knownV; rw [HZ.out, if_neg hd0, hr]; rfl
            rw [hr] at hmk
            have HMK := hide hmk
            clear hmk
            refine HMK.out.mono ?_
            rintro e w6 ⟨rfl, hb6⟩
            replace HM := hide (HM.out.later hb6)
            clear hb6 HMK
            go_upto_region 14 with fail
            have bb : Blk w6 pV 60 #[.int .i64 0, .int .i64 3] := HM.out.get 0 rfl
            have ltb := bb.lt
            have b0 := bb.c 0 rfl
            have b1 := bb.c 1 rfl
            have bf : Blk w6 pF 41 #[.int .i64 0, .int .i64 0, .int .i64 1000, .int .i64 (W : Nat), .int .i64 (H : Nat), .slice Av k cv] := HM.out.get 2 rfl
            have ltf := bf.lt
            have f0 := bf.c 0 rfl
            have f1 := bf.c 1 rfl
            have f2 := bf.c 2 rfl
            have f3 := bf.c 3 rfl
            have f4 := bf.c 4 rfl
            have f5 := bf.c 5 rfl
            obtain ⟨i0, hi0, hz0, hz1, hz2⟩ := info_parts spanInfoM
            have Hi := hide hi0
            have Hz0 := hide hz0
            have Hz1 := hide hz1
            have Hz2 := hide hz2
            clear hi0 hz0 hz1 hz2
            have How := hide (HM.out.row_ 1 rfl)
            go_wp2_with (at_builtin; refine wpList_append_own_at _ rfl (.tmp 56) (.tmp 58) _ rfl w.heap.size 60 i0 _ 2 16 Try.underlying39 Hi.out Hz0.out Hz1.out Hz2.out rfl (by decide) _ _ _ rfl (How.out.alloc _) ⟨w6.heap.size, 0, none⟩ 1 1 [.int .i64 0, .int .i64 3] rfl rfl ?c1 ?c2 ?c3 ?c4 ?c5 ?_)
            case c1 => exact new_cellsM w6 _ [.int .i64 0, .int .i64 3]
            case c2 => intro u hu; simp at hu; rcases hu with rfl | rfl <;> rfl
            case c3 => unfold maxLen; omega
            case c4 => omega
            case c5 => have := HM.out.size; simp; omega
            intro v8 w8 hownA hgrA _ hatA
            obtain ⟨A8, c8, rfl⟩ := own_shape2 hownA
            have HM8 := hide (HM.out.grow 1 rfl _ hgrA hownA hatA)
            clear HM How hownA hgrA hatA
            simp only [List.set_cons_zero, List.set_cons_succ] at HM8
            have HM := HM8
            clear HM8
            have bf : Blk w8 pF 41 #[.int .i64 0, .int .i64 0, .int .i64 1000, .int .i64 (W : Nat), .int .i64 (H : Nat), .slice Av k cv] := HM.out.get 2 rfl
            have ltf := bf.lt
            have f0 := bf.c 0 rfl
            have ff0 := bf.frozen 0
            have f1 := bf.c 1 rfl
            have ff1 := bf.frozen 1
            have f2 := bf.c 2 rfl
            have ff2 := bf.frozen 2
            have f3 := bf.c 3 rfl
            have ff3 := bf.frozen 3
            have f4 := bf.c 4 rfl
            have ff4 := bf.frozen 4
            have f5 := bf.c 5 rfl
            have ff5 := bf.frozen 5
            go_upto_region 5 with fail
            refine code_world fun w9 hw9 => ?_
            have hM9 := (Mem.to (HM.out.set_ 2 rfl 5 (.slice A8 (k + 1) c8) (cs' := #[.int .i64 0, .int .i64 0, .int .i64 1000, .int .i64 (W : Nat), .int .i64 (H : Nat), .slice A8 (k + 1) c8]) rfl) hw9).tail
            simp only [List.set_cons_zero, List.set_cons_succ] at hM9
            have HS := hide (show MpS M dl n P2 W H w pF T (k + 1) w9 from ⟨A8, c8, by rw [knownL_next hkv, ← flatM_snoc, ← HT.out]; exact hM9⟩)
            clear HM hw9 hM9 hkv
            go_wp2_with fail
            go_roundw
            case rel => exact ⟨k + 1, hlt, by go_num, HS⟩
            case measure => simp [intOf] <;> omega
          | true =>
            have hkv : knownV M dl n P2 k = (5, 9) := by unfold knownV; rw [HZ.out, if_neg hd0, hr]; rfl
            rw [hr] at hmk
            have HMK := hide hmk
            clear hmk
            refine HMK.out.mono ?_
            rintro e w6 ⟨rfl, hb6⟩
            replace HM := hide (HM.out.later hb6)
            clear hb6 HMK
            have bb : Blk w6 pV 60 #[.int .i64 0, .int .i64 3] := HM.out.get 0 rfl
            have ltb := bb.lt
            have b0 := bb.c 0 rfl
            have fb0 := bb.frozen 0
            have b1 := bb.c 1 rfl
            have fb1 := bb.frozen 1
            go_upto_region 14 with fail
            refine code_world fun w7 hw7 => ?_
            have HM7 := hide (Mem.to ((HM.out.set_ 0 rfl 0 (.int .i64 5) (cs' := #[.int .i64 5, .int .i64 3]) rfl).set_ 0 rfl 1 (.int .i64 9) (cs' := #[.int .i64 5, .int .i64 9]) rfl) hw7)
            clear HM hw7 b0 b1 fb0 fb1 ltb bb
            have HM := HM7
            clear HM7
            simp only [List.set_cons_zero, List.set_cons_succ] at HM
            have bb : Blk w7 pV 60 #[.int .i64 5, .int .i64 9] := HM.out.get 0 rfl
            have ltb := bb.lt
            have b0 := bb.c 0 rfl
            have b1 := bb.c 1 rfl
            have bf : Blk w7 pF 41 #[.int .i64 0, .int .i64 0, .int .i64 1000, .int .i64 (W : Nat), .int .i64 (H : Nat), .slice Av k cv] := HM.out.get 2 rfl
            have ltf := bf.lt
            have f0 := bf.c 0 rfl
            have f1 := bf.c 1 rfl
            have f2 := bf.c 2 rfl
            have f3 := bf.c 3 rfl
            have f4 := bf.c 4 rfl
            have f5 := bf.c 5 rfl
            obtain ⟨i0, hi0, hz0, hz1, hz2⟩ := info_parts spanInfoM
            have Hi := hide hi0
            have Hz0 := hide hz0
            have Hz1 := hide hz1
            have Hz2 := hide hz2
            clear hi0 hz0 hz1 hz2
            have How := hide (HM.out.row_ 1 rfl)
            go_wp2_with (at_builtin; refine wpList_append_own_at _ rfl (.tmp 56) (.tmp 58) _ rfl w.heap.size 60 i0 _ 2 16 Try.underlying39 Hi.out Hz0.out Hz1.out Hz2.out rfl (by decide) _ _ _ rfl (How.out.alloc _) ⟨w7.heap.size, 0, none⟩ 1 1 [.int .i64 5, .int .i64 9] rfl rfl ?c1 ?c2 ?c3 ?c4 ?c5 ?_)
            case c1 => exact new_cellsM w7 _ [.int .i64 5, .int .i64 9]
            case c2 => intro u hu; simp at hu; rcases hu with rfl | rfl <;> rfl
            case c3 => unfold maxLen; omega
            case c4 => omega
            case c5 => have := HM.out.size; simp; omega
            intro v8 w8 hownA hgrA _ hatA
            obtain ⟨A8, c8, rfl⟩ := own_shape2 hownA
            have HM8 := hide (HM.out.grow 1 rfl _ hgrA hownA hatA)
            clear HM How hownA hgrA hatA
            simp only [List.set_cons_zero, List.set_cons_succ] at HM8
            have HM := HM8
            clear HM8
            have bf : Blk w8 pF 41 #[.int .i64 0, .int .i64 0, .int .i64 1000, .int .i64 (W : Nat), .int .i64 (H : Nat), .slice Av k cv] := HM.out.get 2 rfl
            have ltf := bf.lt
            have f0 := bf.c 0 rfl
            have ff0 := bf.frozen 0
            have f1 := bf.c 1 rfl
            have ff1 := bf.frozen 1
            have f2 := bf.c 2 rfl
            have ff2 := bf.frozen 2
            have f3 := bf.c 3 rfl
            have ff3 := bf.frozen 3
            have f4 := bf.c 4 rfl
            have ff4 := bf.frozen 4
            have f5 := bf.c 5 rfl
            have ff5 := bf.frozen 5
            go_upto_region 5 with fail
            refine code_world fun w9 hw9 => ?_
            have hM9 := (Mem.to (HM.out.set_ 2 rfl 5 (.slice A8 (k + 1) c8) (cs' := #[.int .i64 0, .int .i64 0, .int .i64 1000, .int .i64 (W : Nat), .int .i64 (H : Nat), .slice A8 (k + 1) c8]) rfl) hw9).tail
            simp only [List.set_cons_zero, List.set_cons_succ] at hM9
            have HS := hide (show MpS M dl n P2 W H w pF T (k + 1) w9 from ⟨A8, c8, by rw [knownL_next hkv, ← flatM_snoc, ← HT.out]; exact hM9⟩)
            clear HM hw9 hM9 hkv
            go_wp2_with fail
            go_roundw
            case rel => exact ⟨k + 1, hlt, by go_num, HS⟩
            case measure => simp [intOf] <;> omega
    · obtain rfl : N = k := by omega
      have hkk : ¬ ((N : Int) < N) := by omega
      have bf : Blk wr pF 41 #[.int .i64 0, .int .i64 0, .int .i64 1000, .int .i64 (W : Nat), .int .i64 (H : Nat), .slice Av N cv] := HM.out.get 1 rfl
      have ltf := bf.lt
      have f0 := bf.c 0 rfl
      have f1 := bf.c 1 rfl
      have f2 := bf.c 2 rfl
      have f3 := bf.c 3 rfl
      have f4 := bf.c 4 rfl
      have f5 := bf.c 5 rfl
      have br : Blk wr pR 41 #[.int .i64 0, .int .i64 0, .int .i64 0, .int .i64 0, .int .i64 0, .slice none 0 0] := HM.out.get 3 rfl
      have ltr := br.lt
      have r0 := br.c 0 rfl
      have fr0 := br.frozen 0
      have r1 := br.c 1 rfl
      have fr1 := br.frozen 1
      have r2 := br.c 2 rfl
      have fr2 := br.frozen 2
      have r3 := br.c 3 rfl
      have fr3 := br.frozen 3
      have r4 := br.c 4 rfl
      have fr4 := br.frozen 4
      have r5 := br.c 5 rfl
      have fr5 := br.frozen 5
      go_wp2_with fail
      refine ret_world fun V hV => ?_
      have hM9 := Mem.to ((((((HM.out.set_ 3 rfl 0 (.int .i64 0) (cs' := #[.int .i64 0, .int .i64 0, .int .i64 0, .int .i64 0, .int .i64 0, .slice none 0 0]) rfl).set_ 3 rfl 1 (.int .i64 0) (cs' := #[.int .i64 0, .int .i64 0, .int .i64 0, .int .i64 0, .int .i64 0, .slice none 0 0]) rfl).set_ 3 rfl 2 (.int .i64 1000) (cs' := #[.int .i64 0, .int .i64 0, .int .i64 1000, .int .i64 0, .int .i64 0, .slice none 0 0]) rfl).set_ 3 rfl 3 (.int .i64 (W : Nat)) (cs' := #[.int .i64 0, .int .i64 0, .int .i64 1000, .int .i64 (W : Nat), .int .i64 0, .slice none 0 0]) rfl).set_ 3 rfl 4 (.int .i64 (H : Nat)) (cs' := #[.int .i64 0, .int .i64 0, .int .i64 1000, .int .i64 (W : Nat), .int .i64 (H : Nat), .slice none 0 0]) rfl).set_ 3 rfl 5 (.slice Av N cv) (cs' := #[.int .i64 0, .int .i64 0, .int .i64 1000, .int .i64 (W : Nat), .int .i64 (H : Nat), .slice Av N cv]) rfl) hV
      have hb9 := hM9.blk_ 3 rfl
      have q0 := hb9.c 0 rfl
      have q1 := hb9.c 1 rfl
      have q2 := hb9.c 2 rfl
      have q3 := hb9.c 3 rfl
      have q4 := hb9.c 4 rfl
      have q5 := hb9.c 5 rfl
      rw [← HPP.out]
      refine bodyPost_ret (v := .agg #[.int .i64 0, .int .i64 0, .int .i64 1000, .int .i64 (W : Nat), .int .i64 (H : Nat), .slice Av N cv]) (by simp [results, Try.results9, go_sem, q0, q1, q2, q3, q4, q5]) rfl ⟨Av, cv, rfl, hM9.sub (List.singleton_sublist.2 List.mem_cons_self)⟩
end Go.Proofs.Ytidbjidcjmbnlaa
end
section
namespace Go.Proofs.Ytidbjidcjmbnlaa
open Go Go.RowKit

theorem knownL_get {M : Mvd} {dl : List Nat} {n b N p : Nat} (h : p < N) : (knownL M dl n b N)[p]? = some (knownV M dl n b p) := by
  unfold knownL
  rw [List.getElem?_map, List.getElem?_range h]
  rfl
theorem knownV_cases (M : Mvd) (dl : List Nat) (n b p : Nat) : knownV M dl n b p = (2, 8) ∨ (truP M n p = true ∧ knownV M dl n b p = (5, 9)) ∨ (truP M n p = false ∧ knownV M dl n b p = (0, 3)) := by
  unfold knownV
  by_cases h : doubt dl b p = 0
  · rw [if_pos h]; exact .inl rfl
  · rw [if_neg h]
    cases ht : truP M n p with
    | true => exact .inr (.inl ⟨rfl, rfl⟩)
    | false => exact .inr (.inr ⟨rfl, rfl⟩)
theorem known_ok (M : Mvd) (dl : List Nat) (n b : Nat) : FieldOk M n (mayB (knownL M dl n b (M.W * M.H)) 5) (inB (knownL M dl n b (M.W * M.H)) 5) := fun p hp => by
  unfold mayB inB hiV loV
  rw [List.getD_eq_getElem?_getD, knownL_get hp]
  dsimp only [Option.getD]
  rcases knownV_cases M dl n b p with h | ⟨ht, h⟩ | ⟨ht, h⟩
  · rw [h]; simp
  · rw [h, ht]; simp
  · rw [h, ht]; simp
theorem known_lev (M : Mvd) (dl : List Nat) (n b N : Nat) : ∀ p, inB (knownL M dl n b N) 5 p = true → mayB (knownL M dl n b N) 5 p = true := fun p h => by
  unfold inB loV at h
  unfold mayB hiV
  by_cases hp : p < N
  · rw [List.getD_eq_getElem?_getD, knownL_get hp] at h ⊢
    dsimp only [Option.getD] at h ⊢
    rcases knownV_cases M dl n b p with h1 | ⟨-, h1⟩ | ⟨-, h1⟩
    · rw [h1]; decide
    · rw [h1]; decide
    · rw [h1] at h; exact absurd h (by decide)
  · rw [List.getD_eq_getElem?_getD, List.getElem?_eq_none (by rw [knownL_len]; omega)] at h
    exact absurd h (by decide)
theorem known_all (M : Mvd) (dl : List Nat) (n b N : Nat) : (knownL M dl n b N).all (okS 1073741824) = true := List.all_eq_true.2 fun x hx => by
  obtain ⟨p, -, rfl⟩ := List.mem_map.1 hx
  rcases knownV_cases M dl n b p with h1 | ⟨-, h1⟩ | ⟨-, h1⟩ <;> (rw [h1]; decide)
theorem known_field (M : Mvd) (dl : List Nat) (n b W H : Nat) (hW : 1 ≤ W) (hH : 1 ≤ H) (hW8 : W ≤ 8) (hH8 : H ≤ 8) : fieldE (gridE 0 0 1000 W H) (W * H : Nat) W H (knownL M dl n b (W * H)) 1073741824 = 0 := by
  have hg : gridE 0 0 1000 W H = 0 := by
    unfold gridE winB
    rw [if_pos]
    simp
    omega
  unfold fieldE
  rw [hg, if_neg (by omega), if_neg (by push_cast; omega), if_pos (known_all M dl n b (W * H))]
end Go.Proofs.Ytidbjidcjmbnlaa
end
