/-
  WindSights: the walk.
-/
import Derived.Test.YtllpffkifleigaaWdTruQ
set_option linter.unusedSimpArgs false
set_option linter.unusedVariables false
namespace Go.Proofs.Ytllpffkifleigaa
open Go Go.RowKit

theorem ringL_len {se ge : Int} {f : RayQ → Int} {g : RayQ → Sgt} {Q : List RayQ} : (ringL se ge f g Q).length ≤ 360 := by
  unfold ringL
  split
  · rename_i h
    rw [List.length_map]
    unfold ringE at h
    split at h
    · rename_i h1; exact absurd h h1
    · split at h
      · cases h
      · omega
  · simp
theorem placeL_len {f : SeenQ → Int} {g : SeenQ → Sgt} {Q : List SeenQ} : (placeL f g Q).length ≤ 360 := by
  unfold placeL
  split
  · rename_i h
    rw [List.length_map]
    unfold placeE at h
    split at h
    · cases h
    · omega
  · simp
set_option maxHeartbeats 4000000 in
set_option maxRecDepth 100000 in
theorem Sights_any (A B : Option Addr) (n1 c1 n2 c2 : Nat) (Q : List RayQ) (S : List SeenQ) (s : ByteArray) (x y z r g st wd t ray slo shi rlo rhi X Y : Int) (w : World) (hmax1 : n1 ≤ maxLen) (hmax2 : n2 ≤ maxLen) (hQ : Q.length = n1) (hS : S.length = n2) (hsum : n1 + n2 ≤ 9223372036854775807) (hs : s.size ≤ 9223372036854775807) (hsz : ∀ q ∈ S, q.s.size ≤ 9223372036854775807) (hA : RaysAtW w A Q) (hB : SeensAt w B S) :
    Calls Try.prog 10 #[siteV s x y z r g st wd, .int .i64 t, .int .i64 ray, .agg #[.int .i64 slo, .int .i64 shi], .agg #[.int .i64 rlo, .int .i64 rhi], .slice A n1 c1, .slice B n2 c2, .int .i64 X, .int .i64 Y] w fun e w' => e = .returned (.bool true) ∧ Below w.heap.size w w' := by
  by_cases h : (20 < n1 ∧ n1 ≤ 360) ∨ (8 < n2 ∧ n2 ≤ 360) ∨ 400 < n1 + n2
  · exact Sights_short A B n1 c1 n2 c2 s x y z r g st wd t ray slo shi rlo rhi X Y w hmax1 hmax2 hsum h
  have hLk := fun W => Look_any s x y z r g st wd t ray slo shi rlo rhi W hs
  have hRLk := fun W => rlook_any s x y z r g st wd t ray slo shi rlo rhi W hs
  have hi := lookA_i64 (s := s) (x := x) (y := y) (z := z) (r := r) (g := g) (st := st) (wd := wd) (t := t) (ray := ray) (slo := slo) (shi := shi) (rlo := rlo) (rhi := rhi)
  have hCk := fun W => Check_any _ W hi.1 hi.2
  have hRc := fun W => rcheck_any _ W hi.1 hi.2
  clear hi
  generalize lookA (siteE (nameB s) x y z r g st wd) r t ray slo shi rlo rhi = ak at *
  generalize lookE (siteE (nameB s) x y z r g st wd) r t ray slo shi rlo rhi = le at *
  generalize chkE ak = ce at *
  obtain ⟨ax, ay, al, alo, ahi⟩ := ak
  unfold sgC siteV at hLk hRLk
  unfold sgC at hCk hRc
  simp only at hLk hRLk hCk hRc
  have hRing := fun (A' : Option Addr) (c' : Nat) (W : World) (h : RaysAtW W A' Q) => ringG_any A' n1 c' Q s x y z r g st wd t rlo rhi W hQ hmax1 hs h _ _ _ rfl rfl (fun _ => rfl)
  have hRRing := fun (A' : Option Addr) (c' : Nat) (W : World) (h : RaysAtW W A' Q) => rringG_any A' n1 c' Q s x y z r g st wd t rlo rhi W hQ hmax1 hs h _ _ _ rfl rfl (fun _ => rfl)
  have hl1 := ringL_len (se := siteE (nameB s) x y z r g st wd) (ge := gateE (siteE (nameB s) x y z r g st wd) t rlo rhi) (f := fun q => lookE (siteE (nameB s) x y z r g st wd) r t q.a q.lo q.hi rlo rhi) (g := ringS r t rlo rhi) (Q := Q)
  generalize ringL (siteE (nameB s) x y z r g st wd) (gateE (siteE (nameB s) x y z r g st wd) t rlo rhi) (fun q => lookE (siteE (nameB s) x y z r g st wd) r t q.a q.lo q.hi rlo rhi) (ringS r t rlo rhi) Q = L1 at *
  generalize ringE (siteE (nameB s) x y z r g st wd) (gateE (siteE (nameB s) x y z r g st wd) t rlo rhi) (fun q => lookE (siteE (nameB s) x y z r g st wd) r t q.a q.lo q.hi rlo rhi) Q = e1 at *
  unfold siteV at hRing hRRing
  have hPl := fun (A' : Option Addr) (c' : Nat) (W : World) (h : SeensAt W A' S) => placeG_any A' n2 c' S X Y W hS hmax2 hsz h
  have hRPl := fun (A' : Option Addr) (c' : Nat) (W : World) (h : SeensAt W A' S) => rplaceG_any A' n2 c' S X Y W hS hmax2 hsz h
  have hl2 := placeL_len (f := plE X Y) (g := plS X Y) (Q := S)
  generalize placeL (plE X Y) (plS X Y) S = L2 at *
  generalize placeE (plE X Y) S = e2 at *
  have hSame := fun (A' B' : Option Addr) (c' d' : Nat) (W : World) (hA : SgtsH W A' L1) (hB : SgtsH W B' L1) => same_any A' B' L1.length c' d' L1 W rfl (by omega) hA hB
  have hSame2 := fun (A' B' : Option Addr) (c' d' : Nat) (W : World) (hA : SgtsH W A' L2) (hB : SgtsH W B' L2) => same_any A' B' L2.length c' d' L2 W rfl (by omega) hA hB
  have hl1' : (L1.length : Int) ≤ 360 := by omega
  have hl2' : (L2.length : Int) ≤ 360 := by omega
  have hsn : ∀ k, k < n1 → (Q.take (k + 1)).flatMap rayV = (Q.take k).flatMap rayV ++ rayV (Q.getD k ray0) := fun k hk => flat_snoc (by omega)
  have hend : (Q.take n1).flatMap rayV = Q.flatMap rayV := by rw [← hQ, List.take_length]
  have h00 : (Q.take 0).flatMap rayV = [] := rfl
  obtain ⟨K1, hK1⟩ : ∃ K : Nat → List Value, K = fun k => (Q.take k).flatMap rayV := ⟨_, rfl⟩
  have hK1e : ∀ k, (Q.take k).flatMap rayV = K1 k := fun k => by rw [hK1]
  simp only [hK1e] at hsn hend h00
  have hs2n : ∀ k, k < n2 → (S.take (k + 1)).flatMap seenV = (S.take k).flatMap seenV ++ seenV (S.getD k seen0) := fun k hk => flat_snoc (by omega)
  have hend2 : (S.take n2).flatMap seenV = S.flatMap seenV := by rw [← hS, List.take_length]
  have h20 : (S.take 0).flatMap seenV = [] := rfl
  obtain ⟨K2, hK2⟩ : ∃ K : Nat → List Value, K = fun k => (S.take k).flatMap seenV := ⟨_, rfl⟩
  have hK2e : ∀ k, (S.take k).flatMap seenV = K2 k := fun k => by rw [hK2]
  simp only [hK2e] at hs2n hend2 h20
  have hsc := hA
  unfold RaysAtW at hsc
  rw [hQ] at hsc
  have hs2c := hB
  unfold SeensAt at hs2c
  rw [hS] at hs2c
  have HLK := hide hLk
  have HRLK := hide hRLk
  have HCK := hide hCk
  have HRC := hide hRc
  have HRING := hide hRing
  have HRRING := hide hRRing
  have HPL := hide hPl
  have HRPL := hide hRPl
  have HSAME := hide hSame
  have HSAME2 := hide hSame2
  have HSN := hide hsn
  have HEND := hide hend
  have H00 := hide h00
  have HS2N := hide hs2n
  have HEND2 := hide hend2
  have H20 := hide h20
  have HSC := hide hsc
  have HS2C := hide hs2c
  have HA := hide hA
  have HB := hide hB
  have HQN := hide hQ
  have HSN2 := hide hS
  clear hLk hRLk hCk hRc hRing hRRing hPl hRPl hSame hSame2 hsn hend h00 hs2n hend2 h20 hsc hs2c hA hB hQ hS
  clear hK1 hK1e hK2 hK2e hl1 hl2 hs hsz hsum
  have k1 : (n1 : Int) ≤ 9223372036854775807 := by unfold maxLen at hmax1; omega
  have k2 : (n2 : Int) ≤ 9223372036854775807 := by unfold maxLen at hmax2; omega
  have k3 : (n1 : Int) + n2 ≤ 400 := by omega
  unfold siteV
  by_cases a1 : (20 : Int) < n1
  · have a2 : ¬ (n1 : Int) ≤ 360 := by omega
    have b1 : ¬ (8 : Int) < n2 := by omega
    clear h
    go_enter Try.func10, Try.ntmps10
    have HM := hide (Mem.start w)
    go_upto_region 1 with fail
    refine code_world fun w1 hW => ?_
    have HMn := Mem.to (Mem.allocAt (Mem.allocAt (Mem.allocAt HM.out w.heap.size rfl #[.string s, .int .i64 x, .int .i64 y, .int .i64 z, .int .i64 r, .int .i64 g, .int .i64 st, .int .i64 wd] 83) (w.heap.size + 1) (by simp) #[.int .i64 slo, .int .i64 shi] 32) (w.heap.size + 2) (by simp) #[.int .i64 rlo, .int .i64 rhi] 32) hW
    have LW : Later w w1 := by rw [hW]; exact ((((Below.refl _ _).alloc (Nat.le_refl _) _).alloc (by simp; try omega) _).alloc (by simp; try omega) _)
    have szW : w1.heap.size = w.heap.size + 3 := by rw [hW]; simp
    clear hW
    replace HM := hide HMn
    clear HMn LW
    clear szW
    generalize hg2 : w.heap.size + 2 = gr at HM ⊢
    generalize hg1 : w.heap.size + 1 = gp at HM ⊢
    generalize hg0 : w.heap.size = gs at HM ⊢
    go_upto_region 3 with fail
    have bd : Blk w1 gs 83 #[.string s, .int .i64 x, .int .i64 y, .int .i64 z, .int .i64 r, .int .i64 g, .int .i64 st, .int .i64 wd] := HM.out.get 2 rfl
    have ltd := bd.lt
    have d0 := bd.c 0 rfl
    have d1 := bd.c 1 rfl
    have d2 := bd.c 2 rfl
    have d3 := bd.c 3 rfl
    have d4 := bd.c 4 rfl
    have d5 := bd.c 5 rfl
    have d6 := bd.c 6 rfl
    have d7 := bd.c 7 rfl
    have ba : Blk w1 gp 32 #[.int .i64 slo, .int .i64 shi] := HM.out.get 1 rfl
    have lta := ba.lt
    have a0 := ba.c 0 rfl
    have a1 := ba.c 1 rfl
    have be : Blk w1 gr 32 #[.int .i64 rlo, .int .i64 rhi] := HM.out.get 0 rfl
    have lte := be.lt
    have e0 := be.c 0 rfl
    have e1 := be.c 1 rfl
    go_wp2_with fail
    refine (HLK.out _).mono ?_
    rintro e w2 ⟨rfl, hb⟩
    replace HM := hide (HM.out.later hb)
    clear hb bd ltd d0 d1 d2 d3 d4 d5 d6 d7 ba lta a0 a1 be lte e0 e1
    go_upto_region 4 with fail
    refine code_world fun w3 hW => ?_
    have HMn := Mem.to (Mem.allocAt HM.out w2.heap.size rfl #[.int .i64 ax, .int .i64 ay, .int .i64 al, .int .i64 alo, .int .i64 ahi] 71) hW
    have LW : Later w2 w3 := by rw [hW]; exact ((Below.refl _ _).alloc (Nat.le_refl _) _)
    have szW : w3.heap.size = w2.heap.size + 1 := by rw [hW]; simp
    clear hW
    replace HM := hide HMn
    clear HMn LW
    clear szW
    generalize hga : w2.heap.size = ga at HM ⊢
    clear hga
    have bd : Blk w3 gs 83 #[.string s, .int .i64 x, .int .i64 y, .int .i64 z, .int .i64 r, .int .i64 g, .int .i64 st, .int .i64 wd] := HM.out.get 3 rfl
    have ltd := bd.lt
    have d0 := bd.c 0 rfl
    have d1 := bd.c 1 rfl
    have d2 := bd.c 2 rfl
    have d3 := bd.c 3 rfl
    have d4 := bd.c 4 rfl
    have d5 := bd.c 5 rfl
    have d6 := bd.c 6 rfl
    have d7 := bd.c 7 rfl
    have ba : Blk w3 gp 32 #[.int .i64 slo, .int .i64 shi] := HM.out.get 2 rfl
    have lta := ba.lt
    have a0 := ba.c 0 rfl
    have a1 := ba.c 1 rfl
    have be : Blk w3 gr 32 #[.int .i64 rlo, .int .i64 rhi] := HM.out.get 1 rfl
    have lte := be.lt
    have e0 := be.c 0 rfl
    have e1 := be.c 1 rfl
    go_wp2_with fail
    refine (HRLK.out _).mono ?_
    rintro e w4 ⟨rfl, hb⟩
    replace HM := hide (HM.out.later hb)
    clear hb bd ltd d0 d1 d2 d3 d4 d5 d6 d7 ba lta a0 a1 be lte e0 e1
    go_upto_region 5 with fail
    refine code_world fun w5 hW => ?_
    have HMn := Mem.to (Mem.allocAt HM.out w4.heap.size rfl #[.int .i64 ax, .int .i64 ay, .int .i64 al, .int .i64 alo, .int .i64 ahi] 88) hW
    have LW : Later w4 w5 := by rw [hW]; exact ((Below.refl _ _).alloc (Nat.le_refl _) _)
    have szW : w5.heap.size = w4.heap.size + 1 := by rw [hW]; simp
    clear hW
    replace HM := hide HMn
    clear HMn LW
    clear szW
    generalize hgb : w4.heap.size = gb at HM ⊢
    clear hgb
    have bu : Blk w5 gb 88 #[.int .i64 ax, .int .i64 ay, .int .i64 al, .int .i64 alo, .int .i64 ahi] := HM.out.get 0 rfl
    have ltu := bu.lt
    have u0 := bu.c 0 rfl
    have u1 := bu.c 1 rfl
    have u2 := bu.c 2 rfl
    have u3 := bu.c 3 rfl
    have u4 := bu.c 4 rfl
    have bv : Blk w5 ga 71 #[.int .i64 ax, .int .i64 ay, .int .i64 al, .int .i64 alo, .int .i64 ahi] := HM.out.get 1 rfl
    have ltv := bv.lt
    have v0 := bv.c 0 rfl
    have v1 := bv.c 1 rfl
    have v2 := bv.c 2 rfl
    have v3 := bv.c 3 rfl
    have v4 := bv.c 4 rfl
    apply wp_region_L (w0 := w5) [[], [], [], [], [], [], [], [], [], [], [], [], [], [], []] [true, true, true, true, true, true, true, true, true, true, true, true, true, true, true] [] (fun ixq y => match ixq with  | _ => undef) (fun ixq x F wq => match ixq with  | _ => True) (fun a x => a) (by kernel_rfl) (by kernel_rfl) (fun _ => rfl) [84, 86] (by kernel_rfl)
    · intro x D hD
      have hne := hD.some
      have k0 := liftB hD u0 (by first | assumption | omega)
      have k1 := liftB hD u1 (by first | assumption | omega)
      have k2 := liftB hD u2 (by first | assumption | omega)
      have k3 := liftB hD u3 (by first | assumption | omega)
      have k4 := liftB hD u4 (by first | assumption | omega)
      have k5 := liftB hD v0 (by first | assumption | omega)
      have k6 := liftB hD v1 (by first | assumption | omega)
      have k7 := liftB hD v2 (by first | assumption | omega)
      have k8 := liftB hD v3 (by first | assumption | omega)
      have k9 := liftB hD v4 (by first | assumption | omega)
      simp only [takeOps, Act.put, List.setIfInBounds_toArray, List.set_cons_succ, List.set_cons_zero]
      repeat (go_big_quiet_step ((first | (go_at_call 43; with_reducible exact calls_later hD _ (HCK.out _)) | (go_at_call 44; with_reducible exact calls_later hD _ (HRC.out _)))))
      exact wpQuiet_nil rfl
    · intro d hd x x'
      simp only [List.mem_cons, List.not_mem_nil, or_false] at hd
      rcases hd with rfl | rfl
      all_goals rfl
    · exact trivial
    · exact trivial
    intro xx w6 F hL hlv1
    clear hlv1
    replace HM := hide (HM.out.later hL)
    clear hL bu ltu u0 u1 u2 u3 u4 bv ltv v0 v1 v2 v3 v4
    go_wp2_with fail
    have HM2 := hide (HM.out.nilRow gs 95 3)
    clear HM
    have HM := HM2
    clear HM2
    go_loopw [23, 24] (fun o i wr => ∃ (k : Nat) (A' : Option Addr) (c' : Nat), k ≤ n1 ∧ i = .int .i64 k ∧ o = .slice A' k c' ∧ Mem w [.row gs 95 3 (.slice A' k c') k (K1 k), .blk gb 88 #[.int .i64 ax, .int .i64 ay, .int .i64 al, .int .i64 alo, .int .i64 ahi], .blk ga 71 #[.int .i64 ax, .int .i64 ay, .int .i64 al, .int .i64 alo, .int .i64 ahi], .blk gr 32 #[.int .i64 rlo, .int .i64 rhi], .blk gp 32 #[.int .i64 slo, .int .i64 shi], .blk gs 83 #[.string s, .int .i64 x, .int .i64 y, .int .i64 z, .int .i64 r, .int .i64 g, .int .i64 st, .int .i64 wd]] wr) (fun _ i _ => n1 - (intOf i).toNat)
    case atStart => exact ⟨0, none, 0, by omega, rfl, rfl, by rw [H00.out]; exact HM.out⟩
    case round =>
      obtain ⟨k, A', c', hk, rfl, rfl, hM⟩ := hrel
      clear HM
      have HM := hide hM
      clear hM
      by_cases hlt : k < n1
      · have hlt2 : (k : Int) < n1 := by omega
        obtain ⟨b, off, rfl, hb0, hc⟩ := HSC.out (by omega)
        have hc1 := hc _ hlt
        have hs1 := HSN.out k hlt
        obtain ⟨X, hX⟩ : ∃ X, Q.getD k ray0 = X := ⟨_, rfl⟩
        rw [hX] at hc1 hs1
        rw [← HM.out.below.cell hb0, ← HM.out.below.cell hb0, ← HM.out.below.cell hb0] at hc1
        have ltb : b < wr.heap.size := Nat.lt_of_lt_of_le hb0 HM.out.size
        obtain ⟨q0, q1, q2⟩ := hc1
        obtain ⟨ra, tlo, thi⟩ := X
        unfold rayV at hs1
        simp only at q0 q1 q2 hs1
        generalize K1 k = xs at *
        obtain ⟨i0, hii, hz0, hz1, hz2⟩ := info_parts rayInfo
        have Hi := hide hii
        have Hz0 := hide hz0
        have Hz1 := hide hz1
        have Hz2 := hide hz2
        have HS1 := hide hs1
        clear hii hz0 hz1 hz2 hs1
        clear hc hX
        go_upto_region 11 with fail
        have hbaseM : gs ≤ wr.heap.size := by rw [← hg0]; exact HM.out.size
        have hownM := Mem.row_ HM.out 0 rfl
        
        go_wp2_with (at_builtin; refine wpList_append_own_at _ rfl (.tmp 95) (.tmp 100) _ rfl _ 95 i0 _ 3 24 Try.underlying93 Hi.out Hz0.out Hz1.out Hz2.out rfl (by decide) _ k xs rfl (hownM.alloc _) ⟨wr.heap.size, 0, none⟩ 1 1 [.int .i64 ra, .int .i64 tlo, .int .i64 thi] rfl rfl ?q1c1 (by intro u hu; simp only [List.mem_cons, List.not_mem_nil, or_false] at hu; rcases hu with rfl | rfl | rfl <;> rfl) ?q1c3 ?q1c4 ?q1c5 ?_)
        try case q1c1 => exact new_cellsQ wr _ [.int .i64 ra, .int .i64 tlo, .int .i64 thi]
        case q1c3 => unfold maxLen; omega
        case q1c4 => omega
        case q1c5 => first | omega | (simp; omega)
        intro vA w9 hown2 hgr2 _ hat2
        have HMn := HM.out.grow 0 rfl _ hgr2 hown2 hat2
        replace HM := hide HMn
        clear HMn hown2 hgr2 hat2 hownM hbaseM
        obtain ⟨A9, c9, rfl⟩ := own_shape2 (Mem.row_ HM.out 0 rfl)
        go_wp2_with fail
        go_roundw
        case rel => exact ⟨k + 1, A9, c9, by omega, by go_num, rfl, by rw [HS1.out]; exact HM.out⟩
        case measure => simp [intOf] <;> omega
      · obtain rfl : n1 = k := by omega
        have hkk : ¬ ((n1 : Int) < n1) := by omega
        have hRA := rays_own HQN.out (by rw [← HEND.out]; exact HM.out.row_ 0 rfl)
        have HM2 := hide HM.out.tail
        have hRB := RaysAtW.later HA.out HM.out.below
        clear HM HSN HEND H00 HSC
        have HM := HM2
        clear HM2
        have HRA := hide hRA
        have HRB := hide hRB
        clear hRA hRB
        go_upto_region 12 with fail
        have bd : Blk wr gs 83 #[.string s, .int .i64 x, .int .i64 y, .int .i64 z, .int .i64 r, .int .i64 g, .int .i64 st, .int .i64 wd] := HM.out.get 4 rfl
        have ltd := bd.lt
        have d0 := bd.c 0 rfl
        have d1 := bd.c 1 rfl
        have d2 := bd.c 2 rfl
        have d3 := bd.c 3 rfl
        have d4 := bd.c 4 rfl
        have d5 := bd.c 5 rfl
        have d6 := bd.c 6 rfl
        have d7 := bd.c 7 rfl
        have be : Blk wr gr 32 #[.int .i64 rlo, .int .i64 rhi] := HM.out.get 2 rfl
        have lte := be.lt
        have e0 := be.c 0 rfl
        have e1 := be.c 1 rfl
        go_wp2_with fail
        refine (HRING.out _ _ _ HRA.out).mono ?_
        rintro e w7 ⟨A1, c1, rfl, hb, ho⟩
        have hrb := HRB.out.later hb
        have hsa := sgts_own rfl ho
        have HM2 := hide (HM.out.later hb)
        clear HM HRA HRB HRING hb ho d0 d1 d2 d3 d4 d5 d6 d7 bd ltd e0 e1 be lte
        have HM := HM2
        clear HM2
        have HRB := hide hrb
        have HSA := hide hsa
        clear hrb hsa
        have bd : Blk w7 gs 83 #[.string s, .int .i64 x, .int .i64 y, .int .i64 z, .int .i64 r, .int .i64 g, .int .i64 st, .int .i64 wd] := HM.out.get 4 rfl
        have ltd := bd.lt
        have d0 := bd.c 0 rfl
        have d1 := bd.c 1 rfl
        have d2 := bd.c 2 rfl
        have d3 := bd.c 3 rfl
        have d4 := bd.c 4 rfl
        have d5 := bd.c 5 rfl
        have d6 := bd.c 6 rfl
        have d7 := bd.c 7 rfl
        have be : Blk w7 gr 32 #[.int .i64 rlo, .int .i64 rhi] := HM.out.get 2 rfl
        have lte := be.lt
        have e0 := be.c 0 rfl
        have e1 := be.c 1 rfl
        go_wp2_with fail
        refine (HRRING.out _ _ _ HRB.out).mono ?_
        rintro e w8 ⟨A2, c2, rfl, hb, ho⟩
        have hsb := rsgts_own rfl ho
        have hsa := HSA.out.later hb
        have HM2 := hide (HM.out.later hb)
        clear HM HRB HSA HRRING hb ho d0 d1 d2 d3 d4 d5 d6 d7 bd ltd e0 e1 be lte
        have HM := HM2
        clear HM2
        have HSB := hide hsb
        have HSA := hide hsa
        clear hsb hsa
        go_wp2_with fail
        refine (HSAME.out _ _ _ _ _ HSA.out HSB.out).mono ?_
        rintro e w9 ⟨rfl, hb⟩
        replace HM := hide (HM.out.later hb)
        clear hb
        clear HSA HSB HSAME
        go_wp2_with fail
        have HM2 := hide (HM.out.nilRow gs 104 13)
        clear HM
        have HM := HM2
        clear HM2
        go_loopw [27, 28] (fun o i wr => ∃ (k : Nat) (A' : Option Addr) (c' : Nat), k ≤ n2 ∧ i = .int .i64 k ∧ o = .slice A' k c' ∧ Mem w [.row gs 104 13 (.slice A' k c') k (K2 k), .blk gb 88 #[.int .i64 ax, .int .i64 ay, .int .i64 al, .int .i64 alo, .int .i64 ahi], .blk ga 71 #[.int .i64 ax, .int .i64 ay, .int .i64 al, .int .i64 alo, .int .i64 ahi], .blk gr 32 #[.int .i64 rlo, .int .i64 rhi], .blk gp 32 #[.int .i64 slo, .int .i64 shi], .blk gs 83 #[.string s, .int .i64 x, .int .i64 y, .int .i64 z, .int .i64 r, .int .i64 g, .int .i64 st, .int .i64 wd]] wr) (fun _ i _ => n2 - (intOf i).toNat)
        case atStart => exact ⟨0, none, 0, by omega, rfl, rfl, by rw [H20.out]; exact HM.out⟩
        case round =>
          obtain ⟨k, A', c', hk, rfl, rfl, hM⟩ := hrel
          clear HM
          have HM := hide hM
          clear hM
          by_cases hlt : k < n2
          · have hlt2 : (k : Int) < n2 := by omega
            obtain ⟨b, off, rfl, hb0, hc⟩ := HS2C.out (by omega)
            have hc1 := hc _ hlt
            have hs1 := HS2N.out k hlt
            obtain ⟨X, hX⟩ : ∃ X, S.getD k seen0 = X := ⟨_, rfl⟩
            rw [hX] at hc1 hs1
            rw [← HM.out.below.cell hb0, ← HM.out.below.cell hb0, ← HM.out.below.cell hb0, ← HM.out.below.cell hb0, ← HM.out.below.cell hb0, ← HM.out.below.cell hb0, ← HM.out.below.cell hb0, ← HM.out.below.cell hb0, ← HM.out.below.cell hb0, ← HM.out.below.cell hb0, ← HM.out.below.cell hb0, ← HM.out.below.cell hb0, ← HM.out.below.cell hb0] at hc1
            have ltb : b < wr.heap.size := Nat.lt_of_lt_of_le hb0 HM.out.size
            obtain ⟨q0, q1, q2, q3, q4, q5, q6, q7, q8, q9, q10, q11, q12⟩ := hc1
            obtain ⟨zs, zx, zy, zz, zr, zg, zst, zwd, zt, zsl, zsh, zrl, zrh⟩ := X
            unfold seenV at hs1
            simp only at q0 q1 q2 q3 q4 q5 q6 q7 q8 q9 q10 q11 q12 hs1
            generalize K2 k = xs at *
            obtain ⟨i0, hii, hz0, hz1, hz2⟩ := info_parts seenInfo
            have Hi := hide hii
            have Hz0 := hide hz0
            have Hz1 := hide hz1
            have Hz2 := hide hz2
            have HS1 := hide hs1
            clear hii hz0 hz1 hz2 hs1
            clear hc hX
            go_upto_region 20 with fail
            have hbaseM : gs ≤ wr.heap.size := by rw [← hg0]; exact HM.out.size
            have hownM := Mem.row_ HM.out 0 rfl
            
            go_wp2_with (at_builtin; refine wpList_append_own_at _ rfl (.tmp 133) (.tmp 138) _ rfl _ 104 i0 _ 13 112 Try.underlying102 Hi.out Hz0.out Hz1.out Hz2.out rfl (by decide) _ k xs rfl (hownM.alloc _) ⟨wr.heap.size, 0, none⟩ 1 1 [.string zs, .int .i64 zx, .int .i64 zy, .int .i64 zz, .int .i64 zr, .int .i64 zg, .int .i64 zst, .int .i64 zwd, .int .i64 zt, .int .i64 zsl, .int .i64 zsh, .int .i64 zrl, .int .i64 zrh] rfl rfl ?q2c1 (by intro u hu; simp only [List.mem_cons, List.not_mem_nil, or_false] at hu; rcases hu with rfl | rfl | rfl | rfl | rfl | rfl | rfl | rfl | rfl | rfl | rfl | rfl | rfl <;> rfl) ?q2c3 ?q2c4 ?q2c5 ?_)
            try case q2c1 => exact new_cellsQ wr _ [.string zs, .int .i64 zx, .int .i64 zy, .int .i64 zz, .int .i64 zr, .int .i64 zg, .int .i64 zst, .int .i64 zwd, .int .i64 zt, .int .i64 zsl, .int .i64 zsh, .int .i64 zrl, .int .i64 zrh]
            case q2c3 => unfold maxLen; omega
            case q2c4 => omega
            case q2c5 => first | omega | (simp; omega)
            intro vA w9 hown2 hgr2 _ hat2
            have HMn := HM.out.grow 0 rfl _ hgr2 hown2 hat2
            replace HM := hide HMn
            clear HMn hown2 hgr2 hat2 hownM hbaseM
            obtain ⟨A9, c9, rfl⟩ := own_shape2 (Mem.row_ HM.out 0 rfl)
            go_wp2_with fail
            go_roundw
            case rel => exact ⟨k + 1, A9, c9, by omega, by go_num, rfl, by rw [HS1.out]; exact HM.out⟩
            case measure => simp [intOf] <;> omega
          · obtain rfl : n2 = k := by omega
            have hkk : ¬ ((n2 : Int) < n2) := by omega
            have hRA := seens_own HSN2.out (by rw [← HEND2.out]; exact HM.out.row_ 0 rfl)
            have HM2 := hide HM.out.tail
            have hRB := SeensAt.later HB.out HM.out.below
            clear HM HS2N HEND2 H20 HS2C
            have HM := HM2
            clear HM2
            have HRA := hide hRA
            have HRB := hide hRB
            clear hRA hRB
            go_upto_region 21 with fail
            go_wp2_with fail
            refine (HPL.out _ _ _ HRA.out).mono ?_
            rintro e w11 ⟨A3, c3, rfl, hb, ho⟩
            have hrb := HRB.out.later hb
            have hsa := sgts_own rfl ho
            have HM2 := hide (HM.out.later hb)
            clear HM HRA HRB HPL hb ho
            have HM := HM2
            clear HM2
            have HRB := hide hrb
            have HSA := hide hsa
            clear hrb hsa
            go_wp2_with fail
            refine (HRPL.out _ _ _ HRB.out).mono ?_
            rintro e w12 ⟨A4, c4, rfl, hb, ho⟩
            have hsb := rsgts_own rfl ho
            have hsa := HSA.out.later hb
            have HM2 := hide (HM.out.later hb)
            clear HM HRB HSA HRPL hb ho
            have HM := HM2
            clear HM2
            have HSB := hide hsb
            have HSA := hide hsa
            clear hsb hsa
            go_wp2_with fail
            refine (HSAME2.out _ _ _ _ _ HSA.out HSB.out).mono ?_
            rintro e w13 ⟨rfl, hb⟩
            replace HM := hide (HM.out.later hb)
            clear hb
            clear HSA HSB HSAME2
            go_wp2_with fail
            refine (works_any _).mono ?_
            rintro e w14 ⟨rfl, hb⟩
            replace HM := hide (HM.out.later hb)
            clear hb
            go_wp2
            exact bodyPost_ret (v := .bool true) (by simp [results, Try.results10, go_sem]) rfl ⟨rfl, by first | exact HM.out.below | (rw [← hg0]; exact HM.out.below)⟩
  · by_cases b1 : (8 : Int) < n2
    · have b2 : ¬ (n2 : Int) ≤ 360 := by omega
      clear h
      go_enter Try.func10, Try.ntmps10
      have HM := hide (Mem.start w)
      go_upto_region 1 with fail
      refine code_world fun w1 hW => ?_
      have HMn := Mem.to (Mem.allocAt (Mem.allocAt (Mem.allocAt HM.out w.heap.size rfl #[.string s, .int .i64 x, .int .i64 y, .int .i64 z, .int .i64 r, .int .i64 g, .int .i64 st, .int .i64 wd] 83) (w.heap.size + 1) (by simp) #[.int .i64 slo, .int .i64 shi] 32) (w.heap.size + 2) (by simp) #[.int .i64 rlo, .int .i64 rhi] 32) hW
      have LW : Later w w1 := by rw [hW]; exact ((((Below.refl _ _).alloc (Nat.le_refl _) _).alloc (by simp; try omega) _).alloc (by simp; try omega) _)
      have szW : w1.heap.size = w.heap.size + 3 := by rw [hW]; simp
      clear hW
      replace HM := hide HMn
      clear HMn LW
      clear szW
      generalize hg2 : w.heap.size + 2 = gr at HM ⊢
      generalize hg1 : w.heap.size + 1 = gp at HM ⊢
      generalize hg0 : w.heap.size = gs at HM ⊢
      go_upto_region 3 with fail
      have bd : Blk w1 gs 83 #[.string s, .int .i64 x, .int .i64 y, .int .i64 z, .int .i64 r, .int .i64 g, .int .i64 st, .int .i64 wd] := HM.out.get 2 rfl
      have ltd := bd.lt
      have d0 := bd.c 0 rfl
      have d1 := bd.c 1 rfl
      have d2 := bd.c 2 rfl
      have d3 := bd.c 3 rfl
      have d4 := bd.c 4 rfl
      have d5 := bd.c 5 rfl
      have d6 := bd.c 6 rfl
      have d7 := bd.c 7 rfl
      have ba : Blk w1 gp 32 #[.int .i64 slo, .int .i64 shi] := HM.out.get 1 rfl
      have lta := ba.lt
      have a0 := ba.c 0 rfl
      have a1 := ba.c 1 rfl
      have be : Blk w1 gr 32 #[.int .i64 rlo, .int .i64 rhi] := HM.out.get 0 rfl
      have lte := be.lt
      have e0 := be.c 0 rfl
      have e1 := be.c 1 rfl
      go_wp2_with fail
      refine (HLK.out _).mono ?_
      rintro e w2 ⟨rfl, hb⟩
      replace HM := hide (HM.out.later hb)
      clear hb bd ltd d0 d1 d2 d3 d4 d5 d6 d7 ba lta a0 a1 be lte e0 e1
      go_upto_region 4 with fail
      refine code_world fun w3 hW => ?_
      have HMn := Mem.to (Mem.allocAt HM.out w2.heap.size rfl #[.int .i64 ax, .int .i64 ay, .int .i64 al, .int .i64 alo, .int .i64 ahi] 71) hW
      have LW : Later w2 w3 := by rw [hW]; exact ((Below.refl _ _).alloc (Nat.le_refl _) _)
      have szW : w3.heap.size = w2.heap.size + 1 := by rw [hW]; simp
      clear hW
      replace HM := hide HMn
      clear HMn LW
      clear szW
      generalize hga : w2.heap.size = ga at HM ⊢
      clear hga
      have bd : Blk w3 gs 83 #[.string s, .int .i64 x, .int .i64 y, .int .i64 z, .int .i64 r, .int .i64 g, .int .i64 st, .int .i64 wd] := HM.out.get 3 rfl
      have ltd := bd.lt
      have d0 := bd.c 0 rfl
      have d1 := bd.c 1 rfl
      have d2 := bd.c 2 rfl
      have d3 := bd.c 3 rfl
      have d4 := bd.c 4 rfl
      have d5 := bd.c 5 rfl
      have d6 := bd.c 6 rfl
      have d7 := bd.c 7 rfl
      have ba : Blk w3 gp 32 #[.int .i64 slo, .int .i64 shi] := HM.out.get 2 rfl
      have lta := ba.lt
      have a0 := ba.c 0 rfl
      have a1 := ba.c 1 rfl
      have be : Blk w3 gr 32 #[.int .i64 rlo, .int .i64 rhi] := HM.out.get 1 rfl
      have lte := be.lt
      have e0 := be.c 0 rfl
      have e1 := be.c 1 rfl
      go_wp2_with fail
      refine (HRLK.out _).mono ?_
      rintro e w4 ⟨rfl, hb⟩
      replace HM := hide (HM.out.later hb)
      clear hb bd ltd d0 d1 d2 d3 d4 d5 d6 d7 ba lta a0 a1 be lte e0 e1
      go_upto_region 5 with fail
      refine code_world fun w5 hW => ?_
      have HMn := Mem.to (Mem.allocAt HM.out w4.heap.size rfl #[.int .i64 ax, .int .i64 ay, .int .i64 al, .int .i64 alo, .int .i64 ahi] 88) hW
      have LW : Later w4 w5 := by rw [hW]; exact ((Below.refl _ _).alloc (Nat.le_refl _) _)
      have szW : w5.heap.size = w4.heap.size + 1 := by rw [hW]; simp
      clear hW
      replace HM := hide HMn
      clear HMn LW
      clear szW
      generalize hgb : w4.heap.size = gb at HM ⊢
      clear hgb
      have bu : Blk w5 gb 88 #[.int .i64 ax, .int .i64 ay, .int .i64 al, .int .i64 alo, .int .i64 ahi] := HM.out.get 0 rfl
      have ltu := bu.lt
      have u0 := bu.c 0 rfl
      have u1 := bu.c 1 rfl
      have u2 := bu.c 2 rfl
      have u3 := bu.c 3 rfl
      have u4 := bu.c 4 rfl
      have bv : Blk w5 ga 71 #[.int .i64 ax, .int .i64 ay, .int .i64 al, .int .i64 alo, .int .i64 ahi] := HM.out.get 1 rfl
      have ltv := bv.lt
      have v0 := bv.c 0 rfl
      have v1 := bv.c 1 rfl
      have v2 := bv.c 2 rfl
      have v3 := bv.c 3 rfl
      have v4 := bv.c 4 rfl
      apply wp_region_L (w0 := w5) [[], [], [], [], [], [], [], [], [], [], [], [], [], [], []] [true, true, true, true, true, true, true, true, true, true, true, true, true, true, true] [] (fun ixq y => match ixq with  | _ => undef) (fun ixq x F wq => match ixq with  | _ => True) (fun a x => a) (by kernel_rfl) (by kernel_rfl) (fun _ => rfl) [84, 86] (by kernel_rfl)
      · intro x D hD
        have hne := hD.some
        have k0 := liftB hD u0 (by first | assumption | omega)
        have k1 := liftB hD u1 (by first | assumption | omega)
        have k2 := liftB hD u2 (by first | assumption | omega)
        have k3 := liftB hD u3 (by first | assumption | omega)
        have k4 := liftB hD u4 (by first | assumption | omega)
        have k5 := liftB hD v0 (by first | assumption | omega)
        have k6 := liftB hD v1 (by first | assumption | omega)
        have k7 := liftB hD v2 (by first | assumption | omega)
        have k8 := liftB hD v3 (by first | assumption | omega)
        have k9 := liftB hD v4 (by first | assumption | omega)
        simp only [takeOps, Act.put, List.setIfInBounds_toArray, List.set_cons_succ, List.set_cons_zero]
        repeat (go_big_quiet_step ((first | (go_at_call 43; with_reducible exact calls_later hD _ (HCK.out _)) | (go_at_call 44; with_reducible exact calls_later hD _ (HRC.out _)))))
        exact wpQuiet_nil rfl
      · intro d hd x x'
        simp only [List.mem_cons, List.not_mem_nil, or_false] at hd
        rcases hd with rfl | rfl
        all_goals rfl
      · exact trivial
      · exact trivial
      intro xx w6 F hL hlv2
      clear hlv2
      replace HM := hide (HM.out.later hL)
      clear hL bu ltu u0 u1 u2 u3 u4 bv ltv v0 v1 v2 v3 v4
      go_wp2_with fail
      have HM2 := hide (HM.out.nilRow gs 95 3)
      clear HM
      have HM := HM2
      clear HM2
      go_loopw [23, 24] (fun o i wr => ∃ (k : Nat) (A' : Option Addr) (c' : Nat), k ≤ n1 ∧ i = .int .i64 k ∧ o = .slice A' k c' ∧ Mem w [.row gs 95 3 (.slice A' k c') k (K1 k), .blk gb 88 #[.int .i64 ax, .int .i64 ay, .int .i64 al, .int .i64 alo, .int .i64 ahi], .blk ga 71 #[.int .i64 ax, .int .i64 ay, .int .i64 al, .int .i64 alo, .int .i64 ahi], .blk gr 32 #[.int .i64 rlo, .int .i64 rhi], .blk gp 32 #[.int .i64 slo, .int .i64 shi], .blk gs 83 #[.string s, .int .i64 x, .int .i64 y, .int .i64 z, .int .i64 r, .int .i64 g, .int .i64 st, .int .i64 wd]] wr) (fun _ i _ => n1 - (intOf i).toNat)
      case atStart => exact ⟨0, none, 0, by omega, rfl, rfl, by rw [H00.out]; exact HM.out⟩
      case round =>
        obtain ⟨k, A', c', hk, rfl, rfl, hM⟩ := hrel
        clear HM
        have HM := hide hM
        clear hM
        by_cases hlt : k < n1
        · have hlt2 : (k : Int) < n1 := by omega
          obtain ⟨b, off, rfl, hb0, hc⟩ := HSC.out (by omega)
          have hc1 := hc _ hlt
          have hs1 := HSN.out k hlt
          obtain ⟨X, hX⟩ : ∃ X, Q.getD k ray0 = X := ⟨_, rfl⟩
          rw [hX] at hc1 hs1
          rw [← HM.out.below.cell hb0, ← HM.out.below.cell hb0, ← HM.out.below.cell hb0] at hc1
          have ltb : b < wr.heap.size := Nat.lt_of_lt_of_le hb0 HM.out.size
          obtain ⟨q0, q1, q2⟩ := hc1
          obtain ⟨ra, tlo, thi⟩ := X
          unfold rayV at hs1
          simp only at q0 q1 q2 hs1
          generalize K1 k = xs at *
          obtain ⟨i0, hii, hz0, hz1, hz2⟩ := info_parts rayInfo
          have Hi := hide hii
          have Hz0 := hide hz0
          have Hz1 := hide hz1
          have Hz2 := hide hz2
          have HS1 := hide hs1
          clear hii hz0 hz1 hz2 hs1
          clear hc hX
          go_upto_region 11 with fail
          have hbaseM : gs ≤ wr.heap.size := by rw [← hg0]; exact HM.out.size
          have hownM := Mem.row_ HM.out 0 rfl
          
          go_wp2_with (at_builtin; refine wpList_append_own_at _ rfl (.tmp 95) (.tmp 100) _ rfl _ 95 i0 _ 3 24 Try.underlying93 Hi.out Hz0.out Hz1.out Hz2.out rfl (by decide) _ k xs rfl (hownM.alloc _) ⟨wr.heap.size, 0, none⟩ 1 1 [.int .i64 ra, .int .i64 tlo, .int .i64 thi] rfl rfl ?q3c1 (by intro u hu; simp only [List.mem_cons, List.not_mem_nil, or_false] at hu; rcases hu with rfl | rfl | rfl <;> rfl) ?q3c3 ?q3c4 ?q3c5 ?_)
          try case q3c1 => exact new_cellsQ wr _ [.int .i64 ra, .int .i64 tlo, .int .i64 thi]
          case q3c3 => unfold maxLen; omega
          case q3c4 => omega
          case q3c5 => first | omega | (simp; omega)
          intro vA w9 hown2 hgr2 _ hat2
          have HMn := HM.out.grow 0 rfl _ hgr2 hown2 hat2
          replace HM := hide HMn
          clear HMn hown2 hgr2 hat2 hownM hbaseM
          obtain ⟨A9, c9, rfl⟩ := own_shape2 (Mem.row_ HM.out 0 rfl)
          go_wp2_with fail
          go_roundw
          case rel => exact ⟨k + 1, A9, c9, by omega, by go_num, rfl, by rw [HS1.out]; exact HM.out⟩
          case measure => simp [intOf] <;> omega
        · obtain rfl : n1 = k := by omega
          have hkk : ¬ ((n1 : Int) < n1) := by omega
          have hRA := rays_own HQN.out (by rw [← HEND.out]; exact HM.out.row_ 0 rfl)
          have HM2 := hide HM.out.tail
          have hRB := RaysAtW.later HA.out HM.out.below
          clear HM HSN HEND H00 HSC
          have HM := HM2
          clear HM2
          have HRA := hide hRA
          have HRB := hide hRB
          clear hRA hRB
          go_upto_region 12 with fail
          have bd : Blk wr gs 83 #[.string s, .int .i64 x, .int .i64 y, .int .i64 z, .int .i64 r, .int .i64 g, .int .i64 st, .int .i64 wd] := HM.out.get 4 rfl
          have ltd := bd.lt
          have d0 := bd.c 0 rfl
          have d1 := bd.c 1 rfl
          have d2 := bd.c 2 rfl
          have d3 := bd.c 3 rfl
          have d4 := bd.c 4 rfl
          have d5 := bd.c 5 rfl
          have d6 := bd.c 6 rfl
          have d7 := bd.c 7 rfl
          have be : Blk wr gr 32 #[.int .i64 rlo, .int .i64 rhi] := HM.out.get 2 rfl
          have lte := be.lt
          have e0 := be.c 0 rfl
          have e1 := be.c 1 rfl
          go_wp2_with fail
          refine (HRING.out _ _ _ HRA.out).mono ?_
          rintro e w7 ⟨A1, c1, rfl, hb, ho⟩
          have hrb := HRB.out.later hb
          have hsa := sgts_own rfl ho
          have HM2 := hide (HM.out.later hb)
          clear HM HRA HRB HRING hb ho d0 d1 d2 d3 d4 d5 d6 d7 bd ltd e0 e1 be lte
          have HM := HM2
          clear HM2
          have HRB := hide hrb
          have HSA := hide hsa
          clear hrb hsa
          have bd : Blk w7 gs 83 #[.string s, .int .i64 x, .int .i64 y, .int .i64 z, .int .i64 r, .int .i64 g, .int .i64 st, .int .i64 wd] := HM.out.get 4 rfl
          have ltd := bd.lt
          have d0 := bd.c 0 rfl
          have d1 := bd.c 1 rfl
          have d2 := bd.c 2 rfl
          have d3 := bd.c 3 rfl
          have d4 := bd.c 4 rfl
          have d5 := bd.c 5 rfl
          have d6 := bd.c 6 rfl
          have d7 := bd.c 7 rfl
          have be : Blk w7 gr 32 #[.int .i64 rlo, .int .i64 rhi] := HM.out.get 2 rfl
          have lte := be.lt
          have e0 := be.c 0 rfl
          have e1 := be.c 1 rfl
          go_wp2_with fail
          refine (HRRING.out _ _ _ HRB.out).mono ?_
          rintro e w8 ⟨A2, c2, rfl, hb, ho⟩
          have hsb := rsgts_own rfl ho
          have hsa := HSA.out.later hb
          have HM2 := hide (HM.out.later hb)
          clear HM HRB HSA HRRING hb ho d0 d1 d2 d3 d4 d5 d6 d7 bd ltd e0 e1 be lte
          have HM := HM2
          clear HM2
          have HSB := hide hsb
          have HSA := hide hsa
          clear hsb hsa
          go_wp2_with fail
          refine (HSAME.out _ _ _ _ _ HSA.out HSB.out).mono ?_
          rintro e w9 ⟨rfl, hb⟩
          replace HM := hide (HM.out.later hb)
          clear hb
          clear HSA HSB HSAME
          go_wp2_with fail
          have HM2 := hide (HM.out.nilRow gs 104 13)
          clear HM
          have HM := HM2
          clear HM2
          go_loopw [27, 28] (fun o i wr => ∃ (k : Nat) (A' : Option Addr) (c' : Nat), k ≤ n2 ∧ i = .int .i64 k ∧ o = .slice A' k c' ∧ Mem w [.row gs 104 13 (.slice A' k c') k (K2 k), .blk gb 88 #[.int .i64 ax, .int .i64 ay, .int .i64 al, .int .i64 alo, .int .i64 ahi], .blk ga 71 #[.int .i64 ax, .int .i64 ay, .int .i64 al, .int .i64 alo, .int .i64 ahi], .blk gr 32 #[.int .i64 rlo, .int .i64 rhi], .blk gp 32 #[.int .i64 slo, .int .i64 shi], .blk gs 83 #[.string s, .int .i64 x, .int .i64 y, .int .i64 z, .int .i64 r, .int .i64 g, .int .i64 st, .int .i64 wd]] wr) (fun _ i _ => n2 - (intOf i).toNat)
          case atStart => exact ⟨0, none, 0, by omega, rfl, rfl, by rw [H20.out]; exact HM.out⟩
          case round =>
            obtain ⟨k, A', c', hk, rfl, rfl, hM⟩ := hrel
            clear HM
            have HM := hide hM
            clear hM
            by_cases hlt : k < n2
            · have hlt2 : (k : Int) < n2 := by omega
              obtain ⟨b, off, rfl, hb0, hc⟩ := HS2C.out (by omega)
              have hc1 := hc _ hlt
              have hs1 := HS2N.out k hlt
              obtain ⟨X, hX⟩ : ∃ X, S.getD k seen0 = X := ⟨_, rfl⟩
              rw [hX] at hc1 hs1
              rw [← HM.out.below.cell hb0, ← HM.out.below.cell hb0, ← HM.out.below.cell hb0, ← HM.out.below.cell hb0, ← HM.out.below.cell hb0, ← HM.out.below.cell hb0, ← HM.out.below.cell hb0, ← HM.out.below.cell hb0, ← HM.out.below.cell hb0, ← HM.out.below.cell hb0, ← HM.out.below.cell hb0, ← HM.out.below.cell hb0, ← HM.out.below.cell hb0] at hc1
              have ltb : b < wr.heap.size := Nat.lt_of_lt_of_le hb0 HM.out.size
              obtain ⟨q0, q1, q2, q3, q4, q5, q6, q7, q8, q9, q10, q11, q12⟩ := hc1
              obtain ⟨zs, zx, zy, zz, zr, zg, zst, zwd, zt, zsl, zsh, zrl, zrh⟩ := X
              unfold seenV at hs1
              simp only at q0 q1 q2 q3 q4 q5 q6 q7 q8 q9 q10 q11 q12 hs1
              generalize K2 k = xs at *
              obtain ⟨i0, hii, hz0, hz1, hz2⟩ := info_parts seenInfo
              have Hi := hide hii
              have Hz0 := hide hz0
              have Hz1 := hide hz1
              have Hz2 := hide hz2
              have HS1 := hide hs1
              clear hii hz0 hz1 hz2 hs1
              clear hc hX
              go_upto_region 20 with fail
              have hbaseM : gs ≤ wr.heap.size := by rw [← hg0]; exact HM.out.size
              have hownM := Mem.row_ HM.out 0 rfl
              
              go_wp2_with (at_builtin; refine wpList_append_own_at _ rfl (.tmp 133) (.tmp 138) _ rfl _ 104 i0 _ 13 112 Try.underlying102 Hi.out Hz0.out Hz1.out Hz2.out rfl (by decide) _ k xs rfl (hownM.alloc _) ⟨wr.heap.size, 0, none⟩ 1 1 [.string zs, .int .i64 zx, .int .i64 zy, .int .i64 zz, .int .i64 zr, .int .i64 zg, .int .i64 zst, .int .i64 zwd, .int .i64 zt, .int .i64 zsl, .int .i64 zsh, .int .i64 zrl, .int .i64 zrh] rfl rfl ?q4c1 (by intro u hu; simp only [List.mem_cons, List.not_mem_nil, or_false] at hu; rcases hu with rfl | rfl | rfl | rfl | rfl | rfl | rfl | rfl | rfl | rfl | rfl | rfl | rfl <;> rfl) ?q4c3 ?q4c4 ?q4c5 ?_)
              try case q4c1 => exact new_cellsQ wr _ [.string zs, .int .i64 zx, .int .i64 zy, .int .i64 zz, .int .i64 zr, .int .i64 zg, .int .i64 zst, .int .i64 zwd, .int .i64 zt, .int .i64 zsl, .int .i64 zsh, .int .i64 zrl, .int .i64 zrh]
              case q4c3 => unfold maxLen; omega
              case q4c4 => omega
              case q4c5 => first | omega | (simp; omega)
              intro vA w9 hown2 hgr2 _ hat2
              have HMn := HM.out.grow 0 rfl _ hgr2 hown2 hat2
              replace HM := hide HMn
              clear HMn hown2 hgr2 hat2 hownM hbaseM
              obtain ⟨A9, c9, rfl⟩ := own_shape2 (Mem.row_ HM.out 0 rfl)
              go_wp2_with fail
              go_roundw
              case rel => exact ⟨k + 1, A9, c9, by omega, by go_num, rfl, by rw [HS1.out]; exact HM.out⟩
              case measure => simp [intOf] <;> omega
            · obtain rfl : n2 = k := by omega
              have hkk : ¬ ((n2 : Int) < n2) := by omega
              have hRA := seens_own HSN2.out (by rw [← HEND2.out]; exact HM.out.row_ 0 rfl)
              have HM2 := hide HM.out.tail
              have hRB := SeensAt.later HB.out HM.out.below
              clear HM HS2N HEND2 H20 HS2C
              have HM := HM2
              clear HM2
              have HRA := hide hRA
              have HRB := hide hRB
              clear hRA hRB
              go_upto_region 21 with fail
              go_wp2_with fail
              refine (HPL.out _ _ _ HRA.out).mono ?_
              rintro e w11 ⟨A3, c3, rfl, hb, ho⟩
              have hrb := HRB.out.later hb
              have hsa := sgts_own rfl ho
              have HM2 := hide (HM.out.later hb)
              clear HM HRA HRB HPL hb ho
              have HM := HM2
              clear HM2
              have HRB := hide hrb
              have HSA := hide hsa
              clear hrb hsa
              go_wp2_with fail
              refine (HRPL.out _ _ _ HRB.out).mono ?_
              rintro e w12 ⟨A4, c4, rfl, hb, ho⟩
              have hsb := rsgts_own rfl ho
              have hsa := HSA.out.later hb
              have HM2 := hide (HM.out.later hb)
              clear HM HRB HSA HRPL hb ho
              have HM := HM2
              clear HM2
              have HSB := hide hsb
              have HSA := hide hsa
              clear hsb hsa
              go_wp2_with fail
              refine (HSAME2.out _ _ _ _ _ HSA.out HSB.out).mono ?_
              rintro e w13 ⟨rfl, hb⟩
              replace HM := hide (HM.out.later hb)
              clear hb
              clear HSA HSB HSAME2
              go_wp2_with fail
              refine (works_any _).mono ?_
              rintro e w14 ⟨rfl, hb⟩
              replace HM := hide (HM.out.later hb)
              clear hb
              go_wp2
              exact bodyPost_ret (v := .bool true) (by simp [results, Try.results10, go_sem]) rfl ⟨rfl, by first | exact HM.out.below | (rw [← hg0]; exact HM.out.below)⟩
    · clear h
      go_enter Try.func10, Try.ntmps10
      have HM := hide (Mem.start w)
      go_upto_region 1 with fail
      refine code_world fun w1 hW => ?_
      have HMn := Mem.to (Mem.allocAt (Mem.allocAt (Mem.allocAt HM.out w.heap.size rfl #[.string s, .int .i64 x, .int .i64 y, .int .i64 z, .int .i64 r, .int .i64 g, .int .i64 st, .int .i64 wd] 83) (w.heap.size + 1) (by simp) #[.int .i64 slo, .int .i64 shi] 32) (w.heap.size + 2) (by simp) #[.int .i64 rlo, .int .i64 rhi] 32) hW
      have LW : Later w w1 := by rw [hW]; exact ((((Below.refl _ _).alloc (Nat.le_refl _) _).alloc (by simp; try omega) _).alloc (by simp; try omega) _)
      have szW : w1.heap.size = w.heap.size + 3 := by rw [hW]; simp
      clear hW
      replace HM := hide HMn
      clear HMn LW
      clear szW
      generalize hg2 : w.heap.size + 2 = gr at HM ⊢
      generalize hg1 : w.heap.size + 1 = gp at HM ⊢
      generalize hg0 : w.heap.size = gs at HM ⊢
      go_upto_region 3 with fail
      have bd : Blk w1 gs 83 #[.string s, .int .i64 x, .int .i64 y, .int .i64 z, .int .i64 r, .int .i64 g, .int .i64 st, .int .i64 wd] := HM.out.get 2 rfl
      have ltd := bd.lt
      have d0 := bd.c 0 rfl
      have d1 := bd.c 1 rfl
      have d2 := bd.c 2 rfl
      have d3 := bd.c 3 rfl
      have d4 := bd.c 4 rfl
      have d5 := bd.c 5 rfl
      have d6 := bd.c 6 rfl
      have d7 := bd.c 7 rfl
      have ba : Blk w1 gp 32 #[.int .i64 slo, .int .i64 shi] := HM.out.get 1 rfl
      have lta := ba.lt
      have a0 := ba.c 0 rfl
      have a1 := ba.c 1 rfl
      have be : Blk w1 gr 32 #[.int .i64 rlo, .int .i64 rhi] := HM.out.get 0 rfl
      have lte := be.lt
      have e0 := be.c 0 rfl
      have e1 := be.c 1 rfl
      go_wp2_with fail
      refine (HLK.out _).mono ?_
      rintro e w2 ⟨rfl, hb⟩
      replace HM := hide (HM.out.later hb)
      clear hb bd ltd d0 d1 d2 d3 d4 d5 d6 d7 ba lta a0 a1 be lte e0 e1
      go_upto_region 4 with fail
      refine code_world fun w3 hW => ?_
      have HMn := Mem.to (Mem.allocAt HM.out w2.heap.size rfl #[.int .i64 ax, .int .i64 ay, .int .i64 al, .int .i64 alo, .int .i64 ahi] 71) hW
      have LW : Later w2 w3 := by rw [hW]; exact ((Below.refl _ _).alloc (Nat.le_refl _) _)
      have szW : w3.heap.size = w2.heap.size + 1 := by rw [hW]; simp
      clear hW
      replace HM := hide HMn
      clear HMn LW
      clear szW
      generalize hga : w2.heap.size = ga at HM ⊢
      clear hga
      have bd : Blk w3 gs 83 #[.string s, .int .i64 x, .int .i64 y, .int .i64 z, .int .i64 r, .int .i64 g, .int .i64 st, .int .i64 wd] := HM.out.get 3 rfl
      have ltd := bd.lt
      have d0 := bd.c 0 rfl
      have d1 := bd.c 1 rfl
      have d2 := bd.c 2 rfl
      have d3 := bd.c 3 rfl
      have d4 := bd.c 4 rfl
      have d5 := bd.c 5 rfl
      have d6 := bd.c 6 rfl
      have d7 := bd.c 7 rfl
      have ba : Blk w3 gp 32 #[.int .i64 slo, .int .i64 shi] := HM.out.get 2 rfl
      have lta := ba.lt
      have a0 := ba.c 0 rfl
      have a1 := ba.c 1 rfl
      have be : Blk w3 gr 32 #[.int .i64 rlo, .int .i64 rhi] := HM.out.get 1 rfl
      have lte := be.lt
      have e0 := be.c 0 rfl
      have e1 := be.c 1 rfl
      go_wp2_with fail
      refine (HRLK.out _).mono ?_
      rintro e w4 ⟨rfl, hb⟩
      replace HM := hide (HM.out.later hb)
      clear hb bd ltd d0 d1 d2 d3 d4 d5 d6 d7 ba lta a0 a1 be lte e0 e1
      go_upto_region 5 with fail
      refine code_world fun w5 hW => ?_
      have HMn := Mem.to (Mem.allocAt HM.out w4.heap.size rfl #[.int .i64 ax, .int .i64 ay, .int .i64 al, .int .i64 alo, .int .i64 ahi] 88) hW
      have LW : Later w4 w5 := by rw [hW]; exact ((Below.refl _ _).alloc (Nat.le_refl _) _)
      have szW : w5.heap.size = w4.heap.size + 1 := by rw [hW]; simp
      clear hW
      replace HM := hide HMn
      clear HMn LW
      clear szW
      generalize hgb : w4.heap.size = gb at HM ⊢
      clear hgb
      have bu : Blk w5 gb 88 #[.int .i64 ax, .int .i64 ay, .int .i64 al, .int .i64 alo, .int .i64 ahi] := HM.out.get 0 rfl
      have ltu := bu.lt
      have u0 := bu.c 0 rfl
      have u1 := bu.c 1 rfl
      have u2 := bu.c 2 rfl
      have u3 := bu.c 3 rfl
      have u4 := bu.c 4 rfl
      have bv : Blk w5 ga 71 #[.int .i64 ax, .int .i64 ay, .int .i64 al, .int .i64 alo, .int .i64 ahi] := HM.out.get 1 rfl
      have ltv := bv.lt
      have v0 := bv.c 0 rfl
      have v1 := bv.c 1 rfl
      have v2 := bv.c 2 rfl
      have v3 := bv.c 3 rfl
      have v4 := bv.c 4 rfl
      apply wp_region_L (w0 := w5) [[], [], [], [], [], [], [], [], [], [], [], [], [], [], []] [true, true, true, true, true, true, true, true, true, true, true, true, true, true, true] [] (fun ixq y => match ixq with  | _ => undef) (fun ixq x F wq => match ixq with  | _ => True) (fun a x => a) (by kernel_rfl) (by kernel_rfl) (fun _ => rfl) [84, 86] (by kernel_rfl)
      · intro x D hD
        have hne := hD.some
        have k0 := liftB hD u0 (by first | assumption | omega)
        have k1 := liftB hD u1 (by first | assumption | omega)
        have k2 := liftB hD u2 (by first | assumption | omega)
        have k3 := liftB hD u3 (by first | assumption | omega)
        have k4 := liftB hD u4 (by first | assumption | omega)
        have k5 := liftB hD v0 (by first | assumption | omega)
        have k6 := liftB hD v1 (by first | assumption | omega)
        have k7 := liftB hD v2 (by first | assumption | omega)
        have k8 := liftB hD v3 (by first | assumption | omega)
        have k9 := liftB hD v4 (by first | assumption | omega)
        simp only [takeOps, Act.put, List.setIfInBounds_toArray, List.set_cons_succ, List.set_cons_zero]
        repeat (go_big_quiet_step ((first | (go_at_call 43; with_reducible exact calls_later hD _ (HCK.out _)) | (go_at_call 44; with_reducible exact calls_later hD _ (HRC.out _)))))
        exact wpQuiet_nil rfl
      · intro d hd x x'
        simp only [List.mem_cons, List.not_mem_nil, or_false] at hd
        rcases hd with rfl | rfl
        all_goals rfl
      · exact trivial
      · exact trivial
      intro xx w6 F hL hlv3
      clear hlv3
      replace HM := hide (HM.out.later hL)
      clear hL bu ltu u0 u1 u2 u3 u4 bv ltv v0 v1 v2 v3 v4
      go_wp2_with fail
      have HM2 := hide (HM.out.nilRow gs 95 3)
      clear HM
      have HM := HM2
      clear HM2
      go_loopw [23, 24] (fun o i wr => ∃ (k : Nat) (A' : Option Addr) (c' : Nat), k ≤ n1 ∧ i = .int .i64 k ∧ o = .slice A' k c' ∧ Mem w [.row gs 95 3 (.slice A' k c') k (K1 k), .blk gb 88 #[.int .i64 ax, .int .i64 ay, .int .i64 al, .int .i64 alo, .int .i64 ahi], .blk ga 71 #[.int .i64 ax, .int .i64 ay, .int .i64 al, .int .i64 alo, .int .i64 ahi], .blk gr 32 #[.int .i64 rlo, .int .i64 rhi], .blk gp 32 #[.int .i64 slo, .int .i64 shi], .blk gs 83 #[.string s, .int .i64 x, .int .i64 y, .int .i64 z, .int .i64 r, .int .i64 g, .int .i64 st, .int .i64 wd]] wr) (fun _ i _ => n1 - (intOf i).toNat)
      case atStart => exact ⟨0, none, 0, by omega, rfl, rfl, by rw [H00.out]; exact HM.out⟩
      case round =>
        obtain ⟨k, A', c', hk, rfl, rfl, hM⟩ := hrel
        clear HM
        have HM := hide hM
        clear hM
        by_cases hlt : k < n1
        · have hlt2 : (k : Int) < n1 := by omega
          obtain ⟨b, off, rfl, hb0, hc⟩ := HSC.out (by omega)
          have hc1 := hc _ hlt
          have hs1 := HSN.out k hlt
          obtain ⟨X, hX⟩ : ∃ X, Q.getD k ray0 = X := ⟨_, rfl⟩
          rw [hX] at hc1 hs1
          rw [← HM.out.below.cell hb0, ← HM.out.below.cell hb0, ← HM.out.below.cell hb0] at hc1
          have ltb : b < wr.heap.size := Nat.lt_of_lt_of_le hb0 HM.out.size
          obtain ⟨q0, q1, q2⟩ := hc1
          obtain ⟨ra, tlo, thi⟩ := X
          unfold rayV at hs1
          simp only at q0 q1 q2 hs1
          generalize K1 k = xs at *
          obtain ⟨i0, hii, hz0, hz1, hz2⟩ := info_parts rayInfo
          have Hi := hide hii
          have Hz0 := hide hz0
          have Hz1 := hide hz1
          have Hz2 := hide hz2
          have HS1 := hide hs1
          clear hii hz0 hz1 hz2 hs1
          clear hc hX
          go_upto_region 11 with fail
          have hbaseM : gs ≤ wr.heap.size := by rw [← hg0]; exact HM.out.size
          have hownM := Mem.row_ HM.out 0 rfl
          
          go_wp2_with (at_builtin; refine wpList_append_own_at _ rfl (.tmp 95) (.tmp 100) _ rfl _ 95 i0 _ 3 24 Try.underlying93 Hi.out Hz0.out Hz1.out Hz2.out rfl (by decide) _ k xs rfl (hownM.alloc _) ⟨wr.heap.size, 0, none⟩ 1 1 [.int .i64 ra, .int .i64 tlo, .int .i64 thi] rfl rfl ?q5c1 (by intro u hu; simp only [List.mem_cons, List.not_mem_nil, or_false] at hu; rcases hu with rfl | rfl | rfl <;> rfl) ?q5c3 ?q5c4 ?q5c5 ?_)
          try case q5c1 => exact new_cellsQ wr _ [.int .i64 ra, .int .i64 tlo, .int .i64 thi]
          case q5c3 => unfold maxLen; omega
          case q5c4 => omega
          case q5c5 => first | omega | (simp; omega)
          intro vA w9 hown2 hgr2 _ hat2
          have HMn := HM.out.grow 0 rfl _ hgr2 hown2 hat2
          replace HM := hide HMn
          clear HMn hown2 hgr2 hat2 hownM hbaseM
          obtain ⟨A9, c9, rfl⟩ := own_shape2 (Mem.row_ HM.out 0 rfl)
          go_wp2_with fail
          go_roundw
          case rel => exact ⟨k + 1, A9, c9, by omega, by go_num, rfl, by rw [HS1.out]; exact HM.out⟩
          case measure => simp [intOf] <;> omega
        · obtain rfl : n1 = k := by omega
          have hkk : ¬ ((n1 : Int) < n1) := by omega
          have hRA := rays_own HQN.out (by rw [← HEND.out]; exact HM.out.row_ 0 rfl)
          have HM2 := hide HM.out.tail
          have hRB := RaysAtW.later HA.out HM.out.below
          clear HM HSN HEND H00 HSC
          have HM := HM2
          clear HM2
          have HRA := hide hRA
          have HRB := hide hRB
          clear hRA hRB
          go_upto_region 12 with fail
          have bd : Blk wr gs 83 #[.string s, .int .i64 x, .int .i64 y, .int .i64 z, .int .i64 r, .int .i64 g, .int .i64 st, .int .i64 wd] := HM.out.get 4 rfl
          have ltd := bd.lt
          have d0 := bd.c 0 rfl
          have d1 := bd.c 1 rfl
          have d2 := bd.c 2 rfl
          have d3 := bd.c 3 rfl
          have d4 := bd.c 4 rfl
          have d5 := bd.c 5 rfl
          have d6 := bd.c 6 rfl
          have d7 := bd.c 7 rfl
          have be : Blk wr gr 32 #[.int .i64 rlo, .int .i64 rhi] := HM.out.get 2 rfl
          have lte := be.lt
          have e0 := be.c 0 rfl
          have e1 := be.c 1 rfl
          go_wp2_with fail
          refine (HRING.out _ _ _ HRA.out).mono ?_
          rintro e w7 ⟨A1, c1, rfl, hb, ho⟩
          have hrb := HRB.out.later hb
          have hsa := sgts_own rfl ho
          have HM2 := hide (HM.out.later hb)
          clear HM HRA HRB HRING hb ho d0 d1 d2 d3 d4 d5 d6 d7 bd ltd e0 e1 be lte
          have HM := HM2
          clear HM2
          have HRB := hide hrb
          have HSA := hide hsa
          clear hrb hsa
          have bd : Blk w7 gs 83 #[.string s, .int .i64 x, .int .i64 y, .int .i64 z, .int .i64 r, .int .i64 g, .int .i64 st, .int .i64 wd] := HM.out.get 4 rfl
          have ltd := bd.lt
          have d0 := bd.c 0 rfl
          have d1 := bd.c 1 rfl
          have d2 := bd.c 2 rfl
          have d3 := bd.c 3 rfl
          have d4 := bd.c 4 rfl
          have d5 := bd.c 5 rfl
          have d6 := bd.c 6 rfl
          have d7 := bd.c 7 rfl
          have be : Blk w7 gr 32 #[.int .i64 rlo, .int .i64 rhi] := HM.out.get 2 rfl
          have lte := be.lt
          have e0 := be.c 0 rfl
          have e1 := be.c 1 rfl
          go_wp2_with fail
          refine (HRRING.out _ _ _ HRB.out).mono ?_
          rintro e w8 ⟨A2, c2, rfl, hb, ho⟩
          have hsb := rsgts_own rfl ho
          have hsa := HSA.out.later hb
          have HM2 := hide (HM.out.later hb)
          clear HM HRB HSA HRRING hb ho d0 d1 d2 d3 d4 d5 d6 d7 bd ltd e0 e1 be lte
          have HM := HM2
          clear HM2
          have HSB := hide hsb
          have HSA := hide hsa
          clear hsb hsa
          go_wp2_with fail
          refine (HSAME.out _ _ _ _ _ HSA.out HSB.out).mono ?_
          rintro e w9 ⟨rfl, hb⟩
          replace HM := hide (HM.out.later hb)
          clear hb
          clear HSA HSB HSAME
          go_wp2_with fail
          have HM2 := hide (HM.out.nilRow gs 104 13)
          clear HM
          have HM := HM2
          clear HM2
          go_loopw [27, 28] (fun o i wr => ∃ (k : Nat) (A' : Option Addr) (c' : Nat), k ≤ n2 ∧ i = .int .i64 k ∧ o = .slice A' k c' ∧ Mem w [.row gs 104 13 (.slice A' k c') k (K2 k), .blk gb 88 #[.int .i64 ax, .int .i64 ay, .int .i64 al, .int .i64 alo, .int .i64 ahi], .blk ga 71 #[.int .i64 ax, .int .i64 ay, .int .i64 al, .int .i64 alo, .int .i64 ahi], .blk gr 32 #[.int .i64 rlo, .int .i64 rhi], .blk gp 32 #[.int .i64 slo, .int .i64 shi], .blk gs 83 #[.string s, .int .i64 x, .int .i64 y, .int .i64 z, .int .i64 r, .int .i64 g, .int .i64 st, .int .i64 wd]] wr) (fun _ i _ => n2 - (intOf i).toNat)
          case atStart => exact ⟨0, none, 0, by omega, rfl, rfl, by rw [H20.out]; exact HM.out⟩
          case round =>
            obtain ⟨k, A', c', hk, rfl, rfl, hM⟩ := hrel
            clear HM
            have HM := hide hM
            clear hM
            by_cases hlt : k < n2
            · have hlt2 : (k : Int) < n2 := by omega
              obtain ⟨b, off, rfl, hb0, hc⟩ := HS2C.out (by omega)
              have hc1 := hc _ hlt
              have hs1 := HS2N.out k hlt
              obtain ⟨X, hX⟩ : ∃ X, S.getD k seen0 = X := ⟨_, rfl⟩
              rw [hX] at hc1 hs1
              rw [← HM.out.below.cell hb0, ← HM.out.below.cell hb0, ← HM.out.below.cell hb0, ← HM.out.below.cell hb0, ← HM.out.below.cell hb0, ← HM.out.below.cell hb0, ← HM.out.below.cell hb0, ← HM.out.below.cell hb0, ← HM.out.below.cell hb0, ← HM.out.below.cell hb0, ← HM.out.below.cell hb0, ← HM.out.below.cell hb0, ← HM.out.below.cell hb0] at hc1
              have ltb : b < wr.heap.size := Nat.lt_of_lt_of_le hb0 HM.out.size
              obtain ⟨q0, q1, q2, q3, q4, q5, q6, q7, q8, q9, q10, q11, q12⟩ := hc1
              obtain ⟨zs, zx, zy, zz, zr, zg, zst, zwd, zt, zsl, zsh, zrl, zrh⟩ := X
              unfold seenV at hs1
              simp only at q0 q1 q2 q3 q4 q5 q6 q7 q8 q9 q10 q11 q12 hs1
              generalize K2 k = xs at *
              obtain ⟨i0, hii, hz0, hz1, hz2⟩ := info_parts seenInfo
              have Hi := hide hii
              have Hz0 := hide hz0
              have Hz1 := hide hz1
              have Hz2 := hide hz2
              have HS1 := hide hs1
              clear hii hz0 hz1 hz2 hs1
              clear hc hX
              go_upto_region 20 with fail
              have hbaseM : gs ≤ wr.heap.size := by rw [← hg0]; exact HM.out.size
              have hownM := Mem.row_ HM.out 0 rfl
              
              go_wp2_with (at_builtin; refine wpList_append_own_at _ rfl (.tmp 133) (.tmp 138) _ rfl _ 104 i0 _ 13 112 Try.underlying102 Hi.out Hz0.out Hz1.out Hz2.out rfl (by decide) _ k xs rfl (hownM.alloc _) ⟨wr.heap.size, 0, none⟩ 1 1 [.string zs, .int .i64 zx, .int .i64 zy, .int .i64 zz, .int .i64 zr, .int .i64 zg, .int .i64 zst, .int .i64 zwd, .int .i64 zt, .int .i64 zsl, .int .i64 zsh, .int .i64 zrl, .int .i64 zrh] rfl rfl ?q6c1 (by intro u hu; simp only [List.mem_cons, List.not_mem_nil, or_false] at hu; rcases hu with rfl | rfl | rfl | rfl | rfl | rfl | rfl | rfl | rfl | rfl | rfl | rfl | rfl <;> rfl) ?q6c3 ?q6c4 ?q6c5 ?_)
              try case q6c1 => exact new_cellsQ wr _ [.string zs, .int .i64 zx, .int .i64 zy, .int .i64 zz, .int .i64 zr, .int .i64 zg, .int .i64 zst, .int .i64 zwd, .int .i64 zt, .int .i64 zsl, .int .i64 zsh, .int .i64 zrl, .int .i64 zrh]
              case q6c3 => unfold maxLen; omega
              case q6c4 => omega
              case q6c5 => first | omega | (simp; omega)
              intro vA w9 hown2 hgr2 _ hat2
              have HMn := HM.out.grow 0 rfl _ hgr2 hown2 hat2
              replace HM := hide HMn
              clear HMn hown2 hgr2 hat2 hownM hbaseM
              obtain ⟨A9, c9, rfl⟩ := own_shape2 (Mem.row_ HM.out 0 rfl)
              go_wp2_with fail
              go_roundw
              case rel => exact ⟨k + 1, A9, c9, by omega, by go_num, rfl, by rw [HS1.out]; exact HM.out⟩
              case measure => simp [intOf] <;> omega
            · obtain rfl : n2 = k := by omega
              have hkk : ¬ ((n2 : Int) < n2) := by omega
              have hRA := seens_own HSN2.out (by rw [← HEND2.out]; exact HM.out.row_ 0 rfl)
              have HM2 := hide HM.out.tail
              have hRB := SeensAt.later HB.out HM.out.below
              clear HM HS2N HEND2 H20 HS2C
              have HM := HM2
              clear HM2
              have HRA := hide hRA
              have HRB := hide hRB
              clear hRA hRB
              go_upto_region 21 with fail
              go_wp2_with fail
              refine (HPL.out _ _ _ HRA.out).mono ?_
              rintro e w11 ⟨A3, c3, rfl, hb, ho⟩
              have hrb := HRB.out.later hb
              have hsa := sgts_own rfl ho
              have HM2 := hide (HM.out.later hb)
              clear HM HRA HRB HPL hb ho
              have HM := HM2
              clear HM2
              have HRB := hide hrb
              have HSA := hide hsa
              clear hrb hsa
              go_wp2_with fail
              refine (HRPL.out _ _ _ HRB.out).mono ?_
              rintro e w12 ⟨A4, c4, rfl, hb, ho⟩
              have hsb := rsgts_own rfl ho
              have hsa := HSA.out.later hb
              have HM2 := hide (HM.out.later hb)
              clear HM HRB HSA HRPL hb ho
              have HM := HM2
              clear HM2
              have HSB := hide hsb
              have HSA := hide hsa
              clear hsb hsa
              go_wp2_with fail
              refine (HSAME2.out _ _ _ _ _ HSA.out HSB.out).mono ?_
              rintro e w13 ⟨rfl, hb⟩
              replace HM := hide (HM.out.later hb)
              clear hb
              clear HSA HSB HSAME2
              go_wp2_with fail
              refine (works_any _).mono ?_
              rintro e w14 ⟨rfl, hb⟩
              replace HM := hide (HM.out.later hb)
              clear hb
              go_wp2
              exact bodyPost_ret (v := .bool true) (by simp [results, Try.results10, go_sem]) rfl ⟨rfl, by first | exact HM.out.below | (rw [← hg0]; exact HM.out.below)⟩
end Go.Proofs.Ytllpffkifleigaa
