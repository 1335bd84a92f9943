/-
  Place, with its errors: the program's.
  Ring, with its errors: the document's.
  Place, with its errors: the document's.
  The law's same: two lists of sights that are alike.
  WindTruth: the two radars that see a place; plain words.
  WindTruth: rows of rays and of what is seen.
  Ring, with its errors: the program's.
  WindSights: what the walk needs.
-/
import Derived.Test.YtllpffkifleigaaWrMath
import Derived.Test.YtllpffkifleigaaWrLook
set_option linter.unusedSimpArgs false
set_option linter.unusedVariables false
section
namespace Go.Proofs.Ytllpffkifleigaa
open Go Go.RowKit

def seQ (q : SeenQ) : Int := siteE (nameB q.s) q.x q.y q.z q.r q.g q.st q.wd
def fdQ (X Y : Int) (q : SeenQ) : (Int × Int) × Int := findR (seQ q) q.t q.r q.st q.g q.x q.y X Y
def lkQ (X Y : Int) (q : SeenQ) : Int := lookE (seQ q) q.r q.t (fdQ X Y q).1.1 q.slo q.shi q.rlo q.rhi
def plE (X Y : Int) (q : SeenQ) : Int := if (fdQ X Y q).2 ≠ 0 then (fdQ X Y q).2 else lkQ X Y q
def plS (X Y : Int) (q : SeenQ) : Sgt := lookA (seQ q) q.r q.t (fdQ X Y q).1.1 q.slo q.shi q.rlo q.rhi
set_option maxHeartbeats 1000000 in
set_option maxRecDepth 100000 in
theorem placeG_any (A : Option Addr) (n c : Nat) (Q : List SeenQ) (X Y : Int) (w : World) (hn : Q.length = n) (hmax : n ≤ maxLen) (hsz : ∀ q ∈ Q, q.s.size ≤ 9223372036854775807) (hA : SeensAt w A Q) :
    Calls Try.prog 48 #[.slice A n c, .int .i64 X, .int .i64 Y] w fun e w' => ∃ A' c', e = .returned (.tuple #[.slice A' (placeL (plE X Y) (plS X Y) Q).length c', .int .i64 (placeE (plE X Y) Q)]) ∧ Below w.heap.size w w' ∧ w'.ownsRow w.heap.size 71 5 (.slice A' (placeL (plE X Y) (plS X Y) Q).length c') (placeL (plE X Y) (plS X Y) Q).length (sgsV (placeL (plE X Y) (plS X Y) Q)) := by
  have hF : ∀ k, k < n → ∀ W, Calls Try.prog 54 #[siteV (Q.getD k seen0).s (Q.getD k seen0).x (Q.getD k seen0).y (Q.getD k seen0).z (Q.getD k seen0).r (Q.getD k seen0).g (Q.getD k seen0).st (Q.getD k seen0).wd, .int .i64 (Q.getD k seen0).t, .int .i64 X, .int .i64 Y] W fun e w' => e = .returned (.tuple #[.int .i64 (fdQ X Y (Q.getD k seen0)).1.1, .int .i64 (fdQ X Y (Q.getD k seen0)).1.2, .int .i64 (fdQ X Y (Q.getD k seen0)).2]) ∧ Below W.heap.size W w' := fun k hk W => Find_any _ _ _ _ _ _ _ _ _ X Y W (hsz _ (getD_memE (d := seen0) (show k < Q.length by omega)))
  have hK : ∀ k, k < n → ∀ W, Calls Try.prog 41 #[siteV (Q.getD k seen0).s (Q.getD k seen0).x (Q.getD k seen0).y (Q.getD k seen0).z (Q.getD k seen0).r (Q.getD k seen0).g (Q.getD k seen0).st (Q.getD k seen0).wd, .int .i64 (Q.getD k seen0).t, .int .i64 (fdQ X Y (Q.getD k seen0)).1.1, .agg #[.int .i64 (Q.getD k seen0).slo, .int .i64 (Q.getD k seen0).shi], .agg #[.int .i64 (Q.getD k seen0).rlo, .int .i64 (Q.getD k seen0).rhi]] W fun e w' => e = .returned (.tuple #[sgC (plS X Y (Q.getD k seen0)), .int .i64 (lkQ X Y (Q.getD k seen0))]) ∧ Below W.heap.size W w' := fun k hk W => Look_any _ _ _ _ _ _ _ _ _ _ _ _ _ _ W (hsz _ (getD_memE (d := seen0) (show k < Q.length by omega)))
  have hm0 : (n : Int) ≤ 9223372036854775807 := by unfold maxLen at hmax; omega
  have hE : placeE (plE X Y) Q = if 360 < Q.length then 9 else bad1 (plE X Y) Q := rfl
  have hL : placeL (plE X Y) (plS X Y) Q = if placeE (plE X Y) Q = 0 then Q.map (plS X Y) else [] := rfl
  rw [hL]
  clear hL
  rw [hn] at hE
  by_cases h1 : 360 < n
  · rw [if_pos h1] at hE
    rw [hE, if_neg (by omega)]
    have h1' : (360 : Int) < n := by omega
    clear hF hK hA hn hE hsz
    go_enter Try.func48, Try.ntmps48
    have HM := hide (Mem.start w)
    go_wp2
    exact bodyPost_ret (v := .tuple #[.slice none 0 0, .int .i64 9]) (by simp [results, Try.results48, go_sem]) rfl ⟨none, 0, rfl, HM.out.below, (HM.out.nilRow w.heap.size 71 5).row_ 0 rfl⟩
  · rw [if_neg h1] at hE
    have h1' : ¬ (360 : Int) < n := by omega
    have hbad := fun k (hk : k < n) (ha : ∀ i, i < k → plE X Y (Q.getD i seen0) = 0) (hb : plE X Y (Q.getD k seen0) ≠ 0) => bad1_at (f := plE X Y) (l := Q) (d := seen0) (by omega) ha hb
    have hno := fun (ha : ∀ i, i < n → plE X Y (Q.getD i seen0) = 0) => bad1_no (f := plE X Y) (l := Q) (d := seen0) (fun i hi => ha i (by omega))
    have hsn : ∀ k, k < n → sgsV ((Q.take (k + 1)).map (plS X Y)) = sgsV ((Q.take k).map (plS X Y)) ++ sgsV [plS X Y (Q.getD k seen0)] := fun k hk => by rw [map_snocQ (d := seen0) (by omega), sgsV_app]
    have hend : sgsV ((Q.take n).map (plS X Y)) = sgsV (Q.map (plS X Y)) := by rw [← hn, List.take_length]
    have h00 : sgsV ((Q.take 0).map (plS X Y)) = [] := rfl
    have hfe : ∀ q, plE X Y q = if (fdQ X Y q).2 ≠ 0 then (fdQ X Y q).2 else lkQ X Y q := fun q => rfl
    obtain ⟨K, hK0⟩ : ∃ K : Nat → List Value, K = fun k => sgsV ((Q.take k).map (plS X Y)) := ⟨_, rfl⟩
    have hKe : ∀ k, sgsV ((Q.take k).map (plS X Y)) = K k := fun k => by rw [hK0]
    simp only [hKe] at hsn hend h00
    have hQl : Q.length = n := hn
    unfold siteV at hF hK
    have hsc := hA
    unfold SeensAt at hsc
    rw [hn] at hsc
    have hm2 : (n : Int) ≤ 360 := by omega
    rw [hE]
    obtain ⟨f, hf⟩ : ∃ f, plE X Y = f := ⟨_, rfl⟩
    rw [hf] at hbad hno hfe ⊢
    obtain ⟨ev, hev⟩ : ∃ e, bad1 f Q = e := ⟨_, rfl⟩
    rw [hev] at hno ⊢
    simp only [hev] at hbad
    obtain ⟨RL, hRL⟩ : ∃ L, (if ev = 0 then Q.map (plS X Y) else []) = L := ⟨_, rfl⟩
    rw [hRL]
    obtain ⟨i0, hii, hz0, hz1, hz2⟩ := info_parts sightInfo
    have Hi := hide hii
    have Hz0 := hide hz0
    have Hz1 := hide hz1
    have Hz2 := hide hz2
    have HF := hide hF
    have HK := hide hK
    have HSN := hide hsn
    have H00 := hide h00
    have HSC := hide hsc
    have HBAD := hide hbad
    have HNO := hide hno
    have HEND := hide hend
    have HQL := hide hQl
    have HRL := hide hRL
    have HFE := hide hfe
    clear hii hz0 hz1 hz2 hF hK hsn h00 hsc hbad hno hend hQl hRL hfe
    clear hKe hK0 hA hn hf hE hev hsz
    go_enter Try.func48, Try.ntmps48
    have HM := hide ((Mem.start w).nilRow w.heap.size 71 5)
    go_wp2_with fail
    go_loopw [8, 20] (fun o i wr => ∃ (k : Nat) (A' : Option Addr) (c' : Nat), k ≤ n ∧ i = .int .i64 k ∧ o = .slice A' k c' ∧ (∀ i, i < k → f (Q.getD i seen0) = 0) ∧ Mem w [.row w.heap.size 71 5 (.slice A' k c') k (K k)] wr) (fun _ i _ => n - (intOf i).toNat)
    case atStart => exact ⟨0, none, 0, by omega, rfl, rfl, fun i hi => absurd hi (Nat.not_lt_zero _), by rw [H00.out]; exact HM.out⟩
    case round =>
      obtain ⟨k, A', c', hk, rfl, rfl, hall, hM⟩ := hrel
      clear HM
      have HM := hide hM
      clear hM
      have HALL := hide hall
      clear hall
      by_cases hlt : k < n
      · have hlt2 : (k : Int) < n := by omega
        obtain ⟨b, off, rfl, hb0, hc⟩ := HSC.out (by omega)
        have hc1 := hc _ hlt
        have f1 := HF.out k hlt
        have c1 := HK.out k hlt
        have hs1 := HSN.out k hlt
        have hbk := HBAD.out k hlt HALL.out
        have hfk := HFE.out (Q.getD k seen0)
        have hnx : f (Q.getD k seen0) = 0 → ∀ i, i < k + 1 → f (Q.getD i seen0) = 0 := fun h i hi => by
          rcases Nat.lt_or_ge i k with h3 | h3
          · exact HALL.out i h3
          · rw [show i = k by omega]; exact h
        obtain ⟨fk, hfk2⟩ : ∃ z, f (Q.getD k seen0) = z := ⟨_, rfl⟩
        rw [hfk2] at hbk hnx hfk
        obtain ⟨V, hV⟩ : ∃ V, Q.getD k seen0 = V := ⟨_, rfl⟩
        rw [hV] at hc1 hs1 c1 f1 hfk
        rw [← HM.out.below.cell hb0, ← HM.out.below.cell hb0, ← HM.out.below.cell hb0, ← HM.out.below.cell hb0, ← HM.out.below.cell hb0, ← HM.out.below.cell hb0, ← HM.out.below.cell hb0, ← HM.out.below.cell hb0, ← HM.out.below.cell hb0, ← HM.out.below.cell hb0, ← HM.out.below.cell hb0, ← HM.out.below.cell hb0, ← HM.out.below.cell hb0] at hc1
        have ltb : b < wr.heap.size := Nat.lt_of_lt_of_le hb0 HM.out.size
        obtain ⟨q0, q1, q2, q3, q4, q5, q6, q7, q8, q9, q10, q11, q12⟩ := hc1
        obtain ⟨Z, hZ⟩ : ∃ Z, plS X Y V = Z := ⟨_, rfl⟩
        obtain ⟨FD, hFD⟩ : ∃ Z, fdQ X Y V = Z := ⟨_, rfl⟩
        obtain ⟨lk, hlk⟩ : ∃ Z, lkQ X Y V = Z := ⟨_, rfl⟩
        rw [hZ] at c1 hs1
        rw [hFD] at c1 f1 hfk
        rw [hlk] at c1 hfk
        obtain ⟨s, x, y, z, r, g, st, wd, t, slo, shi, rlo, rhi⟩ := V
        obtain ⟨sx, sy, sl, tlo, thi⟩ := Z
        obtain ⟨⟨rq, gq⟩, eq⟩ := FD
        unfold sgC at c1
        simp only at q0 q1 q2 q3 q4 q5 q6 q7 q8 q9 q10 q11 q12 c1 f1 hfk
        have hs2 : K (k + 1) = K k ++ [.int .i64 sx, .int .i64 sy, .int .i64 sl, .int .i64 tlo, .int .i64 thi] := hs1
        have C1 := hide c1
        have F1 := hide f1
        have HS2 := hide hs2
        have HBK := hide hbk
        have HNX := hide hnx
        have HFK := hide hfk
        clear c1 f1 hs2 hbk hnx hfk
        clear hc hV hZ hFD hlk hs1 hfk2
        go_upto_region 7 with fail
        refine code_world fun w4 hW => ?_
        have HMn := Mem.to (Mem.allocAt HM.out wr.heap.size rfl #[.string s, .int .i64 x, .int .i64 y, .int .i64 z, .int .i64 r, .int .i64 g, .int .i64 st, .int .i64 wd, .int .i64 t, .int .i64 slo, .int .i64 shi, .int .i64 rlo, .int .i64 rhi] 104) hW
        have LW : Later wr w4 := by rw [hW]; exact ((Below.refl _ _).alloc (Nat.le_refl _) _)
        have szW : w4.heap.size = wr.heap.size + 1 := by rw [hW]; simp
        clear hW
        replace HM := hide HMn
        clear HMn LW
        clear szW q0 q1 q2 q3 q4 q5 q6 q7 q8 q9 q10 q11 q12 ltb
        generalize hgx : wr.heap.size = gx at HM ⊢
        have bo : Blk w4 gx 104 #[.string s, .int .i64 x, .int .i64 y, .int .i64 z, .int .i64 r, .int .i64 g, .int .i64 st, .int .i64 wd, .int .i64 t, .int .i64 slo, .int .i64 shi, .int .i64 rlo, .int .i64 rhi] := HM.out.get 0 rfl
        have lto := bo.lt
        have o0 := bo.c 0 rfl
        have o1 := bo.c 1 rfl
        have o2 := bo.c 2 rfl
        have o3 := bo.c 3 rfl
        have o4 := bo.c 4 rfl
        have o5 := bo.c 5 rfl
        have o6 := bo.c 6 rfl
        have o7 := bo.c 7 rfl
        have o8 := bo.c 8 rfl
        have o9 := bo.c 9 rfl
        have o10 := bo.c 10 rfl
        have o11 := bo.c 11 rfl
        have o12 := bo.c 12 rfl
        go_wp2_with fail
        refine (F1.out _).mono ?_
        rintro e w5 ⟨rfl, hb⟩
        replace HM := hide (HM.out.later hb)
        clear hb bo lto o0 o1 o2 o3 o4 o5 o6 o7 o8 o9 o10 o11 o12
        by_cases he0 : eq = 0
        · subst he0
          have hfk := HFK.out
          rw [if_neg (by simp)] at hfk
          subst hfk
          clear HFK
          have bo : Blk w5 gx 104 #[.string s, .int .i64 x, .int .i64 y, .int .i64 z, .int .i64 r, .int .i64 g, .int .i64 st, .int .i64 wd, .int .i64 t, .int .i64 slo, .int .i64 shi, .int .i64 rlo, .int .i64 rhi] := HM.out.get 0 rfl
          have lto := bo.lt
          have o0 := bo.c 0 rfl
          have o1 := bo.c 1 rfl
          have o2 := bo.c 2 rfl
          have o3 := bo.c 3 rfl
          have o4 := bo.c 4 rfl
          have o5 := bo.c 5 rfl
          have o6 := bo.c 6 rfl
          have o7 := bo.c 7 rfl
          have o8 := bo.c 8 rfl
          have o9 := bo.c 9 rfl
          have o10 := bo.c 10 rfl
          have o11 := bo.c 11 rfl
          have o12 := bo.c 12 rfl
          go_wp2_with fail
          refine (C1.out _).mono ?_
          rintro e w6 ⟨rfl, hb⟩
          replace HM := hide (HM.out.later hb)
          clear hb bo lto o0 o1 o2 o3 o4 o5 o6 o7 o8 o9 o10 o11 o12
          go_upto_region 11 with fail
          refine code_world fun w7 hW => ?_
          have HMn := Mem.to (Mem.allocAt HM.out w6.heap.size rfl #[.int .i64 sx, .int .i64 sy, .int .i64 sl, .int .i64 tlo, .int .i64 thi] 71) hW
          have LW : Later w6 w7 := by rw [hW]; exact ((Below.refl _ _).alloc (Nat.le_refl _) _)
          have szW : w7.heap.size = w6.heap.size + 1 := by rw [hW]; simp
          clear hW
          replace HM := hide HMn
          clear HMn LW
          clear szW
          generalize hgz : w6.heap.size = gz at HM ⊢
          by_cases hf0 : fk = 0
          · subst hf0
            generalize K k = xs at *
            go_upto_region 13 with fail
            have bo : Blk w7 gz 71 #[.int .i64 sx, .int .i64 sy, .int .i64 sl, .int .i64 tlo, .int .i64 thi] := HM.out.get 0 rfl
            have lto := bo.lt
            have o0 := bo.c 0 rfl
            have o1 := bo.c 1 rfl
            have o2 := bo.c 2 rfl
            have o3 := bo.c 3 rfl
            have o4 := bo.c 4 rfl
            have hownM := Mem.row_ HM.out 2 rfl
            have hbaseM : w.heap.size ≤ w7.heap.size := HM.out.size
            go_wp2_with (at_builtin; refine wpList_append_own_at _ rfl (.tmp 54) (.tmp 56) _ rfl w.heap.size 71 i0 _ 5 40 Try.underlying25 Hi.out Hz0.out Hz1.out Hz2.out rfl (by decide) _ k xs rfl (hownM.alloc _) ⟨w7.heap.size, 0, none⟩ 1 1 [.int .i64 sx, .int .i64 sy, .int .i64 sl, .int .i64 tlo, .int .i64 thi] rfl rfl ?q1c1 (by intro u hu; simp only [List.mem_cons, List.not_mem_nil, or_false] at hu; rcases hu with rfl | rfl | rfl | rfl | rfl <;> rfl) ?q1c3 ?q1c4 ?q1c5 ?_)
            try case q1c1 => exact new_cellsQ w7 _ [.int .i64 sx, .int .i64 sy, .int .i64 sl, .int .i64 tlo, .int .i64 thi]
            case q1c3 => unfold maxLen; omega
            case q1c4 => omega
            case q1c5 => first | omega | (simp; omega)
            intro vA w9 hown2 hgr2 _ hat2
            have HMn := HM.out.grow 2 rfl _ hgr2 hown2 hat2
            replace HM := hide HMn
            clear HMn hown2 hgr2 hat2 hownM hbaseM
            clear bo lto o0 o1 o2 o3 o4
            obtain ⟨A9, c9, rfl⟩ := own_shape2 (Mem.row_ HM.out 2 rfl)
            go_wp2_with fail
            go_roundw
            case rel => exact ⟨k + 1, A9, c9, by omega, by go_num, rfl, HNX.out (by simp), by rw [HS2.out]; exact HM.out.tail.tail⟩
            case measure => simp [intOf] <;> omega
          · have hd : (fk != 0) = true := by simp [hf0]
            obtain rfl : ev = fk := HBK.out hf0
            obtain rfl : RL = [] := by rw [← HRL.out, if_neg hf0]
            go_wp2
            exact bodyPost_ret (v := .tuple #[.slice none 0 0, .int .i64 ev]) (by simp [results, Try.results48, go_sem]) rfl ⟨none, 0, rfl, HM.out.below, (HM.out.nilRow w.heap.size 71 5).row_ 0 rfl⟩
        · have hfk := HFK.out
          rw [if_pos he0] at hfk
          subst hfk
          have hd : (fk != 0) = true := by simp [he0]
          obtain rfl : ev = fk := HBK.out he0
          obtain rfl : RL = [] := by rw [← HRL.out, if_neg he0]
          go_wp2
          exact bodyPost_ret (v := .tuple #[.slice none 0 0, .int .i64 ev]) (by simp [results, Try.results48, go_sem]) rfl ⟨none, 0, rfl, HM.out.below, (HM.out.nilRow w.heap.size 71 5).row_ 0 rfl⟩
      · obtain rfl : k = n := by omega
        have hkk : ¬ ((k : Int) < k) := by omega
        obtain rfl : ev = 0 := HNO.out HALL.out
        obtain rfl : RL = Q.map (plS X Y) := by rw [← HRL.out, if_pos rfl]
        go_wp2
        exact bodyPost_ret (v := .tuple #[.slice A' k c', .int .i64 0]) (by simp [results, Try.results48, go_sem]) rfl ⟨A', c', by rw [HQL.out], HM.out.below, by rw [HQL.out, ← HEND.out]; exact HM.out.row_ 0 rfl⟩
end Go.Proofs.Ytllpffkifleigaa
end
section
namespace Go.Proofs.Ytllpffkifleigaa
open Go Go.RowKit

theorem rsightInfo : (Try.prog.info? 88).map (fun i => (i.zero, i.size, i.bytes)) = some (some (.agg #[.int .i64 0, .int .i64 0, .int .i64 0, .int .i64 0, .int .i64 0]), 5, 40) := by kernel_rfl
set_option maxHeartbeats 1000000 in
set_option maxRecDepth 100000 in
theorem rringG_any (A : Option Addr) (n c : Nat) (Q : List RayQ) (s : ByteArray) (x y z r g st wd t rlo rhi : Int) (w : World) (hn : Q.length = n) (hmax : n ≤ maxLen) (hs : s.size ≤ 9223372036854775807) (hA : RaysAtW w A Q) (se ge : Int) (f : RayQ → Int) (hse : siteE (nameB s) x y z r g st wd = se) (hge : gateE se t rlo rhi = ge) (hf : ∀ q, lookE se r t q.a q.lo q.hi rlo rhi = f q) :
    Calls Try.prog 46 #[siteV s x y z r g st wd, .int .i64 t, .slice A n c, .agg #[.int .i64 rlo, .int .i64 rhi]] w fun e w' => ∃ A' c', e = .returned (.tuple #[.slice A' (ringL se ge f (ringS r t rlo rhi) Q).length c', .int .i64 (ringE se ge f Q)]) ∧ Below w.heap.size w w' ∧ w'.ownsRow w.heap.size 88 5 (.slice A' (ringL se ge f (ringS r t rlo rhi) Q).length c') (ringL se ge f (ringS r t rlo rhi) Q).length (sgsV (ringL se ge f (ringS r t rlo rhi) Q)) := by
  have hC := fun W => RefCheckSite_any s x y z r g st wd W hs
  have hG := fun W => rgate_any s x y z r g st wd t rlo rhi W hs
  have hK := fun k (W : World) => rlook_any s x y z r g st wd t (Q.getD k ray0).a (Q.getD k ray0).lo (Q.getD k ray0).hi rlo rhi W hs
  unfold siteV at hC
  rw [hse] at hC
  rw [hse, hge] at hG
  simp only [hse, hf] at hK
  have hlA : ∀ q, lookA se r t q.a q.lo q.hi rlo rhi = if f q = 0 then ringS r t rlo rhi q else sg0 := fun q => by unfold lookA; rw [hf]; rfl
  simp only [hlA] at hK
  have hm0 : (n : Int) ≤ 9223372036854775807 := by unfold maxLen at hmax; omega
  have hE : ringE se ge f Q = if se ≠ 0 then se else if 360 < Q.length then 9 else if ge ≠ 0 then ge else bad1 f Q := rfl
  have hL : ringL se ge f (ringS r t rlo rhi) Q = if ringE se ge f Q = 0 then Q.map (ringS r t rlo rhi) else [] := rfl
  rw [hL]
  clear hL
  unfold siteV at hG
  unfold siteV
  by_cases h0 : se = 0
  · subst h0
    rw [if_neg (by simp), hn] at hE
    by_cases h1 : 360 < n
    · rw [if_pos h1] at hE
      rw [hE, if_neg (by omega)]
      have h1' : (360 : Int) < n := by omega
      have HC := hide hC
      clear hC
      clear hG hK hlA hA hn hf hE hse hge
      go_enter Try.func46, Try.ntmps46
      have HM := hide (Mem.start w)
      go_upto_region 1 with fail
      refine code_world fun w1 hW => ?_
      have HMn := Mem.to (Mem.allocAt (Mem.allocAt HM.out w.heap.size rfl #[.string s, .int .i64 x, .int .i64 y, .int .i64 z, .int .i64 r, .int .i64 g, .int .i64 st, .int .i64 wd] 83) (w.heap.size + 1) (by simp) #[.int .i64 rlo, .int .i64 rhi] 32) hW
      have LW : Later w w1 := by rw [hW]; exact (((Below.refl _ _).alloc (Nat.le_refl _) _).alloc (by simp; try omega) _)
      have szW : w1.heap.size = w.heap.size + 2 := by rw [hW]; simp
      clear hW
      replace HM := hide HMn
      clear HMn LW
      clear szW
      generalize hg1 : w.heap.size + 1 = gr at HM ⊢
      generalize hg0 : w.heap.size = gs at HM ⊢
      have bd : Blk w1 gs 83 #[.string s, .int .i64 x, .int .i64 y, .int .i64 z, .int .i64 r, .int .i64 g, .int .i64 st, .int .i64 wd] := HM.out.get 1 rfl
      have ltd := bd.lt
      have d0 := bd.c 0 rfl
      have d1 := bd.c 1 rfl
      have d2 := bd.c 2 rfl
      have d3 := bd.c 3 rfl
      have d4 := bd.c 4 rfl
      have d5 := bd.c 5 rfl
      have d6 := bd.c 6 rfl
      have d7 := bd.c 7 rfl
      go_wp2_with fail
      refine (HC.out _).mono ?_
      rintro e w2 ⟨rfl, hb⟩
      replace HM := hide (HM.out.later hb)
      clear hb bd ltd d0 d1 d2 d3 d4 d5 d6 d7
      go_wp2
      exact bodyPost_ret (v := .tuple #[.slice none 0 0, .int .i64 9]) (by simp [results, Try.results46, go_sem]) rfl ⟨none, 0, rfl, by first | exact HM.out.below | (rw [← hg0]; exact HM.out.below), by first | exact (HM.out.nilRow gs 88 5).row_ 0 rfl | exact (HM.out.nilRow w.heap.size 88 5).row_ 0 rfl⟩
    · rw [if_neg h1] at hE
      have h1' : ¬ (360 : Int) < n := by omega
      by_cases h2 : ge = 0
      · subst h2
        rw [if_neg (by simp)] at hE
        have hbad := fun k (hk : k < n) (ha : ∀ i, i < k → f (Q.getD i ray0) = 0) (hb : f (Q.getD k ray0) ≠ 0) => bad1_at (f := f) (l := Q) (d := ray0) (by omega) ha hb
        have hno := fun (ha : ∀ i, i < n → f (Q.getD i ray0) = 0) => bad1_no (f := f) (l := Q) (d := ray0) (fun i hi => ha i (by omega))
        have hsn : ∀ k, k < n → sgsV ((Q.take (k + 1)).map (ringS r t rlo rhi)) = sgsV ((Q.take k).map (ringS r t rlo rhi)) ++ sgsV [ringS r t rlo rhi (Q.getD k ray0)] := fun k hk => by rw [map_snocQ (d := ray0) (by omega), sgsV_app]
        have hend : sgsV ((Q.take n).map (ringS r t rlo rhi)) = sgsV (Q.map (ringS r t rlo rhi)) := by rw [← hn, List.take_length]
        have h00 : sgsV ((Q.take 0).map (ringS r t rlo rhi)) = [] := rfl
        obtain ⟨K, hK0⟩ : ∃ K : Nat → List Value, K = fun k => sgsV ((Q.take k).map (ringS r t rlo rhi)) := ⟨_, rfl⟩
        have hKe : ∀ k, sgsV ((Q.take k).map (ringS r t rlo rhi)) = K k := fun k => by rw [hK0]
        simp only [hKe] at hsn hend h00
        have hQl : Q.length = n := hn
        unfold siteV at hK
        have hsc := hA
        unfold RaysAtW at hsc
        rw [hn] at hsc
        have hm2 : (n : Int) ≤ 360 := by omega
        rw [hE]
        obtain ⟨ev, hev⟩ : ∃ e, bad1 f Q = e := ⟨_, rfl⟩
        rw [hev] at hno ⊢
        simp only [hev] at hbad
        obtain ⟨RL, hRL⟩ : ∃ L, (if ev = 0 then Q.map (ringS r t rlo rhi) else []) = L := ⟨_, rfl⟩
        rw [hRL]
        obtain ⟨i0, hii, hz0, hz1, hz2⟩ := info_parts rsightInfo
        have Hi := hide hii
        have Hz0 := hide hz0
        have Hz1 := hide hz1
        have Hz2 := hide hz2
        have HC := hide hC
        have HG := hide hG
        have HK := hide hK
        have HSN := hide hsn
        have H00 := hide h00
        have HSC := hide hsc
        have HBAD := hide hbad
        have HNO := hide hno
        have HEND := hide hend
        have HQL := hide hQl
        have HRL := hide hRL
        clear hii hz0 hz1 hz2 hC hG hK hsn h00 hsc hbad hno hend hQl hRL
        clear hlA hKe hK0 hA hn hf hE hse hge hev
        go_enter Try.func46, Try.ntmps46
        have HM := hide (Mem.start w)
        go_upto_region 1 with fail
        refine code_world fun w1 hW => ?_
        have HMn := Mem.to (Mem.allocAt (Mem.allocAt HM.out w.heap.size rfl #[.string s, .int .i64 x, .int .i64 y, .int .i64 z, .int .i64 r, .int .i64 g, .int .i64 st, .int .i64 wd] 83) (w.heap.size + 1) (by simp) #[.int .i64 rlo, .int .i64 rhi] 32) hW
        have LW : Later w w1 := by rw [hW]; exact (((Below.refl _ _).alloc (Nat.le_refl _) _).alloc (by simp; try omega) _)
        have szW : w1.heap.size = w.heap.size + 2 := by rw [hW]; simp
        clear hW
        replace HM := hide HMn
        clear HMn LW
        clear szW
        generalize hg1 : w.heap.size + 1 = gr at HM ⊢
        generalize hg0 : w.heap.size = gs at HM ⊢
        have bd : Blk w1 gs 83 #[.string s, .int .i64 x, .int .i64 y, .int .i64 z, .int .i64 r, .int .i64 g, .int .i64 st, .int .i64 wd] := HM.out.get 1 rfl
        have ltd := bd.lt
        have d0 := bd.c 0 rfl
        have d1 := bd.c 1 rfl
        have d2 := bd.c 2 rfl
        have d3 := bd.c 3 rfl
        have d4 := bd.c 4 rfl
        have d5 := bd.c 5 rfl
        have d6 := bd.c 6 rfl
        have d7 := bd.c 7 rfl
        go_wp2_with fail
        refine (HC.out _).mono ?_
        rintro e w2 ⟨rfl, hb⟩
        replace HM := hide (HM.out.later hb)
        clear hb bd ltd d0 d1 d2 d3 d4 d5 d6 d7
        have bd : Blk w2 gs 83 #[.string s, .int .i64 x, .int .i64 y, .int .i64 z, .int .i64 r, .int .i64 g, .int .i64 st, .int .i64 wd] := HM.out.get 1 rfl
        have ltd := bd.lt
        have d0 := bd.c 0 rfl
        have d1 := bd.c 1 rfl
        have d2 := bd.c 2 rfl
        have d3 := bd.c 3 rfl
        have d4 := bd.c 4 rfl
        have d5 := bd.c 5 rfl
        have d6 := bd.c 6 rfl
        have d7 := bd.c 7 rfl
        have be : Blk w2 gr 32 #[.int .i64 rlo, .int .i64 rhi] := HM.out.get 0 rfl
        have lte := be.lt
        have e0 := be.c 0 rfl
        have e1 := be.c 1 rfl
        go_wp2_with fail
        refine (HG.out _).mono ?_
        rintro e w3 ⟨rfl, hb⟩
        replace HM := hide (HM.out.later hb)
        clear hb bd ltd d0 d1 d2 d3 d4 d5 d6 d7 be lte e0 e1
        go_wp2_with fail
        have HM2 := hide (HM.out.nilRow gs 88 5)
        clear HM
        have HM := HM2
        clear HM2
        go_loopw [11, 12] (fun o i wr => ∃ (k : Nat) (A' : Option Addr) (c' : Nat), k ≤ n ∧ i = .int .i64 k ∧ o = .slice A' k c' ∧ (∀ i, i < k → f (Q.getD i ray0) = 0) ∧ Mem w [.row gs 88 5 (.slice A' k c') k (K k), .blk gr 32 #[.int .i64 rlo, .int .i64 rhi], .blk gs 83 #[.string s, .int .i64 x, .int .i64 y, .int .i64 z, .int .i64 r, .int .i64 g, .int .i64 st, .int .i64 wd]] wr) (fun _ i _ => n - (intOf i).toNat)
        case atStart => exact ⟨0, none, 0, by omega, rfl, rfl, fun i hi => absurd hi (Nat.not_lt_zero _), by rw [H00.out]; exact HM.out⟩
        case round =>
          obtain ⟨k, A', c', hk, rfl, rfl, hall, hM⟩ := hrel
          clear HM
          have HM := hide hM
          clear hM
          have HALL := hide hall
          clear hall
          by_cases hlt : k < n
          · have hlt2 : (k : Int) < n := by omega
            obtain ⟨b, off, rfl, hb0, hc⟩ := HSC.out (by omega)
            have hc1 := hc _ hlt
            have c1 := HK.out k
            have hs1 := HSN.out k hlt
            have hbk := HBAD.out k hlt HALL.out
            have hnx : f (Q.getD k ray0) = 0 → ∀ i, i < k + 1 → f (Q.getD i ray0) = 0 := fun h i hi => by
              rcases Nat.lt_or_ge i k with h3 | h3
              · exact HALL.out i h3
              · rw [show i = k by omega]; exact h
            obtain ⟨fk, hfk⟩ : ∃ z, f (Q.getD k ray0) = z := ⟨_, rfl⟩
            rw [hfk] at hbk hnx
            simp only [hfk] at c1
            obtain ⟨X, hX⟩ : ∃ X, Q.getD k ray0 = X := ⟨_, rfl⟩
            simp only [hX] at c1
            rw [hX] at hc1 hs1
            rw [← HM.out.below.cell hb0, ← HM.out.below.cell hb0, ← HM.out.below.cell hb0] at hc1
            have ltb : b < wr.heap.size := Nat.lt_of_lt_of_le hb0 HM.out.size
            obtain ⟨q0, q1, q2⟩ := hc1
            obtain ⟨Y, hY⟩ : ∃ Y, (if fk = 0 then ringS r t rlo rhi X else sg0) = Y := ⟨_, rfl⟩
            simp only [hY] at c1
            obtain ⟨ra, slo, shi⟩ := X
            obtain ⟨sx, sy, sl, tlo, thi⟩ := Y
            unfold sgC at c1
            simp only at q0 q1 q2 c1
            have C1 := hide c1
            have HBK := hide hbk
            have HNX := hide hnx
            have HS1 := hide hs1
            have HYY := hide hY
            clear c1 hbk hnx hs1 hY
            clear hc hX hfk
            go_upto_region 13 with fail
            have be : Blk wr gr 32 #[.int .i64 rlo, .int .i64 rhi] := HM.out.get 1 rfl
            have lte := be.lt
            have e0 := be.c 0 rfl
            have e1 := be.c 1 rfl
            have bd : Blk wr gs 83 #[.string s, .int .i64 x, .int .i64 y, .int .i64 z, .int .i64 r, .int .i64 g, .int .i64 st, .int .i64 wd] := HM.out.get 2 rfl
            have ltd := bd.lt
            have d0 := bd.c 0 rfl
            have d1 := bd.c 1 rfl
            have d2 := bd.c 2 rfl
            have d3 := bd.c 3 rfl
            have d4 := bd.c 4 rfl
            have d5 := bd.c 5 rfl
            have d6 := bd.c 6 rfl
            have d7 := bd.c 7 rfl
            apply wp_region_L (w0 := wr) [[], [], [], [], [], [], [], [], [], [], [], [], [], [], [], [], [], [], [17], [17, 18]] [true, true, true, true, true, true, true, true, true, true, true, true, true, true, true, true, true, false, false, true] [⟨17, none, [], []⟩, ⟨18, some 17, [17], [17]⟩] (fun ixq y => match ixq with | 17 => .pointer (y 0).1 | 18 => undef | _ => undef) (fun ixq x F wq => match ixq with | 17 => PtrF wq F wr.heap.size (x 17 0).1 88 #[.int .i64 0, .int .i64 0, .int .i64 0, .int .i64 0, .int .i64 0] | 18 => PtrF wq F wr.heap.size (x 17 0).1 88 #[.int .i64 sx, .int .i64 sy, .int .i64 sl, .int .i64 tlo, .int .i64 thi] | _ => True) (fun a x => ((a).put (some 13) (.pointer ((x 17) 0).1)).put (none) (undef)) (by kernel_rfl) (by kernel_rfl) (fun x => putH_step (some 13) (.pointer ((x 17) 0).1) rfl rfl <| putH_step (none) (undef) rfl rfl <| putH_end) [50] (by kernel_rfl)
            · intro x D hD
              have hne := hD.some
              have k0 := liftB hD d0 (by first | assumption | omega)
              have k1 := liftB hD d1 (by first | assumption | omega)
              have k2 := liftB hD d2 (by first | assumption | omega)
              have k3 := liftB hD d3 (by first | assumption | omega)
              have k4 := liftB hD d4 (by first | assumption | omega)
              have k5 := liftB hD d5 (by first | assumption | omega)
              have k6 := liftB hD d6 (by first | assumption | omega)
              have k7 := liftB hD d7 (by first | assumption | omega)
              have k8 := liftB hD q0 (by first | assumption | omega)
              have k9 := liftB hD q1 (by first | assumption | omega)
              have k10 := liftB hD q2 (by first | assumption | omega)
              have k11 := liftB hD e0 (by first | assumption | omega)
              have k12 := liftB hD e1 (by first | assumption | omega)
              simp only [takeOps, Act.put, List.setIfInBounds_toArray, List.set_cons_succ, List.set_cons_zero]
              repeat (go_big_quiet_step ((go_at_call 42; with_reducible exact calls_later hD _ (C1.out _))))
              exact wpQuiet_nil rfl
            · intro d hd x x'
              simp only [List.mem_cons, List.not_mem_nil, or_false] at hd
              rcases hd with rfl
              all_goals rfl
            · refine ⟨?_, ?_, trivial⟩
              · exact obl_alloc 88 13 (.agg #[.int .i64 0, .int .i64 0, .int .i64 0, .int .i64 0, .int .i64 0]) (by kernel_rfl) (by kernel_rfl) (fun _ => rfl) (fun _ _ _ h => h)
              · refine obl_store 88 13 51 17 #[.int .i64 0, .int .i64 0, .int .i64 0, .int .i64 0, .int .i64 0] (fun x => #[.int .i64 sx, .int .i64 sy, .int .i64 sl, .int .i64 tlo, .int .i64 thi]) (by kernel_rfl) rfl (by simp) (fun _ _ _ h => h) (fun _ => rfl) (fun _ => rfl) (fun _ => by kernel_rfl) (fun _ => rfl) (fun _ => by simp [Value.oneCell']) (fun _ => rfl) (by decide) (fun _ _ _ _ h => h)
            · refine ⟨?_, ?_, trivial⟩
              · exact owe_ptr 17 _ _ (fun x => #[.int .i64 0, .int .i64 0, .int .i64 0, .int .i64 0, .int .i64 0]) (fun _ _ _ => rfl) (by simp) (fun _ _ _ => rfl)
              · exact owe_ptr 17 _ _ (fun x => #[.int .i64 sx, .int .i64 sy, .int .i64 sl, .int .i64 tlo, .int .i64 thi]) (fun _ _ _ => rfl) (by simp) (fun _ _ _ => rfl)
            intro xx w6 F hL hlv1
            obtain ⟨-, fct18, -⟩ := hlv1
            replace fct18 : PtrF w6 (F 18) wr.heap.size (xx 17 0).1 88 #[.int .i64 sx, .int .i64 sy, .int .i64 sl, .int .i64 tlo, .int .i64 thi] := fct18 rfl
            replace HM := hide (HM.out.later hL)
            clear hL be lte e0 e1 bd ltd d0 d1 d2 d3 d4 d5 d6 d7
            obtain ⟨gz, hgz, -, -, hbz⟩ := fct18
            rw [hgz]
            clear hgz q0 q1 q2 ltb
            have Hbz := hide hbz
            clear hbz
            by_cases hf0 : fk = 0
            · subst hf0
              have hyy := HYY.out
              rw [if_pos rfl] at hyy
              have hs2 := HS1.out
              rw [hyy] at hs2
              have hs3 : K (k + 1) = K k ++ [.int .i64 sx, .int .i64 sy, .int .i64 sl, .int .i64 tlo, .int .i64 thi] := hs2
              clear hyy hs2 HYY HS1 HBK
              generalize K k = xs at *
              have HS2 := hide hs3
              clear hs3
              go_upto_region 16 with fail
              have o0 := Hbz.out.c 0 rfl
              have o1 := Hbz.out.c 1 rfl
              have o2 := Hbz.out.c 2 rfl
              have o3 := Hbz.out.c 3 rfl
              have o4 := Hbz.out.c 4 rfl
              have lto := Hbz.out.lt
              have hbaseM : gs ≤ w6.heap.size := by rw [← hg0]; exact HM.out.size
              have hownM := Mem.row_ HM.out 0 rfl
              
              go_wp2_with (at_builtin; refine wpList_append_own_at _ rfl (.tmp 56) (.tmp 58) _ rfl _ 88 i0 _ 5 40 Try.underlying22 Hi.out Hz0.out Hz1.out Hz2.out rfl (by decide) _ k xs rfl (hownM.alloc _) ⟨w6.heap.size, 0, none⟩ 1 1 [.int .i64 sx, .int .i64 sy, .int .i64 sl, .int .i64 tlo, .int .i64 thi] rfl rfl ?q1c1 (by intro u hu; simp only [List.mem_cons, List.not_mem_nil, or_false] at hu; rcases hu with rfl | rfl | rfl | rfl | rfl <;> rfl) ?q1c3 ?q1c4 ?q1c5 ?_)
              try case q1c1 => exact new_cellsQ w6 _ [.int .i64 sx, .int .i64 sy, .int .i64 sl, .int .i64 tlo, .int .i64 thi]
              case q1c3 => unfold maxLen; omega
              case q1c4 => omega
              case q1c5 => first | omega | (simp; omega)
              intro vA w9 hown2 hgr2 _ hat2
              have HMn := HM.out.grow 0 rfl _ hgr2 hown2 hat2
              replace HM := hide HMn
              clear HMn hown2 hgr2 hat2 hownM hbaseM
              obtain ⟨A9, c9, rfl⟩ := own_shape2 (Mem.row_ HM.out 0 rfl)
              go_wp2_with fail
              go_roundw
              case rel => exact ⟨k + 1, A9, c9, by omega, by go_num, rfl, HNX.out (by simp), by rw [HS2.out]; exact HM.out⟩
              case measure => simp [intOf] <;> omega
            · have hd : (fk != 0) = true := by simp [hf0]
              obtain rfl : ev = fk := HBK.out hf0
              obtain rfl : RL = [] := by rw [← HRL.out, if_neg hf0]
              go_wp2
              exact bodyPost_ret (v := .tuple #[.slice none 0 0, .int .i64 ev]) (by simp [results, Try.results46, go_sem]) rfl ⟨none, 0, rfl, by first | exact HM.out.below | (rw [← hg0]; exact HM.out.below), by first | exact (HM.out.nilRow gs 88 5).row_ 0 rfl | exact (HM.out.nilRow w.heap.size 88 5).row_ 0 rfl⟩
          · obtain rfl : k = n := by omega
            have hkk : ¬ ((k : Int) < k) := by omega
            obtain rfl : ev = 0 := HNO.out HALL.out
            obtain rfl : RL = Q.map (ringS r t rlo rhi) := by rw [← HRL.out, if_pos rfl]
            go_wp2
            exact bodyPost_ret (v := .tuple #[.slice A' k c', .int .i64 0]) (by simp [results, Try.results46, go_sem]) rfl ⟨A', c', by rw [HQL.out], by first | exact HM.out.below | (rw [← hg0]; exact HM.out.below), by rw [HQL.out, ← HEND.out]; first | exact HM.out.row_ 0 rfl | (rw [hg0]; exact HM.out.row_ 0 rfl)⟩
      · rw [if_pos h2] at hE
        rw [hE, if_neg h2]
        have hd : (ge != 0) = true := by simp [h2]
        have HC := hide hC
        have HG := hide hG
        clear hC hG
        clear hK hlA hA hn hf hE hse hge
        go_enter Try.func46, Try.ntmps46
        have HM := hide (Mem.start w)
        go_upto_region 1 with fail
        refine code_world fun w1 hW => ?_
        have HMn := Mem.to (Mem.allocAt (Mem.allocAt HM.out w.heap.size rfl #[.string s, .int .i64 x, .int .i64 y, .int .i64 z, .int .i64 r, .int .i64 g, .int .i64 st, .int .i64 wd] 83) (w.heap.size + 1) (by simp) #[.int .i64 rlo, .int .i64 rhi] 32) hW
        have LW : Later w w1 := by rw [hW]; exact (((Below.refl _ _).alloc (Nat.le_refl _) _).alloc (by simp; try omega) _)
        have szW : w1.heap.size = w.heap.size + 2 := by rw [hW]; simp
        clear hW
        replace HM := hide HMn
        clear HMn LW
        clear szW
        generalize hg1 : w.heap.size + 1 = gr at HM ⊢
        generalize hg0 : w.heap.size = gs at HM ⊢
        have bd : Blk w1 gs 83 #[.string s, .int .i64 x, .int .i64 y, .int .i64 z, .int .i64 r, .int .i64 g, .int .i64 st, .int .i64 wd] := HM.out.get 1 rfl
        have ltd := bd.lt
        have d0 := bd.c 0 rfl
        have d1 := bd.c 1 rfl
        have d2 := bd.c 2 rfl
        have d3 := bd.c 3 rfl
        have d4 := bd.c 4 rfl
        have d5 := bd.c 5 rfl
        have d6 := bd.c 6 rfl
        have d7 := bd.c 7 rfl
        go_wp2_with fail
        refine (HC.out _).mono ?_
        rintro e w2 ⟨rfl, hb⟩
        replace HM := hide (HM.out.later hb)
        clear hb bd ltd d0 d1 d2 d3 d4 d5 d6 d7
        have bd : Blk w2 gs 83 #[.string s, .int .i64 x, .int .i64 y, .int .i64 z, .int .i64 r, .int .i64 g, .int .i64 st, .int .i64 wd] := HM.out.get 1 rfl
        have ltd := bd.lt
        have d0 := bd.c 0 rfl
        have d1 := bd.c 1 rfl
        have d2 := bd.c 2 rfl
        have d3 := bd.c 3 rfl
        have d4 := bd.c 4 rfl
        have d5 := bd.c 5 rfl
        have d6 := bd.c 6 rfl
        have d7 := bd.c 7 rfl
        have be : Blk w2 gr 32 #[.int .i64 rlo, .int .i64 rhi] := HM.out.get 0 rfl
        have lte := be.lt
        have e0 := be.c 0 rfl
        have e1 := be.c 1 rfl
        go_wp2_with fail
        refine (HG.out _).mono ?_
        rintro e w3 ⟨rfl, hb⟩
        replace HM := hide (HM.out.later hb)
        clear hb bd ltd d0 d1 d2 d3 d4 d5 d6 d7 be lte e0 e1
        go_wp2
        exact bodyPost_ret (v := .tuple #[.slice none 0 0, .int .i64 ge]) (by simp [results, Try.results46, go_sem]) rfl ⟨none, 0, rfl, by first | exact HM.out.below | (rw [← hg0]; exact HM.out.below), by first | exact (HM.out.nilRow gs 88 5).row_ 0 rfl | exact (HM.out.nilRow w.heap.size 88 5).row_ 0 rfl⟩
  · rw [if_pos h0] at hE
    rw [hE, if_neg h0]
    have hd : (se != 0) = true := by simp [h0]
    have HC := hide hC
    clear hC
    clear hG hK hlA hA hn hf hE hse hge
    go_enter Try.func46, Try.ntmps46
    have HM := hide (Mem.start w)
    go_upto_region 1 with fail
    refine code_world fun w1 hW => ?_
    have HMn := Mem.to (Mem.allocAt (Mem.allocAt HM.out w.heap.size rfl #[.string s, .int .i64 x, .int .i64 y, .int .i64 z, .int .i64 r, .int .i64 g, .int .i64 st, .int .i64 wd] 83) (w.heap.size + 1) (by simp) #[.int .i64 rlo, .int .i64 rhi] 32) hW
    have LW : Later w w1 := by rw [hW]; exact (((Below.refl _ _).alloc (Nat.le_refl _) _).alloc (by simp; try omega) _)
    have szW : w1.heap.size = w.heap.size + 2 := by rw [hW]; simp
    clear hW
    replace HM := hide HMn
    clear HMn LW
    clear szW
    generalize hg1 : w.heap.size + 1 = gr at HM ⊢
    generalize hg0 : w.heap.size = gs at HM ⊢
    have bd : Blk w1 gs 83 #[.string s, .int .i64 x, .int .i64 y, .int .i64 z, .int .i64 r, .int .i64 g, .int .i64 st, .int .i64 wd] := HM.out.get 1 rfl
    have ltd := bd.lt
    have d0 := bd.c 0 rfl
    have d1 := bd.c 1 rfl
    have d2 := bd.c 2 rfl
    have d3 := bd.c 3 rfl
    have d4 := bd.c 4 rfl
    have d5 := bd.c 5 rfl
    have d6 := bd.c 6 rfl
    have d7 := bd.c 7 rfl
    go_wp2_with fail
    refine (HC.out _).mono ?_
    rintro e w2 ⟨rfl, hb⟩
    replace HM := hide (HM.out.later hb)
    clear hb bd ltd d0 d1 d2 d3 d4 d5 d6 d7
    go_wp2
    exact bodyPost_ret (v := .tuple #[.slice none 0 0, .int .i64 se]) (by simp [results, Try.results46, go_sem]) rfl ⟨none, 0, rfl, by first | exact HM.out.below | (rw [← hg0]; exact HM.out.below), by first | exact (HM.out.nilRow gs 88 5).row_ 0 rfl | exact (HM.out.nilRow w.heap.size 88 5).row_ 0 rfl⟩
end Go.Proofs.Ytllpffkifleigaa
end
section
namespace Go.Proofs.Ytllpffkifleigaa
open Go Go.RowKit

set_option maxHeartbeats 1000000 in
set_option maxRecDepth 100000 in
theorem rplaceG_any (A : Option Addr) (n c : Nat) (Q : List SeenQ) (X Y : Int) (w : World) (hn : Q.length = n) (hmax : n ≤ maxLen) (hsz : ∀ q ∈ Q, q.s.size ≤ 9223372036854775807) (hA : SeensAt w A Q) :
    Calls Try.prog 49 #[.slice A n c, .int .i64 X, .int .i64 Y] w fun e w' => ∃ A' c', e = .returned (.tuple #[.slice A' (placeL (plE X Y) (plS X Y) Q).length c', .int .i64 (placeE (plE X Y) Q)]) ∧ Below w.heap.size w w' ∧ w'.ownsRow w.heap.size 88 5 (.slice A' (placeL (plE X Y) (plS X Y) Q).length c') (placeL (plE X Y) (plS X Y) Q).length (sgsV (placeL (plE X Y) (plS X Y) Q)) := by
  have hF : ∀ k, k < n → ∀ W, Calls Try.prog 92 #[siteV (Q.getD k seen0).s (Q.getD k seen0).x (Q.getD k seen0).y (Q.getD k seen0).z (Q.getD k seen0).r (Q.getD k seen0).g (Q.getD k seen0).st (Q.getD k seen0).wd, .int .i64 (Q.getD k seen0).t, .int .i64 X, .int .i64 Y] W fun e w' => e = .returned (.tuple #[.int .i64 (fdQ X Y (Q.getD k seen0)).1.1, .int .i64 (fdQ X Y (Q.getD k seen0)).1.2, .int .i64 (fdQ X Y (Q.getD k seen0)).2]) ∧ Below W.heap.size W w' := fun k hk W => RefFind_any _ _ _ _ _ _ _ _ _ X Y W (hsz _ (getD_memE (d := seen0) (show k < Q.length by omega)))
  have hK : ∀ k, k < n → ∀ W, Calls Try.prog 42 #[siteV (Q.getD k seen0).s (Q.getD k seen0).x (Q.getD k seen0).y (Q.getD k seen0).z (Q.getD k seen0).r (Q.getD k seen0).g (Q.getD k seen0).st (Q.getD k seen0).wd, .int .i64 (Q.getD k seen0).t, .int .i64 (fdQ X Y (Q.getD k seen0)).1.1, .agg #[.int .i64 (Q.getD k seen0).slo, .int .i64 (Q.getD k seen0).shi], .agg #[.int .i64 (Q.getD k seen0).rlo, .int .i64 (Q.getD k seen0).rhi]] W fun e w' => e = .returned (.tuple #[sgC (plS X Y (Q.getD k seen0)), .int .i64 (lkQ X Y (Q.getD k seen0))]) ∧ Below W.heap.size W w' := fun k hk W => rlook_any _ _ _ _ _ _ _ _ _ _ _ _ _ _ W (hsz _ (getD_memE (d := seen0) (show k < Q.length by omega)))
  have hm0 : (n : Int) ≤ 9223372036854775807 := by unfold maxLen at hmax; omega
  have hE : placeE (plE X Y) Q = if 360 < Q.length then 9 else bad1 (plE X Y) Q := rfl
  have hL : placeL (plE X Y) (plS X Y) Q = if placeE (plE X Y) Q = 0 then Q.map (plS X Y) else [] := rfl
  rw [hL]
  clear hL
  rw [hn] at hE
  by_cases h1 : 360 < n
  · rw [if_pos h1] at hE
    rw [hE, if_neg (by omega)]
    have h1' : (360 : Int) < n := by omega
    clear hF hK hA hn hE hsz
    go_enter Try.func49, Try.ntmps49
    have HM := hide (Mem.start w)
    go_wp2
    exact bodyPost_ret (v := .tuple #[.slice none 0 0, .int .i64 9]) (by simp [results, Try.results49, go_sem]) rfl ⟨none, 0, rfl, HM.out.below, (HM.out.nilRow w.heap.size 88 5).row_ 0 rfl⟩
  · rw [if_neg h1] at hE
    have h1' : ¬ (360 : Int) < n := by omega
    have hbad := fun k (hk : k < n) (ha : ∀ i, i < k → plE X Y (Q.getD i seen0) = 0) (hb : plE X Y (Q.getD k seen0) ≠ 0) => bad1_at (f := plE X Y) (l := Q) (d := seen0) (by omega) ha hb
    have hno := fun (ha : ∀ i, i < n → plE X Y (Q.getD i seen0) = 0) => bad1_no (f := plE X Y) (l := Q) (d := seen0) (fun i hi => ha i (by omega))
    have hsn : ∀ k, k < n → sgsV ((Q.take (k + 1)).map (plS X Y)) = sgsV ((Q.take k).map (plS X Y)) ++ sgsV [plS X Y (Q.getD k seen0)] := fun k hk => by rw [map_snocQ (d := seen0) (by omega), sgsV_app]
    have hend : sgsV ((Q.take n).map (plS X Y)) = sgsV (Q.map (plS X Y)) := by rw [← hn, List.take_length]
    have h00 : sgsV ((Q.take 0).map (plS X Y)) = [] := rfl
    have hfe : ∀ q, plE X Y q = if (fdQ X Y q).2 ≠ 0 then (fdQ X Y q).2 else lkQ X Y q := fun q => rfl
    obtain ⟨K, hK0⟩ : ∃ K : Nat → List Value, K = fun k => sgsV ((Q.take k).map (plS X Y)) := ⟨_, rfl⟩
    have hKe : ∀ k, sgsV ((Q.take k).map (plS X Y)) = K k := fun k => by rw [hK0]
    simp only [hKe] at hsn hend h00
    have hQl : Q.length = n := hn
    unfold siteV at hF hK
    have hsc := hA
    unfold SeensAt at hsc
    rw [hn] at hsc
    have hm2 : (n : Int) ≤ 360 := by omega
    rw [hE]
    obtain ⟨f, hf⟩ : ∃ f, plE X Y = f := ⟨_, rfl⟩
    rw [hf] at hbad hno hfe ⊢
    obtain ⟨ev, hev⟩ : ∃ e, bad1 f Q = e := ⟨_, rfl⟩
    rw [hev] at hno ⊢
    simp only [hev] at hbad
    obtain ⟨RL, hRL⟩ : ∃ L, (if ev = 0 then Q.map (plS X Y) else []) = L := ⟨_, rfl⟩
    rw [hRL]
    obtain ⟨i0, hii, hz0, hz1, hz2⟩ := info_parts rsightInfo
    have Hi := hide hii
    have Hz0 := hide hz0
    have Hz1 := hide hz1
    have Hz2 := hide hz2
    have HF := hide hF
    have HK := hide hK
    have HSN := hide hsn
    have H00 := hide h00
    have HSC := hide hsc
    have HBAD := hide hbad
    have HNO := hide hno
    have HEND := hide hend
    have HQL := hide hQl
    have HRL := hide hRL
    have HFE := hide hfe
    clear hii hz0 hz1 hz2 hF hK hsn h00 hsc hbad hno hend hQl hRL hfe
    clear hKe hK0 hA hn hf hE hev hsz
    go_enter Try.func49, Try.ntmps49
    have HM := hide ((Mem.start w).nilRow w.heap.size 88 5)
    go_wp2_with fail
    go_loopw [8, 9] (fun o i wr => ∃ (k : Nat) (A' : Option Addr) (c' : Nat), k ≤ n ∧ i = .int .i64 k ∧ o = .slice A' k c' ∧ (∀ i, i < k → f (Q.getD i seen0) = 0) ∧ Mem w [.row w.heap.size 88 5 (.slice A' k c') k (K k)] wr) (fun _ i _ => n - (intOf i).toNat)
    case atStart => exact ⟨0, none, 0, by omega, rfl, rfl, fun i hi => absurd hi (Nat.not_lt_zero _), by rw [H00.out]; exact HM.out⟩
    case round =>
      obtain ⟨k, A', c', hk, rfl, rfl, hall, hM⟩ := hrel
      clear HM
      have HM := hide hM
      clear hM
      have HALL := hide hall
      clear hall
      by_cases hlt : k < n
      · have hlt2 : (k : Int) < n := by omega
        obtain ⟨b, off, rfl, hb0, hc⟩ := HSC.out (by omega)
        have hc1 := hc _ hlt
        have f1 := HF.out k hlt
        have c1 := HK.out k hlt
        have hs1 := HSN.out k hlt
        have hbk := HBAD.out k hlt HALL.out
        have hfk := HFE.out (Q.getD k seen0)
        have hnx : f (Q.getD k seen0) = 0 → ∀ i, i < k + 1 → f (Q.getD i seen0) = 0 := fun h i hi => by
          rcases Nat.lt_or_ge i k with h3 | h3
          · exact HALL.out i h3
          · rw [show i = k by omega]; exact h
        obtain ⟨fk, hfk2⟩ : ∃ z, f (Q.getD k seen0) = z := ⟨_, rfl⟩
        rw [hfk2] at hbk hnx hfk
        obtain ⟨V, hV⟩ : ∃ V, Q.getD k seen0 = V := ⟨_, rfl⟩
        rw [hV] at hc1 hs1 c1 f1 hfk
        obtain ⟨Z, hZ⟩ : ∃ Z, plS X Y V = Z := ⟨_, rfl⟩
        obtain ⟨FD, hFD⟩ : ∃ Z, fdQ X Y V = Z := ⟨_, rfl⟩
        obtain ⟨lk, hlk⟩ : ∃ Z, lkQ X Y V = Z := ⟨_, rfl⟩
        rw [hZ] at c1 hs1
        rw [hFD] at c1 f1 hfk
        rw [hlk] at c1 hfk
        obtain ⟨s, x, y, z, r, g, st, wd, t, slo, shi, rlo, rhi⟩ := V
        obtain ⟨sx, sy, sl, tlo, thi⟩ := Z
        obtain ⟨⟨rq, gq⟩, eq⟩ := FD
        unfold sgC at c1
        simp only at hc1 c1 f1 hfk
        have hcw := hc1
        have HCW := hide hcw
        clear hcw
        rw [← HM.out.below.cell hb0, ← HM.out.below.cell hb0, ← HM.out.below.cell hb0, ← HM.out.below.cell hb0, ← HM.out.below.cell hb0, ← HM.out.below.cell hb0, ← HM.out.below.cell hb0, ← HM.out.below.cell hb0, ← HM.out.below.cell hb0, ← HM.out.below.cell hb0, ← HM.out.below.cell hb0, ← HM.out.below.cell hb0, ← HM.out.below.cell hb0] at hc1
        have ltb : b < wr.heap.size := Nat.lt_of_lt_of_le hb0 HM.out.size
        obtain ⟨q0, q1, q2, q3, q4, q5, q6, q7, q8, q9, q10, q11, q12⟩ := hc1
        have hs2 : K (k + 1) = K k ++ [.int .i64 sx, .int .i64 sy, .int .i64 sl, .int .i64 tlo, .int .i64 thi] := hs1
        have C1 := hide c1
        have F1 := hide f1
        have HS2 := hide hs2
        have HBK := hide hbk
        have HNX := hide hnx
        have HFK := hide hfk
        clear c1 f1 hs2 hbk hnx hfk
        clear hc hV hZ hFD hlk hs1 hfk2
        go_upto_region 7 with fail
        apply wp_region_L (w0 := wr) [[], [], [], [], [], [], [], [], [], [], [], [], [], [], [], [], [], [], [], []] [true, true, true, true, true, true, true, true, true, true, true, true, true, true, true, true, true, true, true, true] [] (fun ixq y => match ixq with  | _ => undef) (fun ixq x F wq => match ixq with  | _ => True) (fun a x => a) (by kernel_rfl) (by kernel_rfl) (fun _ => rfl) [36] (by kernel_rfl)
        · intro x D hD
          have hne := hD.some
          have k0 := liftB hD q0 (by first | assumption | omega)
          have k1 := liftB hD q1 (by first | assumption | omega)
          have k2 := liftB hD q2 (by first | assumption | omega)
          have k3 := liftB hD q3 (by first | assumption | omega)
          have k4 := liftB hD q4 (by first | assumption | omega)
          have k5 := liftB hD q5 (by first | assumption | omega)
          have k6 := liftB hD q6 (by first | assumption | omega)
          have k7 := liftB hD q7 (by first | assumption | omega)
          have k8 := liftB hD q8 (by first | assumption | omega)
          have k9 := liftB hD q9 (by first | assumption | omega)
          have k10 := liftB hD q10 (by first | assumption | omega)
          have k11 := liftB hD q11 (by first | assumption | omega)
          have k12 := liftB hD q12 (by first | assumption | omega)
          simp only [takeOps, Act.put, List.setIfInBounds_toArray, List.set_cons_succ, List.set_cons_zero]
          repeat (go_big_quiet_step ((go_at_call 92; with_reducible exact calls_later hD _ (F1.out _))))
          exact wpQuiet_nil rfl
        · intro d hd x x'
          simp only [List.mem_cons, List.not_mem_nil, or_false] at hd
          rcases hd with rfl
          all_goals rfl
        · exact trivial
        · exact trivial
        intro xx w5 F hL hlv1
        clear hlv1
        replace HM := hide (HM.out.later hL)
        clear hL
        clear q0 q1 q2 q3 q4 q5 q6 q7 q8 q9 q10 q11 q12 ltb
        by_cases he0 : eq = 0
        · subst he0
          have hfk := HFK.out
          rw [if_neg (by simp)] at hfk
          subst hfk
          clear HFK
          have hc1 := HCW.out
          rw [← HM.out.below.cell hb0, ← HM.out.below.cell hb0, ← HM.out.below.cell hb0, ← HM.out.below.cell hb0, ← HM.out.below.cell hb0, ← HM.out.below.cell hb0, ← HM.out.below.cell hb0, ← HM.out.below.cell hb0, ← HM.out.below.cell hb0, ← HM.out.below.cell hb0, ← HM.out.below.cell hb0, ← HM.out.below.cell hb0, ← HM.out.below.cell hb0] at hc1
          have ltb : b < w5.heap.size := Nat.lt_of_lt_of_le hb0 HM.out.size
          obtain ⟨q0, q1, q2, q3, q4, q5, q6, q7, q8, q9, q10, q11, q12⟩ := hc1
          go_upto_region 10 with fail
          apply wp_region_L (w0 := w5) [[], [], [], [], [], [], [], [], [], [], [], [], [], [], [], [], [], [], [], [], [], [], [], [], [], [], [25], [25, 26]] [true, true, true, true, true, true, true, true, true, true, true, true, true, true, true, true, true, true, true, true, true, true, true, true, true, false, false, true] [⟨25, none, [], []⟩, ⟨26, some 25, [25], [25]⟩] (fun ixq y => match ixq with | 25 => .pointer (y 0).1 | 26 => undef | _ => undef) (fun ixq x F wq => match ixq with | 25 => PtrF wq F w5.heap.size (x 25 0).1 88 #[.int .i64 0, .int .i64 0, .int .i64 0, .int .i64 0, .int .i64 0] | 26 => PtrF wq F w5.heap.size (x 25 0).1 88 #[.int .i64 sx, .int .i64 sy, .int .i64 sl, .int .i64 tlo, .int .i64 thi] | _ => True) (fun a x => ((a).put (some 13) (.pointer ((x 25) 0).1)).put (none) (undef)) (by kernel_rfl) (by kernel_rfl) (fun x => putH_step (some 13) (.pointer ((x 25) 0).1) rfl rfl <| putH_step (none) (undef) rfl rfl <| putH_end) [65] (by kernel_rfl)
          · intro x D hD
            have hne := hD.some
            have k0 := liftB hD q0 (by first | assumption | omega)
            have k1 := liftB hD q1 (by first | assumption | omega)
            have k2 := liftB hD q2 (by first | assumption | omega)
            have k3 := liftB hD q3 (by first | assumption | omega)
            have k4 := liftB hD q4 (by first | assumption | omega)
            have k5 := liftB hD q5 (by first | assumption | omega)
            have k6 := liftB hD q6 (by first | assumption | omega)
            have k7 := liftB hD q7 (by first | assumption | omega)
            have k8 := liftB hD q8 (by first | assumption | omega)
            have k9 := liftB hD q9 (by first | assumption | omega)
            have k10 := liftB hD q10 (by first | assumption | omega)
            have k11 := liftB hD q11 (by first | assumption | omega)
            have k12 := liftB hD q12 (by first | assumption | omega)
            simp only [takeOps, Act.put, List.setIfInBounds_toArray, List.set_cons_succ, List.set_cons_zero]
            repeat (go_big_quiet_step ((go_at_call 42; with_reducible exact calls_later hD _ (C1.out _))))
            exact wpQuiet_nil rfl
          · intro d hd x x'
            simp only [List.mem_cons, List.not_mem_nil, or_false] at hd
            rcases hd with rfl
            all_goals rfl
          · refine ⟨?_, ?_, trivial⟩
            · exact obl_alloc 88 13 (.agg #[.int .i64 0, .int .i64 0, .int .i64 0, .int .i64 0, .int .i64 0]) (by kernel_rfl) (by kernel_rfl) (fun _ => rfl) (fun _ _ _ h => h)
            · refine obl_store 88 13 66 25 #[.int .i64 0, .int .i64 0, .int .i64 0, .int .i64 0, .int .i64 0] (fun x => #[.int .i64 sx, .int .i64 sy, .int .i64 sl, .int .i64 tlo, .int .i64 thi]) (by kernel_rfl) rfl (by simp) (fun _ _ _ h => h) (fun _ => rfl) (fun _ => rfl) (fun _ => by kernel_rfl) (fun _ => rfl) (fun _ => by simp [Value.oneCell']) (fun _ => rfl) (by decide) (fun _ _ _ _ h => h)
          · refine ⟨?_, ?_, trivial⟩
            · exact owe_ptr 25 _ _ (fun x => #[.int .i64 0, .int .i64 0, .int .i64 0, .int .i64 0, .int .i64 0]) (fun _ _ _ => rfl) (by simp) (fun _ _ _ => rfl)
            · exact owe_ptr 25 _ _ (fun x => #[.int .i64 sx, .int .i64 sy, .int .i64 sl, .int .i64 tlo, .int .i64 thi]) (fun _ _ _ => rfl) (by simp) (fun _ _ _ => rfl)
          intro xx w7 F hL hlv2
          obtain ⟨-, fct26, -⟩ := hlv2
          replace fct26 : PtrF w7 (F 26) w5.heap.size (xx 25 0).1 88 #[.int .i64 sx, .int .i64 sy, .int .i64 sl, .int .i64 tlo, .int .i64 thi] := fct26 rfl
          replace HM := hide (HM.out.later hL)
          clear hL
          obtain ⟨gz, hgz, -, -, hbz⟩ := fct26
          rw [hgz]
          clear hgz q0 q1 q2 q3 q4 q5 q6 q7 q8 q9 q10 q11 q12 ltb
          have Hbz := hide hbz
          clear hbz
          by_cases hf0 : fk = 0
          · subst hf0
            generalize K k = xs at *
            go_upto_region 13 with fail
            have o0 := Hbz.out.c 0 rfl
            have o1 := Hbz.out.c 1 rfl
            have o2 := Hbz.out.c 2 rfl
            have o3 := Hbz.out.c 3 rfl
            have o4 := Hbz.out.c 4 rfl
            have lto := Hbz.out.lt
            have hownM := Mem.row_ HM.out 0 rfl
            have hbaseM : w.heap.size ≤ w7.heap.size := HM.out.size
            go_wp2_with (at_builtin; refine wpList_append_own_at _ rfl (.tmp 71) (.tmp 73) _ rfl w.heap.size 88 i0 _ 5 40 Try.underlying22 Hi.out Hz0.out Hz1.out Hz2.out rfl (by decide) _ k xs rfl (hownM.alloc _) ⟨w7.heap.size, 0, none⟩ 1 1 [.int .i64 sx, .int .i64 sy, .int .i64 sl, .int .i64 tlo, .int .i64 thi] rfl rfl ?q1c1 (by intro u hu; simp only [List.mem_cons, List.not_mem_nil, or_false] at hu; rcases hu with rfl | rfl | rfl | rfl | rfl <;> rfl) ?q1c3 ?q1c4 ?q1c5 ?_)
            try case q1c1 => exact new_cellsQ w7 _ [.int .i64 sx, .int .i64 sy, .int .i64 sl, .int .i64 tlo, .int .i64 thi]
            case q1c3 => unfold maxLen; omega
            case q1c4 => omega
            case q1c5 => first | omega | (simp; omega)
            intro vA w9 hown2 hgr2 _ hat2
            have HMn := HM.out.grow 0 rfl _ hgr2 hown2 hat2
            replace HM := hide HMn
            clear HMn hown2 hgr2 hat2 hownM hbaseM
            obtain ⟨A9, c9, rfl⟩ := own_shape2 (Mem.row_ HM.out 0 rfl)
            go_wp2_with fail
            go_roundw
            case rel => exact ⟨k + 1, A9, c9, by omega, by go_num, rfl, HNX.out (by simp), by rw [HS2.out]; exact HM.out⟩
            case measure => simp [intOf] <;> omega
          · have hd : (fk != 0) = true := by simp [hf0]
            obtain rfl : ev = fk := HBK.out hf0
            obtain rfl : RL = [] := by rw [← HRL.out, if_neg hf0]
            go_wp2
            exact bodyPost_ret (v := .tuple #[.slice none 0 0, .int .i64 ev]) (by simp [results, Try.results49, go_sem]) rfl ⟨none, 0, rfl, HM.out.below, (HM.out.nilRow w.heap.size 88 5).row_ 0 rfl⟩
        · have hfk := HFK.out
          rw [if_pos he0] at hfk
          subst hfk
          have hd : (fk != 0) = true := by simp [he0]
          obtain rfl : ev = fk := HBK.out he0
          obtain rfl : RL = [] := by rw [← HRL.out, if_neg he0]
          go_wp2
          exact bodyPost_ret (v := .tuple #[.slice none 0 0, .int .i64 ev]) (by simp [results, Try.results49, go_sem]) rfl ⟨none, 0, rfl, HM.out.below, (HM.out.nilRow w.heap.size 88 5).row_ 0 rfl⟩
      · obtain rfl : k = n := by omega
        have hkk : ¬ ((k : Int) < k) := by omega
        obtain rfl : ev = 0 := HNO.out HALL.out
        obtain rfl : RL = Q.map (plS X Y) := by rw [← HRL.out, if_pos rfl]
        go_wp2
        exact bodyPost_ret (v := .tuple #[.slice A' k c', .int .i64 0]) (by simp [results, Try.results49, go_sem]) rfl ⟨A', c', by rw [HQL.out], HM.out.below, by rw [HQL.out, ← HEND.out]; exact HM.out.row_ 0 rfl⟩
end Go.Proofs.Ytllpffkifleigaa
end
section
namespace Go.Proofs.Ytllpffkifleigaa
open Go Go.RowKit

set_option maxHeartbeats 1000000 in
set_option maxRecDepth 100000 in
theorem same_any (A B : Option Addr) (n c d : Nat) (L : List Sgt) (w : World) (hn : L.length = n) (hmax : n ≤ 100000) (hA : SgtsH w A L) (hB : SgtsH w B L) :
    Calls Try.prog 47 #[.slice A n c, .slice B n d] w fun e w' => e = .returned (.bool true) ∧ Below w.heap.size w w' := by
  have hsa : SgtsAt w w.heap.size A L := hA
  have hsb : SgtsAt w w.heap.size B L := hB
  unfold SgtsAt at hsa hsb
  rw [hn] at hsa hsb
  have hm2 : (n : Int) ≤ 100000 := by omega
  have HSA := hide hsa
  have HSB := hide hsb
  clear hsa hsb
  clear hA hB hn
  go_enter Try.func47, Try.ntmps47
  go_wp2_with fail
  go_loopw [5] (fun i wr => ∃ k : Nat, k ≤ n ∧ i = .int .i64 k ∧ Below w.heap.size w wr) (fun i _ => n - (intOf i).toNat)
  case atStart => exact ⟨0, Nat.zero_le _, rfl, Below.refl _ _⟩
  case round =>
    obtain ⟨k, hk, rfl, hb⟩ := hrel
    have HB0 := hide hb
    clear hb
    by_cases hlt : k < n
    · have hlt2 : (k : Int) < n := by omega
      obtain ⟨b1, o1, rfl, l1, c1⟩ := HSA.out (by omega)
      obtain ⟨b2, o2, rfl, l2, c2⟩ := HSB.out (by omega)
      have p1 := c1 k hlt
      have p2 := c2 k hlt
      rw [← HB0.out.cell l1, ← HB0.out.cell l1, ← HB0.out.cell l1, ← HB0.out.cell l1, ← HB0.out.cell l1] at p1
      rw [← HB0.out.cell l2, ← HB0.out.cell l2, ← HB0.out.cell l2, ← HB0.out.cell l2, ← HB0.out.cell l2] at p2
      have t1 : b1 < wr.heap.size := Nat.lt_of_lt_of_le l1 HB0.out.size
      have t2 : b2 < wr.heap.size := Nat.lt_of_lt_of_le l2 HB0.out.size
      obtain ⟨X, hX⟩ : ∃ X, L.getD k sg0 = X := ⟨_, rfl⟩
      rw [hX] at p1 p2
      obtain ⟨sx, sy, sl, slo, shi⟩ := X
      obtain ⟨q0, q1, q2, q3, q4⟩ := p1
      obtain ⟨r0, r1, r2, r3, r4⟩ := p2
      simp only at q0 q1 q2 q3 q4 r0 r1 r2 r3 r4
      clear c1 c2 hX
      go_upto_region 6 with fail
      go_quiet (fail)
      have hL : Below wr.heap.size wr (wr.drewN nq) := below_drewN (Below.refl _ _) _
      generalize (wr.drewN nq : World) = w1 at hL ⊢
      clear q0 q1 q2 q3 q4 r0 r1 r2 r3 r4 t1 t2
      replace HB0 := hide (onward HB0.out hL)
      clear hL
      go_wp2_with fail
      go_roundw
      case rel => exact ⟨k + 1, by omega, by go_num, HB0.out⟩
      case measure => simp [intOf] <;> omega
    · obtain rfl : k = n := by omega
      have hkk : ¬ ((k : Int) < k) := by omega
      go_wp2
      exact bodyPost_ret (v := .bool true) (by simp [results, Try.results47, go_sem]) rfl ⟨rfl, HB0.out⟩
end Go.Proofs.Ytllpffkifleigaa
end
section
namespace Go.Proofs.Ytllpffkifleigaa
open Go Go.RowKit

theorem far_no {t w : Int} (t0 : 0 ≤ t) (t1 : t ≤ 59) (w0 : 0 ≤ w) (w1 : w ≤ 3000000000) : ¬ gateZ 1000 t 200 w < 0 := by
  rcases gate_cases (st := 1000) (t := t) (g := 200) (w := w) with h | ⟨h, -⟩
  · exfalso
    obtain ⟨s0, s1⟩ := mul_bdB t0 t1 t0 t1
    have hb : 190000 ≤ bord 1000 t ((200 : Nat) : Int) := by
      unfold bord
      exact (Int.le_ediv_iff_mul_le (by omega)).2 (by omega)
    have hsq : 190000 * 190000 ≤ bord 1000 t ((200 : Nat) : Int) * bord 1000 t ((200 : Nat) : Int) := Int.mul_le_mul hb hb (by omega) (by omega)
    have hz : bord 1000 t ((0 : Nat) : Int) = 0 := by unfold bord; simp
    obtain ⟨k, hk, h1, h2⟩ := step_down (fun k : Nat => decide (bord 1000 t k * bord 1000 t k ≤ w)) 200 (by simp only [hz]; rw [decide_eq_true_iff]; omega) (by rw [decide_eq_false_iff_not]; omega)
    have := gate_none h (j := k) (by omega) (by omega)
    unfold gateB at this
    rw [decide_eq_true_iff] at h1
    rw [decide_eq_false_iff_not] at h2
    rw [Bool.and_eq_false_iff, decide_eq_false_iff_not, decide_eq_false_iff_not] at this
    push_cast at h2
    omega
  · omega
theorem find_here {r t X Y : Int} (r0 : 1 ≤ r) (t0 : 0 ≤ t) (t1 : t ≤ 59) (x0 : -32768 ≤ X) (x1 : X ≤ 32768) (y0 : -32768 ≤ Y) (y1 : Y ≤ 32768) :
    0 ≤ (findZ r 1000 t 200 (1000 - X) (2000 - Y)).1.1 ∧ (findZ r 1000 t 200 (1000 - X) (2000 - Y)).1.1 ≤ 4 * r - 1 ∧ ∃ g, findR 0 t r 1000 200 X Y 1000 2000 = (((findZ r 1000 t 200 (1000 - X) (2000 - Y)).1.1, g), 0) := by
  have hw : (winBQ t 0 256 && winBQ 1000 (-4194304) 4194304 && winBQ 2000 (-4194304) 4194304) = true := by
    rw [Bool.and_eq_true, Bool.and_eq_true]
    exact ⟨⟨winB_iff.2 ⟨by omega, by omega⟩, winB_iff.2 ⟨by omega, by omega⟩⟩, winB_iff.2 ⟨by omega, by omega⟩⟩
  have hR : ∀ p, findZ r 1000 t 200 (1000 - X) (2000 - Y) = (p, true) → findR 0 t r 1000 200 X Y 1000 2000 = (p, 0) := fun p h => by
    unfold findR
    rw [if_neg (by simp), if_pos hw, h]
    rfl
  by_cases h : 1000 - X = 0 ∧ 2000 - Y = 0
  · have e : findZ r 1000 t 200 (1000 - X) (2000 - Y) = ((0, 0), true) := by unfold findZ; rw [if_pos h]
    have := hR _ e
    rw [e]
    exact ⟨by simp only; omega, by simp only; omega, 0, this⟩
  · have a := abs_mul (x := 1000 - X) (y := 1000 - X) (X := 33768) (Y := 33768) (by omega) (by omega) (by omega) (by omega)
    have b := abs_mul (x := 2000 - Y) (y := 2000 - Y) (X := 34768) (Y := 34768) (by omega) (by omega) (by omega) (by omega)
    have c := sq_nn (1000 - X)
    have d := sq_nn (2000 - Y)
    have e : findZ r 1000 t 200 (1000 - X) (2000 - Y) = ((rayZ r (1000 - X) (2000 - Y), gateZ 1000 t 200 ((1000 - X) * (1000 - X) + (2000 - Y) * (2000 - Y))), true) := by
      unfold findZ
      rw [if_neg h, if_neg (far_no t0 t1 (by omega) (by omega))]
    have := hR _ e
    obtain ⟨s1, s2, -⟩ := ray_spec (n := r) r0 h
    rw [e]
    exact ⟨s1, by simp only; omega, _, this⟩
def nameS : ByteArray := ⟨#[115]⟩
theorem site_here {r X Y : Int} (r0 : 1 ≤ r) (r1 : r ≤ 30) (x0 : -32768 ≤ X) (x1 : X ≤ 32768) (y0 : -32768 ≤ Y) (y1 : Y ≤ 32768) : siteE (nameB nameS) X Y 0 r 200 1000 0 = 0 := by
  have hn : nameB nameS = true := by decide +kernel
  unfold siteE
  rw [hn, if_neg (by simp), if_pos]
  simp only [Bool.and_eq_true]
  exact ⟨⟨⟨⟨⟨⟨winB_iff.2 ⟨by omega, by omega⟩, winB_iff.2 ⟨by omega, by omega⟩⟩, winB_iff.2 ⟨by omega, by omega⟩⟩, winB_iff.2 ⟨by omega, by omega⟩⟩, winB_iff.2 ⟨by omega, by omega⟩⟩, winB_iff.2 ⟨by omega, by omega⟩⟩, winB_iff.2 ⟨by omega, by omega⟩⟩
/-- What the second loop builds. -/
def seenQ (X Y r t u v wz l m rl rm : Int) : SeenQ := ⟨nameS, X, Y, 0, r, 200, 1000, 0, t, spLo r t (findZ r 1000 t 200 (1000 - X) (2000 - Y)).1.1 u v wz m, spHi r t (findZ r 1000 t 200 (1000 - X) (2000 - Y)).1.1 u v wz l, wz - rl, wz + rm⟩
theorem seen_here {X Y r t u v wz l m rl rm : Int} (r1 : r ≤ 30) (t1 : t ≤ 59) (x0 : -32768 ≤ X) (x1 : X ≤ 32768) (y0 : -32768 ≤ Y) (y1 : Y ≤ 32768) (h : ∀ a, 0 ≤ a → a ≤ 4 * r - 1 → TruA r t a u v wz l m rl rm) (r0 : 1 ≤ r) (t0 : 0 ≤ t) :
    SeenOk 1000 2000 (seenQ X Y r t u v wz l m rl rm) ∧ SgtOk (placeS 1000 2000 (seenQ X Y r t u v wz l m rl rm)) ∧ Agr1 (placeS 1000 2000 (seenQ X Y r t u v wz l m rl rm)) u v := by
  obtain ⟨a0, a1, f⟩ := find_here (r := r) (t := t) r0 t0 t1 x0 x1 y0 y1
  obtain ⟨k1, k2, k3⟩ := tru_look (h _ a0 a1)
  exact ⟨⟨by show (1 : Nat) ≤ _; omega, site_here r0 r1 x0 x1 y0 y1, f, k1⟩, k2, k3⟩
/-- What the first loop builds. -/
def ringQ (r t u v wz l m z : Int) : RayQ := ⟨z % (4 * r), spLo r t (z % (4 * r)) u v wz m, spHi r t (z % (4 * r)) u v wz l⟩
theorem ring_here {r t u v wz l m rl rm z : Int} (h : ∀ a, 0 ≤ a → a ≤ 4 * r - 1 → TruA r t a u v wz l m rl rm) (r0 : 1 ≤ r) :
    lookE 0 r t (ringQ r t u v wz l m z).a (ringQ r t u v wz l m z).lo (ringQ r t u v wz l m z).hi (wz - rl) (wz + rm) = 0 ∧ SgtOk (ringS r t (wz - rl) (wz + rm) (ringQ r t u v wz l m z)) ∧ Agr1 (ringS r t (wz - rl) (wz + rm) (ringQ r t u v wz l m z)) u v := by
  have a0 := Int.emod_nonneg z (show 4 * r ≠ 0 by omega)
  have a1 := Int.emod_lt_of_pos z (show 0 < 4 * r by omega)
  have k := tru_look (h (z % (4 * r)) a0 (by omega))
  exact k
end Go.Proofs.Ytllpffkifleigaa
end
section
namespace Go.Proofs.Ytllpffkifleigaa
open Go Go.RowKit

theorem flat_get {α : Type} {R : α → List Value} {m : Nat} (hm : ∀ x, (R x).length = m) {d : α} : ∀ (L : List α) (i j : Nat), i < L.length → j < m → (L.flatMap R)[i * m + j]? = (R (L.getD i d))[j]?
  | [], i, _, h, _ => absurd h (by simp)
  | x :: L, 0, j, _, hj => by
    rw [List.flatMap_cons, List.getElem?_append_left (by rw [hm]; omega)]
    simp
  | x :: L, i + 1, j, h, hj => by
    have := flat_get hm (d := d) L i j (by simpa using h) hj
    rw [List.flatMap_cons, List.getElem?_append_right (by rw [hm, Nat.add_mul]; omega), hm, show (i + 1) * m + j - m = i * m + j by rw [Nat.add_mul]; omega, this]
    simp
def rayV (q : RayQ) : List Value := [.int .i64 q.a, .int .i64 q.lo, .int .i64 q.hi]
def seenV (q : SeenQ) : List Value := [.string q.s, .int .i64 q.x, .int .i64 q.y, .int .i64 q.z, .int .i64 q.r, .int .i64 q.g, .int .i64 q.st, .int .i64 q.wd, .int .i64 q.t, .int .i64 q.slo, .int .i64 q.shi, .int .i64 q.rlo, .int .i64 q.rhi]
theorem flat_snoc {α : Type} {d : α} {R : α → List Value} {L : List α} {k : Nat} (h : k < L.length) : (L.take (k + 1)).flatMap R = (L.take k).flatMap R ++ R (L.getD k d) := by
  rw [List.take_add_one, List.getElem?_eq_getElem h, List.flatMap_append, List.getD_eq_getElem?_getD, List.getElem?_eq_getElem h]
  simp
theorem rays_own {w : World} {base c n : Nat} {A : Option Addr} {Q : List RayQ} (hn : Q.length = n) (h : w.ownsRow base 95 3 (.slice A n c) n (Q.flatMap rayV)) : RaysAtW w A Q := fun hl => by
  obtain ⟨b, cur, rfl, -, hb, -, -, hc⟩ := row_blk h (by omega)
  refine ⟨b, 0, rfl, hb.lt, fun i hi => ?_⟩
  have g := fun j (hj : j < 3) => flat_get (R := rayV) (m := 3) (fun _ => rfl) (d := ray0) Q i j hi hj
  rw [Nat.zero_add]
  exact ⟨hb.c _ (hc _ _ (g 0 (by omega))), hb.c _ (hc _ _ (g 1 (by omega))), hb.c _ (hc _ _ (g 2 (by omega)))⟩
theorem seens_own {w : World} {base c n : Nat} {A : Option Addr} {Q : List SeenQ} (hn : Q.length = n) (h : w.ownsRow base 104 13 (.slice A n c) n (Q.flatMap seenV)) : SeensAt w A Q := fun hl => by
  obtain ⟨b, cur, rfl, -, hb, -, -, hc⟩ := row_blk h (by omega)
  refine ⟨b, 0, rfl, hb.lt, fun i hi => ?_⟩
  have g := fun j (hj : j < 13) => flat_get (R := seenV) (m := 13) (fun _ => rfl) (d := seen0) Q i j hi hj
  rw [Nat.zero_add]
  exact ⟨hb.c _ (hc _ _ (g 0 (by omega))), hb.c _ (hc _ _ (g 1 (by omega))), hb.c _ (hc _ _ (g 2 (by omega))), hb.c _ (hc _ _ (g 3 (by omega))), hb.c _ (hc _ _ (g 4 (by omega))), hb.c _ (hc _ _ (g 5 (by omega))), hb.c _ (hc _ _ (g 6 (by omega))), hb.c _ (hc _ _ (g 7 (by omega))), hb.c _ (hc _ _ (g 8 (by omega))), hb.c _ (hc _ _ (g 9 (by omega))), hb.c _ (hc _ _ (g 10 (by omega))), hb.c _ (hc _ _ (g 11 (by omega))), hb.c _ (hc _ _ (g 12 (by omega)))⟩
theorem rayInfo : (Try.prog.info? 95).map (fun i => (i.zero, i.size, i.bytes)) = some (some (.agg #[.int .i64 0, .int .i64 0, .int .i64 0]), 3, 24) := by kernel_rfl
theorem seenInfo : (Try.prog.info? 104).map (fun i => (i.zero, i.size, i.bytes)) = some (some (.agg #[.string ⟨#[]⟩, .int .i64 0, .int .i64 0, .int .i64 0, .int .i64 0, .int .i64 0, .int .i64 0, .int .i64 0, .int .i64 0, .int .i64 0, .int .i64 0, .int .i64 0, .int .i64 0]), 13, 112) := by kernel_rfl
end Go.Proofs.Ytllpffkifleigaa
end
section
namespace Go.Proofs.Ytllpffkifleigaa
open Go Go.RowKit

set_option maxHeartbeats 1000000 in
set_option maxRecDepth 100000 in
theorem ringG_any (A : Option Addr) (n c : Nat) (Q : List RayQ) (s : ByteArray) (x y z r g st wd t rlo rhi : Int) (w : World) (hn : Q.length = n) (hmax : n ≤ maxLen) (hs : s.size ≤ 9223372036854775807) (hA : RaysAtW w A Q) (se ge : Int) (f : RayQ → Int) (hse : siteE (nameB s) x y z r g st wd = se) (hge : gateE se t rlo rhi = ge) (hf : ∀ q, lookE se r t q.a q.lo q.hi rlo rhi = f q) :
    Calls Try.prog 45 #[siteV s x y z r g st wd, .int .i64 t, .slice A n c, .agg #[.int .i64 rlo, .int .i64 rhi]] w fun e w' => ∃ A' c', e = .returned (.tuple #[.slice A' (ringL se ge f (ringS r t rlo rhi) Q).length c', .int .i64 (ringE se ge f Q)]) ∧ Below w.heap.size w w' ∧ w'.ownsRow w.heap.size 71 5 (.slice A' (ringL se ge f (ringS r t rlo rhi) Q).length c') (ringL se ge f (ringS r t rlo rhi) Q).length (sgsV (ringL se ge f (ringS r t rlo rhi) Q)) := by
  have hC := fun W => CheckSite_any s (nameB s) x y z r g st wd W (fun W => Name_any s W hs)
  have hG := fun W => looked_any s x y z r g st wd t rlo rhi W hs
  have hK := fun k (W : World) => Look_any s x y z r g st wd t (Q.getD k ray0).a (Q.getD k ray0).lo (Q.getD k ray0).hi rlo rhi W hs
  rw [hse] at hC
  rw [hse, hge] at hG
  simp only [hse, hf] at hK
  have hlA : ∀ q, lookA se r t q.a q.lo q.hi rlo rhi = if f q = 0 then ringS r t rlo rhi q else sg0 := fun q => by unfold lookA; rw [hf]; rfl
  simp only [hlA] at hK
  have hm0 : (n : Int) ≤ 9223372036854775807 := by unfold maxLen at hmax; omega
  have hE : ringE se ge f Q = if se ≠ 0 then se else if 360 < Q.length then 9 else if ge ≠ 0 then ge else bad1 f Q := rfl
  have hL : ringL se ge f (ringS r t rlo rhi) Q = if ringE se ge f Q = 0 then Q.map (ringS r t rlo rhi) else [] := rfl
  rw [hL]
  clear hL
  unfold siteV at hG
  unfold siteV
  by_cases h0 : se = 0
  · subst h0
    rw [if_neg (by simp), hn] at hE
    by_cases h1 : 360 < n
    · rw [if_pos h1] at hE
      rw [hE, if_neg (by omega)]
      have h1' : (360 : Int) < n := by omega
      have HC := hide hC
      clear hC
      clear hG hK hlA hA hn hf hE hse hge
      go_enter Try.func45, Try.ntmps45
      have HM := hide (Mem.start w)
      go_upto_region 1 with fail
      refine code_world fun w1 hW => ?_
      have HMn := Mem.to (Mem.allocAt (Mem.allocAt HM.out w.heap.size rfl #[.string s, .int .i64 x, .int .i64 y, .int .i64 z, .int .i64 r, .int .i64 g, .int .i64 st, .int .i64 wd] 83) (w.heap.size + 1) (by simp) #[.int .i64 rlo, .int .i64 rhi] 32) hW
      have LW : Later w w1 := by rw [hW]; exact (((Below.refl _ _).alloc (Nat.le_refl _) _).alloc (by simp; try omega) _)
      have szW : w1.heap.size = w.heap.size + 2 := by rw [hW]; simp
      clear hW
      replace HM := hide HMn
      clear HMn LW
      clear szW
      generalize hg1 : w.heap.size + 1 = gr at HM ⊢
      generalize hg0 : w.heap.size = gs at HM ⊢
      have bd : Blk w1 gs 83 #[.string s, .int .i64 x, .int .i64 y, .int .i64 z, .int .i64 r, .int .i64 g, .int .i64 st, .int .i64 wd] := HM.out.get 1 rfl
      have ltd := bd.lt
      have d0 := bd.c 0 rfl
      have d1 := bd.c 1 rfl
      have d2 := bd.c 2 rfl
      have d3 := bd.c 3 rfl
      have d4 := bd.c 4 rfl
      have d5 := bd.c 5 rfl
      have d6 := bd.c 6 rfl
      have d7 := bd.c 7 rfl
      go_wp2_with fail
      refine (HC.out _).mono ?_
      rintro e w2 ⟨rfl, hb⟩
      replace HM := hide (HM.out.later hb)
      clear hb bd ltd d0 d1 d2 d3 d4 d5 d6 d7
      go_wp2
      exact bodyPost_ret (v := .tuple #[.slice none 0 0, .int .i64 9]) (by simp [results, Try.results45, go_sem]) rfl ⟨none, 0, rfl, by first | exact HM.out.below | (rw [← hg0]; exact HM.out.below), by first | exact (HM.out.nilRow gs 71 5).row_ 0 rfl | exact (HM.out.nilRow w.heap.size 71 5).row_ 0 rfl⟩
    · rw [if_neg h1] at hE
      have h1' : ¬ (360 : Int) < n := by omega
      by_cases h2 : ge = 0
      · subst h2
        rw [if_neg (by simp)] at hE
        have hbad := fun k (hk : k < n) (ha : ∀ i, i < k → f (Q.getD i ray0) = 0) (hb : f (Q.getD k ray0) ≠ 0) => bad1_at (f := f) (l := Q) (d := ray0) (by omega) ha hb
        have hno := fun (ha : ∀ i, i < n → f (Q.getD i ray0) = 0) => bad1_no (f := f) (l := Q) (d := ray0) (fun i hi => ha i (by omega))
        have hsn : ∀ k, k < n → sgsV ((Q.take (k + 1)).map (ringS r t rlo rhi)) = sgsV ((Q.take k).map (ringS r t rlo rhi)) ++ sgsV [ringS r t rlo rhi (Q.getD k ray0)] := fun k hk => by rw [map_snocQ (d := ray0) (by omega), sgsV_app]
        have hend : sgsV ((Q.take n).map (ringS r t rlo rhi)) = sgsV (Q.map (ringS r t rlo rhi)) := by rw [← hn, List.take_length]
        have h00 : sgsV ((Q.take 0).map (ringS r t rlo rhi)) = [] := rfl
        obtain ⟨K, hK0⟩ : ∃ K : Nat → List Value, K = fun k => sgsV ((Q.take k).map (ringS r t rlo rhi)) := ⟨_, rfl⟩
        have hKe : ∀ k, sgsV ((Q.take k).map (ringS r t rlo rhi)) = K k := fun k => by rw [hK0]
        simp only [hKe] at hsn hend h00
        have hQl : Q.length = n := hn
        unfold siteV at hK
        have hsc := hA
        unfold RaysAtW at hsc
        rw [hn] at hsc
        have hm2 : (n : Int) ≤ 360 := by omega
        rw [hE]
        obtain ⟨ev, hev⟩ : ∃ e, bad1 f Q = e := ⟨_, rfl⟩
        rw [hev] at hno ⊢
        simp only [hev] at hbad
        obtain ⟨RL, hRL⟩ : ∃ L, (if ev = 0 then Q.map (ringS r t rlo rhi) else []) = L := ⟨_, rfl⟩
        rw [hRL]
        obtain ⟨i0, hii, hz0, hz1, hz2⟩ := info_parts sightInfo
        have Hi := hide hii
        have Hz0 := hide hz0
        have Hz1 := hide hz1
        have Hz2 := hide hz2
        have HC := hide hC
        have HG := hide hG
        have HK := hide hK
        have HSN := hide hsn
        have H00 := hide h00
        have HSC := hide hsc
        have HBAD := hide hbad
        have HNO := hide hno
        have HEND := hide hend
        have HQL := hide hQl
        have HRL := hide hRL
        clear hii hz0 hz1 hz2 hC hG hK hsn h00 hsc hbad hno hend hQl hRL
        clear hlA hKe hK0 hA hn hf hE hse hge hev
        go_enter Try.func45, Try.ntmps45
        have HM := hide (Mem.start w)
        go_upto_region 1 with fail
        refine code_world fun w1 hW => ?_
        have HMn := Mem.to (Mem.allocAt (Mem.allocAt HM.out w.heap.size rfl #[.string s, .int .i64 x, .int .i64 y, .int .i64 z, .int .i64 r, .int .i64 g, .int .i64 st, .int .i64 wd] 83) (w.heap.size + 1) (by simp) #[.int .i64 rlo, .int .i64 rhi] 32) hW
        have LW : Later w w1 := by rw [hW]; exact (((Below.refl _ _).alloc (Nat.le_refl _) _).alloc (by simp; try omega) _)
        have szW : w1.heap.size = w.heap.size + 2 := by rw [hW]; simp
        clear hW
        replace HM := hide HMn
        clear HMn LW
        clear szW
        generalize hg1 : w.heap.size + 1 = gr at HM ⊢
        generalize hg0 : w.heap.size = gs at HM ⊢
        have bd : Blk w1 gs 83 #[.string s, .int .i64 x, .int .i64 y, .int .i64 z, .int .i64 r, .int .i64 g, .int .i64 st, .int .i64 wd] := HM.out.get 1 rfl
        have ltd := bd.lt
        have d0 := bd.c 0 rfl
        have d1 := bd.c 1 rfl
        have d2 := bd.c 2 rfl
        have d3 := bd.c 3 rfl
        have d4 := bd.c 4 rfl
        have d5 := bd.c 5 rfl
        have d6 := bd.c 6 rfl
        have d7 := bd.c 7 rfl
        go_wp2_with fail
        refine (HC.out _).mono ?_
        rintro e w2 ⟨rfl, hb⟩
        replace HM := hide (HM.out.later hb)
        clear hb bd ltd d0 d1 d2 d3 d4 d5 d6 d7
        have bd : Blk w2 gs 83 #[.string s, .int .i64 x, .int .i64 y, .int .i64 z, .int .i64 r, .int .i64 g, .int .i64 st, .int .i64 wd] := HM.out.get 1 rfl
        have ltd := bd.lt
        have d0 := bd.c 0 rfl
        have d1 := bd.c 1 rfl
        have d2 := bd.c 2 rfl
        have d3 := bd.c 3 rfl
        have d4 := bd.c 4 rfl
        have d5 := bd.c 5 rfl
        have d6 := bd.c 6 rfl
        have d7 := bd.c 7 rfl
        have be : Blk w2 gr 32 #[.int .i64 rlo, .int .i64 rhi] := HM.out.get 0 rfl
        have lte := be.lt
        have e0 := be.c 0 rfl
        have e1 := be.c 1 rfl
        go_wp2_with fail
        refine (HG.out _).mono ?_
        rintro e w3 ⟨rfl, hb⟩
        replace HM := hide (HM.out.later hb)
        clear hb bd ltd d0 d1 d2 d3 d4 d5 d6 d7 be lte e0 e1
        go_wp2_with fail
        have HM2 := hide (HM.out.nilRow gs 71 5)
        clear HM
        have HM := HM2
        clear HM2
        go_loopw [12, 34] (fun o i wr => ∃ (k : Nat) (A' : Option Addr) (c' : Nat), k ≤ n ∧ i = .int .i64 k ∧ o = .slice A' k c' ∧ (∀ i, i < k → f (Q.getD i ray0) = 0) ∧ Mem w [.row gs 71 5 (.slice A' k c') k (K k), .blk gr 32 #[.int .i64 rlo, .int .i64 rhi], .blk gs 83 #[.string s, .int .i64 x, .int .i64 y, .int .i64 z, .int .i64 r, .int .i64 g, .int .i64 st, .int .i64 wd]] wr) (fun _ i _ => n - (intOf i).toNat)
        case atStart => exact ⟨0, none, 0, by omega, rfl, rfl, fun i hi => absurd hi (Nat.not_lt_zero _), by rw [H00.out]; exact HM.out⟩
        case round =>
          obtain ⟨k, A', c', hk, rfl, rfl, hall, hM⟩ := hrel
          clear HM
          have HM := hide hM
          clear hM
          have HALL := hide hall
          clear hall
          by_cases hlt : k < n
          · have hlt2 : (k : Int) < n := by omega
            obtain ⟨b, off, rfl, hb0, hc⟩ := HSC.out (by omega)
            have hc1 := hc _ hlt
            have c1 := HK.out k
            have hs1 := HSN.out k hlt
            have hbk := HBAD.out k hlt HALL.out
            have hnx : f (Q.getD k ray0) = 0 → ∀ i, i < k + 1 → f (Q.getD i ray0) = 0 := fun h i hi => by
              rcases Nat.lt_or_ge i k with h3 | h3
              · exact HALL.out i h3
              · rw [show i = k by omega]; exact h
            obtain ⟨fk, hfk⟩ : ∃ z, f (Q.getD k ray0) = z := ⟨_, rfl⟩
            rw [hfk] at hbk hnx
            simp only [hfk] at c1
            obtain ⟨X, hX⟩ : ∃ X, Q.getD k ray0 = X := ⟨_, rfl⟩
            simp only [hX] at c1
            rw [hX] at hc1 hs1
            rw [← HM.out.below.cell hb0, ← HM.out.below.cell hb0, ← HM.out.below.cell hb0] at hc1
            have ltb : b < wr.heap.size := Nat.lt_of_lt_of_le hb0 HM.out.size
            obtain ⟨q0, q1, q2⟩ := hc1
            obtain ⟨Y, hY⟩ : ∃ Y, (if fk = 0 then ringS r t rlo rhi X else sg0) = Y := ⟨_, rfl⟩
            simp only [hY] at c1
            obtain ⟨ra, slo, shi⟩ := X
            obtain ⟨sx, sy, sl, tlo, thi⟩ := Y
            unfold sgC at c1
            simp only at q0 q1 q2 c1
            have C1 := hide c1
            have HBK := hide hbk
            have HNX := hide hnx
            have HS1 := hide hs1
            have HYY := hide hY
            clear c1 hbk hnx hs1 hY
            clear hc hX hfk
            go_upto_region 13 with fail
            refine code_world fun w4 hW => ?_
            have HMn := Mem.to (Mem.allocAt HM.out wr.heap.size rfl #[.int .i64 ra, .int .i64 slo, .int .i64 shi] 95) hW
            have LW : Later wr w4 := by rw [hW]; exact ((Below.refl _ _).alloc (Nat.le_refl _) _)
            have szW : w4.heap.size = wr.heap.size + 1 := by rw [hW]; simp
            clear hW
            replace HM := hide HMn
            clear HMn LW
            clear szW q0 q1 q2 ltb
            generalize hgx : wr.heap.size = gx at HM ⊢
            have bo : Blk w4 gx 95 #[.int .i64 ra, .int .i64 slo, .int .i64 shi] := HM.out.get 0 rfl
            have lto := bo.lt
            have o0 := bo.c 0 rfl
            have o1 := bo.c 1 rfl
            have o2 := bo.c 2 rfl
            have be : Blk w4 gr 32 #[.int .i64 rlo, .int .i64 rhi] := HM.out.get 2 rfl
            have lte := be.lt
            have e0 := be.c 0 rfl
            have e1 := be.c 1 rfl
            have bd : Blk w4 gs 83 #[.string s, .int .i64 x, .int .i64 y, .int .i64 z, .int .i64 r, .int .i64 g, .int .i64 st, .int .i64 wd] := HM.out.get 3 rfl
            have ltd := bd.lt
            have d0 := bd.c 0 rfl
            have d1 := bd.c 1 rfl
            have d2 := bd.c 2 rfl
            have d3 := bd.c 3 rfl
            have d4 := bd.c 4 rfl
            have d5 := bd.c 5 rfl
            have d6 := bd.c 6 rfl
            have d7 := bd.c 7 rfl
            go_wp2_with fail
            refine (C1.out _).mono ?_
            rintro e w5 ⟨rfl, hb⟩
            replace HM := hide (HM.out.later hb)
            clear hb bo lto o0 o1 o2 be lte e0 e1 bd ltd d0 d1 d2 d3 d4 d5 d6 d7
            go_upto_region 14 with fail
            refine code_world fun w6 hW => ?_
            have HMn := Mem.to (Mem.allocAt HM.out w5.heap.size rfl #[.int .i64 sx, .int .i64 sy, .int .i64 sl, .int .i64 tlo, .int .i64 thi] 71) hW
            have LW : Later w5 w6 := by rw [hW]; exact ((Below.refl _ _).alloc (Nat.le_refl _) _)
            have szW : w6.heap.size = w5.heap.size + 1 := by rw [hW]; simp
            clear hW
            replace HM := hide HMn
            clear HMn LW
            clear szW
            generalize hgz : w5.heap.size = gz at HM ⊢
            by_cases hf0 : fk = 0
            · subst hf0
              have hyy := HYY.out
              rw [if_pos rfl] at hyy
              have hs2 := HS1.out
              rw [hyy] at hs2
              have hs3 : K (k + 1) = K k ++ [.int .i64 sx, .int .i64 sy, .int .i64 sl, .int .i64 tlo, .int .i64 thi] := hs2
              clear hyy hs2 HYY HS1 HBK
              generalize K k = xs at *
              have HS2 := hide hs3
              clear hs3
              go_upto_region 16 with fail
              have bo : Blk w6 gz 71 #[.int .i64 sx, .int .i64 sy, .int .i64 sl, .int .i64 tlo, .int .i64 thi] := HM.out.get 0 rfl
              have lto := bo.lt
              have o0 := bo.c 0 rfl
              have o1 := bo.c 1 rfl
              have o2 := bo.c 2 rfl
              have o3 := bo.c 3 rfl
              have o4 := bo.c 4 rfl
              have hbaseM : gs ≤ w6.heap.size := by rw [← hg0]; exact HM.out.size
              have hownM := Mem.row_ HM.out 2 rfl
              
              go_wp2_with (at_builtin; refine wpList_append_own_at _ rfl (.tmp 52) (.tmp 54) _ rfl _ 71 i0 _ 5 40 Try.underlying25 Hi.out Hz0.out Hz1.out Hz2.out rfl (by decide) _ k xs rfl (hownM.alloc _) ⟨w6.heap.size, 0, none⟩ 1 1 [.int .i64 sx, .int .i64 sy, .int .i64 sl, .int .i64 tlo, .int .i64 thi] rfl rfl ?q1c1 (by intro u hu; simp only [List.mem_cons, List.not_mem_nil, or_false] at hu; rcases hu with rfl | rfl | rfl | rfl | rfl <;> rfl) ?q1c3 ?q1c4 ?q1c5 ?_)
              try case q1c1 => exact new_cellsQ w6 _ [.int .i64 sx, .int .i64 sy, .int .i64 sl, .int .i64 tlo, .int .i64 thi]
              case q1c3 => unfold maxLen; omega
              case q1c4 => omega
              case q1c5 => first | omega | (simp; omega)
              intro vA w9 hown2 hgr2 _ hat2
              have HMn := HM.out.grow 2 rfl _ hgr2 hown2 hat2
              replace HM := hide HMn
              clear HMn hown2 hgr2 hat2 hownM hbaseM
              clear bo lto o0 o1 o2 o3 o4
              obtain ⟨A9, c9, rfl⟩ := own_shape2 (Mem.row_ HM.out 2 rfl)
              go_wp2_with fail
              go_roundw
              case rel => exact ⟨k + 1, A9, c9, by omega, by go_num, rfl, HNX.out (by simp), by rw [HS2.out]; exact HM.out.tail.tail⟩
              case measure => simp [intOf] <;> omega
            · have hd : (fk != 0) = true := by simp [hf0]
              obtain rfl : ev = fk := HBK.out hf0
              obtain rfl : RL = [] := by rw [← HRL.out, if_neg hf0]
              go_wp2
              exact bodyPost_ret (v := .tuple #[.slice none 0 0, .int .i64 ev]) (by simp [results, Try.results45, go_sem]) rfl ⟨none, 0, rfl, by first | exact HM.out.below | (rw [← hg0]; exact HM.out.below), by first | exact (HM.out.nilRow gs 71 5).row_ 0 rfl | exact (HM.out.nilRow w.heap.size 71 5).row_ 0 rfl⟩
          · obtain rfl : k = n := by omega
            have hkk : ¬ ((k : Int) < k) := by omega
            obtain rfl : ev = 0 := HNO.out HALL.out
            obtain rfl : RL = Q.map (ringS r t rlo rhi) := by rw [← HRL.out, if_pos rfl]
            go_wp2
            exact bodyPost_ret (v := .tuple #[.slice A' k c', .int .i64 0]) (by simp [results, Try.results45, go_sem]) rfl ⟨A', c', by rw [HQL.out], by first | exact HM.out.below | (rw [← hg0]; exact HM.out.below), by rw [HQL.out, ← HEND.out]; first | exact HM.out.row_ 0 rfl | (rw [hg0]; exact HM.out.row_ 0 rfl)⟩
      · rw [if_pos h2] at hE
        rw [hE, if_neg h2]
        have hd : (ge != 0) = true := by simp [h2]
        have HC := hide hC
        have HG := hide hG
        clear hC hG
        clear hK hlA hA hn hf hE hse hge
        go_enter Try.func45, Try.ntmps45
        have HM := hide (Mem.start w)
        go_upto_region 1 with fail
        refine code_world fun w1 hW => ?_
        have HMn := Mem.to (Mem.allocAt (Mem.allocAt HM.out w.heap.size rfl #[.string s, .int .i64 x, .int .i64 y, .int .i64 z, .int .i64 r, .int .i64 g, .int .i64 st, .int .i64 wd] 83) (w.heap.size + 1) (by simp) #[.int .i64 rlo, .int .i64 rhi] 32) hW
        have LW : Later w w1 := by rw [hW]; exact (((Below.refl _ _).alloc (Nat.le_refl _) _).alloc (by simp; try omega) _)
        have szW : w1.heap.size = w.heap.size + 2 := by rw [hW]; simp
        clear hW
        replace HM := hide HMn
        clear HMn LW
        clear szW
        generalize hg1 : w.heap.size + 1 = gr at HM ⊢
        generalize hg0 : w.heap.size = gs at HM ⊢
        have bd : Blk w1 gs 83 #[.string s, .int .i64 x, .int .i64 y, .int .i64 z, .int .i64 r, .int .i64 g, .int .i64 st, .int .i64 wd] := HM.out.get 1 rfl
        have ltd := bd.lt
        have d0 := bd.c 0 rfl
        have d1 := bd.c 1 rfl
        have d2 := bd.c 2 rfl
        have d3 := bd.c 3 rfl
        have d4 := bd.c 4 rfl
        have d5 := bd.c 5 rfl
        have d6 := bd.c 6 rfl
        have d7 := bd.c 7 rfl
        go_wp2_with fail
        refine (HC.out _).mono ?_
        rintro e w2 ⟨rfl, hb⟩
        replace HM := hide (HM.out.later hb)
        clear hb bd ltd d0 d1 d2 d3 d4 d5 d6 d7
        have bd : Blk w2 gs 83 #[.string s, .int .i64 x, .int .i64 y, .int .i64 z, .int .i64 r, .int .i64 g, .int .i64 st, .int .i64 wd] := HM.out.get 1 rfl
        have ltd := bd.lt
        have d0 := bd.c 0 rfl
        have d1 := bd.c 1 rfl
        have d2 := bd.c 2 rfl
        have d3 := bd.c 3 rfl
        have d4 := bd.c 4 rfl
        have d5 := bd.c 5 rfl
        have d6 := bd.c 6 rfl
        have d7 := bd.c 7 rfl
        have be : Blk w2 gr 32 #[.int .i64 rlo, .int .i64 rhi] := HM.out.get 0 rfl
        have lte := be.lt
        have e0 := be.c 0 rfl
        have e1 := be.c 1 rfl
        go_wp2_with fail
        refine (HG.out _).mono ?_
        rintro e w3 ⟨rfl, hb⟩
        replace HM := hide (HM.out.later hb)
        clear hb bd ltd d0 d1 d2 d3 d4 d5 d6 d7 be lte e0 e1
        go_wp2
        exact bodyPost_ret (v := .tuple #[.slice none 0 0, .int .i64 ge]) (by simp [results, Try.results45, go_sem]) rfl ⟨none, 0, rfl, by first | exact HM.out.below | (rw [← hg0]; exact HM.out.below), by first | exact (HM.out.nilRow gs 71 5).row_ 0 rfl | exact (HM.out.nilRow w.heap.size 71 5).row_ 0 rfl⟩
  · rw [if_pos h0] at hE
    rw [hE, if_neg h0]
    have hd : (se != 0) = true := by simp [h0]
    have HC := hide hC
    clear hC
    clear hG hK hlA hA hn hf hE hse hge
    go_enter Try.func45, Try.ntmps45
    have HM := hide (Mem.start w)
    go_upto_region 1 with fail
    refine code_world fun w1 hW => ?_
    have HMn := Mem.to (Mem.allocAt (Mem.allocAt HM.out w.heap.size rfl #[.string s, .int .i64 x, .int .i64 y, .int .i64 z, .int .i64 r, .int .i64 g, .int .i64 st, .int .i64 wd] 83) (w.heap.size + 1) (by simp) #[.int .i64 rlo, .int .i64 rhi] 32) hW
    have LW : Later w w1 := by rw [hW]; exact (((Below.refl _ _).alloc (Nat.le_refl _) _).alloc (by simp; try omega) _)
    have szW : w1.heap.size = w.heap.size + 2 := by rw [hW]; simp
    clear hW
    replace HM := hide HMn
    clear HMn LW
    clear szW
    generalize hg1 : w.heap.size + 1 = gr at HM ⊢
    generalize hg0 : w.heap.size = gs at HM ⊢
    have bd : Blk w1 gs 83 #[.string s, .int .i64 x, .int .i64 y, .int .i64 z, .int .i64 r, .int .i64 g, .int .i64 st, .int .i64 wd] := HM.out.get 1 rfl
    have ltd := bd.lt
    have d0 := bd.c 0 rfl
    have d1 := bd.c 1 rfl
    have d2 := bd.c 2 rfl
    have d3 := bd.c 3 rfl
    have d4 := bd.c 4 rfl
    have d5 := bd.c 5 rfl
    have d6 := bd.c 6 rfl
    have d7 := bd.c 7 rfl
    go_wp2_with fail
    refine (HC.out _).mono ?_
    rintro e w2 ⟨rfl, hb⟩
    replace HM := hide (HM.out.later hb)
    clear hb bd ltd d0 d1 d2 d3 d4 d5 d6 d7
    go_wp2
    exact bodyPost_ret (v := .tuple #[.slice none 0 0, .int .i64 se]) (by simp [results, Try.results45, go_sem]) rfl ⟨none, 0, rfl, by first | exact HM.out.below | (rw [← hg0]; exact HM.out.below), by first | exact (HM.out.nilRow gs 71 5).row_ 0 rfl | exact (HM.out.nilRow w.heap.size 71 5).row_ 0 rfl⟩
end Go.Proofs.Ytllpffkifleigaa
end
section
namespace Go.Proofs.Ytllpffkifleigaa
open Go Go.RowKit

theorem RaysAtW.later {w w' : World} {A : Option Addr} {Q : List RayQ} (h : RaysAtW w A Q) (hb : Below w.heap.size w w') : RaysAtW w' A Q := fun hn => by
  obtain ⟨b, off, e, hl, hc⟩ := h hn
  refine ⟨b, off, e, Nat.lt_of_lt_of_le hl hb.size, fun i hi => ?_⟩
  obtain ⟨c1, c2, c3⟩ := hc i hi
  exact ⟨(hb.cell hl).trans c1, (hb.cell hl).trans c2, (hb.cell hl).trans c3⟩
theorem SeensAt.later {w w' : World} {A : Option Addr} {Q : List SeenQ} (h : SeensAt w A Q) (hb : Below w.heap.size w w') : SeensAt w' A Q := fun hn => by
  obtain ⟨b, off, e, hl, hc⟩ := h hn
  refine ⟨b, off, e, Nat.lt_of_lt_of_le hl hb.size, fun i hi => ?_⟩
  obtain ⟨c0, c1, c2, c3, c4, c5, c6, c7, c8, c9, c10, c11, c12⟩ := hc i hi
  exact ⟨(hb.cell hl).trans c0, (hb.cell hl).trans c1, (hb.cell hl).trans c2, (hb.cell hl).trans c3, (hb.cell hl).trans c4, (hb.cell hl).trans c5, (hb.cell hl).trans c6, (hb.cell hl).trans c7, (hb.cell hl).trans c8, (hb.cell hl).trans c9, (hb.cell hl).trans c10, (hb.cell hl).trans c11, (hb.cell hl).trans c12⟩
theorem rsgts_own {w : World} {base c n : Nat} {A : Option Addr} {L : List Sgt} (hn : L.length = n) (h : w.ownsRow base 88 5 (.slice A n c) n (sgsV L)) : SgtsH w A L := fun hl => by
  obtain ⟨b, cur, rfl, -, hb, -, -, hc⟩ := row_blk h (by omega)
  exact sgts_blk hb hc hl
theorem lookA_i64 {s : ByteArray} {x y z r g st wd t ray slo shi rlo rhi : Int} : I64 (lookA (siteE (nameB s) x y z r g st wd) r t ray slo shi rlo rhi).x ∧ I64 (lookA (siteE (nameB s) x y z r g st wd) r t ray slo shi rlo rhi).y := by
  unfold lookA
  split
  · rename_i h
    unfold lookE at h
    split at h
    · rename_i h1
      exact absurd h h1
    · rename_i h1
      split at h
      · rename_i h2
        obtain ⟨a0, a1⟩ := winB_iff.1 h2.1
        obtain ⟨hse, -⟩ := gateE_ok (Classical.not_not.1 h1)
        obtain ⟨-, -, -, -, -, -, -, ro1, ro2, -⟩ := siteE_ok hse
        obtain ⟨l1, l2, x1, x2, y1, y2, -⟩ := dir_ok2 ro1 ro2 a0 a1
        unfold lookS I64
        simp only
        omega
      · cases h
  · unfold sg0 I64
    simp
end Go.Proofs.Ytllpffkifleigaa
end
