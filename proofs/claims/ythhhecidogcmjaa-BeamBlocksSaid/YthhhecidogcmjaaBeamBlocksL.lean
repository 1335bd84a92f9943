/-
  The law BeamBlocks returns true: the walk.
-/
import Derived.Test.YthhhecidogcmjaaRefBlocked
import Derived.Test.YthhhecidogcmjaaHill
namespace Go.Proofs.Ythhhecidogcmjaa
open Go Go.RowKit

set_option maxHeartbeats 1000000 in
set_option maxRecDepth 100000 in
theorem spans_any (A B : Option Addr) (n ca cb BB : Nat) (l : List (Int × Int)) (w : World) (hn : l.length = n) (hmax : n ≤ 9223372036854775807) (hBB : BB ≤ w.heap.size) (ha : Ints w BB .i64 A (flat2 l)) (hb : Ints w BB .i64 B (flat2 l)) :
    Calls Try.prog 44 #[.slice A n ca, .slice B n cb] w fun e w' => e = .returned (.bool true) ∧ Below w.heap.size w w' := by
  have Hn := hide hn
  have Ha := hide ha
  have Hb := hide hb
  clear hn ha hb
  go_enter Try.func44, Try.ntmps44
  go_wp2_with fail
  go_loopw [5] (fun i wr => ∃ k : Nat, k ≤ n ∧ i = .int .i64 k ∧ Below w.heap.size w wr) (fun i _ => n - (intOf i).toNat)
  case atStart => exact ⟨0, by omega, rfl, Below.refl _ _⟩
  case round =>
    obtain ⟨k, hk, rfl, hbw⟩ := hrel
    have HB := hide hbw
    clear hbw
    have hsw := HB.out.size
    by_cases hlt : k < n
    · obtain ⟨b, off, rfl, hb1, hc⟩ := Ha.out.pt (by have := Hn.out; omega)
      obtain ⟨b', off', rfl, hb2, hc'⟩ := Hb.out.pt (by have := Hn.out; omega)
      obtain ⟨p0, p1⟩ := hc k (by have := Hn.out; omega)
      obtain ⟨q0, q1⟩ := hc' k (by have := Hn.out; omega)
      rw [← HB.out.cell (show b < w.heap.size by omega)] at p0 p1
      rw [← HB.out.cell (show b' < w.heap.size by omega)] at q0 q1
      generalize l.getD k (0, 0) = v at p0 p1 q0 q1
      obtain ⟨v0, v1⟩ := v
      simp only at p0 p1 q0 q1
      clear hc hc'
      go_wp2_with fail
      go_quiet (fail)
      go_wp2
      go_roundw
      case rel => exact ⟨k + 1, by omega, by go_num, below_drewN HB.out _⟩
      case measure => simp [intOf]; omega
    · obtain rfl : k = n := by omega
      go_wp2
      go_ret
      exact ⟨rfl, HB.out⟩

theorem blk_S : blockE (siteE (nameB ⟨#[115]⟩) 0 0 100 2 4 1000 1) (fieldE (gridE (-5000) (-5000) 5000 2 2) 4 2 2 hillL 20000) 0 10000000 10000000 0 2 = 0 := by decide +kernel
theorem row_S : rowL (rowsZ (csB (groundZ hillL 0 0 2 1000 0 0 (-5000) (-5000) 5000 2 2) 100 1000 10000000 (0 - 1)) (cmB (groundZ hillL 0 0 2 1000 0 0 (-5000) (-5000) 5000 2 2) 100 1000 10000000 (0 - 1)) (2 * (1 : Int) + 1).toNat) (4 : Int).toNat = [(3, 3), (3, 3), (3, 3), (3, 3)] := by decide +kernel
def blkL (ev : Int) (r : Nat → Int × Int) (G : Nat) : List (Int × Int) := if ev = 0 then rowL r G else []
theorem blkL_bd {ev : Int} {r : Nat → Int × Int} {G : Nat} (h : ev = 0 → G ≤ 200) : (blkL ev r G).length ≤ 200 := by
  unfold blkL
  split
  · rename_i he
    rw [rowL_length]
    exact h he
  · simp
theorem blk_flat {w w' : World} {ev : Int} {r : Nat → Int × Int} {G : Nat} {e : Ending} (h : BlockPost w ev r G e w') :
    ∃ A c, e = .returned (.tuple #[.slice A (blkL ev r G).length c, .int .i64 ev]) ∧ Below w.heap.size w w' ∧ Ints w' w'.heap.size .i64 A (flat2 (blkL ev r G)) := by
  obtain ⟨A, c, he, hb, hi⟩ := h
  unfold blkL
  by_cases h0 : ev = 0
  · exact ⟨A, c, by rw [he, if_pos h0, if_pos h0, rowL_length], hb, by rw [if_pos h0]; exact hi h0⟩
  · exact ⟨A, c, by rw [he, if_neg h0, if_neg h0]; rfl, hb, by rw [if_neg h0]; exact Ints.nil_ _ _ _ _⟩
theorem ints_blk {w : World} {g : Nat} {t : TypeId} {zs : List Int} (h : Blk w g t ⟨zs.map (Value.int .i64)⟩) : Ints w w.heap.size .i64 (some ⟨g, 0, none⟩) zs := fun _ => by
  refine ⟨g, 0, rfl, h.lt, fun k hk => ?_⟩
  rw [Nat.zero_add, h.cell k]
  simp [List.getD, hk]

set_option maxHeartbeats 4000000 in
set_option maxRecDepth 100000 in
theorem BeamBlocks_any (s : ByteArray) (sx sy z r g st wd t elo ehi gx gy gs wi hi : Int) (A : Option Addr) (n c : Nat) (l : List (Int × Int)) (ray : Int) (w : World) (hs : s.size ≤ 9223372036854775807)
    (hn : l.length = n) (hmax : n ≤ 9223372036854775807) (hl : Ints w w.heap.size .i64 A (flat2 l)) :
    Calls Try.prog 9 #[siteV s sx sy z r g st wd, .int .i64 t, .agg #[.int .i64 elo, .int .i64 ehi], fieldV gx gy gs wi hi A n c, .int .i64 ray] w fun e w' => e = .returned (.bool true) ∧ Below w.heap.size w w' := by
  have hfew := fun W => few_any s sx sy z r g st wd gx gy gs wi hi W hs
  have hv1 := fun W (hl : Ints W W.heap.size .i64 A (flat2 l)) => (Blocked_any s sx sy z r g st wd t elo ehi gx gy gs wi hi A n c l ray W hs hn hmax hl).mono fun _ _ h => blk_flat h
  have hv2 := fun W (hl : Ints W W.heap.size .i64 A (flat2 l)) => (RefBlocked_any s sx sy z r g st wd t elo ehi gx gy gs wi hi A n c l ray W hs hn hmax hl).mono fun _ _ h => blk_flat h
  have hv3 := fun A c W (hl : Ints W W.heap.size .i64 A (flat2 hillL)) => (Blocked_any ⟨#[115]⟩ 0 0 100 2 4 1000 1 0 10000000 10000000 (-5000) (-5000) 5000 2 2 A 4 c hillL 0 W (by decide) rfl (by omega) hl).mono fun _ _ h => blk_flat h
  rw [blk_S] at hv3
  unfold blkL at hv3
  rw [if_pos rfl, row_S] at hv3
  have hbd : (blkL (blockE (siteE (nameB s) sx sy z r g st wd) (fieldE (gridE gx gy gs wi hi) n wi hi l 20000) t elo ehi ray r) (rowsZ (csB (groundZ l sx sy r st t ray gx gy gs wi hi) z st elo (t - wd)) (cmB (groundZ l sx sy r st t ray gx gy gs wi hi) z st ehi (t - wd)) (2 * wd + 1).toNat) g.toNat).length ≤ 200 := blkL_bd fun he => by
    have hse : siteE (nameB s) sx sy z r g st wd = 0 := by
      unfold blockE at he
      split at he
      · rename_i h; exact absurd he h
      · rename_i h; exact Classical.not_not.1 h
    have := siteE_ok hse
    omega
  generalize blkL (blockE (siteE (nameB s) sx sy z r g st wd) (fieldE (gridE gx gy gs wi hi) n wi hi l 20000) t elo ehi ray r) (rowsZ (csB (groundZ l sx sy r st t ray gx gy gs wi hi) z st elo (t - wd)) (cmB (groundZ l sx sy r st t ray gx gy gs wi hi) z st ehi (t - wd)) (2 * wd + 1).toNat) g.toNat = L at *
  generalize blockE (siteE (nameB s) sx sy z r g st wd) (fieldE (gridE gx gy gs wi hi) n wi hi l 20000) t elo ehi ray r = ev at *
  generalize decide (r ≤ 20 ∧ g ≤ 60 ∧ wi ≤ 16 ∧ hi ≤ 16 ∧ (s.size : Int) ≤ 20) = fb at *
  obtain ⟨m, hm⟩ : ∃ m, L.length = m := ⟨_, rfl⟩
  rw [hm] at hbd hv1 hv2
  unfold siteV fieldV at *
  simp only [List.length_cons, List.length_nil, Nat.zero_add, Nat.reduceAdd] at hv3
  have Hfew := hide hfew
  have Hv1 := hide hv1
  have Hv2 := hide hv2
  have Hv3 := hide hv3
  have Hbd := hide hbd
  have Hm := hide hm
  have Hl := hide hl
  have Hn := hide hn
  clear hfew hv1 hv2 hv3 hbd hm hl hn
  cases fb with
  | false =>
    go_enter Try.func9, Try.ntmps9
    have HB := hide (Below.refl w.heap.size w)
    go_wp2_with fail
    refine at_world fun W hW => ?_
    have bq0 : Blk W w.heap.size 33 #[.string s, .int .i64 sx, .int .i64 sy, .int .i64 z, .int .i64 r, .int .i64 g, .int .i64 st, .int .i64 wd] := by rw [hW]; exact ((Blk.new _ _ _).alloc _).alloc _
    have bq1 : Blk W (w.heap.size + 1) 47 #[.int .i64 elo, .int .i64 ehi] := by rw [hW]; exact (blk_new_at (by simp)).alloc _
    have bq2 : Blk W (w.heap.size + 2) 38 #[.int .i64 gx, .int .i64 gy, .int .i64 gs, .int .i64 wi, .int .i64 hi, .slice A n c] := by rw [hW]; exact blk_new_at (by simp)
    have LW : Later w W := by rw [hW]; exact ((((Below.refl _ _).alloc (Nat.le_refl _) _).alloc (by simp; try omega) _).alloc (by simp; try omega) _)
    have szW : W.heap.size = w.heap.size + 3 := by rw [hW]; simp
    clear hW
    replace Hl := hide ((Ints.below Hl.out LW).more (Below.size LW))
    replace HB := hide (onward HB.out LW)
    have Hq := hide bq0
    have He := hide bq1
    have Hf := hide bq2
    clear bq0 bq1 bq2 LW szW
    refine (Hfew.out _).mono ?_
    rintro e w1 ⟨rfl, hb⟩
    replace Hl := hide ((Ints.below Hl.out hb).more (Below.size hb))
    replace HB := hide (onward HB.out hb)
    replace Hq := hide (blk_later Hq.out hb)
    replace He := hide (blk_later He.out hb)
    replace Hf := hide (blk_later Hf.out hb)
    clear hb
    go_wp2_with fail
    refine (works_any _).mono ?_
    rintro e w9 ⟨rfl, hb⟩
    replace Hl := hide ((Ints.below Hl.out hb).more (Below.size hb))
    replace HB := hide (onward HB.out hb)
    replace Hq := hide (blk_later Hq.out hb)
    replace He := hide (blk_later He.out hb)
    replace Hf := hide (blk_later Hf.out hb)
    clear hb
    go_wp2
    go_ret
    exact ⟨rfl, HB.out⟩
  | true =>
    by_cases h3 : (300 : Int) < n
    · go_enter Try.func9, Try.ntmps9
      have HB := hide (Below.refl w.heap.size w)
      go_wp2_with fail
      refine at_world fun W hW => ?_
      have bq0 : Blk W w.heap.size 33 #[.string s, .int .i64 sx, .int .i64 sy, .int .i64 z, .int .i64 r, .int .i64 g, .int .i64 st, .int .i64 wd] := by rw [hW]; exact ((Blk.new _ _ _).alloc _).alloc _
      have bq1 : Blk W (w.heap.size + 1) 47 #[.int .i64 elo, .int .i64 ehi] := by rw [hW]; exact (blk_new_at (by simp)).alloc _
      have bq2 : Blk W (w.heap.size + 2) 38 #[.int .i64 gx, .int .i64 gy, .int .i64 gs, .int .i64 wi, .int .i64 hi, .slice A n c] := by rw [hW]; exact blk_new_at (by simp)
      have LW : Later w W := by rw [hW]; exact ((((Below.refl _ _).alloc (Nat.le_refl _) _).alloc (by simp; try omega) _).alloc (by simp; try omega) _)
      have szW : W.heap.size = w.heap.size + 3 := by rw [hW]; simp
      clear hW
      replace Hl := hide ((Ints.below Hl.out LW).more (Below.size LW))
      replace HB := hide (onward HB.out LW)
      have Hq := hide bq0
      have He := hide bq1
      have Hf := hide bq2
      clear bq0 bq1 bq2 LW szW
      refine (Hfew.out _).mono ?_
      rintro e w1 ⟨rfl, hb⟩
      replace Hl := hide ((Ints.below Hl.out hb).more (Below.size hb))
      replace HB := hide (onward HB.out hb)
      replace Hq := hide (blk_later Hq.out hb)
      replace He := hide (blk_later He.out hb)
      replace Hf := hide (blk_later Hf.out hb)
      clear hb
      obtain ⟨e0, e1, e2, e3, e4, e5⟩ := Hf.out.c6
      have ltf := Hf.out.lt
      go_wp2_with fail
      clear e0 e1 e2 e3 e4 e5 ltf
      refine (works_any _).mono ?_
      rintro e w9 ⟨rfl, hb⟩
      replace Hl := hide ((Ints.below Hl.out hb).more (Below.size hb))
      replace HB := hide (onward HB.out hb)
      replace Hq := hide (blk_later Hq.out hb)
      replace He := hide (blk_later He.out hb)
      replace Hf := hide (blk_later Hf.out hb)
      clear hb
      go_wp2
      go_ret
      exact ⟨rfl, HB.out⟩
    · go_enter Try.func9, Try.ntmps9
      have HB := hide (Below.refl w.heap.size w)
      go_wp2_with fail
      refine at_world fun W hW => ?_
      have bq0 : Blk W w.heap.size 33 #[.string s, .int .i64 sx, .int .i64 sy, .int .i64 z, .int .i64 r, .int .i64 g, .int .i64 st, .int .i64 wd] := by rw [hW]; exact ((Blk.new _ _ _).alloc _).alloc _
      have bq1 : Blk W (w.heap.size + 1) 47 #[.int .i64 elo, .int .i64 ehi] := by rw [hW]; exact (blk_new_at (by simp)).alloc _
      have bq2 : Blk W (w.heap.size + 2) 38 #[.int .i64 gx, .int .i64 gy, .int .i64 gs, .int .i64 wi, .int .i64 hi, .slice A n c] := by rw [hW]; exact blk_new_at (by simp)
      have LW : Later w W := by rw [hW]; exact ((((Below.refl _ _).alloc (Nat.le_refl _) _).alloc (by simp; try omega) _).alloc (by simp; try omega) _)
      have szW : W.heap.size = w.heap.size + 3 := by rw [hW]; simp
      clear hW
      replace Hl := hide ((Ints.below Hl.out LW).more (Below.size LW))
      replace HB := hide (onward HB.out LW)
      have Hq := hide bq0
      have He := hide bq1
      have Hf := hide bq2
      clear bq0 bq1 bq2 LW szW
      refine (Hfew.out _).mono ?_
      rintro e w1 ⟨rfl, hb⟩
      replace Hl := hide ((Ints.below Hl.out hb).more (Below.size hb))
      replace HB := hide (onward HB.out hb)
      replace Hq := hide (blk_later Hq.out hb)
      replace He := hide (blk_later He.out hb)
      replace Hf := hide (blk_later Hf.out hb)
      clear hb
      obtain ⟨q0, q1, q2, q3, q4, q5, q6, q7⟩ := Hq.out.site8
      have lts := Hq.out.lt
      obtain ⟨v0, v1⟩ := He.out.c2
      have ltv := He.out.lt
      obtain ⟨e0, e1, e2, e3, e4, e5⟩ := Hf.out.c6
      have ltf := Hf.out.lt
      go_wp2_with fail
      clear q0 q1 q2 q3 q4 q5 q6 q7 lts e0 e1 e2 e3 e4 e5 ltf
      refine (Hv1.out _ Hl.out).mono ?_
      rintro e w2 ⟨Aa, ca, rfl, hb, hi1⟩
      replace Hl := hide ((Ints.below Hl.out hb).more (Below.size hb))
      replace HB := hide (onward HB.out hb)
      replace Hq := hide (blk_later Hq.out hb)
      replace He := hide (blk_later He.out hb)
      replace Hf := hide (blk_later Hf.out hb)
      clear hb v0 v1 ltv
      have Hi1 := hide hi1
      clear hi1
      obtain ⟨q0, q1, q2, q3, q4, q5, q6, q7⟩ := Hq.out.site8
      have lts := Hq.out.lt
      obtain ⟨v0, v1⟩ := He.out.c2
      have ltv := He.out.lt
      obtain ⟨e0, e1, e2, e3, e4, e5⟩ := Hf.out.c6
      have ltf := Hf.out.lt
      go_wp2_with fail
      clear q0 q1 q2 q3 q4 q5 q6 q7 lts e0 e1 e2 e3 e4 e5 ltf
      refine (Hv2.out _ Hl.out).mono ?_
      rintro e w3 ⟨Ab, cb, rfl, hb, hi2⟩
      replace Hl := hide ((Ints.below Hl.out hb).more (Below.size hb))
      replace Hi1 := hide ((Ints.below Hi1.out hb).more (Below.size hb))
      replace HB := hide (onward HB.out hb)
      replace Hq := hide (blk_later Hq.out hb)
      replace He := hide (blk_later He.out hb)
      replace Hf := hide (blk_later Hf.out hb)
      clear hb v0 v1 ltv
      have Hi2 := hide hi2
      clear hi2
      go_wp2_with fail
      refine (S_any _).mono ?_
      rintro e w4 ⟨rfl, hb⟩
      replace Hl := hide ((Ints.below Hl.out hb).more (Below.size hb))
      replace Hi1 := hide ((Ints.below Hi1.out hb).more (Below.size hb))
      replace Hi2 := hide ((Ints.below Hi2.out hb).more (Below.size hb))
      replace HB := hide (onward HB.out hb)
      replace Hq := hide (blk_later Hq.out hb)
      replace He := hide (blk_later He.out hb)
      replace Hf := hide (blk_later Hf.out hb)
      clear hb
      unfold siteV
      go_wp2_with fail
      refine (point_any _ _).mono ?_
      rintro e w5 ⟨rfl, hb⟩
      replace Hl := hide ((Ints.below Hl.out hb).more (Below.size hb))
      replace Hi1 := hide ((Ints.below Hi1.out hb).more (Below.size hb))
      replace Hi2 := hide ((Ints.below Hi2.out hb).more (Below.size hb))
      replace HB := hide (onward HB.out hb)
      replace Hq := hide (blk_later Hq.out hb)
      replace He := hide (blk_later He.out hb)
      replace Hf := hide (blk_later Hf.out hb)
      clear hb
      go_wp2_with fail
      refine (Hill_any _).mono ?_
      rintro e w6 ⟨Ah, ch, rfl, hb, hi3⟩
      replace Hl := hide ((Ints.below Hl.out hb).more (Below.size hb))
      replace Hi1 := hide ((Ints.below Hi1.out hb).more (Below.size hb))
      replace Hi2 := hide ((Ints.below Hi2.out hb).more (Below.size hb))
      replace HB := hide (onward HB.out hb)
      replace Hq := hide (blk_later Hq.out hb)
      replace He := hide (blk_later He.out hb)
      replace Hf := hide (blk_later Hf.out hb)
      clear hb
      unfold hillV fieldV
      have Hi3 := hide (Ints.own (k := .i64) (zs := flat2 hillL) hi3 rfl (Nat.le_refl _))
      clear hi3
      go_wp2_with fail
      refine (Hv3.out _ _ _ Hi3.out).mono ?_
      rintro e w7 ⟨Ac, cc, rfl, hb, hi4⟩
      replace Hl := hide ((Ints.below Hl.out hb).more (Below.size hb))
      replace Hi1 := hide ((Ints.below Hi1.out hb).more (Below.size hb))
      replace Hi2 := hide ((Ints.below Hi2.out hb).more (Below.size hb))
      replace Hi3 := hide ((Ints.below Hi3.out hb).more (Below.size hb))
      replace HB := hide (onward HB.out hb)
      replace Hq := hide (blk_later Hq.out hb)
      replace He := hide (blk_later He.out hb)
      replace Hf := hide (blk_later Hf.out hb)
      clear hb
      have Hi4 := hide hi4
      clear hi4
      go_wp2_with fail
      refine (spans_any _ _ _ _ _ _ L _ Hm.out (by have := Hbd.out; omega) (Nat.le_refl _) Hi1.out Hi2.out).mono ?_
      rintro e w8 ⟨rfl, hb⟩
      replace Hl := hide ((Ints.below Hl.out hb).more (Below.size hb))
      replace Hi1 := hide ((Ints.below Hi1.out hb).more (Below.size hb))
      replace Hi2 := hide ((Ints.below Hi2.out hb).more (Below.size hb))
      replace Hi3 := hide ((Ints.below Hi3.out hb).more (Below.size hb))
      replace Hi4 := hide ((Ints.below Hi4.out hb).more (Below.size hb))
      replace HB := hide (onward HB.out hb)
      replace Hq := hide (blk_later Hq.out hb)
      replace He := hide (blk_later He.out hb)
      replace Hf := hide (blk_later Hf.out hb)
      clear hb
      go_wp2_with fail
      refine (point_any _ _).mono ?_
      rintro e w9 ⟨rfl, hb⟩
      replace Hl := hide ((Ints.below Hl.out hb).more (Below.size hb))
      replace Hi1 := hide ((Ints.below Hi1.out hb).more (Below.size hb))
      replace Hi2 := hide ((Ints.below Hi2.out hb).more (Below.size hb))
      replace Hi3 := hide ((Ints.below Hi3.out hb).more (Below.size hb))
      replace Hi4 := hide ((Ints.below Hi4.out hb).more (Below.size hb))
      replace HB := hide (onward HB.out hb)
      replace Hq := hide (blk_later Hq.out hb)
      replace He := hide (blk_later He.out hb)
      replace Hf := hide (blk_later Hf.out hb)
      clear hb
      go_wp2_with fail
      refine (point_any _ _).mono ?_
      rintro e w10 ⟨rfl, hb⟩
      replace Hl := hide ((Ints.below Hl.out hb).more (Below.size hb))
      replace Hi1 := hide ((Ints.below Hi1.out hb).more (Below.size hb))
      replace Hi2 := hide ((Ints.below Hi2.out hb).more (Below.size hb))
      replace Hi3 := hide ((Ints.below Hi3.out hb).more (Below.size hb))
      replace Hi4 := hide ((Ints.below Hi4.out hb).more (Below.size hb))
      replace HB := hide (onward HB.out hb)
      replace Hq := hide (blk_later Hq.out hb)
      replace He := hide (blk_later He.out hb)
      replace Hf := hide (blk_later Hf.out hb)
      clear hb
      go_wp2_with fail
      refine (point_any _ _).mono ?_
      rintro e w11 ⟨rfl, hb⟩
      replace Hl := hide ((Ints.below Hl.out hb).more (Below.size hb))
      replace Hi1 := hide ((Ints.below Hi1.out hb).more (Below.size hb))
      replace Hi2 := hide ((Ints.below Hi2.out hb).more (Below.size hb))
      replace Hi3 := hide ((Ints.below Hi3.out hb).more (Below.size hb))
      replace Hi4 := hide ((Ints.below Hi4.out hb).more (Below.size hb))
      replace HB := hide (onward HB.out hb)
      replace Hq := hide (blk_later Hq.out hb)
      replace He := hide (blk_later He.out hb)
      replace Hf := hide (blk_later Hf.out hb)
      clear hb
      go_wp2_with fail
      refine (point_any _ _).mono ?_
      rintro e w12 ⟨rfl, hb⟩
      replace Hl := hide ((Ints.below Hl.out hb).more (Below.size hb))
      replace Hi1 := hide ((Ints.below Hi1.out hb).more (Below.size hb))
      replace Hi2 := hide ((Ints.below Hi2.out hb).more (Below.size hb))
      replace Hi3 := hide ((Ints.below Hi3.out hb).more (Below.size hb))
      replace Hi4 := hide ((Ints.below Hi4.out hb).more (Below.size hb))
      replace HB := hide (onward HB.out hb)
      replace Hq := hide (blk_later Hq.out hb)
      replace He := hide (blk_later He.out hb)
      replace Hf := hide (blk_later Hf.out hb)
      clear hb
      go_wp2_with fail
      refine at_world fun W13 hW => ?_
      have bq0 : Blk W13 w12.heap.size 47 #[.int .i64 3, .int .i64 3, .int .i64 3, .int .i64 3, .int .i64 3, .int .i64 3, .int .i64 3, .int .i64 3] := by rw [hW]; exact Blk.new _ _ _
      have LW : Later w12 W13 := by rw [hW]; exact ((Below.refl _ _).alloc (Nat.le_refl _) _)
      have szW : W13.heap.size = w12.heap.size + 1 := by rw [hW]; simp
      clear hW
      replace Hl := hide ((Ints.below Hl.out LW).more (Below.size LW))
      replace Hi1 := hide ((Ints.below Hi1.out LW).more (Below.size LW))
      replace Hi2 := hide ((Ints.below Hi2.out LW).more (Below.size LW))
      replace Hi3 := hide ((Ints.below Hi3.out LW).more (Below.size LW))
      replace Hi4 := hide ((Ints.below Hi4.out LW).more (Below.size LW))
      replace HB := hide (onward HB.out LW)
      replace Hq := hide (blk_later Hq.out LW)
      replace He := hide (blk_later He.out LW)
      replace Hf := hide (blk_later Hf.out LW)
      have Hlit := hide bq0
      clear bq0 LW szW
      have Hlit2 := hide (ints_blk (zs := flat2 [(3, 3), (3, 3), (3, 3), (3, 3)]) Hlit.out)
      refine (spans_any _ _ _ _ _ _ [(3, 3), (3, 3), (3, 3), (3, 3)] _ rfl (by simp) (Nat.le_refl _) Hi4.out Hlit2.out).mono ?_
      rintro e w14 ⟨rfl, hb⟩
      replace Hl := hide ((Ints.below Hl.out hb).more (Below.size hb))
      replace Hi1 := hide ((Ints.below Hi1.out hb).more (Below.size hb))
      replace Hi2 := hide ((Ints.below Hi2.out hb).more (Below.size hb))
      replace Hi3 := hide ((Ints.below Hi3.out hb).more (Below.size hb))
      replace Hi4 := hide ((Ints.below Hi4.out hb).more (Below.size hb))
      replace HB := hide (onward HB.out hb)
      replace Hq := hide (blk_later Hq.out hb)
      replace He := hide (blk_later He.out hb)
      replace Hf := hide (blk_later Hf.out hb)
      replace Hlit := hide (blk_later Hlit.out hb)
      clear hb
      go_wp2_with fail
      refine (works_any _).mono ?_
      rintro e w15 ⟨rfl, hb⟩
      replace Hl := hide ((Ints.below Hl.out hb).more (Below.size hb))
      replace Hi1 := hide ((Ints.below Hi1.out hb).more (Below.size hb))
      replace Hi2 := hide ((Ints.below Hi2.out hb).more (Below.size hb))
      replace Hi3 := hide ((Ints.below Hi3.out hb).more (Below.size hb))
      replace Hi4 := hide ((Ints.below Hi4.out hb).more (Below.size hb))
      replace HB := hide (onward HB.out hb)
      replace Hq := hide (blk_later Hq.out hb)
      replace He := hide (blk_later He.out hb)
      replace Hf := hide (blk_later Hf.out hb)
      replace Hlit := hide (blk_later Hlit.out hb)
      clear hb
      go_wp2
      go_ret
      exact ⟨rfl, HB.out⟩
end Go.Proofs.Ythhhecidogcmjaa
