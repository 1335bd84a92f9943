/-
  What a grid sees of a site: the reference's View.
-/
import Derived.Test.YthhhecidogcmjaaMiddle
namespace Go.Proofs.Ythhhecidogcmjaa
open Go Go.RowKit

theorem intInfo : (Try.prog.info? 3).map (fun i => (i.zero, i.size, i.bytes)) = some (some (.int .i64 0), 1, 8) := by kernel_rfl
theorem new_cells (w : World) (t : TypeId) (l : List Value) (j : Nat) (u : Value) (h : l[j]? = some u) : (w.alloc (.cells ⟨l⟩ t)).cell? ((⟨w.heap.size, 0, none⟩ : Addr).add j) = some u := by
  rw [show (⟨w.heap.size, 0, none⟩ : Addr).add j = ⟨w.heap.size, j, none⟩ by unfold Addr.add; split <;> simp_all]
  rw [(Blk.new w t ⟨l⟩).cell j]; simpa using h
theorem own_slice {w : World} {base : Nat} {e : TypeId} {size n : Nat} {v : Value} {xs : List Value} (h : w.ownsRow base e size v n xs) : ∃ A c, v = .slice A n c := by
  rcases h.2 with ⟨hv, h0⟩ | ⟨g, cap, _, hv, _⟩
  · exact ⟨none, 0, by rw [hv, h0]⟩
  · exact ⟨_, _, hv⟩
def viewE (se ge t : Int) : Int := if se ≠ 0 then se else if ge ≠ 0 then ge else if winB t 0 256 = true then 0 else 3
/-- What View answers: a list and an error. -/
def ViewPost (w : World) (ev : Int) (l : List Int) (n : Nat) (e : Ending) (w' : World) : Prop :=
  ∃ A c, e = .returned (.tuple #[.slice A (if ev = 0 then n else 0) c, .int .i64 ev]) ∧ Below w.heap.size w w' ∧ (ev = 0 → Ints w' w'.heap.size .i64 A l)

set_option maxHeartbeats 2000000 in
set_option maxRecDepth 100000 in
theorem RefView_any (s : ByteArray) (sx sy z r g st wd t gx gy gs wi hi : Int) (w : World) (hs : s.size ≤ 9223372036854775807) :
    Calls Try.prog 53 #[siteV s sx sy z r g st wd, .int .i64 t, gridV gx gy gs wi hi] w fun e w' => ViewPost w (viewE (siteE (nameB s) sx sy z r g st wd) (gridE gx gy gs wi hi) t) (viewL r st t g sx sy gx gy gs wi (wi * hi).toNat) (wi * hi).toNat e w' := by
  have hcs := fun W => RefCheckSite_any s sx sy z r g st wd W hs
  have hcg := fun W => RefCheckGrid_any gx gy gs wi hi W
  have hfd := fun x y W => RefFind_any s sx sy z r g st wd t x y W hs
  have hok := fun h : siteE (nameB s) sx sy z r g st wd = 0 => siteE_ok h
  have hokg := fun h : gridE gx gy gs wi hi = 0 => gridE_ok h
  generalize siteE (nameB s) sx sy z r g st wd = se at *
  generalize gridE gx gy gs wi hi = ge at *
  obtain ⟨i0, hi0, hz0, hz1, hz2⟩ := info_parts intInfo
  have hmid := fun i W => Middle_any gx gy gs wi hi i W
  unfold siteV gridV twoE at *
  have Hcs := hide hcs
  have Hcg := hide hcg
  have Hfd := hide hfd
  have Hmid := hide hmid
  have Hok := hide hok
  have Hokg := hide hokg
  clear hcs hcg hfd hmid hok hokg
  have Hi := hide hi0
  have Hz0 := hide hz0
  have Hz1 := hide hz1
  have Hz2 := hide hz2
  clear hi0 hz0 hz1 hz2
  by_cases h0 : se = 0
  · subst h0
    by_cases h1 : ge = 0
    · subst h1
      obtain ⟨-, s1, s2, s3, s4, s5, s6, s7, s8, s9, s10, s11, s12, s13, s14⟩ := Hok.out rfl
      obtain ⟨a1, a2, b1, b2, c1, c2, d1, d2, f1, f2⟩ := Hokg.out rfl
      by_cases g1 : winB t 0 256 = true
      · obtain ⟨t1, t2⟩ := winB_iff.1 g1
        have hE : viewE 0 0 t = 0 := by unfold viewE; simp [g1]
        rw [hE]
        clear hE
        obtain ⟨m1, m2⟩ := mul_bdB (a := wi) (b := hi) (A := 64) (B := 64) (by omega) d2 (by omega) f2
        obtain ⟨N, hN⟩ : ∃ N : Nat, (wi * hi).toNat = N := ⟨_, rfl⟩
        have hN2 : wi * hi = (N : Int) := by omega
        rw [hN]
        clear hN
        have Hg1 := hide g1
        clear g1
        have Hn := hide hN2
        clear hN2
        go_enter Try.func53, Try.ntmps53
        have HB := hide (Below.refl w.heap.size w)
        go_wp2_with fail
        refine at_world fun W hW => ?_
        have bq0 : Blk W w.heap.size 33 #[.string s, .int .i64 sx, .int .i64 sy, .int .i64 z, .int .i64 r, .int .i64 g, .int .i64 st, .int .i64 wd] := by rw [hW]; exact (Blk.new _ _ _).alloc _
        have bq1 : Blk W (w.heap.size + 1) 35 #[.int .i64 gx, .int .i64 gy, .int .i64 gs, .int .i64 wi, .int .i64 hi] := by rw [hW]; exact blk_new_at (by simp)
        have LW : Later w W := by rw [hW]; exact (((Below.refl _ _).alloc (Nat.le_refl _) _).alloc (by simp; try omega) _)
        have szW : W.heap.size = w.heap.size + 2 := by rw [hW]; simp
        clear hW
        replace HB := hide (onward HB.out LW)
        have Hq := hide bq0
        have Hf := hide bq1
        clear bq0 bq1 LW szW
        refine (Hcs.out _).mono ?_
        rintro e w1 ⟨rfl, hb⟩
        replace HB := hide (onward HB.out hb)
        replace Hq := hide (blk_later Hq.out hb)
        replace Hf := hide (blk_later Hf.out hb)
        clear hb
        obtain ⟨e0, e1, e2, e3, e4⟩ := Hf.out.c5
        have ltf := Hf.out.lt
        go_wp2_with fail
        clear e0 e1 e2 e3 e4 ltf
        refine (Hcg.out _).mono ?_
        rintro e w2 ⟨rfl, hb⟩
        replace HB := hide (onward HB.out hb)
        replace Hq := hide (blk_later Hq.out hb)
        replace Hf := hide (blk_later Hf.out hb)
        clear hb
        go_wp2_with fail
        refine (In_any _ _ _ _).mono ?_
        rintro e w' ⟨rfl, rfl⟩
        rw [Hg1.out]
        go_wp2_with fail
        have hs2 := HB.out.size
        go_loopw [9, 10] (fun o i wr => ∃ k : Nat, k ≤ N ∧ i = .int .i64 k ∧ wr.ownsRow (w.heap.size + 2) 3 1 o k ((viewL r st t g sx sy gx gy gs wi k).map (Value.int .i64)) ∧ Below w.heap.size w wr ∧ Blk wr w.heap.size 33 #[.string s, .int .i64 sx, .int .i64 sy, .int .i64 z, .int .i64 r, .int .i64 g, .int .i64 st, .int .i64 wd] ∧ Blk wr (w.heap.size + 1) 35 #[.int .i64 gx, .int .i64 gy, .int .i64 gs, .int .i64 wi, .int .i64 hi])
          (fun _ i _ => N - (intOf i).toNat)
        case atStart => exact ⟨0, by omega, rfl, by simpa [viewL] using World.ownsRow_nil _ _ _ _, HB.out, Hq.out, Hf.out⟩
        case round =>
          clear HB Hq Hf
          obtain ⟨k, hk, rfl, hown, hbw, hbq, hbf⟩ := hrel
          have hsw := hbf.lt
          have Ho := hide hown
          have HB := hide hbw
          have Hq := hide hbq
          have Hf := hide hbf
          clear hown hbw hbq hbf
          by_cases hlt : k < N
          · have hlt2 : (k : Int) < wi * hi := by have := Hn.out; omega
            have c3 : wi ≠ 0 := by omega
            obtain ⟨x1, x2⟩ : 0 ≤ (k : Int) % wi ∧ (k : Int) % wi < wi := ⟨Int.emod_nonneg _ c3, Int.emod_lt_of_pos _ (by omega)⟩
            obtain ⟨y1, y2⟩ : 0 ≤ (k : Int) / wi ∧ (k : Int) / wi < hi := ⟨Int.ediv_nonneg (by omega) (by omega), Int.ediv_lt_of_lt_mul (by omega) (by rw [Int.mul_comm]; exact hlt2)⟩
            have hmx := mid_bd (gx := gx) a1 a2 c1 c2 x1 x2 d2
            have hmy := mid_bd (gx := gy) b1 b2 c1 c2 y1 y2 f2
            have hm := fun W => Hmid.out k W a1 a2 b1 b2 c1 c2 d1 d2 (by omega) (by omega)
            have hX : midX gx gs wi k = gx + k % wi * gs + gs / 2 := rfl
            have hY : midY gy gs wi k = gy + k / wi * gs + gs / 2 := rfl
            rw [← hX] at hmx
            rw [← hY] at hmy
            clear hX hY x1 x2 y1 y2
            have hts := viewL_succ (ro := r) (st := st) (t := t) (g := g) (sx := sx) (sy := sy) (gx := gx) (gy := gy) (gs := gs) (wi := wi) (n := k)
            unfold viewZ at hts
            generalize midX gx gs wi k = mx at *
            generalize midY gy gs wi k = my at *
            obtain ⟨a, b, e, hfe, hseen⟩ := find_seen (ro := r) (st := st) (t := t) (g := g) (sx := sx) (sy := sy) (x := mx) (y := my) s7 s8 s9 s10 Hg1.out ⟨by omega, by omega⟩ ⟨by omega, by omega⟩
            have hf := fun W => Hfd.out mx my W
            rw [hfe] at hf
            simp only at hf
            clear hfe
            generalize seenZ r st t g (mx - sx) (my - sy) = v at *
            have Hm := hide hm
            have Hfk := hide hf
            have Hts := hide hts
            clear hm hf hts
            clear hmx hmy
            rcases hseen with ⟨rfl, hv, v1, v2, v3, v4⟩ | ⟨rfl, hv⟩
            · obtain ⟨m5, m6⟩ := mul_bdB (a := a) (b := g) (A := 360) (B := 200) v1 (by omega) (by omega) (by omega)
              have Hv := hide hv
              clear hv
              obtain ⟨k0, k1, k2, k3, k4⟩ := Hf.out.c5
              have ltk := Hf.out.lt
              go_wp2_with fail
              refine (Hm.out _).mono ?_
              rintro e w3 ⟨rfl, hb⟩
              replace Hq := hide (blk_later Hq.out hb)
              replace Hf := hide (blk_later Hf.out hb)
              replace Ho := hide (own_later Ho.out hb)
              replace HB := hide (onward HB.out hb)
              clear hb k0 k1 k2 k3 k4 ltk
              obtain ⟨q0, q1, q2, q3, q4, q5, q6, q7⟩ := Hq.out.site8
              have ltq := Hq.out.lt
              go_wp2_with fail
              clear q0 q1 q2 q3 q4 q5 q6 q7 ltq
              refine (Hfk.out _).mono ?_
              rintro e w4 ⟨rfl, hb⟩
              replace Hq := hide (blk_later Hq.out hb)
              replace Hf := hide (blk_later Hf.out hb)
              replace Ho := hide (own_later Ho.out hb)
              replace HB := hide (onward HB.out hb)
              clear hb
              obtain ⟨q0, q1, q2, q3, q4, q5, q6, q7⟩ := Hq.out.site8
              have ltq := Hq.out.lt
              have hs4 := Hf.out.lt
              go_wp2_with (at_builtin; refine wpList_append_own _ rfl (.tmp 57) (.tmp 64) _ rfl (w.heap.size + 2) 3 i0 _ 1 8 Try.underlying72 Hi.out Hz0.out Hz1.out Hz2.out rfl (by decide) _ k _ rfl (Ho.out.alloc _) ⟨w4.heap.size, 0, none⟩ 1 1 [.int .i64 (a * g + b)] rfl rfl ?q1c1 ?q1c2 ?q1c3 ?q1c4 ?q1c5 ?_)
              try case q1c1 => exact new_cells w4 _ [.int .i64 (a * g + b)]
              case q1c2 => intro u hu; simp at hu; subst hu; rfl
              case q1c3 => unfold maxLen; omega
              case q1c4 => omega
              case q1c5 => simp; omega
              intro v' w5 hown2 hgr2 _
              replace HB := hide (below_grown (HB.out.alloc HB.out.size (.cells #[.int .i64 (a * g + b)] 3)) hgr2 (by simp; omega) fun k hk => Nat.le_trans (by first | exact Nat.le_refl _ | omega) (Ho.out.lt k hk).1)
              replace Hq := hide (blk_grown (Hq.out.alloc _) hgr2 (own_low_ne Ho.out (by omega)))
              replace Hf := hide (blk_grown (Hf.out.alloc _) hgr2 (own_low_ne Ho.out (by omega)))
              replace Ho := hide hown2
              clear hown2 hgr2
              clear q0 q1 q2 q3 q4 q5 q6 q7 ltq
              go_wp2
              go_roundw
              case rel =>
                refine ⟨k + 1, by omega, by go_num, ?_, HB.out, Hq.out, Hf.out⟩
                have := Ho.out
                rw [Hts.out, Hv.out, List.map_append]; exact this
              case measure => simp [intOf]; omega
            · subst hv
              obtain ⟨k0, k1, k2, k3, k4⟩ := Hf.out.c5
              have ltk := Hf.out.lt
              go_wp2_with fail
              refine (Hm.out _).mono ?_
              rintro e w3 ⟨rfl, hb⟩
              replace Hq := hide (blk_later Hq.out hb)
              replace Hf := hide (blk_later Hf.out hb)
              replace Ho := hide (own_later Ho.out hb)
              replace HB := hide (onward HB.out hb)
              clear hb k0 k1 k2 k3 k4 ltk
              obtain ⟨q0, q1, q2, q3, q4, q5, q6, q7⟩ := Hq.out.site8
              have ltq := Hq.out.lt
              go_wp2_with fail
              clear q0 q1 q2 q3 q4 q5 q6 q7 ltq
              refine (Hfk.out _).mono ?_
              rintro e w4 ⟨rfl, hb⟩
              replace Hq := hide (blk_later Hq.out hb)
              replace Hf := hide (blk_later Hf.out hb)
              replace Ho := hide (own_later Ho.out hb)
              replace HB := hide (onward HB.out hb)
              clear hb
              have hs4 := Hf.out.lt
              go_wp2_with (at_builtin; refine wpList_append_own _ rfl (.tmp 54) (.tmp 55) _ rfl (w.heap.size + 2) 3 i0 _ 1 8 Try.underlying72 Hi.out Hz0.out Hz1.out Hz2.out rfl (by decide) _ k _ rfl (Ho.out.alloc _) ⟨w4.heap.size, 0, none⟩ 1 1 [.int .i64 (-1)] rfl rfl ?q2c1 ?q2c2 ?q2c3 ?q2c4 ?q2c5 ?_)
              try case q2c1 => exact new_cells w4 _ [.int .i64 (-1)]
              case q2c2 => intro u hu; simp at hu; subst hu; rfl
              case q2c3 => unfold maxLen; omega
              case q2c4 => omega
              case q2c5 => simp; omega
              intro v' w5 hown2 hgr2 _
              replace HB := hide (below_grown (HB.out.alloc HB.out.size (.cells #[.int .i64 (-1)] 3)) hgr2 (by simp; omega) fun k hk => Nat.le_trans (by first | exact Nat.le_refl _ | omega) (Ho.out.lt k hk).1)
              replace Hq := hide (blk_grown (Hq.out.alloc _) hgr2 (own_low_ne Ho.out (by omega)))
              replace Hf := hide (blk_grown (Hf.out.alloc _) hgr2 (own_low_ne Ho.out (by omega)))
              replace Ho := hide hown2
              clear hown2 hgr2
              go_wp2
              go_roundw
              case rel =>
                refine ⟨k + 1, by omega, by go_num, ?_, HB.out, Hq.out, Hf.out⟩
                have := Ho.out
                rw [Hts.out, List.map_append]; exact this
              case measure => simp [intOf]; omega
          · obtain rfl : k = N := by omega
            have hlt2 : ¬ (k : Int) < wi * hi := by have := Hn.out; omega
            obtain ⟨A, c, rfl⟩ := own_slice Ho.out
            obtain ⟨k0, k1, k2, k3, k4⟩ := Hf.out.c5
            have ltk := Hf.out.lt
            go_wp2
            refine bodyPost_ret (v := .tuple #[.slice A k c, .int .i64 0]) (by simp [results, Try.results53, go_sem]) rfl ⟨A, c, by rw [if_pos rfl], HB.out, fun _ => Ints.own Ho.out rfl (Nat.le_refl _)⟩
      · have g3 : winB t 0 256 = false := by simpa using g1
        have hE : viewE 0 0 t = 3 := by unfold viewE; simp [g3]
        rw [hE]
        clear hE
        have hne : (3 : Int) ≠ 0 := by omega
        have Hg3 := hide g3
        clear g3 g1
        go_enter Try.func53, Try.ntmps53
        have HB := hide (Below.refl w.heap.size w)
        go_wp2_with fail
        refine at_world fun W hW => ?_
        have bq0 : Blk W w.heap.size 33 #[.string s, .int .i64 sx, .int .i64 sy, .int .i64 z, .int .i64 r, .int .i64 g, .int .i64 st, .int .i64 wd] := by rw [hW]; exact (Blk.new _ _ _).alloc _
        have bq1 : Blk W (w.heap.size + 1) 35 #[.int .i64 gx, .int .i64 gy, .int .i64 gs, .int .i64 wi, .int .i64 hi] := by rw [hW]; exact blk_new_at (by simp)
        have LW : Later w W := by rw [hW]; exact (((Below.refl _ _).alloc (Nat.le_refl _) _).alloc (by simp; try omega) _)
        have szW : W.heap.size = w.heap.size + 2 := by rw [hW]; simp
        clear hW
        replace HB := hide (onward HB.out LW)
        have Hq := hide bq0
        have Hf := hide bq1
        clear bq0 bq1 LW szW
        refine (Hcs.out _).mono ?_
        rintro e w1 ⟨rfl, hb⟩
        replace HB := hide (onward HB.out hb)
        replace Hq := hide (blk_later Hq.out hb)
        replace Hf := hide (blk_later Hf.out hb)
        clear hb
        obtain ⟨e0, e1, e2, e3, e4⟩ := Hf.out.c5
        have ltf := Hf.out.lt
        go_wp2_with fail
        clear e0 e1 e2 e3 e4 ltf
        refine (Hcg.out _).mono ?_
        rintro e w2 ⟨rfl, hb⟩
        replace HB := hide (onward HB.out hb)
        replace Hq := hide (blk_later Hq.out hb)
        replace Hf := hide (blk_later Hf.out hb)
        clear hb
        go_wp2_with fail
        refine (In_any _ _ _ _).mono ?_
        rintro e w' ⟨rfl, rfl⟩
        rw [Hg3.out]
        go_wp2
        refine bodyPost_ret (v := .tuple #[.slice none 0 0, .int .i64 3]) (by simp [results, Try.results53, go_sem]) rfl ⟨none, 0, by rw [if_neg hne], HB.out, fun h => absurd h hne⟩
    · have h10 : (ge != 0) = true := by simpa [bne] using h1
      have hE : viewE 0 ge t = ge := by unfold viewE; rw [if_neg (by simp), if_pos h1]
      rw [hE]
      clear hE
      have hne := h1
      go_enter Try.func53, Try.ntmps53
      have HB := hide (Below.refl w.heap.size w)
      go_wp2_with fail
      refine at_world fun W hW => ?_
      have bq0 : Blk W w.heap.size 33 #[.string s, .int .i64 sx, .int .i64 sy, .int .i64 z, .int .i64 r, .int .i64 g, .int .i64 st, .int .i64 wd] := by rw [hW]; exact (Blk.new _ _ _).alloc _
      have bq1 : Blk W (w.heap.size + 1) 35 #[.int .i64 gx, .int .i64 gy, .int .i64 gs, .int .i64 wi, .int .i64 hi] := by rw [hW]; exact blk_new_at (by simp)
      have LW : Later w W := by rw [hW]; exact (((Below.refl _ _).alloc (Nat.le_refl _) _).alloc (by simp; try omega) _)
      have szW : W.heap.size = w.heap.size + 2 := by rw [hW]; simp
      clear hW
      replace HB := hide (onward HB.out LW)
      have Hq := hide bq0
      have Hf := hide bq1
      clear bq0 bq1 LW szW
      refine (Hcs.out _).mono ?_
      rintro e w1 ⟨rfl, hb⟩
      replace HB := hide (onward HB.out hb)
      replace Hq := hide (blk_later Hq.out hb)
      replace Hf := hide (blk_later Hf.out hb)
      clear hb
      obtain ⟨e0, e1, e2, e3, e4⟩ := Hf.out.c5
      have ltf := Hf.out.lt
      go_wp2_with fail
      clear e0 e1 e2 e3 e4 ltf
      refine (Hcg.out _).mono ?_
      rintro e w2 ⟨rfl, hb⟩
      replace HB := hide (onward HB.out hb)
      replace Hq := hide (blk_later Hq.out hb)
      replace Hf := hide (blk_later Hf.out hb)
      clear hb
      go_wp2
      refine bodyPost_ret (v := .tuple #[.slice none 0 0, .int .i64 ge]) (by simp [results, Try.results53, go_sem]) rfl ⟨none, 0, by rw [if_neg hne], HB.out, fun h => absurd h hne⟩
  · have h00 : (se != 0) = true := by simpa [bne] using h0
    have h01 : (se == 0) = false := by simpa using h0
    have hE : viewE se ge t = se := by unfold viewE; rw [if_pos h0]
    rw [hE]
    clear hE
    have hne := h0
    go_enter Try.func53, Try.ntmps53
    have HB := hide (Below.refl w.heap.size w)
    go_wp2_with fail
    refine at_world fun W hW => ?_
    have bq0 : Blk W w.heap.size 33 #[.string s, .int .i64 sx, .int .i64 sy, .int .i64 z, .int .i64 r, .int .i64 g, .int .i64 st, .int .i64 wd] := by rw [hW]; exact (Blk.new _ _ _).alloc _
    have bq1 : Blk W (w.heap.size + 1) 35 #[.int .i64 gx, .int .i64 gy, .int .i64 gs, .int .i64 wi, .int .i64 hi] := by rw [hW]; exact blk_new_at (by simp)
    have LW : Later w W := by rw [hW]; exact (((Below.refl _ _).alloc (Nat.le_refl _) _).alloc (by simp; try omega) _)
    have szW : W.heap.size = w.heap.size + 2 := by rw [hW]; simp
    clear hW
    replace HB := hide (onward HB.out LW)
    have Hq := hide bq0
    have Hf := hide bq1
    clear bq0 bq1 LW szW
    refine (Hcs.out _).mono ?_
    rintro e w1 ⟨rfl, hb⟩
    replace HB := hide (onward HB.out hb)
    replace Hq := hide (blk_later Hq.out hb)
    replace Hf := hide (blk_later Hf.out hb)
    clear hb
    go_wp2
    refine bodyPost_ret (v := .tuple #[.slice none 0 0, .int .i64 se]) (by simp [results, Try.results53, go_sem]) rfl ⟨none, 0, by rw [if_neg hne], HB.out, fun h => absurd h hne⟩
end Go.Proofs.Ythhhecidogcmjaa
