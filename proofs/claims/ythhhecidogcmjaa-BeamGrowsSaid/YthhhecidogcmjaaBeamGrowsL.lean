/-
  The law BeamGrows returns true: the walk.
-/
import Derived.Test.YthhhecidogcmjaaGrows
import Derived.Test.YthhhecidogcmjaaHill
import Derived.Test.YthhhecidogcmjaaRegQ
namespace Go.Proofs.Ythhhecidogcmjaa
open Go Go.RowKit

theorem blockE_zero {se fe t elo ehi ray ro : Int} (h : blockE se fe t elo ehi ray ro = 0) : se = 0 ∧ fe = 0 ∧ winB t 0 256 = true ∧ okE elo ehi = true ∧ winB ray 0 (4 * ro - 1) = true := by
  unfold blockE at h
  split at h
  · rename_i h1; exact absurd h h1
  · rename_i h1
    split at h
    · rename_i h2; exact absurd h h2
    · rename_i h2
      split at h
      · rename_i h3
        simp only [Bool.and_eq_true] at h3
        exact ⟨Classical.not_not.1 h1, Classical.not_not.1 h2, h3.1.1, h3.1.2, h3.2⟩
      · omega
theorem fieldE_zero {ge wi hi most : Int} {n : Nat} {l : List (Int × Int)} (h : fieldE ge n wi hi l most = 0) : ge = 0 ∧ (n : Int) = wi * hi ∧ l.all (okS most) = true := by
  unfold fieldE at h
  split at h
  · rename_i h1; exact absurd h h1
  · rename_i h1
    split at h
    · omega
    · rename_i h2
      split at h
      · rename_i h3
        exact ⟨Classical.not_not.1 h1, Classical.not_not.1 h2, h3⟩
      · omega

theorem blk_zero {w w' : World} {r : Nat → Int × Int} {G : Nat} {e : Ending} (h : BlockPost w 0 r G e w') : ∃ A c, e = .returned (.tuple #[.slice A G c, .int .i64 0]) ∧ Below w.heap.size w w' ∧ Ints w' w'.heap.size .i64 A (flat2 (rowL r G)) := by
  obtain ⟨A, c, he, hb, hi⟩ := h
  exact ⟨A, c, by rw [he, if_pos rfl], hb, hi rfl⟩
/-- A row of pairs, read. -/
theorem row_pt {w : World} {B G : Nat} {A : Option Addr} {r : Nat → Int × Int} (h : Ints w B .i64 A (flat2 (rowL r G))) (hG : 0 < G) : ∃ b off, A = some ⟨b, off, none⟩ ∧ b < B ∧ ∀ k, k < G → w.cell? ⟨b, off + k * 2, none⟩ = some (.int .i64 (r k).1) ∧ w.cell? ⟨b, off + k * 2 + 1, none⟩ = some (.int .i64 (r k).2) := by
  obtain ⟨b, off, e, hb, hc⟩ := h.pt (by rw [rowL_length]; exact hG)
  refine ⟨b, off, e, hb, fun k hk => ?_⟩
  have := hc k (by rw [rowL_length]; exact hk)
  rwa [rowL_get hk] at this

/-- A list of numbers in memory that is a region's own. -/
def IntsF (w : World) (F : Nat → Prop) (A : Option Addr) (zs : List Int) : Prop := ∃ g, A = some ⟨g, 0, none⟩ ∧ F g ∧ g < w.heap.size ∧ ∀ k, k < zs.length → w.cell? ⟨g, k, none⟩ = some (.int .i64 (zs.getD k 0))
theorem IntsF.stab {w w' : World} {F : Nat → Prop} {A : Option Addr} {zs : List Int} (h : IntsF w F A zs) (hk : ∀ k, F k → w'.heap[k]? = w.heap[k]?) : IntsF w' F A zs := by
  obtain ⟨g, h1, h2, h3, h4⟩ := h
  have e := hk g h2
  refine ⟨g, h1, h2, ?_, fun k hk' => (World.cell?_of_block (w := w) e).trans (h4 k hk')⟩
  rw [Array.getElem?_eq_getElem h3] at e
  exact (Array.getElem?_eq_some_iff.1 e).1
theorem IntsF.ints {w : World} {F : Nat → Prop} {A : Option Addr} {zs : List Int} (h : IntsF w F A zs) : Ints w w.heap.size .i64 A zs := fun _ => by
  obtain ⟨g, h1, h2, h3, h4⟩ := h
  exact ⟨g, 0, h1, h3, fun k hk => by rw [Nat.zero_add]; exact h4 k hk⟩
theorem blk_zero2 {w w' : World} {r : Nat → Int × Int} {G : Nat} {e : Ending} (hG : 0 < G) (h : BlockPost2 w 0 r G e w') : ∃ A c, e = .returned (.tuple #[.slice A G c, .int .i64 0]) ∧ Below w.heap.size w w' ∧ IntsF w' (fun k => w.heap.size ≤ k ∧ k < w'.heap.size) A (flat2 (rowL r G)) := by
  obtain ⟨A, c, he, hb, hi⟩ := h
  obtain ⟨h1, g, rfl, hg⟩ := hi rfl
  obtain ⟨b, off, e, hlt, hc⟩ := h1 (by rw [flat2_length, rowL_length]; omega)
  simp only [Option.some.injEq, Addr.mk.injEq] at e
  obtain ⟨rfl, rfl, -⟩ := e
  exact ⟨_, c, by rw [he, if_pos rfl], hb, g, rfl, ⟨hg, hlt⟩, hlt, fun k hk => by have := hc k hk; rwa [Nat.zero_add] at this⟩
theorem blockE_ok {se fe t a b ray ro : Int} (h1 : se = 0) (h2 : fe = 0) (g1 : winB t 0 256 = true) (g2 : okE a b = true) (g3 : winB ray 0 (4 * ro - 1) = true) : blockE se fe t a b ray ro = 0 := by unfold blockE; simp [*]
theorem fieldE_ok {ge wi hi most : Int} {n : Nat} {l : List (Int × Int)} (h1 : ge = 0) (h2 : (n : Int) = wi * hi) (h3 : l.all (okS most) = true) : fieldE ge n wi hi l most = 0 := by unfold fieldE; simp [*]

set_option maxHeartbeats 8000000 in
set_option maxRecDepth 100000 in
theorem BeamGrows_any (s : ByteArray) (sx sy z r g st wd t elo ehi gx gy gs wi hi : Int) (A : Option Addr) (n c : Nat) (l : List (Int × Int)) (ray : Int) (A2 : Option Addr) (n2 c2 : Nat) (cuts : List Int) (A3 : Option Addr) (n3 c3 : Nat) (ups : List Int) (w : World) (hs : s.size ≤ 9223372036854775807)
    (hn : l.length = n) (hmax : n ≤ 9223372036854775807) (hl : Ints w w.heap.size .i64 A (flat2 l)) (hn2 : cuts.length = n2) (hmax2 : n2 ≤ 9223372036854775807) (hl2 : Ints w w.heap.size .u32 A2 cuts) (hn3 : ups.length = n3) (hmax3 : n3 ≤ 9223372036854775807) (hl3 : Ints w w.heap.size .u8 A3 ups)
    (hb2 : ∀ x ∈ cuts, 0 ≤ x ∧ x ≤ 4294967295) (hb3 : ∀ x ∈ ups, 0 ≤ x ∧ x ≤ 255) :
    Calls Try.prog 10 #[siteV s sx sy z r g st wd, .int .i64 t, .agg #[.int .i64 elo, .int .i64 ehi], fieldV gx gy gs wi hi A n c, .int .i64 ray, .slice A2 n2 c2, .slice A3 n3 c3] w fun e w' => e = .returned (.bool true) ∧ Below w.heap.size w w' := by
  have hfew := fun W => few_any s sx sy z r g st wd gx gy gs wi hi W hs
  have hv := fun elo ehi A (c : Nat) (l : List (Int × Int)) (hn : l.length = n) W (hl : Ints W W.heap.size .i64 A (flat2 l)) => Blocked2_any s sx sy z r g st wd t elo ehi gx gy gs wi hi A n c l ray W hs hn hmax hl
  generalize decide (r ≤ 20 ∧ g ≤ 60 ∧ wi ≤ 16 ∧ hi ≤ 16 ∧ (s.size : Int) ≤ 20) = fb at *
  have hv1 := fun W hl => hv elo ehi A c l hn W hl
  obtain ⟨ev, hev⟩ : ∃ ev, blockE (siteE (nameB s) sx sy z r g st wd) (fieldE (gridE gx gy gs wi hi) n wi hi l 20000) t elo ehi ray r = ev := ⟨_, rfl⟩
  rw [hev] at hv1
  unfold siteV fieldV at *
  have Hfew := hide hfew
  have Hv := hide hv
  have Hv1 := hide hv1
  have Hl := hide hl
  have Hl2 := hide hl2
  have Hl3 := hide hl3
  have Hn := hide hn
  have Hn2 := hide hn2
  have Hn3 := hide hn3
  have Hb2 := hide hb2
  have Hb3 := hide hb3
  have Hev := hide hev
  clear hfew hv hv1 hl hl2 hl3 hn hn2 hn3 hb2 hb3 hev
  cases fb with
  | false =>
    go_enter Try.func10, Try.ntmps10
    have HB := hide (Below.refl w.heap.size w)
    go_wp2_with fail
    refine at_world fun W hW => ?_
    have bq0 : Blk W w.heap.size 33 #[.string s, .int .i64 sx, .int .i64 sy, .int .i64 z, .int .i64 r, .int .i64 g, .int .i64 st, .int .i64 wd] := by rw [hW]; exact ((Blk.new _ _ _).alloc _).alloc _
    have bq1 : Blk W (w.heap.size + 1) 47 #[.int .i64 elo, .int .i64 ehi] := by rw [hW]; exact (blk_new_at (by simp)).alloc _
    have bq2 : Blk W (w.heap.size + 2) 38 #[.int .i64 gx, .int .i64 gy, .int .i64 gs, .int .i64 wi, .int .i64 hi, .slice A n c] := by rw [hW]; exact blk_new_at (by simp)
    have LW : Later w W := by rw [hW]; exact ((((Below.refl _ _).alloc (Nat.le_refl _) _).alloc (by simp; try omega) _).alloc (by simp; try omega) _)
    have szW : W.heap.size = w.heap.size + 3 := by rw [hW]; simp
    clear hW
    replace Hl := hide ((Ints.below Hl.out LW).more (Below.size LW))
    replace Hl2 := hide ((Ints.below Hl2.out LW).more (Below.size LW))
    replace Hl3 := hide ((Ints.below Hl3.out LW).more (Below.size LW))
    replace HB := hide (onward HB.out LW)
    have Hq := hide bq0
    have He := hide bq1
    have Hf := hide bq2
    clear bq0 bq1 bq2 LW szW
    refine (Hfew.out _).mono ?_
    rintro e w1 ⟨rfl, hb⟩
    replace Hl := hide ((Ints.below Hl.out hb).more (Below.size hb))
    replace Hl2 := hide ((Ints.below Hl2.out hb).more (Below.size hb))
    replace Hl3 := hide ((Ints.below Hl3.out hb).more (Below.size hb))
    replace HB := hide (onward HB.out hb)
    replace Hq := hide (blk_later Hq.out hb)
    replace He := hide (blk_later He.out hb)
    replace Hf := hide (blk_later Hf.out hb)
    clear hb
    obtain ⟨q0, q1, q2, q3, q4, q5, q6, q7⟩ := Hq.out.site8
    have lts := Hq.out.lt
    obtain ⟨v0, v1⟩ := He.out.c2
    have ltv := He.out.lt
    obtain ⟨e0, e1, e2, e3, e4, e5⟩ := Hf.out.c6
    have ltf := Hf.out.lt
    go_wp2_with fail
    clear q0 q1 q2 q3 q4 q5 q6 q7 lts e0 e1 e2 e3 e4 e5 ltf
    refine (works_any _).mono ?_
    rintro e w9 ⟨rfl, hb⟩
    replace Hl := hide ((Ints.below Hl.out hb).more (Below.size hb))
    replace Hl2 := hide ((Ints.below Hl2.out hb).more (Below.size hb))
    replace Hl3 := hide ((Ints.below Hl3.out hb).more (Below.size hb))
    replace HB := hide (onward HB.out hb)
    replace Hq := hide (blk_later Hq.out hb)
    replace He := hide (blk_later He.out hb)
    replace Hf := hide (blk_later Hf.out hb)
    clear hb v0 v1 ltv
    go_wp2
    go_ret
    exact ⟨rfl, HB.out⟩
  | true =>
    by_cases h3 : (300 : Int) < n
    · go_enter Try.func10, Try.ntmps10
      have HB := hide (Below.refl w.heap.size w)
      go_wp2_with fail
      refine at_world fun W hW => ?_
      have bq0 : Blk W w.heap.size 33 #[.string s, .int .i64 sx, .int .i64 sy, .int .i64 z, .int .i64 r, .int .i64 g, .int .i64 st, .int .i64 wd] := by rw [hW]; exact ((Blk.new _ _ _).alloc _).alloc _
      have bq1 : Blk W (w.heap.size + 1) 47 #[.int .i64 elo, .int .i64 ehi] := by rw [hW]; exact (blk_new_at (by simp)).alloc _
      have bq2 : Blk W (w.heap.size + 2) 38 #[.int .i64 gx, .int .i64 gy, .int .i64 gs, .int .i64 wi, .int .i64 hi, .slice A n c] := by rw [hW]; exact blk_new_at (by simp)
      have LW : Later w W := by rw [hW]; exact ((((Below.refl _ _).alloc (Nat.le_refl _) _).alloc (by simp; try omega) _).alloc (by simp; try omega) _)
      have szW : W.heap.size = w.heap.size + 3 := by rw [hW]; simp
      clear hW
      replace Hl := hide ((Ints.below Hl.out LW).more (Below.size LW))
      replace Hl2 := hide ((Ints.below Hl2.out LW).more (Below.size LW))
      replace Hl3 := hide ((Ints.below Hl3.out LW).more (Below.size LW))
      replace HB := hide (onward HB.out LW)
      have Hq := hide bq0
      have He := hide bq1
      have Hf := hide bq2
      clear bq0 bq1 bq2 LW szW
      refine (Hfew.out _).mono ?_
      rintro e w1 ⟨rfl, hb⟩
      replace Hl := hide ((Ints.below Hl.out hb).more (Below.size hb))
      replace Hl2 := hide ((Ints.below Hl2.out hb).more (Below.size hb))
      replace Hl3 := hide ((Ints.below Hl3.out hb).more (Below.size hb))
      replace HB := hide (onward HB.out hb)
      replace Hq := hide (blk_later Hq.out hb)
      replace He := hide (blk_later He.out hb)
      replace Hf := hide (blk_later Hf.out hb)
      clear hb
      obtain ⟨q0, q1, q2, q3, q4, q5, q6, q7⟩ := Hq.out.site8
      have lts := Hq.out.lt
      obtain ⟨v0, v1⟩ := He.out.c2
      have ltv := He.out.lt
      obtain ⟨e0, e1, e2, e3, e4, e5⟩ := Hf.out.c6
      have ltf := Hf.out.lt
      go_wp2_with fail
      clear q0 q1 q2 q3 q4 q5 q6 q7 lts e0 e1 e2 e3 e4 e5 ltf
      refine (works_any _).mono ?_
      rintro e w9 ⟨rfl, hb⟩
      replace Hl := hide ((Ints.below Hl.out hb).more (Below.size hb))
      replace Hl2 := hide ((Ints.below Hl2.out hb).more (Below.size hb))
      replace Hl3 := hide ((Ints.below Hl3.out hb).more (Below.size hb))
      replace HB := hide (onward HB.out hb)
      replace Hq := hide (blk_later Hq.out hb)
      replace He := hide (blk_later He.out hb)
      replace Hf := hide (blk_later Hf.out hb)
      clear hb v0 v1 ltv
      go_wp2
      go_ret
      exact ⟨rfl, HB.out⟩
    by_cases h4 : (700 : Int) < n2
    · go_enter Try.func10, Try.ntmps10
      have HB := hide (Below.refl w.heap.size w)
      go_wp2_with fail
      refine at_world fun W hW => ?_
      have bq0 : Blk W w.heap.size 33 #[.string s, .int .i64 sx, .int .i64 sy, .int .i64 z, .int .i64 r, .int .i64 g, .int .i64 st, .int .i64 wd] := by rw [hW]; exact ((Blk.new _ _ _).alloc _).alloc _
      have bq1 : Blk W (w.heap.size + 1) 47 #[.int .i64 elo, .int .i64 ehi] := by rw [hW]; exact (blk_new_at (by simp)).alloc _
      have bq2 : Blk W (w.heap.size + 2) 38 #[.int .i64 gx, .int .i64 gy, .int .i64 gs, .int .i64 wi, .int .i64 hi, .slice A n c] := by rw [hW]; exact blk_new_at (by simp)
      have LW : Later w W := by rw [hW]; exact ((((Below.refl _ _).alloc (Nat.le_refl _) _).alloc (by simp; try omega) _).alloc (by simp; try omega) _)
      have szW : W.heap.size = w.heap.size + 3 := by rw [hW]; simp
      clear hW
      replace Hl := hide ((Ints.below Hl.out LW).more (Below.size LW))
      replace Hl2 := hide ((Ints.below Hl2.out LW).more (Below.size LW))
      replace Hl3 := hide ((Ints.below Hl3.out LW).more (Below.size LW))
      replace HB := hide (onward HB.out LW)
      have Hq := hide bq0
      have He := hide bq1
      have Hf := hide bq2
      clear bq0 bq1 bq2 LW szW
      refine (Hfew.out _).mono ?_
      rintro e w1 ⟨rfl, hb⟩
      replace Hl := hide ((Ints.below Hl.out hb).more (Below.size hb))
      replace Hl2 := hide ((Ints.below Hl2.out hb).more (Below.size hb))
      replace Hl3 := hide ((Ints.below Hl3.out hb).more (Below.size hb))
      replace HB := hide (onward HB.out hb)
      replace Hq := hide (blk_later Hq.out hb)
      replace He := hide (blk_later He.out hb)
      replace Hf := hide (blk_later Hf.out hb)
      clear hb
      obtain ⟨q0, q1, q2, q3, q4, q5, q6, q7⟩ := Hq.out.site8
      have lts := Hq.out.lt
      obtain ⟨v0, v1⟩ := He.out.c2
      have ltv := He.out.lt
      obtain ⟨e0, e1, e2, e3, e4, e5⟩ := Hf.out.c6
      have ltf := Hf.out.lt
      go_wp2_with fail
      clear q0 q1 q2 q3 q4 q5 q6 q7 lts e0 e1 e2 e3 e4 e5 ltf
      refine (works_any _).mono ?_
      rintro e w9 ⟨rfl, hb⟩
      replace Hl := hide ((Ints.below Hl.out hb).more (Below.size hb))
      replace Hl2 := hide ((Ints.below Hl2.out hb).more (Below.size hb))
      replace Hl3 := hide ((Ints.below Hl3.out hb).more (Below.size hb))
      replace HB := hide (onward HB.out hb)
      replace Hq := hide (blk_later Hq.out hb)
      replace He := hide (blk_later He.out hb)
      replace Hf := hide (blk_later Hf.out hb)
      clear hb v0 v1 ltv
      go_wp2
      go_ret
      exact ⟨rfl, HB.out⟩
    by_cases h5 : (300 : Int) < n3
    · go_enter Try.func10, Try.ntmps10
      have HB := hide (Below.refl w.heap.size w)
      go_wp2_with fail
      refine at_world fun W hW => ?_
      have bq0 : Blk W w.heap.size 33 #[.string s, .int .i64 sx, .int .i64 sy, .int .i64 z, .int .i64 r, .int .i64 g, .int .i64 st, .int .i64 wd] := by rw [hW]; exact ((Blk.new _ _ _).alloc _).alloc _
      have bq1 : Blk W (w.heap.size + 1) 47 #[.int .i64 elo, .int .i64 ehi] := by rw [hW]; exact (blk_new_at (by simp)).alloc _
      have bq2 : Blk W (w.heap.size + 2) 38 #[.int .i64 gx, .int .i64 gy, .int .i64 gs, .int .i64 wi, .int .i64 hi, .slice A n c] := by rw [hW]; exact blk_new_at (by simp)
      have LW : Later w W := by rw [hW]; exact ((((Below.refl _ _).alloc (Nat.le_refl _) _).alloc (by simp; try omega) _).alloc (by simp; try omega) _)
      have szW : W.heap.size = w.heap.size + 3 := by rw [hW]; simp
      clear hW
      replace Hl := hide ((Ints.below Hl.out LW).more (Below.size LW))
      replace Hl2 := hide ((Ints.below Hl2.out LW).more (Below.size LW))
      replace Hl3 := hide ((Ints.below Hl3.out LW).more (Below.size LW))
      replace HB := hide (onward HB.out LW)
      have Hq := hide bq0
      have He := hide bq1
      have Hf := hide bq2
      clear bq0 bq1 bq2 LW szW
      refine (Hfew.out _).mono ?_
      rintro e w1 ⟨rfl, hb⟩
      replace Hl := hide ((Ints.below Hl.out hb).more (Below.size hb))
      replace Hl2 := hide ((Ints.below Hl2.out hb).more (Below.size hb))
      replace Hl3 := hide ((Ints.below Hl3.out hb).more (Below.size hb))
      replace HB := hide (onward HB.out hb)
      replace Hq := hide (blk_later Hq.out hb)
      replace He := hide (blk_later He.out hb)
      replace Hf := hide (blk_later Hf.out hb)
      clear hb
      obtain ⟨q0, q1, q2, q3, q4, q5, q6, q7⟩ := Hq.out.site8
      have lts := Hq.out.lt
      obtain ⟨v0, v1⟩ := He.out.c2
      have ltv := He.out.lt
      obtain ⟨e0, e1, e2, e3, e4, e5⟩ := Hf.out.c6
      have ltf := Hf.out.lt
      go_wp2_with fail
      clear q0 q1 q2 q3 q4 q5 q6 q7 lts e0 e1 e2 e3 e4 e5 ltf
      refine (works_any _).mono ?_
      rintro e w9 ⟨rfl, hb⟩
      replace Hl := hide ((Ints.below Hl.out hb).more (Below.size hb))
      replace Hl2 := hide ((Ints.below Hl2.out hb).more (Below.size hb))
      replace Hl3 := hide ((Ints.below Hl3.out hb).more (Below.size hb))
      replace HB := hide (onward HB.out hb)
      replace Hq := hide (blk_later Hq.out hb)
      replace He := hide (blk_later He.out hb)
      replace Hf := hide (blk_later Hf.out hb)
      clear hb v0 v1 ltv
      go_wp2
      go_ret
      exact ⟨rfl, HB.out⟩
    by_cases h6 : ev = 0
    · subst h6
      obtain ⟨hse, hfe, g1, g2, g3⟩ := blockE_zero Hev.out
      obtain ⟨-, s1, s2, s3, s4, s5, s6, s7, s8, s9, s10, s11, s12, s13, s14⟩ := siteE_ok hse
      obtain ⟨hge, hsz, hall⟩ := fieldE_zero hfe
      obtain ⟨a1, a2, b1, b2, c1, c2', d1, d2, f1, f2⟩ := gridE_ok hge
      obtain ⟨t1, t2⟩ := winB_iff.1 g1
      obtain ⟨x1, x2, x3⟩ := okE_iff g2
      obtain ⟨G, hG⟩ : ∃ G : Nat, g = (G : Int) := ⟨g.toNat, by omega⟩
      obtain ⟨K, hK⟩ : ∃ K : Nat, 2 * wd + 1 = (K : Int) := ⟨(2 * wd + 1).toNat, by omega⟩
      have hv1 := fun W hl => (Hv1.out W hl).mono fun _ _ h => blk_zero h.old
      rw [show g.toNat = G by omega, show (2 * wd + 1).toNat = K by omega] at hv1
      have hG0 : 1 ≤ G := by omega
      have hG1 : G ≤ 200 := by omega
      have hK1 : K ≤ 17 := by omega
      clear Hv1
      have Hv1 := hide hv1
      have Hse := hide hse
      have Hfe := hide hfe
      have Hg1 := hide g1
      have Hg2 := hide g2
      have Hg3 := hide g3
      have Hge := hide hge
      have Hsz := hide hsz
      have Hall := hide hall
      have HG := hide hG
      have HK := hide hK
      clear hv1 hse hfe g1 g2 g3 hge hsz hall hG hK
      go_enter Try.func10, Try.ntmps10
      have HB := hide (Below.refl w.heap.size w)
      go_wp2_with fail
      refine at_world fun W hW => ?_
      have bq0 : Blk W w.heap.size 33 #[.string s, .int .i64 sx, .int .i64 sy, .int .i64 z, .int .i64 r, .int .i64 g, .int .i64 st, .int .i64 wd] := by rw [hW]; exact ((Blk.new _ _ _).alloc _).alloc _
      have bq1 : Blk W (w.heap.size + 1) 47 #[.int .i64 elo, .int .i64 ehi] := by rw [hW]; exact (blk_new_at (by simp)).alloc _
      have bq2 : Blk W (w.heap.size + 2) 38 #[.int .i64 gx, .int .i64 gy, .int .i64 gs, .int .i64 wi, .int .i64 hi, .slice A n c] := by rw [hW]; exact blk_new_at (by simp)
      have LW : Later w W := by rw [hW]; exact ((((Below.refl _ _).alloc (Nat.le_refl _) _).alloc (by simp; try omega) _).alloc (by simp; try omega) _)
      have szW : W.heap.size = w.heap.size + 3 := by rw [hW]; simp
      clear hW
      replace Hl := hide ((Ints.below Hl.out LW).more (Below.size LW))
      replace Hl2 := hide ((Ints.below Hl2.out LW).more (Below.size LW))
      replace Hl3 := hide ((Ints.below Hl3.out LW).more (Below.size LW))
      replace HB := hide (onward HB.out LW)
      have Hq := hide bq0
      have He := hide bq1
      have Hf := hide bq2
      clear bq0 bq1 bq2 LW szW
      refine (Hfew.out _).mono ?_
      rintro e w1 ⟨rfl, hb⟩
      replace Hl := hide ((Ints.below Hl.out hb).more (Below.size hb))
      replace Hl2 := hide ((Ints.below Hl2.out hb).more (Below.size hb))
      replace Hl3 := hide ((Ints.below Hl3.out hb).more (Below.size hb))
      replace HB := hide (onward HB.out hb)
      replace Hq := hide (blk_later Hq.out hb)
      replace He := hide (blk_later He.out hb)
      replace Hf := hide (blk_later Hf.out hb)
      clear hb
      obtain ⟨q0, q1, q2, q3, q4, q5, q6, q7⟩ := Hq.out.site8
      have lts := Hq.out.lt
      obtain ⟨v0, v1⟩ := He.out.c2
      have ltv := He.out.lt
      obtain ⟨e0, e1, e2, e3, e4, e5⟩ := Hf.out.c6
      have ltf := Hf.out.lt
      go_wp2_with fail
      clear q0 q1 q2 q3 q4 q5 q6 q7 lts e0 e1 e2 e3 e4 e5 ltf
      refine (Hv1.out _ Hl.out).mono ?_
      rintro e w2 ⟨Aa, ca, rfl, hb, hia⟩
      replace Hl := hide ((Ints.below Hl.out hb).more (Below.size hb))
      replace Hl2 := hide ((Ints.below Hl2.out hb).more (Below.size hb))
      replace Hl3 := hide ((Ints.below Hl3.out hb).more (Below.size hb))
      replace HB := hide (onward HB.out hb)
      replace Hq := hide (blk_later Hq.out hb)
      replace He := hide (blk_later He.out hb)
      replace Hf := hide (blk_later Hf.out hb)
      clear hb v0 v1 ltv
      have Hia := hide hia
      clear hia
      go_wp2_with fail
      have hin' : ∀ (l' : List (Int × Int)) (p q : Int), l'.length = n → l'.all (okS 20000) = true → 1000000 ≤ p → p ≤ q → ∀ j, j < G → (rowsZ (csB (groundZ l' sx sy r st t ray gx gy gs wi hi) z st p (t - wd)) (cmB (groundZ l' sx sy r st t ray gx gy gs wi hi) z st q (t - wd)) K j).1 ≤ (rowsZ (csB (groundZ l' sx sy r st t ray gx gy gs wi hi) z st p (t - wd)) (cmB (groundZ l' sx sy r st t ray gx gy gs wi hi) z st q (t - wd)) K j).2 := fun l' p q hl' ha' hp1 hpq j hj => rowsZ_in K fun k i hk hij hc => by
        have hz := groundZ_ok (l := l') (sx := sx) (sy := sy) (ro := r) (st := st) (t := t) (ray := ray) (gx := gx) (gy := gy) (gs := gs) (wi := wi) (hi := hi) (n := n) (j := i) hl' Hsz.out c1 d1 d2 f2 ha'
        have hme := rise_meet (z := z) (st := st) (gate := i) (a := t - wd + k) (b := t - wd + k) (e := p) (e' := q) (by omega) (Int.le_refl _) (by have := HK.out; omega) (by omega) (by omega) (by omega) s12 hp1 hpq
        unfold csB at hc
        unfold cmB
        have := of_decide_eq_true hc
        exact decide_eq_true (by omega)
      have hin := hin' l elo ehi Hn.out Hall.out x1 x2
      obtain ⟨hTw, hTa⟩ := tight_within (cuts := cuts) Hall.out Hb2.out
      obtain ⟨hHw, hHa⟩ := high_above (ups := ups) Hall.out Hb3.out
      rw [Hn.out] at hTw hTa hHw hHa
      obtain ⟨b1', b2', b3'⟩ := innV_bd (v := (elo, ehi)) x2 (cutV_bd Hb2.out 0).1 (cutV_bd Hb2.out 1).1
      have hinE := fun W => inner_any elo ehi (cutV cuts 0) (cutV cuts 1) W (by omega) x2 (by omega) (cutV_bd Hb2.out 0).1 (cutV_bd Hb2.out 0).2 (cutV_bd Hb2.out 1).1 (cutV_bd Hb2.out 1).2
      obtain ⟨ep, hep⟩ : ∃ ep, elo + cutV cuts 0 % (ehi - elo + 1) = ep := ⟨_, rfl⟩
      obtain ⟨eq, heq⟩ : ∃ eq, ep + cutV cuts 1 % (ehi - ep + 1) = eq := ⟨_, rfl⟩
      have hIV : innV (cutV cuts 0) (cutV cuts 1) (elo, ehi) = (ep, eq) := by unfold innV; simp only [hep, heq]
      rw [hep, heq] at hinE
      rw [hIV] at b1' b2' b3'
      simp only at b1' b2' b3'
      clear hep heq hIV
      have hT := fun j => grow_rows (l := l) (l' := rowL (tightV cuts l) n) (sx := sx) (sy := sy) (ro := r) (st := st) (t := t) (ray := ray) (gx := gx) (gy := gy) (z := z) (elo := elo) (ehi := ehi) (elo' := ep) (ehi' := eq) (t0 := t - wd) (K := K) Hn.out Hsz.out c1 d1 d2 f2 hTw (by omega) b1' b3' b2' j
      have hH := fun j => high_rows (l := l) (l' := rowL (highV ups l) n) (sx := sx) (sy := sy) (ro := r) (st := st) (t := t) (ray := ray) (gx := gx) (gy := gy) (z := z) (elo := elo) (ehi := ehi) (t0 := t - wd) (K := K) Hn.out Hsz.out c1 d1 d2 f2 hHw j
      have hTin := hin' (rowL (tightV cuts l) n) ep eq rowL_length hTa (by omega) b2'
      have hzT := blockE_ok (ro := r) Hse.out (fieldE_ok Hge.out Hsz.out hTa) Hg1.out (decide_eq_true (⟨by omega, b2', by omega⟩ : 1000000 ≤ ep ∧ ep ≤ eq ∧ eq ≤ 100000000)) Hg3.out
      have hzH := blockE_ok (ro := r) Hse.out (fieldE_ok Hge.out Hsz.out hHa) Hg1.out Hg2.out Hg3.out
      have hvT' := fun A c W hl => Hv.out ep eq A c (rowL (tightV cuts l) n) rowL_length W hl
      have hvH' := fun A c W hl => Hv.out elo ehi A c (rowL (highV ups l) n) rowL_length W hl
      simp only [hzT] at hvT'
      simp only [hzH] at hvH'
      have hg0 : 0 < g.toNat := by have := HG.out; omega
      have hvT := fun A c W hl => (hvT' A c W hl).mono fun _ _ h => blk_zero2 hg0 h
      have hvH := fun A c W hl => (hvH' A c W hl).mono fun _ _ h => blk_zero h.old
      clear hvT' hvH' hzT hzH hg0
      have hGn : g.toNat = G := by have := HG.out; omega
      have hKn : (2 * wd + 1).toNat = K := by have := HK.out; omega
      rw [hGn, hKn] at hvT hvH
      clear hGn hKn hin' hTw hTa hHw hHa Hv
      obtain ⟨rt, hrt⟩ : ∃ rt, rowsZ (csB (groundZ (rowL (tightV cuts l) n) sx sy r st t ray gx gy gs wi hi) z st ep (t - wd)) (cmB (groundZ (rowL (tightV cuts l) n) sx sy r st t ray gx gy gs wi hi) z st eq (t - wd)) K = rt := ⟨_, rfl⟩
      obtain ⟨rh, hrh⟩ : ∃ rh, rowsZ (csB (groundZ (rowL (highV ups l) n) sx sy r st t ray gx gy gs wi hi) z st elo (t - wd)) (cmB (groundZ (rowL (highV ups l) n) sx sy r st t ray gx gy gs wi hi) z st ehi (t - wd)) K = rh := ⟨_, rfl⟩
      rw [hrt] at hTin hvT
      rw [hrh] at hvH
      simp only [hrt] at hT
      simp only [hrh] at hH
      have hbd := rowsZ_bd (cs := csB (groundZ l sx sy r st t ray gx gy gs wi hi) z st elo (t - wd)) (cm := cmB (groundZ l sx sy r st t ray gx gy gs wi hi) z st ehi (t - wd)) K
      have hmo := fun j => rowsZ_mono (cs := csB (groundZ l sx sy r st t ray gx gy gs wi hi) z st elo (t - wd)) (cm := cmB (groundZ l sx sy r st t ray gx gy gs wi hi) z st ehi (t - wd)) (j := j) K
      obtain ⟨ra, hra⟩ : ∃ ra, rowsZ (csB (groundZ l sx sy r st t ray gx gy gs wi hi) z st elo (t - wd)) (cmB (groundZ l sx sy r st t ray gx gy gs wi hi) z st ehi (t - wd)) K = ra := ⟨_, rfl⟩
      rw [hra] at hin hbd Hia
      simp only [hra] at hmo hT hH
      clear hrt hrh
      have HT := hide hT
      have HH := hide hH
      have HTin := hide hTin
      have HvT := hide hvT
      have HvH := hide hvH
      have HinE := hide hinE
      clear hT hH hTin hvT hvH hinE
      have Hra := hide hra
      have Hin := hide hin
      have Hbd := hide hbd
      have Hmo := hide hmo
      clear hra hin hbd hmo
      go_loopw [17] (fun i wr => ∃ j : Nat, j ≤ G ∧ i = .int .i64 j ∧ Below w2.heap.size w2 wr) (fun i _ => G - (intOf i).toNat)
      case atStart => exact ⟨0, by omega, rfl, Below.refl _ _⟩
      case round =>
        obtain ⟨j, hj, rfl, hbw⟩ := hrel
        have HW := hide hbw
        replace Hl := hide ((Ints.below Hl.out hbw).more (Below.size hbw))
        replace Hl2 := hide ((Ints.below Hl2.out hbw).more (Below.size hbw))
        replace Hl3 := hide ((Ints.below Hl3.out hbw).more (Below.size hbw))
        replace Hia := hide ((Ints.below Hia.out hbw).more (Below.size hbw))
        replace HB := hide (onward HB.out hbw)
        replace Hq := hide (blk_later Hq.out hbw)
        replace He := hide (blk_later He.out hbw)
        replace Hf := hide (blk_later Hf.out hbw)
        clear hbw
        by_cases hlt : j < G
        · obtain ⟨b, off, rfl, hbl, hc⟩ := row_pt Hia.out (by omega)
          obtain ⟨p0, p1⟩ := hc j hlt
          have h1 := Hin.out j hlt
          have h2 := Hbd.out j
          have h3' := Hmo.out (j - 1)
          have hK' := HK.out
          have k1 : decide ((ra j).1 < 0) = false := decide_eq_false (by omega)
          have k2 : decide ((ra j).2 < (ra j).1) = false := decide_eq_false (by omega)
          have k3 : decide (2 * wd + 1 < (ra j).2) = false := decide_eq_false (by omega)
          obtain ⟨-, -, -, -, -, -, -, q7⟩ := Hq.out.site8
          have lts := Hq.out.lt
          by_cases hj0 : j = 0
          · subst hj0
            simp only [Nat.zero_mul, Nat.add_zero] at p0 p1
            clear hc h1 h2 h3' hK'
            generalize (ra 0).1 = v0 at *
            generalize (ra 0).2 = v1 at *
            go_wp2_with fail
            apply wp_region_L (w0 := wr) [[], [], [], [], [], [], [], [], [], [], [], [], [], [], [], [], [], [], [], [], [], [], [], [], [], [], [], [], [], [], [], [], [], [], [], [], [], [], [], [], [], [], [], [], [], [], [], [], [], [], [], [], [], [], [], [], [], [], [], [], [], [], []] [true, true, true, true, true, true, true, true, true, true, true, true, true, true, true, true, true, true, true, true, true, true, true, true, true, true, true, true, true, true, true, true, true, true, true, true, true, true, true, true, true, true, true, true, true, true, true, true, true, true, true, true, true, true, true, true, true, true, true, true, true, true, true] [] (fun ixq y => match ixq with  | _ => undef) (fun ixq x F wq => match ixq with  | _ => True) (fun a x => a) (by kernel_rfl) (by kernel_rfl) (fun _ => rfl) [] (by kernel_rfl)
            · intro x D hD
              have hne := hD.some
              have k0 := liftB hD p0 (by first | assumption | omega)
              have k1 := liftB hD p1 (by first | assumption | omega)
              have k7 := liftB hD q7 (by first | assumption | omega)
              simp only [takeOps, Act.put, List.setIfInBounds_toArray, List.set_cons_succ, List.set_cons_zero]
              repeat (go_big_quiet_step (fail))
              exact wpQuiet_nil rfl
            · exact fun _ h => absurd h (by simp)
            · exact trivial
            · exact trivial
            intro xx w4 F hL4 hlv1
            clear hlv1
            replace Hl := hide ((Ints.below Hl.out hL4).more (Below.size hL4))
            replace Hl2 := hide ((Ints.below Hl2.out hL4).more (Below.size hL4))
            replace Hl3 := hide ((Ints.below Hl3.out hL4).more (Below.size hL4))
            replace Hia := hide ((Ints.below Hia.out hL4).more (Below.size hL4))
            replace HB := hide (onward HB.out hL4)
            replace Hq := hide (blk_later Hq.out hL4)
            replace He := hide (blk_later He.out hL4)
            replace Hf := hide (blk_later Hf.out hL4)
            replace HW := hide (onward HW.out hL4)
            clear hL4
            go_wp2
            go_roundw
            case rel => exact ⟨1, by omega, by go_num, HW.out⟩
            case measure => simp [intOf] <;> omega
          · obtain ⟨i, rfl⟩ : ∃ i, j = i + 1 := ⟨j - 1, by omega⟩
            obtain ⟨p2, p3⟩ := hc i (by omega)
            rw [Nat.add_sub_cancel] at h3'
            have k4 : decide ((ra (i + 1)).1 < (ra i).1) = false := decide_eq_false (by omega)
            have k5 : decide ((ra (i + 1)).2 < (ra i).2) = false := decide_eq_false (by omega)
            have k6 : (0 : Int) < (i : Int) + 1 := by omega
            clear hc h1 h2 h3' hK'
            generalize (ra (i + 1)).1 = v0 at *
            generalize (ra (i + 1)).2 = v1 at *
            generalize (ra i).1 = v2 at *
            generalize (ra i).2 = v3 at *
            go_wp2_with fail
            apply wp_region_L (w0 := wr) [[], [], [], [], [], [], [], [], [], [], [], [], [], [], [], [], [], [], [], [], [], [], [], [], [], [], [], [], [], [], [], [], [], [], [], [], [], [], [], [], [], [], [], [], [], [], [], [], [], [], [], [], [], [], [], [], [], [], [], [], [], [], []] [true, true, true, true, true, true, true, true, true, true, true, true, true, true, true, true, true, true, true, true, true, true, true, true, true, true, true, true, true, true, true, true, true, true, true, true, true, true, true, true, true, true, true, true, true, true, true, true, true, true, true, true, true, true, true, true, true, true, true, true, true, true, true] [] (fun ixq y => match ixq with  | _ => undef) (fun ixq x F wq => match ixq with  | _ => True) (fun a x => a) (by kernel_rfl) (by kernel_rfl) (fun _ => rfl) [] (by kernel_rfl)
            · intro x D hD
              have hne := hD.some
              have k0 := liftB hD p0 (by first | assumption | omega)
              have k1 := liftB hD p1 (by first | assumption | omega)
              have k2 := liftB hD p2 (by first | assumption | omega)
              have k3 := liftB hD p3 (by first | assumption | omega)
              have k7 := liftB hD q7 (by first | assumption | omega)
              simp only [takeOps, Act.put, List.setIfInBounds_toArray, List.set_cons_succ, List.set_cons_zero]
              repeat (go_big_quiet_step (fail))
              exact wpQuiet_nil rfl
            · exact fun _ h => absurd h (by simp)
            · exact trivial
            · exact trivial
            intro xx w4 F hL4 hlv2
            clear hlv2
            replace Hl := hide ((Ints.below Hl.out hL4).more (Below.size hL4))
            replace Hl2 := hide ((Ints.below Hl2.out hL4).more (Below.size hL4))
            replace Hl3 := hide ((Ints.below Hl3.out hL4).more (Below.size hL4))
            replace Hia := hide ((Ints.below Hia.out hL4).more (Below.size hL4))
            replace HB := hide (onward HB.out hL4)
            replace Hq := hide (blk_later Hq.out hL4)
            replace He := hide (blk_later He.out hL4)
            replace Hf := hide (blk_later Hf.out hL4)
            replace HW := hide (onward HW.out hL4)
            clear hL4
            go_wp2
            go_roundw
            case rel => exact ⟨i + 2, by omega, by go_num, HW.out⟩
            case measure => simp [intOf] <;> omega
        · obtain rfl : j = G := by omega
          clear HW
          clear Hin Hbd Hmo
          obtain ⟨wb, rfl⟩ : ∃ wb, wb = wr := ⟨_, rfl⟩
          obtain ⟨f0, f1, f2, f3, f4, f5⟩ := Hf.out.c6
          have ltf := Hf.out.lt
          go_wp2_with fail
          apply wp_region_LA (w0 := wb) [[], [], [], [], [2, 3], [2, 3, 4]] [true, true, false, false, false, false] [⟨2, none, [], []⟩, ⟨3, none, [], []⟩, ⟨4, some 2, [2], [2]⟩, ⟨5, some 3, [3], [3]⟩] (fun ixq y => match ixq with | 2 => .pointer (y 0).1 | 3 => .pointer (y 0).1 | 4 => undef | 5 => undef | _ => undef) (fun ixq x F wq => match ixq with | 2 => PtrF wq F wb.heap.size (x 2 0).1 38 #[.int .i64 0, .int .i64 0, .int .i64 0, .int .i64 0, .int .i64 0, .slice none 0 0] | 3 => PtrF wq F wb.heap.size (x 3 0).1 38 #[.int .i64 0, .int .i64 0, .int .i64 0, .int .i64 0, .int .i64 0, .slice none 0 0] | 4 => PtrF wq F wb.heap.size (x 2 0).1 38 #[.int .i64 gx, .int .i64 gy, .int .i64 gs, .int .i64 wi, .int .i64 hi, .slice A n c] | 5 => PtrF wq F wb.heap.size (x 3 0).1 38 #[.int .i64 gx, .int .i64 gy, .int .i64 gs, .int .i64 wi, .int .i64 hi, .slice A n c] | _ => True) (fun a x => ((((a).put (some 18) (.pointer ((x 2) 0).1)).put (some 19) (.pointer ((x 3) 0).1)).put (none) (undef)).put (none) (undef)) (by kernel_rfl) (by kernel_rfl) (fun _ => rfl) [] (by kernel_rfl)
          · intro x D hD
            have hne := hD.some
            have k0 := liftB hD f0 (by first | assumption | omega)
            have k1 := liftB hD f1 (by first | assumption | omega)
            have k2 := liftB hD f2 (by first | assumption | omega)
            have k3 := liftB hD f3 (by first | assumption | omega)
            have k4 := liftB hD f4 (by first | assumption | omega)
            have k5 := liftB hD f5 (by first | assumption | omega)
            simp only [takeOps, Act.put, List.setIfInBounds_toArray, List.set_cons_succ, List.set_cons_zero]
            repeat (go_big_quiet_step (fail))
            exact wpQuiet_nil rfl
          · exact fun _ h => absurd h (by simp)
          · refine ⟨?_, ?_, ?_, ?_, trivial⟩
            · exact obl_alloc 38 18 (.agg #[.int .i64 0, .int .i64 0, .int .i64 0, .int .i64 0, .int .i64 0, .slice none 0 0]) (by kernel_rfl) (by kernel_rfl) (fun _ => rfl) (fun _ _ _ h => h)
            · exact obl_alloc 38 19 (.agg #[.int .i64 0, .int .i64 0, .int .i64 0, .int .i64 0, .int .i64 0, .slice none 0 0]) (by kernel_rfl) (by kernel_rfl) (fun _ => rfl) (fun _ _ _ h => h)
            · refine obl_store 38 18 129 2 #[.int .i64 0, .int .i64 0, .int .i64 0, .int .i64 0, .int .i64 0, .slice none 0 0] (fun x => #[.int .i64 gx, .int .i64 gy, .int .i64 gs, .int .i64 wi, .int .i64 hi, .slice A n c]) (by kernel_rfl) rfl (by simp) (fun _ _ _ h => h) (fun _ => rfl) (fun _ => rfl) (fun _ => by kernel_rfl) (fun _ => rfl) (fun _ => by simp [Value.oneCell']) (fun _ => rfl) (by decide) (fun _ _ _ _ h => h)
            · refine obl_store 38 19 130 3 #[.int .i64 0, .int .i64 0, .int .i64 0, .int .i64 0, .int .i64 0, .slice none 0 0] (fun x => #[.int .i64 gx, .int .i64 gy, .int .i64 gs, .int .i64 wi, .int .i64 hi, .slice A n c]) (by kernel_rfl) rfl (by simp) (fun _ _ _ h => h) (fun _ => rfl) (fun _ => rfl) (fun _ => by kernel_rfl) (fun _ => rfl) (fun _ => by simp [Value.oneCell']) (fun _ => rfl) (by decide) (fun _ _ _ _ h => h)
          · refine ⟨?_, ?_, ?_, ?_, trivial⟩
            · exact owe_ptr 2 _ _ (fun x => #[.int .i64 0, .int .i64 0, .int .i64 0, .int .i64 0, .int .i64 0, .slice none 0 0]) (fun _ _ _ => rfl) (by simp) (fun _ _ _ => rfl)
            · exact owe_ptr 3 _ _ (fun x => #[.int .i64 0, .int .i64 0, .int .i64 0, .int .i64 0, .int .i64 0, .slice none 0 0]) (fun _ _ _ => rfl) (by simp) (fun _ _ _ => rfl)
            · exact owe_ptr 2 _ _ (fun x => #[.int .i64 gx, .int .i64 gy, .int .i64 gs, .int .i64 wi, .int .i64 hi, .slice A n c]) (fun _ _ _ => rfl) (by simp) (fun _ _ _ => rfl)
            · exact owe_ptr 3 _ _ (fun x => #[.int .i64 gx, .int .i64 gy, .int .i64 gs, .int .i64 wi, .int .i64 hi, .slice A n c]) (fun _ _ _ => rfl) (by simp) (fun _ _ _ => rfl)
          intro xx w4 F hL4 hlv3 hap3
          have apart4_5 : ∀ k, F 4 k → ¬ F 5 k := hap3 _ (List.mem_iff_getElem?.2 ⟨2, rfl⟩) _ (List.mem_iff_getElem?.2 ⟨3, rfl⟩) (by decide) (by intro t ht; simp only [List.mem_cons, List.not_mem_nil, or_false] at ht; rcases ht with rfl | rfl | rfl | rfl <;> simp) (by intro t ht; simp only [List.mem_cons, List.not_mem_nil, or_false] at ht; rcases ht with rfl | rfl | rfl | rfl <;> simp)
          clear hap3
          obtain ⟨-, -, fct4, fct5, -⟩ := hlv3
          replace fct4 : PtrF w4 (F 4) wb.heap.size (xx 2 0).1 38 #[.int .i64 gx, .int .i64 gy, .int .i64 gs, .int .i64 wi, .int .i64 hi, .slice A n c] := fct4 rfl
          replace fct5 : PtrF w4 (F 5) wb.heap.size (xx 3 0).1 38 #[.int .i64 gx, .int .i64 gy, .int .i64 gs, .int .i64 wi, .int .i64 hi, .slice A n c] := fct5 rfl
          obtain ⟨gt, hgt, hget, hFt, hbt⟩ := fct4
          obtain ⟨gh, hgh, hgeh, hFh, hbh⟩ := fct5
          have hne : gt ≠ gh := fun e => apart4_5 gt hFt (e ▸ hFh)
          have hne' : gh ≠ gt := Ne.symm hne
          rw [hgt, hgh]
          clear hgt hgh hFt hFh apart4_5 f0 f1 f2 f3 f4 f5 ltf
          have ltt := hbt.lt
          have lth := hbh.lt
          have Ht := hide hbt
          have Hh := hide hbh
          clear hbt hbh
          obtain ⟨tc0, tc1, tc2, tc3, tc4, tc5⟩ := Ht.out.c6
          obtain ⟨hc0, hc1, hc2, hc3, hc4, hc5⟩ := Hh.out.c6
          have tf5 := Ht.out.frozen 5
          have hf5 := Hh.out.frozen 5
          go_wp2_with fail
          clear tc0 tc1 tc2 tc3 tc4 tc5 hc0 hc1 hc2 hc3 hc4 hc5 tf5 hf5
          obtain ⟨W5, hW5⟩ : ∃ W5, W5 = (w4.setCell ⟨gt, 5, none⟩ (.slice none 0 0)).setCell ⟨gh, 5, none⟩ (.slice none 0 0) := ⟨_, rfl⟩
          rw [← hW5]
          have hbt : Blk W5 gt 38 #[.int .i64 gx, .int .i64 gy, .int .i64 gs, .int .i64 wi, .int .i64 hi, .slice none 0 0] := by rw [hW5]; exact (Ht.out.set_ 5 _).far hne _
          have hbh : Blk W5 gh 38 #[.int .i64 gx, .int .i64 gy, .int .i64 gs, .int .i64 wi, .int .i64 hi, .slice none 0 0] := by rw [hW5]; exact (Hh.out.far hne' _).set_ 5 _
          have hb5 : Below wb.heap.size wb W5 := by rw [hW5]; exact (Below.setCell hL4 hget _).setCell hgeh _
          have hs5 : wb.heap.size ≤ W5.heap.size := hb5.size
          have hgt5 : gt < W5.heap.size := hbt.lt
          have hgh5 : gh < W5.heap.size := hbh.lt
          clear hW5 Ht Hh ltt lth hL4
          go_loopw [20] (fun i wq => ∃ (k : Nat) (vt vh : Value), k ≤ n ∧ i = .int .i64 k ∧ Below wb.heap.size wb wq ∧ W5.heap.size ≤ wq.heap.size ∧ Blk wq gt 38 #[.int .i64 gx, .int .i64 gy, .int .i64 gs, .int .i64 wi, .int .i64 hi, vt] ∧ Blk wq gh 38 #[.int .i64 gx, .int .i64 gy, .int .i64 gs, .int .i64 wi, .int .i64 hi, vh] ∧
              wq.ownsRow W5.heap.size 47 2 vt k ((flat2 (rowL (tightV cuts l) k)).map (Value.int .i64)) ∧ wq.ownsRow W5.heap.size 47 2 vh k ((flat2 (rowL (highV ups l) k)).map (Value.int .i64)) ∧ Apart vt vh) (fun i _ => n - (intOf i).toNat)
          case atStart => exact ⟨0, _, _, by omega, rfl, hb5, Nat.le_refl _, hbt, hbh, World.ownsRow_nil _ _ _ _, World.ownsRow_nil _ _ _ _, apart_nil _⟩
          case round =>
            obtain ⟨k, vt, vh, hk, rfl, hbw, hsz5, hqt, hqh, hot, hoh, hap⟩ := hrel
            obtain ⟨At, ct, rfl⟩ := own_shape2 hot
            obtain ⟨Ah, ch, rfl⟩ := own_shape2 hoh
            clear hbt hbh hb5
            by_cases hlt : k < n
            · skip
              obtain ⟨bl, offl, rfl, hbl, hcl⟩ := Hl.out.pt (by have := Hn.out; omega)
              obtain ⟨p0, p1⟩ := hcl k (by have := Hn.out; omega)
              rw [← hbw.cell hbl] at p0 p1
              have htV : tightV cuts l k = innV (cutV cuts (2 * k + 2)) (cutV cuts (2 * k + 3)) (l.getD k (0, 0)) := rfl
              have hhV : highV ups l k = if k < ups.length then (min 20000 ((l.getD k (0, 0)).1 + ups.getD k 0), min 20000 ((l.getD k (0, 0)).2 + ups.getD k 0)) else l.getD k (0, 0) := rfl
              obtain ⟨o1, o2, o3⟩ := okS_get Hall.out (show k < l.length by have := Hn.out; omega)
              obtain ⟨y1, y2⟩ := cutV_bd Hb2.out (2 * k + 2)
              obtain ⟨y3, y4⟩ := cutV_bd Hb2.out (2 * k + 3)
              have hcut := fun (i : Nat) (hi : i ≤ 1000000) (W : World) (hW : Below W5.heap.size wr W) => cut_any A2 n2 c2 cuts i W Hn2.out hmax2 hi ((Hl2.out.below (hbw.trans (hW.mono hs5))).more (Nat.le_trans hbw.size hW.size))
              have hcut1 := hcut (2 * k + 2) (by omega)
              have hcut2 := hcut (2 * k + 3) (by omega)
              rw [show ((2 * k + 2 : Nat) : Int) = 2 * (k : Int) + 2 by omega] at hcut1
              rw [show ((2 * k + 3 : Nat) : Int) = 2 * (k : Int) + 3 by omega] at hcut2
              clear hcl hcut
              generalize cutV cuts (2 * k + 2) = x1 at *
              generalize cutV cuts (2 * k + 3) = x2 at *
              generalize l.getD k (0, 0) = v at *
              obtain ⟨v0, v1⟩ := v
              simp only at p0 p1 o1 o2 o3 hhV
              have hinn := fun W => inner_any v0 v1 x1 x2 W o1 o2 (by omega) y1 y2 y3 y4
              obtain ⟨i1, hi1⟩ : ∃ i1, v0 + x1 % (v1 - v0 + 1) = i1 := ⟨_, rfl⟩
              obtain ⟨i2, hi2⟩ : ∃ i2, i1 + x2 % (v1 - i1 + 1) = i2 := ⟨_, rfl⟩
              have hiV : innV x1 x2 (v0, v1) = (i1, i2) := by unfold innV; simp only [hi1, hi2]
              rw [hi1, hi2] at hinn
              rw [hiV] at htV
              have f5 := (blk_later Hf.out hbw).c 5 rfl
              have ltf := (blk_later Hf.out hbw).lt
              have hkn : (k : Int) < n := by omega
              have d1 : decide (v1 < v0) = false := decide_eq_false (by omega)
              have hot0 := hot
              have hoh0 := hoh
              have Ht := hide hqt
              have Hh := hide hqh
              have Ho := hide hot
              have Hx := hide hoh
              have Hap := hide hap
              have HtV := hide htV
              have HhV := hide hhV
              have Hcut1 := hide hcut1
              have Hcut2 := hide hcut2
              have Hinn := hide hinn
              have HG := hide hbw
              clear hqt hqh hot hoh hap htV hhV hcut1 hcut2 hinn hbw
              clear hi1 hi2 hiV
              have hbl' : bl < wr.heap.size := by have := HG.out.size; omega
              go_wp2_with fail
              have hLr := Later.refl wr
              have HLr := hide hLr
              clear hLr
              refine code_world fun w6 hW => ?_
              have bq0 : Blk w6 wr.heap.size 47 #[.int .i64 v0, .int .i64 v1] := by rw [hW]; exact Blk.new _ _ _
              have LW : Later wr w6 := by rw [hW]; exact ((Below.refl _ _).alloc (Nat.le_refl _) _)
              have szW : w6.heap.size = wr.heap.size + 1 := by rw [hW]; simp
              clear hW
              replace Ht := hide (blk_later Ht.out LW)
              replace Hh := hide (blk_later Hh.out LW)
              replace Ho := hide (own_later Ho.out LW)
              replace Hx := hide (own_later Hx.out LW)
              replace HG := hide (onward HG.out LW)
              replace HLr := hide (onward HLr.out LW)
              have Hs := hide bq0
              clear bq0 LW szW
              clear p0 p1 f5 ltf hbl'
              have hsz6 : W5.heap.size ≤ w6.heap.size := by have := Hs.out.lt; omega
              have hneS : (Value.slice At k ct).ownBlock ≠ some wr.heap.size := own_high_ne hot0 (Nat.le_refl _)
              have hneH : (Value.slice Ah k ch).ownBlock ≠ some wr.heap.size := own_high_ne hoh0 (Nat.le_refl _)
              have hneT : (Value.slice At k ct).ownBlock ≠ some gt := own_low_ne Ho.out hgt5
              have hneG : (Value.slice At k ct).ownBlock ≠ some gh := own_low_ne Ho.out hgh5
              have hneX : (Value.slice Ah k ch).ownBlock ≠ some gt := own_low_ne Hx.out hgt5
              clear hot0 hoh0
              have HneT := hide hneT
              have HneS := hide hneS
              obtain ⟨s0, s1⟩ := Hs.out.c2
              have lts := Hs.out.lt
              have ltt := Ht.out.lt
              have lth := Hh.out.lt
              have tc5 := Ht.out.c 5 rfl
              obtain ⟨i0, hii, hz0, hz1, hz2⟩ := info_parts spanInfo
              have Hi := hide hii
              have Hz0 := hide hz0
              have Hz1 := hide hz1
              have Hz2 := hide hz2
              clear hii hz0 hz1 hz2
              have hL6 : Below W5.heap.size wr w6 := HLr.out.mono hsz5
              go_wp2_with fail
              apply wp_region_F (w0 := w6) [[], [0], [], [], [], [4], [4, 5], [3, 4, 5, 6], [], [], [9], [9, 10], [3, 4, 5, 6, 7, 8, 9, 10, 11], [2, 3, 4, 5, 6, 7, 8, 9, 10, 11, 12], [2, 3, 4, 5, 6, 7, 8, 9, 10, 11, 12, 13], [0, 1, 2, 3, 4, 5, 6, 7, 8, 9, 10, 11, 12, 13, 14], [0, 1, 2, 3, 4, 5, 6, 7, 8, 9, 10, 11, 12, 13, 14, 15], [0, 1, 2, 3, 4, 5, 6, 7, 8, 9, 10, 11, 12, 13, 14, 15, 16]] [true, true, true, true, true, true, true, true, true, true, true, true, true, true, false, false, true, false] [false, false, false, false, false, false, false, false, false, false, false, false, false, false, false, false, false, false] [⟨14, none, [], []⟩, ⟨15, none, [14], []⟩, ⟨17, none, [], [15]⟩] (fillQ 15 (.slice At k ct) 17 gt) [17] (fun ixq y => match ixq with | 14 => .slice (y 0).1 1 1 | 15 => .slice (y 0).1 (k + 1) (y 0).2 | 17 => undef | _ => undef) (fun ixq x F wq => match ixq with | 14 => OwnF wq F w6.heap.size 47 2 (.slice (x 14 0).1 1 1) 1 #[.int .i64 i1, .int .i64 i2].toList | 15 => OwnF wq F W5.heap.size 47 2 (.slice (x 15 0).1 (k + 1) (x 15 0).2) (k + 1) (((flat2 (rowL (tightV cuts l) k)).map (Value.int .i64)) ++ (#[.int .i64 i1, .int .i64 i2] : Array Value).toList) ∧ FreshOr w6.heap.size (.slice At k ct) (.slice (x 15 0).1 (k + 1) (x 15 0).2) | 17 => F gt ∧ Blk wq gt 38 #[.int .i64 gx, .int .i64 gy, .int .i64 gs, .int .i64 wi, .int .i64 hi, .slice (x 15 0).1 (k + 1) (x 15 0).2] | _ => True) (fun a x => (((a).put (some 164) (.slice ((x 14) 0).1 1 1)).put (some 165) (.slice ((x 15) 0).1 (k + 1) ((x 15) 0).2)).put (none) (undef)) (by kernel_rfl) (by kernel_rfl) (by kernel_rfl) (fun _ => rfl) [157, 162, 163] (by kernel_rfl) (fillQ_lt (fun g hg => (Ho.out.lt g hg).2) (by omega)) (fillQ_ne HneT.out)
              · intro x D hD
                have hne := hD.some
                have k5 := liftS hD tc5 (earlyQ (by first | assumption | omega) HneT.out)
                have k0 := liftS hD s0 (earlyQ (by first | assumption | omega) HneS.out)
                have k1 := liftS hD s1 (earlyQ (by first | assumption | omega) HneS.out)
                have hlow := fun (x : Of D) => hL6.trans (kbS (B := W5.heap.size) hD (fun k hk => earlyQ (Nat.lt_of_lt_of_le hk hsz6) (own_low_ne Ho.out hk)) x)
                simp only [takeOps, Act.put, List.setIfInBounds_toArray, List.set_cons_succ, List.set_cons_zero]
                repeat (go_big_quiet_step ((first | (go_at_call 45; first | (with_reducible exact calls_later hD _ (Hcut1.out _ (hlow _))) | (with_reducible exact calls_later hD _ (Hcut2.out _ (hlow _)))) | (go_at_call 36; exact calls_later hD _ (Hinn.out _)))))
                exact wpQuiet_nil rfl
              · exact fun x D hD => wpQuiet_nil rfl
              · intro d hd x x'
                simp only [List.mem_cons, List.not_mem_nil, or_false] at hd
                rcases hd with rfl | rfl | rfl
                all_goals rfl
              · refine ⟨?_, ?_, ?_, trivial⟩
                · exact obl_new rfl (fun _ => by kernel_rfl) 47 (fun x => #[.int .i64 i1, .int .i64 i2]) gP (fun x w => by kernel_rfl) (fun x w hle => own_new hle rfl (by unfold maxLen; omega))
                · refine obl_pushQ 36 151 164 (by kernel_rfl) W5.heap.size 47 i0 _ 2 16 Try.underlying36 Hi.out Hz0.out Hz1.out Hz2.out rfl (by decide) (.slice At k ct) k 1 (((flat2 (rowL (tightV cuts l) k)).map (Value.int .i64))) (#[.int .i64 i1, .int .i64 i2] : Array Value).toList (by first | rfl | (simp; done) | (simp; omega)) (by simp [Value.oneCell']) (by unfold maxLen; omega) (by omega) (by first | assumption | omega) (fun x w F hk hn => ?_) (fun _ => rfl) (fun _ _ _ _ h1 h2 => ⟨h1, h2⟩)
                  have hj : OwnF w (F 14) w6.heap.size 47 2 (.slice (x 14 0).1 1 1) 1 (#[.int .i64 i1, .int .i64 i2] : Array Value).toList := hn 14 (by simp)
                  obtain ⟨ad, hA, hc⟩ := news_own hj (by decide)
                  exact ⟨ad, 1, rfl, row_thenQ Ho.out HneT.out hk, wrQ_row, (show Value.slice (x 14 0).1 1 1 = _ by rw [hA]), hc⟩
                · exact obl_setv 36 38 166 165 gt 5 _ (fun x => .slice (x 15 0).1 (k + 1) (x 15 0).2) (fun x => #[.int .i64 gx, .int .i64 gy, .int .i64 gs, .int .i64 wi, .int .i64 hi, .slice (x 15 0).1 (k + 1) (x 15 0).2]) (by kernel_rfl) (fun _ => rfl) (fun _ => rfl) (fun _ => rfl) Ht.out (ebQ_set HneT.out) wrQ_set (by kernel_rfl) (by simp) (fun _ => rfl) (fun _ => rfl) (fun _ _ _ _ h1 h2 => ⟨h1, h2⟩)
              · refine ⟨?_, ?_, ?_, trivial⟩
                · refine ⟨fun x F wq wq' h hs hk => ?_, fun x x' F wq hx h => ?_⟩
                  · have h2 : OwnF wq F w6.heap.size 47 2 (.slice (x 14 0).1 1 1) 1 #[.int .i64 i1, .int .i64 i2].toList := h
                    exact h2.stab hk
                  · have h2 : OwnF wq F w6.heap.size 47 2 (.slice (x 14 0).1 1 1) 1 #[.int .i64 i1, .int .i64 i2].toList := h
                    rw [hx 14 (by simp)] at h2
                    exact h2
                · exact owe_pushQ 15 _ W5.heap.size (.slice At k ct) 47 2 (k + 1) (((flat2 (rowL (tightV cuts l) k)).map (Value.int .i64)) ++ (#[.int .i64 i1, .int .i64 i2] : Array Value).toList) rfl (fun _ _ _ => rfl)
                · exact owe_fill gt 38 (fun x => #[.int .i64 gx, .int .i64 gy, .int .i64 gs, .int .i64 wi, .int .i64 hi, .slice (x 15 0).1 (k + 1) (x 15 0).2]) (fun _ _ _ => rfl) (fun x x' hx => by simp only [hx 15 (by simp)])
              intro xx w7 F hL7 hlv4
              obtain ⟨-, fct15, fct17, -⟩ := hlv4
              replace fct15 : OwnF w7 (F 15) W5.heap.size 47 2 (.slice (xx 15 0).1 (k + 1) (xx 15 0).2) (k + 1) (((flat2 (rowL (tightV cuts l) k)).map (Value.int .i64)) ++ (#[.int .i64 i1, .int .i64 i2] : Array Value).toList) ∧ FreshOr w6.heap.size (.slice At k ct) (.slice (xx 15 0).1 (k + 1) (xx 15 0).2) := fct15 rfl
              replace fct17 : (F 17) gt ∧ Blk w7 gt 38 #[.int .i64 gx, .int .i64 gy, .int .i64 gs, .int .i64 wi, .int .i64 hi, .slice (xx 15 0).1 (k + 1) (xx 15 0).2] := fct17 rfl
              obtain ⟨⟨hot7, -⟩, hfr⟩ := fct15
              have hqt7 := fct17.2
              generalize (xx 15 0).1 = A7 at *
              generalize (xx 15 0).2 = c7 at *
              rw [show ((flat2 (rowL (tightV cuts l) k)).map (Value.int .i64)) ++ (#[Value.int .i64 i1, .int .i64 i2] : Array Value).toList = (flat2 (rowL (tightV cuts l) (k + 1))).map (Value.int .i64) by rw [flat_rowL, HtV.out]] at hot7
              have hqh7 := blk_kept Hh.out hL7 ⟨Hh.out.lt, freeQ hneG hne⟩
              have hqs7 := blk_kept Hs.out hL7 ⟨Hs.out.lt, freeQ HneS.out (by omega)⟩
              have hoh7 := own_keptQ Hx.out hL7 (fun g hg => ⟨(Hx.out.lt g hg).2, freeQ (apart_ne Hap.out hg) (by have := (Hx.out.lt g hg).1; omega)⟩)
              have hap7 : Apart (.slice A7 (k + 1) c7) (.slice Ah k ch) := (apart_fresh Hap.out.symm Hx.out (Nat.le_refl _) hfr).symm
              have hg7 : Below wb.heap.size wb w7 := below_kept HG.out HG.out.size hL7 (fun p hp => by
                rcases mem_fillQ.1 hp with ⟨_, h2⟩ | ⟨_, h2⟩
                · have := (Ho.out.lt _ h2).1; omega
                · omega)
              have hneS7 : (Value.slice A7 (k + 1) c7).ownBlock ≠ some wr.heap.size := by
                rcases hfr with e | ⟨g, e, hg⟩
                · rw [e]; exact HneS.out
                · rw [e]; intro e2; have := Option.some.inj e2; omega
              have hsz7 := hL7.size
              have hbs : wb.heap.size ≤ wr.heap.size := Nat.le_trans hs5 hsz5
              clear fct17 hfr hL7 tc5 s0 s1 lts ltt lth hneT hneG HneS HneT Ht Hh Hs Ho Hx Hap HG HLr hL6 Hcut1 Hcut2 Hinn HtV
              have Ht := hide hqt7
              have Hh := hide hqh7
              have Hs := hide hqs7
              have Ho := hide hot7
              have Hx := hide hoh7
              have Hap := hide hap7
              have HG := hide hg7
              clear hqt7 hqh7 hqs7 hot7 hoh7 hap7 hg7
              have lts := Hs.out.lt
              have ltt := Ht.out.lt
              have lth := Hh.out.lt
              obtain ⟨s0, s1⟩ := Hs.out.c2
              by_cases hq3 : k < n3
              · obtain ⟨bu, offu, rfl, hbu, hcu⟩ := Hl3.out (by have := Hn3.out; omega)
                have pu := hcu k (by have := Hn3.out; omega)
                rw [← HG.out.cell hbu] at pu
                have hub : 0 ≤ ups.getD k 0 ∧ ups.getD k 0 ≤ 255 := by
                  have : k < ups.length := by rw [Hn3.out]; exact hq3
                  simp only [List.getD, List.getElem?_eq_getElem this]
                  exact Hb3.out _ (List.getElem_mem this)
                have hhV := HhV.out
                rw [if_pos (by rw [Hn3.out]; exact hq3)] at hhV
                generalize ups.getD k 0 = uq at *
                obtain ⟨ub1, ub2⟩ := hub
                obtain ⟨xa, hxa⟩ : ∃ xa : Int, min 20000 (v0 + uq) = xa := ⟨_, rfl⟩
                obtain ⟨xb, hxb⟩ : ∃ xb : Int, min 20000 (v1 + uq) = xb := ⟨_, rfl⟩
                rw [hxa, hxb] at hhV
                have Hxv := hide hhV
                have Hxa := hide hxa
                have Hxb := hide hxb
                clear hhV hcu HhV hxa hxb
                have hbu7 : bu < w7.heap.size := by have := HG.out.size; omega
                have hkn3 : (k : Int) < n3 := by omega
                go_wp2_with fail
                apply wp_region_F (w0 := w7) [[], [0], [], [], [2, 3], [2, 3, 4], [2, 3, 4, 5], [0, 1, 2, 3, 4, 5, 6], [0, 1, 2, 3, 4, 5, 6, 7], [], [9], [], [], [11, 12], [11, 12, 13], [11, 12, 13, 14], [9, 10, 11, 12, 13, 14, 15], [9, 10, 11, 12, 13, 14, 15, 16], [0, 1, 2, 3, 4, 5, 6, 7, 8, 9, 10, 11, 12, 13, 14, 15, 16, 17], [0, 1, 2, 3, 4, 5, 6, 7, 8, 9, 10, 11, 12, 13, 14, 15, 16, 17, 18]] [true, true, true, true, true, true, true, true, true, true, true, true, true, true, true, true, true, true, true, false] [false, false, false, false, false, false, false, false, false, false, false, false, false, false, false, false, false, false, false, false] [⟨19, none, [], []⟩] [(19, wr.heap.size)] [19] (fun ixq y => match ixq with | 19 => undef | _ => undef) (fun ixq x F wq => match ixq with | 19 => F wr.heap.size ∧ Blk wq wr.heap.size 47 #[.int .i64 (min 20000 (v0 + uq)), .int .i64 (min 20000 (v1 + uq))] | _ => True) (fun a x => (a).put (none) (undef)) (by kernel_rfl) (by kernel_rfl) (by kernel_rfl) (fun _ => rfl) [] (by kernel_rfl) (fills_lt1 (by omega)) fills_ne1
                · intro x D hD
                  have hne := hD.some
                  have k0 := liftS hD s0 (by exact early_all (by first | assumption | omega) (by rfl))
                  have k1 := liftS hD s1 (by exact early_all (by first | assumption | omega) (by rfl))
                  have ku := liftS hD pu (by exact early_all (by first | assumption | omega) (by rfl))
                  simp only [takeOps, Act.put, List.setIfInBounds_toArray, List.set_cons_succ, List.set_cons_zero]
                  repeat (go_big_quiet_step (fail))
                  exact wpQuiet_nil rfl
                · exact fun x D hD => wpQuiet_nil rfl
                · exact fun _ h => absurd h (by simp)
                · refine ⟨?_, trivial⟩
                  · exact obl_fill 47 47 21 189 wr.heap.size _ (fun x => #[.int .i64 (min 20000 (v0 + uq)), .int .i64 (min 20000 (v1 + uq))]) (by kernel_rfl) (fun _ => rfl) (fun _ => rfl) Hs.out eb_fill1 (by simp [wrF]) (fun _ => by kernel_rfl) (fun _ => rfl) (fun _ => by simp [Value.oneCell']) (fun _ => rfl) (fun _ _ _ _ h1 h2 => ⟨h1, h2⟩)
                · refine ⟨?_, trivial⟩
                  · exact owe_fill wr.heap.size 47 (fun x => #[.int .i64 (min 20000 (v0 + uq)), .int .i64 (min 20000 (v1 + uq))]) (fun _ _ _ => rfl) (fun _ _ _ => rfl)
                intro x8 w8 F hL8 hlv5
                obtain ⟨fct19, -⟩ := hlv5
                replace fct19 : (F 19) wr.heap.size ∧ Blk w8 wr.heap.size 47 #[.int .i64 (min 20000 (v0 + uq)), .int .i64 (min 20000 (v1 + uq))] := fct19 rfl
                have hqs8 := fct19.2
                rw [Hxa.out, Hxb.out] at hqs8
                generalize min 20000 (v0 + uq) = ya at *
                generalize min 20000 (v1 + uq) = yb at *
                have hqt8 := blk_kept Ht.out hL8 ⟨ltt, free1 (by omega)⟩
                have hqh8 := blk_kept Hh.out hL8 ⟨lth, free1 (by omega)⟩
                have hot8 := own_keptQ Ho.out hL8 (fun g hg => ⟨(Ho.out.lt g hg).2, free1 (fun e => hneS7 (by rw [hg, e]))⟩)
                have hoh8 := own_keptQ Hx.out hL8 (fun g hg => ⟨(Hx.out.lt g hg).2, free1 (fun e => hneH (by rw [hg, e]))⟩)
                have hg8 : Below wb.heap.size wb w8 := below_kept HG.out HG.out.size hL8 (fun p hp => by simp only [List.mem_singleton] at hp; subst hp; exact hbs)
                have hsz8 := hL8.size
                clear fct19 hL8 s0 s1 pu Hxa Hxb lts ltt lth Hs Ht Hh Ho Hx HG hneS7 hneH
                have Ht := hide hqt8
                have Hh := hide hqh8
                have Hs := hide hqs8
                have Ho := hide hot8
                have Hx := hide hoh8
                have HG := hide hg8
                clear hqt8 hqh8 hqs8 hot8 hoh8 hg8
                have lts := Hs.out.lt
                have lth := Hh.out.lt
                obtain ⟨s0, s1⟩ := Hs.out.c2
                have hc5 := Hh.out.c 5 rfl
                have hszW : W5.heap.size ≤ w8.heap.size := by omega
                go_wp2_with (at_builtin; refine wpList_append_own_at _ rfl (.tmp 191) (.tmp 193) _ rfl W5.heap.size 47 i0 _ 2 16 Try.underlying36 Hi.out Hz0.out Hz1.out Hz2.out rfl (by decide) _ k _ rfl (Hx.out.alloc _) ⟨w8.heap.size, 0, none⟩ 1 1 [.int .i64 xa, .int .i64 xb] rfl rfl ?ka1 ?ka2 ?ka3 ?ka4 ?ka5 ?_)
                try case ka1 => exact new_cellsQ w8 _ [.int .i64 xa, .int .i64 xb]
                case ka2 => first | (intro u hu; simp at hu; rcases hu with rfl | rfl <;> rfl) | exact ⟨rfl, rfl⟩
                case ka3 => first | omega | (unfold maxLen; omega)
                case ka4 => omega
                case ka5 => first | omega | (simp; omega)
                intro v2' w9 hownB hgrB _ hatB
                obtain ⟨A9, c9, rfl⟩ := own_shape2 hownB
                rw [show ((flat2 (rowL (highV ups l) k)).map (Value.int .i64)) ++ [Value.int .i64 xa, .int .i64 xb] = (flat2 (rowL (highV ups l) (k + 1))).map (Value.int .i64) by rw [flat_rowL, Hxv.out]] at hownB
                have hqh9 := blk_grown (Hh.out.alloc (.cells #[.int .i64 xa, .int .i64 xb] 47)) hgrB (own_low_ne Hx.out hgh5)
                have hqt9 := blk_grown (Ht.out.alloc (.cells #[.int .i64 xa, .int .i64 xb] 47)) hgrB (own_low_ne Hx.out hgt5)
                have hot9 := (Ho.out.alloc (.cells #[.int .i64 xa, .int .i64 xb] 47)).kept hgrB Hap.out
                have hap9 : Apart (.slice A7 (k + 1) c7) (.slice A9 (k + 1) c9) := apart_after Hap.out Ho.out (Nat.le_succ _) (by simpa using hatB)
                have hg9 := below_grown (HG.out.alloc HG.out.size (.cells #[.int .i64 xa, .int .i64 xb] 47)) hgrB (by simp; omega) (fun q hq => Nat.le_trans hs5 (Hx.out.lt q hq).1)
                have hsz9 : W5.heap.size ≤ w9.heap.size := by have := hgrB.size; simp at this; omega
                clear hgrB hatB lts lth s0 s1 hc5 Ho Hx Hh Ht Hs HG Hap Hxv
                have Ht := hide hqt9
                have Hh := hide hqh9
                have Ho := hide hot9
                have Hx := hide hownB
                have Hap := hide hap9
                have HG := hide hg9
                clear hqt9 hqh9 hot9 hownB hap9 hg9
                have lth := Hh.out.lt
                have hc5 := Hh.out.c 5 rfl
                have hf5 := Hh.out.frozen 5
                go_wp2
                go_roundw
                case rel => exact ⟨k + 1, _, _, by omega, by go_num, Below.setCell HG.out hgeh _, by simpa using hsz9, Ht.out.far hne _, Hh.out.set_ 5 _, Ho.out.kept (grown_setCell _ _ _ _) (.inr (own_low_ne Ho.out hgh5)), Hx.out.kept (grown_setCell _ _ _ _) (.inr (own_low_ne Hx.out hgh5)), Hap.out⟩
                case measure => simp [intOf] <;> omega
              · have hhV := HhV.out
                rw [if_neg (by rw [Hn3.out]; exact hq3)] at hhV
                have Hxv := hide hhV
                have hq3' : ¬ (k : Int) < n3 := by omega
                clear hhV HhV lts ltt lth s0 s1
                have lts := Hs.out.lt
                have lth := Hh.out.lt
                obtain ⟨s0, s1⟩ := Hs.out.c2
                have hc5 := Hh.out.c 5 rfl
                have hszW : W5.heap.size ≤ w7.heap.size := by omega
                go_wp2_with (at_builtin; refine wpList_append_own_at _ rfl (.tmp 191) (.tmp 193) _ rfl W5.heap.size 47 i0 _ 2 16 Try.underlying36 Hi.out Hz0.out Hz1.out Hz2.out rfl (by decide) _ k _ rfl (Hx.out.alloc _) ⟨w7.heap.size, 0, none⟩ 1 1 [.int .i64 v0, .int .i64 v1] rfl rfl ?kb1 ?kb2 ?kb3 ?kb4 ?kb5 ?_)
                try case kb1 => exact new_cellsQ w7 _ [.int .i64 v0, .int .i64 v1]
                case kb2 => first | (intro u hu; simp at hu; rcases hu with rfl | rfl <;> rfl) | exact ⟨rfl, rfl⟩
                case kb3 => first | omega | (unfold maxLen; omega)
                case kb4 => omega
                case kb5 => first | omega | (simp; omega)
                intro v2' w9 hownB hgrB _ hatB
                obtain ⟨A9, c9, rfl⟩ := own_shape2 hownB
                rw [show ((flat2 (rowL (highV ups l) k)).map (Value.int .i64)) ++ [Value.int .i64 v0, .int .i64 v1] = (flat2 (rowL (highV ups l) (k + 1))).map (Value.int .i64) by rw [flat_rowL, Hxv.out]] at hownB
                have hqh9 := blk_grown (Hh.out.alloc (.cells #[.int .i64 v0, .int .i64 v1] 47)) hgrB (own_low_ne Hx.out hgh5)
                have hqt9 := blk_grown (Ht.out.alloc (.cells #[.int .i64 v0, .int .i64 v1] 47)) hgrB (own_low_ne Hx.out hgt5)
                have hot9 := (Ho.out.alloc (.cells #[.int .i64 v0, .int .i64 v1] 47)).kept hgrB Hap.out
                have hap9 : Apart (.slice A7 (k + 1) c7) (.slice A9 (k + 1) c9) := apart_after Hap.out Ho.out (Nat.le_succ _) (by simpa using hatB)
                have hg9 := below_grown (HG.out.alloc HG.out.size (.cells #[.int .i64 v0, .int .i64 v1] 47)) hgrB (by simp; omega) (fun q hq => Nat.le_trans hs5 (Hx.out.lt q hq).1)
                have hsz9 : W5.heap.size ≤ w9.heap.size := by have := hgrB.size; simp at this; omega
                clear hgrB hatB lts lth s0 s1 hc5 Ho Hx Hh Ht Hs HG Hap Hxv
                have Ht := hide hqt9
                have Hh := hide hqh9
                have Ho := hide hot9
                have Hx := hide hownB
                have Hap := hide hap9
                have HG := hide hg9
                clear hqt9 hqh9 hot9 hownB hap9 hg9
                have lth := Hh.out.lt
                have hc5 := Hh.out.c 5 rfl
                have hf5 := Hh.out.frozen 5
                go_wp2
                go_roundw
                case rel => exact ⟨k + 1, _, _, by omega, by go_num, Below.setCell HG.out hgeh _, by simpa using hsz9, Ht.out.far hne _, Hh.out.set_ 5 _, Ho.out.kept (grown_setCell _ _ _ _) (.inr (own_low_ne Ho.out hgh5)), Hx.out.kept (grown_setCell _ _ _ _) (.inr (own_low_ne Hx.out hgh5)), Hap.out⟩
                case measure => simp [intOf] <;> omega
            · obtain rfl : k = n := by omega
              have htI := Ints.own hot rfl (Nat.le_refl _)
              have hhI := Ints.own hoh rfl (Nat.le_refl _)
              clear hot hoh hap hsz5 hgt5 hgh5
              replace Hl := hide ((Ints.below Hl.out hbw).more (Below.size hbw))
              replace Hl2 := hide ((Ints.below Hl2.out hbw).more (Below.size hbw))
              replace Hl3 := hide ((Ints.below Hl3.out hbw).more (Below.size hbw))
              replace Hia := hide ((Ints.below Hia.out hbw).more (Below.size hbw))
              replace HB := hide (onward HB.out hbw)
              replace Hq := hide (blk_later Hq.out hbw)
              replace He := hide (blk_later He.out hbw)
              replace Hf := hide (blk_later Hf.out hbw)
              clear hbw
              have Ht := hide hqt
              have Hh := hide hqh
              have HtI := hide htI
              have HhI := hide hhI
              clear hqt hqh htI hhI
              obtain ⟨q0, q1, q2, q3, q4, q5, q6, q7⟩ := Hq.out.site8
              obtain ⟨e0, e1⟩ := He.out.c2
              obtain ⟨tc0, tc1, tc2, tc3, tc4, tc5⟩ := Ht.out.c6
              have lts := Hq.out.lt
              have lte := He.out.lt
              have ltt := Ht.out.lt
              have hcut := fun (i : Nat) (hi : i ≤ 1000000) (W : World) (hW : Below wr.heap.size wr W) => cut_any A2 n2 c2 cuts i W Hn2.out hmax2 hi ((Hl2.out.below hW).more hW.size)
              have hcut1 := hcut 0 (by omega)
              have hcut2 := hcut 1 (by omega)
              have Hcut1 := hide hcut1
              have Hcut2 := hide hcut2
              clear hcut1 hcut2
              clear hcut
              have f5 := Hf.out.c 5 rfl
              have ltf := Hf.out.lt
              go_wp2_with fail
              clear f5 ltf
              apply wp_region_L (w0 := wr) [[], [], [], [], [], [], [], [], [], [], [], [10], [10], [10], [10], [10]] [true, true, true, true, true, true, true, true, true, true, false, true, true, true, true, true] [⟨10, none, [], []⟩] (fun ixq y => match ixq with | 10 => .tuple #[.slice (y 0).1 j (y 0).2, .int .i64 0] | _ => undef) (fun ixq x F wq => match ixq with | 10 => IntsF wq F (x 10 0).1 (flat2 (rowL rt j)) | _ => True) (fun a x => (a).put (some 207) (.tuple #[.slice ((x 10) 0).1 j ((x 10) 0).2, .int .i64 0])) (by kernel_rfl) (by kernel_rfl) (fun _ => rfl) [201, 203, 204] (by kernel_rfl)
              · intro x D hD
                have hne := hD.some
                have k0 := liftB hD q0 (by first | assumption | omega)
                have k1 := liftB hD q1 (by first | assumption | omega)
                have k2 := liftB hD q2 (by first | assumption | omega)
                have k3 := liftB hD q3 (by first | assumption | omega)
                have k4 := liftB hD q4 (by first | assumption | omega)
                have k5 := liftB hD q5 (by first | assumption | omega)
                have k6 := liftB hD q6 (by first | assumption | omega)
                have k7 := liftB hD q7 (by first | assumption | omega)
                have j0 := liftB hD e0 (by first | assumption | omega)
                have j1 := liftB hD e1 (by first | assumption | omega)
                have i0 := liftB hD tc0 (by first | assumption | omega)
                have i1 := liftB hD tc1 (by first | assumption | omega)
                have i2 := liftB hD tc2 (by first | assumption | omega)
                have i3 := liftB hD tc3 (by first | assumption | omega)
                have i4 := liftB hD tc4 (by first | assumption | omega)
                have i5 := liftB hD tc5 (by first | assumption | omega)
                simp only [takeOps, Act.put, List.setIfInBounds_toArray, List.set_cons_succ, List.set_cons_zero]
                repeat (go_big_quiet_step ((first | (go_at_call 45; first | (with_reducible exact calls_later hD _ (Hcut1.out _ (kb hD _))) | (with_reducible exact calls_later hD _ (Hcut2.out _ (kb hD _)))) | (go_at_call 36; exact calls_later hD _ (HinE.out _)))))
                exact wpQuiet_nil rfl
              · intro d hd x x'
                simp only [List.mem_cons, List.not_mem_nil, or_false] at hd
                rcases hd with rfl | rfl | rfl
                all_goals rfl
              · refine ⟨?_, trivial⟩
                · refine obl_callL rfl (fun _ => by kernel_rfl) 41 (fun x => #[.agg #[.string s, .int .i64 sx, .int .i64 sy, .int .i64 z, .int .i64 r, .int .i64 g, .int .i64 st, .int .i64 wd], .int .i64 t, .agg #[.int .i64 ep, .int .i64 eq], .agg #[.int .i64 gx, .int .i64 gy, .int .i64 gs, .int .i64 wi, .int .i64 hi, .slice At k ct], .int .i64 ray]) (fun x w => by kernel_rfl) ?_
                  intro x w F hL hN
                  refine (HvT.out At ct w ((HtI.out.below hL).more hL.size)).mono ?_
                  rintro e w' ⟨A1, c1, rfl, hb, ho⟩
                  exact ⟨fun _ => (A1, c1), rfl, hb, ho⟩
              · refine ⟨?_, trivial⟩
                · refine ⟨fun x F wq wq' h hs hk => ?_, fun x x' F wq hx h => ?_⟩
                  · have h2 : IntsF wq F (x 10 0).1 (flat2 (rowL rt j)) := h
                    exact h2.stab hk
                  · have h2 : IntsF wq F (x 10 0).1 (flat2 (rowL rt j)) := h
                    rw [hx 10 (by simp)] at h2
                    exact h2
              intro xx w6 F hL6 hlv6
              obtain ⟨fct10, -⟩ := hlv6
              replace fct10 : IntsF w6 (F 10) (xx 10 0).1 (flat2 (rowL rt j)) := fct10 rfl
              clear q0 q1 q2 q3 q4 q5 q6 q7 e0 e1 tc0 tc1 tc2 tc3 tc4 tc5 lts lte ltt Hcut1 Hcut2
              replace Hl := hide ((Ints.below Hl.out hL6).more (Below.size hL6))
              replace Hl2 := hide ((Ints.below Hl2.out hL6).more (Below.size hL6))
              replace Hl3 := hide ((Ints.below Hl3.out hL6).more (Below.size hL6))
              replace Hia := hide ((Ints.below Hia.out hL6).more (Below.size hL6))
              replace HtI := hide ((Ints.below HtI.out hL6).more (Below.size hL6))
              replace HhI := hide ((Ints.below HhI.out hL6).more (Below.size hL6))
              replace HB := hide (onward HB.out hL6)
              replace Hq := hide (blk_later Hq.out hL6)
              replace He := hide (blk_later He.out hL6)
              replace Hf := hide (blk_later Hf.out hL6)
              replace Ht := hide (blk_later Ht.out hL6)
              replace Hh := hide (blk_later Hh.out hL6)
              clear hL6
              have hbI := fct10.ints
              clear fct10
              generalize (xx 10 0).1 = Ab at *
              generalize (xx 10 0).2 = cb at *
              have HbI := hide hbI
              clear hbI
              obtain ⟨q0, q1, q2, q3, q4, q5, q6, q7⟩ := Hq.out.site8
              obtain ⟨e0, e1⟩ := He.out.c2
              obtain ⟨hc0, hc1, hc2, hc3, hc4, hc5⟩ := Hh.out.c6
              have lts := Hq.out.lt
              have lte := He.out.lt
              have lth := Hh.out.lt
              go_wp2_with fail
              clear q0 q1 q2 q3 q4 q5 q6 q7 e0 e1 hc0 hc1 hc2 hc3 hc4 hc5 lts lte lth
              refine (HvH.out Ah ch _ HhI.out).mono ?_
              rintro e w7 ⟨Ac, cc, rfl, hb, hcI⟩
              replace Hl := hide ((Ints.below Hl.out hb).more (Below.size hb))
              replace Hl2 := hide ((Ints.below Hl2.out hb).more (Below.size hb))
              replace Hl3 := hide ((Ints.below Hl3.out hb).more (Below.size hb))
              replace Hia := hide ((Ints.below Hia.out hb).more (Below.size hb))
              replace HtI := hide ((Ints.below HtI.out hb).more (Below.size hb))
              replace HhI := hide ((Ints.below HhI.out hb).more (Below.size hb))
              replace HbI := hide ((Ints.below HbI.out hb).more (Below.size hb))
              replace HB := hide (onward HB.out hb)
              replace Hq := hide (blk_later Hq.out hb)
              replace He := hide (blk_later He.out hb)
              replace Hf := hide (blk_later Hf.out hb)
              replace Ht := hide (blk_later Ht.out hb)
              replace Hh := hide (blk_later Hh.out hb)
              clear hb
              have HcI := hide hcI
              clear hcI
              obtain ⟨-, -, -, -, -, q5, -, -⟩ := Hq.out.site8
              have lts := Hq.out.lt
              have hg0 := HG.out
              go_wp2_with fail
              clear q5 lts hg0
              go_loopw [25] (fun i wq => ∃ q : Nat, q ≤ j ∧ i = .int .i64 q ∧ Below w7.heap.size w7 wq) (fun i _ => j - (intOf i).toNat)
              case atStart => exact ⟨0, by omega, rfl, Below.refl _ _⟩
              case round =>
                obtain ⟨q, hq, rfl, hbw⟩ := hrel
                have HW := hide hbw
                replace Hl := hide ((Ints.below Hl.out hbw).more (Below.size hbw))
                replace Hl2 := hide ((Ints.below Hl2.out hbw).more (Below.size hbw))
                replace Hl3 := hide ((Ints.below Hl3.out hbw).more (Below.size hbw))
                replace Hia := hide ((Ints.below Hia.out hbw).more (Below.size hbw))
                replace HtI := hide ((Ints.below HtI.out hbw).more (Below.size hbw))
                replace HhI := hide ((Ints.below HhI.out hbw).more (Below.size hbw))
                replace HbI := hide ((Ints.below HbI.out hbw).more (Below.size hbw))
                replace HcI := hide ((Ints.below HcI.out hbw).more (Below.size hbw))
                replace HB := hide (onward HB.out hbw)
                replace Hq := hide (blk_later Hq.out hbw)
                replace He := hide (blk_later He.out hbw)
                replace Hf := hide (blk_later Hf.out hbw)
                replace Ht := hide (blk_later Ht.out hbw)
                replace Hh := hide (blk_later Hh.out hbw)
                clear hbw
                by_cases hlt : q < j
                · obtain ⟨b, off, rfl, hbl, hc⟩ := row_pt Hia.out (by omega)
                  obtain ⟨b', off', rfl, hbl', hc'⟩ := row_pt HbI.out (by omega)
                  obtain ⟨b'', off'', rfl, hbl'', hc''⟩ := row_pt HcI.out (by omega)
                  obtain ⟨p0, p1⟩ := hc q hlt
                  obtain ⟨p2, p3⟩ := hc' q hlt
                  obtain ⟨p4, p5⟩ := hc'' q hlt
                  obtain ⟨r1, r2⟩ := HT.out q
                  have r3 := HTin.out q hlt
                  obtain ⟨r4, r5⟩ := HH.out q
                  clear hc hc' hc''
                  generalize (ra q).1 = v0 at *
                  generalize (ra q).2 = v1 at *
                  generalize (rt q).1 = v2 at *
                  generalize (rt q).2 = v3 at *
                  generalize (rh q).1 = v4 at *
                  generalize (rh q).2 = v5 at *
                  have hlies : ∀ W, Calls Try.prog 37 #[.agg #[.int .i64 v2, .int .i64 v3], .agg #[.int .i64 v0, .int .i64 v1]] W fun e w' => e = .returned (.bool true) ∧ Below W.heap.size W w' := fun W => by
                    have := lies_any v2 v3 v0 v1 W
                    rwa [show decide (v2 ≤ v3 ∧ v0 ≤ v2 ∧ v3 ≤ v1) = true from decide_eq_true ⟨r3, r1, r2⟩] at this
                  have Hlies := hide hlies
                  have k1 : decide (v4 < v0) = false := decide_eq_false (by omega)
                  have k2 : decide (v5 < v1) = false := decide_eq_false (by omega)
                  clear hlies r1 r2 r3 r4 r5
                  go_wp2_with fail
                  apply wp_region_L (w0 := wr) [[], [], [], [], [], [], [], [], [], [], [], [], [], [], [], [], [], [], [], [], [], [], [], [], [], [], [], [], [], [], [], [], [], [], [], []] [true, true, true, true, true, true, true, true, true, true, true, true, true, true, true, true, true, true, true, true, true, true, true, true, true, true, true, true, true, true, true, true, true, true, true, true] [] (fun ixq y => match ixq with  | _ => undef) (fun ixq x F wq => match ixq with  | _ => True) (fun a x => a) (by kernel_rfl) (by kernel_rfl) (fun _ => rfl) [260] (by kernel_rfl)
                  · intro x D hD
                    have hne := hD.some
                    have k0 := liftB hD p0 (by first | assumption | omega)
                    have k1 := liftB hD p1 (by first | assumption | omega)
                    have k2 := liftB hD p2 (by first | assumption | omega)
                    have k3 := liftB hD p3 (by first | assumption | omega)
                    have k4 := liftB hD p4 (by first | assumption | omega)
                    have k5 := liftB hD p5 (by first | assumption | omega)
                    simp only [takeOps, Act.put, List.setIfInBounds_toArray, List.set_cons_succ, List.set_cons_zero]
                    repeat (go_big_quiet_step ((go_at_call 37; exact calls_later hD _ (Hlies.out _))))
                    exact wpQuiet_nil rfl
                  · intro d hd x x'
                    simp only [List.mem_cons, List.not_mem_nil, or_false] at hd
                    rcases hd with rfl
                    all_goals rfl
                  · exact trivial
                  · exact trivial
                  intro xx w9 F hL9 hlv7
                  clear hlv7
                  replace Hl := hide ((Ints.below Hl.out hL9).more (Below.size hL9))
                  replace Hl2 := hide ((Ints.below Hl2.out hL9).more (Below.size hL9))
                  replace Hl3 := hide ((Ints.below Hl3.out hL9).more (Below.size hL9))
                  replace Hia := hide ((Ints.below Hia.out hL9).more (Below.size hL9))
                  replace HtI := hide ((Ints.below HtI.out hL9).more (Below.size hL9))
                  replace HhI := hide ((Ints.below HhI.out hL9).more (Below.size hL9))
                  replace HbI := hide ((Ints.below HbI.out hL9).more (Below.size hL9))
                  replace HcI := hide ((Ints.below HcI.out hL9).more (Below.size hL9))
                  replace HB := hide (onward HB.out hL9)
                  replace Hq := hide (blk_later Hq.out hL9)
                  replace He := hide (blk_later He.out hL9)
                  replace Hf := hide (blk_later Hf.out hL9)
                  replace Ht := hide (blk_later Ht.out hL9)
                  replace Hh := hide (blk_later Hh.out hL9)
                  replace HW := hide (onward HW.out hL9)
                  clear hL9
                  go_wp2
                  go_roundw
                  case rel => exact ⟨q + 1, by omega, by go_num, HW.out⟩
                  case measure => simp [intOf] <;> omega
                · have hlt' : ¬ (q : Int) < j := by omega
                  go_wp2_with fail
                  refine (works_any _).mono ?_
                  rintro e w9 ⟨rfl, hb⟩
                  replace Hl := hide ((Ints.below Hl.out hb).more (Below.size hb))
                  replace Hl2 := hide ((Ints.below Hl2.out hb).more (Below.size hb))
                  replace Hl3 := hide ((Ints.below Hl3.out hb).more (Below.size hb))
                  replace Hia := hide ((Ints.below Hia.out hb).more (Below.size hb))
                  replace HtI := hide ((Ints.below HtI.out hb).more (Below.size hb))
                  replace HhI := hide ((Ints.below HhI.out hb).more (Below.size hb))
                  replace HbI := hide ((Ints.below HbI.out hb).more (Below.size hb))
                  replace HcI := hide ((Ints.below HcI.out hb).more (Below.size hb))
                  replace HB := hide (onward HB.out hb)
                  replace Hq := hide (blk_later Hq.out hb)
                  replace He := hide (blk_later He.out hb)
                  replace Hf := hide (blk_later Hf.out hb)
                  replace Ht := hide (blk_later Ht.out hb)
                  replace Hh := hide (blk_later Hh.out hb)
                  replace HW := hide (onward HW.out hb)
                  clear hb
                  go_wp2
                  go_ret
                  exact ⟨rfl, HB.out⟩
    · have h60 : (ev != 0) = true := by simpa [bne] using h6
      have h61 : (ev == 0) = false := by simpa using h6
      go_enter Try.func10, Try.ntmps10
      have HB := hide (Below.refl w.heap.size w)
      go_wp2_with fail
      refine at_world fun W hW => ?_
      have bq0 : Blk W w.heap.size 33 #[.string s, .int .i64 sx, .int .i64 sy, .int .i64 z, .int .i64 r, .int .i64 g, .int .i64 st, .int .i64 wd] := by rw [hW]; exact ((Blk.new _ _ _).alloc _).alloc _
      have bq1 : Blk W (w.heap.size + 1) 47 #[.int .i64 elo, .int .i64 ehi] := by rw [hW]; exact (blk_new_at (by simp)).alloc _
      have bq2 : Blk W (w.heap.size + 2) 38 #[.int .i64 gx, .int .i64 gy, .int .i64 gs, .int .i64 wi, .int .i64 hi, .slice A n c] := by rw [hW]; exact blk_new_at (by simp)
      have LW : Later w W := by rw [hW]; exact ((((Below.refl _ _).alloc (Nat.le_refl _) _).alloc (by simp; try omega) _).alloc (by simp; try omega) _)
      have szW : W.heap.size = w.heap.size + 3 := by rw [hW]; simp
      clear hW
      replace Hl := hide ((Ints.below Hl.out LW).more (Below.size LW))
      replace Hl2 := hide ((Ints.below Hl2.out LW).more (Below.size LW))
      replace Hl3 := hide ((Ints.below Hl3.out LW).more (Below.size LW))
      replace HB := hide (onward HB.out LW)
      have Hq := hide bq0
      have He := hide bq1
      have Hf := hide bq2
      clear bq0 bq1 bq2 LW szW
      refine (Hfew.out _).mono ?_
      rintro e w1 ⟨rfl, hb⟩
      replace Hl := hide ((Ints.below Hl.out hb).more (Below.size hb))
      replace Hl2 := hide ((Ints.below Hl2.out hb).more (Below.size hb))
      replace Hl3 := hide ((Ints.below Hl3.out hb).more (Below.size hb))
      replace HB := hide (onward HB.out hb)
      replace Hq := hide (blk_later Hq.out hb)
      replace He := hide (blk_later He.out hb)
      replace Hf := hide (blk_later Hf.out hb)
      clear hb
      obtain ⟨q0, q1, q2, q3, q4, q5, q6, q7⟩ := Hq.out.site8
      have lts := Hq.out.lt
      obtain ⟨v0, v1⟩ := He.out.c2
      have ltv := He.out.lt
      obtain ⟨e0, e1, e2, e3, e4, e5⟩ := Hf.out.c6
      have ltf := Hf.out.lt
      go_wp2_with fail
      clear q0 q1 q2 q3 q4 q5 q6 q7 lts e0 e1 e2 e3 e4 e5 ltf
      refine (Hv1.out _ Hl.out).mono ?_
      rintro e w2 ⟨Aa, ca, rfl, hb, -⟩
      replace Hl := hide ((Ints.below Hl.out hb).more (Below.size hb))
      replace Hl2 := hide ((Ints.below Hl2.out hb).more (Below.size hb))
      replace Hl3 := hide ((Ints.below Hl3.out hb).more (Below.size hb))
      replace HB := hide (onward HB.out hb)
      replace Hq := hide (blk_later Hq.out hb)
      replace He := hide (blk_later He.out hb)
      replace Hf := hide (blk_later Hf.out hb)
      clear hb v0 v1 ltv
      go_wp2_with fail
      refine (works_any _).mono ?_
      rintro e w9 ⟨rfl, hb⟩
      replace Hl := hide ((Ints.below Hl.out hb).more (Below.size hb))
      replace Hl2 := hide ((Ints.below Hl2.out hb).more (Below.size hb))
      replace Hl3 := hide ((Ints.below Hl3.out hb).more (Below.size hb))
      replace HB := hide (onward HB.out hb)
      replace Hq := hide (blk_later Hq.out hb)
      replace He := hide (blk_later He.out hb)
      replace Hf := hide (blk_later Hf.out hb)
      clear hb
      go_wp2
      go_ret
      exact ⟨rfl, HB.out⟩
end Go.Proofs.Ythhhecidogcmjaa
