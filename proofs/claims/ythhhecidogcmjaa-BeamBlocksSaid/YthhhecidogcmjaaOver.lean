/-
  The ground at a place: the reference's over.
-/
import Derived.Test.YthhhecidogcmjaaUnder
import Derived.Test.YthhhecidogcmjaaRefPlaces2
namespace Go.Proofs.Ythhhecidogcmjaa
open Go Go.RowKit

theorem new_cells (w : World) (t : TypeId) (l : List Value) (j : Nat) (u : Value) (h : l[j]? = some u) : (w.alloc (.cells ⟨l⟩ t)).cell? ((⟨w.heap.size, 0, none⟩ : Addr).add j) = some u := by
  rw [show (⟨w.heap.size, 0, none⟩ : Addr).add j = ⟨w.heap.size, j, none⟩ by unfold Addr.add; split <;> simp_all]
  rw [(Blk.new w t ⟨l⟩).cell j]; simpa using h
set_option maxHeartbeats 2000000 in
set_option maxRecDepth 100000 in
theorem over_any (gx gy gs wi hi x y : Int) (A : Option Addr) (n c : Nat) (l : List (Int × Int)) (w : World) (hge : gridE gx gy gs wi hi = 0) (hn : l.length = n) (hsz : (n : Int) = wi * hi) (hl : Ints w w.heap.size .i64 A (flat2 l)) :
    Calls Try.prog 76 #[fieldV gx gy gs wi hi A n c, .int .i64 x, .int .i64 y] w fun e w' => e = .returned (.agg #[.int .i64 (overZ l gx gy gs wi hi x y).1, .int .i64 (overZ l gx gy gs wi hi x y).2]) ∧ Below w.heap.size w w' := by
  have hx := fun W => RefPixel_any gx gy gs wi hi x y W
  obtain ⟨a1, a2, b1, b2, c1, c2, d1, d2, f1, f2⟩ := gridE_ok hge
  have hpz : ¬ pixZ gx gy gs wi hi x y < 0 → pixZ gx gy gs wi hi x y < n ∧ pixZ gx gy gs wi hi x y ≤ 4096 := fun h => by
    rw [hsz]; exact pixZ_lt c1 h d1 d2 f2
  rw [hge] at hx
  unfold pixR at hx
  unfold overZ gridV fieldV at *
  generalize pixZ gx gy gs wi hi x y = pz at *
  rw [if_neg (by simp)] at hx
  by_cases hz : pz < 0
  · rw [if_pos hz] at hx
    rw [if_pos hz]
    simp only at hx
    have Hx := hide hx
    have Hl := hide hl
    have Hn := hide hn
    clear hx hl hn
    go_enter Try.func76, Try.ntmps76
    have HB := hide (Below.refl w.heap.size w)
    go_wp2_with fail
    refine at_world fun W hW => ?_
    have bq0 : Blk W w.heap.size 38 #[.int .i64 gx, .int .i64 gy, .int .i64 gs, .int .i64 wi, .int .i64 hi, .slice A n c] := by rw [hW]; exact (Blk.new _ _ _).alloc _
    have bq1 : Blk W (w.heap.size + 1) 47 #[.int .i64 0, .int .i64 0] := by rw [hW]; exact blk_new_at (by simp)
    have LW : Later w W := by rw [hW]; exact (((Below.refl _ _).alloc (Nat.le_refl _) _).alloc (by simp; try omega) _)
    have szW : W.heap.size = w.heap.size + 2 := by rw [hW]; simp
    clear hW
    replace Hl := hide ((Ints.below Hl.out LW).more (Below.size LW))
    replace HB := hide (onward HB.out LW)
    have Hf := hide bq0
    have Ho := hide bq1
    clear bq0 bq1 LW szW
    refine (Hx.out _).mono ?_
    rintro e w1 ⟨rfl, hb⟩
    replace Hl := hide ((Ints.below Hl.out hb).more (Below.size hb))
    replace HB := hide (onward HB.out hb)
    replace Hf := hide (blk_later Hf.out hb)
    replace Ho := hide (blk_later Ho.out hb)
    clear hb
    obtain ⟨o0, o1⟩ := Ho.out.c2
    have lto := Ho.out.lt
    have fo0 := Ho.out.frozen 0
    have fo1 := Ho.out.frozen 1
    go_wp2
    refine bodyPost_ret (v := .agg #[.int .i64 0, .int .i64 20000]) (by simp [results, Try.results76, go_sem, o0, o1, fo0, fo1, lto]) rfl ⟨rfl, ?_⟩
    repeat (first | exact HB.out | (refine Below.setCell ?_ (by first | omega | (simp; done) | (simp; omega)) _) | (refine Below.alloc ?_ (by first | omega | (simp; done) | (simp; omega)) _) | (refine below_drewN ?_ _))
  · rw [if_neg hz] at hx
    rw [if_neg hz]
    obtain ⟨hp1, hp2⟩ := hpz hz
    obtain ⟨q, rfl⟩ : ∃ q : Nat, pz = q := ⟨pz.toNat, by omega⟩
    rw [Int.toNat_natCast]
    have hqn : q < n := by omega
    simp only at hx
    clear hpz hz
    generalize hgv : l.getD q (0, 0) = gv
    obtain ⟨gv1, gv2⟩ := gv
    have Hx := hide hx
    have Hl := hide hl
    have Hn := hide hn
    have Hgv := hide hgv
    clear hx hl hn hgv
    go_enter Try.func76, Try.ntmps76
    have HB := hide (Below.refl w.heap.size w)
    go_wp2_with fail
    refine at_world fun W hW => ?_
    have bq0 : Blk W w.heap.size 38 #[.int .i64 gx, .int .i64 gy, .int .i64 gs, .int .i64 wi, .int .i64 hi, .slice A n c] := by rw [hW]; exact (Blk.new _ _ _).alloc _
    have bq1 : Blk W (w.heap.size + 1) 47 #[.int .i64 0, .int .i64 0] := by rw [hW]; exact blk_new_at (by simp)
    have LW : Later w W := by rw [hW]; exact (((Below.refl _ _).alloc (Nat.le_refl _) _).alloc (by simp; try omega) _)
    have szW : W.heap.size = w.heap.size + 2 := by rw [hW]; simp
    clear hW
    replace Hl := hide ((Ints.below Hl.out LW).more (Below.size LW))
    replace HB := hide (onward HB.out LW)
    have Hf := hide bq0
    have Ho := hide bq1
    clear bq0 bq1 LW szW
    refine (Hx.out _).mono ?_
    rintro e w1 ⟨rfl, hb⟩
    replace Hl := hide ((Ints.below Hl.out hb).more (Below.size hb))
    replace HB := hide (onward HB.out hb)
    replace Hf := hide (blk_later Hf.out hb)
    replace Ho := hide (blk_later Ho.out hb)
    clear hb
    obtain ⟨o0, o1⟩ := Ho.out.c2
    have lto := Ho.out.lt
    have fo0 := Ho.out.frozen 0
    have fo1 := Ho.out.frozen 1
    obtain ⟨bl, off, rfl, hbl, hcl⟩ := Hl.out.pt (by have := Hn.out; omega)
    obtain ⟨u0, u1⟩ := hcl q (by have := Hn.out; omega)
    clear hcl
    rw [Hgv.out] at u0 u1
    simp only at u0 u1
    obtain ⟨f0, f1, f2, f3, f4, f5⟩ := Hf.out.c6
    have ltf := Hf.out.lt
    go_wp2
    refine bodyPost_ret (v := .agg #[.int .i64 gv1, .int .i64 gv2]) (by simp [results, Try.results76, go_sem, o0, o1, fo0, fo1, lto]) rfl ⟨rfl, ?_⟩
    repeat (first | exact HB.out | (refine Below.setCell ?_ (by first | omega | (simp; done) | (simp; omega)) _) | (refine Below.alloc ?_ (by first | omega | (simp; done) | (simp; omega)) _) | (refine below_drewN ?_ _))
end Go.Proofs.Ythhhecidogcmjaa
