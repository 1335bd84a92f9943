/-
  What the scales of some pairs have in common: rain's meet, at its one instance.
-/
import Derived.Test.YtmglgahagbfbkaaScale
import Derived.Test.YtmglgahagbfbkaaAdjustMath
namespace Go.Proofs.Ytmglgahagbfbkaa
open Go.RowKit

/-- What Adjust returns. -/
def adjV (r : ((Int × Int) × (Int × Int)) × Int) : Value := .tuple #[.agg #[.int .i64 r.1.1.1, .int .i64 r.1.1.2], .agg #[.int .i64 r.1.2.1, .int .i64 r.1.2.2], .int .i64 r.2]

/-- The four cells of pair k. -/
theorem Ints.pt4 {w : World} {B : Nat} {A : Option Addr} {zs : List Int} {n : Nat} (h : Ints w B .i64 A zs) (hz : zs.length = n * 4) (hn : 0 < n) : ∃ b off, A = some ⟨b, off, none⟩ ∧ b < B ∧
    ∀ k, k < n → w.cell? ⟨b, off + k * 4, none⟩ = some (.int .i64 (zs.getD (k * 4) 0)) ∧ w.cell? ⟨b, off + k * 4 + 1, none⟩ = some (.int .i64 (zs.getD (k * 4 + 1) 0)) ∧ w.cell? ⟨b, off + k * 4 + 2, none⟩ = some (.int .i64 (zs.getD (k * 4 + 2) 0)) ∧ w.cell? ⟨b, off + k * 4 + 3, none⟩ = some (.int .i64 (zs.getD (k * 4 + 3) 0)) := by
  obtain ⟨b, off, e, hb, hc⟩ := h (by omega)
  exact ⟨b, off, e, hb, fun k hk => ⟨hc (k * 4) (by omega), hc (k * 4 + 1) (by omega), hc (k * 4 + 2) (by omega), hc (k * 4 + 3) (by omega)⟩⟩
theorem blk_eq {w : World} {g : Nat} {t : TypeId} {cs cs' : Array Value} (h : Blk w g t cs) (e : cs = cs') : Blk w g t cs' := e ▸ h

set_option maxHeartbeats 2000000 in
set_option maxRecDepth 100000 in
theorem meet_any (a b : Int) (A : Option Addr) (n c : Nat) (zs : List Int) (w : World) (hz : zs.length = n * 4) (hmax : n ≤ 9223372036854775807) (hok : ∀ k, k < n → okZ (fun j => zs.getD j 0) k = true) (hl : Ints w w.heap.size .i64 A zs) :
    Calls Try.prog 57 #[.agg #[.int .i64 a, .int .i64 b], .slice A n c, .func (.func 58) #[] #[]] w fun e w' => e = .returned (spanV (meetK (fun j => zs.getD j 0) (a, b) n)) ∧ Below w.heap.size w w' := by
  generalize hzf : (fun j => zs.getD j 0) = z at *
  have Hz := hide hz
  have Hok := hide hok
  have hcs : 0 < n → ∃ b off, A = some ⟨b, off, none⟩ ∧ b < w.heap.size ∧ ∀ k, k < n → w.cell? ⟨b, off + k * 4, none⟩ = some (.int .i64 (z (k * 4))) ∧ w.cell? ⟨b, off + k * 4 + 1, none⟩ = some (.int .i64 (z (k * 4 + 1))) ∧ w.cell? ⟨b, off + k * 4 + 2, none⟩ = some (.int .i64 (z (k * 4 + 2))) ∧ w.cell? ⟨b, off + k * 4 + 3, none⟩ = some (.int .i64 (z (k * 4 + 3))) := fun h0 => by
    rw [← hzf]; exact hl.pt4 hz h0
  have Hcs := hide hcs
  clear hz hok hcs hl hzf
  go_enter Try.func57, Try.ntmps57
  go_wp2_with fail
  go_loopw [12] (fun i wr => ∃ k : Nat, k ≤ n ∧ i = .int .i64 k ∧ Below w.heap.size w wr ∧ Blk wr w.heap.size 24 #[.int .i64 (meetK z (a, b) k).1, .int .i64 (meetK z (a, b) k).2] ∧ Blk wr (w.heap.size + 1) 24 #[.int .i64 0, .int .i64 0])
    (fun i _ => n - (intOf i).toNat)
  case atStart => exact ⟨0, by omega, rfl, ((Below.refl _ _).alloc (Nat.le_refl _) _).alloc (by simp) _, (Blk.new _ _ _).alloc _, blk_new_at (by simp)⟩
  case round =>
    obtain ⟨k, hk, rfl, hbw, hbm, hbo⟩ := hrel
    have Hbw := hide hbw
    have Hbm := hide hbm
    have Hbo := hide hbo
    have hsz := hbw.size
    clear hbw hbm hbo
    by_cases hlt : k < n
    · obtain ⟨bb, off, rfl, hb, hc⟩ := Hcs.out (by omega)
      obtain ⟨c0, c1, c2, c3⟩ := hc k hlt
      have hk1 := Hok.out k hlt
      have hmk : meetK z (a, b) (k + 1) = meetS (meetK z (a, b) k) (scZ z k) := rfl
      unfold okZ at hk1
      unfold scZ at hmk
      have hsc := fun W => scales_any (z (k * 4)) (z (k * 4 + 1)) (z (k * 4 + 2)) (z (k * 4 + 3)) W hk1
      rw [← Hbw.out.cell hb] at c0 c1 c2 c3
      have Hmk := hide hmk
      have Hsc := hide hsc
      clear hc hk1 hmk hsc Hok Hcs Hz
      generalize scS (z (k * 4)) (z (k * 4 + 1)) (z (k * 4 + 2)) (z (k * 4 + 3)) = sc at *
      generalize z (k * 4) = z0 at *
      generalize z (k * 4 + 1) = z1 at *
      generalize z (k * 4 + 2) = z2 at *
      generalize z (k * 4 + 3) = z3 at *
      obtain ⟨s1, s2⟩ := sc
      generalize meetK z (a, b) k = m at *
      obtain ⟨m1, m2⟩ := m
      simp only at Hbm
      go_wp2_with fail
      refine at_world fun W hW => ?_
      have LW : Later wr W := by rw [hW]; exact (Below.refl _ _).alloc (Nat.le_refl _) _
      clear hW c0 c1 c2 c3
      refine (Hsc.out W).mono ?_
      rintro e w1 ⟨rfl, hb1⟩
      have L1 := LW.trans hb1
      replace Hbm := hide (blk_later Hbm.out L1)
      replace Hbo := hide (blk_later Hbo.out L1)
      replace Hbw := hide (onward Hbw.out L1)
      clear LW hb1 L1 Hsc
      unfold spanV
      simp only
      obtain ⟨p0, p1⟩ := Hbm.out.c2
      have f0 := Hbm.out.frozen 0
      have f1 := Hbm.out.frozen 1
      have ltm := Hbm.out.lt
      obtain ⟨mx, emx⟩ : ∃ mx, (if m1 < s1 then s1 else m1) = mx := ⟨_, rfl⟩
      obtain ⟨mn, emn⟩ : ∃ mn, (if s2 < m2 then s2 else m2) = mn := ⟨_, rfl⟩
      have hmk := Hmk.out
      unfold meetS at hmk
      rw [(max_if m1 s1).trans emx, (min_if m2 s2).trans emn] at hmk
      have Hmk2 := hide hmk
      clear hmk Hmk
      go_wp2
      go_roundw
      case rel =>
        refine ⟨k + 1, by omega, by go_num, ?_, ?_, ?_⟩
        · have := Hbw.out.size
          repeat (first | exact Hbw.out | (refine Below.setCell ?_ (by first | omega | (simp; done) | (simp; omega)) _) | (refine Below.alloc ?_ (by first | omega | (simp; done) | (simp; omega)) _) | (refine below_drewN ?_ _))
        · rw [Hmk2.out]
          exact blk_eq (((Hbm.out.set_ 0 (.int .i64 mx)).set_ 1 (.int .i64 mn)).alloc _) (by simp)
        · exact (((Hbo.out.far (by simp) _).far (by simp) _).alloc _)
      case measure => simp [intOf] <;> omega
    · obtain rfl : k = n := by omega
      obtain ⟨p0, p1⟩ := Hbm.out.c2
      obtain ⟨e0, e1⟩ := Hbo.out.c2
      have f0 := Hbo.out.frozen 0
      have f1 := Hbo.out.frozen 1
      have lto := Hbo.out.lt
      clear Hcs Hok Hz
      generalize hM : meetK z (a, b) k = m at *
      obtain ⟨m1, m2⟩ := m
      have HM := hide hM
      clear hM
      simp only at p0 p1
      go_wp2
      refine bodyPost_ret (v := spanV (m1, m2)) (by simp [spanV, results, Try.results57, go_sem, p0, p1, e0, e1, f0, f1, lto]) rfl ⟨by rw [HM.out], ?_⟩
      repeat (first | exact Hbw.out | (refine Below.setCell ?_ (by first | omega | (simp; done) | (simp; omega)) _) | (refine Below.alloc ?_ (by first | omega | (simp; done) | (simp; omega)) _) | (refine below_drewN ?_ _))
end Go.Proofs.Ytmglgahagbfbkaa
