/-
  The reference's passage behind a gate, and what it lets through.
-/
import Derived.Test.YtmglgahagbfbkaaRestMath
import Derived.Test.YtmglgahagbfbkaaValueRef
import Derived.Test.YtmglgahagbfbkaaTableRef
import Derived.Test.YtmglgahagbfbkaaPass
import Derived.Test.YtmglgahagbfbkaaValues
import Derived.Test.YtmglgahagbfbkaaRegP
namespace Go.Proofs.Ytmglgahagbfbkaa
open Go.RowKit

theorem blk_eq2 {w : World} {g : Nat} {t : TypeId} {cs cs' : Array Value} (h : Blk w g t cs) (e : cs = cs') : Blk w g t cs' := e ▸ h
theorem own_high_ne {w : World} {base : Nat} {e : TypeId} {size n k : Nat} {v : Value} {xs : List Value} (h : w.ownsRow base e size v n xs) (hk : w.heap.size ≤ k) : v.ownBlock ≠ some k := fun e1 => by
  have := (h.lt k e1).2; omega
theorem fieldSpan0 (a b : Int) (w : World) : (Instr.field 24 (.agg #[.int .i64 a, .int .i64 b]) 0).run Try.prog w = .ok (.int .i64 a) w := by kernel_rfl
theorem fieldSpan1 (a b : Int) (w : World) : (Instr.field 24 (.agg #[.int .i64 a, .int .i64 b]) 1).run Try.prog w = .ok (.int .i64 b) w := by kernel_rfl
attribute [local go_sem] fieldSpan0 fieldSpan1
set_option maxHeartbeats 1000000 in
set_option maxRecDepth 100000 in
theorem next_any (A : Option Addr) (n c : Nat) (l : List (Int × Int)) (t z : Int × Int) (w : World) (hn : l.length = n) (hT : Tab l 32768) (ht : Psg t) (hz1 : 0 ≤ z.1 ∧ z.1 ≤ 1073741824) (hz2 : 0 ≤ z.2 ∧ z.2 ≤ 1073741824) (hl : Ints w w.heap.size .i64 A (flat2 l)) :
    Calls Try.prog 63 #[.slice A n c, .agg #[.int .i64 t.1, .int .i64 t.2], .agg #[.int .i64 z.1, .int .i64 z.2]] w fun e w' => e = .returned (.agg #[.int .i64 (nextT l t z).1, .int .i64 (nextT l t z).2]) ∧ Below w.heap.size w w' := by
  obtain ⟨z1, z2⟩ := z
  obtain ⟨t1, t2⟩ := t
  simp only at hz1 hz2 ⊢
  obtain ⟨t1a, t1b, t2a, t2b⟩ := ht
  simp only at t1a t1b t2a t2b
  have v1 := val_bd hT hz1.1
  have v2 := val_bd hT hz2.1
  obtain ⟨a1, b1, hg1⟩ : ∃ a b, valGo z1 l = (a, b) := ⟨_, _, rfl⟩
  obtain ⟨a2, b2, hg2⟩ : ∃ a b, valGo z2 l = (a, b) := ⟨_, _, rfl⟩
  rw [hg1] at v1
  rw [hg2] at v2
  simp only at v1 v2
  obtain ⟨v1a, v1b, v1c⟩ := v1
  obtain ⟨v2a, v2b, v2c⟩ := v2
  have hv1 := fun (W : World) (hI : Ints W W.heap.size .i64 A (flat2 l)) => value_any A n c l 32768 z1 W hn hT (by decide) hz1.1 hz1.2 hI
  have hv2 := fun (W : World) (hI : Ints W W.heap.size .i64 A (flat2 l)) => value_any A n c l 32768 z2 W hn hT (by decide) hz2.1 hz2.2 hI
  rw [hg1] at hv1
  rw [hg2] at hv2
  simp only at hv1 hv2
  obtain ⟨c1, c2⟩ := mul_bd (a := t1) (b := 65536 - b2) (A := 1073741824) (B := 65536) t1a t1b (by omega) (by omega)
  obtain ⟨d1, d2⟩ := mul_bd (a := t2) (b := 65536 - a1) (A := 1073741824) (B := 65536) t2a t2b (by omega) (by omega)
  obtain ⟨q1, hq1, hdn⟩ : ∃ q, t1 * (65536 - b2) / 65536 = q ∧ ∀ W, Calls Try.prog 51 #[.int .i64 (t1 * (65536 - b2)), .int .i64 65536] W fun e w' => e = .returned (.int .i64 q) ∧ W = w' := ⟨_, rfl, fun W => Down_any _ _ _ (by omega) (by omega) (by omega) (by omega)⟩
  obtain ⟨q2, hq2, hup⟩ : ∃ q, cdiv (t2 * (65536 - a1)) 65536 = q ∧ ∀ W, Calls Try.prog 52 #[.int .i64 (t2 * (65536 - a1)), .int .i64 65536] W fun e w' => e = .returned (.int .i64 q) ∧ W = w' := ⟨_, rfl, fun W => Up_any _ _ _ (by omega) (by omega) (by omega) (by omega)⟩
  have hN : nextT l (t1, t2) (z1, z2) = (q1, q2) := by
    unfold nextT
    simp only [hg1, hg2, hq1, hq2]
  rw [hN]
  simp only
  have Hl := hide hl
  have Hv1 := hide hv1
  have Hv2 := hide hv2
  clear hN hq1 hq2 hg1 hg2 hv1 hv2 hl hT hn hz1 hz2
  go_enter Try.func63, Try.ntmps63
  have HB := hide (Below.refl w.heap.size w)
  go_wp2_with fail
  refine code_world fun W hW => ?_
  have bq0 : Blk W w.heap.size 24 #[.int .i64 t1, .int .i64 t2] := by rw [hW]; exact ((Blk.new _ _ _).alloc _).alloc _
  have bq1 : Blk W (w.heap.size + 1) 24 #[.int .i64 z1, .int .i64 z2] := by rw [hW]; exact (blk_new_at (by simp)).alloc _
  have bq2 : Blk W (w.heap.size + 2) 24 #[.int .i64 0, .int .i64 0] := by rw [hW]; exact blk_new_at (by simp)
  have LW : Later w W := by rw [hW]; exact ((((Below.refl _ _).alloc (Nat.le_refl _) _).alloc (by simp; try omega) _).alloc (by simp; try omega) _)
  have szW : W.heap.size = w.heap.size + 3 := by rw [hW]; simp
  clear hW
  replace HB := hide (onward HB.out LW)
  have Hbt := hide bq0
  have Hbz := hide bq1
  have Hbo := hide bq2
  clear bq0 bq1 bq2 LW szW
  have HI := hide ((Hl.out.below HB.out).more HB.out.size)
  obtain ⟨y0, y1⟩ := Hbz.out.c2
  have lty := Hbz.out.lt
  apply wp_region_L (w0 := W) [[], [], [], [], [], [], [], [], [], [], [], []] [true, true, true, true, true, true, true, true, true, true, true, true] [] (fun ixq y => match ixq with  | _ => undef) (fun ixq x F wq => match ixq with  | _ => True) (fun a x => a) (by kernel_rfl) (by kernel_rfl) (fun _ => rfl) [12, 17] (by kernel_rfl)
  · intro x D hD
    have hne := hD.some
    have k0 := liftB hD y0 (by first | assumption | omega)
    have k1 := liftB hD y1 (by first | assumption | omega)
    simp only [takeOps, Act.put, List.setIfInBounds_toArray, List.set_cons_succ, List.set_cons_zero]
    repeat (go_big_quiet_step ((first | (go_at_call_of 50 (Value.int .i64 z2); exact calls_later hD _ (Hv2.out _ ((HI.out.below (kb hD _)).more (kb hD _).size))) | (go_at_call_of 50 (Value.int .i64 z1); exact calls_later hD _ (Hv1.out _ ((HI.out.below (kb hD _)).more (kb hD _).size))))))
    exact wpQuiet_nil rfl
  · intro d hd x x'
    simp only [List.mem_cons, List.not_mem_nil, or_false] at hd
    rcases hd with rfl | rfl
    all_goals rfl
  · exact trivial
  · exact trivial
  intro xx w2 F hL hlv1
  clear hlv1
  clear HI
  replace HB := hide (onward HB.out hL)
  replace Hbt := hide (blk_later Hbt.out hL)
  replace Hbz := hide (blk_later Hbz.out hL)
  replace Hbo := hide (blk_later Hbo.out hL)
  clear hL y0 y1 lty
  obtain ⟨x0, x1⟩ := Hbt.out.c2
  have ltx := Hbt.out.lt
  have lto := Hbo.out.lt
  go_wp2_with fail
  apply wp_region_F (w0 := w2) [[], [0], [], [2], [0, 1, 2, 3], [0, 1, 2, 3, 4], [], [6], [], [8], [6, 7, 8, 9], [0, 1, 2, 3, 4, 5, 6, 7, 8, 9, 10], [0, 1, 2, 3, 4, 5, 6, 7, 8, 9, 10, 11], [0, 1, 2, 3, 4, 5, 6, 7, 8, 9, 10, 11, 12]] [true, true, true, true, true, true, true, true, true, true, true, true, true, false] [false, false, false, false, false, false, false, false, false, false, false, false, false, false] [⟨13, none, [], []⟩] [(13, (w.heap.size+2))] [13] (fun ixq y => match ixq with | 13 => undef | _ => undef) (fun ixq x F wq => match ixq with | 13 => F (w.heap.size+2) ∧ Blk wq (w.heap.size+2) 24 #[.int .i64 q1, .int .i64 q2] | _ => True) (fun a x => (a).put (none) (undef)) (by kernel_rfl) (by kernel_rfl) (by kernel_rfl) (fun _ => rfl) [24, 30] (by kernel_rfl) (fills_lt1 (by omega)) fills_ne1
  · intro x D hD
    have hne := hD.some
    have k0 := liftS hD x0 (by exact early_all (by first | assumption | omega) (by rfl))
    have k1 := liftS hD x1 (by exact early_all (by first | assumption | omega) (by rfl))
    simp only [takeOps, Act.put, List.setIfInBounds_toArray, List.set_cons_succ, List.set_cons_zero]
    repeat (go_big_quiet_step ((first | (go_at_call 51; exact calls_same _ (hdn _)) | (go_at_call 52; exact calls_same _ (hup _)))))
    exact wpQuiet_nil rfl
  · exact fun x D hD => wpQuiet_nil rfl
  · intro d hd x x'
    simp only [List.mem_cons, List.not_mem_nil, or_false] at hd
    rcases hd with rfl | rfl
    all_goals rfl
  · refine ⟨?_, trivial⟩
    · exact obl_fill 24 24 6 31 (w.heap.size+2) _ (fun x => #[.int .i64 q1, .int .i64 q2]) (by kernel_rfl) (fun _ => rfl) (fun _ => rfl) Hbo.out eb_fill1 (by simp [wrF]) (fun _ => by kernel_rfl) (fun _ => rfl) (fun _ => by simp [Value.oneCell']) (fun _ => rfl) (fun _ _ _ _ h1 h2 => ⟨h1, h2⟩)
  · refine ⟨?_, trivial⟩
    · exact owe_fill (w.heap.size+2) 24 (fun x => #[.int .i64 q1, .int .i64 q2]) (fun _ _ _ => rfl) (fun _ _ _ => rfl)
  intro xx2 w3 F hK hlv2
  obtain ⟨fct13, -⟩ := hlv2
  replace fct13 : (F 13) (w.heap.size+2) ∧ Blk w3 (w.heap.size+2) 24 #[.int .i64 q1, .int .i64 q2] := fct13 rfl
  clear Hbt Hbz
  have hgr := grown_kept hK
  replace HB := hide (below_grown HB.out hgr HB.out.size (fun q hq => by simp at hq; omega))
  replace Hbo := hide fct13.2
  clear hgr hK fct13 x0 x1 ltx
  obtain ⟨e0, e1⟩ := Hbo.out.c2
  have lte := Hbo.out.lt
  go_wp2
  refine bodyPost_ret (v := .agg #[.int .i64 q1, .int .i64 q2]) (by simp [results, Try.results63, go_sem, e0, e1]) rfl ⟨rfl, HB.out⟩
end Go.Proofs.Ytmglgahagbfbkaa
