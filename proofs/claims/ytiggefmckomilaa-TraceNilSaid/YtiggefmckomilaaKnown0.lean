/-
  A standard as it lies in memory: its value at a time, and whether it holds.
-/
import Derived.Test.YtiggefmckomilaaTraceFns
namespace Go.Proofs.Ytiggefmckomilaa
open Go Go.RowKit

/-- The cells of a standard. -/
def knownC (s : Std) (par : Option Addr) (m : Int × Int) : Array Value :=
  #[.string s.name, .string s.par, .int .i64 s.lo, .int .i64 s.hi, .int .i64 s.time, .int .i64 s.stop, .int .i64 s.drift, .pointer par, .int .i64 m.1, .int .i64 m.2]
theorem Blk.c10 {w : World} {g : Nat} {t : TypeId} {a b c d e f i j k l : Value} (h : Blk w g t #[a, b, c, d, e, f, i, j, k, l]) :
    w.cell? ⟨g, 0, none⟩ = some a ∧ w.cell? ⟨g, 1, none⟩ = some b ∧ w.cell? ⟨g, 2, none⟩ = some c ∧ w.cell? ⟨g, 3, none⟩ = some d ∧ w.cell? ⟨g, 4, none⟩ = some e ∧ w.cell? ⟨g, 5, none⟩ = some f ∧ w.cell? ⟨g, 6, none⟩ = some i ∧ w.cell? ⟨g, 7, none⟩ = some j ∧ w.cell? ⟨g, 8, none⟩ = some k ∧ w.cell? ⟨g, 9, none⟩ = some l :=
  ⟨h.c 0 rfl, h.c 1 rfl, h.c 2 rfl, h.c 3 rfl, h.c 4 rfl, h.c 5 rfl, h.c 6 rfl, h.c 7 rfl, h.c 8 rfl, h.c 9 rfl⟩

set_option maxHeartbeats 1000000 in
set_option maxRecDepth 100000 in
theorem holds_any (s : Std) (par : Option Addr) (m : Int × Int) (k : Nat) (t : Int) (w : World) (hb : Blk w k 109 (knownC s par m)) :
    Calls Try.prog 62 #[.pointer (some ⟨k, 0, none⟩), .int .i64 t] w fun e w' => e = .returned (.bool (inR t s.time s.stop)) ∧ Below w.heap.size w w' := by
  unfold knownC at hb
  have hw := fun W => within_any t s.time s.stop W
  generalize inR t s.time s.stop = r at *
  obtain ⟨x0, x1, x2, x3, x4, x5, x6, x7, x8, x9⟩ := hb.c10
  have ltx := hb.lt
  have Hw := hide hw
  have Hb := hide hb
  clear hw hb
  go_enter Try.func62, Try.ntmps62
  go_wp2_with fail
  apply wp_region_L (w0 := w) [[], [], [], [], [], [], [], [], [], [], [], [], []] [true, true, true, true, true, true, true, true, true, true, true, true, true] [] (fun ixq y => match ixq with  | _ => undef) (fun ixq x F wq => match ixq with  | _ => True) (fun a x => a) (by kernel_rfl) (by kernel_rfl) (fun _ => rfl) [7, 12, 16] (by kernel_rfl)
  · intro x D hD
    have hne := hD.some
    have k4 := liftB hD x4 (by first | assumption | omega)
    have k5 := liftB hD x5 (by first | assumption | omega)
    simp only [takeOps, Act.put, List.setIfInBounds_toArray, List.set_cons_succ, List.set_cons_zero]
    repeat (go_big_quiet_step ((go_at_call 60; exact calls_same _ (Hw.out _))))
    exact wpQuiet_nil rfl
  · intro d hd x x'
    simp only [List.mem_cons, List.not_mem_nil, or_false] at hd
    rcases hd with rfl | rfl | rfl
    all_goals rfl
  · exact trivial
  · exact trivial
  intro xx w2 F hL hlv1
  clear hlv1
  go_wp2
  go_ret
  exact ⟨rfl, hL⟩

set_option maxHeartbeats 1000000 in
set_option maxRecDepth 100000 in
theorem at_any (s : Std) (par : Option Addr) (m : Int × Int) (k : Nat) (t : Int) (w : World) (hb : Blk w k 109 (knownC s par m)) (hs : StdOk s) (hm : SpanOk m) (t0 : 0 ≤ t) (t1 : t ≤ 4294967296) :
    Calls Try.prog 64 #[.pointer (some ⟨k, 0, none⟩), .int .i64 t] w fun e w' => e = .returned (.agg #[.int .i64 (widenS m s.drift s.time t).1, .int .i64 (widenS m s.drift s.time t).2]) ∧ Below w.heap.size w w' := by
  unfold knownC at hb
  obtain ⟨-, -, -, -, h1, h2, h3, h4, h5⟩ := hs
  obtain ⟨m1, m2, m3⟩ := hm
  obtain ⟨ma, mb⟩ := m
  have hw := fun W => widen_any ma mb s.drift s.time t W h4 h5 h1 (by omega) t0 t1 (by simp only at m1; omega) (by simp only at m2 m3; omega) (by simp only at m1 m2; omega) (by simp only at m3; omega)
  generalize (widenS (ma, mb) s.drift s.time t).1 = r1 at *
  generalize (widenS (ma, mb) s.drift s.time t).2 = r2 at *
  have Hw := hide hw
  have Hb := hide hb
  clear hw hb
  go_enter Try.func64, Try.ntmps64
  have HB := hide (Below.refl w.heap.size w)
  go_wp2_with fail
  refine code_world fun W hW => ?_
  have bq0 : Blk W w.heap.size 23 #[.int .i64 0, .int .i64 0] := by rw [hW]; exact Blk.new _ _ _
  have LW : Later w W := by rw [hW]; exact ((Below.refl _ _).alloc (Nat.le_refl _) _)
  have szW : W.heap.size = w.heap.size + 1 := by rw [hW]; simp
  clear hW
  replace HB := hide (onward HB.out LW)
  replace Hb := hide (blk_later Hb.out LW)
  have Ho := hide bq0
  clear bq0 LW szW
  obtain ⟨x0, x1, x2, x3, x4, x5, x6, x7, x8, x9⟩ := Hb.out.c10
  have ltx := Hb.out.lt
  have lto := Ho.out.lt
  apply wp_region_F (w0 := W) [[], [0], [0, 1], [0, 1, 2], [], [4], [4, 5], [4, 5, 6], [4, 5, 6, 7], [], [9], [9, 10], [9, 10, 11], [9, 10, 11, 12], [], [0, 1, 2, 3, 4, 5, 6, 7, 8, 9, 10, 11, 12, 13, 14], [0, 1, 2, 3, 4, 5, 6, 7, 8, 9, 10, 11, 12, 13, 14, 15]] [true, true, true, true, true, true, true, true, true, true, true, true, true, true, true, true, false] [false, false, false, false, false, false, false, false, false, false, false, false, false, false, false, false, false] [⟨16, none, [], []⟩] [(16, w.heap.size)] [16] (fun ixq y => match ixq with | 16 => undef | _ => undef) (fun ixq x F wq => match ixq with | 16 => F w.heap.size ∧ Blk wq w.heap.size 23 #[.int .i64 r1, .int .i64 r2] | _ => True) (fun a x => (a).put (none) (undef)) (by kernel_rfl) (by kernel_rfl) (by kernel_rfl) (fun _ => rfl) [6, 10, 15, 20] (by kernel_rfl) (fills_lt1 (by omega)) fills_ne1
  · intro x D hD
    have hne := hD.some
    have k4 := liftS hD x4 (by exact early_all (by first | assumption | omega) (by rfl))
    have k6 := liftS hD x6 (by exact early_all (by first | assumption | omega) (by rfl))
    have k8 := liftS hD x8 (by exact early_all (by first | assumption | omega) (by rfl))
    have k9 := liftS hD x9 (by exact early_all (by first | assumption | omega) (by rfl))
    simp only [takeOps, Act.put, List.setIfInBounds_toArray, List.set_cons_succ, List.set_cons_zero]
    repeat (go_big_quiet_step ((go_at_call 67; exact calls_later hD _ (Hw.out _))))
    exact wpQuiet_nil rfl
  · exact fun x D hD => wpQuiet_nil rfl
  · intro d hd x x'
    simp only [List.mem_cons, List.not_mem_nil, or_false] at hd
    rcases hd with rfl | rfl | rfl | rfl
    all_goals rfl
  · refine ⟨?_, trivial⟩
    · exact obl_fill 23 23 4 20 w.heap.size _ (fun x => #[.int .i64 r1, .int .i64 r2]) (by kernel_rfl) (fun _ => rfl) (fun _ => rfl) Ho.out eb_fill1 (by simp [wrF]) (fun _ => by kernel_rfl) (fun _ => rfl) (fun _ => by simp [Value.oneCell']) (fun _ => rfl) (fun _ _ _ _ h1 h2 => ⟨h1, h2⟩)
  · refine ⟨?_, trivial⟩
    · exact owe_fill w.heap.size 23 (fun x => #[.int .i64 r1, .int .i64 r2]) (fun _ _ _ => rfl) (fun _ _ _ => rfl)
  intro xx w2 F hK hlv2
  obtain ⟨fct16, -⟩ := hlv2
  replace fct16 : (F 16) w.heap.size ∧ Blk w2 w.heap.size 23 #[.int .i64 r1, .int .i64 r2] := fct16 rfl
  have Hq := hide fct16.2
  have hB : Below w.heap.size w w2 := below_kept HB.out HB.out.size hK (fun p hp => by simp only [List.mem_singleton] at hp; subst hp; exact Nat.le_refl _)
  clear x0 x1 x2 x3 x4 x5 x6 x7 x8 x9 lto
  obtain ⟨o0, o1⟩ := Hq.out.c2
  have lto := Hq.out.lt
  have fo0 := Hq.out.frozen 0
  have fo1 := Hq.out.frozen 1
  go_wp2
  refine bodyPost_ret (v := .agg #[.int .i64 r1, .int .i64 r2]) (by simp [results, Try.results64, go_sem, o0, o1, fo0, fo1, lto]) rfl ⟨rfl, hB⟩
end Go.Proofs.Ytiggefmckomilaa
