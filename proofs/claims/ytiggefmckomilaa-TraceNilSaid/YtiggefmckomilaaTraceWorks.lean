/-
  The book of the chapter's examples, and its answers.
-/
import Derived.Test.YtiggefmckomilaaTraceGain
import Derived.Test.YtiggefmckomilaaTraceNew
import Derived.Test.YtiggefmckomilaaArr
import Derived.Test.YtiggefmckomilaaTraceRadar
import Derived.Test.YtiggefmckomilaaTraceDefine
import Derived.Test.YtiggefmckomilaaTraceTest
namespace Go.Proofs.Ytiggefmckomilaa
open Go Go.RowKit

/-- A book that was made behind a world: no elder memory is its own. -/
def BookN (l : List Ent) (p : Nat) (w0 w : World) : Prop := ∃ L, BookR l p L w ∧ Below w0.heap.size w0 w ∧ ∀ k ∈ L.all p, w0.heap.size ≤ k
theorem BookN.below {l : List Ent} {p : Nat} {w0 w : World} (h : BookN l p w0 w) : Below w0.heap.size w0 w := by
  obtain ⟨_, _, h, _⟩ := h
  exact h
theorem BookN.new {w0 w1 : World} {e : Ending} (h : NewPost w0 e w1) : ∃ p, e = .returned (ptrB p) ∧ BookN [] p w0 w1 := by
  obtain ⟨p, L, he, hb, hB, hL⟩ := h
  exact ⟨p, he, L, hb, hB, hL⟩
theorem BookN.later {l : List Ent} {p : Nat} {w0 w w' : World} (h : BookN l p w0 w) (hl : Below w.heap.size w w') : BookN l p w0 w' := by
  obtain ⟨L, hb, hB, hL⟩ := h
  exact ⟨L, hb.later hl, hB.trans (Below.mono hl hB.size), hL⟩
theorem BookN.step {l : List Ent} {p : Nat} {w0 w w' : World} {L : Lay} {x : Ent} {ev : Int} (hB : Below w0.heap.size w0 w) (hL : ∀ k ∈ L.all p, w0.heap.size ≤ k) (h : EntPost l p L w x ev w') : BookN (if ev = 0 then x :: l else l) p w0 w' := by
  obtain ⟨L', hb', hs⟩ := h
  have hsz := hB.size
  exact ⟨L', hb', hB.trans ⟨hs.kept.os, hs.kept.tape, hs.kept.output, hs.kept.size, fun k hk => hs.kept.block k ⟨by omega, fun hm => by have := hL k hm; omega⟩⟩, fun k hk => by
    rcases hs.new k hk with h | h
    · exact hL k h
    · omega⟩

def exR : Ent := .radar ⟨#[114]⟩ 2
def exA : Ent := .define ⟨⟨#[97]⟩, ⟨#[]⟩, 1000, 1010, 0, 864000, 1⟩
def exB : Ent := .define ⟨⟨#[98]⟩, ⟨#[97]⟩, 500, 500, 86400, 864000, 0⟩
def exT : Ent := .test ⟨⟨#[114]⟩, ⟨#[98]⟩, 172800, 998, 1012⟩
theorem ex1 : radarE [] ⟨#[114]⟩ 2 = 0 := by decide +kernel
theorem ex2 : defineE [exR] ⟨⟨#[97]⟩, ⟨#[]⟩, 1000, 1010, 0, 864000, 1⟩ = 0 := by decide +kernel
theorem ex3 : defineE [exA, exR] ⟨⟨#[98]⟩, ⟨#[97]⟩, 500, 500, 86400, 864000, 0⟩ = 0 := by decide +kernel
theorem ex4 : valueE [exB, exA, exR] ⟨#[98]⟩ 86400 = ((499, 506), 0) := by decide +kernel
theorem ex5 : testE [exB, exA, exR] ⟨⟨#[114]⟩, ⟨#[98]⟩, 172800, 998, 1012⟩ = 0 := by decide +kernel
theorem ex6 : gainE [exT, exB, exA, exR] ⟨#[114]⟩ 259200 = ((1970, 2031), (0, 0), 0) := by decide +kernel
theorem ex7 : (testsT [exB, exA, exR]).length = 0 := rfl

theorem point_any (n : Int) (w : World) : Calls Try.prog 42 #[.int .i64 n] w fun e w' => e = .returned (.agg #[.int .i64 n, .int .i64 n]) ∧ Below w.heap.size w w' := by
  go_enter Try.func42, Try.ntmps42
  go_wp2
  refine bodyPost_ret (v := .agg #[.int .i64 n, .int .i64 n]) (by simp [results, Try.results42, go_sem]) rfl ⟨rfl, ?_⟩
  repeat (first | exact Below.refl _ _ | (refine Below.setCell ?_ (by first | omega | (simp; done) | (simp; omega)) _) | (refine Below.alloc ?_ (by first | omega | (simp; done) | (simp; omega)) _) | (refine below_drewN ?_ _))
set_option maxHeartbeats 1000000 in
set_option maxRecDepth 100000 in
theorem book_any (w : World) : Calls Try.prog 41 #[] w fun e w' => ∃ p, e = .returned (.tuple #[ptrB p, .bool true]) ∧ BookN [exB, exA, exR] p w w' := by
  go_enter Try.func41, Try.ntmps41
  go_wp2_with fail
  refine (New_any _).mono ?_
  intro e w1 hN
  obtain ⟨p, rfl, L, hb, hB, hL⟩ := BookN.new hN
  clear hN
  go_wp2_with fail
  have c1 := Radar_any [] p L ⟨#[114]⟩ 2 w1 hb (by decide)
  rw [ex1] at c1
  refine c1.mono ?_
  clear c1
  rintro e w2 ⟨rfl, hp⟩
  obtain ⟨L2, hb2, hB2, hL2⟩ := BookN.step hB hL hp
  rw [if_pos rfl] at hb2
  clear hp hb hB hL
  go_wp2_with fail
  have c2 := Define_any [exR] p L2 ⟨⟨#[97]⟩, ⟨#[]⟩, 1000, 1010, 0, 864000, 1⟩ w2 hb2 (by decide) (by decide)
  rw [ex2] at c2
  refine c2.mono ?_
  clear c2
  rintro e w3 ⟨rfl, hp⟩
  obtain ⟨L3, hb3, hB3, hL3⟩ := BookN.step hB2 hL2 hp
  rw [if_pos rfl] at hb3
  clear hp hb2 hB2 hL2
  go_wp2_with fail
  refine (point_any _ _).mono ?_
  rintro e w4 ⟨rfl, hl⟩
  obtain ⟨L4, hb4, hB4, hL4⟩ := BookN.later ⟨L3, hb3, hB3, hL3⟩ hl
  clear hl hb3 hB3 hL3
  go_wp2_with fail
  have c3 := Define_any [exA, exR] p L4 ⟨⟨#[98]⟩, ⟨#[97]⟩, 500, 500, 86400, 864000, 0⟩ w4 hb4 (by decide) (by decide)
  rw [ex3] at c3
  refine c3.mono ?_
  clear c3
  rintro e w5 ⟨rfl, hp⟩
  obtain ⟨L5, hb5, hB5, hL5⟩ := BookN.step hB4 hL4 hp
  rw [if_pos rfl] at hb5
  clear hp hb4 hB4 hL4
  go_wp2
  refine bodyPost_ret (v := .tuple #[ptrB p, .bool true]) (by simp [results, Try.results41, go_sem]) rfl ⟨p, rfl, L5, hb5, hB5, hL5⟩
theorem eqAt (a b a' b' : Int) (w : World) : (Op.equalIn 10000 52 (.agg #[.int .i64 a, .int .i64 b]) (.agg #[.int .i64 a', .int .i64 b'])).run Try.prog w = .ok (a == a' && b == b') w :=
  run_equalIn_arr2 Try.underlying52 Try.underlying3 (by kernel_rfl) 9998 a b a' b' w
set_option maxHeartbeats 2000000 in
set_option maxRecDepth 100000 in
theorem works_any (w : World) : Calls Try.prog 15 #[] w fun e w' => e = .returned (.bool true) ∧ Below w.heap.size w w' := by
  go_enter Try.func15, Try.ntmps15
  go_wp2_with fail
  refine (book_any _).mono ?_
  rintro e w1 ⟨p, rfl, L, hb, hB, hL⟩
  have HW := hide (Below.refl w1.heap.size w1)
  go_wp2_with fail
  have c1 := Value_any [exB, exA, exR] p L ⟨#[98]⟩ 86400 w1 hb (by decide)
  rw [ex4] at c1
  refine (c1).mono ?_
  rintro e w2 ⟨rfl, hb⟩
  replace HW := hide (onward HW.out hb)
  clear hb
  clear c1
  have hsz2 := HW.out.size
  unfold spanE
  go_wp2_with fail
  refine at_world fun w3 hW => ?_
  have bq0 : Blk w3 w2.heap.size 23 #[.int .i64 499, .int .i64 506] := by rw [hW]; exact Blk.new _ _ _
  have LW : Later w2 w3 := by rw [hW]; exact ((Below.refl _ _).alloc (Nat.le_refl _) _)
  have szW : w3.heap.size = w2.heap.size + 1 := by rw [hW]; simp
  clear hW
  replace HW := hide (onward HW.out LW)
  have Hv := hide bq0
  clear bq0 LW szW
  have hb3 := hb.later HW.out
  have hB3 := hB.trans (Below.mono HW.out hB.size)
  have c2 := Test_any [exB, exA, exR] p L ⟨#[114]⟩ ⟨#[98]⟩ 172800 998 1012 w3 hb3 (by decide) (by decide)
  rw [ex5, if_pos rfl, show ((testsT [exB, exA, exR]).length : Int) = 0 from rfl] at c2
  refine c2.mono ?_
  clear c2
  rintro e w4 ⟨rfl, L4', hb', hs⟩
  have hsz := HW.out.size
  have hszv := Hv.out.lt
  have hv4 : Blk w4 w2.heap.size 23 #[.int .i64 499, .int .i64 506] := (hs.kept.block _ ⟨Hv.out.lt, fun hm => by have := hb.lt _ hm; omega⟩).trans Hv.out
  obtain ⟨L4, hb4, hB4, hL4⟩ := BookN.step hB3 hL ⟨L4', hb', hs⟩
  rw [if_pos rfl] at hb4
  have hB4' := hB4
  clear hs hb' hb3 hB3 hL hb hB HW Hv hsz hszv
  have HB := hide hB4
  have Hv := hide hv4
  clear hB4 hv4
  go_wp2_with fail
  have c3 := Gain_any [exT, exB, exA, exR] p L4 ⟨#[114]⟩ 259200 w4 hb4 (by decide)
  rw [ex6] at c3
  refine (c3).mono ?_
  rintro e w5 ⟨rfl, hb⟩
  replace HB := hide (onward HB.out hb)
  replace Hv := hide (blk_later Hv.out hb)
  clear hb
  clear c3 hb4 hL4 hB4'
  unfold gainV
  obtain ⟨v0, v1⟩ := Hv.out.c2
  have ltv := Hv.out.lt
  have heq := eqAt 0 0 0 0
  go_wp2
  go_ret
  have hsz := HB.out.size
  refine ⟨rfl, ?_⟩
  repeat (first | exact HB.out | (refine Below.setCell ?_ (by first | omega | (simp; done) | (simp; omega)) _) | (refine Below.alloc ?_ (by first | omega | (simp; done) | (simp; omega)) _) | (refine below_drewN ?_ _))
end Go.Proofs.Ytiggefmckomilaa
