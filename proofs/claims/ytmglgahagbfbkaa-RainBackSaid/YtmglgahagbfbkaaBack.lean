/-
  The law RainBack returns true: for every table, all powers, all cuts and all raises.
-/
import Derived.Test.YtmglgahagbfbkaaBackMath
import Derived.Test.YtmglgahagbfbkaaRestore
import Derived.Test.YtmglgahagbfbkaaSame
import Derived.Test.YtmglgahagbfbkaaSuits
import Derived.Test.YtmglgahagbfbkaaWorks
import Derived.Test.YtmglgahagbfbkaaPoints
import Derived.Maps.AppendAt
namespace Go.Proofs.Ytmglgahagbfbkaa
open Go.RowKit

/-- Two rows of the call's own do not share a block. -/
def Apart (u v : Value) : Prop := u.ownBlock = none ∨ u.ownBlock ≠ v.ownBlock
theorem Apart.symm {u v : Value} (h : Apart u v) : Apart v u := by
  unfold Apart at *
  rcases h with h | h
  · rw [h]; cases hv : v.ownBlock <;> simp
  · exact .inr (Ne.symm h)
theorem apart_after {w : World} {u v v' : Value} {base k : Nat} {e : TypeId} {size n : Nat} {xs : List Value} (h : Apart u v) (hu : w.ownsRow base e size u n xs) (hk : w.heap.size ≤ k) (hat : v'.ownBlock = v.ownBlock ∨ v'.ownBlock = some k) : Apart u v' := by
  unfold Apart at *
  rcases hat with e1 | e1
  · rw [e1]; exact h
  · right
    intro e2
    have := (hu.lt k (e2.trans e1)).2
    omega
theorem apart_nil (v : Value) : Apart (.slice none 0 0) v := .inl rfl
/-- A list of spans that the call owns reads as it. -/
theorem spans_ints {w : World} {base n c : Nat} {A : Option Addr} {l : List (Int × Int)} (h : w.ownsRow base 24 2 (.slice A n c) n (spanCells l)) : Ints w w.heap.size .i64 A (flat2 l) := Ints.own h rfl (Nat.le_refl _)
theorem take_spans (l : List (Int × Int)) (k : Nat) (hk : k < l.length) (a b : Int) (h : l.getD k (0, 0) = (a, b)) : spanCells (l.take k) ++ [Value.int .i64 a, .int .i64 b] = spanCells (l.take (k + 1)) := by
  have := spanCells_snoc (l.take k) a b
  rw [show [Value.int .i64 a, .int .i64 b] = #[Value.int .i64 a, .int .i64 b].toList from rfl, this]
  congr 1
  rw [List.take_succ_eq_append_getElem hk]
  simp only [List.getD, List.getElem?_eq_getElem hk, Option.getD_some] at h
  rw [h]
theorem intInfo : (Try.prog.info? 3).map (fun i => (i.zero, i.size, i.bytes)) = some (some (.int .i64 0), 1, 8) := by kernel_rfl

set_option maxHeartbeats 1000000 in
theorem nth_any (A : Option Addr) (n c : Nat) (zs : List Int) (i : Nat) (w : World) (hn : zs.length = n) (hmax : n ≤ 9223372036854775807) (hi : i ≤ 1000000) (hl : Ints w w.heap.size .u32 A zs) :
    Calls Try.prog 36 #[.slice A n c, .int .i64 i] w fun e w' => e = .returned (.int .u32 (nthV zs i)) ∧ Below w.heap.size w w' := by
  by_cases h0 : n = 0
  · have e : nthV zs i = 0 := by unfold nthV; rw [if_pos (by omega)]
    rw [e]
    subst h0
    clear hl e
    go_enter Try.func36, Try.ntmps36
    go_wp2
    go_ret
    exact ⟨rfl, Below.refl _ _⟩
  · obtain ⟨b, off, rfl, hb, hc⟩ := hl (by omega)
    have hlt : i % n < n := Nat.mod_lt _ (by omega)
    have e : nthV zs i = zs.getD (i % n) 0 := by unfold nthV; rw [if_neg (by omega), hn]
    have p := hc (i % n) (by omega)
    have hm : ((i : Int) % (n : Int)) = ((i % n : Nat) : Int) := (Int.natCast_emod i n).symm
    rw [e]
    generalize zs.getD (i % n) 0 = v at *
    generalize i % n = q at *
    have hn0 : (n : Int) ≠ 0 := by omega
    have hn1 : ((n : Int) == 0) = false := by simpa using hn0
    have hn2 : (0 : Int) < n := by omega
    have hq : (q : Int) < n := by omega
    clear hl hc e
    go_enter Try.func36, Try.ntmps36
    go_wp2
    go_ret
    exact ⟨rfl, Below.refl _ _⟩
end Go.Proofs.Ytmglgahagbfbkaa
