/-
  Whether a book has room for an entry; reading calls: Entries, Value.
-/
import Derived.Test.YtiggefmckomilaaTraceNew
namespace Go.Proofs.Ytiggefmckomilaa
open Go Go.RowKit

theorem Blk.c8 {w : World} {g : Nat} {t : TypeId} {a b c d e f i j : Value} (h : Blk w g t #[a, b, c, d, e, f, i, j]) :
    w.cell? ⟨g, 0, none⟩ = some a ∧ w.cell? ⟨g, 1, none⟩ = some b ∧ w.cell? ⟨g, 2, none⟩ = some c ∧ w.cell? ⟨g, 3, none⟩ = some d ∧ w.cell? ⟨g, 4, none⟩ = some e ∧ w.cell? ⟨g, 5, none⟩ = some f ∧ w.cell? ⟨g, 6, none⟩ = some i ∧ w.cell? ⟨g, 7, none⟩ = some j :=
  ⟨h.c 0 rfl, h.c 1 rfl, h.c 2 rfl, h.c 3 rfl, h.c 4 rfl, h.c 5 rfl, h.c 6 rfl, h.c 7 rfl⟩
def stateE (n : Nat) : Int := if 2000 ≤ n then 13 else 0
set_option maxHeartbeats 1000000 in
set_option maxRecDepth 100000 in
theorem state_any (p n c : Nat) (a1 a2 a3 a4 a5 a6 : Value) (A : Option Addr) (w : World) (hb : Blk w p 98 #[.bool true, a1, a2, a3, a4, a5, a6, .slice A n c]) :
    Calls Try.prog 58 #[.pointer (some ⟨p, 0, none⟩)] w fun e w' => e = .returned (.int .i64 (stateE n)) ∧ Below w.heap.size w w' := by
  obtain ⟨x0, x1, x2, x3, x4, x5, x6, x7⟩ := hb.c8
  have ltx := hb.lt
  by_cases h : 2000 ≤ n
  · have hi : (2000 : Int) ≤ n := by omega
    have e1 : stateE n = 13 := by unfold stateE; rw [if_pos h]
    rw [e1]
    clear e1 h
    go_enter Try.func58, Try.ntmps58
    go_wp2
    go_ret
    exact ⟨rfl, Below.refl _ _⟩
  · have hi : ¬ (2000 : Int) ≤ n := by omega
    have e1 : stateE n = 0 := by unfold stateE; rw [if_neg h]
    rw [e1]
    clear e1 h
    go_enter Try.func58, Try.ntmps58
    go_wp2
    go_ret
    exact ⟨rfl, Below.refl _ _⟩
theorem Entries_any (l : List Ent) (p : Nat) (L : Lay) (w : World) (hb : BookR l p L w) :
    Calls Try.prog 34 #[ptrB p] w fun e w' => e = .returned (.int .i64 l.length) ∧ Below w.heap.size w w' := by
  have hk := hb.book
  obtain ⟨A, c, hv⟩ := own_shape2 hb.entries
  unfold bookC at hk
  rw [hv] at hk
  obtain ⟨x0, x1, x2, x3, x4, x5, x6, x7⟩ := hk.c8
  have ltx := hk.lt
  clear hb
  unfold ptrB
  go_enter Try.func34, Try.ntmps34
  go_wp2
  go_ret
  exact ⟨rfl, Below.refl _ _⟩
end Go.Proofs.Ytiggefmckomilaa
