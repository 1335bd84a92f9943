/-
  A new book.
-/
import Derived.Test.YtiggefmckomilaaTraceBook
namespace Go.Proofs.Ytiggefmckomilaa
open Go Go.RowKit

def NewPost (w : World) (e : Ending) (w' : World) : Prop := ∃ p L, e = .returned (ptrB p) ∧ BookR [] p L w' ∧ Below w.heap.size w w' ∧ ∀ k ∈ L.all p, w.heap.size ≤ k
theorem mapV_alloc {w : World} {P : Program} {k : TypeId} {b c : Nat} {f : ByteArray → Option Value} (h : MapV w P k b f c) (o : Obj) : MapV (w.alloc o) P k b f c := h.stab (Below.heap_alloc w o b h.lt)
theorem mapV_at {w : World} {P : Program} {k : TypeId} {b : Nat} (h : b = w.heap.size) : MapV (w.alloc (.map #[] 0)) P k b (fun _ => none) 0 := by subst h; exact MapV_made _ _ _
set_option maxHeartbeats 1000000 in
set_option maxRecDepth 100000 in
theorem New_any (w : World) : Calls Try.prog 16 #[] w (NewPost w) := by
  have hmm := @run_makeMap Try.prog
  go_enter Try.func16, Try.ntmps16
  go_wp2
  go_ret
  have hB : Below w.heap.size w (((((w.alloc (.map #[] 0)).alloc (.map #[] 0)).alloc (.map #[] 0)).alloc (.map #[] 0)).alloc (.cells #[.bool true, .map (some w.heap.size), .map (some (w.heap.size + 1)), .slice none 0 0, .slice none 0 0, .map (some (w.heap.size + 2)), .map (some (w.heap.size + 3)), .slice none 0 0] 98)) :=
    ((((((Below.refl _ _).alloc (Nat.le_refl _) _).alloc (by simp) _).alloc (by simp; omega) _).alloc (by simp; omega) _).alloc (by simp; omega) _)
  refine ⟨w.heap.size + 4, ⟨w.heap.size, w.heap.size + 1, w.heap.size + 2, w.heap.size + 3, .slice none 0 0, .slice none 0 0, .slice none 0 0, [], []⟩, rfl, ?_, hB, ?_⟩
  · refine ⟨trivial, by simp [Lay.all, optL, Value.ownBlock], ?_, ?_, ?_, ⟨0, Nat.le_refl _, ?_⟩, ⟨0, Nat.le_refl _, ?_⟩, World.ownsRow_nil _ _ _ _, World.ownsRow_nil _ _ _ _, World.ownsRow_nil _ _ _ _, rfl, rfl⟩
    · exact blk_new_at (by simp)
    · exact mapV_alloc (mapV_alloc (mapV_alloc (mapV_alloc (MapV_made _ _ _) _) _) _) _
    · exact mapV_alloc (mapV_alloc (mapV_alloc (mapV_at (by simp)) _) _) _
    · exact (mapV_alloc (mapV_alloc (mapV_at (by simp)) _) _)
    · exact (mapV_alloc (mapV_at (by simp)) _)
  · intro k hk
    simp [Lay.all, optL, Value.ownBlock] at hk
    omega
end Go.Proofs.Ytiggefmckomilaa
