/-
  Words for memory that every text of this seat uses: a row of integer cells that a slice value reads as, a block that is known whole, and what is kept below a block number. Plain theorems over any program; nothing of the seat's own program is named.
  Contracts of the small functions of package rain and of the reference: bounds, quotients rounded down and up.
  A loop's code, taken out of a function.
-/
import Derived.WalkKit
import Derived.WalkSpells
import Derived.WalkLawsBesides
import Derived.Deep.Draws
import Derived.Test.YtepgpihobmjbdaaProg
import Derived.Test.YtepgpihobmjbdaaBeam2Math
set_option linter.unusedSimpArgs false
set_option linter.unusedVariables false
section
namespace Go.Proofs.Ytepgpihobmjbdaa
open Go.RowKit
def Ints (w : World) (B : Nat) (k : IntKind) (A : Option Addr) (zs : List Int) : Prop :=
 0 < zs.length → ∃ b off, A = some ⟨b, off, none⟩ ∧ b < B ∧ ∀ j, j < zs.length → w.cell? ⟨b, off + j, none⟩ = some (.int k (zs.getD j 0))
section
variable {w w' : World} {B B' : Nat} {k : IntKind} {A : Option Addr} {zs : List Int}
theorem Ints.nil_ (w : World) (B : Nat) (k : IntKind) (A : Option Addr) : Ints w B k A [] := fun h => absurd h (by simp)
theorem Ints.keep (h : Ints w B k A zs) (hk : ∀ b o, b < B → w'.cell? ⟨b, o, none⟩ = w.cell? ⟨b, o, none⟩) : Ints w' B k A zs := fun hn => by
 obtain ⟨b, off, e, hb, hc⟩ := h hn
 exact ⟨b, off, e, hb, fun j hj => (hk _ _ hb).trans (hc j hj)⟩
theorem Ints.more (h : Ints w B k A zs) (hB : B ≤ B') : Ints w B' k A zs := fun hn => by
 obtain ⟨b, off, e, hb, hc⟩ := h hn
 exact ⟨b, off, e, by omega, hc⟩
theorem Ints.below (h : Ints w B k A zs) (hb : Below B w w') : Ints w' B k A zs := h.keep fun _ _ hp => hb.cell hp
theorem Ints.own {base : Nat} {e : TypeId} {size n c : Nat} {xs : List Value} (h : w.ownsRow base e size (.slice A n c) n xs) (hx : xs = zs.map (Value.int k)) (hB : w.heap.size ≤ B) : Ints w B k A zs := fun hn => by
 subst hx
 rcases h.2 with ⟨_, h0⟩ | ⟨g, cap, cur, hv, _, hg, _⟩
 · have := h.1; rw [h0] at this; simp at this; subst this; simp at hn
 have hA : A = some ⟨g, 0, none⟩ := by injection hv
 subst hA
 refine ⟨g, 0, rfl, ?_, fun j hj => ?_⟩
 ·
  rcases Nat.lt_or_ge g w.heap.size with hlt | hge
  · omega
  · rw [Array.getElem?_eq_none hge] at hg; cases hg
 have := h.cells (g := g) rfl j (.int k (zs.getD j 0)) (by simp [List.getD, hj])
 by_cases h0 : j = 0
 · subst h0; simpa [Addr.add] using this
 · simpa [Addr.add, h0] using this
end
def Blk (w : World) (g : Nat) (t : TypeId) (cs : Array Value) : Prop := w.heap[g]? = some (.cells cs t (0, 0))
section
variable {w w' : World} {g : Nat} {t : TypeId} {cs : Array Value}
theorem Blk.lt (h : Blk w g t cs) : g < w.heap.size := by
 rcases Nat.lt_or_ge g w.heap.size with hlt | hge
 · exact hlt
 · unfold Blk at h; rw [Array.getElem?_eq_none hge] at h; cases h
theorem Blk.cell (h : Blk w g t cs) (i : Nat) : w.cell? ⟨g, i, none⟩ = cs[i]? := cell_of_row w g i cs t (0, 0) h
theorem Blk.frozen (h : Blk w g t cs) (i : Nat) : w.frozen? ⟨g, i, none⟩ = false := by
 unfold Blk at h
 simp [World.frozen?, h]
theorem Blk.new (w : World) (t : TypeId) (cs : Array Value) : Blk (w.alloc (.cells cs t)) w.heap.size t cs := heap_alloc_new w _
theorem Blk.alloc (h : Blk w g t cs) (o : Obj) : Blk (w.alloc o) g t cs := (Below.heap_alloc w o g h.lt).trans h
theorem Blk.set_ (h : Blk w g t cs) (i : Nat) (u : Value) : Blk (w.setCell ⟨g, i, none⟩ u) g t (cs.setIfInBounds i u) := by
 unfold Blk at h ⊢
 simp [World.setCell, Array.getElem?_modify, h]
theorem Blk.far (h : Blk w g t cs) {p : Addr} (hp : g ≠ p.block) (u : Value) : Blk (w.setCell p u) g t cs := (Below.heap_setCell w p u g hp).trans h
theorem Blk.below {B : Nat} (h : Blk w g t cs) (hb : Below B w w') (hg : g < B) : Blk w' g t cs := (hb.block g hg).trans h
end
theorem below_drewN {B : Nat} {a w : World} (h : Below B a w) (n : Nat) : Below B a (w.drewN n) := ⟨h.os, h.tape, h.output, h.size, h.block⟩
theorem hide {p : Prop} (h : p) : Hid p := h
theorem ret_int {k : IntKind} {a b : Int} (h : a = b) : Ending.returned (.int k a) = .returned (.int k b) := by rw [h]
theorem ret_bool {a b : Bool} (h : a = b) : Ending.returned (.bool a) = .returned (.bool b) := by rw [h]
theorem blkFa {w : World} {g : Nat} {t : TypeId} {cs : Array Value} (h : Blk w g t cs) {p : Addr} (u : Value) (hp : g ≠ p.block := by first | omega | (simp only [World.size_alloc, World.size_setCell]; omega)) : Blk (w.setCell p u) g t cs := h.far hp u
theorem belowSc {B : Nat} {a w : World} (h : Below B a w) {p : Addr} (u : Value) (hp : B ≤ p.block := by first | omega | (simp only [World.size_alloc, World.size_setCell]; omega)) : Below B a (w.setCell p u) := h.setCell hp u
theorem belowAl {B : Nat} {a w : World} (h : Below B a w) (o : Obj) (hB : B ≤ w.heap.size := by first | omega | (simp only [World.size_alloc, World.size_setCell]; omega)) : Below B a (w.alloc o) := h.alloc hB o
end Go.Proofs.Ytepgpihobmjbdaa
end
section
namespace Go.Proofs.Ytepgpihobmjbdaa
open Go.RowKit
theorem within_any (n lo hi : Int) (w : World) :
  Calls Try.prog 29 #[.int .i64 n, .int .i64 lo, .int .i64 hi] w fun e w' => e = .returned (.bool (win n lo hi)) ∧ w = w' := by
 by_cases h1 : lo ≤ n <;> by_cases h2 : n ≤ hi
 all_goals
  go_enter Try.func29, Try.ntmps29
  go_wp2
  go_ret
  exact ⟨by simp [win, *], rfl⟩
theorem inside_any (a b most : Int) (w : World) :
  Calls Try.prog 16 #[.agg #[.int .i64 a, .int .i64 b], .int .i64 most] w fun e w' => e = .returned (.bool (ins a b most)) ∧ Below w.heap.size w w' := by
 by_cases h1 : 0 ≤ a <;> by_cases h2 : a ≤ b <;> by_cases h3 : b ≤ most
 all_goals
  go_enter Try.func16, Try.ntmps16
  go_wp2
  go_ret
  exact ⟨by simp [ins, *], (Below.refl _ _).alloc (Nat.le_refl _) _⟩
theorem Ints.pt {w : World} {B : Nat} {A : Option Addr} {l : List (Int × Int)} (h : Ints w B .i64 A (flat2 l)) (hn : 0 < l.length) : ∃ b off, A = some ⟨b, off, none⟩ ∧ b < B ∧
  ∀ k, k < l.length → w.cell? ⟨b, off + k * 2, none⟩ = some (.int .i64 (l.getD k (0, 0)).1) ∧ w.cell? ⟨b, off + k * 2 + 1, none⟩ = some (.int .i64 (l.getD k (0, 0)).2) := by
 obtain ⟨b, off, e, hb, hc⟩ := h (by rw [flat2_length]; omega)
 refine ⟨b, off, e, hb, fun k hk => ⟨?_, ?_⟩⟩
 · rw [hc _ (by rw [flat2_length]; omega), flat2_0]
 · rw [Nat.add_assoc, hc _ (by rw [flat2_length]; omega), flat2_1]
end Go.Proofs.Ytepgpihobmjbdaa
end
section
namespace Go.Proofs.Ytepgpihobmjbdaa
open Go Go.RowKit
def loopsOf : Code → List Code
 | .loop c => .loop c :: loopsOf c
 | .seq a b => loopsOf a ++ loopsOf b
 | .block _ c => loopsOf c
 | .scope c => loopsOf c
 | .cond _ a b => loopsOf a ++ loopsOf b
 | _ => []
end Go.Proofs.Ytepgpihobmjbdaa
end
