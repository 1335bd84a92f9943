/-
  Regions that draw their order: a store into a map.
-/
import Derived.Test.YtepgpihobmjbdaaRegQ
import Derived.Test.YtepgpihobmjbdaaMapV
import Derived.WideKeyEntry
set_option linter.unusedSimpArgs false
set_option linter.unusedVariables false
namespace Go.Proofs.Ytepgpihobmjbdaa
open Go Go.RowKit
section
variable {P : Program} {lops : List Oper} {an : List (List Nat)} {m1 m2 : List Bool} {st : List St} {w0 : World} {a0 : Act} {af : (Nat → Par) → Act} {shape : Nat → Par → Value} {wr : Nat → Nat → Prop} {R : Nat → (Nat → Par) → (Nat → Prop) → World → Prop} {s : St} {o : Oper}
end
/-! ### A row's own block, and any other blocks -/
def fillL (i : Nat) (v : Value) (cs : List (Nat × Nat)) : List (Nat × Nat) := ownFill i v ++ cs
theorem mem_fillL {i : Nat} {v : Value} {cs : List (Nat × Nat)} {p : Nat × Nat} : p ∈ fillL i v cs ↔ (p.1 = i ∧ v.ownBlock = some p.2) ∨ p ∈ cs := by
 unfold fillL
 rw [List.mem_append, mem_ownFill]
section
variable {P : Program} {lops : List Oper} {an : List (List Nat)} {m1 m2 : List Bool} {st : List St} {w0 : World} {a0 : Act} {af : (Nat → Par) → Act} {shape : Nat → Par → Value} {wr : Nat → Nat → Prop} {R : Nat → (Nat → Par) → (Nat → Prop) → World → Prop} {s : St} {o : Oper}
variable {i f T B k : Nat} {v : Value} {cs : List (Nat × Nat)} {early : List Nat}
theorem fillL_lt (h : ∀ g, v.ownBlock = some g → g < B) (hc : ∀ q ∈ cs, q.2 < B) : ∀ p ∈ fillL i v cs, p.2 < B := fun p hp => by
 rcases mem_fillL.1 hp with ⟨_, h2⟩ | h2
 · exact h _ h2
 · exact hc _ h2
theorem fillL_ne (hne : ∀ q ∈ cs, v.ownBlock ≠ some q.2) (hcc : ∀ p ∈ cs, ∀ q ∈ cs, p.1 ≠ q.1 → p.2 ≠ q.2) : ∀ p ∈ fillL i v cs, ∀ q ∈ fillL i v cs, p.1 ≠ q.1 → p.2 ≠ q.2 := fun p hp q hq h e => by
 rcases mem_fillL.1 hp with ⟨h1, h2⟩ | h1 <;> rcases mem_fillL.1 hq with ⟨h3, h4⟩ | h3
 · exact h (h1.trans h3.symm)
 · exact hne q h3 (by rw [h2, e])
 · exact hne p h1 (by rw [h4, e])
 · exact hcc p h1 q h3 h e
theorem ebL_row {g : Nat} (hg : v.ownBlock = some g) (hne : ∀ q ∈ cs, v.ownBlock ≠ some q.2) : Eb an st (wrF (fillL i v cs)) i g := fun s _ h => by
 rcases mem_fillL.1 h with ⟨h1, _⟩ | h1
 · exact .inl h1
 · exact absurd hg (hne _ h1)
theorem ebL_cell (hq : (f, T) ∈ cs) (hne : v.ownBlock ≠ some T) (hcc : ∀ p ∈ cs, ∀ q ∈ cs, p.1 ≠ q.1 → p.2 ≠ q.2) : Eb an st (wrF (fillL i v cs)) f T := fun s _ h => by
 rcases mem_fillL.1 h with ⟨_, h2⟩ | h1
 · exact absurd h2 hne
 ·
  left
  by_cases e : s.i = f
  · exact e
  · exact (hcc (s.i, T) h1 (f, T) hq e rfl).elim
theorem earlyL (h : k < B) (hne : v.ownBlock ≠ some k) (hq : ∀ q ∈ cs, q.2 = k → q.1 ∈ early) : k < B ∧ ∀ p ∈ fillL i v cs, p.2 = k → p.1 ∈ early :=
 ⟨h, fun p hp e => by
  rcases mem_fillL.1 hp with ⟨_, h2⟩ | h1
  · exact absurd (e ▸ h2) hne
  · exact hq p h1 e⟩
theorem freeL (hne : v.ownBlock ≠ some k) (hq : ∀ q ∈ cs, q.2 ≠ k) : free (fillL i v cs) k := fun p hp e => by
 rcases mem_fillL.1 hp with ⟨_, h2⟩ | h1
 · exact hne (e ▸ h2)
 · exact hq p h1 e
theorem wrL_row : ∀ g, v.ownBlock = some g → wrF (fillL i v cs) i g := fun g hg => by
 unfold wrF
 exact mem_fillL.2 (.inl ⟨rfl, hg⟩)
theorem wrL_cell (h : (f, T) ∈ cs) : wrF (fillL i v cs) f T := by
 unfold wrF
 exact mem_fillL.2 (.inr h)
theorem row_thenL {base : Nat} {e : TypeId} {size n : Nat} {xs : List Value} {w : World} (h : w0.ownsRow base e size v n xs) (hne : ∀ q ∈ cs, v.ownBlock ≠ some q.2) (hk : Kept (fun k => k < w0.heap.size ∧ Eb an st (wrF (fillL i v cs)) i k) w0 w) : w.ownsRow base e size v n xs := by
 refine ⟨h.1, ?_⟩
 rcases h.2 with h0 | ⟨g, cap, cur, hv, hb, hg, r⟩
 · exact .inl h0
 ·
  refine .inr ⟨g, cap, cur, hv, hb, ?_, r⟩
  have hlt : g < w0.heap.size := (Array.getElem?_eq_some_iff.1 hg).1
  rw [hk.block g ⟨hlt, ebL_row (by rw [hv]; rfl) hne⟩]; exact hg
theorem row_thenC {v2 : Value} {base : Nat} {e : TypeId} {size n : Nat} {xs : List Value} {w : World} (h : w0.ownsRow base e size v2 n xs) (ha : Apart v v2) (hk : Kept (fun k => k < w0.heap.size ∧ Eb an st (wrF (fillL i v (ownFill f v2))) f k) w0 w) : w.ownsRow base e size v2 n xs := by
 refine ⟨h.1, ?_⟩
 rcases h.2 with h0 | ⟨g, cap, cur, hv, hb, hg, r⟩
 · exact .inl h0
 ·
  refine .inr ⟨g, cap, cur, hv, hb, ?_, r⟩
  have hlt : g < w0.heap.size := (Array.getElem?_eq_some_iff.1 hg).1
  have hgo : v2.ownBlock = some g := by rw [hv]; rfl
  rw [hk.block g ⟨hlt, ebL_cell (mem_ownFill.2 ⟨rfl, hgo⟩) (apart_ne ha hgo) fun p hp q hq hne => absurd ((mem_ownFill.1 hp).1.trans (mem_ownFill.1 hq).1.symm) hne⟩]; exact hg
theorem wrL_own {v2 : Value} : ∀ g, v2.ownBlock = some g → wrF (fillL i v (ownFill f v2)) f g := fun g hg => wrL_cell (mem_ownFill.2 ⟨rfl, hg⟩)
/-! ### 'm[k] = v' in two steps -/
end
end Go.Proofs.Ytepgpihobmjbdaa
