/-
  Arguments opened: structs and slices of structs whose cells are all integers, over any program; and what is read again behind a call that leaves old memory alone.
-/
import Derived.Test.YtidbjidcjmbnlaaTmCount
import Derived.Deep.Slices
import Derived.ProofKit
import Derived.ChangeOld
set_option linter.unusedSimpArgs false
set_option linter.unusedVariables false
namespace Go.Proofs.Ytidbjidcjmbnlaa
open Go Go.RowKit Go.ChangeShapes Go.WideShapes Go.Deep

section
variable {H : Type} {enc : TypeId × Value → H} {P : Program} {w : World} {base : Nat} {spare : Nat → Bool} {held : Bool}

/-- A type whose values are so many integers of one kind, cell by cell. -/
def AllInts (P : Program) (t : TypeId) (k : IntKind) (size : Nat) : Prop :=
  P.cellsOf t = size ∧ ∀ (H : Type) (enc : TypeId × Value → H) (w : World) (base : Nat) (spare : Nat → Bool) (held : Bool) (n : Nat) (cs : List Value) (y : DataW H × List MemPlace), DataW.trod enc P w base spare held n t cs = some y → ∃ zs : List Int, cs = zs.map (Value.int k) ∧ zs.length = size ∧ ∀ z ∈ zs, (Lit.int k z).wf = true

theorem allInts_int {t : TypeId} {k : IntKind} (ht : P.underlying t = some (.int k)) (hc : P.cellsOf t = 1) : AllInts P t k 1 :=
  ⟨hc, fun H enc w base spare held n cs y h => by
    obtain ⟨a, e0, _, wa⟩ := DataW.trod_int ht h
    exact ⟨[a], by simpa using e0, rfl, by simpa using wa⟩⟩

/-- A slice of such. -/
theorem read_slice2 {t e : TypeId} {k : IntKind} {size : Nat} (ht : P.underlying t = some (.slice e)) (he : AllInts P e k size) (hs : 0 < size) {n : Nat} {cs : List Value} {y : DataW H × List MemPlace} (h : DataW.trod enc P w base spare held n t cs = some y) :
    ∃ (A : Option Addr) (len cap : Nat) (zs : List Int), cs = [.slice A len cap] ∧ zs.length = len * size ∧ len ≤ cap ∧ cap ≤ maxLen ∧ Ints w w.heap.size k A zs ∧ ∀ z ∈ zs, (Lit.int k z).wf = true := by
  rcases open_slice ht h with ⟨hcs, _⟩ | ⟨a, len, cap, m, n', D, Pl, hcs, _, hl, hm, hmm, _, hi⟩
  · exact ⟨none, 0, 0, [], hcs, by simp, Nat.le_refl _, by simp [maxLen], Ints.nil_ _ _ _ _, by simp⟩
  · have hlm : len ≤ m := by rw [hmm]; split <;> omega
    have each : ∀ i, i < len → ∃ zs : List Int, zs.length = size ∧ (∀ j, j < size → w.cell? (a.add (i * size + j)) = some (.int k (zs.getD j 0))) ∧ ∀ z ∈ zs, (Lit.int k z).wf = true := fun i hil => by
      obtain ⟨cs', hc, ht'⟩ := hi i (by omega)
      rw [he.1] at hc
      obtain ⟨zs, hz, hzl, hwf⟩ := he.2 H enc w base spare held _ _ _ ht'
      obtain ⟨_, _, hat⟩ := World.cells?_some hc
      refine ⟨zs, hzl, fun j hj => ?_, hwf⟩
      rw [← Go.Deep.add_add, hat j hj, hz]
      simp [List.getD, show j < zs.length by omega]
    obtain ⟨f, hf⟩ := choose_lt each
    refine ⟨some a, len, cap, (List.range len).flatMap f, hcs, ?_, hl, hm, ?_, ?_⟩
    · have : ∀ q, q ≤ len → ((List.range q).flatMap f).length = q * size := by
        intro q
        induction q with
        | zero => intro _; simp
        | succ q ih => intro hq; rw [List.range_succ, List.flatMap_append, List.length_append, ih (by omega)]; simp [(hf q (by omega)).1]; rw [Nat.add_mul]; omega
      exact this len (Nat.le_refl _)
    · have cells : ∀ q, q ≤ len → ∀ j, j < q * size → w.cell? (a.add j) = some (.int k (((List.range q).flatMap f).getD j 0)) ∧ ((List.range q).flatMap f).length = q * size := by
        intro q
        induction q with
        | zero => intro _ j hj; simp at hj
        | succ q ih =>
          intro hq j hj
          have hl1 : ((List.range q).flatMap f).length = q * size := by
            rcases Nat.eq_zero_or_pos (q * size) with h0 | h0
            · rcases Nat.mul_eq_zero.1 h0 with h1 | h1
              · subst h1; simp
              · omega
            · exact (ih (by omega) 0 h0).2
          have hl2 := (hf q (by omega)).1
          rw [List.range_succ, List.flatMap_append]
          simp only [List.flatMap_cons, List.flatMap_nil, List.append_nil]
          refine ⟨?_, by rw [List.length_append, hl1, hl2, Nat.add_mul]; omega⟩
          rw [Nat.add_mul, Nat.one_mul] at hj
          rcases Nat.lt_or_ge j (q * size) with h1 | h1
          · rw [(ih (by omega) j h1).1]
            simp [List.getD, List.getElem?_append_left (show j < ((List.range q).flatMap f).length by omega)]
          · have := (hf q (by omega)).2.1 (j - q * size) (by omega)
            rw [show q * size + (j - q * size) = j by omega] at this
            rw [this]
            simp [List.getD, List.getElem?_append_right (show ((List.range q).flatMap f).length ≤ j by omega), hl1]
      intro hpos
      have hL : ((List.range len).flatMap f).length = len * size := by
        rcases Nat.eq_zero_or_pos (len * size) with h0 | h0
        · rcases Nat.mul_eq_zero.1 h0 with h1 | h1
          · subst h1; simp
          · omega
        · exact (cells len (Nat.le_refl _) 0 h0).2
      rw [hL] at hpos
      have h0 := (cells len (Nat.le_refl _) 0 hpos).1
      obtain ⟨b, off, spot⟩ := a
      have hspot : spot = none := by
        have := World.cell?_spot h0
        simpa [Addr.add] using this
      subst hspot
      refine ⟨b, off, rfl, World.block_lt_of_cell? w _ (by simpa [Addr.add] using h0), fun j hj => ?_⟩
      rw [hL] at hj
      rw [← Go.WideShapes.add_plain]
      exact (cells len (Nat.le_refl _) j hj).1
    · intro z hz
      obtain ⟨i, hi', hz'⟩ := List.mem_flatMap.1 hz
      exact (hf i (List.mem_range.1 hi')).2.2 z hz'

/-- All arguments read as they did, where old memory is as it was. -/
theorem trodAll_below {W W' : World} (hl : laidOutB P = true) (hb : Below W.heap.size W W') : ∀ {ts : List TypeId} {vs : List Value} {ds : List (DataW H)} {ps : List MemPlace},
    (ts.all fun t => P.readableRec t && decide (t < P.types.size)) = true → DataW.TrodAll enc P W 0 (fun _ => true) true ts vs ds ps → DataW.TrodAll enc P W' 0 (fun b => decide (b < W.heap.size)) true ts vs ds ps
  | [], [], [], _, _, h => h
  | t :: ts, v :: vs, d :: ds, _, ht, ⟨p, q, h1, h2, e⟩ => by
    simp only [List.all_cons, Bool.and_eq_true, decide_eq_true_eq] at ht
    exact ⟨p, q, Below.trod hl ht.1.1 ht.1.2 h1 hb (by obtain ⟨m, hm⟩ := h1; exact DataW.trod_lt m _ _ _ hm), trodAll_below hl hb ht.2 h2, e⟩
  | [], _ :: _, _, _, _, h => h.elim
  | _ :: _, [], _, _, _, h => h.elim
  | _ :: _, _ :: _, [], _, _, h => h.elim
  | [], [], _ :: _, _, _, h => h.elim
end
end Go.Proofs.Ytidbjidcjmbnlaa
