/-
  Regions that draw their order: a store of one number into a block that is known whole, among what is left.
-/
import Derived.Test.YtiggefmckomilaaRegionStep
namespace Go.Proofs.Ytiggefmckomilaa
open Go.RowKit
section
variable {P : Program} {md : Region.Mode} {ops : Array Oper} {S : Nat → Prop} {E : Nat → Bool}
theorem grown_setCell (w : World) (g off : Nat) (v : Value) : w.grownBy (w.setCell ⟨g, off, none⟩ v) (some g) :=
  ⟨rfl, rfl, rfl, by simp, fun k _ hne => Below.heap_setCell w ⟨g, off, none⟩ v k (fun e => hne (by rw [e]))⟩
theorem kept_setCell {w : World} {g off : Nat} {v : Value} (hg : ¬ S g) : Kept S w (w.setCell ⟨g, off, none⟩ v) :=
  ⟨rfl, rfl, rfl, by simp, fun k hk => Below.heap_setCell w ⟨g, off, none⟩ v k (fun e => hg (by have e' : k = g := e; rw [← e']; exact hk))⟩
theorem exec_store_cell {o : Oper} {t t' : TypeId} {p x : Operand} {g off : Nat} {old : Array Value} {z : Int} (h : o.op = .store t p x) {e : Operand → Value} {w : World} (hp : e p = .pointer (some ⟨g, off, none⟩)) (hx : e x = .int .i64 z)
    (hg : Blk w g t' old) (hi : (P.info? t).map (·.size) = some 1) (ho : off < old.size) :
    (execOp e o).run P w = .ok .skip (w.setCell ⟨g, off, none⟩ (.int .i64 z)) := by
  have hc : w.cell? ⟨g, off, none⟩ = some (old[off]'ho) := by rw [hg.cell off]; simp [ho]
  have hf := hg.frozen off
  cases hq : P.info? t with
  | none => simp [hq] at hi
  | some i =>
    have hs : i.size = 1 := by simpa [hq] using hi
    simp [execOp, h, hp, hx, go_sem, sizeOf, typeInfo, hq, hs, hc, hf]
theorem anyR_set1 {Q : Act → World → Prop} {f n : Nat} {listed : Array Bool} {a : Act} {w : World} (i : Nat) (t t' : TypeId) (p x : Tmp) (g off : Nat) (old new : Array Value) (z : Int) (r1 : Region.ready md ops listed = [i]) (hs : isStore ops[i]? t p x = true) (hn : n = f + 1)
    (hp : a.tmps.getD p undef = .pointer (some ⟨g, off, none⟩)) (hx : a.tmps.getD x undef = .int .i64 z) (hg : Blk w g t' old) (hi : (P.info? t).map (·.size) = some 1) (ho : off < old.size)
    (hnew : old.setIfInBounds off (.int .i64 z) = new) (hE : E i = true → ¬ S g)
    (h : ∀ w', w.grownBy w' (some g) → Blk w' g t' new → anyR P md ops S E Q f (listed.setIfInBounds i true) a w') : anyR P md ops S E Q n listed a w := by
  subst hn
  subst hnew
  refine anyR_one i _ r1 (beq_self_eq_true _) fun w1 h1' => ?_
  unfold isStore at hs
  split at hs
  · rename_i t1 p1 x1 ty pos aft heq
    simp only [Bool.and_eq_true, beq_iff_eq] at hs
    obtain ⟨⟨rfl, rfl⟩, rfl⟩ := hs
    refine opR_of heq rfl ?_
    rw [exec_store_cell (P := P) (o := ⟨none, .store t1 (.tmp p1) (.tmp x1), ty, pos, aft, none⟩) rfl (e := a.eval) (w := w1) hp hx (blk_later hg h1') hi ho]
    refine ⟨fun he => kept_setCell (hE he), ?_⟩
    exact h _ (grown_later h1' (grown_setCell w1 g off _)) ((blk_later hg h1').set_ off _)
  · cases hs
end
end Go.Proofs.Ytiggefmckomilaa
