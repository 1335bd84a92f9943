/-
  Single steps of a region: an operation that lays one new block, a call.
-/
import Derived.Test.YtiggefmckomilaaRegionApp
namespace Go.Proofs.Ytiggefmckomilaa
open Go Go.RowKit
/-- The world at a call, under a name. -/
theorem at_world {P : Program} {f : FuncId} {args : Array Value} {w : World} {R : Ending → World → Prop} (h : ∀ W, W = w → Calls P f args W R) : Calls P f args w R := h w rfl
theorem code_world {P : Program} {c : Code} {Q : Exit → Act → World → Prop} {a : Act} {w : World} (h : ∀ W, W = w → c.wp P Q a W) : c.wp P Q a w := h w rfl
theorem own_form {w : World} {base : Nat} {e : TypeId} {size n : Nat} {v : Value} {xs : List Value} (h : w.ownsRow base e size v n xs) (hn : 0 < n) : ∃ g cap, v = .slice (some ⟨g, 0, none⟩) n cap := by
  rcases h.2 with ⟨_, h0⟩ | ⟨g, cap, _, hv, _⟩
  · omega
  · exact ⟨g, cap, hv⟩
section
variable {P : Program} {md : Region.Mode} {ops : Array Oper} {S : Nat → Prop} {E : Nat → Bool}

/-- The one operation that can come up lays a new block. -/
theorem anyR_new {Q : Act → World → Prop} {f n : Nat} {listed : Array Bool} {a : Act} {w : World} (i : Nat) (after : Array Bool) (hr : Region.ready md ops listed = [i]) (he : (listed.setIfInBounds i true == after) = true) (hn : n = f + 1)
    {oi : Oper} (h : ops[i]? = some oi) {p : Tmp} (hd : oi.dst = some p) (hw : Region.wanted oi (yielded ops a.tmps) = true) (t : TypeId) (cells : Array Value) (v : Nat → Value)
    (hrun : ∀ w, (execOp a.eval oi).run P w = .ok (.value (v w.heap.size)) (w.alloc (.cells cells t))) (hS : ∀ k, S k → k < w.heap.size)
    (hK : ∀ w1, Later w w1 → anyR P md ops S E Q f after (a.put (some p) (v w1.heap.size)) (w1.alloc (.cells cells t))) : anyR P md ops S E Q n listed a w := by
  subst hn
  refine anyR_one i after hr he fun w1 l1 => ?_
  unfold opR
  simp only [h, hw, if_true, hrun, uponR]
  exact ⟨fun _ => kept_alloc _ (fun k hk => Nat.lt_of_lt_of_le (hS k hk) l1.size), by rw [hd]; exact hK w1 l1⟩

/-- The one operation that can come up is a call that leaves old memory alone. -/
theorem anyR_call {Q : Act → World → Prop} {f n : Nat} {listed : Array Bool} {a : Act} {w : World} (i : Nat) (after : Array Bool) (hr : Region.ready md ops listed = [i]) (he : (listed.setIfInBounds i true == after) = true) (hn : n = f + 1)
    {oi : Oper} (h : ops[i]? = some oi) {p : Tmp} (hd : oi.dst = some p) (hw : Region.wanted oi (yielded ops a.tmps) = true) (g : FuncId) (args : Array Value)
    (hrun : ∀ w, (execOp a.eval oi).run P w = .ok (.enter g args) w) (hS : ∀ k, S k → k < w.heap.size) (R : Value → World → World → Prop)
    (hc : ∀ w1, Later w w1 → Calls P g args w1 fun e w2 => ∃ v, e = .returned v ∧ Below w1.heap.size w1 w2 ∧ R v w1 w2)
    (hK : ∀ v w1 w2, Later w w1 → Later w w2 → R v w1 w2 → anyR P md ops S E Q f after (a.put (some p) v) w2) : anyR P md ops S E Q n listed a w := by
  subst hn
  refine anyR_one i after hr he fun w1 l1 => ?_
  unfold opR
  simp only [h, hw, if_true, hrun, uponR]
  refine (hc w1 l1).mono ?_
  rintro e w2 ⟨v, rfl, hb, hR⟩
  exact ⟨v, rfl, fun _ => Kept.of_later (fun k hk => Nat.lt_of_lt_of_le (hS k hk) l1.size) hb, by rw [hd]; exact hK v w1 w2 l1 (l1.trans hb) hR⟩

/-- More blocks are kept: for what is still to come. -/
theorem anyR_sub {S' : Nat → Prop} {Q : Act → World → Prop} (hs : ∀ k, S k → S' k) : ∀ {f : Nat} {listed : Array Bool} {a : Act} {w : World}, anyR P md ops S' E Q f listed a w → anyR P md ops S E Q f listed a w
  | 0, _, _, _, h => h
  | f + 1, listed, a, w, h => ⟨h.1, fun i hi w1 l1 => by
    have hh := h.2 i hi w1 l1
    have kk : ∀ w', Kept S' w1 w' → Kept S w1 w' := fun w' k => ⟨k.os, k.tape, k.output, k.size, fun b hb => k.block b (hs b hb)⟩
    unfold opR at *
    split
    · rename_i ho; simp only [ho] at hh; exact anyR_sub hs hh
    · rename_i o ho
      simp only [ho] at hh
      split
      · rename_i hw
        simp only [hw, if_true] at hh
        generalize (execOp a.eval o).run P w1 = r at *
        cases r with
        | ok n w' =>
          cases n <;> simp only [uponR] at hh ⊢
          case value u => exact ⟨fun he => kk _ (hh.1 he), anyR_sub hs hh.2⟩
          case skip => exact ⟨fun he => kk _ (hh.1 he), anyR_sub hs hh.2⟩
          case enter f args => exact hh.mono fun e w'' ⟨v, he, hb, hk⟩ => ⟨v, he, fun h1 => kk _ (hb h1), anyR_sub hs hk⟩
        | halt x w' => simp only [uponR] at hh
      · rename_i hw; simp only [hw] at hh; exact anyR_sub hs hh⟩
end
end Go.Proofs.Ytiggefmckomilaa
