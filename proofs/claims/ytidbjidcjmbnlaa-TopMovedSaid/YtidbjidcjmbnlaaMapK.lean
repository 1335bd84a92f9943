/-
  A map whose keys are of any kind that can be compared, told by a function: what stands at each key, and how many entries there are. Over any program.
-/
import Derived.Test.YtidbjidcjmbnlaaMapV
import Derived.DeepKeys4
set_option linter.unusedSimpArgs false
set_option linter.unusedVariables false
set_option linter.unusedSectionVars false
namespace Go.Proofs.Ytidbjidcjmbnlaa
open Go Go.RowKit Go.WideShapes
open Go.Maps (Keyed IsMap Tidy)

/-- Keys as values, and as the model tells them; of those that are meant. -/
structure KeyF (P : Program) (k : TypeId) {κ : Type} (key : κ → Value) (lit : κ → Lit) (ok : κ → Prop) : Prop where
  law : Keyed P k
  of : ∀ s, ok s → keyOf P k (key s) = some (lit s)
  inj : ∀ s t, ok s → ok t → lit s = lit t → s = t
section
variable {κ : Type} [DecidableEq κ] {key : κ → Value} {lit : κ → Lit} {ok : κ → Prop}
/-- What stands at a key behind a store. -/
def putK (f : κ → Option Value) (s : κ) (v : Value) : κ → Option Value := fun x => if x = s then some v else f x
/-- Block `b` is a map of `c` entries, in which `f` tells what stands at a key. -/
def MapK (w : World) (P : Program) (k : TypeId) (lit : κ → Lit) (ok : κ → Prop) (b : Nat) (f : κ → Option Value) (c : Nat) : Prop :=
  ∃ D : DataW Value, w.ownsMap P k rawR b c D ∧ Maps.size D = c ∧ ∀ s, ok s → Maps.has D (lit s) = (f s).isSome ∧ ∀ v, f s = some v → ∀ z, D.atKey (lit s) z = .held v
variable {P : Program} {k t e : TypeId} {w : World} {b c : Nat} {f : κ → Option Value}
theorem MapK.lt (h : MapK w P k lit ok b f c) : b < w.heap.size := by
  obtain ⟨D, h1, _⟩ := h
  exact h1.lt
theorem MapK.stab {w' : World} (h : MapK w P k lit ok b f c) (hk : w'.heap[b]? = w.heap[b]?) : MapK w' P k lit ok b f c := by
  obtain ⟨D, ⟨es, clock, hb, r⟩, h2⟩ := h
  exact ⟨D, ⟨es, clock, hk.trans hb, r⟩, h2⟩
theorem MapK_made (w : World) (P : Program) (k : TypeId) : MapK (w.alloc (.map #[] 0)) P k lit ok w.heap.size (fun _ => none) 0 :=
  ⟨.map [], World.ownsMap_made w P k rawR, rfl, fun s _ => ⟨rfl, fun v h => by cases h⟩⟩
theorem MapK.at_none (h : MapK w P k lit ok b f c) : ∃ D : DataW Value, w.ownsMap P k rawR b c D ∧ Maps.size D = c ∧ (∀ s, ok s → Maps.has D (lit s) = (f s).isSome) ∧ ∀ s, ok s → ∀ (z : DataW Value), D.atKey (lit s) z = match f s with
    | some v => .held v
    | none => z := by
  obtain ⟨D, h1, h2, h3⟩ := h
  refine ⟨D, h1, h2, fun s hs => (h3 s hs).1, fun s hs z => ?_⟩
  cases hf : f s with
  | some v => exact (h3 s hs).2 v hf z
  | none =>
    have := (h3 s hs).1
    rw [hf] at this
    exact Maps.atKey_of_not_has this z
/-- 'm[k]'. -/
theorem MapK.look (h : MapK w P k lit ok b f c) (K : KeyF P k key lit ok) (ht : P.underlying t = some (.map k e)) {z : Value} (hz : (zeroValue e).run P w = .ok z w) {s : κ} (hs : ok s) :
    (Instr.lookup t (.map (some b)) (key s) false).run P w = .ok ((f s).getD z) w := by
  obtain ⟨D, h1, h2, h3, h4⟩ := h.at_none
  obtain ⟨v, ps, hr, hv⟩ := h1.lookup K.law ht hz (zd := .held z) (zp := []) rfl (K.of s hs)
  rw [hr]
  rw [h4 s hs] at hv
  unfold rawR at hv
  simp only [Option.some.injEq, Prod.mk.injEq] at hv
  congr 1
  cases hf : f s with
  | some u => rw [hf] at hv; exact DataW.held.inj hv.1
  | none => rw [hf] at hv; exact DataW.held.inj hv.1
/-- 'v, ok := m[k]'. -/
theorem MapK.look_ok (h : MapK w P k lit ok b f c) (K : KeyF P k key lit ok) (ht : P.underlying t = some (.map k e)) {z : Value} (hz : (zeroValue e).run P w = .ok z w) {s : κ} (hs : ok s) :
    (Instr.lookup t (.map (some b)) (key s) true).run P w = .ok (.tuple #[(f s).getD z, .bool (f s).isSome]) w := by
  obtain ⟨D, h1, h2, h3, h4⟩ := h.at_none
  obtain ⟨v, ps, hr, hv⟩ := h1.look_ok K.law ht hz (zd := .held z) (zp := []) rfl (K.of s hs)
  rw [hr, h3 s hs]
  rw [h4 s hs] at hv
  unfold rawR at hv
  simp only [Option.some.injEq, Prod.mk.injEq] at hv
  cases hf : f s with
  | some u => rw [hf] at hv; rw [DataW.held.inj hv.1]; rfl
  | none => rw [hf] at hv; rw [DataW.held.inj hv.1]; rfl
/-- 'm[k] = v'. -/
theorem MapK.store (h : MapK w P k lit ok b f c) (K : KeyF P k key lit ok) (ht : P.underlying t = some (.map k e)) (hc : c < maxLen) {s : κ} (hs : ok s) (v : Value) :
    ∃ w', (Instr.mapUpdate t (.map (some b)) (key s) v).run P w = .ok () w' ∧ MapK w' P k lit ok b (putK f s v) (if (f s).isSome then c else c + 1) ∧ w.mapTurned w' b := by
  obtain ⟨D, h1, h2, h3, h4⟩ := h.at_none
  obtain ⟨w', hr, ho, ht'⟩ := h1.store K.law ht hc (d := .held v) (ps := []) (K.of s hs) rfl
  have hT := h1.tidy K.law
  have hsz : Maps.size (D.put (lit s) (.held v)) = if (f s).isSome then c else c + 1 := by
    rw [Maps.size_put hT, h3 s hs, h2]
  refine ⟨w', hr, ⟨D.put (lit s) (.held v), ?_, hsz, fun x hx0 => ?_⟩, ht'⟩
  · rw [← hsz]; exact ownsMap_bound ho
  · unfold putK
    by_cases hx : x = s
    · subst hx
      rw [if_pos rfl]
      exact ⟨Maps.has_put_same hT.isMap (K.law.key (K.of x hs)) _, fun u hu z => by rw [Maps.atKey_put_same hT.isMap (K.law.key (K.of x hs))]; exact congrArg DataW.held (Option.some.inj hu)⟩
    · have hne : lit x ≠ lit s := fun e => hx (K.inj x s hx0 hs e)
      rw [if_neg hx]
      exact ⟨by rw [Maps.has_put_other hne]; exact h3 x hx0, fun u hu z => by rw [Maps.atKey_put_other hne, h4 x hx0, hu]⟩
end
section
variable {κ : Type} [DecidableEq κ] {key : κ → Value} {lit : κ → Lit} {ok : κ → Prop}
theorem wpList_lookK {P : Program} (w : World) {ops : Array Oper} {rest : List Oper} {o : Oper} {a : Act} {Q : Exit → Act → World → Prop} (hg : o.guard = none) (m x : Operand) (t : TypeId) (hop : o.op = Op.lookup t m x false)
    (k e : TypeId) (K : KeyF P k key lit ok) (ht : P.underlying t = some (.map k e)) (z : Value) (hz : (zeroValue e).run P w = .ok z w) (b c : Nat) (f : κ → Option Value) (hm : a.eval m = .map (some b)) (h : MapK w P k lit ok b f c) (s : κ) (hx : a.eval x = key s) (hs : ok s) (u : Value) (hu : (f s).getD z = u)
    (hK : wpList P ops Q rest (a.put o.dst u) w) : wpList P ops Q (o :: rest) a w := by
  refine wpList_plain hg fun K' hK' => ?_
  have hrun := h.look K ht hz hs
  rw [hu] at hrun
  unfold Oper.wp
  simp [execOp, hop, hm, hx, hrun, Result.andThen]
  exact hK' _ _ hK
theorem wpList_lookK2 {P : Program} (w : World) {ops : Array Oper} {rest : List Oper} {o : Oper} {a : Act} {Q : Exit → Act → World → Prop} (hg : o.guard = none) (m x : Operand) (t : TypeId) (hop : o.op = Op.lookup t m x true)
    (k e : TypeId) (K : KeyF P k key lit ok) (ht : P.underlying t = some (.map k e)) (z : Value) (hz : (zeroValue e).run P w = .ok z w) (b c : Nat) (f : κ → Option Value) (hm : a.eval m = .map (some b)) (h : MapK w P k lit ok b f c) (s : κ) (hx : a.eval x = key s) (hs : ok s) (u : Value) (hu : (f s).getD z = u) (is : Bool) (hi : (f s).isSome = is)
    (hK : wpList P ops Q rest (a.put o.dst (.tuple #[u, .bool is])) w) : wpList P ops Q (o :: rest) a w := by
  refine wpList_plain hg fun K' hK' => ?_
  have hrun := h.look_ok K ht hz hs
  rw [hu, hi] at hrun
  unfold Oper.wp
  simp [execOp, hop, hm, hx, hrun, Result.andThen]
  exact hK' _ _ hK
theorem wpList_storeK {P : Program} (w : World) {ops : Array Oper} {rest : List Oper} {o : Oper} {a : Act} {Q : Exit → Act → World → Prop} (hg : o.guard = none) (m x v : Operand) (t : TypeId) (hop : o.op = Op.mapUpdate t m x v)
    (k e : TypeId) (K : KeyF P k key lit ok) (ht : P.underlying t = some (.map k e)) (b c : Nat) (f : κ → Option Value) (hm : a.eval m = .map (some b)) (h : MapK w P k lit ok b f c) (hc : c < maxLen) (s : κ) (hx : a.eval x = key s) (hs : ok s) (u : Value) (hv : a.eval v = u)
    (hK : ∀ w2, MapK w2 P k lit ok b (putK f s u) (if (f s).isSome then c else c + 1) → w.grownBy w2 (some b) → wpList P ops Q rest (a.put o.dst undef) w2) : wpList P ops Q (o :: rest) a w := by
  refine wpList_plain hg fun K' hK' => ?_
  obtain ⟨w2, hrun, h1, h2⟩ := h.store K ht hc hs u
  unfold Oper.wp
  simp [execOp, hop, hm, hx, hv, hrun, Result.andThen]
  exact hK' _ _ (hK w2 h1 h2.grown)
end
end Go.Proofs.Ytidbjidcjmbnlaa
