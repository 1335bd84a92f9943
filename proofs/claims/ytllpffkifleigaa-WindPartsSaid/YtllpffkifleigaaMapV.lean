/-
  A map whose keys are strings, told by a function: what stands at each key, and how many entries there are. Over any program.
-/
import Derived.Maps.OwnSet
set_option linter.unusedSimpArgs false
set_option linter.unusedVariables false
namespace Go.Proofs.Ytllpffkifleigaa
open Go Go.RowKit Go.WideShapes
open Go.Maps (Keyed IsMap Tidy)

/-- An element of a map, read as it stands. -/
def rawR (v : Value) : Option (DataW Value × List MemPlace) := some (.held v, [])
def keyL (s : ByteArray) : Lit := .string s.data.toList
theorem keyL_inj {s t : ByteArray} (h : keyL s = keyL t) : s = t := by
  unfold keyL at h
  have h1 := Lit.string.inj h
  have h2 : s.data = t.data := Array.ext' h1
  cases s; cases t
  simp only at h2
  rw [h2]
/-- What stands at a key behind a store, behind a delete. -/
def putF (f : ByteArray → Option Value) (s : ByteArray) (v : Value) : ByteArray → Option Value := fun x => if x = s then some v else f x
def delF (f : ByteArray → Option Value) (s : ByteArray) : ByteArray → Option Value := fun x => if x = s then none else f x

/-- Block `b` is a map of `c` entries, in which `f` tells what stands at a key. -/
def MapV (w : World) (P : Program) (k : TypeId) (b : Nat) (f : ByteArray → Option Value) (c : Nat) : Prop :=
  ∃ D : DataW Value, w.ownsMap P k rawR b c D ∧ Maps.size D = c ∧ ∀ s : ByteArray, Maps.has D (keyL s) = (f s).isSome ∧ ∀ v, f s = some v → ∀ z, D.atKey (keyL s) z = .held v

section
variable {P : Program} {k t e : TypeId} {w : World} {b c : Nat} {f : ByteArray → Option Value}

theorem MapV.lt (h : MapV w P k b f c) : b < w.heap.size := by
  obtain ⟨D, h1, _⟩ := h
  exact h1.lt
theorem MapV.stab {w' : World} (h : MapV w P k b f c) (hk : w'.heap[b]? = w.heap[b]?) : MapV w' P k b f c := by
  obtain ⟨D, ⟨es, clock, hb, r⟩, h2⟩ := h
  exact ⟨D, ⟨es, clock, hk.trans hb, r⟩, h2⟩
theorem MapV.congr {f' : ByteArray → Option Value} (h : MapV w P k b f c) (hf : ∀ s, f s = f' s) : MapV w P k b f' c := by
  rw [show f' = f from funext fun s => (hf s).symm]; exact h
theorem MapV_made (w : World) (P : Program) (k : TypeId) : MapV (w.alloc (.map #[] 0)) P k w.heap.size (fun _ => none) 0 :=
  ⟨.map [], World.ownsMap_made w P k rawR, rfl, fun s => ⟨rfl, fun v h => by cases h⟩⟩
theorem MapV.at_none (h : MapV w P k b f c) : ∃ D : DataW Value, w.ownsMap P k rawR b c D ∧ Maps.size D = c ∧ (∀ s : ByteArray, Maps.has D (keyL s) = (f s).isSome) ∧ ∀ (s : ByteArray) (z : DataW Value), D.atKey (keyL s) z = match f s with | some v => .held v | none => z := by
  obtain ⟨D, h1, h2, h3⟩ := h
  refine ⟨D, h1, h2, fun s => (h3 s).1, fun s z => ?_⟩
  cases hf : f s with
  | some v => exact (h3 s).2 v hf z
  | none =>
    have := (h3 s).1
    rw [hf] at this
    exact Maps.atKey_of_not_has this z

/-- 'm[k]'. -/
theorem MapV.look (h : MapV w P k b f c) (hk : P.underlying k = some .string) (ht : P.underlying t = some (.map k e)) {z : Value} (hz : (zeroValue e).run P w = .ok z w) {s : ByteArray} (hs : s.size ≤ maxLen) :
    (Instr.lookup t (.map (some b)) (.string s) false).run P w = .ok ((f s).getD z) w := by
  obtain ⟨D, h1, h2, h3, h4⟩ := h.at_none
  obtain ⟨v, ps, hr, hv⟩ := h1.lookup (Maps.string_keyed hk) ht hz (zd := .held z) (zp := []) rfl (WideMaps.keyOf_string_mk hk hs)
  rw [hr]
  have h5 := h4 s (.held z)
  unfold keyL at h5
  rw [h5] at hv
  unfold rawR at hv
  simp only [Option.some.injEq, Prod.mk.injEq] at hv
  congr 1
  cases hf : f s with
  | some u => rw [hf] at hv; exact DataW.held.inj hv.1
  | none => rw [hf] at hv; exact DataW.held.inj hv.1
/-- 'v, ok := m[k]'. -/
theorem MapV.look_ok (h : MapV w P k b f c) (hk : P.underlying k = some .string) (ht : P.underlying t = some (.map k e)) {z : Value} (hz : (zeroValue e).run P w = .ok z w) {s : ByteArray} (hs : s.size ≤ maxLen) :
    (Instr.lookup t (.map (some b)) (.string s) true).run P w = .ok (.tuple #[(f s).getD z, .bool (f s).isSome]) w := by
  obtain ⟨D, h1, h2, h3, h4⟩ := h.at_none
  obtain ⟨v, ps, hr, hv⟩ := h1.look_ok (Maps.string_keyed hk) ht hz (zd := .held z) (zp := []) rfl (WideMaps.keyOf_string_mk hk hs)
  rw [hr]
  have h5 := h4 s (.held z)
  have h6 := h3 s
  unfold keyL at h5 h6
  rw [h5] at hv
  rw [h6]
  unfold rawR at hv
  simp only [Option.some.injEq, Prod.mk.injEq] at hv
  cases hf : f s with
  | some u => rw [hf] at hv; rw [DataW.held.inj hv.1]; rfl
  | none => rw [hf] at hv; rw [DataW.held.inj hv.1]; rfl
/-- 'len(m)'. -/
theorem MapV.len (h : MapV w P k b f c) (ht : P.underlying t = some (.map k e)) (ty : TypeId) : (Builtin.len_ #[t] ty #[.map (some b)]).run P w = .ok (.int .i64 c) w := by
  obtain ⟨D, h1, h2, _⟩ := h
  rw [h1.len ht ty, h2]
theorem ownsMap_bound {n : Nat} {D : DataW Value} (h : w.ownsMap P k rawR b n D) : w.ownsMap P k rawR b (Maps.size D) D := by
  obtain ⟨es, clock, hb, F, hs, rfl⟩ := h
  exact ⟨es, clock, hb, F, by simp [Maps.size, length_sorted], rfl⟩
theorem keyL_isKey (s : ByteArray) : WideAt.IsKeyLit (keyL s) := by unfold keyL; trivial
/-- 'm[k] = v'. -/
theorem MapV.store (h : MapV w P k b f c) (hk : P.underlying k = some .string) (ht : P.underlying t = some (.map k e)) (hc : c < maxLen) {s : ByteArray} (hs : s.size ≤ maxLen) (v : Value) :
    ∃ w', (Instr.mapUpdate t (.map (some b)) (.string s) v).run P w = .ok () w' ∧ MapV w' P k b (putF f s v) (if (f s).isSome then c else c + 1) ∧ w.mapTurned w' b := by
  obtain ⟨D, h1, h2, h3, h4⟩ := h.at_none
  obtain ⟨w', hr, ho, ht'⟩ := h1.store (Maps.string_keyed hk) ht hc (d := .held v) (ps := []) (WideMaps.keyOf_string_mk hk hs) rfl
  have hT := h1.tidy (Maps.string_keyed hk)
  have hsz : Maps.size (D.put (keyL s) (.held v)) = if (f s).isSome then c else c + 1 := by
    rw [Maps.size_put hT, h3 s, h2]
  refine ⟨w', hr, ⟨D.put (keyL s) (.held v), ?_, hsz, fun x => ?_⟩, ht'⟩
  · rw [← hsz]; exact ownsMap_bound ho
  · unfold putF
    by_cases hx : x = s
    · subst hx
      rw [if_pos rfl]
      exact ⟨Maps.has_put_same hT.isMap (keyL_isKey x) _, fun u hu z => by rw [Maps.atKey_put_same hT.isMap (keyL_isKey x)]; exact congrArg DataW.held (Option.some.inj hu)⟩
    · have hne : keyL x ≠ keyL s := fun e => hx (keyL_inj e)
      rw [if_neg hx]
      exact ⟨by rw [Maps.has_put_other hne]; exact h3 x, fun u hu z => by rw [Maps.atKey_put_other hne, h4 x, hu]⟩
/-- 'delete(m, k)'. -/
theorem MapV.drop (h : MapV w P k b f c) (hk : P.underlying k = some .string) (ht : P.underlying t = some (.map k e)) {s : ByteArray} (hs : s.size ≤ maxLen) (ty : TypeId) :
    ∃ w', (Builtin.delete_ #[t, k] ty #[.map (some b), .string s]).run P w = .ok (.tuple #[]) w' ∧ MapV w' P k b (delF f s) (if (f s).isSome then c - 1 else c) ∧ w.mapTurned w' b := by
  obtain ⟨D, h1, h2, h3, h4⟩ := h.at_none
  obtain ⟨w', hr, ho, ht'⟩ := h1.drop (Maps.string_keyed hk) ht (WideMaps.keyOf_string_mk hk hs) ty
  have hT := h1.tidy (Maps.string_keyed hk)
  have hsz : Maps.size (D.del (keyL s)) = if (f s).isSome then c - 1 else c := by
    have := Maps.size_del (k := keyL s) hT
    rw [h3 s, h2] at this
    cases hf : (f s).isSome <;> rw [hf] at this <;> simp at this ⊢ <;> omega
  refine ⟨w', hr, ⟨D.del (keyL s), ?_, hsz, fun x => ?_⟩, ht'⟩
  · rw [← hsz]; exact ownsMap_bound ho
  · unfold delF
    by_cases hx : x = s
    · subst hx
      rw [if_pos rfl]
      exact ⟨Maps.has_del_same, fun u hu => by cases hu⟩
    · have hne : keyL x ≠ keyL s := fun e => hx (keyL_inj e)
      rw [if_neg hx]
      exact ⟨by rw [Maps.has_del_other hne]; exact h3 x, fun u hu z => by rw [Maps.atKey_del_other hne, h4 x, hu]⟩
end
end Go.Proofs.Ytllpffkifleigaa
