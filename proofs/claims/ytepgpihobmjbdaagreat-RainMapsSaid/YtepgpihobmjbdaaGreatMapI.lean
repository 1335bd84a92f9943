/-
  A map whose keys are strings, told by a function: what stands at each key, and how many entries there are. Over any program.
  A map whose keys are integers, told by a function: what stands at each key, and how many entries there are. Over any program.
-/
import Derived.Maps.OwnSet
set_option linter.unusedSimpArgs false
set_option linter.unusedVariables false
section
namespace Go.Proofs.YtepgpihobmjbdaaGreat
open Go Go.RowKit Go.WideShapes
open Go.Maps (Keyed IsMap Tidy)
def rawR (v : Value) : Option (DataW Value × List MemPlace) := some (.held v, [])
section
variable {P : Program} {k t e : TypeId} {w : World} {b c : Nat} {f : ByteArray → Option Value}
theorem ownsMap_bound {n : Nat} {D : DataW Value} (h : w.ownsMap P k rawR b n D) : w.ownsMap P k rawR b (Maps.size D) D := by
 obtain ⟨es, clock, hb, F, hs, rfl⟩ := h
 exact ⟨es, clock, hb, F, by simp [Maps.size, length_sorted], rfl⟩
end
end Go.Proofs.YtepgpihobmjbdaaGreat
end
section
namespace Go.Proofs.YtepgpihobmjbdaaGreat
open Go Go.RowKit Go.WideShapes
open Go.Maps (Keyed IsMap Tidy)
def keyI (n : Int) : Lit := .int .i64 n
theorem keyI_inj {s t : Int} (h : keyI s = keyI t) : s = t := (Lit.int.inj h).2
def putI (f : Int → Option Value) (s : Int) (v : Value) : Int → Option Value := fun x => if x = s then some v else f x
def MapI (w : World) (P : Program) (k : TypeId) (b : Nat) (f : Int → Option Value) (c : Nat) : Prop :=
 ∃ D : DataW Value, w.ownsMap P k rawR b c D ∧ Maps.size D = c ∧ ∀ s : Int, Maps.has D (keyI s) = (f s).isSome ∧ ∀ v, f s = some v → ∀ z, D.atKey (keyI s) z = .held v
section
variable {P : Program} {k t e : TypeId} {w : World} {b c : Nat} {f : Int → Option Value}
theorem MapI.lt (h : MapI w P k b f c) : b < w.heap.size := by
 obtain ⟨D, h1, _⟩ := h
 exact h1.lt
theorem MapI.stab {w' : World} (h : MapI w P k b f c) (hk : w'.heap[b]? = w.heap[b]?) : MapI w' P k b f c := by
 obtain ⟨D, ⟨es, clock, hb, r⟩, h2⟩ := h
 exact ⟨D, ⟨es, clock, hk.trans hb, r⟩, h2⟩
theorem MapI_made (w : World) (P : Program) (k : TypeId) : MapI (w.alloc (.map #[] 0)) P k w.heap.size (fun _ => none) 0 :=
 ⟨.map [], World.ownsMap_made w P k rawR, rfl, fun s => ⟨rfl, fun v h => by cases h⟩⟩
theorem MapI.at_none (h : MapI w P k b f c) : ∃ D : DataW Value, w.ownsMap P k rawR b c D ∧ Maps.size D = c ∧ (∀ s : Int, Maps.has D (keyI s) = (f s).isSome) ∧ ∀ (s : Int) (z : DataW Value), D.atKey (keyI s) z = match f s with
  | some v => .held v
  | none => z := by
 obtain ⟨D, h1, h2, h3⟩ := h
 refine ⟨D, h1, h2, fun s => (h3 s).1, fun s z => ?_⟩
 cases hf : f s with
 | some v => exact (h3 s).2 v hf z
 | none =>
  have := (h3 s).1
  rw [hf] at this
  exact Maps.atKey_of_not_has this z
theorem MapI.look (h : MapI w P k b f c) (hk : P.underlying k = some (.int .i64)) (ht : P.underlying t = some (.map k e)) {z : Value} (hz : (zeroValue e).run P w = .ok z w) {s : Int} (hs : (Lit.int .i64 s).wf = true) :
  (Instr.lookup t (.map (some b)) (.int .i64 s) false).run P w = .ok ((f s).getD z) w := by
 obtain ⟨D, h1, h2, h3, h4⟩ := h.at_none
 obtain ⟨v, ps, hr, hv⟩ := h1.lookup (Maps.int_keyed hk) ht hz (zd := .held z) (zp := []) rfl (Maps.keyOf_int_mk hk hs)
 rw [hr]
 have h5 := h4 s (.held z)
 unfold keyI at h5
 rw [h5] at hv
 unfold rawR at hv
 simp only [Option.some.injEq, Prod.mk.injEq] at hv
 congr 1
 cases hf : f s with
 | some u => rw [hf] at hv; exact DataW.held.inj hv.1
 | none => rw [hf] at hv; exact DataW.held.inj hv.1
theorem keyI_isKey (s : Int) : WideAt.IsKeyLit (keyI s) := by unfold keyI; trivial
theorem MapI.store (h : MapI w P k b f c) (hk : P.underlying k = some (.int .i64)) (ht : P.underlying t = some (.map k e)) (hc : c < maxLen) {s : Int} (hs : (Lit.int .i64 s).wf = true) (v : Value) :
  ∃ w', (Instr.mapUpdate t (.map (some b)) (.int .i64 s) v).run P w = .ok () w' ∧ MapI w' P k b (putI f s v) (if (f s).isSome then c else c + 1) ∧ w.mapTurned w' b := by
 obtain ⟨D, h1, h2, h3, h4⟩ := h.at_none
 obtain ⟨w', hr, ho, ht'⟩ := h1.store (Maps.int_keyed hk) ht hc (d := .held v) (ps := []) (Maps.keyOf_int_mk hk hs) rfl
 have hT := h1.tidy (Maps.int_keyed hk)
 have hsz : Maps.size (D.put (keyI s) (.held v)) = if (f s).isSome then c else c + 1 := by
  rw [Maps.size_put hT, h3 s, h2]
 refine ⟨w', hr, ⟨D.put (keyI s) (.held v), ?_, hsz, fun x => ?_⟩, ht'⟩
 · rw [← hsz]; exact ownsMap_bound ho
 ·
  unfold putI
  by_cases hx : x = s
  ·
   subst hx
   rw [if_pos rfl]
   exact ⟨Maps.has_put_same hT.isMap (keyI_isKey x) _, fun u hu z => by rw [Maps.atKey_put_same hT.isMap (keyI_isKey x)]; exact congrArg DataW.held (Option.some.inj hu)⟩
  ·
   have hne : keyI x ≠ keyI s := fun e => hx (keyI_inj e)
   rw [if_neg hx]
   exact ⟨by rw [Maps.has_put_other hne]; exact h3 x, fun u hu z => by rw [Maps.atKey_put_other hne, h4 x, hu]⟩
end
theorem wpList_lookI {P : Program} (w : World) {ops : Array Oper} {rest : List Oper} {o : Oper} {a : Act} {Q : Exit → Act → World → Prop} (hg : o.guard = none) (m x : Operand) (t : TypeId) (hop : o.op = Op.lookup t m x false)
  (k e : TypeId) (hk : P.underlying k = some (.int .i64)) (ht : P.underlying t = some (.map k e)) (z : Value) (hz : (zeroValue e).run P w = .ok z w) (b c : Nat) (f : Int → Option Value) (hm : a.eval m = .map (some b)) (h : MapI w P k b f c) (s : Int) (hx : a.eval x = .int .i64 s) (hs : (Lit.int .i64 s).wf = true) (u : Value) (hu : (f s).getD z = u)
  (hK : wpList P ops Q rest (a.put o.dst u) w) : wpList P ops Q (o :: rest) a w := by
 refine wpList_plain hg fun K' hK' => ?_
 have hrun := h.look hk ht hz hs
 rw [hu] at hrun
 unfold Oper.wp
 simp [execOp, hop, hm, hx, hrun, Result.andThen]
 exact hK' _ _ hK
theorem wpList_storeI {P : Program} (w : World) {ops : Array Oper} {rest : List Oper} {o : Oper} {a : Act} {Q : Exit → Act → World → Prop} (hg : o.guard = none) (m x v : Operand) (t : TypeId) (hop : o.op = Op.mapUpdate t m x v)
  (k e : TypeId) (hk : P.underlying k = some (.int .i64)) (ht : P.underlying t = some (.map k e)) (b c : Nat) (f : Int → Option Value) (hm : a.eval m = .map (some b)) (h : MapI w P k b f c) (hc : c < maxLen) (s : Int) (hx : a.eval x = .int .i64 s) (hs : (Lit.int .i64 s).wf = true) (u : Value) (hv : a.eval v = u)
  (hK : ∀ w2, MapI w2 P k b (putI f s u) (if (f s).isSome then c else c + 1) → w.grownBy w2 (some b) → wpList P ops Q rest (a.put o.dst undef) w2) : wpList P ops Q (o :: rest) a w := by
 refine wpList_plain hg fun K' hK' => ?_
 obtain ⟨w2, hrun, h1, h2⟩ := h.store hk ht hc hs u
 unfold Oper.wp
 simp [execOp, hop, hm, hx, hv, hrun, Result.andThen]
 exact hK' _ _ (hK w2 h1 h2.grown)
end Go.Proofs.YtepgpihobmjbdaaGreat
end
