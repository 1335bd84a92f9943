/-
  Regions that draw their order, in which calls may turn old memory, each its own.
  A book's first entries: plain words.
  What is no book: each call's answer.
-/
import Derived.Test.YtiggefmckomilaaRegH
import Derived.Test.YtiggefmckomilaaRegD
import Derived.Test.YtiggefmckomilaaTracePush
import Derived.WalkMore
set_option linter.unusedSimpArgs false
set_option linter.unusedVariables false
namespace Go.Proofs.Ytiggefmckomilaa
open Go Go.RowKit

section
variable {P : Program} {lops : List Oper} {an : List (List Nat)} {m1 : List Bool} {st : List St} {w0 : World} {a0 : Act} {af : (Nat → Par) → Act} {shape : Nat → Par → Value} {wr : Nat → Nat → Prop} {R : Nat → (Nat → Par) → (Nat → Prop) → World → Prop} {s : St} {o : Oper}
theorem wp_region_W {id : Nat} {Q : Exit → Act → World → Prop} (wr : Nat → Nat → Prop) (an : List (List Nat)) (m1 : List Bool) (st : List St) (shape : Nat → Par → Value) (R : Nat → (Nat → Par) → (Nat → Prop) → World → Prop) (bf : Act → (Nat → Par) → Act)
    (hm : P.follows .mixedOrders = true) (hb : regB .any lops an m1 (List.replicate lops.length false) st = true) (hbf : ∀ x, putH shape x lops st a0 = bf a0 x) (ds : List Tmp) (hds : slotsB m1 (List.replicate lops.length false) lops ds = true)
    (hwl : ∀ i k, wr i k → k < w0.heap.size) (hwr : ∀ i j, i ≠ j → ∀ k, wr i k → ¬ wr j k)
    (hq : ∀ (x : Nat → Par) (D : World → Prop), Good (fun k => k < w0.heap.size ∧ ∀ i, ¬ wr i k) w0 D → wpQuiet P lops.toArray (fun w' => ∃ y : Of D, w' = y.val) (fun a' => a' = af x) (takeOps m1 lops) (bf a0 x))
    (hcall : ∀ d ∈ ds, ∀ (x x' : Nat → Par), (af x).tmps.getD d undef = (af x').tmps.getD d undef)
    (hob : obls P lops an st wr w0 af shape R st) (how : owes R st)
    (hfin : ∀ (x : Nat → Par) (w : World) (F : Nat → Nat → Prop), Kept (fun k => k < w0.heap.size ∧ ∀ i, ¬ wr i k) w0 w → lives st R x F w st → Aparts st F → Q .normal (af x) w) : (Code.region id lops.toArray true).wp P Q a0 w0 := by
  have hS : ∀ k, (k < w0.heap.size ∧ ∀ i, ¬ wr i k) → k < w0.heap.size ∧ ∀ i : Nat, Eb an st wr i k := fun k hk => ⟨hk.1, fun i s _ h => absurd h (hk.2 _)⟩
  exact wp_region_XA (b := af) (af := af) an m1 (List.replicate lops.length false) st shape wr R (fun k => k < w0.heap.size ∧ ∀ i, ¬ wr i k) (fun k => k < w0.heap.size ∧ ∀ i, ¬ wr i k) hm hb (fun k hk => ⟨hk.1, fun i _ => (hS k hk).2 i⟩) (fun k hk => ⟨hk.1, fun i _ => (hS k hk).2 i⟩)
    (fun s _ k h => hwl s.i k h) (fun s _ s' _ hne k h => hwr s.i s'.i hne k h) (fun x D hD => by rw [hbf]; exact hq x D hD) (fun x D hD => by rw [take_none]; exact wpQuiet_nil rfl) hds hcall hob how
    fun x w F hk hl hap => hfin x w F (hk.weak fun k hk' => ⟨hk'.1, fun s _ => hk'.2 s.i⟩) hl hap
theorem obl_turn (ho : lops[s.i]? = some o) (hw : ∀ x, Region.wanted o (yielded lops.toArray (af x).tmps) = true) (g : FuncId) (args : (Nat → Par) → Array Value) (hrun : ∀ (x : Nat → Par) (w : World), (execOp (af x).eval o).run P w = .ok (.enter g (args x)) w)
    (hc : ∀ (x : Nat → Par) (w : World) (F : Nat → Nat → Prop), Kept (fun k => k < w0.heap.size ∧ ∀ j, j ≠ s.i → ¬ wr j k) w0 w → (∀ j ∈ s.need, (∀ k, F j k → k < w.heap.size) ∧ R j x (F j) w) → Calls P g (args x) w fun e w' => ∃ y G, e = .returned (shape s.i y) ∧
      Kept (fun k => k < w.heap.size ∧ ¬ (wr s.i k ∨ tgtF s F k)) w w' ∧ (∀ k, G k → k < w'.heap.size ∧ (w.heap.size ≤ k ∨ wr s.i k ∨ tgtF s F k)) ∧ R s.i (upd x s.i y) G w') : Obl P lops an st wr w0 af shape R s := by
  intro x w F hk hn
  refine ⟨o, ho, hw x, hrun_call (hrun x w) ((hc x w F (hk.weak fun k hk' => ⟨hk'.1, fun s' hs' h => ?_⟩) hn).mono ?_)⟩
  · by_cases e : s'.i = s.i
    · exact .inl e
    · exact absurd h (hk'.2 _ e)
  · rintro e w' ⟨y, G, rfl, h1, h2, h3⟩
    exact ⟨_, rfl, y, G, rfl, h1, h2, h3⟩
end
end Go.Proofs.Ytiggefmckomilaa
namespace Go.Proofs.Ytiggefmckomilaa
open Go Go.RowKit

theorem name_max {s : ByteArray} (h : nameB s = true) : s.size ≤ maxLen := by
  unfold nameB at h
  simp only [Bool.and_eq_true, decide_eq_true_eq] at h
  have := h.1.1.1.2
  unfold maxLen
  omega
theorem radar_name : ∀ {l : List Ent} {n : ByteArray} {d : Int}, GoodB l → driftT l n = some d → nameB n = true
  | [], n, d, _, h => by cases h
  | .define _ :: l, n, d, hg, h => radar_name (l := l) hg.2 h
  | .test _ :: l, n, d, hg, h => radar_name (l := l) hg.2 h
  | .turn _ _ :: l, n, d, hg, h => radar_name (l := l) hg.2 h
  | .radar m e :: l, n, d, hg, h => by
    rw [driftT] at h
    split at h
    · rename_i he
      subst he
      have h0 : radarE l m e = 0 := by have := hg.1; unfold okEnt at this; simpa using this
      unfold radarE at h0
      cases hn : nameB m with
      | true => rfl
      | false =>
        rw [hn] at h0
        split at h0
        · omega
        · simp at h0
    · exact radar_name (l := l) hg.2 h
theorem std_max {l : List Ent} {n : ByteArray} {s : Std} (hg : GoodB l) (h : stdT l n = some s) : n.size ≤ maxLen := by
  obtain ⟨h1, h2, -⟩ := good_std hg h
  rw [← h2]
  exact name_max h1.1
theorem size_of {l : List Ent} {x : Ent} (hg : GoodB l) (h : okEnt l x = true) : sizeOk x := by
  cases x with
  | radar n d => exact name_max (radar_name (l := .radar n d :: l) (n := n) (d := d) ⟨h, hg⟩ (by rw [driftT, if_pos rfl]))
  | define s =>
    have h1 : stdT (.define s :: l) s.name = some s := by rw [stdT, if_pos rfl]
    refine ⟨std_max (l := .define s :: l) ⟨h, hg⟩ h1, ?_⟩
    by_cases hp : s.par = ByteArray.empty
    · rw [hp]; exact Nat.zero_le _
    · obtain ⟨q, hq, -⟩ := par_of (l := .define s :: l) ⟨h, hg⟩ h1 hp
      exact std_max (l := .define s :: l) ⟨h, hg⟩ hq
  | test t =>
    have h0 : testE l t = 0 := by unfold okEnt at h; simpa using h
    unfold testE at h0
    split at h0
    · omega
    · cases hd : driftT l t.radar with
      | none => rw [hd] at h0; simp at h0
      | some d =>
        cases hs : stdT l t.std with
        | none => rw [hd, hs] at h0; simp at h0
        | some s => exact ⟨name_max (radar_name hg hd), std_max hg hs⟩
  | turn n o =>
    have h0 : turnE l n o = 0 := by unfold okEnt at h; simpa using h
    unfold turnE at h0
    split at h0
    · omega
    · cases hs : stdT l n with
      | none => rw [hs] at h0; simp at h0
      | some s => exact std_max hg hs
theorem ent_len : ∀ {w : World} {l : List Ent} {cs : List (List Nat)}, CapsT w l cs → (entRow l cs).length = l.length
  | w, [], cs, h => by cases cs <;> rfl
  | w, e :: l, [], h => h.elim
  | w, e :: l, c :: cs, h => by rw [entRow, List.length_append, ent_len (l := l) h.2]; rfl
theorem ent_at : ∀ {w : World} {l : List Ent} {cs : List (List Nat)}, GoodB l → CapsT w l cs → ∀ k, k < l.length → ∃ x c, (entRow l cs)[k]? = some (entF x c) ∧ capOk w x c ∧ GoodB (l.drop (l.length - k)) ∧ okEnt (l.drop (l.length - k)) x = true ∧ l.drop (l.length - (k + 1)) = x :: l.drop (l.length - k)
  | w, [], cs, hg, h, k, hk => absurd hk (Nat.not_lt_zero _)
  | w, e :: l, [], hg, h, k, hk => h.elim
  | w, e :: l, c :: cs, hg, h, k, hk => by
    have hlen := ent_len (l := l) h.2
    rw [List.length_cons] at hk ⊢
    by_cases he : k = l.length
    · subst he
      refine ⟨e, c, ?_, h.1, ?_⟩
      · rw [entRow, List.getElem?_append_right (by omega), hlen, Nat.sub_self]; rfl
      · rw [show l.length + 1 - l.length = 1 by omega, show l.length + 1 - (l.length + 1) = 0 by omega]
        exact ⟨hg.2, hg.1, rfl⟩
    · obtain ⟨x, c', h1, h2, h3, h4, h5⟩ := ent_at (l := l) hg.2 h.2 k (by omega)
      refine ⟨x, c', ?_, h2, ?_⟩
      · rw [entRow, List.getElem?_append_left (by omega)]; exact h1
      · rw [show l.length + 1 - k = (l.length - k) + 1 by omega, show l.length + 1 - (k + 1) = (l.length - (k + 1)) + 1 by omega, List.drop_succ_cons, List.drop_succ_cons]
        exact ⟨h3, h4, h5⟩
end Go.Proofs.Ytiggefmckomilaa
namespace Go.Proofs.Ytiggefmckomilaa
open Go Go.RowKit

end Go.Proofs.Ytiggefmckomilaa
